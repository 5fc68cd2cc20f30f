/- Own texts, merged by a program: the engine that walks the code, and what the functions that the law reaches compute. -/
import Derived.Test.YtnooagipikedeaaQc4
import Derived.Test.YtnooagipikedeaaShelfG
import Derived.Maps.Range
import Derived.Lib.SlKeysI
import Derived.SizedLaws
section
set_option maxRecDepth 100000
set_option linter.unusedSimpArgs false
set_option linter.unusedVariables false
namespace Go.Proofs.Ytnooagipikedeaa
open Go GoV Go.RowKit
theorem X_get {s : List X} {i : Nat} (h : i < s.length) : (s.map X.d).getD i .undef = .agg (s[i]).cells := by simp [List.getD, h, X.d_eq]
theorem R_get {s : List Rl} {i : Nat} (h : i < s.length) : (s.map rlD).getD i .undef = .agg (s[i]).cells := by simp [List.getD, h, rlD]
theorem sameXL_len {A B : List X} (h : A.length ≠ B.length) : sameXL A B = false := by
  cases e : sameXL A B with
  | false => rfl
  | true => rw [(sameXL_iff A B).1 e] at h; exact absurd rfl h
theorem sameXL_bad {A B : List X} {j : Nat} (h1 : j < A.length) (h2 : j < B.length) (h : sameX A[j] B[j] = false) : sameXL A B = false := by
  cases e : sameXL A B with
  | false => rfl
  | true =>
    have := (sameXL_iff A B).1 e
    subst this
    rw [(sameX_iff _ _).2 rfl] at h; cases h
theorem sameXL_all {A B : List X} (hl : A.length = B.length) (h : ∀ j (h1 : j < A.length) (h2 : j < B.length), sameX A[j] B[j] = true) : sameXL A B = true :=
  (sameXL_iff A B).2 (List.ext_getElem hl fun j h1 h2 => (sameX_iff _ _).1 (h j h1 h2))
theorem allR_len {A B : List Rl} (h : A.length ≠ B.length) : allR A B = false := by
  cases e : allR A B with
  | false => rfl
  | true => rw [(allR_iff A B).1 e] at h; exact absurd rfl h
theorem allR_bad {A B : List Rl} {j : Nat} (h1 : j < A.length) (h2 : j < B.length) (h : sameR A[j] B[j] = false) : allR A B = false := by
  cases e : allR A B with
  | false => rfl
  | true =>
    have := (allR_iff A B).1 e
    subst this
    rw [(sameR_iff _ _).2 rfl] at h; cases h
theorem allR_all {A B : List Rl} (hl : A.length = B.length) (h : ∀ j (h1 : j < A.length) (h2 : j < B.length), sameR A[j] B[j] = true) : allR A B = true :=
  (allR_iff A B).2 (List.ext_getElem hl fun j h1 h2 => (sameR_iff _ _).1 (h j h1 h2))
theorem eqf46 (A B : List X) (hA : A.length < 1000000) (ih : ∀ j (h1 : j < A.length) (h2 : j < B.length), Pur M 36 [(A[j]).d, (B[j]).d] (.bool (sameX A[j] B[j]))) :
    Pur M 46 [.slice (A.map X.d) .no, .slice (B.map X.d) .no, .fn (.func 36) [] []] (.bool (sameXL A B)) := by
  refine ok46 rfl ?_
  rw [i46]
  unfold c46
  have hla : (A.map X.d).length = A.length := by simp
  have hlb : (B.map X.d).length = B.length := by simp
  by_cases hl : A.length = B.length
  · have hn : (((A.length : Nat) : Int) != B.length) = false := by simp [hl]
    repeat' (first
    | with_reducible first | apply swp_seq | apply swp_reg | apply swp_regD | apply swp_block | apply swp_exit | apply swp_ret | apply swp_skip | apply swp_cd
    | simp only [go_sem, seval, P46, q46, hla, hlb, hn]
    | with_reducible first | apply cd_dec | apply cd_eq | apply cd_ne | apply cd_split
    | ((with_reducible refine And.intro ?hw ?_); (case hw => first | omega | rfl | exact ⟨_, _, rfl⟩ | assumption | (simp only [lN] <;> omega)))
    | with_reducible intro _)
    refine swp_famG [0, 1, 2, 8, 9, 10] 0 0 (Nat.le_refl 0) (Nat.le_refl 0) (fun i : Nat => ⟨[.slice (A.map X.d) .no, .slice (B.map X.d) .no, .fn (.func 36) [] [], .undef, .undef, .undef, .undef, .undef, .slice (A.map X.d) .no, .int .i64 A.length, .int .i64 i, .undef, .undef], [], ⟨[], []⟩⟩)
      (fun i => i ≤ A.length ∧ ∀ j (h : j < i) (h1 : j < A.length) (h2 : j < B.length), sameX A[j] B[j] = true) (fun i => A.length + 1 - i) 0 ⟨by omega, fun j h => by omega⟩ ?_ ?_
    · simp [keepE, St.keepG, St.keep, St.gc, Hp.cut, D.rnL, D.rn, cutF, Blk.rn, Blk.rnL, Tv.rnL, Own.rn]
    · rintro i ⟨hi, hb⟩
      by_cases hil : i < A.length
      · have hil2 : i < B.length := by omega
        have c1 := ih i hil hil2
        have g1 := X_get hil
        have g2 := X_get hil2
        have a1 := closedL_X (A[i]).kids
        have a2 := erL_X (A[i]).kids
        have b1 := closedL_X (B[i]).kids
        have b2 := erL_X (B[i]).kids
        rw [X.d_eq, X.d_eq] at c1
        cases hx : sameX A[i] B[i]
        · rw [hx] at c1
          rw [sameXL_bad hil hil2 hx]
          repeat' (first
    | with_reducible first | apply swp_seq | apply swp_reg | apply swp_regD | apply swp_block | apply swp_exit | apply swp_ret | apply swp_skip | apply swp_cd
    | simp only [go_sem, seval, P46, q46, hla, hlb, g1, g2]
    | simp (disch := omega) only [w64, w32, wu8, wu16, wu32, wu64]
    | ((with_reducible refine o_call (c1) ?he ?hc ?_); (case he | hc => first | rfl | (simp [D.erL, D.er, D.closedL, D.closed, hla, hlb, g1, g2, a1, a2, b1, b2]; done)))
    | with_reducible first | apply cd_dec | apply cd_eq | apply cd_ne | apply cd_split
    | ((with_reducible refine And.intro ?hw ?_); (case hw => first | omega | rfl | exact ⟨_, _, rfl⟩ | assumption | (simp only [lN, hla, hlb, g1, g2, a1, a2, b1, b2] <;> omega)))
    | with_reducible intro _)
          all_goals try omega
          all_goals simp [D.closed, D.er]
        · rw [hx] at c1
          repeat' (first
    | with_reducible first | apply swp_seq | apply swp_reg | apply swp_regD | apply swp_block | apply swp_exit | apply swp_ret | apply swp_skip | apply swp_cd
    | simp only [go_sem, seval, P46, q46, hla, hlb, g1, g2]
    | simp (disch := omega) only [w64, w32, wu8, wu16, wu32, wu64]
    | ((with_reducible refine o_call (c1) ?he ?hc ?_); (case he | hc => first | rfl | (simp [D.erL, D.er, D.closedL, D.closed, hla, hlb, g1, g2, a1, a2, b1, b2]; done)))
    | with_reducible first | apply cd_dec | apply cd_eq | apply cd_ne | apply cd_split
    | ((with_reducible refine And.intro ?hw ?_); (case hw => first | omega | rfl | exact ⟨_, _, rfl⟩ | assumption | (simp only [lN, hla, hlb, g1, g2, a1, a2, b1, b2] <;> omega)))
    | with_reducible intro _)
          all_goals try omega
          refine ⟨i + 1, ⟨by omega, fun j h h1 h2 => ?_⟩, by omega, ?_⟩
          · by_cases e : j = i
            · subst e; exact hx
            · exact hb j (by omega) h1 h2
          · simp [keepE, St.keepG, St.keep, St.gc, Hp.cut, D.rnL, D.rn, cutF, Blk.rn, Blk.rnL, Tv.rnL, Own.rn]
      · rw [sameXL_all hl fun j h1 h2 => hb j (by omega) h1 h2]
        repeat' (first
    | with_reducible first | apply swp_seq | apply swp_reg | apply swp_regD | apply swp_block | apply swp_exit | apply swp_ret | apply swp_skip | apply swp_cd
    | simp only [go_sem, seval, P46, q46, hla, hlb]
    | simp (disch := omega) only [w64, w32, wu8, wu16, wu32, wu64]
    | with_reducible first | apply cd_dec | apply cd_eq | apply cd_ne | apply cd_split
    | ((with_reducible refine And.intro ?hw ?_); (case hw => first | omega | rfl | exact ⟨_, _, rfl⟩ | assumption | (simp only [lN] <;> omega)))
    | with_reducible intro _)
        all_goals try omega
        all_goals simp [D.closed, D.er]
  · have hn : (((A.length : Nat) : Int) != B.length) = true := by simp; omega
    rw [sameXL_len hl]
    repeat' (first
    | with_reducible first | apply swp_seq | apply swp_reg | apply swp_regD | apply swp_block | apply swp_exit | apply swp_ret | apply swp_skip | apply swp_cd
    | simp only [go_sem, seval, P46, q46, hla, hlb, hn]
    | with_reducible first | apply cd_dec | apply cd_eq | apply cd_ne | apply cd_split
    | ((with_reducible refine And.intro ?hw ?_); (case hw => first | omega | rfl | exact ⟨_, _, rfl⟩ | assumption | (simp only [lN] <;> omega)))
    | with_reducible intro _)
    all_goals simp [D.closed, D.er]
theorem sameX_eq (x y : X) : sameX x y = (x.op == y.op && x.nam == y.nam && x.val == y.val && x.num == y.num && x.ext == y.ext && sameXL x.kids y.kids) := by
  cases x; cases y; rfl
set_option maxHeartbeats 1000000 in
theorem sameCond_p : ∀ (k : Nat) (x y : X), x.nodes ≤ k → k < 1000000 → Pur M 36 [x.d, y.d] (.bool (sameX x y))
  | 0, x, y, hk, _ => by have := nodes_pos x; omega
  | k + 1, x, y, hk, hk2 => by
    have ih : ∀ j (h1 : j < x.kids.length) (h2 : j < y.kids.length), Pur M 36 [(x.kids[j]).d, (y.kids[j]).d] (.bool (sameX x.kids[j] y.kids[j])) := fun j h1 h2 => sameCond_p k _ _ (by have := kid_nodes (List.getElem_mem h1); omega) (by omega)
    have hkl := kids_len x
    have c1 := eqf46 x.kids y.kids (by omega) ih
    refine ok36 rfl ?_
    rw [i36]
    unfold c36
    have a1 := closedL_X x.kids
    have a2 := erL_X x.kids
    have b1 := closedL_X y.kids
    have b2 := erL_X y.kids
    rw [sameX_eq, X.d_eq, X.d_eq]
    generalize sameXL x.kids y.kids = b at *
    generalize hb1 : (x.op == y.op) = b1' at *
    generalize hb2 : (x.nam == y.nam) = b2' at *
    generalize hb3 : (x.val == y.val) = b3' at *
    generalize hb4 : (x.num == y.num) = b4' at *
    generalize hb5 : (x.ext == y.ext) = b5' at *
    cases b1'
    · repeat' (first
    | with_reducible first | apply swp_seq | apply swp_reg | apply swp_regD | apply swp_block | apply swp_exit | apply swp_ret | apply swp_skip | apply swp_cd
    | simp only [go_sem, seval, P36, q36, hb1]
    | ((with_reducible refine o_call (c1) ?he ?hc ?_); (case he | hc => first | rfl | (simp [D.erL, D.er, D.closedL, D.closed, a1, a2, b1, b2]; done)))
    | with_reducible first | apply cd_dec | apply cd_eq | apply cd_ne | apply cd_split | apply gd_dec | apply gd_eq | apply gd_ne | apply gd_split
    | ((with_reducible refine And.intro ?hw ?_); (case hw => first | omega | rfl | exact ⟨_, _, rfl⟩ | assumption | (simp only [lN, a1, a2, b1, b2] <;> omega)))
    | with_reducible intro _)
      all_goals first | done | simp [D.closed, D.er]
    cases b2'
    · repeat' (first
    | with_reducible first | apply swp_seq | apply swp_reg | apply swp_regD | apply swp_block | apply swp_exit | apply swp_ret | apply swp_skip | apply swp_cd
    | simp only [go_sem, seval, P36, q36, hb1, hb2]
    | ((with_reducible refine o_call (c1) ?he ?hc ?_); (case he | hc => first | rfl | (simp [D.erL, D.er, D.closedL, D.closed, a1, a2, b1, b2]; done)))
    | with_reducible first | apply cd_dec | apply cd_eq | apply cd_ne | apply cd_split | apply gd_dec | apply gd_eq | apply gd_ne | apply gd_split
    | ((with_reducible refine And.intro ?hw ?_); (case hw => first | omega | rfl | exact ⟨_, _, rfl⟩ | assumption | (simp only [lN, a1, a2, b1, b2] <;> omega)))
    | with_reducible intro _)
      all_goals first | done | simp [D.closed, D.er]
    cases b3'
    · repeat' (first
    | with_reducible first | apply swp_seq | apply swp_reg | apply swp_regD | apply swp_block | apply swp_exit | apply swp_ret | apply swp_skip | apply swp_cd
    | simp only [go_sem, seval, P36, q36, hb1, hb2, hb3]
    | ((with_reducible refine o_call (c1) ?he ?hc ?_); (case he | hc => first | rfl | (simp [D.erL, D.er, D.closedL, D.closed, a1, a2, b1, b2]; done)))
    | with_reducible first | apply cd_dec | apply cd_eq | apply cd_ne | apply cd_split | apply gd_dec | apply gd_eq | apply gd_ne | apply gd_split
    | ((with_reducible refine And.intro ?hw ?_); (case hw => first | omega | rfl | exact ⟨_, _, rfl⟩ | assumption | (simp only [lN, a1, a2, b1, b2] <;> omega)))
    | with_reducible intro _)
      all_goals first | done | simp [D.closed, D.er]
    cases b4'
    · repeat' (first
    | with_reducible first | apply swp_seq | apply swp_reg | apply swp_regD | apply swp_block | apply swp_exit | apply swp_ret | apply swp_skip | apply swp_cd
    | simp only [go_sem, seval, P36, q36, hb1, hb2, hb3, hb4]
    | ((with_reducible refine o_call (c1) ?he ?hc ?_); (case he | hc => first | rfl | (simp [D.erL, D.er, D.closedL, D.closed, a1, a2, b1, b2]; done)))
    | with_reducible first | apply cd_dec | apply cd_eq | apply cd_ne | apply cd_split | apply gd_dec | apply gd_eq | apply gd_ne | apply gd_split
    | ((with_reducible refine And.intro ?hw ?_); (case hw => first | omega | rfl | exact ⟨_, _, rfl⟩ | assumption | (simp only [lN, a1, a2, b1, b2] <;> omega)))
    | with_reducible intro _)
      all_goals first | done | simp [D.closed, D.er]
    cases b5'
    · repeat' (first
    | with_reducible first | apply swp_seq | apply swp_reg | apply swp_regD | apply swp_block | apply swp_exit | apply swp_ret | apply swp_skip | apply swp_cd
    | simp only [go_sem, seval, P36, q36, hb1, hb2, hb3, hb4, hb5]
    | ((with_reducible refine o_call (c1) ?he ?hc ?_); (case he | hc => first | rfl | (simp [D.erL, D.er, D.closedL, D.closed, a1, a2, b1, b2]; done)))
    | with_reducible first | apply cd_dec | apply cd_eq | apply cd_ne | apply cd_split | apply gd_dec | apply gd_eq | apply gd_ne | apply gd_split
    | ((with_reducible refine And.intro ?hw ?_); (case hw => first | omega | rfl | exact ⟨_, _, rfl⟩ | assumption | (simp only [lN, a1, a2, b1, b2] <;> omega)))
    | with_reducible intro _)
      all_goals first | done | simp [D.closed, D.er]
    · repeat' (first
    | with_reducible first | apply swp_seq | apply swp_reg | apply swp_regD | apply swp_block | apply swp_exit | apply swp_ret | apply swp_skip | apply swp_cd
    | simp only [go_sem, seval, P36, q36, hb1, hb2, hb3, hb4, hb5]
    | ((with_reducible refine o_call (c1) ?he ?hc ?_); (case he | hc => first | rfl | (simp [D.erL, D.er, D.closedL, D.closed, a1, a2, b1, b2]; done)))
    | with_reducible first | apply cd_dec | apply cd_eq | apply cd_ne | apply cd_split | apply gd_dec | apply gd_eq | apply gd_ne | apply gd_split
    | ((with_reducible refine And.intro ?hw ?_); (case hw => first | omega | rfl | exact ⟨_, _, rfl⟩ | assumption | (simp only [lN, a1, a2, b1, b2] <;> omega)))
    | with_reducible intro _)
      all_goals first | done | simp [D.closed, D.er]
theorem same_p (a b : Rl) (ha : a.sm) : Pur M 27 [rlD a, rlD b] (.bool (sameR a b)) := by
  refine ok27 rfl ?_
  rw [i27]
  unfold c27
  have c1 := sameCond_p a.cond.nodes a.cond b.cond (Nat.le_refl _) (by have := ha.2.2.2; omega)
  have a1 := closedL_X a.cond.kids
  have a2 := erL_X a.cond.kids
  have b1 := closedL_X b.cond.kids
  have b2 := erL_X b.cond.kids
  unfold sameR rlD Rl.cells
  rw [X.d_eq, X.d_eq] at c1
  generalize sameX a.cond b.cond = x at *
  generalize hb1 : (a.name == b.name) = b1' at *
  generalize hb2 : (a.kind == b.kind) = b2' at *
  cases b1' <;> cases b2' <;> skip
  all_goals (repeat' (first
    | with_reducible first | apply swp_seq | apply swp_reg | apply swp_regD | apply swp_block | apply swp_exit | apply swp_ret | apply swp_skip | apply swp_cd
    | simp only [go_sem, seval, P27, q27, hb1, hb2]
    | ((with_reducible refine o_call (c1) ?he ?hc ?_); (case he | hc => first | rfl | (simp [D.erL, D.er, D.closedL, D.closed, a1, a2, b1, b2]; done)))
    | with_reducible first | apply cd_dec | apply cd_eq | apply cd_ne | apply cd_split | apply gd_dec | apply gd_eq | apply gd_ne | apply gd_split
    | ((with_reducible refine And.intro ?hw ?_); (case hw => first | omega | rfl | exact ⟨_, _, rfl⟩ | assumption | (simp only [lN, a1, a2, b1, b2] <;> omega)))
    | with_reducible intro _))
  all_goals first | done | simp [D.closed, D.er]
theorem eqf26 (A B : List Rl) (hA : A.length < 1000000) (hs : ∀ a ∈ A, a.sm) :
    Pur M 26 [rulesD A, rulesD B, .fn (.func 27) [] []] (.bool (allR A B)) := by
  refine ok26 rfl ?_
  rw [i26]
  unfold c26
  have hla : (A.map rlD).length = A.length := by simp
  have hlb : (B.map rlD).length = B.length := by simp
  by_cases hl : A.length = B.length
  · have hn : (((A.length : Nat) : Int) != B.length) = false := by simp [hl]
    repeat' (first
    | with_reducible first | apply swp_seq | apply swp_reg | apply swp_regD | apply swp_block | apply swp_exit | apply swp_ret | apply swp_skip | apply swp_cd
    | simp only [go_sem, seval, P26, q26, hla, hlb, hn]
    | with_reducible first | apply cd_dec | apply cd_eq | apply cd_ne | apply cd_split
    | ((with_reducible refine And.intro ?hw ?_); (case hw => first | omega | rfl | exact ⟨_, _, rfl⟩ | assumption | (simp only [lN] <;> omega)))
    | with_reducible intro _)
    refine swp_famG [0, 1, 2, 8, 9, 10] 0 0 (Nat.le_refl 0) (Nat.le_refl 0) (fun i : Nat => ⟨[rulesD A, rulesD B, .fn (.func 27) [] [], .undef, .undef, .undef, .undef, .undef, rulesD A, .int .i64 A.length, .int .i64 i, .undef, .undef], [], ⟨[], []⟩⟩)
      (fun i => i ≤ A.length ∧ ∀ j (h : j < i) (h1 : j < A.length) (h2 : j < B.length), sameR A[j] B[j] = true) (fun i => A.length + 1 - i) 0 ⟨by omega, fun j h => by omega⟩ ?_ ?_
    · simp [keepE, St.keepG, St.keep, St.gc, Hp.cut, D.rnL, D.rn, cutF, Blk.rn, Blk.rnL, Tv.rnL, Own.rn]
    · rintro i ⟨hi, hb⟩
      by_cases hil : i < A.length
      · have hil2 : i < B.length := by omega
        have c1 := same_p A[i] B[i] (hs _ (List.getElem_mem hil))
        have g1 := R_get hil
        have g2 := R_get hil2
        have a1 := closedL_X (A[i]).cond.kids
        have a2 := erL_X (A[i]).cond.kids
        have b1 := closedL_X (B[i]).cond.kids
        have b2 := erL_X (B[i]).cond.kids
        unfold rlD at c1
        cases hx : sameR A[i] B[i]
        · rw [hx] at c1
          rw [allR_bad hil hil2 hx]
          repeat' (first
    | with_reducible first | apply swp_seq | apply swp_reg | apply swp_regD | apply swp_block | apply swp_exit | apply swp_ret | apply swp_skip | apply swp_cd
    | simp only [go_sem, seval, P26, q26, hla, hlb, g1, g2]
    | simp (disch := omega) only [w64, w32, wu8, wu16, wu32, wu64]
    | ((with_reducible refine o_call (c1) ?he ?hc ?_); (case he | hc => first | rfl | (simp [D.erL, D.er, D.closedL, D.closed, hla, hlb, g1, g2, a1, a2, b1, b2]; done)))
    | with_reducible first | apply cd_dec | apply cd_eq | apply cd_ne | apply cd_split
    | ((with_reducible refine And.intro ?hw ?_); (case hw => first | omega | rfl | exact ⟨_, _, rfl⟩ | assumption | (simp only [lN, hla, hlb, g1, g2, a1, a2, b1, b2] <;> omega)))
    | with_reducible intro _)
          all_goals try omega
          all_goals simp [D.closed, D.er]
        · rw [hx] at c1
          repeat' (first
    | with_reducible first | apply swp_seq | apply swp_reg | apply swp_regD | apply swp_block | apply swp_exit | apply swp_ret | apply swp_skip | apply swp_cd
    | simp only [go_sem, seval, P26, q26, hla, hlb, g1, g2]
    | simp (disch := omega) only [w64, w32, wu8, wu16, wu32, wu64]
    | ((with_reducible refine o_call (c1) ?he ?hc ?_); (case he | hc => first | rfl | (simp [D.erL, D.er, D.closedL, D.closed, hla, hlb, g1, g2, a1, a2, b1, b2]; done)))
    | with_reducible first | apply cd_dec | apply cd_eq | apply cd_ne | apply cd_split
    | ((with_reducible refine And.intro ?hw ?_); (case hw => first | omega | rfl | exact ⟨_, _, rfl⟩ | assumption | (simp only [lN, hla, hlb, g1, g2, a1, a2, b1, b2] <;> omega)))
    | with_reducible intro _)
          all_goals try omega
          refine ⟨i + 1, ⟨by omega, fun j h h1 h2 => ?_⟩, by omega, ?_⟩
          · by_cases e : j = i
            · subst e; exact hx
            · exact hb j (by omega) h1 h2
          · simp [keepE, St.keepG, St.keep, St.gc, Hp.cut, D.rnL, D.rn, cutF, Blk.rn, Blk.rnL, Tv.rnL, Own.rn]
      · rw [allR_all hl fun j h1 h2 => hb j (by omega) h1 h2]
        repeat' (first
    | with_reducible first | apply swp_seq | apply swp_reg | apply swp_regD | apply swp_block | apply swp_exit | apply swp_ret | apply swp_skip | apply swp_cd
    | simp only [go_sem, seval, P26, q26, hla, hlb]
    | simp (disch := omega) only [w64, w32, wu8, wu16, wu32, wu64]
    | with_reducible first | apply cd_dec | apply cd_eq | apply cd_ne | apply cd_split
    | ((with_reducible refine And.intro ?hw ?_); (case hw => first | omega | rfl | exact ⟨_, _, rfl⟩ | assumption | (simp only [lN] <;> omega)))
    | with_reducible intro _)
        all_goals try omega
        all_goals simp [D.closed, D.er]
  · have hn : (((A.length : Nat) : Int) != B.length) = true := by simp; omega
    rw [allR_len hl]
    repeat' (first
    | with_reducible first | apply swp_seq | apply swp_reg | apply swp_regD | apply swp_block | apply swp_exit | apply swp_ret | apply swp_skip | apply swp_cd
    | simp only [go_sem, seval, P26, q26, hla, hlb, hn]
    | with_reducible first | apply cd_dec | apply cd_eq | apply cd_ne | apply cd_split
    | ((with_reducible refine And.intro ?hw ?_); (case hw => first | omega | rfl | exact ⟨_, _, rfl⟩ | assumption | (simp only [lN] <;> omega)))
    | with_reducible intro _)
    all_goals simp [D.closed, D.er]
end Go.Proofs.Ytnooagipikedeaa
end
section
set_option maxRecDepth 100000
set_option linter.unusedSimpArgs false
set_option linter.unusedVariables false
namespace Go.Proofs.Ytnooagipikedeaa
open Go GoV Go.RowKit
set_option maxHeartbeats 1000000 in
theorem refCond_p : ∀ (k : Nat) (x y : X), x.nodes ≤ k → k < 1000000 → Pur M 33 [x.d, y.d] (.bool (sameX x y))
  | 0, x, y, hk, _ => by have := nodes_pos x; omega
  | k + 1, x, y, hk, hk2 => by
    have ih : ∀ j (h1 : j < x.kids.length) (h2 : j < y.kids.length), Pur M 33 [(x.kids[j]).d, (y.kids[j]).d] (.bool (sameX x.kids[j] y.kids[j])) := fun j h1 h2 => refCond_p k _ _ (by have := kid_nodes (List.getElem_mem h1); omega) (by omega)
    have hkl := kids_len x
    refine ok33 rfl ?_
    rw [i33]
    unfold c33
    have a1 := closedL_X x.kids
    have a2 := erL_X x.kids
    have b1 := closedL_X y.kids
    have b2 := erL_X y.kids
    have hla : (x.kids.map X.d).length = x.kids.length := by simp
    have hlb : (y.kids.map X.d).length = y.kids.length := by simp
    rw [sameX_eq, X.d_eq, X.d_eq]
    by_cases hf : x.op = y.op ∧ x.nam = y.nam ∧ x.val = y.val ∧ x.num = y.num ∧ x.ext = y.ext ∧ x.kids.length = y.kids.length
    · obtain ⟨f1, f2, f3, f4, f5, f6⟩ := hf
      have t1 : (x.op != y.op) = false := by simp [f1]
      have t2 : (x.nam == y.nam) = true := by simp [f2]
      have t3 : (x.val == y.val) = true := by simp [f3]
      have t4 : (x.num != y.num) = false := by simp [f4]
      have t5 : (x.ext != y.ext) = false := by simp [f5]
      have t6 : (((x.kids.length : Nat) : Int) != y.kids.length) = false := by simp [f6]
      have e1 : (x.op == y.op && x.nam == y.nam && x.val == y.val && x.num == y.num && x.ext == y.ext && sameXL x.kids y.kids) = sameXL x.kids y.kids := by simp [f1, f2, f3, f4, f5]
      rw [e1]
      repeat' (first
    | with_reducible first | apply swp_seq | apply swp_reg | apply swp_regD | apply swp_block | apply swp_exit | apply swp_ret | apply swp_skip | apply swp_cd
    | simp only [go_sem, seval, P33, q33, hla, hlb, t1, t2, t3, t4, t5, t6]
    | with_reducible first | apply cd_dec | apply cd_eq | apply cd_ne | apply cd_split | apply gd_dec | apply gd_eq | apply gd_ne | apply gd_split
    | ((with_reducible refine And.intro ?hw ?_); (case hw => first | omega | rfl | exact ⟨_, _, rfl⟩ | assumption | (simp only [lN] <;> omega)))
    | with_reducible intro _)
      refine swp_fam [0, 1, 2, 3, 5] (fun i : Nat => ⟨[.agg x.cells, .agg y.cells, .ptr 0 0, .ptr 1 0, .undef, .int .i64 i, .undef, .undef, .undef], [], ⟨[.cells x.cells, .cells y.cells], []⟩⟩)
        (fun i => i ≤ x.kids.length ∧ ∀ j (h : j < i) (h1 : j < x.kids.length) (h2 : j < y.kids.length), sameX x.kids[j] y.kids[j] = true) (fun i => x.kids.length + 1 - i) 0 ⟨by omega, fun j h => by omega⟩ ?_ ?_
      · simp [keepE, St.keep]
      · rintro i ⟨hi, hb⟩
        by_cases hil : i < x.kids.length
        · have hil2 : i < y.kids.length := by omega
          have c1 := ih i hil hil2
          have g1 := X_get hil
          have g2 := X_get hil2
          have a3 := closedL_X (x.kids[i]).kids
          have a4 := erL_X (x.kids[i]).kids
          have b3 := closedL_X (y.kids[i]).kids
          have b4 := erL_X (y.kids[i]).kids
          rw [X.d_eq, X.d_eq] at c1
          cases hx : sameX x.kids[i] y.kids[i]
          · rw [hx] at c1
            rw [sameXL_bad hil hil2 hx]
            repeat' (first
    | with_reducible first | apply swp_seq | apply swp_reg | apply swp_regD | apply swp_block | apply swp_exit | apply swp_ret | apply swp_skip | apply swp_cd
    | simp only [go_sem, seval, P33, q33, hla, hlb, g1, g2]
    | simp (disch := omega) only [w64, w32, wu8, wu16, wu32, wu64]
    | ((with_reducible refine o_call (c1) ?he ?hc ?_); (case he | hc => first | rfl | (simp [D.erL, D.er, D.closedL, D.closed, hla, hlb, g1, g2, a3, a4, b3, b4]; done)))
    | with_reducible first | apply cd_dec | apply cd_eq | apply cd_ne | apply cd_split | apply gd_dec | apply gd_eq | apply gd_ne | apply gd_split
    | ((with_reducible refine And.intro ?hw ?_); (case hw => first | omega | rfl | exact ⟨_, _, rfl⟩ | assumption | (simp only [lN, hla, hlb, g1, g2, a3, a4, b3, b4] <;> omega)))
    | with_reducible intro _)
            all_goals try omega
            all_goals simp [D.closed, D.er]
          · rw [hx] at c1
            repeat' (first
    | with_reducible first | apply swp_seq | apply swp_reg | apply swp_regD | apply swp_block | apply swp_exit | apply swp_ret | apply swp_skip | apply swp_cd
    | simp only [go_sem, seval, P33, q33, hla, hlb, g1, g2]
    | simp (disch := omega) only [w64, w32, wu8, wu16, wu32, wu64]
    | ((with_reducible refine o_call (c1) ?he ?hc ?_); (case he | hc => first | rfl | (simp [D.erL, D.er, D.closedL, D.closed, hla, hlb, g1, g2, a3, a4, b3, b4]; done)))
    | with_reducible first | apply cd_dec | apply cd_eq | apply cd_ne | apply cd_split | apply gd_dec | apply gd_eq | apply gd_ne | apply gd_split
    | ((with_reducible refine And.intro ?hw ?_); (case hw => first | omega | rfl | exact ⟨_, _, rfl⟩ | assumption | (simp only [lN, hla, hlb, g1, g2, a3, a4, b3, b4] <;> omega)))
    | with_reducible intro _)
            all_goals try omega
            refine ⟨i + 1, ⟨by omega, fun j h h1 h2 => ?_⟩, by omega, ?_⟩
            · by_cases e : j = i
              · subst e; exact hx
              · exact hb j (by omega) h1 h2
            · simp [keepE, St.keep]
        · rw [sameXL_all f6 fun j h1 h2 => hb j (by omega) h1 h2]
          repeat' (first
    | with_reducible first | apply swp_seq | apply swp_reg | apply swp_regD | apply swp_block | apply swp_exit | apply swp_ret | apply swp_skip | apply swp_cd
    | simp only [go_sem, seval, P33, q33, hla, hlb]
    | simp (disch := omega) only [w64, w32, wu8, wu16, wu32, wu64]
    | with_reducible first | apply cd_dec | apply cd_eq | apply cd_ne | apply cd_split | apply gd_dec | apply gd_eq | apply gd_ne | apply gd_split
    | ((with_reducible refine And.intro ?hw ?_); (case hw => first | omega | rfl | exact ⟨_, _, rfl⟩ | assumption | (simp only [lN] <;> omega)))
    | with_reducible intro _)
          all_goals try omega
          all_goals simp [D.closed, D.er]
    · have e1 : (x.op == y.op && x.nam == y.nam && x.val == y.val && x.num == y.num && x.ext == y.ext && sameXL x.kids y.kids) = false := by
        cases e : (x.op == y.op && x.nam == y.nam && x.val == y.val && x.num == y.num && x.ext == y.ext && sameXL x.kids y.kids) with
        | false => rfl
        | true =>
          simp only [Bool.and_eq_true, beq_iff_eq] at e
          obtain ⟨⟨⟨⟨⟨h1, h2⟩, h3⟩, h4⟩, h5⟩, h6⟩ := e
          exact absurd ⟨h1, h2, h3, h4, h5, by rw [(sameXL_iff _ _).1 h6]⟩ hf
      rw [e1]
      clear e1 ih
      have hf' : x.op = y.op → x.nam = y.nam → x.val = y.val → x.num = y.num → x.ext = y.ext → ((x.kids.length : Nat) : Int) = y.kids.length → False := fun h1 h2 h3 h4 h5 h6 => hf ⟨h1, h2, h3, h4, h5, by omega⟩
      generalize hb1 : (x.op != y.op) = b1' at *
      generalize hb2 : (x.nam == y.nam) = b2' at *
      generalize hb3 : (x.val == y.val) = b3' at *
      generalize hb4 : (x.num != y.num) = b4' at *
      generalize hb5 : (x.ext != y.ext) = b5' at *
      generalize hb6 : (((x.kids.length : Nat) : Int) != y.kids.length) = b6' at *
      have hor : b1' = true ∨ b2' = false ∨ b3' = false ∨ b4' = true ∨ b5' = true ∨ b6' = true := by
        cases b1' <;> cases b2' <;> cases b3' <;> cases b4' <;> cases b5' <;> cases b6' <;> first | (simp; done) | skip
        simp only [bne_eq_false_iff_eq, beq_iff_eq] at hb1 hb2 hb3 hb4 hb5 hb6
        exact (hf' hb1 hb2 hb3 hb4 hb5 hb6).elim
      cases b1'
      rotate_left
      · repeat' (first
    | with_reducible first | apply swp_seq | apply swp_reg | apply swp_regD | apply swp_block | apply swp_exit | apply swp_ret | apply swp_skip | apply swp_cd
    | simp only [go_sem, seval, P33, q33, hb1]
    | with_reducible first | apply cd_dec | apply cd_eq | apply cd_ne | apply cd_split | apply gd_dec | apply gd_eq | apply gd_ne | apply gd_split
    | ((with_reducible refine And.intro ?hw ?_); (case hw => first | omega | rfl | exact ⟨_, _, rfl⟩ | assumption | (simp only [lN, a1, a2, b1, b2] <;> omega)))
    | with_reducible intro _)
        all_goals first | done | simp [D.closed, D.er]
      cases b2'
      · repeat' (first
    | with_reducible first | apply swp_seq | apply swp_reg | apply swp_regD | apply swp_block | apply swp_exit | apply swp_ret | apply swp_skip | apply swp_cd
    | simp only [go_sem, seval, P33, q33, hb1, hb2]
    | with_reducible first | apply cd_dec | apply cd_eq | apply cd_ne | apply cd_split | apply gd_dec | apply gd_eq | apply gd_ne | apply gd_split
    | ((with_reducible refine And.intro ?hw ?_); (case hw => first | omega | rfl | exact ⟨_, _, rfl⟩ | assumption | (simp only [lN, a1, a2, b1, b2] <;> omega)))
    | with_reducible intro _)
        all_goals first | done | simp [D.closed, D.er]
      cases b3'
      · repeat' (first
    | with_reducible first | apply swp_seq | apply swp_reg | apply swp_regD | apply swp_block | apply swp_exit | apply swp_ret | apply swp_skip | apply swp_cd
    | simp only [go_sem, seval, P33, q33, hb1, hb2, hb3]
    | with_reducible first | apply cd_dec | apply cd_eq | apply cd_ne | apply cd_split | apply gd_dec | apply gd_eq | apply gd_ne | apply gd_split
    | ((with_reducible refine And.intro ?hw ?_); (case hw => first | omega | rfl | exact ⟨_, _, rfl⟩ | assumption | (simp only [lN, a1, a2, b1, b2] <;> omega)))
    | with_reducible intro _)
        all_goals first | done | simp [D.closed, D.er]
      cases b4'
      rotate_left
      · repeat' (first
    | with_reducible first | apply swp_seq | apply swp_reg | apply swp_regD | apply swp_block | apply swp_exit | apply swp_ret | apply swp_skip | apply swp_cd
    | simp only [go_sem, seval, P33, q33, hb1, hb2, hb3, hb4]
    | with_reducible first | apply cd_dec | apply cd_eq | apply cd_ne | apply cd_split | apply gd_dec | apply gd_eq | apply gd_ne | apply gd_split
    | ((with_reducible refine And.intro ?hw ?_); (case hw => first | omega | rfl | exact ⟨_, _, rfl⟩ | assumption | (simp only [lN, a1, a2, b1, b2] <;> omega)))
    | with_reducible intro _)
        all_goals first | done | simp [D.closed, D.er]
      cases b5'
      rotate_left
      · repeat' (first
    | with_reducible first | apply swp_seq | apply swp_reg | apply swp_regD | apply swp_block | apply swp_exit | apply swp_ret | apply swp_skip | apply swp_cd
    | simp only [go_sem, seval, P33, q33, hb1, hb2, hb3, hb4, hb5]
    | with_reducible first | apply cd_dec | apply cd_eq | apply cd_ne | apply cd_split | apply gd_dec | apply gd_eq | apply gd_ne | apply gd_split
    | ((with_reducible refine And.intro ?hw ?_); (case hw => first | omega | rfl | exact ⟨_, _, rfl⟩ | assumption | (simp only [lN, a1, a2, b1, b2] <;> omega)))
    | with_reducible intro _)
        all_goals first | done | simp [D.closed, D.er]
      cases b6'
      · simp at hor
      · repeat' (first
    | with_reducible first | apply swp_seq | apply swp_reg | apply swp_regD | apply swp_block | apply swp_exit | apply swp_ret | apply swp_skip | apply swp_cd
    | simp only [go_sem, seval, P33, q33, hb1, hb2, hb3, hb4, hb5, hb6, hla, hlb]
    | with_reducible first | apply cd_dec | apply cd_eq | apply cd_ne | apply cd_split | apply gd_dec | apply gd_eq | apply gd_ne | apply gd_split
    | ((with_reducible refine And.intro ?hw ?_); (case hw => first | omega | rfl | exact ⟨_, _, rfl⟩ | assumption | (simp only [lN, a1, a2, b1, b2] <;> omega)))
    | with_reducible intro _)
        all_goals first | done | simp [D.closed, D.er]
theorem refSame_p (a b : Rl) (ha : a.sm) : Pur M 18 [rlD a, rlD b] (.bool (sameR a b)) := by
  refine ok18 rfl ?_
  rw [i18]
  unfold c18
  have c1 := refCond_p a.cond.nodes a.cond b.cond (Nat.le_refl _) (by have := ha.2.2.2; omega)
  have a1 := closedL_X a.cond.kids
  have a2 := erL_X a.cond.kids
  have b1 := closedL_X b.cond.kids
  have b2 := erL_X b.cond.kids
  unfold sameR rlD Rl.cells
  rw [X.d_eq, X.d_eq] at c1
  generalize sameX a.cond b.cond = x at *
  generalize hb1 : (a.name == b.name) = b1' at *
  generalize hb2 : (a.kind == b.kind) = b2' at *
  cases b1' <;> cases b2' <;> skip
  all_goals (repeat' (first
    | with_reducible first | apply swp_seq | apply swp_reg | apply swp_regD | apply swp_block | apply swp_exit | apply swp_ret | apply swp_skip | apply swp_cd
    | simp only [go_sem, seval, P18, q18, hb1, hb2]
    | ((with_reducible refine o_call (c1) ?he ?hc ?_); (case he | hc => first | rfl | (simp [D.erL, D.er, D.closedL, D.closed, a1, a2, b1, b2]; done)))
    | with_reducible first | apply cd_dec | apply cd_eq | apply cd_ne | apply cd_split | apply gd_dec | apply gd_eq | apply gd_ne | apply gd_split
    | ((with_reducible refine And.intro ?hw ?_); (case hw => first | omega | rfl | exact ⟨_, _, rfl⟩ | assumption | (simp only [lN, a1, a2, b1, b2] <;> omega)))
    | with_reducible intro _))
  all_goals first | done | simp [D.closed, D.er]
theorem refAll_p (A B : List Rl) (hA : A.length < 1000000) (hs : ∀ a ∈ A, a.sm) : Pur M 11 [rulesD A, rulesD B] (.bool (allR A B)) := by
  refine ok11 rfl ?_
  rw [i11]
  unfold c11
  have hla : (A.map rlD).length = A.length := by simp
  have hlb : (B.map rlD).length = B.length := by simp
  by_cases hl : A.length = B.length
  · have hn : (((A.length : Nat) : Int) != B.length) = false := by simp [hl]
    repeat' (first
    | with_reducible first | apply swp_seq | apply swp_reg | apply swp_regD | apply swp_block | apply swp_exit | apply swp_ret | apply swp_skip | apply swp_cd
    | simp only [go_sem, seval, P11, q11, hla, hlb, hn]
    | with_reducible first | apply cd_dec | apply cd_eq | apply cd_ne | apply cd_split
    | ((with_reducible refine And.intro ?hw ?_); (case hw => first | omega | rfl | exact ⟨_, _, rfl⟩ | assumption | (simp only [lN] <;> omega)))
    | with_reducible intro _)
    refine swp_fam [0, 1, 3] (fun i : Nat => ⟨[rulesD A, rulesD B, .undef, .int .i64 i, .undef, .undef, .undef], [], ⟨[], []⟩⟩)
      (fun i => i ≤ A.length ∧ ∀ j (h : j < i) (h1 : j < A.length) (h2 : j < B.length), sameR A[j] B[j] = true) (fun i => A.length + 1 - i) 0 ⟨by omega, fun j h => by omega⟩ ?_ ?_
    · simp [keepE, St.keep]
    · rintro i ⟨hi, hb⟩
      by_cases hil : i < A.length
      · have hil2 : i < B.length := by omega
        have c1 := refSame_p A[i] B[i] (hs _ (List.getElem_mem hil))
        have g1 := R_get hil
        have g2 := R_get hil2
        have a1 := closedL_X (A[i]).cond.kids
        have a2 := erL_X (A[i]).cond.kids
        have b1 := closedL_X (B[i]).cond.kids
        have b2 := erL_X (B[i]).cond.kids
        unfold rlD at c1
        cases hx : sameR A[i] B[i]
        · rw [hx] at c1
          rw [allR_bad hil hil2 hx]
          repeat' (first
    | with_reducible first | apply swp_seq | apply swp_reg | apply swp_regD | apply swp_block | apply swp_exit | apply swp_ret | apply swp_skip | apply swp_cd
    | simp only [go_sem, seval, P11, q11, hla, hlb, g1, g2]
    | simp (disch := omega) only [w64, w32, wu8, wu16, wu32, wu64]
    | ((with_reducible refine o_call (c1) ?he ?hc ?_); (case he | hc => first | rfl | (simp [D.erL, D.er, D.closedL, D.closed, hla, hlb, g1, g2, a1, a2, b1, b2]; done)))
    | with_reducible first | apply cd_dec | apply cd_eq | apply cd_ne | apply cd_split
    | ((with_reducible refine And.intro ?hw ?_); (case hw => first | omega | rfl | exact ⟨_, _, rfl⟩ | assumption | (simp only [lN, hla, hlb, g1, g2, a1, a2, b1, b2] <;> omega)))
    | with_reducible intro _)
          all_goals try omega
          all_goals simp [D.closed, D.er]
        · rw [hx] at c1
          repeat' (first
    | with_reducible first | apply swp_seq | apply swp_reg | apply swp_regD | apply swp_block | apply swp_exit | apply swp_ret | apply swp_skip | apply swp_cd
    | simp only [go_sem, seval, P11, q11, hla, hlb, g1, g2]
    | simp (disch := omega) only [w64, w32, wu8, wu16, wu32, wu64]
    | ((with_reducible refine o_call (c1) ?he ?hc ?_); (case he | hc => first | rfl | (simp [D.erL, D.er, D.closedL, D.closed, hla, hlb, g1, g2, a1, a2, b1, b2]; done)))
    | with_reducible first | apply cd_dec | apply cd_eq | apply cd_ne | apply cd_split
    | ((with_reducible refine And.intro ?hw ?_); (case hw => first | omega | rfl | exact ⟨_, _, rfl⟩ | assumption | (simp only [lN, hla, hlb, g1, g2, a1, a2, b1, b2] <;> omega)))
    | with_reducible intro _)
          all_goals try omega
          refine ⟨i + 1, ⟨by omega, fun j h h1 h2 => ?_⟩, by omega, ?_⟩
          · by_cases e : j = i
            · subst e; exact hx
            · exact hb j (by omega) h1 h2
          · simp [keepE, St.keep]
      · rw [allR_all hl fun j h1 h2 => hb j (by omega) h1 h2]
        repeat' (first
    | with_reducible first | apply swp_seq | apply swp_reg | apply swp_regD | apply swp_block | apply swp_exit | apply swp_ret | apply swp_skip | apply swp_cd
    | simp only [go_sem, seval, P11, q11, hla, hlb]
    | simp (disch := omega) only [w64, w32, wu8, wu16, wu32, wu64]
    | with_reducible first | apply cd_dec | apply cd_eq | apply cd_ne | apply cd_split
    | ((with_reducible refine And.intro ?hw ?_); (case hw => first | omega | rfl | exact ⟨_, _, rfl⟩ | assumption | (simp only [lN] <;> omega)))
    | with_reducible intro _)
        all_goals try omega
        all_goals simp [D.closed, D.er]
  · have hn : (((A.length : Nat) : Int) != B.length) = true := by simp; omega
    rw [allR_len hl]
    repeat' (first
    | with_reducible first | apply swp_seq | apply swp_reg | apply swp_regD | apply swp_block | apply swp_exit | apply swp_ret | apply swp_skip | apply swp_cd
    | simp only [go_sem, seval, P11, q11, hla, hlb, hn]
    | with_reducible first | apply cd_dec | apply cd_eq | apply cd_ne | apply cd_split
    | ((with_reducible refine And.intro ?hw ?_); (case hw => first | omega | rfl | exact ⟨_, _, rfl⟩ | assumption | (simp only [lN] <;> omega)))
    | with_reducible intro _)
    all_goals simp [D.closed, D.er]
abbrev intsD (l : List Int) : D := .slice (l.map (D.int .i64)) .no
theorem I_get {s : List Int} {i : Nat} (h : i < s.length) : (s.map (D.int .i64)).getD i .undef = .int .i64 s[i] := by simp [List.getD, h]
theorem ints_p (A B : List Int) (hA : A.length < 1000000) : Pur M 14 [intsD A, intsD B] (.bool (decide (A = B))) := by
  refine ok14 rfl ?_
  rw [i14]
  unfold c14
  have hla : (A.map (D.int .i64)).length = A.length := by simp
  have hlb : (B.map (D.int .i64)).length = B.length := by simp
  by_cases hl : A.length = B.length
  · have hn : (((A.length : Nat) : Int) != B.length) = false := by simp [hl]
    repeat' (first
    | with_reducible first | apply swp_seq | apply swp_reg | apply swp_regD | apply swp_block | apply swp_exit | apply swp_ret | apply swp_skip | apply swp_cd
    | simp only [go_sem, seval, P14, q14, hla, hlb, hn]
    | with_reducible first | apply cd_dec | apply cd_eq | apply cd_ne | apply cd_split
    | ((with_reducible refine And.intro ?hw ?_); (case hw => first | omega | rfl | exact ⟨_, _, rfl⟩ | assumption | (simp only [lN] <;> omega)))
    | with_reducible intro _)
    refine swp_fam [0, 1, 3] (fun i : Nat => ⟨[intsD A, intsD B, .undef, .int .i64 i, .undef, .undef, .undef], [], ⟨[], []⟩⟩)
      (fun i => i ≤ A.length ∧ ∀ j (h : j < i) (h1 : j < A.length) (h2 : j < B.length), A[j] = B[j]) (fun i => A.length + 1 - i) 0 ⟨by omega, fun j h => by omega⟩ ?_ ?_
    · simp [keepE, St.keep]
    · rintro i ⟨hi, hb⟩
      by_cases hil : i < A.length
      · have hil2 : i < B.length := by omega
        have g1 := I_get hil
        have g2 := I_get hil2
        by_cases hx : A[i] = B[i]
        · have t1 : (A[i] != B[i]) = false := by simp [hx]
          repeat' (first
    | with_reducible first | apply swp_seq | apply swp_reg | apply swp_regD | apply swp_block | apply swp_exit | apply swp_ret | apply swp_skip | apply swp_cd
    | simp only [go_sem, seval, P14, q14, hla, hlb, g1, g2, t1]
    | simp (disch := omega) only [w64, w32, wu8, wu16, wu32, wu64]
    | with_reducible first | apply cd_dec | apply cd_eq | apply cd_ne | apply cd_split
    | ((with_reducible refine And.intro ?hw ?_); (case hw => first | omega | rfl | exact ⟨_, _, rfl⟩ | assumption | (simp only [lN, hla, hlb, g1, g2] <;> omega)))
    | with_reducible intro _)
          all_goals try omega
          refine ⟨i + 1, ⟨by omega, fun j h h1 h2 => ?_⟩, by omega, ?_⟩
          · by_cases e : j = i
            · subst e; exact hx
            · exact hb j (by omega) h1 h2
          · simp [keepE, St.keep]
        · have t1 : (A[i] != B[i]) = true := by simp [hx]
          have hne : decide (A = B) = false := decide_eq_false (fun e => by subst e; exact hx rfl)
          rw [hne]
          repeat' (first
    | with_reducible first | apply swp_seq | apply swp_reg | apply swp_regD | apply swp_block | apply swp_exit | apply swp_ret | apply swp_skip | apply swp_cd
    | simp only [go_sem, seval, P14, q14, hla, hlb, g1, g2, t1]
    | simp (disch := omega) only [w64, w32, wu8, wu16, wu32, wu64]
    | with_reducible first | apply cd_dec | apply cd_eq | apply cd_ne | apply cd_split
    | ((with_reducible refine And.intro ?hw ?_); (case hw => first | omega | rfl | exact ⟨_, _, rfl⟩ | assumption | (simp only [lN, hla, hlb, g1, g2] <;> omega)))
    | with_reducible intro _)
          all_goals try omega
          all_goals simp [D.closed, D.er]
      · have he : decide (A = B) = true := decide_eq_true (List.ext_getElem hl fun j h1 h2 => hb j (by omega) h1 h2)
        rw [he]
        repeat' (first
    | with_reducible first | apply swp_seq | apply swp_reg | apply swp_regD | apply swp_block | apply swp_exit | apply swp_ret | apply swp_skip | apply swp_cd
    | simp only [go_sem, seval, P14, q14, hla, hlb]
    | simp (disch := omega) only [w64, w32, wu8, wu16, wu32, wu64]
    | with_reducible first | apply cd_dec | apply cd_eq | apply cd_ne | apply cd_split
    | ((with_reducible refine And.intro ?hw ?_); (case hw => first | omega | rfl | exact ⟨_, _, rfl⟩ | assumption | (simp only [lN] <;> omega)))
    | with_reducible intro _)
        all_goals try omega
        all_goals simp [D.closed, D.er]
  · have hn : (((A.length : Nat) : Int) != B.length) = true := by simp; omega
    have hne : decide (A = B) = false := decide_eq_false (fun e => by subst e; exact hl rfl)
    rw [hne]
    repeat' (first
    | with_reducible first | apply swp_seq | apply swp_reg | apply swp_regD | apply swp_block | apply swp_exit | apply swp_ret | apply swp_skip | apply swp_cd
    | simp only [go_sem, seval, P14, q14, hla, hlb, hn]
    | with_reducible first | apply cd_dec | apply cd_eq | apply cd_ne | apply cd_split
    | ((with_reducible refine And.intro ?hw ?_); (case hw => first | omega | rfl | exact ⟨_, _, rfl⟩ | assumption | (simp only [lN] <;> omega)))
    | with_reducible intro _)
    all_goals simp [D.closed, D.er]
end Go.Proofs.Ytnooagipikedeaa
end
section
set_option maxRecDepth 100000
set_option linter.unusedSimpArgs false
set_option linter.unusedVariables false
namespace Go.Proofs.Ytnooagipikedeaa
open Go GoV Go.RowKit
theorem u8le (k : Nat) (hk : k < 256) (c : UInt8) : (UInt8.ofNat k ≤ c) ↔ (k : Int) ≤ c.toNat := by
  rw [UInt8.le_iff_toNat_le]; simp [UInt8.toNat_ofNat']; omega
theorem u8ge (k : Nat) (hk : k < 256) (c : UInt8) : (c ≤ UInt8.ofNat k) ↔ (c.toNat : Int) ≤ k := by
  rw [UInt8.le_iff_toNat_le]; simp [UInt8.toNat_ofNat']; omega
theorem isLet_eq (c : UInt8) : isLet c = ((decide (97 ≤ (c.toNat : Int)) && decide ((c.toNat : Int) ≤ 122)) || (decide (65 ≤ (c.toNat : Int)) && decide ((c.toNat : Int) ≤ 90))) := by
  have l1 := u8le 97 (by omega) c; have l2 := u8ge 122 (by omega) c; have l3 := u8le 65 (by omega) c; have l4 := u8ge 90 (by omega) c
  unfold isLet
  rw [show (97 : UInt8) = UInt8.ofNat 97 from rfl, show (122 : UInt8) = UInt8.ofNat 122 from rfl, show (65 : UInt8) = UInt8.ofNat 65 from rfl, show (90 : UInt8) = UInt8.ofNat 90 from rfl]
  simp only [l1, l2, l3, l4]; rfl
theorem isDig_eq (c : UInt8) : isDig c = (decide (48 ≤ (c.toNat : Int)) && decide ((c.toNat : Int) ≤ 57)) := by
  have l1 := u8le 48 (by omega) c; have l2 := u8ge 57 (by omega) c
  unfold isDig
  rw [show (48 : UInt8) = UInt8.ofNat 48 from rfl, show (57 : UInt8) = UInt8.ofNat 57 from rfl]
  simp only [l1, l2]; rfl
def wordB (c : UInt8) : Bool := isLet c || isDig c || ((c.toNat : Int) == 95)
theorem is95 (c : UInt8) : (c == 95) = ((c.toNat : Int) == 95) := by
  rw [Bool.eq_iff_iff]; simp only [beq_iff_eq]
  constructor
  · rintro rfl; rfl
  · intro h
    have h2 : c.toNat = 95 := by omega
    exact UInt8.toNat_inj.1 h2
theorem letter_p (c : UInt8) : Pur M 54 [.int .u8 c.toNat] (.bool (isLet c)) := by
  refine ok54 rfl ?_
  rw [i54]
  unfold c54
  rw [isLet_eq]
  generalize hb1 : decide (97 ≤ (c.toNat : Int)) = b1 at *
  generalize hb2 : decide ((c.toNat : Int) ≤ 122) = b2 at *
  generalize hb3 : decide (65 ≤ (c.toNat : Int)) = b3 at *
  generalize hb4 : decide ((c.toNat : Int) ≤ 90) = b4 at *
  have h1 : decide ((c.toNat : Int) ≥ 97) = b1 := hb1
  have h3 : decide ((c.toNat : Int) ≥ 65) = b3 := hb3
  cases b1 <;> cases b2 <;> cases b3 <;> cases b4 <;> skip
  all_goals (repeat' (first
    | with_reducible first | apply swp_seq | apply swp_reg | apply swp_regD | apply swp_block | apply swp_exit | apply swp_ret | apply swp_skip | apply swp_cd
    | simp only [go_sem, seval, P54, q54, h1, hb2, h3, hb4]
    | with_reducible first | apply cd_dec | apply cd_eq | apply cd_ne | apply cd_split | apply gd_dec | apply gd_eq | apply gd_ne | apply gd_split
    | ((with_reducible refine And.intro ?hw ?_); (case hw => first | omega | rfl | exact ⟨_, _, rfl⟩ | assumption | (simp only [lN] <;> omega)))
    | with_reducible intro _))
  all_goals first | done | simp [D.closed, D.er]
theorem digit_p (c : UInt8) : Pur M 84 [.int .u8 c.toNat] (.bool (isDig c)) := by
  refine ok84 rfl ?_
  rw [i84]
  unfold c84
  rw [isDig_eq]
  generalize hb1 : decide (48 ≤ (c.toNat : Int)) = b1 at *
  generalize hb2 : decide ((c.toNat : Int) ≤ 57) = b2 at *
  have h1 : decide ((c.toNat : Int) ≥ 48) = b1 := hb1
  cases b1 <;> cases b2 <;> skip
  all_goals (repeat' (first
    | with_reducible first | apply swp_seq | apply swp_reg | apply swp_regD | apply swp_block | apply swp_exit | apply swp_ret | apply swp_skip | apply swp_cd
    | simp only [go_sem, seval, P84, q84, h1, hb2]
    | with_reducible first | apply cd_dec | apply cd_eq | apply cd_ne | apply cd_split | apply gd_dec | apply gd_eq | apply gd_ne | apply gd_split
    | ((with_reducible refine And.intro ?hw ?_); (case hw => first | omega | rfl | exact ⟨_, _, rfl⟩ | assumption | (simp only [lN] <;> omega)))
    | with_reducible intro _))
  all_goals first | done | simp [D.closed, D.er]
theorem word_p (c : UInt8) : Pur M 53 [.int .u8 c.toNat] (.bool (wordB c)) := by
  refine ok53 rfl ?_
  rw [i53]
  unfold c53
  have c1 := letter_p c
  have c2 := digit_p c
  unfold wordB
  generalize isLet c = b1 at *
  generalize isDig c = b2 at *
  generalize hb3 : ((c.toNat : Int) == 95) = b3 at *
  cases b1 <;> cases b2 <;> skip
  all_goals (repeat' (first
    | with_reducible first | apply swp_seq | apply swp_reg | apply swp_regD | apply swp_block | apply swp_exit | apply swp_ret | apply swp_skip | apply swp_cd
    | simp only [go_sem, seval, P53, q53, hb3]
    | ((with_reducible refine o_call (c1) ?he ?hc ?_); (case he | hc => first | rfl | (simp [D.erL, D.er, D.closedL, D.closed]; done)))
    | ((with_reducible refine o_call (c2) ?he ?hc ?_); (case he | hc => first | rfl | (simp [D.erL, D.er, D.closedL, D.closed]; done)))
    | with_reducible first | apply cd_dec | apply cd_eq | apply cd_ne | apply cd_split | apply gd_dec | apply gd_eq | apply gd_ne | apply gd_split
    | ((with_reducible refine And.intro ?hw ?_); (case hw => first | omega | rfl | exact ⟨_, _, rfl⟩ | assumption | (simp only [lN] <;> omega)))
    | with_reducible intro _))
  all_goals first | done | simp [D.closed, D.er]
theorem nameOk_ref (s : List UInt8) : nameOk s = (s.all wordB && decide (0 < s.length) && decide (s.length ≤ 24) && isLet (s.getD 0 0)) := by
  cases s with
  | nil => rfl
  | cons c r =>
    rw [nameOk]
    have e : (fun c => isLet c || isDig c || c == 95) = wordB := by funext c; rw [wordB, is95]
    rw [e]
    simp only [List.all_cons, List.length_cons, List.getD_cons_zero]
    have : wordB c = (isLet c || (isDig c || ((c.toNat : Int) == 95))) := by rw [wordB, Bool.or_assoc]
    rw [this]
    cases isLet c <;> simp
theorem all_get {s : List UInt8} {i : Nat} (h : i < s.length) : s.getD i 0 = s[i] := by simp [List.getD, h]
theorem refName_p (s : List UInt8) (hs : s.length ≤ 9223372036854775807) : Pur M 41 [.str s] (.bool (nameOk s)) := by
  refine ok41 rfl ?_
  rw [i41]
  unfold c41
  rw [nameOk_ref]
  repeat' (first
    | with_reducible first | apply swp_seq | apply swp_reg | apply swp_regD | apply swp_block | apply swp_exit | apply swp_ret | apply swp_skip | apply swp_cd
    | simp only [go_sem, seval, P41, q41]
    | with_reducible first | apply cd_dec | apply cd_eq | apply cd_ne | apply cd_split | apply gd_dec | apply gd_eq | apply gd_ne | apply gd_split
    | ((with_reducible refine And.intro ?hw ?_); (case hw => first | omega | rfl | exact ⟨_, _, rfl⟩ | assumption | (simp only [lN] <;> omega)))
    | with_reducible intro _)
  refine swp_fam [0, 2] (fun i : Nat => ⟨[.str s, .undef, .int .i64 i, .undef, .undef], [], ⟨[], []⟩⟩) (fun i => i ≤ s.length ∧ ∀ j (h : j < s.length), j < i → wordB s[j] = true) (fun i => s.length + 1 - i) 0 ⟨by omega, fun j h g => by omega⟩ ?_ ?_
  · simp [keepE, St.keep]
  · rintro i ⟨hi, hb⟩
    by_cases hil : i < s.length
    · have c1 := word_p s[i]
      have hg := all_get hil
      cases hw : wordB s[i]
      · rw [hw] at c1
        have : s.all wordB = false := by
          rw [List.all_eq_false]; exact ⟨s[i], List.getElem_mem hil, by simp [hw]⟩
        rw [this]
        repeat' (first
    | with_reducible first | apply swp_seq | apply swp_reg | apply swp_regD | apply swp_block | apply swp_exit | apply swp_ret | apply swp_skip | apply swp_cd
    | simp only [go_sem, seval, P41, q41, hg]
    | simp (disch := omega) only [w64, w32, wu8, wu16, wu32, wu64]
    | ((with_reducible refine o_call (c1) ?he ?hc ?_); (case he | hc => first | rfl | (simp [D.erL, D.er, D.closedL, D.closed, hg]; done)))
    | with_reducible first | apply cd_dec | apply cd_eq | apply cd_ne | apply cd_split | apply gd_dec | apply gd_eq | apply gd_ne | apply gd_split
    | ((with_reducible refine And.intro ?hw ?_); (case hw => first | omega | rfl | exact ⟨_, _, rfl⟩ | assumption | (simp only [lN, hg] <;> omega)))
    | with_reducible intro _)
        all_goals try omega
        all_goals simp [D.closed, D.er]
      · rw [hw] at c1
        repeat' (first
    | with_reducible first | apply swp_seq | apply swp_reg | apply swp_regD | apply swp_block | apply swp_exit | apply swp_ret | apply swp_skip | apply swp_cd
    | simp only [go_sem, seval, P41, q41, hg]
    | simp (disch := omega) only [w64, w32, wu8, wu16, wu32, wu64]
    | ((with_reducible refine o_call (c1) ?he ?hc ?_); (case he | hc => first | rfl | (simp [D.erL, D.er, D.closedL, D.closed, hg]; done)))
    | with_reducible first | apply cd_dec | apply cd_eq | apply cd_ne | apply cd_split | apply gd_dec | apply gd_eq | apply gd_ne | apply gd_split
    | ((with_reducible refine And.intro ?hw ?_); (case hw => first | omega | rfl | exact ⟨_, _, rfl⟩ | assumption | (simp only [lN, hg] <;> omega)))
    | with_reducible intro _)
        all_goals try omega
        refine ⟨i + 1, ⟨by omega, fun j h g => ?_⟩, by omega, ?_⟩
        · by_cases e : j = i
          · subst e; exact hw
          · exact hb j h (by omega)
        · simp [keepE, St.keep]
    · have hall : s.all wordB = true := by
        rw [List.all_eq_true]
        intro x hx
        obtain ⟨j, hj, rfl⟩ := List.getElem_of_mem hx
        exact hb j hj (by omega)
      rw [hall]
      have c1 := letter_p (s.getD 0 0)
      by_cases h0 : 0 < s.length
      · have t1 : decide (((s.length : Nat) : Int) > 0) = true := by simp; omega
        by_cases h24 : s.length ≤ 24
        · have t2 : decide (((s.length : Nat) : Int) ≤ 24) = true := by simp; omega
          generalize isLet (s.getD 0 0) = b at *
          repeat' (first
    | with_reducible first | apply swp_seq | apply swp_reg | apply swp_regD | apply swp_block | apply swp_exit | apply swp_ret | apply swp_skip | apply swp_cd
    | simp only [go_sem, seval, P41, q41, t1, t2]
    | simp (disch := omega) only [w64, w32, wu8, wu16, wu32, wu64]
    | ((with_reducible refine o_call (c1) ?he ?hc ?_); (case he | hc => first | rfl | (simp [D.erL, D.er, D.closedL, D.closed]; done)))
    | with_reducible first | apply cd_dec | apply cd_eq | apply cd_ne | apply cd_split | apply gd_dec | apply gd_eq | apply gd_ne | apply gd_split
    | ((with_reducible refine And.intro ?hw ?_); (case hw => first | omega | rfl | exact ⟨_, _, rfl⟩ | assumption | (simp only [lN] <;> omega)))
    | with_reducible intro _)
          all_goals try omega
          all_goals simp [D.closed, D.er, h0, h24]
        · have t2 : decide (((s.length : Nat) : Int) ≤ 24) = false := by simp; omega
          repeat' (first
    | with_reducible first | apply swp_seq | apply swp_reg | apply swp_regD | apply swp_block | apply swp_exit | apply swp_ret | apply swp_skip | apply swp_cd
    | simp only [go_sem, seval, P41, q41, t1, t2]
    | simp (disch := omega) only [w64, w32, wu8, wu16, wu32, wu64]
    | ((with_reducible refine o_call (c1) ?he ?hc ?_); (case he | hc => first | rfl | (simp [D.erL, D.er, D.closedL, D.closed]; done)))
    | with_reducible first | apply cd_dec | apply cd_eq | apply cd_ne | apply cd_split | apply gd_dec | apply gd_eq | apply gd_ne | apply gd_split
    | ((with_reducible refine And.intro ?hw ?_); (case hw => first | omega | rfl | exact ⟨_, _, rfl⟩ | assumption | (simp only [lN] <;> omega)))
    | with_reducible intro _)
          all_goals try omega
          all_goals simp [D.closed, D.er, h0, h24]
      · have t1 : decide (((s.length : Nat) : Int) > 0) = false := decide_eq_false (by omega)
        repeat' (first
    | with_reducible first | apply swp_seq | apply swp_reg | apply swp_regD | apply swp_block | apply swp_exit | apply swp_ret | apply swp_skip | apply swp_cd
    | simp only [go_sem, seval, P41, q41, t1]
    | simp (disch := omega) only [w64, w32, wu8, wu16, wu32, wu64]
    | ((with_reducible refine o_call (c1) ?he ?hc ?_); (case he | hc => first | rfl | (simp [D.erL, D.er, D.closedL, D.closed]; done)))
    | with_reducible first | apply cd_dec | apply cd_eq | apply cd_ne | apply cd_split | apply gd_dec | apply gd_eq | apply gd_ne | apply gd_split
    | ((with_reducible refine And.intro ?hw ?_); (case hw => first | omega | rfl | exact ⟨_, _, rfl⟩ | assumption | (simp only [lN] <;> omega)))
    | with_reducible intro _)
        all_goals try omega
        all_goals simp [D.closed, D.er, h0]
theorem refReserved_p (s : List UInt8) : Pur M 99 [.str s] (.bool (words.contains s)) := by
  refine ok99 rfl ?_
  rw [i99]
  unfold c99
  have hw : [D.str [116, 114, 117, 101], .str [110, 111, 116], .str [97, 110, 100], .str [111, 114], .str [108, 105, 109, 105, 116], .str [111, 118, 101, 114], .str [104, 97, 115], .str [115, 108, 111, 116], .str [97, 108, 108], .str [97, 110, 121], .str [97, 116]] = strs words := rfl
  have hwl : words.length = 11 := rfl
  have hsl : (strs words).length = 11 := rfl
  have hcl := cl_strs words
  have her := er_strs words
  repeat' (first
    | with_reducible first | apply swp_seq | apply swp_reg | apply swp_regD | apply swp_block | apply swp_exit | apply swp_ret | apply swp_skip | apply swp_cd
    | simp only [go_sem, seval, P99, q99]
    | ((with_reducible apply s_bsl); (case he | hl | hc => first | rfl | assumption | omega | ((first | refine ⟨?_, ?_⟩ | skip) <;> first | omega | (simp only [lN] <;> omega)) | (simp [elemsK, D.isVal, D.cells, D.closedL, D.closed]; first | done | omega)))
    | with_reducible first | apply cd_dec | apply cd_eq | apply cd_ne | apply cd_split
    | ((with_reducible refine And.intro ?hw ?_); (case hw => first | omega | rfl | exact ⟨_, _, rfl⟩ | assumption | (simp only [lN] <;> omega)))
    | with_reducible intro _)
  rw [hw]
  generalize hW : words = W at *
  refine swp_fam [0, 2, 3] (fun i : Nat => ⟨[.str s, .undef, .slice (strs W) .full, .int .i64 i, .undef, .undef], [], ⟨[], []⟩⟩) (fun i => i ≤ 11 ∧ ∀ j (h : j < W.length), j < i → W[j] ≠ s) (fun i => 12 - i) 0 ⟨by omega, fun j h g => by omega⟩ ?_ ?_
  · simp [keepE, St.keep]
  · rintro i ⟨hi, hb⟩
    by_cases hil : i < 11
    · have hil' : i < W.length := by rw [hwl]; exact hil
      have hg : (strs W).getD i .undef = .str W[i] := by simp [strs, List.getD, hil']
      by_cases he : W[i] = s
      · have t1 : (W[i] == s) = true := by simp [he]
        have hc : W.contains s = true := by simp; exact he ▸ List.getElem_mem hil'
        rw [hc]
        repeat' (first
    | with_reducible first | apply swp_seq | apply swp_reg | apply swp_regD | apply swp_block | apply swp_exit | apply swp_ret | apply swp_skip | apply swp_cd
    | simp only [go_sem, seval, P99, q99, hsl, hg, t1]
    | simp (disch := omega) only [w64, w32, wu8, wu16, wu32, wu64]
    | ((with_reducible apply s_bsl); (case he | hl | hc => first | rfl | assumption | omega | ((first | refine ⟨?_, ?_⟩ | skip) <;> first | omega | (simp only [lN, hsl, hg] <;> omega)) | (simp [elemsK, D.isVal, D.cells, D.closedL, D.closed, hsl, hg]; first | done | omega)))
    | with_reducible first | apply cd_dec | apply cd_eq | apply cd_ne | apply cd_split
    | ((with_reducible refine And.intro ?hw ?_); (case hw => first | omega | rfl | exact ⟨_, _, rfl⟩ | assumption | (simp only [lN, hsl, hg] <;> omega)))
    | with_reducible intro _)
        all_goals try omega
        all_goals simp [D.closed, D.er]
      · have t1 : (W[i] == s) = false := by simp [he]
        repeat' (first
    | with_reducible first | apply swp_seq | apply swp_reg | apply swp_regD | apply swp_block | apply swp_exit | apply swp_ret | apply swp_skip | apply swp_cd
    | simp only [go_sem, seval, P99, q99, hsl, hg, t1]
    | simp (disch := omega) only [w64, w32, wu8, wu16, wu32, wu64]
    | ((with_reducible apply s_bsl); (case he | hl | hc => first | rfl | assumption | omega | ((first | refine ⟨?_, ?_⟩ | skip) <;> first | omega | (simp only [lN, hsl, hg] <;> omega)) | (simp [elemsK, D.isVal, D.cells, D.closedL, D.closed, hsl, hg]; first | done | omega)))
    | with_reducible first | apply cd_dec | apply cd_eq | apply cd_ne | apply cd_split
    | ((with_reducible refine And.intro ?hw ?_); (case hw => first | omega | rfl | exact ⟨_, _, rfl⟩ | assumption | (simp only [lN, hsl, hg] <;> omega)))
    | with_reducible intro _)
        all_goals try omega
        refine ⟨i + 1, ⟨by omega, fun j h g => ?_⟩, by omega, ?_⟩
        · by_cases e : j = i
          · subst e; exact he
          · exact hb j h (by omega)
        · simp [keepE, St.keep]
    · have hc : W.contains s = false := by
        cases e : W.contains s with
        | false => rfl
        | true =>
          simp at e
          obtain ⟨j, hj, e2⟩ := List.getElem_of_mem e
          exact absurd e2 (hb j hj (by omega))
      rw [hc]
      repeat' (first
    | with_reducible first | apply swp_seq | apply swp_reg | apply swp_regD | apply swp_block | apply swp_exit | apply swp_ret | apply swp_skip | apply swp_cd
    | simp only [go_sem, seval, P99, q99, hsl]
    | simp (disch := omega) only [w64, w32, wu8, wu16, wu32, wu64]
    | ((with_reducible apply s_bsl); (case he | hl | hc => first | rfl | assumption | omega | ((first | refine ⟨?_, ?_⟩ | skip) <;> first | omega | (simp only [lN, hsl] <;> omega)) | (simp [elemsK, D.isVal, D.cells, D.closedL, D.closed, hsl]; first | done | omega)))
    | with_reducible first | apply cd_dec | apply cd_eq | apply cd_ne | apply cd_split
    | ((with_reducible refine And.intro ?hw ?_); (case hw => first | omega | rfl | exact ⟨_, _, rfl⟩ | assumption | (simp only [lN, hsl] <;> omega)))
    | with_reducible intro _)
      all_goals try omega
      all_goals simp [D.closed, D.er]
theorem refNum_p (n low : Int) : Pur M 100 [.int .i64 n, .int .i64 low] (.bool (numOk n low)) := by
  refine ok100 rfl ?_
  rw [i100]
  unfold c100
  have e : numOk n low = (decide (n ≥ low) && decide (n ≤ 9999999)) := rfl
  rw [e]
  repeat' (first
    | with_reducible first | apply swp_seq | apply swp_reg | apply swp_regD | apply swp_block | apply swp_exit | apply swp_ret | apply swp_skip | apply swp_cd
    | simp only [go_sem, seval, P100, q100]
    | with_reducible first | apply cd_dec | apply cd_eq | apply cd_ne | apply cd_split | apply gd_dec | apply gd_eq | apply gd_ne | apply gd_split
    | ((with_reducible refine And.intro ?hw ?_); (case hw => first | omega | rfl | exact ⟨_, _, rfl⟩ | assumption | (simp only [lN] <;> omega)))
    | with_reducible intro _)
  all_goals first | omega | (simp_all [D.closed, D.er, D.closedL, D.erL]; done) | (simp_all [D.closed, D.er, D.closedL, D.erL] <;> omega)
end Go.Proofs.Ytnooagipikedeaa
end
section
set_option maxRecDepth 100000
set_option linter.unusedSimpArgs false
set_option linter.unusedVariables false
namespace Go.Proofs.Ytnooagipikedeaa
open Go GoV Go.RowKit
set_option maxHeartbeats 4000000 in
theorem refNode_p (x : X) (hn : x.nam.length ≤ 9223372036854775807) (hv : x.val.length ≤ 9223372036854775807) : Pur M 85 [x.d] (.bool (nodeOk x.op x.nam x.val x.num x.ext x.kids.length)) := by
  refine ok85 rfl ?_
  rw [i85]
  unfold c85
  have c1 := refName_p x.nam hn
  have c2 := refName_p x.val hv
  have c3 := refReserved_p x.nam
  have c4 := refNum_p x.num 0
  have c5 := refNum_p x.num 1
  have c6 := refNum_p x.ext 0
  have hcl := closedL_X x.kids
  have her := erL_X x.kids
  have hl : (x.kids.map X.d).length = x.kids.length := by simp
  rw [X.d_eq]
  unfold X.cells
  obtain ⟨op, nm, vl, n, ex, ks⟩ := x
  simp only [X.op, X.nam, X.val, X.num, X.ext, X.kids] at *
  generalize ks.map X.d = K at *
  generalize ks.length = kl at *
  have z0 : decide ((kl : Int) < 0) = false := by simp
  have z1 : decide ((kl : Int) < 1) = (kl == 0) := by rw [Bool.eq_iff_iff]; simp; omega
  have z2 : decide ((kl : Int) < 2) = !decide (1 < kl) := by rw [Bool.eq_iff_iff]; simp; omega
  have z3 : decide ((kl : Int) > 0) = !(kl == 0) := by rw [Bool.eq_iff_iff]; simp; omega
  have z4 : decide ((kl : Int) > 1) = decide (1 < kl) := by rw [Bool.eq_iff_iff]; simp; omega
  have hk1 : (kl == 1) = (!(kl == 0) && !decide (1 < kl)) := by rw [Bool.eq_iff_iff]; simp; omega
  have w1 : decide ((vl.length : Int) ≥ 1) = !(vl == []) := by cases vl <;> simp <;> omega
  have w2 : decide ((vl.length : Int) ≤ 200) = decide (vl.length ≤ 200) := by rw [decide_eq_decide]; omega
  have e0 : (nm != []) = !(nm == []) := rfl
  have hk01 : (kl == 0) = true → decide (1 < kl) = true → False := by simp; omega
  unfold nodeOk
  rw [hk1]
  generalize nameOk nm = bn at *
  generalize nameOk vl = bv at *
  generalize words.contains nm = bw at *
  generalize numOk n 0 = b0 at *
  generalize numOk n 1 = b1 at *
  generalize hbx : numOk ex 0 = bx at *
  generalize hq1 : (nm == []) = q1 at *
  generalize hq2 : (vl == []) = q2 at *
  generalize hq3 : (n == 0) = q3 at *
  generalize hq4 : (ex == 0) = q4 at *
  generalize hq5 : decide (vl.length ≤ 200) = q5 at *
  generalize (kl == 0) = p0 at *
  generalize decide (1 < kl) = p1 at *
  by_cases h1 : op = 1
  · subst h1
    repeat' (first
    | with_reducible first | apply swp_seq | apply swp_reg | apply swp_regD | apply swp_block | apply swp_exit | apply swp_ret | apply swp_skip | apply swp_cd
    | simp only [go_sem, seval, P85, q85, hl, z0, z1, z2, z3, z4, w1, w2, e0, hq1, hq2, hq3, hq4]
    | ((with_reducible refine o_call (c1) ?he ?hc ?_); (case he | hc => first | rfl | (simp [D.erL, D.er, D.closedL, D.closed]; done)))
    | ((with_reducible refine o_call (c2) ?he ?hc ?_); (case he | hc => first | rfl | (simp [D.erL, D.er, D.closedL, D.closed]; done)))
    | ((with_reducible refine o_call (c3) ?he ?hc ?_); (case he | hc => first | rfl | (simp [D.erL, D.er, D.closedL, D.closed]; done)))
    | ((with_reducible refine o_call (c4) ?he ?hc ?_); (case he | hc => first | rfl | (simp [D.erL, D.er, D.closedL, D.closed]; done)))
    | ((with_reducible refine o_call (c5) ?he ?hc ?_); (case he | hc => first | rfl | (simp [D.erL, D.er, D.closedL, D.closed]; done)))
    | ((with_reducible refine o_call (c6) ?he ?hc ?_); (case he | hc => first | rfl | (simp [D.erL, D.er, D.closedL, D.closed]; done)))
    | with_reducible first | apply cd_dec | apply cd_eq | apply cd_ne | apply cd_split | apply gd_dec | apply gd_eq | apply gd_ne | apply gd_split
    | ((with_reducible refine And.intro ?hw ?_); (case hw => first | omega | rfl | exact ⟨_, _, rfl⟩ | assumption | (simp only [lN] <;> omega)))
    | with_reducible intro _)
    all_goals (simp_all [D.closed, D.er]; done)
  by_cases h2 : op = 2
  · subst h2
    repeat' (first
    | with_reducible first | apply swp_seq | apply swp_reg | apply swp_regD | apply swp_block | apply swp_exit | apply swp_ret | apply swp_skip | apply swp_cd
    | simp only [go_sem, seval, P85, q85, hl, z0, z1, z2, z3, z4, w1, w2, e0, hq1, hq2, hq3, hq4]
    | ((with_reducible refine o_call (c1) ?he ?hc ?_); (case he | hc => first | rfl | (simp [D.erL, D.er, D.closedL, D.closed]; done)))
    | ((with_reducible refine o_call (c2) ?he ?hc ?_); (case he | hc => first | rfl | (simp [D.erL, D.er, D.closedL, D.closed]; done)))
    | ((with_reducible refine o_call (c3) ?he ?hc ?_); (case he | hc => first | rfl | (simp [D.erL, D.er, D.closedL, D.closed]; done)))
    | ((with_reducible refine o_call (c4) ?he ?hc ?_); (case he | hc => first | rfl | (simp [D.erL, D.er, D.closedL, D.closed]; done)))
    | ((with_reducible refine o_call (c5) ?he ?hc ?_); (case he | hc => first | rfl | (simp [D.erL, D.er, D.closedL, D.closed]; done)))
    | ((with_reducible refine o_call (c6) ?he ?hc ?_); (case he | hc => first | rfl | (simp [D.erL, D.er, D.closedL, D.closed]; done)))
    | with_reducible first | apply cd_dec | apply cd_eq | apply cd_ne | apply cd_split | apply gd_dec | apply gd_eq | apply gd_ne | apply gd_split
    | ((with_reducible refine And.intro ?hw ?_); (case hw => first | omega | rfl | exact ⟨_, _, rfl⟩ | assumption | (simp only [lN] <;> omega)))
    | with_reducible intro _)
    all_goals (simp_all [D.closed, D.er]; done)
  by_cases h3 : op = 3
  · subst h3
    repeat' (first
    | with_reducible first | apply swp_seq | apply swp_reg | apply swp_regD | apply swp_block | apply swp_exit | apply swp_ret | apply swp_skip | apply swp_cd
    | simp only [go_sem, seval, P85, q85, hl, z0, z1, z2, z3, z4, w1, w2, e0, hq1, hq2, hq3, hq4]
    | ((with_reducible refine o_call (c1) ?he ?hc ?_); (case he | hc => first | rfl | (simp [D.erL, D.er, D.closedL, D.closed]; done)))
    | ((with_reducible refine o_call (c2) ?he ?hc ?_); (case he | hc => first | rfl | (simp [D.erL, D.er, D.closedL, D.closed]; done)))
    | ((with_reducible refine o_call (c3) ?he ?hc ?_); (case he | hc => first | rfl | (simp [D.erL, D.er, D.closedL, D.closed]; done)))
    | ((with_reducible refine o_call (c4) ?he ?hc ?_); (case he | hc => first | rfl | (simp [D.erL, D.er, D.closedL, D.closed]; done)))
    | ((with_reducible refine o_call (c5) ?he ?hc ?_); (case he | hc => first | rfl | (simp [D.erL, D.er, D.closedL, D.closed]; done)))
    | ((with_reducible refine o_call (c6) ?he ?hc ?_); (case he | hc => first | rfl | (simp [D.erL, D.er, D.closedL, D.closed]; done)))
    | with_reducible first | apply cd_dec | apply cd_eq | apply cd_ne | apply cd_split | apply gd_dec | apply gd_eq | apply gd_ne | apply gd_split
    | ((with_reducible refine And.intro ?hw ?_); (case hw => first | omega | rfl | exact ⟨_, _, rfl⟩ | assumption | (simp only [lN] <;> omega)))
    | with_reducible intro _)
    all_goals (simp_all [D.closed, D.er]; done)
  by_cases h4 : op = 4
  · subst h4
    repeat' (first
    | with_reducible first | apply swp_seq | apply swp_reg | apply swp_regD | apply swp_block | apply swp_exit | apply swp_ret | apply swp_skip | apply swp_cd
    | simp only [go_sem, seval, P85, q85, hl, z0, z1, z2, z3, z4, w1, w2, e0, hq1, hq2, hq3, hq4]
    | ((with_reducible refine o_call (c1) ?he ?hc ?_); (case he | hc => first | rfl | (simp [D.erL, D.er, D.closedL, D.closed]; done)))
    | ((with_reducible refine o_call (c2) ?he ?hc ?_); (case he | hc => first | rfl | (simp [D.erL, D.er, D.closedL, D.closed]; done)))
    | ((with_reducible refine o_call (c3) ?he ?hc ?_); (case he | hc => first | rfl | (simp [D.erL, D.er, D.closedL, D.closed]; done)))
    | ((with_reducible refine o_call (c4) ?he ?hc ?_); (case he | hc => first | rfl | (simp [D.erL, D.er, D.closedL, D.closed]; done)))
    | ((with_reducible refine o_call (c5) ?he ?hc ?_); (case he | hc => first | rfl | (simp [D.erL, D.er, D.closedL, D.closed]; done)))
    | ((with_reducible refine o_call (c6) ?he ?hc ?_); (case he | hc => first | rfl | (simp [D.erL, D.er, D.closedL, D.closed]; done)))
    | with_reducible first | apply cd_dec | apply cd_eq | apply cd_ne | apply cd_split | apply gd_dec | apply gd_eq | apply gd_ne | apply gd_split
    | ((with_reducible refine And.intro ?hw ?_); (case hw => first | omega | rfl | exact ⟨_, _, rfl⟩ | assumption | (simp only [lN] <;> omega)))
    | with_reducible intro _)
    all_goals (simp_all [D.closed, D.er]; done)
  by_cases h5 : op = 5
  · subst h5
    repeat' (first
    | with_reducible first | apply swp_seq | apply swp_reg | apply swp_regD | apply swp_block | apply swp_exit | apply swp_ret | apply swp_skip | apply swp_cd
    | simp only [go_sem, seval, P85, q85, hl, z0, z1, z2, z3, z4, w1, w2, e0, hq1, hq2, hq3, hq4]
    | ((with_reducible refine o_call (c1) ?he ?hc ?_); (case he | hc => first | rfl | (simp [D.erL, D.er, D.closedL, D.closed]; done)))
    | ((with_reducible refine o_call (c2) ?he ?hc ?_); (case he | hc => first | rfl | (simp [D.erL, D.er, D.closedL, D.closed]; done)))
    | ((with_reducible refine o_call (c3) ?he ?hc ?_); (case he | hc => first | rfl | (simp [D.erL, D.er, D.closedL, D.closed]; done)))
    | ((with_reducible refine o_call (c4) ?he ?hc ?_); (case he | hc => first | rfl | (simp [D.erL, D.er, D.closedL, D.closed]; done)))
    | ((with_reducible refine o_call (c5) ?he ?hc ?_); (case he | hc => first | rfl | (simp [D.erL, D.er, D.closedL, D.closed]; done)))
    | ((with_reducible refine o_call (c6) ?he ?hc ?_); (case he | hc => first | rfl | (simp [D.erL, D.er, D.closedL, D.closed]; done)))
    | with_reducible first | apply cd_dec | apply cd_eq | apply cd_ne | apply cd_split | apply gd_dec | apply gd_eq | apply gd_ne | apply gd_split
    | ((with_reducible refine And.intro ?hw ?_); (case hw => first | omega | rfl | exact ⟨_, _, rfl⟩ | assumption | (simp only [lN] <;> omega)))
    | with_reducible intro _)
    all_goals (simp_all [D.closed, D.er, numOk]; done)
  by_cases h6 : op = 6
  · subst h6
    repeat' (first
    | with_reducible first | apply swp_seq | apply swp_reg | apply swp_regD | apply swp_block | apply swp_exit | apply swp_ret | apply swp_skip | apply swp_cd
    | simp only [go_sem, seval, P85, q85, hl, z0, z1, z2, z3, z4, w1, w2, e0, hq1, hq2, hq3, hq4]
    | ((with_reducible refine o_call (c1) ?he ?hc ?_); (case he | hc => first | rfl | (simp [D.erL, D.er, D.closedL, D.closed]; done)))
    | ((with_reducible refine o_call (c2) ?he ?hc ?_); (case he | hc => first | rfl | (simp [D.erL, D.er, D.closedL, D.closed]; done)))
    | ((with_reducible refine o_call (c3) ?he ?hc ?_); (case he | hc => first | rfl | (simp [D.erL, D.er, D.closedL, D.closed]; done)))
    | ((with_reducible refine o_call (c4) ?he ?hc ?_); (case he | hc => first | rfl | (simp [D.erL, D.er, D.closedL, D.closed]; done)))
    | ((with_reducible refine o_call (c5) ?he ?hc ?_); (case he | hc => first | rfl | (simp [D.erL, D.er, D.closedL, D.closed]; done)))
    | ((with_reducible refine o_call (c6) ?he ?hc ?_); (case he | hc => first | rfl | (simp [D.erL, D.er, D.closedL, D.closed]; done)))
    | with_reducible first | apply cd_dec | apply cd_eq | apply cd_ne | apply cd_split | apply gd_dec | apply gd_eq | apply gd_ne | apply gd_split
    | ((with_reducible refine And.intro ?hw ?_); (case hw => first | omega | rfl | exact ⟨_, _, rfl⟩ | assumption | (simp only [lN] <;> omega)))
    | with_reducible intro _)
    all_goals (simp_all [D.closed, D.er]; done)
  by_cases h7 : op = 7
  · subst h7
    repeat' (first
    | with_reducible first | apply swp_seq | apply swp_reg | apply swp_regD | apply swp_block | apply swp_exit | apply swp_ret | apply swp_skip | apply swp_cd
    | simp only [go_sem, seval, P85, q85, hl, z0, z1, z2, z3, z4, w1, w2, e0, hq1, hq2, hq3, hq4]
    | ((with_reducible refine o_call (c1) ?he ?hc ?_); (case he | hc => first | rfl | (simp [D.erL, D.er, D.closedL, D.closed]; done)))
    | ((with_reducible refine o_call (c2) ?he ?hc ?_); (case he | hc => first | rfl | (simp [D.erL, D.er, D.closedL, D.closed]; done)))
    | ((with_reducible refine o_call (c3) ?he ?hc ?_); (case he | hc => first | rfl | (simp [D.erL, D.er, D.closedL, D.closed]; done)))
    | ((with_reducible refine o_call (c4) ?he ?hc ?_); (case he | hc => first | rfl | (simp [D.erL, D.er, D.closedL, D.closed]; done)))
    | ((with_reducible refine o_call (c5) ?he ?hc ?_); (case he | hc => first | rfl | (simp [D.erL, D.er, D.closedL, D.closed]; done)))
    | ((with_reducible refine o_call (c6) ?he ?hc ?_); (case he | hc => first | rfl | (simp [D.erL, D.er, D.closedL, D.closed]; done)))
    | with_reducible first | apply cd_dec | apply cd_eq | apply cd_ne | apply cd_split | apply gd_dec | apply gd_eq | apply gd_ne | apply gd_split
    | ((with_reducible refine And.intro ?hw ?_); (case hw => first | omega | rfl | exact ⟨_, _, rfl⟩ | assumption | (simp only [lN] <;> omega)))
    | with_reducible intro _)
    all_goals (simp_all [D.closed, D.er]; done)
  by_cases h8 : op = 8
  · subst h8
    repeat' (first
    | with_reducible first | apply swp_seq | apply swp_reg | apply swp_regD | apply swp_block | apply swp_exit | apply swp_ret | apply swp_skip | apply swp_cd
    | simp only [go_sem, seval, P85, q85, hl, z0, z1, z2, z3, z4, w1, w2, e0, hq1, hq2, hq3, hq4]
    | ((with_reducible refine o_call (c1) ?he ?hc ?_); (case he | hc => first | rfl | (simp [D.erL, D.er, D.closedL, D.closed]; done)))
    | ((with_reducible refine o_call (c2) ?he ?hc ?_); (case he | hc => first | rfl | (simp [D.erL, D.er, D.closedL, D.closed]; done)))
    | ((with_reducible refine o_call (c3) ?he ?hc ?_); (case he | hc => first | rfl | (simp [D.erL, D.er, D.closedL, D.closed]; done)))
    | ((with_reducible refine o_call (c4) ?he ?hc ?_); (case he | hc => first | rfl | (simp [D.erL, D.er, D.closedL, D.closed]; done)))
    | ((with_reducible refine o_call (c5) ?he ?hc ?_); (case he | hc => first | rfl | (simp [D.erL, D.er, D.closedL, D.closed]; done)))
    | ((with_reducible refine o_call (c6) ?he ?hc ?_); (case he | hc => first | rfl | (simp [D.erL, D.er, D.closedL, D.closed]; done)))
    | with_reducible first | apply cd_dec | apply cd_eq | apply cd_ne | apply cd_split | apply gd_dec | apply gd_eq | apply gd_ne | apply gd_split
    | ((with_reducible refine And.intro ?hw ?_); (case hw => first | omega | rfl | exact ⟨_, _, rfl⟩ | assumption | (simp only [lN] <;> omega)))
    | with_reducible intro _)
    all_goals (simp_all [D.closed, D.er]; done)
  by_cases h9 : op = 9
  · subst h9
    repeat' (first
    | with_reducible first | apply swp_seq | apply swp_reg | apply swp_regD | apply swp_block | apply swp_exit | apply swp_ret | apply swp_skip | apply swp_cd
    | simp only [go_sem, seval, P85, q85, hl, z0, z1, z2, z3, z4, w1, w2, e0, hq1, hq2, hq3, hq4]
    | ((with_reducible refine o_call (c1) ?he ?hc ?_); (case he | hc => first | rfl | (simp [D.erL, D.er, D.closedL, D.closed]; done)))
    | ((with_reducible refine o_call (c2) ?he ?hc ?_); (case he | hc => first | rfl | (simp [D.erL, D.er, D.closedL, D.closed]; done)))
    | ((with_reducible refine o_call (c3) ?he ?hc ?_); (case he | hc => first | rfl | (simp [D.erL, D.er, D.closedL, D.closed]; done)))
    | ((with_reducible refine o_call (c4) ?he ?hc ?_); (case he | hc => first | rfl | (simp [D.erL, D.er, D.closedL, D.closed]; done)))
    | ((with_reducible refine o_call (c5) ?he ?hc ?_); (case he | hc => first | rfl | (simp [D.erL, D.er, D.closedL, D.closed]; done)))
    | ((with_reducible refine o_call (c6) ?he ?hc ?_); (case he | hc => first | rfl | (simp [D.erL, D.er, D.closedL, D.closed]; done)))
    | with_reducible first | apply cd_dec | apply cd_eq | apply cd_ne | apply cd_split | apply gd_dec | apply gd_eq | apply gd_ne | apply gd_split
    | ((with_reducible refine And.intro ?hw ?_); (case hw => first | omega | rfl | exact ⟨_, _, rfl⟩ | assumption | (simp only [lN] <;> omega)))
    | with_reducible intro _)
    all_goals (simp_all [D.closed, D.er]; done)
  by_cases h10 : op = 10
  · subst h10
    repeat' (first
    | with_reducible first | apply swp_seq | apply swp_reg | apply swp_regD | apply swp_block | apply swp_exit | apply swp_ret | apply swp_skip | apply swp_cd
    | simp only [go_sem, seval, P85, q85, hl, z0, z1, z2, z3, z4, w1, w2, e0, hq1, hq2, hq3, hq4]
    | ((with_reducible refine o_call (c1) ?he ?hc ?_); (case he | hc => first | rfl | (simp [D.erL, D.er, D.closedL, D.closed]; done)))
    | ((with_reducible refine o_call (c2) ?he ?hc ?_); (case he | hc => first | rfl | (simp [D.erL, D.er, D.closedL, D.closed]; done)))
    | ((with_reducible refine o_call (c3) ?he ?hc ?_); (case he | hc => first | rfl | (simp [D.erL, D.er, D.closedL, D.closed]; done)))
    | ((with_reducible refine o_call (c4) ?he ?hc ?_); (case he | hc => first | rfl | (simp [D.erL, D.er, D.closedL, D.closed]; done)))
    | ((with_reducible refine o_call (c5) ?he ?hc ?_); (case he | hc => first | rfl | (simp [D.erL, D.er, D.closedL, D.closed]; done)))
    | ((with_reducible refine o_call (c6) ?he ?hc ?_); (case he | hc => first | rfl | (simp [D.erL, D.er, D.closedL, D.closed]; done)))
    | with_reducible first | apply cd_dec | apply cd_eq | apply cd_ne | apply cd_split | apply gd_dec | apply gd_eq | apply gd_ne | apply gd_split
    | ((with_reducible refine And.intro ?hw ?_); (case hw => first | omega | rfl | exact ⟨_, _, rfl⟩ | assumption | (simp only [lN] <;> omega)))
    | with_reducible intro _)
    all_goals (simp_all [D.closed, D.er]; done)
  by_cases h11 : op = 11
  · subst h11
    repeat' (first
    | with_reducible first | apply swp_seq | apply swp_reg | apply swp_regD | apply swp_block | apply swp_exit | apply swp_ret | apply swp_skip | apply swp_cd
    | simp only [go_sem, seval, P85, q85, hl, z0, z1, z2, z3, z4, w1, w2, e0, hq1, hq2, hq3, hq4]
    | ((with_reducible refine o_call (c1) ?he ?hc ?_); (case he | hc => first | rfl | (simp [D.erL, D.er, D.closedL, D.closed]; done)))
    | ((with_reducible refine o_call (c2) ?he ?hc ?_); (case he | hc => first | rfl | (simp [D.erL, D.er, D.closedL, D.closed]; done)))
    | ((with_reducible refine o_call (c3) ?he ?hc ?_); (case he | hc => first | rfl | (simp [D.erL, D.er, D.closedL, D.closed]; done)))
    | ((with_reducible refine o_call (c4) ?he ?hc ?_); (case he | hc => first | rfl | (simp [D.erL, D.er, D.closedL, D.closed]; done)))
    | ((with_reducible refine o_call (c5) ?he ?hc ?_); (case he | hc => first | rfl | (simp [D.erL, D.er, D.closedL, D.closed]; done)))
    | ((with_reducible refine o_call (c6) ?he ?hc ?_); (case he | hc => first | rfl | (simp [D.erL, D.er, D.closedL, D.closed]; done)))
    | with_reducible first | apply cd_dec | apply cd_eq | apply cd_ne | apply cd_split | apply gd_dec | apply gd_eq | apply gd_ne | apply gd_split
    | ((with_reducible refine And.intro ?hw ?_); (case hw => first | omega | rfl | exact ⟨_, _, rfl⟩ | assumption | (simp only [lN] <;> omega)))
    | with_reducible intro _)
    all_goals (simp_all [D.closed, D.er]; done)
  by_cases h12 : op = 12
  · subst h12
    repeat' (first
    | with_reducible first | apply swp_seq | apply swp_reg | apply swp_regD | apply swp_block | apply swp_exit | apply swp_ret | apply swp_skip | apply swp_cd
    | simp only [go_sem, seval, P85, q85, hl, z0, z1, z2, z3, z4, w1, w2, e0, hq1, hq2, hq3, hq4]
    | ((with_reducible refine o_call (c1) ?he ?hc ?_); (case he | hc => first | rfl | (simp [D.erL, D.er, D.closedL, D.closed]; done)))
    | ((with_reducible refine o_call (c2) ?he ?hc ?_); (case he | hc => first | rfl | (simp [D.erL, D.er, D.closedL, D.closed]; done)))
    | ((with_reducible refine o_call (c3) ?he ?hc ?_); (case he | hc => first | rfl | (simp [D.erL, D.er, D.closedL, D.closed]; done)))
    | ((with_reducible refine o_call (c4) ?he ?hc ?_); (case he | hc => first | rfl | (simp [D.erL, D.er, D.closedL, D.closed]; done)))
    | ((with_reducible refine o_call (c5) ?he ?hc ?_); (case he | hc => first | rfl | (simp [D.erL, D.er, D.closedL, D.closed]; done)))
    | ((with_reducible refine o_call (c6) ?he ?hc ?_); (case he | hc => first | rfl | (simp [D.erL, D.er, D.closedL, D.closed]; done)))
    | with_reducible first | apply cd_dec | apply cd_eq | apply cd_ne | apply cd_split | apply gd_dec | apply gd_eq | apply gd_ne | apply gd_split
    | ((with_reducible refine And.intro ?hw ?_); (case hw => first | omega | rfl | exact ⟨_, _, rfl⟩ | assumption | (simp only [lN] <;> omega)))
    | with_reducible intro _)
    all_goals (simp_all [D.closed, D.er]; done)
  have hr : ¬ (op ≥ 1 ∧ op ≤ 12) := by omega
  simp only [h1, h2, h3, h4, h5, h6, h7, h8, h9, h10, h11, h12, if_false, false_or]
  by_cases g1 : op < 1
  · have t1 : decide (op < 1) = true := by simpa using g1
    repeat' (first
    | with_reducible first | apply swp_seq | apply swp_reg | apply swp_regD | apply swp_block | apply swp_exit | apply swp_ret | apply swp_skip | apply swp_cd
    | simp only [go_sem, seval, P85, q85, t1]
    | with_reducible first | apply cd_dec | apply cd_eq | apply cd_ne | apply cd_split | apply gd_dec | apply gd_eq | apply gd_ne | apply gd_split
    | ((with_reducible refine And.intro ?hw ?_); (case hw => first | omega | rfl | exact ⟨_, _, rfl⟩ | assumption | (simp only [lN] <;> omega)))
    | with_reducible intro _)
    all_goals simp [D.closed, D.er]
  · have t1 : decide (op < 1) = false := by simpa using g1
    have t2 : decide (op > 12) = true := by simp; omega
    repeat' (first
    | with_reducible first | apply swp_seq | apply swp_reg | apply swp_regD | apply swp_block | apply swp_exit | apply swp_ret | apply swp_skip | apply swp_cd
    | simp only [go_sem, seval, P85, q85, t1, t2]
    | with_reducible first | apply cd_dec | apply cd_eq | apply cd_ne | apply cd_split | apply gd_dec | apply gd_eq | apply gd_ne | apply gd_split
    | ((with_reducible refine And.intro ?hw ?_); (case hw => first | omega | rfl | exact ⟨_, _, rfl⟩ | assumption | (simp only [lN] <;> omega)))
    | with_reducible intro _)
    all_goals simp [D.closed, D.er]
theorem refGood_p : ∀ (k : Nat) (x : X), x.nodes ≤ k → x.sm → Pur M 56 [x.d] (.bool (well x))
  | 0, x, hk, _ => by have := nodes_pos x; omega
  | k + 1, x, hk, hs => by
    obtain ⟨s1, s2, s3, s4⟩ := X.sm_parts hs
    have c1 := refNode_p x (by omega) (by omega)
    have ih : ∀ y ∈ x.kids, Pur M 56 [y.d] (.bool (well y)) := fun y hy => refGood_p k y (by have := kid_nodes hy; omega) (s3 y hy)
    refine ok56 rfl ?_
    rw [i56]
    unfold c56
    have hcl := closedL_X x.kids
    have her := erL_X x.kids
    have hla : (x.kids.map X.d).length = x.kids.length := by simp
    rw [X.well_eq, wellL_all]
    rw [X.d_eq] at c1 ⊢
    cases hno : nodeOk x.op x.nam x.val x.num x.ext x.kids.length
    · rw [hno] at c1
      repeat' (first
    | with_reducible first | apply swp_seq | apply swp_reg | apply swp_regD | apply swp_block | apply swp_exit | apply swp_ret | apply swp_skip | apply swp_cd
    | simp only [go_sem, seval, P56, q56]
    | ((with_reducible refine o_call (c1) ?he ?hc ?_); (case he | hc => first | rfl | (simp [D.erL, D.er, D.closedL, D.closed, hcl, her]; done)))
    | with_reducible first | apply cd_dec | apply cd_eq | apply cd_ne | apply cd_split
    | ((with_reducible refine And.intro ?hw ?_); (case hw => first | omega | rfl | exact ⟨_, _, rfl⟩ | assumption | (simp only [lN, hcl, her] <;> omega)))
    | with_reducible intro _)
      all_goals simp [D.closed, D.er]
    · rw [hno] at c1
      repeat' (first
    | with_reducible first | apply swp_seq | apply swp_reg | apply swp_regD | apply swp_block | apply swp_exit | apply swp_ret | apply swp_skip | apply swp_cd
    | simp only [go_sem, seval, P56, q56]
    | ((with_reducible refine o_call (c1) ?he ?hc ?_); (case he | hc => first | rfl | (simp [D.erL, D.er, D.closedL, D.closed, hcl, her]; done)))
    | with_reducible first | apply cd_dec | apply cd_eq | apply cd_ne | apply cd_split
    | ((with_reducible refine And.intro ?hw ?_); (case hw => first | omega | rfl | exact ⟨_, _, rfl⟩ | assumption | (simp only [lN, hcl, her] <;> omega)))
    | with_reducible intro _)
      refine swp_fam [0, 1, 3] (fun i : Nat => ⟨[.agg x.cells, .ptr 0 0, .undef, .int .i64 i, .undef, .undef, .undef], [], ⟨[.cells x.cells], []⟩⟩)
        (fun i => i ≤ x.kids.length ∧ ∀ j (h1 : j < x.kids.length), j < i → well x.kids[j] = true) (fun i => x.kids.length + 1 - i) 0 ⟨by omega, fun j h g => by omega⟩ ?_ ?_
      · simp [keepE, St.keep]
      · rintro i ⟨hi, hb⟩
        by_cases hil : i < x.kids.length
        · have c2 := ih _ (List.getElem_mem hil)
          have g1 := X_get hil
          have a3 := closedL_X (x.kids[i]).kids
          have a4 := erL_X (x.kids[i]).kids
          rw [X.d_eq] at c2
          cases hx : well x.kids[i]
          · rw [hx] at c2
            have : x.kids.all well = false := by
              rw [List.all_eq_false]; exact ⟨_, List.getElem_mem hil, by simp [hx]⟩
            rw [this]
            repeat' (first
    | with_reducible first | apply swp_seq | apply swp_reg | apply swp_regD | apply swp_block | apply swp_exit | apply swp_ret | apply swp_skip | apply swp_cd
    | simp only [go_sem, seval, P56, q56, hla, g1]
    | simp (disch := omega) only [w64, w32, wu8, wu16, wu32, wu64]
    | ((with_reducible refine o_call (c2) ?he ?hc ?_); (case he | hc => first | rfl | (simp [D.erL, D.er, D.closedL, D.closed, hla, g1, a3, a4]; done)))
    | with_reducible first | apply cd_dec | apply cd_eq | apply cd_ne | apply cd_split
    | ((with_reducible refine And.intro ?hw ?_); (case hw => first | omega | rfl | exact ⟨_, _, rfl⟩ | assumption | (simp only [lN, hla, g1, a3, a4] <;> omega)))
    | with_reducible intro _)
            all_goals try omega
            all_goals simp [D.closed, D.er]
          · rw [hx] at c2
            repeat' (first
    | with_reducible first | apply swp_seq | apply swp_reg | apply swp_regD | apply swp_block | apply swp_exit | apply swp_ret | apply swp_skip | apply swp_cd
    | simp only [go_sem, seval, P56, q56, hla, g1]
    | simp (disch := omega) only [w64, w32, wu8, wu16, wu32, wu64]
    | ((with_reducible refine o_call (c2) ?he ?hc ?_); (case he | hc => first | rfl | (simp [D.erL, D.er, D.closedL, D.closed, hla, g1, a3, a4]; done)))
    | with_reducible first | apply cd_dec | apply cd_eq | apply cd_ne | apply cd_split
    | ((with_reducible refine And.intro ?hw ?_); (case hw => first | omega | rfl | exact ⟨_, _, rfl⟩ | assumption | (simp only [lN, hla, g1, a3, a4] <;> omega)))
    | with_reducible intro _)
            all_goals try omega
            refine ⟨i + 1, ⟨by omega, fun j h g => ?_⟩, by omega, ?_⟩
            · by_cases e : j = i
              · subst e; exact hx
              · exact hb j h (by omega)
            · simp [keepE, St.keep]
        · have hall : x.kids.all well = true := by
            rw [List.all_eq_true]
            intro y hy
            obtain ⟨j, hj, rfl⟩ := List.getElem_of_mem hy
            exact hb j hj (by omega)
          rw [hall]
          repeat' (first
    | with_reducible first | apply swp_seq | apply swp_reg | apply swp_regD | apply swp_block | apply swp_exit | apply swp_ret | apply swp_skip | apply swp_cd
    | simp only [go_sem, seval, P56, q56, hla]
    | simp (disch := omega) only [w64, w32, wu8, wu16, wu32, wu64]
    | with_reducible first | apply cd_dec | apply cd_eq | apply cd_ne | apply cd_split
    | ((with_reducible refine And.intro ?hw ?_); (case hw => first | omega | rfl | exact ⟨_, _, rfl⟩ | assumption | (simp only [lN] <;> omega)))
    | with_reducible intro _)
          all_goals try omega
          all_goals simp [D.closed, D.er]
theorem refCondOk_p (x : X) (hs : x.sm) : Pur M 42 [x.d] (.bool (validF x)) := by
  refine ok42 rfl ?_
  rw [i42]
  unfold c42
  have c1 := nodes_p x.nodes x (Nat.le_refl _) 60 (by omega)
  have c2 := refGood_p x.nodes x (Nat.le_refl _) hs
  have hcl := closedL_X x.kids
  have her := erL_X x.kids
  unfold validF
  rw [X.d_eq] at c1 c2 ⊢
  generalize well x = b at *
  have hm : decide (((min x.nodes (60 + 1) : Nat) : Int) ≤ 60) = decide (x.nodes ≤ 60) := by rw [decide_eq_decide]; omega
  generalize min x.nodes (60 + 1) = q at *
  generalize decide (x.nodes ≤ 60) = b0 at *
  cases b0 <;> skip
  all_goals (repeat' (first
    | with_reducible first | apply swp_seq | apply swp_reg | apply swp_regD | apply swp_block | apply swp_exit | apply swp_ret | apply swp_skip | apply swp_cd
    | simp only [go_sem, seval, P42, q42, hm]
    | ((with_reducible refine o_call (c1) ?he ?hc ?_); (case he | hc => first | rfl | (simp [D.erL, D.er, D.closedL, D.closed, hcl, her]; done)))
    | ((with_reducible refine o_call (c2) ?he ?hc ?_); (case he | hc => first | rfl | (simp [D.erL, D.er, D.closedL, D.closed, hcl, her]; done)))
    | with_reducible first | apply cd_dec | apply cd_eq | apply cd_ne | apply cd_split | apply gd_dec | apply gd_eq | apply gd_ne | apply gd_split
    | ((with_reducible refine And.intro ?hw ?_); (case hw => first | omega | rfl | exact ⟨_, _, rfl⟩ | assumption | (simp only [lN, hcl, her] <;> omega)))
    | with_reducible intro _))
  all_goals first | done | simp [D.closed, D.er]
theorem refRule_p (r : Rl) (hs : r.sm) : Pur M 32 [rlD r] (.bool (ruleOk r)) := by
  refine ok32 rfl ?_
  rw [i32]
  unfold c32
  have c1 := refName_p r.name hs.1
  have c2 := refName_p r.kind hs.2.1
  have c3 := refCondOk_p r.cond hs.2.2
  have hcl := closedL_X r.cond.kids
  have her := erL_X r.cond.kids
  unfold ruleOk rlD Rl.cells
  rw [X.d_eq] at c3
  generalize validF r.cond = b at *
  generalize nameOk r.name = b1 at *
  generalize nameOk r.kind = b2 at *
  cases b1 <;> cases b2 <;> skip
  all_goals (repeat' (first
    | with_reducible first | apply swp_seq | apply swp_reg | apply swp_regD | apply swp_block | apply swp_exit | apply swp_ret | apply swp_skip | apply swp_cd
    | simp only [go_sem, seval, P32, q32]
    | ((with_reducible refine o_call (c1) ?he ?hc ?_); (case he | hc => first | rfl | (simp [D.erL, D.er, D.closedL, D.closed, hcl, her]; done)))
    | ((with_reducible refine o_call (c2) ?he ?hc ?_); (case he | hc => first | rfl | (simp [D.erL, D.er, D.closedL, D.closed, hcl, her]; done)))
    | ((with_reducible refine o_call (c3) ?he ?hc ?_); (case he | hc => first | rfl | (simp [D.erL, D.er, D.closedL, D.closed, hcl, her]; done)))
    | with_reducible first | apply cd_dec | apply cd_eq | apply cd_ne | apply cd_split | apply gd_dec | apply gd_eq | apply gd_ne | apply gd_split
    | ((with_reducible refine And.intro ?hw ?_); (case hw => first | omega | rfl | exact ⟨_, _, rfl⟩ | assumption | (simp only [lN, hcl, her] <;> omega)))
    | with_reducible intro _))
  all_goals first | done | simp [D.closed, D.er]
theorem refAm_p (a : Am) (hs : a.sm) : Pur M 17 [amD a] (.bool (amOk a)) := by
  refine ok17 rfl ?_
  rw [i17]
  unfold c17
  have c1 := refRule_p a.rule hs
  have hcl := closedL_X a.rule.cond.kids
  have her := erL_X a.rule.cond.kids
  unfold rlD Rl.cells at c1
  unfold amOk amD Am.cells
  generalize ruleOk a.rule = b at *
  generalize hb1 : decide (0 ≤ a.clock) = b1 at *
  generalize hb2 : decide (a.clock ≤ 1000000) = b2 at *
  generalize hb3 : decide (0 ≤ a.frm) = b3 at *
  generalize hb4 : decide (a.frm ≤ a.to) = b4 at *
  generalize hb5 : decide (a.to ≤ 40000) = b5 at *
  have h1 : decide (a.clock ≥ 0) = b1 := hb1
  have h3 : decide (a.frm ≥ 0) = b3 := hb3
  cases b1
  · repeat' (first
    | with_reducible first | apply swp_seq | apply swp_reg | apply swp_regD | apply swp_block | apply swp_exit | apply swp_ret | apply swp_skip | apply swp_cd
    | simp only [go_sem, seval, P17, q17, h1]
    | ((with_reducible refine o_call (c1) ?he ?hc ?_); (case he | hc => first | rfl | (simp [D.erL, D.er, D.closedL, D.closed, hcl, her]; done)))
    | with_reducible first | apply cd_dec | apply cd_eq | apply cd_ne | apply cd_split | apply gd_dec | apply gd_eq | apply gd_ne | apply gd_split
    | ((with_reducible refine And.intro ?hw ?_); (case hw => first | omega | rfl | exact ⟨_, _, rfl⟩ | assumption | (simp only [lN, hcl, her] <;> omega)))
    | with_reducible intro _)
    all_goals first | done | simp [D.closed, D.er]
  cases b2
  · repeat' (first
    | with_reducible first | apply swp_seq | apply swp_reg | apply swp_regD | apply swp_block | apply swp_exit | apply swp_ret | apply swp_skip | apply swp_cd
    | simp only [go_sem, seval, P17, q17, h1, hb2]
    | ((with_reducible refine o_call (c1) ?he ?hc ?_); (case he | hc => first | rfl | (simp [D.erL, D.er, D.closedL, D.closed, hcl, her]; done)))
    | with_reducible first | apply cd_dec | apply cd_eq | apply cd_ne | apply cd_split | apply gd_dec | apply gd_eq | apply gd_ne | apply gd_split
    | ((with_reducible refine And.intro ?hw ?_); (case hw => first | omega | rfl | exact ⟨_, _, rfl⟩ | assumption | (simp only [lN, hcl, her] <;> omega)))
    | with_reducible intro _)
    all_goals first | done | simp [D.closed, D.er]
  cases b3
  · repeat' (first
    | with_reducible first | apply swp_seq | apply swp_reg | apply swp_regD | apply swp_block | apply swp_exit | apply swp_ret | apply swp_skip | apply swp_cd
    | simp only [go_sem, seval, P17, q17, h1, hb2, h3]
    | ((with_reducible refine o_call (c1) ?he ?hc ?_); (case he | hc => first | rfl | (simp [D.erL, D.er, D.closedL, D.closed, hcl, her]; done)))
    | with_reducible first | apply cd_dec | apply cd_eq | apply cd_ne | apply cd_split | apply gd_dec | apply gd_eq | apply gd_ne | apply gd_split
    | ((with_reducible refine And.intro ?hw ?_); (case hw => first | omega | rfl | exact ⟨_, _, rfl⟩ | assumption | (simp only [lN, hcl, her] <;> omega)))
    | with_reducible intro _)
    all_goals first | done | simp [D.closed, D.er]
  cases b4
  · repeat' (first
    | with_reducible first | apply swp_seq | apply swp_reg | apply swp_regD | apply swp_block | apply swp_exit | apply swp_ret | apply swp_skip | apply swp_cd
    | simp only [go_sem, seval, P17, q17, h1, hb2, h3, hb4]
    | ((with_reducible refine o_call (c1) ?he ?hc ?_); (case he | hc => first | rfl | (simp [D.erL, D.er, D.closedL, D.closed, hcl, her]; done)))
    | with_reducible first | apply cd_dec | apply cd_eq | apply cd_ne | apply cd_split | apply gd_dec | apply gd_eq | apply gd_ne | apply gd_split
    | ((with_reducible refine And.intro ?hw ?_); (case hw => first | omega | rfl | exact ⟨_, _, rfl⟩ | assumption | (simp only [lN, hcl, her] <;> omega)))
    | with_reducible intro _)
    all_goals first | done | simp [D.closed, D.er]
  cases b5
  · repeat' (first
    | with_reducible first | apply swp_seq | apply swp_reg | apply swp_regD | apply swp_block | apply swp_exit | apply swp_ret | apply swp_skip | apply swp_cd
    | simp only [go_sem, seval, P17, q17, h1, hb2, h3, hb4, hb5]
    | ((with_reducible refine o_call (c1) ?he ?hc ?_); (case he | hc => first | rfl | (simp [D.erL, D.er, D.closedL, D.closed, hcl, her]; done)))
    | with_reducible first | apply cd_dec | apply cd_eq | apply cd_ne | apply cd_split | apply gd_dec | apply gd_eq | apply gd_ne | apply gd_split
    | ((with_reducible refine And.intro ?hw ?_); (case hw => first | omega | rfl | exact ⟨_, _, rfl⟩ | assumption | (simp only [lN, hcl, her] <;> omega)))
    | with_reducible intro _)
    all_goals first | done | simp [D.closed, D.er]
  · repeat' (first
    | with_reducible first | apply swp_seq | apply swp_reg | apply swp_regD | apply swp_block | apply swp_exit | apply swp_ret | apply swp_skip | apply swp_cd
    | simp only [go_sem, seval, P17, q17, h1, hb2, h3, hb4, hb5]
    | ((with_reducible refine o_call (c1) ?he ?hc ?_); (case he | hc => first | rfl | (simp [D.erL, D.er, D.closedL, D.closed, hcl, her]; done)))
    | with_reducible first | apply cd_dec | apply cd_eq | apply cd_ne | apply cd_split | apply gd_dec | apply gd_eq | apply gd_ne | apply gd_split
    | ((with_reducible refine And.intro ?hw ?_); (case hw => first | omega | rfl | exact ⟨_, _, rfl⟩ | assumption | (simp only [lN, hcl, her] <;> omega)))
    | with_reducible intro _)
    all_goals first | done | simp [D.closed, D.er]
/-! ### Few -/

def fewR (r : Rl) : Bool := decide (IntKind.i64.wrap ((r.name.length : Int) + r.kind.length) ≤ 300) && (decide (r.cond.nodes ≤ 80) && shortB r.cond)
def fewA (l : List Am) : Bool := decide (l.length ≤ 20) && l.all fun a => fewR a.rule
theorem fewR_p (r : Rl) : Pur M 34 [rlD r] (.bool (fewR r)) := by
  refine ok34 rfl ?_
  rw [i34]
  unfold c34
  have c1 := fewc_p r.cond
  have hcl := closedL_X r.cond.kids
  have her := erL_X r.cond.kids
  unfold fewR rlD Rl.cells
  rw [X.d_eq] at c1
  generalize (decide (r.cond.nodes ≤ 80) && shortB r.cond) = b at *
  generalize hb1 : decide (IntKind.i64.wrap ((r.name.length : Int) + r.kind.length) ≤ 300) = b1 at *
  cases b1 <;> skip
  all_goals (repeat' (first
    | with_reducible first | apply swp_seq | apply swp_reg | apply swp_regD | apply swp_block | apply swp_exit | apply swp_ret | apply swp_skip | apply swp_cd
    | simp only [go_sem, seval, P34, q34, hb1]
    | ((with_reducible refine o_call (c1) ?he ?hc ?_); (case he | hc => first | rfl | (simp [D.erL, D.er, D.closedL, D.closed, hcl, her]; done)))
    | with_reducible first | apply cd_dec | apply cd_eq | apply cd_ne | apply cd_split | apply gd_dec | apply gd_eq | apply gd_ne | apply gd_split
    | ((with_reducible refine And.intro ?hw ?_); (case hw => first | omega | rfl | exact ⟨_, _, rfl⟩ | assumption | (simp only [lN, hcl, her] <;> omega)))
    | with_reducible intro _))
  all_goals first | done | simp [D.closed, D.er]
theorem few21_p (l : List Am) : Pur M 21 [amsD l, .int .i64 20] (.bool (fewA l)) := by
  refine ok21 rfl ?_
  rw [i21]
  unfold c21
  have hla : (l.map amD).length = l.length := by simp
  unfold fewA
  by_cases hl : l.length ≤ 20
  · have t1 : decide (((l.length : Nat) : Int) ≤ 20) = true := by simp; omega
    rw [decide_eq_true hl, Bool.true_and]
    repeat' (first
    | with_reducible first | apply swp_seq | apply swp_reg | apply swp_regD | apply swp_block | apply swp_exit | apply swp_ret | apply swp_skip | apply swp_cd
    | simp only [go_sem, seval, P21, q21]
    | with_reducible first | apply cd_dec | apply cd_eq | apply cd_ne | apply cd_split | apply gd_dec | apply gd_eq | apply gd_ne | apply gd_split
    | ((with_reducible refine And.intro ?hw ?_); (case hw => first | omega | rfl | exact ⟨_, _, rfl⟩ | assumption | (simp only [lN] <;> omega)))
    | with_reducible intro _)
    refine swp_fam [0, 1, 3] (fun i : Nat => ⟨[amsD l, .int .i64 20, .undef, .int .i64 i, .undef, .undef], [], ⟨[], []⟩⟩)
      (fun i => i ≤ l.length ∧ ∀ j (h1 : j < l.length), j < i → fewR l[j].rule = true) (fun i => l.length + 1 - i) 0 ⟨by omega, fun j h g => by omega⟩ ?_ ?_
    · simp [keepE, St.keep]
    · rintro i ⟨hi, hb⟩
      by_cases hil : i < l.length
      · have c1 := fewR_p l[i].rule
        have g1 := amsD_get hil
        have a1 := closedL_X (l[i]).rule.cond.kids
        have a2 := erL_X (l[i]).rule.cond.kids
        unfold rlD at c1
        cases hx : fewR l[i].rule
        · rw [hx] at c1
          have : (l.all fun a => fewR a.rule) = false := by
            rw [List.all_eq_false]; exact ⟨_, List.getElem_mem hil, by simp [hx]⟩
          rw [this]
          repeat' (first
    | with_reducible first | apply swp_seq | apply swp_reg | apply swp_regD | apply swp_block | apply swp_exit | apply swp_ret | apply swp_skip | apply swp_cd
    | simp only [go_sem, seval, P21, q21, hla, g1, t1]
    | simp (disch := omega) only [w64, w32, wu8, wu16, wu32, wu64]
    | ((with_reducible refine o_call (c1) ?he ?hc ?_); (case he | hc => first | rfl | (simp [D.erL, D.er, D.closedL, D.closed, hla, g1, a1, a2]; done)))
    | with_reducible first | apply cd_dec | apply cd_eq | apply cd_ne | apply cd_split | apply gd_dec | apply gd_eq | apply gd_ne | apply gd_split
    | ((with_reducible refine And.intro ?hw ?_); (case hw => first | omega | rfl | exact ⟨_, _, rfl⟩ | assumption | (simp only [lN, hla, g1, a1, a2] <;> omega)))
    | with_reducible intro _)
          all_goals try omega
          all_goals simp [D.closed, D.er]
        · rw [hx] at c1
          repeat' (first
    | with_reducible first | apply swp_seq | apply swp_reg | apply swp_regD | apply swp_block | apply swp_exit | apply swp_ret | apply swp_skip | apply swp_cd
    | simp only [go_sem, seval, P21, q21, hla, g1, t1]
    | simp (disch := omega) only [w64, w32, wu8, wu16, wu32, wu64]
    | ((with_reducible refine o_call (c1) ?he ?hc ?_); (case he | hc => first | rfl | (simp [D.erL, D.er, D.closedL, D.closed, hla, g1, a1, a2]; done)))
    | with_reducible first | apply cd_dec | apply cd_eq | apply cd_ne | apply cd_split | apply gd_dec | apply gd_eq | apply gd_ne | apply gd_split
    | ((with_reducible refine And.intro ?hw ?_); (case hw => first | omega | rfl | exact ⟨_, _, rfl⟩ | assumption | (simp only [lN, hla, g1, a1, a2] <;> omega)))
    | with_reducible intro _)
          all_goals try omega
          refine ⟨i + 1, ⟨by omega, fun j h g => ?_⟩, by omega, ?_⟩
          · by_cases e : j = i
            · subst e; exact hx
            · exact hb j h (by omega)
          · simp [keepE, St.keep]
      · have hall : (l.all fun a => fewR a.rule) = true := by
          rw [List.all_eq_true]
          intro y hy
          obtain ⟨j, hj, rfl⟩ := List.getElem_of_mem hy
          exact hb j hj (by omega)
        rw [hall]
        repeat' (first
    | with_reducible first | apply swp_seq | apply swp_reg | apply swp_regD | apply swp_block | apply swp_exit | apply swp_ret | apply swp_skip | apply swp_cd
    | simp only [go_sem, seval, P21, q21, hla, t1]
    | simp (disch := omega) only [w64, w32, wu8, wu16, wu32, wu64]
    | with_reducible first | apply cd_dec | apply cd_eq | apply cd_ne | apply cd_split | apply gd_dec | apply gd_eq | apply gd_ne | apply gd_split
    | ((with_reducible refine And.intro ?hw ?_); (case hw => first | omega | rfl | exact ⟨_, _, rfl⟩ | assumption | (simp only [lN] <;> omega)))
    | with_reducible intro _)
        all_goals try omega
        all_goals simp [D.closed, D.er]
  · have t1 : decide (((l.length : Nat) : Int) ≤ 20) = false := by simp; omega
    rw [decide_eq_false hl, Bool.false_and]
    repeat' (first
    | with_reducible first | apply swp_seq | apply swp_reg | apply swp_regD | apply swp_block | apply swp_exit | apply swp_ret | apply swp_skip | apply swp_cd
    | simp only [go_sem, seval, P21, q21]
    | with_reducible first | apply cd_dec | apply cd_eq | apply cd_ne | apply cd_split | apply gd_dec | apply gd_eq | apply gd_ne | apply gd_split
    | ((with_reducible refine And.intro ?hw ?_); (case hw => first | omega | rfl | exact ⟨_, _, rfl⟩ | assumption | (simp only [lN] <;> omega)))
    | with_reducible intro _)
    refine swp_fam [0, 1, 3] (fun _ : Unit => ⟨[amsD l, .int .i64 20, .undef, .int .i64 0, .undef, .undef], [], ⟨[], []⟩⟩) (fun _ => True) (fun _ => 0) () trivial ?_ ?_
    · simp [keepE, St.keep]
    · intro _ _
      have t2 : decide ((0 : Int) < l.length) = true := by simp; omega
      repeat' (first
    | with_reducible first | apply swp_seq | apply swp_reg | apply swp_regD | apply swp_block | apply swp_exit | apply swp_ret | apply swp_skip | apply swp_cd
    | simp only [go_sem, seval, P21, q21, hla, t1, t2]
    | simp (disch := omega) only [w64, w32, wu8, wu16, wu32, wu64]
    | with_reducible first | apply cd_dec | apply cd_eq | apply cd_ne | apply cd_split | apply gd_dec | apply gd_eq | apply gd_ne | apply gd_split
    | ((with_reducible refine And.intro ?hw ?_); (case hw => first | omega | rfl | exact ⟨_, _, rfl⟩ | assumption | (simp only [lN] <;> omega)))
    | with_reducible intro _)
      all_goals try omega
      all_goals simp [D.closed, D.er]
theorem few_p (l : List Am) : Pur M 10 [amsD l] (.bool (fewA l)) := by
  refine ok10 rfl ?_
  rw [i10]
  unfold c10
  have c1 := few21_p l
  have a1 := closedL_A l
  have a2 := erL_A l
  repeat' (first
    | with_reducible first | apply swp_seq | apply swp_reg | apply swp_regD | apply swp_block | apply swp_exit | apply swp_ret | apply swp_skip | apply swp_cd
    | simp only [go_sem, seval, P10, q10]
    | ((with_reducible refine o_call (c1) ?he ?hc ?_); (case he | hc => first | rfl | (simp [D.erL, D.er, D.closedL, D.closed, a1, a2]; done)))
    | with_reducible first | apply cd_dec | apply cd_eq | apply cd_ne | apply cd_split
    | ((with_reducible refine And.intro ?hw ?_); (case hw => first | omega | rfl | exact ⟨_, _, rfl⟩ | assumption | (simp only [lN, a1, a2] <;> omega)))
    | with_reducible intro _)
  all_goals first | omega | (simp_all [D.closed, D.er, D.closedL, D.erL]; done) | (simp_all [D.closed, D.er, D.closedL, D.erL] <;> omega)
def Am.fit (a : Am) : Prop := a.rule.name.length ≤ 9223372036854775807 ∧ a.rule.kind.length ≤ 9223372036854775807
theorem few_sm {l : List Am} (h : fewA l = true) (hf : ∀ a ∈ l, a.fit) : l.length ≤ 20 ∧ ∀ a ∈ l, a.sm := by
  simp only [fewA, Bool.and_eq_true, decide_eq_true_eq, List.all_eq_true] at h
  refine ⟨h.1, fun a ha => ?_⟩
  have h1 := h.2 a ha
  simp only [fewR, Bool.and_eq_true, decide_eq_true_eq] at h1
  exact ⟨(hf a ha).1, (hf a ha).2, h1.2.2, by omega⟩
end Go.Proofs.Ytnooagipikedeaa
end
section
set_option maxRecDepth 100000
set_option linter.unusedSimpArgs false
set_option linter.unusedVariables false
namespace Go.Proofs.Ytnooagipikedeaa
open Go GoV Go.RowKit
end Go.Proofs.Ytnooagipikedeaa
end
section
set_option maxRecDepth 100000
set_option linter.unusedSimpArgs false
set_option linter.unusedVariables false
namespace Go.Proofs.Ytnooagipikedeaa
open Go GoV Go.RowKit
def entsI : List Int → Nat → List (D × D × Nat)
  | [], _ => []
  | d :: K, b => (.int .i64 d, .bool true, b) :: entsI K (b + 1)
theorem entsI_len : ∀ (K : List Int) (b : Nat), (entsI K b).length = K.length
  | [], _ => rfl
  | n :: K, b => by simp [entsI, entsI_len K]
theorem entsI_app : ∀ (K : List Int) (n : Int) (b : Nat), entsI (K ++ [n]) b = entsI K b ++ [(.int .i64 n, .bool true, b + K.length)]
  | [], n, b => rfl
  | x :: K, n, b => by simp [entsI, entsI_app K n]; omega
theorem entsI_ok : ∀ (K : List Int) (b : Nat), ((entsI K b).all fun e => keyOk (.int .i64) e.1) = true
  | [], _ => rfl
  | n :: K, b => by
    simp only [entsI, List.all_cons, entsI_ok K (b + 1), Bool.and_true]; rfl
theorem entsI_rn (β τ : Nat → Option Nat) : ∀ (K : List Int) (b : Nat), pairs β τ (entsI K b) = entsI K b
  | [], _ => rfl
  | n :: K, b => by simp [entsI, pairs, D.rn, entsI_rn β τ K]
theorem entsI_born : ∀ (K : List Int) (b : Nat), (entsI K b).map (·.2.2) = List.range' b K.length
  | [], _ => rfl
  | n :: K, b => by simp [entsI, entsI_born K, List.range'_succ]
theorem entsI_keys : ∀ (K : List Int) (b : Nat), (entsI K b).map (·.1) = K.map (D.int .i64)
  | [], _ => rfl
  | n :: K, b => by simp [entsI, entsI_keys K]
theorem entsI_none {n : Int} : ∀ {K : List Int} {b i : Nat}, n ∉ K → findM (.int .i64 n) (entsI K b) i = none
  | [], _, _, _ => rfl
  | x :: K, b, i, h => by
    simp only [List.mem_cons, not_or] at h
    have e : keq (.int .i64 n) (.int .i64 x) = false := by rw [keq]; simpa using h.1
    simp only [entsI, findM, e]
    exact entsI_none h.2
theorem entsI_some {n : Int} : ∀ {K : List Int} {b i : Nat}, n ∈ K → ∃ j, findM (.int .i64 n) (entsI K b) i = some (i + j, .bool true) ∧ ((entsI K b).modify j fun e => (.int .i64 n, .bool true, e.2.2)) = entsI K b
  | [], _, _, h => by simp at h
  | x :: K, b, i, h => by
    by_cases e : n = x
    · subst e
      have e1 : keq (.int .i64 n) (.int .i64 n) = true := by rw [keq]; simp
      exact ⟨0, by simp only [entsI, findM, e1]; rfl, rfl⟩
    · have e1 : keq (.int .i64 n) (.int .i64 x) = false := by rw [keq]; simpa using e
      obtain ⟨j, h1, h2⟩ := entsI_some (K := K) (b := b + 1) (i := i + 1) (by simpa [e] using h)
      refine ⟨j + 1, by simp only [entsI, findM, e1]; rw [show i + (j + 1) = i + 1 + j by omega]; exact h1, ?_⟩
      show (D.int .i64 x, D.bool true, b) :: (entsI K (b + 1)).modify j (fun e => (.int .i64 n, .bool true, e.2.2)) = _
      rw [h2]; rfl
def putI (K : List Int) (n : Int) : List Int := if n ∈ K then K else K ++ [n]
theorem entsI_put (K : List Int) (n : Int) : putM (entsI K 0) K.length (.int .i64 n) (.bool true) = .map (entsI (putI K n) 0) (putI K n).length := by
  unfold putM putI
  by_cases h : n ∈ K
  · obtain ⟨j, h1, h2⟩ := entsI_some (b := 0) (i := 0) h
    rw [h1, if_pos h]
    simp only [Nat.zero_add]
    rw [h2]
  · rw [entsI_none h, if_neg h]
    simp only [entsI_app, Nat.zero_add, List.length_append, List.length_singleton]
theorem putI_once (C : List Int) (n : Int) : putI (once C) n = once (C ++ [n]) := by
  unfold putI
  rw [once_app]
  by_cases h : n ∈ C
  · rw [if_pos (once_mem.2 h), if_pos (by simpa using h)]
  · rw [if_neg (fun q => h (once_mem.1 q)), if_neg (by simpa using h)]
/-! ### Their keys, sorted -/

theorem sorts39 (m : Nat) : AnyZI.SortsIn Try.prog Try.sortedG_ren Fence.wide m :=
  ⟨fun blk off cap ss W hH hblk hsz => callsIn_wide.2 (Try.slices_Sort_int blk off cap ss W hH hblk hsz),
   fun p cap W => callsIn_wide.2 (Try.slices_Sort_int_none p cap W)⟩
def anyV {H : Type} : Value → Option (DataW H × List MemPlace) := fun _ => some (.lit (.bool true), [])
theorem ents_rows (w : World) (g : Gh) : ∀ (K : List Int) (b : Nat) (ents : List MapEntry), RelL w g ((entsI K b).map (·.1)) (ents.map (·.key)) → ents.map (·.key) = K.map (Value.int .i64)
  | K, b, ents, h => by
    rw [entsI_keys] at h
    generalize ents.map (·.key) = ks at *
    induction K generalizing ks with
    | nil => simpa using h.inv_nil
    | cons x K ih =>
      obtain ⟨y, ys, rfl, h1, h2⟩ := h.inv
      simp only [Rel] at h1
      rw [h1]
      simp only [List.map_cons, List.cons.injEq, true_and]
      exact ih ys h2
theorem owns_days {H : Type} {w : World} {n clock : Nat} {K : List Int} {ents : List MapEntry} (hw : w.heap[n]? = some (.map ents.toArray clock)) (hk : ents.map (·.key) = K.map (Value.int .i64)) (hb : ents.map (·.born) = List.range' 0 K.length) (hc : clock = K.length)
    (hn : K.Nodup) (hr : ∀ d ∈ K, -9223372036854775808 ≤ d ∧ d ≤ 9223372036854775807) (hl : K.length ≤ 1000000) :
    ∃ D0 : DataW H, w.ownsMap Try.prog 3 anyV n K.length D0 ∧ (Go.intKeys D0).Perm K ∧ Maps.size D0 ≤ K.length := by
  have hlen : ents.length = K.length := by have := congrArg List.length hk; simpa using this
  have hkey : ∀ d, -9223372036854775808 ≤ d → d ≤ 9223372036854775807 → keyOf Try.prog 3 (Value.int .i64 d) = some (.int .i64 d) := fun d h1 h2 => by
    have hw : (Lit.int .i64 d).wf = true := by
      simp only [Lit.wf]
      have := w64 h1 h2
      simp [this]
      exact ⟨h1, h2⟩
    simp [keyOf, Try.underlying3, mapKey, hw]
  have hin : ∀ x ∈ ents, ∃ d ∈ K, x.key = Value.int .i64 d := fun x hx => by
    have : x.key ∈ ents.map (·.key) := List.mem_map_of_mem hx
    rw [hk] at this
    obtain ⟨d, hd, e⟩ := List.mem_map.1 this
    exact ⟨d, hd, e.symm⟩
  have hrd : ∀ x ∈ ents, ∀ d ∈ K, x.key = Value.int .i64 d → WideElems.rd Try.prog 3 (anyV (H := H)) x = some (.int .i64 d, .lit (.bool true)) := fun x hx d hd e => by
    simp [WideElems.rd, e, hkey d (hr d hd).1 (hr d hd).2, anyV]
  have hF : WideElems.Fit Try.prog 3 (anyV (H := H)) ents.toArray clock := by
    refine ⟨by simp [maxLen]; omega, ⟨fun x hx => ?_, ?_, ?_⟩, fun x hx => ?_⟩
    · have h1 : x.born ∈ ents.map (·.born) := List.mem_map_of_mem (by simpa using hx)
      rw [hb] at h1
      simp at h1
      omega
    · simp only [List.toList_toArray]
      rw [hb]; exact List.nodup_range'
    · simp only [List.toList_toArray]
      rw [hk, List.nodup_iff_pairwise_ne, List.pairwise_map]
      exact hn.imp fun h e => h (by simpa using e)
    · obtain ⟨d, hd, e⟩ := hin x (by simpa using hx)
      exact ⟨_, hrd x (by simpa using hx) d hd e⟩
  have hown : w.ownsMap Try.prog 3 (anyV (H := H)) n K.length (.map ((ents.map (WideElems.rg Try.prog 3 anyV)).foldr DataW.insert [])) :=
    ⟨ents.toArray, clock, hw, hF, by simp [hlen], by simp⟩
  refine ⟨_, hown, ?_, hown.size_le⟩
  show ((((ents.map (WideElems.rg Try.prog 3 anyV)).foldr DataW.insert []).map fun p => Go.intOf p.1)).Perm K
  refine ((WideShapes.sorted_perm _).map _).trans ?_
  rw [List.map_map]
  have : ents.map ((fun p => Go.intOf p.1) ∘ WideElems.rg Try.prog 3 (anyV (H := H))) = K := by
    have e1 : ents.map ((fun p => Go.intOf p.1) ∘ WideElems.rg Try.prog 3 (anyV (H := H))) = (ents.map (·.key)).map fun v => match v with | .int _ d => d | _ => 0 := by
      rw [List.map_map]
      refine List.map_congr_left fun x hx => ?_
      obtain ⟨d, hd, e⟩ := hin x hx
      simp [WideElems.rg, hrd x hx d hd e, e, Go.intOf]
    rw [e1, hk, List.map_map]
    simp [Function.comp_def]
  rw [this]
abbrev daysH (K : List Int) : Hp := ⟨[.map (entsI K 0) K.length, .cells [.mp 0]], []⟩
theorem keys_e (K : List Int) : Eff M 30 [.mp 0] ⟨[.map (entsI K 0) K.length], []⟩ fun d hp => d = .fn (.func 40) [] [.ptr 1 0] ∧ hp = daysH K := by
  refine oe30 1 0 rfl rfl rfl ?_
  rw [ie30]
  unfold c30
  repeat' (first
    | with_reducible first | apply swp_seq | apply swp_reg | apply swp_regD | apply swp_block | apply swp_exit | apply swp_ret | apply swp_skip | apply swp_cd
    | simp only [go_sem, seval, pe30, q30]
    | with_reducible first | apply cd_dec | apply cd_eq | apply cd_ne | apply cd_split
    | ((with_reducible refine And.intro ?hw ?_); (case hw => first | omega | rfl | exact ⟨_, _, rfl⟩ | assumption | (simp only [lN] <;> omega)))
    | with_reducible intro _)
  refine ⟨_, weak_refl, ?_⟩
  simp
theorem sortedKeys_e (K : List Int) (hn : K.Nodup) (hr : ∀ d ∈ K, -9223372036854775808 ≤ d ∧ d ≤ 9223372036854775807) (hl : K.length ≤ 1000000) :
    Eff M 29 [.fn (.func 40) [] [.ptr 1 0]] (daysH K) fun d hp => d = .slice ((sortedI K).map (D.int .i64)) .no ∧ hp = daysH K := by
  refine ⟨⟨Try.f29, Try.func29, rfl, rfl⟩, fun w g xs hA hH hargs => ?_⟩
  obtain ⟨v, vs, rfl, g1, g2⟩ := hargs.inv
  have := g2.inv_nil
  subst this
  simp only [Rel] at g1
  obtain ⟨a1, cs, rfl, ha, hcs⟩ := g1
  have := ha.inv_nil
  subst this
  obtain ⟨p, ps, rfl, hp, hps⟩ := hcs.inv
  have := hps.inv_nil
  subst this
  simp only [Rel] at hp
  obtain ⟨nb, hnb, rfl⟩ := hp
  obtain ⟨n0, hn0⟩ : ∃ n0, g.r[0]? = some n0 := by
    have hlt : 0 < g.r.length := by rw [← hH.len]; simp
    exact ⟨_, List.getElem?_eq_getElem hlt⟩
  obtain ⟨ents, k1, k2, k3, k4⟩ := hH.blk 0 _ n0 rfl hn0
  obtain ⟨ys, e, q1, q2, q3⟩ := hH.blk 1 _ nb rfl hnb
  obtain ⟨y, ys', rfl, q4, q5⟩ := q2.inv
  have := q5.inv_nil
  subst this
  simp only [Rel] at q4
  obtain ⟨n0', hn0', rfl⟩ := q4
  rw [hn0] at hn0'
  cases hn0'
  have hkeys := ents_rows w g K 0 ents k2
  rw [entsI_born] at k4
  obtain ⟨D0, hown, hperm, hsz⟩ := owns_days (H := Unit) k1 hkeys k4.symm rfl hn hr hl
  have hblt : nb < w.heap.size := hH.lt nb (List.mem_of_getElem? hnb)
  have hcell : w.cell? ⟨nb, 0, none⟩ = some (.map (some n0)) := by simp [World.cell?, q1]
  have hmax : Maps.size D0 ≤ maxLen := by simp only [maxLen]; omega
  have hbytes : Maps.size D0 * 8 ≤ 140737488355328 := by omega
  have hseq : SeqGives Fence.wide 2 Try.prog 40 #[.pointer (some ⟨nb, 0, none⟩)] encZ (fun ss => ss.Perm (intKeys D0)) (Maps.size D0) w :=
    AnyZI.keys_gives (ρ := Try.keysG_ren) Try.keysG Fence.wide 2 trivial rfl (by omega) nb n0 K.length D0 w hblt hcell hown
  have cS := AnyZI.sorted_in Try.sortedG Fence.wide 5 trivial trivial trivial trivial rfl (by omega) (sorts39 _) (enters_of Try.func39 (by kernel_rfl) rfl) 40 #[.pointer (some ⟨nb, 0, none⟩)] trivial (enters_of Try.func40 (by kernel_rfl) rfl) _ _ hmax hbytes w hseq
  change CallsIn _ _ Try.prog 29 _ _ _ at cS
  refine (callsIn_wide.1 cS).mono fun e' w' hh => ?_
  obtain ⟨v, ss, rfl, hS, hrow, _, hb⟩ := hh
  have hsorted : ss.mergeSort (fun x y => decide (x ≤ y)) = sortedI K := mergeSort_of_perm_i (hS.trans hperm)
  rw [hsorted] at hrow
  have hle : ss.length = (sortedI K).length := by rw [(sortedI_perm K).length_eq, (hS.trans hperm).length_eq]
  rw [hle] at hrow
  exact post_row hH hb encZ (D.int .i64) (fun w g x => by simp [Rel]) (fun x => by simp [oneC, Value.oneCell']) (fun x => rfl) hrow
end Go.Proofs.Ytnooagipikedeaa
end
section
set_option maxRecDepth 100000
set_option linter.unusedSimpArgs false
set_option linter.unusedVariables false
namespace Go.Proofs.Ytnooagipikedeaa
open Go GoV Go.RowKit
theorem names1_len (day clock : Int) : ∀ l : List Am, (names1 day clock l).length ≤ l.length
  | [] => by simp [names1]
  | a :: l => by
    unfold names1
    have := names1_len day clock l
    split
    · have := List.length_filter_le (fun n => !(n == a.rule.name)) (names1 day clock l); simp; omega
    · simp; omega
theorem inForce_len (l : List Am) (day clock : Int) : (inForce l day clock).length ≤ l.length := by
  unfold inForce
  have h1 := List.length_filterMap_le (pick l day clock) (sorted (names1 day clock l))
  rw [(sorted_perm _).length_eq] at h1
  exact Nat.le_trans h1 (names1_len day clock l)
theorem inForce_mem {l : List Am} {day clock : Int} {r : Rl} (h : r ∈ inForce l day clock) : ∃ a ∈ l, a.rule = r ∧ a.void = false ∧ best (qd day clock r.name) l = some a := by
  have h1 := ((inForce_is l day clock).2 r).1 h
  unfold pick at h1
  split at h1
  · cases h1
  · rename_i a ha
    split at h1
    · cases h1
    · rename_i hv
      simp at h1
      exact ⟨a, (best_some ha).2, h1, by simpa using hv, ha⟩
theorem inForce_sm {l : List Am} (hs : ∀ a ∈ l, a.sm) (day clock : Int) : ∀ r ∈ inForce l day clock, r.sm := fun r hr => by
  obtain ⟨a, ha, rfl, _⟩ := inForce_mem hr
  exact hs a ha
abbrev tryH (l : List Am) (clock : Int) (K : List Int) : Hp := ⟨[.cells [amsD l], .cells [.int .i64 clock], .map (entsI K 0) K.length, .cells [.mp 2]], []⟩
set_option maxHeartbeats 1000000 in
theorem try_e (l : List Am) (hl : l.length < 1000000) (hs : ∀ a ∈ l, a.sm) (clock d : Int) (hd0 : 0 ≤ d) (hd1 : d ≤ 40001) (K : List Int) :
    Eff M 25 [.int .i64 d, .ptr 0 0, .ptr 1 0, .ptr 3 0] (tryH l clock K) fun r hp => r = .tup [] ∧ hp = tryH l clock (if chg l clock d then putI K d else K) := by
  refine oe25 4 0 rfl rfl rfl ?_
  rw [ie25]
  unfold c25
  have c1 := inForce_p l hl hs d clock
  have c2 := inForce_p l hl hs (d - 1) clock
  have c3 := eqf26 (inForce l d clock) (inForce l (d - 1) clock) (Nat.lt_of_le_of_lt (inForce_len l d clock) hl) (inForce_sm hs d clock)
  have hcl := closedL_A l
  have her := erL_A l
  have r1 := closedL_R (inForce l d clock)
  have r2 := erL_R (inForce l d clock)
  have r3 := closedL_R (inForce l (d - 1) clock)
  have r4 := erL_R (inForce l (d - 1) clock)
  have hok := entsI_ok K 0
  have hput := entsI_put K d
  have hlen := entsI_len K 0
  unfold chg tryH
  generalize allR (inForce l d clock) (inForce l (d - 1) clock) = b at *
  generalize (inForce l d clock).map rlD = F1 at *
  generalize (inForce l (d - 1) clock).map rlD = F2 at *
  generalize hE' : entsI (putI K d) 0 = E' at *
  generalize hE0 : entsI K 0 = E at *
  by_cases h4 : d ≤ 40000
  · have t1 : decide (d ≤ 40000) = true := by simpa using h4
    rw [t1, Bool.true_and]
    cases b
    · repeat' (first
    | with_reducible first | apply swp_seq | apply swp_reg | apply swp_regD | apply swp_block | apply swp_exit | apply swp_ret | apply swp_skip | apply swp_cd
    | simp only [go_sem, seval, pe25, q25, t1]
    | simp (disch := omega) only [w64, w32, wu8, wu16, wu32, wu64]
    | ((with_reducible first | refine o_call (c1) ?he ?hc ?_ | refine p_call (c1) ?he ?hc ?_ | refine c_call (c1) ?he ?hc ?_); (case he | hc => first | rfl | (simp [D.erL, D.er, D.closedL, D.closed, hcl, her, r1, r2, r3, r4, hok, hput]; done)))
    | ((with_reducible first | refine o_call (c2) ?he ?hc ?_ | refine p_call (c2) ?he ?hc ?_ | refine c_call (c2) ?he ?hc ?_); (case he | hc => first | rfl | (simp [D.erL, D.er, D.closedL, D.closed, hcl, her, r1, r2, r3, r4, hok, hput]; done)))
    | ((with_reducible first | refine o_call (c3) ?he ?hc ?_ | refine p_call (c3) ?he ?hc ?_ | refine c_call (c3) ?he ?hc ?_); (case he | hc => first | rfl | (simp [D.erL, D.er, D.closedL, D.closed, hcl, her, r1, r2, r3, r4, hok, hput]; done)))
    | ((with_reducible apply s_mpu); (case h1 | hk => rfl); (case ha | hp => first | rfl | assumption | omega | ((first | refine ⟨?_, ?_⟩ | skip) <;> first | omega | (simp only [lN, hcl, her, r1, r2, r3, r4, hok, hput] <;> omega)) | (simp [elemsK, D.isVal, D.cells, D.closedL, D.closed, hcl, her, r1, r2, r3, r4, hok, hput]; first | done | omega)))
    | with_reducible first | apply cd_dec | apply cd_eq | apply cd_ne | apply cd_split | apply gd_dec | apply gd_eq | apply gd_ne | apply gd_split | apply gq_dec | apply gq_eq | apply gq_ne | apply gq_split
    | ((with_reducible refine And.intro ?hw ?_); (case hw => first | omega | rfl | exact ⟨_, _, rfl⟩ | assumption | (simp only [lN, hcl, her, r1, r2, r3, r4, hok, hput] <;> omega)))
    | with_reducible intro _)
      all_goals try omega
      all_goals refine ⟨_, weak_refl, ?_⟩
      all_goals simp [hput, oneOrTup, hE']
    · repeat' (first
    | with_reducible first | apply swp_seq | apply swp_reg | apply swp_regD | apply swp_block | apply swp_exit | apply swp_ret | apply swp_skip | apply swp_cd
    | simp only [go_sem, seval, pe25, q25, t1]
    | simp (disch := omega) only [w64, w32, wu8, wu16, wu32, wu64]
    | ((with_reducible first | refine o_call (c1) ?he ?hc ?_ | refine p_call (c1) ?he ?hc ?_ | refine c_call (c1) ?he ?hc ?_); (case he | hc => first | rfl | (simp [D.erL, D.er, D.closedL, D.closed, hcl, her, r1, r2, r3, r4, hok, hput]; done)))
    | ((with_reducible first | refine o_call (c2) ?he ?hc ?_ | refine p_call (c2) ?he ?hc ?_ | refine c_call (c2) ?he ?hc ?_); (case he | hc => first | rfl | (simp [D.erL, D.er, D.closedL, D.closed, hcl, her, r1, r2, r3, r4, hok, hput]; done)))
    | ((with_reducible first | refine o_call (c3) ?he ?hc ?_ | refine p_call (c3) ?he ?hc ?_ | refine c_call (c3) ?he ?hc ?_); (case he | hc => first | rfl | (simp [D.erL, D.er, D.closedL, D.closed, hcl, her, r1, r2, r3, r4, hok, hput]; done)))
    | ((with_reducible apply s_mpu); (case h1 | hk => rfl); (case ha | hp => first | rfl | assumption | omega | ((first | refine ⟨?_, ?_⟩ | skip) <;> first | omega | (simp only [lN, hcl, her, r1, r2, r3, r4, hok, hput] <;> omega)) | (simp [elemsK, D.isVal, D.cells, D.closedL, D.closed, hcl, her, r1, r2, r3, r4, hok, hput]; first | done | omega)))
    | with_reducible first | apply cd_dec | apply cd_eq | apply cd_ne | apply cd_split | apply gd_dec | apply gd_eq | apply gd_ne | apply gd_split | apply gq_dec | apply gq_eq | apply gq_ne | apply gq_split
    | ((with_reducible refine And.intro ?hw ?_); (case hw => first | omega | rfl | exact ⟨_, _, rfl⟩ | assumption | (simp only [lN, hcl, her, r1, r2, r3, r4, hok, hput] <;> omega)))
    | with_reducible intro _)
      all_goals try omega
      all_goals refine ⟨_, weak_refl, ?_⟩
      all_goals simp [oneOrTup, hE0]
  · have t1 : decide (d ≤ 40000) = false := by simpa using h4
    rw [t1, Bool.false_and]
    repeat' (first
    | with_reducible first | apply swp_seq | apply swp_reg | apply swp_regD | apply swp_block | apply swp_exit | apply swp_ret | apply swp_skip | apply swp_cd
    | simp only [go_sem, seval, pe25, q25, t1]
    | simp (disch := omega) only [w64, w32, wu8, wu16, wu32, wu64]
    | ((with_reducible first | refine o_call (c1) ?he ?hc ?_ | refine p_call (c1) ?he ?hc ?_ | refine c_call (c1) ?he ?hc ?_); (case he | hc => first | rfl | (simp [D.erL, D.er, D.closedL, D.closed, hcl, her]; done)))
    | ((with_reducible first | refine o_call (c2) ?he ?hc ?_ | refine p_call (c2) ?he ?hc ?_ | refine c_call (c2) ?he ?hc ?_); (case he | hc => first | rfl | (simp [D.erL, D.er, D.closedL, D.closed, hcl, her]; done)))
    | ((with_reducible first | refine o_call (c3) ?he ?hc ?_ | refine p_call (c3) ?he ?hc ?_ | refine c_call (c3) ?he ?hc ?_); (case he | hc => first | rfl | (simp [D.erL, D.er, D.closedL, D.closed, hcl, her]; done)))
    | ((with_reducible apply s_mpu); (case h1 | hk => rfl); (case ha | hp => first | rfl | assumption | omega | ((first | refine ⟨?_, ?_⟩ | skip) <;> first | omega | (simp only [lN, hcl, her] <;> omega)) | (simp [elemsK, D.isVal, D.cells, D.closedL, D.closed, hcl, her]; first | done | omega)))
    | with_reducible first | apply cd_dec | apply cd_eq | apply cd_ne | apply cd_split | apply gd_dec | apply gd_eq | apply gd_ne | apply gd_split | apply gq_dec | apply gq_eq | apply gq_ne | apply gq_split
    | ((with_reducible refine And.intro ?hw ?_); (case hw => first | omega | rfl | exact ⟨_, _, rfl⟩ | assumption | (simp only [lN, hcl, her] <;> omega)))
    | with_reducible intro _)
    all_goals try omega
    all_goals refine ⟨_, weak_refl, ?_⟩
    all_goals simp [oneOrTup, hE0]
theorem once_put (l : List Am) (clock d : Int) (C : List Int) : once ((C ++ [d]).filter (chg l clock)) = if chg l clock d then putI (once (C.filter (chg l clock))) d else once (C.filter (chg l clock)) := by
  rw [List.filter_append]
  cases h : chg l clock d
  · simp [h]
  · rw [List.filter_cons_of_pos h, List.filter_nil, ← putI_once]; simp
def daysTo (l : List Am) (clock : Int) (i : Nat) : List Int := once ((cand (l.take i)).filter (chg l clock))
theorem cand_step {l : List Am} {i : Nat} (h : i < l.length) : cand (l.take (i + 1)) = cand (l.take i) ++ (if amOk l[i] then [l[i].frm, l[i].to + 1] else []) := by
  unfold cand
  rw [List.take_succ_eq_append_getElem h, List.flatMap_append]; simp
theorem days_step_no {l : List Am} {clock : Int} {i : Nat} (h : i < l.length) (hv : amOk l[i] = false) : daysTo l clock (i + 1) = daysTo l clock i := by
  unfold daysTo; rw [cand_step h, hv]; simp
theorem days_step {l : List Am} {clock : Int} {i : Nat} (h : i < l.length) (hv : amOk l[i] = true) :
    daysTo l clock (i + 1) = (if chg l clock (l[i].to + 1) then putI (if chg l clock l[i].frm then putI (daysTo l clock i) l[i].frm else daysTo l clock i) (l[i].to + 1) else (if chg l clock l[i].frm then putI (daysTo l clock i) l[i].frm else daysTo l clock i)) := by
  unfold daysTo
  rw [cand_step h, hv, if_pos rfl, show ([l[i].frm, l[i].to + 1] : List Int) = [l[i].frm] ++ [l[i].to + 1] from rfl, ← List.append_assoc, once_put, once_put]
theorem daysTo_all {l : List Am} {clock : Int} {i : Nat} (h : ¬ i < l.length) : daysTo l clock i = once ((cand l).filter (chg l clock)) := by
  unfold daysTo; rw [take_all h]
theorem cand_len : ∀ l : List Am, (cand l).length ≤ 2 * l.length
  | [] => by simp [cand]
  | a :: l => by
    have := cand_len l
    unfold cand at *
    rw [List.flatMap_cons, List.length_append, List.length_cons]
    split <;> simp only [List.length_cons, List.length_nil] <;> omega
theorem once_len : ∀ l : List Int, (once l).length ≤ l.length
  | [] => by simp [once]
  | a :: l => by
    have := once_len l
    have h2 := List.length_filter_le (fun n => !(n == a)) (once l)
    simp [once]; omega
set_option maxHeartbeats 2000000 in
theorem days_p (l : List Am) (hl : l.length < 10000) (hs : ∀ a ∈ l, a.sm) (clock : Int) : Pur M 15 [amsD l, .int .i64 clock] (.slice ((daysF l clock).map (D.int .i64)) .no) := by
  refine ok15 rfl ?_
  rw [i15]
  unfold c15
  have hlen : (l.map amD).length = l.length := by simp
  have hcl := closedL_A l
  have her := erL_A l
  repeat' (first
    | with_reducible first | apply swp_seq | apply swp_reg | apply swp_regD | apply swp_block | apply swp_exit | apply swp_ret | apply swp_skip | apply swp_cd
    | simp only [go_sem, seval, P15, q15, o_newM]
    | with_reducible first | apply cd_dec | apply cd_eq | apply cd_ne | apply cd_split
    | ((with_reducible refine And.intro ?hw ?_); (case hw => first | omega | rfl | exact ⟨_, _, rfl⟩ | assumption | (simp only [lN, hcl, her] <;> omega)))
    | with_reducible intro _)
  refine swp_famG [2, 3, 5, 6, 8, 9, 10] 4 0 (Nat.zero_le 4) (Nat.le_refl 0) (fun i : Nat => ⟨[.undef, .undef, .ptr 0 0, .ptr 1 0, .undef, .ptr 3 0, .fn (.func 25) [] [.ptr 0 0, .ptr 1 0, .ptr 3 0], .undef, amsD l, .int .i64 l.length, .int .i64 i, .undef, .undef], [],
    ⟨[.cells [amsD l], .cells [.int .i64 clock], .map (entsI (daysTo l clock i) 0) (daysTo l clock i).length, .cells [.mp 2]], []⟩⟩) (fun i => i ≤ l.length) (fun i => l.length + 1 - i) 0 (by omega) ?_ ?_
  · simp [keepE, St.keepG, St.keep, St.gc, Hp.cut, D.rnL, D.rn, cutF, Blk.rn, Blk.rnL, Tv.rnL, Own.rn, pairs]
    exact ⟨rfl, rfl⟩
  · intro i hi
    by_cases hil : i < l.length
    · have hg : (l.map amD).getD i .undef = .agg (l[i]).cells := amsD_get hil
      have cv := valid_p (l[i]) (hs _ (List.getElem_mem hil))
      have hcx := closedL_X (l[i]).rule.cond.kids
      have hex := erL_X (l[i]).rule.cond.kids
      have hE := fun β τ => entsI_rn β τ (daysTo l clock i) 0
      unfold amD at cv
      cases hv : amOk l[i]
      · rw [hv] at cv
        have hst := days_step_no (clock := clock) hil hv
        generalize daysTo l clock i = K at *
        repeat' (first
    | with_reducible first | apply swp_seq | apply swp_reg | apply swp_regD | apply swp_block | apply swp_exit | apply swp_ret | apply swp_skip | apply swp_cd
    | simp only [go_sem, seval, P15, q15, hlen, hg, o_newM]
    | simp (disch := omega) only [w64, w32, wu8, wu16, wu32, wu64]
    | ((with_reducible refine o_call (cv) ?he ?hc ?_); (case he | hc => first | rfl | (simp [D.erL, D.er, D.closedL, D.closed, hlen, hg, hcx, hex]; done)))
    | with_reducible first | apply cd_dec | apply cd_eq | apply cd_ne | apply cd_split
    | ((with_reducible refine And.intro ?hw ?_); (case hw => first | omega | rfl | exact ⟨_, _, rfl⟩ | assumption | (simp only [lN, hlen, hg, hcx, hex] <;> omega)))
    | with_reducible intro _)
        all_goals try omega
        all_goals try (refine ⟨i + 1, by omega, by omega, ?_⟩; simp [keepE, St.keepG, St.keep, St.gc, Hp.cut, D.rnL, D.rn, cutF, Blk.rn, Blk.rnL, Tv.rnL, Own.rn, pairs, hE, hst])
      · rw [hv] at cv
        have hst := days_step (clock := clock) hil hv
        have hvr : 0 ≤ l[i].frm ∧ l[i].frm ≤ l[i].to ∧ l[i].to ≤ 40000 := by
          simp [amOk] at hv; omega
        have k1 := try_e l (by omega) hs clock l[i].frm (by omega) (by omega) (daysTo l clock i)
        have k2 := try_e l (by omega) hs clock (l[i].to + 1) (by omega) (by omega) (if chg l clock l[i].frm then putI (daysTo l clock i) l[i].frm else daysTo l clock i)
        rw [← hst] at k2
        generalize (if chg l clock l[i].frm then putI (daysTo l clock i) l[i].frm else daysTo l clock i) = K1 at *
        have hE1 := fun β τ => entsI_rn β τ K1 0
        have hE2 := fun β τ => entsI_rn β τ (daysTo l clock (i + 1)) 0
        unfold tryH at k1 k2
        generalize hK2 : daysTo l clock (i + 1) = K2 at *
        generalize daysTo l clock i = K at *
        repeat' (first
    | with_reducible first | apply swp_seq | apply swp_reg | apply swp_regD | apply swp_block | apply swp_exit | apply swp_ret | apply swp_skip | apply swp_cd
    | simp only [go_sem, seval, P15, q15, hlen, hg, o_newM]
    | simp (disch := omega) only [w64, w32, wu8, wu16, wu32, wu64]
    | ((with_reducible refine o_call (cv) ?he ?hc ?_); (case he | hc => first | rfl | (simp [D.erL, D.er, D.closedL, D.closed, hlen, hg, hcx, hex, D.rnL, D.rn, posF, Hp.sel, Blk.rnL, Blk.rn, Tv.rnL, idx, Own.rn, Hp.back, putAt, bakF, hE, hE1, hE2]; done)))
    | ((with_reducible refine o_eff [0, 1, 2, 3] [] (k1) ?hs ?he ?hh ?_); (case hs => exact ⟨by simp, by simp, by simp, by simp⟩); (case he => first | rfl | (simp [go_sem, seval, hlen, hg, hcx, hex, D.rnL, D.rn, posF, Hp.sel, Blk.rnL, Blk.rn, Tv.rnL, idx, Own.rn, Hp.back, putAt, bakF, hE, hE1, hE2]; done)); (case hh => first | rfl | (simp [go_sem, seval, hlen, hg, hcx, hex, D.rnL, D.rn, posF, Hp.sel, Blk.rnL, Blk.rn, Tv.rnL, idx, Own.rn, Hp.back, putAt, bakF, hE, hE1, hE2]; done)); rintro _ _ ⟨rfl, rfl⟩)
    | ((with_reducible refine o_eff [0, 1, 2, 3] [] (k2) ?hs ?he ?hh ?_); (case hs => exact ⟨by simp, by simp, by simp, by simp⟩); (case he => first | rfl | (simp [go_sem, seval, hlen, hg, hcx, hex, D.rnL, D.rn, posF, Hp.sel, Blk.rnL, Blk.rn, Tv.rnL, idx, Own.rn, Hp.back, putAt, bakF, hE, hE1, hE2]; done)); (case hh => first | rfl | (simp [go_sem, seval, hlen, hg, hcx, hex, D.rnL, D.rn, posF, Hp.sel, Blk.rnL, Blk.rn, Tv.rnL, idx, Own.rn, Hp.back, putAt, bakF, hE, hE1, hE2]; done)); rintro _ _ ⟨rfl, rfl⟩)
    | with_reducible first | apply cd_dec | apply cd_eq | apply cd_ne | apply cd_split
    | ((with_reducible refine And.intro ?hw ?_); (case hw => first | omega | rfl | exact ⟨_, _, rfl⟩ | assumption | (simp only [lN, hlen, hg, hcx, hex, D.rnL, D.rn, posF, Hp.sel, Blk.rnL, Blk.rn, Tv.rnL, idx, Own.rn, Hp.back, putAt, bakF, hE, hE1, hE2] <;> omega)))
    | with_reducible intro _)
        all_goals try omega
        all_goals try (refine ⟨i + 1, by omega, by omega, ?_⟩; simp [keepE, St.keepG, St.keep, St.gc, Hp.cut, Hp.back, putAt, bakF, posF, idx, D.rnL, D.rn, cutF, Blk.rn, Blk.rnL, Tv.rnL, Own.rn, pairs, hE, hE1, hE2, hK2])
    · have hK := daysTo_all (clock := clock) hil
      have hKd : (once ((cand l).filter (chg l clock))).Nodup := once_nodup
      have hKr : ∀ d ∈ once ((cand l).filter (chg l clock)), -9223372036854775808 ≤ d ∧ d ≤ 9223372036854775807 := fun d hd => by
        have := cand_range (List.mem_filter.1 (once_mem.1 hd)).1
        omega
      have hKl : (once ((cand l).filter (chg l clock))).length ≤ 1000000 := by
        have h1 := once_len ((cand l).filter (chg l clock))
        have h2 := List.length_filter_le (chg l clock) (cand l)
        have h3 := cand_len l
        omega
      have k1 := keys_e (once ((cand l).filter (chg l clock)))
      have k2 := sortedKeys_e (once ((cand l).filter (chg l clock))) hKd hKr hKl
      have hE := fun β τ => entsI_rn β τ (once ((cand l).filter (chg l clock))) 0
      rw [hK]
      unfold daysF
      unfold daysH at k1 k2
      generalize once ((cand l).filter (chg l clock)) = K at *
      repeat' (first
    | with_reducible first | apply swp_seq | apply swp_reg | apply swp_regD | apply swp_block | apply swp_exit | apply swp_ret | apply swp_skip | apply swp_cd
    | simp only [go_sem, seval, P15, q15, hlen, o_newM]
    | simp (disch := omega) only [w64, w32, wu8, wu16, wu32, wu64]
    | ((with_reducible refine o_eff [2] [] (k1) ?hs ?he ?hh ?_); (case hs => exact ⟨by simp, by simp, by simp, by simp⟩); (case he => first | rfl | (simp [go_sem, seval, hlen, D.rnL, D.rn, posF, Hp.sel, Blk.rnL, Blk.rn, Tv.rnL, idx, Own.rn, Hp.back, putAt, bakF, hE]; done)); (case hh => first | rfl | (simp [go_sem, seval, hlen, D.rnL, D.rn, posF, Hp.sel, Blk.rnL, Blk.rn, Tv.rnL, idx, Own.rn, Hp.back, putAt, bakF, hE]; done)); rintro _ _ ⟨rfl, rfl⟩)
    | ((with_reducible refine o_eff [2, 4] [] (k2) ?hs ?he ?hh ?_); (case hs => exact ⟨by simp, by simp, by simp, by simp⟩); (case he => first | rfl | (simp [go_sem, seval, hlen, D.rnL, D.rn, posF, Hp.sel, Blk.rnL, Blk.rn, Tv.rnL, idx, Own.rn, Hp.back, putAt, bakF, hE]; done)); (case hh => first | rfl | (simp [go_sem, seval, hlen, D.rnL, D.rn, posF, Hp.sel, Blk.rnL, Blk.rn, Tv.rnL, idx, Own.rn, Hp.back, putAt, bakF, hE]; done)); rintro _ _ ⟨rfl, rfl⟩)
    | with_reducible first | apply cd_dec | apply cd_eq | apply cd_ne | apply cd_split
    | ((with_reducible refine And.intro ?hw ?_); (case hw => first | omega | rfl | exact ⟨_, _, rfl⟩ | assumption | (simp only [lN, hlen, D.rnL, D.rn, posF, Hp.sel, Blk.rnL, Blk.rn, Tv.rnL, idx, Own.rn, Hp.back, putAt, bakF, hE] <;> omega)))
    | with_reducible intro _)
      all_goals try omega
end Go.Proofs.Ytnooagipikedeaa
end
section
set_option maxRecDepth 100000
set_option linter.unusedSimpArgs false
set_option linter.unusedVariables false
namespace Go.Proofs.Ytnooagipikedeaa
open Go GoV Go.RowKit
section
variable {P : Mod} {r : List RO} {rq : List (RO × Bool)} {K : St → Prop} {s : St} {dst : Dst}
theorem o_sgtB {u v : List UInt8} : OpS P (.bin .gtr) [.str u, .str v] dst r K s = opsWp P r K (s.put dst (.bool (!(Op.bytesLess u v || u == v)))) := by simp [OpS, OcWp, isCall, opWp, binWp]
theorem p_sgtB {u v : List UInt8} : OpQ P (.bin .gtr) [.str u, .str v] dst rq K s = opsQ P rq K (s.put dst (.bool (!(Op.bytesLess u v || u == v)))) := by simp [OpQ, quietWp, isCall, opWp, binWp]
end
attribute [go_sem] o_sgtB p_sgtB
end Go.Proofs.Ytnooagipikedeaa
end
section
set_option maxRecDepth 100000
set_option linter.unusedSimpArgs false
set_option linter.unusedVariables false
namespace Go.Proofs.Ytnooagipikedeaa
open Go GoV Go.RowKit
end Go.Proofs.Ytnooagipikedeaa
end
section
set_option maxRecDepth 100000
set_option linter.unusedSimpArgs false
set_option linter.unusedVariables false
namespace Go.Proofs.Ytnooagipikedeaa
open Go GoV Go.RowKit
def woTo (n : Tx) (R : List Rl) (i : Nat) : List Rl := without n (R.take i)
theorem woTo_step {n : Tx} {R : List Rl} {i : Nat} (h : i < R.length) : woTo n R (i + 1) = woTo n R i ++ (if R[i].name == n then [] else [R[i]]) := by
  unfold woTo without
  rw [List.take_succ_eq_append_getElem h, List.filter_append]
  congr 1
  cases e : R[i].name == n <;> simp [e]
theorem woTo_len (n : Tx) (R : List Rl) (i : Nat) : (woTo n R i).length ≤ i := by
  unfold woTo without
  have := List.length_filter_le (fun r : Rl => !(r.name == n)) (R.take i)
  simp at this ⊢; omega
theorem without_p (R : List Rl) (hR : R.length < 10000) (n : Tx) : Pur M 19 [rulesD R, .str n] (rulesD (without n R)) := by
  refine ok19 rfl ?_
  rw [i19]
  unfold c19
  have hlen : (R.map rlD).length = R.length := by simp
  repeat' (first
    | with_reducible first | apply swp_seq | apply swp_reg | apply swp_regD | apply swp_block | apply swp_exit | apply swp_ret | apply swp_skip | apply swp_cd
    | simp only [go_sem, seval, P19, q19]
    | ((with_reducible apply s_appT); (case he => rfl); (case hK | hc | hr | hV => first | rfl | assumption | omega | ((first | refine ⟨?_, ?_⟩ | skip) <;> first | omega | (simp only [lN] <;> omega)) | (simp [elemsK, D.isVal, D.cells, D.closedL, D.closed]; first | done | omega)))
    | ((with_reducible apply s_appG); (case he => rfl); (case hV | hK | hr | hl => first | rfl | assumption | omega | ((first | refine ⟨?_, ?_⟩ | skip) <;> first | omega | (simp only [lN] <;> omega)) | (simp [elemsK, D.isVal, D.cells, D.closedL, D.closed]; first | done | omega)))
    | ((with_reducible apply s_app0); (case he => rfl); (case hK | hc | hr => first | rfl | assumption | omega | ((first | refine ⟨?_, ?_⟩ | skip) <;> first | omega | (simp only [lN] <;> omega)) | (simp [elemsK, D.isVal, D.cells, D.closedL, D.closed]; first | done | omega)))
    | ((with_reducible apply s_appF); (case he => rfl); (case hK | hc | hr | hx | hn => first | rfl | assumption | omega | ((first | refine ⟨?_, ?_⟩ | skip) <;> first | omega | (simp only [lN] <;> omega)) | (simp [elemsK, D.isVal, D.cells, D.closedL, D.closed]; first | done | omega)))
    | ((with_reducible apply s_bsl); (case he | hl | hc => first | rfl | assumption | omega | ((first | refine ⟨?_, ?_⟩ | skip) <;> first | omega | (simp only [lN] <;> omega)) | (simp [elemsK, D.isVal, D.cells, D.closedL, D.closed]; first | done | omega)))
    | with_reducible first | apply cd_dec | apply cd_eq | apply cd_ne | apply cd_split
    | ((with_reducible refine And.intro ?hw ?_); (case hw => first | omega | rfl | exact ⟨_, _, rfl⟩ | assumption | (simp only [lN] <;> omega)))
    | with_reducible intro _)
  refine swp_weak (weak_trans (weak_keep [0, 1, 3, 4]) (weak_new 3 8 (by decide) false rfl)) ?_
  simp [keepE]
  refine swp_fam [0, 1, 3, 4] (fun i : Nat => ⟨[rulesD R, .str n, .undef, .slice ((woTo n R i).map rlD) (.tok 0), .int .i64 i, .undef, .undef], [], ⟨[], [.per 8 (woTo n R i).length]⟩⟩) (fun i => i ≤ R.length) (fun i => R.length + 1 - i) 0 (by omega) ?_ ?_
  · simp [keepE, St.keep, woTo, without]
  · intro i hi
    by_cases hil : i < R.length
    · have hg : (R.map rlD).getD i .undef = .agg (R[i]).cells := R_get hil
      have hst := woTo_step (n := n) hil
      have hwl := woTo_len n R i
      have hcx := closedL_X (R[i]).cond.kids
      have hex := erL_X (R[i]).cond.kids
      cases hb : R[i].name == n
      · rw [hb] at hst
        have hmap : (woTo n R (i + 1)).map rlD = (woTo n R i).map rlD ++ [.agg (R[i]).cells] := by rw [hst]; simp [rlD]
        have hlen2 : (woTo n R (i + 1)).length = (woTo n R i).length + 1 := by rw [hst]; simp
        generalize woTo n R i = C at *
        have hCm : (C.map rlD).length = C.length := by simp
        repeat' (first
    | with_reducible first | apply swp_seq | apply swp_reg | apply swp_regD | apply swp_block | apply swp_exit | apply swp_ret | apply swp_skip | apply swp_cd
    | simp only [go_sem, seval, P19, q19, hlen, hg, hb]
    | simp (disch := omega) only [w64, w32, wu8, wu16, wu32, wu64]
    | ((with_reducible apply s_appT); (case he => rfl); (case hK | hc | hr | hV => first | rfl | assumption | omega | ((first | refine ⟨?_, ?_⟩ | skip) <;> first | omega | (simp only [lN, hlen, hg, hcx, hex, hCm, roomOk] <;> omega)) | (simp [elemsK, D.isVal, D.cells, D.closedL, D.closed, hlen, hg, hcx, hex, hCm, roomOk]; first | done | omega)))
    | ((with_reducible apply s_appG); (case he => rfl); (case hV | hK | hr | hl => first | rfl | assumption | omega | ((first | refine ⟨?_, ?_⟩ | skip) <;> first | omega | (simp only [lN, hlen, hg, hcx, hex, hCm, roomOk] <;> omega)) | (simp [elemsK, D.isVal, D.cells, D.closedL, D.closed, hlen, hg, hcx, hex, hCm, roomOk]; first | done | omega)))
    | ((with_reducible apply s_app0); (case he => rfl); (case hK | hc | hr => first | rfl | assumption | omega | ((first | refine ⟨?_, ?_⟩ | skip) <;> first | omega | (simp only [lN, hlen, hg, hcx, hex, hCm, roomOk] <;> omega)) | (simp [elemsK, D.isVal, D.cells, D.closedL, D.closed, hlen, hg, hcx, hex, hCm, roomOk]; first | done | omega)))
    | ((with_reducible apply s_appF); (case he => rfl); (case hK | hc | hr | hx | hn => first | rfl | assumption | omega | ((first | refine ⟨?_, ?_⟩ | skip) <;> first | omega | (simp only [lN, hlen, hg, hcx, hex, hCm, roomOk] <;> omega)) | (simp [elemsK, D.isVal, D.cells, D.closedL, D.closed, hlen, hg, hcx, hex, hCm, roomOk]; first | done | omega)))
    | ((with_reducible apply s_bsl); (case he | hl | hc => first | rfl | assumption | omega | ((first | refine ⟨?_, ?_⟩ | skip) <;> first | omega | (simp only [lN, hlen, hg, hcx, hex, hCm, roomOk] <;> omega)) | (simp [elemsK, D.isVal, D.cells, D.closedL, D.closed, hlen, hg, hcx, hex, hCm, roomOk]; first | done | omega)))
    | with_reducible first | apply cd_dec | apply cd_eq | apply cd_ne | apply cd_split
    | ((with_reducible refine And.intro ?hw ?_); (case hw => first | omega | rfl | exact ⟨_, _, rfl⟩ | assumption | (simp only [lN, hlen, hg, hcx, hex, hCm, roomOk] <;> omega)))
    | with_reducible intro _)
        all_goals try omega
        all_goals (refine ⟨i + 1, by omega, by omega, ?_⟩; simp [keepE, St.keep, hmap, hlen2])
      · rw [hb] at hst
        simp only [if_true, List.append_nil] at hst
        generalize woTo n R i = C at *
        repeat' (first
    | with_reducible first | apply swp_seq | apply swp_reg | apply swp_regD | apply swp_block | apply swp_exit | apply swp_ret | apply swp_skip | apply swp_cd
    | simp only [go_sem, seval, P19, q19, hlen, hg, hb]
    | simp (disch := omega) only [w64, w32, wu8, wu16, wu32, wu64]
    | ((with_reducible apply s_appT); (case he => rfl); (case hK | hc | hr | hV => first | rfl | assumption | omega | ((first | refine ⟨?_, ?_⟩ | skip) <;> first | omega | (simp only [lN, hlen, hg] <;> omega)) | (simp [elemsK, D.isVal, D.cells, D.closedL, D.closed, hlen, hg]; first | done | omega)))
    | ((with_reducible apply s_appG); (case he => rfl); (case hV | hK | hr | hl => first | rfl | assumption | omega | ((first | refine ⟨?_, ?_⟩ | skip) <;> first | omega | (simp only [lN, hlen, hg] <;> omega)) | (simp [elemsK, D.isVal, D.cells, D.closedL, D.closed, hlen, hg]; first | done | omega)))
    | ((with_reducible apply s_app0); (case he => rfl); (case hK | hc | hr => first | rfl | assumption | omega | ((first | refine ⟨?_, ?_⟩ | skip) <;> first | omega | (simp only [lN, hlen, hg] <;> omega)) | (simp [elemsK, D.isVal, D.cells, D.closedL, D.closed, hlen, hg]; first | done | omega)))
    | ((with_reducible apply s_appF); (case he => rfl); (case hK | hc | hr | hx | hn => first | rfl | assumption | omega | ((first | refine ⟨?_, ?_⟩ | skip) <;> first | omega | (simp only [lN, hlen, hg] <;> omega)) | (simp [elemsK, D.isVal, D.cells, D.closedL, D.closed, hlen, hg]; first | done | omega)))
    | ((with_reducible apply s_bsl); (case he | hl | hc => first | rfl | assumption | omega | ((first | refine ⟨?_, ?_⟩ | skip) <;> first | omega | (simp only [lN, hlen, hg] <;> omega)) | (simp [elemsK, D.isVal, D.cells, D.closedL, D.closed, hlen, hg]; first | done | omega)))
    | with_reducible first | apply cd_dec | apply cd_eq | apply cd_ne | apply cd_split
    | ((with_reducible refine And.intro ?hw ?_); (case hw => first | omega | rfl | exact ⟨_, _, rfl⟩ | assumption | (simp only [lN, hlen, hg] <;> omega)))
    | with_reducible intro _)
        all_goals try omega
        all_goals (refine ⟨i + 1, by omega, by omega, ?_⟩; simp [keepE, St.keep, hst])
    · have e : woTo n R i = without n R := by unfold woTo; rw [List.take_of_length_le (by omega)]
      rw [e]
      have h1 := closedL_R (without n R)
      have h2 := erL_R (without n R)
      generalize without n R = O at *
      repeat' (first
    | with_reducible first | apply swp_seq | apply swp_reg | apply swp_regD | apply swp_block | apply swp_exit | apply swp_ret | apply swp_skip | apply swp_cd
    | simp only [go_sem, seval, P19, q19, hlen]
    | simp (disch := omega) only [w64, w32, wu8, wu16, wu32, wu64]
    | ((with_reducible apply s_appT); (case he => rfl); (case hK | hc | hr | hV => first | rfl | assumption | omega | ((first | refine ⟨?_, ?_⟩ | skip) <;> first | omega | (simp only [lN] <;> omega)) | (simp [elemsK, D.isVal, D.cells, D.closedL, D.closed]; first | done | omega)))
    | ((with_reducible apply s_appG); (case he => rfl); (case hV | hK | hr | hl => first | rfl | assumption | omega | ((first | refine ⟨?_, ?_⟩ | skip) <;> first | omega | (simp only [lN] <;> omega)) | (simp [elemsK, D.isVal, D.cells, D.closedL, D.closed]; first | done | omega)))
    | ((with_reducible apply s_app0); (case he => rfl); (case hK | hc | hr => first | rfl | assumption | omega | ((first | refine ⟨?_, ?_⟩ | skip) <;> first | omega | (simp only [lN] <;> omega)) | (simp [elemsK, D.isVal, D.cells, D.closedL, D.closed]; first | done | omega)))
    | ((with_reducible apply s_appF); (case he => rfl); (case hK | hc | hr | hx | hn => first | rfl | assumption | omega | ((first | refine ⟨?_, ?_⟩ | skip) <;> first | omega | (simp only [lN] <;> omega)) | (simp [elemsK, D.isVal, D.cells, D.closedL, D.closed]; first | done | omega)))
    | ((with_reducible apply s_bsl); (case he | hl | hc => first | rfl | assumption | omega | ((first | refine ⟨?_, ?_⟩ | skip) <;> first | omega | (simp only [lN] <;> omega)) | (simp [elemsK, D.isVal, D.cells, D.closedL, D.closed]; first | done | omega)))
    | with_reducible first | apply cd_dec | apply cd_eq | apply cd_ne | apply cd_split
    | ((with_reducible refine And.intro ?hw ?_); (case hw => first | omega | rfl | exact ⟨_, _, rfl⟩ | assumption | (simp only [lN] <;> omega)))
    | with_reducible intro _)
      all_goals try omega
      all_goals simp [D.closed, D.er, h1, h2]
/-! ### The example -/

def exA (clock frm to n : Int) (void : Bool) : Am := ⟨clock, frm, to, void, ⟨[97], [107], .mk 6 [107, 109] [] n 0 []⟩⟩
def exL : List Am := [exA 1 0 99 1 false, exA 2 10 19 1 true, exA 3 15 30 2 false]
theorem amend_p (clock frm to n : Int) (void : Bool) : Pur M 20 [.int .i64 clock, .int .i64 frm, .int .i64 to, .int .i64 n, .bool void] (amD (exA clock frm to n void)) := by
  refine pur_res (d := .agg [.int .i64 clock, .int .i64 frm, .int .i64 to, .bool void, .str [97], .str [107], .int .i64 6, .str [107, 109], .str [], .int .i64 n, .int .i64 0, .lit (.slice none 0 0)]) (ok20 rfl ?_) (by simp [D.nn, D.nnL, amD, Am.cells, exA, X.op, X.nam, X.val, X.num, X.ext, X.kids])
  rw [i20]
  unfold c20
  repeat' (first
    | with_reducible first | apply swp_seq | apply swp_reg | apply swp_regD | apply swp_block | apply swp_exit | apply swp_ret | apply swp_skip | apply swp_cd
    | simp only [go_sem, seval, P20, q20, fillL]
    | with_reducible first | apply cd_dec | apply cd_eq | apply cd_ne | apply cd_split
    | ((with_reducible refine And.intro ?hw ?_); (case hw => first | omega | rfl | exact ⟨_, _, rfl⟩ | assumption | (simp only [lN] <;> omega)))
    | with_reducible intro _)
  all_goals first | omega | (simp_all [D.closed, D.er, D.closedL, D.erL]; done) | skip
def fastF (l : List Am) (day clock : Int) : List Rl := match names1 day clock l with | [] => [] | n :: _ => (pick l day clock n).toList
theorem fast_eq {l : List Am} {day clock : Int} (h : (names1 day clock l).length ≤ 1) : inForce l day clock = fastF l day clock := by
  unfold inForce fastF
  cases e : names1 day clock l with
  | nil => simp [sorted]
  | cons n r =>
    rw [e] at h
    have : r = [] := List.eq_nil_of_length_eq_zero (by simpa using h)
    subst this
    simp only [sorted, List.mergeSort_singleton, List.filterMap_cons, List.filterMap_nil]
    cases pick l day clock n <;> rfl
theorem ex1 : inForce exL 12 1 = [(exA 1 0 99 1 false).rule] := (fast_eq (by decide +kernel)).trans rfl
theorem ex2 : inForce exL 12 2 = [] := (fast_eq (by decide +kernel)).trans rfl
theorem ex3 : inForce exL 15 3 = [(exA 3 15 30 2 false).rule] := (fast_eq (by decide +kernel)).trans rfl
theorem exDays : daysF exL 3 = [0, 10, 15, 31, 100] := by
  refine incG_ext toI (days_is exL 3).1 (by simp [IncG, ltI]) fun x => ?_
  rw [(days_is exL 3).2]
  have hc : cand exL = [0, 100, 10, 20, 15, 31] := rfl
  have h : ∀ d ∈ cand exL, chg exL 3 d = (decide (d ≤ 40000) && !allR (fastF exL d 3) (fastF exL (d - 1) 3)) := fun d hd => by
    unfold chg
    rw [hc] at hd
    have h1 : (names1 d 3 exL).length ≤ 1 ∧ (names1 (d - 1) 3 exL).length ≤ 1 := by
      simp only [List.mem_cons, List.mem_nil_iff, or_false] at hd
      rcases hd with rfl | rfl | rfl | rfl | rfl | rfl <;> decide +kernel
    rw [fast_eq h1.1, fast_eq h1.2]
  constructor
  · rintro ⟨h1, h2⟩
    rw [h x h1] at h2
    rw [hc] at h1
    simp only [List.mem_cons, List.mem_nil_iff, or_false] at h1
    rcases h1 with rfl | rfl | rfl | rfl | rfl | rfl
    · simp
    · simp
    · simp
    · exact absurd h2 (by decide +kernel)
    · simp
    · simp
  · intro h1
    have h2 : x ∈ cand exL := by
      rw [hc]
      simp only [List.mem_cons, List.mem_nil_iff, or_false] at h1 ⊢
      omega
    refine ⟨h2, ?_⟩
    rw [h x h2]
    simp only [List.mem_cons, List.mem_nil_iff, or_false] at h1
    rcases h1 with rfl | rfl | rfl | rfl | rfl <;> decide +kernel
theorem ex_sm : ∀ a ∈ exL, a.sm := by
  intro a ha
  simp only [exL, List.mem_cons, List.mem_nil_iff, or_false] at ha
  have : ∀ c f t n v, (exA c f t n v).sm := fun c f t n v => ⟨by simp [exA], by simp [exA], ⟨by simp [exA, shortB, shortBL], by simp [exA, X.nodes, X.nodesL]⟩⟩
  rcases ha with rfl | rfl | rfl <;> exact this _ _ _ _ _
set_option maxHeartbeats 1000000 in
theorem head_p : Pur M 9 [] (.bool true) := by
  refine ok9 rfl ?_
  rw [i9]
  unfold c9
  have a1 := amend_p 1 0 99 1 false
  have a2 := amend_p 2 10 19 1 true
  have a3 := amend_p 3 15 30 2 false
  have c1 := inForce_p exL (by decide) ex_sm 12 1
  have c2 := inForce_p exL (by decide) ex_sm 12 2
  have c3 := inForce_p exL (by decide) ex_sm 15 3
  have c4 := days_p exL (by decide) ex_sm 3
  have c5 := ints_p (daysF exL 3) [0, 10, 15, 31, 100] (by rw [exDays]; decide)
  rw [ex1] at c1
  rw [ex2] at c2
  rw [ex3] at c3
  rw [exDays] at c4 c5
  have hl : exL.map amD = [amD (exA 1 0 99 1 false), amD (exA 2 10 19 1 true), amD (exA 3 15 30 2 false)] := rfl
  rw [amsD, hl] at c1 c2 c3 c4
  simp only [amD, Am.cells, exA, X.op, X.nam, X.val, X.num, X.ext, X.kids, List.map_nil, List.map_cons, rulesD, rlD, Rl.cells] at a1 a2 a3 c1 c2 c3 c4 c5
  repeat' (first
    | with_reducible first | apply swp_seq | apply swp_reg | apply swp_regD | apply swp_block | apply swp_exit | apply swp_ret | apply swp_skip | apply swp_cd
    | simp only [go_sem, seval, P9, q9]
    | ((with_reducible refine o_call (a1) ?he ?hc ?_); (case he | hc => first | rfl | (simp [D.erL, D.er, D.closedL, D.closed]; done)))
    | ((with_reducible refine o_call (a2) ?he ?hc ?_); (case he | hc => first | rfl | (simp [D.erL, D.er, D.closedL, D.closed]; done)))
    | ((with_reducible refine o_call (a3) ?he ?hc ?_); (case he | hc => first | rfl | (simp [D.erL, D.er, D.closedL, D.closed]; done)))
    | ((with_reducible refine o_call (c1) ?he ?hc ?_); (case he | hc => first | rfl | (simp [D.erL, D.er, D.closedL, D.closed]; done)))
    | ((with_reducible refine o_call (c2) ?he ?hc ?_); (case he | hc => first | rfl | (simp [D.erL, D.er, D.closedL, D.closed]; done)))
    | ((with_reducible refine o_call (c3) ?he ?hc ?_); (case he | hc => first | rfl | (simp [D.erL, D.er, D.closedL, D.closed]; done)))
    | ((with_reducible refine o_call (c4) ?he ?hc ?_); (case he | hc => first | rfl | (simp [D.erL, D.er, D.closedL, D.closed]; done)))
    | ((with_reducible refine o_call (c5) ?he ?hc ?_); (case he | hc => first | rfl | (simp [D.erL, D.er, D.closedL, D.closed]; done)))
    | ((with_reducible apply s_bsl); (case he | hl | hc => first | rfl | assumption | omega | ((first | refine ⟨?_, ?_⟩ | skip) <;> first | omega | (simp only [lN] <;> omega)) | (simp [elemsK, D.isVal, D.cells, D.closedL, D.closed]; first | done | omega)))
    | with_reducible first | apply cd_dec | apply cd_eq | apply cd_ne | apply cd_split | apply gd_dec | apply gd_eq | apply gd_ne | apply gd_split
    | ((with_reducible refine And.intro ?hw ?_); (case hw => first | omega | rfl | exact ⟨_, _, rfl⟩ | assumption | (simp only [lN] <;> omega)))
    | with_reducible intro _)
  all_goals first | done | omega | simp [D.closed, D.er]
end Go.Proofs.Ytnooagipikedeaa
end
section
set_option maxRecDepth 100000
set_option linter.unusedSimpArgs false
set_option linter.unusedVariables false
namespace Go.Proofs.Ytnooagipikedeaa
open Go GoV Go.RowKit
end Go.Proofs.Ytnooagipikedeaa
end
section
set_option maxRecDepth 100000
set_option linter.unusedSimpArgs false
set_option linter.unusedVariables false
namespace Go.Proofs.Ytnooagipikedeaa
open Go GoV Go.RowKit
theorem opens_kids {w : World} (n : Nat) (h : Opens Try.prog w n 34 X.cells (fun _ => True)) : Opens Try.prog w (n + 1) 32 (fun l : List X => [.slice (l.map X.d) .no]) (fun _ => True) :=
  (opens_slice Try.underlying32 (show 0 < Try.prog.cellsOf 34 by rw [show Try.prog.cellsOf 34 = 6 by kernel_rfl]; omega) h).imp id (fun a _ => by
    have e : (fun x : X => pk x.cells) = X.d := by funext x; rw [X.d_eq]; rfl
    show [D.slice (a.map X.d) .no] = [D.slice (a.map fun x => pk x.cells) .no]
    rw [e]) (fun a h => trivial)
theorem opens_expr {w : World} : ∀ n, Opens Try.prog w n 34 X.cells (fun _ => True)
  | 0 => opens_zero
  | n + 1 => by
    have hk : Opens Try.prog w n 32 (fun l : List X => [.slice (l.map X.d) .no]) (fun _ => True) := by
      cases n with
      | zero => exact opens_zero
      | succ m => exact opens_kids m (opens_expr m)
    have hF : OpensF Try.prog w n [⟨"Op", 3, 0, false, "", "", 0⟩, ⟨"Name", 9, 1, false, "", "", 8⟩, ⟨"Value", 9, 2, false, "", "", 24⟩, ⟨"N", 3, 3, false, "", "", 40⟩, ⟨"Extra", 3, 4, false, "", "", 48⟩, ⟨"Kids", 32, 5, false, "", "", 56⟩] 0 _ _ :=
      opensF_cons (c := 1) rfl (by kernel_rfl) (opens_i64 Try.underlying3) (opensF_cons (c := 1) rfl (by kernel_rfl) (opens_str Try.underlying9) (opensF_cons (c := 1) rfl (by kernel_rfl) (opens_str Try.underlying9)
        (opensF_cons (c := 1) rfl (by kernel_rfl) (opens_i64 Try.underlying3) (opensF_cons (c := 1) rfl (by kernel_rfl) (opens_i64 Try.underlying3) (opensF_cons (c := 1) rfl (by kernel_rfl) hk opensF_nil)))))
    exact (opens_struct Try.underlying34 (by kernel_rfl) hF).imp (fun a => X.mk a.1 a.2.1 a.2.2.1 a.2.2.2.1 a.2.2.2.2.1 a.2.2.2.2.2.1) (fun a _ => by simp [X.cells, X.op, X.nam, X.val, X.num, X.ext, X.kids]) (fun a h => trivial)
def Rl.fit (r : Rl) : Prop := r.name.length ≤ 9223372036854775807 ∧ r.kind.length ≤ 9223372036854775807
theorem opens_rule {w : World} : ∀ n, Opens Try.prog w n 36 Rl.cells Rl.fit := by
  refine opens_all fun n => ?_
  have hF : OpensF Try.prog w n [⟨"Name", 9, 0, false, "", "", 0⟩, ⟨"Kind", 9, 1, false, "", "", 16⟩, ⟨"Cond", 34, 2, false, "", "", 32⟩] 0 _ _ :=
    opensF_cons (c := 1) rfl (by kernel_rfl) (opens_str Try.underlying9) (opensF_cons (c := 1) rfl (by kernel_rfl) (opens_str Try.underlying9) (opensF_cons (c := 6) rfl (by kernel_rfl) (opens_expr n) opensF_nil))
  exact (opens_struct Try.underlying36 (by kernel_rfl) hF).imp (fun a => ⟨a.1, a.2.1, a.2.2.1⟩) (fun a _ => by simp [Rl.cells, X.cells]) (fun a h => ⟨h.1, h.2.1⟩)
def Am.in64 (a : Am) : Prop := (-9223372036854775808 ≤ a.clock ∧ a.clock ≤ 9223372036854775807) ∧ (-9223372036854775808 ≤ a.frm ∧ a.frm ≤ 9223372036854775807) ∧ (-9223372036854775808 ≤ a.to ∧ a.to ≤ 9223372036854775807)
theorem opens_am {w : World} : ∀ n, Opens Try.prog w n 38 Am.cells (fun a => a.fit ∧ a.in64) := by
  refine opens_all fun n => ?_
  have hF : OpensF Try.prog w n [⟨"Clock", 3, 0, false, "", "", 0⟩, ⟨"From", 3, 1, false, "", "", 8⟩, ⟨"To", 3, 2, false, "", "", 16⟩, ⟨"Void", 4, 3, false, "", "", 24⟩, ⟨"Rule", 36, 4, false, "", "", 32⟩] 0 _ _ :=
    opensF_cons (c := 1) rfl (by kernel_rfl) (opens_i64 Try.underlying3) (opensF_cons (c := 1) rfl (by kernel_rfl) (opens_i64 Try.underlying3) (opensF_cons (c := 1) rfl (by kernel_rfl) (opens_i64 Try.underlying3)
      (opensF_cons (c := 1) rfl (by kernel_rfl) (opens_bool Try.underlying4) (opensF_cons (c := 8) rfl (by kernel_rfl) (opens_rule n) opensF_nil))))
  exact (opens_struct Try.underlying38 (by kernel_rfl) hF).imp (fun a => ⟨a.1, a.2.1, a.2.2.1, a.2.2.2.1, a.2.2.2.2.1⟩) (fun a _ => by simp [Am.cells, Rl.cells]) (fun a h => ⟨h.2.2.2.2.1, h.1, h.2.1, h.2.2.1⟩)
theorem opens_ams {w : World} : ∀ n, Opens Try.prog w n 22 (fun l : List Am => [amsD l]) (fun l => ∀ a ∈ l, a.fit ∧ a.in64) :=
  opens_all fun n => (opens_slice Try.underlying22 (show 0 < Try.prog.cellsOf 38 by rw [show Try.prog.cellsOf 38 = 12 by kernel_rfl]; omega) (opens_am n)).imp id (fun a _ => rfl) (fun a h => h.2)
end Go.Proofs.Ytnooagipikedeaa
end
section
set_option maxRecDepth 100000
set_option linter.unusedSimpArgs false
set_option linter.unusedVariables false
namespace Go.Proofs.Ytnooagipikedeaa
open Go GoV Go.RowKit
section
variable {M : Mod} {j i : Nat} {dst : Dst} {q : Bool} {r : List (RO × Bool)} {K : St → Prop} {s : St} {oc : OC} {args : List Opd}
theorem x_q {ds : List D} (d : D) (hij : i ≠ j) (ha : args.map s.get = ds) (hA : AnyS M oc ds d) (h : opsX M j (i + 1) r K (s.put dst d)) : opsX M j i ((⟨dst, oc, args, none⟩, q) :: r) K s := by
  simp only [opsX]
  rw [if_neg hij]
  simp only [headA]
  rw [ha]
  exact ⟨d, hA, h⟩
theorem x_appFT {n bytes : Nat} {ety : TypeId} {xs es : List D} {x : D} (ha : args.map s.get = [.slice xs .full, x]) (he : elemsOf s.hp n x = some es) (hK : elemsK n es = true) (hc : D.closedL es = true) (hr : roomOk (xs.length + es.length) bytes) (hx : elemsK n xs = true) (hn : 0 < n)
    (h : opsX M j (j + 1) r K ({ s with hp := { s.hp with tk := s.hp.tk ++ [Tv.per n (xs.length + es.length)] } }.put dst (.slice (xs ++ D.erL es) (.tok s.hp.tk.length)))) : opsX M j j ((⟨dst, .app n bytes ety, args, none⟩, q) :: r) K s := by
  simp only [opsX, if_true, headQ]
  simp only [stepWp, Bool.false_eq_true, if_false, detWp, qOp]
  refine ⟨_, _, ?_, h⟩
  rw [ha]
  simp only [OcWp, isCall, Bool.false_eq_true, if_false, opWp]
  exact ⟨es, he, hK, hr, .inl ⟨hc, hx, hn, .inr ⟨rfl, rfl⟩⟩⟩
end
theorem room_am {l : List Am} (h : l.length ≤ 977343669105) {n : Nat} (hn : n ≤ l.length + 1) : roomOk n 144 := ⟨by omega, by omega⟩
theorem elemsK_A (l : List Am) : elemsK 12 (l.map amD) = true := elemsK_map amD 12 A_isVal l
set_option maxHeartbeats 1000000 in
theorem later_reg (l : List Am) (hr : l.length ≤ 977343669105) (x : Am) (day clock : Int) (Q : Ex → St → Prop)
    (hQ : Q .normal ⟨[amsD l, .agg x.cells, .int .i64 day, .int .i64 clock, .ip x.cells, .bool false, .bool true, .slice ((l ++ [x]).map amD) (.tok 0), .undef, .undef, .undef, .undef, .undef, .undef, .undef, .undef, .undef, .undef, .undef, .undef], [], ⟨[.gone], [.per 12 (l.length + 1)]⟩⟩) :
    SWp C7 (.regD r7_2 r7_3) Q ⟨[amsD l, .agg x.cells, .int .i64 day, .int .i64 clock, .ip x.cells, .bool false, .bool true, .undef, .undef, .undef, .undef, .undef, .undef, .undef, .undef, .undef, .undef, .undef, .undef, .undef], [], ⟨[.gone], []⟩⟩ := by
  have hca := closedL_A l
  have hea := erL_A l
  have hek := elemsK_A l
  have hlen : (l.map amD).length = l.length := by simp
  have hcx := closedL_X x.rule.cond.kids
  have hex := erL_X x.rule.cond.kids
  refine swp_regDX 2 ?_
  rw [P7]
  refine x_q (ds := []) (.slice [] .full) (by decide) rfl (fun _ => by simp [OcWp, isCall, opWp, elemsK, D.closedL, D.erL]) ?_
  refine x_q (ds := [amsD l]) (amsD l) (by decide) rfl (fun _ => by simp [OcWp, isCall, opWp]) ?_
  refine x_appFT (xs := []) (x := amsD l) (es := l.map amD) rfl rfl hek hca (room_am hr (by simp)) rfl (by omega) ?_
  rw [hea, List.nil_append]
  refine x_q (ds := [.ip x.cells]) (amD x) (by decide) rfl (fun _ => by simp [OcWp, isCall, opWp, amD]) ?_
  refine x_q (ds := [amD x]) (.slice [amD x] .full) (by decide) rfl (fun _ => by simp [OcWp, isCall, opWp, elemsK, D.closedL, D.erL, cl_A, er_A, A_isVal]) ?_
  have hl1 : (l ++ [x]).map amD = l.map amD ++ [amD x] := by simp
  have ex : D.erL [amD x] = [amD x] := by simp [D.erL, er_A]
  have cx : D.closedL [amD x] = true := by simp [D.closedL, cl_A]
  rw [hl1] at hQ
  generalize hlm : l.map amD = LM at *
  repeat' (first
    | with_reducible first | apply swp_seq | apply swp_reg | apply swp_regD | apply swp_block | apply swp_exit | apply swp_ret | apply swp_skip | apply swp_cd
    | simp only [go_sem, seval, P7, q7, hlen]
    | simp (disch := omega) only [w64, w32, wu8, wu16, wu32, wu64]
    | ((with_reducible apply s_appT); (case he => rfl); (case hK | hc | hr | hV => first | rfl | assumption | omega | ((first | refine ⟨?_, ?_⟩ | skip) <;> first | omega | (simp only [lN] <;> omega)) | (simp [elemsK, D.isVal, D.cells, D.closedL, D.closed]; first | done | omega)))
    | ((with_reducible apply s_appG); (case he => rfl); (case hV | hK | hr | hl => first | rfl | assumption | omega | ((first | refine ⟨?_, ?_⟩ | skip) <;> first | omega | (simp only [lN] <;> omega)) | (simp [elemsK, D.isVal, D.cells, D.closedL, D.closed]; first | done | omega)))
    | ((with_reducible first | apply s_app0 | apply t_app0); (case he => rfl); (case hK | hc | hr => first | rfl | assumption | omega | ((first | refine ⟨?_, ?_⟩ | skip) <;> first | omega | (simp only [lN] <;> omega)) | (simp [elemsK, D.isVal, D.cells, D.closedL, D.closed]; first | done | omega)))
    | ((with_reducible first | apply s_appF | apply t_appF); (case he => rfl); (case hK | hc | hr | hx | hn => first | rfl | assumption | omega | ((first | refine ⟨?_, ?_⟩ | skip) <;> first | omega | (simp only [lN] <;> omega)) | (simp [elemsK, D.isVal, D.cells, D.closedL, D.closed]; first | done | omega)))
    | ((with_reducible first | apply s_bsl | apply t_bsl); (case he | hl | hc => first | rfl | assumption | omega | ((first | refine ⟨?_, ?_⟩ | skip) <;> first | omega | (simp only [lN] <;> omega)) | (simp [elemsK, D.isVal, D.cells, D.closedL, D.closed]; first | done | omega)))
    | with_reducible first | apply cd_dec | apply cd_eq | apply cd_ne | apply cd_split | apply gd_dec | apply gd_eq | apply gd_ne | apply gd_split
    | ((with_reducible refine And.intro ?hw ?_); (case hw => first | omega | rfl | exact ⟨_, _, rfl⟩ | assumption | (simp only [lN] <;> omega)))
    | with_reducible intro _)
  refine x_nil ?_
  refine s_appT (t := 0) (xs := LM) (es := [amD x]) (x := .slice [amD x] .full) rfl (by simp [elemsK, A_isVal]) cx (room_am hr (by simp [hlen])) (by simp [hlen]) ?_
  rw [ex]
  repeat' (first
    | with_reducible first | apply swp_seq | apply swp_reg | apply swp_regD | apply swp_block | apply swp_exit | apply swp_ret | apply swp_skip | apply swp_cd
    | simp only [go_sem, seval, P7, q7, hlen]
    | simp (disch := omega) only [w64, w32, wu8, wu16, wu32, wu64]
    | ((with_reducible apply s_appT); (case he => rfl); (case hK | hc | hr | hV => first | rfl | assumption | omega | ((first | refine ⟨?_, ?_⟩ | skip) <;> first | omega | (simp only [lN] <;> omega)) | (simp [elemsK, D.isVal, D.cells, D.closedL, D.closed]; first | done | omega)))
    | ((with_reducible apply s_appG); (case he => rfl); (case hV | hK | hr | hl => first | rfl | assumption | omega | ((first | refine ⟨?_, ?_⟩ | skip) <;> first | omega | (simp only [lN] <;> omega)) | (simp [elemsK, D.isVal, D.cells, D.closedL, D.closed]; first | done | omega)))
    | ((with_reducible first | apply s_app0 | apply t_app0); (case he => rfl); (case hK | hc | hr => first | rfl | assumption | omega | ((first | refine ⟨?_, ?_⟩ | skip) <;> first | omega | (simp only [lN] <;> omega)) | (simp [elemsK, D.isVal, D.cells, D.closedL, D.closed]; first | done | omega)))
    | ((with_reducible first | apply s_appF | apply t_appF); (case he => rfl); (case hK | hc | hr | hx | hn => first | rfl | assumption | omega | ((first | refine ⟨?_, ?_⟩ | skip) <;> first | omega | (simp only [lN] <;> omega)) | (simp [elemsK, D.isVal, D.cells, D.closedL, D.closed]; first | done | omega)))
    | ((with_reducible first | apply s_bsl | apply t_bsl); (case he | hl | hc => first | rfl | assumption | omega | ((first | refine ⟨?_, ?_⟩ | skip) <;> first | omega | (simp only [lN] <;> omega)) | (simp [elemsK, D.isVal, D.cells, D.closedL, D.closed]; first | done | omega)))
    | with_reducible first | apply cd_dec | apply cd_eq | apply cd_ne | apply cd_split | apply gd_dec | apply gd_eq | apply gd_ne | apply gd_split
    | ((with_reducible refine And.intro ?hw ?_); (case hw => first | omega | rfl | exact ⟨_, _, rfl⟩ | assumption | (simp only [lN] <;> omega)))
    | with_reducible intro _)
  exact hQ
/-! ### What the reading says about the amendment written down last -/

theorem spk_true {x : Am} {day clock : Int} (h0 : amOk x = true) (h1 : x.clock ≤ clock) (h2 : x.frm ≤ day) (h3 : day ≤ x.to) : spk day clock x = true := by
  simp [spk, h0, h1, h2, h3]
theorem later_eq {l : List Am} {x : Am} {day clock : Int} (h : spk day clock x = false) : inForce (l ++ [x]) day clock = inForce l day clock := by
  rw [later_same h []]; simp
def fnd (n : Tx) (R : List Rl) (k : Nat) : Bool := (R.take k).any fun r => r.name == n
theorem fnd_step {n : Tx} {R : List Rl} {k : Nat} (h : k < R.length) : fnd n R (k + 1) = (fnd n R k || R[k].name == n) := by
  unfold fnd
  rw [List.take_succ_eq_append_getElem h, List.any_append]
  simp only [List.any_cons, List.any_nil, Bool.or_false]
theorem later_found {l : List Am} {x : Am} {day clock : Int} (h : spk day clock x = true) (hm : ∀ a ∈ l, a.clock ≤ x.clock) : fnd x.rule.name (inForce (l ++ [x]) day clock) (inForce (l ++ [x]) day clock).length = !x.void := by
  have hp := later_pick h hm
  have hi := (inForce_is (l ++ [x]) day clock).2
  unfold fnd
  rw [List.take_length]
  cases hv : x.void with
  | true =>
    rw [hv] at hp
    simp only [if_true] at hp
    show _ = false
    rw [List.any_eq_false]
    intro r hr e
    have h1 := (hi r).1 hr
    rw [beq_iff_eq] at e
    rw [e, hp] at h1
    cases h1
  | false =>
    rw [hv] at hp
    simp only [Bool.false_eq_true, if_false] at hp
    show _ = true
    rw [List.any_eq_true]
    exact ⟨x.rule, (hi x.rule).2 hp, by simp⟩
theorem later_rule {l : List Am} {x : Am} {day clock : Int} (h : spk day clock x = true) (hm : ∀ a ∈ l, a.clock ≤ x.clock) {r : Rl} (hr : r ∈ inForce (l ++ [x]) day clock) (hn : r.name = x.rule.name) : r = x.rule := by
  have hp := later_pick h hm
  have h1 := ((inForce_is (l ++ [x]) day clock).2 r).1 hr
  rw [hn, hp] at h1
  split at h1
  · cases h1
  · cases h1; rfl
set_option maxHeartbeats 4000000 in
theorem later_p (l : List Am) (hr : l.length ≤ 977343669105) (hf : ∀ a ∈ l, a.fit) (x : Am) (hx : x.fit) (day clock : Int) : Pur M 7 [amsD l, .agg x.cells, .int .i64 day, .int .i64 clock] (.bool true) := by
  refine ok7 rfl ?_
  rw [i7]
  unfold c7
  have k0 := head_p
  have k1 : Pur M 10 [.slice ((l ++ [x]).map amD) .no] (.bool (fewA (l ++ [x]))) := few_p (l ++ [x])
  have hca := closedL_A (l ++ [x])
  have hea := erL_A (l ++ [x])
  have hcx := closedL_X x.rule.cond.kids
  have hex := erL_X x.rule.cond.kids
  have hlen : (l.map amD).length = l.length := by simp
  have hlen2 : ((l ++ [x]).map amD).length = l.length + 1 := by simp
  obtain ⟨rc, hrc⟩ : ∃ rc, rc = RC.regD r7_2 r7_3 := ⟨_, rfl⟩
  rw [← hrc]
  repeat' (first
    | with_reducible first | apply swp_seq | apply swp_reg | apply swp_regD | apply swp_block | apply swp_exit | apply swp_ret | apply swp_skip | apply swp_cd
    | simp only [go_sem, seval, P7, q7]
    | ((with_reducible refine o_call (k0) ?he ?hc ?_); (case he | hc => first | rfl | (simp [D.erL, D.er, D.closedL, D.closed, hcx, hex]; done)))
    | ((with_reducible apply s_appT); (case he => rfl); (case hK | hc | hr | hV => first | rfl | assumption | omega | ((first | refine ⟨?_, ?_⟩ | skip) <;> first | omega | (simp only [lN, hcx, hex] <;> omega)) | (simp [elemsK, D.isVal, D.cells, D.closedL, D.closed, hcx, hex]; first | done | omega)))
    | ((with_reducible apply s_appG); (case he => rfl); (case hV | hK | hr | hl => first | rfl | assumption | omega | ((first | refine ⟨?_, ?_⟩ | skip) <;> first | omega | (simp only [lN, hcx, hex] <;> omega)) | (simp [elemsK, D.isVal, D.cells, D.closedL, D.closed, hcx, hex]; first | done | omega)))
    | ((with_reducible first | apply s_app0 | apply t_app0); (case he => rfl); (case hK | hc | hr => first | rfl | assumption | omega | ((first | refine ⟨?_, ?_⟩ | skip) <;> first | omega | (simp only [lN, hcx, hex] <;> omega)) | (simp [elemsK, D.isVal, D.cells, D.closedL, D.closed, hcx, hex]; first | done | omega)))
    | ((with_reducible first | apply s_appF | apply t_appF); (case he => rfl); (case hK | hc | hr | hx | hn => first | rfl | assumption | omega | ((first | refine ⟨?_, ?_⟩ | skip) <;> first | omega | (simp only [lN, hcx, hex] <;> omega)) | (simp [elemsK, D.isVal, D.cells, D.closedL, D.closed, hcx, hex]; first | done | omega)))
    | ((with_reducible first | apply s_bsl | apply t_bsl); (case he | hl | hc => first | rfl | assumption | omega | ((first | refine ⟨?_, ?_⟩ | skip) <;> first | omega | (simp only [lN, hcx, hex] <;> omega)) | (simp [elemsK, D.isVal, D.cells, D.closedL, D.closed, hcx, hex]; first | done | omega)))
    | with_reducible first | apply cd_dec | apply cd_eq | apply cd_ne | apply cd_split | apply gd_dec | apply gd_eq | apply gd_ne | apply gd_split
    | ((with_reducible refine And.intro ?hw ?_); (case hw => first | omega | rfl | exact ⟨_, _, rfl⟩ | assumption | (simp only [lN, hcx, hex] <;> omega)))
    | with_reducible intro _)
  refine swp_weak (weak_trans (weak_keep [0, 1, 2, 3, 4, 5, 6]) (weak_frz 0 x.cells rfl (Nat.le_refl 0) (by simp [D.closedL, D.closed, hcx]))) ?_
  simp [keepE, St.frz, D.erL, D.er, hex]
  rw [hrc]
  refine later_reg l hr x day clock _ ?_
  clear hrc rc
  cases h : fewA (l ++ [x])
  · rw [h] at k1
    repeat' (first
    | with_reducible first | apply swp_seq | apply swp_reg | apply swp_regD | apply swp_block | apply swp_exit | apply swp_ret | apply swp_skip | apply swp_cd
    | simp only [go_sem, seval, P7, q7]
    | simp (disch := omega) only [w64, w32, wu8, wu16, wu32, wu64]
    | ((with_reducible refine o_call (k1) ?he ?hc ?_); (case he | hc => first | rfl | (simp [D.erL, D.er, D.closedL, D.closed, hca, hea, hcx, hex]; done)))
    | ((with_reducible apply s_appT); (case he => rfl); (case hK | hc | hr | hV => first | rfl | assumption | omega | ((first | refine ⟨?_, ?_⟩ | skip) <;> first | omega | (simp only [lN, hca, hea, hcx, hex] <;> omega)) | (simp [elemsK, D.isVal, D.cells, D.closedL, D.closed, hca, hea, hcx, hex]; first | done | omega)))
    | ((with_reducible apply s_appG); (case he => rfl); (case hV | hK | hr | hl => first | rfl | assumption | omega | ((first | refine ⟨?_, ?_⟩ | skip) <;> first | omega | (simp only [lN, hca, hea, hcx, hex] <;> omega)) | (simp [elemsK, D.isVal, D.cells, D.closedL, D.closed, hca, hea, hcx, hex]; first | done | omega)))
    | ((with_reducible first | apply s_app0 | apply t_app0); (case he => rfl); (case hK | hc | hr => first | rfl | assumption | omega | ((first | refine ⟨?_, ?_⟩ | skip) <;> first | omega | (simp only [lN, hca, hea, hcx, hex] <;> omega)) | (simp [elemsK, D.isVal, D.cells, D.closedL, D.closed, hca, hea, hcx, hex]; first | done | omega)))
    | ((with_reducible first | apply s_appF | apply t_appF); (case he => rfl); (case hK | hc | hr | hx | hn => first | rfl | assumption | omega | ((first | refine ⟨?_, ?_⟩ | skip) <;> first | omega | (simp only [lN, hca, hea, hcx, hex] <;> omega)) | (simp [elemsK, D.isVal, D.cells, D.closedL, D.closed, hca, hea, hcx, hex]; first | done | omega)))
    | ((with_reducible first | apply s_bsl | apply t_bsl); (case he | hl | hc => first | rfl | assumption | omega | ((first | refine ⟨?_, ?_⟩ | skip) <;> first | omega | (simp only [lN, hca, hea, hcx, hex] <;> omega)) | (simp [elemsK, D.isVal, D.cells, D.closedL, D.closed, hca, hea, hcx, hex]; first | done | omega)))
    | with_reducible first | apply cd_dec | apply cd_eq | apply cd_ne | apply cd_split | apply gd_dec | apply gd_eq | apply gd_ne | apply gd_split
    | ((with_reducible refine And.intro ?hw ?_); (case hw => first | omega | rfl | exact ⟨_, _, rfl⟩ | assumption | (simp only [lN, hca, hea, hcx, hex] <;> omega)))
    | with_reducible intro _)
    all_goals first | done | simp [D.closed, D.er]
  rw [h] at k1
  obtain ⟨h20, hs⟩ := few_sm h (fun a ha => by
    rcases List.mem_append.1 ha with q | q
    · exact hf a q
    · rw [List.mem_singleton.1 q]; exact hx)
  have hsx : x.sm := hs x (by simp)
  have hsl : ∀ a ∈ l, a.sm := fun a ha => hs a (by simp [ha])
  rw [List.length_append, List.length_singleton] at h20
  have k2 := refAm_p x hsx
  unfold amD at k2
  cases hok : amOk x
  · rw [hok] at k2
    repeat' (first
    | with_reducible first | apply swp_seq | apply swp_reg | apply swp_regD | apply swp_block | apply swp_exit | apply swp_ret | apply swp_skip | apply swp_cd
    | simp only [go_sem, seval, P7, q7]
    | simp (disch := omega) only [w64, w32, wu8, wu16, wu32, wu64]
    | ((with_reducible refine o_call (k1) ?he ?hc ?_); (case he | hc => first | rfl | (simp [D.erL, D.er, D.closedL, D.closed, hca, hea, hcx, hex]; done)))
    | ((with_reducible refine o_call (k2) ?he ?hc ?_); (case he | hc => first | rfl | (simp [D.erL, D.er, D.closedL, D.closed, hca, hea, hcx, hex]; done)))
    | ((with_reducible apply s_appT); (case he => rfl); (case hK | hc | hr | hV => first | rfl | assumption | omega | ((first | refine ⟨?_, ?_⟩ | skip) <;> first | omega | (simp only [lN, hca, hea, hcx, hex] <;> omega)) | (simp [elemsK, D.isVal, D.cells, D.closedL, D.closed, hca, hea, hcx, hex]; first | done | omega)))
    | ((with_reducible apply s_appG); (case he => rfl); (case hV | hK | hr | hl => first | rfl | assumption | omega | ((first | refine ⟨?_, ?_⟩ | skip) <;> first | omega | (simp only [lN, hca, hea, hcx, hex] <;> omega)) | (simp [elemsK, D.isVal, D.cells, D.closedL, D.closed, hca, hea, hcx, hex]; first | done | omega)))
    | ((with_reducible first | apply s_app0 | apply t_app0); (case he => rfl); (case hK | hc | hr => first | rfl | assumption | omega | ((first | refine ⟨?_, ?_⟩ | skip) <;> first | omega | (simp only [lN, hca, hea, hcx, hex] <;> omega)) | (simp [elemsK, D.isVal, D.cells, D.closedL, D.closed, hca, hea, hcx, hex]; first | done | omega)))
    | ((with_reducible first | apply s_appF | apply t_appF); (case he => rfl); (case hK | hc | hr | hx | hn => first | rfl | assumption | omega | ((first | refine ⟨?_, ?_⟩ | skip) <;> first | omega | (simp only [lN, hca, hea, hcx, hex] <;> omega)) | (simp [elemsK, D.isVal, D.cells, D.closedL, D.closed, hca, hea, hcx, hex]; first | done | omega)))
    | ((with_reducible first | apply s_bsl | apply t_bsl); (case he | hl | hc => first | rfl | assumption | omega | ((first | refine ⟨?_, ?_⟩ | skip) <;> first | omega | (simp only [lN, hca, hea, hcx, hex] <;> omega)) | (simp [elemsK, D.isVal, D.cells, D.closedL, D.closed, hca, hea, hcx, hex]; first | done | omega)))
    | with_reducible first | apply cd_dec | apply cd_eq | apply cd_ne | apply cd_split | apply gd_dec | apply gd_eq | apply gd_ne | apply gd_split
    | ((with_reducible refine And.intro ?hw ?_); (case hw => first | omega | rfl | exact ⟨_, _, rfl⟩ | assumption | (simp only [lN, hca, hea, hcx, hex] <;> omega)))
    | with_reducible intro _)
    all_goals first | done | simp [D.closed, D.er]
  rw [hok] at k2
  generalize hLX : (l ++ [x]).map amD = LX at *
  repeat' (first
    | with_reducible first | apply swp_seq | apply swp_reg | apply swp_regD | apply swp_block | apply swp_exit | apply swp_ret | apply swp_skip | apply swp_cd
    | simp only [go_sem, seval, P7, q7]
    | simp (disch := omega) only [w64, w32, wu8, wu16, wu32, wu64]
    | ((with_reducible refine o_call (k1) ?he ?hc ?_); (case he | hc => first | rfl | (simp [D.erL, D.er, D.closedL, D.closed, hca, hea, hcx, hex]; done)))
    | ((with_reducible refine o_call (k2) ?he ?hc ?_); (case he | hc => first | rfl | (simp [D.erL, D.er, D.closedL, D.closed, hca, hea, hcx, hex]; done)))
    | ((with_reducible apply s_appT); (case he => rfl); (case hK | hc | hr | hV => first | rfl | assumption | omega | ((first | refine ⟨?_, ?_⟩ | skip) <;> first | omega | (simp only [lN, hca, hea, hcx, hex] <;> omega)) | (simp [elemsK, D.isVal, D.cells, D.closedL, D.closed, hca, hea, hcx, hex]; first | done | omega)))
    | ((with_reducible apply s_appG); (case he => rfl); (case hV | hK | hr | hl => first | rfl | assumption | omega | ((first | refine ⟨?_, ?_⟩ | skip) <;> first | omega | (simp only [lN, hca, hea, hcx, hex] <;> omega)) | (simp [elemsK, D.isVal, D.cells, D.closedL, D.closed, hca, hea, hcx, hex]; first | done | omega)))
    | ((with_reducible first | apply s_app0 | apply t_app0); (case he => rfl); (case hK | hc | hr => first | rfl | assumption | omega | ((first | refine ⟨?_, ?_⟩ | skip) <;> first | omega | (simp only [lN, hca, hea, hcx, hex] <;> omega)) | (simp [elemsK, D.isVal, D.cells, D.closedL, D.closed, hca, hea, hcx, hex]; first | done | omega)))
    | ((with_reducible first | apply s_appF | apply t_appF); (case he => rfl); (case hK | hc | hr | hx | hn => first | rfl | assumption | omega | ((first | refine ⟨?_, ?_⟩ | skip) <;> first | omega | (simp only [lN, hca, hea, hcx, hex] <;> omega)) | (simp [elemsK, D.isVal, D.cells, D.closedL, D.closed, hca, hea, hcx, hex]; first | done | omega)))
    | ((with_reducible first | apply s_bsl | apply t_bsl); (case he | hl | hc => first | rfl | assumption | omega | ((first | refine ⟨?_, ?_⟩ | skip) <;> first | omega | (simp only [lN, hca, hea, hcx, hex] <;> omega)) | (simp [elemsK, D.isVal, D.cells, D.closedL, D.closed, hca, hea, hcx, hex]; first | done | omega)))
    | with_reducible first | apply cd_dec | apply cd_eq | apply cd_ne | apply cd_split | apply gd_dec | apply gd_eq | apply gd_ne | apply gd_split
    | ((with_reducible refine And.intro ?hw ?_); (case hw => first | omega | rfl | exact ⟨_, _, rfl⟩ | assumption | (simp only [lN, hca, hea, hcx, hex] <;> omega)))
    | with_reducible intro _)
  refine swp_fam [0, 1, 2, 3, 4, 6, 7, 8] (fun i : Nat => ⟨[amsD l, .agg x.cells, .int .i64 day, .int .i64 clock, .ip x.cells, .undef, .bool true, .slice LX (.tok 0), .int .i64 i, .undef, .undef, .undef, .undef, .undef, .undef, .undef, .undef, .undef, .undef, .undef], [], ⟨[.gone], [.per 12 (l.length + 1)]⟩⟩)
    (fun i => i ≤ l.length ∧ ∀ m (hm : m < i) (hm2 : m < l.length), l[m].clock ≤ x.clock) (fun i => l.length + 1 - i) 0 ⟨by omega, fun m hm => by omega⟩ ?_ ?_
  · simp [keepE, St.keep]
  · rintro i ⟨hi, hb⟩
    by_cases hil : i < l.length
    · have hgi : (l.map amD).getD i .undef = .agg (l[i]).cells := amsD_get hil
      by_cases hc : l[i].clock ≤ x.clock
      · have t1 : decide (l[i].clock > x.clock) = false := decide_eq_false (by omega)
        repeat' (first
    | with_reducible first | apply swp_seq | apply swp_reg | apply swp_regD | apply swp_block | apply swp_exit | apply swp_ret | apply swp_skip | apply swp_cd
    | simp only [go_sem, seval, P7, q7, hlen, hgi, t1]
    | simp (disch := omega) only [w64, w32, wu8, wu16, wu32, wu64]
    | ((with_reducible apply s_appT); (case he => rfl); (case hK | hc | hr | hV => first | rfl | assumption | omega | ((first | refine ⟨?_, ?_⟩ | skip) <;> first | omega | (simp only [lN, hlen, hgi] <;> omega)) | (simp [elemsK, D.isVal, D.cells, D.closedL, D.closed, hlen, hgi]; first | done | omega)))
    | ((with_reducible apply s_appG); (case he => rfl); (case hV | hK | hr | hl => first | rfl | assumption | omega | ((first | refine ⟨?_, ?_⟩ | skip) <;> first | omega | (simp only [lN, hlen, hgi] <;> omega)) | (simp [elemsK, D.isVal, D.cells, D.closedL, D.closed, hlen, hgi]; first | done | omega)))
    | ((with_reducible first | apply s_app0 | apply t_app0); (case he => rfl); (case hK | hc | hr => first | rfl | assumption | omega | ((first | refine ⟨?_, ?_⟩ | skip) <;> first | omega | (simp only [lN, hlen, hgi] <;> omega)) | (simp [elemsK, D.isVal, D.cells, D.closedL, D.closed, hlen, hgi]; first | done | omega)))
    | ((with_reducible first | apply s_appF | apply t_appF); (case he => rfl); (case hK | hc | hr | hx | hn => first | rfl | assumption | omega | ((first | refine ⟨?_, ?_⟩ | skip) <;> first | omega | (simp only [lN, hlen, hgi] <;> omega)) | (simp [elemsK, D.isVal, D.cells, D.closedL, D.closed, hlen, hgi]; first | done | omega)))
    | ((with_reducible first | apply s_bsl | apply t_bsl); (case he | hl | hc => first | rfl | assumption | omega | ((first | refine ⟨?_, ?_⟩ | skip) <;> first | omega | (simp only [lN, hlen, hgi] <;> omega)) | (simp [elemsK, D.isVal, D.cells, D.closedL, D.closed, hlen, hgi]; first | done | omega)))
    | with_reducible first | apply cd_dec | apply cd_eq | apply cd_ne | apply cd_split | apply gd_dec | apply gd_eq | apply gd_ne | apply gd_split
    | ((with_reducible refine And.intro ?hw ?_); (case hw => first | omega | rfl | exact ⟨_, _, rfl⟩ | assumption | (simp only [lN, hlen, hgi] <;> omega)))
    | with_reducible intro _)
        all_goals try omega
        refine ⟨i + 1, ⟨by omega, fun m hm hm2 => ?_⟩, by omega, ?_⟩
        · by_cases e : m = i
          · subst e; exact hc
          · exact hb m (by omega) hm2
        · simp [keepE, St.keep]
      · have t1 : decide (l[i].clock > x.clock) = true := decide_eq_true (by omega)
        repeat' (first
    | with_reducible first | apply swp_seq | apply swp_reg | apply swp_regD | apply swp_block | apply swp_exit | apply swp_ret | apply swp_skip | apply swp_cd
    | simp only [go_sem, seval, P7, q7, hlen, hgi, t1]
    | simp (disch := omega) only [w64, w32, wu8, wu16, wu32, wu64]
    | ((with_reducible apply s_appT); (case he => rfl); (case hK | hc | hr | hV => first | rfl | assumption | omega | ((first | refine ⟨?_, ?_⟩ | skip) <;> first | omega | (simp only [lN, hlen, hgi] <;> omega)) | (simp [elemsK, D.isVal, D.cells, D.closedL, D.closed, hlen, hgi]; first | done | omega)))
    | ((with_reducible apply s_appG); (case he => rfl); (case hV | hK | hr | hl => first | rfl | assumption | omega | ((first | refine ⟨?_, ?_⟩ | skip) <;> first | omega | (simp only [lN, hlen, hgi] <;> omega)) | (simp [elemsK, D.isVal, D.cells, D.closedL, D.closed, hlen, hgi]; first | done | omega)))
    | ((with_reducible first | apply s_app0 | apply t_app0); (case he => rfl); (case hK | hc | hr => first | rfl | assumption | omega | ((first | refine ⟨?_, ?_⟩ | skip) <;> first | omega | (simp only [lN, hlen, hgi] <;> omega)) | (simp [elemsK, D.isVal, D.cells, D.closedL, D.closed, hlen, hgi]; first | done | omega)))
    | ((with_reducible first | apply s_appF | apply t_appF); (case he => rfl); (case hK | hc | hr | hx | hn => first | rfl | assumption | omega | ((first | refine ⟨?_, ?_⟩ | skip) <;> first | omega | (simp only [lN, hlen, hgi] <;> omega)) | (simp [elemsK, D.isVal, D.cells, D.closedL, D.closed, hlen, hgi]; first | done | omega)))
    | ((with_reducible first | apply s_bsl | apply t_bsl); (case he | hl | hc => first | rfl | assumption | omega | ((first | refine ⟨?_, ?_⟩ | skip) <;> first | omega | (simp only [lN, hlen, hgi] <;> omega)) | (simp [elemsK, D.isVal, D.cells, D.closedL, D.closed, hlen, hgi]; first | done | omega)))
    | with_reducible first | apply cd_dec | apply cd_eq | apply cd_ne | apply cd_split | apply gd_dec | apply gd_eq | apply gd_ne | apply gd_split
    | ((with_reducible refine And.intro ?hw ?_); (case hw => first | omega | rfl | exact ⟨_, _, rfl⟩ | assumption | (simp only [lN, hlen, hgi] <;> omega)))
    | with_reducible intro _)
        all_goals try omega
        all_goals simp [D.closed, D.er]
    have hmax : ∀ a ∈ l, a.clock ≤ x.clock := fun a ha => by
      obtain ⟨m, hm, e⟩ := List.mem_iff_getElem.1 ha
      rw [← e]; exact hb m (by omega) hm
    have hie : i = l.length := by omega
    subst hie
    have k3 := inForce_p l (by omega) hsl day clock
    have k4 : Pur M 12 [.slice ((l ++ [x]).map amD) .no, .int .i64 day, .int .i64 clock] (rulesD (inForce (l ++ [x]) day clock)) := inForce_p (l ++ [x]) (by simp; omega) hs day clock
    have k5 := refAll_p (inForce l day clock) (inForce (l ++ [x]) day clock) (Nat.lt_of_le_of_lt (inForce_len l _ _) (by omega)) (inForce_sm hsl _ _)
    have f1 := closedL_R (inForce l day clock)
    have f2 := erL_R (inForce l day clock)
    have f3 := closedL_R (inForce (l ++ [x]) day clock)
    have f4 := erL_R (inForce (l ++ [x]) day clock)
    have hcl := closedL_A l
    have hel := erL_A l
    rw [hLX] at k4
    by_cases hsp : spk day clock x = true
    rotate_left
    · rw [Bool.not_eq_true] at hsp
      rw [later_eq hsp] at k4 k5 f3 f4
      rw [(allR_iff _ _).2 rfl] at k5
      clear f3 f4
      have hno : ¬ (x.clock ≤ clock ∧ x.frm ≤ day ∧ day ≤ x.to) := fun q => by
        rw [spk_true hok q.1 q.2.1 q.2.2] at hsp; cases hsp
      generalize inForce l day clock = R at *
      by_cases g1 : clock < x.clock
      · have t1 : decide (clock < x.clock) = true := decide_eq_true g1
        repeat' (first
    | with_reducible first | apply swp_seq | apply swp_reg | apply swp_regD | apply swp_block | apply swp_exit | apply swp_ret | apply swp_skip | apply swp_cd
    | simp only [go_sem, seval, P7, q7, hlen, t1]
    | simp (disch := omega) only [w64, w32, wu8, wu16, wu32, wu64]
    | ((with_reducible refine o_call (k3) ?he ?hc ?_); (case he | hc => first | rfl | (simp [D.erL, D.er, D.closedL, D.closed, hlen, hca, hea, hcl, hel, f1, f2]; done)))
    | ((with_reducible refine o_call (k4) ?he ?hc ?_); (case he | hc => first | rfl | (simp [D.erL, D.er, D.closedL, D.closed, hlen, hca, hea, hcl, hel, f1, f2]; done)))
    | ((with_reducible refine o_call (k5) ?he ?hc ?_); (case he | hc => first | rfl | (simp [D.erL, D.er, D.closedL, D.closed, hlen, hca, hea, hcl, hel, f1, f2]; done)))
    | ((with_reducible apply s_appT); (case he => rfl); (case hK | hc | hr | hV => first | rfl | assumption | omega | ((first | refine ⟨?_, ?_⟩ | skip) <;> first | omega | (simp only [lN, hlen, hca, hea, hcl, hel, f1, f2] <;> omega)) | (simp [elemsK, D.isVal, D.cells, D.closedL, D.closed, hlen, hca, hea, hcl, hel, f1, f2]; first | done | omega)))
    | ((with_reducible apply s_appG); (case he => rfl); (case hV | hK | hr | hl => first | rfl | assumption | omega | ((first | refine ⟨?_, ?_⟩ | skip) <;> first | omega | (simp only [lN, hlen, hca, hea, hcl, hel, f1, f2] <;> omega)) | (simp [elemsK, D.isVal, D.cells, D.closedL, D.closed, hlen, hca, hea, hcl, hel, f1, f2]; first | done | omega)))
    | ((with_reducible first | apply s_app0 | apply t_app0); (case he => rfl); (case hK | hc | hr => first | rfl | assumption | omega | ((first | refine ⟨?_, ?_⟩ | skip) <;> first | omega | (simp only [lN, hlen, hca, hea, hcl, hel, f1, f2] <;> omega)) | (simp [elemsK, D.isVal, D.cells, D.closedL, D.closed, hlen, hca, hea, hcl, hel, f1, f2]; first | done | omega)))
    | ((with_reducible first | apply s_appF | apply t_appF); (case he => rfl); (case hK | hc | hr | hx | hn => first | rfl | assumption | omega | ((first | refine ⟨?_, ?_⟩ | skip) <;> first | omega | (simp only [lN, hlen, hca, hea, hcl, hel, f1, f2] <;> omega)) | (simp [elemsK, D.isVal, D.cells, D.closedL, D.closed, hlen, hca, hea, hcl, hel, f1, f2]; first | done | omega)))
    | ((with_reducible first | apply s_bsl | apply t_bsl); (case he | hl | hc => first | rfl | assumption | omega | ((first | refine ⟨?_, ?_⟩ | skip) <;> first | omega | (simp only [lN, hlen, hca, hea, hcl, hel, f1, f2] <;> omega)) | (simp [elemsK, D.isVal, D.cells, D.closedL, D.closed, hlen, hca, hea, hcl, hel, f1, f2]; first | done | omega)))
    | with_reducible first | apply cd_dec | apply cd_eq | apply cd_ne | apply cd_split | apply gd_dec | apply gd_eq | apply gd_ne | apply gd_split
    | ((with_reducible refine And.intro ?hw ?_); (case hw => first | omega | rfl | exact ⟨_, _, rfl⟩ | assumption | (simp only [lN, hlen, hca, hea, hcl, hel, f1, f2] <;> omega)))
    | with_reducible intro _)
        all_goals try omega
        all_goals simp [D.closed, D.er]
      have t1 : decide (clock < x.clock) = false := decide_eq_false g1
      by_cases g2 : day < x.frm
      · have t2 : decide (day < x.frm) = true := decide_eq_true g2
        repeat' (first
    | with_reducible first | apply swp_seq | apply swp_reg | apply swp_regD | apply swp_block | apply swp_exit | apply swp_ret | apply swp_skip | apply swp_cd
    | simp only [go_sem, seval, P7, q7, hlen, t1, t2]
    | simp (disch := omega) only [w64, w32, wu8, wu16, wu32, wu64]
    | ((with_reducible refine o_call (k3) ?he ?hc ?_); (case he | hc => first | rfl | (simp [D.erL, D.er, D.closedL, D.closed, hlen, hca, hea, hcl, hel, f1, f2]; done)))
    | ((with_reducible refine o_call (k4) ?he ?hc ?_); (case he | hc => first | rfl | (simp [D.erL, D.er, D.closedL, D.closed, hlen, hca, hea, hcl, hel, f1, f2]; done)))
    | ((with_reducible refine o_call (k5) ?he ?hc ?_); (case he | hc => first | rfl | (simp [D.erL, D.er, D.closedL, D.closed, hlen, hca, hea, hcl, hel, f1, f2]; done)))
    | ((with_reducible apply s_appT); (case he => rfl); (case hK | hc | hr | hV => first | rfl | assumption | omega | ((first | refine ⟨?_, ?_⟩ | skip) <;> first | omega | (simp only [lN, hlen, hca, hea, hcl, hel, f1, f2] <;> omega)) | (simp [elemsK, D.isVal, D.cells, D.closedL, D.closed, hlen, hca, hea, hcl, hel, f1, f2]; first | done | omega)))
    | ((with_reducible apply s_appG); (case he => rfl); (case hV | hK | hr | hl => first | rfl | assumption | omega | ((first | refine ⟨?_, ?_⟩ | skip) <;> first | omega | (simp only [lN, hlen, hca, hea, hcl, hel, f1, f2] <;> omega)) | (simp [elemsK, D.isVal, D.cells, D.closedL, D.closed, hlen, hca, hea, hcl, hel, f1, f2]; first | done | omega)))
    | ((with_reducible first | apply s_app0 | apply t_app0); (case he => rfl); (case hK | hc | hr => first | rfl | assumption | omega | ((first | refine ⟨?_, ?_⟩ | skip) <;> first | omega | (simp only [lN, hlen, hca, hea, hcl, hel, f1, f2] <;> omega)) | (simp [elemsK, D.isVal, D.cells, D.closedL, D.closed, hlen, hca, hea, hcl, hel, f1, f2]; first | done | omega)))
    | ((with_reducible first | apply s_appF | apply t_appF); (case he => rfl); (case hK | hc | hr | hx | hn => first | rfl | assumption | omega | ((first | refine ⟨?_, ?_⟩ | skip) <;> first | omega | (simp only [lN, hlen, hca, hea, hcl, hel, f1, f2] <;> omega)) | (simp [elemsK, D.isVal, D.cells, D.closedL, D.closed, hlen, hca, hea, hcl, hel, f1, f2]; first | done | omega)))
    | ((with_reducible first | apply s_bsl | apply t_bsl); (case he | hl | hc => first | rfl | assumption | omega | ((first | refine ⟨?_, ?_⟩ | skip) <;> first | omega | (simp only [lN, hlen, hca, hea, hcl, hel, f1, f2] <;> omega)) | (simp [elemsK, D.isVal, D.cells, D.closedL, D.closed, hlen, hca, hea, hcl, hel, f1, f2]; first | done | omega)))
    | with_reducible first | apply cd_dec | apply cd_eq | apply cd_ne | apply cd_split | apply gd_dec | apply gd_eq | apply gd_ne | apply gd_split
    | ((with_reducible refine And.intro ?hw ?_); (case hw => first | omega | rfl | exact ⟨_, _, rfl⟩ | assumption | (simp only [lN, hlen, hca, hea, hcl, hel, f1, f2] <;> omega)))
    | with_reducible intro _)
        all_goals try omega
        all_goals simp [D.closed, D.er]
      have t2 : decide (day < x.frm) = false := decide_eq_false g2
      have t3 : decide (day > x.to) = true := decide_eq_true (by omega)
      repeat' (first
    | with_reducible first | apply swp_seq | apply swp_reg | apply swp_regD | apply swp_block | apply swp_exit | apply swp_ret | apply swp_skip | apply swp_cd
    | simp only [go_sem, seval, P7, q7, hlen, t1, t2, t3]
    | simp (disch := omega) only [w64, w32, wu8, wu16, wu32, wu64]
    | ((with_reducible refine o_call (k3) ?he ?hc ?_); (case he | hc => first | rfl | (simp [D.erL, D.er, D.closedL, D.closed, hlen, hca, hea, hcl, hel, f1, f2]; done)))
    | ((with_reducible refine o_call (k4) ?he ?hc ?_); (case he | hc => first | rfl | (simp [D.erL, D.er, D.closedL, D.closed, hlen, hca, hea, hcl, hel, f1, f2]; done)))
    | ((with_reducible refine o_call (k5) ?he ?hc ?_); (case he | hc => first | rfl | (simp [D.erL, D.er, D.closedL, D.closed, hlen, hca, hea, hcl, hel, f1, f2]; done)))
    | ((with_reducible apply s_appT); (case he => rfl); (case hK | hc | hr | hV => first | rfl | assumption | omega | ((first | refine ⟨?_, ?_⟩ | skip) <;> first | omega | (simp only [lN, hlen, hca, hea, hcl, hel, f1, f2] <;> omega)) | (simp [elemsK, D.isVal, D.cells, D.closedL, D.closed, hlen, hca, hea, hcl, hel, f1, f2]; first | done | omega)))
    | ((with_reducible apply s_appG); (case he => rfl); (case hV | hK | hr | hl => first | rfl | assumption | omega | ((first | refine ⟨?_, ?_⟩ | skip) <;> first | omega | (simp only [lN, hlen, hca, hea, hcl, hel, f1, f2] <;> omega)) | (simp [elemsK, D.isVal, D.cells, D.closedL, D.closed, hlen, hca, hea, hcl, hel, f1, f2]; first | done | omega)))
    | ((with_reducible first | apply s_app0 | apply t_app0); (case he => rfl); (case hK | hc | hr => first | rfl | assumption | omega | ((first | refine ⟨?_, ?_⟩ | skip) <;> first | omega | (simp only [lN, hlen, hca, hea, hcl, hel, f1, f2] <;> omega)) | (simp [elemsK, D.isVal, D.cells, D.closedL, D.closed, hlen, hca, hea, hcl, hel, f1, f2]; first | done | omega)))
    | ((with_reducible first | apply s_appF | apply t_appF); (case he => rfl); (case hK | hc | hr | hx | hn => first | rfl | assumption | omega | ((first | refine ⟨?_, ?_⟩ | skip) <;> first | omega | (simp only [lN, hlen, hca, hea, hcl, hel, f1, f2] <;> omega)) | (simp [elemsK, D.isVal, D.cells, D.closedL, D.closed, hlen, hca, hea, hcl, hel, f1, f2]; first | done | omega)))
    | ((with_reducible first | apply s_bsl | apply t_bsl); (case he | hl | hc => first | rfl | assumption | omega | ((first | refine ⟨?_, ?_⟩ | skip) <;> first | omega | (simp only [lN, hlen, hca, hea, hcl, hel, f1, f2] <;> omega)) | (simp [elemsK, D.isVal, D.cells, D.closedL, D.closed, hlen, hca, hea, hcl, hel, f1, f2]; first | done | omega)))
    | with_reducible first | apply cd_dec | apply cd_eq | apply cd_ne | apply cd_split | apply gd_dec | apply gd_eq | apply gd_ne | apply gd_split
    | ((with_reducible refine And.intro ?hw ?_); (case hw => first | omega | rfl | exact ⟨_, _, rfl⟩ | assumption | (simp only [lN, hlen, hca, hea, hcl, hel, f1, f2] <;> omega)))
    | with_reducible intro _)
      all_goals try omega
      all_goals simp [D.closed, D.er]
    have hin : x.clock ≤ clock ∧ x.frm ≤ day ∧ day ≤ x.to := by
      simp only [spk, Bool.and_eq_true, decide_eq_true_eq] at hsp
      exact ⟨hsp.1.1.2, hsp.1.2, hsp.2⟩
    have t1 : decide (clock < x.clock) = false := decide_eq_false (by omega)
    have t2 : decide (day < x.frm) = false := decide_eq_false (by omega)
    have t3 : decide (day > x.to) = false := decide_eq_false (by omega)
    have hF := later_found hsp hmax
    have hrule := fun r hr => later_rule (r := r) hsp hmax hr
    have hrl := inForce_len (l ++ [x]) day clock
    have hrs := inForce_sm hs day clock
    rw [List.length_append, List.length_singleton] at hrl
    clear k5
    generalize inForce l day clock = S at *
    generalize inForce (l ++ [x]) day clock = R at *
    have hRm : (R.map rlD).length = R.length := by simp
    repeat' (first
    | with_reducible first | apply swp_seq | apply swp_reg | apply swp_regD | apply swp_block | apply swp_exit | apply swp_ret | apply swp_skip | apply swp_cd
    | simp only [go_sem, seval, P7, q7, hlen, t1, t2, t3]
    | simp (disch := omega) only [w64, w32, wu8, wu16, wu32, wu64]
    | ((with_reducible refine o_call (k3) ?he ?hc ?_); (case he | hc => first | rfl | (simp [D.erL, D.er, D.closedL, D.closed, hlen, hca, hea, hcl, hel, f1, f2, f3, f4]; done)))
    | ((with_reducible refine o_call (k4) ?he ?hc ?_); (case he | hc => first | rfl | (simp [D.erL, D.er, D.closedL, D.closed, hlen, hca, hea, hcl, hel, f1, f2, f3, f4]; done)))
    | ((with_reducible apply s_appT); (case he => rfl); (case hK | hc | hr | hV => first | rfl | assumption | omega | ((first | refine ⟨?_, ?_⟩ | skip) <;> first | omega | (simp only [lN, hlen, hca, hea, hcl, hel, f1, f2, f3, f4] <;> omega)) | (simp [elemsK, D.isVal, D.cells, D.closedL, D.closed, hlen, hca, hea, hcl, hel, f1, f2, f3, f4]; first | done | omega)))
    | ((with_reducible apply s_appG); (case he => rfl); (case hV | hK | hr | hl => first | rfl | assumption | omega | ((first | refine ⟨?_, ?_⟩ | skip) <;> first | omega | (simp only [lN, hlen, hca, hea, hcl, hel, f1, f2, f3, f4] <;> omega)) | (simp [elemsK, D.isVal, D.cells, D.closedL, D.closed, hlen, hca, hea, hcl, hel, f1, f2, f3, f4]; first | done | omega)))
    | ((with_reducible first | apply s_app0 | apply t_app0); (case he => rfl); (case hK | hc | hr => first | rfl | assumption | omega | ((first | refine ⟨?_, ?_⟩ | skip) <;> first | omega | (simp only [lN, hlen, hca, hea, hcl, hel, f1, f2, f3, f4] <;> omega)) | (simp [elemsK, D.isVal, D.cells, D.closedL, D.closed, hlen, hca, hea, hcl, hel, f1, f2, f3, f4]; first | done | omega)))
    | ((with_reducible first | apply s_appF | apply t_appF); (case he => rfl); (case hK | hc | hr | hx | hn => first | rfl | assumption | omega | ((first | refine ⟨?_, ?_⟩ | skip) <;> first | omega | (simp only [lN, hlen, hca, hea, hcl, hel, f1, f2, f3, f4] <;> omega)) | (simp [elemsK, D.isVal, D.cells, D.closedL, D.closed, hlen, hca, hea, hcl, hel, f1, f2, f3, f4]; first | done | omega)))
    | ((with_reducible first | apply s_bsl | apply t_bsl); (case he | hl | hc => first | rfl | assumption | omega | ((first | refine ⟨?_, ?_⟩ | skip) <;> first | omega | (simp only [lN, hlen, hca, hea, hcl, hel, f1, f2, f3, f4] <;> omega)) | (simp [elemsK, D.isVal, D.cells, D.closedL, D.closed, hlen, hca, hea, hcl, hel, f1, f2, f3, f4]; first | done | omega)))
    | with_reducible first | apply cd_dec | apply cd_eq | apply cd_ne | apply cd_split | apply gd_dec | apply gd_eq | apply gd_ne | apply gd_split
    | ((with_reducible refine And.intro ?hw ?_); (case hw => first | omega | rfl | exact ⟨_, _, rfl⟩ | assumption | (simp only [lN, hlen, hca, hea, hcl, hel, f1, f2, f3, f4] <;> omega)))
    | with_reducible intro _)
    all_goals try omega
    refine swp_fam [0, 1, 2, 3, 4, 6, 10, 11, 12] (fun k : Nat => ⟨[amsD l, .agg x.cells, .int .i64 day, .int .i64 clock, .ip x.cells, .undef, .bool true, .undef, .undef, .undef, rulesD R, .bool (fnd x.rule.name R k), .int .i64 k, .undef, .undef, .undef, .undef, .undef, .undef, .undef], [], ⟨[.gone], [.per 12 (l.length + 1)]⟩⟩)
      (fun k => k ≤ R.length) (fun k => R.length + 1 - k) 0 (by omega) ?_ ?_
    · simp [keepE, St.keep, fnd]
    · intro k hk
      by_cases hkl : k < R.length
      · have hgk : (R.map rlD).getD k .undef = .agg (R[k]).cells := R_get hkl
        have hst := fnd_step (n := x.rule.name) hkl
        have hcy := closedL_X (R[k]).cond.kids
        have hey := erL_X (R[k]).cond.kids
        by_cases hn : R[k].name = x.rule.name
        · have t4 : (R[k].name == x.rule.name) = true := by simp [hn]
          have ksame := refSame_p (R[k]) x.rule (hrs _ (List.getElem_mem hkl))
          rw [(sameR_iff _ _).2 (hrule _ (List.getElem_mem hkl) hn)] at ksame
          rw [t4, Bool.or_true] at hst
          unfold rlD at ksame
          repeat' (first
    | with_reducible first | apply swp_seq | apply swp_reg | apply swp_regD | apply swp_block | apply swp_exit | apply swp_ret | apply swp_skip | apply swp_cd
    | simp only [go_sem, seval, P7, q7, hRm, hgk, t4]
    | simp (disch := omega) only [w64, w32, wu8, wu16, wu32, wu64]
    | ((with_reducible refine o_call (ksame) ?he ?hc ?_); (case he | hc => first | rfl | (simp [D.erL, D.er, D.closedL, D.closed, hRm, hgk, hcx, hex, hcy, hey]; done)))
    | ((with_reducible apply s_appT); (case he => rfl); (case hK | hc | hr | hV => first | rfl | assumption | omega | ((first | refine ⟨?_, ?_⟩ | skip) <;> first | omega | (simp only [lN, hRm, hgk, hcx, hex, hcy, hey] <;> omega)) | (simp [elemsK, D.isVal, D.cells, D.closedL, D.closed, hRm, hgk, hcx, hex, hcy, hey]; first | done | omega)))
    | ((with_reducible apply s_appG); (case he => rfl); (case hV | hK | hr | hl => first | rfl | assumption | omega | ((first | refine ⟨?_, ?_⟩ | skip) <;> first | omega | (simp only [lN, hRm, hgk, hcx, hex, hcy, hey] <;> omega)) | (simp [elemsK, D.isVal, D.cells, D.closedL, D.closed, hRm, hgk, hcx, hex, hcy, hey]; first | done | omega)))
    | ((with_reducible first | apply s_app0 | apply t_app0); (case he => rfl); (case hK | hc | hr => first | rfl | assumption | omega | ((first | refine ⟨?_, ?_⟩ | skip) <;> first | omega | (simp only [lN, hRm, hgk, hcx, hex, hcy, hey] <;> omega)) | (simp [elemsK, D.isVal, D.cells, D.closedL, D.closed, hRm, hgk, hcx, hex, hcy, hey]; first | done | omega)))
    | ((with_reducible first | apply s_appF | apply t_appF); (case he => rfl); (case hK | hc | hr | hx | hn => first | rfl | assumption | omega | ((first | refine ⟨?_, ?_⟩ | skip) <;> first | omega | (simp only [lN, hRm, hgk, hcx, hex, hcy, hey] <;> omega)) | (simp [elemsK, D.isVal, D.cells, D.closedL, D.closed, hRm, hgk, hcx, hex, hcy, hey]; first | done | omega)))
    | ((with_reducible first | apply s_bsl | apply t_bsl); (case he | hl | hc => first | rfl | assumption | omega | ((first | refine ⟨?_, ?_⟩ | skip) <;> first | omega | (simp only [lN, hRm, hgk, hcx, hex, hcy, hey] <;> omega)) | (simp [elemsK, D.isVal, D.cells, D.closedL, D.closed, hRm, hgk, hcx, hex, hcy, hey]; first | done | omega)))
    | with_reducible first | apply cd_dec | apply cd_eq | apply cd_ne | apply cd_split | apply gd_dec | apply gd_eq | apply gd_ne | apply gd_split
    | ((with_reducible refine And.intro ?hw ?_); (case hw => first | omega | rfl | exact ⟨_, _, rfl⟩ | assumption | (simp only [lN, hRm, hgk, hcx, hex, hcy, hey] <;> omega)))
    | with_reducible intro _)
          all_goals try omega
          all_goals (refine ⟨k + 1, by omega, by omega, ?_⟩; simp [keepE, St.keep, hst])
        · have t4 : (R[k].name == x.rule.name) = false := by simp [hn]
          rw [t4, Bool.or_false] at hst
          repeat' (first
    | with_reducible first | apply swp_seq | apply swp_reg | apply swp_regD | apply swp_block | apply swp_exit | apply swp_ret | apply swp_skip | apply swp_cd
    | simp only [go_sem, seval, P7, q7, hRm, hgk, t4]
    | simp (disch := omega) only [w64, w32, wu8, wu16, wu32, wu64]
    | ((with_reducible apply s_appT); (case he => rfl); (case hK | hc | hr | hV => first | rfl | assumption | omega | ((first | refine ⟨?_, ?_⟩ | skip) <;> first | omega | (simp only [lN, hRm, hgk, hcx, hex, hcy, hey] <;> omega)) | (simp [elemsK, D.isVal, D.cells, D.closedL, D.closed, hRm, hgk, hcx, hex, hcy, hey]; first | done | omega)))
    | ((with_reducible apply s_appG); (case he => rfl); (case hV | hK | hr | hl => first | rfl | assumption | omega | ((first | refine ⟨?_, ?_⟩ | skip) <;> first | omega | (simp only [lN, hRm, hgk, hcx, hex, hcy, hey] <;> omega)) | (simp [elemsK, D.isVal, D.cells, D.closedL, D.closed, hRm, hgk, hcx, hex, hcy, hey]; first | done | omega)))
    | ((with_reducible first | apply s_app0 | apply t_app0); (case he => rfl); (case hK | hc | hr => first | rfl | assumption | omega | ((first | refine ⟨?_, ?_⟩ | skip) <;> first | omega | (simp only [lN, hRm, hgk, hcx, hex, hcy, hey] <;> omega)) | (simp [elemsK, D.isVal, D.cells, D.closedL, D.closed, hRm, hgk, hcx, hex, hcy, hey]; first | done | omega)))
    | ((with_reducible first | apply s_appF | apply t_appF); (case he => rfl); (case hK | hc | hr | hx | hn => first | rfl | assumption | omega | ((first | refine ⟨?_, ?_⟩ | skip) <;> first | omega | (simp only [lN, hRm, hgk, hcx, hex, hcy, hey] <;> omega)) | (simp [elemsK, D.isVal, D.cells, D.closedL, D.closed, hRm, hgk, hcx, hex, hcy, hey]; first | done | omega)))
    | ((with_reducible first | apply s_bsl | apply t_bsl); (case he | hl | hc => first | rfl | assumption | omega | ((first | refine ⟨?_, ?_⟩ | skip) <;> first | omega | (simp only [lN, hRm, hgk, hcx, hex, hcy, hey] <;> omega)) | (simp [elemsK, D.isVal, D.cells, D.closedL, D.closed, hRm, hgk, hcx, hex, hcy, hey]; first | done | omega)))
    | with_reducible first | apply cd_dec | apply cd_eq | apply cd_ne | apply cd_split | apply gd_dec | apply gd_eq | apply gd_ne | apply gd_split
    | ((with_reducible refine And.intro ?hw ?_); (case hw => first | omega | rfl | exact ⟨_, _, rfl⟩ | assumption | (simp only [lN, hRm, hgk, hcx, hex, hcy, hey] <;> omega)))
    | with_reducible intro _)
          all_goals try omega
          all_goals (refine ⟨k + 1, by omega, by omega, ?_⟩; simp [keepE, St.keep, hst])
      · have hke : k = R.length := by omega
        subst hke
        rw [hF]
        cases hv : x.void
        · repeat' (first
    | with_reducible first | apply swp_seq | apply swp_reg | apply swp_regD | apply swp_block | apply swp_exit | apply swp_ret | apply swp_skip | apply swp_cd
    | simp only [go_sem, seval, P7, q7, hRm]
    | simp (disch := omega) only [w64, w32, wu8, wu16, wu32, wu64]
    | ((with_reducible apply s_appT); (case he => rfl); (case hK | hc | hr | hV => first | rfl | assumption | omega | ((first | refine ⟨?_, ?_⟩ | skip) <;> first | omega | (simp only [lN, hRm] <;> omega)) | (simp [elemsK, D.isVal, D.cells, D.closedL, D.closed, hRm]; first | done | omega)))
    | ((with_reducible apply s_appG); (case he => rfl); (case hV | hK | hr | hl => first | rfl | assumption | omega | ((first | refine ⟨?_, ?_⟩ | skip) <;> first | omega | (simp only [lN, hRm] <;> omega)) | (simp [elemsK, D.isVal, D.cells, D.closedL, D.closed, hRm]; first | done | omega)))
    | ((with_reducible first | apply s_app0 | apply t_app0); (case he => rfl); (case hK | hc | hr => first | rfl | assumption | omega | ((first | refine ⟨?_, ?_⟩ | skip) <;> first | omega | (simp only [lN, hRm] <;> omega)) | (simp [elemsK, D.isVal, D.cells, D.closedL, D.closed, hRm]; first | done | omega)))
    | ((with_reducible first | apply s_appF | apply t_appF); (case he => rfl); (case hK | hc | hr | hx | hn => first | rfl | assumption | omega | ((first | refine ⟨?_, ?_⟩ | skip) <;> first | omega | (simp only [lN, hRm] <;> omega)) | (simp [elemsK, D.isVal, D.cells, D.closedL, D.closed, hRm]; first | done | omega)))
    | ((with_reducible first | apply s_bsl | apply t_bsl); (case he | hl | hc => first | rfl | assumption | omega | ((first | refine ⟨?_, ?_⟩ | skip) <;> first | omega | (simp only [lN, hRm] <;> omega)) | (simp [elemsK, D.isVal, D.cells, D.closedL, D.closed, hRm]; first | done | omega)))
    | with_reducible first | apply cd_dec | apply cd_eq | apply cd_ne | apply cd_split | apply gd_dec | apply gd_eq | apply gd_ne | apply gd_split
    | ((with_reducible refine And.intro ?hw ?_); (case hw => first | omega | rfl | exact ⟨_, _, rfl⟩ | assumption | (simp only [lN, hRm] <;> omega)))
    | with_reducible intro _)
          all_goals try omega
          all_goals simp [D.closed, D.er, hv]
        · repeat' (first
    | with_reducible first | apply swp_seq | apply swp_reg | apply swp_regD | apply swp_block | apply swp_exit | apply swp_ret | apply swp_skip | apply swp_cd
    | simp only [go_sem, seval, P7, q7, hRm]
    | simp (disch := omega) only [w64, w32, wu8, wu16, wu32, wu64]
    | ((with_reducible apply s_appT); (case he => rfl); (case hK | hc | hr | hV => first | rfl | assumption | omega | ((first | refine ⟨?_, ?_⟩ | skip) <;> first | omega | (simp only [lN, hRm] <;> omega)) | (simp [elemsK, D.isVal, D.cells, D.closedL, D.closed, hRm]; first | done | omega)))
    | ((with_reducible apply s_appG); (case he => rfl); (case hV | hK | hr | hl => first | rfl | assumption | omega | ((first | refine ⟨?_, ?_⟩ | skip) <;> first | omega | (simp only [lN, hRm] <;> omega)) | (simp [elemsK, D.isVal, D.cells, D.closedL, D.closed, hRm]; first | done | omega)))
    | ((with_reducible first | apply s_app0 | apply t_app0); (case he => rfl); (case hK | hc | hr => first | rfl | assumption | omega | ((first | refine ⟨?_, ?_⟩ | skip) <;> first | omega | (simp only [lN, hRm] <;> omega)) | (simp [elemsK, D.isVal, D.cells, D.closedL, D.closed, hRm]; first | done | omega)))
    | ((with_reducible first | apply s_appF | apply t_appF); (case he => rfl); (case hK | hc | hr | hx | hn => first | rfl | assumption | omega | ((first | refine ⟨?_, ?_⟩ | skip) <;> first | omega | (simp only [lN, hRm] <;> omega)) | (simp [elemsK, D.isVal, D.cells, D.closedL, D.closed, hRm]; first | done | omega)))
    | ((with_reducible first | apply s_bsl | apply t_bsl); (case he | hl | hc => first | rfl | assumption | omega | ((first | refine ⟨?_, ?_⟩ | skip) <;> first | omega | (simp only [lN, hRm] <;> omega)) | (simp [elemsK, D.isVal, D.cells, D.closedL, D.closed, hRm]; first | done | omega)))
    | with_reducible first | apply cd_dec | apply cd_eq | apply cd_ne | apply cd_split | apply gd_dec | apply gd_eq | apply gd_ne | apply gd_split
    | ((with_reducible refine And.intro ?hw ?_); (case hw => first | omega | rfl | exact ⟨_, _, rfl⟩ | assumption | (simp only [lN, hRm] <;> omega)))
    | with_reducible intro _)
          all_goals try omega
          all_goals simp [D.closed, D.er, hv]
end Go.Proofs.Ytnooagipikedeaa
end
section
set_option maxRecDepth 100000
set_option linter.unusedSimpArgs false
set_option linter.unusedVariables false
namespace Go.Proofs.Ytnooagipikedeaa
open Go GoV Go.RowKit
set_option maxHeartbeats 1000000 in
theorem others_reg (l : List Am) (hr : l.length ≤ 977343669105) (x : Am) (n day clock : Int) (i : Nat) (hi : i ≤ l.length) (Q : Ex → St → Prop)
    (hQ : Q .normal ⟨[amsD l, .agg x.cells, .int .u8 n, .int .i64 day, .int .i64 clock, .ip x.cells, .bool false, .bool true, .int .i64 i, .slice ((l.map amD).take i ++ [amD x]) (.tok 0), .undef, .undef, .undef, .undef, .undef], [], ⟨[.gone], [.per 12 (i + 1)]⟩⟩) :
    SWp C8 (.regD r8_3 r8_4) Q ⟨[amsD l, .agg x.cells, .int .u8 n, .int .i64 day, .int .i64 clock, .ip x.cells, .bool false, .bool true, .int .i64 i, .undef, .undef, .undef, .undef, .undef, .undef], [], ⟨[.gone], []⟩⟩ := by
  have hek := elemsK_A l
  have htk := (List.map_take (f := amD) (l := l) (i := i)) ▸ elemsK_A (l.take i)
  have htc : D.closedL ((l.map amD).take i) = true := by rw [← List.map_take]; exact closedL_A _
  have hte : D.erL ((l.map amD).take i) = (l.map amD).take i := by rw [← List.map_take]; exact erL_A _
  have htl : ((l.map amD).take i).length = i := by simp; omega
  have hlen : (l.map amD).length = l.length := by simp
  refine swp_regDX 4 ?_
  rw [P8]
  refine x_q (ds := []) (.slice [] .full) (by decide) rfl (fun _ => by simp [OcWp, isCall, opWp, elemsK, D.closedL, D.erL]) ?_
  refine x_q (ds := [amsD l]) (amsD l) (by decide) rfl (fun _ => by simp [OcWp, isCall, opWp]) ?_
  refine x_q (ds := [.int .i64 i]) (.int .i64 i) (by decide) rfl (fun _ => by simp [OcWp, isCall, opWp]) ?_
  refine x_q (ds := [amsD l, .int .i64 i]) (.slice ((l.map amD).take i) .no) (by decide) rfl (fun _ => by
    simp only [OcWp, isCall, Bool.false_eq_true, if_false, opWp]
    exact ⟨0, (i : Int), ⟨rfl, rfl⟩, by omega, by omega, by simp [dlen]; omega, hek, by simp⟩) ?_
  refine x_appFT (xs := []) (x := .slice ((l.map amD).take i) .no) (es := (l.map amD).take i) rfl rfl htk htc (room_am hr (by rw [htl]; simp; omega)) rfl (by omega) ?_
  rw [hte, htl, List.nil_append]
  refine x_q (ds := [.ip x.cells]) (amD x) (by decide) rfl (fun _ => by simp [OcWp, isCall, opWp, amD]) ?_
  refine x_q (ds := [amD x]) (.slice [amD x] .full) (by decide) rfl (fun _ => by simp [OcWp, isCall, opWp, elemsK, D.closedL, D.erL, cl_A, er_A, A_isVal]) ?_
  have ex : D.erL [amD x] = [amD x] := by simp [D.erL, er_A]
  have cx : D.closedL [amD x] = true := by simp [D.closedL, cl_A]
  generalize (l.map amD).take i = TM at *
  repeat' (first
    | with_reducible first | apply swp_seq | apply swp_reg | apply swp_regD | apply swp_block | apply swp_exit | apply swp_ret | apply swp_skip | apply swp_cd
    | simp only [go_sem, seval, P8, q8]
    | simp (disch := omega) only [w64, w32, wu8, wu16, wu32, wu64]
    | ((with_reducible apply s_appT); (case he => rfl); (case hK | hc | hr | hV => first | rfl | assumption | omega | ((first | refine ⟨?_, ?_⟩ | skip) <;> first | omega | (simp only [lN] <;> omega)) | (simp [elemsK, D.isVal, D.cells, D.closedL, D.closed]; first | done | omega)))
    | ((with_reducible apply s_appG); (case he => rfl); (case hV | hK | hr | hl => first | rfl | assumption | omega | ((first | refine ⟨?_, ?_⟩ | skip) <;> first | omega | (simp only [lN] <;> omega)) | (simp [elemsK, D.isVal, D.cells, D.closedL, D.closed]; first | done | omega)))
    | ((with_reducible first | apply s_app0 | apply t_app0); (case he => rfl); (case hK | hc | hr => first | rfl | assumption | omega | ((first | refine ⟨?_, ?_⟩ | skip) <;> first | omega | (simp only [lN] <;> omega)) | (simp [elemsK, D.isVal, D.cells, D.closedL, D.closed]; first | done | omega)))
    | ((with_reducible first | apply s_appF | apply t_appF); (case he => rfl); (case hK | hc | hr | hx | hn => first | rfl | assumption | omega | ((first | refine ⟨?_, ?_⟩ | skip) <;> first | omega | (simp only [lN] <;> omega)) | (simp [elemsK, D.isVal, D.cells, D.closedL, D.closed]; first | done | omega)))
    | ((with_reducible first | apply s_bsl | apply t_bsl); (case he | hl | hc => first | rfl | assumption | omega | ((first | refine ⟨?_, ?_⟩ | skip) <;> first | omega | (simp only [lN] <;> omega)) | (simp [elemsK, D.isVal, D.cells, D.closedL, D.closed]; first | done | omega)))
    | ((with_reducible first | apply s_slFF | apply t_slFF); (case hx => first | rfl | assumption | omega | ((first | refine ⟨?_, ?_⟩ | skip) <;> first | omega | (simp only [lN] <;> omega)) | (simp [elemsK, D.isVal, D.cells, D.closedL, D.closed]; first | done | omega)))
    | ((with_reducible first | apply s_slTF | apply s_slFT | apply t_slTF | apply t_slFT); (case h0 | h1 | hx => first | rfl | assumption | omega | ((first | refine ⟨?_, ?_⟩ | skip) <;> first | omega | (simp only [lN] <;> omega)) | (simp [elemsK, D.isVal, D.cells, D.closedL, D.closed]; first | done | omega)))
    | ((with_reducible first | apply s_slTT | apply t_slTT); (case h0 | h1 | h2 | hx => first | rfl | assumption | omega | ((first | refine ⟨?_, ?_⟩ | skip) <;> first | omega | (simp only [lN] <;> omega)) | (simp [elemsK, D.isVal, D.cells, D.closedL, D.closed]; first | done | omega)))
    | ((with_reducible first | apply s_smTF | apply s_smFT); (case h0 | h1 | hc => first | rfl | assumption | omega | ((first | refine ⟨?_, ?_⟩ | skip) <;> first | omega | (simp only [lN] <;> omega)) | (simp [elemsK, D.isVal, D.cells, D.closedL, D.closed]; first | done | omega)))
    | ((with_reducible apply s_smTT); (case h0 | h1 | h2 | hc => first | rfl | assumption | omega | ((first | refine ⟨?_, ?_⟩ | skip) <;> first | omega | (simp only [lN] <;> omega)) | (simp [elemsK, D.isVal, D.cells, D.closedL, D.closed]; first | done | omega)))
    | with_reducible first | apply cd_dec | apply cd_eq | apply cd_ne | apply cd_split | apply gd_dec | apply gd_eq | apply gd_ne | apply gd_split
    | ((with_reducible refine And.intro ?hw ?_); (case hw => first | omega | rfl | exact ⟨_, _, rfl⟩ | assumption | (simp only [lN] <;> omega)))
    | with_reducible intro _)
  refine x_nil ?_
  refine s_appT (t := 0) (xs := TM) (es := [amD x]) (x := .slice [amD x] .full) rfl (by simp [elemsK, A_isVal]) cx (room_am hr (by simp [htl]; omega)) (by simp [htl]) ?_
  rw [ex]
  repeat' (first
    | with_reducible first | apply swp_seq | apply swp_reg | apply swp_regD | apply swp_block | apply swp_exit | apply swp_ret | apply swp_skip | apply swp_cd
    | simp only [go_sem, seval, P8, q8, htl]
    | simp (disch := omega) only [w64, w32, wu8, wu16, wu32, wu64]
    | ((with_reducible apply s_appT); (case he => rfl); (case hK | hc | hr | hV => first | rfl | assumption | omega | ((first | refine ⟨?_, ?_⟩ | skip) <;> first | omega | (simp only [lN] <;> omega)) | (simp [elemsK, D.isVal, D.cells, D.closedL, D.closed]; first | done | omega)))
    | ((with_reducible apply s_appG); (case he => rfl); (case hV | hK | hr | hl => first | rfl | assumption | omega | ((first | refine ⟨?_, ?_⟩ | skip) <;> first | omega | (simp only [lN] <;> omega)) | (simp [elemsK, D.isVal, D.cells, D.closedL, D.closed]; first | done | omega)))
    | ((with_reducible first | apply s_app0 | apply t_app0); (case he => rfl); (case hK | hc | hr => first | rfl | assumption | omega | ((first | refine ⟨?_, ?_⟩ | skip) <;> first | omega | (simp only [lN] <;> omega)) | (simp [elemsK, D.isVal, D.cells, D.closedL, D.closed]; first | done | omega)))
    | ((with_reducible first | apply s_appF | apply t_appF); (case he => rfl); (case hK | hc | hr | hx | hn => first | rfl | assumption | omega | ((first | refine ⟨?_, ?_⟩ | skip) <;> first | omega | (simp only [lN] <;> omega)) | (simp [elemsK, D.isVal, D.cells, D.closedL, D.closed]; first | done | omega)))
    | ((with_reducible first | apply s_bsl | apply t_bsl); (case he | hl | hc => first | rfl | assumption | omega | ((first | refine ⟨?_, ?_⟩ | skip) <;> first | omega | (simp only [lN] <;> omega)) | (simp [elemsK, D.isVal, D.cells, D.closedL, D.closed]; first | done | omega)))
    | ((with_reducible first | apply s_slFF | apply t_slFF); (case hx => first | rfl | assumption | omega | ((first | refine ⟨?_, ?_⟩ | skip) <;> first | omega | (simp only [lN] <;> omega)) | (simp [elemsK, D.isVal, D.cells, D.closedL, D.closed]; first | done | omega)))
    | ((with_reducible first | apply s_slTF | apply s_slFT | apply t_slTF | apply t_slFT); (case h0 | h1 | hx => first | rfl | assumption | omega | ((first | refine ⟨?_, ?_⟩ | skip) <;> first | omega | (simp only [lN] <;> omega)) | (simp [elemsK, D.isVal, D.cells, D.closedL, D.closed]; first | done | omega)))
    | ((with_reducible first | apply s_slTT | apply t_slTT); (case h0 | h1 | h2 | hx => first | rfl | assumption | omega | ((first | refine ⟨?_, ?_⟩ | skip) <;> first | omega | (simp only [lN] <;> omega)) | (simp [elemsK, D.isVal, D.cells, D.closedL, D.closed]; first | done | omega)))
    | ((with_reducible first | apply s_smTF | apply s_smFT); (case h0 | h1 | hc => first | rfl | assumption | omega | ((first | refine ⟨?_, ?_⟩ | skip) <;> first | omega | (simp only [lN] <;> omega)) | (simp [elemsK, D.isVal, D.cells, D.closedL, D.closed]; first | done | omega)))
    | ((with_reducible apply s_smTT); (case h0 | h1 | h2 | hc => first | rfl | assumption | omega | ((first | refine ⟨?_, ?_⟩ | skip) <;> first | omega | (simp only [lN] <;> omega)) | (simp [elemsK, D.isVal, D.cells, D.closedL, D.closed]; first | done | omega)))
    | with_reducible first | apply cd_dec | apply cd_eq | apply cd_ne | apply cd_split | apply gd_dec | apply gd_eq | apply gd_ne | apply gd_split
    | ((with_reducible refine And.intro ?hw ?_); (case hw => first | omega | rfl | exact ⟨_, _, rfl⟩ | assumption | (simp only [lN] <;> omega)))
    | with_reducible intro _)
  exact hQ
theorem spk_cases {x : Am} {day clock : Int} (h : day < x.frm ∨ day > x.to ∨ clock < x.clock ∨ amOk x = false) : spk day clock x = false := by
  cases e : spk day clock x with
  | false => rfl
  | true =>
    simp only [spk, Bool.and_eq_true, decide_eq_true_eq] at e
    rcases h with q | q | q | q
    · omega
    · omega
    · omega
    · rw [q] at e; cases e.1.1.1
set_option maxHeartbeats 4000000 in
theorem others_p (l : List Am) (hr : l.length ≤ 977343669105) (hf : ∀ a ∈ l, a.fit) (x : Am) (hx : x.fit) (n : Int) (hn : 0 ≤ n ∧ n ≤ 255) (day clock : Int) : Pur M 8 [amsD l, .agg x.cells, .int .u8 n, .int .i64 day, .int .i64 clock] (.bool true) := by
  refine ok8 rfl ?_
  rw [i8]
  unfold c8
  have k0 := head_p
  have hcx := closedL_X x.rule.cond.kids
  have hex := erL_X x.rule.cond.kids
  have hlen : (l.map amD).length = l.length := by simp
  obtain ⟨i, hi, hmod⟩ : ∃ i : Nat, i ≤ l.length ∧ Int.tmod n ((l.length : Int) + 1) = (i : Int) := by
    have h1 : Int.tmod n ((l.length : Int) + 1) = n % ((l.length : Int) + 1) := Int.tmod_eq_emod_of_nonneg hn.1
    have h2 := Int.emod_nonneg n (show ((l.length : Int) + 1) ≠ 0 by omega)
    have h3 := Int.emod_lt_of_pos n (show 0 < ((l.length : Int) + 1) by omega)
    exact ⟨(n % ((l.length : Int) + 1)).toNat, by omega, by rw [h1]; omega⟩
  obtain ⟨rc, hrc⟩ : ∃ rc, rc = RC.regD r8_3 r8_4 := ⟨_, rfl⟩
  rw [← hrc]
  repeat' (first
    | with_reducible first | apply swp_seq | apply swp_reg | apply swp_regD | apply swp_block | apply swp_exit | apply swp_ret | apply swp_skip | apply swp_cd
    | simp only [go_sem, seval, P8, q8, hmod, hlen]
    | simp (disch := omega) only [w64, w32, wu8, wu16, wu32, wu64]
    | ((with_reducible first | refine o_call (k0) ?he ?hc ?_ | refine p_call (k0) ?he ?hc ?_ | refine c_call (k0) ?he ?hc ?_); (case he | hc => first | rfl | (simp [D.erL, D.er, D.closedL, D.closed, hcx, hex, hlen]; done)))
    | ((with_reducible apply s_appT); (case he => rfl); (case hK | hc | hr | hV => first | rfl | assumption | omega | ((first | refine ⟨?_, ?_⟩ | skip) <;> first | omega | (simp only [lN, hcx, hex, hlen] <;> omega)) | (simp [elemsK, D.isVal, D.cells, D.closedL, D.closed, hcx, hex, hlen]; first | done | omega)))
    | ((with_reducible apply s_appG); (case he => rfl); (case hV | hK | hr | hl => first | rfl | assumption | omega | ((first | refine ⟨?_, ?_⟩ | skip) <;> first | omega | (simp only [lN, hcx, hex, hlen] <;> omega)) | (simp [elemsK, D.isVal, D.cells, D.closedL, D.closed, hcx, hex, hlen]; first | done | omega)))
    | ((with_reducible first | apply s_app0 | apply t_app0); (case he => rfl); (case hK | hc | hr => first | rfl | assumption | omega | ((first | refine ⟨?_, ?_⟩ | skip) <;> first | omega | (simp only [lN, hcx, hex, hlen] <;> omega)) | (simp [elemsK, D.isVal, D.cells, D.closedL, D.closed, hcx, hex, hlen]; first | done | omega)))
    | ((with_reducible first | apply s_appF | apply t_appF); (case he => rfl); (case hK | hc | hr | hx | hn => first | rfl | assumption | omega | ((first | refine ⟨?_, ?_⟩ | skip) <;> first | omega | (simp only [lN, hcx, hex, hlen] <;> omega)) | (simp [elemsK, D.isVal, D.cells, D.closedL, D.closed, hcx, hex, hlen]; first | done | omega)))
    | ((with_reducible first | apply s_bsl | apply t_bsl); (case he | hl | hc => first | rfl | assumption | omega | ((first | refine ⟨?_, ?_⟩ | skip) <;> first | omega | (simp only [lN, hcx, hex, hlen] <;> omega)) | (simp [elemsK, D.isVal, D.cells, D.closedL, D.closed, hcx, hex, hlen]; first | done | omega)))
    | ((with_reducible first | apply s_slFF | apply t_slFF); (case hx => first | rfl | assumption | omega | ((first | refine ⟨?_, ?_⟩ | skip) <;> first | omega | (simp only [lN, hcx, hex, hlen] <;> omega)) | (simp [elemsK, D.isVal, D.cells, D.closedL, D.closed, hcx, hex, hlen]; first | done | omega)))
    | ((with_reducible first | apply s_slTF | apply s_slFT | apply t_slTF | apply t_slFT); (case h0 | h1 | hx => first | rfl | assumption | omega | ((first | refine ⟨?_, ?_⟩ | skip) <;> first | omega | (simp only [lN, hcx, hex, hlen] <;> omega)) | (simp [elemsK, D.isVal, D.cells, D.closedL, D.closed, hcx, hex, hlen]; first | done | omega)))
    | ((with_reducible first | apply s_slTT | apply t_slTT); (case h0 | h1 | h2 | hx => first | rfl | assumption | omega | ((first | refine ⟨?_, ?_⟩ | skip) <;> first | omega | (simp only [lN, hcx, hex, hlen] <;> omega)) | (simp [elemsK, D.isVal, D.cells, D.closedL, D.closed, hcx, hex, hlen]; first | done | omega)))
    | ((with_reducible first | apply s_smTF | apply s_smFT); (case h0 | h1 | hc => first | rfl | assumption | omega | ((first | refine ⟨?_, ?_⟩ | skip) <;> first | omega | (simp only [lN, hcx, hex, hlen] <;> omega)) | (simp [elemsK, D.isVal, D.cells, D.closedL, D.closed, hcx, hex, hlen]; first | done | omega)))
    | ((with_reducible apply s_smTT); (case h0 | h1 | h2 | hc => first | rfl | assumption | omega | ((first | refine ⟨?_, ?_⟩ | skip) <;> first | omega | (simp only [lN, hcx, hex, hlen] <;> omega)) | (simp [elemsK, D.isVal, D.cells, D.closedL, D.closed, hcx, hex, hlen]; first | done | omega)))
    | with_reducible first | apply cd_dec | apply cd_eq | apply cd_ne | apply cd_split | apply gd_dec | apply gd_eq | apply gd_ne | apply gd_split
    | ((with_reducible refine And.intro ?hw ?_); (case hw => first | omega | rfl | exact ⟨_, _, rfl⟩ | assumption | (simp only [lN, hcx, hex, hlen] <;> omega)))
    | with_reducible intro _)
  all_goals try omega
  refine swp_weak (weak_trans (weak_keep [0, 1, 2, 3, 4, 5, 6, 7, 8]) (weak_frz 0 x.cells rfl (Nat.le_refl 0) (by simp [D.closedL, D.closed, hcx]))) ?_
  simp [keepE, St.frz, D.erL, D.er, hex]
  rw [hrc]
  refine others_reg l hr x n day clock i hi _ ?_
  clear hrc rc
  have hed : elemsK 12 ((l.map amD).drop i) = true := (List.map_drop (f := amD) (l := l) (i := i)) ▸ elemsK_A (l.drop i)
  have hdc : D.closedL ((l.map amD).drop i) = true := by rw [← List.map_drop]; exact closedL_A _
  have hde : D.erL ((l.map amD).drop i) = (l.map amD).drop i := by rw [← List.map_drop]; exact erL_A _
  have htl : ((l.map amD).take i).length = i := by simp; omega
  have hdl : ((l.map amD).drop i).length = l.length - i := by simp
  have hek := elemsK_A l
  have hmap : (l.take i ++ x :: l.drop i).map amD = (l.map amD).take i ++ [amD x] ++ (l.map amD).drop i := by simp
  have k1 : Pur M 10 [.slice ((l.take i ++ x :: l.drop i).map amD) .no] (.bool (fewA (l.take i ++ x :: l.drop i))) := few_p _
  have hca := closedL_A (l.take i ++ x :: l.drop i)
  have hea := erL_A (l.take i ++ x :: l.drop i)
  rw [hmap] at k1 hca hea
  repeat' (first
    | with_reducible first | apply swp_seq | apply swp_reg | apply swp_regD | apply swp_block | apply swp_exit | apply swp_ret | apply swp_skip | apply swp_cd
    | simp only [go_sem, seval, P8, q8, hlen, hde, htl, hdl]
    | simp (disch := omega) only [w64, w32, wu8, wu16, wu32, wu64]
    | ((with_reducible apply s_appT); (case he => rfl); (case hK | hc | hr | hV => first | rfl | assumption | omega | ((first | refine ⟨?_, ?_⟩ | skip) <;> first | omega | (simp only [lN, hlen, hek, hed, hdc, hde, htl, hdl, roomOk] <;> omega)) | (simp [elemsK, D.isVal, D.cells, D.closedL, D.closed, hlen, hek, hed, hdc, hde, htl, hdl, roomOk]; first | done | omega)))
    | ((with_reducible apply s_appG); (case he => rfl); (case hV | hK | hr | hl => first | rfl | assumption | omega | ((first | refine ⟨?_, ?_⟩ | skip) <;> first | omega | (simp only [lN, hlen, hek, hed, hdc, hde, htl, hdl, roomOk] <;> omega)) | (simp [elemsK, D.isVal, D.cells, D.closedL, D.closed, hlen, hek, hed, hdc, hde, htl, hdl, roomOk]; first | done | omega)))
    | ((with_reducible first | apply s_app0 | apply t_app0); (case he => rfl); (case hK | hc | hr => first | rfl | assumption | omega | ((first | refine ⟨?_, ?_⟩ | skip) <;> first | omega | (simp only [lN, hlen, hek, hed, hdc, hde, htl, hdl, roomOk] <;> omega)) | (simp [elemsK, D.isVal, D.cells, D.closedL, D.closed, hlen, hek, hed, hdc, hde, htl, hdl, roomOk]; first | done | omega)))
    | ((with_reducible first | apply s_appF | apply t_appF); (case he => rfl); (case hK | hc | hr | hx | hn => first | rfl | assumption | omega | ((first | refine ⟨?_, ?_⟩ | skip) <;> first | omega | (simp only [lN, hlen, hek, hed, hdc, hde, htl, hdl, roomOk] <;> omega)) | (simp [elemsK, D.isVal, D.cells, D.closedL, D.closed, hlen, hek, hed, hdc, hde, htl, hdl, roomOk]; first | done | omega)))
    | ((with_reducible first | apply s_bsl | apply t_bsl); (case he | hl | hc => first | rfl | assumption | omega | ((first | refine ⟨?_, ?_⟩ | skip) <;> first | omega | (simp only [lN, hlen, hek, hed, hdc, hde, htl, hdl, roomOk] <;> omega)) | (simp [elemsK, D.isVal, D.cells, D.closedL, D.closed, hlen, hek, hed, hdc, hde, htl, hdl, roomOk]; first | done | omega)))
    | ((with_reducible first | apply s_slFF | apply t_slFF); (case hx => first | rfl | assumption | omega | ((first | refine ⟨?_, ?_⟩ | skip) <;> first | omega | (simp only [lN, hlen, hek, hed, hdc, hde, htl, hdl, roomOk] <;> omega)) | (simp [elemsK, D.isVal, D.cells, D.closedL, D.closed, hlen, hek, hed, hdc, hde, htl, hdl, roomOk]; first | done | omega)))
    | ((with_reducible first | apply s_slTF | apply s_slFT | apply t_slTF | apply t_slFT); (case h0 | h1 | hx => first | rfl | assumption | omega | ((first | refine ⟨?_, ?_⟩ | skip) <;> first | omega | (simp only [lN, hlen, hek, hed, hdc, hde, htl, hdl, roomOk] <;> omega)) | (simp [elemsK, D.isVal, D.cells, D.closedL, D.closed, hlen, hek, hed, hdc, hde, htl, hdl, roomOk]; first | done | omega)))
    | ((with_reducible first | apply s_slTT | apply t_slTT); (case h0 | h1 | h2 | hx => first | rfl | assumption | omega | ((first | refine ⟨?_, ?_⟩ | skip) <;> first | omega | (simp only [lN, hlen, hek, hed, hdc, hde, htl, hdl, roomOk] <;> omega)) | (simp [elemsK, D.isVal, D.cells, D.closedL, D.closed, hlen, hek, hed, hdc, hde, htl, hdl, roomOk]; first | done | omega)))
    | ((with_reducible first | apply s_smTF | apply s_smFT); (case h0 | h1 | hc => first | rfl | assumption | omega | ((first | refine ⟨?_, ?_⟩ | skip) <;> first | omega | (simp only [lN, hlen, hek, hed, hdc, hde, htl, hdl, roomOk] <;> omega)) | (simp [elemsK, D.isVal, D.cells, D.closedL, D.closed, hlen, hek, hed, hdc, hde, htl, hdl, roomOk]; first | done | omega)))
    | ((with_reducible apply s_smTT); (case h0 | h1 | h2 | hc => first | rfl | assumption | omega | ((first | refine ⟨?_, ?_⟩ | skip) <;> first | omega | (simp only [lN, hlen, hek, hed, hdc, hde, htl, hdl, roomOk] <;> omega)) | (simp [elemsK, D.isVal, D.cells, D.closedL, D.closed, hlen, hek, hed, hdc, hde, htl, hdl, roomOk]; first | done | omega)))
    | with_reducible first | apply cd_dec | apply cd_eq | apply cd_ne | apply cd_split | apply gd_dec | apply gd_eq | apply gd_ne | apply gd_split
    | ((with_reducible refine And.intro ?hw ?_); (case hw => first | omega | rfl | exact ⟨_, _, rfl⟩ | assumption | (simp only [lN, hlen, hek, hed, hdc, hde, htl, hdl, roomOk] <;> omega)))
    | with_reducible intro _)
  all_goals try omega
  generalize hLX : (l.map amD).take i ++ [amD x] ++ (l.map amD).drop i = LX at *
  generalize (List.take i (l.map amD) ++ [amD x]).length + (l.length - i) = TK
  have hml : ∀ a ∈ l, a ∈ l.take i ++ x :: l.drop i := fun a ha => by
    rw [← List.take_append_drop i l] at ha
    rcases List.mem_append.1 ha with q | q
    · exact List.mem_append_left _ q
    · exact List.mem_append_right _ (List.mem_cons_of_mem _ q)
  cases h : fewA (l.take i ++ x :: l.drop i)
  · rw [h] at k1
    repeat' (first
    | with_reducible first | apply swp_seq | apply swp_reg | apply swp_regD | apply swp_block | apply swp_exit | apply swp_ret | apply swp_skip | apply swp_cd
    | simp only [go_sem, seval, P8, q8]
    | simp (disch := omega) only [w64, w32, wu8, wu16, wu32, wu64]
    | ((with_reducible first | refine o_call (k1) ?he ?hc ?_ | refine p_call (k1) ?he ?hc ?_ | refine c_call (k1) ?he ?hc ?_); (case he | hc => first | rfl | (simp [D.erL, D.er, D.closedL, D.closed, hca, hea, hcx, hex]; done)))
    | ((with_reducible apply s_appT); (case he => rfl); (case hK | hc | hr | hV => first | rfl | assumption | omega | ((first | refine ⟨?_, ?_⟩ | skip) <;> first | omega | (simp only [lN, hca, hea, hcx, hex] <;> omega)) | (simp [elemsK, D.isVal, D.cells, D.closedL, D.closed, hca, hea, hcx, hex]; first | done | omega)))
    | ((with_reducible apply s_appG); (case he => rfl); (case hV | hK | hr | hl => first | rfl | assumption | omega | ((first | refine ⟨?_, ?_⟩ | skip) <;> first | omega | (simp only [lN, hca, hea, hcx, hex] <;> omega)) | (simp [elemsK, D.isVal, D.cells, D.closedL, D.closed, hca, hea, hcx, hex]; first | done | omega)))
    | ((with_reducible first | apply s_app0 | apply t_app0); (case he => rfl); (case hK | hc | hr => first | rfl | assumption | omega | ((first | refine ⟨?_, ?_⟩ | skip) <;> first | omega | (simp only [lN, hca, hea, hcx, hex] <;> omega)) | (simp [elemsK, D.isVal, D.cells, D.closedL, D.closed, hca, hea, hcx, hex]; first | done | omega)))
    | ((with_reducible first | apply s_appF | apply t_appF); (case he => rfl); (case hK | hc | hr | hx | hn => first | rfl | assumption | omega | ((first | refine ⟨?_, ?_⟩ | skip) <;> first | omega | (simp only [lN, hca, hea, hcx, hex] <;> omega)) | (simp [elemsK, D.isVal, D.cells, D.closedL, D.closed, hca, hea, hcx, hex]; first | done | omega)))
    | ((with_reducible first | apply s_bsl | apply t_bsl); (case he | hl | hc => first | rfl | assumption | omega | ((first | refine ⟨?_, ?_⟩ | skip) <;> first | omega | (simp only [lN, hca, hea, hcx, hex] <;> omega)) | (simp [elemsK, D.isVal, D.cells, D.closedL, D.closed, hca, hea, hcx, hex]; first | done | omega)))
    | ((with_reducible first | apply s_slFF | apply t_slFF); (case hx => first | rfl | assumption | omega | ((first | refine ⟨?_, ?_⟩ | skip) <;> first | omega | (simp only [lN, hca, hea, hcx, hex] <;> omega)) | (simp [elemsK, D.isVal, D.cells, D.closedL, D.closed, hca, hea, hcx, hex]; first | done | omega)))
    | ((with_reducible first | apply s_slTF | apply s_slFT | apply t_slTF | apply t_slFT); (case h0 | h1 | hx => first | rfl | assumption | omega | ((first | refine ⟨?_, ?_⟩ | skip) <;> first | omega | (simp only [lN, hca, hea, hcx, hex] <;> omega)) | (simp [elemsK, D.isVal, D.cells, D.closedL, D.closed, hca, hea, hcx, hex]; first | done | omega)))
    | ((with_reducible first | apply s_slTT | apply t_slTT); (case h0 | h1 | h2 | hx => first | rfl | assumption | omega | ((first | refine ⟨?_, ?_⟩ | skip) <;> first | omega | (simp only [lN, hca, hea, hcx, hex] <;> omega)) | (simp [elemsK, D.isVal, D.cells, D.closedL, D.closed, hca, hea, hcx, hex]; first | done | omega)))
    | ((with_reducible first | apply s_smTF | apply s_smFT); (case h0 | h1 | hc => first | rfl | assumption | omega | ((first | refine ⟨?_, ?_⟩ | skip) <;> first | omega | (simp only [lN, hca, hea, hcx, hex] <;> omega)) | (simp [elemsK, D.isVal, D.cells, D.closedL, D.closed, hca, hea, hcx, hex]; first | done | omega)))
    | ((with_reducible apply s_smTT); (case h0 | h1 | h2 | hc => first | rfl | assumption | omega | ((first | refine ⟨?_, ?_⟩ | skip) <;> first | omega | (simp only [lN, hca, hea, hcx, hex] <;> omega)) | (simp [elemsK, D.isVal, D.cells, D.closedL, D.closed, hca, hea, hcx, hex]; first | done | omega)))
    | with_reducible first | apply cd_dec | apply cd_eq | apply cd_ne | apply cd_split | apply gd_dec | apply gd_eq | apply gd_ne | apply gd_split
    | ((with_reducible refine And.intro ?hw ?_); (case hw => first | omega | rfl | exact ⟨_, _, rfl⟩ | assumption | (simp only [lN, hca, hea, hcx, hex] <;> omega)))
    | with_reducible intro _)
    all_goals first | done | simp [D.closed, D.er]
  rw [h] at k1
  obtain ⟨h20, hs⟩ := few_sm h (fun a ha => by
    rcases List.mem_append.1 ha with q | q
    · exact hf a (List.mem_of_mem_take q)
    · rcases List.mem_cons.1 q with q | q
      · rw [q]; exact hx
      · exact hf a (List.mem_of_mem_drop q))
  have hl20 : l.length < 20 := by
    rw [List.length_append, List.length_cons, List.length_take, List.length_drop] at h20
    omega
  have hsx : x.sm := hs x (by simp)
  have hsl : ∀ a ∈ l, a.sm := fun a ha => hs a (hml a ha)
  have kx := refAm_p x hsx
  unfold amD at kx
  have k3 := inForce_p l (by omega) hsl day clock
  have k4 : Pur M 12 [.slice ((l.take i ++ x :: l.drop i).map amD) .no, .int .i64 day, .int .i64 clock] (rulesD (inForce (l.take i ++ x :: l.drop i) day clock)) := inForce_p _ (by omega) hs day clock
  rw [hmap] at k4
  have hR := inForce_len l day clock
  have hS := inForce_len (l.take i ++ x :: l.drop i) day clock
  have hRs := inForce_sm hsl day clock
  have hwo : without x.rule.name (inForce (l.take i ++ x :: l.drop i) day clock) = without x.rule.name (inForce l day clock) := by
    rw [without_others, List.take_append_drop]
  have hsame : spk day clock x = false → inForce (l.take i ++ x :: l.drop i) day clock = inForce l day clock := fun q => by
    rw [later_same q, List.take_append_drop]
  have f1 := closedL_R (inForce l day clock)
  have f2 := erL_R (inForce l day clock)
  have f3 := closedL_R (inForce (l.take i ++ x :: l.drop i) day clock)
  have f4 := erL_R (inForce (l.take i ++ x :: l.drop i) day clock)
  have f5 := closedL_R (without x.rule.name (inForce l day clock))
  have f6 := erL_R (without x.rule.name (inForce l day clock))
  have hcl := closedL_A l
  have hel := erL_A l
  have k5 := without_p (inForce l day clock) (by omega) x.rule.name
  have k6 := without_p (inForce (l.take i ++ x :: l.drop i) day clock) (by omega) x.rule.name
  have hwl : (without x.rule.name (inForce l day clock)).length ≤ (inForce l day clock).length := List.length_filter_le _ _
  have hws : ∀ a ∈ without x.rule.name (inForce l day clock), a.sm := fun a ha => hRs a (List.mem_filter.1 ha).1
  rw [hwo] at k6
  have k7 := refAll_p (without x.rule.name (inForce l day clock)) (without x.rule.name (inForce l day clock)) (by omega) hws
  rw [(allR_iff _ _).2 rfl] at k7
  have k8 := refAll_p (inForce l day clock) (inForce (l.take i ++ x :: l.drop i) day clock) (by omega) hRs
  have hall : spk day clock x = false → allR (inForce l day clock) (inForce (l.take i ++ x :: l.drop i) day clock) = true := fun q => (allR_iff _ _).2 (hsame q).symm
  generalize inForce (l.take i ++ x :: l.drop i) day clock = S at *
  generalize inForce l day clock = R at *
  generalize without x.rule.name R = W at *
  generalize hb : allR R S = b at *
  by_cases g1 : day < x.frm
  · have t1 : decide (day < x.frm) = true := decide_eq_true g1
    have := hall (spk_cases (.inl g1))
    subst this
    repeat' (first
    | with_reducible first | apply swp_seq | apply swp_reg | apply swp_regD | apply swp_block | apply swp_exit | apply swp_ret | apply swp_skip | apply swp_cd
    | simp only [go_sem, seval, P8, q8, hlen, t1]
    | simp (disch := omega) only [w64, w32, wu8, wu16, wu32, wu64]
    | ((with_reducible first | refine o_call (k1) ?he ?hc ?_ | refine p_call (k1) ?he ?hc ?_ | refine c_call (k1) ?he ?hc ?_); (case he | hc => first | rfl | (simp [D.erL, D.er, D.closedL, D.closed, hlen, hca, hea, hcl, hel, f1, f2, f3, f4, f5, f6]; done)))
    | ((with_reducible first | refine o_call (k3) ?he ?hc ?_ | refine p_call (k3) ?he ?hc ?_ | refine c_call (k3) ?he ?hc ?_); (case he | hc => first | rfl | (simp [D.erL, D.er, D.closedL, D.closed, hlen, hca, hea, hcl, hel, f1, f2, f3, f4, f5, f6]; done)))
    | ((with_reducible first | refine o_call (k4) ?he ?hc ?_ | refine p_call (k4) ?he ?hc ?_ | refine c_call (k4) ?he ?hc ?_); (case he | hc => first | rfl | (simp [D.erL, D.er, D.closedL, D.closed, hlen, hca, hea, hcl, hel, f1, f2, f3, f4, f5, f6]; done)))
    | ((with_reducible first | refine o_call (k5) ?he ?hc ?_ | refine p_call (k5) ?he ?hc ?_ | refine c_call (k5) ?he ?hc ?_); (case he | hc => first | rfl | (simp [D.erL, D.er, D.closedL, D.closed, hlen, hca, hea, hcl, hel, f1, f2, f3, f4, f5, f6]; done)))
    | ((with_reducible first | refine o_call (k6) ?he ?hc ?_ | refine p_call (k6) ?he ?hc ?_ | refine c_call (k6) ?he ?hc ?_); (case he | hc => first | rfl | (simp [D.erL, D.er, D.closedL, D.closed, hlen, hca, hea, hcl, hel, f1, f2, f3, f4, f5, f6]; done)))
    | ((with_reducible first | refine o_call (k7) ?he ?hc ?_ | refine p_call (k7) ?he ?hc ?_ | refine c_call (k7) ?he ?hc ?_); (case he | hc => first | rfl | (simp [D.erL, D.er, D.closedL, D.closed, hlen, hca, hea, hcl, hel, f1, f2, f3, f4, f5, f6]; done)))
    | ((with_reducible first | refine o_call (k8) ?he ?hc ?_ | refine p_call (k8) ?he ?hc ?_ | refine c_call (k8) ?he ?hc ?_); (case he | hc => first | rfl | (simp [D.erL, D.er, D.closedL, D.closed, hlen, hca, hea, hcl, hel, f1, f2, f3, f4, f5, f6]; done)))
    | ((with_reducible apply s_appT); (case he => rfl); (case hK | hc | hr | hV => first | rfl | assumption | omega | ((first | refine ⟨?_, ?_⟩ | skip) <;> first | omega | (simp only [lN, hlen, hca, hea, hcl, hel, f1, f2, f3, f4, f5, f6] <;> omega)) | (simp [elemsK, D.isVal, D.cells, D.closedL, D.closed, hlen, hca, hea, hcl, hel, f1, f2, f3, f4, f5, f6]; first | done | omega)))
    | ((with_reducible apply s_appG); (case he => rfl); (case hV | hK | hr | hl => first | rfl | assumption | omega | ((first | refine ⟨?_, ?_⟩ | skip) <;> first | omega | (simp only [lN, hlen, hca, hea, hcl, hel, f1, f2, f3, f4, f5, f6] <;> omega)) | (simp [elemsK, D.isVal, D.cells, D.closedL, D.closed, hlen, hca, hea, hcl, hel, f1, f2, f3, f4, f5, f6]; first | done | omega)))
    | ((with_reducible first | apply s_app0 | apply t_app0); (case he => rfl); (case hK | hc | hr => first | rfl | assumption | omega | ((first | refine ⟨?_, ?_⟩ | skip) <;> first | omega | (simp only [lN, hlen, hca, hea, hcl, hel, f1, f2, f3, f4, f5, f6] <;> omega)) | (simp [elemsK, D.isVal, D.cells, D.closedL, D.closed, hlen, hca, hea, hcl, hel, f1, f2, f3, f4, f5, f6]; first | done | omega)))
    | ((with_reducible first | apply s_appF | apply t_appF); (case he => rfl); (case hK | hc | hr | hx | hn => first | rfl | assumption | omega | ((first | refine ⟨?_, ?_⟩ | skip) <;> first | omega | (simp only [lN, hlen, hca, hea, hcl, hel, f1, f2, f3, f4, f5, f6] <;> omega)) | (simp [elemsK, D.isVal, D.cells, D.closedL, D.closed, hlen, hca, hea, hcl, hel, f1, f2, f3, f4, f5, f6]; first | done | omega)))
    | ((with_reducible first | apply s_bsl | apply t_bsl); (case he | hl | hc => first | rfl | assumption | omega | ((first | refine ⟨?_, ?_⟩ | skip) <;> first | omega | (simp only [lN, hlen, hca, hea, hcl, hel, f1, f2, f3, f4, f5, f6] <;> omega)) | (simp [elemsK, D.isVal, D.cells, D.closedL, D.closed, hlen, hca, hea, hcl, hel, f1, f2, f3, f4, f5, f6]; first | done | omega)))
    | ((with_reducible first | apply s_slFF | apply t_slFF); (case hx => first | rfl | assumption | omega | ((first | refine ⟨?_, ?_⟩ | skip) <;> first | omega | (simp only [lN, hlen, hca, hea, hcl, hel, f1, f2, f3, f4, f5, f6] <;> omega)) | (simp [elemsK, D.isVal, D.cells, D.closedL, D.closed, hlen, hca, hea, hcl, hel, f1, f2, f3, f4, f5, f6]; first | done | omega)))
    | ((with_reducible first | apply s_slTF | apply s_slFT | apply t_slTF | apply t_slFT); (case h0 | h1 | hx => first | rfl | assumption | omega | ((first | refine ⟨?_, ?_⟩ | skip) <;> first | omega | (simp only [lN, hlen, hca, hea, hcl, hel, f1, f2, f3, f4, f5, f6] <;> omega)) | (simp [elemsK, D.isVal, D.cells, D.closedL, D.closed, hlen, hca, hea, hcl, hel, f1, f2, f3, f4, f5, f6]; first | done | omega)))
    | ((with_reducible first | apply s_slTT | apply t_slTT); (case h0 | h1 | h2 | hx => first | rfl | assumption | omega | ((first | refine ⟨?_, ?_⟩ | skip) <;> first | omega | (simp only [lN, hlen, hca, hea, hcl, hel, f1, f2, f3, f4, f5, f6] <;> omega)) | (simp [elemsK, D.isVal, D.cells, D.closedL, D.closed, hlen, hca, hea, hcl, hel, f1, f2, f3, f4, f5, f6]; first | done | omega)))
    | ((with_reducible first | apply s_smTF | apply s_smFT); (case h0 | h1 | hc => first | rfl | assumption | omega | ((first | refine ⟨?_, ?_⟩ | skip) <;> first | omega | (simp only [lN, hlen, hca, hea, hcl, hel, f1, f2, f3, f4, f5, f6] <;> omega)) | (simp [elemsK, D.isVal, D.cells, D.closedL, D.closed, hlen, hca, hea, hcl, hel, f1, f2, f3, f4, f5, f6]; first | done | omega)))
    | ((with_reducible apply s_smTT); (case h0 | h1 | h2 | hc => first | rfl | assumption | omega | ((first | refine ⟨?_, ?_⟩ | skip) <;> first | omega | (simp only [lN, hlen, hca, hea, hcl, hel, f1, f2, f3, f4, f5, f6] <;> omega)) | (simp [elemsK, D.isVal, D.cells, D.closedL, D.closed, hlen, hca, hea, hcl, hel, f1, f2, f3, f4, f5, f6]; first | done | omega)))
    | with_reducible first | apply cd_dec | apply cd_eq | apply cd_ne | apply cd_split | apply gd_dec | apply gd_eq | apply gd_ne | apply gd_split
    | ((with_reducible refine And.intro ?hw ?_); (case hw => first | omega | rfl | exact ⟨_, _, rfl⟩ | assumption | (simp only [lN, hlen, hca, hea, hcl, hel, f1, f2, f3, f4, f5, f6] <;> omega)))
    | with_reducible intro _)
    all_goals try omega
    all_goals simp [D.closed, D.er]
  have t1 : decide (day < x.frm) = false := decide_eq_false g1
  by_cases g2 : day > x.to
  · have t2 : decide (day > x.to) = true := decide_eq_true g2
    have := hall (spk_cases (.inr (.inl g2)))
    subst this
    repeat' (first
    | with_reducible first | apply swp_seq | apply swp_reg | apply swp_regD | apply swp_block | apply swp_exit | apply swp_ret | apply swp_skip | apply swp_cd
    | simp only [go_sem, seval, P8, q8, hlen, t1, t2]
    | simp (disch := omega) only [w64, w32, wu8, wu16, wu32, wu64]
    | ((with_reducible first | refine o_call (k1) ?he ?hc ?_ | refine p_call (k1) ?he ?hc ?_ | refine c_call (k1) ?he ?hc ?_); (case he | hc => first | rfl | (simp [D.erL, D.er, D.closedL, D.closed, hlen, hca, hea, hcl, hel, f1, f2, f3, f4, f5, f6]; done)))
    | ((with_reducible first | refine o_call (k3) ?he ?hc ?_ | refine p_call (k3) ?he ?hc ?_ | refine c_call (k3) ?he ?hc ?_); (case he | hc => first | rfl | (simp [D.erL, D.er, D.closedL, D.closed, hlen, hca, hea, hcl, hel, f1, f2, f3, f4, f5, f6]; done)))
    | ((with_reducible first | refine o_call (k4) ?he ?hc ?_ | refine p_call (k4) ?he ?hc ?_ | refine c_call (k4) ?he ?hc ?_); (case he | hc => first | rfl | (simp [D.erL, D.er, D.closedL, D.closed, hlen, hca, hea, hcl, hel, f1, f2, f3, f4, f5, f6]; done)))
    | ((with_reducible first | refine o_call (k5) ?he ?hc ?_ | refine p_call (k5) ?he ?hc ?_ | refine c_call (k5) ?he ?hc ?_); (case he | hc => first | rfl | (simp [D.erL, D.er, D.closedL, D.closed, hlen, hca, hea, hcl, hel, f1, f2, f3, f4, f5, f6]; done)))
    | ((with_reducible first | refine o_call (k6) ?he ?hc ?_ | refine p_call (k6) ?he ?hc ?_ | refine c_call (k6) ?he ?hc ?_); (case he | hc => first | rfl | (simp [D.erL, D.er, D.closedL, D.closed, hlen, hca, hea, hcl, hel, f1, f2, f3, f4, f5, f6]; done)))
    | ((with_reducible first | refine o_call (k7) ?he ?hc ?_ | refine p_call (k7) ?he ?hc ?_ | refine c_call (k7) ?he ?hc ?_); (case he | hc => first | rfl | (simp [D.erL, D.er, D.closedL, D.closed, hlen, hca, hea, hcl, hel, f1, f2, f3, f4, f5, f6]; done)))
    | ((with_reducible first | refine o_call (k8) ?he ?hc ?_ | refine p_call (k8) ?he ?hc ?_ | refine c_call (k8) ?he ?hc ?_); (case he | hc => first | rfl | (simp [D.erL, D.er, D.closedL, D.closed, hlen, hca, hea, hcl, hel, f1, f2, f3, f4, f5, f6]; done)))
    | ((with_reducible apply s_appT); (case he => rfl); (case hK | hc | hr | hV => first | rfl | assumption | omega | ((first | refine ⟨?_, ?_⟩ | skip) <;> first | omega | (simp only [lN, hlen, hca, hea, hcl, hel, f1, f2, f3, f4, f5, f6] <;> omega)) | (simp [elemsK, D.isVal, D.cells, D.closedL, D.closed, hlen, hca, hea, hcl, hel, f1, f2, f3, f4, f5, f6]; first | done | omega)))
    | ((with_reducible apply s_appG); (case he => rfl); (case hV | hK | hr | hl => first | rfl | assumption | omega | ((first | refine ⟨?_, ?_⟩ | skip) <;> first | omega | (simp only [lN, hlen, hca, hea, hcl, hel, f1, f2, f3, f4, f5, f6] <;> omega)) | (simp [elemsK, D.isVal, D.cells, D.closedL, D.closed, hlen, hca, hea, hcl, hel, f1, f2, f3, f4, f5, f6]; first | done | omega)))
    | ((with_reducible first | apply s_app0 | apply t_app0); (case he => rfl); (case hK | hc | hr => first | rfl | assumption | omega | ((first | refine ⟨?_, ?_⟩ | skip) <;> first | omega | (simp only [lN, hlen, hca, hea, hcl, hel, f1, f2, f3, f4, f5, f6] <;> omega)) | (simp [elemsK, D.isVal, D.cells, D.closedL, D.closed, hlen, hca, hea, hcl, hel, f1, f2, f3, f4, f5, f6]; first | done | omega)))
    | ((with_reducible first | apply s_appF | apply t_appF); (case he => rfl); (case hK | hc | hr | hx | hn => first | rfl | assumption | omega | ((first | refine ⟨?_, ?_⟩ | skip) <;> first | omega | (simp only [lN, hlen, hca, hea, hcl, hel, f1, f2, f3, f4, f5, f6] <;> omega)) | (simp [elemsK, D.isVal, D.cells, D.closedL, D.closed, hlen, hca, hea, hcl, hel, f1, f2, f3, f4, f5, f6]; first | done | omega)))
    | ((with_reducible first | apply s_bsl | apply t_bsl); (case he | hl | hc => first | rfl | assumption | omega | ((first | refine ⟨?_, ?_⟩ | skip) <;> first | omega | (simp only [lN, hlen, hca, hea, hcl, hel, f1, f2, f3, f4, f5, f6] <;> omega)) | (simp [elemsK, D.isVal, D.cells, D.closedL, D.closed, hlen, hca, hea, hcl, hel, f1, f2, f3, f4, f5, f6]; first | done | omega)))
    | ((with_reducible first | apply s_slFF | apply t_slFF); (case hx => first | rfl | assumption | omega | ((first | refine ⟨?_, ?_⟩ | skip) <;> first | omega | (simp only [lN, hlen, hca, hea, hcl, hel, f1, f2, f3, f4, f5, f6] <;> omega)) | (simp [elemsK, D.isVal, D.cells, D.closedL, D.closed, hlen, hca, hea, hcl, hel, f1, f2, f3, f4, f5, f6]; first | done | omega)))
    | ((with_reducible first | apply s_slTF | apply s_slFT | apply t_slTF | apply t_slFT); (case h0 | h1 | hx => first | rfl | assumption | omega | ((first | refine ⟨?_, ?_⟩ | skip) <;> first | omega | (simp only [lN, hlen, hca, hea, hcl, hel, f1, f2, f3, f4, f5, f6] <;> omega)) | (simp [elemsK, D.isVal, D.cells, D.closedL, D.closed, hlen, hca, hea, hcl, hel, f1, f2, f3, f4, f5, f6]; first | done | omega)))
    | ((with_reducible first | apply s_slTT | apply t_slTT); (case h0 | h1 | h2 | hx => first | rfl | assumption | omega | ((first | refine ⟨?_, ?_⟩ | skip) <;> first | omega | (simp only [lN, hlen, hca, hea, hcl, hel, f1, f2, f3, f4, f5, f6] <;> omega)) | (simp [elemsK, D.isVal, D.cells, D.closedL, D.closed, hlen, hca, hea, hcl, hel, f1, f2, f3, f4, f5, f6]; first | done | omega)))
    | ((with_reducible first | apply s_smTF | apply s_smFT); (case h0 | h1 | hc => first | rfl | assumption | omega | ((first | refine ⟨?_, ?_⟩ | skip) <;> first | omega | (simp only [lN, hlen, hca, hea, hcl, hel, f1, f2, f3, f4, f5, f6] <;> omega)) | (simp [elemsK, D.isVal, D.cells, D.closedL, D.closed, hlen, hca, hea, hcl, hel, f1, f2, f3, f4, f5, f6]; first | done | omega)))
    | ((with_reducible apply s_smTT); (case h0 | h1 | h2 | hc => first | rfl | assumption | omega | ((first | refine ⟨?_, ?_⟩ | skip) <;> first | omega | (simp only [lN, hlen, hca, hea, hcl, hel, f1, f2, f3, f4, f5, f6] <;> omega)) | (simp [elemsK, D.isVal, D.cells, D.closedL, D.closed, hlen, hca, hea, hcl, hel, f1, f2, f3, f4, f5, f6]; first | done | omega)))
    | with_reducible first | apply cd_dec | apply cd_eq | apply cd_ne | apply cd_split | apply gd_dec | apply gd_eq | apply gd_ne | apply gd_split
    | ((with_reducible refine And.intro ?hw ?_); (case hw => first | omega | rfl | exact ⟨_, _, rfl⟩ | assumption | (simp only [lN, hlen, hca, hea, hcl, hel, f1, f2, f3, f4, f5, f6] <;> omega)))
    | with_reducible intro _)
    all_goals try omega
    all_goals simp [D.closed, D.er]
  have t2 : decide (day > x.to) = false := decide_eq_false g2
  by_cases g3 : clock < x.clock
  · have t3 : decide (clock < x.clock) = true := decide_eq_true g3
    have := hall (spk_cases (.inr (.inr (.inl g3))))
    subst this
    repeat' (first
    | with_reducible first | apply swp_seq | apply swp_reg | apply swp_regD | apply swp_block | apply swp_exit | apply swp_ret | apply swp_skip | apply swp_cd
    | simp only [go_sem, seval, P8, q8, hlen, t1, t2, t3]
    | simp (disch := omega) only [w64, w32, wu8, wu16, wu32, wu64]
    | ((with_reducible first | refine o_call (k1) ?he ?hc ?_ | refine p_call (k1) ?he ?hc ?_ | refine c_call (k1) ?he ?hc ?_); (case he | hc => first | rfl | (simp [D.erL, D.er, D.closedL, D.closed, hlen, hca, hea, hcl, hel, f1, f2, f3, f4, f5, f6]; done)))
    | ((with_reducible first | refine o_call (k3) ?he ?hc ?_ | refine p_call (k3) ?he ?hc ?_ | refine c_call (k3) ?he ?hc ?_); (case he | hc => first | rfl | (simp [D.erL, D.er, D.closedL, D.closed, hlen, hca, hea, hcl, hel, f1, f2, f3, f4, f5, f6]; done)))
    | ((with_reducible first | refine o_call (k4) ?he ?hc ?_ | refine p_call (k4) ?he ?hc ?_ | refine c_call (k4) ?he ?hc ?_); (case he | hc => first | rfl | (simp [D.erL, D.er, D.closedL, D.closed, hlen, hca, hea, hcl, hel, f1, f2, f3, f4, f5, f6]; done)))
    | ((with_reducible first | refine o_call (k5) ?he ?hc ?_ | refine p_call (k5) ?he ?hc ?_ | refine c_call (k5) ?he ?hc ?_); (case he | hc => first | rfl | (simp [D.erL, D.er, D.closedL, D.closed, hlen, hca, hea, hcl, hel, f1, f2, f3, f4, f5, f6]; done)))
    | ((with_reducible first | refine o_call (k6) ?he ?hc ?_ | refine p_call (k6) ?he ?hc ?_ | refine c_call (k6) ?he ?hc ?_); (case he | hc => first | rfl | (simp [D.erL, D.er, D.closedL, D.closed, hlen, hca, hea, hcl, hel, f1, f2, f3, f4, f5, f6]; done)))
    | ((with_reducible first | refine o_call (k7) ?he ?hc ?_ | refine p_call (k7) ?he ?hc ?_ | refine c_call (k7) ?he ?hc ?_); (case he | hc => first | rfl | (simp [D.erL, D.er, D.closedL, D.closed, hlen, hca, hea, hcl, hel, f1, f2, f3, f4, f5, f6]; done)))
    | ((with_reducible first | refine o_call (k8) ?he ?hc ?_ | refine p_call (k8) ?he ?hc ?_ | refine c_call (k8) ?he ?hc ?_); (case he | hc => first | rfl | (simp [D.erL, D.er, D.closedL, D.closed, hlen, hca, hea, hcl, hel, f1, f2, f3, f4, f5, f6]; done)))
    | ((with_reducible apply s_appT); (case he => rfl); (case hK | hc | hr | hV => first | rfl | assumption | omega | ((first | refine ⟨?_, ?_⟩ | skip) <;> first | omega | (simp only [lN, hlen, hca, hea, hcl, hel, f1, f2, f3, f4, f5, f6] <;> omega)) | (simp [elemsK, D.isVal, D.cells, D.closedL, D.closed, hlen, hca, hea, hcl, hel, f1, f2, f3, f4, f5, f6]; first | done | omega)))
    | ((with_reducible apply s_appG); (case he => rfl); (case hV | hK | hr | hl => first | rfl | assumption | omega | ((first | refine ⟨?_, ?_⟩ | skip) <;> first | omega | (simp only [lN, hlen, hca, hea, hcl, hel, f1, f2, f3, f4, f5, f6] <;> omega)) | (simp [elemsK, D.isVal, D.cells, D.closedL, D.closed, hlen, hca, hea, hcl, hel, f1, f2, f3, f4, f5, f6]; first | done | omega)))
    | ((with_reducible first | apply s_app0 | apply t_app0); (case he => rfl); (case hK | hc | hr => first | rfl | assumption | omega | ((first | refine ⟨?_, ?_⟩ | skip) <;> first | omega | (simp only [lN, hlen, hca, hea, hcl, hel, f1, f2, f3, f4, f5, f6] <;> omega)) | (simp [elemsK, D.isVal, D.cells, D.closedL, D.closed, hlen, hca, hea, hcl, hel, f1, f2, f3, f4, f5, f6]; first | done | omega)))
    | ((with_reducible first | apply s_appF | apply t_appF); (case he => rfl); (case hK | hc | hr | hx | hn => first | rfl | assumption | omega | ((first | refine ⟨?_, ?_⟩ | skip) <;> first | omega | (simp only [lN, hlen, hca, hea, hcl, hel, f1, f2, f3, f4, f5, f6] <;> omega)) | (simp [elemsK, D.isVal, D.cells, D.closedL, D.closed, hlen, hca, hea, hcl, hel, f1, f2, f3, f4, f5, f6]; first | done | omega)))
    | ((with_reducible first | apply s_bsl | apply t_bsl); (case he | hl | hc => first | rfl | assumption | omega | ((first | refine ⟨?_, ?_⟩ | skip) <;> first | omega | (simp only [lN, hlen, hca, hea, hcl, hel, f1, f2, f3, f4, f5, f6] <;> omega)) | (simp [elemsK, D.isVal, D.cells, D.closedL, D.closed, hlen, hca, hea, hcl, hel, f1, f2, f3, f4, f5, f6]; first | done | omega)))
    | ((with_reducible first | apply s_slFF | apply t_slFF); (case hx => first | rfl | assumption | omega | ((first | refine ⟨?_, ?_⟩ | skip) <;> first | omega | (simp only [lN, hlen, hca, hea, hcl, hel, f1, f2, f3, f4, f5, f6] <;> omega)) | (simp [elemsK, D.isVal, D.cells, D.closedL, D.closed, hlen, hca, hea, hcl, hel, f1, f2, f3, f4, f5, f6]; first | done | omega)))
    | ((with_reducible first | apply s_slTF | apply s_slFT | apply t_slTF | apply t_slFT); (case h0 | h1 | hx => first | rfl | assumption | omega | ((first | refine ⟨?_, ?_⟩ | skip) <;> first | omega | (simp only [lN, hlen, hca, hea, hcl, hel, f1, f2, f3, f4, f5, f6] <;> omega)) | (simp [elemsK, D.isVal, D.cells, D.closedL, D.closed, hlen, hca, hea, hcl, hel, f1, f2, f3, f4, f5, f6]; first | done | omega)))
    | ((with_reducible first | apply s_slTT | apply t_slTT); (case h0 | h1 | h2 | hx => first | rfl | assumption | omega | ((first | refine ⟨?_, ?_⟩ | skip) <;> first | omega | (simp only [lN, hlen, hca, hea, hcl, hel, f1, f2, f3, f4, f5, f6] <;> omega)) | (simp [elemsK, D.isVal, D.cells, D.closedL, D.closed, hlen, hca, hea, hcl, hel, f1, f2, f3, f4, f5, f6]; first | done | omega)))
    | ((with_reducible first | apply s_smTF | apply s_smFT); (case h0 | h1 | hc => first | rfl | assumption | omega | ((first | refine ⟨?_, ?_⟩ | skip) <;> first | omega | (simp only [lN, hlen, hca, hea, hcl, hel, f1, f2, f3, f4, f5, f6] <;> omega)) | (simp [elemsK, D.isVal, D.cells, D.closedL, D.closed, hlen, hca, hea, hcl, hel, f1, f2, f3, f4, f5, f6]; first | done | omega)))
    | ((with_reducible apply s_smTT); (case h0 | h1 | h2 | hc => first | rfl | assumption | omega | ((first | refine ⟨?_, ?_⟩ | skip) <;> first | omega | (simp only [lN, hlen, hca, hea, hcl, hel, f1, f2, f3, f4, f5, f6] <;> omega)) | (simp [elemsK, D.isVal, D.cells, D.closedL, D.closed, hlen, hca, hea, hcl, hel, f1, f2, f3, f4, f5, f6]; first | done | omega)))
    | with_reducible first | apply cd_dec | apply cd_eq | apply cd_ne | apply cd_split | apply gd_dec | apply gd_eq | apply gd_ne | apply gd_split
    | ((with_reducible refine And.intro ?hw ?_); (case hw => first | omega | rfl | exact ⟨_, _, rfl⟩ | assumption | (simp only [lN, hlen, hca, hea, hcl, hel, f1, f2, f3, f4, f5, f6] <;> omega)))
    | with_reducible intro _)
    all_goals try omega
    all_goals simp [D.closed, D.er]
  have t3 : decide (clock < x.clock) = false := decide_eq_false g3
  cases hok : amOk x
  · have := hall (spk_cases (.inr (.inr (.inr hok))))
    subst this
    rw [hok] at kx
    repeat' (first
    | with_reducible first | apply swp_seq | apply swp_reg | apply swp_regD | apply swp_block | apply swp_exit | apply swp_ret | apply swp_skip | apply swp_cd
    | simp only [go_sem, seval, P8, q8, hlen, t1, t2, t3]
    | simp (disch := omega) only [w64, w32, wu8, wu16, wu32, wu64]
    | ((with_reducible first | refine o_call (k1) ?he ?hc ?_ | refine p_call (k1) ?he ?hc ?_ | refine c_call (k1) ?he ?hc ?_); (case he | hc => first | rfl | (simp [D.erL, D.er, D.closedL, D.closed, hlen, hca, hea, hcl, hel, f1, f2, f3, f4, f5, f6, hcx, hex]; done)))
    | ((with_reducible first | refine o_call (k3) ?he ?hc ?_ | refine p_call (k3) ?he ?hc ?_ | refine c_call (k3) ?he ?hc ?_); (case he | hc => first | rfl | (simp [D.erL, D.er, D.closedL, D.closed, hlen, hca, hea, hcl, hel, f1, f2, f3, f4, f5, f6, hcx, hex]; done)))
    | ((with_reducible first | refine o_call (k4) ?he ?hc ?_ | refine p_call (k4) ?he ?hc ?_ | refine c_call (k4) ?he ?hc ?_); (case he | hc => first | rfl | (simp [D.erL, D.er, D.closedL, D.closed, hlen, hca, hea, hcl, hel, f1, f2, f3, f4, f5, f6, hcx, hex]; done)))
    | ((with_reducible first | refine o_call (k5) ?he ?hc ?_ | refine p_call (k5) ?he ?hc ?_ | refine c_call (k5) ?he ?hc ?_); (case he | hc => first | rfl | (simp [D.erL, D.er, D.closedL, D.closed, hlen, hca, hea, hcl, hel, f1, f2, f3, f4, f5, f6, hcx, hex]; done)))
    | ((with_reducible first | refine o_call (k6) ?he ?hc ?_ | refine p_call (k6) ?he ?hc ?_ | refine c_call (k6) ?he ?hc ?_); (case he | hc => first | rfl | (simp [D.erL, D.er, D.closedL, D.closed, hlen, hca, hea, hcl, hel, f1, f2, f3, f4, f5, f6, hcx, hex]; done)))
    | ((with_reducible first | refine o_call (k7) ?he ?hc ?_ | refine p_call (k7) ?he ?hc ?_ | refine c_call (k7) ?he ?hc ?_); (case he | hc => first | rfl | (simp [D.erL, D.er, D.closedL, D.closed, hlen, hca, hea, hcl, hel, f1, f2, f3, f4, f5, f6, hcx, hex]; done)))
    | ((with_reducible first | refine o_call (k8) ?he ?hc ?_ | refine p_call (k8) ?he ?hc ?_ | refine c_call (k8) ?he ?hc ?_); (case he | hc => first | rfl | (simp [D.erL, D.er, D.closedL, D.closed, hlen, hca, hea, hcl, hel, f1, f2, f3, f4, f5, f6, hcx, hex]; done)))
    | ((with_reducible first | refine o_call (kx) ?he ?hc ?_ | refine p_call (kx) ?he ?hc ?_ | refine c_call (kx) ?he ?hc ?_); (case he | hc => first | rfl | (simp [D.erL, D.er, D.closedL, D.closed, hlen, hca, hea, hcl, hel, f1, f2, f3, f4, f5, f6, hcx, hex]; done)))
    | ((with_reducible apply s_appT); (case he => rfl); (case hK | hc | hr | hV => first | rfl | assumption | omega | ((first | refine ⟨?_, ?_⟩ | skip) <;> first | omega | (simp only [lN, hlen, hca, hea, hcl, hel, f1, f2, f3, f4, f5, f6, hcx, hex] <;> omega)) | (simp [elemsK, D.isVal, D.cells, D.closedL, D.closed, hlen, hca, hea, hcl, hel, f1, f2, f3, f4, f5, f6, hcx, hex]; first | done | omega)))
    | ((with_reducible apply s_appG); (case he => rfl); (case hV | hK | hr | hl => first | rfl | assumption | omega | ((first | refine ⟨?_, ?_⟩ | skip) <;> first | omega | (simp only [lN, hlen, hca, hea, hcl, hel, f1, f2, f3, f4, f5, f6, hcx, hex] <;> omega)) | (simp [elemsK, D.isVal, D.cells, D.closedL, D.closed, hlen, hca, hea, hcl, hel, f1, f2, f3, f4, f5, f6, hcx, hex]; first | done | omega)))
    | ((with_reducible first | apply s_app0 | apply t_app0); (case he => rfl); (case hK | hc | hr => first | rfl | assumption | omega | ((first | refine ⟨?_, ?_⟩ | skip) <;> first | omega | (simp only [lN, hlen, hca, hea, hcl, hel, f1, f2, f3, f4, f5, f6, hcx, hex] <;> omega)) | (simp [elemsK, D.isVal, D.cells, D.closedL, D.closed, hlen, hca, hea, hcl, hel, f1, f2, f3, f4, f5, f6, hcx, hex]; first | done | omega)))
    | ((with_reducible first | apply s_appF | apply t_appF); (case he => rfl); (case hK | hc | hr | hx | hn => first | rfl | assumption | omega | ((first | refine ⟨?_, ?_⟩ | skip) <;> first | omega | (simp only [lN, hlen, hca, hea, hcl, hel, f1, f2, f3, f4, f5, f6, hcx, hex] <;> omega)) | (simp [elemsK, D.isVal, D.cells, D.closedL, D.closed, hlen, hca, hea, hcl, hel, f1, f2, f3, f4, f5, f6, hcx, hex]; first | done | omega)))
    | ((with_reducible first | apply s_bsl | apply t_bsl); (case he | hl | hc => first | rfl | assumption | omega | ((first | refine ⟨?_, ?_⟩ | skip) <;> first | omega | (simp only [lN, hlen, hca, hea, hcl, hel, f1, f2, f3, f4, f5, f6, hcx, hex] <;> omega)) | (simp [elemsK, D.isVal, D.cells, D.closedL, D.closed, hlen, hca, hea, hcl, hel, f1, f2, f3, f4, f5, f6, hcx, hex]; first | done | omega)))
    | ((with_reducible first | apply s_slFF | apply t_slFF); (case hx => first | rfl | assumption | omega | ((first | refine ⟨?_, ?_⟩ | skip) <;> first | omega | (simp only [lN, hlen, hca, hea, hcl, hel, f1, f2, f3, f4, f5, f6, hcx, hex] <;> omega)) | (simp [elemsK, D.isVal, D.cells, D.closedL, D.closed, hlen, hca, hea, hcl, hel, f1, f2, f3, f4, f5, f6, hcx, hex]; first | done | omega)))
    | ((with_reducible first | apply s_slTF | apply s_slFT | apply t_slTF | apply t_slFT); (case h0 | h1 | hx => first | rfl | assumption | omega | ((first | refine ⟨?_, ?_⟩ | skip) <;> first | omega | (simp only [lN, hlen, hca, hea, hcl, hel, f1, f2, f3, f4, f5, f6, hcx, hex] <;> omega)) | (simp [elemsK, D.isVal, D.cells, D.closedL, D.closed, hlen, hca, hea, hcl, hel, f1, f2, f3, f4, f5, f6, hcx, hex]; first | done | omega)))
    | ((with_reducible first | apply s_slTT | apply t_slTT); (case h0 | h1 | h2 | hx => first | rfl | assumption | omega | ((first | refine ⟨?_, ?_⟩ | skip) <;> first | omega | (simp only [lN, hlen, hca, hea, hcl, hel, f1, f2, f3, f4, f5, f6, hcx, hex] <;> omega)) | (simp [elemsK, D.isVal, D.cells, D.closedL, D.closed, hlen, hca, hea, hcl, hel, f1, f2, f3, f4, f5, f6, hcx, hex]; first | done | omega)))
    | ((with_reducible first | apply s_smTF | apply s_smFT); (case h0 | h1 | hc => first | rfl | assumption | omega | ((first | refine ⟨?_, ?_⟩ | skip) <;> first | omega | (simp only [lN, hlen, hca, hea, hcl, hel, f1, f2, f3, f4, f5, f6, hcx, hex] <;> omega)) | (simp [elemsK, D.isVal, D.cells, D.closedL, D.closed, hlen, hca, hea, hcl, hel, f1, f2, f3, f4, f5, f6, hcx, hex]; first | done | omega)))
    | ((with_reducible apply s_smTT); (case h0 | h1 | h2 | hc => first | rfl | assumption | omega | ((first | refine ⟨?_, ?_⟩ | skip) <;> first | omega | (simp only [lN, hlen, hca, hea, hcl, hel, f1, f2, f3, f4, f5, f6, hcx, hex] <;> omega)) | (simp [elemsK, D.isVal, D.cells, D.closedL, D.closed, hlen, hca, hea, hcl, hel, f1, f2, f3, f4, f5, f6, hcx, hex]; first | done | omega)))
    | with_reducible first | apply cd_dec | apply cd_eq | apply cd_ne | apply cd_split | apply gd_dec | apply gd_eq | apply gd_ne | apply gd_split
    | ((with_reducible refine And.intro ?hw ?_); (case hw => first | omega | rfl | exact ⟨_, _, rfl⟩ | assumption | (simp only [lN, hlen, hca, hea, hcl, hel, f1, f2, f3, f4, f5, f6, hcx, hex] <;> omega)))
    | with_reducible intro _)
    all_goals try omega
    all_goals simp [D.closed, D.er]
  · rw [hok] at kx
    repeat' (first
    | with_reducible first | apply swp_seq | apply swp_reg | apply swp_regD | apply swp_block | apply swp_exit | apply swp_ret | apply swp_skip | apply swp_cd
    | simp only [go_sem, seval, P8, q8, hlen, t1, t2, t3]
    | simp (disch := omega) only [w64, w32, wu8, wu16, wu32, wu64]
    | ((with_reducible first | refine o_call (k1) ?he ?hc ?_ | refine p_call (k1) ?he ?hc ?_ | refine c_call (k1) ?he ?hc ?_); (case he | hc => first | rfl | (simp [D.erL, D.er, D.closedL, D.closed, hlen, hca, hea, hcl, hel, f1, f2, f3, f4, f5, f6, hcx, hex]; done)))
    | ((with_reducible first | refine o_call (k3) ?he ?hc ?_ | refine p_call (k3) ?he ?hc ?_ | refine c_call (k3) ?he ?hc ?_); (case he | hc => first | rfl | (simp [D.erL, D.er, D.closedL, D.closed, hlen, hca, hea, hcl, hel, f1, f2, f3, f4, f5, f6, hcx, hex]; done)))
    | ((with_reducible first | refine o_call (k4) ?he ?hc ?_ | refine p_call (k4) ?he ?hc ?_ | refine c_call (k4) ?he ?hc ?_); (case he | hc => first | rfl | (simp [D.erL, D.er, D.closedL, D.closed, hlen, hca, hea, hcl, hel, f1, f2, f3, f4, f5, f6, hcx, hex]; done)))
    | ((with_reducible first | refine o_call (k5) ?he ?hc ?_ | refine p_call (k5) ?he ?hc ?_ | refine c_call (k5) ?he ?hc ?_); (case he | hc => first | rfl | (simp [D.erL, D.er, D.closedL, D.closed, hlen, hca, hea, hcl, hel, f1, f2, f3, f4, f5, f6, hcx, hex]; done)))
    | ((with_reducible first | refine o_call (k6) ?he ?hc ?_ | refine p_call (k6) ?he ?hc ?_ | refine c_call (k6) ?he ?hc ?_); (case he | hc => first | rfl | (simp [D.erL, D.er, D.closedL, D.closed, hlen, hca, hea, hcl, hel, f1, f2, f3, f4, f5, f6, hcx, hex]; done)))
    | ((with_reducible first | refine o_call (k7) ?he ?hc ?_ | refine p_call (k7) ?he ?hc ?_ | refine c_call (k7) ?he ?hc ?_); (case he | hc => first | rfl | (simp [D.erL, D.er, D.closedL, D.closed, hlen, hca, hea, hcl, hel, f1, f2, f3, f4, f5, f6, hcx, hex]; done)))
    | ((with_reducible first | refine o_call (k8) ?he ?hc ?_ | refine p_call (k8) ?he ?hc ?_ | refine c_call (k8) ?he ?hc ?_); (case he | hc => first | rfl | (simp [D.erL, D.er, D.closedL, D.closed, hlen, hca, hea, hcl, hel, f1, f2, f3, f4, f5, f6, hcx, hex]; done)))
    | ((with_reducible first | refine o_call (kx) ?he ?hc ?_ | refine p_call (kx) ?he ?hc ?_ | refine c_call (kx) ?he ?hc ?_); (case he | hc => first | rfl | (simp [D.erL, D.er, D.closedL, D.closed, hlen, hca, hea, hcl, hel, f1, f2, f3, f4, f5, f6, hcx, hex]; done)))
    | ((with_reducible apply s_appT); (case he => rfl); (case hK | hc | hr | hV => first | rfl | assumption | omega | ((first | refine ⟨?_, ?_⟩ | skip) <;> first | omega | (simp only [lN, hlen, hca, hea, hcl, hel, f1, f2, f3, f4, f5, f6, hcx, hex] <;> omega)) | (simp [elemsK, D.isVal, D.cells, D.closedL, D.closed, hlen, hca, hea, hcl, hel, f1, f2, f3, f4, f5, f6, hcx, hex]; first | done | omega)))
    | ((with_reducible apply s_appG); (case he => rfl); (case hV | hK | hr | hl => first | rfl | assumption | omega | ((first | refine ⟨?_, ?_⟩ | skip) <;> first | omega | (simp only [lN, hlen, hca, hea, hcl, hel, f1, f2, f3, f4, f5, f6, hcx, hex] <;> omega)) | (simp [elemsK, D.isVal, D.cells, D.closedL, D.closed, hlen, hca, hea, hcl, hel, f1, f2, f3, f4, f5, f6, hcx, hex]; first | done | omega)))
    | ((with_reducible first | apply s_app0 | apply t_app0); (case he => rfl); (case hK | hc | hr => first | rfl | assumption | omega | ((first | refine ⟨?_, ?_⟩ | skip) <;> first | omega | (simp only [lN, hlen, hca, hea, hcl, hel, f1, f2, f3, f4, f5, f6, hcx, hex] <;> omega)) | (simp [elemsK, D.isVal, D.cells, D.closedL, D.closed, hlen, hca, hea, hcl, hel, f1, f2, f3, f4, f5, f6, hcx, hex]; first | done | omega)))
    | ((with_reducible first | apply s_appF | apply t_appF); (case he => rfl); (case hK | hc | hr | hx | hn => first | rfl | assumption | omega | ((first | refine ⟨?_, ?_⟩ | skip) <;> first | omega | (simp only [lN, hlen, hca, hea, hcl, hel, f1, f2, f3, f4, f5, f6, hcx, hex] <;> omega)) | (simp [elemsK, D.isVal, D.cells, D.closedL, D.closed, hlen, hca, hea, hcl, hel, f1, f2, f3, f4, f5, f6, hcx, hex]; first | done | omega)))
    | ((with_reducible first | apply s_bsl | apply t_bsl); (case he | hl | hc => first | rfl | assumption | omega | ((first | refine ⟨?_, ?_⟩ | skip) <;> first | omega | (simp only [lN, hlen, hca, hea, hcl, hel, f1, f2, f3, f4, f5, f6, hcx, hex] <;> omega)) | (simp [elemsK, D.isVal, D.cells, D.closedL, D.closed, hlen, hca, hea, hcl, hel, f1, f2, f3, f4, f5, f6, hcx, hex]; first | done | omega)))
    | ((with_reducible first | apply s_slFF | apply t_slFF); (case hx => first | rfl | assumption | omega | ((first | refine ⟨?_, ?_⟩ | skip) <;> first | omega | (simp only [lN, hlen, hca, hea, hcl, hel, f1, f2, f3, f4, f5, f6, hcx, hex] <;> omega)) | (simp [elemsK, D.isVal, D.cells, D.closedL, D.closed, hlen, hca, hea, hcl, hel, f1, f2, f3, f4, f5, f6, hcx, hex]; first | done | omega)))
    | ((with_reducible first | apply s_slTF | apply s_slFT | apply t_slTF | apply t_slFT); (case h0 | h1 | hx => first | rfl | assumption | omega | ((first | refine ⟨?_, ?_⟩ | skip) <;> first | omega | (simp only [lN, hlen, hca, hea, hcl, hel, f1, f2, f3, f4, f5, f6, hcx, hex] <;> omega)) | (simp [elemsK, D.isVal, D.cells, D.closedL, D.closed, hlen, hca, hea, hcl, hel, f1, f2, f3, f4, f5, f6, hcx, hex]; first | done | omega)))
    | ((with_reducible first | apply s_slTT | apply t_slTT); (case h0 | h1 | h2 | hx => first | rfl | assumption | omega | ((first | refine ⟨?_, ?_⟩ | skip) <;> first | omega | (simp only [lN, hlen, hca, hea, hcl, hel, f1, f2, f3, f4, f5, f6, hcx, hex] <;> omega)) | (simp [elemsK, D.isVal, D.cells, D.closedL, D.closed, hlen, hca, hea, hcl, hel, f1, f2, f3, f4, f5, f6, hcx, hex]; first | done | omega)))
    | ((with_reducible first | apply s_smTF | apply s_smFT); (case h0 | h1 | hc => first | rfl | assumption | omega | ((first | refine ⟨?_, ?_⟩ | skip) <;> first | omega | (simp only [lN, hlen, hca, hea, hcl, hel, f1, f2, f3, f4, f5, f6, hcx, hex] <;> omega)) | (simp [elemsK, D.isVal, D.cells, D.closedL, D.closed, hlen, hca, hea, hcl, hel, f1, f2, f3, f4, f5, f6, hcx, hex]; first | done | omega)))
    | ((with_reducible apply s_smTT); (case h0 | h1 | h2 | hc => first | rfl | assumption | omega | ((first | refine ⟨?_, ?_⟩ | skip) <;> first | omega | (simp only [lN, hlen, hca, hea, hcl, hel, f1, f2, f3, f4, f5, f6, hcx, hex] <;> omega)) | (simp [elemsK, D.isVal, D.cells, D.closedL, D.closed, hlen, hca, hea, hcl, hel, f1, f2, f3, f4, f5, f6, hcx, hex]; first | done | omega)))
    | with_reducible first | apply cd_dec | apply cd_eq | apply cd_ne | apply cd_split | apply gd_dec | apply gd_eq | apply gd_ne | apply gd_split
    | ((with_reducible refine And.intro ?hw ?_); (case hw => first | omega | rfl | exact ⟨_, _, rfl⟩ | assumption | (simp only [lN, hlen, hca, hea, hcl, hel, f1, f2, f3, f4, f5, f6, hcx, hex] <;> omega)))
    | with_reducible intro _)
    all_goals try omega
    all_goals simp [D.closed, D.er]
end Go.Proofs.Ytnooagipikedeaa
end
section
set_option linter.unusedVariables false
namespace Go.Proofs.Ytnooagipikedeaa
open Go GoV
theorem arg_len {P : Program} {W : World} {H : Type} {enc : TypeId × Value → H} {t e : TypeId} {v : Value} {d : DataW H} {ps : List MemPlace} (ht : P.underlying t = some (.slice e)) (h : DataW.Trod enc P W 0 (fun _ => true) true t v d ps)
    {g : Gh} {xs : List D} {own : GoV.Own} (hr : RelL W g [.slice xs own] [v]) {k b : Nat} (hs : ∀ elems spare, d = .slice elems spare → (elems.length + spare.length) * k ≤ b) : xs.length * k ≤ b := by
  obtain ⟨fuel, hx⟩ := h
  obtain ⟨y, ys, hy, hrel, _⟩ := hr
  cases hy
  simp only [Rel] at hrel
  obtain ⟨a, cap, _, _, hv, _⟩ := hrel
  rcases hv with rfl | ⟨_, rfl, _⟩
  · rcases DataW.trod_slice ht hx with ⟨hc, _⟩ | ⟨a', len, cap', elems, rest, n', hn, hc, hd, _, _, hm, hlen, _⟩
    · exfalso
      simp [Value.cells] at hc
    · simp [Value.cells] at hc
      have hd1 : d = .slice (elems.map (·.1)) (rest.map (·.1)) := congrArg Prod.fst hd
      have := hs _ _ hd1
      rw [List.length_map, List.length_map, hlen] at this
      have e : xs.length = len := hc.2.1
      rw [e]
      exact Nat.le_trans (Nat.mul_le_mul_right _ (Nat.le_add_right _ _)) this
  · simp
theorem ams_len {W : World} {H : Type} {enc : TypeId × Value → H} {v : Value} {d : DataW H} {ps : List MemPlace} (h : DataW.Trod enc Try.prog W 0 (fun _ => true) true 22 v d ps) {l : List Am} (hr : RelL W (G0 W) [amsD l] [v])
    {ts : List TypeId} {ds : List (DataW H)} (hZ : (DataW.weightsEach Try.prog ts ds).all (· ≤ reachBytes) = true) (h1 : ts[0]? = some 22) (h2 : ds[0]? = some d) : l.length ≤ 977343669105 := by
  have hb : Try.prog.bytesOf 38 = 144 := by kernel_rfl
  have := arg_len Try.underlying22 h hr (k := 144) (b := reachBytes) fun elems spare e => by
    subst e
    rw [← hb]
    exact sized_slice hZ h1 h2 Try.underlying22
  rw [List.length_map] at this
  have hr : reachBytes < 140737488355328 := reachBytes_lt
  have hr2 : reachBytes = 140737488351232 := by decide
  omega
theorem later_c (l : List Am) (hl : l.length ≤ 977343669105) (h : ∀ a ∈ l, a.fit ∧ a.in64) (x : Am) (hx : x.fit ∧ x.in64) (day clock : Int) : Pur M 7 [amsD l, .agg x.cells, .int .i64 day, .int .i64 clock] (.bool true) :=
  later_p l hl (fun a ha => (h a ha).1) x hx.1 day clock
theorem others_c (l : List Am) (hl : l.length ≤ 977343669105) (h : ∀ a ∈ l, a.fit ∧ a.in64) (x : Am) (hx : x.fit ∧ x.in64) (n : Int) (hn : 0 ≤ n ∧ n ≤ 255) (day clock : Int) : Pur M 8 [amsD l, .agg x.cells, .int .u8 n, .int .i64 day, .int .i64 clock] (.bool true) :=
  others_p l hl (fun a ha => (h a ha).1) x hx.1 n hn day clock
end Go.Proofs.Ytnooagipikedeaa
end
