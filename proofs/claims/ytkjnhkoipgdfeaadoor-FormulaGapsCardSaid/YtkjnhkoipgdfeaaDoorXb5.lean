/- Own texts, merged by a program: the engine that walks the code, and what the functions that the law reaches compute. -/
import Derived.Test.YtkjnhkoipgdfeaaDoorXb4
import Derived.Defers
import Derived.Recover
section
set_option maxRecDepth 100000
set_option linter.unusedSimpArgs false
set_option linter.unusedVariables false
namespace Go.Proofs.YtkjnhkoipgdfeaaDoor
open Go GoV Go.RowKit
abbrev ptD (km cy ld : Int) : D := .agg [.int .i64 km, .int .i64 cy, .int .i64 ld]
theorem pnum_p (km cy ld n : Int) : Pur M 124 [ptD km cy ld, .int .i64 n] (.int .i64 n) := by
 refine k124.ok (C := C124) rfl rfl ?_
 rw [i124]
 unfold c124
 have wQ := tw; repeat' (first | with_reducible (apply swq; constructor) | simp only [go_sem, seval, P124, q124] | with_reducible (apply cdA; constructor) | ((with_reducible refine And.intro ?hw ?_); (case hw => exact sw wQ)) | with_reducible intro _)
 all_goals first | omega | (simp_all [D.closed, D.er, D.cL, D.erL]; done) | (simp_all [D.closed, D.er, D.cL, D.erL] <;> omega)
theorem plet_p (km cy ld op : Int) (h : 2 ≤ op) (h2 : op ≤ 4) : Pur M 123 [ptD km cy ld, .int .i64 op] (.int .i64 (if op = 2 then km else if op = 3 then cy else ld)) := by
 refine k123.ok (C := C123) rfl rfl ?_
 rw [i123]
 unfold c123
 have : op = 2 ∨ op = 3 ∨ op = 4 := by omega
 rcases this with rfl | rfl | rfl
 all_goals
  have wQ := tw; repeat' (first | with_reducible (apply swq; constructor) | simp only [go_sem, seval, P123, q123] | with_reducible (apply cdA; constructor) | ((with_reducible refine And.intro ?hw ?_); (case hw => exact sw wQ)) | with_reducible intro _)
  all_goals first | omega | (simp_all [D.closed, D.er, D.cL, D.erL]; done) | (simp_all [D.closed, D.er, D.cL, D.erL] <;> omega)
theorem pch_p (km cy ld a b c : Int) : Pur M 122 [ptD km cy ld, .int .i64 a, .int .i64 b, .int .i64 c] (.int .i64 (chN a b c)) := by
 refine k122.ok (C := C122) rfl rfl ?_
 rw [i122]
 unfold c122
 unfold chN
 by_cases h : 0 < a
 ·have d1 : decide (a > 0) = true := by simp [h]
  rw [if_pos h]
  have wQ := tw; repeat' (first | with_reducible (apply swq; constructor) | simp only [go_sem, seval, P122, q122, d1] | with_reducible (apply cdA; constructor) | ((with_reducible refine And.intro ?hw ?_); (case hw => exact sw wQ)) | with_reducible intro _)
  all_goals first | omega | (simp_all [D.closed, D.er, D.cL, D.erL]; done) | (simp_all [D.closed, D.er, D.cL, D.erL] <;> omega)
 ·have d1 : decide (a > 0) = false := by simp; omega
  rw [if_neg h]
  have wQ := tw; repeat' (first | with_reducible (apply swq; constructor) | simp only [go_sem, seval, P122, q122, d1] | with_reducible (apply cdA; constructor) | ((with_reducible refine And.intro ?hw ?_); (case hw => exact sw wQ)) | with_reducible intro _)
  all_goals first | omega | (simp_all [D.closed, D.er, D.cL, D.erL]; done) | (simp_all [D.closed, D.er, D.cL, D.erL] <;> omega)
theorem one_p (n : Int) : Pur M 125 [.int .i64 n] (ivD (n, n)) := by
 refine k125.ok (C := C125) rfl rfl ?_
 rw [i125]
 unfold c125
 have wQ := tw; repeat' (first | with_reducible (apply swq; constructor) | simp only [go_sem, seval, P125, q125] | with_reducible (apply cdA; constructor) | ((with_reducible refine And.intro ?hw ?_); (case hw => exact sw wQ)) | with_reducible intro _)
 all_goals first | omega | (simp_all [D.closed, D.er, D.cL, D.erL]; done) | (simp_all [D.closed, D.er, D.cL, D.erL] <;> omega)
theorem both_one {g : Int → Int → Int} {a b : Int} (ha : Rg a) (hb : Rg b) : (bothI g (a, a) (b, b)).1 = g a b := by
 unfold bothI
 rw [if_pos ⟨⟨ha.1, Int.le_refl _, ha.2⟩, ⟨hb.1, Int.le_refl _, hb.2⟩⟩]
 simp [corn]
theorem papp_p (km cy ld op a b : Int) (h : 5 ≤ op) (h2 : op ≤ 10) (ha : Rg a) (hb : Rg b) : Pur M 121 [ptD km cy ld, .int .i64 op, .int .i64 a, .int .i64 b] (.int .i64 (opN op a b)) := by
 refine k121.ok (C := C121) rfl rfl ?_
 rw [i121]
 unfold c121
 have c1 := one_p a
 have c2 := one_p b
 have c3 := add_p (a, a) (b, b)
 have c4 := sub_p (a, a) (b, b)
 have c5 := mul_p (a, a) (b, b)
 have c6 := floor_p a b ha hb
 have e3 := both_one (g := fun a b => sat (a + b)) ha hb
 have e4 := both_one (g := fun a b => sat (a - b)) ha hb
 have e5 := both_one (g := fun a b => sat (a * b)) ha hb
 generalize bothI (fun a b => sat (a + b)) (a, a) (b, b) = r3 at *
 generalize bothI (fun a b => sat (a - b)) (a, a) (b, b) = r4 at *
 generalize bothI (fun a b => sat (a * b)) (a, a) (b, b) = r5 at *
 have : op = 5 ∨ op = 6 ∨ op = 7 ∨ op = 8 ∨ op = 9 ∨ op = 10 := by omega
 rcases this with rfl | rfl | rfl | rfl | rfl | rfl
 ·have e : opN 5 a b = sat (a + b) := rfl
  rw [e, ← e3]
  have wQ := tw; repeat' (first | with_reducible (apply swq; constructor) | simp only [go_sem, seval, P121, q121] | ((with_reducible refine zAb (c1) ?he ?hc ?_); (case he | hc => exact sc wQ)) | ((with_reducible refine zAb (c2) ?he ?hc ?_); (case he | hc => exact sc wQ)) | ((with_reducible refine zAb (c3) ?he ?hc ?_); (case he | hc => exact sc wQ)) | with_reducible (apply cdA; constructor) | ((with_reducible refine And.intro ?hw ?_); (case hw => exact sw wQ)) | with_reducible intro _)
  all_goals first | omega | (simp_all [D.closed, D.er, D.cL, D.erL]; done) | (simp_all [D.closed, D.er, D.cL, D.erL] <;> omega)
 ·have e : opN 6 a b = sat (a - b) := rfl
  rw [e, ← e4]
  have wQ := tw; repeat' (first | with_reducible (apply swq; constructor) | simp only [go_sem, seval, P121, q121] | ((with_reducible refine zAb (c1) ?he ?hc ?_); (case he | hc => exact sc wQ)) | ((with_reducible refine zAb (c2) ?he ?hc ?_); (case he | hc => exact sc wQ)) | ((with_reducible refine zAb (c4) ?he ?hc ?_); (case he | hc => exact sc wQ)) | with_reducible (apply cdA; constructor) | ((with_reducible refine And.intro ?hw ?_); (case hw => exact sw wQ)) | with_reducible intro _)
  all_goals first | omega | (simp_all [D.closed, D.er, D.cL, D.erL]; done) | (simp_all [D.closed, D.er, D.cL, D.erL] <;> omega)
 ·have e : opN 7 a b = sat (a * b) := rfl
  rw [e, ← e5]
  have wQ := tw; repeat' (first | with_reducible (apply swq; constructor) | simp only [go_sem, seval, P121, q121] | ((with_reducible refine zAb (c1) ?he ?hc ?_); (case he | hc => exact sc wQ)) | ((with_reducible refine zAb (c2) ?he ?hc ?_); (case he | hc => exact sc wQ)) | ((with_reducible refine zAb (c5) ?he ?hc ?_); (case he | hc => exact sc wQ)) | with_reducible (apply cdA; constructor) | ((with_reducible refine And.intro ?hw ?_); (case hw => exact sw wQ)) | with_reducible intro _)
  all_goals first | omega | (simp_all [D.closed, D.er, D.cL, D.erL]; done) | (simp_all [D.closed, D.er, D.cL, D.erL] <;> omega)
 ·have e : opN 8 a b = fl a b := rfl
  rw [e]
  have wQ := tw; repeat' (first | with_reducible (apply swq; constructor) | simp only [go_sem, seval, P121, q121] | ((with_reducible refine zAb (c6) ?he ?hc ?_); (case he | hc => exact sc wQ)) | with_reducible (apply cdA; constructor) | ((with_reducible refine And.intro ?hw ?_); (case hw => exact sw wQ)) | with_reducible intro _)
  all_goals first | omega | (simp_all [D.closed, D.er, D.cL, D.erL]; done) | (simp_all [D.closed, D.er, D.cL, D.erL] <;> omega)
 ·have e : opN 9 a b = min a b := rfl
  rw [e]
  have wQ := tw; repeat' (first | with_reducible (apply swq; constructor) | simp only [go_sem, seval, P121, q121, minW] | with_reducible (apply cdA; constructor) | ((with_reducible refine And.intro ?hw ?_); (case hw => exact sw wQ)) | with_reducible intro _)
  all_goals first | omega | (simp_all [D.closed, D.er, D.cL, D.erL]; done) | (simp_all [D.closed, D.er, D.cL, D.erL] <;> omega)
 ·have e : opN 10 a b = max a b := rfl
  rw [e]
  have wQ := tw; repeat' (first | with_reducible (apply swq; constructor) | simp only [go_sem, seval, P121, q121, maxW] | with_reducible (apply cdA; constructor) | ((with_reducible refine And.intro ?hw ?_); (case hw => exact sw wQ)) | with_reducible intro _)
  all_goals first | omega | (simp_all [D.closed, D.er, D.cL, D.erL]; done) | (simp_all [D.closed, D.er, D.cL, D.erL] <;> omega)
theorem rnum_p (u : Use) (n : Int) : Pur M 103 [useD u, .int .i64 n] (ivD (n, n)) := by
 refine k103.ok (C := C103) rfl rfl ?_
 rw [i103]
 unfold c103
 have wQ := tw; repeat' (first | with_reducible (apply swq; constructor) | simp only [go_sem, seval, P103, q103] | with_reducible (apply cdA; constructor) | ((with_reducible refine And.intro ?hw ?_); (case hw => exact sw wQ)) | with_reducible intro _)
 all_goals first | omega | (simp_all [D.closed, D.er, D.cL, D.erL]; done) | (simp_all [D.closed, D.er, D.cL, D.erL] <;> omega)
theorem rlet_p (u : Use) (op : Int) (h : 2 ≤ op) (h2 : op ≤ 4) : Pur M 102 [useD u, .int .i64 op] (ivD (if op = 2 then u.km else if op = 3 then u.cy else u.ld)) := by
 refine k102.ok (C := C102) rfl rfl ?_
 rw [i102]
 unfold c102
 have : op = 2 ∨ op = 3 ∨ op = 4 := by omega
 rcases this with rfl | rfl | rfl
 all_goals
  have wQ := tw; repeat' (first | with_reducible (apply swq; constructor) | simp only [go_sem, seval, P102, q102] | with_reducible (apply cdA; constructor) | ((with_reducible refine And.intro ?hw ?_); (case hw => exact sw wQ)) | with_reducible intro _)
  all_goals first | omega | (simp_all [D.closed, D.er, D.cL, D.erL]; done) | (simp_all [D.closed, D.er, D.cL, D.erL] <;> omega)
theorem rch_p (u : Use) (A B C : Iv) (hA : okI A) (hB : okI B) (hC : okI C) : Pur M 101 [useD u, ivD A, ivD B, ivD C] (ivD (chI A B C)) := by
 refine k101.ok (C := C101) rfl rfl ?_
 rw [i101]
 unfold c101
 have c1 := over_p A hA
 have c2 := join_p B C hB hC
 unfold chI
 unfold overI at c1
 by_cases g1 : A.2 ≤ 0
 ·rw [if_pos g1] at c1 ⊢
  have wQ := tw; repeat' (first | with_reducible (apply swq; constructor) | simp only [go_sem, seval, P101, q101] | ((with_reducible refine zAb (c1) ?he ?hc ?_); (case he | hc => exact sc wQ)) | with_reducible (apply cdA; constructor) | ((with_reducible refine And.intro ?hw ?_); (case hw => exact sw wQ)) | with_reducible intro _)
  all_goals first | omega | (simp_all [D.closed, D.er, D.cL, D.erL]; done) | (simp_all [D.closed, D.er, D.cL, D.erL] <;> omega)
 ·rw [if_neg g1] at c1 ⊢
  by_cases g2 : 0 < A.1
  ·rw [if_pos g2] at c1 ⊢
   have wQ := tw; repeat' (first | with_reducible (apply swq; constructor) | simp only [go_sem, seval, P101, q101] | ((with_reducible refine zAb (c1) ?he ?hc ?_); (case he | hc => exact sc wQ)) | with_reducible (apply cdA; constructor) | ((with_reducible refine And.intro ?hw ?_); (case hw => exact sw wQ)) | with_reducible intro _)
   all_goals first | omega | (simp_all [D.closed, D.er, D.cL, D.erL]; done) | (simp_all [D.closed, D.er, D.cL, D.erL] <;> omega)
  ·rw [if_neg g2] at c1 ⊢
   generalize joinI B C = R at *
   have wQ := tw; repeat' (first | with_reducible (apply swq; constructor) | simp only [go_sem, seval, P101, q101] | ((with_reducible refine zAb (c1) ?he ?hc ?_); (case he | hc => exact sc wQ)) | ((with_reducible refine zAb (c2) ?he ?hc ?_); (case he | hc => exact sc wQ)) | with_reducible (apply cdA; constructor) | ((with_reducible refine And.intro ?hw ?_); (case hw => exact sw wQ)) | with_reducible intro _)
   all_goals first | omega | (simp_all [D.closed, D.er, D.cL, D.erL]; done) | (simp_all [D.closed, D.er, D.cL, D.erL] <;> omega)
theorem rapp_p (u : Use) (op : Int) (A B : Iv) (h : 5 ≤ op) (h2 : op ≤ 10) (hA : okI A) (hB : okI B) : Pur M 100 [useD u, .int .i64 op, ivD A, ivD B] (ivD (opI op A B)) := by
 refine k100.ok (C := C100) rfl rfl ?_
 rw [i100]
 unfold c100
 have c3 := add_p A B
 have c4 := sub_p A B
 have c5 := mul_p A B
 have c6 := divide_p A B hA hB
 unfold bothI at c3 c4 c5
 rw [if_pos ⟨hA, hB⟩] at c3 c4 c5
 have : op = 5 ∨ op = 6 ∨ op = 7 ∨ op = 8 ∨ op = 9 ∨ op = 10 := by omega
 rcases this with rfl | rfl | rfl | rfl | rfl | rfl
 ·have e : opI 5 A B = corn (fun a b => sat (a + b)) A B := rfl
  rw [e]
  generalize corn (fun a b => sat (a + b)) A B = R at *
  have wQ := tw; repeat' (first | with_reducible (apply swq; constructor) | simp only [go_sem, seval, P100, q100] | ((with_reducible refine zAb (c3) ?he ?hc ?_); (case he | hc => exact sc wQ)) | with_reducible (apply cdA; constructor) | ((with_reducible refine And.intro ?hw ?_); (case hw => exact sw wQ)) | with_reducible intro _)
  all_goals first | omega | (simp_all [D.closed, D.er, D.cL, D.erL]; done) | (simp_all [D.closed, D.er, D.cL, D.erL] <;> omega)
 ·have e : opI 6 A B = corn (fun a b => sat (a - b)) A B := rfl
  rw [e]
  generalize corn (fun a b => sat (a - b)) A B = R at *
  have wQ := tw; repeat' (first | with_reducible (apply swq; constructor) | simp only [go_sem, seval, P100, q100] | ((with_reducible refine zAb (c4) ?he ?hc ?_); (case he | hc => exact sc wQ)) | with_reducible (apply cdA; constructor) | ((with_reducible refine And.intro ?hw ?_); (case hw => exact sw wQ)) | with_reducible intro _)
  all_goals first | omega | (simp_all [D.closed, D.er, D.cL, D.erL]; done) | (simp_all [D.closed, D.er, D.cL, D.erL] <;> omega)
 ·have e : opI 7 A B = corn (fun a b => sat (a * b)) A B := rfl
  rw [e]
  generalize corn (fun a b => sat (a * b)) A B = R at *
  have wQ := tw; repeat' (first | with_reducible (apply swq; constructor) | simp only [go_sem, seval, P100, q100] | ((with_reducible refine zAb (c5) ?he ?hc ?_); (case he | hc => exact sc wQ)) | with_reducible (apply cdA; constructor) | ((with_reducible refine And.intro ?hw ?_); (case hw => exact sw wQ)) | with_reducible intro _)
  all_goals first | omega | (simp_all [D.closed, D.er, D.cL, D.erL]; done) | (simp_all [D.closed, D.er, D.cL, D.erL] <;> omega)
 ·have e : opI 8 A B = divI A B := rfl
  rw [e]
  generalize divI A B = R at *
  have wQ := tw; repeat' (first | with_reducible (apply swq; constructor) | simp only [go_sem, seval, P100, q100] | ((with_reducible refine zAb (c6) ?he ?hc ?_); (case he | hc => exact sc wQ)) | with_reducible (apply cdA; constructor) | ((with_reducible refine And.intro ?hw ?_); (case hw => exact sw wQ)) | with_reducible intro _)
  all_goals first | omega | (simp_all [D.closed, D.er, D.cL, D.erL]; done) | (simp_all [D.closed, D.er, D.cL, D.erL] <;> omega)
 ·have e : opI 9 A B = (min A.1 B.1, min A.2 B.2) := rfl
  rw [e]
  have wQ := tw; repeat' (first | with_reducible (apply swq; constructor) | simp only [go_sem, seval, P100, q100, minW] | with_reducible (apply cdA; constructor) | ((with_reducible refine And.intro ?hw ?_); (case hw => exact sw wQ)) | with_reducible intro _)
  all_goals first | omega | (simp_all [D.closed, D.er, D.cL, D.erL]; done) | (simp_all [D.closed, D.er, D.cL, D.erL] <;> omega)
 ·have e : opI 10 A B = (max A.1 B.1, max A.2 B.2) := rfl
  rw [e]
  have wQ := tw; repeat' (first | with_reducible (apply swq; constructor) | simp only [go_sem, seval, P100, q100, maxW] | with_reducible (apply cdA; constructor) | ((with_reducible refine And.intro ?hw ?_); (case hw => exact sw wQ)) | with_reducible intro _)
  all_goals first | omega | (simp_all [D.closed, D.er, D.cL, D.erL]; done) | (simp_all [D.closed, D.er, D.cL, D.erL] <;> omega)
theorem m1 : zCi M.P 73 "bogie/formula.number" = some 124 := by kernel_rfl
theorem m2 : zCi M.P 73 "bogie/formula.letter" = some 123 := by kernel_rfl
theorem m3 : zCi M.P 73 "bogie/formula.choose" = some 122 := by kernel_rfl
theorem m4 : zCi M.P 73 "bogie/formula.apply" = some 121 := by kernel_rfl
theorem m5 : zCi M.P 70 "bogie/formula.number" = some 103 := by kernel_rfl
theorem m6 : zCi M.P 70 "bogie/formula.letter" = some 102 := by kernel_rfl
theorem m7 : zCi M.P 70 "bogie/formula.choose" = some 101 := by kernel_rfl
theorem m8 : zCi M.P 70 "bogie/formula.apply" = some 100 := by kernel_rfl
end Go.Proofs.YtkjnhkoipgdfeaaDoor
end
section
set_option maxRecDepth 100000
set_option linter.unusedSimpArgs false
set_option linter.unusedVariables false
namespace Go.Proofs.YtkjnhkoipgdfeaaDoor
open Go GoV Go.RowKit
theorem zEr {op n : Int} {ks : List F} (h : (F.mk op n ks).well = true) :
 (∀ k ∈ ks, k.well = true) ∧ 1 ≤ op ∧ op ≤ 11 ∧ 0 ≤ n ∧ n ≤ 9999999 ∧ ((op ≤ 4 ∧ ks = []) ∨ (5 ≤ op ∧ op ≤ 10 ∧ ∃ a b, ks = [a, b]) ∨ (op = 11 ∧ ∃ a b c, ks = [a, b, c])) := by
 simp only [F.well, Bool.and_eq_true] at h
 have hk := wellL_mem h.2
 have ho := h.1
 unfold okN at ho
 have ho := of_decide_eq_true ho
 obtain ⟨w1, w2, w3⟩ := want_cases op
 generalize want op = w at *
 refine ⟨hk, by omega, by omega, by omega, by omega, ?_⟩
 by_cases g1 : op = 11
 ·have : ks.length = 3 := by omega
  match ks, this with
  | [a, b, c], _ => exact .inr (.inr ⟨g1, a, b, c, rfl⟩)
 ·by_cases g2 : 5 ≤ op
  ·have : ks.length = 2 := by omega
   match ks, this with
   | [a, b], _ => exact .inr (.inl ⟨g2, by omega, a, b, rfl⟩)
  ·have : ks.length = 0 := by omega
   obtain rfl := List.length_eq_zero_iff.1 this
   exact .inl ⟨by omega, rfl⟩
theorem F.d_mk (op n : Int) (ks : List F) : (F.mk op n ks).d = .agg [.int .i64 op, .int .i64 n, .slice (ks.map F.d) .no] := by simp [F.d, fdL_map]
theorem val_leaf (km cy ld op n : Int) (h1 : 2 ≤ op) (h2 : op ≤ 4) : val km cy ld (.mk op n []) = if op = 2 then km else if op = 3 then cy else ld := by
 simp only [val]
 rw [if_neg (show ¬ op = 1 by omega), if_pos h2]
theorem span_leaf (u : Use) (op n : Int) (h1 : 2 ≤ op) (h2 : op ≤ 4) : span u (.mk op n []) = if op = 2 then u.km else if op = 3 then u.cy else u.ld := by
 simp only [span]
 rw [if_neg (show ¬ op = 1 by omega), if_pos h2]
theorem val_op (km cy ld op n : Int) (a b : F) (h1 : 5 ≤ op) (h2 : op ≤ 10) : val km cy ld (.mk op n [a, b]) = opN op (val km cy ld a) (val km cy ld b) := by
 simp only [val, valL, List.getD_cons_zero, List.getD_cons_succ]
 rw [if_neg (by omega), if_neg (by omega), if_neg (by omega), if_neg (by omega), if_neg (by omega)]
theorem span_op (u : Use) (op n : Int) (a b : F) (h1 : 5 ≤ op) (h2 : op ≤ 10) : span u (.mk op n [a, b]) = opI op (span u a) (span u b) := by
 simp only [span, spanL, List.getD_cons_zero, List.getD_cons_succ]
 rw [if_neg (by omega), if_neg (by omega), if_neg (by omega), if_neg (by omega), if_neg (by omega)]
set_option maxHeartbeats 1000000 in
theorem run38_p (km cy ld : Int) (h1 : Rg km) (h2 : Rg cy) (h3 : Rg ld) : ∀ (k : Nat) (f : F), f.nodes ≤ k → f.well = true → Pur M 38 [.iface 73 (ptD km cy ld), f.d] (.int .i64 (val km cy ld f))
 | 0, x, hk, _ => by have := zCy x; omega
 | k + 1, .mk op n ks, hk, hw => by
   obtain ⟨hkw, o1, o2, n1, n2, hc⟩ := zEr hw
   have ih : ∀ y ∈ ks, Pur M 38 [.iface 73 (ptD km cy ld), y.d] (.int .i64 (val km cy ld y)) := fun y hy => run38_p km cy ld h1 h2 h3 k y (by have := zB0 (f := .mk op n ks) hy; omega) (hkw y hy)
   have hR : ∀ y ∈ ks, Rg (val km cy ld y) := fun y hy => val_rng h1 h2 h3 y (hkw y hy)
   refine k38.ok (C := C38) rfl rfl ?_
   rw [i38]
   unfold c38
   rw [F.d_mk]
   rcases hc with ⟨g1, rfl⟩ | ⟨g1, g2, a, b, rfl⟩ | ⟨rfl, a, b, c, rfl⟩
   ·by_cases e1 : op = 1
    ·subst e1
     have c1 := pnum_p km cy ld n
     have e : val km cy ld (.mk 1 n []) = n := rfl
     rw [e]
     have wQ := tw; repeat' (first | with_reducible (apply swq; constructor) | simp only [go_sem, seval, P38, q38, m1] | ((with_reducible first | refine zAb (c1) ?he ?hc ?_ | refine zAk (c1) ?he ?hc ?_ | refine zAl (c1) ?he ?hc ?_); (case he | hc => exact sc wQ)) | with_reducible (apply cdA; constructor) | ((with_reducible refine And.intro ?hw ?_); (case hw => exact sw wQ)) | with_reducible intro _)
     all_goals first | omega | (simp_all [D.closed, D.er, D.cL, D.erL]; done) | (simp_all [D.closed, D.er, D.cL, D.erL] <;> omega)
    ·have c2 := plet_p km cy ld op (by omega) g1
     rw [← val_leaf km cy ld op n (by omega) g1] at c2
     generalize val km cy ld (.mk op n []) = v at *
     have t1 : (op == 1) = false := by simp [e1]
     have t2 : decide (op ≤ 4) = true := by simp [g1]
     have wQ := tw; repeat' (first | with_reducible (apply swq; constructor) | simp only [go_sem, seval, P38, q38, m2, t1, t2] | ((with_reducible first | refine zAb (c2) ?he ?hc ?_ | refine zAk (c2) ?he ?hc ?_ | refine zAl (c2) ?he ?hc ?_); (case he | hc => exact sc wQ)) | with_reducible (apply cdA; constructor) | ((with_reducible refine And.intro ?hw ?_); (case hw => exact sw wQ)) | with_reducible intro _)
     all_goals first | omega | (simp_all [D.closed, D.er, D.cL, D.erL]; done) | (simp_all [D.closed, D.er, D.cL, D.erL] <;> omega)
   ·have i1 := ih a (by simp)
    have i2 := ih b (by simp)
    have c2 := papp_p km cy ld op (val km cy ld a) (val km cy ld b) g1 g2 (hR a (by simp)) (hR b (by simp))
    rw [val_op km cy ld op n a b g1 g2]
    rw [F.d_eq] at i1 i2
    simp only [List.map_cons, List.map_nil, F.d_eq]
    have ha := zAh a.kids
    have hb := zAh b.kids
    have ea := erL_F a.kids
    have eb := erL_F b.kids
    generalize val km cy ld a = va at *
    generalize val km cy ld b = vb at *
    generalize opN op va vb = vr at *
    have t1 : (op == 1) = false := by simp; omega
    have t2 : decide (op ≤ 4) = false := by simp; omega
    have t3 : (op == 11) = false := by simp; omega
    have wQ := And.intro @ha (And.intro @hb (And.intro @ea @eb)); repeat' (first | with_reducible (apply swq; constructor) | simp only [go_sem, seval, P38, q38, m4, t1, t2, t3] | ((with_reducible first | refine zAb (i1) ?he ?hc ?_ | refine zAk (i1) ?he ?hc ?_ | refine zAl (i1) ?he ?hc ?_); (case he | hc => exact sc wQ)) | ((with_reducible first | refine zAb (i2) ?he ?hc ?_ | refine zAk (i2) ?he ?hc ?_ | refine zAl (i2) ?he ?hc ?_); (case he | hc => exact sc wQ)) | ((with_reducible first | refine zAb (c2) ?he ?hc ?_ | refine zAk (c2) ?he ?hc ?_ | refine zAl (c2) ?he ?hc ?_); (case he | hc => exact sc wQ)) | with_reducible (apply cdA; constructor) | ((with_reducible refine And.intro ?hw ?_); (case hw => exact sw wQ)) | with_reducible intro _)
    all_goals first | omega | (simp_all [D.closed, D.er, D.cL, D.erL, ha, hb, ea, eb]; done) | (simp_all [D.closed, D.er, D.cL, D.erL, ha, hb, ea, eb] <;> omega)
   ·have i1 := ih a (by simp)
    have i2 := ih b (by simp)
    have i3 := ih c (by simp)
    have e : val km cy ld (.mk 11 n [a, b, c]) = chN (val km cy ld a) (val km cy ld b) (val km cy ld c) := by simp [val, valL]
    rw [e]
    have c2 := pch_p km cy ld (val km cy ld a) (val km cy ld b) (val km cy ld c)
    rw [F.d_eq] at i1 i2 i3
    simp only [List.map_cons, List.map_nil, F.d_eq]
    have ha := zAh a.kids
    have hb := zAh b.kids
    have hcc := zAh c.kids
    have ea := erL_F a.kids
    have eb := erL_F b.kids
    have ec := erL_F c.kids
    generalize val km cy ld a = va at *
    generalize val km cy ld b = vb at *
    generalize val km cy ld c = vc at *
    generalize chN va vb vc = vr at *
    have wQ := And.intro @ha (And.intro @hb (And.intro @hcc (And.intro @ea (And.intro @eb @ec)))); repeat' (first | with_reducible (apply swq; constructor) | simp only [go_sem, seval, P38, q38, m3] | ((with_reducible first | refine zAb (i1) ?he ?hc ?_ | refine zAk (i1) ?he ?hc ?_ | refine zAl (i1) ?he ?hc ?_); (case he | hc => exact sc wQ)) | ((with_reducible first | refine zAb (i2) ?he ?hc ?_ | refine zAk (i2) ?he ?hc ?_ | refine zAl (i2) ?he ?hc ?_); (case he | hc => exact sc wQ)) | ((with_reducible first | refine zAb (i3) ?he ?hc ?_ | refine zAk (i3) ?he ?hc ?_ | refine zAl (i3) ?he ?hc ?_); (case he | hc => exact sc wQ)) | ((with_reducible first | refine zAb (c2) ?he ?hc ?_ | refine zAk (c2) ?he ?hc ?_ | refine zAl (c2) ?he ?hc ?_); (case he | hc => exact sc wQ)) | with_reducible (apply cdA; constructor) | ((with_reducible refine And.intro ?hw ?_); (case hw => exact sw wQ)) | with_reducible intro _)
    all_goals first | omega | (simp_all [D.closed, D.er, D.cL, D.erL, ha, hb, hcc, ea, eb, ec]; done) | (simp_all [D.closed, D.er, D.cL, D.erL, ha, hb, hcc, ea, eb, ec] <;> omega)
set_option maxHeartbeats 1000000 in
theorem run36_p (u : Use) (hu : u.ok) : ∀ (k : Nat) (f : F), f.nodes ≤ k → f.well = true → Pur M 36 [.iface 70 (useD u), f.d] (ivD (span u f))
 | 0, x, hk, _ => by have := zCy x; omega
 | k + 1, .mk op n ks, hk, hw => by
   obtain ⟨hkw, o1, o2, n1, n2, hc⟩ := zEr hw
   have ih : ∀ y ∈ ks, Pur M 36 [.iface 70 (useD u), y.d] (ivD (span u y)) := fun y hy => run36_p u hu k y (by have := zB0 (f := .mk op n ks) hy; omega) (hkw y hy)
   have hR : ∀ y ∈ ks, okI (span u y) := fun y hy => span_ok hu y (hkw y hy)
   refine k36.ok (C := C36) rfl rfl ?_
   rw [i36]
   unfold c36
   rw [F.d_mk]
   rcases hc with ⟨g1, rfl⟩ | ⟨g1, g2, a, b, rfl⟩ | ⟨rfl, a, b, c, rfl⟩
   ·by_cases e1 : op = 1
    ·subst e1
     have c1 := rnum_p u n
     have e : span u (.mk 1 n []) = (n, n) := rfl
     rw [e]
     have wQ := tw; repeat' (first | with_reducible (apply swq; constructor) | simp only [go_sem, seval, P36, q36, m5] | ((with_reducible first | refine zAb (c1) ?he ?hc ?_ | refine zAk (c1) ?he ?hc ?_ | refine zAl (c1) ?he ?hc ?_); (case he | hc => exact sc wQ)) | with_reducible (apply cdA; constructor) | ((with_reducible refine And.intro ?hw ?_); (case hw => exact sw wQ)) | with_reducible intro _)
     all_goals first | omega | (simp_all [D.closed, D.er, D.cL, D.erL]; done) | (simp_all [D.closed, D.er, D.cL, D.erL] <;> omega)
    ·have c2 := rlet_p u op (by omega) g1
     rw [← span_leaf u op n (by omega) g1] at c2
     generalize span u (.mk op n []) = v at *
     have t1 : (op == 1) = false := by simp [e1]
     have t2 : decide (op ≤ 4) = true := by simp [g1]
     have wQ := tw; repeat' (first | with_reducible (apply swq; constructor) | simp only [go_sem, seval, P36, q36, m6, t1, t2] | ((with_reducible first | refine zAb (c2) ?he ?hc ?_ | refine zAk (c2) ?he ?hc ?_ | refine zAl (c2) ?he ?hc ?_); (case he | hc => exact sc wQ)) | with_reducible (apply cdA; constructor) | ((with_reducible refine And.intro ?hw ?_); (case hw => exact sw wQ)) | with_reducible intro _)
     all_goals first | omega | (simp_all [D.closed, D.er, D.cL, D.erL]; done) | (simp_all [D.closed, D.er, D.cL, D.erL] <;> omega)
   ·have i1 := ih a (by simp)
    have i2 := ih b (by simp)
    have c2 := rapp_p u op (span u a) (span u b) g1 g2 (hR a (by simp)) (hR b (by simp))
    rw [span_op u op n a b g1 g2]
    rw [F.d_eq] at i1 i2
    simp only [List.map_cons, List.map_nil, F.d_eq]
    have ha := zAh a.kids
    have hb := zAh b.kids
    have ea := erL_F a.kids
    have eb := erL_F b.kids
    generalize span u a = va at *
    generalize span u b = vb at *
    generalize opI op va vb = vr at *
    have t1 : (op == 1) = false := by simp; omega
    have t2 : decide (op ≤ 4) = false := by simp; omega
    have t3 : (op == 11) = false := by simp; omega
    have wQ := And.intro @ha (And.intro @hb (And.intro @ea @eb)); repeat' (first | with_reducible (apply swq; constructor) | simp only [go_sem, seval, P36, q36, m8, t1, t2, t3] | ((with_reducible first | refine zAb (i1) ?he ?hc ?_ | refine zAk (i1) ?he ?hc ?_ | refine zAl (i1) ?he ?hc ?_); (case he | hc => exact sc wQ)) | ((with_reducible first | refine zAb (i2) ?he ?hc ?_ | refine zAk (i2) ?he ?hc ?_ | refine zAl (i2) ?he ?hc ?_); (case he | hc => exact sc wQ)) | ((with_reducible first | refine zAb (c2) ?he ?hc ?_ | refine zAk (c2) ?he ?hc ?_ | refine zAl (c2) ?he ?hc ?_); (case he | hc => exact sc wQ)) | with_reducible (apply cdA; constructor) | ((with_reducible refine And.intro ?hw ?_); (case hw => exact sw wQ)) | with_reducible intro _)
    all_goals first | omega | (simp_all [D.closed, D.er, D.cL, D.erL, ha, hb, ea, eb]; done) | (simp_all [D.closed, D.er, D.cL, D.erL, ha, hb, ea, eb] <;> omega)
   ·have i1 := ih a (by simp)
    have i2 := ih b (by simp)
    have i3 := ih c (by simp)
    have e : span u (.mk 11 n [a, b, c]) = chI (span u a) (span u b) (span u c) := by simp [span, spanL]
    rw [e]
    have c2 := rch_p u (span u a) (span u b) (span u c) (hR a (by simp)) (hR b (by simp)) (hR c (by simp))
    rw [F.d_eq] at i1 i2 i3
    simp only [List.map_cons, List.map_nil, F.d_eq]
    have ha := zAh a.kids
    have hb := zAh b.kids
    have hcc := zAh c.kids
    have ea := erL_F a.kids
    have eb := erL_F b.kids
    have ec := erL_F c.kids
    generalize span u a = va at *
    generalize span u b = vb at *
    generalize span u c = vc at *
    generalize chI va vb vc = vr at *
    have wQ := And.intro @ha (And.intro @hb (And.intro @hcc (And.intro @ea (And.intro @eb @ec)))); repeat' (first | with_reducible (apply swq; constructor) | simp only [go_sem, seval, P36, q36, m7] | ((with_reducible first | refine zAb (i1) ?he ?hc ?_ | refine zAk (i1) ?he ?hc ?_ | refine zAl (i1) ?he ?hc ?_); (case he | hc => exact sc wQ)) | ((with_reducible first | refine zAb (i2) ?he ?hc ?_ | refine zAk (i2) ?he ?hc ?_ | refine zAl (i2) ?he ?hc ?_); (case he | hc => exact sc wQ)) | ((with_reducible first | refine zAb (i3) ?he ?hc ?_ | refine zAk (i3) ?he ?hc ?_ | refine zAl (i3) ?he ?hc ?_); (case he | hc => exact sc wQ)) | ((with_reducible first | refine zAb (c2) ?he ?hc ?_ | refine zAk (c2) ?he ?hc ?_ | refine zAl (c2) ?he ?hc ?_); (case he | hc => exact sc wQ)) | with_reducible (apply cdA; constructor) | ((with_reducible refine And.intro ?hw ?_); (case hw => exact sw wQ)) | with_reducible intro _)
    all_goals first | omega | (simp_all [D.closed, D.er, D.cL, D.erL, ha, hb, hcc, ea, eb, ec]; done) | (simp_all [D.closed, D.er, D.cL, D.erL, ha, hb, hcc, ea, eb, ec] <;> omega)
end Go.Proofs.YtkjnhkoipgdfeaaDoor
end
section
set_option maxRecDepth 100000
set_option linter.unusedSimpArgs false
set_option linter.unusedVariables false
namespace Go.Proofs.YtkjnhkoipgdfeaaDoor
open Go GoV Go.RowKit
theorem value_p (f : F) (km cy ld : Int) : Pur M 18 [f.d, .int .i64 km, .int .i64 cy, .int .i64 ld] (.int .i64 (valueF f km cy ld)) := by
 refine k18.ok (C := C18) rfl rfl ?_
 rw [i18]
 unfold c18
 have c1 := valid_p f
 have hck := zAh f.kids
 have hek := erL_F f.kids
 unfold valueF
 cases hv : f.valid
 ·rw [hv] at c1
  rw [F.d_eq] at c1 ⊢
  have wQ := And.intro @hck @hek; repeat' (first | with_reducible (apply swq; constructor) | simp only [go_sem, seval, P18, q18] | ((with_reducible first | refine zAb (c1) ?he ?hc ?_ | refine zAk (c1) ?he ?hc ?_ | refine zAl (c1) ?he ?hc ?_); (case he | hc => exact sc wQ)) | with_reducible (apply cdA; constructor) | ((with_reducible refine And.intro ?hw ?_); (case hw => exact sw wQ)) | with_reducible intro _)
  all_goals first | omega | (simp_all [D.closed, D.er, D.cL, D.erL, hck, hek]; done) | (simp_all [D.closed, D.er, D.cL, D.erL, hck, hek] <;> omega)
 ·rw [hv] at c1
  simp only [if_true]
  have c2 := cut_p km
  have c3 := cut_p cy
  have c4 := cut_p ld
  have c5 := run38_p (sat km) (sat cy) (sat ld) (sat_rng _) (sat_rng _) (sat_rng _) f.nodes f (Nat.le_refl _) (valid_well hv)
  rw [F.d_eq] at c1 c5 ⊢
  generalize val (sat km) (sat cy) (sat ld) f = v at *
  generalize sat km = skm at *
  generalize sat cy = scy at *
  generalize sat ld = sld at *
  have wQ := And.intro @hck @hek; repeat' (first | with_reducible (apply swq; constructor) | simp only [go_sem, seval, P18, q18] | ((with_reducible first | refine zAb (c1) ?he ?hc ?_ | refine zAk (c1) ?he ?hc ?_ | refine zAl (c1) ?he ?hc ?_); (case he | hc => exact sc wQ)) | ((with_reducible first | refine zAb (c2) ?he ?hc ?_ | refine zAk (c2) ?he ?hc ?_ | refine zAl (c2) ?he ?hc ?_); (case he | hc => exact sc wQ)) | ((with_reducible first | refine zAb (c3) ?he ?hc ?_ | refine zAk (c3) ?he ?hc ?_ | refine zAl (c3) ?he ?hc ?_); (case he | hc => exact sc wQ)) | ((with_reducible first | refine zAb (c4) ?he ?hc ?_ | refine zAk (c4) ?he ?hc ?_ | refine zAl (c4) ?he ?hc ?_); (case he | hc => exact sc wQ)) | ((with_reducible first | refine zAb (c5) ?he ?hc ?_ | refine zAk (c5) ?he ?hc ?_ | refine zAl (c5) ?he ?hc ?_); (case he | hc => exact sc wQ)) | with_reducible (apply cdA; constructor) | ((with_reducible refine And.intro ?hw ?_); (case hw => exact sw wQ)) | with_reducible intro _)
  all_goals first | omega | (simp_all [D.closed, D.er, D.cL, D.erL, hck, hek]; done) | (simp_all [D.closed, D.er, D.cL, D.erL, hck, hek] <;> omega)
theorem good_dec (i : Iv) (h : useI i = true) : decide (i.1 < 0) = false ∧ decide (i.1 > i.2) = false ∧ decide (i.2 > 1000000) = false := by
 unfold useI at h
 have := of_decide_eq_true h
 simp; omega
def ivk (u : Use) (i : Nat) : Iv := if i = 0 then u.km else if i = 1 then u.cy else u.ld
theorem ivk_get (u : Use) {i : Nat} (h : i < 3) : [ivD u.km, ivD u.cy, ivD u.ld].getD i .u0 = ivD (ivk u i) := by
 have : i = 0 ∨ i = 1 ∨ i = 2 := by omega
 rcases this with rfl | rfl | rfl <;> rfl
theorem good_k (u : Use) : u.good = (useI (ivk u 0) && useI (ivk u 1) && useI (ivk u 2)) := rfl
theorem useI_bad {i : Iv} (h : useI i = false) : i.1 < 0 ∨ i.1 > i.2 ∨ i.2 > 1000000 := by
 unfold useI at h
 have := of_decide_eq_false h
 omega
set_option maxHeartbeats 1000000 in
theorem damage_p (f : F) (u : Use) : Pur M 17 [f.d, useD u] (ivD (damageF f u)) := by
 refine k17.ok (C := C17) rfl rfl ?_
 rw [i17]
 unfold c17
 have c1 := valid_p f
 have hck := zAh f.kids
 have hek := erL_F f.kids
 have hrk := fun β τ => rnL_F β τ f.kids
 rw [F.d_eq] at c1 ⊢
 have wQ := And.intro @hck @hek; repeat' (first | with_reducible (apply swq; constructor) | simp only [go_sem, seval, P17, q17] | ((with_reducible apply s_bsl); (case he | hl | hc => exact sd wQ)) | (with_reducible first | (apply cdA; constructor) | (apply gdA; constructor)) | ((with_reducible refine And.intro ?hw ?_); (case hw => exact sw wQ)) | with_reducible intro _)
 refine zD0 [3, 2, 4, 7, 8, 9] 3 0 (Nat.zero_le 3) (Nat.le_refl 0) (fun i : Nat => ⟨[.u0, .u0, .ptr 0 0, .ptr 1 0, .ptr 2 0, .u0, .u0, .slice [ivD u.km, ivD u.cy, ivD u.ld] .full, .int .i64 3, .int .i64 i, .u0, .u0, .u0], [],
  ⟨[.cells f.cells, .cells [.int .i64 u.km.1, .int .i64 u.km.2, .int .i64 u.cy.1, .int .i64 u.cy.2, .int .i64 u.ld.1, .int .i64 u.ld.2], .cells [.int .i64 0, .int .i64 0]], []⟩⟩) (fun i => i ≤ 3 ∧ ∀ j, j < i → useI (ivk u j) = true) (fun i => 3 - i) 0 ⟨by omega, fun j h => by omega⟩ ?_ ?_
 ·simp [keepE, St.keep, St.keepG, St.gc, Hp.cut, D.rn, D.rnL, Blk.rnL, Blk.rn, Tv.rnL, Tv.rn, cutF, Own.rn, hrk]
 ·rintro i ⟨hi, hb⟩
  by_cases hi3 : i < 3
  ·have hg := ivk_get u hi3
   have hd : decide ((i : Int) < 3) = true := by simp; omega
   have hlen : [ivD u.km, ivD u.cy, ivD u.ld].length = 3 := rfl
   cases hu : useI (ivk u i)
   ·have hgd : u.good = false := by
     rw [good_k]
     have : i = 0 ∨ i = 1 ∨ i = 2 := by omega
     rcases this with rfl | rfl | rfl <;> simp [hu]
    have hbad := useI_bad hu
    have hD : damageF f u = (0, 0) := by simp [damageF, hgd]
    rw [hD]
    generalize ivk u i = v at *
    generalize [ivD u.km, ivD u.cy, ivD u.ld] = W at *
    by_cases g1 : v.1 < 0
    ·have t1 : decide (v.1 < 0) = true := by simp [g1]
     have wQ := And.intro @hg @hlen; repeat' (first | with_reducible (apply swq; constructor) | simp only [go_sem, seval, P17, q17, hd, hg, hlen, t1] | simp (disch := omega) only [w64, w32, wu8, wu16, wu32, wu64] | ((with_reducible apply s_bsl); (case he | hl | hc => exact sd wQ)) | (with_reducible first | (apply cdA; constructor) | (apply gdA; constructor)) | ((with_reducible refine And.intro ?hw ?_); (case hw => exact sw wQ)) | with_reducible intro _)
     all_goals try (exfalso; omega)
     all_goals simp [D.closed, D.er, setL, RcS]
    ·have t1 : decide (v.1 < 0) = false := by simp [g1]
     by_cases g2 : v.1 > v.2
     ·have t2 : decide (v.1 > v.2) = true := by simp [g2]
      have wQ := And.intro @hg @hlen; repeat' (first | with_reducible (apply swq; constructor) | simp only [go_sem, seval, P17, q17, hd, hg, hlen, t1, t2] | simp (disch := omega) only [w64, w32, wu8, wu16, wu32, wu64] | ((with_reducible apply s_bsl); (case he | hl | hc => exact sd wQ)) | (with_reducible first | (apply cdA; constructor) | (apply gdA; constructor)) | ((with_reducible refine And.intro ?hw ?_); (case hw => exact sw wQ)) | with_reducible intro _)
      all_goals try (exfalso; omega)
      all_goals simp [D.closed, D.er, setL, RcS]
     ·have t2 : decide (v.1 > v.2) = false := by simp; omega
      have t3 : decide (v.2 > 1000000) = true := by simp; omega
      have wQ := And.intro @hg @hlen; repeat' (first | with_reducible (apply swq; constructor) | simp only [go_sem, seval, P17, q17, hd, hg, hlen, t1, t2, t3] | simp (disch := omega) only [w64, w32, wu8, wu16, wu32, wu64] | ((with_reducible apply s_bsl); (case he | hl | hc => exact sd wQ)) | (with_reducible first | (apply cdA; constructor) | (apply gdA; constructor)) | ((with_reducible refine And.intro ?hw ?_); (case hw => exact sw wQ)) | with_reducible intro _)
      all_goals try (exfalso; omega)
      all_goals simp [D.closed, D.er, setL, RcS]
   ·obtain ⟨t1, t2, t3⟩ := good_dec _ hu
    generalize hvi : ivk u i = v at *
    generalize hW : [ivD u.km, ivD u.cy, ivD u.ld] = W at *
    have wQ := And.intro @hg @hlen; repeat' (first | with_reducible (apply swq; constructor) | simp only [go_sem, seval, P17, q17, hd, hg, hlen, t1, t2, t3] | simp (disch := omega) only [w64, w32, wu8, wu16, wu32, wu64] | ((with_reducible apply s_bsl); (case he | hl | hc => exact sd wQ)) | (with_reducible first | (apply cdA; constructor) | (apply gdA; constructor)) | ((with_reducible refine And.intro ?hw ?_); (case hw => exact sw wQ)) | with_reducible intro _)
    all_goals try (exfalso; omega)
    refine ⟨i + 1, ⟨by omega, fun j h => ?_⟩, by omega, ?_⟩
    ·by_cases e : j = i
     ·subst e; rw [hvi]; exact hu
     ·exact hb j (by omega)
    ·subst hW
     simp [keepE, St.keep, St.keepG, St.gc, Hp.cut, D.rn, D.rnL, Blk.rnL, Blk.rn, Tv.rnL, Tv.rn, cutF, Own.rn, hrk]
  ·obtain rfl : i = 3 := by omega
   have hgd : u.good = true := by rw [good_k, hb 0 (by omega), hb 1 (by omega), hb 2 (by omega)]; rfl
   have hd : decide (((3 : Nat) : Int) < 3) = false := rfl
   unfold damageF
   rw [hgd]
   cases hv : f.valid
   ·rw [hv] at c1
    simp only [Bool.false_and, Bool.false_eq_true, if_false]
    have wQ := And.intro @hck @hek; repeat' (first | with_reducible (apply swq; constructor) | simp only [go_sem, seval, P17, q17, hd] | ((with_reducible refine zAb (c1) ?he ?hc ?_); (case he | hc => exact sc wQ)) | ((with_reducible apply s_bsl); (case he | hl | hc => exact sd wQ)) | (with_reducible first | (apply cdA; constructor) | (apply gdA; constructor)) | ((with_reducible refine And.intro ?hw ?_); (case hw => exact sw wQ)) | with_reducible intro _)
    all_goals first | omega | (simp_all [D.closed, D.er, D.cL, D.erL, hck, hek]; done) | (simp_all [D.closed, D.er, D.cL, D.erL, hck, hek] <;> omega)
   ·rw [hv] at c1
    simp only [Bool.and_self, if_true]
    have c2 := run36_p u (good_ok hgd) f.nodes f (Nat.le_refl _) (valid_well hv)
    rw [F.d_eq] at c2
    generalize span u f = v at *
    have wQ := And.intro @hck @hek; repeat' (first | with_reducible (apply swq; constructor) | simp only [go_sem, seval, P17, q17, hd, maxW] | ((with_reducible refine zAb (c1) ?he ?hc ?_); (case he | hc => exact sc wQ)) | ((with_reducible refine zAb (c2) ?he ?hc ?_); (case he | hc => exact sc wQ)) | ((with_reducible apply s_bsl); (case he | hl | hc => exact sd wQ)) | (with_reducible first | (apply cdA; constructor) | (apply gdA; constructor)) | ((with_reducible refine And.intro ?hw ?_); (case hw => exact sw wQ)) | with_reducible intro _)
    all_goals first | omega | (simp_all [D.closed, D.er, D.cL, D.erL, hck, hek]; done) | (simp_all [D.closed, D.er, D.cL, D.erL, hck, hek] <;> omega)
end Go.Proofs.YtkjnhkoipgdfeaaDoor
end
section
set_option maxRecDepth 100000
set_option linter.unusedSimpArgs false
set_option linter.unusedVariables false
namespace Go.Proofs.YtkjnhkoipgdfeaaDoor
open Go GoV Go.RowKit
theorem index_p (s : Tx) (c : UInt8) : Pur M 55 [.str s, .int .u8 c.toNat] (.int .i64 (Lib.indexByte s c)) := by
 refine pur_ext (vs := [.string ⟨s.toArray⟩, .int .u8 c.toNat]) (v := .int .i64 (Lib.indexByte s c)) ⟨Tryd.f55, Tryd.func55, rfl, rfl⟩ (fun w I xs h => ?_) (fun w I => ?_) (fun w hA => ?_)
 ·obtain ⟨x, xs', rfl, g1, g2⟩ := h.inv
  obtain ⟨y, ys', rfl, g3, g4⟩ := g2.inv
  simp only [Rel] at g1 g3
  rw [g4.inv_nil, g1, g3]
 ·simp [Rel]
 ·refine (Tryd.strings_IndexByte ⟨s.toArray⟩ c.toNat w).mono fun e w' hh => ?_
  obtain ⟨rfl, rfl⟩ := hh
  refine ⟨?_, Below.refl _ _⟩
  have : ((c.toNat : Int).toNat).toUInt8 = c := by simp
  rw [this]
def cls0 (c : Nat) : Int :=
 if (97 ≤ c ∧ c ≤ 122) ∨ (65 ≤ c ∧ c ≤ 90) then 3 else if 48 ≤ c ∧ c ≤ 57 then 4 else if Lib.indexByte [32, 9, 10] (UInt8.ofNat c) ≥ 0 then 1
 else if Lib.indexByte [59, 44, 46, 58, 40, 41, 123, 125, 91, 93, 61, 60, 62, 47, 43, 45, 42] (UInt8.ofNat c) ≥ 0 then 6 else 0
def tblN (i : Nat) : List D := (List.range 256).map fun c => .int .u8 (if c < i then cls0 c else 0)
def tbl : List D := (List.range 256).map fun c => .int .u8 (if c = 35 then 2 else if c = 95 then 5 else if c = 34 then 7 else cls0 c)
theorem zFr (i : Nat) : (tblN i).length = 256 := by simp [tblN]
theorem map_const {α : Type} (v : D) : ∀ l : List α, l.map (fun _ => v) = List.replicate l.length v
 | [] => rfl
 | x :: l => by rw [List.map_cons, map_const v l]; rfl
theorem tblN_zero : zl256 = tblN 0 := by
 unfold zl256 tblN
 have : (fun c : Nat => D.int .u8 (if c < 0 then cls0 c else 0)) = fun _ => D.int .u8 0 := by funext c; simp
 rw [this, map_const, List.length_range]
theorem zl_len : zl256.length = 256 := by rw [tblN_zero, zFr]
theorem tblN_set {i : Nat} (h : i < 256) {v : Int} (hv : v = cls0 i) : setL (tblN i) i [.int .u8 v] = tblN (i + 1) := by
 subst hv
 simp only [setL]
 apply List.ext_getElem?
 intro j
 rw [List.getElem?_set]
 by_cases hj : j < 256
 ·by_cases e : i = j
  ·subst e
   simp [tblN, h]
  ·rw [if_neg e]
   simp only [tblN, List.getElem?_map, List.getElem?_range hj, Option.map_some]
   have : (j < i) ↔ (j < i + 1) := by omega
   simp [this]
 ·have h1 : ∀ k, (tblN k)[j]? = none := fun k => List.getElem?_eq_none (by rw [zFr]; omega)
  rw [h1, h1]
  rw [if_neg (by omega)]
theorem tblN_skip {i : Nat} (h : i < 256) (hv : cls0 i = 0) : tblN i = tblN (i + 1) := by
 rw [← tblN_set h rfl, hv]
 simp only [setL]
 apply List.ext_getElem?
 intro j
 rw [List.getElem?_set]
 by_cases e : i = j
 ·subst e; simp [tblN, h]
 ·rw [if_neg e]
theorem tbl_eq : setL (setL (setL (tblN 256) 35 [.int .u8 2]) 95 [.int .u8 5]) 34 [.int .u8 7] = tbl := by
 simp only [setL]
 apply List.ext_getElem?
 intro j
 simp only [List.getElem?_set, List.length_set, zFr]
 by_cases hj : j < 256
 ·simp only [tblN, tbl, List.getElem?_map, List.getElem?_range hj, Option.map_some, hj, if_true]
  by_cases h1 : j = 34
  ·subst h1; simp
  ·by_cases h2 : j = 95
   ·subst h2; simp
   ·by_cases h3 : j = 35
    ·subst h3; simp
    ·simp [h1, h2, h3, show ¬ 34 = j by omega, show ¬ 95 = j by omega, show ¬ 35 = j by omega]
 ·have h1 : (tblN 256)[j]? = none := List.getElem?_eq_none (by rw [zFr]; omega)
  have h2 : tbl[j]? = none := List.getElem?_eq_none (by simp [tbl]; omega)
  rw [h1, h2]
  simp [show ¬ 34 = j by omega, show ¬ 95 = j by omega, show ¬ 35 = j by omega]
theorem u8n (n : Nat) (h : n < 256) : ((UInt8.ofNat n).toNat : Int) = n := by simp [UInt8.toNat_ofNat']; omega
theorem cls0_eq (i : Nat) : cls0 i = if (97 ≤ i ∧ i ≤ 122) ∨ (65 ≤ i ∧ i ≤ 90) then 3 else if 48 ≤ i ∧ i ≤ 57 then 4 else if Lib.indexByte [32, 9, 10] (UInt8.ofNat i) ≥ 0 then 1
        else if Lib.indexByte [59, 44, 46, 58, 40, 41, 123, 125, 91, 93, 61, 60, 62, 47, 43, 45, 42] (UInt8.ofNat i) ≥ 0 then 6 else 0 := rfl
theorem tbl_get {c : Nat} (h : c < 256) : tbl.getD c .u0 = .int .u8 (if c = 35 then 2 else if c = 95 then 5 else if c = 34 then 7 else cls0 c) := by simp [tbl, List.getD, h]
theorem tbl_len : tbl.length = 256 := by simp [tbl]
theorem setL_app : ∀ (ds : List D) (cs : List D) (off : Nat), off + ds.length ≤ cs.length → setL cs off ds = cs.take off ++ ds ++ cs.drop (off + ds.length)
 | [], cs, off, h => by simp [setL]
 | d :: ds, cs, off, h => by
   simp only [List.length_cons] at h
   rw [setL, setL_app ds (cs.set off d) (off + 1) (by simp; omega)]
   have e1 : (cs.set off d).take (off + 1) = cs.take off ++ [d] := by
    rw [List.take_set, List.take_succ_eq_append_getElem (by omega), List.set_append_right _ _ (by simp; omega)]
    simp [Nat.min_eq_left (show off ≤ cs.length by omega)]
   have e2 : (cs.set off d).drop (off + 1 + ds.length) = cs.drop (off + (ds.length + 1)) := by
    rw [List.drop_set_of_lt (by omega)]; congr 1; omega
   rw [e1, e2]; simp
theorem setL_full {cs ds : List D} (h : ds.length = cs.length) : setL cs 0 ds = ds := by
 rw [setL_app ds cs 0 (by omega)]; simp [h]
theorem tbl_cl : D.cL tbl = true ∧ D.erL tbl = tbl := by
 unfold tbl
 have : ∀ (f : Nat → Int) (l : List Nat), D.cL (l.map fun c => D.int .u8 (f c)) = true ∧ D.erL (l.map fun c => D.int .u8 (f c)) = l.map fun c => D.int .u8 (f c) := by
  intro f l
  induction l with
  | nil => exact ⟨rfl, rfl⟩
  | cons x l ih => simp only [List.map_cons, D.cL, D.erL, D.closed, D.er, ih.1, ih.2]; exact ⟨rfl, trivial⟩
 exact this _ _
attribute [irreducible] tblN tbl cls0
set_option maxHeartbeats 1000000 in
theorem classes_p : Pur M 47 [] (.agg tbl) := by
 refine k47.ok (C := C47) rfl rfl ?_
 rw [i47]
 unfold c47
 have hz := zl_len
 have ht := tbl_eq
 simp only [setL] at ht
 have wQ := tw; repeat' (first | with_reducible (apply swq; constructor) | simp only [go_sem, seval, P47, q47] | (with_reducible first | (apply cdA; constructor) | (apply gdA; constructor)) | ((with_reducible refine And.intro ?hw ?_); (case hw => exact sw wQ)) | with_reducible intro _)
 refine zB6 [0, 1, 4] (fun i : Nat => ⟨[.ptr 0 0, .ptr 1 0, .u0, .u0, .int .i64 i, .u0, .u0, .u0, .u0, .u0], [], ⟨[.cells zl256, .cells (tblN i)], []⟩⟩) (fun i => i ≤ 256) (fun i => 256 - i) 0 (by omega) ?_ ?_
 ·simp [keepE, St.keep, tblN_zero]
 ·intro i g1
  have hl := zFr i
  by_cases hi : i < 256
  ·have hn := u8n i hi
   have x1 := index_p [32, 9, 10] (UInt8.ofNat i)
   have x2 := index_p [59, 44, 46, 58, 40, 41, 123, 125, 91, 93, 61, 60, 62, 47, 43, 45, 42] (UInt8.ofNat i)
   rw [hn] at x1 x2
   have hset := fun v => tblN_set (v := v) hi
   have hskip := tblN_skip hi
   have hc := cls0_eq i
   generalize Lib.indexByte [32, 9, 10] (UInt8.ofNat i) = y1 at *
   generalize Lib.indexByte [59, 44, 46, 58, 40, 41, 123, 125, 91, 93, 61, 60, 62, 47, 43, 45, 42] (UInt8.ofNat i) = y2 at *
   generalize cls0 i = ci at *
   have hcase : (i < 48) ∨ (48 ≤ i ∧ i < 58) ∨ (58 ≤ i ∧ i < 65) ∨ (65 ≤ i ∧ i < 91) ∨ (91 ≤ i ∧ i < 97) ∨ (97 ≤ i ∧ i < 123) ∨ (123 ≤ i) := by omega
   rcases hcase with hq | hq | hq | hq | hq | hq | hq
   ·have t0 : decide (97 ≤ (i : Int)) = false := by simp; omega
    have t1 : decide ((i : Int) ≤ 122) = true := by simp; omega
    have t2 : decide (65 ≤ (i : Int)) = false := by simp; omega
    have t3 : decide ((i : Int) ≤ 90) = true := by simp; omega
    have t4 : decide (48 ≤ (i : Int)) = false := by simp; omega
    have t5 : decide ((i : Int) ≤ 57) = true := by simp; omega
    have wQ := tw; repeat' (first | with_reducible (apply swq; constructor) | simp only [go_sem, seval, P47, q47, hl, t0, t1, t2, t3, t4, t5] | simp (disch := omega) only [w64, w32, wu8, wu16, wu32, wu64] | ((with_reducible refine zAb (x1) ?he ?hc ?_); (case he | hc => exact sc wQ)) | ((with_reducible refine zAb (x2) ?he ?hc ?_); (case he | hc => exact sc wQ)) | (with_reducible first | (apply cdA; constructor) | (apply gdA; constructor)) | ((with_reducible refine And.intro ?hw ?_); (case hw => exact sw wQ)) | with_reducible intro _)
    all_goals try omega
    all_goals refine ⟨i + 1, by omega, by omega, ?_⟩
    all_goals simp [St.keep, keepE]
    all_goals first
     | exact hset _ (by rw [hc]; repeat' split <;> first | rfl | omega)
     | exact hskip (by rw [hc]; repeat' split <;> first | rfl | omega)
   ·have t0 : decide (97 ≤ (i : Int)) = false := by simp; omega
    have t1 : decide ((i : Int) ≤ 122) = true := by simp; omega
    have t2 : decide (65 ≤ (i : Int)) = false := by simp; omega
    have t3 : decide ((i : Int) ≤ 90) = true := by simp; omega
    have t4 : decide (48 ≤ (i : Int)) = true := by simp; omega
    have t5 : decide ((i : Int) ≤ 57) = true := by simp; omega
    have wQ := tw; repeat' (first | with_reducible (apply swq; constructor) | simp only [go_sem, seval, P47, q47, hl, t0, t1, t2, t3, t4, t5] | simp (disch := omega) only [w64, w32, wu8, wu16, wu32, wu64] | ((with_reducible refine zAb (x1) ?he ?hc ?_); (case he | hc => exact sc wQ)) | ((with_reducible refine zAb (x2) ?he ?hc ?_); (case he | hc => exact sc wQ)) | (with_reducible first | (apply cdA; constructor) | (apply gdA; constructor)) | ((with_reducible refine And.intro ?hw ?_); (case hw => exact sw wQ)) | with_reducible intro _)
    all_goals try omega
    all_goals refine ⟨i + 1, by omega, by omega, ?_⟩
    all_goals simp [St.keep, keepE]
    all_goals first
     | exact hset _ (by rw [hc]; repeat' split <;> first | rfl | omega)
     | exact hskip (by rw [hc]; repeat' split <;> first | rfl | omega)
   ·have t0 : decide (97 ≤ (i : Int)) = false := by simp; omega
    have t1 : decide ((i : Int) ≤ 122) = true := by simp; omega
    have t2 : decide (65 ≤ (i : Int)) = false := by simp; omega
    have t3 : decide ((i : Int) ≤ 90) = true := by simp; omega
    have t4 : decide (48 ≤ (i : Int)) = true := by simp; omega
    have t5 : decide ((i : Int) ≤ 57) = false := by simp; omega
    have wQ := tw; repeat' (first | with_reducible (apply swq; constructor) | simp only [go_sem, seval, P47, q47, hl, t0, t1, t2, t3, t4, t5] | simp (disch := omega) only [w64, w32, wu8, wu16, wu32, wu64] | ((with_reducible refine zAb (x1) ?he ?hc ?_); (case he | hc => exact sc wQ)) | ((with_reducible refine zAb (x2) ?he ?hc ?_); (case he | hc => exact sc wQ)) | (with_reducible first | (apply cdA; constructor) | (apply gdA; constructor)) | ((with_reducible refine And.intro ?hw ?_); (case hw => exact sw wQ)) | with_reducible intro _)
    all_goals try omega
    all_goals refine ⟨i + 1, by omega, by omega, ?_⟩
    all_goals simp [St.keep, keepE]
    all_goals first
     | exact hset _ (by rw [hc]; repeat' split <;> first | rfl | omega)
     | exact hskip (by rw [hc]; repeat' split <;> first | rfl | omega)
   ·have t0 : decide (97 ≤ (i : Int)) = false := by simp; omega
    have t1 : decide ((i : Int) ≤ 122) = true := by simp; omega
    have t2 : decide (65 ≤ (i : Int)) = true := by simp; omega
    have t3 : decide ((i : Int) ≤ 90) = true := by simp; omega
    have t4 : decide (48 ≤ (i : Int)) = true := by simp; omega
    have t5 : decide ((i : Int) ≤ 57) = false := by simp; omega
    have wQ := tw; repeat' (first | with_reducible (apply swq; constructor) | simp only [go_sem, seval, P47, q47, hl, t0, t1, t2, t3, t4, t5] | simp (disch := omega) only [w64, w32, wu8, wu16, wu32, wu64] | ((with_reducible refine zAb (x1) ?he ?hc ?_); (case he | hc => exact sc wQ)) | ((with_reducible refine zAb (x2) ?he ?hc ?_); (case he | hc => exact sc wQ)) | (with_reducible first | (apply cdA; constructor) | (apply gdA; constructor)) | ((with_reducible refine And.intro ?hw ?_); (case hw => exact sw wQ)) | with_reducible intro _)
    all_goals try omega
    all_goals refine ⟨i + 1, by omega, by omega, ?_⟩
    all_goals simp [St.keep, keepE]
    all_goals first
     | exact hset _ (by rw [hc]; repeat' split <;> first | rfl | omega)
     | exact hskip (by rw [hc]; repeat' split <;> first | rfl | omega)
   ·have t0 : decide (97 ≤ (i : Int)) = false := by simp; omega
    have t1 : decide ((i : Int) ≤ 122) = true := by simp; omega
    have t2 : decide (65 ≤ (i : Int)) = true := by simp; omega
    have t3 : decide ((i : Int) ≤ 90) = false := by simp; omega
    have t4 : decide (48 ≤ (i : Int)) = true := by simp; omega
    have t5 : decide ((i : Int) ≤ 57) = false := by simp; omega
    have wQ := tw; repeat' (first | with_reducible (apply swq; constructor) | simp only [go_sem, seval, P47, q47, hl, t0, t1, t2, t3, t4, t5] | simp (disch := omega) only [w64, w32, wu8, wu16, wu32, wu64] | ((with_reducible refine zAb (x1) ?he ?hc ?_); (case he | hc => exact sc wQ)) | ((with_reducible refine zAb (x2) ?he ?hc ?_); (case he | hc => exact sc wQ)) | (with_reducible first | (apply cdA; constructor) | (apply gdA; constructor)) | ((with_reducible refine And.intro ?hw ?_); (case hw => exact sw wQ)) | with_reducible intro _)
    all_goals try omega
    all_goals refine ⟨i + 1, by omega, by omega, ?_⟩
    all_goals simp [St.keep, keepE]
    all_goals first
     | exact hset _ (by rw [hc]; repeat' split <;> first | rfl | omega)
     | exact hskip (by rw [hc]; repeat' split <;> first | rfl | omega)
   ·have t0 : decide (97 ≤ (i : Int)) = true := by simp; omega
    have t1 : decide ((i : Int) ≤ 122) = true := by simp; omega
    have t2 : decide (65 ≤ (i : Int)) = true := by simp; omega
    have t3 : decide ((i : Int) ≤ 90) = false := by simp; omega
    have t4 : decide (48 ≤ (i : Int)) = true := by simp; omega
    have t5 : decide ((i : Int) ≤ 57) = false := by simp; omega
    have wQ := tw; repeat' (first | with_reducible (apply swq; constructor) | simp only [go_sem, seval, P47, q47, hl, t0, t1, t2, t3, t4, t5] | simp (disch := omega) only [w64, w32, wu8, wu16, wu32, wu64] | ((with_reducible refine zAb (x1) ?he ?hc ?_); (case he | hc => exact sc wQ)) | ((with_reducible refine zAb (x2) ?he ?hc ?_); (case he | hc => exact sc wQ)) | (with_reducible first | (apply cdA; constructor) | (apply gdA; constructor)) | ((with_reducible refine And.intro ?hw ?_); (case hw => exact sw wQ)) | with_reducible intro _)
    all_goals try omega
    all_goals refine ⟨i + 1, by omega, by omega, ?_⟩
    all_goals simp [St.keep, keepE]
    all_goals first
     | exact hset _ (by rw [hc]; repeat' split <;> first | rfl | omega)
     | exact hskip (by rw [hc]; repeat' split <;> first | rfl | omega)
   ·have t0 : decide (97 ≤ (i : Int)) = true := by simp; omega
    have t1 : decide ((i : Int) ≤ 122) = false := by simp; omega
    have t2 : decide (65 ≤ (i : Int)) = true := by simp; omega
    have t3 : decide ((i : Int) ≤ 90) = false := by simp; omega
    have t4 : decide (48 ≤ (i : Int)) = true := by simp; omega
    have t5 : decide ((i : Int) ≤ 57) = false := by simp; omega
    have wQ := tw; repeat' (first | with_reducible (apply swq; constructor) | simp only [go_sem, seval, P47, q47, hl, t0, t1, t2, t3, t4, t5] | simp (disch := omega) only [w64, w32, wu8, wu16, wu32, wu64] | ((with_reducible refine zAb (x1) ?he ?hc ?_); (case he | hc => exact sc wQ)) | ((with_reducible refine zAb (x2) ?he ?hc ?_); (case he | hc => exact sc wQ)) | (with_reducible first | (apply cdA; constructor) | (apply gdA; constructor)) | ((with_reducible refine And.intro ?hw ?_); (case hw => exact sw wQ)) | with_reducible intro _)
    all_goals try omega
    all_goals refine ⟨i + 1, by omega, by omega, ?_⟩
    all_goals simp [St.keep, keepE]
    all_goals first
     | exact hset _ (by rw [hc]; repeat' split <;> first | rfl | omega)
     | exact hskip (by rw [hc]; repeat' split <;> first | rfl | omega)
  ·obtain rfl : i = 256 := by omega
   generalize tblN 256 = T1 at *
   have hk := tbl_len
   have htk : tbl.take 256 = tbl := List.take_of_length_le (by omega)
   have hsf : setL zl256 0 tbl = tbl := setL_full (by omega)
   have hmin : min 256 tbl.length = 256 := by omega
   have hcl := tbl_cl
   have wQ := And.intro @hl (And.intro @List.length_set.{0} @hcl); repeat' (first | with_reducible (apply swq; constructor) | simp only [go_sem, seval, P47, q47, hl, List.length_set, hz, ht, htk, hsf, hmin, hk] | simp (disch := omega) only [w64, w32, wu8, wu16, wu32, wu64] | (with_reducible first | (apply cdA; constructor) | (apply gdA; constructor)) | ((with_reducible refine And.intro ?hw ?_); (case hw => exact sw wQ)) | with_reducible intro _)
   all_goals first | omega | skip
   all_goals simp [D.closed, D.er, D.cL, D.erL, hl, hcl.1, hcl.2]
end Go.Proofs.YtkjnhkoipgdfeaaDoor
end
section
set_option maxRecDepth 100000
set_option linter.unusedSimpArgs false
set_option linter.unusedVariables false
namespace Go.Proofs.YtkjnhkoipgdfeaaDoor
open Go GoV Go.RowKit
def cls (c : UInt8) : Int := if isLet c then 3 else if isDig c then 4 else if zCb c then 1 else if c = 35 then 2 else if c = 34 then 7 else if c = 95 then 5 else if isSym c then 6 else 0
def clsB (c : UInt8) : Int := if c.toNat = 35 then 2 else if c.toNat = 95 then 5 else if c.toNat = 34 then 7 else cls0 c.toNat
theorem clsB_get (c : UInt8) : tbl.getD c.toNat .u0 = .int .u8 (clsB c) := tbl_get (UInt8.toNat_lt c)
theorem clsB_eq (c : UInt8) : clsB c = cls c := by
 have key : ∀ n : Fin 256, (if (UInt8.ofNat n.val).toNat = 35 then 2 else if (UInt8.ofNat n.val).toNat = 95 then 5 else if (UInt8.ofNat n.val).toNat = 34 then 7 else
  (if (97 ≤ (UInt8.ofNat n.val).toNat ∧ (UInt8.ofNat n.val).toNat ≤ 122) ∨ (65 ≤ (UInt8.ofNat n.val).toNat ∧ (UInt8.ofNat n.val).toNat ≤ 90) then 3 else if 48 ≤ (UInt8.ofNat n.val).toNat ∧ (UInt8.ofNat n.val).toNat ≤ 57 then 4 else if Lib.indexByte [32, 9, 10] (UInt8.ofNat (UInt8.ofNat n.val).toNat) ≥ 0 then 1
   else if Lib.indexByte [59, 44, 46, 58, 40, 41, 123, 125, 91, 93, 61, 60, 62, 47, 43, 45, 42] (UInt8.ofNat (UInt8.ofNat n.val).toNat) ≥ 0 then 6 else 0 : Int)) = cls (UInt8.ofNat n.val) := by decide +kernel
 have h := key ⟨c.toNat, UInt8.toNat_lt c⟩
 have e : UInt8.ofNat c.toNat = c := by simp
 simp only [e] at h
 unfold clsB
 rw [cls0_eq, e]
 exact h
def clsAt (t : Tx) (i : Nat) : Int := if i < t.length then cls (t.getD i 0) else 0
theorem o_ixaI {P : Mod} {r : List RO} {K : St → Prop} {s : St} {dst : Dst} {len n : Nat} {k : IntKind} {a : Int} {cs : List D} : OpS P (.ixaA len n) [.ip cs, .int k a] dst r K s = (0 ≤ a ∧ a < len ∧ opsWp P r K (s.put dst (.ip (cs.drop (a.toNat * n))))) := by simp [OpS, OcWp, zAa, isPan, opWp]
theorem drop_getD {L : List D} {n : Nat} {v : D} (h : n < L.length) (hv : L.getD n .u0 = v) : L.drop n = v :: L.drop (n + 1) := by
 rw [List.drop_eq_getElem_cons h]
 congr 1
 rw [← hv]; simp [List.getD, h]
theorem at_p (t : Tx) (i : Nat) (ht : t.length ≤ 1000000) (hi : i ≤ 1000000) : Pur M 48 [.int .i64 i, .ip [.str t], .ip tbl] (.int .u8 (clsAt t i)) := by
 refine k48.ok (C := C48) rfl rfl ?_
 rw [i48]
 unfold c48
 have hk := tbl_len
 have hcl := tbl_cl
 unfold clsAt
 by_cases h : i < t.length
 ·rw [if_pos h]
  have hg := clsB_get (t.getD i 0)
  rw [clsB_eq] at hg
  have hlt : (t.getD i 0).toNat < 256 := UInt8.toNat_lt _
  have hg2 : tbl.drop (t.getD i 0).toNat = .int .u8 (cls (t.getD i 0)) :: tbl.drop ((t.getD i 0).toNat + 1) := by
   exact drop_getD (by omega) hg
  generalize cls (t.getD i 0) = cl at *
  have hd : decide ((i : Int) ≥ t.length) = false := by simp; omega
  have wQ := And.intro @hk (And.intro @hlt @hg2); repeat' (first | with_reducible (apply swq; constructor) | simp only [go_sem, seval, P48, q48, Nat.mul_one, hk, hg, hd, o_ixaI, hg2] | simp (disch := omega) only [w64, w32, wu8, wu16, wu32, wu64] | with_reducible (apply cdA; constructor) | ((with_reducible refine And.intro ?hw ?_); (case hw => exact sw wQ)) | with_reducible intro _)
  all_goals try omega
  all_goals trace_state
  all_goals simp [D.closed, D.er]
 ·rw [if_neg h]
  have hd : decide ((i : Int) ≥ t.length) = true := by simp; omega
  have wQ := @hk; repeat' (first | with_reducible (apply swq; constructor) | simp only [go_sem, seval, P48, q48, hd] | simp (disch := omega) only [w64, w32, wu8, wu16, wu32, wu64] | with_reducible (apply cdA; constructor) | ((with_reducible refine And.intro ?hw ?_); (case hw => exact sw wQ)) | with_reducible intro _)
  all_goals try omega
  all_goals simp [D.closed, D.er]
abbrev atD (t : Tx) : D := .fn (.func 48) [] [.ip [.str t], .ip tbl]
abbrev toksD (t : Tx) : D := .fn (.func 49) [] [.ip [.str t], .ip [atD t]]
theorem tbl_fz (b : Nat) (cs : List D) : tbl.map (D.fz b cs) = tbl := by
 unfold tbl
 rw [List.map_map]
 rfl
set_option maxHeartbeats 1000000 in
theorem tokens_p (t : Tx) : Pur M 39 [.str t] (toksD t) := by
 refine k39.ow (C := C39) rfl rfl ?_
 rw [i39]
 unfold c39
 have c1 := classes_p
 have hk := tbl_len
 have htk : tbl.take 256 = tbl := List.take_of_length_le (by omega)
 have hz := zl_len
 have hsf : setL zl256 0 tbl = tbl := setL_full (by omega)
 have hmin : min 256 tbl.length = 256 := by omega
 obtain ⟨hcl, her⟩ := tbl_cl
 have hfz := tbl_fz
 have wQ := And.intro @hk (And.intro @hz (And.intro @htk (And.intro @hsf (And.intro @hmin (And.intro @hcl @her))))); repeat' (first | with_reducible (apply swq; constructor) | simp only [go_sem, seval, P39, q39, hz, hk, htk, hsf, hmin] | simp (disch := omega) only [w64, w32, wu8, wu16, wu32, wu64] | ((with_reducible refine zAb (c1) ?he ?hc ?_); (case he | hc => exact sc wQ)) | with_reducible (apply cdA; constructor) | ((with_reducible refine And.intro ?hw ?_); (case hw => exact sw wQ)) | with_reducible intro _)
 all_goals try omega
 refine ⟨_, zEs (zFn [2]) (zEs (weak_frz 0 [.str t] (by simp [keepE]) (Nat.zero_le _) (by simp [D.cL, D.closed])) (zEs (weak_frz 1 tbl (by simp [St.frz, Blk.mapD, keepE, hfz]) (Nat.zero_le _) hcl) (weak_frz 2 [.fn (.func 48) [] [.ip [.str t], .ip tbl]] (by simp [St.frz, Blk.mapD, keepE, D.fz, D.fzL, hfz, D.erL, D.er, her]) (Nat.zero_le _) (by simp [D.cL, D.closed, hcl])))), ?_⟩
 simp [St.frz, keepE, D.fz, D.fzL, D.closed, D.er, D.cL, D.erL, hcl, her, hfz]
end Go.Proofs.YtkjnhkoipgdfeaaDoor
end
section
set_option maxRecDepth 100000
set_option linter.unusedSimpArgs false
set_option linter.unusedVariables false
namespace Go.Proofs.YtkjnhkoipgdfeaaDoor
open Go GoV Go.RowKit
theorem zFb {p : UInt8 → Bool} (h : ∀ n : Fin 256, p (UInt8.ofNat n.val) = true) (c : UInt8) : p c = true := by
 have := h ⟨c.toNat, UInt8.toNat_lt c⟩
 simpa using this
theorem isWord_cls (c : UInt8) : zA1 c = (decide (cls c = 3) || decide (cls c = 4) || decide (cls c = 5)) := by
 have := zFb (p := fun c => zA1 c == (decide (cls c = 3) || decide (cls c = 4) || decide (cls c = 5))) (by decide +kernel) c
 exact eq_of_beq this
theorem isDig_cls (c : UInt8) : isDig c = decide (cls c = 4) := by
 have := zFb (p := fun c => isDig c == decide (cls c = 4)) (by decide +kernel) c
 exact eq_of_beq this
theorem hash_cls (c : UInt8) : cls c = 2 → c = 35 := by
 have := zFb (p := fun c => !(decide (cls c = 2)) || c == 35) (by decide +kernel) c
 intro h
 simp only [h, decide_true, Bool.not_true, Bool.false_or] at this
 exact eq_of_beq this
theorem tw_get {p : UInt8 → Bool} : ∀ {s : Tx} {j : Nat}, j < spn p s → j < s.length ∧ p (s.getD j 0) = true
 | [], j, h => by simp [spn] at h
 | c :: s, j, h => by
   cases hc : p c
   ·simp [spn, List.takeWhile, hc] at h
   ·cases j with
    | zero => exact ⟨by simp, by simpa using hc⟩
    | succ j =>
      have h' : j < spn p s := by simpa [spn, List.takeWhile, hc] using h
      have := tw_get h'
      exact ⟨by simp; omega, by simpa using this.2⟩
theorem tw_len {p : UInt8 → Bool} : ∀ (s : Tx), spn p s ≤ s.length
 | [] => by simp [spn]
 | c :: s => by
   cases hc : p c
   ·simp [spn, List.takeWhile, hc]
   ·have := tw_len (p := p) s
    simp only [spn] at this
    simp [spn, List.takeWhile, hc]; omega
theorem tw_stop {p : UInt8 → Bool} : ∀ {s : Tx}, spn p s < s.length → p (s.getD (spn p s) 0) = false
 | [], h => by simp [spn] at h
 | c :: s, h => by
   cases hc : p c
   ·simp [spn, List.takeWhile, hc]
   ·have e : spn p (c :: s) = spn p s + 1 := by simp [spn, List.takeWhile, hc]
    rw [e] at h ⊢
    have := tw_stop (p := p) (s := s) (by simp at h; omega)
    simpa using this
theorem getD_drop (t : Tx) (i j : Nat) : (t.drop i).getD j 0 = t.getD (i + j) 0 := by simp [List.getD]
theorem spn_get {p : UInt8 → Bool} {t : Tx} {i j : Nat} (h : j < spn p (t.drop i)) : i + j < t.length ∧ p (t.getD (i + j) 0) = true := by
 have := tw_get h
 rw [getD_drop] at this
 simp only [List.length_drop] at this
 exact ⟨by omega, this.2⟩
theorem spn_len {p : UInt8 → Bool} {t : Tx} {i : Nat} (hi : i ≤ t.length) : i + spn p (t.drop i) ≤ t.length := by
 have := tw_len (p := p) (t.drop i)
 simp only [List.length_drop] at this; omega
theorem spn_stop {p : UInt8 → Bool} {t : Tx} {i : Nat} (h : i + spn p (t.drop i) < t.length) : p (t.getD (i + spn p (t.drop i)) 0) = false := by
 have := tw_stop (p := p) (s := t.drop i) (by simp only [List.length_drop]; omega)
 rwa [getD_drop] at this
theorem zBn {t : Tx} {i : Nat} (h : i < t.length) : t.drop i = t.getD i 0 :: t.drop (i + 1) := by
 rw [List.drop_eq_getElem_cons h]; simp [List.getD, h]
theorem spn_pos {p : UInt8 → Bool} {t : Tx} {i : Nat} (h : i < t.length) (hp : p (t.getD i 0) = true) : 0 < spn p (t.drop i) := by
 rw [zBn h]
 simp only [spn, List.takeWhile_cons, hp, if_true, List.length_cons]; omega
theorem cls_let {c : UInt8} : cls c = 3 → isLet c = true := fun h => by
 have := zFb (p := fun c => !(decide (cls c = 3)) || isLet c) (by decide +kernel) c
 simpa [h] using this
theorem step_let {t : Tx} {i : Nat} (hi : i < t.length) (h : cls (t.getD i 0) = 3) : step (t.drop i) i = (spn zA1 (t.drop i), some ⟨⟨1, (t.drop i).take (spn zA1 (t.drop i)), i⟩, if 24 < spn zA1 (t.drop i) then 7 else 0⟩) := by
 have h1 := cls_let h
 rw [zBn hi]
 simp only [step, h1, if_true]
theorem cls_dig {c : UInt8} : cls c = 4 → isLet c = false ∧ isDig c = true := fun h => by
 have := zFb (p := fun c => !(decide (cls c = 4)) || (!isLet c && isDig c)) (by decide +kernel) c
 simpa [h] using this
theorem step_dig {t : Tx} {i : Nat} (hi : i < t.length) (h : cls (t.getD i 0) = 4) : step (t.drop i) i = (spn isDig (t.drop i), some ⟨⟨2, (t.drop i).take (spn isDig (t.drop i)), i⟩, if 7 < spn isDig (t.drop i) ∨ ((t.drop i).drop (spn isDig (t.drop i))).head?.any zA1 = true then 11 else 0⟩) := by
 have h1 := cls_dig h
 rw [zBn hi]
 simp only [step, h1.1, h1.2, if_true, Bool.false_eq_true, if_false]
theorem cls_blank {c : UInt8} : cls c = 1 → isLet c = false ∧ isDig c = false ∧ zCb c = true := fun h => by
 have := zFb (p := fun c => !(decide (cls c = 1)) || (!isLet c && (!isDig c && zCb c))) (by decide +kernel) c
 simpa [h] using this
theorem step_blank {t : Tx} {i : Nat} (hi : i < t.length) (h : cls (t.getD i 0) = 1) : step (t.drop i) i = (1, none) := by
 have h1 := cls_blank h
 rw [zBn hi]
 simp only [step, h1.1, h1.2.1, h1.2.2, if_true, Bool.false_eq_true, if_false]
theorem step_hash {t : Tx} {i : Nat} (hi : i < t.length) (h : cls (t.getD i 0) = 2) : step (t.drop i) i = (spn (fun d => !(d == 10)) (t.drop i), none) := by
 have h1 := hash_cls _ h
 rw [zBn hi, h1]
 simp [step, isLet, isDig, zCb]
theorem cls_quote {c : UInt8} : cls c = 7 → c = 34 := fun h => by
 have := zFb (p := fun c => !(decide (cls c = 7)) || c == 34) (by decide +kernel) c
 simp only [h, decide_true, Bool.not_true, Bool.false_or] at this
 exact eq_of_beq this
theorem step_quote {t : Tx} {i : Nat} (hi : i < t.length) (h : cls (t.getD i 0) = 7) : step (t.drop i) i = match unq (t.drop (i + 1)) [] 1 with
      | some (u, n) => (n, some ⟨⟨3, u, i⟩, 0⟩)
      | none => (0, some (noErr i)) := by
  have h1 := cls_quote h
  rw [zBn hi, h1]
  simp [step, isLet, isDig, zCb]
  rfl
theorem cls_sym {c : UInt8} : cls c = 6 → isLet c = false ∧ isDig c = false ∧ zCb c = false ∧ (c == 35) = false ∧ (c == 34) = false ∧ isSym c = true := fun h => by
 have := zFb (p := fun c => !(decide (cls c = 6)) || (!isLet c && (!isDig c && (!zCb c && (!(c == 35) && (!(c == 34) && isSym c)))))) (by decide +kernel) c
 simpa [h] using this
theorem step_sym {t : Tx} {i : Nat} (hi : i < t.length) (h : cls (t.getD i 0) = 6) : step (t.drop i) i = (1, some ⟨⟨4, (t.drop i).take 1, i⟩, 0⟩) := by
 obtain ⟨h1, h2, h3, h4, h5, h6⟩ := cls_sym h
 rw [beq_eq_false_iff_ne] at h4 h5
 rw [zBn hi]
 simp only [step, h1, h2, h3, h6, if_true, Bool.false_eq_true, if_false, if_neg h4, if_neg h5, List.take_succ_cons, List.take_zero]
theorem cls_other {c : UInt8} : (cls c = 0 ∨ cls c = 5) → isLet c = false ∧ isDig c = false ∧ zCb c = false ∧ (c == 35) = false ∧ (c == 34) = false ∧ isSym c = false := fun h => by
 have := zFb (p := fun c => !(decide (cls c = 0) || decide (cls c = 5)) || (!isLet c && (!isDig c && (!zCb c && (!(c == 35) && (!(c == 34) && !isSym c)))))) (by decide +kernel) c
 rcases h with h | h <;> simpa [h] using this
theorem zEv {t : Tx} {i : Nat} (hi : i < t.length) (h : cls (t.getD i 0) = 0 ∨ cls (t.getD i 0) = 5) : step (t.drop i) i = (0, some (noErr i)) := by
 obtain ⟨h1, h2, h3, h4, h5, h6⟩ := cls_other h
 rw [beq_eq_false_iff_ne] at h4 h5
 rw [zBn hi]
 simp only [step, h1, h2, h3, h6, if_true, Bool.false_eq_true, if_false, if_neg h4, if_neg h5]
theorem cls_all (c : UInt8) : cls c = 0 ∨ cls c = 1 ∨ cls c = 2 ∨ cls c = 3 ∨ cls c = 4 ∨ cls c = 5 ∨ cls c = 6 ∨ cls c = 7 := by
 unfold cls
 repeat' split
 all_goals simp
theorem unq_len : ∀ (r a : Tx) (k : Nat) {u : Tx} {n : Nat}, unq r a k = some (u, n) → k < n ∧ n ≤ k + r.length
 | [], _, _, _, _, h => by simp [unq] at h
 | c :: r, a, k, u, n, h => by
   rw [unq.eq_def] at h
   simp only at h
   split at h
   ·cases h; simp
   split at h
   ·cases h
   split at h
   ·cases r with
    | nil => simp at h
    | cons d r =>
      simp only at h
      split at h
      ·have := unq_len r _ _ h; simp; omega
      split at h
      ·have := unq_len r _ _ h; simp; omega
      split at h
      ·have := unq_len r _ _ h; simp; omega
      ·cases h
   ·have := unq_len r _ _ h; simp; omega
theorem step_ok (t : Tx) {i : Nat} (hi : i < t.length) : i + (step (t.drop i) i).1 ≤ t.length ∧ (((step (t.drop i) i).2 = none ∨ ∃ f, (step (t.drop i) i).2 = some f ∧ f.err = 0) → 0 < (step (t.drop i) i).1) := by
 rcases cls_all (t.getD i 0) with h | h | h | h | h | h | h | h
 ·rw [zEv hi (.inl h)]; exact ⟨by simp only; omega, by simp⟩
 ·rw [step_blank hi h]; exact ⟨by simp only; omega, by simp⟩
 ·rw [step_hash hi h]
  have := hash_cls _ h
  exact ⟨spn_len (by omega), fun _ => spn_pos hi (by rw [this]; rfl)⟩
 ·rw [step_let hi h]; exact ⟨spn_len (by omega), fun _ => spn_pos hi (by rw [isWord_cls, h]; rfl)⟩
 ·rw [step_dig hi h]; exact ⟨spn_len (by omega), fun _ => spn_pos hi (by rw [isDig_cls, h]; rfl)⟩
 ·rw [zEv hi (.inr h)]; exact ⟨by simp only; omega, by simp⟩
 ·rw [step_sym hi h]; exact ⟨by simp only; omega, by simp⟩
 ·rw [step_quote hi h]
  cases hu : unq (t.drop (i + 1)) [] 1 with
  | none => exact ⟨by simp only; omega, by simp⟩
  | some p =>
    obtain ⟨u, n⟩ := p
    have := unq_len _ _ _ hu
    simp only [List.length_drop] at this
    exact ⟨by simp only; omega, fun _ => by simp only; omega⟩
def lx (t : Tx) (i : Nat) : List Fo := lexF (t.length - i) (t.drop i) i
theorem zFy (t : Tx) : ∀ (a b i : Nat), t.length - i ≤ a → t.length - i ≤ b → lexF a (t.drop i) i = lexF b (t.drop i) i
 | 0, b, i, ha, hb => by
   have : t.drop i = [] := List.drop_eq_nil_of_le (by omega)
   rw [this]; cases b <;> simp [lexF]
 | a + 1, 0, i, ha, hb => by
   have : t.drop i = [] := List.drop_eq_nil_of_le (by omega)
   rw [this]; simp [lexF]
 | a + 1, b + 1, i, ha, hb => by
   by_cases hi : i < t.length
   ·have hne : t.drop i ≠ [] := by rw [zBn hi]; simp
    have hok := step_ok t hi
    simp only [lexF, if_neg hne]
    cases hs : (step (t.drop i) i).2 with
    | none =>
      simp only []
      rw [List.drop_drop]
      have := hok.2 (.inl hs)
      exact zFy t a b _ (by omega) (by omega)
    | some f =>
      simp only []
      split
      ·rename_i he
       rw [List.drop_drop]
       have := hok.2 (.inr ⟨f, hs, he⟩)
       rw [zFy t a b _ (by omega) (by omega)]
      ·rfl
   ·have : t.drop i = [] := List.drop_eq_nil_of_le (by omega)
    rw [this]; simp [lexF]
theorem lx_end {t : Tx} {i : Nat} (h : t.length ≤ i) : lx t i = [] := by
 unfold lx
 rw [List.drop_eq_nil_of_le h]; cases t.length - i <;> simp [lexF]
theorem lx_step {t : Tx} {i : Nat} (hi : i < t.length) : lx t i = match (step (t.drop i) i).2 with
 | none => lx t (i + (step (t.drop i) i).1)
 | some f => if f.err = 0 then f :: lx t (i + (step (t.drop i) i).1) else [f] := by
 have hne : t.drop i ≠ [] := by rw [zBn hi]; simp
 have hok := step_ok t hi
 unfold lx
 obtain ⟨a, ha⟩ : ∃ a, t.length - i = a + 1 := ⟨t.length - i - 1, by omega⟩
 rw [ha]
 simp only [lexF, if_neg hne]
 cases hs : (step (t.drop i) i).2 with
 | none =>
   simp only []
   rw [List.drop_drop]
   have := hok.2 (.inl hs)
   exact zFy t _ _ _ (by omega) (by omega)
 | some f =>
   simp only []
   split
   ·rename_i he
    rw [List.drop_drop]
    have := hok.2 (.inr ⟨f, hs, he⟩)
    rw [zFy t a _ _ (by omega) (Nat.le_refl _)]
   ·rfl
theorem lx_all (t : Tx) : lx t 0 = lexR t := by simp [lx, lexR]
@[reducible] def Fo.cells (f : Fo) : List D := [.int .i64 f.tok.kind, .str f.tok.text, .int .i64 f.tok.pos, .int .i64 f.err]
def rowD (f : Fo) : List D := [.agg f.cells]
def rows (t : Tx) : List (List D) := (lexR t).map rowD
def isErr (t : Tx) : Bool := match (lexR t).getLast? with
 | some f => !(f.err == 0)
 | none => false
theorem reg15 {C : Cfg} {t : Tx} {a b n : Nat} {HH : List Blk} {tk : List Tv} (hn : HH.length = n) (hab : a ≤ b) (hb : b ≤ t.length) {p : Int} {e : List D} (he1 : e[1]? = some (.ip [.str t])) (he3 : e[3]? = some (.int .i64 (b : Nat))) (he4 : e[4]? = some (.int .i64 (a : Nat))) (he5 : e[5]? = some (.ptr n 0))
 (Q : Ex → St → Prop) (hQ : Q .normal ⟨e, [], ⟨HH ++ [.cells [.int .i64 1, .str ((t.take b).drop a), .int .i64 p, .int .i64 0]], tk⟩⟩) :
 SWp C (.regD r49_15 r49_16) Q ⟨e, [], ⟨HH ++ [.cells [.int .i64 0, .str [], .int .i64 p, .int .i64 10]], tk⟩⟩ := by
 have still : ∀ i, i ≠ 6 → Still (fun E => (⟨HH ++ [.cells [if E 6 then .int .i64 1 else .int .i64 0, .str [], .int .i64 p, .int .i64 10]], tk⟩ : Hp)) i := fun i h E _ => by
  have : (6 == i) = false := by rw [beq_eq_false_iff_ne]; omega
  simp [this]
 have hg : ∀ B : Blk, (HH ++ [B])[n]? = some B := fun B => by rw [← hn]; simp
 have hs : ∀ B B' : Blk, (HH ++ [B]).set n B' = HH ++ [B'] := fun B B' => by rw [← hn]; simp
 refine zBx (fun E => ⟨HH ++ [.cells [if E 6 then .int .i64 1 else .int .i64 0, .str [], .int .i64 p, .int .i64 10]], tk⟩) (by simp) ?_
 refine y_q (ds := [.ip [.str t]]) (.str t) (by simp [go_sem, he1]) (still _ (by decide)) (fun _ => by simp [OcWp, zAa, isPan, opWp]) ?_
 refine y_q (ds := [.int .i64 (a : Nat)]) (.int .i64 (a : Nat)) (by simp [go_sem, he4]) (still _ (by decide)) (fun _ => by simp [OcWp, zAa, isPan, opWp]) ?_
 refine y_q (ds := [.int .i64 (b : Nat)]) (.int .i64 (b : Nat)) (by simp [go_sem, he3]) (still _ (by decide)) (fun _ => by simp [OcWp, zAa, isPan, opWp]) ?_
 refine y_q (ds := [.str t, .int .i64 (a : Nat), .int .i64 (b : Nat)]) (.str ((t.take b).drop a)) (by simp [go_sem]) (still _ (by decide)) (fun _ => by simp [OcWp, zAa, isPan, opWp]; omega) ?_
 refine y_q (ds := [.ptr n 0]) (.ptr n 0) (by simp [go_sem, he5]) (still _ (by decide)) (fun _ => by simp [OcWp, zAa, isPan, opWp]) ?_
 refine y_q (ds := [.ptr n 0]) (.ptr n 0) (by simp [go_sem]) (still _ (by decide)) (fun _ => by simp [OcWp, zAa, isPan, opWp]) ?_
 refine y_c (ds := [.ptr n 0, .int .i64 1]) (d := .skip) (by simp [go_sem]) (fun E hE => ?_) ?_
 ·have hE' : E 6 = false := hE
  simp [OcWp, zAa, isPan, opWp, hE', hg, hs, Blk.csq, Blk.putc, D.iV, D.cells, setL]
 refine y_end (hp' := ⟨HH ++ [.cells [.int .i64 1, .str [], .int .i64 p, .int .i64 10]], tk⟩) (by simp) ?_
 simp only [go_sem, he1, he3, he4, he5, hg, hs]
 simp [go_sem, he1, he3, he4, he5, hg, hs, setL, D.iV, D.cells, St.done]
 exact hQ
theorem reg22 {C : Cfg} {t : Tx} {a b n : Nat} {HH : List Blk} {tk : List Tv} (hn : HH.length = n) (hab : a ≤ b) (hb : b ≤ t.length) {p : Int} {e : List D} (he1 : e[1]? = some (.ip [.str t])) (he3 : e[3]? = some (.int .i64 (b : Nat))) (he4 : e[4]? = some (.int .i64 (a : Nat))) (he5 : e[5]? = some (.ptr n 0))
 (Q : Ex → St → Prop) (hQ : Q .normal ⟨e, [], ⟨HH ++ [.cells [.int .i64 2, .str ((t.take b).drop a), .int .i64 p, .int .i64 0]], tk⟩⟩) :
 SWp C (.regD r49_22 r49_23) Q ⟨e, [], ⟨HH ++ [.cells [.int .i64 0, .str [], .int .i64 p, .int .i64 10]], tk⟩⟩ := by
 have still : ∀ i, i ≠ 6 → Still (fun E => (⟨HH ++ [.cells [if E 6 then .int .i64 2 else .int .i64 0, .str [], .int .i64 p, .int .i64 10]], tk⟩ : Hp)) i := fun i h E _ => by
  have : (6 == i) = false := by rw [beq_eq_false_iff_ne]; omega
  simp [this]
 have hg : ∀ B : Blk, (HH ++ [B])[n]? = some B := fun B => by rw [← hn]; simp
 have hs : ∀ B B' : Blk, (HH ++ [B]).set n B' = HH ++ [B'] := fun B B' => by rw [← hn]; simp
 refine zBx (fun E => ⟨HH ++ [.cells [if E 6 then .int .i64 2 else .int .i64 0, .str [], .int .i64 p, .int .i64 10]], tk⟩) (by simp) ?_
 refine y_q (ds := [.ip [.str t]]) (.str t) (by simp [go_sem, he1]) (still _ (by decide)) (fun _ => by simp [OcWp, zAa, isPan, opWp]) ?_
 refine y_q (ds := [.int .i64 (a : Nat)]) (.int .i64 (a : Nat)) (by simp [go_sem, he4]) (still _ (by decide)) (fun _ => by simp [OcWp, zAa, isPan, opWp]) ?_
 refine y_q (ds := [.int .i64 (b : Nat)]) (.int .i64 (b : Nat)) (by simp [go_sem, he3]) (still _ (by decide)) (fun _ => by simp [OcWp, zAa, isPan, opWp]) ?_
 refine y_q (ds := [.str t, .int .i64 (a : Nat), .int .i64 (b : Nat)]) (.str ((t.take b).drop a)) (by simp [go_sem]) (still _ (by decide)) (fun _ => by simp [OcWp, zAa, isPan, opWp]; omega) ?_
 refine y_q (ds := [.ptr n 0]) (.ptr n 0) (by simp [go_sem, he5]) (still _ (by decide)) (fun _ => by simp [OcWp, zAa, isPan, opWp]) ?_
 refine y_q (ds := [.ptr n 0]) (.ptr n 0) (by simp [go_sem]) (still _ (by decide)) (fun _ => by simp [OcWp, zAa, isPan, opWp]) ?_
 refine y_c (ds := [.ptr n 0, .int .i64 2]) (d := .skip) (by simp [go_sem]) (fun E hE => ?_) ?_
 ·have hE' : E 6 = false := hE
  simp [OcWp, zAa, isPan, opWp, hE', hg, hs, Blk.csq, Blk.putc, D.iV, D.cells, setL]
 refine y_end (hp' := ⟨HH ++ [.cells [.int .i64 2, .str [], .int .i64 p, .int .i64 10]], tk⟩) (by simp) ?_
 simp only [go_sem, he1, he3, he4, he5, hg, hs]
 simp [go_sem, he1, he3, he4, he5, hg, hs, setL, D.iV, D.cells, St.done]
 exact hQ
theorem reg34 {C : Cfg} {t : Tx} {a b n : Nat} {HH : List Blk} {tk : List Tv} (hn : HH.length = n) (hab : a ≤ b) (hb : b ≤ t.length) {p : Int} {e : List D} (he1 : e[1]? = some (.ip [.str t])) (he3 : e[3]? = some (.int .i64 (b : Nat))) (he4 : e[4]? = some (.int .i64 (a : Nat))) (he5 : e[5]? = some (.ptr n 0))
 (Q : Ex → St → Prop) (hQ : Q .normal ⟨e, [], ⟨HH ++ [.cells [.int .i64 4, .str ((t.take b).drop a), .int .i64 p, .int .i64 0]], tk⟩⟩) :
 SWp C (.regD r49_34 r49_35) Q ⟨e, [], ⟨HH ++ [.cells [.int .i64 0, .str [], .int .i64 p, .int .i64 10]], tk⟩⟩ := by
 have still : ∀ i, i ≠ 6 → Still (fun E => (⟨HH ++ [.cells [if E 6 then .int .i64 4 else .int .i64 0, .str [], .int .i64 p, .int .i64 10]], tk⟩ : Hp)) i := fun i h E _ => by
  have : (6 == i) = false := by rw [beq_eq_false_iff_ne]; omega
  simp [this]
 have hg : ∀ B : Blk, (HH ++ [B])[n]? = some B := fun B => by rw [← hn]; simp
 have hs : ∀ B B' : Blk, (HH ++ [B]).set n B' = HH ++ [B'] := fun B B' => by rw [← hn]; simp
 refine zBx (fun E => ⟨HH ++ [.cells [if E 6 then .int .i64 4 else .int .i64 0, .str [], .int .i64 p, .int .i64 10]], tk⟩) (by simp) ?_
 refine y_q (ds := [.ip [.str t]]) (.str t) (by simp [go_sem, he1]) (still _ (by decide)) (fun _ => by simp [OcWp, zAa, isPan, opWp]) ?_
 refine y_q (ds := [.int .i64 (a : Nat)]) (.int .i64 (a : Nat)) (by simp [go_sem, he4]) (still _ (by decide)) (fun _ => by simp [OcWp, zAa, isPan, opWp]) ?_
 refine y_q (ds := [.int .i64 (b : Nat)]) (.int .i64 (b : Nat)) (by simp [go_sem, he3]) (still _ (by decide)) (fun _ => by simp [OcWp, zAa, isPan, opWp]) ?_
 refine y_q (ds := [.str t, .int .i64 (a : Nat), .int .i64 (b : Nat)]) (.str ((t.take b).drop a)) (by simp [go_sem]) (still _ (by decide)) (fun _ => by simp [OcWp, zAa, isPan, opWp]; omega) ?_
 refine y_q (ds := [.ptr n 0]) (.ptr n 0) (by simp [go_sem, he5]) (still _ (by decide)) (fun _ => by simp [OcWp, zAa, isPan, opWp]) ?_
 refine y_q (ds := [.ptr n 0]) (.ptr n 0) (by simp [go_sem]) (still _ (by decide)) (fun _ => by simp [OcWp, zAa, isPan, opWp]) ?_
 refine y_c (ds := [.ptr n 0, .int .i64 4]) (d := .skip) (by simp [go_sem]) (fun E hE => ?_) ?_
 ·have hE' : E 6 = false := hE
  simp [OcWp, zAa, isPan, opWp, hE', hg, hs, Blk.csq, Blk.putc, D.iV, D.cells, setL]
 refine y_end (hp' := ⟨HH ++ [.cells [.int .i64 4, .str [], .int .i64 p, .int .i64 10]], tk⟩) (by simp) ?_
 simp only [go_sem, he1, he3, he4, he5, hg, hs]
 simp [go_sem, he1, he3, he4, he5, hg, hs, setL, D.iV, D.cells, St.done]
 exact hQ
end Go.Proofs.YtkjnhkoipgdfeaaDoor
end
section
set_option maxRecDepth 100000
set_option linter.unusedSimpArgs false
set_option linter.unusedVariables false
namespace Go.Proofs.YtkjnhkoipgdfeaaDoor
open Go GoV Go.RowKit
theorem zCv {xs : List Fo} {k : Nat} {f : Fo} {r : List Fo} (h : xs.drop k = f :: r) : k < xs.length ∧ xs[k]? = some f ∧ xs.drop (k + 1) = r := by
 have hk : k < xs.length := by
  rcases Nat.lt_or_ge k xs.length with q | q
  ·exact q
  ·rw [List.drop_eq_nil_of_le q] at h; cases h
 rw [List.drop_eq_getElem_cons hk] at h
 injection h with h1 h2
 exact ⟨hk, by rw [List.getElem?_eq_getElem hk, h1], h2⟩
theorem yes_row {t : Tx} {k : Nat} {f : Fo} {r : List Fo} (h : (lexR t).drop k = f :: r) (he : f.err = 0) : yans (rows t) (isErr t) k = true := by
 obtain ⟨h1, h2, h3⟩ := zCv h
 unfold yans
 by_cases hk : k + 1 = (lexR t).length
 ·have hl : (lexR t).getLast? = some f := by rw [List.getLast?_eq_getElem?, ← hk]; simpa using h2
  simp [isErr, hl, he]
 ·have : ¬ (k + 1 = (rows t).length) := by simpa [rows] using hk
  simp [this]
theorem no_row {t : Tx} {k : Nat} {f : Fo} (h : (lexR t).drop k = [f]) (he : f.err ≠ 0) : yans (rows t) (isErr t) k = false ∧ k + 1 = (rows t).length := by
 obtain ⟨h1, h2, h3⟩ := zCv h
 have hk : k + 1 = (lexR t).length := by
  have := List.drop_eq_nil_iff.1 h3; omega
 have hl : (lexR t).getLast? = some f := by rw [List.getLast?_eq_getElem?, ← hk]; simpa using h2
 refine ⟨?_, by simpa [rows] using hk⟩
 have h0 : (f.err == 0) = false := by simp [he]
 simp [yans, isErr, hl, h0, rows, ← hk]
theorem rows_get {t : Tx} {k : Nat} {f : Fo} {r : List Fo} (h : (lexR t).drop k = f :: r) : (rows t)[k]? = some (rowD f) := by
 obtain ⟨h1, h2, h3⟩ := zCv h
 simp [rows, h2]
theorem zE7 {b : World → Gh → Prop} {hpk : Nat → Hp} {n m y : Nat} {t : Tx} (hst : Steady hpk n m) (hB : ∀ w0 B, (M.with b).base w0 B → B.r.length = n ∧ B.tk.length = m)
 (hY : ∀ k x, (rows t)[k]? = some x → YOkB (M.with b) y x (hpk k) (hpk (k + 1)) (yans (rows t) (isErr t) k)) {k : Nat} {f : Fo} {r : List Fo} (hf : (lexR t).drop k = f :: r) (hr : f.err ≠ 0 → r = [])
 {e1 e2 e3 e4 e6 e7 e8 e9 e10 e11 e12 e13 e14 e15 e16 e17 e18 e19 e20 e21 e22 e23 e24 : D} (Q : Ex → St → Prop)
 (hgo : f.err = 0 → Q .normal ⟨[yldD y, e1, e2, e3, e4, .ptr n 0, e6, e7, e8, e9, e10, e11, e12, e13, e14, e15, e16, e17, e18, e19, e20, e21, e22, e23, .bool false], [], ⟨(hpk (k + 1)).H ++ [.cells f.cells], (hpk (k + 1)).tk⟩⟩)
 (hno : f.err ≠ 0 → k + 1 = (rows t).length → Q .ret ⟨[yldD y, e1, e2, e3, e4, .ptr n 0, e6, e7, e8, e9, e10, e11, e12, e13, e14, e15, e16, e17, e18, e19, e20, e21, e22, e23, .bool true], [], ⟨(hpk (k + 1)).H ++ [.cells f.cells], (hpk (k + 1)).tk⟩⟩) :
 SWp ((E49 0 0).atB b (hpk 0)) (.seq (.reg r49_36) (.cond (.v 24) .ret .skip)) Q ⟨[yldD y, e1, e2, e3, e4, .ptr n 0, e6, e7, e8, e9, e10, e11, e12, e13, e14, e15, e16, e17, e18, e19, e20, e21, e22, e23, e24], [], ⟨(hpk k).H ++ [.cells f.cells], (hpk k).tk⟩⟩ := by
 have h8 := hY k _ (rows_get hf)
 have hln := hst.len
 have hlt := hst.lent
 have hg : ∀ (j : Nat) (B : Blk), ((hpk j).H ++ [B])[n]? = some B := fun j B => by rw [← hst.len j]; simp
 have hgc := hst.gc
 have hbk := hst.bk
 by_cases he : f.err = 0
 ·have hy := yes_row hf he
  rw [hy] at h8
  have h0 : (f.err != 0) = false := by simp [he]
  have wQ := And.intro @hg (And.intro @hln (And.intro @hlt (And.intro @hgc @hbk))); repeat' (first | with_reducible (apply swq; constructor) | simp only [go_sem, seval, atB_M, pe49, hg, h0] | simp (disch := omega) only [w64, w32, wu8, wu16, wu32, wu64] | ((with_reducible refine o_yieldS (L := ?yL) hst (h8) hB ?hx ?hh ?_); (case hx => first | rfl | (simp [D.rnL, D.rn, rowD]; done)); (case hh => rfl)) | (with_reducible first | (apply cdA; constructor) | (apply gdA; constructor)) | ((with_reducible refine And.intro ?hw ?_); (case hw => exact sw wQ)) | with_reducible intro _)
  all_goals try (exfalso; omega)
  exact hgo he
 ·rw [hr he] at hf
  obtain ⟨hy, hk⟩ := no_row hf he
  rw [hy] at h8
  have h0 : (f.err != 0) = true := by simp [he]
  have wQ := And.intro @hg (And.intro @hln (And.intro @hlt (And.intro @hgc @hbk))); repeat' (first | with_reducible (apply swq; constructor) | simp only [go_sem, seval, atB_M, pe49, hg, h0] | simp (disch := omega) only [w64, w32, wu8, wu16, wu32, wu64] | ((with_reducible refine o_yieldS (L := ?yL) hst (h8) hB ?hx ?hh ?_); (case hx => first | rfl | (simp [D.rnL, D.rn, rowD]; done)); (case hh => rfl)) | (with_reducible first | (apply cdA; constructor) | (apply gdA; constructor)) | ((with_reducible refine And.intro ?hw ?_); (case hw => exact sw wQ)) | with_reducible intro _)
  all_goals try (exfalso; omega)
  exact hno he hk
end Go.Proofs.YtkjnhkoipgdfeaaDoor
end
section
set_option maxRecDepth 100000
set_option linter.unusedSimpArgs false
set_option linter.unusedVariables false
namespace Go.Proofs.YtkjnhkoipgdfeaaDoor
open Go GoV Go.RowKit
def unqS (t : Tx) (i : Nat) : Tx := match unq (t.drop (i + 1)) [] 1 with
 | some p => p.1
 | none => []
def unqN (t : Tx) (i : Nat) : Nat := match unq (t.drop (i + 1)) [] 1 with
 | some p => p.2
 | none => 0
def zEa (t : Tx) : Prop := ∀ i, i < t.length → cls (t.getD i 0) = 7 → Pur M 50 [.str (t.drop i)] (.tup [.str (unqS t i), .int .i64 (unqN t i : Nat)])
theorem clsAt_word {t : Tx} {p : Nat} (h : p < t.length) : (zA1 (t.getD p 0) = true → clsAt t p = 3 ∨ clsAt t p = 4 ∨ clsAt t p = 5) ∧ (zA1 (t.getD p 0) = false → clsAt t p ≠ 3 ∧ clsAt t p ≠ 4 ∧ clsAt t p ≠ 5) := by
 unfold clsAt
 rw [if_pos h, isWord_cls]
 simp
 constructor
 ·rintro ((h | h) | h) <;> simp [h]
 ·intro a b c; exact ⟨a, b, c⟩
theorem clsAt_dig {t : Tx} {p : Nat} (h : p < t.length) : (isDig (t.getD p 0) = true → clsAt t p = 4) ∧ (isDig (t.getD p 0) = false → clsAt t p ≠ 4) := by
 unfold clsAt
 rw [if_pos h, isDig_cls]
 simp
theorem clsAt_end {t : Tx} {p : Nat} (h : t.length ≤ p) : clsAt t p = 0 := by unfold clsAt; rw [if_neg (by omega)]
theorem head_word {t : Tx} {p : Nat} (hd : isDig (t.getD p 0) = false ∨ t.length ≤ p) : ((t.drop p).head?.any zA1 = true ↔ clsAt t p = 3 ∨ clsAt t p = 5) := by
 by_cases h : p < t.length
 ·rw [zBn h]
  have hw := clsAt_word h
  have hg := clsAt_dig h
  simp only [List.head?_cons, Option.any_some]
  have hdd : isDig (t.getD p 0) = false := by
   rcases hd with q | q
   ·exact q
   ·omega
  have h4 := hg.2 hdd
  cases hwd : zA1 (t.getD p 0)
  ·have := hw.2 hwd
   simp [this.1, this.2.2]
  ·have := hw.1 hwd
   simp
   omega
 ·rw [List.drop_eq_nil_of_le (by omega), clsAt_end (by omega)]
  simp
theorem take_drop' (t : Tx) (i m : Nat) : (t.take (i + m)).drop i = (t.drop i).take m := by
 rw [List.drop_take]; congr 1; omega
theorem cls0B : ∀ c : UInt8, ((c.toNat : Int) != 10) = !(c == 10) := fun c => by
 have := zFb (p := fun c => ((c.toNat : Int) != 10) == !(c == 10)) (by decide +kernel) c
 exact eq_of_beq this
def st0 (t : Tx) (y : Nat) (hpk : Nat → Hp) (i k : Nat) : St := ⟨[yldD y, .ip [.str t], .ip [atD t], .int .i64 (i : Nat), .u0, .u0, .u0, .u0, .u0, .u0, .u0, .u0, .u0, .u0, .u0, .u0, .u0, .u0, .u0, .u0, .u0, .u0, .u0, .u0, .u0], [], hpk k⟩
set_option maxHeartbeats 4000000 in
theorem toks_it (t : Tx) (ht : t.length ≤ 10000) (hq : zEa t) : IterS M 49 [.ip [.str t], .ip [atD t]] (rows t) (isErr t) := by
 refine iterS_of_body (C := E49 0 0) (fn := Tryd.f49) Tryd.func49 (by kernel_rfl) (by kernel_rfl) (rc := c49) z49 (by kernel_rfl) (by kernel_rfl) rfl (by rw [show ([D.ip [.str t], D.ip [atD t]] : List D).length + 1 = 3 from rfl]; decide) (fun b hpk n m y hst hB hY => ?_)
 rw [ie49]
 unfold c49
 have hrl : (rows t).length = (lexR t).length := by simp [rows]
 obtain ⟨RE, hRE⟩ : ∃ R, R = (RC.seq (.reg r49_36) (.cond (.v 24) .ret .skip)) := ⟨_, rfl⟩
 obtain ⟨RA, hRA⟩ : ∃ R, R = (RC.regD r49_15 r49_16) := ⟨_, rfl⟩
 obtain ⟨RB, hRB⟩ : ∃ R, R = (RC.regD r49_22 r49_23) := ⟨_, rfl⟩
 obtain ⟨RD, hRD⟩ : ∃ R, R = (RC.regD r49_34 r49_35) := ⟨_, rfl⟩
 rw [← hRE, ← hRA, ← hRB, ← hRD]
 have wQ := tw; repeat' (first | with_reducible (apply swq; constructor) | simp only [go_sem, seval, atB_M, pe49] | simp (disch := omega) only [w64, w32, wu8, wu16, wu32, wu64] | (with_reducible first | (apply cdA; constructor) | (apply gdA; constructor)) | ((with_reducible refine And.intro ?hw ?_); (case hw => exact sw wQ)) | with_reducible intro _)
 have hln := hst.len
 have hlt := hst.lent
 have hn0 : ((E49 0 0).atB b (hpk 0)).n0 ≤ n := by show (hpk 0).H.length ≤ n; rw [hln]; exact Nat.le_refl _
 have hm0 : ((E49 0 0).atB b (hpk 0)).m0 ≤ m := by show (hpk 0).tk.length ≤ m; rw [hlt]; exact Nat.le_refl _
 have hgc0 : ∀ k, (hpk k).cut n m = hpk k := fun k => by have := hst.gc k []; simpa using this
 have hgc : ∀ k (B : List Blk), Hp.cut ⟨(hpk k).H ++ B, (hpk k).tk⟩ n m = hpk k := hst.gc
 refine zD0 [0, 1, 2, 3] n m hn0 hm0 (fun a : Nat × Nat => st0 t y hpk a.1 a.2) (fun a => a.1 ≤ t.length ∧ a.2 ≤ (lexR t).length ∧ lx t a.1 = (lexR t).drop a.2) (fun a => t.length - a.1) (0, 0) ⟨by simp, by simp, by rw [lx_all]; rfl⟩ ?_ ?_
 ·simp [keepE, St.keepG, St.keep, St.gc, D.rnL, D.rn, st0, yldD, hgc0]
 rintro ⟨i, k⟩ ⟨hi, hk, hlx⟩
 simp only at hi hk hlx ⊢
 unfold st0
 by_cases hil : i < t.length
 case neg =>
  have hd : decide ((i : Int) < t.length) = false := by simp; omega
  have hkk : k = (rows t).length := by
   rw [lx_end (by omega)] at hlx
   have := List.drop_eq_nil_iff.1 hlx.symm; omega
  have wQ := tw; repeat' (first | with_reducible (apply swq; constructor) | simp only [go_sem, seval, atB_M, pe49, hd] | simp (disch := omega) only [w64, w32, wu8, wu16, wu32, wu64] | (with_reducible first | (apply cdA; constructor) | (apply gdA; constructor)) | ((with_reducible refine And.intro ?hw ?_); (case hw => exact sw wQ)) | with_reducible intro _)
  exact ⟨_, zAo, by rw [hkk]⟩
 case pos =>
 have hd : decide ((i : Int) < t.length) = true := by simp; omega
 have hls := lx_step hil
 have hok := step_ok t hil
 have cA := at_p t i (by omega) (by omega)
 have hcA : clsAt t i = cls (t.getD i 0) := by unfold clsAt; rw [if_pos hil]
 rw [hcA] at cA
 have hg : ∀ (j : Nat) (B : Blk), ((hpk j).H ++ [B])[n]? = some B := fun j B => by rw [← hst.len j]; simp
 have hs : ∀ (j : Nat) (B B' : Blk), ((hpk j).H ++ [B]).set n B' = (hpk j).H ++ [B'] := fun j B B' => by rw [← hst.len j]; simp
 have next : ∀ (i' k' : Nat) (L : List Blk) (e : List D), keepE [0, 1, 2, 3] 0 e = (st0 t y hpk i' k').env → St.keepG [0, 1, 2, 3] n m ⟨e, [], ⟨(hpk k').H ++ L, (hpk k').tk⟩⟩ = st0 t y hpk i' k' := fun i' k' L e he => by
  simp only [St.keepG, St.keep, St.gc, he, hgc, st0]
  simp [D.rnL, D.rn, yldD]
 rcases cls_all (t.getD i 0) with h | h | h | h | h | h | h | h
 ·
  rw [h] at cA
  have hso := zEv hil (.inl h)
  rw [hso] at hls
  simp only [noErr] at hls
  rw [if_neg (by decide)] at hls
  obtain ⟨hk0, hk2, hdr⟩ := zCv (hlx.symm.trans hls)
  have wQ := And.intro @hln (And.intro @hg @hs); repeat' (first | with_reducible (apply swq; constructor) | simp only [go_sem, seval, atB_M, pe49, hd, hln, hg, hs] | simp (disch := omega) only [w64, w32, wu8, wu16, wu32, wu64] | ((with_reducible refine zAb (zBg cA b) ?he ?hc ?_); (case he | hc => exact sc wQ)) | (with_reducible first | (apply cdA; constructor) | (apply gdA; constructor)) | ((with_reducible refine And.intro ?hw ?_); (case hw => exact sw wQ)) | with_reducible intro _)
  all_goals try (exfalso; omega)
  subst hRE
  refine zE7 hst hB hY (f := ⟨⟨0, [], i⟩, 10⟩) (hlx.symm.trans hls) (fun _ => rfl) _ (fun he => absurd he (by simp)) (fun he hk' => ?_)
  exact ⟨trivial, _, zFc n m hn0 hm0, by simp only [St.gc]; rw [hgc, ← hk']⟩
 ·
  rw [h] at cA
  have hso := step_blank hil h
  rw [hso] at hls
  simp only at hls
  have wQ := And.intro @hln (And.intro @hg @hs); repeat' (first | with_reducible (apply swq; constructor) | simp only [go_sem, seval, atB_M, pe49, hd, hln, hg, hs] | simp (disch := omega) only [w64, w32, wu8, wu16, wu32, wu64] | ((with_reducible refine zAb (zBg cA b) ?he ?hc ?_); (case he | hc => exact sc wQ)) | (with_reducible first | (apply cdA; constructor) | (apply gdA; constructor)) | ((with_reducible refine And.intro ?hw ?_); (case hw => exact sw wQ)) | with_reducible intro _)
  all_goals try (exfalso; omega)
  exact ⟨(i + 1, k), ⟨by simp only; omega, hk, by rw [← hlx, hls]⟩, by simp only; omega, next (i + 1) k _ _ rfl⟩
 ·
  rw [h] at cA
  have hso := step_hash hil h
  rw [hso] at hls hok
  simp only at hls hok
  have hpos := hok.2 (by simp)
  have hle := hok.1
  have hget := fun j hj => spn_get (p := fun d => !(d == 10)) (t := t) (i := i) (j := j) hj
  have hstop := spn_stop (p := fun d => !(d == 10)) (t := t) (i := i)
  generalize hmm : spn (fun d => !(d == 10)) (t.drop i) = mm at *
  have wQ := And.intro @hln (And.intro @hg @hs); repeat' (first | with_reducible (apply swq; constructor) | simp only [go_sem, seval, atB_M, pe49, hd, hln, hg, hs] | simp (disch := omega) only [w64, w32, wu8, wu16, wu32, wu64] | ((with_reducible refine zAb (zBg cA b) ?he ?hc ?_); (case he | hc => exact sc wQ)) | (with_reducible first | (apply cdA; constructor) | (apply gdA; constructor)) | ((with_reducible refine And.intro ?hw ?_); (case hw => exact sw wQ)) | with_reducible intro _)
  all_goals try (exfalso; omega)
  refine zB6 [0, 1, 2, 3, 4, 5] (fun j : Nat => ⟨[yldD y, .ip [.str t], .ip [atD t], .int .i64 (i + j : Nat), .int .i64 (i : Nat), .ptr n 0, .u0, .u0, .u0, .u0, .u0, .u0, .u0, .u0, .u0, .u0, .u0, .u0, .u0, .u0, .u0, .u0, .u0, .u0, .u0], [], ⟨(hpk k).H ++ [.cells [.int .i64 0, .str [], .int .i64 (i : Nat), .int .i64 10]], (hpk k).tk⟩⟩) (fun j => j ≤ mm) (fun j => mm - j) 0 (by omega) ?_ ?_
  ·simp [keepE, St.keep]
  ·intro j hj
   by_cases hjm : j < mm
   ·obtain ⟨q1, q2⟩ := hget j hjm
    have hd2 : decide (((i + j : Nat) : Int) < t.length) = true := by simp; omega
    have hc10 : (((t.getD (i + j) 0).toNat : Int) != 10) = true := by rw [cls0B]; exact q2
    have wQ := And.intro @hln (And.intro @hg @hs); repeat' (first | with_reducible (apply swq; constructor) | simp only [go_sem, seval, atB_M, pe49, hd2, hc10, hln, hg, hs] | simp (disch := omega) only [w64, w32, wu8, wu16, wu32, wu64] | (with_reducible first | (apply cdA; constructor) | (apply gdA; constructor)) | ((with_reducible refine And.intro ?hw ?_); (case hw => exact sw wQ)) | with_reducible intro _)
    all_goals try (exfalso; omega)
    refine ⟨j + 1, by omega, by omega, ?_⟩
    simp [keepE, St.keep]
    try omega
   ·obtain rfl : j = mm := by omega
    have fin : ∃ a' : Nat × Nat, (a'.1 ≤ t.length ∧ a'.2 ≤ (lexR t).length ∧ lx t a'.1 = (lexR t).drop a'.2) ∧ t.length - a'.1 < t.length - i ∧ a' = (i + j, k) := ⟨(i + j, k), ⟨by simp only; omega, hk, by rw [← hlx, hls]⟩, by simp only; omega, rfl⟩
    obtain ⟨a', f1, f2, rfl⟩ := fin
    by_cases hil2 : i + j < t.length
    ·have hd2 : decide (((i + j : Nat) : Int) < t.length) = true := by simp; omega
     have hc10 : (((t.getD (i + j) 0).toNat : Int) != 10) = false := by rw [cls0B]; exact hstop hil2
     have wQ := And.intro @hln (And.intro @hg @hs); repeat' (first | with_reducible (apply swq; constructor) | simp only [go_sem, seval, atB_M, pe49, hd2, hc10, hln, hg, hs] | simp (disch := omega) only [w64, w32, wu8, wu16, wu32, wu64] | (with_reducible first | (apply cdA; constructor) | (apply gdA; constructor)) | ((with_reducible refine And.intro ?hw ?_); (case hw => exact sw wQ)) | with_reducible intro _)
     all_goals try (exfalso; omega)
     exact ⟨_, f1, f2, next (i + j) k _ _ rfl⟩
    ·have hd2 : decide (((i + j : Nat) : Int) < t.length) = false := by simp; omega
     have wQ := And.intro @hln (And.intro @hg @hs); repeat' (first | with_reducible (apply swq; constructor) | simp only [go_sem, seval, atB_M, pe49, hd2, hln, hg, hs] | simp (disch := omega) only [w64, w32, wu8, wu16, wu32, wu64] | (with_reducible first | (apply cdA; constructor) | (apply gdA; constructor)) | ((with_reducible refine And.intro ?hw ?_); (case hw => exact sw wQ)) | with_reducible intro _)
     all_goals try (exfalso; omega)
     exact ⟨_, f1, f2, next (i + j) k _ _ rfl⟩
 ·
  have hcA3 : clsAt t i = 3 := hcA.trans h
  rw [h] at cA
  have hso := step_let hil h
  rw [hso] at hls hok
  simp only at hls hok
  have hle := hok.1
  have hget := fun j hj => spn_get (p := zA1) (t := t) (i := i) (j := j) hj
  have hstop := spn_stop (p := zA1) (t := t) (i := i)
  have hpos : 0 < spn zA1 (t.drop i) := spn_pos hil (by rw [isWord_cls, h]; rfl)
  have htd := take_drop' t i (spn zA1 (t.drop i))
  rw [← htd] at hls
  generalize hmm : spn zA1 (t.drop i) = mm at *
  have wQ := And.intro @hln (And.intro @hg @hs); repeat' (first | with_reducible (apply swq; constructor) | simp only [go_sem, seval, atB_M, pe49, hd, hln, hg, hs] | simp (disch := omega) only [w64, w32, wu8, wu16, wu32, wu64] | ((with_reducible refine zAb (zBg cA b) ?he ?hc ?_); (case he | hc => exact sc wQ)) | (with_reducible first | (apply cdA; constructor) | (apply gdA; constructor)) | ((with_reducible refine And.intro ?hw ?_); (case hw => exact sw wQ)) | with_reducible intro _)
  all_goals try (exfalso; omega)
  refine zB6 [0, 1, 2, 3, 4, 5, 6] (fun j : Nat => ⟨[yldD y, .ip [.str t], .ip [atD t], .int .i64 (i + j : Nat), .int .i64 (i : Nat), .ptr n 0, .int .u8 (clsAt t (i + j)), .u0, .u0, .u0, .u0, .u0, .u0, .u0, .u0, .u0, .u0, .u0, .u0, .u0, .u0, .u0, .u0, .u0, .u0], [], ⟨(hpk k).H ++ [.cells [.int .i64 0, .str [], .int .i64 (i : Nat), .int .i64 10]], (hpk k).tk⟩⟩) (fun j => j ≤ mm) (fun j => mm - j) 0 (by omega) ?_ ?_
  ·simp [keepE, St.keep, hcA3]
  ·intro j hj
   by_cases hjm : j < mm
   ·obtain ⟨q1, q2⟩ := hget j hjm
    have cB := at_p t (i + (j + 1)) (by omega) (by omega)
    have hc := (clsAt_word q1).1 q2
    generalize clsAt t (i + j) = cl at *
    rcases hc with rfl | rfl | rfl
    all_goals
     have wQ := And.intro @hln (And.intro @hg @hs); repeat' (first | with_reducible (apply swq; constructor) | simp only [go_sem, seval, atB_M, pe49, hln, hg, hs] | simp (disch := omega) only [w64, w32, wu8, wu16, wu32, wu64] | ((with_reducible refine zAb (zBg cB b) ?he ?hc ?_); (case he | hc => exact sc wQ)) | (with_reducible first | (apply cdA; constructor) | (apply gdA; constructor)) | ((with_reducible refine And.intro ?hw ?_); (case hw => exact sw wQ)) | with_reducible intro _)
     all_goals try (exfalso; omega)
     refine ⟨j + 1, by omega, by omega, ?_⟩
     simp [keepE, St.keep]
     try omega
   ·obtain rfl : j = mm := by omega
    have hc : clsAt t (i + j) ≠ 3 ∧ clsAt t (i + j) ≠ 4 ∧ clsAt t (i + j) ≠ 5 := by
     by_cases hil2 : i + j < t.length
     ·exact (clsAt_word hil2).2 (hstop hil2)
     ·rw [clsAt_end (by omega)]; decide
    obtain ⟨hc1, hc2, hc3⟩ := hc
    have u1 : (clsAt t (i + j) == 3) = false := by simp [hc1]
    have u2 : (clsAt t (i + j) == 4) = false := by simp [hc2]
    have u3 : (clsAt t (i + j) == 5) = false := by simp [hc3]
    generalize clsAt t (i + j) = cl at *
    have wQ := And.intro @hln (And.intro @hg @hs); repeat' (first | with_reducible (apply swq; constructor) | simp only [go_sem, seval, atB_M, pe49, u1, u2, u3, hln, hg, hs] | simp (disch := omega) only [w64, w32, wu8, wu16, wu32, wu64] | (with_reducible first | (apply cdA; constructor) | (apply gdA; constructor)) | ((with_reducible refine And.intro ?hw ?_); (case hw => exact sw wQ)) | with_reducible intro _)
    all_goals try (exfalso; omega)
    subst hRA
    refine reg15 (a := i) (b := i + j) (hln k) (by omega) (by omega) rfl rfl rfl rfl _ ?_
    have hw : decide (((i + j : Nat) : Int) - (i : Nat) > 24) = decide (24 < j) := by
     rw [Bool.eq_iff_iff]; simp; omega
    by_cases h24 : 24 < j
    ·rw [if_pos h24] at hls
     rw [if_neg (by decide)] at hls
     have hw2 : decide (24 < j) = true := by simp [h24]
     rw [hw2] at hw
     have wQ := And.intro @hln (And.intro @hg @hs); repeat' (first | with_reducible (apply swq; constructor) | simp only [go_sem, seval, atB_M, pe49, hw, hln, hg, hs] | simp (disch := omega) only [w64, w32, wu8, wu16, wu32, wu64] | (with_reducible first | (apply cdA; constructor) | (apply gdA; constructor)) | ((with_reducible refine And.intro ?hw ?_); (case hw => exact sw wQ)) | with_reducible intro _)
     all_goals try (exfalso; omega)
     subst hRE
     refine zE7 hst hB hY (f := ⟨⟨1, (t.take (i + j)).drop i, i⟩, 7⟩) (hlx.symm.trans hls) (fun _ => rfl) _ (fun he => absurd he (by simp)) (fun he hk' => ?_)
     exact ⟨trivial, _, zFc n m hn0 hm0, by simp only [St.gc]; rw [hgc, ← hk']⟩
    ·rw [if_neg h24] at hls
     rw [if_pos rfl] at hls
     obtain ⟨hk0, hk2, hdr⟩ := zCv (hlx.symm.trans hls)
     have hw2 : decide (24 < j) = false := by simp; omega
     rw [hw2] at hw
     have wQ := And.intro @hln (And.intro @hg @hs); repeat' (first | with_reducible (apply swq; constructor) | simp only [go_sem, seval, atB_M, pe49, hw, hln, hg, hs] | simp (disch := omega) only [w64, w32, wu8, wu16, wu32, wu64] | (with_reducible first | (apply cdA; constructor) | (apply gdA; constructor)) | ((with_reducible refine And.intro ?hw ?_); (case hw => exact sw wQ)) | with_reducible intro _)
     all_goals try (exfalso; omega)
     subst hRE
     refine zE7 hst hB hY (f := ⟨⟨1, (t.take (i + j)).drop i, i⟩, 0⟩) (hlx.symm.trans hls) (fun he => absurd rfl he) _ (fun he => ?_) (fun he => absurd rfl he)
     exact ⟨(i + j, k + 1), ⟨by simp only; omega, by simp only; omega, hdr.symm⟩, by simp only; omega, next (i + j) (k + 1) _ _ rfl⟩
 ·
  rw [h] at cA
  have hso := step_dig hil h
  rw [hso] at hls hok
  simp only at hls hok
  have hle := hok.1
  have hget := fun j hj => spn_get (p := isDig) (t := t) (i := i) (j := j) hj
  have hstop := spn_stop (p := isDig) (t := t) (i := i)
  have hpos : 0 < spn isDig (t.drop i) := spn_pos hil (by rw [isDig_cls, h]; rfl)
  have htd := take_drop' t i (spn isDig (t.drop i))
  rw [← htd] at hls
  generalize hmm : spn isDig (t.drop i) = mm at *
  rw [List.drop_drop] at hls
  have hhw : (t.drop (i + mm)).head?.any zA1 = true ↔ clsAt t (i + mm) = 3 ∨ clsAt t (i + mm) = 5 := head_word (by
   by_cases hil2 : i + mm < t.length
   ·exact .inl (hstop hil2)
   ·exact .inr (by omega))
  have wQ := And.intro @hln (And.intro @hg @hs); repeat' (first | with_reducible (apply swq; constructor) | simp only [go_sem, seval, atB_M, pe49, hd, hln, hg, hs] | simp (disch := omega) only [w64, w32, wu8, wu16, wu32, wu64] | ((with_reducible refine zAb (zBg cA b) ?he ?hc ?_); (case he | hc => exact sc wQ)) | (with_reducible first | (apply cdA; constructor) | (apply gdA; constructor)) | ((with_reducible refine And.intro ?hw ?_); (case hw => exact sw wQ)) | with_reducible intro _)
  all_goals try (exfalso; omega)
  refine zB6 [0, 1, 2, 3, 4, 5] (fun j : Nat => ⟨[yldD y, .ip [.str t], .ip [atD t], .int .i64 (i + j : Nat), .int .i64 (i : Nat), .ptr n 0, .u0, .u0, .u0, .u0, .u0, .u0, .u0, .u0, .u0, .u0, .u0, .u0, .u0, .u0, .u0, .u0, .u0, .u0, .u0], [], ⟨(hpk k).H ++ [.cells [.int .i64 0, .str [], .int .i64 (i : Nat), .int .i64 10]], (hpk k).tk⟩⟩) (fun j => j ≤ mm) (fun j => mm - j) 0 (by omega) ?_ ?_
  ·simp [keepE, St.keep]
  ·intro j hj
   have cB := at_p t (i + j) (by omega) (by omega)
   by_cases hjm : j < mm
   ·obtain ⟨q1, q2⟩ := hget j hjm
    rw [(clsAt_dig q1).1 q2] at cB
    have wQ := And.intro @hln (And.intro @hg @hs); repeat' (first | with_reducible (apply swq; constructor) | simp only [go_sem, seval, atB_M, pe49, hln, hg, hs] | simp (disch := omega) only [w64, w32, wu8, wu16, wu32, wu64] | ((with_reducible refine zAb (zBg cB b) ?he ?hc ?_); (case he | hc => exact sc wQ)) | (with_reducible first | (apply cdA; constructor) | (apply gdA; constructor)) | ((with_reducible refine And.intro ?hw ?_); (case hw => exact sw wQ)) | with_reducible intro _)
    all_goals try (exfalso; omega)
    refine ⟨j + 1, by omega, by omega, ?_⟩
    simp [keepE, St.keep]
    try omega
   ·obtain rfl : j = mm := by omega
    have hc : clsAt t (i + j) ≠ 4 := by
     by_cases hil2 : i + j < t.length
     ·exact (clsAt_dig hil2).2 (hstop hil2)
     ·rw [clsAt_end (by omega)]; decide
    have u2 : (clsAt t (i + j) == 4) = false := by simp [hc]
    generalize clsAt t (i + j) = cl at *
    have wQ := And.intro @hln (And.intro @hg @hs); repeat' (first | with_reducible (apply swq; constructor) | simp only [go_sem, seval, atB_M, pe49, u2, hln, hg, hs] | simp (disch := omega) only [w64, w32, wu8, wu16, wu32, wu64] | ((with_reducible refine zAb (zBg cB b) ?he ?hc ?_); (case he | hc => exact sc wQ)) | (with_reducible first | (apply cdA; constructor) | (apply gdA; constructor)) | ((with_reducible refine And.intro ?hw ?_); (case hw => exact sw wQ)) | with_reducible intro _)
    all_goals try (exfalso; omega)
    subst hRB
    refine reg22 (a := i) (b := i + j) (hln k) (by omega) (by omega) rfl rfl rfl rfl _ ?_
    have hw : decide (((i + j : Nat) : Int) - (i : Nat) > 7) = decide (7 < j) := by
     rw [Bool.eq_iff_iff]; simp; omega
    by_cases hbad : 7 < j ∨ (t.drop (i + j)).head?.any zA1 = true
    ·rw [if_pos hbad] at hls
     rw [if_neg (by decide)] at hls
     rw [hhw] at hbad
     by_cases h7 : 7 < j
     ·have hw2 : decide (7 < j) = true := by simp [h7]
      rw [hw2] at hw
      have wQ := And.intro @hln (And.intro @hg @hs); repeat' (first | with_reducible (apply swq; constructor) | simp only [go_sem, seval, atB_M, pe49, hw, hln, hg, hs] | simp (disch := omega) only [w64, w32, wu8, wu16, wu32, wu64] | ((with_reducible refine zAb (zBg cB b) ?he ?hc ?_); (case he | hc => exact sc wQ)) | (with_reducible first | (apply cdA; constructor) | (apply gdA; constructor)) | ((with_reducible refine And.intro ?hw ?_); (case hw => exact sw wQ)) | with_reducible intro _)
      all_goals try (exfalso; omega)
      subst hRE
      refine zE7 hst hB hY (f := ⟨⟨2, (t.take (i + j)).drop i, i⟩, 11⟩) (hlx.symm.trans hls) (fun _ => rfl) _ (fun he => absurd he (by simp)) (fun he hk' => ?_)
      exact ⟨trivial, _, zFc n m hn0 hm0, by simp only [St.gc]; rw [hgc, ← hk']⟩
     ·have hw2 : decide (7 < j) = false := by simp; omega
      rw [hw2] at hw
      have hcl : cl = 3 ∨ cl = 5 := by
       rcases hbad with q | q
       ·exact absurd q h7
       ·exact q
      rcases hcl with rfl | rfl
      all_goals
       have wQ := And.intro @hln (And.intro @hg @hs); repeat' (first | with_reducible (apply swq; constructor) | simp only [go_sem, seval, atB_M, pe49, hw, hln, hg, hs] | simp (disch := omega) only [w64, w32, wu8, wu16, wu32, wu64] | ((with_reducible refine zAb (zBg cB b) ?he ?hc ?_); (case he | hc => exact sc wQ)) | (with_reducible first | (apply cdA; constructor) | (apply gdA; constructor)) | ((with_reducible refine And.intro ?hw ?_); (case hw => exact sw wQ)) | with_reducible intro _)
       all_goals try (exfalso; omega)
       subst hRE
       refine zE7 hst hB hY (f := ⟨⟨2, (t.take (i + j)).drop i, i⟩, 11⟩) (hlx.symm.trans hls) (fun _ => rfl) _ (fun he => absurd he (by simp)) (fun he hk' => ?_)
       exact ⟨trivial, _, zFc n m hn0 hm0, by simp only [St.gc]; rw [hgc, ← hk']⟩
    ·rw [if_neg hbad] at hls
     rw [if_pos rfl] at hls
     obtain ⟨hk0, hk2, hdr⟩ := zCv (hlx.symm.trans hls)
     rw [hhw] at hbad
     have hw2 : decide (7 < j) = false := by simp; omega
     rw [hw2] at hw
     have v1 : (cl == 3) = false := by rw [beq_eq_false_iff_ne]; intro e; exact hbad (.inr (.inl e))
     have v2 : (cl == 5) = false := by rw [beq_eq_false_iff_ne]; intro e; exact hbad (.inr (.inr e))
     have wQ := And.intro @hln (And.intro @hg @hs); repeat' (first | with_reducible (apply swq; constructor) | simp only [go_sem, seval, atB_M, pe49, hw, v1, v2, hln, hg, hs] | simp (disch := omega) only [w64, w32, wu8, wu16, wu32, wu64] | ((with_reducible refine zAb (zBg cB b) ?he ?hc ?_); (case he | hc => exact sc wQ)) | (with_reducible first | (apply cdA; constructor) | (apply gdA; constructor)) | ((with_reducible refine And.intro ?hw ?_); (case hw => exact sw wQ)) | with_reducible intro _)
     all_goals try (exfalso; omega)
     subst hRE
     refine zE7 hst hB hY (f := ⟨⟨2, (t.take (i + j)).drop i, i⟩, 0⟩) (hlx.symm.trans hls) (fun he => absurd rfl he) _ (fun he => ?_) (fun he => absurd rfl he)
     exact ⟨(i + j, k + 1), ⟨by simp only; omega, by simp only; omega, hdr.symm⟩, by simp only; omega, next (i + j) (k + 1) _ _ rfl⟩
 ·
  rw [h] at cA
  have hso := zEv hil (.inr h)
  rw [hso] at hls
  simp only [noErr] at hls
  rw [if_neg (by decide)] at hls
  obtain ⟨hk0, hk2, hdr⟩ := zCv (hlx.symm.trans hls)
  have wQ := And.intro @hln (And.intro @hg @hs); repeat' (first | with_reducible (apply swq; constructor) | simp only [go_sem, seval, atB_M, pe49, hd, hln, hg, hs] | simp (disch := omega) only [w64, w32, wu8, wu16, wu32, wu64] | ((with_reducible refine zAb (zBg cA b) ?he ?hc ?_); (case he | hc => exact sc wQ)) | (with_reducible first | (apply cdA; constructor) | (apply gdA; constructor)) | ((with_reducible refine And.intro ?hw ?_); (case hw => exact sw wQ)) | with_reducible intro _)
  all_goals try (exfalso; omega)
  subst hRE
  refine zE7 hst hB hY (f := ⟨⟨0, [], i⟩, 10⟩) (hlx.symm.trans hls) (fun _ => rfl) _ (fun he => absurd he (by simp)) (fun he hk' => ?_)
  exact ⟨trivial, _, zFc n m hn0 hm0, by simp only [St.gc]; rw [hgc, ← hk']⟩
 ·
  rw [h] at cA
  have hso := step_sym hil h
  rw [hso] at hls hok
  simp only at hls hok
  rw [if_pos trivial] at hls
  have htd := take_drop' t i 1
  rw [← htd] at hls
  obtain ⟨hk0, hk2, hdr⟩ := zCv (hlx.symm.trans hls)
  have wQ := And.intro @hln (And.intro @hg @hs); repeat' (first | with_reducible (apply swq; constructor) | simp only [go_sem, seval, atB_M, pe49, hd, hln, hg, hs] | simp (disch := omega) only [w64, w32, wu8, wu16, wu32, wu64] | ((with_reducible refine zAb (zBg cA b) ?he ?hc ?_); (case he | hc => exact sc wQ)) | (with_reducible first | (apply cdA; constructor) | (apply gdA; constructor)) | ((with_reducible refine And.intro ?hw ?_); (case hw => exact sw wQ)) | with_reducible intro _)
  all_goals try (exfalso; omega)
  subst hRD
  refine reg34 (a := i) (b := i + 1) (hln k) (by omega) (by omega) rfl rfl rfl rfl _ ?_
  have wQ := And.intro @hln (And.intro @hg @hs); repeat' (first | with_reducible (apply swq; constructor) | simp only [go_sem, seval, atB_M, pe49, hln, hg, hs] | simp (disch := omega) only [w64, w32, wu8, wu16, wu32, wu64] | (with_reducible first | (apply cdA; constructor) | (apply gdA; constructor)) | ((with_reducible refine And.intro ?hw ?_); (case hw => exact sw wQ)) | with_reducible intro _)
  all_goals try (exfalso; omega)
  subst hRE
  refine zE7 hst hB hY (f := ⟨⟨4, (t.take (i + 1)).drop i, i⟩, 0⟩) (hlx.symm.trans hls) (fun he => absurd rfl he) _ (fun he => ?_) (fun he => absurd rfl he)
  exact ⟨(i + 1, k + 1), ⟨by simp only; omega, by simp only; omega, hdr.symm⟩, by simp only; omega, next (i + 1) (k + 1) _ _ rfl⟩
 ·
  rw [h] at cA
  have hso := step_quote hil h
  rw [hso] at hls hok
  have cQ := hq i hil h
  have hn2 : ∀ u nn, unq (t.drop (i + 1)) [] 1 = some (u, nn) → unqS t i = u ∧ unqN t i = nn := fun u nn e => by simp [unqS, unqN, e]
  have hn3 : unq (t.drop (i + 1)) [] 1 = none → unqS t i = [] ∧ unqN t i = 0 := fun e => by simp [unqS, unqN, e]
  cases hu : unq (t.drop (i + 1)) [] 1 with
  | none =>
    obtain ⟨e1, e2⟩ := hn3 hu
    rw [e1, e2] at cQ
    rw [hu] at hls hok
    simp only [noErr] at hls
    rw [if_neg (by decide)] at hls
    obtain ⟨hk0, hk2, hdr⟩ := zCv (hlx.symm.trans hls)
    have wQ := And.intro @hln (And.intro @hg @hs); repeat' (first | with_reducible (apply swq; constructor) | simp only [go_sem, seval, atB_M, pe49, hd, hln, hg, hs] | simp (disch := omega) only [w64, w32, wu8, wu16, wu32, wu64] | ((with_reducible refine zAb (zBg cA b) ?he ?hc ?_); (case he | hc => exact sc wQ)) | ((with_reducible refine zAb (zBg cQ b) ?he ?hc ?_); (case he | hc => exact sc wQ)) | (with_reducible first | (apply cdA; constructor) | (apply gdA; constructor)) | ((with_reducible refine And.intro ?hw ?_); (case hw => exact sw wQ)) | with_reducible intro _)
    all_goals try (exfalso; omega)
    subst hRE
    refine zE7 hst hB hY (f := ⟨⟨0, [], i⟩, 10⟩) (hlx.symm.trans hls) (fun _ => rfl) _ (fun he => absurd he (by simp)) (fun he hk' => ?_)
    exact ⟨trivial, _, zFc n m hn0 hm0, by simp only [St.gc]; rw [hgc, ← hk']⟩
  | some pr =>
    obtain ⟨u, nn⟩ := pr
    obtain ⟨e1, e2⟩ := hn2 u nn hu
    rw [e1, e2] at cQ
    rw [hu] at hls hok
    simp only at hls hok
    rw [if_pos trivial] at hls
    have hpos := hok.2 (by simp)
    have hle := hok.1
    obtain ⟨hk0, hk2, hdr⟩ := zCv (hlx.symm.trans hls)
    have hp : decide ((nn : Int) > 0) = true := by simp; omega
    have wQ := And.intro @hln (And.intro @hg @hs); repeat' (first | with_reducible (apply swq; constructor) | simp only [go_sem, seval, atB_M, pe49, hd, hp, hln, hg, hs] | simp (disch := omega) only [w64, w32, wu8, wu16, wu32, wu64] | ((with_reducible refine zAb (zBg cA b) ?he ?hc ?_); (case he | hc => exact sc wQ)) | ((with_reducible refine zAb (zBg cQ b) ?he ?hc ?_); (case he | hc => exact sc wQ)) | (with_reducible first | (apply cdA; constructor) | (apply gdA; constructor)) | ((with_reducible refine And.intro ?hw ?_); (case hw => exact sw wQ)) | with_reducible intro _)
    all_goals try (exfalso; omega)
    subst hRE
    refine zE7 hst hB hY (f := ⟨⟨3, u, i⟩, 0⟩) (hlx.symm.trans hls) (fun he => absurd rfl he) _ (fun he => ?_) (fun he => absurd rfl he)
    refine ⟨(i + nn, k + 1), ⟨by simp only; omega, by simp only; omega, hdr.symm⟩, by simp only; omega, ?_⟩
    refine next (i + nn) (k + 1) _ _ ?_
    simp [keepE, st0]
end Go.Proofs.YtkjnhkoipgdfeaaDoor
end
section
set_option maxRecDepth 100000
set_option linter.unusedSimpArgs false
set_option linter.unusedVariables false
namespace Go.Proofs.YtkjnhkoipgdfeaaDoor
open Go GoV Go.RowKit
@[reducible] def Tok.d (t : Tok) : D := .agg [.int .i64 t.kind, .str t.text, .int .i64 t.pos]
def tokL (l : List Tok) : List D := l.map Tok.d
theorem zDz (l : List Tok) : (tokL l).length = l.length := by simp [tokL]
theorem zEe (t : Tok) (l : List Tok) : tokL (t :: l) = t.d :: tokL l := rfl
theorem tokL_er : ∀ l : List Tok, D.erL (tokL l) = tokL l
 | [] => rfl
 | t :: l => by have := tokL_er l; simp_all [tokL, D.erL, D.er]
theorem zEf : ∀ l : List Tok, D.cL (tokL l) = true
 | [] => rfl
 | t :: l => by have := zEf l; simp_all [tokL, D.cL, D.closed]
theorem zAe (β τ : Nat → Option Nat) : ∀ l : List Tok, D.rnL β τ (tokL l) = tokL l
 | [] => rfl
 | t :: l => by have := zAe β τ l; simp_all [tokL, D.rnL, D.rn]
theorem zCn : ∀ l : List Tok, zAj 3 (tokL l) = true
 | [] => rfl
 | t :: l => by have := zCn l; simp_all [tokL, zAj, D.iV, D.cells]
def hpP (l : List Tok) (en : Int) : Hp := ⟨[.cells [.slice (tokL l) .no, .int .i64 en]], []⟩
def strs (l : List Tx) : List D := l.map .str
theorem strs_len (l : List Tx) : (strs l).length = l.length := by simp [strs]
theorem strs_get {l : List Tx} {i : Nat} (h : i < l.length) : (strs l).getD i .u0 = .str (l.getD i []) := by simp [strs, List.getD, h]
def gotI (k : Int) (ws : List Tx) (l : List Tok) : Int := match gotN k ws l with
 | some i => i
 | none => -1
def gotR (k : Int) (ws : List Tx) (l : List Tok) : List Tok := match gotN k ws l with
 | some _ => l.tail
 | none => l
theorem gotN_hit {k : Int} {ws : List Tx} {t : Tok} {r : List Tok} {j : Nat} (hk : t.kind = k) (hj : j < ws.length) (he : t.text = ws.getD j []) (hb : ∀ i, i < j → ¬ t.text = ws.getD i []) : gotN k ws (t :: r) = some j := by
 simp only [gotN, hk, if_true]
 rw [List.findIdx?_eq_some_iff_getElem]
 refine ⟨hj, by simpa [List.getD, hj] using he, fun i hi => ?_⟩
 have := hb i hi
 simp only [List.getD, List.getElem?_eq_getElem (Nat.lt_trans hi hj), Option.getD_some] at this
 simp [this]
theorem gotN_miss {k : Int} {ws : List Tx} {t : Tok} {r : List Tok} (h : t.kind = k → ∀ i, i < ws.length → ¬ t.text = ws.getD i []) : gotN k ws (t :: r) = none := by
 simp only [gotN]
 split
 ·rename_i hk
  rw [List.findIdx?_eq_none_iff]
  intro w hw
  obtain ⟨i, hi, rfl⟩ := List.getElem_of_mem hw
  have := h hk i hi
  simp only [List.getD, List.getElem?_eq_getElem hi, Option.getD_some] at this
  simp [this]
 ·rfl
set_option maxHeartbeats 1000000 in
theorem got_e (k : Int) (ws : List Tx) (hw : ws.length ≤ 10) (l : List Tok) (hl : l.length ≤ 100000) (en : Int) :
 Eff M 53 [.ptr 0 0, .int .i64 k, .slice (strs ws) .full] (hpP l en) fun d hp => d = .int .i64 (gotI k ws l) ∧ hp = hpP (gotR k ws l) en := by
 refine k53.oe 1 0 rfl rfl rfl ?_
 rw [ie53]
 unfold c53
 have hsl := strs_len ws
 unfold hpP
 have wQ := @hsl; repeat' (first | with_reducible (apply swq; constructor) | simp only [go_sem, seval, pe53, q53, hsl] | ((with_reducible apply zA9); (case hx => exact sd wQ)) | ((with_reducible first | apply zA7 | apply zA8); (case h0 | h1 | hx => exact sd wQ)) | ((with_reducible apply zA6); (case h0 | h1 | h2 | hx => exact sd wQ)) | ((with_reducible first | apply zA4 | apply zA5); (case h0 | h1 | hc => exact sd wQ)) | ((with_reducible apply zA3); (case h0 | h1 | h2 | hc => exact sd wQ)) | (with_reducible first | (apply cdA; constructor) | (apply gdA; constructor)) | ((with_reducible refine And.intro ?hw ?_); (case hw => exact sw wQ)) | with_reducible intro _)
 refine zB6 [0, 1, 6, 7, 8] (fun j : Nat => ⟨[.ptr 0 0, .int .i64 k, .u0, .u0, .u0, .u0, .slice (strs ws) .full, .int .i64 ws.length, .int .i64 j, .u0, .u0], [], hpP l en⟩)
  (fun j => j ≤ ws.length ∧ ∀ t r, l = t :: r → t.kind = k → ∀ i, i < j → ¬ t.text = ws.getD i []) (fun j => ws.length - j) 0 ⟨by omega, fun _ _ _ _ i hi => by omega⟩ ?_ ?_
 ·simp [keepE, St.keep, hpP]
 ·rintro j ⟨hj, hb⟩
  by_cases hjl : j < ws.length
  ·have hg := strs_get hjl
   have hd : decide ((j : Int) < ws.length) = true := by simp; omega
   unfold hpP
   cases l with
   | nil =>
     have e0 : tokL [] = [] := rfl
     rw [e0]
     have wQ := And.intro @hsl @hg; repeat' (first | with_reducible (apply swq; constructor) | simp only [go_sem, seval, pe53, q53, hsl, hg, hd] | simp (disch := omega) only [w64, w32, wu8, wu16, wu32, wu64] | ((with_reducible apply zA9); (case hx => exact sd wQ)) | ((with_reducible first | apply zA7 | apply zA8); (case h0 | h1 | hx => exact sd wQ)) | ((with_reducible apply zA6); (case h0 | h1 | h2 | hx => exact sd wQ)) | ((with_reducible first | apply zA4 | apply zA5); (case h0 | h1 | hc => exact sd wQ)) | ((with_reducible apply zA3); (case h0 | h1 | h2 | hc => exact sd wQ)) | (with_reducible first | (apply cdA; constructor) | (apply gdA; constructor)) | ((with_reducible refine And.intro ?hw ?_); (case hw => exact sw wQ)) | with_reducible intro _)
     all_goals try (exfalso; omega)
     refine ⟨j + 1, ⟨by omega, fun _ _ h => nomatch h⟩, by omega, ?_⟩
     simp [keepE, St.keep, hpP, e0]
   | cons t r =>
     have hlr := zDz r
     have hpos : decide (((r.length + 1 : Nat) : Int) > 0) = true := by simp only [decide_eq_true_eq]; omega
     have hcons := zEe t r
     rw [hcons]
     have hel := zCn r
     have hbb := hb t r rfl
     by_cases hk : t.kind = k
     ·have tk : (t.kind == k) = true := by simp [hk]
      by_cases he : t.text = ws.getD j []
      ·have te : (t.text == ws.getD j []) = true := by rw [beq_iff_eq]; exact he
       have hgn := gotN_hit (r := r) hk hjl he (hbb hk)
       have e1 : gotI k ws (t :: r) = j := by simp [gotI, hgn]
       have e2 : gotR k ws (t :: r) = r := by simp [gotR, hgn]
       rw [e1, e2]
       generalize ws.getD j [] = w at *
       generalize tokL r = R at *
       have wQ := And.intro @hsl (And.intro @hg (And.intro @hlr @hel)); repeat' (first | with_reducible (apply swq; constructor) | simp only [go_sem, seval, pe53, q53, hsl, hg, hd, hlr, hpos, tk, te, List.length_cons, List.drop_succ_cons, List.drop_zero] | simp (disch := omega) only [w64, w32, wu8, wu16, wu32, wu64] | ((with_reducible apply zA9); (case hx => exact sd wQ)) | ((with_reducible first | apply zA7 | apply zA8); (case h0 | h1 | hx => exact sd wQ)) | ((with_reducible apply zA6); (case h0 | h1 | h2 | hx => exact sd wQ)) | ((with_reducible first | apply zA4 | apply zA5); (case h0 | h1 | hc => exact sd wQ)) | ((with_reducible apply zA3); (case h0 | h1 | h2 | hc => exact sd wQ)) | (with_reducible first | (apply cdA; constructor) | (apply gdA; constructor)) | ((with_reducible refine And.intro ?hw ?_); (case hw => exact sw wQ)) | with_reducible intro _)
       all_goals try (exfalso; omega)
       exact ⟨_, zAo, by simp⟩
      ·have te : (t.text == ws.getD j []) = false := by rw [beq_eq_false_iff_ne]; exact he
       generalize hwd : ws.getD j [] = w at *
       generalize tokL r = R at *
       have wQ := And.intro @hsl (And.intro @hg (And.intro @hlr @hel)); repeat' (first | with_reducible (apply swq; constructor) | simp only [go_sem, seval, pe53, q53, hsl, hg, hd, hlr, hpos, tk, te, List.length_cons] | simp (disch := omega) only [w64, w32, wu8, wu16, wu32, wu64] | ((with_reducible apply zA9); (case hx => exact sd wQ)) | ((with_reducible first | apply zA7 | apply zA8); (case h0 | h1 | hx => exact sd wQ)) | ((with_reducible apply zA6); (case h0 | h1 | h2 | hx => exact sd wQ)) | ((with_reducible first | apply zA4 | apply zA5); (case h0 | h1 | hc => exact sd wQ)) | ((with_reducible apply zA3); (case h0 | h1 | h2 | hc => exact sd wQ)) | (with_reducible first | (apply cdA; constructor) | (apply gdA; constructor)) | ((with_reducible refine And.intro ?hw ?_); (case hw => exact sw wQ)) | with_reducible intro _)
       all_goals try (exfalso; omega)
       refine ⟨j + 1, ⟨by omega, fun t' r' h hk' i hi => ?_⟩, by omega, ?_⟩
       ·cases h
        by_cases e : i = j
        ·subst e; rw [hwd]; exact he
        ·exact hbb hk i (by omega)
       ·simp [keepE, St.keep, hcons, hpP]
     ·have tk : (t.kind == k) = false := by simp [hk]
      generalize tokL r = R at *
      have wQ := And.intro @hsl (And.intro @hg (And.intro @hlr @hel)); repeat' (first | with_reducible (apply swq; constructor) | simp only [go_sem, seval, pe53, q53, hsl, hg, hd, hlr, hpos, tk, List.length_cons] | simp (disch := omega) only [w64, w32, wu8, wu16, wu32, wu64] | ((with_reducible apply zA9); (case hx => exact sd wQ)) | ((with_reducible first | apply zA7 | apply zA8); (case h0 | h1 | hx => exact sd wQ)) | ((with_reducible apply zA6); (case h0 | h1 | h2 | hx => exact sd wQ)) | ((with_reducible first | apply zA4 | apply zA5); (case h0 | h1 | hc => exact sd wQ)) | ((with_reducible apply zA3); (case h0 | h1 | h2 | hc => exact sd wQ)) | (with_reducible first | (apply cdA; constructor) | (apply gdA; constructor)) | ((with_reducible refine And.intro ?hw ?_); (case hw => exact sw wQ)) | with_reducible intro _)
      all_goals try (exfalso; omega)
      refine ⟨j + 1, ⟨by omega, fun t' r' h hk' => by cases h; exact absurd hk' hk⟩, by omega, ?_⟩
      simp [keepE, St.keep, hcons, hpP]
  ·obtain rfl : j = ws.length := by omega
   have hd : decide ((ws.length : Int) < ws.length) = false := by simp
   have hgn : gotN k ws l = none := by
    cases l with
    | nil => rfl
    | cons t r => exact gotN_miss fun hk i hi => hb t r rfl hk i hi
   have e1 : gotI k ws l = -1 := by simp [gotI, hgn]
   have e2 : gotR k ws l = l := by simp [gotR, hgn]
   rw [e1, e2]
   unfold hpP
   have wQ := @hsl; repeat' (first | with_reducible (apply swq; constructor) | simp only [go_sem, seval, pe53, q53, hsl, hd] | simp (disch := omega) only [w64, w32, wu8, wu16, wu32, wu64] | ((with_reducible apply zA9); (case hx => exact sd wQ)) | ((with_reducible first | apply zA7 | apply zA8); (case h0 | h1 | hx => exact sd wQ)) | ((with_reducible apply zA6); (case h0 | h1 | h2 | hx => exact sd wQ)) | ((with_reducible first | apply zA4 | apply zA5); (case h0 | h1 | hc => exact sd wQ)) | ((with_reducible apply zA3); (case h0 | h1 | h2 | hc => exact sd wQ)) | (with_reducible first | (apply cdA; constructor) | (apply gdA; constructor)) | ((with_reducible refine And.intro ?hw ?_); (case hw => exact sw wQ)) | with_reducible intro _)
   all_goals try (exfalso; omega)
   exact ⟨_, zAo, by simp⟩
@[reducible] def probD (e p : Int) : D := .iface 62 (.agg [.int .i64 e, .int .i64 p])
theorem fail_x (l : List Tok) (hl : l.length ≤ 100000) (en e p : Int) (h : failP en l = .no e p) : Xff M 34 [.ptr 0 0] (hpP l en) fun d _ => d = probD e p := by
 refine zCm (C := E34 1 0) (fn := Tryd.f34) Tryd.func34 (by kernel_rfl) (by kernel_rfl) (rc := c34) z34 (by kernel_rfl) rfl (by rw [show ([D.ptr 0 0] : List D).length = 1 from rfl]; decide) rfl rfl ?_ rfl (fun _ _ => trivial)
 rw [ie34]
 unfold c34
 unfold hpP
 cases l with
 | nil =>
   cases h
   have e0 : tokL [] = [] := rfl
   rw [e0]
   have hz : (((0 : Nat) : Int) == 0) = true := rfl
   have hl0 : ([] : List D).length = 0 := rfl
   have wQ := tw; repeat' (first | with_reducible (apply swq; constructor) | simp only [go_sem, seval, zA2, pe34, q34, hz, hl0] | simp (disch := omega) only [w64, w32, wu8, wu16, wu32, wu64] | with_reducible (apply cdA; constructor) | ((with_reducible refine And.intro ?hw ?_); (case hw => exact sw wQ)) | with_reducible intro _)
   exact s_pan rfl
 | cons t r =>
   cases h
   have hlr := zDz r
   have hz : (((r.length + 1 : Nat) : Int) == 0) = false := by simp; omega
   rw [zEe]
   have hel := zCn r
   generalize tokL r = R at *
   have wQ := And.intro @hlr @hel; repeat' (first | with_reducible (apply swq; constructor) | simp only [go_sem, seval, zA2, pe34, q34, hlr, hz, List.length_cons] | simp (disch := omega) only [w64, w32, wu8, wu16, wu32, wu64] | with_reducible (apply cdA; constructor) | ((with_reducible refine And.intro ?hw ?_); (case hw => exact sw wQ)) | with_reducible intro _)
   all_goals try (exfalso; omega)
   exact s_pan rfl
theorem need_e (w : Tx) (l : List Tok) (hl : l.length ≤ 100000) (en : Int) {i : Nat} (h : gotN 4 [w] l = some i) : Eff M 59 [.ptr 0 0, .str w] (hpP l en) fun d hp => d = .tup [] ∧ hp = hpP l.tail en := by
 refine k59.oe 1 0 rfl rfl rfl ?_
 rw [ie59]
 unfold c59
 have c1 := got_e 4 [w] (by simp) l hl en
 have e1 : gotI 4 [w] l = i := by simp [gotI, h]
 have e2 : gotR 4 [w] l = l.tail := by simp [gotR, h]
 rw [e1, e2] at c1
 have e3 : strs [w] = [.str w] := rfl
 rw [e3] at c1
 have hd : decide ((i : Int) < 0) = false := by simp
 unfold hpP at c1 ⊢
 generalize tokL l = L at *
 generalize tokL l.tail = L' at *
 have wQ := tw; repeat' (first | with_reducible (apply swq; constructor) | simp only [go_sem, seval, pe59, q59, hd] | simp (disch := omega) only [w64, w32, wu8, wu16, wu32, wu64] | ((with_reducible refine o_same (c1) ?he ?hh ?_); (case he | hh => exact sh wQ)) | ((with_reducible apply s_bsl); (case he | hl | hc => exact sd wQ)) | with_reducible (apply cdA; constructor) | ((with_reducible refine And.intro ?hw ?_); (case hw => exact sw wQ)) | with_reducible intro _)
 exact ⟨_, zAo, by simp⟩
end Go.Proofs.YtkjnhkoipgdfeaaDoor
end
section
set_option maxRecDepth 100000
set_option linter.unusedSimpArgs false
set_option linter.unusedVariables false
namespace Go.Proofs.YtkjnhkoipgdfeaaDoor
open Go GoV Go.RowKit
@[reducible] def hpG (e p : Int) (T : List Tok) : Hp := ⟨[.cells [.lit (.slice none 0 0)], .cells [.int .i64 e], .cells [.int .i64 p], .cells [.slice (tokL T) (.tok 0)]], [.per 3 T.length]⟩
theorem hr1 : List.range 1 = [0] := rfl
theorem hr4 : List.range 4 = [0, 1, 2, 3] := rfl
theorem hr5 : List.range 5 = [0, 1, 2, 3, 4] := rfl
theorem steadyG (e p : Nat → Int) (T : Nat → List Tok) : Steady (fun k => hpG (e k) (p k) (T k)) 4 1 := by
 refine ⟨fun k => rfl, fun k => rfl, fun k L => ?_, fun k L => ?_, fun k L => ?_⟩
 ·simp [Hp.cut, Blk.rnL, Blk.rn, Tv.rnL, Tv.rn, D.rnL, D.rn, zAe, cutF, Own.rn]
 ·simp [Hp.sel, hr1, hr4, Blk.rnL, Blk.rn, Tv.rnL, Tv.rn, D.rnL, D.rn, zAe, posF, idx, Own.rn]
 ·simp [Hp.back, putAt, hr1, hr4, Blk.rnL, Blk.rn, Tv.rnL, Tv.rn, D.rnL, D.rn, zAe, bakF, Own.rn]
theorem steadyR (e p : Nat → Int) (T : Nat → List Tok) (r : Nat → Obj) : Steady (fun k => ⟨(hpG (e k) (p k) (T k)).H ++ [.raw (r k)], (hpG (e k) (p k) (T k)).tk⟩) 5 1 := by
 refine ⟨fun k => rfl, fun k => rfl, fun k L => ?_, fun k L => ?_, fun k L => ?_⟩
 ·simp [Hp.cut, Blk.rnL, Blk.rn, Tv.rnL, Tv.rn, D.rnL, D.rn, zAe, cutF, Own.rn]
 ·simp [Hp.sel, hr1, hr5, Blk.rnL, Blk.rn, Tv.rnL, Tv.rn, D.rnL, D.rn, zAe, posF, idx, Own.rn]
 ·simp [Hp.back, putAt, hr1, hr5, Blk.rnL, Blk.rn, Tv.rnL, Tv.rn, D.rnL, D.rn, zAe, bakF, Own.rn]
def tks (t : Tx) (k : Nat) : List Tok := ((lexR t).take k).map Fo.tok
def zB9 (t : Tx) (k : Nat) : Bool := isErr t && decide (k = (lexR t).length)
def lastF (t : Tx) : Fo := ((lexR t).getLast?).getD ⟨⟨0, [], 0⟩, 0⟩
def eK (t : Tx) (k : Nat) : Int := if zB9 t k then (lastF t).err else 0
def pK (t : Tx) (k : Nat) : Int := if zB9 t k then (lastF t).tok.pos else 0
def tK (t : Tx) (k : Nat) : List Tok := if zB9 t k then tks t (k - 1) else tks t k
theorem lexF_len : ∀ (a : Nat) (s : Tx) (i : Nat), (lexF a s i).length ≤ a
 | 0, s, i => by simp [lexF]
 | a + 1, s, i => by
   simp only [lexF]
   split
   ·simp
   ·cases (step s i).2 with
    | none => have := lexF_len a (s.drop (step s i).1) (i + (step s i).1); simp only; omega
    | some f =>
      simp only
      split
      ·have := lexF_len a (s.drop (step s i).1) (i + (step s i).1); simp; omega
      ·simp
theorem lexR_len (t : Tx) : (lexR t).length ≤ t.length := lexF_len _ _ _
theorem lexF_ok : ∀ (a : Nat) (s : Tx) (i k : Nat) (f : Fo), (lexF a s i)[k]? = some f → k + 1 < (lexF a s i).length → f.err = 0
 | 0, s, i, k, f, h, hk => by simp [lexF] at hk
 | a + 1, s, i, k, f, h, hk => by
   simp only [lexF] at h hk
   split at h
   ·simp at h
   ·rename_i hne
    rw [if_neg hne] at hk
    cases hs : (step s i).2 with
    | none =>
      simp only [hs] at h hk
      exact lexF_ok a _ _ k f h hk
    | some g =>
      simp only [hs] at h hk
      split at h
      ·rename_i he
       rw [if_pos he] at hk
       cases k with
       | zero => simp at h; rw [← h]; exact he
       | succ k =>
         simp at h hk
         exact lexF_ok a _ _ k f h hk
      ·rename_i he
       rw [if_neg he] at hk
       simp at hk
theorem last_of {t : Tx} {k : Nat} {f : Fo} (h : (lexR t)[k]? = some f) (hk : k + 1 = (lexR t).length) : lastF t = f := by
 unfold lastF
 rw [List.getLast?_eq_getElem?, ← hk, Nat.add_sub_cancel, h]; rfl
theorem zE1 {t : Tx} (h : (lexR t) ≠ []) : isErr t = !((lastF t).err == 0) := by
 unfold isErr lastF
 cases hg : (lexR t).getLast? with
 | none => exact absurd (List.getLast?_eq_none_iff.1 hg) h
 | some f => rfl
theorem lexP_err {t : Tx} (h : isErr t = true) : lexP t = ([], (lastF t).err, (lastF t).tok.pos) := by
 have hne : lexR t ≠ [] := fun e => by simp [isErr, e] at h
 have he : (lastF t).err ≠ 0 := by rw [zE1 hne] at h; simpa using h
 have hb : bad (lexR t) = some (lastF t) := by
  unfold bad
  have hl : (lexR t).getLast? = some (lastF t) := by
   unfold lastF
   cases hg : (lexR t).getLast? with
   | none => exact absurd (List.getLast?_eq_none_iff.1 hg) hne
   | some f => rfl
  rw [List.find?_eq_some_iff_getElem]
  refine ⟨by simp [he], (lexR t).length - 1, by have := List.length_pos_iff.2 hne; omega, ?_, fun j hj => ?_⟩
  ·rw [List.getLast?_eq_getElem?] at hl
   rw [List.getElem?_eq_getElem (by have := List.length_pos_iff.2 hne; omega)] at hl
   exact Option.some.inj hl
  ·have := lexF_ok _ _ _ j (lexR t)[j] (List.getElem?_eq_getElem _) (by show j + 1 < (lexR t).length; omega)
   simp [this]
 unfold lexP
 rw [hb]
theorem lexP_ok {t : Tx} (h : isErr t = false) : lexP t = ((lexR t).map Fo.tok, 0, 0) := by
 have hb : bad (lexR t) = none := by
  unfold bad
  rw [List.find?_eq_none]
  intro f hf
  obtain ⟨k, hk, rfl⟩ := List.getElem_of_mem hf
  by_cases hl : k + 1 = (lexR t).length
  ·have h1 := last_of (List.getElem?_eq_getElem hk) hl
   have h2 := zE1 (t := t) (fun e => by rw [e] at hk; simp at hk)
   rw [h, h1] at h2
   simpa using h2.symm
  ·have := lexF_ok _ _ _ k (lexR t)[k] (List.getElem?_eq_getElem _) (by show k + 1 < (lexR t).length; omega)
   simp [this]
 unfold lexP
 rw [hb]
end Go.Proofs.YtkjnhkoipgdfeaaDoor
end
section
set_option maxRecDepth 100000
set_option linter.unusedSimpArgs false
set_option linter.unusedVariables false
namespace Go.Proofs.YtkjnhkoipgdfeaaDoor
open Go GoV Go.RowKit
theorem reg27 {C : Cfg} {f : Fo} {O : D} {tk : List Tv} {e : List D} (he1 : e[1]? = some (.ptr 0 0)) (he2 : e[2]? = some (.ptr 1 0)) (he3 : e[3]? = some (.ptr 2 0)) (he5 : e[5]? = some (.ptr 4 0)) (Q : Ex → St → Prop)
 (hQ : Q .normal ⟨e, [], ⟨[.cells [.lit (.slice none 0 0)], .cells [.int .i64 f.err], .cells [.int .i64 f.tok.pos], .cells [O], .cells f.cells], tk⟩⟩) :
 SWp C (.regD r27_7 r27_8) Q ⟨e, [], ⟨[.cells [.lit (.slice none 0 0)], .cells [.int .i64 0], .cells [.int .i64 0], .cells [O], .cells f.cells], tk⟩⟩ := by
 have still : ∀ i, i ≠ 6 → Still (fun E => (⟨[.cells [.lit (.slice none 0 0)], .cells [if E 6 then .int .i64 f.err else .int .i64 0], .cells [.int .i64 0], .cells [O], .cells f.cells], tk⟩ : Hp)) i := fun i h E _ => by
  have : (6 == i) = false := by rw [beq_eq_false_iff_ne]; omega
  simp [this]
 refine zBx (fun E => ⟨[.cells [.lit (.slice none 0 0)], .cells [if E 6 then .int .i64 f.err else .int .i64 0], .cells [.int .i64 0], .cells [O], .cells f.cells], tk⟩) (by simp) ?_
 refine y_q (ds := [.ptr 4 0]) (.ptr 4 3) (by simp [go_sem, he5]) (still _ (by decide)) (fun _ => by simp [OcWp, zAa, isPan, opWp]) ?_
 refine y_c (ds := [.ptr 4 3]) (d := .int .i64 f.err) (by simp [go_sem]) (fun E hE => ?_) ?_
 ·simp [OcWp, zAa, isPan, opWp, Blk.csq]
 refine y_q (ds := [.ptr 4 0]) (.ptr 4 0) (by simp [go_sem, he5]) (still _ (by decide)) (fun _ => by simp [OcWp, zAa, isPan, opWp]) ?_
 refine y_q (ds := [.ptr 4 0]) (.ptr 4 2) (by simp [go_sem]) (still _ (by decide)) (fun _ => by simp [OcWp, zAa, isPan, opWp]) ?_
 refine y_c (ds := [.ptr 4 2]) (d := .int .i64 f.tok.pos) (by simp [go_sem]) (fun E hE => ?_) ?_
 ·simp [OcWp, zAa, isPan, opWp, Blk.csq]
 refine y_c (ds := [.ptr 0 0, .lit (.slice none 0 0)]) (d := .skip) (by simp [go_sem, he1]) (fun E hE => ?_) ?_
 ·simp [OcWp, zAa, isPan, opWp, Blk.csq, Blk.putc, D.iV, D.cells, setL]
 refine y_c (ds := [.ptr 1 0, .int .i64 f.err]) (d := .skip) (by simp [go_sem, he2]) (fun E hE => ?_) ?_
 ·have hE' : E 6 = false := hE
  simp [OcWp, zAa, isPan, opWp, hE', Blk.csq, Blk.putc, D.iV, D.cells, setL]
 refine y_end (hp' := ⟨[.cells [.lit (.slice none 0 0)], .cells [.int .i64 f.err], .cells [.int .i64 0], .cells [O], .cells f.cells], tk⟩) (by simp) ?_
 simp only [go_sem, he1, he2, he3, he5]
 simp [go_sem, he1, he2, he3, he5, setL, D.iV, D.cells, St.done]
 exact hQ
theorem rnL_app2 (β τ : Nat → Option Nat) : ∀ a b : List D, D.rnL β τ (a ++ b) = D.rnL β τ a ++ D.rnL β τ b
 | [], b => rfl
 | d :: a, b => by simp [D.rnL, rnL_app2 β τ a b]
set_option maxHeartbeats 2000000 in
theorem lex_p (t : Tx) (ht : t.length ≤ 4999) (hq : zEa t) : Pur M 27 [.str t] (.tup [.slice (tokL (lexP t).1) .no, .int .i64 (lexP t).2.1, .int .i64 (lexP t).2.2]) := by
 refine oT27 rfl ?_
 rw [i27]
 unfold c27
 have h1 := tokens_p t
 have hit := toks_it t (by omega) hq
 have hrl : (rows t).length = (lexR t).length := by simp [rows]
 have hll := lexR_len t
 have hd0 : decide ((t.length : Int) > 20000) = false := by simp; omega
 have wQ := tw; repeat' (first | with_reducible (apply swq; constructor) | with_reducible apply twp_seq | with_reducible apply zEd | ((with_reducible refine twp_reg ?hb ?_); (case hb => exact fun _ _ => trivial); with_reducible intro _) | ((with_reducible refine zFp ?hb ?_); (case hb => exact fun _ _ => trivial); with_reducible intro _) | ((with_reducible refine zFq ?hb ?_); (case hb => exact fun _ _ => trivial); with_reducible intro _) | ((with_reducible refine twp_ret ?hb ?_); (case hb => exact fun _ _ => trivial)) | simp only [go_sem, seval, P27, q27, hd0] | simp (disch := omega) only [w64, w32, wu8, wu16, wu32, wu64] | ((with_reducible refine zAb (h1) ?he ?hc ?_); (case he | hc => exact sc wQ)) | ((with_reducible apply zAp); (case he => rfl); (case hK | hc | hr | hV => exact sd wQ)) | ((with_reducible apply zAq); (case he => rfl); (case hV | hK | hr | hl => exact sd wQ)) | ((with_reducible apply zAs); (case he => rfl); (case hK | hc | hr => exact sd wQ)) | ((with_reducible apply zAr); (case he => rfl); (case hK | hc | hr | hx | hn => exact sd wQ)) | ((with_reducible apply s_bsl); (case he | hl | hc => exact sd wQ)) | with_reducible (apply cdA; constructor) | ((with_reducible refine And.intro ?hw ?_); (case hw => exact sw wQ)) | with_reducible intro _)
 all_goals try (exfalso; omega)
 refine twp_weak (fun _ => zDn 3 0 3 (by decide) rfl rfl) ?_
 have hs0 : ∀ k, k < (lexR t).length → zB9 t k = false := fun k hk => by
  have : ¬ k = (lexR t).length := by omega
  simp [zB9, this]
 refine twp_rangeS (fun _ _ => trivial) hit (fun k => hpG (eK t k) (pK t k) (tK t k)) 4 1 (steadyG _ _ _) (fun r => steadyR _ _ _ r) ?hrow ?hstp rfl ?hlen ?h0 ?hr ?hd
 case hrow =>
  intro r hr
  obtain ⟨f, _, rfl⟩ := List.mem_map.1 hr
  simp [rowD, D.rnL, D.rn]
 case hstp =>
  intro h e
  have e2 : lexR t = [] := by simpa [rows] using e
  simp [isErr, e2] at h
 case hlen =>
  intro r hr
  obtain ⟨f, _, rfl⟩ := List.mem_map.1 hr
  rfl
 case h0 =>
  by_cases h : (lexR t).length = 0
  ·have e2 : lexR t = [] := List.length_eq_zero_iff.1 h
   have e3 : isErr t = false := by simp [isErr, e2]
   simp [eK, pK, tK, zB9, e3, tks, tokL, hpG]
  ·simp [eK, pK, tK, hs0 0 (by omega), tks, tokL, hpG]
 case hr =>
  intro k r hk
  have hkl : k < (lexR t).length := by rw [← hrl]; exact (List.getElem?_eq_some_iff.1 hk).1
  obtain ⟨f, hf, rfl⟩ : ∃ f, (lexR t)[k]? = some f ∧ rowD f = r := by
   have : (rows t)[k]? = some (rowD (lexR t)[k]) := by simp [rows, hkl]
   exact ⟨_, List.getElem?_eq_getElem hkl, Option.some.inj (this.symm.trans hk)⟩
  have z1 : eK t k = 0 := by simp [eK, hs0 k hkl]
  have z2 : pK t k = 0 := by simp [pK, hs0 k hkl]
  have z3 : tK t k = tks t k := by simp [tK, hs0 k hkl]
  have zl : (tks t k).length = k := by simp [tks]; omega
  simp only [z1, z2, z3, binds, rowD]
  by_cases he : f.err = 0
  ·have hns : zB9 t (k + 1) = false := by
    by_cases hl : k + 1 = (lexR t).length
    ·have h2 := zE1 (t := t) (fun e => by rw [e] at hkl; simp at hkl)
     rw [last_of hf hl, he] at h2
     simp [zB9, h2]
    ·simp [zB9, hl]
   have y1 : yans (rows t) (isErr t) k = true := by
    have : (lexR t).drop k = f :: (lexR t).drop (k + 1) := by
     rw [List.drop_eq_getElem_cons hkl]; congr 1
     rw [List.getElem?_eq_getElem hkl] at hf; exact Option.some.inj hf
    exact yes_row this he
   have w1 : eK t (k + 1) = 0 := by simp [eK, hns]
   have w2 : pK t (k + 1) = 0 := by simp [pK, hns]
   have w3 : tK t (k + 1) = tks t k ++ [f.tok] := by
    simp only [tK, hns, Bool.false_eq_true, if_false, tks]
    rw [List.take_succ_eq_append_getElem hkl, List.map_append]
    rw [List.getElem?_eq_getElem hkl] at hf
    rw [Option.some.inj hf]; rfl
   rw [w1, w2, w3]
   have h0 : (f.err != 0) = false := by simp [he]
   have hT := zDz (tks t k)
   have hel := zCn (tks t k)
   have h5 : (((tks t k).length : Int) == 5000) = false := by rw [beq_eq_false_iff_ne]; omega
   have happ : tokL (tks t k ++ [f.tok]) = tokL (tks t k) ++ [f.tok.d] := by simp [tokL]
   generalize tks t k = T at *
   have wQ := And.intro @hT @hel; repeat' (first | with_reducible (apply swq; constructor) | with_reducible apply twp_seq | with_reducible apply zEd | ((with_reducible refine twp_reg ?hb ?_); (case hb => exact fun _ _ => trivial); with_reducible intro _) | ((with_reducible refine zFp ?hb ?_); (case hb => exact fun _ _ => trivial); with_reducible intro _) | ((with_reducible refine zFq ?hb ?_); (case hb => exact fun _ _ => trivial); with_reducible intro _) | ((with_reducible refine twp_ret ?hb ?_); (case hb => exact fun _ _ => trivial)) | simp only [go_sem, seval, P27, q27, h0, hT, h5] | simp (disch := omega) only [w64, w32, wu8, wu16, wu32, wu64] | ((with_reducible apply zAp); (case he => rfl); (case hK | hc | hr | hV => exact sd wQ)) | ((with_reducible apply zAq); (case he => rfl); (case hV | hK | hr | hl => exact sd wQ)) | ((with_reducible apply zAs); (case he => rfl); (case hK | hc | hr => exact sd wQ)) | ((with_reducible apply zAr); (case he => rfl); (case hK | hc | hr | hx | hn => exact sd wQ)) | ((with_reducible apply s_bsl); (case he | hl | hc => exact sd wQ)) | with_reducible (apply cdA; constructor) | ((with_reducible refine And.intro ?hw ?_); (case hw => exact sw wQ)) | with_reducible intro _)
   all_goals try (exfalso; omega)
   refine ⟨_, zAo, ?_⟩
   simp [Hp.cut, Blk.rnL, Blk.rn, Tv.rnL, Tv.rn, D.rnL, D.rn, zAe, cutF, Own.rn, happ, hpG, rnL_app2]
  ·have hkk : k + 1 = (lexR t).length := by
    rcases Nat.lt_or_ge (k + 1) (lexR t).length with q | q
    ·exact absurd (lexF_ok _ _ _ k f hf q) he
    ·omega
   have hlast := last_of hf hkk
   have hE : isErr t = true := by
    rw [zE1 (t := t) (fun e => by rw [e] at hkl; simp at hkl), hlast]; simp [he]
   have hns : zB9 t (k + 1) = true := by simp [zB9, hkk, hE]
   have y1 : yans (rows t) (isErr t) k = false := by simp [yans, hE, hrl, hkk]
   have w1 : eK t (k + 1) = f.err := by simp [eK, hns, hlast]
   have w2 : pK t (k + 1) = f.tok.pos := by simp [pK, hns, hlast]
   have w3 : tK t (k + 1) = tks t k := by simp [tK, hns]
   rw [w1, w2, w3]
   have h0 : (f.err != 0) = true := by simp [he]
   generalize tks t k = T at *
   obtain ⟨RA, hRA⟩ : ∃ R, R = (RC.regD r27_7 r27_8) := ⟨_, rfl⟩
   rw [← hRA]
   have wQ := tw; repeat' (first | with_reducible (apply swq; constructor) | with_reducible apply twp_seq | with_reducible apply zEd | ((with_reducible refine twp_reg ?hb ?_); (case hb => exact fun _ _ => trivial); with_reducible intro _) | ((with_reducible refine zFp ?hb ?_); (case hb => exact fun _ _ => trivial); with_reducible intro _) | ((with_reducible refine zFq ?hb ?_); (case hb => exact fun _ _ => trivial); with_reducible intro _) | ((with_reducible refine twp_ret ?hb ?_); (case hb => exact fun _ _ => trivial)) | simp only [go_sem, seval, P27, q27, h0] | simp (disch := omega) only [w64, w32, wu8, wu16, wu32, wu64] | ((with_reducible apply zAp); (case he => rfl); (case hK | hc | hr | hV => exact sd wQ)) | ((with_reducible apply zAq); (case he => rfl); (case hV | hK | hr | hl => exact sd wQ)) | ((with_reducible apply zAs); (case he => rfl); (case hK | hc | hr => exact sd wQ)) | ((with_reducible apply zAr); (case he => rfl); (case hK | hc | hr | hx | hn => exact sd wQ)) | ((with_reducible apply s_bsl); (case he | hl | hc => exact sd wQ)) | with_reducible (apply cdA; constructor) | ((with_reducible refine And.intro ?hw ?_); (case hw => exact sw wQ)) | with_reducible intro _)
   all_goals try (exfalso; omega)
   subst hRA
   refine reg27 rfl rfl rfl rfl _ ?_
   have wQ := tw; repeat' (first | with_reducible (apply swq; constructor) | with_reducible apply twp_seq | with_reducible apply zEd | ((with_reducible refine twp_reg ?hb ?_); (case hb => exact fun _ _ => trivial); with_reducible intro _) | ((with_reducible refine zFp ?hb ?_); (case hb => exact fun _ _ => trivial); with_reducible intro _) | ((with_reducible refine zFq ?hb ?_); (case hb => exact fun _ _ => trivial); with_reducible intro _) | ((with_reducible refine twp_ret ?hb ?_); (case hb => exact fun _ _ => trivial)) | simp only [go_sem, seval, P27, q27] | simp (disch := omega) only [w64, w32, wu8, wu16, wu32, wu64] | ((with_reducible apply zAp); (case he => rfl); (case hK | hc | hr | hV => exact sd wQ)) | ((with_reducible apply zAq); (case he => rfl); (case hV | hK | hr | hl => exact sd wQ)) | ((with_reducible apply zAs); (case he => rfl); (case hK | hc | hr => exact sd wQ)) | ((with_reducible apply zAr); (case he => rfl); (case hK | hc | hr | hx | hn => exact sd wQ)) | ((with_reducible apply s_bsl); (case he | hl | hc => exact sd wQ)) | with_reducible (apply cdA; constructor) | ((with_reducible refine And.intro ?hw ?_); (case hw => exact sw wQ)) | with_reducible intro _)
   refine ⟨_, zAo, ?_⟩
   simp [Hp.cut, Blk.rnL, Blk.rn, Tv.rnL, Tv.rn, D.rnL, D.rn, zAe, cutF, Own.rn, hpG]
 case hd =>
  intro o
  rw [hrl]
  cases hE : isErr t
  ·rw [lexP_ok hE]
   have hns : zB9 t (lexR t).length = false := by simp [zB9, hE]
   have w1 : eK t (lexR t).length = 0 := by simp [eK, hns]
   have w2 : pK t (lexR t).length = 0 := by simp [pK, hns]
   have w3 : tK t (lexR t).length = (lexR t).map Fo.tok := by simp [tK, hns, tks]
   rw [w1, w2, w3]
   simp only [Bool.false_eq_true, if_false]
   generalize (lexR t).map Fo.tok = T at *
   have hel := zCn T
   have her := tokL_er T
   have hcl := zEf T
   generalize tokL T = LT at *
   have wQ := @hel; repeat' (first | with_reducible (apply swq; constructor) | with_reducible apply twp_seq | with_reducible apply zEd | ((with_reducible refine twp_reg ?hb ?_); (case hb => exact fun _ _ => trivial); with_reducible intro _) | ((with_reducible refine zFp ?hb ?_); (case hb => exact fun _ _ => trivial); with_reducible intro _) | ((with_reducible refine zFq ?hb ?_); (case hb => exact fun _ _ => trivial); with_reducible intro _) | ((with_reducible refine twp_ret ?hb ?_); (case hb => exact fun _ _ => trivial)) | simp only [go_sem, seval, P27, q27] | simp (disch := omega) only [w64, w32, wu8, wu16, wu32, wu64] | ((with_reducible apply zAp); (case he => rfl); (case hK | hc | hr | hV => exact sd wQ)) | ((with_reducible apply zAq); (case he => rfl); (case hV | hK | hr | hl => exact sd wQ)) | ((with_reducible apply zAs); (case he => rfl); (case hK | hc | hr => exact sd wQ)) | ((with_reducible apply zAr); (case he => rfl); (case hK | hc | hr | hx | hn => exact sd wQ)) | ((with_reducible apply s_bsl); (case he | hl | hc => exact sd wQ)) | with_reducible (apply cdA; constructor) | ((with_reducible refine And.intro ?hw ?_); (case hw => exact sw wQ)) | with_reducible intro _)
   refine ⟨_, fun _ => zAo, ?_⟩
   simp [D.closed, D.er, D.cL, D.erL, hcl, her, go_sem, setL]
  ·rw [lexP_err hE]
   have hne : lexR t ≠ [] := fun e => by simp [isErr, e] at hE
   have hns : zB9 t (lexR t).length = true := by simp [zB9, hE]
   have w1 : eK t (lexR t).length = (lastF t).err := by simp [eK, hns]
   have w2 : pK t (lexR t).length = (lastF t).tok.pos := by simp [pK, hns]
   rw [w1, w2]
   simp only [if_true]
   refine ⟨trivial, _, fun _ => zDn 0 0 1 (by decide) rfl rfl, ?_⟩
   simp [go_sem, D.closed, D.cL, D.er, D.erL, tokL]
end Go.Proofs.YtkjnhkoipgdfeaaDoor
end
section
set_option maxRecDepth 100000
set_option linter.unusedSimpArgs false
set_option linter.unusedVariables false
namespace Go.Proofs.YtkjnhkoipgdfeaaDoor
open Go GoV Go.RowKit
def numOk (s : Tx) : Prop := s ≠ [] ∧ s.all isDig = true ∧ s.length ≤ 7
def GoodT (l : List Tok) : Prop := ∀ t ∈ l, t.kind = 2 → numOk t.text
theorem GoodT.suf {l r : List Tok} (h : GoodT l) (hs : r <:+ l) : GoodT r := fun t ht => h t (hs.subset ht)
def OpOk (f : FuncId) (op : List Tok → PR) (en : Int) (N : Nat) : Prop := ∀ l g r, l.length ≤ N → GoodT l → op l = .ok g r →
 (Eff M f [.ptr 0 0] (hpP l en) fun d hp => d = g.d ∧ hp = hpP r en) ∧ r.length < l.length ∧ r <:+ l
theorem zBt {k : Int} {ws : List Tx} {l : List Tok} {i : Nat} (h : gotN k ws l = some i) : ∃ t r, l = t :: r ∧ gotI k ws l = i ∧ gotR k ws l = r ∧ i < ws.length ∧ t.kind = k ∧ t.text = ws.getD i [] := by
 cases l with
 | nil => simp [gotN] at h
 | cons t r =>
   refine ⟨t, r, rfl, by simp [gotI, h], by simp [gotR, h], ?_⟩
   simp only [gotN] at h
   split at h
   ·rename_i hk
    rw [List.findIdx?_eq_some_iff_getElem] at h
    obtain ⟨h1, h2, _⟩ := h
    refine ⟨h1, hk, ?_⟩
    have := eq_of_beq h2
    simp [List.getD, h1, this]
   ·cases h
theorem zDu {k : Int} {ws : List Tx} {l : List Tok} (h : gotN k ws l = none) : gotI k ws l = -1 ∧ gotR k ws l = l := by simp [gotI, gotR, h]
theorem reg45 {C : Cfg} {F0 : FuncId} {g g' : F} {lt r' : List Tok} {en first : Int} {i : Nat} (hf : -1000 ≤ first) (hf2 : first ≤ 1000) (hi : i ≤ 10) {e : List D}
 (he1 : e[1]? = some (.int .i64 first)) (he2 : e[2]? = some (.fn (.func F0) [.ptr 0 0] [])) (he5 : e[5]? = some (.ptr 2 0)) (he6 : e[6]? = some (.int .i64 (i : Nat)))
 (hc : Eff C.M F0 [.ptr 0 0] (hpP lt en) fun d hp => d = g'.d ∧ hp = hpP r' en) (Q : Ex → St → Prop)
 (hQ : ∃ s1, Weak C ⟨e, [], ⟨[.cells [.slice (tokL r') .no, .int .i64 en], .cells [.int .i64 0, .int .i64 0, .lit (.slice none 0 0)], .cells [.int .i64 (first + i), .int .i64 0, .slice [g.d, g'.d] .full]], []⟩⟩ s1 ∧ Q .normal s1) :
 SWp C (.regD r45_5 r45_6) Q ⟨e, [], ⟨[.cells [.slice (tokL lt) .no, .int .i64 en], .cells [.int .i64 0, .int .i64 0, .lit (.slice none 0 0)], .cells g.cells], []⟩⟩ := by
 refine zFs (Q := fun x s' => x = .normal ∧ s' = ⟨e, [], ⟨[.cells [.slice (tokL r') .no, .int .i64 en], .cells [.int .i64 0, .int .i64 0, .lit (.slice none 0 0)], .cells [.int .i64 (first + i), .int .i64 0, .slice [g.d, g'.d] .full]], []⟩⟩) ?_ (fun x s' hx => by
  obtain ⟨rfl, rfl⟩ := hx; exact hQ)
 obtain ⟨F, hF⟩ : ∃ F : (Nat → Bool) → Hp, F = fun E => ⟨[if E 5 then .cells [.slice (tokL r') .no, .int .i64 en] else .cells [.slice (tokL lt) .no, .int .i64 en], .cells [.int .i64 0, .int .i64 0, .lit (.slice none 0 0)], .cells g.cells], []⟩ := ⟨_, rfl⟩
 have still : ∀ i, i ≠ 5 → Still F i := fun i h E _ => by
  have : (5 == i) = false := by rw [beq_eq_false_iff_ne]; omega
  simp [hF, this]
 have hgd := g.d_eq
 have hgd' := g'.d_eq
 refine zBx F (by simp [hF]) ?_
 refine y_q (ds := [.int .i64 first]) (.int .i64 first) (by simp [go_sem, he1]) (still _ (by decide)) (fun _ => by simp [OcWp, zAa, isPan, opWp]) ?_
 refine y_q (ds := [.int .i64 (i : Nat)]) (.int .i64 (i : Nat)) (by simp [go_sem, he6]) (still _ (by decide)) (fun _ => by simp [OcWp, zAa, isPan, opWp]) ?_
 refine y_q (ds := [.int .i64 first, .int .i64 (i : Nat)]) (.int .i64 (first + i)) (by simp [go_sem]) (still _ (by decide)) (fun _ => by
  simp only [OcWp, zAa, isPan, opWp, binWp, Bool.false_eq_true, if_false]
  rw [w64 (by omega) (by omega)]; simp) ?_
 refine y_c (ds := [.ptr 2 0]) (d := .agg g.cells) (by simp [go_sem, he5]) (fun E hE => ?_) ?_
 ·rw [still 3 (by decide) E hE]; simp [hF, OcWp, zAa, isPan, opWp, Blk.csq]
 refine y_q (ds := [.fn (.func F0) [.ptr 0 0] []]) (.fn (.func F0) [.ptr 0 0] []) (by simp [go_sem, he2]) (still _ (by decide)) (fun _ => by simp [OcWp, zAa, isPan, opWp]) ?_
 refine y_c (ds := [.fn (.func F0) [.ptr 0 0] []]) (d := g'.d) (by simp [go_sem]) (fun E hE => ?_) ?_
 ·have hE' : E 5 = false := hE
  simp only [OcWp, zAa, isPan, if_true]
  refine zD9 [0] [] hc ⟨by simp, by simp, by simp [hF], by simp⟩ (by simp [D.rnL, D.rn, posF, idx]) (by simp [hF, hE', hpP, Hp.sel, Blk.rnL, Blk.rn, Tv.rnL, D.rnL, D.rn, zAe, Own.rn]) ?_
  rintro d hp1 ⟨rfl, rfl⟩
  refine ⟨rn_F _ _ _, ?_⟩
  simp [hF, hE', hpP, Hp.back, putAt, Blk.rnL, Blk.rn, Tv.rnL, D.rnL, D.rn, zAe, Own.rn]
 have hva := zEo g
 have hvb := zEo g'
 have hca := cl_F g
 have hcb := cl_F g'
 refine y_q (ds := [.agg g.cells, g'.d]) (.slice [g.d, g'.d] .full) (by simp [go_sem]) (still _ (by decide)) (fun _ => by
  rw [← hgd]
  simp [OcWp, zAa, isPan, opWp, zAj, hva, hvb, D.cL, hca, hcb, D.erL, er_F]) ?_
 refine y_end (hp' := ⟨[.cells [.slice (tokL r') .no, .int .i64 en], .cells [.int .i64 0, .int .i64 0, .lit (.slice none 0 0)], .cells g.cells], []⟩) (by simp [hF]) ?_
 simp only [go_sem, he1, he2, he5, he6]
 simp [go_sem, he1, he2, he5, he6, setL, D.iV, D.cells, St.done, fillL]
set_option maxHeartbeats 2000000 in
theorem chain_e {F0 : FuncId} {op : List Tok → PR} {en : Int} {N : Nat} (hop : OpOk F0 op en N) (hN : N ≤ 100000) (first : Int) (hf : -1000 ≤ first) (hf2 : first ≤ 1000) (a b : Tx) : ∀ l g r, l.length ≤ N → GoodT l → zDw op first a b l = .ok g r →
 (Eff M 45 [.ptr 0 0, .int .i64 first, .fn (.func F0) [.ptr 0 0] [], .slice (strs [a, b]) .full] (hpP l en) fun d hp => d = g.d ∧ hp = hpP r en) ∧ r.length < l.length ∧ r <:+ l := by
 intro l g r hl hG hch
 unfold zDw thenP at hch
 cases hol : op l with
 | no e p => rw [hol] at hch; cases hch
 | ok f0 r0 =>
   rw [hol] at hch
   simp only at hch
   obtain ⟨c0, hr0, hs0⟩ := hop l f0 r0 hl hG hol
   have key : ∀ k f l', loopP op first a b k f l' = .ok g r → l'.length ≤ k → l'.length ≤ N → GoodT l' → r.length ≤ l'.length ∧ r <:+ l' := by
    intro k
    induction k with
    | zero => intro f l' h _ _ _; simp only [loopP] at h; cases h; exact ⟨Nat.le_refl _, List.suffix_refl _⟩
    | succ k ih =>
      intro f l' h hk hN' hG'
      simp only [loopP] at h
      cases hgn : gotN 4 [a, b] l' with
      | none => rw [hgn] at h; cases h; exact ⟨Nat.le_refl _, List.suffix_refl _⟩
      | some i =>
        rw [hgn] at h
        obtain ⟨t, lt, rfl, _⟩ := zBt hgn
        simp only [List.tail_cons, thenP] at h
        cases ho2 : op lt with
        | no e p => rw [ho2] at h; cases h
        | ok f2 r2 =>
          rw [ho2] at h
          simp only [List.length_cons] at hk hN'
          obtain ⟨_, q1, q2⟩ := hop lt f2 r2 (by omega) (hG'.suf (List.suffix_cons _ _)) ho2
          obtain ⟨q3, q4⟩ := ih _ _ h (by omega) (by omega) (hG'.suf (q2.trans (List.suffix_cons _ _)))
          exact ⟨by simp; omega, q4.trans (q2.trans (List.suffix_cons _ _))⟩
   obtain ⟨kl, ks⟩ := key _ _ _ hch (Nat.le_refl _) (by omega) (hG.suf hs0)
   refine ⟨?_, by omega, ks.trans hs0⟩
   refine zD8 1 0 (Nat.le_refl _) (Nat.le_refl _) (fun β τ => rn_F β τ g) ?_
   refine k45.oe 1 0 rfl rfl rfl ?_
   rw [ie45]
   unfold c45
   have e3 : strs [a, b] = [.str a, .str b] := rfl
   have hfd := f0.d_eq
   have hrn := fun β τ => rnL_F β τ f0.kids
   rw [hfd] at c0
   obtain ⟨RA, hRA⟩ : ∃ R, R = (RC.regD r45_5 r45_6) := ⟨_, rfl⟩
   rw [← hRA]
   unfold hpP at c0 ⊢
   have wQ := And.intro @zAe @hrn; repeat' (first | with_reducible (apply swq; constructor) | simp only [go_sem, seval, pe45, q45, e3] | ((with_reducible first | refine c_eff [0] [] (c0) ?hs ?he ?hh ?_ | refine o_eff [0] [] (c0) ?hs ?he ?hh ?_); (case hs => exact so); (case he | hh => exact sh wQ); try rintro _ _ ⟨rfl, rfl⟩) | ((with_reducible first | apply s_bsl | apply t_bsl); (case he | hl | hc => exact sd wQ)) | with_reducible (apply cdA; constructor) | ((with_reducible refine And.intro ?hw ?_); (case hw => exact sw wQ)) | with_reducible intro _)
   refine zB6 [0, 1, 2, 3, 4, 5] (fun x : F × List Tok × Nat => ⟨[.ptr 0 0, .int .i64 first, .fn (.func F0) [.ptr 0 0] [], .slice (strs [a, b]) .full, .ptr 1 0, .ptr 2 0, .u0, .u0], [], ⟨[.cells [.slice (tokL x.2.1) .no, .int .i64 en], .cells [.int .i64 0, .int .i64 0, .lit (.slice none 0 0)], .cells x.1.cells], []⟩⟩)
    (fun x => loopP op first a b x.2.2 x.1 x.2.1 = .ok g r ∧ x.2.1.length ≤ x.2.2 ∧ x.2.1.length ≤ N ∧ GoodT x.2.1) (fun x => x.2.2) (f0, r0, r0.length) ⟨hch, Nat.le_refl _, by simp only; omega, hG.suf hs0⟩ ?_ ?_
   ·simp [keepE, St.keep, e3]
   ·rintro ⟨f, l', k⟩ ⟨h1, h2, h3, h4⟩
    simp only at h1 h2 h3 h4 ⊢
    have c1 := got_e 4 [a, b] (by simp) l' (by omega) en
    rw [e3] at c1 ⊢
    have hrn2 := fun β τ => rnL_F β τ f.kids
    have hcl := zAh f.kids
    have her := erL_F f.kids
    cases hgn : gotN 4 [a, b] l' with
    | none =>
      obtain ⟨n1, n2⟩ := zDu hgn
      rw [n1, n2] at c1
      have : f = g ∧ l' = r := by
       cases k with
       | zero => simp only [loopP] at h1; cases h1; exact ⟨rfl, rfl⟩
       | succ k => simp only [loopP, hgn] at h1; cases h1; exact ⟨rfl, rfl⟩
      obtain ⟨rfl, rfl⟩ := this
      rw [F.d_eq]
      unfold hpP at c1
      have wQ := And.intro @zAe @hrn2; repeat' (first | with_reducible (apply swq; constructor) | simp only [go_sem, seval, pe45, q45] | ((with_reducible first | refine c_eff [0] [] (c1) ?hs ?he ?hh ?_ | refine o_eff [0] [] (c1) ?hs ?he ?hh ?_); (case hs => exact so); (case he | hh => exact sh wQ); try rintro _ _ ⟨rfl, rfl⟩) | ((with_reducible first | apply s_bsl | apply t_bsl); (case he | hl | hc => exact sd wQ)) | with_reducible (apply cdA; constructor) | ((with_reducible refine And.intro ?hw ?_); (case hw => exact sw wQ)) | with_reducible intro _)
      refine ⟨_, zAo, ?_⟩
      simp [D.closed, D.er, D.cL, D.erL, hcl, RcS, Hp.cut, Blk.rnL, Blk.rn, Tv.rnL, D.rnL, D.rn, zAe, Own.rn]
    | some i =>
      obtain ⟨t, lt, rfl, n1, n2, n3, n4, n5⟩ := zBt hgn
      rw [n1, n2] at c1
      obtain ⟨k, rfl⟩ : ∃ k', k = k' + 1 := ⟨k - 1, by simp only [List.length_cons] at h2; omega⟩
      simp only [loopP, hgn, List.tail_cons, thenP] at h1
      cases ho2 : op lt with
      | no e p => rw [ho2] at h1; cases h1
      | ok f2 r2 =>
        rw [ho2] at h1
        simp only at h1
        simp only [List.length_cons] at h2 h3
        obtain ⟨c2, q1, q2⟩ := hop lt f2 r2 (by omega) (h4.suf (List.suffix_cons _ _)) ho2
        have hd : decide ((i : Int) < 0) = false := by simp
        have c2' : Eff (E45 1 0).M F0 [.ptr 0 0] (hpP lt en) fun d hp => d = f2.d ∧ hp = hpP r2 en := by rw [pe45]; exact c2
        unfold hpP at c1
        have wQ := And.intro @zAe @hrn2; repeat' (first | with_reducible (apply swq; constructor) | simp only [go_sem, seval, pe45, q45, hd] | ((with_reducible first | refine c_eff [0] [] (c1) ?hs ?he ?hh ?_ | refine o_eff [0] [] (c1) ?hs ?he ?hh ?_); (case hs => exact so); (case he | hh => exact sh wQ); try rintro _ _ ⟨rfl, rfl⟩) | ((with_reducible first | apply s_bsl | apply t_bsl); (case he | hl | hc => exact sd wQ)) | with_reducible (apply cdA; constructor) | ((with_reducible refine And.intro ?hw ?_); (case hw => exact sw wQ)) | with_reducible intro _)
        subst hRA
        refine reg45 hf hf2 (by simp at n3; omega) rfl rfl rfl rfl c2' _ ?_
        refine ⟨_, weak_erB 2 rfl ?_, ?_⟩
        ·simp [D.cL, D.closed, cl_F]
        ·refine ⟨(.mk (first + i) 0 [f, f2], r2, k), ⟨h1, by simp only; omega, by simp only; omega, h4.suf (q2.trans (List.suffix_cons _ _))⟩, by simp only; omega, ?_⟩
         simp [keepE, St.keep, F.cells, F.op, F.num, F.kids, D.erL, D.er]
end Go.Proofs.YtkjnhkoipgdfeaaDoor
end
section
set_option maxRecDepth 100000
set_option linter.unusedSimpArgs false
set_option linter.unusedVariables false
namespace Go.Proofs.YtkjnhkoipgdfeaaDoor
open Go GoV Go.RowKit
theorem eff_nn {M : Mod} {f : FuncId} {args : List D} {hp hp1 : Hp} {d0 : D} (h : Eff M f args hp fun d h => d = d0 ∧ h = hp1) : Eff M f args hp fun d h => d = d0.nn ∧ h = hp1 := by
 refine ⟨h.1, fun w g xs hA hH hargs => (h.2 w g xs hA hH hargs).mono fun e w' hp => ?_⟩
 obtain ⟨v, d, hp', g', rfl, ⟨rfl, h3⟩, h4, h5⟩ := hp
 exact ⟨v, _, hp', g', rfl, ⟨rfl, h3⟩, h4, Rel.nn _ h5⟩
theorem decFrom_dig : ∀ (s : Tx) (acc : Nat), s.all isDig = true → ∃ n : Nat, Lib.decFrom acc s = some n ∧ (n : Int) = s.foldl (fun n c => 10 * n + ((c.toNat : Int) - 48)) (acc : Int)
 | [], acc, _ => ⟨acc, rfl, rfl⟩
 | c :: s, acc, h => by
   simp only [List.all_cons, Bool.and_eq_true] at h
   have hc : 48 ≤ c.toNat ∧ c.toNat ≤ 57 := by have := h.1; unfold isDig at this; exact of_decide_eq_true this
   obtain ⟨n, h1, h2⟩ := decFrom_dig s (acc * 10 + (c.toNat - 48)) h.2
   refine ⟨n, ?_, ?_⟩
   ·simp only [Lib.decFrom, Lib.digitVal, if_pos hc]; exact h1
   ·rw [h2, List.foldl_cons]; congr 1; omega
theorem atoi_dig {s : Tx} (h : numOk s) : Lib.atoi s = some (digs s) := by
 obtain ⟨h1, h2, h3⟩ := h
 obtain ⟨n, e1, e2⟩ := decFrom_dig s 0 h2
 cases s with
 | nil => exact absurd rfl h1
 | cons c r =>
   have hc : 48 ≤ c.toNat ∧ c.toNat ≤ 57 := by
    simp only [List.all_cons, Bool.and_eq_true] at h2
    have := h2.1; unfold isDig at this; exact of_decide_eq_true this
   have n1 : (c == 45) = false := by rw [beq_eq_false_iff_ne]; rintro rfl; simp at hc
   have n2 : (c == 43) = false := by rw [beq_eq_false_iff_ne]; rintro rfl; simp at hc
   simp only [Lib.atoi, n1, n2, Bool.false_eq_true, if_false, Lib.decNat, List.isEmpty_cons, e1, Option.map_some]
   unfold digs
   rw [e2]; rfl
theorem digs_rng {s : Tx} (h : numOk s) : 0 ≤ digs s ∧ digs s ≤ 9999999 := by
 obtain ⟨h1, h2, h3⟩ := h
 have key : ∀ (s : Tx) (acc : Int), 0 ≤ acc → s.all isDig = true → 0 ≤ s.foldl (fun n c => 10 * n + ((c.toNat : Int) - 48)) acc ∧ s.foldl (fun n c => 10 * n + ((c.toNat : Int) - 48)) acc < (acc + 1) * 10 ^ s.length := by
  intro s
  induction s with
  | nil => intro acc h0 _; simp; omega
  | cons c s ih =>
    intro acc h0 h
    simp only [List.all_cons, Bool.and_eq_true] at h
    have hc : 48 ≤ c.toNat ∧ c.toNat ≤ 57 := by have := h.1; unfold isDig at this; exact of_decide_eq_true this
    obtain ⟨q1, q2⟩ := ih (10 * acc + ((c.toNat : Int) - 48)) (by omega) h.2
    simp only [List.foldl_cons, List.length_cons]
    refine ⟨q1, Int.lt_of_lt_of_le q2 ?_⟩
    rw [Int.pow_succ, Int.mul_comm (10 ^ s.length) 10, ← Int.mul_assoc]
    exact Int.mul_le_mul_of_nonneg_right (by omega) (Int.pow_nonneg (by omega))
 obtain ⟨q1, q2⟩ := key s 0 (by omega) h2
 refine ⟨q1, ?_⟩
 have h7 : (10 : Nat) ^ s.length ≤ 10 ^ 7 := Nat.pow_le_pow_right (by omega) h3
 have h8 : ((10 : Int) ^ s.length) = ((10 ^ s.length : Nat) : Int) := by simp
 rw [h8] at q2
 generalize 10 ^ s.length = z at *
 unfold digs
 omega
theorem atoi_p (s : Tx) (hs : numOk s) : Pur M 58 [.str s] (.tup [.int .i64 (digs s), .u0]) := by
 have hsz : (⟨s.toArray⟩ : ByteArray).size = s.length := by simp [ByteArray.size]
 refine pur_extM (vs := [.string ⟨s.toArray⟩]) ⟨Tryd.f58, Tryd.func58, rfl, rfl⟩ (fun w g xs h => ?_) (fun w hA => ?_)
 ·obtain ⟨x, xs', rfl, g1, g2⟩ := h.inv
  simp only [Rel] at g1
  rw [g2.inv_nil, g1]
 ·have same : ∀ {w' : World}, Below w.heap.size w w' → ∀ y : Value, Below w.heap.size w w' ∧ ∀ I : Nat → Nat → Prop, ∃ I' : Nat → Nat → Prop, (∀ b o, I b o → I' b o) ∧ (∀ b o, I' b o → I b o ∨ (w.heap.size ≤ b ∧ b < w'.heap.size)) ∧ Rel w' ⟨[], [], I'⟩ (.tup [.int .i64 (digs s), .u0]) (.tuple #[.int .i64 (digs s), y]) := by
   intro w' hb y
   refine ⟨hb, fun I => ⟨I, fun _ _ h => h, fun _ _ h => .inl h, ?_⟩⟩
   simp only [Rel]
   exact ⟨_, rfl, RelL.cons (by simp [Rel]) (RelL.one (by simp [Rel]))⟩
  refine (Tryd.strconv_Atoi ⟨s.toArray⟩ (digs s) (by rw [hsz]; have := hs.2.2; omega) (by simpa using atoi_dig hs) w).mono fun e w' hh => ?_
  obtain ⟨rfl, t, rfl⟩ := hh
  exact ⟨_, rfl, same (Lib.bytesWorld_below w 5 t) _⟩
def kidsD (fs : List F) : List D := fs.map F.d
theorem zBs (fs : List F) (g : F) : kidsD (fs ++ [g]) = kidsD fs ++ [.agg g.cells] := by simp [kidsD, F.d_eq]
theorem zDc (fs : List F) : (kidsD fs).length = fs.length := by simp [kidsD]
theorem zCa : ∀ fs : List F, zAj 3 (kidsD fs) = true
 | [] => rfl
 | f :: fs => by have := zCa fs; have hv := zEo f; simp_all [kidsD, zAj]
theorem reg54_12 {op0 en : Int} {fs : List F} {l' r' : List Tok} {g : F} {R : List D} (hfs : fs.length ≤ 100) {e : List D} (he0 : e[0]? = some (.ptr 0 0)) (he5 : e[5]? = some (.ptr 2 0))
 (hc : Eff M 33 [.ptr 0 0] (hpP l' en) fun d hp => d = g.d ∧ hp = hpP r' en) (Q : Ex → St → Prop)
 (hQ : Q .normal ⟨e, [], ⟨[.cells [.slice (tokL r') .no, .int .i64 en], .cells R, .cells [.int .i64 op0, .int .i64 0, .slice (kidsD (fs ++ [g])) (.tok 0)]], [.per 3 (fs.length + 1)]⟩⟩) :
 SWp (E54 1 0) (.regD r54_12 r54_13) Q ⟨e, [], ⟨[.cells [.slice (tokL l') .no, .int .i64 en], .cells R, .cells [.int .i64 op0, .int .i64 0, .slice (kidsD fs) (.tok 0)]], [.per 3 fs.length]⟩⟩ := by
 have hgd := g.d_eq
 have he5b : e[5]?.getD .u0 = .ptr 2 0 := by rw [he5]; rfl
 have he5c : e.getD 5 .u0 = .ptr 2 0 := by simp [he5]
 obtain ⟨F, hF⟩ : ∃ F : (Nat → Bool) → Hp, F = fun E => ⟨[if E 3 then .cells [.slice (tokL r') .no, .int .i64 en] else .cells [.slice (tokL l') .no, .int .i64 en], .cells R, .cells [.int .i64 op0, .int .i64 0, .slice (kidsD fs) (.tok 0)]], [.per 3 fs.length]⟩ := ⟨_, rfl⟩
 have still : ∀ i, i ≠ 3 → Still F i := fun i h E _ => by
  have : (3 == i) = false := by rw [beq_eq_false_iff_ne]; omega
  simp [hF, this]
 refine zBx F (by simp [hF]) ?_
 rw [pe54]
 refine y_q (ds := [.ptr 2 0]) (.ptr 2 2) (by simp [go_sem, he5]) (still _ (by decide)) (fun _ => by simp [OcWp, zAa, isPan, opWp]) ?_
 refine y_c (ds := [.ptr 2 2]) (d := .slice (kidsD fs) (.tok 0)) (by simp [go_sem]) (fun E hE => ?_) ?_
 ·rw [still 1 (by decide) E hE]; simp [hF, OcWp, zAa, isPan, opWp, Blk.csq]
 refine y_q (ds := [.ptr 0 0]) (.ptr 0 0) (by simp [go_sem, he0]) (still _ (by decide)) (fun _ => by simp [OcWp, zAa, isPan, opWp]) ?_
 refine y_c (ds := [.fn (.func 33) [] [], .ptr 0 0]) (d := g.d) (by simp [go_sem]) (fun E hE => ?_) ?_
 ·have hE' : E 3 = false := hE
  simp only [OcWp, zAa, isPan, if_true]
  refine zD9 [0] [] hc ⟨by simp, by simp, by simp [hF], by simp⟩ (by simp [D.rnL, D.rn, posF, idx]) (by simp [hF, hE', hpP, Hp.sel, Blk.rnL, Blk.rn, Tv.rnL, D.rnL, D.rn, zAe, Own.rn]) ?_
  rintro d hp1 ⟨rfl, rfl⟩
  refine ⟨rn_F _ _ _, ?_⟩
  simp [hF, hE', hpP, Hp.back, putAt, Blk.rnL, Blk.rn, Tv.rnL, D.rnL, D.rn, zAe, Own.rn]
 have hva := zEo g
 have hca := cl_F g
 refine y_q (ds := [g.d]) (.slice [.agg g.cells] .full) (by simp [go_sem]) (still _ (by decide)) (fun _ => by
  rw [← hgd]
  simp [OcWp, zAa, isPan, opWp, zAj, hva, D.cL, hca, D.erL, er_F]) ?_
 refine y_end (hp' := ⟨[.cells [.slice (tokL r') .no, .int .i64 en], .cells R, .cells [.int .i64 op0, .int .i64 0, .slice (kidsD fs) (.tok 0)]], [.per 3 fs.length]⟩) (by simp [hF]) ?_
 have hkl := zDc fs
 have hel := zCa fs
 have hck := zAh g.kids
 have hek := erL_F g.kids
 have wQ := And.intro @hkl (And.intro @hel (And.intro @hck (And.intro @hek @zBs))); repeat' (first | with_reducible (apply swq; constructor) | simp only [go_sem, seval, pe54, q54, he5b, he5c, hkl, zBs] | simp (disch := omega) only [w64, w32, wu8, wu16, wu32, wu64] | ((with_reducible apply zAp); (case he => rfl); (case hK | hc | hr | hV => exact sd wQ)) | ((with_reducible apply zAq); (case he => rfl); (case hV | hK | hr | hl => exact sd wQ)) | ((with_reducible apply zAs); (case he => rfl); (case hK | hc | hr => exact sd wQ)) | ((with_reducible apply zAr); (case he => rfl); (case hK | hc | hr | hx | hn => exact sd wQ)) | ((with_reducible first | apply s_bsl | apply t_bsl); (case he | hl | hc => exact sd wQ)) | ((with_reducible apply zA9); (case hx => exact sd wQ)) | ((with_reducible first | apply zA7 | apply zA8); (case h0 | h1 | hx => exact sd wQ)) | ((with_reducible apply zA6); (case h0 | h1 | h2 | hx => exact sd wQ)) | ((with_reducible first | apply zA4 | apply zA5); (case h0 | h1 | hc => exact sd wQ)) | ((with_reducible apply zA3); (case h0 | h1 | h2 | hc => exact sd wQ)) | (with_reducible first | (apply cdA; constructor) | (apply gdA; constructor)) | ((with_reducible refine And.intro ?hw ?_); (case hw => exact sw wQ)) | with_reducible intro _)
 all_goals try (exfalso; omega)
 all_goals simpa [zBs, setL, St.done] using hQ
theorem reg54_17 {op0 en : Int} {fs : List F} {l' r' : List Tok} {g : F} {R : List D} (hfs : fs.length ≤ 100) {e : List D} (he0 : e[0]? = some (.ptr 0 0)) (he5 : e[5]? = some (.ptr 2 0))
 (hc : Eff M 33 [.ptr 0 0] (hpP l' en) fun d hp => d = g.d ∧ hp = hpP r' en) (Q : Ex → St → Prop)
 (hQ : Q .normal ⟨e, [], ⟨[.cells [.slice (tokL r') .no, .int .i64 en], .cells R, .cells [.int .i64 op0, .int .i64 0, .slice (kidsD (fs ++ [g])) (.tok 0)]], [.per 3 (fs.length + 1)]⟩⟩) :
 SWp (E54 1 0) (.regD r54_17 r54_18) Q ⟨e, [], ⟨[.cells [.slice (tokL l') .no, .int .i64 en], .cells R, .cells [.int .i64 op0, .int .i64 0, .slice (kidsD fs) (.tok 0)]], [.per 3 fs.length]⟩⟩ := by
 have hgd := g.d_eq
 have he5b : e[5]?.getD .u0 = .ptr 2 0 := by rw [he5]; rfl
 have he5c : e.getD 5 .u0 = .ptr 2 0 := by simp [he5]
 obtain ⟨F, hF⟩ : ∃ F : (Nat → Bool) → Hp, F = fun E => ⟨[if E 3 then .cells [.slice (tokL r') .no, .int .i64 en] else .cells [.slice (tokL l') .no, .int .i64 en], .cells R, .cells [.int .i64 op0, .int .i64 0, .slice (kidsD fs) (.tok 0)]], [.per 3 fs.length]⟩ := ⟨_, rfl⟩
 have still : ∀ i, i ≠ 3 → Still F i := fun i h E _ => by
  have : (3 == i) = false := by rw [beq_eq_false_iff_ne]; omega
  simp [hF, this]
 refine zBx F (by simp [hF]) ?_
 rw [pe54]
 refine y_q (ds := [.ptr 2 0]) (.ptr 2 2) (by simp [go_sem, he5]) (still _ (by decide)) (fun _ => by simp [OcWp, zAa, isPan, opWp]) ?_
 refine y_c (ds := [.ptr 2 2]) (d := .slice (kidsD fs) (.tok 0)) (by simp [go_sem]) (fun E hE => ?_) ?_
 ·rw [still 1 (by decide) E hE]; simp [hF, OcWp, zAa, isPan, opWp, Blk.csq]
 refine y_q (ds := [.ptr 0 0]) (.ptr 0 0) (by simp [go_sem, he0]) (still _ (by decide)) (fun _ => by simp [OcWp, zAa, isPan, opWp]) ?_
 refine y_c (ds := [.fn (.func 33) [] [], .ptr 0 0]) (d := g.d) (by simp [go_sem]) (fun E hE => ?_) ?_
 ·have hE' : E 3 = false := hE
  simp only [OcWp, zAa, isPan, if_true]
  refine zD9 [0] [] hc ⟨by simp, by simp, by simp [hF], by simp⟩ (by simp [D.rnL, D.rn, posF, idx]) (by simp [hF, hE', hpP, Hp.sel, Blk.rnL, Blk.rn, Tv.rnL, D.rnL, D.rn, zAe, Own.rn]) ?_
  rintro d hp1 ⟨rfl, rfl⟩
  refine ⟨rn_F _ _ _, ?_⟩
  simp [hF, hE', hpP, Hp.back, putAt, Blk.rnL, Blk.rn, Tv.rnL, D.rnL, D.rn, zAe, Own.rn]
 have hva := zEo g
 have hca := cl_F g
 refine y_q (ds := [g.d]) (.slice [.agg g.cells] .full) (by simp [go_sem]) (still _ (by decide)) (fun _ => by
  rw [← hgd]
  simp [OcWp, zAa, isPan, opWp, zAj, hva, D.cL, hca, D.erL, er_F]) ?_
 refine y_end (hp' := ⟨[.cells [.slice (tokL r') .no, .int .i64 en], .cells R, .cells [.int .i64 op0, .int .i64 0, .slice (kidsD fs) (.tok 0)]], [.per 3 fs.length]⟩) (by simp [hF]) ?_
 have hkl := zDc fs
 have hel := zCa fs
 have hck := zAh g.kids
 have hek := erL_F g.kids
 have wQ := And.intro @hkl (And.intro @hel (And.intro @hck (And.intro @hek @zBs))); repeat' (first | with_reducible (apply swq; constructor) | simp only [go_sem, seval, pe54, q54, he5b, he5c, hkl, zBs] | simp (disch := omega) only [w64, w32, wu8, wu16, wu32, wu64] | ((with_reducible apply zAp); (case he => rfl); (case hK | hc | hr | hV => exact sd wQ)) | ((with_reducible apply zAq); (case he => rfl); (case hV | hK | hr | hl => exact sd wQ)) | ((with_reducible apply zAs); (case he => rfl); (case hK | hc | hr => exact sd wQ)) | ((with_reducible apply zAr); (case he => rfl); (case hK | hc | hr | hx | hn => exact sd wQ)) | ((with_reducible first | apply s_bsl | apply t_bsl); (case he | hl | hc => exact sd wQ)) | ((with_reducible apply zA9); (case hx => exact sd wQ)) | ((with_reducible first | apply zA7 | apply zA8); (case h0 | h1 | hx => exact sd wQ)) | ((with_reducible apply zA6); (case h0 | h1 | h2 | hx => exact sd wQ)) | ((with_reducible first | apply zA4 | apply zA5); (case h0 | h1 | hc => exact sd wQ)) | ((with_reducible apply zA3); (case h0 | h1 | h2 | hc => exact sd wQ)) | (with_reducible first | (apply cdA; constructor) | (apply gdA; constructor)) | ((with_reducible refine And.intro ?hw ?_); (case hw => exact sw wQ)) | with_reducible intro _)
 all_goals try (exfalso; omega)
 all_goals simpa [zBs, setL, St.done] using hQ
end Go.Proofs.YtkjnhkoipgdfeaaDoor
end
section
set_option maxRecDepth 100000
set_option linter.unusedSimpArgs false
set_option linter.unusedVariables false
namespace Go.Proofs.YtkjnhkoipgdfeaaDoor
open Go GoV Go.RowKit
theorem zBb {en : Int} {w : Tx} {l : List Tok} {go : List Tok → PR} {g : F} {r : List Tok} (h : needP en w l go = .ok g r) : ∃ t l', l = t :: l' ∧ (∃ i, gotN 4 [w] l = some i) ∧ go l' = .ok g r := by
 unfold needP at h
 cases hg : gotN 4 [w] l with
 | none =>
   rw [hg] at h
   cases l <;> simp [failP] at h
 | some i =>
   rw [hg] at h
   obtain ⟨t, l', rfl, _⟩ := zBt hg
   exact ⟨t, l', rfl, ⟨i, by first | exact hg | rfl⟩, h⟩
theorem zBp {p : PR} {go : F → List Tok → PR} {g : F} {r : List Tok} (h : thenP p go = .ok g r) : ∃ f r', p = .ok f r' ∧ go f r' = .ok g r := by
 cases p with
 | no e q => simp [thenP] at h
 | ok f r' => exact ⟨f, r', rfl, h⟩
theorem sn1 : strs [tKm, tCy, tLd] = [.str [107, 109], .str [99, 121, 99, 108, 101, 115], .str [108, 111, 97, 100]] := rfl
theorem sn2 : strs [tMin, tMax, tIf] = [.str [109, 105, 110], .str [109, 97, 120], .str [105, 102]] := rfl
theorem args_inv {fo : List Tok → PR} {en op : Int} : ∀ (n : Nat) (fs : List F) (l : List Tok) {g : F} {r : List Tok}, argsP fo en op n fs l = .ok g r → ∃ hs, g = .mk op 0 (fs ++ hs) ∧ hs.length = n
 | 0, fs, l, g, r, h => by
   obtain ⟨t, l', rfl, _, h2⟩ := zBb h
   cases h2
   exact ⟨[], by simp, rfl⟩
 | n + 1, fs, l, g, r, h => by
   obtain ⟨t, l', rfl, _, h2⟩ := zBb h
   obtain ⟨f, r', _, h4⟩ := zBp h2
   obtain ⟨hs, e1, e2⟩ := args_inv n (fs ++ [f]) r' h4
   exact ⟨f :: hs, by rw [e1]; simp, by simp [e2]⟩
set_option maxHeartbeats 4000000 in
theorem factor_e {fo : List Tok → PR} {en : Int} {N : Nat} (hfo : OpOk 33 fo en N) (hN : N ≤ 100000) : OpOk 54 (factP fo en) en N := by
 intro l g r hl hG h
 cases l with
 | nil => simp [factP] at h
 | cons t l' =>
 simp only [factP] at h
 simp only [List.length_cons] at hl
 have hlr := zDz l'
 have hel := zCn l'
 have hpos : decide (((l'.length + 1 : Nat) : Int) > 0) = true := by simp only [decide_eq_true_eq]; omega
 have hcons := zEe t l'
 have hGt : GoodT l' := hG.suf (List.suffix_cons _ _)
 by_cases hk : t.kind = 2
 ·
  rw [if_pos hk] at h
  cases h
  refine ⟨?_, by simp, List.suffix_cons _ _⟩
  have e : (F.mk 1 (digs t.text) []).d = D.nn (.agg [.int .i64 1, .int .i64 (digs t.text), .lit (.slice none 0 0)]) := by simp [F.d, F.dL, D.nn, D.nnL]
  rw [e]
  refine eff_nn (zD8 1 0 (Nat.le_refl _) (Nat.le_refl _) (fun β τ => by simp [D.rn, D.rnL]) ?_)
  refine k54.oe 1 0 rfl rfl rfl ?_
  rw [ie54]
  unfold c54
  have c1 := atoi_p t.text (hG t (by simp) hk)
  generalize digs t.text = n at *
  have tk : (t.kind == 2) = true := by simp [hk]
  unfold hpP
  rw [hcons]
  have wQ := And.intro @hlr @hel; repeat' (first | with_reducible (apply swq; constructor) | simp only [go_sem, seval, pe54, q54, hlr, hpos, tk, List.length_cons, List.drop_succ_cons, List.drop_zero] | simp (disch := omega) only [w64, w32, wu8, wu16, wu32, wu64] | ((with_reducible first | refine zAb (c1) ?he ?hc ?_ | refine zAk (c1) ?he ?hc ?_ | refine zAl (c1) ?he ?hc ?_); (case he | hc => exact sc wQ)) | ((with_reducible apply zAp); (case he => rfl); (case hK | hc | hr | hV => exact sd wQ)) | ((with_reducible apply zAq); (case he => rfl); (case hV | hK | hr | hl => exact sd wQ)) | ((with_reducible apply zAs); (case he => rfl); (case hK | hc | hr => exact sd wQ)) | ((with_reducible apply zAr); (case he => rfl); (case hK | hc | hr | hx | hn => exact sd wQ)) | ((with_reducible first | apply s_bsl | apply t_bsl); (case he | hl | hc => exact sd wQ)) | ((with_reducible apply zA9); (case hx => exact sd wQ)) | ((with_reducible first | apply zA7 | apply zA8); (case h0 | h1 | hx => exact sd wQ)) | ((with_reducible apply zA6); (case h0 | h1 | h2 | hx => exact sd wQ)) | ((with_reducible first | apply zA4 | apply zA5); (case h0 | h1 | hc => exact sd wQ)) | ((with_reducible apply zA3); (case h0 | h1 | h2 | hc => exact sd wQ)) | (with_reducible first | (apply cdA; constructor) | (apply gdA; constructor)) | ((with_reducible refine And.intro ?hw ?_); (case hw => exact sw wQ)) | with_reducible intro _)
  all_goals try (exfalso; omega)
  refine ⟨_, zAo, ?_⟩
  simp [D.closed, D.er, D.cL, D.erL, RcS, Hp.cut, Blk.rnL, Blk.rn, Tv.rnL, D.rnL, D.rn, zAe, Own.rn]
 rw [if_neg hk] at h
 have tk : (t.kind == 2) = false := by simp [hk]
 have c1 := got_e 1 [tKm, tCy, tLd] (by simp) (t :: l') (by simp; omega) en
 rw [sn1] at c1
 cases hg1 : gotN 1 [tKm, tCy, tLd] (t :: l') with
 | some i =>
   rw [hg1] at h
   cases h
   obtain ⟨t2, l2, e0, n1, n2, n3, n4, n5⟩ := zBt hg1
   cases e0
   rw [n1, n2] at c1
   refine ⟨?_, by simp, List.suffix_cons _ _⟩
   have e : (F.mk (2 + i) 0 []).d = D.nn (.agg [.int .i64 (2 + i), .int .i64 0, .lit (.slice none 0 0)]) := by simp [F.d, F.dL, D.nn, D.nnL]
   rw [e]
   refine eff_nn (zD8 1 0 (Nat.le_refl _) (Nat.le_refl _) (fun β τ => by simp [D.rn, D.rnL]) ?_)
   refine k54.oe 1 0 rfl rfl rfl ?_
   rw [ie54]
   unfold c54
   have hd : decide ((i : Int) ≥ 0) = true := by simp
   simp only [List.length_cons, List.length_nil] at n3
   unfold hpP at c1 ⊢
   rw [hcons] at c1 ⊢
   have wQ := And.intro @hlr (And.intro @hel @zAe); repeat' (first | with_reducible (apply swq; constructor) | simp only [go_sem, seval, pe54, q54, hlr, hpos, tk, hd, List.length_cons] | simp (disch := omega) only [w64, w32, wu8, wu16, wu32, wu64] | ((with_reducible first | refine c_eff [0] [] (c1) ?hs ?he ?hh ?_ | refine o_eff [0] [] (c1) ?hs ?he ?hh ?_); (case hs => exact so); (case he | hh => exact sh wQ); try rintro _ _ ⟨rfl, rfl⟩) | ((with_reducible apply zAp); (case he => rfl); (case hK | hc | hr | hV => exact sd wQ)) | ((with_reducible apply zAq); (case he => rfl); (case hV | hK | hr | hl => exact sd wQ)) | ((with_reducible apply zAs); (case he => rfl); (case hK | hc | hr => exact sd wQ)) | ((with_reducible apply zAr); (case he => rfl); (case hK | hc | hr | hx | hn => exact sd wQ)) | ((with_reducible first | apply s_bsl | apply t_bsl); (case he | hl | hc => exact sd wQ)) | ((with_reducible apply zA9); (case hx => exact sd wQ)) | ((with_reducible first | apply zA7 | apply zA8); (case h0 | h1 | hx => exact sd wQ)) | ((with_reducible apply zA6); (case h0 | h1 | h2 | hx => exact sd wQ)) | ((with_reducible first | apply zA4 | apply zA5); (case h0 | h1 | hc => exact sd wQ)) | ((with_reducible apply zA3); (case h0 | h1 | h2 | hc => exact sd wQ)) | (with_reducible first | (apply cdA; constructor) | (apply gdA; constructor)) | ((with_reducible refine And.intro ?hw ?_); (case hw => exact sw wQ)) | with_reducible intro _)
   all_goals try (exfalso; omega)
   refine ⟨_, zAo, ?_⟩
   simp [D.closed, D.er, D.cL, D.erL, RcS, Hp.cut, Blk.rnL, Blk.rn, Tv.rnL, D.rnL, D.rn, zAe, Own.rn]
 | none =>
 rw [hg1] at h
 obtain ⟨m1, m2⟩ := zDu hg1
 rw [m1, m2] at c1
 have c2 := got_e 1 [tMin, tMax, tIf] (by simp) (t :: l') (by simp; omega) en
 rw [sn2] at c2
 cases hg2 : gotN 1 [tMin, tMax, tIf] (t :: l') with
 | some i =>
   rw [hg2] at h
   simp only [callP] at h
   obtain ⟨t2, l2, e0, n1, n2, n3, n4, n5⟩ := zBt hg2
   cases e0
   rw [n1, n2] at c2
   obtain ⟨t3, l3, rfl, ⟨i3, hg3⟩, h3⟩ := zBb h
   obtain ⟨f4, l4, h4, h5⟩ := zBp h3
   simp only [List.length_cons, List.length_nil] at hl n3
   have hG3 : GoodT l3 := hGt.suf (List.suffix_cons _ _)
   obtain ⟨c4, q4, s4⟩ := hfo l3 f4 l4 (by omega) hG3 h4
   have c3 := need_e [40] (t3 :: l3) (by simp; omega) en hg3
   simp only [List.tail_cons] at c3
   obtain ⟨hs, eg, ehs⟩ := args_inv _ _ _ h5
   have key : ∀ (n : Nat) (fs : List F) (lx : List Tok), argsP fo en (9 + i) n fs lx = .ok g r → lx.length ≤ N → GoodT lx → r.length < lx.length ∧ r <:+ lx := by
    intro n
    induction n with
    | zero =>
      intro fs lx h _ _
      obtain ⟨t, l', rfl, _, h2⟩ := zBb h
      cases h2
      exact ⟨by simp, List.suffix_cons _ _⟩
    | succ n ih =>
      intro fs lx h hN' hG'
      obtain ⟨t, l', rfl, _, h2⟩ := zBb h
      obtain ⟨f, r', h3, h4⟩ := zBp h2
      simp only [List.length_cons] at hN'
      obtain ⟨_, p1, p2⟩ := hfo l' f r' (by omega) (hG'.suf (List.suffix_cons _ _)) h3
      obtain ⟨p3, p4⟩ := ih _ _ h4 (by omega) (hG'.suf (p2.trans (List.suffix_cons _ _)))
      exact ⟨by simp; omega, p4.trans (p2.trans (List.suffix_cons _ _))⟩
   obtain ⟨k1, k2⟩ := key _ _ _ h5 (by omega) (hG3.suf s4)
   refine ⟨?_, by simp; omega, k2.trans (s4.trans ((List.suffix_cons _ _).trans (List.suffix_cons _ _)))⟩
   refine zD8 1 0 (Nat.le_refl _) (Nat.le_refl _) (fun β τ => rn_F β τ g) ?_
   refine k54.oe 1 0 rfl rfl rfl ?_
   rw [ie54]
   unfold c54
   have hd1 : decide ((-1 : Int) ≥ 0) = false := rfl
   have hd : decide ((i : Int) ≥ 0) = true := by simp
   obtain ⟨RA, hRA⟩ : ∃ R, R = (RC.regD r54_12 r54_13) := ⟨_, rfl⟩
   obtain ⟨RB, hRB⟩ : ∃ R, R = (RC.regD r54_17 r54_18) := ⟨_, rfl⟩
   rw [← hRA, ← hRB]
   have hmx : max (1 : Int) i = ((max 1 i : Nat) : Int) := by omega
   have hmb : max 1 i ≤ 3 := by omega
   unfold hpP at c1 c2 c3 ⊢
   rw [hcons] at c1 c2 ⊢
   have wQ := And.intro @hlr (And.intro @hel @zAe); repeat' (first | with_reducible (apply swq; constructor) | simp only [go_sem, seval, pe54, q54, hlr, hpos, tk, hd, hd1, List.length_cons] | simp (disch := omega) only [w64, w32, wu8, wu16, wu32, wu64] | ((with_reducible first | refine c_eff [0] [] (c1) ?hs ?he ?hh ?_ | refine o_eff [0] [] (c1) ?hs ?he ?hh ?_); (case hs => exact so); (case he | hh => exact sh wQ); try rintro _ _ ⟨rfl, rfl⟩) | ((with_reducible first | refine c_eff [0] [] (c2) ?hs ?he ?hh ?_ | refine o_eff [0] [] (c2) ?hs ?he ?hh ?_); (case hs => exact so); (case he | hh => exact sh wQ); try rintro _ _ ⟨rfl, rfl⟩) | ((with_reducible first | refine c_eff [0] [] (c3) ?hs ?he ?hh ?_ | refine o_eff [0] [] (c3) ?hs ?he ?hh ?_); (case hs => exact so); (case he | hh => exact sh wQ); try rintro _ _ ⟨rfl, rfl⟩) | ((with_reducible apply zAp); (case he => rfl); (case hK | hc | hr | hV => exact sd wQ)) | ((with_reducible apply zAq); (case he => rfl); (case hV | hK | hr | hl => exact sd wQ)) | ((with_reducible apply zAs); (case he => rfl); (case hK | hc | hr => exact sd wQ)) | ((with_reducible apply zAr); (case he => rfl); (case hK | hc | hr | hx | hn => exact sd wQ)) | ((with_reducible first | apply s_bsl | apply t_bsl); (case he | hl | hc => exact sd wQ)) | ((with_reducible apply zA9); (case hx => exact sd wQ)) | ((with_reducible first | apply zA7 | apply zA8); (case h0 | h1 | hx => exact sd wQ)) | ((with_reducible apply zA6); (case h0 | h1 | h2 | hx => exact sd wQ)) | ((with_reducible first | apply zA4 | apply zA5); (case h0 | h1 | hc => exact sd wQ)) | ((with_reducible apply zA3); (case h0 | h1 | h2 | hc => exact sd wQ)) | (with_reducible first | (apply cdA; constructor) | (apply gdA; constructor)) | ((with_reducible refine And.intro ?hw ?_); (case hw => exact sw wQ)) | with_reducible intro _)
   all_goals try (exfalso; omega)
   subst hRA
   refine zEu (zDn 2 2 3 (by decide) rfl rfl) ?_
   refine reg54_12 (fs := []) (by simp) rfl rfl c4 _ ?_
   have wQ := tw; repeat' (first | with_reducible (apply swq; constructor) | simp only [go_sem, seval, pe54, q54, maxW, hmx] | simp (disch := omega) only [w64, w32, wu8, wu16, wu32, wu64] | ((with_reducible apply zAp); (case he => rfl); (case hK | hc | hr | hV => exact sd wQ)) | ((with_reducible apply zAq); (case he => rfl); (case hV | hK | hr | hl => exact sd wQ)) | ((with_reducible apply zAs); (case he => rfl); (case hK | hc | hr => exact sd wQ)) | ((with_reducible apply zAr); (case he => rfl); (case hK | hc | hr | hx | hn => exact sd wQ)) | ((with_reducible first | apply s_bsl | apply t_bsl); (case he | hl | hc => exact sd wQ)) | ((with_reducible apply zA9); (case hx => exact sd wQ)) | ((with_reducible first | apply zA7 | apply zA8); (case h0 | h1 | hx => exact sd wQ)) | ((with_reducible apply zA6); (case h0 | h1 | h2 | hx => exact sd wQ)) | ((with_reducible first | apply zA4 | apply zA5); (case h0 | h1 | hc => exact sd wQ)) | ((with_reducible apply zA3); (case h0 | h1 | h2 | hc => exact sd wQ)) | (with_reducible first | (apply cdA; constructor) | (apply gdA; constructor)) | ((with_reducible refine And.intro ?hw ?_); (case hw => exact sw wQ)) | with_reducible intro _)
   all_goals try (exfalso; omega)
   generalize hM : max 1 i = mx at *
   refine zB6 [0, 1, 4, 5, 10, 11] (fun x : Nat × List F × List Tok => ⟨[.ptr 0 0, .ptr 1 0, .u0, .u0, .int .i64 (i : Nat), .ptr 2 0, .u0, .u0, .u0, .u0, .int .i64 (mx : Nat), .int .i64 (x.1 : Nat), .u0], [],
    ⟨[.cells [.slice (tokL x.2.2) .no, .int .i64 en], .cells [.int .i64 0, .int .i64 0, .lit (.slice none 0 0)], .cells [.int .i64 (9 + i), .int .i64 0, .slice (kidsD x.2.1) (.tok 0)]], [.per 3 x.2.1.length]⟩⟩)
    (fun x => x.1 ≤ mx ∧ x.2.1.length = x.1 + 1 ∧ argsP fo en (9 + i) (mx - x.1) x.2.1 x.2.2 = .ok g r ∧ x.2.2.length ≤ N ∧ GoodT x.2.2) (fun x => mx - x.1) (0, [f4], l4) ⟨by simp, rfl, h5, by simp only; omega, hG3.suf s4⟩ ?_ ?_
   ·simp [keepE, St.keep, hM]
   ·rintro ⟨j, fs, lx⟩ ⟨v1, v2, v3, v4, v5⟩
    simp only at v1 v2 v3 v4 v5 ⊢
    by_cases hj : j < mx
    ·obtain ⟨n, hn⟩ : ∃ n, mx - j = n + 1 := ⟨mx - j - 1, by omega⟩
     rw [hn] at v3
     obtain ⟨t6, l6, rfl, ⟨i6, hg6⟩, h6⟩ := zBb v3
     obtain ⟨f7, l7, h7, h8⟩ := zBp h6
     simp only [List.length_cons] at v4
     have hG6 : GoodT l6 := v5.suf (List.suffix_cons _ _)
     obtain ⟨c7, q7, s7⟩ := hfo l6 f7 l7 (by omega) hG6 h7
     have c6 := need_e [44] (t6 :: l6) (by simp; omega) en hg6
     simp only [List.tail_cons] at c6
     have hdj : decide ((j : Int) < (mx : Nat)) = true := by simp; omega
     unfold hpP at c6
     have wQ := @zAe; repeat' (first | with_reducible (apply swq; constructor) | simp only [go_sem, seval, pe54, q54, hdj] | simp (disch := omega) only [w64, w32, wu8, wu16, wu32, wu64] | ((with_reducible first | refine c_eff [0] [] (c6) ?hs ?he ?hh ?_ | refine o_eff [0] [] (c6) ?hs ?he ?hh ?_); (case hs => exact so); (case he | hh => exact sh wQ); try rintro _ _ ⟨rfl, rfl⟩) | ((with_reducible apply zAp); (case he => rfl); (case hK | hc | hr | hV => exact sd wQ)) | ((with_reducible apply zAq); (case he => rfl); (case hV | hK | hr | hl => exact sd wQ)) | ((with_reducible apply zAs); (case he => rfl); (case hK | hc | hr => exact sd wQ)) | ((with_reducible apply zAr); (case he => rfl); (case hK | hc | hr | hx | hn => exact sd wQ)) | ((with_reducible first | apply s_bsl | apply t_bsl); (case he | hl | hc => exact sd wQ)) | ((with_reducible apply zA9); (case hx => exact sd wQ)) | ((with_reducible first | apply zA7 | apply zA8); (case h0 | h1 | hx => exact sd wQ)) | ((with_reducible apply zA6); (case h0 | h1 | h2 | hx => exact sd wQ)) | ((with_reducible first | apply zA4 | apply zA5); (case h0 | h1 | hc => exact sd wQ)) | ((with_reducible apply zA3); (case h0 | h1 | h2 | hc => exact sd wQ)) | (with_reducible first | (apply cdA; constructor) | (apply gdA; constructor)) | ((with_reducible refine And.intro ?hw ?_); (case hw => exact sw wQ)) | with_reducible intro _)
     all_goals try (exfalso; omega)
     subst hRB
     refine reg54_17 (fs := fs) (by omega) rfl rfl c7 _ ?_
     have wQ := tw; repeat' (first | with_reducible (apply swq; constructor) | simp only [go_sem, seval, pe54, q54] | simp (disch := omega) only [w64, w32, wu8, wu16, wu32, wu64] | ((with_reducible apply zAp); (case he => rfl); (case hK | hc | hr | hV => exact sd wQ)) | ((with_reducible apply zAq); (case he => rfl); (case hV | hK | hr | hl => exact sd wQ)) | ((with_reducible apply zAs); (case he => rfl); (case hK | hc | hr => exact sd wQ)) | ((with_reducible apply zAr); (case he => rfl); (case hK | hc | hr | hx | hn => exact sd wQ)) | ((with_reducible first | apply s_bsl | apply t_bsl); (case he | hl | hc => exact sd wQ)) | ((with_reducible apply zA9); (case hx => exact sd wQ)) | ((with_reducible first | apply zA7 | apply zA8); (case h0 | h1 | hx => exact sd wQ)) | ((with_reducible apply zA6); (case h0 | h1 | h2 | hx => exact sd wQ)) | ((with_reducible first | apply zA4 | apply zA5); (case h0 | h1 | hc => exact sd wQ)) | ((with_reducible apply zA3); (case h0 | h1 | h2 | hc => exact sd wQ)) | (with_reducible first | (apply cdA; constructor) | (apply gdA; constructor)) | ((with_reducible refine And.intro ?hw ?_); (case hw => exact sw wQ)) | with_reducible intro _)
     all_goals try (exfalso; omega)
     refine ⟨(j + 1, fs ++ [f7], l7), ⟨by simp only; omega, by simp; omega, ?_, by simp only; omega, hG6.suf s7⟩, by simp only; omega, ?_⟩
     ·rw [show mx - (j + 1) = n by omega]; exact h8
     ·simp [keepE, St.keep]
    ·obtain rfl : j = mx := by omega
     rw [Nat.sub_self] at v3
     obtain ⟨t6, l6, rfl, ⟨i6, hg6⟩, h6⟩ := zBb v3
     cases h6
     simp only [List.length_cons] at v4
     have c6 := need_e [41] (t6 :: r) (by simp; omega) en hg6
     simp only [List.tail_cons] at c6
     have hdj : decide ((j : Int) < (j : Nat)) = false := by simp
     have hkl := zDc fs
     unfold hpP at c6
     have wQ := @zAe; repeat' (first | with_reducible (apply swq; constructor) | simp only [go_sem, seval, pe54, q54, hdj] | simp (disch := omega) only [w64, w32, wu8, wu16, wu32, wu64] | ((with_reducible first | refine c_eff [0] [] (c6) ?hs ?he ?hh ?_ | refine o_eff [0] [] (c6) ?hs ?he ?hh ?_); (case hs => exact so); (case he | hh => exact sh wQ); try rintro _ _ ⟨rfl, rfl⟩) | ((with_reducible apply zAp); (case he => rfl); (case hK | hc | hr | hV => exact sd wQ)) | ((with_reducible apply zAq); (case he => rfl); (case hV | hK | hr | hl => exact sd wQ)) | ((with_reducible apply zAs); (case he => rfl); (case hK | hc | hr => exact sd wQ)) | ((with_reducible apply zAr); (case he => rfl); (case hK | hc | hr | hx | hn => exact sd wQ)) | ((with_reducible first | apply s_bsl | apply t_bsl); (case he | hl | hc => exact sd wQ)) | ((with_reducible apply zA9); (case hx => exact sd wQ)) | ((with_reducible first | apply zA7 | apply zA8); (case h0 | h1 | hx => exact sd wQ)) | ((with_reducible apply zA6); (case h0 | h1 | h2 | hx => exact sd wQ)) | ((with_reducible first | apply zA4 | apply zA5); (case h0 | h1 | hc => exact sd wQ)) | ((with_reducible apply zA3); (case h0 | h1 | h2 | hc => exact sd wQ)) | (with_reducible first | (apply cdA; constructor) | (apply gdA; constructor)) | ((with_reducible refine And.intro ?hw ?_); (case hw => exact sw wQ)) | with_reducible intro _)
     all_goals try (exfalso; omega)
     refine ⟨_, zAo, ?_⟩
     have hck := zAh fs
     simp [D.closed, D.er, D.cL, D.erL, RcS, Hp.cut, Blk.rnL, Blk.rn, Tv.rnL, D.rnL, D.rn, zAe, Own.rn, kidsD, hck, F.d, fdL_map, setL]
 | none =>
   rw [hg2] at h
   simp only [parP] at h
   obtain ⟨m3, m4⟩ := zDu hg2
   rw [m3, m4] at c2
   obtain ⟨t3, l3, e0, ⟨i3, hg3⟩, h3⟩ := zBb h
   cases e0
   obtain ⟨f4, l4, h4, h5⟩ := zBp h3
   obtain ⟨t6, l6, rfl, ⟨i6, hg6⟩, h6⟩ := zBb h5
   cases h6
   obtain ⟨c4, q4, s4⟩ := hfo l' g (t6 :: r) (by omega) hGt h4
   simp only [List.length_cons] at q4
   have c3 := need_e [40] (t :: l') (by simp; omega) en hg3
   have c6 := need_e [41] (t6 :: r) (by simp; omega) en hg6
   simp only [List.tail_cons] at c3 c6
   refine ⟨?_, by simp; omega, (List.suffix_cons _ _).trans (s4.trans (List.suffix_cons _ _))⟩
   refine zD8 1 0 (Nat.le_refl _) (Nat.le_refl _) (fun β τ => rn_F β τ g) ?_
   refine k54.oe 1 0 rfl rfl rfl ?_
   rw [ie54]
   unfold c54
   have hd1 : decide ((-1 : Int) ≥ 0) = false := rfl
   have hck := zAh g.kids
   have hek := erL_F g.kids
   have hrn := fun β τ => rnL_F β τ g.kids
   rw [F.d_eq] at c4 ⊢
   unfold hpP at c1 c2 c3 c4 c6 ⊢
   rw [hcons] at c1 c2 c3 ⊢
   have wQ := And.intro @hlr (And.intro @hel (And.intro @zAe @hrn)); repeat' (first | with_reducible (apply swq; constructor) | simp only [go_sem, seval, pe54, q54, hlr, hpos, tk, hd1, List.length_cons] | simp (disch := omega) only [w64, w32, wu8, wu16, wu32, wu64] | ((with_reducible first | refine c_eff [0] [] (c1) ?hs ?he ?hh ?_ | refine o_eff [0] [] (c1) ?hs ?he ?hh ?_); (case hs => exact so); (case he | hh => exact sh wQ); try rintro _ _ ⟨rfl, rfl⟩) | ((with_reducible first | refine c_eff [0] [] (c2) ?hs ?he ?hh ?_ | refine o_eff [0] [] (c2) ?hs ?he ?hh ?_); (case hs => exact so); (case he | hh => exact sh wQ); try rintro _ _ ⟨rfl, rfl⟩) | ((with_reducible first | refine c_eff [0] [] (c3) ?hs ?he ?hh ?_ | refine o_eff [0] [] (c3) ?hs ?he ?hh ?_); (case hs => exact so); (case he | hh => exact sh wQ); try rintro _ _ ⟨rfl, rfl⟩) | ((with_reducible first | refine c_eff [0] [] (c4) ?hs ?he ?hh ?_ | refine o_eff [0] [] (c4) ?hs ?he ?hh ?_); (case hs => exact so); (case he | hh => exact sh wQ); try rintro _ _ ⟨rfl, rfl⟩) | ((with_reducible first | refine c_eff [0] [] (c6) ?hs ?he ?hh ?_ | refine o_eff [0] [] (c6) ?hs ?he ?hh ?_); (case hs => exact so); (case he | hh => exact sh wQ); try rintro _ _ ⟨rfl, rfl⟩) | ((with_reducible apply zAp); (case he => rfl); (case hK | hc | hr | hV => exact sd wQ)) | ((with_reducible apply zAq); (case he => rfl); (case hV | hK | hr | hl => exact sd wQ)) | ((with_reducible apply zAs); (case he => rfl); (case hK | hc | hr => exact sd wQ)) | ((with_reducible apply zAr); (case he => rfl); (case hK | hc | hr | hx | hn => exact sd wQ)) | ((with_reducible first | apply s_bsl | apply t_bsl); (case he | hl | hc => exact sd wQ)) | ((with_reducible apply zA9); (case hx => exact sd wQ)) | ((with_reducible first | apply zA7 | apply zA8); (case h0 | h1 | hx => exact sd wQ)) | ((with_reducible apply zA6); (case h0 | h1 | h2 | hx => exact sd wQ)) | ((with_reducible first | apply zA4 | apply zA5); (case h0 | h1 | hc => exact sd wQ)) | ((with_reducible apply zA3); (case h0 | h1 | h2 | hc => exact sd wQ)) | (with_reducible first | (apply cdA; constructor) | (apply gdA; constructor)) | ((with_reducible refine And.intro ?hw ?_); (case hw => exact sw wQ)) | with_reducible intro _)
   all_goals try (exfalso; omega)
   refine ⟨_, zAo, ?_⟩
   simp [D.closed, D.er, D.cL, D.erL, RcS, Hp.cut, Blk.rnL, Blk.rn, Tv.rnL, D.rnL, D.rn, zAe, Own.rn, hck]
theorem product_e {fo : List Tok → PR} {en : Int} {N : Nat} (hfo : OpOk 33 fo en N) (hN : N ≤ 100000) : OpOk 46 (prodP fo en) en N := by
 intro l g r hl hG h
 obtain ⟨c1, q1, q2⟩ := chain_e (factor_e hfo hN) hN 7 (by omega) (by omega) [42] [47] l g r hl hG h
 refine ⟨?_, q1, q2⟩
 refine zD8 1 0 (Nat.le_refl _) (Nat.le_refl _) (fun β τ => rn_F β τ g) ?_
 refine k46.oe 1 0 rfl rfl rfl ?_
 rw [ie46]
 unfold c46
 have hck := zAh g.kids
 have hek := erL_F g.kids
 have hrn := fun β τ => rnL_F β τ g.kids
 have e3 : strs [[42], [47]] = [.str [42], .str [47]] := rfl
 rw [e3, F.d_eq] at c1
 rw [F.d_eq]
 unfold hpP at c1 ⊢
 have wQ := And.intro @zAe @hrn; repeat' (first | with_reducible (apply swq; constructor) | simp only [go_sem, seval, pe46, q46] | ((with_reducible refine o_eff [0] [] (c1) ?hs ?he ?hh ?_); (case hs => exact so); (case he | hh => exact sh wQ); rintro _ _ ⟨rfl, rfl⟩) | ((with_reducible apply s_bsl); (case he | hl | hc => exact sd wQ)) | with_reducible (apply cdA; constructor) | ((with_reducible refine And.intro ?hw ?_); (case hw => exact sw wQ)) | with_reducible intro _)
 refine ⟨_, zAo, ?_⟩
 simp [D.closed, D.er, D.cL, D.erL, RcS, Hp.cut, Blk.rnL, Blk.rn, Tv.rnL, D.rnL, D.rn, zAe, Own.rn, hck]
theorem sum_e {fo : List Tok → PR} {en : Int} {N : Nat} (hfo : OpOk 33 fo en N) (hN : N ≤ 100000) : OpOk 33 (sumP fo en) en N := by
 intro l g r hl hG h
 obtain ⟨c1, q1, q2⟩ := chain_e (product_e hfo hN) hN 5 (by omega) (by omega) [43] [45] l g r hl hG h
 refine ⟨?_, q1, q2⟩
 refine zD8 1 0 (Nat.le_refl _) (Nat.le_refl _) (fun β τ => rn_F β τ g) ?_
 refine k33.oe 1 0 rfl rfl rfl ?_
 rw [ie33]
 unfold c33
 have hck := zAh g.kids
 have hek := erL_F g.kids
 have hrn := fun β τ => rnL_F β τ g.kids
 have e3 : strs [[43], [45]] = [.str [43], .str [45]] := rfl
 rw [e3, F.d_eq] at c1
 rw [F.d_eq]
 unfold hpP at c1 ⊢
 have wQ := And.intro @zAe @hrn; repeat' (first | with_reducible (apply swq; constructor) | simp only [go_sem, seval, pe33, q33] | ((with_reducible refine o_eff [0] [] (c1) ?hs ?he ?hh ?_); (case hs => exact so); (case he | hh => exact sh wQ); rintro _ _ ⟨rfl, rfl⟩) | ((with_reducible apply s_bsl); (case he | hl | hc => exact sd wQ)) | with_reducible (apply cdA; constructor) | ((with_reducible refine And.intro ?hw ?_); (case hw => exact sw wQ)) | with_reducible intro _)
 refine ⟨_, zAo, ?_⟩
 simp [D.closed, D.er, D.cL, D.erL, RcS, Hp.cut, Blk.rnL, Blk.rn, Tv.rnL, D.rnL, D.rn, zAe, Own.rn, hck]
theorem form_e {en : Int} {N : Nat} (hN : N ≤ 100000) : ∀ k, OpOk 33 (formP en k) en N
 | 0 => fun l g r _ _ h => by simp [formP] at h
 | k + 1 => sum_e (form_e hN k) hN
end Go.Proofs.YtkjnhkoipgdfeaaDoor
end
section
set_option maxRecDepth 100000
set_option linter.unusedSimpArgs false
set_option linter.unusedVariables false
namespace Go.Proofs.YtkjnhkoipgdfeaaDoor
open Go GoV Go.RowKit
theorem idle32 (x y z : Value) (w : World) : CallsD Tryd.prog 32 #[x, y, z] .returning w fun e u' w' => e = .returned (.tuple #[]) ∧ u' = .returning ∧ w' = w := by
 have hnil : ∀ w : World, (binOp BinOp.neq 20 .nilIface .nilIface).run Tryd.prog w = .ok (.bool false) w := fun _ => by kernel_rfl
 refine callsD_of_wpS Tryd.func32 rfl fun c₀ cs hu => ?_
 apply wpS_seq
 apply wpS_region
 simp [wpOpsS, go_sem, recoverD, hu, Tryd.ntmps32, Exit.thenS]
 apply wpS_seq
 apply wpS_region
 simp [wpOpsS, go_sem, hnil, Exit.thenS]
 refine wpS_cond (t := false) (by simp [Act.eval, Array.replicate]) ?_
 simp only [Bool.false_eq_true, if_false]
 refine wpS_of_wp (wp_skip ?_)
 cases c₀
 simp_all [bodyPostS, results, Tryd.results32, Exit.thenS]
def seqL : Code → Code
 | .seq x _ => x
 | c => c
def seqR : Code → Code
 | .seq _ y => y
 | c => c
noncomputable def K13 : Code := Tryd.f13.body.getD .skip
theorem hK13 : Tryd.f13.body = some (.seq (seqL K13) (.seq (seqL (seqR K13)) (.seq (seqL (seqR (seqR K13))) (.seq (seqL (seqR (seqR (seqR K13)))) (seqR (seqR (seqR (seqR K13)))))))) := by kernel_rfl
theorem ops13 : ∃ ops o0 o1, seqL (seqR (seqR (seqR K13))) = .region 4 ops false ∧ ops[0]? = some o0 ∧ ops[1]? = some o1 ∧ ops.size = 2 ∧ o0.op = .makeFunc (.func 32) #[] #[.tmp 2, .tmp 3, .tmp 4] ∧ o0.dst = some 20 ∧ o0.guard = none ∧
 o1.op = .defer { callee := .value (.tmp 20), args := #[], argTypes := #[] } ∧ o1.dst = none ∧ o1.guard = none := ⟨_, _, _, rfl, rfl, rfl, rfl, rfl, rfl, rfl, rfl, rfl, rfl⟩
theorem za13 : zAc (E13 0 0) (seqL K13) = some (.reg r13_0) := by kernel_rfl
theorem zb13 : zAc (E13 0 0) (seqL (seqR K13)) = some (.reg r13_1) := by kernel_rfl
theorem zc13 : zAc (E13 0 0) (seqL (seqR (seqR K13))) = some (.seq (.reg r13_2) (.cond (.v 8) (.seq (.reg r13_3) .ret) .skip)) := by kernel_rfl
noncomputable def cR13 : RC := .seq (.reg r13_4) (.seq (.reg r13_5) (.seq (.seq (.reg r13_6) (.cond (.v 9) (.reg r13_7) .skip)) (.seq (.seq (.reg r13_8) (.cond (.v 10) (.seq (.reg r13_9) .ret) .skip)) (.seq (.reg r13_10) .ret))))
theorem zd13 : zAc (E13 0 0) (seqR (seqR (seqR (seqR K13)))) = some cR13 := by kernel_rfl
end Go.Proofs.YtkjnhkoipgdfeaaDoor
end
section
set_option maxRecDepth 100000
set_option linter.unusedSimpArgs false
set_option linter.unusedVariables false
namespace Go.Proofs.YtkjnhkoipgdfeaaDoor
open Go GoV Go.RowKit
theorem zBy {C : Cfg} {c : Code} {rc : RC} {S S1 : St} (h : SWp C rc (fun e s => e = .normal ∧ s = S1) S) (hc : zAc C c = some rc) (hpan : ∀ d hp, ¬ C.M.pan d hp) {w : World} {g : Gh} (hst : C.M.start w g) {a : Act} {w1 : World} (hs : Sim C w g S a w1) :
 c.wpIn Fence.wide 0 C.P (fun e a' w' => e = .normal ∧ Sim C w g S1 a' w') a w1 := by
 refine wpIn_mono (h.run c hc w g hst a w1 hs none) fun e a' w' hl => ?_
 cases e <;> simp only [Lift] at hl ⊢
 case normal => obtain ⟨s, h1, _, rfl⟩ := hl; exact ⟨trivial, h1⟩
 case panic => obtain ⟨_, _, _, _, _, _, k, _⟩ := hl; exact absurd k (hpan _ _)
 case exit => obtain ⟨_, _, q, _⟩ := hl; cases q
 case ret => obtain ⟨_, _, q, _⟩ := hl; cases q
noncomputable abbrev S13 (s : Tx) (l : List Tok) : St := ⟨[.str s, .ptr 0 0, .ptr 1 0, .ptr 2 0, .slice (tokL l) .no, .int .i64 0, .int .i64 0, .u0, .bool false, .u0, .u0], [], ⟨[.cells [.int .i64 0, .int .i64 0, .lit (.slice none 0 0)], .cells [.int .i64 0], .cells [.int .i64 0]], []⟩⟩
def defC (C : Cfg) (dd : Deferred) : Cfg := { C with dfs := [dd] }
set_option maxHeartbeats 1000000 in
theorem parse_run (s : Tx) {l : List Tok} (hlex : Pur M 27 [.str s] (.tup [.slice (tokL l) .no, .int .i64 0, .int .i64 0])) {d : D}
 (hR : ∀ dd : Deferred, SWp (defC (E13 0 0) dd) cR13 (fun e s1 => (match e with | .exit _ => False | _ => True) ∧ rrsWp q13 s1 fun ds => D.closed (zAn ds) = true ∧ (zAn ds).er = d) (S13 s l)) : Pur M 13 [.str s] d := by
 have hcl := zEf l
 have her := tokL_er l
 have s1 : SWp (E13 0 0) (.reg r13_0) (fun e s' => e = .normal ∧ s' = ⟨[.str s, .ptr 0 0, .ptr 1 0, .ptr 2 0, .u0, .u0, .u0, .u0, .u0, .u0, .u0], [], ⟨[.cells [.int .i64 0, .int .i64 0, .lit (.slice none 0 0)], .cells [.int .i64 0], .cells [.int .i64 0]], []⟩⟩) (St.init (E13 0 0) [.str s] ⟨[], []⟩) := by
  rw [ie13]
  have wQ := tw; repeat' (first | with_reducible (apply swq; constructor) | simp only [go_sem, seval, pe13, q13] | with_reducible (apply cdA; constructor) | ((with_reducible refine And.intro ?hw ?_); (case hw => exact sw wQ)) | with_reducible intro _)
  all_goals first | exact ⟨rfl, rfl⟩ | rfl | trivial
 have s2 : SWp (E13 0 0) (.reg r13_1) (fun e s' => e = .normal ∧ s' = ⟨[.str s, .ptr 0 0, .ptr 1 0, .ptr 2 0, .slice (tokL l) .no, .int .i64 0, .int .i64 0, .u0, .u0, .u0, .u0], [], ⟨[.cells [.int .i64 0, .int .i64 0, .lit (.slice none 0 0)], .cells [.int .i64 0], .cells [.int .i64 0]], []⟩⟩)
  ⟨[.str s, .ptr 0 0, .ptr 1 0, .ptr 2 0, .u0, .u0, .u0, .u0, .u0, .u0, .u0], [], ⟨[.cells [.int .i64 0, .int .i64 0, .lit (.slice none 0 0)], .cells [.int .i64 0], .cells [.int .i64 0]], []⟩⟩ := by
  have wQ := And.intro @hcl @her; repeat' (first | with_reducible (apply swq; constructor) | simp only [go_sem, seval, pe13, q13] | ((with_reducible refine zAb (hlex) ?he ?hc ?_); (case he | hc => exact sc wQ)) | with_reducible (apply cdA; constructor) | ((with_reducible refine And.intro ?hw ?_); (case hw => exact sw wQ)) | with_reducible intro _)
  all_goals first | exact ⟨rfl, rfl⟩ | rfl | trivial
 have s3 : SWp (E13 0 0) (.seq (.reg r13_2) (.cond (.v 8) (.seq (.reg r13_3) .ret) .skip)) (fun e s' => e = .normal ∧ s' = S13 s l)
  ⟨[.str s, .ptr 0 0, .ptr 1 0, .ptr 2 0, .slice (tokL l) .no, .int .i64 0, .int .i64 0, .u0, .u0, .u0, .u0], [], ⟨[.cells [.int .i64 0, .int .i64 0, .lit (.slice none 0 0)], .cells [.int .i64 0], .cells [.int .i64 0]], []⟩⟩ := by
  have wQ := tw; repeat' (first | with_reducible (apply swq; constructor) | simp only [go_sem, seval, pe13, q13] | with_reducible (apply cdA; constructor) | ((with_reducible refine And.intro ?hw ?_); (case hw => exact sw wQ)) | with_reducible intro _)
  all_goals first | exact ⟨rfl, rfl⟩ | rfl | trivial
 have hP : (E13 0 0).P = Tryd.prog := rfl
 refine zDr ⟨⟨Tryd.f13, Tryd.func13, by kernel_rfl, rfl⟩, fun w g xs hA hH hargs => ?_⟩
 refine calls_of_wp_defers Tryd.func13 hK13 ((wpIn_wide (n := 0)).1 ?_)
 have hsim := zD7 (C := E13 0 0) (fn := Tryd.f13) (by kernel_rfl) (args := [.str s]) (hp := ⟨[], []⟩) (by rfl) (by rw [show ([D.str s] : List D).length = 1 from rfl]; decide) rfl rfl rfl hH hargs
 have hstart : (E13 0 0).M.start w g := ⟨hA, trivial⟩
 have hpan : ∀ d hp, ¬ (E13 0 0).M.pan d hp := fun _ _ h => h
 refine wpIn_seq (wpIn_mono (zBy s1 za13 hpan hstart hsim) fun e a1 w1 hl => ?_)
 obtain ⟨rfl, hl⟩ := hl
 simp only [Exit.then]
 refine wpIn_seq (wpIn_mono (zBy s2 zb13 hpan hstart hl) fun e a2 w2 hl => ?_)
 obtain ⟨rfl, hl⟩ := hl
 simp only [Exit.then]
 refine wpIn_seq (wpIn_mono (zBy s3 zc13 hpan hstart hl) fun e a3 w3 hl => ?_)
 obtain ⟨rfl, hl⟩ := hl
 simp only [Exit.then]
 obtain ⟨ops, o0, o1, hr4, h0, h1, hsz, p0, p1, p2, p3, p4, p5⟩ := ops13
 obtain ⟨G, i0, ib, i1, i2, i3, i4⟩ := hl
 have e1 := i4 2
 have e2 := i4 3
 have e3 := i4 4
 refine wpIn_seq ?_
 rw [hr4]
 have hev : ∀ t, a3.eval (.tmp t) = a3.tmps.getD t Go.undef := fun t => rfl
 obtain ⟨dd, hdd⟩ : ∃ dd : Deferred, dd = { target := .fn (.func 32) #[a3.tmps.getD 2 Go.undef, a3.tmps.getD 3 Go.undef, a3.tmps.getD 4 Go.undef], args := #[] } := ⟨_, rfl⟩
 have hreg : (Code.region 4 ops false).wpIn Fence.wide 0 Tryd.prog (fun e a' w' => e = .normal ∧ w' = w3 ∧ a' = { tmps := a3.tmps.setIfInBounds 20 (.func (.func 32) #[] #[a3.tmps.getD 2 Go.undef, a3.tmps.getD 3 Go.undef, a3.tmps.getD 4 Go.undef]), defers := [dd] }) a3 w3 := by
  refine (wpIn_wide (n := 0)).2 (wp_region ?_)
  rw [hsz]
  show wpOps Tryd.prog ops _ [0, 1] a3 w3
  have r0 : (execOp a3.eval o0).run Tryd.prog w3 = .ok (.value (.func (.func 32) #[] #[a3.tmps.getD 2 Go.undef, a3.tmps.getD 3 Go.undef, a3.tmps.getD 4 Go.undef])) w3 := by
   have hmf : ∀ (fn : Fn) (first cap : Array Value) (w : World), (Instr.makeFunc fn first cap).run Tryd.prog w = .ok (.func fn first cap) w := fun _ _ _ _ => rfl
   simp only [execOp, p0, Sem.run_bind, hmf, Result.andThen_ok, Sem.run_pure]
   simp [Act.eval]
  simp only [wpOps, h0, h1, Region.wanted, p2, p5, if_true]
  refine .inl ?_
  simp only [Oper.wp, r0, Oper.upon_value]
  have hsz20 : 20 < a3.tmps.size := by rw [i1]; decide
  have e20 : (a3.put o0.dst (.func (.func 32) #[] #[a3.tmps.getD 2 Go.undef, a3.tmps.getD 3 Go.undef, a3.tmps.getD 4 Go.undef])).eval (.tmp 20) = .func (.func 32) #[] #[a3.tmps.getD 2 Go.undef, a3.tmps.getD 3 Go.undef, a3.tmps.getD 4 Go.undef] := by
   rw [p1]; simp [Act.eval, Act.put, hsz20]
  have r1 : (execOp (a3.put o0.dst (.func (.func 32) #[] #[a3.tmps.getD 2 Go.undef, a3.tmps.getD 3 Go.undef, a3.tmps.getD 4 Go.undef])).eval o1).run Tryd.prog w3 = .ok (.defer dd) w3 := by
   simp only [execOp, p3, resolve, e20, hdd, Sem.run_bind, Sem.run_pure, Result.andThen_ok]
   simp [Deferred.ofValue, Sem.run_pure]
  refine .inl ?_
  rw [r1, Oper.upon_defer, p4, p1]
  refine ⟨?_, ?_, ?_⟩
  ·trivial
  ·first | rfl | trivial
  ·simp [Act.put, i2, E13]
 refine wpIn_mono hreg fun e a4 w4 hq => ?_
 obtain ⟨rfl, rfl, rfl⟩ := hq
 simp only [Exit.then]
 have hsim4 : Sim (defC (E13 0 0) dd) w g (S13 s l) { tmps := a3.tmps.setIfInBounds 20 (.func (.func 32) #[] #[a3.tmps.getD 2 Go.undef, a3.tmps.getD 3 Go.undef, a3.tmps.getD 4 Go.undef]), defers := [dd] } w4 := by
  refine ⟨G, i0, ib, (by rw [Array.size_setIfInBounds]; exact i1), rfl, i3, fun t => ?_⟩
  by_cases ht : t = 20
  ·subst ht
   have : (S13 s l).slot (defC (E13 0 0) dd).pers 20 = .u0 := rfl
   rw [this]; simp [Rel]
  ·have := i4 t
   rw [show (a3.tmps.setIfInBounds 20 (.func (.func 32) #[] #[a3.tmps.getD 2 Go.undef, a3.tmps.getD 3 Go.undef, a3.tmps.getD 4 Go.undef])).getD t Go.undef = a3.tmps.getD t Go.undef by
    simp only [Array.getD_eq_getD_getElem?, Array.getElem?_setIfInBounds]
    rw [if_neg (fun e => ht e.symm)]]
   exact this
 refine wpIn_mono ((hR dd).run _ (zCr zd13 rfl rfl rfl) w g hstart _ w4 hsim4 none) fun e a5 w5 hl => ?_
 have fin : ∀ s1, Sim (defC (E13 0 0) dd) w g s1 a5 w5 → (rrsWp q13 s1 fun ds => D.closed (zAn ds) = true ∧ (zAn ds).er = d) → Leaves Tryd.prog Tryd.f13 a5.tmps (Post w g fun d' _ => d'.closed = true ∧ d'.er = d) a5.defers .returning w5 := by
  intro s1 hs hrr
  obtain ⟨G5, j0, jb, j1, j2, j3, j4⟩ := hs
  have j2' : a5.defers = [dd] := j2
  rw [j2', hdd]
  refine leaves_cons (f := 32) (args := #[a3.tmps.getD 2 Go.undef, a3.tmps.getD 3 Go.undef, a3.tmps.getD 4 Go.undef]) (by simp) (by simp [go_sem]) ?_
  refine (idle32 _ _ _ _).mono ?_
  rintro e u' w'' ⟨rfl, rfl, rfl⟩
  simp only [Leaves, settle]
  obtain ⟨ds, v, k1, k4, k5⟩ := zCp (C := defC (E13 0 0) dd) (a := a5) (fn := Tryd.f13) j0 j4 (rs := q13) (by kernel_rfl) hrr
  exact ⟨v, k5, v, _, _, G5, rfl, k1, j0, k4⟩
 cases e <;> simp only [Lift, bodyPostD] at hl ⊢
 case panic => obtain ⟨_, _, _, _, _, _, k, _⟩ := hl; exact absurd k (hpan _ _)
 case normal => obtain ⟨s1, h1, _, h2⟩ := hl; exact fin s1 h1 h2
 case exit => obtain ⟨s1, h1, h3, h2⟩ := hl; exact h3.elim
 case ret => obtain ⟨s1, h1, _, h2⟩ := hl; exact fin s1 h1 h2
end Go.Proofs.YtkjnhkoipgdfeaaDoor
end
section
set_option maxRecDepth 100000
set_option linter.unusedSimpArgs false
set_option linter.unusedVariables false
namespace Go.Proofs.YtkjnhkoipgdfeaaDoor
open Go GoV Go.RowKit
theorem def_M {C : Cfg} {dd : Deferred} : (defC C dd).M = C.M := rfl
set_option maxHeartbeats 1000000 in
theorem parse_p (s : Tx) (hs : s.length ≤ 4999) (hq : zEa s) {l : List Tok} (hl : lexP s = (l, 0, 0)) (hll : l.length ≤ 5000) (hG : GoodT l) {f : F} (hp : formP s.length (l.length + 1) l = .ok f []) (hn : f.nodes ≤ 60) : Pur M 13 [.str s] (.tup [f.d, .int .i64 0, .int .i64 0]) := by
 have hlex := lex_p s hs hq
 rw [hl] at hlex
 refine parse_run s hlex fun dd => ?_
 unfold cR13
 obtain ⟨c1, _, _⟩ := form_e (en := s.length) (N := 5000) (by omega) (l.length + 1) l f [] hll hG hp
 have c2 := nodes_p f.nodes f (Nat.le_refl _) 60 (by omega)
 rw [show min f.nodes (60 + 1) = f.nodes by omega] at c2
 have hck := zAh f.kids
 have hek := erL_F f.kids
 have hrn := fun β τ => rnL_F β τ f.kids
 have hd : decide ((f.nodes : Int) > 60) = false := by simp; omega
 rw [F.d_eq] at c1 c2 ⊢
 generalize f.nodes = n at *
 unfold hpP at c1
 have e0 : tokL [] = [] := rfl
 rw [e0] at c1
 have wQ := And.intro @zAe (And.intro @hrn (And.intro @hck @hek)); repeat' (first | with_reducible (apply swq; constructor) | simp only [go_sem, seval, def_M, pe13, q13, hd] | ((with_reducible refine o_eff [3] [] (c1) ?hs ?he ?hh ?_); (case hs => exact so); (case he | hh => exact sh wQ); rintro _ _ ⟨rfl, rfl⟩) | ((with_reducible refine zAb (c2) ?he ?hc ?_); (case he | hc => exact sc wQ)) | with_reducible (apply cdA; constructor) | ((with_reducible refine And.intro ?hw ?_); (case hw => exact sw wQ)) | with_reducible intro _)
 all_goals try (exfalso; omega)
 all_goals simp [D.closed, D.er, D.cL, D.erL, RcS, hck, setL]
theorem quote_no {t : Tx} (h : (t.all fun c => !(c == 34)) = true) : zEa t := fun i hi hc => by
 have := cls_quote hc
 rw [List.all_eq_true] at h
 have hm : t.getD i 0 ∈ t := by simp [List.getD, hi]
 have := h _ hm
 simp_all
def toks1 : List Tok := (lexP ex1).1
def toks2 : List Tok := (lexP ex2).1
instance (s : Tx) : Decidable (numOk s) := inferInstanceAs (Decidable (_ ∧ _ ∧ _))
theorem good1 : GoodT toks1 := by
 have : (toks1.all fun t => decide (t.kind = 2 → numOk t.text)) = true := by decide +kernel
 intro t ht hk
 rw [List.all_eq_true] at this
 exact of_decide_eq_true (this t ht) hk
theorem good2 : GoodT toks2 := by
 have : (toks2.all fun t => decide (t.kind = 2 → numOk t.text)) = true := by decide +kernel
 intro t ht hk
 rw [List.all_eq_true] at this
 exact of_decide_eq_true (this t ht) hk
theorem parse1_p : Pur M 13 [.str ex1] (.tup [F1.d, .int .i64 0, .int .i64 0]) :=
 parse_p ex1 (by decide) (quote_no (by decide +kernel)) (l := toks1) (by kernel_rfl) (by decide +kernel) good1 (by kernel_rfl) (by decide +kernel)
theorem parse2_p : Pur M 13 [.str ex2] (.tup [F2.d, .int .i64 0, .int .i64 0]) :=
 parse_p ex2 (by decide) (quote_no (by decide +kernel)) (l := toks2) (by kernel_rfl) (by decide +kernel) good2 (by kernel_rfl) (by decide +kernel)
end Go.Proofs.YtkjnhkoipgdfeaaDoor
end
section
set_option maxRecDepth 100000
set_option linter.unusedSimpArgs false
set_option linter.unusedVariables false
namespace Go.Proofs.YtkjnhkoipgdfeaaDoor
open Go GoV Go.RowKit
theorem tab_ok (w : World) (h : M.amb w []) : Lib.TabIs Tryd.prog w "internal/strconv.uint64pow10" .u64 Lib.pow10Tab :=
 tabIs_var (P := Tryd.prog) (r := []) h (by kernel_rfl) (List.mem_cons.2 (.inl rfl))
theorem itoa_p (n : Int) (h0 : -9223372036854775808 ≤ n) (h1 : n ≤ 9223372036854775807) : Pur M 43 [.int .i64 n] (.str (Lib.itoa n)) := by
 refine pur_ext (vs := [.int .i64 n]) (v := .string ⟨(Lib.itoa n).toArray⟩) ⟨Tryd.f43, Tryd.func43, rfl, rfl⟩ (fun w I xs h => ?_) (fun w I => ?_) (fun w hA => ?_)
 ·obtain ⟨x, xs', rfl, g1, g2⟩ := h.inv
  simp only [Rel] at g1
  rw [g2.inv_nil, g1]
 ·simp [Rel]
 ·refine (Tryd.strconv_Itoa n h0 h1 w (tab_ok w hA)).mono fun e w' h => ?_
  obtain ⟨rfl, k, os, rfl⟩ := h
  exact ⟨rfl, below_grow k os⟩
def rankF (op : Int) : Int := if op = 5 ∨ op = 6 then 0 else if op = 7 ∨ op = 8 then 1 else 2
def symF (op : Int) : Tx := if op = 5 then [43] else if op = 6 then [45] else if op = 7 then [42] else [47]
def bodyW (op n : Int) (ts : List Tx) : Tx :=
 if op = 1 then Lib.itoa n else if op = 2 then tKm else if op = 3 then tCy else if op = 4 then tLd
 else if op = 9 then (((tMin ++ [40]) ++ ts.getD 0 []) ++ [44, 32]) ++ ts.getD 1 [] ++ [41]
 else if op = 10 then (((tMax ++ [40]) ++ ts.getD 0 []) ++ [44, 32]) ++ ts.getD 1 [] ++ [41]
 else if op = 11 then (((((tIf ++ [40]) ++ ts.getD 0 []) ++ [44, 32]) ++ ts.getD 1 []) ++ [44, 32]) ++ ts.getD 2 [] ++ [41]
 else (((ts.getD 0 [] ++ [32]) ++ symF op) ++ [32]) ++ ts.getD 1 []
def parW (r least : Int) (t : Tx) : Tx := if r < least then ([40] ++ t) ++ [41] else t
mutual
def wr : F → Int → Tx
 | .mk op n ks, least => parW (rankF op) least (bodyW op n (if rankF op = 2 then wrL 0 0 ks else wrL (rankF op) (rankF op + 1) ks))
def wrL : Int → Int → List F → List Tx
 | _, _, [] => []
 | a, b, k :: ks => wr k a :: wrL b b ks
end
theorem rank_cases (op : Int) : (op = 5 ∨ op = 6 → rankF op = 0) ∧ (op = 7 ∨ op = 8 → rankF op = 1) ∧ (¬ (op = 5 ∨ op = 6 ∨ op = 7 ∨ op = 8) → rankF op = 2) := by
 unfold rankF
 refine ⟨fun h => by rw [if_pos h], fun h => by rw [if_neg (by omega), if_pos h], fun h => by rw [if_neg (by omega), if_neg (by omega)]⟩
theorem rank_p (op : Int) : Pur M 44 [.int .i64 op] (.int .i64 (rankF op)) := by
 refine k44.ok (C := C44) rfl rfl ?_
 rw [i44]
 unfold c44
 obtain ⟨r1, r2, r3⟩ := rank_cases op
 have : op = 5 ∨ op = 6 ∨ op = 7 ∨ op = 8 ∨ ¬ (op = 5 ∨ op = 6 ∨ op = 7 ∨ op = 8) := by omega
 rcases this with rfl | rfl | rfl | rfl | h
 iterate 2
  ·rw [r1 (by omega)]; have wQ := tw; repeat' (first | with_reducible (apply swq; constructor) | simp only [go_sem, seval, P44, q44] | with_reducible (apply cdA; constructor) | ((with_reducible refine And.intro ?hw ?_); (case hw => exact sw wQ)) | with_reducible intro _)
   all_goals first | omega | (simp_all [D.closed, D.er, D.cL, D.erL]; done) | (simp_all [D.closed, D.er, D.cL, D.erL] <;> omega)
 iterate 2
  ·rw [r2 (by omega)]; have wQ := tw; repeat' (first | with_reducible (apply swq; constructor) | simp only [go_sem, seval, P44, q44] | with_reducible (apply cdA; constructor) | ((with_reducible refine And.intro ?hw ?_); (case hw => exact sw wQ)) | with_reducible intro _)
   all_goals first | omega | (simp_all [D.closed, D.er, D.cL, D.erL]; done) | (simp_all [D.closed, D.er, D.cL, D.erL] <;> omega)
 ·rw [r3 h]
  have t1 : (op == 5) = false := by simp; omega
  have t2 : (op == 6) = false := by simp; omega
  have t3 : (op == 7) = false := by simp; omega
  have t4 : (op == 8) = false := by simp; omega
  have wQ := tw; repeat' (first | with_reducible (apply swq; constructor) | simp only [go_sem, seval, P44, q44, t1, t2, t3, t4] | with_reducible (apply cdA; constructor) | ((with_reducible refine And.intro ?hw ?_); (case hw => exact sw wQ)) | with_reducible intro _)
  all_goals first | omega | (simp_all [D.closed, D.er, D.cL, D.erL]; done) | (simp_all [D.closed, D.er, D.cL, D.erL] <;> omega)
theorem nd_le : ∀ (k u : Nat), u < 10 ^ (k + 1) → Lib.nDigits u ≤ k + 1
 | 0, u, h => by rw [Lib.nDigits_small (by simpa using h)]; omega
 | k + 1, u, h => by
   by_cases hu : u < 10
   ·rw [Lib.nDigits_small hu]; omega
   ·rw [Lib.nDigits_big hu]
    have := nd_le k (u / 10) (by rw [Nat.pow_succ] at h; omega)
    omega
theorem itoa_len {n : Int} (h0 : 0 ≤ n) (h1 : n ≤ 9999999) : (Lib.itoa n).length ≤ 20 := by
 unfold Lib.itoa
 rw [if_neg (by omega), Lib.decDigits_length]
 have := nd_le 7 n.toNat (by omega)
 omega
theorem wr_mk_len (op n least : Int) (ts : List Tx) (h0 : 0 ≤ n) (h1 : n ≤ 9999999) : (parW (rankF op) least (bodyW op n ts)).length ≤ 24 + (ts.getD 0 []).length + (ts.getD 1 []).length + (ts.getD 2 []).length := by
 have hi := itoa_len h0 h1
 have hb : (bodyW op n ts).length ≤ 22 + (ts.getD 0 []).length + (ts.getD 1 []).length + (ts.getD 2 []).length := by
  unfold bodyW symF
  repeat' split
  all_goals first | omega | (simp only [List.length_append, tKm, tCy, tLd, tMin, tMax, tIf, List.length_cons, List.length_nil]; omega)
 unfold parW
 split
 ·simp only [List.length_append, List.length_cons, List.length_nil]; omega
 ·omega
theorem wr_len : ∀ (k : Nat) (f : F), f.nodes ≤ k → f.well = true → ∀ least, (wr f least).length ≤ 24 * f.nodes
 | 0, f, hk, _, _ => by have := zCy f; omega
 | k + 1, .mk op n ks, hk, hw, least => by
   obtain ⟨hkw, o1, o2, n1, n2, hc⟩ := zEr hw
   have ih : ∀ y ∈ ks, ∀ least, (wr y least).length ≤ 24 * y.nodes := fun y hy => wr_len k y (by have := zB0 (f := .mk op n ks) hy; omega) (hkw y hy)
   simp only [wr]
   refine Nat.le_trans (wr_mk_len op n least _ n1 n2) ?_
   rcases hc with ⟨g1, rfl⟩ | ⟨g1, g2, a, b, rfl⟩ | ⟨rfl, a, b, c, rfl⟩
   ·simp [F.nodes, F.nodesL, wrL]
   ·have h1 := ih a (by simp)
    have h2 := ih b (by simp)
    simp only [F.nodes, F.nodesL]
    split
    ·have := h1 0; have := h2 0; simp [wrL]; omega
    ·have := h1 (rankF op); have := h2 (rankF op + 1); simp [wrL]; omega
   ·have h1 := ih a (by simp) 0
    have h2 := ih b (by simp) 0
    have h3 := ih c (by simp) 0
    simp only [F.nodes, F.nodesL]
    rw [if_pos (by rfl)]
    simp [wrL]; omega
theorem sym_len (op : Int) : (symF op).length = 1 := by
 unfold symF
 split
 ·rfl
 split
 ·rfl
 split <;> rfl
theorem wrL2 (r0 r1 : Int) (a b : F) : wrL r0 r1 [a, b] = [wr a r0, wr b r1] := by simp [wrL]
theorem wrL3 (a b c : F) : wrL 0 0 [a, b, c] = [wr a 0, wr b 0, wr c 0] := by simp [wrL]
theorem sym_cut {op : Int} (h1 : 5 ≤ op) (h2 : op ≤ 8) : ((([43, 45, 42, 47] : Tx).take (op - 5 + 1).toNat).drop (op - 5).toNat) = symF op := by
 have : op = 5 ∨ op = 6 ∨ op = 7 ∨ op = 8 := by omega
 rcases this with rfl | rfl | rfl | rfl <;> rfl
set_option maxHeartbeats 4000000 in
theorem write_p : ∀ (k : Nat) (f : F), f.nodes ≤ k → f.nodes ≤ 60 → f.well = true → ∀ least : Int, -100 ≤ least → least ≤ 100 → Pur M 29 [f.d, .int .i64 least] (.str (wr f least))
 | 0, f, hk, _, _, _, _, _ => by have := zCy f; omega
 | k + 1, .mk op n ks, hk, h60, hw, least, hl1, hl2 => by
   obtain ⟨hkw, o1, o2, n1, n2, hc⟩ := zEr hw
   have ih : ∀ y ∈ ks, ∀ least : Int, -100 ≤ least → least ≤ 100 → Pur M 29 [y.d, .int .i64 least] (.str (wr y least)) := fun y hy => write_p k y (by have := zB0 (f := .mk op n ks) hy; omega) (by have := zB0 (f := .mk op n ks) hy; omega) (hkw y hy)
   have hle : ∀ y ∈ ks, ∀ least, (wr y least).length ≤ 1440 := fun y hy least => by
    have := wr_len y.nodes y (Nat.le_refl _) (hkw y hy) least
    have := zB0 (f := .mk op n ks) hy
    omega
   have cr := rank_p op
   obtain ⟨r1, r2, r3⟩ := rank_cases op
   refine k29.ok (C := C29) rfl rfl ?_
   rw [i29]
   unfold c29
   rw [F.d_mk]
   simp only [wr]
   unfold parW
   rcases hc with ⟨g1, rfl⟩ | ⟨g1, g2, a, b, rfl⟩ | ⟨rfl, a, b, c, rfl⟩
   ·have hr := r3 (by omega)
    rw [hr] at cr ⊢
    by_cases hlt : 2 < least
    ·have hd : decide (2 < least) = true := by simp [hlt]
     rw [if_pos hlt]
     have : op = 1 ∨ op = 2 ∨ op = 3 ∨ op = 4 := by omega
     rcases this with rfl | rfl | rfl | rfl
     ·have c1 := itoa_p n (by omega) (by omega)
      have hi := itoa_len n1 n2
      have e : bodyW 1 n (if (2 : Int) = 2 then wrL 0 0 [] else wrL 2 (2 + 1) []) = Lib.itoa n := rfl
      rw [e]
      generalize Lib.itoa n = t at *
      have wQ := @hi; repeat' (first | with_reducible (apply swq; constructor) | simp only [go_sem, seval, P29, q29, hd] | ((with_reducible first | refine zAb (c1) ?he ?hc ?_ | refine zAk (c1) ?he ?hc ?_ | refine zAl (c1) ?he ?hc ?_); (case he | hc => exact sc wQ)) | ((with_reducible first | refine zAb (cr) ?he ?hc ?_ | refine zAk (cr) ?he ?hc ?_ | refine zAl (cr) ?he ?hc ?_); (case he | hc => exact sc wQ)) | with_reducible (apply cdA; constructor) | ((with_reducible refine And.intro ?hw ?_); (case hw => exact sw wQ)) | with_reducible intro _)
      all_goals first | omega | (simp_all [D.closed, D.er, D.cL, D.erL]; done) | (simp_all [D.closed, D.er, D.cL, D.erL] <;> omega)
     all_goals
      have wQ := tw; repeat' (first | with_reducible (apply swq; constructor) | simp only [go_sem, seval, P29, q29, hd] | ((with_reducible first | refine zAb (cr) ?he ?hc ?_ | refine zAk (cr) ?he ?hc ?_ | refine zAl (cr) ?he ?hc ?_); (case he | hc => exact sc wQ)) | with_reducible (apply cdA; constructor) | ((with_reducible refine And.intro ?hw ?_); (case hw => exact sw wQ)) | with_reducible intro _)
      all_goals simp [D.closed, D.er, bodyW, tKm, tCy, tLd]
    ·have hd : decide (2 < least) = false := by simp; omega
     rw [if_neg hlt]
     have : op = 1 ∨ op = 2 ∨ op = 3 ∨ op = 4 := by omega
     rcases this with rfl | rfl | rfl | rfl
     ·have c1 := itoa_p n (by omega) (by omega)
      have hi := itoa_len n1 n2
      have e : bodyW 1 n (if (2 : Int) = 2 then wrL 0 0 [] else wrL 2 (2 + 1) []) = Lib.itoa n := rfl
      rw [e]
      generalize Lib.itoa n = t at *
      have wQ := @hi; repeat' (first | with_reducible (apply swq; constructor) | simp only [go_sem, seval, P29, q29, hd] | ((with_reducible first | refine zAb (c1) ?he ?hc ?_ | refine zAk (c1) ?he ?hc ?_ | refine zAl (c1) ?he ?hc ?_); (case he | hc => exact sc wQ)) | ((with_reducible first | refine zAb (cr) ?he ?hc ?_ | refine zAk (cr) ?he ?hc ?_ | refine zAl (cr) ?he ?hc ?_); (case he | hc => exact sc wQ)) | with_reducible (apply cdA; constructor) | ((with_reducible refine And.intro ?hw ?_); (case hw => exact sw wQ)) | with_reducible intro _)
      all_goals first | omega | (simp_all [D.closed, D.er, D.cL, D.erL]; done) | (simp_all [D.closed, D.er, D.cL, D.erL] <;> omega)
     all_goals
      have wQ := tw; repeat' (first | with_reducible (apply swq; constructor) | simp only [go_sem, seval, P29, q29, hd] | ((with_reducible first | refine zAb (cr) ?he ?hc ?_ | refine zAk (cr) ?he ?hc ?_ | refine zAl (cr) ?he ?hc ?_); (case he | hc => exact sc wQ)) | with_reducible (apply cdA; constructor) | ((with_reducible refine And.intro ?hw ?_); (case hw => exact sw wQ)) | with_reducible intro _)
      all_goals simp [D.closed, D.er, bodyW, tKm, tCy, tLd]
   ·have hka := zAh a.kids
    have hkb := zAh b.kids
    have hea := erL_F a.kids
    have heb := erL_F b.kids
    have i1 := ih a (by simp)
    have i2 := ih b (by simp)
    have l1 := hle a (by simp)
    have l2 := hle b (by simp)
    rw [F.d_eq] at i1 i2
    simp only [List.map_cons, List.map_nil, F.d_eq]
    by_cases h8 : op ≤ 8
    ·have hsy := sym_cut g1 h8
     have hsl := sym_len op
     have hrr : rankF op = 0 ∨ rankF op = 1 := by
      by_cases q : op = 5 ∨ op = 6
      ·exact .inl (r1 q)
      ·exact .inr (r2 (by omega))
     have hne : ¬ rankF op = 2 := by omega
     have t1 : (op == 1) = false := by simp; omega
     have t2 : (op == 2) = false := by simp; omega
     have t3 : (op == 3) = false := by simp; omega
     have t4 : (op == 4) = false := by simp; omega
     have t5 : (op == 9) = false := by simp; omega
     have t6 : (op == 10) = false := by simp; omega
     have t7 : (op == 11) = false := by simp; omega
     have e : bodyW op n (if rankF op = 2 then wrL 0 0 [a, b] else wrL (rankF op) (rankF op + 1) [a, b]) = (((wr a (rankF op) ++ [32]) ++ symF op) ++ [32]) ++ wr b (rankF op + 1) := by
      rw [if_neg hne, wrL2]
      unfold bodyW
      rw [if_neg (by omega), if_neg (by omega), if_neg (by omega), if_neg (by omega), if_neg (by omega), if_neg (by omega), if_neg (by omega)]
      rfl
     rw [e]
     have i1 := i1 (rankF op) (by omega) (by omega)
     have i2 := i2 (rankF op + 1) (by omega) (by omega)
     have l1 := l1 (rankF op)
     have l2 := l2 (rankF op + 1)
     generalize rankF op = rk at *
     generalize wr a rk = ta at *
     generalize wr b (rk + 1) = tb at *
     generalize symF op = sy at *
     by_cases hlt : rk < least
     ·have hd : decide (rk < least) = true := by simp [hlt]
      rw [if_pos hlt]
      have wQ := And.intro @hka (And.intro @hkb (And.intro @hea (And.intro @heb (And.intro @hsl (And.intro @l1 @l2))))); repeat' (first | with_reducible (apply swq; constructor) | simp only [go_sem, seval, P29, q29, hd, t1, t2, t3, t4, t5, t6, t7, hsy] | simp (disch := omega) only [w64, w32, wu8, wu16, wu32, wu64] | ((with_reducible first | refine zAb (i1) ?he ?hc ?_ | refine zAk (i1) ?he ?hc ?_ | refine zAl (i1) ?he ?hc ?_); (case he | hc => exact sc wQ)) | ((with_reducible first | refine zAb (i2) ?he ?hc ?_ | refine zAk (i2) ?he ?hc ?_ | refine zAl (i2) ?he ?hc ?_); (case he | hc => exact sc wQ)) | ((with_reducible first | refine zAb (cr) ?he ?hc ?_ | refine zAk (cr) ?he ?hc ?_ | refine zAl (cr) ?he ?hc ?_); (case he | hc => exact sc wQ)) | with_reducible (apply cdA; constructor) | ((with_reducible refine And.intro ?hw ?_); (case hw => exact sw wQ)) | with_reducible intro _)
      all_goals try (exfalso; omega)
      all_goals simp [D.closed, D.er]
     ·have hd : decide (rk < least) = false := by simp; omega
      rw [if_neg hlt]
      have wQ := And.intro @hka (And.intro @hkb (And.intro @hea (And.intro @heb (And.intro @hsl (And.intro @l1 @l2))))); repeat' (first | with_reducible (apply swq; constructor) | simp only [go_sem, seval, P29, q29, hd, t1, t2, t3, t4, t5, t6, t7, hsy] | simp (disch := omega) only [w64, w32, wu8, wu16, wu32, wu64] | ((with_reducible first | refine zAb (i1) ?he ?hc ?_ | refine zAk (i1) ?he ?hc ?_ | refine zAl (i1) ?he ?hc ?_); (case he | hc => exact sc wQ)) | ((with_reducible first | refine zAb (i2) ?he ?hc ?_ | refine zAk (i2) ?he ?hc ?_ | refine zAl (i2) ?he ?hc ?_); (case he | hc => exact sc wQ)) | ((with_reducible first | refine zAb (cr) ?he ?hc ?_ | refine zAk (cr) ?he ?hc ?_ | refine zAl (cr) ?he ?hc ?_); (case he | hc => exact sc wQ)) | with_reducible (apply cdA; constructor) | ((with_reducible refine And.intro ?hw ?_); (case hw => exact sw wQ)) | with_reducible intro _)
      all_goals try (exfalso; omega)
      all_goals simp [D.closed, D.er]
    ·have hr := r3 (by omega)
     rw [hr] at cr ⊢
     have i1 := i1 0 (by omega) (by omega)
     have i2 := i2 0 (by omega) (by omega)
     have l1 := l1 0
     have l2 := l2 0
     have : op = 9 ∨ op = 10 := by omega
     rw [if_pos rfl, wrL2]
     generalize wr a 0 = ta at *
     generalize wr b 0 = tb at *
     by_cases hlt : 2 < least
     ·have hd : decide (2 < least) = true := by simp [hlt]
      rw [if_pos hlt]
      rcases this with rfl | rfl
      all_goals
       have wQ := And.intro @hka (And.intro @hkb (And.intro @hea (And.intro @heb (And.intro @l1 @l2)))); repeat' (first | with_reducible (apply swq; constructor) | simp only [go_sem, seval, P29, q29, hd] | simp (disch := omega) only [w64, w32, wu8, wu16, wu32, wu64] | ((with_reducible first | refine zAb (i1) ?he ?hc ?_ | refine zAk (i1) ?he ?hc ?_ | refine zAl (i1) ?he ?hc ?_); (case he | hc => exact sc wQ)) | ((with_reducible first | refine zAb (i2) ?he ?hc ?_ | refine zAk (i2) ?he ?hc ?_ | refine zAl (i2) ?he ?hc ?_); (case he | hc => exact sc wQ)) | ((with_reducible first | refine zAb (cr) ?he ?hc ?_ | refine zAk (cr) ?he ?hc ?_ | refine zAl (cr) ?he ?hc ?_); (case he | hc => exact sc wQ)) | with_reducible (apply cdA; constructor) | ((with_reducible refine And.intro ?hw ?_); (case hw => exact sw wQ)) | with_reducible intro _)
       all_goals try (exfalso; omega)
       all_goals simp [D.closed, D.er, bodyW, tMin, tMax]
     ·have hd : decide (2 < least) = false := by simp; omega
      rw [if_neg hlt]
      rcases this with rfl | rfl
      all_goals
       have wQ := And.intro @hka (And.intro @hkb (And.intro @hea (And.intro @heb (And.intro @l1 @l2)))); repeat' (first | with_reducible (apply swq; constructor) | simp only [go_sem, seval, P29, q29, hd] | simp (disch := omega) only [w64, w32, wu8, wu16, wu32, wu64] | ((with_reducible first | refine zAb (i1) ?he ?hc ?_ | refine zAk (i1) ?he ?hc ?_ | refine zAl (i1) ?he ?hc ?_); (case he | hc => exact sc wQ)) | ((with_reducible first | refine zAb (i2) ?he ?hc ?_ | refine zAk (i2) ?he ?hc ?_ | refine zAl (i2) ?he ?hc ?_); (case he | hc => exact sc wQ)) | ((with_reducible first | refine zAb (cr) ?he ?hc ?_ | refine zAk (cr) ?he ?hc ?_ | refine zAl (cr) ?he ?hc ?_); (case he | hc => exact sc wQ)) | with_reducible (apply cdA; constructor) | ((with_reducible refine And.intro ?hw ?_); (case hw => exact sw wQ)) | with_reducible intro _)
       all_goals try (exfalso; omega)
       all_goals simp [D.closed, D.er, bodyW, tMin, tMax]
   ·have hka := zAh a.kids
    have hkb := zAh b.kids
    have hkc := zAh c.kids
    have hea := erL_F a.kids
    have heb := erL_F b.kids
    have hec := erL_F c.kids
    have i1 := ih a (by simp) 0 (by omega) (by omega)
    have i2 := ih b (by simp) 0 (by omega) (by omega)
    have i3 := ih c (by simp) 0 (by omega) (by omega)
    have l1 := hle a (by simp) 0
    have l2 := hle b (by simp) 0
    have l3 := hle c (by simp) 0
    rw [F.d_eq] at i1 i2 i3
    simp only [List.map_cons, List.map_nil, F.d_eq]
    have hr := r3 (by omega)
    rw [hr] at cr ⊢
    rw [if_pos rfl, wrL3]
    generalize wr a 0 = ta at *
    generalize wr b 0 = tb at *
    generalize wr c 0 = tc at *
    by_cases hlt : 2 < least
    ·have hd : decide (2 < least) = true := by simp [hlt]
     rw [if_pos hlt]
     have wQ := And.intro @hka (And.intro @hkb (And.intro @hkc (And.intro @hea (And.intro @heb (And.intro @hec (And.intro @l1 (And.intro @l2 @l3))))))); repeat' (first | with_reducible (apply swq; constructor) | simp only [go_sem, seval, P29, q29, hd] | simp (disch := omega) only [w64, w32, wu8, wu16, wu32, wu64] | ((with_reducible first | refine zAb (i1) ?he ?hc ?_ | refine zAk (i1) ?he ?hc ?_ | refine zAl (i1) ?he ?hc ?_); (case he | hc => exact sc wQ)) | ((with_reducible first | refine zAb (i2) ?he ?hc ?_ | refine zAk (i2) ?he ?hc ?_ | refine zAl (i2) ?he ?hc ?_); (case he | hc => exact sc wQ)) | ((with_reducible first | refine zAb (i3) ?he ?hc ?_ | refine zAk (i3) ?he ?hc ?_ | refine zAl (i3) ?he ?hc ?_); (case he | hc => exact sc wQ)) | ((with_reducible first | refine zAb (cr) ?he ?hc ?_ | refine zAk (cr) ?he ?hc ?_ | refine zAl (cr) ?he ?hc ?_); (case he | hc => exact sc wQ)) | with_reducible (apply cdA; constructor) | ((with_reducible refine And.intro ?hw ?_); (case hw => exact sw wQ)) | with_reducible intro _)
     all_goals try (exfalso; omega)
     all_goals simp [D.closed, D.er, bodyW, tIf]
    ·have hd : decide (2 < least) = false := by simp; omega
     rw [if_neg hlt]
     have wQ := And.intro @hka (And.intro @hkb (And.intro @hkc (And.intro @hea (And.intro @heb (And.intro @hec (And.intro @l1 (And.intro @l2 @l3))))))); repeat' (first | with_reducible (apply swq; constructor) | simp only [go_sem, seval, P29, q29, hd] | simp (disch := omega) only [w64, w32, wu8, wu16, wu32, wu64] | ((with_reducible first | refine zAb (i1) ?he ?hc ?_ | refine zAk (i1) ?he ?hc ?_ | refine zAl (i1) ?he ?hc ?_); (case he | hc => exact sc wQ)) | ((with_reducible first | refine zAb (i2) ?he ?hc ?_ | refine zAk (i2) ?he ?hc ?_ | refine zAl (i2) ?he ?hc ?_); (case he | hc => exact sc wQ)) | ((with_reducible first | refine zAb (i3) ?he ?hc ?_ | refine zAk (i3) ?he ?hc ?_ | refine zAl (i3) ?he ?hc ?_); (case he | hc => exact sc wQ)) | ((with_reducible first | refine zAb (cr) ?he ?hc ?_ | refine zAk (cr) ?he ?hc ?_ | refine zAl (cr) ?he ?hc ?_); (case he | hc => exact sc wQ)) | with_reducible (apply cdA; constructor) | ((with_reducible refine And.intro ?hw ?_); (case hw => exact sw wQ)) | with_reducible intro _)
     all_goals try (exfalso; omega)
     all_goals simp [D.closed, D.er, bodyW, tIf]
def textF (f : F) : Tx := if f.valid then wr f 0 else []
theorem text_p (f : F) : Pur M 11 [f.d] (.tup [.str (textF f), .int .i64 (if f.valid then 0 else 1)]) := by
 refine k11.ok (C := C11) rfl rfl ?_
 rw [i11]
 unfold c11
 have c1 := valid_p f
 have hck := zAh f.kids
 have hek := erL_F f.kids
 unfold textF
 cases hv : f.valid
 ·rw [hv] at c1
  rw [F.d_eq] at c1 ⊢
  have wQ := And.intro @hck @hek; repeat' (first | with_reducible (apply swq; constructor) | simp only [go_sem, seval, P11, q11] | ((with_reducible refine zAb (c1) ?he ?hc ?_); (case he | hc => exact sc wQ)) | with_reducible (apply cdA; constructor) | ((with_reducible refine And.intro ?hw ?_); (case hw => exact sw wQ)) | with_reducible intro _)
  all_goals first | omega | (simp_all [D.closed, D.er, D.cL, D.erL, hck, hek]; done) | (simp_all [D.closed, D.er, D.cL, D.erL, hck, hek] <;> omega)
 ·rw [hv] at c1
  have hv2 := valid_iff.1 hv
  have c2 := write_p f.nodes f (Nat.le_refl _) hv2.1 hv2.2 0 (by omega) (by omega)
  simp only [if_true]
  rw [F.d_eq] at c1 c2 ⊢
  generalize wr f 0 = t at *
  have wQ := And.intro @hck @hek; repeat' (first | with_reducible (apply swq; constructor) | simp only [go_sem, seval, P11, q11] | ((with_reducible refine zAb (c1) ?he ?hc ?_); (case he | hc => exact sc wQ)) | ((with_reducible refine zAb (c2) ?he ?hc ?_); (case he | hc => exact sc wQ)) | with_reducible (apply cdA; constructor) | ((with_reducible refine And.intro ?hw ?_); (case hw => exact sw wQ)) | with_reducible intro _)
  all_goals first | omega | (simp_all [D.closed, D.er, D.cL, D.erL, hck, hek]; done) | (simp_all [D.closed, D.er, D.cL, D.erL, hck, hek] <;> omega)
end Go.Proofs.YtkjnhkoipgdfeaaDoor
end
section
set_option maxRecDepth 100000
set_option linter.unusedSimpArgs false
set_option linter.unusedVariables false
namespace Go.Proofs.YtkjnhkoipgdfeaaDoor
open Go GoV Go.RowKit
theorem text1 : textF F1 = ex1 := by
 have hv : F1.valid = true := by decide +kernel
 have i1 : Lib.itoa 200 = [50, 48, 48] := by decide +kernel
 have i2 : Lib.itoa 100 = [49, 48, 48] := by decide +kernel
 have i3 : Lib.itoa 0 = [48] := by decide +kernel
 unfold textF
 rw [hv]
 simp [F1, wr, wrL, parW, bodyW, rankF, symF, tKm, tCy, tLd, tMin, tMax, tIf, ex1, i1, i2, i3]
theorem val1 : valueF F1 1000 3 500 = 1009 := by decide +kernel
theorem dam1 : damageF F1 ⟨(1000, 1000), (3, 4), (150, 500)⟩ = (1000, 1012) := by decide +kernel
theorem dam2 : damageF F2 ⟨(7, 7), (0, 0), (5, 20)⟩ = (0, 7) := by decide +kernel
set_option maxHeartbeats 1000000 in
theorem head_p : Pur M 9 [] (.bool true) := by
 refine k9.ok (C := C9) rfl rfl ?_
 rw [i9]
 unfold c9
 have c1 := parse1_p
 have c2 := parse2_p
 have c3 := text_p F1
 have c4 := value_p F1 1000 3 500
 have c5 := damage_p F1 ⟨(1000, 1000), (3, 4), (150, 500)⟩
 have c6 := damage_p F2 ⟨(7, 7), (0, 0), (5, 20)⟩
 have hv : F1.valid = true := by decide +kernel
 rw [text1, hv] at c3
 simp only [if_true] at c3
 rw [val1] at c4
 rw [dam1] at c5
 rw [dam2] at c6
 have o1 := of_p 1000 1000
 have o2 := of_p 3 4
 have o3 := of_p 150 500
 have o4 := of_p 1000 1012
 have o5 := of_p 7 7
 have o6 := of_p 5 20
 have o7 := of_p 0 7
 have hk1 := zAh F1.kids
 have hk2 := zAh F2.kids
 have he1 := erL_F F1.kids
 have he2 := erL_F F2.kids
 rw [F.d_eq] at c1 c2 c3 c4 c5 c6
 simp only [ex1] at c1 c3
 simp only [ex2] at c2
 have b1 : ((1009 : Int) == 1009) = true := rfl
 have w1 : ivD (1000, 1000) = .agg [.int .i64 1000, .int .i64 1000] := rfl
 have wQ := And.intro @hk1 (And.intro @hk2 (And.intro @he1 @he2)); repeat' (first | with_reducible (apply swq; constructor) | simp only [go_sem, seval, P9, q9, beq_self_eq_true, b1, F.cells] | ((with_reducible first | refine zAb (c1) ?he ?hc ?_ | refine zAk (c1) ?he ?hc ?_ | refine zAl (c1) ?he ?hc ?_); (case he | hc => exact sc wQ)) | ((with_reducible first | refine zAb (c2) ?he ?hc ?_ | refine zAk (c2) ?he ?hc ?_ | refine zAl (c2) ?he ?hc ?_); (case he | hc => exact sc wQ)) | ((with_reducible first | refine zAb (c3) ?he ?hc ?_ | refine zAk (c3) ?he ?hc ?_ | refine zAl (c3) ?he ?hc ?_); (case he | hc => exact sc wQ)) | ((with_reducible first | refine zAb (c4) ?he ?hc ?_ | refine zAk (c4) ?he ?hc ?_ | refine zAl (c4) ?he ?hc ?_); (case he | hc => exact sc wQ)) | ((with_reducible first | refine zAb (c5) ?he ?hc ?_ | refine zAk (c5) ?he ?hc ?_ | refine zAl (c5) ?he ?hc ?_); (case he | hc => exact sc wQ)) | ((with_reducible first | refine zAb (c6) ?he ?hc ?_ | refine zAk (c6) ?he ?hc ?_ | refine zAl (c6) ?he ?hc ?_); (case he | hc => exact sc wQ)) | ((with_reducible first | refine zAb (o1) ?he ?hc ?_ | refine zAk (o1) ?he ?hc ?_ | refine zAl (o1) ?he ?hc ?_); (case he | hc => exact sc wQ)) | ((with_reducible first | refine zAb (o2) ?he ?hc ?_ | refine zAk (o2) ?he ?hc ?_ | refine zAl (o2) ?he ?hc ?_); (case he | hc => exact sc wQ)) | ((with_reducible first | refine zAb (o3) ?he ?hc ?_ | refine zAk (o3) ?he ?hc ?_ | refine zAl (o3) ?he ?hc ?_); (case he | hc => exact sc wQ)) | ((with_reducible first | refine zAb (o4) ?he ?hc ?_ | refine zAk (o4) ?he ?hc ?_ | refine zAl (o4) ?he ?hc ?_); (case he | hc => exact sc wQ)) | ((with_reducible first | refine zAb (o5) ?he ?hc ?_ | refine zAk (o5) ?he ?hc ?_ | refine zAl (o5) ?he ?hc ?_); (case he | hc => exact sc wQ)) | ((with_reducible first | refine zAb (o6) ?he ?hc ?_ | refine zAk (o6) ?he ?hc ?_ | refine zAl (o6) ?he ?hc ?_); (case he | hc => exact sc wQ)) | ((with_reducible first | refine zAb (o7) ?he ?hc ?_ | refine zAk (o7) ?he ?hc ?_ | refine zAl (o7) ?he ?hc ?_); (case he | hc => exact sc wQ)) | (with_reducible first | (apply cdA; constructor) | (apply gdA; constructor) | (apply gqA; constructor)) | ((with_reducible refine And.intro ?hw ?_); (case hw => exact sw wQ)) | with_reducible intro _)
end Go.Proofs.YtkjnhkoipgdfeaaDoor
end
section
set_option maxRecDepth 100000
set_option linter.unusedSimpArgs false
set_option linter.unusedVariables false
namespace Go.Proofs.YtkjnhkoipgdfeaaDoor
open Go GoV Go.RowKit
abbrev Pb (e p : Int) : D → Hp → Prop := fun d _ => d = probD e p
theorem need_x (w : Tx) (l : List Tok) (hl : l.length ≤ 100000) (en e p : Int) (h : gotN 4 [w] l = none) (hf : failP en l = .no e p) : Xff M 59 [.ptr 0 0, .str w] (hpP l en) (Pb e p) := by
 refine zCm (C := E59 1 0) (fn := Tryd.f59) Tryd.func59 (by kernel_rfl) (by kernel_rfl) (rc := c59) z59 (by kernel_rfl) rfl (by rw [show ([D.ptr 0 0, D.str w] : List D).length = 2 from rfl]; decide) rfl rfl ?_ rfl (fun _ _ => trivial)
 rw [ie59]
 unfold c59
 have c1 := got_e 4 [w] (by simp) l hl en
 obtain ⟨e1, e2⟩ := zDu h
 rw [e1, e2] at c1
 have e3 : strs [w] = [.str w] := rfl
 rw [e3] at c1
 have hd : decide ((-1 : Int) < 0) = true := rfl
 have cx := fail_x l hl en e p hf
 unfold hpP at c1 cx ⊢
 generalize tokL l = L at *
 have wQ := tw; repeat' (first | with_reducible (apply swq; constructor) | simp only [go_sem, seval, zA2, pe59, q59, hd] | ((with_reducible refine o_same (zAf c1 _) ?he ?hh ?_); (case he | hh => exact sh wQ)) | ((with_reducible refine o_pan [0] [] (zBm cx _) ?hs ?he ?hh ?hk); (case hs => exact so); (case he | hh => exact sh wQ); (case hk => intro _ _ q; subst q; first | rfl | apply hPan | (simp [go_sem, seval]; done))) | ((with_reducible apply s_bsl); (case he | hl | hc => exact sd wQ)) | with_reducible (apply cdA; constructor) | ((with_reducible refine And.intro ?hw ?_); (case hw => exact sw wQ)) | with_reducible intro _)
def OpX (f : FuncId) (op : List Tok → PR) (en : Int) (N K : Nat) : Prop := ∀ l e p, l.length ≤ N → l.length < K → GoodT l → op l = .no e p → Xff M f [.ptr 0 0] (hpP l en) (Pb e p)
theorem reg45x {C : Cfg} {F0 : FuncId} {g : F} {lt : List Tok} {en first : Int} {i : Nat} (hf : -1000 ≤ first) (hf2 : first ≤ 1000) (hi : i ≤ 10) {e : List D}
 (he1 : e[1]? = some (.int .i64 first)) (he2 : e[2]? = some (.fn (.func F0) [.ptr 0 0] [])) (he5 : e[5]? = some (.ptr 2 0)) (he6 : e[6]? = some (.int .i64 (i : Nat))) {e' p' : Int}
 (hc : Xff C.M F0 [.ptr 0 0] (hpP lt en) (Pb e' p')) (hP : ∀ hp, C.M.pan (probD e' p') hp) (Q : Ex → St → Prop) :
 SWp C (.regD r45_5 r45_6) Q ⟨e, [], ⟨[.cells [.slice (tokL lt) .no, .int .i64 en], .cells [.int .i64 0, .int .i64 0, .lit (.slice none 0 0)], .cells g.cells], []⟩⟩ := by
 obtain ⟨F, hF⟩ : ∃ F : (Nat → Bool) → Hp, F = fun E => ⟨[.cells [.slice (tokL lt) .no, .int .i64 en], .cells [.int .i64 0, .int .i64 0, .lit (.slice none 0 0)], .cells g.cells], if E 5 then [.per 0 0] else []⟩ := ⟨_, rfl⟩
 have still : ∀ i, i ≠ 5 → Still F i := fun i h E _ => by
  have : (5 == i) = false := by rw [beq_eq_false_iff_ne]; omega
  simp [hF, this]
 have hgd := g.d_eq
 refine swp_regP F (by simp [hF]) ?_
 refine y_q (ds := [.int .i64 first]) (.int .i64 first) (by simp [go_sem, he1]) (still _ (by decide)) (fun _ => by simp [OcWp, zAa, isPan, opWp]) ?_
 refine y_q (ds := [.int .i64 (i : Nat)]) (.int .i64 (i : Nat)) (by simp [go_sem, he6]) (still _ (by decide)) (fun _ => by simp [OcWp, zAa, isPan, opWp]) ?_
 refine y_q (ds := [.int .i64 first, .int .i64 (i : Nat)]) (.int .i64 (first + i)) (by simp [go_sem]) (still _ (by decide)) (fun _ => by
  simp only [OcWp, zAa, isPan, opWp, binWp, Bool.false_eq_true, if_false]
  rw [w64 (by omega) (by omega)]; simp) ?_
 refine y_c (ds := [.ptr 2 0]) (d := .agg g.cells) (by simp [go_sem, he5]) (fun E hE => ?_) ?_
 ·rw [still 3 (by decide) E hE]; simp [hF, OcWp, zAa, isPan, opWp, Blk.csq]
 refine y_q (ds := [.fn (.func F0) [.ptr 0 0] []]) (.fn (.func F0) [.ptr 0 0] []) (by simp [go_sem, he2]) (still _ (by decide)) (fun _ => by simp [OcWp, zAa, isPan, opWp]) ?_
 refine y_c (ds := [.fn (.func F0) [.ptr 0 0] []]) (d := g.d) (by simp [go_sem]) ?_ ?_
 ·refine any_pan (ds := []) [0] [] hc (fun E hE => by simp only [hF, hE]; rfl) ⟨by simp, by simp, by simp, by simp⟩ (by simp [D.rnL, D.rn, posF, idx]) (by simp [hpP, Hp.sel, Blk.rnL, Blk.rn, Tv.rnL, D.rnL, D.rn, zAe, Own.rn]) ?_
  intro d hp1 hd
  subst hd
  exact hP _
 have hva := zEo g
 have hca := cl_F g
 refine y_q (ds := [.agg g.cells, g.d]) (.slice [g.d, g.d] .full) (by simp [go_sem]) (still _ (by decide)) (fun _ => by
  rw [← hgd]
  simp [OcWp, zAa, isPan, opWp, zAj, hva, D.cL, hca, D.erL, er_F]) ?_
 refine y_end (hp' := ⟨[.cells [.slice (tokL lt) .no, .int .i64 en], .cells [.int .i64 0, .int .i64 0, .lit (.slice none 0 0)], .cells g.cells], [.per 0 0]⟩) (by simp [hF]) ?_
 simp only [go_sem, he1, he2, he5, he6]
 simp [go_sem, he1, he2, he5, he6, setL, D.iV, D.cells, St.done, fillL]
 exact ⟨0, rfl⟩
set_option maxHeartbeats 2000000 in
theorem chain_x {F0 : FuncId} {op : List Tok → PR} {en : Int} {N K : Nat} (hop : OpOk F0 op en N) (hx : OpX F0 op en N K) (hN : N ≤ 100000) (first : Int) (hf : -1000 ≤ first) (hf2 : first ≤ 1000) (a b : Tx) : ∀ l e p, l.length ≤ N → l.length < K → GoodT l → zDw op first a b l = .no e p →
 Xff M 45 [.ptr 0 0, .int .i64 first, .fn (.func F0) [.ptr 0 0] [], .slice (strs [a, b]) .full] (hpP l en) (Pb e p) := by
 intro l e p hl hK hG hch
 refine zCm (C := E45 1 0) (fn := Tryd.f45) Tryd.func45 (by kernel_rfl) (by kernel_rfl) (rc := c45) z45 (by kernel_rfl) rfl (by rw [show ([D.ptr 0 0, .int .i64 first, .fn (.func F0) [.ptr 0 0] [], .slice (strs [a, b]) .full] : List D).length = 4 from rfl]; decide) rfl rfl ?_ rfl (fun _ _ => trivial)
 rw [ie45]
 unfold c45
 have e3 : strs [a, b] = [.str a, .str b] := rfl
 unfold zDw thenP at hch
 cases hol : op l with
 | no e1 p1 =>
   rw [hol] at hch
   cases hch
   have cx := hx l e p hl hK hG hol
   unfold hpP at cx ⊢
   have wQ := @zAe; repeat' (first | with_reducible (apply swq; constructor) | simp only [go_sem, seval, zA2, pe45, q45, e3] | ((with_reducible refine o_pan [0] [] (zBm cx _) ?hs ?he ?hh ?hk); (case hs => exact so); (case he | hh => exact sh wQ); (case hk => intro _ _ q; subst q; first | rfl | apply hPan | (simp [go_sem, seval, zAe]; done))) | ((with_reducible first | apply s_bsl | apply t_bsl); (case he | hl | hc => exact sd wQ)) | with_reducible (apply cdA; constructor) | ((with_reducible refine And.intro ?hw ?_); (case hw => exact sw wQ)) | with_reducible intro _)
 | ok f0 r0 =>
   rw [hol] at hch
   simp only at hch
   obtain ⟨c0, hr0, hs0⟩ := hop l f0 r0 hl hG hol
   have hfd := f0.d_eq
   have hrn := fun β τ => rnL_F β τ f0.kids
   rw [hfd] at c0
   obtain ⟨RA, hRA⟩ : ∃ R, R = (RC.regD r45_5 r45_6) := ⟨_, rfl⟩
   rw [← hRA]
   unfold hpP at c0 ⊢
   have wQ := And.intro @zAe @hrn; repeat' (first | with_reducible (apply swq; constructor) | simp only [go_sem, seval, zA2, pe45, q45, e3] | ((with_reducible first | refine c_eff [0] [] (zAf c0 _) ?hs ?he ?hh ?_ | refine o_eff [0] [] (zAf c0 _) ?hs ?he ?hh ?_); (case hs => exact so); (case he | hh => exact sh wQ); try rintro _ _ ⟨rfl, rfl⟩) | ((with_reducible first | apply s_bsl | apply t_bsl); (case he | hl | hc => exact sd wQ)) | with_reducible (apply cdA; constructor) | ((with_reducible refine And.intro ?hw ?_); (case hw => exact sw wQ)) | with_reducible intro _)
   refine zB6 [0, 1, 2, 3, 4, 5] (fun x : F × List Tok × Nat => ⟨[.ptr 0 0, .int .i64 first, .fn (.func F0) [.ptr 0 0] [], .slice (strs [a, b]) .full, .ptr 1 0, .ptr 2 0, .u0, .u0], [], ⟨[.cells [.slice (tokL x.2.1) .no, .int .i64 en], .cells [.int .i64 0, .int .i64 0, .lit (.slice none 0 0)], .cells x.1.cells], []⟩⟩)
    (fun x => loopP op first a b x.2.2 x.1 x.2.1 = .no e p ∧ x.2.1.length ≤ x.2.2 ∧ x.2.1.length ≤ N ∧ x.2.1.length < K ∧ GoodT x.2.1) (fun x => x.2.2) (f0, r0, r0.length) ⟨hch, Nat.le_refl _, by simp only; omega, by simp only; omega, hG.suf hs0⟩ ?_ ?_
   ·simp [keepE, St.keep, e3]
   ·rintro ⟨f, l', k⟩ ⟨h1, h2, h3, h3', h4⟩
    simp only at h1 h2 h3 h3' h4 ⊢
    have c1 := got_e 4 [a, b] (by simp) l' (by omega) en
    rw [e3] at c1 ⊢
    have hrn2 := fun β τ => rnL_F β τ f.kids
    have hcl := zAh f.kids
    have her := erL_F f.kids
    cases hgn : gotN 4 [a, b] l' with
    | none =>
      exfalso
      cases k with
      | zero => simp only [loopP] at h1; cases h1
      | succ k => simp only [loopP, hgn] at h1; cases h1
    | some i =>
      obtain ⟨t, lt, rfl, n1, n2, n3, n4, n5⟩ := zBt hgn
      rw [n1, n2] at c1
      obtain ⟨k, rfl⟩ : ∃ k', k = k' + 1 := ⟨k - 1, by simp only [List.length_cons] at h2; omega⟩
      simp only [loopP, hgn, List.tail_cons, thenP] at h1
      simp only [List.length_cons] at h2 h3 h3'
      have hd : decide ((i : Int) < 0) = false := by simp
      have hGt : GoodT lt := h4.suf (List.suffix_cons _ _)
      cases ho2 : op lt with
      | no e2 p2 =>
        rw [ho2] at h1
        cases h1
        have cx := hx lt e p (by omega) (by omega) hGt ho2
        have cx' : Xff ((E45 1 0).pans (Pb e p)).M F0 [.ptr 0 0] (hpP lt en) (Pb e p) := by rw [zA2, pe45]; exact zBm cx _
        unfold hpP at c1
        have wQ := And.intro @zAe @hrn2; repeat' (first | with_reducible (apply swq; constructor) | simp only [go_sem, seval, zA2, pe45, q45, hd] | ((with_reducible first | refine c_eff [0] [] (zAf c1 _) ?hs ?he ?hh ?_ | refine o_eff [0] [] (zAf c1 _) ?hs ?he ?hh ?_); (case hs => exact so); (case he | hh => exact sh wQ); try rintro _ _ ⟨rfl, rfl⟩) | ((with_reducible first | apply s_bsl | apply t_bsl); (case he | hl | hc => exact sd wQ)) | with_reducible (apply cdA; constructor) | ((with_reducible refine And.intro ?hw ?_); (case hw => exact sw wQ)) | with_reducible intro _)
        subst hRA
        exact reg45x hf hf2 (by simp at n3; omega) rfl rfl rfl rfl cx' (fun _ => rfl) _
      | ok f2 r2 =>
        rw [ho2] at h1
        simp only at h1
        obtain ⟨c2, q1, q2⟩ := hop lt f2 r2 (by omega) hGt ho2
        have c2' : Eff ((E45 1 0).pans (Pb e p)).M F0 [.ptr 0 0] (hpP lt en) fun d hp => d = f2.d ∧ hp = hpP r2 en := by rw [zA2, pe45]; exact zAf c2 _
        unfold hpP at c1
        have wQ := And.intro @zAe @hrn2; repeat' (first | with_reducible (apply swq; constructor) | simp only [go_sem, seval, zA2, pe45, q45, hd] | ((with_reducible first | refine c_eff [0] [] (zAf c1 _) ?hs ?he ?hh ?_ | refine o_eff [0] [] (zAf c1 _) ?hs ?he ?hh ?_); (case hs => exact so); (case he | hh => exact sh wQ); try rintro _ _ ⟨rfl, rfl⟩) | ((with_reducible first | apply s_bsl | apply t_bsl); (case he | hl | hc => exact sd wQ)) | with_reducible (apply cdA; constructor) | ((with_reducible refine And.intro ?hw ?_); (case hw => exact sw wQ)) | with_reducible intro _)
        subst hRA
        refine reg45 hf hf2 (by simp at n3; omega) rfl rfl rfl rfl c2' _ ?_
        refine ⟨_, weak_erB 2 rfl ?_, ?_⟩
        ·simp [D.cL, D.closed, cl_F]
        ·refine ⟨(.mk (first + i) 0 [f, f2], r2, k), ⟨h1, by simp only; omega, by simp only; omega, by simp only; omega, h4.suf (q2.trans (List.suffix_cons _ _))⟩, by simp only; omega, ?_⟩
         simp [keepE, St.keep, F.cells, F.op, F.num, F.kids, D.erL, D.er]
end Go.Proofs.YtkjnhkoipgdfeaaDoor
end
section
set_option maxRecDepth 100000
set_option linter.unusedSimpArgs false
set_option linter.unusedVariables false
namespace Go.Proofs.YtkjnhkoipgdfeaaDoor
open Go GoV Go.RowKit
theorem reg54_12p {R0 : D → Hp → Prop} {op0 en : Int} {fs : List F} {l' r' : List Tok} {g : F} {R : List D} (hfs : fs.length ≤ 100) {e : List D} (he0 : e[0]? = some (.ptr 0 0)) (he5 : e[5]? = some (.ptr 2 0))
 (hc : Eff M 33 [.ptr 0 0] (hpP l' en) fun d hp => d = g.d ∧ hp = hpP r' en) (Q : Ex → St → Prop)
 (hQ : Q .normal ⟨e, [], ⟨[.cells [.slice (tokL r') .no, .int .i64 en], .cells R, .cells [.int .i64 op0, .int .i64 0, .slice (kidsD (fs ++ [g])) (.tok 0)]], [.per 3 (fs.length + 1)]⟩⟩) :
 SWp ((E54 1 0).pans R0) (.regD r54_12 r54_13) Q ⟨e, [], ⟨[.cells [.slice (tokL l') .no, .int .i64 en], .cells R, .cells [.int .i64 op0, .int .i64 0, .slice (kidsD fs) (.tok 0)]], [.per 3 fs.length]⟩⟩ := by
 have hgd := g.d_eq
 have he5b : e[5]?.getD .u0 = .ptr 2 0 := by rw [he5]; rfl
 have he5c : e.getD 5 .u0 = .ptr 2 0 := by simp [he5]
 obtain ⟨F, hF⟩ : ∃ F : (Nat → Bool) → Hp, F = fun E => ⟨[if E 3 then .cells [.slice (tokL r') .no, .int .i64 en] else .cells [.slice (tokL l') .no, .int .i64 en], .cells R, .cells [.int .i64 op0, .int .i64 0, .slice (kidsD fs) (.tok 0)]], [.per 3 fs.length]⟩ := ⟨_, rfl⟩
 have still : ∀ i, i ≠ 3 → Still F i := fun i h E _ => by
  have : (3 == i) = false := by rw [beq_eq_false_iff_ne]; omega
  simp [hF, this]
 refine zBx F (by simp [hF]) ?_
 rw [zA2, pe54]
 refine y_q (ds := [.ptr 2 0]) (.ptr 2 2) (by simp [go_sem, he5]) (still _ (by decide)) (fun _ => by simp [OcWp, zAa, isPan, opWp]) ?_
 refine y_c (ds := [.ptr 2 2]) (d := .slice (kidsD fs) (.tok 0)) (by simp [go_sem]) (fun E hE => ?_) ?_
 ·rw [still 1 (by decide) E hE]; simp [hF, OcWp, zAa, isPan, opWp, Blk.csq]
 refine y_q (ds := [.ptr 0 0]) (.ptr 0 0) (by simp [go_sem, he0]) (still _ (by decide)) (fun _ => by simp [OcWp, zAa, isPan, opWp]) ?_
 refine y_c (ds := [.fn (.func 33) [] [], .ptr 0 0]) (d := g.d) (by simp [go_sem]) (fun E hE => ?_) ?_
 ·have hE' : E 3 = false := hE
  simp only [OcWp, zAa, isPan, if_true]
  refine zD9 [0] [] (zAf hc _) ⟨by simp, by simp, by simp [hF], by simp⟩ (by simp [D.rnL, D.rn, posF, idx]) (by simp [hF, hE', hpP, Hp.sel, Blk.rnL, Blk.rn, Tv.rnL, D.rnL, D.rn, zAe, Own.rn]) ?_
  rintro d hp1 ⟨rfl, rfl⟩
  refine ⟨rn_F _ _ _, ?_⟩
  simp [hF, hE', hpP, Hp.back, putAt, Blk.rnL, Blk.rn, Tv.rnL, D.rnL, D.rn, zAe, Own.rn]
 have hva := zEo g
 have hca := cl_F g
 refine y_q (ds := [g.d]) (.slice [.agg g.cells] .full) (by simp [go_sem]) (still _ (by decide)) (fun _ => by
  rw [← hgd]
  simp [OcWp, zAa, isPan, opWp, zAj, hva, D.cL, hca, D.erL, er_F]) ?_
 refine y_end (hp' := ⟨[.cells [.slice (tokL r') .no, .int .i64 en], .cells R, .cells [.int .i64 op0, .int .i64 0, .slice (kidsD fs) (.tok 0)]], [.per 3 fs.length]⟩) (by simp [hF]) ?_
 have hkl := zDc fs
 have hel := zCa fs
 have hck := zAh g.kids
 have hek := erL_F g.kids
 have wQ := And.intro @hkl (And.intro @hel (And.intro @hck (And.intro @hek @zBs))); repeat' (first | with_reducible (apply swq; constructor) | simp only [go_sem, seval, zA2, pe54, q54, he5b, he5c, hkl, zBs] | simp (disch := omega) only [w64, w32, wu8, wu16, wu32, wu64] | ((with_reducible apply zAp); (case he => rfl); (case hK | hc | hr | hV => exact sd wQ)) | ((with_reducible apply zAq); (case he => rfl); (case hV | hK | hr | hl => exact sd wQ)) | ((with_reducible apply zAs); (case he => rfl); (case hK | hc | hr => exact sd wQ)) | ((with_reducible apply zAr); (case he => rfl); (case hK | hc | hr | hx | hn => exact sd wQ)) | ((with_reducible first | apply s_bsl | apply t_bsl); (case he | hl | hc => exact sd wQ)) | ((with_reducible apply zA9); (case hx => exact sd wQ)) | ((with_reducible first | apply zA7 | apply zA8); (case h0 | h1 | hx => exact sd wQ)) | ((with_reducible apply zA6); (case h0 | h1 | h2 | hx => exact sd wQ)) | ((with_reducible first | apply zA4 | apply zA5); (case h0 | h1 | hc => exact sd wQ)) | ((with_reducible apply zA3); (case h0 | h1 | h2 | hc => exact sd wQ)) | (with_reducible first | (apply cdA; constructor) | (apply gdA; constructor)) | ((with_reducible refine And.intro ?hw ?_); (case hw => exact sw wQ)) | with_reducible intro _)
 all_goals try (exfalso; omega)
 all_goals simpa [zBs, setL, St.done] using hQ
theorem reg54_17p {R0 : D → Hp → Prop} {op0 en : Int} {fs : List F} {l' r' : List Tok} {g : F} {R : List D} (hfs : fs.length ≤ 100) {e : List D} (he0 : e[0]? = some (.ptr 0 0)) (he5 : e[5]? = some (.ptr 2 0))
 (hc : Eff M 33 [.ptr 0 0] (hpP l' en) fun d hp => d = g.d ∧ hp = hpP r' en) (Q : Ex → St → Prop)
 (hQ : Q .normal ⟨e, [], ⟨[.cells [.slice (tokL r') .no, .int .i64 en], .cells R, .cells [.int .i64 op0, .int .i64 0, .slice (kidsD (fs ++ [g])) (.tok 0)]], [.per 3 (fs.length + 1)]⟩⟩) :
 SWp ((E54 1 0).pans R0) (.regD r54_17 r54_18) Q ⟨e, [], ⟨[.cells [.slice (tokL l') .no, .int .i64 en], .cells R, .cells [.int .i64 op0, .int .i64 0, .slice (kidsD fs) (.tok 0)]], [.per 3 fs.length]⟩⟩ := by
 have hgd := g.d_eq
 have he5b : e[5]?.getD .u0 = .ptr 2 0 := by rw [he5]; rfl
 have he5c : e.getD 5 .u0 = .ptr 2 0 := by simp [he5]
 obtain ⟨F, hF⟩ : ∃ F : (Nat → Bool) → Hp, F = fun E => ⟨[if E 3 then .cells [.slice (tokL r') .no, .int .i64 en] else .cells [.slice (tokL l') .no, .int .i64 en], .cells R, .cells [.int .i64 op0, .int .i64 0, .slice (kidsD fs) (.tok 0)]], [.per 3 fs.length]⟩ := ⟨_, rfl⟩
 have still : ∀ i, i ≠ 3 → Still F i := fun i h E _ => by
  have : (3 == i) = false := by rw [beq_eq_false_iff_ne]; omega
  simp [hF, this]
 refine zBx F (by simp [hF]) ?_
 rw [zA2, pe54]
 refine y_q (ds := [.ptr 2 0]) (.ptr 2 2) (by simp [go_sem, he5]) (still _ (by decide)) (fun _ => by simp [OcWp, zAa, isPan, opWp]) ?_
 refine y_c (ds := [.ptr 2 2]) (d := .slice (kidsD fs) (.tok 0)) (by simp [go_sem]) (fun E hE => ?_) ?_
 ·rw [still 1 (by decide) E hE]; simp [hF, OcWp, zAa, isPan, opWp, Blk.csq]
 refine y_q (ds := [.ptr 0 0]) (.ptr 0 0) (by simp [go_sem, he0]) (still _ (by decide)) (fun _ => by simp [OcWp, zAa, isPan, opWp]) ?_
 refine y_c (ds := [.fn (.func 33) [] [], .ptr 0 0]) (d := g.d) (by simp [go_sem]) (fun E hE => ?_) ?_
 ·have hE' : E 3 = false := hE
  simp only [OcWp, zAa, isPan, if_true]
  refine zD9 [0] [] (zAf hc _) ⟨by simp, by simp, by simp [hF], by simp⟩ (by simp [D.rnL, D.rn, posF, idx]) (by simp [hF, hE', hpP, Hp.sel, Blk.rnL, Blk.rn, Tv.rnL, D.rnL, D.rn, zAe, Own.rn]) ?_
  rintro d hp1 ⟨rfl, rfl⟩
  refine ⟨rn_F _ _ _, ?_⟩
  simp [hF, hE', hpP, Hp.back, putAt, Blk.rnL, Blk.rn, Tv.rnL, D.rnL, D.rn, zAe, Own.rn]
 have hva := zEo g
 have hca := cl_F g
 refine y_q (ds := [g.d]) (.slice [.agg g.cells] .full) (by simp [go_sem]) (still _ (by decide)) (fun _ => by
  rw [← hgd]
  simp [OcWp, zAa, isPan, opWp, zAj, hva, D.cL, hca, D.erL, er_F]) ?_
 refine y_end (hp' := ⟨[.cells [.slice (tokL r') .no, .int .i64 en], .cells R, .cells [.int .i64 op0, .int .i64 0, .slice (kidsD fs) (.tok 0)]], [.per 3 fs.length]⟩) (by simp [hF]) ?_
 have hkl := zDc fs
 have hel := zCa fs
 have hck := zAh g.kids
 have hek := erL_F g.kids
 have wQ := And.intro @hkl (And.intro @hel (And.intro @hck (And.intro @hek @zBs))); repeat' (first | with_reducible (apply swq; constructor) | simp only [go_sem, seval, zA2, pe54, q54, he5b, he5c, hkl, zBs] | simp (disch := omega) only [w64, w32, wu8, wu16, wu32, wu64] | ((with_reducible apply zAp); (case he => rfl); (case hK | hc | hr | hV => exact sd wQ)) | ((with_reducible apply zAq); (case he => rfl); (case hV | hK | hr | hl => exact sd wQ)) | ((with_reducible apply zAs); (case he => rfl); (case hK | hc | hr => exact sd wQ)) | ((with_reducible apply zAr); (case he => rfl); (case hK | hc | hr | hx | hn => exact sd wQ)) | ((with_reducible first | apply s_bsl | apply t_bsl); (case he | hl | hc => exact sd wQ)) | ((with_reducible apply zA9); (case hx => exact sd wQ)) | ((with_reducible first | apply zA7 | apply zA8); (case h0 | h1 | hx => exact sd wQ)) | ((with_reducible apply zA6); (case h0 | h1 | h2 | hx => exact sd wQ)) | ((with_reducible first | apply zA4 | apply zA5); (case h0 | h1 | hc => exact sd wQ)) | ((with_reducible apply zA3); (case h0 | h1 | h2 | hc => exact sd wQ)) | (with_reducible first | (apply cdA; constructor) | (apply gdA; constructor)) | ((with_reducible refine And.intro ?hw ?_); (case hw => exact sw wQ)) | with_reducible intro _)
 all_goals try (exfalso; omega)
 all_goals simpa [zBs, setL, St.done] using hQ
theorem reg54_12x {op0 en : Int} {fs : List F} {l' : List Tok} {R : List D} (hfs : fs.length ≤ 100) {e : List D} (he0 : e[0]? = some (.ptr 0 0)) (he5 : e[5]? = some (.ptr 2 0)) {e' p' : Int}
 (hc : Xff M 33 [.ptr 0 0] (hpP l' en) (Pb e' p')) (Q : Ex → St → Prop) :
 SWp ((E54 1 0).pans (Pb e' p')) (.regD r54_12 r54_13) Q ⟨e, [], ⟨[.cells [.slice (tokL l') .no, .int .i64 en], .cells R, .cells [.int .i64 op0, .int .i64 0, .slice (kidsD fs) (.tok 0)]], [.per 3 fs.length]⟩⟩ := by
 have he5b : e[5]?.getD .u0 = .ptr 2 0 := by rw [he5]; rfl
 have he5c : e.getD 5 .u0 = .ptr 2 0 := by simp [he5]
 obtain ⟨F, hF⟩ : ∃ F : (Nat → Bool) → Hp, F = fun E => ⟨[.cells [.slice (tokL l') .no, .int .i64 en], .cells R, .cells [.int .i64 op0, .int .i64 0, .slice (kidsD fs) (.tok 0)]], if E 3 then [.per 3 fs.length, .per 0 0] else [.per 3 fs.length]⟩ := ⟨_, rfl⟩
 have still : ∀ i, i ≠ 3 → Still F i := fun i h E _ => by
  have : (3 == i) = false := by rw [beq_eq_false_iff_ne]; omega
  simp [hF, this]
 refine swp_regP F (by simp [hF]) ?_
 rw [zA2, pe54]
 refine y_q (ds := [.ptr 2 0]) (.ptr 2 2) (by simp [go_sem, he5]) (still _ (by decide)) (fun _ => by simp [OcWp, zAa, isPan, opWp]) ?_
 refine y_c (ds := [.ptr 2 2]) (d := .slice (kidsD fs) (.tok 0)) (by simp [go_sem]) (fun E hE => ?_) ?_
 ·rw [still 1 (by decide) E hE]; simp [hF, OcWp, zAa, isPan, opWp, Blk.csq]
 refine y_q (ds := [.ptr 0 0]) (.ptr 0 0) (by simp [go_sem, he0]) (still _ (by decide)) (fun _ => by simp [OcWp, zAa, isPan, opWp]) ?_
 refine y_c (ds := [.fn (.func 33) [] [], .ptr 0 0]) (d := .agg [.int .i64 0, .int .i64 0, .int .i64 0]) (by simp [go_sem]) ?_ ?_
 ·refine any_pan (ds := [.ptr 0 0]) [0] [] (zBm hc _) (fun E hE => by simp only [hF, hE]; rfl) ⟨by simp, by simp, by simp, by simp⟩ (by simp [D.rnL, D.rn, posF, idx]) (by simp [hpP, Hp.sel, Blk.rnL, Blk.rn, Tv.rnL, D.rnL, D.rn, zAe, Own.rn]) ?_
  intro d hp1 hd
  subst hd
  rfl
 refine y_q (ds := [.agg [.int .i64 0, .int .i64 0, .int .i64 0]]) (.slice [.agg [.int .i64 0, .int .i64 0, .int .i64 0]] .full) (by simp [go_sem]) (still _ (by decide)) (fun _ => by
  simp [OcWp, zAa, isPan, opWp, zAj, D.iV, D.cells, D.closed, D.cL, D.erL, D.er]) ?_
 refine y_end (hp' := ⟨[.cells [.slice (tokL l') .no, .int .i64 en], .cells R, .cells [.int .i64 op0, .int .i64 0, .slice (kidsD fs) (.tok 0)]], [.per 3 fs.length, .per 0 0]⟩) (by simp [hF]) ?_
 have hkl := zDc fs
 have hel := zCa fs
 have wQ := And.intro @hkl @hel; repeat' (first | with_reducible (apply swq; constructor) | simp only [go_sem, seval, zA2, pe54, q54, he5b, he5c, hkl] | simp (disch := omega) only [w64, w32, wu8, wu16, wu32, wu64] | ((with_reducible apply zAp); (case he => rfl); (case hK | hc | hr | hV => exact sd wQ)) | ((with_reducible apply zAq); (case he => rfl); (case hV | hK | hr | hl => exact sd wQ)) | ((with_reducible apply zAs); (case he => rfl); (case hK | hc | hr => exact sd wQ)) | ((with_reducible apply zAr); (case he => rfl); (case hK | hc | hr | hx | hn => exact sd wQ)) | ((with_reducible first | apply s_bsl | apply t_bsl); (case he | hl | hc => exact sd wQ)) | ((with_reducible apply zA9); (case hx => exact sd wQ)) | ((with_reducible first | apply zA7 | apply zA8); (case h0 | h1 | hx => exact sd wQ)) | ((with_reducible apply zA6); (case h0 | h1 | h2 | hx => exact sd wQ)) | ((with_reducible first | apply zA4 | apply zA5); (case h0 | h1 | hc => exact sd wQ)) | ((with_reducible apply zA3); (case h0 | h1 | h2 | hc => exact sd wQ)) | (with_reducible first | (apply cdA; constructor) | (apply gdA; constructor)) | ((with_reducible refine And.intro ?hw ?_); (case hw => exact sw wQ)) | with_reducible intro _)
 all_goals try (exfalso; omega)
 all_goals exact ⟨1, rfl⟩
theorem reg54_17x {op0 en : Int} {fs : List F} {l' : List Tok} {R : List D} (hfs : fs.length ≤ 100) {e : List D} (he0 : e[0]? = some (.ptr 0 0)) (he5 : e[5]? = some (.ptr 2 0)) {e' p' : Int}
 (hc : Xff M 33 [.ptr 0 0] (hpP l' en) (Pb e' p')) (Q : Ex → St → Prop) :
 SWp ((E54 1 0).pans (Pb e' p')) (.regD r54_17 r54_18) Q ⟨e, [], ⟨[.cells [.slice (tokL l') .no, .int .i64 en], .cells R, .cells [.int .i64 op0, .int .i64 0, .slice (kidsD fs) (.tok 0)]], [.per 3 fs.length]⟩⟩ := by
 have he5b : e[5]?.getD .u0 = .ptr 2 0 := by rw [he5]; rfl
 have he5c : e.getD 5 .u0 = .ptr 2 0 := by simp [he5]
 obtain ⟨F, hF⟩ : ∃ F : (Nat → Bool) → Hp, F = fun E => ⟨[.cells [.slice (tokL l') .no, .int .i64 en], .cells R, .cells [.int .i64 op0, .int .i64 0, .slice (kidsD fs) (.tok 0)]], if E 3 then [.per 3 fs.length, .per 0 0] else [.per 3 fs.length]⟩ := ⟨_, rfl⟩
 have still : ∀ i, i ≠ 3 → Still F i := fun i h E _ => by
  have : (3 == i) = false := by rw [beq_eq_false_iff_ne]; omega
  simp [hF, this]
 refine swp_regP F (by simp [hF]) ?_
 rw [zA2, pe54]
 refine y_q (ds := [.ptr 2 0]) (.ptr 2 2) (by simp [go_sem, he5]) (still _ (by decide)) (fun _ => by simp [OcWp, zAa, isPan, opWp]) ?_
 refine y_c (ds := [.ptr 2 2]) (d := .slice (kidsD fs) (.tok 0)) (by simp [go_sem]) (fun E hE => ?_) ?_
 ·rw [still 1 (by decide) E hE]; simp [hF, OcWp, zAa, isPan, opWp, Blk.csq]
 refine y_q (ds := [.ptr 0 0]) (.ptr 0 0) (by simp [go_sem, he0]) (still _ (by decide)) (fun _ => by simp [OcWp, zAa, isPan, opWp]) ?_
 refine y_c (ds := [.fn (.func 33) [] [], .ptr 0 0]) (d := .agg [.int .i64 0, .int .i64 0, .int .i64 0]) (by simp [go_sem]) ?_ ?_
 ·refine any_pan (ds := [.ptr 0 0]) [0] [] (zBm hc _) (fun E hE => by simp only [hF, hE]; rfl) ⟨by simp, by simp, by simp, by simp⟩ (by simp [D.rnL, D.rn, posF, idx]) (by simp [hpP, Hp.sel, Blk.rnL, Blk.rn, Tv.rnL, D.rnL, D.rn, zAe, Own.rn]) ?_
  intro d hp1 hd
  subst hd
  rfl
 refine y_q (ds := [.agg [.int .i64 0, .int .i64 0, .int .i64 0]]) (.slice [.agg [.int .i64 0, .int .i64 0, .int .i64 0]] .full) (by simp [go_sem]) (still _ (by decide)) (fun _ => by
  simp [OcWp, zAa, isPan, opWp, zAj, D.iV, D.cells, D.closed, D.cL, D.erL, D.er]) ?_
 refine y_end (hp' := ⟨[.cells [.slice (tokL l') .no, .int .i64 en], .cells R, .cells [.int .i64 op0, .int .i64 0, .slice (kidsD fs) (.tok 0)]], [.per 3 fs.length, .per 0 0]⟩) (by simp [hF]) ?_
 have hkl := zDc fs
 have hel := zCa fs
 have wQ := And.intro @hkl @hel; repeat' (first | with_reducible (apply swq; constructor) | simp only [go_sem, seval, zA2, pe54, q54, he5b, he5c, hkl] | simp (disch := omega) only [w64, w32, wu8, wu16, wu32, wu64] | ((with_reducible apply zAp); (case he => rfl); (case hK | hc | hr | hV => exact sd wQ)) | ((with_reducible apply zAq); (case he => rfl); (case hV | hK | hr | hl => exact sd wQ)) | ((with_reducible apply zAs); (case he => rfl); (case hK | hc | hr => exact sd wQ)) | ((with_reducible apply zAr); (case he => rfl); (case hK | hc | hr | hx | hn => exact sd wQ)) | ((with_reducible first | apply s_bsl | apply t_bsl); (case he | hl | hc => exact sd wQ)) | ((with_reducible apply zA9); (case hx => exact sd wQ)) | ((with_reducible first | apply zA7 | apply zA8); (case h0 | h1 | hx => exact sd wQ)) | ((with_reducible apply zA6); (case h0 | h1 | h2 | hx => exact sd wQ)) | ((with_reducible first | apply zA4 | apply zA5); (case h0 | h1 | hc => exact sd wQ)) | ((with_reducible apply zA3); (case h0 | h1 | h2 | hc => exact sd wQ)) | (with_reducible first | (apply cdA; constructor) | (apply gdA; constructor)) | ((with_reducible refine And.intro ?hw ?_); (case hw => exact sw wQ)) | with_reducible intro _)
 all_goals try (exfalso; omega)
 all_goals exact ⟨1, rfl⟩
end Go.Proofs.YtkjnhkoipgdfeaaDoor
end