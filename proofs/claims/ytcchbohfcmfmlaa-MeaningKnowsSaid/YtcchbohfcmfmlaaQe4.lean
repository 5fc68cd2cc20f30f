/- Own texts, merged by a program: the engine that walks the code, and what the functions that the law reaches compute. -/
import Derived.Test.YtcchbohfcmfmlaaQe3
import Derived.Test.YtcchbohfcmfmlaaProg
import Derived.KernelRfl
import Derived.Lib.ItoaNum
import Derived.Test.YtcchbohfcmfmlaaShelf
section
set_option maxRecDepth 100000
namespace Go.Proofs.Ytcchbohfcmfmlaa
open Go GoV
/- 10 bogie.bogieref20.Nodes · 2 arguments · kept slots [0, 1, 2, 4, 5, 6, 16] -/
noncomputable def E10 (n m : Nat) : Cfg := ⟨M, [0, 1, 2, 4, 5, 6, 16], 31, n, m, []⟩
noncomputable def C10 : Cfg := E10 0 0
@[reducible] noncomputable def r10_0 : List RO := [
  ⟨.var 2, .box, [.var 0], none⟩,
  ⟨.var 3, .mv, [.con (.int .i64 0)], none⟩]
@[reducible] noncomputable def r10_1 : List RO := [
  ⟨.var 4, .mv, [.con (.int .i64 1)], none⟩]
@[reducible] noncomputable def r10_2 : List RO := [
  ⟨.var 5, .mv, [.con (.int .i64 0)], none⟩]
@[reducible] noncomputable def r10_3 : List RO := [
  ⟨.loc 7, .mv, [.var 5], none⟩,
  ⟨.loc 8, .fld 5, [.var 2], none⟩,
  ⟨.loc 9, .ld false 1, [.loc 8], none⟩,
  ⟨.loc 10, .lenL, [.loc 9], none⟩,
  ⟨.loc 11, .bin .lss, [.loc 7, .loc 10], none⟩,
  ⟨.loc 12, .mv, [.loc 11], none⟩,
  ⟨.loc 13, .mv, [.var 4], (some (.loc 12, true))⟩,
  ⟨.loc 14, .mv, [.var 1], (some (.loc 12, true))⟩,
  ⟨.loc 15, .bin .leq, [.loc 13, .loc 14], (some (.loc 12, true))⟩,
  ⟨.var 6, .pick, [.loc 12, .loc 15, .con (.bool false)], none⟩]
@[reducible] noncomputable def r10_4 : List RO := [
  ⟨.loc 19, .mv, [.var 4], none⟩,
  ⟨.loc 20, .fld 5, [.var 2], none⟩,
  ⟨.loc 21, .ld false 1, [.loc 20], none⟩,
  ⟨.loc 22, .mv, [.var 5], none⟩,
  ⟨.loc 23, .ixaS 6, [.loc 21, .loc 22], none⟩,
  ⟨.loc 24, .ld true 6, [.loc 23], none⟩,
  ⟨.loc 25, .mv, [.var 1], none⟩,
  ⟨.loc 26, .mv, [.var 4], none⟩,
  ⟨.loc 27, .bin .sub, [.loc 25, .loc 26], none⟩,
  ⟨.loc 28, .call, [(.con (.fn (.func 10) [] [])), .loc 24, .loc 27], none⟩,
  ⟨.loc 29, .bin .add, [.loc 19, .loc 28], none⟩,
  ⟨.var 4, .mv, [.loc 29], none⟩]
@[reducible] noncomputable def r10_5 : List RO := [
  ⟨.loc 17, .mv, [.var 5], none⟩,
  ⟨.loc 18, .bin .add, [.loc 17, .con (.int .i64 1)], none⟩,
  ⟨.var 5, .mv, [.loc 18], none⟩]
@[reducible] noncomputable def r10_6 : List RO := [
  ⟨.loc 30, .mv, [.var 4], none⟩,
  ⟨.var 3, .mv, [.loc 30], none⟩]
theorem P10 : C10.M = M := by unfold C10 E10; rfl
theorem i10 {a0 a1 : D} : St.init C10 [a0, a1] ⟨[], []⟩ = ⟨[a0, a1, .undef, .undef, .undef, .undef, .undef], [], ⟨[], []⟩⟩ := by unfold C10 E10; rfl
noncomputable def c10 : RC := (.seq (.reg r10_0) (.seq (.reg r10_1) (.seq (.seq (.reg r10_2) (.block 0 (.loop (.seq (.seq (.reg r10_3) (.cond (.var 6) .skip (.exit 0))) (.seq (.block 1 (.reg r10_4)) (.reg r10_5)))))) (.seq (.reg r10_6) .ret))))
noncomputable def q10 : List RR := [(.slot (.var 3))]
theorem z10 {n m : Nat} : resCode (E10 n m) (Try.f10.body.getD .skip) = some c10 := by kernel_rfl
theorem zr10 {n m : Nat} : resRs (E10 n m) Try.f10.results.toList = some q10 := by kernel_rfl
theorem ok10 {args : List D} {d : D} (hl : args.length = 2) (h : SWp C10 c10 (fun e s => (match e with | .exit _ => False | _ => True) ∧ rrsWp q10 s fun ds => D.closed (oneOrTup ds) = true ∧ (oneOrTup ds).er = d) (St.init C10 args ⟨[], []⟩)) : Pur M 10 args d :=
  pur_of_body (C := C10) (fn := Try.f10) Try.func10 (by kernel_rfl) (by kernel_rfl) (rc := c10) z10 (rs := q10) zr10 (by kernel_rfl) (by rw [hl]; rfl) (by rw [hl]; decide) rfl rfl h
/- 26 bogie.bogieref20.short · 1 arguments · kept slots [0, 1, 2, 3, 13, 18, 27] -/
noncomputable def E26 (n m : Nat) : Cfg := ⟨M, [0, 1, 2, 3, 13, 18, 27], 28, n, m, []⟩
noncomputable def C26 : Cfg := E26 0 0
@[reducible] noncomputable def r26_0 : List RO := [
  ⟨.var 1, .box, [.var 0], none⟩,
  ⟨.var 2, .mv, [.con (.bool false)], none⟩]
@[reducible] noncomputable def r26_1 : List RO := [
  ⟨.loc 4, .fld 1, [.var 1], none⟩,
  ⟨.loc 5, .ld false 1, [.loc 4], none⟩,
  ⟨.loc 6, .lenS, [.loc 5], none⟩,
  ⟨.loc 7, .bin .gtr, [.loc 6, .con (.int .i64 300)], none⟩,
  ⟨.loc 8, .mv, [.loc 7], none⟩,
  ⟨.loc 9, .fld 2, [.var 1], (some (.loc 8, false))⟩,
  ⟨.loc 10, .ld false 1, [.loc 9], (some (.loc 8, false))⟩,
  ⟨.loc 11, .lenS, [.loc 10], (some (.loc 8, false))⟩,
  ⟨.loc 12, .bin .gtr, [.loc 11, .con (.int .i64 300)], (some (.loc 8, false))⟩,
  ⟨.var 4, .pick, [.loc 8, .con (.bool true), .loc 12], none⟩]
@[reducible] noncomputable def r26_2 : List RO := [
  ⟨.var 2, .mv, [.con (.bool false)], none⟩]
@[reducible] noncomputable def r26_3 : List RO := [
  ⟨.var 3, .mv, [.con (.int .i64 0)], none⟩]
@[reducible] noncomputable def r26_4 : List RO := [
  ⟨.loc 14, .mv, [.var 3], none⟩,
  ⟨.loc 15, .fld 5, [.var 1], none⟩,
  ⟨.loc 16, .ld false 1, [.loc 15], none⟩,
  ⟨.loc 17, .lenL, [.loc 16], none⟩,
  ⟨.var 5, .bin .lss, [.loc 14, .loc 17], none⟩]
@[reducible] noncomputable def r26_5 : List RO := [
  ⟨.loc 21, .fld 5, [.var 1], none⟩,
  ⟨.loc 22, .ld false 1, [.loc 21], none⟩,
  ⟨.loc 23, .mv, [.var 3], none⟩,
  ⟨.loc 24, .ixaS 6, [.loc 22, .loc 23], none⟩,
  ⟨.loc 25, .ld true 6, [.loc 24], none⟩,
  ⟨.loc 26, .call, [(.con (.fn (.func 26) [] [])), .loc 25], none⟩,
  ⟨.var 6, .un .not, [.loc 26], none⟩]
@[reducible] noncomputable def r26_6 : List RO := [
  ⟨.var 2, .mv, [.con (.bool false)], none⟩]
@[reducible] noncomputable def r26_7 : List RO := [
  ⟨.loc 19, .mv, [.var 3], none⟩,
  ⟨.loc 20, .bin .add, [.loc 19, .con (.int .i64 1)], none⟩,
  ⟨.var 3, .mv, [.loc 20], none⟩]
@[reducible] noncomputable def r26_8 : List RO := [
  ⟨.var 2, .mv, [.con (.bool true)], none⟩]
theorem P26 : C26.M = M := by unfold C26 E26; rfl
theorem i26 {a0 : D} : St.init C26 [a0] ⟨[], []⟩ = ⟨[a0, .undef, .undef, .undef, .undef, .undef, .undef], [], ⟨[], []⟩⟩ := by unfold C26 E26; rfl
noncomputable def c26 : RC := (.seq (.reg r26_0) (.seq (.seq (.reg r26_1) (.cond (.var 4) (.seq (.reg r26_2) .ret) .skip)) (.seq (.seq (.reg r26_3) (.block 0 (.loop (.seq (.seq (.reg r26_4) (.cond (.var 5) .skip (.exit 0))) (.seq (.block 1 (.seq (.reg r26_5) (.cond (.var 6) (.seq (.reg r26_6) .ret) .skip))) (.reg r26_7)))))) (.seq (.reg r26_8) .ret))))
noncomputable def q26 : List RR := [(.slot (.var 2))]
theorem z26 {n m : Nat} : resCode (E26 n m) (Try.f26.body.getD .skip) = some c26 := by kernel_rfl
theorem zr26 {n m : Nat} : resRs (E26 n m) Try.f26.results.toList = some q26 := by kernel_rfl
theorem ok26 {args : List D} {d : D} (hl : args.length = 1) (h : SWp C26 c26 (fun e s => (match e with | .exit _ => False | _ => True) ∧ rrsWp q26 s fun ds => D.closed (oneOrTup ds) = true ∧ (oneOrTup ds).er = d) (St.init C26 args ⟨[], []⟩)) : Pur M 26 args d :=
  pur_of_body (C := C26) (fn := Try.f26) Try.func26 (by kernel_rfl) (by kernel_rfl) (rc := c26) z26 (rs := q26) zr26 (by kernel_rfl) (by rw [hl]; rfl) (by rw [hl]; decide) rfl rfl h
/- 11 bogie.bogieref20.FewCond · 1 arguments · kept slots [0, 1, 2] -/
noncomputable def E11 (n m : Nat) : Cfg := ⟨M, [0, 1, 2], 10, n, m, []⟩
noncomputable def C11 : Cfg := E11 0 0
@[reducible] noncomputable def r11_0 : List RO := [
  ⟨.var 1, .box, [.var 0], none⟩,
  ⟨.var 2, .mv, [.con (.bool false)], none⟩]
@[reducible] noncomputable def r11_1 : List RO := [
  ⟨.loc 3, .ld true 6, [.var 1], none⟩,
  ⟨.loc 4, .call, [(.con (.fn (.func 10) [] [])), .loc 3, .con (.int .i64 80)], none⟩,
  ⟨.loc 5, .bin .leq, [.loc 4, .con (.int .i64 80)], none⟩,
  ⟨.loc 6, .mv, [.loc 5], none⟩,
  ⟨.loc 7, .ld true 6, [.var 1], (some (.loc 6, true))⟩,
  ⟨.loc 8, .call, [(.con (.fn (.func 26) [] [])), .loc 7], (some (.loc 6, true))⟩,
  ⟨.loc 9, .pick, [.loc 6, .loc 8, .con (.bool false)], none⟩,
  ⟨.var 2, .mv, [.loc 9], none⟩]
theorem P11 : C11.M = M := by unfold C11 E11; rfl
theorem i11 {a0 : D} : St.init C11 [a0] ⟨[], []⟩ = ⟨[a0, .undef, .undef], [], ⟨[], []⟩⟩ := by unfold C11 E11; rfl
noncomputable def c11 : RC := (.seq (.reg r11_0) (.seq (.reg r11_1) .ret))
noncomputable def q11 : List RR := [(.slot (.var 2))]
theorem z11 {n m : Nat} : resCode (E11 n m) (Try.f11.body.getD .skip) = some c11 := by kernel_rfl
theorem zr11 {n m : Nat} : resRs (E11 n m) Try.f11.results.toList = some q11 := by kernel_rfl
theorem ok11 {args : List D} {d : D} (hl : args.length = 1) (h : SWp C11 c11 (fun e s => (match e with | .exit _ => False | _ => True) ∧ rrsWp q11 s fun ds => D.closed (oneOrTup ds) = true ∧ (oneOrTup ds).er = d) (St.init C11 args ⟨[], []⟩)) : Pur M 11 args d :=
  pur_of_body (C := C11) (fn := Try.f11) Try.func11 (by kernel_rfl) (by kernel_rfl) (rc := c11) z11 (rs := q11) zr11 (by kernel_rfl) (by rw [hl]; rfl) (by rw [hl]; decide) rfl rfl h
/- 19 bogie.bogieref10.Few · 2 arguments · kept slots [0, 1, 2, 4, 5, 6, 7, 12, 17, 46, 51, 69] -/
noncomputable def E19 (n m : Nat) : Cfg := ⟨M, [0, 1, 2, 4, 5, 6, 7, 12, 17, 46, 51, 69], 70, n, m, []⟩
noncomputable def C19 : Cfg := E19 0 0
@[reducible] noncomputable def r19_0 : List RO := [
  ⟨.var 2, .box, [.var 0], none⟩,
  ⟨.var 3, .mv, [.con (.bool false)], none⟩]
@[reducible] noncomputable def r19_1 : List RO := [
  ⟨.loc 8, .fld 0, [.var 2], none⟩,
  ⟨.loc 9, .ld false 1, [.loc 8], none⟩,
  ⟨.loc 10, .lenL, [.loc 9], none⟩,
  ⟨.loc 11, .mv, [.var 1], none⟩,
  ⟨.var 7, .bin .gtr, [.loc 10, .loc 11], none⟩]
@[reducible] noncomputable def r19_2 : List RO := [
  ⟨.var 3, .mv, [.con (.bool false)], none⟩]
@[reducible] noncomputable def r19_3 : List RO := [
  ⟨.var 4, .mv, [.con (.int .i64 0)], none⟩]
@[reducible] noncomputable def r19_4 : List RO := [
  ⟨.loc 13, .mv, [.var 4], none⟩,
  ⟨.loc 14, .fld 0, [.var 2], none⟩,
  ⟨.loc 15, .ld false 1, [.loc 14], none⟩,
  ⟨.loc 16, .lenL, [.loc 15], none⟩,
  ⟨.var 8, .bin .lss, [.loc 13, .loc 16], none⟩]
@[reducible] noncomputable def r19_5 : List RO := [
  ⟨.loc 20, .fld 0, [.var 2], none⟩,
  ⟨.loc 21, .ld false 1, [.loc 20], none⟩,
  ⟨.loc 22, .mv, [.var 4], none⟩,
  ⟨.loc 23, .ixaS 14, [.loc 21, .loc 22], none⟩,
  ⟨.loc 24, .ld true 14, [.loc 23], none⟩,
  ⟨.var 5, (.newb [(.str []), (.str []), (.str []), (.str []), (.int .i64 0), (.int .i64 0), (.bool false), (.lit (.slice none 0 0)), (.int .i64 0), (.int .i64 0), (.int .i64 0), (.int .i64 0), (.int .i64 0), (.int .i64 0)]), [], none⟩,
  ⟨.none, .st 14, [.var 5, .loc 24], none⟩]
@[reducible] noncomputable def r19_6 : List RO := [
  ⟨.loc 25, .fld 0, [.var 5], none⟩,
  ⟨.loc 26, .ld false 1, [.loc 25], none⟩,
  ⟨.loc 27, .lenS, [.loc 26], none⟩,
  ⟨.loc 28, .fld 1, [.var 5], none⟩,
  ⟨.loc 29, .ld false 1, [.loc 28], none⟩,
  ⟨.loc 30, .lenS, [.loc 29], none⟩,
  ⟨.loc 31, .bin .add, [.loc 27, .loc 30], none⟩,
  ⟨.loc 32, .fld 2, [.var 5], none⟩,
  ⟨.loc 33, .ld false 1, [.loc 32], none⟩,
  ⟨.loc 34, .lenS, [.loc 33], none⟩,
  ⟨.loc 35, .bin .add, [.loc 31, .loc 34], none⟩,
  ⟨.loc 36, .fld 3, [.var 5], none⟩,
  ⟨.loc 37, .ld false 1, [.loc 36], none⟩,
  ⟨.loc 38, .lenS, [.loc 37], none⟩,
  ⟨.loc 39, .bin .add, [.loc 35, .loc 38], none⟩,
  ⟨.loc 40, .bin .gtr, [.loc 39, .con (.int .i64 300)], none⟩,
  ⟨.loc 41, .mv, [.loc 40], none⟩,
  ⟨.loc 42, .fld 7, [.var 5], (some (.loc 41, false))⟩,
  ⟨.loc 43, .ld false 1, [.loc 42], (some (.loc 41, false))⟩,
  ⟨.loc 44, .lenL, [.loc 43], (some (.loc 41, false))⟩,
  ⟨.loc 45, .bin .gtr, [.loc 44, .con (.int .i64 65)], (some (.loc 41, false))⟩,
  ⟨.var 9, .pick, [.loc 41, .con (.bool true), .loc 45], none⟩]
@[reducible] noncomputable def r19_7 : List RO := [
  ⟨.var 3, .mv, [.con (.bool false)], none⟩]
@[reducible] noncomputable def r19_8 : List RO := [
  ⟨.var 6, .mv, [.con (.int .i64 0)], none⟩]
@[reducible] noncomputable def r19_9 : List RO := [
  ⟨.loc 47, .mv, [.var 6], none⟩,
  ⟨.loc 48, .fld 7, [.var 5], none⟩,
  ⟨.loc 49, .ld false 1, [.loc 48], none⟩,
  ⟨.loc 50, .lenL, [.loc 49], none⟩,
  ⟨.var 10, .bin .lss, [.loc 47, .loc 50], none⟩]
@[reducible] noncomputable def r19_10 : List (RO × Bool) := [
  (⟨.loc 54, .fld 7, [.var 5], none⟩, true),
  (⟨.loc 55, .ld false 1, [.loc 54], none⟩, true),
  (⟨.loc 56, .mv, [.var 6], none⟩, true),
  (⟨.loc 57, .ixaS 2, [.loc 55, .loc 56], none⟩, true),
  (⟨.loc 58, .fld 0, [.loc 57], none⟩, true),
  (⟨.loc 59, .ld false 1, [.loc 58], none⟩, true),
  (⟨.loc 60, .lenS, [.loc 59], none⟩, true),
  (⟨.loc 61, .fld 7, [.var 5], none⟩, true),
  (⟨.loc 62, .ld false 1, [.loc 61], none⟩, true),
  (⟨.loc 63, .mv, [.var 6], none⟩, true),
  (⟨.loc 64, .ixaS 2, [.loc 62, .loc 63], none⟩, true),
  (⟨.loc 65, .fld 1, [.loc 64], none⟩, true),
  (⟨.loc 66, .ld false 1, [.loc 65], none⟩, true),
  (⟨.loc 67, .lenS, [.loc 66], none⟩, true)]
@[reducible] noncomputable def r19_11 : List RO := [
  ⟨.loc 68, .bin .add, [.loc 60, .loc 67], none⟩,
  ⟨.var 11, .bin .gtr, [.loc 68, .con (.int .i64 300)], none⟩]
@[reducible] noncomputable def r19_12 : List RO := [
  ⟨.var 3, .mv, [.con (.bool false)], none⟩]
@[reducible] noncomputable def r19_13 : List RO := [
  ⟨.loc 52, .mv, [.var 6], none⟩,
  ⟨.loc 53, .bin .add, [.loc 52, .con (.int .i64 1)], none⟩,
  ⟨.var 6, .mv, [.loc 53], none⟩]
@[reducible] noncomputable def r19_14 : List RO := [
  ⟨.loc 18, .mv, [.var 4], none⟩,
  ⟨.loc 19, .bin .add, [.loc 18, .con (.int .i64 1)], none⟩,
  ⟨.var 4, .mv, [.loc 19], none⟩]
@[reducible] noncomputable def r19_15 : List RO := [
  ⟨.var 3, .mv, [.con (.bool true)], none⟩]
theorem P19 : C19.M = M := by unfold C19 E19; rfl
theorem i19 {a0 a1 : D} : St.init C19 [a0, a1] ⟨[], []⟩ = ⟨[a0, a1, .undef, .undef, .undef, .undef, .undef, .undef, .undef, .undef, .undef, .undef], [], ⟨[], []⟩⟩ := by unfold C19 E19; rfl
noncomputable def c19 : RC := (.seq (.reg r19_0) (.seq (.seq (.reg r19_1) (.cond (.var 7) (.seq (.reg r19_2) .ret) .skip)) (.seq (.seq (.reg r19_3) (.block 0 (.loop (.seq (.seq (.reg r19_4) (.cond (.var 8) .skip (.exit 0))) (.seq (.block 1 (.seq (.reg r19_5) (.seq (.seq (.reg r19_6) (.cond (.var 9) (.seq (.reg r19_7) .ret) .skip)) (.seq (.reg r19_8) (.block 2 (.loop (.seq (.seq (.reg r19_9) (.cond (.var 10) .skip (.exit 2))) (.seq (.block 3 (.seq (.regD r19_10 r19_11) (.cond (.var 11) (.seq (.reg r19_12) .ret) .skip))) (.reg r19_13))))))))) (.reg r19_14)))))) (.seq (.reg r19_15) .ret))))
noncomputable def q19 : List RR := [(.slot (.var 3))]
theorem z19 {n m : Nat} : resCode (E19 n m) (Try.f19.body.getD .skip) = some c19 := by kernel_rfl
theorem zr19 {n m : Nat} : resRs (E19 n m) Try.f19.results.toList = some q19 := by kernel_rfl
theorem ok19 {args : List D} {d : D} (hl : args.length = 2) (h : SWp C19 c19 (fun e s => (match e with | .exit _ => False | _ => True) ∧ rrsWp q19 s fun ds => D.closed (oneOrTup ds) = true ∧ (oneOrTup ds).er = d) (St.init C19 args ⟨[], []⟩)) : Pur M 19 args d :=
  pur_of_body (C := C19) (fn := Try.f19) Try.func19 (by kernel_rfl) (by kernel_rfl) (rc := c19) z19 (rs := q19) zr19 (by kernel_rfl) (by rw [hl]; rfl) (by rw [hl]; decide) rfl rfl h
/- 21 bogie.bogieref10.SamePart · 2 arguments · kept slots [0, 1, 2, 3, 4, 5, 68, 73, 86] -/
noncomputable def E21 (n m : Nat) : Cfg := ⟨M, [0, 1, 2, 3, 4, 5, 68, 73, 86], 87, n, m, []⟩
noncomputable def C21 : Cfg := E21 0 0
@[reducible] noncomputable def r21_0 : List RO := [
  ⟨.var 2, .box, [.var 0], none⟩,
  ⟨.var 3, .box, [.var 1], none⟩,
  ⟨.var 4, .mv, [.con (.bool false)], none⟩]
@[reducible] noncomputable def r21_1 : List RO := [
  ⟨.loc 6, .fld 0, [.var 2], none⟩,
  ⟨.loc 7, .ld false 1, [.loc 6], none⟩,
  ⟨.loc 8, .fld 0, [.var 3], none⟩,
  ⟨.loc 9, .ld false 1, [.loc 8], none⟩,
  ⟨.loc 10, .bin .neq, [.loc 7, .loc 9], none⟩,
  ⟨.loc 11, .mv, [.loc 10], none⟩,
  ⟨.loc 12, .fld 1, [.var 2], (some (.loc 11, false))⟩,
  ⟨.loc 13, .ld false 1, [.loc 12], (some (.loc 11, false))⟩,
  ⟨.loc 14, .fld 1, [.var 3], (some (.loc 11, false))⟩,
  ⟨.loc 15, .ld false 1, [.loc 14], (some (.loc 11, false))⟩,
  ⟨.loc 16, .bin .neq, [.loc 13, .loc 15], (some (.loc 11, false))⟩,
  ⟨.loc 17, .pick, [.loc 11, .con (.bool true), .loc 16], none⟩,
  ⟨.loc 18, .mv, [.loc 17], none⟩,
  ⟨.loc 19, .fld 2, [.var 2], (some (.loc 18, false))⟩,
  ⟨.loc 20, .ld false 1, [.loc 19], (some (.loc 18, false))⟩,
  ⟨.loc 21, .fld 2, [.var 3], (some (.loc 18, false))⟩,
  ⟨.loc 22, .ld false 1, [.loc 21], (some (.loc 18, false))⟩,
  ⟨.loc 23, .bin .neq, [.loc 20, .loc 22], (some (.loc 18, false))⟩,
  ⟨.loc 24, .pick, [.loc 18, .con (.bool true), .loc 23], none⟩,
  ⟨.loc 25, .mv, [.loc 24], none⟩,
  ⟨.loc 26, .fld 3, [.var 2], (some (.loc 25, false))⟩,
  ⟨.loc 27, .ld false 1, [.loc 26], (some (.loc 25, false))⟩,
  ⟨.loc 28, .fld 3, [.var 3], (some (.loc 25, false))⟩,
  ⟨.loc 29, .ld false 1, [.loc 28], (some (.loc 25, false))⟩,
  ⟨.loc 30, .bin .neq, [.loc 27, .loc 29], (some (.loc 25, false))⟩,
  ⟨.loc 31, .pick, [.loc 25, .con (.bool true), .loc 30], none⟩,
  ⟨.loc 32, .mv, [.loc 31], none⟩,
  ⟨.loc 33, .fld 4, [.var 2], (some (.loc 32, false))⟩,
  ⟨.loc 34, .ld false 1, [.loc 33], (some (.loc 32, false))⟩,
  ⟨.loc 35, .fld 4, [.var 3], (some (.loc 32, false))⟩,
  ⟨.loc 36, .ld false 1, [.loc 35], (some (.loc 32, false))⟩,
  ⟨.loc 37, .bin .neq, [.loc 34, .loc 36], (some (.loc 32, false))⟩,
  ⟨.loc 38, .pick, [.loc 32, .con (.bool true), .loc 37], none⟩,
  ⟨.loc 39, .mv, [.loc 38], none⟩,
  ⟨.loc 40, .fld 5, [.var 2], (some (.loc 39, false))⟩,
  ⟨.loc 41, .ld false 1, [.loc 40], (some (.loc 39, false))⟩,
  ⟨.loc 42, .fld 5, [.var 3], (some (.loc 39, false))⟩,
  ⟨.loc 43, .ld false 1, [.loc 42], (some (.loc 39, false))⟩,
  ⟨.loc 44, .bin .neq, [.loc 41, .loc 43], (some (.loc 39, false))⟩,
  ⟨.loc 45, .pick, [.loc 39, .con (.bool true), .loc 44], none⟩,
  ⟨.loc 46, .mv, [.loc 45], none⟩,
  ⟨.loc 47, .fld 6, [.var 2], (some (.loc 46, false))⟩,
  ⟨.loc 48, .ld false 1, [.loc 47], (some (.loc 46, false))⟩,
  ⟨.loc 49, .fld 6, [.var 3], (some (.loc 46, false))⟩,
  ⟨.loc 50, .ld false 1, [.loc 49], (some (.loc 46, false))⟩,
  ⟨.loc 51, .eqB true, [.loc 48, .loc 50], (some (.loc 46, false))⟩,
  ⟨.loc 52, .pick, [.loc 46, .con (.bool true), .loc 51], none⟩,
  ⟨.loc 53, .mv, [.loc 52], none⟩,
  ⟨.loc 54, .fld 8, [.var 2], (some (.loc 53, false))⟩,
  ⟨.loc 55, .ld true 6, [.loc 54], (some (.loc 53, false))⟩,
  ⟨.loc 56, .fld 8, [.var 3], (some (.loc 53, false))⟩,
  ⟨.loc 57, .ld true 6, [.loc 56], (some (.loc 53, false))⟩,
  ⟨.loc 58, (.eqA true [.int, .int, .int, .int, .int, .int]), [.loc 55, .loc 57], (some (.loc 53, false))⟩,
  ⟨.loc 59, .pick, [.loc 53, .con (.bool true), .loc 58], none⟩,
  ⟨.loc 60, .mv, [.loc 59], none⟩,
  ⟨.loc 61, .fld 7, [.var 2], (some (.loc 60, false))⟩,
  ⟨.loc 62, .ld false 1, [.loc 61], (some (.loc 60, false))⟩,
  ⟨.loc 63, .lenL, [.loc 62], (some (.loc 60, false))⟩,
  ⟨.loc 64, .fld 7, [.var 3], (some (.loc 60, false))⟩,
  ⟨.loc 65, .ld false 1, [.loc 64], (some (.loc 60, false))⟩,
  ⟨.loc 66, .lenL, [.loc 65], (some (.loc 60, false))⟩,
  ⟨.loc 67, .bin .neq, [.loc 63, .loc 66], (some (.loc 60, false))⟩,
  ⟨.var 6, .pick, [.loc 60, .con (.bool true), .loc 67], none⟩]
@[reducible] noncomputable def r21_2 : List RO := [
  ⟨.var 4, .mv, [.con (.bool false)], none⟩]
@[reducible] noncomputable def r21_3 : List RO := [
  ⟨.var 5, .mv, [.con (.int .i64 0)], none⟩]
@[reducible] noncomputable def r21_4 : List RO := [
  ⟨.loc 69, .mv, [.var 5], none⟩,
  ⟨.loc 70, .fld 7, [.var 2], none⟩,
  ⟨.loc 71, .ld false 1, [.loc 70], none⟩,
  ⟨.loc 72, .lenL, [.loc 71], none⟩,
  ⟨.var 7, .bin .lss, [.loc 69, .loc 72], none⟩]
@[reducible] noncomputable def r21_5 : List (RO × Bool) := [
  (⟨.loc 76, .fld 7, [.var 2], none⟩, true),
  (⟨.loc 77, .ld false 1, [.loc 76], none⟩, true),
  (⟨.loc 78, .mv, [.var 5], none⟩, true),
  (⟨.loc 79, .ixaS 2, [.loc 77, .loc 78], none⟩, true),
  (⟨.loc 80, .ld true 2, [.loc 79], none⟩, true),
  (⟨.loc 81, .fld 7, [.var 3], none⟩, true),
  (⟨.loc 82, .ld false 1, [.loc 81], none⟩, true),
  (⟨.loc 83, .mv, [.var 5], none⟩, true),
  (⟨.loc 84, .ixaS 2, [.loc 82, .loc 83], none⟩, true),
  (⟨.loc 85, .ld true 2, [.loc 84], none⟩, true)]
@[reducible] noncomputable def r21_6 : List RO := [
  ⟨.var 8, (.eqA true [.str, .str]), [.loc 80, .loc 85], none⟩]
@[reducible] noncomputable def r21_7 : List RO := [
  ⟨.var 4, .mv, [.con (.bool false)], none⟩]
@[reducible] noncomputable def r21_8 : List RO := [
  ⟨.loc 74, .mv, [.var 5], none⟩,
  ⟨.loc 75, .bin .add, [.loc 74, .con (.int .i64 1)], none⟩,
  ⟨.var 5, .mv, [.loc 75], none⟩]
@[reducible] noncomputable def r21_9 : List RO := [
  ⟨.var 4, .mv, [.con (.bool true)], none⟩]
theorem P21 : C21.M = M := by unfold C21 E21; rfl
theorem i21 {a0 a1 : D} : St.init C21 [a0, a1] ⟨[], []⟩ = ⟨[a0, a1, .undef, .undef, .undef, .undef, .undef, .undef, .undef], [], ⟨[], []⟩⟩ := by unfold C21 E21; rfl
noncomputable def c21 : RC := (.seq (.reg r21_0) (.seq (.seq (.reg r21_1) (.cond (.var 6) (.seq (.reg r21_2) .ret) .skip)) (.seq (.seq (.reg r21_3) (.block 0 (.loop (.seq (.seq (.reg r21_4) (.cond (.var 7) .skip (.exit 0))) (.seq (.block 1 (.seq (.regD r21_5 r21_6) (.cond (.var 8) (.seq (.reg r21_7) .ret) .skip))) (.reg r21_8)))))) (.seq (.reg r21_9) .ret))))
noncomputable def q21 : List RR := [(.slot (.var 4))]
theorem z21 {n m : Nat} : resCode (E21 n m) (Try.f21.body.getD .skip) = some c21 := by kernel_rfl
theorem zr21 {n m : Nat} : resRs (E21 n m) Try.f21.results.toList = some q21 := by kernel_rfl
theorem ok21 {args : List D} {d : D} (hl : args.length = 2) (h : SWp C21 c21 (fun e s => (match e with | .exit _ => False | _ => True) ∧ rrsWp q21 s fun ds => D.closed (oneOrTup ds) = true ∧ (oneOrTup ds).er = d) (St.init C21 args ⟨[], []⟩)) : Pur M 21 args d :=
  pur_of_body (C := C21) (fn := Try.f21) Try.func21 (by kernel_rfl) (by kernel_rfl) (rc := c21) z21 (rs := q21) zr21 (by kernel_rfl) (by rw [hl]; rfl) (by rw [hl]; decide) rfl rfl h
/- 9 bogie.bogielaw22.few · 3 arguments · kept slots [0, 1, 2, 3, 4, 6] -/
noncomputable def E9 (n m : Nat) : Cfg := ⟨M, [0, 1, 2, 3, 4, 6], 18, n, m, []⟩
noncomputable def C9 : Cfg := E9 0 0
@[reducible] noncomputable def r9_0 : List RO := [
  ⟨.var 3, .box, [.var 0], none⟩,
  ⟨.var 4, .box, [.var 1], none⟩,
  ⟨.var 5, .mv, [.con (.bool false)], none⟩]
@[reducible] noncomputable def r9_1 : List RO := [
  ⟨.loc 7, .ld true 1, [.var 3], none⟩,
  ⟨.loc 8, .call, [(.con (.fn (.func 19) [] [])), .loc 7, .con (.int .i64 12)], none⟩,
  ⟨.loc 9, .mv, [.loc 8], none⟩,
  ⟨.loc 10, .ld true 6, [.var 4], (some (.loc 9, true))⟩,
  ⟨.loc 11, .call, [(.con (.fn (.func 11) [] [])), .loc 10], (some (.loc 9, true))⟩,
  ⟨.loc 12, .pick, [.loc 9, .loc 11, .con (.bool false)], none⟩,
  ⟨.loc 13, .mv, [.loc 12], none⟩,
  ⟨.loc 14, .mv, [.var 2], (some (.loc 13, true))⟩,
  ⟨.loc 15, .lenS, [.loc 14], (some (.loc 13, true))⟩,
  ⟨.loc 16, .bin .leq, [.loc 15, .con (.int .i64 300)], (some (.loc 13, true))⟩,
  ⟨.loc 17, .pick, [.loc 13, .loc 16, .con (.bool false)], none⟩,
  ⟨.var 5, .mv, [.loc 17], none⟩]
theorem P9 : C9.M = M := by unfold C9 E9; rfl
theorem i9 {a0 a1 a2 : D} : St.init C9 [a0, a1, a2] ⟨[], []⟩ = ⟨[a0, a1, a2, .undef, .undef, .undef], [], ⟨[], []⟩⟩ := by unfold C9 E9; rfl
noncomputable def c9 : RC := (.seq (.reg r9_0) (.seq (.reg r9_1) .ret))
noncomputable def q9 : List RR := [(.slot (.var 5))]
theorem z9 {n m : Nat} : resCode (E9 n m) (Try.f9.body.getD .skip) = some c9 := by kernel_rfl
theorem zr9 {n m : Nat} : resRs (E9 n m) Try.f9.results.toList = some q9 := by kernel_rfl
theorem ok9 {args : List D} {d : D} (hl : args.length = 3) (h : SWp C9 c9 (fun e s => (match e with | .exit _ => False | _ => True) ∧ rrsWp q9 s fun ds => D.closed (oneOrTup ds) = true ∧ (oneOrTup ds).er = d) (St.init C9 args ⟨[], []⟩)) : Pur M 9 args d :=
  pur_of_body (C := C9) (fn := Try.f9) Try.func9 (by kernel_rfl) (by kernel_rfl) (rc := c9) z9 (rs := q9) zr9 (by kernel_rfl) (by rw [hl]; rfl) (by rw [hl]; decide) rfl rfl h
/- 23 bogie.bogielaw22.example · 0 arguments · kept slots [0] -/
noncomputable def E23 (n m : Nat) : Cfg := ⟨M, [0], 9, n, m, []⟩
noncomputable def C23 : Cfg := E23 0 0
@[reducible] noncomputable def r23_0 : List RO := [
  ⟨.var 0, (.newb [(.lit (.slice none 0 0))]), [], none⟩]
@[reducible] noncomputable def r23_1 : List RO := [
  ⟨.loc 1, (.bld [(.int .i64 0), (.int .i64 0)] [(0, 1), (1, 1)]), [.con (.int .i64 90), .con (.int .i64 110)], none⟩,
  ⟨.loc 2, (.bld [(.int .i64 0), (.int .i64 0), (.int .i64 0), (.int .i64 0), (.int .i64 0), (.int .i64 0)] [(0, 2)]), [.loc 1], none⟩,
  ⟨.loc 3, (.bld [(.str []), (.str []), (.str []), (.str []), (.int .i64 0), (.int .i64 0), (.bool false), (.lit (.slice none 0 0)), (.int .i64 0), (.int .i64 0), (.int .i64 0), (.int .i64 0), (.int .i64 0), (.int .i64 0)] [(0, 1), (1, 1), (8, 6)]), [(.con (.str [99])), (.con (.str [99, 111, 97, 99, 104])), .loc 2], none⟩,
  ⟨.loc 4, (.bld [(.str []), (.str [])] [(0, 1), (1, 1)]), [(.con (.str [98, 97, 116, 99, 104])), (.con (.str [65]))], none⟩,
  ⟨.loc 5, .bsl 2, [.loc 4], none⟩,
  ⟨.loc 6, (.bld [(.str []), (.str []), (.str []), (.str []), (.int .i64 0), (.int .i64 0), (.bool false), (.lit (.slice none 0 0)), (.int .i64 0), (.int .i64 0), (.int .i64 0), (.int .i64 0), (.int .i64 0), (.int .i64 0)] [(0, 1), (1, 1), (2, 1), (3, 1), (7, 1)]), [(.con (.str [119])), (.con (.str [119, 104, 101, 101, 108, 115, 101, 116])), (.con (.str [99])), (.con (.str [102, 114, 111, 110, 116])), .loc 5], none⟩,
  ⟨.loc 7, .bsl 14, [.loc 3, .loc 6], none⟩,
  ⟨.loc 8, (.bld [(.lit (.slice none 0 0))] [(0, 1)]), [.loc 7], none⟩,
  ⟨.none, .st 1, [.var 0, .loc 8], none⟩]
theorem P23 : C23.M = M := by unfold C23 E23; rfl
theorem i23 : St.init C23 [] ⟨[], []⟩ = ⟨[.undef], [], ⟨[], []⟩⟩ := by unfold C23 E23; rfl
noncomputable def c23 : RC := (.seq (.reg r23_0) (.seq (.reg r23_1) .ret))
noncomputable def q23 : List RR := [(.cell (.var 0) true 1)]
theorem z23 {n m : Nat} : resCode (E23 n m) (Try.f23.body.getD .skip) = some c23 := by kernel_rfl
theorem zr23 {n m : Nat} : resRs (E23 n m) Try.f23.results.toList = some q23 := by kernel_rfl
theorem ok23 {args : List D} {d : D} (hl : args.length = 0) (h : SWp C23 c23 (fun e s => (match e with | .exit _ => False | _ => True) ∧ rrsWp q23 s fun ds => D.closed (oneOrTup ds) = true ∧ (oneOrTup ds).er = d) (St.init C23 args ⟨[], []⟩)) : Pur M 23 args d :=
  pur_of_body (C := C23) (fn := Try.f23) Try.func23 (by kernel_rfl) (by kernel_rfl) (rc := c23) z23 (rs := q23) zr23 (by kernel_rfl) (by rw [hl]; rfl) (by rw [hl]; decide) rfl rfl h
/- 24 bogie.bogielaw22.head$1 · 2 arguments · kept slots [0, 1, 2, 3] -/
noncomputable def E24 (n m : Nat) : Cfg := ⟨M, [0, 1, 2, 3], 7, n, m, []⟩
@[reducible] noncomputable def r24_0 : List RO := [
  ⟨.var 2, .box, [.var 0], none⟩,
  ⟨.var 3, .mv, [.con (.int .i64 0)], none⟩]
@[reducible] noncomputable def r24_1 : List RO := [
  ⟨.loc 4, .ld true 1, [.var 1], none⟩,
  ⟨.loc 5, .ld true 6, [.var 2], none⟩,
  ⟨.loc 6, .call, [(.con (.fn (.func 12) [] [])), .loc 4, .loc 5, (.con (.str [99])), .con (.int .i64 5)], none⟩,
  ⟨.var 3, .mv, [.loc 6], none⟩]
theorem pe24 {n m : Nat} : (E24 n m).M = M := by unfold E24; rfl
theorem ie24 {n m : Nat} {hp : Hp} {a0 a1 : D} : St.init (E24 n m) [a0, a1] hp = ⟨[a0, a1, .undef, .undef], [], hp⟩ := by unfold E24; rfl
noncomputable def c24 : RC := (.seq (.reg r24_0) (.seq (.reg r24_1) .ret))
noncomputable def q24 : List RR := [(.slot (.var 3))]
theorem z24 {n m : Nat} : resCode (E24 n m) (Try.f24.body.getD .skip) = some c24 := by kernel_rfl
theorem zr24 {n m : Nat} : resRs (E24 n m) Try.f24.results.toList = some q24 := by kernel_rfl
theorem oe24 {args : List D} {hp : Hp} {R : D → Hp → Prop} (n m : Nat) (hl : args.length = 2) (hn : n = hp.H.length) (hm : m = hp.tk.length) (h : SWp (E24 n m) c24 (fun e s => (match e with | .exit _ => False | _ => True) ∧ ∃ s1, Weak (E24 n m) s s1 ∧ rrsWp q24 s1 fun ds => R (oneOrTup ds) s1.hp) (St.init (E24 n m) args hp)) : Eff M 24 args hp R :=
  eff_of_body (C := E24 n m) (fn := Try.f24) Try.func24 (by kernel_rfl) (by kernel_rfl) (rc := c24) z24 (rs := q24) zr24 (by kernel_rfl) (by rw [hl]; rfl) (by rw [hl]; exact (by decide : 2 ≤ 7)) hn hm h
/- 8 bogie.bogielaw22.head · 0 arguments · kept slots [0, 1, 2, 3, 4, 5] -/
noncomputable def E8 (n m : Nat) : Cfg := ⟨M, [0, 1, 2, 3, 4, 5], 55, n, m, []⟩
noncomputable def C8 : Cfg := E8 0 0
@[reducible] noncomputable def r8_0 : List RO := [
  ⟨.var 0, .mv, [.con (.bool false)], none⟩]
@[reducible] noncomputable def r8_1 : List RO := [
  ⟨.loc 6, .call, [(.con (.fn (.func 23) [] []))], none⟩,
  ⟨.var 1, (.newb [(.lit (.slice none 0 0))]), [], none⟩,
  ⟨.none, .st 1, [.var 1, .loc 6], none⟩]
@[reducible] noncomputable def r8_2 : List RO := [
  ⟨.loc 7, (.mkF (.func 24) 0), [.var 1], none⟩,
  ⟨.var 2, .mv, [.loc 7], none⟩]
@[reducible] noncomputable def r8_3 : List RO := [
  ⟨.loc 8, (.bld [(.int .i64 0), (.str []), (.str []), (.int .i64 0), (.int .i64 0), (.lit (.slice none 0 0))] [(0, 1), (1, 1), (2, 1)]), [.con (.int .i64 7), (.con (.str [98, 97, 116, 99, 104])), (.con (.str [65]))], none⟩,
  ⟨.var 3, (.newb [(.int .i64 0), (.str []), (.str []), (.int .i64 0), (.int .i64 0), (.lit (.slice none 0 0))]), [], none⟩,
  ⟨.none, .st 6, [.var 3, .loc 8], none⟩]
@[reducible] noncomputable def r8_4 : List RO := [
  ⟨.loc 9, .mv, [.var 2], none⟩,
  ⟨.loc 10, .call, [(.con (.fn (.func 25) [] [])), .con (.int .i64 100), .con (.int .i64 0)], none⟩,
  ⟨.loc 11, .call, [.loc 9, .loc 10], none⟩,
  ⟨.loc 12, .bin .eql, [.loc 11, .con (.int .i64 1)], none⟩,
  ⟨.loc 13, .mv, [.loc 12], none⟩,
  ⟨.loc 14, .mv, [.var 2], (some (.loc 13, true))⟩,
  ⟨.loc 15, .call, [(.con (.fn (.func 25) [] [])), .con (.int .i64 100), .con (.int .i64 10)], (some (.loc 13, true))⟩,
  ⟨.loc 16, .call, [.loc 14, .loc 15], (some (.loc 13, true))⟩,
  ⟨.loc 17, .bin .eql, [.loc 16, .con (.int .i64 2)], (some (.loc 13, true))⟩,
  ⟨.loc 18, .pick, [.loc 13, .loc 17, .con (.bool false)], none⟩,
  ⟨.loc 19, .mv, [.loc 18], none⟩,
  ⟨.loc 20, .mv, [.var 2], (some (.loc 19, true))⟩,
  ⟨.loc 21, (.bld [(.int .i64 0), (.str []), (.str []), (.int .i64 0), (.int .i64 0), (.lit (.slice none 0 0))] [(0, 1), (1, 1), (3, 1)]), [.con (.int .i64 6), (.con (.str [107, 109])), .con (.int .i64 89)], (some (.loc 19, true))⟩,
  ⟨.loc 22, .call, [.loc 20, .loc 21], (some (.loc 19, true))⟩,
  ⟨.loc 23, .bin .eql, [.loc 22, .con (.int .i64 2)], (some (.loc 19, true))⟩,
  ⟨.loc 24, .pick, [.loc 19, .loc 23, .con (.bool false)], none⟩,
  ⟨.var 4, .mv, [.loc 24], none⟩]
@[reducible] noncomputable def r8_5 : List RO := [
  ⟨.loc 25, .mv, [.var 2], none⟩,
  ⟨.loc 26, .ld true 6, [.var 3], none⟩,
  ⟨.loc 27, .bsl 6, [.loc 26], none⟩,
  ⟨.loc 28, (.bld [(.int .i64 0), (.str []), (.str []), (.int .i64 0), (.int .i64 0), (.lit (.slice none 0 0))] [(0, 1), (1, 1), (5, 1)]), [.con (.int .i64 11), (.con (.str [119, 104, 101, 101, 108, 115, 101, 116])), .loc 27], none⟩,
  ⟨.loc 29, .call, [.loc 25, .loc 28], none⟩,
  ⟨.loc 30, .bin .eql, [.loc 29, .con (.int .i64 2)], none⟩,
  ⟨.loc 31, .mv, [.loc 30], none⟩,
  ⟨.loc 32, .mv, [.var 2], (some (.loc 31, true))⟩,
  ⟨.loc 33, (.bld [(.int .i64 0), (.str []), (.str []), (.int .i64 0), (.int .i64 0), (.lit (.slice none 0 0))] [(0, 1), (1, 1)]), [.con (.int .i64 8), (.con (.str [98, 97, 116, 99, 104]))], (some (.loc 31, true))⟩,
  ⟨.loc 34, .bsl 6, [.loc 33], (some (.loc 31, true))⟩,
  ⟨.loc 35, (.bld [(.int .i64 0), (.str []), (.str []), (.int .i64 0), (.int .i64 0), (.lit (.slice none 0 0))] [(0, 1), (1, 1), (5, 1)]), [.con (.int .i64 10), (.con (.str [97, 120, 108, 101])), .loc 34], (some (.loc 31, true))⟩,
  ⟨.loc 36, .call, [.loc 32, .loc 35], (some (.loc 31, true))⟩,
  ⟨.loc 37, .bin .eql, [.loc 36, .con (.int .i64 2)], (some (.loc 31, true))⟩,
  ⟨.loc 38, .pick, [.loc 31, .loc 37, .con (.bool false)], none⟩,
  ⟨.var 5, .mv, [.loc 38], none⟩]
@[reducible] noncomputable def r8_6 : List RO := [
  ⟨.loc 39, .mv, [.var 4], none⟩,
  ⟨.loc 40, .mv, [.loc 39], none⟩,
  ⟨.loc 41, .mv, [.var 5], (some (.loc 40, true))⟩,
  ⟨.loc 42, .pick, [.loc 40, .loc 41, .con (.bool false)], none⟩,
  ⟨.loc 43, .mv, [.loc 42], none⟩,
  ⟨.loc 44, .mv, [.var 2], (some (.loc 43, true))⟩,
  ⟨.loc 45, (.bld [(.int .i64 0), (.str []), (.str []), (.int .i64 0), (.int .i64 0), (.lit (.slice none 0 0))] [(0, 1), (1, 1), (3, 1)]), [.con (.int .i64 12), (.con (.str [119, 104, 101, 101, 108, 115, 101, 116])), .con (.int .i64 2)], (some (.loc 43, true))⟩,
  ⟨.loc 46, .call, [.loc 44, .loc 45], (some (.loc 43, true))⟩,
  ⟨.loc 47, .bin .eql, [.loc 46, .con (.int .i64 0)], (some (.loc 43, true))⟩,
  ⟨.loc 48, .pick, [.loc 43, .loc 47, .con (.bool false)], none⟩,
  ⟨.loc 49, .mv, [.loc 48], none⟩,
  ⟨.loc 50, .mv, [.var 2], (some (.loc 49, true))⟩,
  ⟨.loc 51, .ld true 6, [.var 3], (some (.loc 49, true))⟩,
  ⟨.loc 52, .call, [.loc 50, .loc 51], (some (.loc 49, true))⟩,
  ⟨.loc 53, .bin .eql, [.loc 52, .con (.int .i64 0)], (some (.loc 49, true))⟩,
  ⟨.loc 54, .pick, [.loc 49, .loc 53, .con (.bool false)], none⟩,
  ⟨.var 0, .mv, [.loc 54], none⟩]
theorem P8 : C8.M = M := by unfold C8 E8; rfl
theorem i8 : St.init C8 [] ⟨[], []⟩ = ⟨[.undef, .undef, .undef, .undef, .undef, .undef], [], ⟨[], []⟩⟩ := by unfold C8 E8; rfl
noncomputable def c8 : RC := (.seq (.reg r8_0) (.seq (.reg r8_1) (.seq (.reg r8_2) (.seq (.reg r8_3) (.seq (.reg r8_4) (.seq (.reg r8_5) (.seq (.reg r8_6) .ret)))))))
noncomputable def q8 : List RR := [(.slot (.var 0))]
theorem z8 {n m : Nat} : resCode (E8 n m) (Try.f8.body.getD .skip) = some c8 := by kernel_rfl
theorem zr8 {n m : Nat} : resRs (E8 n m) Try.f8.results.toList = some q8 := by kernel_rfl
theorem ok8 {args : List D} {d : D} (hl : args.length = 0) (h : SWp C8 c8 (fun e s => (match e with | .exit _ => False | _ => True) ∧ rrsWp q8 s fun ds => D.closed (oneOrTup ds) = true ∧ (oneOrTup ds).er = d) (St.init C8 args ⟨[], []⟩)) : Pur M 8 args d :=
  pur_of_body (C := C8) (fn := Try.f8) Try.func8 (by kernel_rfl) (by kernel_rfl) (rc := c8) z8 (rs := q8) zr8 (by kernel_rfl) (by rw [hl]; rfl) (by rw [hl]; decide) rfl rfl h
/- 3 bogie.bogielaw22.MeaningLogic · 5 arguments · kept slots [0, 1, 2, 3, 4, 5, 6, 7, 10, 11, 12, 13, 14, 15, 16, 37, 57, 65] -/
/- 4 bogie.bogielaw22.MeaningLimits · 7 arguments · kept slots [0, 1, 2, 3, 4, 5, 6, 7, 14, 15, 16, 17, 18, 19, 20, 21, 22, 69, 108] -/
/- 5 bogie.bogielaw22.MeaningInside · 5 arguments · kept slots [0, 1, 2, 3, 4, 5, 6, 10, 11, 12, 13, 14, 15, 51] -/
/- 6 bogie.bogielaw22.MeaningKnows · 5 arguments · kept slots [0, 1, 2, 3, 4, 5, 6, 7, 10, 11, 12, 13, 14, 15, 35, 41, 81, 89] -/
noncomputable def E6 (n m : Nat) : Cfg := ⟨M, [0, 1, 2, 3, 4, 5, 6, 7, 10, 11, 12, 13, 14, 15, 35, 41, 81, 89], 110, n, m, []⟩
noncomputable def C6 : Cfg := E6 0 0
@[reducible] noncomputable def r6_0 : List RO := [
  ⟨.var 5, .box, [.var 0], none⟩,
  ⟨.var 6, .box, [.var 1], none⟩,
  ⟨.var 7, .box, [.var 2], none⟩,
  ⟨.var 8, .mv, [.con (.bool false)], none⟩]
@[reducible] noncomputable def r6_1 : List RO := [
  ⟨.loc 16, .call, [(.con (.fn (.func 8) [] []))], none⟩,
  ⟨.var 9, .mv, [.loc 16], none⟩]
@[reducible] noncomputable def r6_2 : List RO := [
  ⟨.loc 17, .ld true 1, [.var 5], none⟩,
  ⟨.loc 18, .ld true 6, [.var 7], none⟩,
  ⟨.loc 19, .mv, [.var 3], none⟩,
  ⟨.loc 20, .call, [(.con (.fn (.func 9) [] [])), .loc 17, .loc 18, .loc 19], none⟩,
  ⟨.loc 21, .un .not, [.loc 20], none⟩,
  ⟨.loc 22, .mv, [.loc 21], none⟩,
  ⟨.loc 23, .ld true 1, [.var 6], (some (.loc 22, false))⟩,
  ⟨.loc 24, .call, [(.con (.fn (.func 19) [] [])), .loc 23, .con (.int .i64 12)], (some (.loc 22, false))⟩,
  ⟨.loc 25, .un .not, [.loc 24], (some (.loc 22, false))⟩,
  ⟨.loc 26, .pick, [.loc 22, .con (.bool true), .loc 25], none⟩,
  ⟨.loc 27, .mv, [.loc 26], none⟩,
  ⟨.loc 28, .fld 0, [.var 5], (some (.loc 27, false))⟩,
  ⟨.loc 29, .ld false 1, [.loc 28], (some (.loc 27, false))⟩,
  ⟨.loc 30, .lenL, [.loc 29], (some (.loc 27, false))⟩,
  ⟨.loc 31, .fld 0, [.var 6], (some (.loc 27, false))⟩,
  ⟨.loc 32, .ld false 1, [.loc 31], (some (.loc 27, false))⟩,
  ⟨.loc 33, .lenL, [.loc 32], (some (.loc 27, false))⟩,
  ⟨.loc 34, .bin .neq, [.loc 30, .loc 33], (some (.loc 27, false))⟩,
  ⟨.var 14, .pick, [.loc 27, .con (.bool true), .loc 34], none⟩]
@[reducible] noncomputable def r6_3 : List RO := [
  ⟨.loc 36, .mv, [.var 9], none⟩,
  ⟨.var 8, .mv, [.loc 36], none⟩]
@[reducible] noncomputable def r6_4 : List RO := [
  ⟨.var 10, .mv, [.con (.int .i64 0)], none⟩]
@[reducible] noncomputable def r6_5 : List RO := [
  ⟨.loc 37, .mv, [.var 10], none⟩,
  ⟨.loc 38, .fld 0, [.var 5], none⟩,
  ⟨.loc 39, .ld false 1, [.loc 38], none⟩,
  ⟨.loc 40, .lenL, [.loc 39], none⟩,
  ⟨.var 15, .bin .lss, [.loc 37, .loc 40], none⟩]
@[reducible] noncomputable def r6_6 : List (RO × Bool) := [
  (⟨.loc 44, .fld 0, [.var 6], none⟩, true),
  (⟨.loc 45, .ld false 1, [.loc 44], none⟩, true),
  (⟨.loc 46, .mv, [.var 10], none⟩, true),
  (⟨.loc 47, .ixaS 14, [.loc 45, .loc 46], none⟩, true),
  (⟨.loc 48, .ld true 14, [.loc 47], none⟩, true),
  (⟨.loc 49, .fld 0, [.var 5], none⟩, true),
  (⟨.loc 50, .ld false 1, [.loc 49], none⟩, true),
  (⟨.loc 51, .mv, [.var 10], none⟩, true),
  (⟨.loc 52, .ixaS 14, [.loc 50, .loc 51], none⟩, true),
  (⟨.loc 53, .ld true 14, [.loc 52], none⟩, true),
  (⟨.var 11, (.newb [(.str []), (.str []), (.str []), (.str []), (.int .i64 0), (.int .i64 0), (.bool false), (.lit (.slice none 0 0)), (.int .i64 0), (.int .i64 0), (.int .i64 0), (.int .i64 0), (.int .i64 0), (.int .i64 0)]), [], none⟩, true),
  (⟨.var 12, (.newb [(.str []), (.str []), (.str []), (.str []), (.int .i64 0), (.int .i64 0), (.bool false), (.lit (.slice none 0 0)), (.int .i64 0), (.int .i64 0), (.int .i64 0), (.int .i64 0), (.int .i64 0), (.int .i64 0)]), [], none⟩, true),
  (⟨.none, .st 14, [.var 11, .loc 48], none⟩, true)]
@[reducible] noncomputable def r6_7 : List RO := [
  ⟨.none, .st 14, [.var 12, .loc 53], none⟩]
@[reducible] noncomputable def r6_8 : List RO := [
  ⟨.loc 54, .fld 8, [.var 11], none⟩,
  ⟨.loc 55, .fld 0, [.loc 54], none⟩,
  ⟨.loc 56, .ld true 2, [.loc 55], none⟩,
  ⟨.loc 57, .fld 8, [.var 12], none⟩,
  ⟨.loc 58, .fld 0, [.loc 57], none⟩,
  ⟨.loc 59, .ld true 2, [.loc 58], none⟩,
  ⟨.loc 60, .call, [(.con (.fn (.func 20) [] [])), .loc 56, .loc 59], none⟩,
  ⟨.loc 61, .un .not, [.loc 60], none⟩,
  ⟨.loc 62, .mv, [.loc 61], none⟩,
  ⟨.loc 63, .fld 8, [.var 11], (some (.loc 62, false))⟩,
  ⟨.loc 64, .fld 2, [.loc 63], (some (.loc 62, false))⟩,
  ⟨.loc 65, .ld true 2, [.loc 64], (some (.loc 62, false))⟩,
  ⟨.loc 66, .fld 8, [.var 12], (some (.loc 62, false))⟩,
  ⟨.loc 67, .fld 2, [.loc 66], (some (.loc 62, false))⟩,
  ⟨.loc 68, .ld true 2, [.loc 67], (some (.loc 62, false))⟩,
  ⟨.loc 69, .call, [(.con (.fn (.func 20) [] [])), .loc 65, .loc 68], (some (.loc 62, false))⟩,
  ⟨.loc 70, .un .not, [.loc 69], (some (.loc 62, false))⟩,
  ⟨.loc 71, .pick, [.loc 62, .con (.bool true), .loc 70], none⟩,
  ⟨.loc 72, .mv, [.loc 71], none⟩,
  ⟨.loc 73, .fld 8, [.var 11], (some (.loc 72, false))⟩,
  ⟨.loc 74, .fld 4, [.loc 73], (some (.loc 72, false))⟩,
  ⟨.loc 75, .ld true 2, [.loc 74], (some (.loc 72, false))⟩,
  ⟨.loc 76, .fld 8, [.var 12], (some (.loc 72, false))⟩,
  ⟨.loc 77, .fld 4, [.loc 76], (some (.loc 72, false))⟩,
  ⟨.loc 78, .ld true 2, [.loc 77], (some (.loc 72, false))⟩,
  ⟨.loc 79, .call, [(.con (.fn (.func 20) [] [])), .loc 75, .loc 78], (some (.loc 72, false))⟩,
  ⟨.loc 80, .un .not, [.loc 79], (some (.loc 72, false))⟩,
  ⟨.var 16, .pick, [.loc 72, .con (.bool true), .loc 80], none⟩]
@[reducible] noncomputable def r6_9 : List RO := [
  ⟨.loc 82, .mv, [.var 9], none⟩,
  ⟨.var 8, .mv, [.loc 82], none⟩]
@[reducible] noncomputable def r6_10 : List RO := [
  ⟨.loc 83, .fld 8, [.var 12], none⟩,
  ⟨.loc 84, .ld true 6, [.loc 83], none⟩,
  ⟨.loc 85, .fld 8, [.var 11], none⟩,
  ⟨.none, .st 6, [.loc 85, .loc 84], none⟩]
@[reducible] noncomputable def r6_11 : List RO := [
  ⟨.loc 86, .ld true 14, [.var 11], none⟩,
  ⟨.loc 87, .ld true 14, [.var 12], none⟩,
  ⟨.loc 88, .call, [(.con (.fn (.func 21) [] [])), .loc 86, .loc 87], none⟩,
  ⟨.var 17, .un .not, [.loc 88], none⟩]
@[reducible] noncomputable def r6_12 : List RO := [
  ⟨.loc 90, .mv, [.var 9], none⟩,
  ⟨.var 8, .mv, [.loc 90], none⟩]
@[reducible] noncomputable def r6_13 : List RO := [
  ⟨.loc 42, .mv, [.var 10], none⟩,
  ⟨.loc 43, .bin .add, [.loc 42, .con (.int .i64 1)], none⟩,
  ⟨.var 10, .mv, [.loc 43], none⟩]
@[reducible] noncomputable def r6_14 : List RO := [
  ⟨.loc 91, .ld true 1, [.var 5], none⟩,
  ⟨.loc 92, .ld true 6, [.var 7], none⟩,
  ⟨.loc 93, .mv, [.var 3], none⟩,
  ⟨.loc 94, .mv, [.var 4], none⟩,
  ⟨.loc 95, .call, [(.con (.fn (.func 12) [] [])), .loc 91, .loc 92, .loc 93, .loc 94], none⟩,
  ⟨.var 13, .mv, [.loc 95], none⟩]
@[reducible] noncomputable def r6_15 : List RO := [
  ⟨.loc 96, .mv, [.var 9], none⟩,
  ⟨.loc 97, .mv, [.loc 96], none⟩,
  ⟨.loc 98, .mv, [.var 13], (some (.loc 97, true))⟩,
  ⟨.loc 99, .bin .eql, [.loc 98, .con (.int .i64 1)], (some (.loc 97, true))⟩,
  ⟨.loc 100, .mv, [.loc 99], (some (.loc 97, true))⟩,
  ⟨.loc 101, .ld true 1, [.var 6], (some (.loc 100, false))⟩,
  ⟨.loc 102, .ld true 6, [.var 7], (some (.loc 100, false))⟩,
  ⟨.loc 103, .mv, [.var 3], (some (.loc 100, false))⟩,
  ⟨.loc 104, .mv, [.var 4], (some (.loc 100, false))⟩,
  ⟨.loc 105, .call, [(.con (.fn (.func 12) [] [])), .loc 101, .loc 102, .loc 103, .loc 104], (some (.loc 100, false))⟩,
  ⟨.loc 106, .mv, [.var 13], (some (.loc 100, false))⟩,
  ⟨.loc 107, .bin .eql, [.loc 105, .loc 106], (some (.loc 100, false))⟩,
  ⟨.loc 108, .pick, [.loc 100, .con (.bool true), .loc 107], (some (.loc 97, true))⟩,
  ⟨.loc 109, .pick, [.loc 97, .loc 108, .con (.bool false)], none⟩,
  ⟨.var 8, .mv, [.loc 109], none⟩]
theorem P6 : C6.M = M := by unfold C6 E6; rfl
theorem i6 {a0 a1 a2 a3 a4 : D} : St.init C6 [a0, a1, a2, a3, a4] ⟨[], []⟩ = ⟨[a0, a1, a2, a3, a4, .undef, .undef, .undef, .undef, .undef, .undef, .undef, .undef, .undef, .undef, .undef, .undef, .undef], [], ⟨[], []⟩⟩ := by unfold C6 E6; rfl
noncomputable def c6 : RC := (.seq (.reg r6_0) (.seq (.reg r6_1) (.seq (.seq (.reg r6_2) (.cond (.var 14) (.seq (.reg r6_3) .ret) .skip)) (.seq (.seq (.reg r6_4) (.block 0 (.loop (.seq (.seq (.reg r6_5) (.cond (.var 15) .skip (.exit 0))) (.seq (.block 1 (.seq (.regD r6_6 r6_7) (.seq (.seq (.reg r6_8) (.cond (.var 16) (.seq (.reg r6_9) .ret) .skip)) (.seq (.reg r6_10) (.seq (.reg r6_11) (.cond (.var 17) (.seq (.reg r6_12) .ret) .skip)))))) (.reg r6_13)))))) (.seq (.reg r6_14) (.seq (.reg r6_15) .ret))))))
noncomputable def q6 : List RR := [(.slot (.var 8))]
theorem z6 {n m : Nat} : resCode (E6 n m) (Try.f6.body.getD .skip) = some c6 := by kernel_rfl
theorem zr6 {n m : Nat} : resRs (E6 n m) Try.f6.results.toList = some q6 := by kernel_rfl
theorem ok6 {args : List D} {d : D} (hl : args.length = 5) (h : SWp C6 c6 (fun e s => (match e with | .exit _ => False | _ => True) ∧ rrsWp q6 s fun ds => D.closed (oneOrTup ds) = true ∧ (oneOrTup ds).er = d) (St.init C6 args ⟨[], []⟩)) : Pur M 6 args d :=
  pur_of_body (C := C6) (fn := Try.f6) Try.func6 (by kernel_rfl) (by kernel_rfl) (rc := c6) z6 (rs := q6) zr6 (by kernel_rfl) (by rw [hl]; rfl) (by rw [hl]; decide) rfl rfl h
/- 7 bogie.bogielaw22.MeaningExact · 4 arguments · kept slots [0, 1, 2, 3, 4, 5, 8, 9, 10, 11, 12, 18, 24, 48] -/
end Go.Proofs.Ytcchbohfcmfmlaa
end
section
set_option linter.unusedSimpArgs false
set_option linter.unusedVariables false
namespace Go.Proofs.Ytcchbohfcmfmlaa
open Go GoV
abbrev Tx := List UInt8
inductive X where
  | mk (op : Int) (name value : Tx) (n extra : Int) (kids : List X)
instance : Inhabited X := ⟨.mk 0 [] [] 0 0 []⟩
structure Pt where
  name : Tx
  kind : Tx
  into : Tx
  slot : Tx
  made : Int
  since : Int
  scr : Bool
  props : List (Tx × Tx)
  km : Int × Int
  cy : Int × Int
  dm : Int × Int
instance : Inhabited Pt := ⟨⟨[], [], [], [], 0, 0, false, [], (0, 0), (0, 0), (0, 0)⟩⟩
mutual
def X.nodes : X → Nat
  | .mk _ _ _ _ _ ks => 1 + X.nodesL ks
def X.nodesL : List X → Nat
  | [] => 0
  | k :: ks => k.nodes + X.nodesL ks
end
/-! ### Texts in order -/

abbrev lt (a b : Tx) : Bool := Op.bytesLess a b
theorem lt_irr : ∀ a : Tx, lt a a = false
  | [] => rfl
  | a :: x => by
    have h : ¬ a < a := UInt8.lt_irrefl a
    simp [lt, Op.bytesLess, h]
    exact lt_irr x
theorem lt_trans : ∀ {a b c : Tx}, lt a b = true → lt b c = true → lt a c = true
  | _, [], _, h, _ => by simp [lt, Op.bytesLess] at h
  | _, _ :: _, [], _, h => by simp [lt, Op.bytesLess] at h
  | [], _ :: _, _ :: _, _, _ => by simp [lt, Op.bytesLess]
  | a :: x, b :: y, c :: z, h, g => by
    simp only [lt, Op.bytesLess, Bool.or_eq_true, Bool.and_eq_true, decide_eq_true_eq, beq_iff_eq] at h g ⊢
    rcases h with h | ⟨rfl, h⟩ <;> rcases g with g | ⟨rfl, g⟩
    · exact .inl (UInt8.lt_trans h g)
    · exact .inl h
    · exact .inl g
    · exact .inr ⟨rfl, lt_trans h g⟩
theorem lt_tri : ∀ {a b : Tx}, lt a b = false → lt b a = false → a = b
  | [], [], _, _ => rfl
  | [], _ :: _, h, _ => by simp [lt, Op.bytesLess] at h
  | _ :: _, [], _, h => by simp [lt, Op.bytesLess] at h
  | a :: x, b :: y, h, g => by
    simp only [lt, Op.bytesLess, Bool.or_eq_false_iff, Bool.and_eq_false_iff, decide_eq_false_iff_not, beq_eq_false_iff_ne] at h g
    have e : a = b := by
      have h1 := h.1; have h2 := g.1
      exact UInt8.le_antisymm (UInt8.not_lt.1 h2) (UInt8.not_lt.1 h1)
    subst e
    rw [lt_tri (h.2.resolve_left (by simp)) (g.2.resolve_left (by simp))]
def Srt : List Tx → Prop
  | [] => True
  | a :: r => (∀ b ∈ r, lt b a = false) ∧ Srt r
theorem srt_unique : ∀ {l m : List Tx}, Srt l → Srt m → l.Perm m → l = m
  | [], m, _, _, h => (List.Perm.nil_eq h)
  | a :: l, [], _, _, h => absurd h.length_eq (by simp)
  | a :: l, b :: m, h1, h2, h => by
    have e : a = b := by
      have ha : a ∈ b :: m := h.mem_iff.1 (by simp)
      have hb : b ∈ a :: l := h.mem_iff.2 (by simp)
      rcases List.mem_cons.1 ha with q | q
      · exact q
      · rcases List.mem_cons.1 hb with p | p
        · exact p.symm
        · exact lt_tri (h2.1 a q) (h1.1 b p)
    subst e
    rw [srt_unique h1.2 h2.2 (List.Perm.cons_inv h)]
def sink : Nat → List Tx → List Tx
  | 0, L => L
  | j + 1, L => if lt (L.getD (j + 1) []) (L.getD j []) then sink j ((L.set (j + 1) (L.getD j [])).set j (L.getD (j + 1) [])) else L
def isortN (L : List Tx) : Nat → List Tx
  | 0 => L
  | i + 1 => sink (i + 1) (isortN L i)
theorem sink_len : ∀ (j : Nat) (L : List Tx), (sink j L).length = L.length
  | 0, L => rfl
  | j + 1, L => by
    simp only [sink]
    split
    · rw [sink_len j]; simp
    · rfl
theorem isortN_len (L : List Tx) : ∀ i, (isortN L i).length = L.length
  | 0 => rfl
  | i + 1 => by rw [isortN, sink_len, isortN_len L i]
def insB (x : Tx) : List Tx → List Tx
  | [] => [x]
  | y :: ys => if lt x y then x :: y :: ys else y :: insB x ys
def isort : List Tx → List Tx
  | [] => []
  | x :: xs => insB x (isort xs)
theorem insB_perm (x : Tx) : ∀ l, (insB x l).Perm (x :: l)
  | [] => List.Perm.refl _
  | y :: ys => by
    simp only [insB]
    split
    · exact List.Perm.refl _
    · exact ((insB_perm x ys).cons y).trans (List.Perm.swap x y ys)
theorem insB_srt {x : Tx} : ∀ {l}, Srt l → Srt (insB x l)
  | [], _ => ⟨by simp, trivial⟩
  | y :: ys, h => by
    simp only [insB]
    split
    · rename_i hxy
      refine ⟨fun b hb => ?_, h⟩
      rcases List.mem_cons.1 hb with q | q
      · subst q
        cases e : lt b x with
        | false => rfl
        | true => have := lt_trans hxy e; rw [lt_irr] at this; cases this
      · cases e : lt b x with
        | false => rfl
        | true => have h1 := h.1 b q; have := lt_trans e hxy; rw [h1] at this; cases this
    · rename_i hxy
      refine ⟨fun b hb => ?_, insB_srt h.2⟩
      rcases List.mem_cons.1 ((insB_perm x ys).mem_iff.1 hb) with q | q
      · subst q; simpa using hxy
      · exact h.1 b q
theorem isort_perm : ∀ l, (isort l).Perm l
  | [] => List.Perm.refl _
  | x :: xs => (insB_perm x _).trans ((isort_perm xs).cons x)
theorem isort_srt : ∀ l, Srt (isort l)
  | [] => trivial
  | x :: xs => insB_srt (isort_srt xs)
theorem isort_eq {l m : List Tx} (h : l.Perm m) : isort l = isort m :=
  srt_unique (isort_srt l) (isort_srt m) ((isort_perm l).trans (h.trans (isort_perm m).symm))
theorem srt_app : ∀ {l m : List Tx}, Srt (l ++ m) ↔ Srt l ∧ Srt m ∧ ∀ a ∈ l, ∀ b ∈ m, lt b a = false
  | [], m => by simp [Srt]
  | x :: l, m => by
    simp only [List.cons_append, Srt, srt_app (l := l) (m := m), List.mem_append, List.mem_cons]
    constructor
    · rintro ⟨h1, h2, h3, h4⟩
      exact ⟨⟨fun b hb => h1 b (.inl hb), h2⟩, h3, fun a ha b hb => by
        rcases ha with q | q
        · subst q; exact h1 b (.inr hb)
        · exact h4 a q b hb⟩
    · rintro ⟨⟨h1, h2⟩, h3, h4⟩
      exact ⟨fun b hb => hb.elim (h1 b) (h4 x (.inl rfl) b), h2, h3, fun a ha b hb => h4 a (.inr ha) b hb⟩
theorem sink_at : ∀ (A : List Tx) (x : Tx) (B : List Tx), Srt A → ∃ A', sink A.length (A ++ x :: B) = A' ++ B ∧ Srt A' ∧ A'.Perm (A ++ [x])
  | A, x, B, h => by
    rcases List.eq_nil_or_concat A with rfl | ⟨A0, y, rfl⟩
    · exact ⟨[x], rfl, ⟨by simp, trivial⟩, List.Perm.refl _⟩
    · rw [List.concat_eq_append] at h ⊢
      have hl : (A0 ++ [y]).length = A0.length + 1 := by simp
      rw [hl]
      have g0 : ((A0 ++ [y]) ++ x :: B).getD A0.length [] = y := by simp [List.getD]
      have g1 : ((A0 ++ [y]) ++ x :: B).getD (A0.length + 1) [] = x := by
        rw [List.getD, List.getElem?_append_right (by simp)]; simp
      simp only [sink, g0, g1]
      obtain ⟨h1, h2, h3⟩ := srt_app.1 h
      by_cases hxy : lt x y = true
      · rw [if_pos hxy]
        have e : ((((A0 ++ [y]) ++ x :: B).set (A0.length + 1) y).set A0.length x) = A0 ++ x :: (y :: B) := by
          rw [List.set_append_right _ _ (by simp)]
          simp
        rw [e]
        have dec : A0.length < (A0 ++ [y]).length := by simp
        obtain ⟨A', q1, q2, q3⟩ := sink_at A0 x (y :: B) h1
        refine ⟨A' ++ [y], by rw [q1]; simp, srt_app.2 ⟨q2, ⟨by simp, trivial⟩, fun a ha b hb => ?_⟩, ?_⟩
        · simp at hb; subst hb
          rcases List.mem_append.1 (q3.mem_iff.1 ha) with p | p
          · exact h3 a p b (by simp)
          · simp at p; subst p
            cases e : lt b a with
            | false => rfl
            | true => have := lt_trans hxy e; rw [lt_irr] at this; cases this
        · refine (q3.append_right [y]).trans ?_
          rw [List.append_assoc, List.append_assoc]
          exact (List.Perm.swap y x []).append_left A0
      · rw [if_neg hxy]
        refine ⟨A0 ++ [y] ++ [x], by simp, srt_app.2 ⟨h, ⟨by simp, trivial⟩, fun a ha b hb => ?_⟩, List.Perm.refl _⟩
        simp at hb; subst hb
        have hxy' : lt b y = false := by simpa using hxy
        rcases List.mem_append.1 ha with p | p
        · cases e : lt b a with
          | false => rfl
          | true =>
            cases e2 : lt y b with
            | true => have := lt_trans e2 e; rw [h3 a p y (by simp)] at this; cases this
            | false =>
              have := lt_tri hxy' e2
              subst this
              rw [h3 a p b (by simp)] at e; cases e
        · simp at p; subst p; exact hxy'
termination_by A => A.length
theorem isortN_spec (L : List Tx) : ∀ i, i < L.length → ∃ A B, isortN L i = A ++ B ∧ A.length = i + 1 ∧ Srt A ∧ B = L.drop (i + 1) ∧ A.Perm (L.take (i + 1))
  | 0, h => by
    cases L with
    | nil => simp at h
    | cons x r => exact ⟨[x], r, rfl, rfl, ⟨by simp, trivial⟩, rfl, List.Perm.refl _⟩
  | i + 1, h => by
    obtain ⟨A, B, h1, h2, h3, h4, h5⟩ := isortN_spec L i (by omega)
    rw [List.drop_eq_getElem_cons h] at h4
    obtain ⟨A', q1, q2, q3⟩ := sink_at A L[i + 1] (L.drop (i + 1 + 1)) h3
    refine ⟨A', _, ?_, ?_, q2, rfl, ?_⟩
    · rw [isortN, h1, h4, show sink (i + 1) = sink A.length by rw [h2]]; exact q1
    · rw [q3.length_eq]; simp [h2]
    · refine q3.trans ?_
      have : L.take (i + 1 + 1) = L.take (i + 1) ++ [L[i + 1]] := by rw [List.take_succ_eq_append_getElem h]
      rw [this]
      exact h5.append_right _
theorem isortN_eq (L : List Tx) : isortN L (L.length - 1) = isort L := by
  rcases Nat.eq_zero_or_pos L.length with h | h
  · have : L = [] := List.eq_nil_of_length_eq_zero h
    subst this; rfl
  · obtain ⟨A, B, h1, h2, h3, h4, h5⟩ := isortN_spec L (L.length - 1) (by omega)
    have e : L.length - 1 + 1 = L.length := by omega
    rw [e] at h4 h5
    simp at h4 h5
    subst h4
    rw [h1, List.append_nil]
    exact srt_unique h3 (isort_srt L) (h5.trans (isort_perm L).symm)
/-! ### What is inside -/

def getP (s : List Pt) (name : Tx) : Option Pt := s.find? fun p => p.name == name
def rootN (s : List Pt) : Nat → Tx → Tx
  | 0, _ => []
  | k + 1, part => match getP s part with
    | none => []
    | some p => if p.into = [] then part else rootN s k p.into
def root (s : List Pt) (part : Tx) : Tx := rootN s s.length part
def firsts (seen : List Tx) : List Pt → List Pt
  | [] => []
  | p :: ps => if seen.contains p.name then firsts seen ps else p :: firsts (seen ++ [p.name]) ps
def fitted (s : List Pt) (part : Tx) : List (Tx × Tx) := ((firsts [] s).filter fun p => !(p.into == []) && !(p.name == part)).map fun p => (p.name, p.into)
def bfs : Nat → List (Tx × Tx) → List Tx → List Tx
  | 0, _, _ => []
  | k + 1, rest, list =>
    if list = [] then [] else
      (rest.filter fun r => list.contains r.2).map (·.1) ++ bfs k (rest.filter fun r => !list.contains r.2) ((rest.filter fun r => list.contains r.2).map (·.1))
def insideF (s : List Pt) (part : Tx) : List Tx :=
  match getP s part with
  | none => []
  | some _ => isort (bfs ((fitted s part).length + 2) (fitted s part) [part])
theorem bfs_perm : ∀ (k : Nat) {r r' : List (Tx × Tx)} {l l' : List Tx}, r.Perm r' → l.Perm l' → (bfs k r l).Perm (bfs k r' l')
  | 0, _, _, _, _, _, _ => List.Perm.refl _
  | k + 1, r, r', l, l', h, g => by
    have hc : ∀ x : Tx, l.contains x = l'.contains x := fun x => by
      rw [Bool.eq_iff_iff]; simp [g.mem_iff]
    have hf : (fun r : Tx × Tx => l.contains r.2) = fun r => l'.contains r.2 := by funext x; exact hc _
    have hf' : (fun r : Tx × Tx => !l.contains r.2) = fun r => !l'.contains r.2 := by funext x; rw [hc]
    simp only [bfs, hf, hf']
    have hn : l = [] ↔ l' = [] := by
      constructor
      · rintro rfl; exact List.Perm.nil_eq g |>.symm
      · rintro rfl; exact List.Perm.eq_nil g
    by_cases e : l = []
    · rw [if_pos e, if_pos (hn.1 e)]
    · rw [if_neg e, if_neg (fun q => e (hn.2 q))]
      exact ((h.filter _).map _).append (bfs_perm k (h.filter _) ((h.filter _).map _))
theorem filt_len {α : Type} (q : α → Bool) : ∀ l : List α, (l.filter q).length + (l.filter fun x => !q x).length = l.length
  | [] => rfl
  | x :: l => by
    have := filt_len q l
    by_cases h : q x = true
    · simp [h]; omega
    · simp [h]; omega
/-! ### Truth, intervals, lives -/

def trN (a : Int) : Int := if a = 0 ∨ a = 2 then a else 1
def notT (a : Int) : Int := 2 - trN a
def andT (a b : Int) : Int := if trN b < trN a then trN b else trN a
def orT (a b : Int) : Int := if trN b > trN a then trN b else trN a
def valI (i : Int × Int) : Bool := decide (-1000000000000 ≤ i.1) && decide (i.1 ≤ i.2) && decide (i.2 ≤ 1000000000000)
def overT (i : Int × Int) (n : Int) : Int := if valI i = false ∨ i.2 ≤ n then 0 else if i.1 > n then 2 else 1
def kKm : Tx := [107, 109]
def kCy : Tx := [99, 121, 99, 108, 101, 115]
def kDm : Tx := [100, 97, 109, 97, 103, 101]
def kDays : Tx := [100, 97, 121, 115]
def kAge : Tx := [97, 103, 101]
def sinceF (day frm : Int) : Int × Int := if frm ≥ day then (0, 0) else
  (day - (if day - 1000000000000 > frm then day - 1000000000000 else frm), day - (if day - 1000000000000 > frm then day - 1000000000000 else frm))
def lifeV (p : Pt) (cur : Tx) (day : Int) : Option (Int × Int) :=
  if day < 0 ∨ day > 40000 then none
  else if cur = kKm then some p.km else if cur = kCy then some p.cy else if cur = kDm then some p.dm
  else if cur = kDays then some (sinceF day p.since) else if cur = kAge then some (sinceF day p.made) else none
/-! ### What holds -/

def find0 (s : List Pt) (name : Tx) : Pt := (getP s name).getD default
def truthF (b : Bool) : Int := if b then 2 else 0
def kindsIn (s : List Pt) (part kind : Tx) : List Tx := (insideF s part).filter fun m => (find0 s m).kind == kind
def askN (s : List Pt) (day : Int) (op : Int) (name value : Tx) (n extra : Int) (ks : List (Tx → Int)) (part : Tx) : Int :=
  if op = 1 then 2
  else if op = 2 then notT (ks.headD (fun _ => 0) part)
  else if op = 3 then ks.foldl (fun a k => andT a (k part)) 2
  else if op = 4 then ks.foldl (fun a k => orT a (k part)) 0
  else if op = 5 then (match lifeV (find0 s part) name day with | none => 0 | some v => notT (overT v (n + extra)))
  else if op = 6 then (match lifeV (find0 s part) name day with | none => 0 | some v => overT v n)
  else if op = 7 then truthF ((find0 s part).props.contains (name, value))
  else if op = 8 then truthF ((find0 s part).props.any fun x => x.1 == name)
  else if op = 9 then truthF (s.any fun q => q.into == part && q.slot == name && q.kind == value)
  else if op = 10 then (kindsIn s part name).foldl (fun a m => andT a (ks.headD (fun _ => 0) m)) 2
  else if op = 11 then (kindsIn s part name).foldl (fun a m => orT a (ks.headD (fun _ => 0) m)) 0
  else truthF (decide (((kindsIn s part name).length : Int) ≥ n))
mutual
def ask (s : List Pt) (day : Int) : X → Tx → Int
  | .mk op name value n extra ks, part => askN s day op name value n extra (askL s day ks) part
def askL (s : List Pt) (day : Int) : List X → List (Tx → Int)
  | [] => []
  | k :: ks => ask s day k :: askL s day ks
end
/-! ### Validity -/

def isLet (c : UInt8) : Bool := (decide (97 ≤ c) && decide (c ≤ 122)) || (decide (65 ≤ c) && decide (c ≤ 90))
def isDig (c : UInt8) : Bool := decide (48 ≤ c) && decide (c ≤ 57)
def nameOk (s : Tx) : Bool :=
  (match s with | [] => false | c :: r => isLet c && r.all fun c => isLet c || isDig c || c == 95) && decide (s.length ≤ 24)
def words : List Tx := [[116, 114, 117, 101], [110, 111, 116], [97, 110, 100], [111, 114], [108, 105, 109, 105, 116], [111, 118, 101, 114], [104, 97, 115], [115, 108, 111, 116], [97, 108, 108], [97, 110, 121], [97, 116]]
def numOk (n low : Int) : Bool := decide (n ≥ low) && decide (n ≤ 9999999)
def nodeOk (op : Int) (name value : Tx) (n extra : Int) (k : Nat) : Bool :=
  if op = 1 then k == 0 && name == [] && value == [] && n == 0 && extra == 0
  else if op = 2 then k == 1 && name == [] && value == [] && n == 0 && extra == 0
  else if op = 3 ∨ op = 4 then decide (1 < k) && name == [] && value == [] && n == 0 && extra == 0
  else if op = 5 then numOk n 0 && numOk extra 0 && nameOk name && k == 0 && value == []
  else if op = 6 then numOk n 0 && nameOk name && k == 0 && value == [] && extra == 0
  else if op = 7 then !(value == []) && decide (value.length ≤ 200) && !words.contains name && nameOk name && k == 0 && n == 0 && extra == 0
  else if op = 8 then nameOk name && k == 0 && value == [] && n == 0 && extra == 0
  else if op = 9 then nameOk value && nameOk name && k == 0 && n == 0 && extra == 0
  else if op = 10 ∨ op = 11 then nameOk name && k == 1 && value == [] && n == 0 && extra == 0
  else if op = 12 then numOk n 1 && nameOk name && k == 0 && value == [] && extra == 0
  else false
mutual
def well : X → Bool
  | .mk op name value n extra ks => nodeOk op name value n extra ks.length && wellL ks
def wellL : List X → Bool
  | [] => true
  | k :: ks => well k && wellL ks
end
def validF (x : X) : Bool := decide (x.nodes ≤ 60) && well x
def holdsF (s : List Pt) (x : X) (part : Tx) (day : Int) : Int :=
  if validF x = false ∨ root s part = [] then 0 else ask s day x part
end Go.Proofs.Ytcchbohfcmfmlaa
end
section
set_option linter.unusedSimpArgs false
set_option linter.unusedVariables false
namespace Go.Proofs.Ytcchbohfcmfmlaa
open Go GoV
theorem trN_cases (a : Int) : trN a = 0 ∨ trN a = 1 ∨ trN a = 2 := by unfold trN; split <;> omega
def T3 (a : Int) : Prop := a = 0 ∨ a = 1 ∨ a = 2
theorem trN_of {a : Int} (h : T3 a) : trN a = a := by unfold T3 at h; unfold trN; split <;> omega
theorem nodes_pos (x : X) : 1 ≤ x.nodes := by cases x; simp only [X.nodes]; omega
/-! ### Their logic -/

abbrev neg (a : X) : X := .mk 2 [] [] 0 0 [a]
/-! ### Limits -/

abbrev lim (cur : Tx) (n extra : Int) : X := .mk 5 cur [] n extra []
def known (cur : Tx) : Bool := cur == kKm || cur == kCy || cur == kDm || cur == kDays || cur == kAge
theorem lifeV_none {p : Pt} {cur : Tx} {day : Int} (h : known cur = false ∨ day < 0 ∨ day > 40000) : lifeV p cur day = none := by
  unfold lifeV
  by_cases hd : day < 0 ∨ day > 40000
  · rw [if_pos hd]
  · rw [if_neg hd]
    have hk : known cur = false := by rcases h with h | h; exact h; exact absurd h hd
    simp only [known, Bool.or_eq_false_iff, beq_eq_false_iff_ne] at hk
    simp [hk.1.1.1.1, hk.1.1.1.2, hk.1.1.2, hk.1.2, hk.2]
/-! ### Inside -/

/-! ### Exact lives -/

def exactI (i : Int × Int) : Bool := decide (i.1 ≥ i.2)
def exactP (p : Pt) : Bool := exactI p.km && exactI p.cy && exactI p.dm
def T2 (a : Int) : Prop := a = 0 ∨ a = 2
theorem t2_t3 {a : Int} (h : T2 a) : T3 a := by unfold T2 at h; unfold T3; omega
theorem t2_not {a : Int} (h : T2 a) : T2 (notT a) := by have := trN_of (t2_t3 h); unfold T2 at *; unfold notT; omega
theorem t2_and {a b : Int} (h : T2 a) (g : T2 b) : T2 (andT a b) := by
  have h1 := trN_of (t2_t3 h); have h2 := trN_of (t2_t3 g); unfold andT; rw [h1, h2]; split <;> assumption
theorem t2_or {a b : Int} (h : T2 a) (g : T2 b) : T2 (orT a b) := by
  have h1 := trN_of (t2_t3 h); have h2 := trN_of (t2_t3 g); unfold orT; rw [h1, h2]; split <;> assumption
theorem t2_truth (b : Bool) : T2 (truthF b) := by unfold T2 truthF; split <;> omega
theorem t2_over {i : Int × Int} (h : exactI i = true) (n : Int) : T2 (overT i n) := by
  simp only [exactI, decide_eq_true_eq] at h
  unfold T2 overT
  split
  · exact .inl rfl
  · rename_i q
    split
    · exact .inr rfl
    · omega
theorem t2_ite {c : Prop} [Decidable c] {a b : Int} (h : T2 a) (g : T2 b) : T2 (if c then a else b) := by split; exact h; exact g
theorem t2_fold {α : Type} (f : Int → Int → Int) (hf : ∀ {a b}, T2 a → T2 b → T2 (f a b)) (g : α → Int) : ∀ (l : List α) (a : Int), (∀ x ∈ l, T2 (g x)) → T2 a → T2 (l.foldl (fun a k => f a (g k)) a)
  | [], a, _, h => h
  | x :: l, a, hl, h => t2_fold f hf g l _ (fun y hy => hl y (by simp [hy])) (hf h (hl x (by simp)))
theorem exact_since (day frm : Int) : exactI (sinceF day frm) = true := by
  unfold sinceF exactI
  split <;> simp
theorem exact_find {s : List Pt} (h : ∀ p ∈ s, exactP p = true) (name : Tx) : exactP (find0 s name) = true := by
  unfold find0 getP
  cases e : s.find? fun p => p.name == name with
  | none => rfl
  | some p => exact h p (List.mem_of_find?_eq_some e)
theorem exact_life {p : Pt} (h : exactP p = true) {cur : Tx} {day : Int} {v : Int × Int} (hv : lifeV p cur day = some v) : exactI v = true := by
  simp only [exactP, Bool.and_eq_true] at h
  unfold lifeV at hv
  repeat' split at hv
  all_goals first
    | (cases hv; done)
    | (simp only [Option.some.injEq] at hv; subst hv; first | exact h.1.1 | exact h.1.2 | exact h.2 | exact exact_since _ _)
theorem t2_askN {s : List Pt} (hs : ∀ p ∈ s, exactP p = true) (day op : Int) (name value : Tx) (n extra : Int) {ks : List (Tx → Int)} (hk : ∀ k ∈ ks, ∀ m, T2 (k m)) (part : Tx) : T2 (askN s day op name value n extra ks part) := by
  have h2 : T2 2 := .inr rfl
  have h0 : T2 0 := .inl rfl
  have hd : ∀ m, T2 (ks.headD (fun _ => 0) m) := fun m => by
    cases ks with
    | nil => exact h0
    | cons k ks => exact hk k (by simp) m
  unfold askN
  refine t2_ite h2 (t2_ite (t2_not (hd _)) (t2_ite (t2_fold andT t2_and _ _ _ (fun k h => hk k h _) h2) (t2_ite (t2_fold orT t2_or _ _ _ (fun k h => hk k h _) h0) (t2_ite ?_ (t2_ite ?_ (t2_ite (t2_truth _) (t2_ite (t2_truth _) (t2_ite (t2_truth _)
    (t2_ite (t2_fold andT t2_and _ _ _ (fun m _ => hd m) h2) (t2_ite (t2_fold orT t2_or _ _ _ (fun m _ => hd m) h0) (t2_truth _)))))))))))
  · cases e : lifeV (find0 s part) name day with
    | none => exact h0
    | some v => exact t2_not (t2_over (exact_life (exact_find hs part) e) _)
  · cases e : lifeV (find0 s part) name day with
    | none => exact h0
    | some v => exact t2_over (exact_life (exact_find hs part) e) _
mutual
theorem t2_ask {s : List Pt} (hs : ∀ p ∈ s, exactP p = true) (day : Int) : ∀ (x : X) (part : Tx), T2 (ask s day x part)
  | .mk op name value n extra ks, part => by rw [ask]; exact t2_askN hs _ _ _ _ _ _ (t2_askL hs day ks) _
theorem t2_askL {s : List Pt} (hs : ∀ p ∈ s, exactP p = true) (day : Int) : ∀ (ks : List X), ∀ k ∈ askL s day ks, ∀ m, T2 (k m)
  | [], k, h, _ => by simp [askL] at h
  | x :: xs, k, h, m => by
    simp only [askL, List.mem_cons] at h
    rcases h with rfl | h
    · exact t2_ask hs day x m
    · exact t2_askL hs day xs k h m
end
/-! ### Lives that are known better -/

def within (a b : Int × Int) : Bool := valI a && valI b && decide (b.1 ≤ a.1) && decide (a.2 ≤ b.2)
structure Kn (t s : Pt) : Prop where
  name : t.name = s.name
  kind : t.kind = s.kind
  into : t.into = s.into
  slot : t.slot = s.slot
  made : t.made = s.made
  since : t.since = s.since
  props : t.props = s.props
  km : within t.km s.km = true
  cy : within t.cy s.cy = true
  dm : within t.dm s.dm = true
def Le (x y : Int) : Prop := x = 1 ∨ y = x
inductive All2 {α : Type} (R : α → α → Prop) : List α → List α → Prop where
  | nil : All2 R [] []
  | cons {a b : α} {l m : List α} : R a b → All2 R l m → All2 R (a :: l) (b :: m)
theorem All2.length {α : Type} {R : α → α → Prop} {l m : List α} (h : All2 R l m) : l.length = m.length := by
  induction h with
  | nil => rfl
  | cons _ _ ih => simp [ih]
theorem kn_get {t s : List Pt} (h : All2 Kn t s) (name : Tx) : (getP t name = none ∧ getP s name = none) ∨ ∃ p q, getP t name = some p ∧ getP s name = some q ∧ Kn p q := by
  induction h with
  | nil => exact .inl ⟨rfl, rfl⟩
  | @cons a b l m h _ ih =>
    unfold getP at *
    simp only [List.find?, h.name]
    cases b.name == name
    · exact ih
    · exact .inr ⟨a, b, rfl, rfl, h⟩
theorem kn_default : Kn default default := ⟨rfl, rfl, rfl, rfl, rfl, rfl, rfl, rfl, rfl, rfl⟩
theorem kn_find {t s : List Pt} (h : All2 Kn t s) (name : Tx) : Kn (find0 t name) (find0 s name) := by
  unfold find0
  rcases kn_get h name with ⟨h1, h2⟩ | ⟨p, q, h1, h2, h3⟩
  · rw [h1, h2]; exact kn_default
  · rw [h1, h2]; exact h3
theorem kn_rootN {t s : List Pt} (h : All2 Kn t s) : ∀ (k : Nat) (part : Tx), rootN t k part = rootN s k part
  | 0, _ => rfl
  | k + 1, part => by
    simp only [rootN]
    rcases kn_get h part with ⟨h1, h2⟩ | ⟨p, q, h1, h2, h3⟩
    · rw [h1, h2]
    · rw [h1, h2]; simp only [h3.into, kn_rootN h k]
theorem kn_root {t s : List Pt} (h : All2 Kn t s) (part : Tx) : root t part = root s part := by
  unfold root; rw [h.length]; exact kn_rootN h _ _
theorem kn_firsts {t s : List Pt} (h : All2 Kn t s) : ∀ (seen : List Tx), All2 Kn (firsts seen t) (firsts seen s) := by
  induction h with
  | nil => intro _; exact .nil
  | @cons a b l m h _ ih =>
    intro seen
    simp only [firsts, h.name]
    split
    · exact ih _
    · exact .cons h (ih _)
theorem kn_filter {t s : List Pt} (h : All2 Kn t s) (part : Tx) : ((t.filter fun p => !(p.into == []) && !(p.name == part)).map fun p => (p.name, p.into)) = ((s.filter fun p => !(p.into == []) && !(p.name == part)).map fun p => (p.name, p.into)) := by
  induction h with
  | nil => rfl
  | @cons a b l m h _ ih =>
    simp only [List.filter, h.into, h.name]
    split
    · simp only [List.map_cons, h.name, h.into, ih]
    · exact ih
theorem kn_fitted {t s : List Pt} (h : All2 Kn t s) (part : Tx) : fitted t part = fitted s part := kn_filter (kn_firsts h _) part
theorem kn_inside {t s : List Pt} (h : All2 Kn t s) (part : Tx) : insideF t part = insideF s part := by
  unfold insideF
  rw [kn_fitted h]
  rcases kn_get h part with ⟨h1, h2⟩ | ⟨p, q, h1, h2, h3⟩ <;> rw [h1, h2]
theorem kn_kinds {t s : List Pt} (h : All2 Kn t s) (part kind : Tx) : kindsIn t part kind = kindsIn s part kind := by
  unfold kindsIn
  rw [kn_inside h]
  congr 1
  funext m
  rw [(kn_find h m).kind]
theorem le_refl (a : Int) : Le a a := .inr rfl
theorem le_not {a b : Int} (h : Le a b) : Le (notT a) (notT b) := by
  rcases h with rfl | rfl
  · exact .inl rfl
  · exact .inr rfl
theorem le_and {a b c d : Int} (h : Le a b) (g : Le c d) : Le (andT a c) (andT b d) := by
  have h1 := trN_cases a; have h2 := trN_cases b; have h3 := trN_cases c; have h4 := trN_cases d
  have e : trN 1 = 1 := rfl
  unfold Le andT
  rcases h with rfl | rfl <;> rcases g with rfl | rfl
  · rw [e]; simp
  · rw [e]; repeat' split
    all_goals omega
  · rw [e]; repeat' split
    all_goals omega
  · exact .inr rfl
theorem le_or {a b c d : Int} (h : Le a b) (g : Le c d) : Le (orT a c) (orT b d) := by
  have h1 := trN_cases a; have h2 := trN_cases b; have h3 := trN_cases c; have h4 := trN_cases d
  have e : trN 1 = 1 := rfl
  unfold Le orT
  rcases h with rfl | rfl <;> rcases g with rfl | rfl
  · rw [e]; simp
  · rw [e]; repeat' split
    all_goals omega
  · rw [e]; repeat' split
    all_goals omega
  · exact .inr rfl
theorem le_over {a b : Int × Int} (h : within a b = true) (n : Int) : Le (overT b n) (overT a n) := by
  simp only [within, Bool.and_eq_true, decide_eq_true_eq] at h
  obtain ⟨⟨⟨h1, h2⟩, h3⟩, h4⟩ := h
  have v1 : a.1 ≤ a.2 := by simp only [valI, Bool.and_eq_true, decide_eq_true_eq] at h1; exact h1.1.2
  have v2 : b.1 ≤ b.2 := by simp only [valI, Bool.and_eq_true, decide_eq_true_eq] at h2; exact h2.1.2
  unfold overT Le
  simp only [h1, h2, Bool.true_eq_false, false_or]
  repeat' split
  all_goals omega
theorem le_fold {α : Type} (f : Int → Int → Int) (hf : ∀ {a b c d}, Le a b → Le c d → Le (f a c) (f b d)) (g g' : α → Int) : ∀ (l : List α) (a b : Int), (∀ x ∈ l, Le (g x) (g' x)) → Le a b → Le (l.foldl (fun a k => f a (g k)) a) (l.foldl (fun a k => f a (g' k)) b)
  | [], a, b, _, h => h
  | x :: l, a, b, hl, h => le_fold f hf g g' l _ _ (fun y hy => hl y (by simp [hy])) (hf h (hl x (by simp)))
theorem le_foldA (f : Int → Int → Int) (hf : ∀ {a b c d}, Le a b → Le c d → Le (f a c) (f b d)) (m : Tx) {l l' : List (Tx → Int)} (h : All2 (fun k k' => ∀ m, Le (k m) (k' m)) l l') : ∀ (a b : Int), Le a b → Le (l.foldl (fun a k => f a (k m)) a) (l'.foldl (fun a k => f a (k m)) b) := by
  induction h with
  | nil => intro a b h; exact h
  | cons h1 _ ih => intro a b h; exact ih _ _ (hf h (h1 m))
theorem le_ite {c : Prop} [Decidable c] {a b a' b' : Int} (h : Le a a') (g : Le b b') : Le (if c then a else b) (if c then a' else b') := by split; exact h; exact g
theorem kn_life {t s : Pt} (h : Kn t s) (cur : Tx) (day : Int) : (lifeV t cur day = none ∧ lifeV s cur day = none) ∨ ∃ v u, lifeV t cur day = some v ∧ lifeV s cur day = some u ∧ ∀ n, Le (overT u n) (overT v n) := by
  unfold lifeV
  rw [h.since, h.made]
  repeat' split
  all_goals first
    | exact .inl ⟨rfl, rfl⟩
    | exact .inr ⟨_, _, rfl, rfl, fun n => le_over h.km n⟩
    | exact .inr ⟨_, _, rfl, rfl, fun n => le_over h.cy n⟩
    | exact .inr ⟨_, _, rfl, rfl, fun n => le_over h.dm n⟩
    | exact .inr ⟨_, _, rfl, rfl, fun n => le_refl _⟩
theorem kn_any {t s : List Pt} (h : All2 Kn t s) (part name value : Tx) : (t.any fun q => q.into == part && q.slot == name && q.kind == value) = (s.any fun q => q.into == part && q.slot == name && q.kind == value) := by
  induction h with
  | nil => rfl
  | cons h _ ih => simp only [List.any, h.into, h.slot, h.kind, ih]
theorem le_askN {t s : List Pt} (h : All2 Kn t s) (day op : Int) (name value : Tx) (n extra : Int) {ks ks' : List (Tx → Int)} (hk : All2 (fun k k' => ∀ m, Le (k m) (k' m)) ks ks') (part : Tx) :
    Le (askN s day op name value n extra ks part) (askN t day op name value n extra ks' part) := by
  have hd : ∀ m, Le (ks.headD (fun _ => 0) m) (ks'.headD (fun _ => 0) m) := fun m => by
    cases hk with
    | nil => exact le_refl _
    | cons h _ => exact h m
  have hf := kn_find h part
  unfold askN
  rw [kn_kinds h, kn_any h, hf.props]
  refine le_ite (le_refl _) (le_ite (le_not (hd _)) (le_ite (le_foldA andT le_and _ hk _ _ (le_refl _)) (le_ite (le_foldA orT le_or _ hk _ _ (le_refl _)) (le_ite ?_ (le_ite ?_ (le_ite (le_refl _) (le_ite (le_refl _) (le_ite (le_refl _)
    (le_ite (le_fold andT le_and _ _ _ _ _ (fun m _ => hd m) (le_refl _)) (le_ite (le_fold orT le_or _ _ _ _ _ (fun m _ => hd m) (le_refl _)) (le_refl _)))))))))))
  · rcases kn_life hf name day with ⟨h1, h2⟩ | ⟨v, u, h1, h2, h3⟩
    · rw [h1, h2]; exact le_refl _
    · rw [h1, h2]; exact le_not (h3 _)
  · rcases kn_life hf name day with ⟨h1, h2⟩ | ⟨v, u, h1, h2, h3⟩
    · rw [h1, h2]; exact le_refl _
    · rw [h1, h2]; exact h3 _
mutual
theorem le_ask {t s : List Pt} (h : All2 Kn t s) (day : Int) : ∀ (x : X) (part : Tx), Le (ask s day x part) (ask t day x part)
  | .mk op name value n extra ks, part => by rw [ask, ask]; exact le_askN h _ _ _ _ _ _ (le_askL h day ks) _
theorem le_askL {t s : List Pt} (h : All2 Kn t s) (day : Int) : ∀ (ks : List X), All2 (fun k k' => ∀ m, Le (k m) (k' m)) (askL s day ks) (askL t day ks)
  | [] => by simp only [askL]; exact .nil
  | x :: xs => by simp only [askL]; exact .cons (fun m => le_ask h day x m) (le_askL h day xs)
end
theorem knows_law {t s : List Pt} (h : All2 Kn t s) (x : X) (part : Tx) (day : Int) : Le (holdsF s x part day) (holdsF t x part day) := by
  unfold holdsF
  rw [kn_root h]
  split
  · exact le_refl _
  · exact le_ask h _ _ _
end Go.Proofs.Ytcchbohfcmfmlaa
end
section
set_option maxRecDepth 100000
set_option linter.unusedSimpArgs false
set_option linter.unusedVariables false
namespace Go.Proofs.Ytcchbohfcmfmlaa
open Go GoV
def strs (l : List Tx) : List D := l.map .str
def propD (p : Tx × Tx) : D := .agg [.str p.1, .str p.2]
abbrev ivD (i : Int × Int) : D := .agg [.int .i64 i.1, .int .i64 i.2]
@[reducible] def Pt.cells (p : Pt) : List D := [.str p.name, .str p.kind, .str p.into, .str p.slot, .int .i64 p.made, .int .i64 p.since, .bool p.scr, .slice (p.props.map propD) .no,
  .int .i64 p.km.1, .int .i64 p.km.2, .int .i64 p.cy.1, .int .i64 p.cy.2, .int .i64 p.dm.1, .int .i64 p.dm.2]
def ptD (p : Pt) : D := .agg p.cells
abbrev partsD (s : List Pt) : D := .slice (s.map ptD) .no
abbrev stateD (s : List Pt) : D := .agg [partsD s]
def X.op : X → Int | .mk o _ _ _ _ _ => o
def X.nam : X → Tx | .mk _ o _ _ _ _ => o
def X.val : X → Tx | .mk _ _ o _ _ _ => o
def X.num : X → Int | .mk _ _ _ o _ _ => o
def X.ext : X → Int | .mk _ _ _ _ o _ => o
def X.kids : X → List X | .mk _ _ _ _ _ o => o
mutual
def X.d : X → D
  | .mk op name value n extra ks => .agg [.int .i64 op, .str name, .str value, .int .i64 n, .int .i64 extra, .slice (X.dL ks) .no]
def X.dL : List X → List D
  | [] => []
  | k :: ks => X.d k :: X.dL ks
end
theorem dL_map : ∀ ks : List X, X.dL ks = ks.map X.d
  | [] => rfl
  | k :: ks => by simp [X.dL, dL_map ks]
@[reducible] def X.cells (x : X) : List D := [.int .i64 x.op, .str x.nam, .str x.val, .int .i64 x.num, .int .i64 x.ext, .slice (x.kids.map X.d) .no]
theorem X.d_eq (x : X) : x.d = .agg x.cells := by
  cases x; simp [X.d, X.cells, X.op, X.nam, X.val, X.num, X.ext, X.kids, dL_map]
theorem X.nodes_eq (x : X) : x.nodes = 1 + X.nodesL x.kids := by cases x; simp [X.nodes, X.kids]
theorem nodesL_mem : ∀ {ks : List X} {k : X}, k ∈ ks → k.nodes ≤ X.nodesL ks
  | [], _, h => by simp at h
  | k' :: ks, k, h => by
    simp only [X.nodesL]
    rcases List.mem_cons.1 h with rfl | h
    · omega
    · have := nodesL_mem h; omega
theorem kid_nodes {x k : X} (h : k ∈ x.kids) : k.nodes < x.nodes := by have := nodesL_mem h; rw [X.nodes_eq x]; omega
theorem nodesL_len : ∀ ks : List X, ks.length ≤ X.nodesL ks
  | [] => by simp
  | k :: ks => by have := nodesL_len ks; have := nodes_pos k; simp only [X.nodesL, List.length_cons]; omega
theorem kids_len (x : X) : x.kids.length < x.nodes := by have := nodesL_len x.kids; rw [X.nodes_eq x]; omega
theorem X.well_eq (x : X) : well x = (nodeOk x.op x.nam x.val x.num x.ext x.kids.length && wellL x.kids) := by cases x; rfl
theorem wellL_mem : ∀ {ks : List X}, wellL ks = true → ∀ k ∈ ks, well k = true
  | [], _, k, h => by simp at h
  | k' :: ks, h, k, hk => by
    simp only [wellL, Bool.and_eq_true] at h
    rcases List.mem_cons.1 hk with rfl | hk
    · exact h.1
    · exact wellL_mem h.2 k hk
theorem er_strs (l : List Tx) : D.erL (strs l) = strs l := by induction l with | nil => rfl | cons x l ih => simp_all [strs, D.erL, D.er]
theorem cl_strs (l : List Tx) : D.closedL (strs l) = true := by induction l with | nil => rfl | cons x l ih => simp_all [strs, D.closedL, D.closed]
theorem tn_p (a : Int) : Pur M 31 [.int .i64 a] (.int .i64 (trN a)) := by
  refine ok31 rfl ?_
  rw [i31]
  unfold c31
  unfold trN
  by_cases h : a = 0
  · subst h; repeat' (first
    | with_reducible first | apply swp_seq | apply swp_reg | apply swp_regD | apply swp_block | apply swp_exit | apply swp_ret | apply swp_skip | apply swp_cd
    | simp only [go_sem, seval, P31, q31]
    | with_reducible first | apply cd_dec | apply cd_eq | apply cd_ne | apply cd_split
    | ((with_reducible refine And.intro ?hw ?_); (case hw => first | omega | rfl | exact ⟨_, _, rfl⟩ | assumption | (simp only [lN] <;> omega)))
    | with_reducible intro _)
    all_goals first | omega | (simp_all [D.closed, D.er, D.closedL, D.erL]; done) | (simp_all [D.closed, D.er, D.closedL, D.erL] <;> omega)
  · by_cases h2 : a = 2
    · subst h2; repeat' (first
    | with_reducible first | apply swp_seq | apply swp_reg | apply swp_regD | apply swp_block | apply swp_exit | apply swp_ret | apply swp_skip | apply swp_cd
    | simp only [go_sem, seval, P31, q31]
    | with_reducible first | apply cd_dec | apply cd_eq | apply cd_ne | apply cd_split
    | ((with_reducible refine And.intro ?hw ?_); (case hw => first | omega | rfl | exact ⟨_, _, rfl⟩ | assumption | (simp only [lN] <;> omega)))
    | with_reducible intro _)
      all_goals first | omega | (simp_all [D.closed, D.er, D.closedL, D.erL]; done) | (simp_all [D.closed, D.er, D.closedL, D.erL] <;> omega)
    · repeat' (first
    | with_reducible first | apply swp_seq | apply swp_reg | apply swp_regD | apply swp_block | apply swp_exit | apply swp_ret | apply swp_skip | apply swp_cd
    | simp only [go_sem, seval, P31, q31]
    | with_reducible first | apply cd_dec | apply cd_eq | apply cd_ne | apply cd_split
    | ((with_reducible refine And.intro ?hw ?_); (case hw => first | omega | rfl | exact ⟨_, _, rfl⟩ | assumption | (simp only [lN] <;> omega)))
    | with_reducible intro _)
      all_goals first | omega | (simp_all [D.closed, D.er, D.closedL, D.erL]; done) | (simp_all [D.closed, D.er, D.closedL, D.erL] <;> omega)
theorem and_p (a b : Int) : Pur M 15 [.int .i64 a, .int .i64 b] (.int .i64 (andT a b)) := by
  refine ok15 rfl ?_
  rw [i15]
  unfold c15
  have e : andT a b = if trN b < trN a then trN b else trN a := rfl
  rw [e]
  repeat' (first
    | with_reducible first | apply swp_seq | apply swp_reg | apply swp_regD | apply swp_block | apply swp_exit | apply swp_ret | apply swp_skip | apply swp_cd
    | simp only [go_sem, seval, P15, q15, foldI]
    | ((with_reducible refine o_call (tn_p a) ?he ?hc ?_); (case he | hc => first | rfl | (simp [D.erL, D.er, D.closedL, D.closed]; done)))
    | ((with_reducible refine o_call (tn_p b) ?he ?hc ?_); (case he | hc => first | rfl | (simp [D.erL, D.er, D.closedL, D.closed]; done)))
    | with_reducible first | apply cd_dec | apply cd_eq | apply cd_ne | apply cd_split
    | ((with_reducible refine And.intro ?hw ?_); (case hw => first | omega | rfl | exact ⟨_, _, rfl⟩ | assumption | (simp only [lN] <;> omega)))
    | with_reducible intro _)
  all_goals first | omega | (simp_all [D.closed, D.er, D.closedL, D.erL]; done) | (simp_all [D.closed, D.er, D.closedL, D.erL] <;> omega)
theorem or_p (a b : Int) : Pur M 16 [.int .i64 a, .int .i64 b] (.int .i64 (orT a b)) := by
  refine ok16 rfl ?_
  rw [i16]
  unfold c16
  have e : orT a b = if trN b > trN a then trN b else trN a := rfl
  rw [e]
  repeat' (first
    | with_reducible first | apply swp_seq | apply swp_reg | apply swp_regD | apply swp_block | apply swp_exit | apply swp_ret | apply swp_skip | apply swp_cd
    | simp only [go_sem, seval, P16, q16, foldI]
    | ((with_reducible refine o_call (tn_p a) ?he ?hc ?_); (case he | hc => first | rfl | (simp [D.erL, D.er, D.closedL, D.closed]; done)))
    | ((with_reducible refine o_call (tn_p b) ?he ?hc ?_); (case he | hc => first | rfl | (simp [D.erL, D.er, D.closedL, D.closed]; done)))
    | with_reducible first | apply cd_dec | apply cd_eq | apply cd_ne | apply cd_split
    | ((with_reducible refine And.intro ?hw ?_); (case hw => first | omega | rfl | exact ⟨_, _, rfl⟩ | assumption | (simp only [lN] <;> omega)))
    | with_reducible intro _)
  all_goals first | omega | (simp_all [D.closed, D.er, D.closedL, D.erL]; done) | (simp_all [D.closed, D.er, D.closedL, D.erL] <;> omega)
theorem not_p (a : Int) : Pur M 18 [.int .i64 a] (.int .i64 (notT a)) := by
  refine ok18 rfl ?_
  rw [i18]
  unfold c18
  have e : notT a = 2 - trN a := rfl
  rw [e]
  have h := trN_cases a
  have c := tn_p a
  generalize trN a = t at *
  repeat' (first
    | with_reducible first | apply swp_seq | apply swp_reg | apply swp_regD | apply swp_block | apply swp_exit | apply swp_ret | apply swp_skip | apply swp_cd
    | simp only [go_sem, seval, P18, q18]
    | simp (disch := omega) only [w64, w32, wu8, wu16, wu32, wu64]
    | ((with_reducible refine o_call (c) ?he ?hc ?_); (case he | hc => first | rfl | (simp [D.erL, D.er, D.closedL, D.closed]; done)))
    | with_reducible first | apply cd_dec | apply cd_eq | apply cd_ne | apply cd_split
    | ((with_reducible refine And.intro ?hw ?_); (case hw => first | omega | rfl | exact ⟨_, _, rfl⟩ | assumption | (simp only [lN] <;> omega)))
    | with_reducible intro _)
  all_goals first | omega | (simp_all [D.closed, D.er, D.closedL, D.erL]; done) | (simp_all [D.closed, D.er, D.closedL, D.erL] <;> omega)
theorem valid_p (i : Int × Int) : Pur M 57 [ivD i] (.bool (valI i)) := by
  refine ok57 rfl ?_
  rw [i57]
  unfold c57
  have e : valI i = (decide (-1000000000000 ≤ i.1) && decide (i.1 ≤ i.2) && decide (i.2 ≤ 1000000000000)) := rfl
  rw [e]
  repeat' (first
    | with_reducible first | apply swp_seq | apply swp_reg | apply swp_regD | apply swp_block | apply swp_exit | apply swp_ret | apply swp_skip | apply swp_cd
    | simp only [go_sem, seval, P57, q57]
    | with_reducible first | apply cd_dec | apply cd_eq | apply cd_ne | apply cd_split | apply gd_dec | apply gd_eq | apply gd_ne | apply gd_split
    | ((with_reducible refine And.intro ?hw ?_); (case hw => first | omega | rfl | exact ⟨_, _, rfl⟩ | assumption | (simp only [lN] <;> omega)))
    | with_reducible intro _)
  all_goals first | omega | (simp_all [D.closed, D.er, D.closedL, D.erL]; done) | (simp_all [D.closed, D.er, D.closedL, D.erL] <;> omega)
theorem rvalid_p (i : Int × Int) : Pur M 32 [ivD i] (.bool (valI i)) := by
  refine ok32 rfl ?_
  rw [i32]
  unfold c32
  have e : valI i = (decide (-1000000000000 ≤ i.1) && decide (i.1 ≤ i.2) && decide (i.2 ≤ 1000000000000)) := rfl
  rw [e]
  repeat' (first
    | with_reducible first | apply swp_seq | apply swp_reg | apply swp_regD | apply swp_block | apply swp_exit | apply swp_ret | apply swp_skip | apply swp_cd
    | simp only [go_sem, seval, P32, q32]
    | with_reducible first | apply cd_dec | apply cd_eq | apply cd_ne | apply cd_split | apply gd_dec | apply gd_eq | apply gd_ne | apply gd_split
    | ((with_reducible refine And.intro ?hw ?_); (case hw => first | omega | rfl | exact ⟨_, _, rfl⟩ | assumption | (simp only [lN] <;> omega)))
    | with_reducible intro _)
  all_goals first | omega | (simp_all [D.closed, D.er, D.closedL, D.erL]; done) | (simp_all [D.closed, D.er, D.closedL, D.erL] <;> omega)
theorem over_p (i : Int × Int) (n : Int) : Pur M 41 [ivD i, .int .i64 n] (.int .i64 (overT i n)) := by
  refine ok41 rfl ?_
  rw [i41]
  unfold c41
  have e : overT i n = if valI i = false ∨ i.2 ≤ n then 0 else if i.1 > n then 2 else 1 := rfl
  rw [e]
  have c := valid_p i
  cases h : valI i
  · rw [h] at c
    repeat' (first
    | with_reducible first | apply swp_seq | apply swp_reg | apply swp_regD | apply swp_block | apply swp_exit | apply swp_ret | apply swp_skip | apply swp_cd
    | simp only [go_sem, seval, P41, q41]
    | ((with_reducible refine o_call (c) ?he ?hc ?_); (case he | hc => first | rfl | (simp [D.erL, D.er, D.closedL, D.closed]; done)))
    | with_reducible first | apply cd_dec | apply cd_eq | apply cd_ne | apply cd_split | apply gd_dec | apply gd_eq | apply gd_ne | apply gd_split
    | ((with_reducible refine And.intro ?hw ?_); (case hw => first | omega | rfl | exact ⟨_, _, rfl⟩ | assumption | (simp only [lN] <;> omega)))
    | with_reducible intro _)
    all_goals first | omega | (simp_all [D.closed, D.er, D.closedL, D.erL]; done) | (simp_all [D.closed, D.er, D.closedL, D.erL] <;> omega)
  · rw [h] at c
    repeat' (first
    | with_reducible first | apply swp_seq | apply swp_reg | apply swp_regD | apply swp_block | apply swp_exit | apply swp_ret | apply swp_skip | apply swp_cd
    | simp only [go_sem, seval, P41, q41]
    | ((with_reducible refine o_call (c) ?he ?hc ?_); (case he | hc => first | rfl | (simp [D.erL, D.er, D.closedL, D.closed]; done)))
    | with_reducible first | apply cd_dec | apply cd_eq | apply cd_ne | apply cd_split | apply gd_dec | apply gd_eq | apply gd_ne | apply gd_split
    | ((with_reducible refine And.intro ?hw ?_); (case hw => first | omega | rfl | exact ⟨_, _, rfl⟩ | assumption | (simp only [lN] <;> omega)))
    | with_reducible intro _)
    all_goals first | omega | (simp_all [D.closed, D.er, D.closedL, D.erL]; done) | (simp [D.closed, D.er, D.closedL, D.erL]; omega)
theorem within_p (i j : Int × Int) : Pur M 20 [ivD i, ivD j] (.bool (within i j)) := by
  refine ok20 rfl ?_
  rw [i20]
  unfold c20
  have e : within i j = (valI i && valI j && decide (j.1 ≤ i.1) && decide (i.2 ≤ j.2)) := rfl
  rw [e]
  have c1 := rvalid_p i
  have c2 := rvalid_p j
  repeat' (first
    | with_reducible first | apply swp_seq | apply swp_reg | apply swp_regD | apply swp_block | apply swp_exit | apply swp_ret | apply swp_skip | apply swp_cd
    | simp only [go_sem, seval, P20, q20]
    | ((with_reducible refine o_call (c1) ?he ?hc ?_); (case he | hc => first | rfl | (simp [D.erL, D.er, D.closedL, D.closed]; done)))
    | ((with_reducible refine o_call (c2) ?he ?hc ?_); (case he | hc => first | rfl | (simp [D.erL, D.er, D.closedL, D.closed]; done)))
    | with_reducible first | apply cd_dec | apply cd_eq | apply cd_ne | apply cd_split | apply gd_dec | apply gd_eq | apply gd_ne | apply gd_split
    | ((with_reducible refine And.intro ?hw ?_); (case hw => first | omega | rfl | exact ⟨_, _, rfl⟩ | assumption | (simp only [lN] <;> omega)))
    | with_reducible intro _)
  all_goals first | omega | (simp_all [D.closed, D.er, D.closedL, D.erL]; done) | (simp_all [D.closed, D.er, D.closedL, D.erL] <;> omega)
theorem tr_p (b : Bool) : Pur M 42 [.bool b] (.int .i64 (truthF b)) := by
  refine ok42 rfl ?_
  rw [i42]
  unfold c42
  have e : truthF b = if b then 2 else 0 := rfl
  rw [e]
  repeat' (first
    | with_reducible first | apply swp_seq | apply swp_reg | apply swp_regD | apply swp_block | apply swp_exit | apply swp_ret | apply swp_skip | apply swp_cd
    | simp only [go_sem, seval, P42, q42]
    | with_reducible first | apply cd_dec | apply cd_eq | apply cd_ne | apply cd_split
    | ((with_reducible refine And.intro ?hw ?_); (case hw => first | omega | rfl | exact ⟨_, _, rfl⟩ | assumption | (simp only [lN] <;> omega)))
    | with_reducible intro _)
  all_goals first | omega | (simp_all [D.closed, D.er, D.closedL, D.erL]; done) | (simp_all [D.closed, D.er, D.closedL, D.erL] <;> omega)
theorem num_p (n low : Int) : Pur M 54 [.int .i64 n, .int .i64 low] (.bool (numOk n low)) := by
  refine ok54 rfl ?_
  rw [i54]
  unfold c54
  have e : numOk n low = (decide (n ≥ low) && decide (n ≤ 9999999)) := rfl
  rw [e]
  repeat' (first
    | with_reducible first | apply swp_seq | apply swp_reg | apply swp_regD | apply swp_block | apply swp_exit | apply swp_ret | apply swp_skip | apply swp_cd
    | simp only [go_sem, seval, P54, q54]
    | with_reducible first | apply cd_dec | apply cd_eq | apply cd_ne | apply cd_split | apply gd_dec | apply gd_eq | apply gd_ne | apply gd_split
    | ((with_reducible refine And.intro ?hw ?_); (case hw => first | omega | rfl | exact ⟨_, _, rfl⟩ | assumption | (simp only [lN] <;> omega)))
    | with_reducible intro _)
  all_goals first | omega | (simp_all [D.closed, D.er, D.closedL, D.erL]; done) | (simp_all [D.closed, D.er, D.closedL, D.erL] <;> omega)
theorem limit_p (n extra : Int) : Pur M 25 [.int .i64 n, .int .i64 extra] (X.d (lim kKm n extra)) := by
  refine pur_res (d := .agg [.int .i64 5, .str [107, 109], .str [], .int .i64 n, .int .i64 extra, .lit (.slice none 0 0)]) (ok25 rfl ?_) (by simp [D.nn, D.nnL, X.d, X.dL, kKm])
  rw [i25]
  unfold c25
  repeat' (first
    | with_reducible first | apply swp_seq | apply swp_reg | apply swp_regD | apply swp_block | apply swp_exit | apply swp_ret | apply swp_skip | apply swp_cd
    | simp only [go_sem, seval, P25, q25, fillL]
    | with_reducible first | apply cd_dec | apply cd_eq | apply cd_ne | apply cd_split
    | ((with_reducible refine And.intro ?hw ?_); (case hw => first | omega | rfl | exact ⟨_, _, rfl⟩ | assumption | (simp only [lN] <;> omega)))
    | with_reducible intro _)
  all_goals first | omega | (simp_all [D.closed, D.er, D.closedL, D.erL, X.d, X.dL, kKm]; done) | skip
mutual
theorem cl_X : ∀ x : X, D.closed x.d = true
  | .mk op name value n extra ks => by simp [X.d, D.closed, D.closedL]
theorem cl_XL : ∀ ks : List X, D.closedL (X.dL ks) = true
  | [] => rfl
  | k :: ks => by simp [X.dL, D.closedL, cl_X k, cl_XL ks]
end
theorem er_X (x : X) : x.d.er = x.d := by cases x; simp [X.d, D.er, D.erL]
theorem erL_X : ∀ ks : List X, D.erL (ks.map X.d) = ks.map X.d
  | [] => rfl
  | k :: ks => by simp [D.erL, er_X k, erL_X ks]
theorem closedL_X : ∀ ks : List X, D.closedL (ks.map X.d) = true
  | [] => rfl
  | k :: ks => by simp [D.closedL, cl_X k, closedL_X ks]
theorem er_P (p : Pt) : (ptD p).er = ptD p := by simp [ptD, D.er, D.erL]
theorem cl_P (p : Pt) : D.closed (ptD p) = true := by simp [ptD, D.closed, D.closedL]
theorem erL_P : ∀ l : List Pt, D.erL (l.map ptD) = l.map ptD
  | [] => rfl
  | k :: ks => by simp [D.erL, er_P k, erL_P ks]
end Go.Proofs.Ytcchbohfcmfmlaa
end
section
set_option maxRecDepth 100000
set_option linter.unusedSimpArgs false
set_option linter.unusedVariables false
namespace Go.Proofs.Ytcchbohfcmfmlaa
open Go GoV Go.RowKit
theorem index_p (s : Tx) (c : UInt8) : Pur M 64 [.str s, .int .u8 c.toNat] (.int .i64 (Lib.indexByte s c)) := by
  refine pur_ext (vs := [.string ⟨s.toArray⟩, .int .u8 c.toNat]) (v := .int .i64 (Lib.indexByte s c)) ⟨Try.f64, Try.func64, rfl, rfl⟩ (fun w I xs h => ?_) (fun w I => ?_) (fun w hA => ?_)
  · obtain ⟨x, xs', rfl, g1, g2⟩ := h.inv
    obtain ⟨y, ys', rfl, g3, g4⟩ := g2.inv
    simp only [Rel] at g1 g3
    rw [g4.inv_nil, g1, g3]
  · simp [Rel]
  · refine (Try.strings_IndexByte ⟨s.toArray⟩ c.toNat w).mono fun e w' hh => ?_
    obtain ⟨rfl, rfl⟩ := hh
    refine ⟨?_, Below.refl _ _⟩
    have : ((c.toNat : Int).toNat).toUInt8 = c := by simp
    rw [this]
def cls0 (c : Nat) : Int :=
  if (97 ≤ c ∧ c ≤ 122) ∨ (65 ≤ c ∧ c ≤ 90) then 3 else if 48 ≤ c ∧ c ≤ 57 then 4 else if Lib.indexByte [32, 9, 10] (UInt8.ofNat c) ≥ 0 then 1
  else if Lib.indexByte [59, 44, 46, 58, 40, 41, 123, 125, 91, 93, 61, 60, 62, 47, 43, 45, 42] (UInt8.ofNat c) ≥ 0 then 6 else 0
def tblN (i : Nat) : List D := (List.range 256).map fun c => .int .u8 (if c < i then cls0 c else 0)
def tbl : List D := (List.range 256).map fun c => .int .u8 (if c = 35 then 2 else if c = 95 then 5 else if c = 34 then 7 else cls0 c)
theorem tblN_len (i : Nat) : (tblN i).length = 256 := by simp [tblN]
theorem map_const {α : Type} (v : D) : ∀ l : List α, l.map (fun _ => v) = List.replicate l.length v
  | [] => rfl
  | x :: l => by rw [List.map_cons, map_const v l]; rfl
theorem tblN_zero : zl256 = tblN 0 := by
  unfold zl256 tblN
  have : (fun c : Nat => D.int .u8 (if c < 0 then cls0 c else 0)) = fun _ => D.int .u8 0 := by funext c; simp
  rw [this, map_const, List.length_range]
theorem zl_len : zl256.length = 256 := by rw [tblN_zero, tblN_len]
theorem tblN_set {i : Nat} (h : i < 256) {v : Int} (hv : v = cls0 i) : setL (tblN i) i [.int .u8 v] = tblN (i + 1) := by
  subst hv
  simp only [setL]
  apply List.ext_getElem?
  intro j
  rw [List.getElem?_set]
  by_cases hj : j < 256
  · by_cases e : i = j
    · subst e
      simp [tblN, h]
    · rw [if_neg e]
      simp only [tblN, List.getElem?_map, List.getElem?_range hj, Option.map_some]
      have : (j < i) ↔ (j < i + 1) := by omega
      simp [this]
  · have h1 : ∀ k, (tblN k)[j]? = none := fun k => List.getElem?_eq_none (by rw [tblN_len]; omega)
    rw [h1, h1]
    rw [if_neg (by omega)]
theorem tblN_skip {i : Nat} (h : i < 256) (hv : cls0 i = 0) : tblN i = tblN (i + 1) := by
  rw [← tblN_set h rfl, hv]
  simp only [setL]
  apply List.ext_getElem?
  intro j
  rw [List.getElem?_set]
  by_cases e : i = j
  · subst e; simp [tblN, h]
  · rw [if_neg e]
theorem tbl_eq : setL (setL (setL (tblN 256) 35 [.int .u8 2]) 95 [.int .u8 5]) 34 [.int .u8 7] = tbl := by
  simp only [setL]
  apply List.ext_getElem?
  intro j
  simp only [List.getElem?_set, List.length_set, tblN_len]
  by_cases hj : j < 256
  · simp only [tblN, tbl, List.getElem?_map, List.getElem?_range hj, Option.map_some, hj, if_true]
    by_cases h1 : j = 34
    · subst h1; simp
    · by_cases h2 : j = 95
      · subst h2; simp
      · by_cases h3 : j = 35
        · subst h3; simp
        · simp [h1, h2, h3, show ¬ 34 = j by omega, show ¬ 95 = j by omega, show ¬ 35 = j by omega]
  · have h1 : (tblN 256)[j]? = none := List.getElem?_eq_none (by rw [tblN_len]; omega)
    have h2 : tbl[j]? = none := List.getElem?_eq_none (by simp [tbl]; omega)
    rw [h1, h2]
    simp [show ¬ 34 = j by omega, show ¬ 95 = j by omega, show ¬ 35 = j by omega]
theorem u8n (n : Nat) (h : n < 256) : ((UInt8.ofNat n).toNat : Int) = n := by simp [UInt8.toNat_ofNat']; omega
theorem cls0_eq (i : Nat) : cls0 i = if (97 ≤ i ∧ i ≤ 122) ∨ (65 ≤ i ∧ i ≤ 90) then 3 else if 48 ≤ i ∧ i ≤ 57 then 4 else if Lib.indexByte [32, 9, 10] (UInt8.ofNat i) ≥ 0 then 1
        else if Lib.indexByte [59, 44, 46, 58, 40, 41, 123, 125, 91, 93, 61, 60, 62, 47, 43, 45, 42] (UInt8.ofNat i) ≥ 0 then 6 else 0 := rfl
theorem tbl_get {c : Nat} (h : c < 256) : tbl.getD c .undef = .int .u8 (if c = 35 then 2 else if c = 95 then 5 else if c = 34 then 7 else cls0 c) := by simp [tbl, List.getD, h]
theorem tbl_len : tbl.length = 256 := by simp [tbl]
theorem setL_app : ∀ (ds : List D) (cs : List D) (off : Nat), off + ds.length ≤ cs.length → setL cs off ds = cs.take off ++ ds ++ cs.drop (off + ds.length)
  | [], cs, off, h => by simp [setL]
  | d :: ds, cs, off, h => by
    simp only [List.length_cons] at h
    rw [setL, setL_app ds (cs.set off d) (off + 1) (by simp; omega)]
    have e1 : (cs.set off d).take (off + 1) = cs.take off ++ [d] := by
      rw [List.take_set, List.take_succ_eq_append_getElem (by omega), List.set_append_right _ _ (by simp; omega)]
      simp [Nat.min_eq_left (show off ≤ cs.length by omega)]
    have e2 : (cs.set off d).drop (off + 1 + ds.length) = cs.drop (off + (ds.length + 1)) := by
      rw [List.drop_set_of_lt (by omega)]; congr 1; omega
    rw [e1, e2]; simp
theorem setL_full {cs ds : List D} (h : ds.length = cs.length) : setL cs 0 ds = ds := by
  rw [setL_app ds cs 0 (by omega)]; simp [h]
theorem tbl_cl : D.closedL tbl = true ∧ D.erL tbl = tbl := by
  unfold tbl
  have : ∀ (f : Nat → Int) (l : List Nat), D.closedL (l.map fun c => D.int .u8 (f c)) = true ∧ D.erL (l.map fun c => D.int .u8 (f c)) = l.map fun c => D.int .u8 (f c) := by
    intro f l
    induction l with
    | nil => exact ⟨rfl, rfl⟩
    | cons x l ih => simp only [List.map_cons, D.closedL, D.erL, D.closed, D.er, ih.1, ih.2]; exact ⟨rfl, trivial⟩
  exact this _ _
attribute [irreducible] tblN tbl cls0
set_option maxHeartbeats 1000000 in
theorem classes_p : Pur M 50 [] (.agg tbl) := by
  refine ok50 rfl ?_
  rw [i50]
  unfold c50
  have hz := zl_len
  have ht := tbl_eq
  simp only [setL] at ht
  repeat' (first
    | with_reducible first | apply swp_seq | apply swp_reg | apply swp_regD | apply swp_block | apply swp_exit | apply swp_ret | apply swp_skip | apply swp_cd
    | simp only [go_sem, seval, P50, q50]
    | with_reducible first | apply cd_dec | apply cd_eq | apply cd_ne | apply cd_split | apply gd_dec | apply gd_eq | apply gd_ne | apply gd_split
    | ((with_reducible refine And.intro ?hw ?_); (case hw => first | omega | rfl | exact ⟨_, _, rfl⟩ | assumption | (simp only [lN] <;> omega)))
    | with_reducible intro _)
  refine swp_fam [0, 1, 4] (fun i : Nat => ⟨[.ptr 0 0, .ptr 1 0, .undef, .undef, .int .i64 i, .undef, .undef, .undef, .undef, .undef], [], ⟨[.cells zl256, .cells (tblN i)], []⟩⟩) (fun i => i ≤ 256) (fun i => 256 - i) 0 (by omega) ?_ ?_
  · simp [keepE, St.keep, tblN_zero]
  · intro i g1
    have hl := tblN_len i
    by_cases hi : i < 256
    · have hn := u8n i hi
      have x1 := index_p [32, 9, 10] (UInt8.ofNat i)
      have x2 := index_p [59, 44, 46, 58, 40, 41, 123, 125, 91, 93, 61, 60, 62, 47, 43, 45, 42] (UInt8.ofNat i)
      rw [hn] at x1 x2
      have hset := fun v => tblN_set (v := v) hi
      have hskip := tblN_skip hi
      have hc := cls0_eq i
      generalize Lib.indexByte [32, 9, 10] (UInt8.ofNat i) = y1 at *
      generalize Lib.indexByte [59, 44, 46, 58, 40, 41, 123, 125, 91, 93, 61, 60, 62, 47, 43, 45, 42] (UInt8.ofNat i) = y2 at *
      generalize cls0 i = ci at *
      have hcase : (i < 48) ∨ (48 ≤ i ∧ i < 58) ∨ (58 ≤ i ∧ i < 65) ∨ (65 ≤ i ∧ i < 91) ∨ (91 ≤ i ∧ i < 97) ∨ (97 ≤ i ∧ i < 123) ∨ (123 ≤ i) := by omega
      rcases hcase with hq | hq | hq | hq | hq | hq | hq
      · have t0 : decide (97 ≤ (i : Int)) = false := by simp; omega
        have t1 : decide ((i : Int) ≤ 122) = true := by simp; omega
        have t2 : decide (65 ≤ (i : Int)) = false := by simp; omega
        have t3 : decide ((i : Int) ≤ 90) = true := by simp; omega
        have t4 : decide (48 ≤ (i : Int)) = false := by simp; omega
        have t5 : decide ((i : Int) ≤ 57) = true := by simp; omega
        repeat' (first
    | with_reducible first | apply swp_seq | apply swp_reg | apply swp_regD | apply swp_block | apply swp_exit | apply swp_ret | apply swp_skip | apply swp_cd
    | simp only [go_sem, seval, P50, q50, hl, t0, t1, t2, t3, t4, t5]
    | simp (disch := omega) only [w64, w32, wu8, wu16, wu32, wu64]
    | ((with_reducible refine o_call (x1) ?he ?hc ?_); (case he | hc => first | rfl | (simp [D.erL, D.er, D.closedL, D.closed]; done)))
    | ((with_reducible refine o_call (x2) ?he ?hc ?_); (case he | hc => first | rfl | (simp [D.erL, D.er, D.closedL, D.closed]; done)))
    | with_reducible first | apply cd_dec | apply cd_eq | apply cd_ne | apply cd_split | apply gd_dec | apply gd_eq | apply gd_ne | apply gd_split
    | ((with_reducible refine And.intro ?hw ?_); (case hw => first | omega | rfl | exact ⟨_, _, rfl⟩ | assumption | (simp only [lN] <;> omega)))
    | with_reducible intro _)
        all_goals try omega
        all_goals refine ⟨i + 1, by omega, by omega, ?_⟩
        all_goals simp [St.keep, keepE]
        all_goals first
          | exact hset _ (by rw [hc]; repeat' split <;> first | rfl | omega)
          | exact hskip (by rw [hc]; repeat' split <;> first | rfl | omega)
      · have t0 : decide (97 ≤ (i : Int)) = false := by simp; omega
        have t1 : decide ((i : Int) ≤ 122) = true := by simp; omega
        have t2 : decide (65 ≤ (i : Int)) = false := by simp; omega
        have t3 : decide ((i : Int) ≤ 90) = true := by simp; omega
        have t4 : decide (48 ≤ (i : Int)) = true := by simp; omega
        have t5 : decide ((i : Int) ≤ 57) = true := by simp; omega
        repeat' (first
    | with_reducible first | apply swp_seq | apply swp_reg | apply swp_regD | apply swp_block | apply swp_exit | apply swp_ret | apply swp_skip | apply swp_cd
    | simp only [go_sem, seval, P50, q50, hl, t0, t1, t2, t3, t4, t5]
    | simp (disch := omega) only [w64, w32, wu8, wu16, wu32, wu64]
    | ((with_reducible refine o_call (x1) ?he ?hc ?_); (case he | hc => first | rfl | (simp [D.erL, D.er, D.closedL, D.closed]; done)))
    | ((with_reducible refine o_call (x2) ?he ?hc ?_); (case he | hc => first | rfl | (simp [D.erL, D.er, D.closedL, D.closed]; done)))
    | with_reducible first | apply cd_dec | apply cd_eq | apply cd_ne | apply cd_split | apply gd_dec | apply gd_eq | apply gd_ne | apply gd_split
    | ((with_reducible refine And.intro ?hw ?_); (case hw => first | omega | rfl | exact ⟨_, _, rfl⟩ | assumption | (simp only [lN] <;> omega)))
    | with_reducible intro _)
        all_goals try omega
        all_goals refine ⟨i + 1, by omega, by omega, ?_⟩
        all_goals simp [St.keep, keepE]
        all_goals first
          | exact hset _ (by rw [hc]; repeat' split <;> first | rfl | omega)
          | exact hskip (by rw [hc]; repeat' split <;> first | rfl | omega)
      · have t0 : decide (97 ≤ (i : Int)) = false := by simp; omega
        have t1 : decide ((i : Int) ≤ 122) = true := by simp; omega
        have t2 : decide (65 ≤ (i : Int)) = false := by simp; omega
        have t3 : decide ((i : Int) ≤ 90) = true := by simp; omega
        have t4 : decide (48 ≤ (i : Int)) = true := by simp; omega
        have t5 : decide ((i : Int) ≤ 57) = false := by simp; omega
        repeat' (first
    | with_reducible first | apply swp_seq | apply swp_reg | apply swp_regD | apply swp_block | apply swp_exit | apply swp_ret | apply swp_skip | apply swp_cd
    | simp only [go_sem, seval, P50, q50, hl, t0, t1, t2, t3, t4, t5]
    | simp (disch := omega) only [w64, w32, wu8, wu16, wu32, wu64]
    | ((with_reducible refine o_call (x1) ?he ?hc ?_); (case he | hc => first | rfl | (simp [D.erL, D.er, D.closedL, D.closed]; done)))
    | ((with_reducible refine o_call (x2) ?he ?hc ?_); (case he | hc => first | rfl | (simp [D.erL, D.er, D.closedL, D.closed]; done)))
    | with_reducible first | apply cd_dec | apply cd_eq | apply cd_ne | apply cd_split | apply gd_dec | apply gd_eq | apply gd_ne | apply gd_split
    | ((with_reducible refine And.intro ?hw ?_); (case hw => first | omega | rfl | exact ⟨_, _, rfl⟩ | assumption | (simp only [lN] <;> omega)))
    | with_reducible intro _)
        all_goals try omega
        all_goals refine ⟨i + 1, by omega, by omega, ?_⟩
        all_goals simp [St.keep, keepE]
        all_goals first
          | exact hset _ (by rw [hc]; repeat' split <;> first | rfl | omega)
          | exact hskip (by rw [hc]; repeat' split <;> first | rfl | omega)
      · have t0 : decide (97 ≤ (i : Int)) = false := by simp; omega
        have t1 : decide ((i : Int) ≤ 122) = true := by simp; omega
        have t2 : decide (65 ≤ (i : Int)) = true := by simp; omega
        have t3 : decide ((i : Int) ≤ 90) = true := by simp; omega
        have t4 : decide (48 ≤ (i : Int)) = true := by simp; omega
        have t5 : decide ((i : Int) ≤ 57) = false := by simp; omega
        repeat' (first
    | with_reducible first | apply swp_seq | apply swp_reg | apply swp_regD | apply swp_block | apply swp_exit | apply swp_ret | apply swp_skip | apply swp_cd
    | simp only [go_sem, seval, P50, q50, hl, t0, t1, t2, t3, t4, t5]
    | simp (disch := omega) only [w64, w32, wu8, wu16, wu32, wu64]
    | ((with_reducible refine o_call (x1) ?he ?hc ?_); (case he | hc => first | rfl | (simp [D.erL, D.er, D.closedL, D.closed]; done)))
    | ((with_reducible refine o_call (x2) ?he ?hc ?_); (case he | hc => first | rfl | (simp [D.erL, D.er, D.closedL, D.closed]; done)))
    | with_reducible first | apply cd_dec | apply cd_eq | apply cd_ne | apply cd_split | apply gd_dec | apply gd_eq | apply gd_ne | apply gd_split
    | ((with_reducible refine And.intro ?hw ?_); (case hw => first | omega | rfl | exact ⟨_, _, rfl⟩ | assumption | (simp only [lN] <;> omega)))
    | with_reducible intro _)
        all_goals try omega
        all_goals refine ⟨i + 1, by omega, by omega, ?_⟩
        all_goals simp [St.keep, keepE]
        all_goals first
          | exact hset _ (by rw [hc]; repeat' split <;> first | rfl | omega)
          | exact hskip (by rw [hc]; repeat' split <;> first | rfl | omega)
      · have t0 : decide (97 ≤ (i : Int)) = false := by simp; omega
        have t1 : decide ((i : Int) ≤ 122) = true := by simp; omega
        have t2 : decide (65 ≤ (i : Int)) = true := by simp; omega
        have t3 : decide ((i : Int) ≤ 90) = false := by simp; omega
        have t4 : decide (48 ≤ (i : Int)) = true := by simp; omega
        have t5 : decide ((i : Int) ≤ 57) = false := by simp; omega
        repeat' (first
    | with_reducible first | apply swp_seq | apply swp_reg | apply swp_regD | apply swp_block | apply swp_exit | apply swp_ret | apply swp_skip | apply swp_cd
    | simp only [go_sem, seval, P50, q50, hl, t0, t1, t2, t3, t4, t5]
    | simp (disch := omega) only [w64, w32, wu8, wu16, wu32, wu64]
    | ((with_reducible refine o_call (x1) ?he ?hc ?_); (case he | hc => first | rfl | (simp [D.erL, D.er, D.closedL, D.closed]; done)))
    | ((with_reducible refine o_call (x2) ?he ?hc ?_); (case he | hc => first | rfl | (simp [D.erL, D.er, D.closedL, D.closed]; done)))
    | with_reducible first | apply cd_dec | apply cd_eq | apply cd_ne | apply cd_split | apply gd_dec | apply gd_eq | apply gd_ne | apply gd_split
    | ((with_reducible refine And.intro ?hw ?_); (case hw => first | omega | rfl | exact ⟨_, _, rfl⟩ | assumption | (simp only [lN] <;> omega)))
    | with_reducible intro _)
        all_goals try omega
        all_goals refine ⟨i + 1, by omega, by omega, ?_⟩
        all_goals simp [St.keep, keepE]
        all_goals first
          | exact hset _ (by rw [hc]; repeat' split <;> first | rfl | omega)
          | exact hskip (by rw [hc]; repeat' split <;> first | rfl | omega)
      · have t0 : decide (97 ≤ (i : Int)) = true := by simp; omega
        have t1 : decide ((i : Int) ≤ 122) = true := by simp; omega
        have t2 : decide (65 ≤ (i : Int)) = true := by simp; omega
        have t3 : decide ((i : Int) ≤ 90) = false := by simp; omega
        have t4 : decide (48 ≤ (i : Int)) = true := by simp; omega
        have t5 : decide ((i : Int) ≤ 57) = false := by simp; omega
        repeat' (first
    | with_reducible first | apply swp_seq | apply swp_reg | apply swp_regD | apply swp_block | apply swp_exit | apply swp_ret | apply swp_skip | apply swp_cd
    | simp only [go_sem, seval, P50, q50, hl, t0, t1, t2, t3, t4, t5]
    | simp (disch := omega) only [w64, w32, wu8, wu16, wu32, wu64]
    | ((with_reducible refine o_call (x1) ?he ?hc ?_); (case he | hc => first | rfl | (simp [D.erL, D.er, D.closedL, D.closed]; done)))
    | ((with_reducible refine o_call (x2) ?he ?hc ?_); (case he | hc => first | rfl | (simp [D.erL, D.er, D.closedL, D.closed]; done)))
    | with_reducible first | apply cd_dec | apply cd_eq | apply cd_ne | apply cd_split | apply gd_dec | apply gd_eq | apply gd_ne | apply gd_split
    | ((with_reducible refine And.intro ?hw ?_); (case hw => first | omega | rfl | exact ⟨_, _, rfl⟩ | assumption | (simp only [lN] <;> omega)))
    | with_reducible intro _)
        all_goals try omega
        all_goals refine ⟨i + 1, by omega, by omega, ?_⟩
        all_goals simp [St.keep, keepE]
        all_goals first
          | exact hset _ (by rw [hc]; repeat' split <;> first | rfl | omega)
          | exact hskip (by rw [hc]; repeat' split <;> first | rfl | omega)
      · have t0 : decide (97 ≤ (i : Int)) = true := by simp; omega
        have t1 : decide ((i : Int) ≤ 122) = false := by simp; omega
        have t2 : decide (65 ≤ (i : Int)) = true := by simp; omega
        have t3 : decide ((i : Int) ≤ 90) = false := by simp; omega
        have t4 : decide (48 ≤ (i : Int)) = true := by simp; omega
        have t5 : decide ((i : Int) ≤ 57) = false := by simp; omega
        repeat' (first
    | with_reducible first | apply swp_seq | apply swp_reg | apply swp_regD | apply swp_block | apply swp_exit | apply swp_ret | apply swp_skip | apply swp_cd
    | simp only [go_sem, seval, P50, q50, hl, t0, t1, t2, t3, t4, t5]
    | simp (disch := omega) only [w64, w32, wu8, wu16, wu32, wu64]
    | ((with_reducible refine o_call (x1) ?he ?hc ?_); (case he | hc => first | rfl | (simp [D.erL, D.er, D.closedL, D.closed]; done)))
    | ((with_reducible refine o_call (x2) ?he ?hc ?_); (case he | hc => first | rfl | (simp [D.erL, D.er, D.closedL, D.closed]; done)))
    | with_reducible first | apply cd_dec | apply cd_eq | apply cd_ne | apply cd_split | apply gd_dec | apply gd_eq | apply gd_ne | apply gd_split
    | ((with_reducible refine And.intro ?hw ?_); (case hw => first | omega | rfl | exact ⟨_, _, rfl⟩ | assumption | (simp only [lN] <;> omega)))
    | with_reducible intro _)
        all_goals try omega
        all_goals refine ⟨i + 1, by omega, by omega, ?_⟩
        all_goals simp [St.keep, keepE]
        all_goals first
          | exact hset _ (by rw [hc]; repeat' split <;> first | rfl | omega)
          | exact hskip (by rw [hc]; repeat' split <;> first | rfl | omega)
    · obtain rfl : i = 256 := by omega
      generalize tblN 256 = T1 at *
      have hk := tbl_len
      have htk : tbl.take 256 = tbl := List.take_of_length_le (by omega)
      have hsf : setL zl256 0 tbl = tbl := setL_full (by omega)
      have hmin : min 256 tbl.length = 256 := by omega
      have hcl := tbl_cl
      repeat' (first
    | with_reducible first | apply swp_seq | apply swp_reg | apply swp_regD | apply swp_block | apply swp_exit | apply swp_ret | apply swp_skip | apply swp_cd
    | simp only [go_sem, seval, P50, q50, hl, List.length_set, hz, ht, htk, hsf, hmin, hk]
    | simp (disch := omega) only [w64, w32, wu8, wu16, wu32, wu64]
    | with_reducible first | apply cd_dec | apply cd_eq | apply cd_ne | apply cd_split | apply gd_dec | apply gd_eq | apply gd_ne | apply gd_split
    | ((with_reducible refine And.intro ?hw ?_); (case hw => first | omega | rfl | exact ⟨_, _, rfl⟩ | assumption | (simp only [lN, hl, List.length_set, hcl] <;> omega)))
    | with_reducible intro _)
      all_goals first | omega | skip
      all_goals simp [D.closed, D.er, D.closedL, D.erL, hl, hcl.1, hcl.2]
end Go.Proofs.Ytcchbohfcmfmlaa
end
section
set_option maxRecDepth 100000
set_option linter.unusedSimpArgs false
set_option linter.unusedVariables false
namespace Go.Proofs.Ytcchbohfcmfmlaa
open Go GoV Go.RowKit
/-! ### Names -/
def clsB (c : UInt8) : Int := if c.toNat = 35 then 2 else if c.toNat = 95 then 5 else if c.toNat = 34 then 7 else cls0 c.toNat
theorem clsB_get (c : UInt8) : tbl.getD c.toNat .undef = .int .u8 (clsB c) := tbl_get (UInt8.toNat_lt c)
theorem cls_cases (c : UInt8) : (clsB c = 3 ↔ isLet c = true) ∧ (clsB c = 4 ↔ isDig c = true) ∧ (clsB c = 5 ↔ (c == 95) = true) := by
  have hc : c.toNat < 256 := UInt8.toNat_lt c
  have e1 : ∀ k : Nat, k < 256 → ((UInt8.ofNat k ≤ c) ↔ k ≤ c.toNat) := fun k hk => by
    rw [UInt8.le_iff_toNat_le]; simp [UInt8.toNat_ofNat']; omega
  have e2 : ∀ k : Nat, k < 256 → ((c ≤ UInt8.ofNat k) ↔ c.toNat ≤ k) := fun k hk => by
    rw [UInt8.le_iff_toNat_le]; simp [UInt8.toNat_ofNat']; omega
  have l1 := e1 97 (by omega); have l2 := e2 122 (by omega); have l3 := e1 65 (by omega); have l4 := e2 90 (by omega); have l5 := e1 48 (by omega); have l6 := e2 57 (by omega)
  have l7 : (c == 95) = true ↔ c.toNat = 95 := by
    rw [beq_iff_eq]
    constructor
    · rintro rfl; rfl
    · intro h; exact UInt8.toNat_inj.1 h
  have a1 : isLet c = true ↔ (97 ≤ c.toNat ∧ c.toNat ≤ 122) ∨ (65 ≤ c.toNat ∧ c.toNat ≤ 90) := by
    simp only [isLet, Bool.or_eq_true, Bool.and_eq_true, decide_eq_true_eq]
    rw [show (97 : UInt8) = UInt8.ofNat 97 from rfl, show (122 : UInt8) = UInt8.ofNat 122 from rfl, show (65 : UInt8) = UInt8.ofNat 65 from rfl, show (90 : UInt8) = UInt8.ofNat 90 from rfl, l1, l2, l3, l4]
  have a2 : isDig c = true ↔ 48 ≤ c.toNat ∧ c.toNat ≤ 57 := by
    simp only [isDig, Bool.and_eq_true, decide_eq_true_eq]
    rw [show (48 : UInt8) = UInt8.ofNat 48 from rfl, show (57 : UInt8) = UInt8.ofNat 57 from rfl, l5, l6]
  rw [a1, a2, l7]
  unfold clsB
  rw [cls0_eq]
  refine ⟨?_, ?_, ?_⟩ <;> repeat' split
  all_goals omega
def nameB (c : UInt8) (first : Bool) : Bool := isLet c || (!first && (isDig c || c == 95))
theorem nameOk_cons (c : UInt8) (r : List UInt8) : nameOk (c :: r) = (isLet c && (r.all fun c => nameB c false) && decide ((c :: r).length ≤ 24)) := by
  simp only [nameOk]
  congr 2
  congr 1
  funext c
  simp [nameB, Bool.or_assoc]
def okTo (s : List UInt8) (i : Nat) : Prop := ∀ j, j < i → nameB (s.getD j 0) (j == 0) = true
theorem okTo_all (s : List UInt8) : okTo s s.length ↔ (s = [] ∨ (match s with | [] => false | c :: r => isLet c && r.all fun c => nameB c false) = true) := by
  cases s with
  | nil => simp [okTo]
  | cons c r =>
    simp only [okTo, List.length_cons, reduceCtorEq, false_or, Bool.and_eq_true, List.all_eq_true]
    constructor
    · intro h
      refine ⟨by have := h 0 (by omega); simpa [nameB] using this, fun x hx => ?_⟩
      obtain ⟨k, hk, rfl⟩ := List.getElem_of_mem hx
      have := h (k + 1) (by omega)
      simpa [List.getD, hk] using this
    · rintro ⟨h1, h2⟩ j hj
      cases j with
      | zero => simp [nameB, h1]
      | succ j =>
        have hj' : j < r.length := by omega
        have := h2 r[j] (List.getElem_mem hj')
        simpa [List.getD, hj'] using this
theorem nameOk_eq (s : List UInt8) (h : okTo s s.length) : nameOk s = (!(s == []) && decide (s.length ≤ 24)) := by
  cases s with
  | nil => rfl
  | cons c r =>
    rw [nameOk_cons]
    have := (okTo_all (c :: r)).1 h
    simp only [reduceCtorEq, false_or] at this
    rw [this]; simp
theorem nameOk_bad (s : List UInt8) {i : Nat} (hi : i < s.length) (h : nameB (s.getD i 0) (i == 0) = false) : nameOk s = false := by
  cases s with
  | nil => simp at hi
  | cons c r =>
    rw [nameOk_cons]
    cases e : (isLet c && r.all fun c => nameB c false) with
    | false => rfl
    | true =>
      have := (okTo_all (c :: r)).2 (.inr e) i hi
      rw [h] at this; cases this
set_option maxHeartbeats 1000000 in
theorem name_p (s : List UInt8) (hs : s.length < 9223372036854775807) : Pur M 33 [.str s] (.bool (nameOk s)) := by
  refine ok33 rfl ?_
  rw [i33]
  unfold c33
  have c1 := classes_p
  have hk := tbl_len
  have htk : tbl.take 256 = tbl := List.take_of_length_le (by omega)
  have hz := zl_len
  have hsf : setL zl256 0 tbl = tbl := setL_full (by omega)
  have hmin : min 256 tbl.length = 256 := by omega
  repeat' (first
    | with_reducible first | apply swp_seq | apply swp_reg | apply swp_regD | apply swp_block | apply swp_exit | apply swp_ret | apply swp_skip | apply swp_cd
    | simp only [go_sem, seval, P33, q33, hz, hk, htk, hsf, hmin]
    | simp (disch := omega) only [w64, w32, wu8, wu16, wu32, wu64]
    | ((with_reducible refine o_call (c1) ?he ?hc ?_); (case he | hc => first | rfl | (simp [D.erL, D.er, D.closedL, D.closed]; done)))
    | with_reducible first | apply cd_dec | apply cd_eq | apply cd_ne | apply cd_split | apply gd_dec | apply gd_eq | apply gd_ne | apply gd_split
    | ((with_reducible refine And.intro ?hw ?_); (case hw => first | omega | rfl | exact ⟨_, _, rfl⟩ | assumption | (simp only [lN] <;> omega)))
    | with_reducible intro _)
  refine swp_fam [0, 1, 2, 5, 6] (fun i : Nat => ⟨[.str s, .bool false, .ptr 0 0, .undef, .undef, .int .i64 s.length, .int .i64 i, .undef, .undef], [], ⟨[.cells tbl], []⟩⟩) (fun i => i ≤ s.length ∧ okTo s i) (fun i => s.length - i) 0 ⟨by omega, fun j hj => by omega⟩ ?_ ?_
  · simp [keepE, St.keep]
  · rintro i ⟨g1, g2⟩
    by_cases hi : i < s.length
    · have hg := clsB_get (s.getD i 0)
      obtain ⟨k1, k2, k3⟩ := cls_cases (s.getD i 0)
      have hlt : (s.getD i 0).toNat < 256 := UInt8.toNat_lt _
      have hb : nameB (s.getD i 0) (i == 0) = (decide (clsB (s.getD i 0) = 3) || (!(i == 0) && (decide (clsB (s.getD i 0) = 4) || decide (clsB (s.getD i 0) = 5)))) := by
        unfold nameB
        congr 1
        · rw [Bool.eq_iff_iff, decide_eq_true_eq]; exact k1.symm
        · congr 1
          congr 1
          · rw [Bool.eq_iff_iff, decide_eq_true_eq]; exact k2.symm
          · rw [Bool.eq_iff_iff, decide_eq_true_eq]; exact k3.symm
      have hbad := nameOk_bad s hi
      have hstep : nameB (s.getD i 0) (i == 0) = true → okTo s (i + 1) := fun h j hj => by
        by_cases e : j = i
        · subst e; exact h
        · exact g2 j (by omega)
      rw [hb] at hbad hstep
      generalize clsB (s.getD i 0) = cl at *
      repeat' (first
    | with_reducible first | apply swp_seq | apply swp_reg | apply swp_regD | apply swp_block | apply swp_exit | apply swp_ret | apply swp_skip | apply swp_cd
    | simp only [go_sem, seval, P33, q33, Nat.mul_one, hk, hg]
    | simp (disch := omega) only [w64, w32, wu8, wu16, wu32, wu64]
    | with_reducible first | apply cd_dec | apply cd_eq | apply cd_ne | apply cd_split | apply gd_dec | apply gd_eq | apply gd_ne | apply gd_split
    | ((with_reducible refine And.intro ?hw ?_); (case hw => first | omega | rfl | exact ⟨_, _, rfl⟩ | assumption | (simp only [lN, hk, hlt] <;> omega)))
    | with_reducible intro _)
      all_goals try omega
      all_goals first
        | (refine ⟨i + 1, ⟨by omega, hstep (by simp only [Bool.or_eq_true, Bool.and_eq_true, decide_eq_true_eq, Bool.not_eq_true', beq_eq_false_iff_ne]; omega)⟩, by omega, ?_⟩; simp [St.keep, keepE])
        | (rw [hbad (by simp only [Bool.or_eq_false_iff, Bool.and_eq_false_iff, decide_eq_false_iff_not, Bool.not_eq_false', beq_iff_eq]; omega)])
        | skip
    · obtain rfl : i = s.length := by omega
      rw [nameOk_eq s g2]
      repeat' (first
    | with_reducible first | apply swp_seq | apply swp_reg | apply swp_regD | apply swp_block | apply swp_exit | apply swp_ret | apply swp_skip | apply swp_cd
    | simp only [go_sem, seval, P33, q33, hk]
    | simp (disch := omega) only [w64, w32, wu8, wu16, wu32, wu64]
    | with_reducible first | apply cd_dec | apply cd_eq | apply cd_ne | apply cd_split | apply gd_dec | apply gd_eq | apply gd_ne | apply gd_split
    | ((with_reducible refine And.intro ?hw ?_); (case hw => first | omega | rfl | exact ⟨_, _, rfl⟩ | assumption | (simp only [lN, hk] <;> omega)))
    | with_reducible intro _)
      all_goals try omega
      all_goals simp [D.closed, D.er, D.closedL, D.erL]
      all_goals clear g1 g2 hi hs
      all_goals rcases s with _ | ⟨c, r⟩
      all_goals first | (simp_all; done) | (simp; omega) | (simp only [List.isEmpty_cons, Bool.not_false, Bool.true_and]; exact decide_eq_decide.2 (by simp <;> omega))
/-! ### Reserved words -/
theorem index76 (l : List (List UInt8)) (s : List UInt8) (hl : l.length < 4611686018427387904) (i : Nat) (hi : i < l.length) (he : l[i] = s) (hm : ∀ j (h : j < i), l[j] ≠ s) :
    Pur M 76 [.slice (strs l) .no, .str s] (.int .i64 i) := by
  refine ok76 rfl ?_
  rw [i76]
  unfold c76
  have hlen : (strs l).length = l.length := by simp [strs]
  repeat' (first
    | with_reducible first | apply swp_seq | apply swp_reg | apply swp_regD | apply swp_block | apply swp_exit | apply swp_ret | apply swp_skip | apply swp_cd
    | simp only [go_sem, seval, P76, q76, hlen]
    | simp (disch := omega) only [w64, w32, wu8, wu16, wu32, wu64]
    | with_reducible first | apply cd_dec | apply cd_eq | apply cd_ne | apply cd_split
    | ((with_reducible refine And.intro ?hw ?_); (case hw => first | omega | rfl | exact ⟨_, _, rfl⟩ | assumption | (simp only [lN, hlen] <;> omega)))
    | with_reducible intro _)
  refine swp_fam [0, 1, 2, 4, 5] (fun j : Nat => ⟨[.slice (strs l) .no, .str s, .int .i64 0, .undef, .int .i64 l.length, .int .i64 j, .undef, .undef], [], ⟨[], []⟩⟩) (fun j => j ≤ i) (fun j => l.length - j) 0 (by omega) ?_ ?_
  · simp [keepE, St.keep]
  · intro j hj
    have hjl : j < l.length := by omega
    have hg : (strs l).getD j .undef = .str l[j] := by simp [strs, List.getD, hjl]
    have hb : (s == l[j]) = decide (j = i) := by
      by_cases e : j = i
      · subst e; simp [he]
      · have := hm j (by omega)
        simp [e, Ne.symm this]
    repeat' (first
    | with_reducible first | apply swp_seq | apply swp_reg | apply swp_regD | apply swp_block | apply swp_exit | apply swp_ret | apply swp_skip | apply swp_cd
    | simp only [go_sem, seval, P76, q76, hlen, hg, hb]
    | simp (disch := omega) only [w64, w32, wu8, wu16, wu32, wu64]
    | with_reducible first | apply cd_dec | apply cd_eq | apply cd_ne | apply cd_split
    | ((with_reducible refine And.intro ?hw ?_); (case hw => first | omega | rfl | exact ⟨_, _, rfl⟩ | assumption | (simp only [lN, hlen, hg] <;> omega)))
    | with_reducible intro _)
    all_goals try omega
    all_goals first
      | (refine ⟨j + 1, by omega, by omega, ?_⟩; simp [St.keep, keepE])
      | (rename_i h; subst h; simp [D.closed, D.er, D.closedL, D.erL])
      | skip
theorem index76n (l : List (List UInt8)) (s : List UInt8) (hl : l.length < 4611686018427387904) (hm : ∀ j (h : j < l.length), l[j] ≠ s) :
    Pur M 76 [.slice (strs l) .no, .str s] (.int .i64 (-1)) := by
  refine ok76 rfl ?_
  rw [i76]
  unfold c76
  have hlen : (strs l).length = l.length := by simp [strs]
  repeat' (first
    | with_reducible first | apply swp_seq | apply swp_reg | apply swp_regD | apply swp_block | apply swp_exit | apply swp_ret | apply swp_skip | apply swp_cd
    | simp only [go_sem, seval, P76, q76, hlen]
    | simp (disch := omega) only [w64, w32, wu8, wu16, wu32, wu64]
    | with_reducible first | apply cd_dec | apply cd_eq | apply cd_ne | apply cd_split
    | ((with_reducible refine And.intro ?hw ?_); (case hw => first | omega | rfl | exact ⟨_, _, rfl⟩ | assumption | (simp only [lN, hlen] <;> omega)))
    | with_reducible intro _)
  refine swp_fam [0, 1, 2, 4, 5] (fun j : Nat => ⟨[.slice (strs l) .no, .str s, .int .i64 0, .undef, .int .i64 l.length, .int .i64 j, .undef, .undef], [], ⟨[], []⟩⟩) (fun j => j ≤ l.length) (fun j => l.length - j) 0 (by omega) ?_ ?_
  · simp [keepE, St.keep]
  · intro j hj
    by_cases hjl : j < l.length
    · have hg : (strs l).getD j .undef = .str l[j] := by simp [strs, List.getD, hjl]
      have hb : (s == l[j]) = false := by
        have := hm j hjl
        simp [Ne.symm this]
      repeat' (first
    | with_reducible first | apply swp_seq | apply swp_reg | apply swp_regD | apply swp_block | apply swp_exit | apply swp_ret | apply swp_skip | apply swp_cd
    | simp only [go_sem, seval, P76, q76, hlen, hg, hb]
    | simp (disch := omega) only [w64, w32, wu8, wu16, wu32, wu64]
    | with_reducible first | apply cd_dec | apply cd_eq | apply cd_ne | apply cd_split
    | ((with_reducible refine And.intro ?hw ?_); (case hw => first | omega | rfl | exact ⟨_, _, rfl⟩ | assumption | (simp only [lN, hlen, hg] <;> omega)))
    | with_reducible intro _)
      all_goals try omega
      all_goals first
        | (refine ⟨j + 1, by omega, by omega, ?_⟩; simp [St.keep, keepE])
        | skip
    · repeat' (first
    | with_reducible first | apply swp_seq | apply swp_reg | apply swp_regD | apply swp_block | apply swp_exit | apply swp_ret | apply swp_skip | apply swp_cd
    | simp only [go_sem, seval, P76, q76, hlen]
    | simp (disch := omega) only [w64, w32, wu8, wu16, wu32, wu64]
    | with_reducible first | apply cd_dec | apply cd_eq | apply cd_ne | apply cd_split
    | ((with_reducible refine And.intro ?hw ?_); (case hw => first | omega | rfl | exact ⟨_, _, rfl⟩ | assumption | (simp only [lN, hlen] <;> omega)))
    | with_reducible intro _)
      all_goals try omega
      all_goals simp [D.closed, D.er, D.closedL, D.erL]
theorem first_of {α : Type} {p : α → Prop} [DecidablePred p] : ∀ (l : List α), (∃ i, ∃ h : i < l.length, p l[i] ∧ ∀ j (g : j < i), ¬ p l[j]) ∨ ∀ j (h : j < l.length), ¬ p l[j]
  | [] => .inr (by simp)
  | x :: l => by
    by_cases hx : p x
    · exact .inl ⟨0, by simp, hx, by simp⟩
    · rcases first_of (p := p) l with ⟨i, h, h1, h2⟩ | h
      · refine .inl ⟨i + 1, by simpa using h, by simpa using h1, fun j g => ?_⟩
        cases j with
        | zero => simpa using hx
        | succ j => simpa using h2 j (by omega)
      · refine .inr fun j hj => ?_
        cases j with
        | zero => simpa using hx
        | succ j => simpa using h j (by simpa using hj)
theorem contains66 (l : List (List UInt8)) (s : List UInt8) (hl : l.length < 4611686018427387904) : Pur M 66 [.slice (strs l) .no, .str s] (.bool (l.contains s)) := by
  refine ok66 rfl ?_
  rw [i66]
  unfold c66
  rcases first_of (p := fun x => x = s) l with ⟨i, h, h1, h2⟩ | h
  · have c1 := index76 l s hl i h h1 h2
    have hc : l.contains s = true := by simp only [List.contains_iff_mem]; rw [← h1]; exact List.getElem_mem h
    rw [hc]
    repeat' (first
    | with_reducible first | apply swp_seq | apply swp_reg | apply swp_regD | apply swp_block | apply swp_exit | apply swp_ret | apply swp_skip | apply swp_cd
    | simp only [go_sem, seval, P66, q66]
    | simp (disch := omega) only [w64, w32, wu8, wu16, wu32, wu64]
    | ((with_reducible refine o_call (c1) ?he ?hc ?_); (case he | hc => first | rfl | (simp [D.erL, D.er, D.closedL, D.closed]; done)))
    | with_reducible first | apply cd_dec | apply cd_eq | apply cd_ne | apply cd_split
    | ((with_reducible refine And.intro ?hw ?_); (case hw => first | omega | rfl | exact ⟨_, _, rfl⟩ | assumption | (simp only [lN] <;> omega)))
    | with_reducible intro _)
    all_goals simp [D.closed, D.er, D.closedL, D.erL]
  · have c1 := index76n l s hl h
    have hc : l.contains s = false := by
      cases e : l.contains s with
      | false => rfl
      | true =>
        simp only [List.contains_iff_mem] at e
        obtain ⟨j, hj, rfl⟩ := List.getElem_of_mem e
        exact absurd rfl (h j hj)
    rw [hc]
    repeat' (first
    | with_reducible first | apply swp_seq | apply swp_reg | apply swp_regD | apply swp_block | apply swp_exit | apply swp_ret | apply swp_skip | apply swp_cd
    | simp only [go_sem, seval, P66, q66]
    | simp (disch := omega) only [w64, w32, wu8, wu16, wu32, wu64]
    | ((with_reducible refine o_call (c1) ?he ?hc ?_); (case he | hc => first | rfl | (simp [D.erL, D.er, D.closedL, D.closed]; done)))
    | with_reducible first | apply cd_dec | apply cd_eq | apply cd_ne | apply cd_split
    | ((with_reducible refine And.intro ?hw ?_); (case hw => first | omega | rfl | exact ⟨_, _, rfl⟩ | assumption | (simp only [lN] <;> omega)))
    | with_reducible intro _)
    all_goals simp [D.closed, D.er, D.closedL, D.erL]
theorem reserved_p (s : List UInt8) : Pur M 55 [.str s] (.bool (words.contains s)) := by
  refine ok55 rfl ?_
  rw [i55]
  unfold c55
  have c1 := contains66 words s (by decide)
  simp only [strs, words, List.map_cons, List.map_nil] at c1
  repeat' (first
    | with_reducible first | apply swp_seq | apply swp_reg | apply swp_regD | apply swp_block | apply swp_exit | apply swp_ret | apply swp_skip | apply swp_cd
    | simp only [go_sem, seval, P55, q55]
    | simp (disch := omega) only [w64, w32, wu8, wu16, wu32, wu64]
    | ((with_reducible refine o_call (c1) ?he ?hc ?_); (case he | hc => first | rfl | (simp [D.erL, D.er, D.closedL, D.closed]; done)))
    | ((with_reducible apply s_bsl); (case he | hl | hc => first | rfl | assumption | omega | ((first | refine ⟨?_, ?_⟩ | skip) <;> first | omega | (simp only [lN] <;> omega)) | (simp [elemsK, D.isVal, D.cells, D.closedL, D.closed]; first | done | omega)))
    | with_reducible first | apply cd_dec | apply cd_eq | apply cd_ne | apply cd_split
    | ((with_reducible refine And.intro ?hw ?_); (case hw => first | omega | rfl | exact ⟨_, _, rfl⟩ | assumption | (simp only [lN] <;> omega)))
    | with_reducible intro _)
  all_goals simp [D.closed, D.er, D.closedL, D.erL, words]
end Go.Proofs.Ytcchbohfcmfmlaa
end
section
set_option maxRecDepth 100000
set_option linter.unusedSimpArgs false
set_option linter.unusedVariables false
namespace Go.Proofs.Ytcchbohfcmfmlaa
open Go GoV Go.RowKit
theorem y_ng {M : Mod} {F : (Nat → Bool) → Hp} {i : Nat} {oc : OC} {args : List Opd} {dst : Dst} {q : Bool} {r : List (RO × Bool)} {K : St → Prop} {s : St} {g : Opd} {want : Bool} (hg : s.get g = .bool (!want)) (hF : Still F i) (h : opsF M F (i + 1) r K ((s.setO g (.bool (!want))).put dst .skip)) :
    opsF M F i ((⟨dst, oc, args, some (g, want)⟩, q) :: r) K s := by
  simp only [opsF, headF, hg]
  have hne : ¬ (!want) = want := by cases want <;> decide
  exact ⟨fun e => absurd e hne, fun _ => ⟨hF, h⟩⟩
def limHp (n ex : Int) (E : Nat → Bool) : Hp := ⟨[.gone, .cells [.int .i64 5, .str [], .str [], if E 15 then .int .i64 n else .int .i64 0, if E 17 then .int .i64 ex else .int .i64 0, .lit (.slice none 0 0)]], []⟩
theorem limHp_still (n ex : Int) (i : Nat) (h5 : i ≠ 15) (h7 : i ≠ 17) : Still (limHp n ex) i := fun E _ => by
  have q5 : (15 == i) = false := beq_false_of_ne (Ne.symm h5)
  have q7 : (17 == i) = false := beq_false_of_ne (Ne.symm h7)
  simp only [limHp, q5, q7, Bool.or_false]
set_option maxHeartbeats 1000000 in
theorem node_lim (nm vl : List UInt8) (n ex : Int) (K : List D) (hcl : D.closedL K = true) (her : D.erL K = K) (Q : Ex → St → Prop)
    (hQ : Q .normal ⟨[.undef, .ip [.int .i64 5, .str nm, .str vl, .int .i64 n, .int .i64 ex, .slice K .no], .bool false, .ptr 1 0, .bool (((K.length : Nat) : Int) == 0), .bool true, .fn (.func 54) [] [], .bool (numOk n 0 && numOk ex 0), .undef, .undef, .undef, .undef, .undef, .undef, .undef, .undef, .undef, .undef, .undef, .undef], [], limHp n ex fun k => decide (k < 18)⟩) :
    SWp C36 (.regD r36_16 r36_17) Q ⟨[.undef, .ip [.int .i64 5, .str nm, .str vl, .int .i64 n, .int .i64 ex, .slice K .no], .bool false, .ptr 1 0, .bool (((K.length : Nat) : Int) == 0), .bool true, .fn (.func 54) [] [], .bool true, .undef, .undef, .undef, .undef, .undef, .undef, .undef, .undef, .undef, .undef, .undef, .undef], [], limHp n ex fun _ => false⟩ := by
  have st := limHp_still n ex
  refine swp_regDF2 (limHp n ex) rfl ?_
  rw [P36]
  generalize hc : (((K.length : Nat) : Int) == 0) = kb at *
  refine y_q (ds := [.ip [.int .i64 5, .str nm, .str vl, .int .i64 n, .int .i64 ex, .slice K .no]]) (.ip [.int .i64 n, .int .i64 ex, .slice K .no]) rfl (st _ (by decide) (by decide)) (fun _ => by simp [OcWp, isCall, opWp]) ?_
  refine y_q (ds := [.ip [.int .i64 n, .int .i64 ex, .slice K .no]]) (.int .i64 n) rfl (st _ (by decide) (by decide)) (fun _ => by simp [OcWp, isCall, opWp]) ?_
  refine y_q (ds := [.ip [.int .i64 5, .str nm, .str vl, .int .i64 n, .int .i64 ex, .slice K .no]]) (.ip [.int .i64 ex, .slice K .no]) rfl (st _ (by decide) (by decide)) (fun _ => by simp [OcWp, isCall, opWp]) ?_
  refine y_q (ds := [.ip [.int .i64 ex, .slice K .no]]) (.int .i64 ex) rfl (st _ (by decide) (by decide)) (fun _ => by simp [OcWp, isCall, opWp]) ?_
  refine y_q (ds := [.fn (.func 54) [] []]) (.fn (.func 54) [] []) rfl (st _ (by decide) (by decide)) (fun _ => by simp [OcWp, isCall, opWp]) ?_
  refine y_q (ds := [.ip [.int .i64 5, .str nm, .str vl, .int .i64 n, .int .i64 ex, .slice K .no]]) (.ip [.int .i64 n, .int .i64 ex, .slice K .no]) rfl (st _ (by decide) (by decide)) (fun _ => by simp [OcWp, isCall, opWp]) ?_
  refine y_q (ds := [.ip [.int .i64 n, .int .i64 ex, .slice K .no]]) (.int .i64 n) rfl (st _ (by decide) (by decide)) (fun _ => by simp [OcWp, isCall, opWp]) ?_
  refine y_q (ds := [.fn (.func 54) [] [], .int .i64 n, .int .i64 0]) (.bool (numOk n 0)) rfl (st _ (by decide) (by decide)) (fun _ => by
    simp only [OcWp, isCall, if_true]; exact call_pur (by simp [D.closedL, D.closed]) (num_p n 0) ⟨rfl, rfl⟩) ?_
  refine y_q (ds := [.bool (numOk n 0)]) (.bool (numOk n 0)) rfl (st _ (by decide) (by decide)) (fun _ => by simp [OcWp, isCall, opWp]) ?_
  have e15 : ∀ E : Nat → Bool, E 15 = false → OcWp M (.st 1) [.ptr 1 3, .int .i64 n] (limHp n ex E) (fun d' hp' => d' = .skip ∧ hp' = limHp n ex (fun j => E j || j == 15)) := fun E hE => by
    simp [OcWp, isCall, opWp, limHp, hE, Blk.csq, D.isVal, D.cells, Blk.putc, setL]
  have e17 : ∀ E : Nat → Bool, E 17 = false → OcWp M (.st 1) [.ptr 1 4, .int .i64 ex] (limHp n ex E) (fun d' hp' => d' = .skip ∧ hp' = limHp n ex (fun j => E j || j == 17)) := fun E hE => by
    simp [OcWp, isCall, opWp, limHp, hE, Blk.csq, D.isVal, D.cells, Blk.putc, setL]
  cases hb : numOk n 0
  · rw [hb] at hQ
    refine y_ng rfl (st _ (by decide) (by decide)) ?_
    refine y_ng rfl (st _ (by decide) (by decide)) ?_
    refine y_ng rfl (st _ (by decide) (by decide)) ?_
    refine y_ng rfl (st _ (by decide) (by decide)) ?_
    refine y_q (ds := [.bool false, .skip, .bool false]) (.bool false) rfl (st _ (by decide) (by decide)) (fun _ => by simp [OcWp, isCall, opWp]) ?_
    refine y_q (ds := [.ptr 1 0]) (.ptr 1 3) rfl (st _ (by decide) (by decide)) (fun _ => by simp [OcWp, isCall, opWp]) ?_
    refine y_c (ds := [.ptr 1 3, .int .i64 n]) (d := .skip) rfl (fun E hE => e15 E hE) ?_
    refine y_q (ds := [.ptr 1 0]) (.ptr 1 4) rfl (st _ (by decide) (by decide)) (fun _ => by simp [OcWp, isCall, opWp]) ?_
    refine y_c (ds := [.ptr 1 4, .int .i64 ex]) (d := .skip) rfl (fun E hE => e17 E hE) ?_
    refine y_end rfl ?_
    repeat' (first
    | with_reducible first | apply swp_seq | apply swp_reg | apply swp_regD | apply swp_block | apply swp_exit | apply swp_ret | apply swp_skip | apply swp_cd
    | simp only [go_sem, seval, P36, q36]
    | with_reducible first | apply cd_dec | apply cd_eq | apply cd_ne | apply cd_split | apply gd_dec | apply gd_eq | apply gd_ne | apply gd_split | apply gq_dec | apply gq_eq | apply gq_ne | apply gq_split
    | ((with_reducible refine And.intro ?hw ?_); (case hw => first | omega | rfl | exact ⟨_, _, rfl⟩ | assumption | (simp only [lN] <;> omega)))
    | with_reducible intro _)
    exact hQ
  · rw [hb] at hQ
    refine y_qg (ds := [.fn (.func 54) [] []]) (.fn (.func 54) [] []) rfl rfl (st _ (by decide) (by decide)) (fun _ => by simp [OcWp, isCall, opWp]) ?_
    refine y_qg (ds := [.ip [.int .i64 5, .str nm, .str vl, .int .i64 n, .int .i64 ex, .slice K .no]]) (.ip [.int .i64 ex, .slice K .no]) rfl rfl (st _ (by decide) (by decide)) (fun _ => by simp [OcWp, isCall, opWp]) ?_
    refine y_qg (ds := [.ip [.int .i64 ex, .slice K .no]]) (.int .i64 ex) rfl rfl (st _ (by decide) (by decide)) (fun _ => by simp [OcWp, isCall, opWp]) ?_
    refine y_qg (ds := [.fn (.func 54) [] [], .int .i64 ex, .int .i64 0]) (.bool (numOk ex 0)) rfl rfl (st _ (by decide) (by decide)) (fun _ => by
      simp only [OcWp, isCall, if_true]; exact call_pur (by simp [D.closedL, D.closed]) (num_p ex 0) ⟨rfl, rfl⟩) ?_
    refine y_q (ds := [.bool true, .bool (numOk ex 0), .bool false]) (.bool (numOk ex 0)) rfl (st _ (by decide) (by decide)) (fun _ => by simp [OcWp, isCall, opWp]) ?_
    refine y_q (ds := [.ptr 1 0]) (.ptr 1 3) rfl (st _ (by decide) (by decide)) (fun _ => by simp [OcWp, isCall, opWp]) ?_
    refine y_c (ds := [.ptr 1 3, .int .i64 n]) (d := .skip) rfl (fun E hE => e15 E hE) ?_
    refine y_q (ds := [.ptr 1 0]) (.ptr 1 4) rfl (st _ (by decide) (by decide)) (fun _ => by simp [OcWp, isCall, opWp]) ?_
    refine y_c (ds := [.ptr 1 4, .int .i64 ex]) (d := .skip) rfl (fun E hE => e17 E hE) ?_
    refine y_end rfl ?_
    repeat' (first
    | with_reducible first | apply swp_seq | apply swp_reg | apply swp_regD | apply swp_block | apply swp_exit | apply swp_ret | apply swp_skip | apply swp_cd
    | simp only [go_sem, seval, P36, q36]
    | with_reducible first | apply cd_dec | apply cd_eq | apply cd_ne | apply cd_split | apply gd_dec | apply gd_eq | apply gd_ne | apply gd_split | apply gq_dec | apply gq_eq | apply gq_ne | apply gq_split
    | ((with_reducible refine And.intro ?hw ?_); (case hw => first | omega | rfl | exact ⟨_, _, rfl⟩ | assumption | (simp only [lN] <;> omega)))
    | with_reducible intro _)
    exact hQ
set_option maxHeartbeats 4000000 in
theorem node_p (x : X) (hn : x.nam.length < 9223372036854775807) (hv : x.val.length < 9223372036854775807) : Pur M 36 [x.d] (.bool (nodeOk x.op x.nam x.val x.num x.ext x.kids.length)) := by
  refine ok36 rfl ?_
  rw [i36]
  unfold c36
  have c1 := name_p x.nam hn
  have c2 := name_p x.val hv
  have c3 := reserved_p x.nam
  have c4 := num_p x.num 0
  have c5 := num_p x.num 1
  have hcl := closedL_X x.kids
  have her := erL_X x.kids
  have hl : (x.kids.map X.d).length = x.kids.length := by simp
  rw [X.d_eq]
  unfold X.cells
  obtain ⟨op, nm, vl, n, ex, ks⟩ := x
  simp only [X.op, X.nam, X.val, X.num, X.ext, X.kids] at *
  have hlim := node_lim nm vl n ex (ks.map X.d) hcl her
  rw [hl] at hlim
  generalize ks.map X.d = K at *
  generalize ks.length = kl at *
  obtain ⟨rc, hrc⟩ : ∃ rc, rc = RC.regD r36_16 r36_17 := ⟨_, rfl⟩
  rw [← hrc] at hlim ⊢
  by_cases h1 : op = 1
  · subst h1
    repeat' (first
    | with_reducible first | apply swp_seq | apply swp_reg | apply swp_regD | apply swp_block | apply swp_exit | apply swp_ret | apply swp_skip | apply swp_cd
    | simp only [go_sem, seval, P36, q36, hl, fillL]
    | ((with_reducible first | refine o_call (c1) ?he ?hc ?_ | refine p_call (c1) ?he ?hc ?_ | refine c_call (c1) ?he ?hc ?_); (case he | hc => first | rfl | (simp [D.erL, D.er, D.closedL, D.closed]; done)))
    | ((with_reducible first | refine o_call (c2) ?he ?hc ?_ | refine p_call (c2) ?he ?hc ?_ | refine c_call (c2) ?he ?hc ?_); (case he | hc => first | rfl | (simp [D.erL, D.er, D.closedL, D.closed]; done)))
    | ((with_reducible first | refine o_call (c3) ?he ?hc ?_ | refine p_call (c3) ?he ?hc ?_ | refine c_call (c3) ?he ?hc ?_); (case he | hc => first | rfl | (simp [D.erL, D.er, D.closedL, D.closed]; done)))
    | ((with_reducible first | refine o_call (c4) ?he ?hc ?_ | refine p_call (c4) ?he ?hc ?_ | refine c_call (c4) ?he ?hc ?_); (case he | hc => first | rfl | (simp [D.erL, D.er, D.closedL, D.closed]; done)))
    | ((with_reducible first | refine o_call (c5) ?he ?hc ?_ | refine p_call (c5) ?he ?hc ?_ | refine c_call (c5) ?he ?hc ?_); (case he | hc => first | rfl | (simp [D.erL, D.er, D.closedL, D.closed]; done)))
    | with_reducible first | apply cd_dec | apply cd_eq | apply cd_ne | apply cd_split | apply gd_dec | apply gd_eq | apply gd_ne | apply gd_split | apply gq_dec | apply gq_eq | apply gq_ne | apply gq_split
    | ((with_reducible refine And.intro ?hw ?_); (case hw => first | omega | rfl | exact ⟨_, _, rfl⟩ | assumption | (simp only [lN] <;> omega)))
    | with_reducible intro _)
    all_goals (congr 1; rw [Bool.eq_iff_iff]; simp only [nodeOk]; first | (simp_all; done) | (simp_all; omega) | (simp_all [eq_comm]; done) | (simp_all [eq_comm]; omega))
  by_cases h2 : op = 2
  · subst h2
    repeat' (first
    | with_reducible first | apply swp_seq | apply swp_reg | apply swp_regD | apply swp_block | apply swp_exit | apply swp_ret | apply swp_skip | apply swp_cd
    | simp only [go_sem, seval, P36, q36, hl, fillL]
    | ((with_reducible first | refine o_call (c1) ?he ?hc ?_ | refine p_call (c1) ?he ?hc ?_ | refine c_call (c1) ?he ?hc ?_); (case he | hc => first | rfl | (simp [D.erL, D.er, D.closedL, D.closed]; done)))
    | ((with_reducible first | refine o_call (c2) ?he ?hc ?_ | refine p_call (c2) ?he ?hc ?_ | refine c_call (c2) ?he ?hc ?_); (case he | hc => first | rfl | (simp [D.erL, D.er, D.closedL, D.closed]; done)))
    | ((with_reducible first | refine o_call (c3) ?he ?hc ?_ | refine p_call (c3) ?he ?hc ?_ | refine c_call (c3) ?he ?hc ?_); (case he | hc => first | rfl | (simp [D.erL, D.er, D.closedL, D.closed]; done)))
    | ((with_reducible first | refine o_call (c4) ?he ?hc ?_ | refine p_call (c4) ?he ?hc ?_ | refine c_call (c4) ?he ?hc ?_); (case he | hc => first | rfl | (simp [D.erL, D.er, D.closedL, D.closed]; done)))
    | ((with_reducible first | refine o_call (c5) ?he ?hc ?_ | refine p_call (c5) ?he ?hc ?_ | refine c_call (c5) ?he ?hc ?_); (case he | hc => first | rfl | (simp [D.erL, D.er, D.closedL, D.closed]; done)))
    | with_reducible first | apply cd_dec | apply cd_eq | apply cd_ne | apply cd_split | apply gd_dec | apply gd_eq | apply gd_ne | apply gd_split | apply gq_dec | apply gq_eq | apply gq_ne | apply gq_split
    | ((with_reducible refine And.intro ?hw ?_); (case hw => first | omega | rfl | exact ⟨_, _, rfl⟩ | assumption | (simp only [lN] <;> omega)))
    | with_reducible intro _)
    all_goals (congr 1; rw [Bool.eq_iff_iff]; simp only [nodeOk]; first | (simp_all; done) | (simp_all; omega) | (simp_all [eq_comm]; done) | (simp_all [eq_comm]; omega))
  by_cases h3 : op = 3
  · subst h3
    repeat' (first
    | with_reducible first | apply swp_seq | apply swp_reg | apply swp_regD | apply swp_block | apply swp_exit | apply swp_ret | apply swp_skip | apply swp_cd
    | simp only [go_sem, seval, P36, q36, hl, fillL]
    | ((with_reducible first | refine o_call (c1) ?he ?hc ?_ | refine p_call (c1) ?he ?hc ?_ | refine c_call (c1) ?he ?hc ?_); (case he | hc => first | rfl | (simp [D.erL, D.er, D.closedL, D.closed]; done)))
    | ((with_reducible first | refine o_call (c2) ?he ?hc ?_ | refine p_call (c2) ?he ?hc ?_ | refine c_call (c2) ?he ?hc ?_); (case he | hc => first | rfl | (simp [D.erL, D.er, D.closedL, D.closed]; done)))
    | ((with_reducible first | refine o_call (c3) ?he ?hc ?_ | refine p_call (c3) ?he ?hc ?_ | refine c_call (c3) ?he ?hc ?_); (case he | hc => first | rfl | (simp [D.erL, D.er, D.closedL, D.closed]; done)))
    | ((with_reducible first | refine o_call (c4) ?he ?hc ?_ | refine p_call (c4) ?he ?hc ?_ | refine c_call (c4) ?he ?hc ?_); (case he | hc => first | rfl | (simp [D.erL, D.er, D.closedL, D.closed]; done)))
    | ((with_reducible first | refine o_call (c5) ?he ?hc ?_ | refine p_call (c5) ?he ?hc ?_ | refine c_call (c5) ?he ?hc ?_); (case he | hc => first | rfl | (simp [D.erL, D.er, D.closedL, D.closed]; done)))
    | with_reducible first | apply cd_dec | apply cd_eq | apply cd_ne | apply cd_split | apply gd_dec | apply gd_eq | apply gd_ne | apply gd_split | apply gq_dec | apply gq_eq | apply gq_ne | apply gq_split
    | ((with_reducible refine And.intro ?hw ?_); (case hw => first | omega | rfl | exact ⟨_, _, rfl⟩ | assumption | (simp only [lN] <;> omega)))
    | with_reducible intro _)
    all_goals (congr 1; rw [Bool.eq_iff_iff]; simp only [nodeOk]; first | (simp_all; done) | (simp_all; omega) | (simp_all [eq_comm]; done) | (simp_all [eq_comm]; omega))
  by_cases h4 : op = 4
  · subst h4
    repeat' (first
    | with_reducible first | apply swp_seq | apply swp_reg | apply swp_regD | apply swp_block | apply swp_exit | apply swp_ret | apply swp_skip | apply swp_cd
    | simp only [go_sem, seval, P36, q36, hl, fillL]
    | ((with_reducible first | refine o_call (c1) ?he ?hc ?_ | refine p_call (c1) ?he ?hc ?_ | refine c_call (c1) ?he ?hc ?_); (case he | hc => first | rfl | (simp [D.erL, D.er, D.closedL, D.closed]; done)))
    | ((with_reducible first | refine o_call (c2) ?he ?hc ?_ | refine p_call (c2) ?he ?hc ?_ | refine c_call (c2) ?he ?hc ?_); (case he | hc => first | rfl | (simp [D.erL, D.er, D.closedL, D.closed]; done)))
    | ((with_reducible first | refine o_call (c3) ?he ?hc ?_ | refine p_call (c3) ?he ?hc ?_ | refine c_call (c3) ?he ?hc ?_); (case he | hc => first | rfl | (simp [D.erL, D.er, D.closedL, D.closed]; done)))
    | ((with_reducible first | refine o_call (c4) ?he ?hc ?_ | refine p_call (c4) ?he ?hc ?_ | refine c_call (c4) ?he ?hc ?_); (case he | hc => first | rfl | (simp [D.erL, D.er, D.closedL, D.closed]; done)))
    | ((with_reducible first | refine o_call (c5) ?he ?hc ?_ | refine p_call (c5) ?he ?hc ?_ | refine c_call (c5) ?he ?hc ?_); (case he | hc => first | rfl | (simp [D.erL, D.er, D.closedL, D.closed]; done)))
    | with_reducible first | apply cd_dec | apply cd_eq | apply cd_ne | apply cd_split | apply gd_dec | apply gd_eq | apply gd_ne | apply gd_split | apply gq_dec | apply gq_eq | apply gq_ne | apply gq_split
    | ((with_reducible refine And.intro ?hw ?_); (case hw => first | omega | rfl | exact ⟨_, _, rfl⟩ | assumption | (simp only [lN] <;> omega)))
    | with_reducible intro _)
    all_goals (congr 1; rw [Bool.eq_iff_iff]; simp only [nodeOk]; first | (simp_all; done) | (simp_all; omega) | (simp_all [eq_comm]; done) | (simp_all [eq_comm]; omega))
  by_cases h5 : op = 5
  · subst h5
    repeat' (first
    | with_reducible first | apply swp_seq | apply swp_reg | apply swp_regD | apply swp_block | apply swp_exit | apply swp_ret | apply swp_skip | apply swp_cd
    | simp only [go_sem, seval, P36, q36, hl, fillL]
    | ((with_reducible first | refine o_call (c1) ?he ?hc ?_ | refine p_call (c1) ?he ?hc ?_ | refine c_call (c1) ?he ?hc ?_); (case he | hc => first | rfl | (simp [D.erL, D.er, D.closedL, D.closed]; done)))
    | ((with_reducible first | refine o_call (c2) ?he ?hc ?_ | refine p_call (c2) ?he ?hc ?_ | refine c_call (c2) ?he ?hc ?_); (case he | hc => first | rfl | (simp [D.erL, D.er, D.closedL, D.closed]; done)))
    | ((with_reducible first | refine o_call (c3) ?he ?hc ?_ | refine p_call (c3) ?he ?hc ?_ | refine c_call (c3) ?he ?hc ?_); (case he | hc => first | rfl | (simp [D.erL, D.er, D.closedL, D.closed]; done)))
    | ((with_reducible first | refine o_call (c4) ?he ?hc ?_ | refine p_call (c4) ?he ?hc ?_ | refine c_call (c4) ?he ?hc ?_); (case he | hc => first | rfl | (simp [D.erL, D.er, D.closedL, D.closed]; done)))
    | ((with_reducible first | refine o_call (c5) ?he ?hc ?_ | refine p_call (c5) ?he ?hc ?_ | refine c_call (c5) ?he ?hc ?_); (case he | hc => first | rfl | (simp [D.erL, D.er, D.closedL, D.closed]; done)))
    | with_reducible first | apply cd_dec | apply cd_eq | apply cd_ne | apply cd_split | apply gd_dec | apply gd_eq | apply gd_ne | apply gd_split | apply gq_dec | apply gq_eq | apply gq_ne | apply gq_split
    | ((with_reducible refine And.intro ?hw ?_); (case hw => first | omega | rfl | exact ⟨_, _, rfl⟩ | assumption | (simp only [lN] <;> omega)))
    | with_reducible intro _)
    refine swp_weak (weak_trans (weak_keep [1, 2, 3, 4, 5, 6, 7]) (weak_frz 0 [.int .i64 5, .str nm, .str vl, .int .i64 n, .int .i64 ex, .slice K .no] rfl (Nat.le_refl 0) (by simp [D.closedL, D.closed, hcl]))) ?_
    simp only [St.frz, keepE, D.erL, D.er, her]
    simp [D.fz, D.fzL, Blk.mapD]
    refine hlim _ ?_
    simp only [limHp]
    simp only [show decide (15 < 18) = true from rfl, show decide (17 < 18) = true from rfl, if_true]
    have c6 := num_p ex 0
    repeat' (first
    | with_reducible first | apply swp_seq | apply swp_reg | apply swp_regD | apply swp_block | apply swp_exit | apply swp_ret | apply swp_skip | apply swp_cd
    | simp only [go_sem, seval, P36, q36, hl, fillL]
    | ((with_reducible first | refine o_call (c1) ?he ?hc ?_ | refine p_call (c1) ?he ?hc ?_ | refine c_call (c1) ?he ?hc ?_); (case he | hc => first | rfl | (simp [D.erL, D.er, D.closedL, D.closed]; done)))
    | ((with_reducible first | refine o_call (c2) ?he ?hc ?_ | refine p_call (c2) ?he ?hc ?_ | refine c_call (c2) ?he ?hc ?_); (case he | hc => first | rfl | (simp [D.erL, D.er, D.closedL, D.closed]; done)))
    | ((with_reducible first | refine o_call (c3) ?he ?hc ?_ | refine p_call (c3) ?he ?hc ?_ | refine c_call (c3) ?he ?hc ?_); (case he | hc => first | rfl | (simp [D.erL, D.er, D.closedL, D.closed]; done)))
    | ((with_reducible first | refine o_call (c4) ?he ?hc ?_ | refine p_call (c4) ?he ?hc ?_ | refine c_call (c4) ?he ?hc ?_); (case he | hc => first | rfl | (simp [D.erL, D.er, D.closedL, D.closed]; done)))
    | ((with_reducible first | refine o_call (c5) ?he ?hc ?_ | refine p_call (c5) ?he ?hc ?_ | refine c_call (c5) ?he ?hc ?_); (case he | hc => first | rfl | (simp [D.erL, D.er, D.closedL, D.closed]; done)))
    | with_reducible first | apply cd_dec | apply cd_eq | apply cd_ne | apply cd_split | apply gd_dec | apply gd_eq | apply gd_ne | apply gd_split | apply gq_dec | apply gq_eq | apply gq_ne | apply gq_split
    | ((with_reducible refine And.intro ?hw ?_); (case hw => first | omega | rfl | exact ⟨_, _, rfl⟩ | assumption | (simp only [lN] <;> omega)))
    | with_reducible intro _)
    all_goals try simp only [Option.getD_some, D.er]
    all_goals first | (simp [D.closed]; done) | (congr 1; rw [Bool.eq_iff_iff]; simp only [nodeOk]; first | (simp_all; done) | (simp_all; omega) | (simp_all [eq_comm]; done) | (simp_all [eq_comm]; omega))
  by_cases h6 : op = 6
  · subst h6
    repeat' (first
    | with_reducible first | apply swp_seq | apply swp_reg | apply swp_regD | apply swp_block | apply swp_exit | apply swp_ret | apply swp_skip | apply swp_cd
    | simp only [go_sem, seval, P36, q36, hl, fillL]
    | ((with_reducible first | refine o_call (c1) ?he ?hc ?_ | refine p_call (c1) ?he ?hc ?_ | refine c_call (c1) ?he ?hc ?_); (case he | hc => first | rfl | (simp [D.erL, D.er, D.closedL, D.closed]; done)))
    | ((with_reducible first | refine o_call (c2) ?he ?hc ?_ | refine p_call (c2) ?he ?hc ?_ | refine c_call (c2) ?he ?hc ?_); (case he | hc => first | rfl | (simp [D.erL, D.er, D.closedL, D.closed]; done)))
    | ((with_reducible first | refine o_call (c3) ?he ?hc ?_ | refine p_call (c3) ?he ?hc ?_ | refine c_call (c3) ?he ?hc ?_); (case he | hc => first | rfl | (simp [D.erL, D.er, D.closedL, D.closed]; done)))
    | ((with_reducible first | refine o_call (c4) ?he ?hc ?_ | refine p_call (c4) ?he ?hc ?_ | refine c_call (c4) ?he ?hc ?_); (case he | hc => first | rfl | (simp [D.erL, D.er, D.closedL, D.closed]; done)))
    | ((with_reducible first | refine o_call (c5) ?he ?hc ?_ | refine p_call (c5) ?he ?hc ?_ | refine c_call (c5) ?he ?hc ?_); (case he | hc => first | rfl | (simp [D.erL, D.er, D.closedL, D.closed]; done)))
    | with_reducible first | apply cd_dec | apply cd_eq | apply cd_ne | apply cd_split | apply gd_dec | apply gd_eq | apply gd_ne | apply gd_split | apply gq_dec | apply gq_eq | apply gq_ne | apply gq_split
    | ((with_reducible refine And.intro ?hw ?_); (case hw => first | omega | rfl | exact ⟨_, _, rfl⟩ | assumption | (simp only [lN] <;> omega)))
    | with_reducible intro _)
    all_goals (congr 1; rw [Bool.eq_iff_iff]; simp only [nodeOk]; first | (simp_all; done) | (simp_all; omega) | (simp_all [eq_comm]; done) | (simp_all [eq_comm]; omega))
  by_cases h7 : op = 7
  · subst h7
    repeat' (first
    | with_reducible first | apply swp_seq | apply swp_reg | apply swp_regD | apply swp_block | apply swp_exit | apply swp_ret | apply swp_skip | apply swp_cd
    | simp only [go_sem, seval, P36, q36, hl, fillL]
    | ((with_reducible first | refine o_call (c1) ?he ?hc ?_ | refine p_call (c1) ?he ?hc ?_ | refine c_call (c1) ?he ?hc ?_); (case he | hc => first | rfl | (simp [D.erL, D.er, D.closedL, D.closed]; done)))
    | ((with_reducible first | refine o_call (c2) ?he ?hc ?_ | refine p_call (c2) ?he ?hc ?_ | refine c_call (c2) ?he ?hc ?_); (case he | hc => first | rfl | (simp [D.erL, D.er, D.closedL, D.closed]; done)))
    | ((with_reducible first | refine o_call (c3) ?he ?hc ?_ | refine p_call (c3) ?he ?hc ?_ | refine c_call (c3) ?he ?hc ?_); (case he | hc => first | rfl | (simp [D.erL, D.er, D.closedL, D.closed]; done)))
    | ((with_reducible first | refine o_call (c4) ?he ?hc ?_ | refine p_call (c4) ?he ?hc ?_ | refine c_call (c4) ?he ?hc ?_); (case he | hc => first | rfl | (simp [D.erL, D.er, D.closedL, D.closed]; done)))
    | ((with_reducible first | refine o_call (c5) ?he ?hc ?_ | refine p_call (c5) ?he ?hc ?_ | refine c_call (c5) ?he ?hc ?_); (case he | hc => first | rfl | (simp [D.erL, D.er, D.closedL, D.closed]; done)))
    | with_reducible first | apply cd_dec | apply cd_eq | apply cd_ne | apply cd_split | apply gd_dec | apply gd_eq | apply gd_ne | apply gd_split | apply gq_dec | apply gq_eq | apply gq_ne | apply gq_split
    | ((with_reducible refine And.intro ?hw ?_); (case hw => first | omega | rfl | exact ⟨_, _, rfl⟩ | assumption | (simp only [lN] <;> omega)))
    | with_reducible intro _)
    all_goals (congr 1; rw [Bool.eq_iff_iff]; simp only [nodeOk]; first | (simp_all; done) | (simp_all; omega) | (simp_all [eq_comm]; done) | (simp_all [eq_comm]; omega))
  by_cases h8 : op = 8
  · subst h8
    repeat' (first
    | with_reducible first | apply swp_seq | apply swp_reg | apply swp_regD | apply swp_block | apply swp_exit | apply swp_ret | apply swp_skip | apply swp_cd
    | simp only [go_sem, seval, P36, q36, hl, fillL]
    | ((with_reducible first | refine o_call (c1) ?he ?hc ?_ | refine p_call (c1) ?he ?hc ?_ | refine c_call (c1) ?he ?hc ?_); (case he | hc => first | rfl | (simp [D.erL, D.er, D.closedL, D.closed]; done)))
    | ((with_reducible first | refine o_call (c2) ?he ?hc ?_ | refine p_call (c2) ?he ?hc ?_ | refine c_call (c2) ?he ?hc ?_); (case he | hc => first | rfl | (simp [D.erL, D.er, D.closedL, D.closed]; done)))
    | ((with_reducible first | refine o_call (c3) ?he ?hc ?_ | refine p_call (c3) ?he ?hc ?_ | refine c_call (c3) ?he ?hc ?_); (case he | hc => first | rfl | (simp [D.erL, D.er, D.closedL, D.closed]; done)))
    | ((with_reducible first | refine o_call (c4) ?he ?hc ?_ | refine p_call (c4) ?he ?hc ?_ | refine c_call (c4) ?he ?hc ?_); (case he | hc => first | rfl | (simp [D.erL, D.er, D.closedL, D.closed]; done)))
    | ((with_reducible first | refine o_call (c5) ?he ?hc ?_ | refine p_call (c5) ?he ?hc ?_ | refine c_call (c5) ?he ?hc ?_); (case he | hc => first | rfl | (simp [D.erL, D.er, D.closedL, D.closed]; done)))
    | with_reducible first | apply cd_dec | apply cd_eq | apply cd_ne | apply cd_split | apply gd_dec | apply gd_eq | apply gd_ne | apply gd_split | apply gq_dec | apply gq_eq | apply gq_ne | apply gq_split
    | ((with_reducible refine And.intro ?hw ?_); (case hw => first | omega | rfl | exact ⟨_, _, rfl⟩ | assumption | (simp only [lN] <;> omega)))
    | with_reducible intro _)
    all_goals (congr 1; rw [Bool.eq_iff_iff]; simp only [nodeOk]; first | (simp_all; done) | (simp_all; omega) | (simp_all [eq_comm]; done) | (simp_all [eq_comm]; omega))
  by_cases h9 : op = 9
  · subst h9
    repeat' (first
    | with_reducible first | apply swp_seq | apply swp_reg | apply swp_regD | apply swp_block | apply swp_exit | apply swp_ret | apply swp_skip | apply swp_cd
    | simp only [go_sem, seval, P36, q36, hl, fillL]
    | ((with_reducible first | refine o_call (c1) ?he ?hc ?_ | refine p_call (c1) ?he ?hc ?_ | refine c_call (c1) ?he ?hc ?_); (case he | hc => first | rfl | (simp [D.erL, D.er, D.closedL, D.closed]; done)))
    | ((with_reducible first | refine o_call (c2) ?he ?hc ?_ | refine p_call (c2) ?he ?hc ?_ | refine c_call (c2) ?he ?hc ?_); (case he | hc => first | rfl | (simp [D.erL, D.er, D.closedL, D.closed]; done)))
    | ((with_reducible first | refine o_call (c3) ?he ?hc ?_ | refine p_call (c3) ?he ?hc ?_ | refine c_call (c3) ?he ?hc ?_); (case he | hc => first | rfl | (simp [D.erL, D.er, D.closedL, D.closed]; done)))
    | ((with_reducible first | refine o_call (c4) ?he ?hc ?_ | refine p_call (c4) ?he ?hc ?_ | refine c_call (c4) ?he ?hc ?_); (case he | hc => first | rfl | (simp [D.erL, D.er, D.closedL, D.closed]; done)))
    | ((with_reducible first | refine o_call (c5) ?he ?hc ?_ | refine p_call (c5) ?he ?hc ?_ | refine c_call (c5) ?he ?hc ?_); (case he | hc => first | rfl | (simp [D.erL, D.er, D.closedL, D.closed]; done)))
    | with_reducible first | apply cd_dec | apply cd_eq | apply cd_ne | apply cd_split | apply gd_dec | apply gd_eq | apply gd_ne | apply gd_split | apply gq_dec | apply gq_eq | apply gq_ne | apply gq_split
    | ((with_reducible refine And.intro ?hw ?_); (case hw => first | omega | rfl | exact ⟨_, _, rfl⟩ | assumption | (simp only [lN] <;> omega)))
    | with_reducible intro _)
    all_goals (congr 1; rw [Bool.eq_iff_iff]; simp only [nodeOk]; first | (simp_all; done) | (simp_all; omega) | (simp_all [eq_comm]; done) | (simp_all [eq_comm]; omega))
  by_cases h10 : op = 10
  · subst h10
    repeat' (first
    | with_reducible first | apply swp_seq | apply swp_reg | apply swp_regD | apply swp_block | apply swp_exit | apply swp_ret | apply swp_skip | apply swp_cd
    | simp only [go_sem, seval, P36, q36, hl, fillL]
    | ((with_reducible first | refine o_call (c1) ?he ?hc ?_ | refine p_call (c1) ?he ?hc ?_ | refine c_call (c1) ?he ?hc ?_); (case he | hc => first | rfl | (simp [D.erL, D.er, D.closedL, D.closed]; done)))
    | ((with_reducible first | refine o_call (c2) ?he ?hc ?_ | refine p_call (c2) ?he ?hc ?_ | refine c_call (c2) ?he ?hc ?_); (case he | hc => first | rfl | (simp [D.erL, D.er, D.closedL, D.closed]; done)))
    | ((with_reducible first | refine o_call (c3) ?he ?hc ?_ | refine p_call (c3) ?he ?hc ?_ | refine c_call (c3) ?he ?hc ?_); (case he | hc => first | rfl | (simp [D.erL, D.er, D.closedL, D.closed]; done)))
    | ((with_reducible first | refine o_call (c4) ?he ?hc ?_ | refine p_call (c4) ?he ?hc ?_ | refine c_call (c4) ?he ?hc ?_); (case he | hc => first | rfl | (simp [D.erL, D.er, D.closedL, D.closed]; done)))
    | ((with_reducible first | refine o_call (c5) ?he ?hc ?_ | refine p_call (c5) ?he ?hc ?_ | refine c_call (c5) ?he ?hc ?_); (case he | hc => first | rfl | (simp [D.erL, D.er, D.closedL, D.closed]; done)))
    | with_reducible first | apply cd_dec | apply cd_eq | apply cd_ne | apply cd_split | apply gd_dec | apply gd_eq | apply gd_ne | apply gd_split | apply gq_dec | apply gq_eq | apply gq_ne | apply gq_split
    | ((with_reducible refine And.intro ?hw ?_); (case hw => first | omega | rfl | exact ⟨_, _, rfl⟩ | assumption | (simp only [lN] <;> omega)))
    | with_reducible intro _)
    all_goals (congr 1; rw [Bool.eq_iff_iff]; simp only [nodeOk]; first | (simp_all; done) | (simp_all; omega) | (simp_all [eq_comm]; done) | (simp_all [eq_comm]; omega))
  by_cases h11 : op = 11
  · subst h11
    repeat' (first
    | with_reducible first | apply swp_seq | apply swp_reg | apply swp_regD | apply swp_block | apply swp_exit | apply swp_ret | apply swp_skip | apply swp_cd
    | simp only [go_sem, seval, P36, q36, hl, fillL]
    | ((with_reducible first | refine o_call (c1) ?he ?hc ?_ | refine p_call (c1) ?he ?hc ?_ | refine c_call (c1) ?he ?hc ?_); (case he | hc => first | rfl | (simp [D.erL, D.er, D.closedL, D.closed]; done)))
    | ((with_reducible first | refine o_call (c2) ?he ?hc ?_ | refine p_call (c2) ?he ?hc ?_ | refine c_call (c2) ?he ?hc ?_); (case he | hc => first | rfl | (simp [D.erL, D.er, D.closedL, D.closed]; done)))
    | ((with_reducible first | refine o_call (c3) ?he ?hc ?_ | refine p_call (c3) ?he ?hc ?_ | refine c_call (c3) ?he ?hc ?_); (case he | hc => first | rfl | (simp [D.erL, D.er, D.closedL, D.closed]; done)))
    | ((with_reducible first | refine o_call (c4) ?he ?hc ?_ | refine p_call (c4) ?he ?hc ?_ | refine c_call (c4) ?he ?hc ?_); (case he | hc => first | rfl | (simp [D.erL, D.er, D.closedL, D.closed]; done)))
    | ((with_reducible first | refine o_call (c5) ?he ?hc ?_ | refine p_call (c5) ?he ?hc ?_ | refine c_call (c5) ?he ?hc ?_); (case he | hc => first | rfl | (simp [D.erL, D.er, D.closedL, D.closed]; done)))
    | with_reducible first | apply cd_dec | apply cd_eq | apply cd_ne | apply cd_split | apply gd_dec | apply gd_eq | apply gd_ne | apply gd_split | apply gq_dec | apply gq_eq | apply gq_ne | apply gq_split
    | ((with_reducible refine And.intro ?hw ?_); (case hw => first | omega | rfl | exact ⟨_, _, rfl⟩ | assumption | (simp only [lN] <;> omega)))
    | with_reducible intro _)
    all_goals (congr 1; rw [Bool.eq_iff_iff]; simp only [nodeOk]; first | (simp_all; done) | (simp_all; omega) | (simp_all [eq_comm]; done) | (simp_all [eq_comm]; omega))
  by_cases h12 : op = 12
  · subst h12
    repeat' (first
    | with_reducible first | apply swp_seq | apply swp_reg | apply swp_regD | apply swp_block | apply swp_exit | apply swp_ret | apply swp_skip | apply swp_cd
    | simp only [go_sem, seval, P36, q36, hl, fillL]
    | ((with_reducible first | refine o_call (c1) ?he ?hc ?_ | refine p_call (c1) ?he ?hc ?_ | refine c_call (c1) ?he ?hc ?_); (case he | hc => first | rfl | (simp [D.erL, D.er, D.closedL, D.closed]; done)))
    | ((with_reducible first | refine o_call (c2) ?he ?hc ?_ | refine p_call (c2) ?he ?hc ?_ | refine c_call (c2) ?he ?hc ?_); (case he | hc => first | rfl | (simp [D.erL, D.er, D.closedL, D.closed]; done)))
    | ((with_reducible first | refine o_call (c3) ?he ?hc ?_ | refine p_call (c3) ?he ?hc ?_ | refine c_call (c3) ?he ?hc ?_); (case he | hc => first | rfl | (simp [D.erL, D.er, D.closedL, D.closed]; done)))
    | ((with_reducible first | refine o_call (c4) ?he ?hc ?_ | refine p_call (c4) ?he ?hc ?_ | refine c_call (c4) ?he ?hc ?_); (case he | hc => first | rfl | (simp [D.erL, D.er, D.closedL, D.closed]; done)))
    | ((with_reducible first | refine o_call (c5) ?he ?hc ?_ | refine p_call (c5) ?he ?hc ?_ | refine c_call (c5) ?he ?hc ?_); (case he | hc => first | rfl | (simp [D.erL, D.er, D.closedL, D.closed]; done)))
    | with_reducible first | apply cd_dec | apply cd_eq | apply cd_ne | apply cd_split | apply gd_dec | apply gd_eq | apply gd_ne | apply gd_split | apply gq_dec | apply gq_eq | apply gq_ne | apply gq_split
    | ((with_reducible refine And.intro ?hw ?_); (case hw => first | omega | rfl | exact ⟨_, _, rfl⟩ | assumption | (simp only [lN] <;> omega)))
    | with_reducible intro _)
    all_goals (congr 1; rw [Bool.eq_iff_iff]; simp only [nodeOk]; first | (simp_all; done) | (simp_all; omega) | (simp_all [eq_comm]; done) | (simp_all [eq_comm]; omega))
  have n1 : (op == 1) = false := by simp [h1]
  have n2 : (op == 2) = false := by simp [h2]
  have n3 : (op == 3) = false := by simp [h3]
  have n4 : (op == 4) = false := by simp [h4]
  have n5 : (op == 5) = false := by simp [h5]
  have n6 : (op == 6) = false := by simp [h6]
  have n7 : (op == 7) = false := by simp [h7]
  have n8 : (op == 8) = false := by simp [h8]
  have n9 : (op == 9) = false := by simp [h9]
  have n10 : (op == 10) = false := by simp [h10]
  have n11 : (op == 11) = false := by simp [h11]
  have n12 : (op == 12) = false := by simp [h12]
  repeat' (first
    | with_reducible first | apply swp_seq | apply swp_reg | apply swp_regD | apply swp_block | apply swp_exit | apply swp_ret | apply swp_skip | apply swp_cd
    | simp only [go_sem, seval, P36, q36, hl, fillL, n1, n2, n3, n4, n5, n6, n7, n8, n9, n10, n11, n12]
    | ((with_reducible first | refine o_call (c1) ?he ?hc ?_ | refine p_call (c1) ?he ?hc ?_ | refine c_call (c1) ?he ?hc ?_); (case he | hc => first | rfl | (simp [D.erL, D.er, D.closedL, D.closed]; done)))
    | ((with_reducible first | refine o_call (c2) ?he ?hc ?_ | refine p_call (c2) ?he ?hc ?_ | refine c_call (c2) ?he ?hc ?_); (case he | hc => first | rfl | (simp [D.erL, D.er, D.closedL, D.closed]; done)))
    | ((with_reducible first | refine o_call (c3) ?he ?hc ?_ | refine p_call (c3) ?he ?hc ?_ | refine c_call (c3) ?he ?hc ?_); (case he | hc => first | rfl | (simp [D.erL, D.er, D.closedL, D.closed]; done)))
    | ((with_reducible first | refine o_call (c4) ?he ?hc ?_ | refine p_call (c4) ?he ?hc ?_ | refine c_call (c4) ?he ?hc ?_); (case he | hc => first | rfl | (simp [D.erL, D.er, D.closedL, D.closed]; done)))
    | ((with_reducible first | refine o_call (c5) ?he ?hc ?_ | refine p_call (c5) ?he ?hc ?_ | refine c_call (c5) ?he ?hc ?_); (case he | hc => first | rfl | (simp [D.erL, D.er, D.closedL, D.closed]; done)))
    | with_reducible first | apply cd_dec | apply cd_eq | apply cd_ne | apply cd_split | apply gd_dec | apply gd_eq | apply gd_ne | apply gd_split | apply gq_dec | apply gq_eq | apply gq_ne | apply gq_split
    | ((with_reducible refine And.intro ?hw ?_); (case hw => first | omega | rfl | exact ⟨_, _, rfl⟩ | assumption | (simp only [lN] <;> omega)))
    | with_reducible intro _)
  all_goals (simp [nodeOk, h1, h2, h3, h4, h5, h6, h7, h8, h9, h10, h11, h12, D.closed, D.er])
end Go.Proofs.Ytcchbohfcmfmlaa
end
section
set_option maxRecDepth 100000
set_option linter.unusedSimpArgs false
set_option linter.unusedVariables false
namespace Go.Proofs.Ytcchbohfcmfmlaa
open Go GoV Go.RowKit
def RowsK (k : Nat) (K : List D) : Prop := ∀ j (h : j < K.length), ∃ cs, K[j] = .agg cs ∧ cs.length = k
theorem rows_map {α : Type} {k : Nat} (f : α → D) (h : ∀ x, ∃ cs, f x = .agg cs ∧ cs.length = k) (l : List α) : RowsK k (l.map f) := fun j hj => by
  simp only [List.getElem_map]; exact h _
theorem rows_X (ks : List X) : RowsK 6 (ks.map X.d) := rows_map _ (fun x => ⟨_, X.d_eq x, rfl⟩) ks
theorem rows_P (ps : List Pt) : RowsK 14 (ps.map ptD) := rows_map _ (fun p => ⟨p.cells, rfl, rfl⟩) ps
/-! ### The first element of which a function says yes: whatever the function is -/

theorem if65 (K : List D) (hR : RowsK 6 K) (hl : K.length < 4611686018427387904) (f : FuncId) (a c : List D) (hpF : Nat → Hp) (nH nT : Nat) (hH : ∀ j, (hpF j).H.length = nH) (hT : ∀ j, (hpF j).tk.length = nT) (n : Nat) (hn : n ≤ K.length)
    (hf : ∀ j (h : j < n) (h' : j < K.length), Eff M f (a ++ [K[j]] ++ c) (hpF j) fun d hp => d = .bool false ∧ hp = hpF (j + 1)) (r : Int) (e : Nat)
    (hr : (n = K.length ∧ r = -1 ∧ e = n) ∨ (∃ h : n < K.length, r = n ∧ e = n + 1 ∧ Eff M f (a ++ [K[n]] ++ c) (hpF n) fun d hp => d = .bool true ∧ hp = hpF (n + 1))) :
    Eff M 65 [.slice K .no, .fn (.func f) a c] (hpF 0) fun d hp => d = .int .i64 r ∧ hp = hpF e := by
  refine oe65 nH nT rfl (hH 0).symm (hT 0).symm ?_
  rw [ie65]
  unfold c65
  repeat' (first
    | with_reducible first | apply swp_seq | apply swp_reg | apply swp_regD | apply swp_block | apply swp_exit | apply swp_ret | apply swp_skip | apply swp_cd
    | simp only [go_sem, seval, pe65, q65]
    | simp (disch := omega) only [w64, w32, wu8, wu16, wu32, wu64]
    | with_reducible first | apply cd_dec | apply cd_eq | apply cd_ne | apply cd_split
    | ((with_reducible refine And.intro ?hw ?_); (case hw => first | omega | rfl | exact ⟨_, _, rfl⟩ | assumption | (simp only [lN] <;> omega)))
    | with_reducible intro _)
  refine swp_fam [0, 1, 2, 4, 5] (fun j : Nat => ⟨[.slice K .no, .fn (.func f) a c, .int .i64 0, .undef, .int .i64 K.length, .int .i64 j, .undef, .undef], [], hpF j⟩) (fun j => j ≤ n) (fun j => n + 1 - j) 0 (by omega) ?_ ?_
  · simp [keepE, St.keep]
  · intro j hj
    by_cases hjn : j < n
    · have hjl : j < K.length := by omega
      obtain ⟨cs, e1, e2⟩ := hR j hjl
      have hg : K.getD j .undef = .agg cs := by simp [List.getD, hjl, e1]
      have htk : cs.take 6 = cs := List.take_of_length_le (by omega)
      have c1 := hf j hjn hjl
      rw [e1] at c1
      repeat' (first
    | with_reducible first | apply swp_seq | apply swp_reg | apply swp_regD | apply swp_block | apply swp_exit | apply swp_ret | apply swp_skip | apply swp_cd
    | simp only [go_sem, seval, pe65, q65, hg, htk, e2]
    | simp (disch := omega) only [w64, w32, wu8, wu16, wu32, wu64]
    | ((with_reducible refine o_same (c1) ?he ?hh ?_); (case he => first | rfl | (simp [go_sem, seval, hg, e2]; done)); (case hh => first | rfl | (simp [go_sem, seval, hg, e2]; done)))
    | with_reducible first | apply cd_dec | apply cd_eq | apply cd_ne | apply cd_split
    | ((with_reducible refine And.intro ?hw ?_); (case hw => first | omega | rfl | exact ⟨_, _, rfl⟩ | assumption | (simp only [lN, hg, e2] <;> omega)))
    | with_reducible intro _)
      all_goals try omega
      all_goals try (refine ⟨j + 1, by omega, by omega, ?_⟩; simp [St.keep, keepE])
    · obtain rfl : j = n := by omega
      rcases hr with ⟨h1, rfl, rfl⟩ | ⟨h1, rfl, rfl, c1⟩
      · repeat' (first
    | with_reducible first | apply swp_seq | apply swp_reg | apply swp_regD | apply swp_block | apply swp_exit | apply swp_ret | apply swp_skip | apply swp_cd
    | simp only [go_sem, seval, pe65, q65]
    | simp (disch := omega) only [w64, w32, wu8, wu16, wu32, wu64]
    | with_reducible first | apply cd_dec | apply cd_eq | apply cd_ne | apply cd_split
    | ((with_reducible refine And.intro ?hw ?_); (case hw => first | omega | rfl | exact ⟨_, _, rfl⟩ | assumption | (simp only [lN] <;> omega)))
    | with_reducible intro _)
        all_goals try omega
        all_goals exact ⟨_, weak_refl, by simp⟩
      · obtain ⟨cs, e1, e2⟩ := hR j h1
        have hg : K.getD j .undef = .agg cs := by simp [List.getD, h1, e1]
        have htk : cs.take 6 = cs := List.take_of_length_le (by omega)
        rw [e1] at c1
        repeat' (first
    | with_reducible first | apply swp_seq | apply swp_reg | apply swp_regD | apply swp_block | apply swp_exit | apply swp_ret | apply swp_skip | apply swp_cd
    | simp only [go_sem, seval, pe65, q65, hg, htk, e2]
    | simp (disch := omega) only [w64, w32, wu8, wu16, wu32, wu64]
    | ((with_reducible refine o_same (c1) ?he ?hh ?_); (case he => first | rfl | (simp [go_sem, seval, hg, e2]; done)); (case hh => first | rfl | (simp [go_sem, seval, hg, e2]; done)))
    | with_reducible first | apply cd_dec | apply cd_eq | apply cd_ne | apply cd_split
    | ((with_reducible refine And.intro ?hw ?_); (case hw => first | omega | rfl | exact ⟨_, _, rfl⟩ | assumption | (simp only [lN, hg, e2] <;> omega)))
    | with_reducible intro _)
        all_goals try omega
        all_goals exact ⟨_, weak_refl, by simp⟩
theorem cf52 (K : List D) (hR : RowsK 6 K) (hl : K.length < 4611686018427387904) (f : FuncId) (a c : List D) (hpF : Nat → Hp) (nH nT : Nat) (hH : ∀ j, (hpF j).H.length = nH) (hT : ∀ j, (hpF j).tk.length = nT) (n : Nat) (hn : n ≤ K.length)
    (hf : ∀ j (h : j < n) (h' : j < K.length), Eff M f (a ++ [K[j]] ++ c) (hpF j) fun d hp => d = .bool false ∧ hp = hpF (j + 1)) (r : Bool) (e : Nat)
    (hr : (n = K.length ∧ r = false ∧ e = n) ∨ (∃ h : n < K.length, r = true ∧ e = n + 1 ∧ Eff M f (a ++ [K[n]] ++ c) (hpF n) fun d hp => d = .bool true ∧ hp = hpF (n + 1))) :
    Eff M 52 [.slice K .no, .fn (.func f) a c] (hpF 0) fun d hp => d = .bool r ∧ hp = hpF e := by
  have c1 : Eff M 65 [.slice K .no, .fn (.func f) a c] (hpF 0) fun d hp => d = .int .i64 (if r then (n : Int) else -1) ∧ hp = hpF e :=
    if65 K hR hl f a c hpF nH nT hH hT n hn hf _ e (by
      rcases hr with ⟨h1, rfl, rfl⟩ | ⟨h1, rfl, rfl, h2⟩
      · exact .inl ⟨h1, by simp, rfl⟩
      · exact .inr ⟨h1, by simp, rfl, h2⟩)
  refine oe52 nH nT rfl (hH 0).symm (hT 0).symm ?_
  rw [ie52]
  unfold c52
  cases r
  · simp only [Bool.false_eq_true, if_false] at c1
    repeat' (first
    | with_reducible first | apply swp_seq | apply swp_reg | apply swp_regD | apply swp_block | apply swp_exit | apply swp_ret | apply swp_skip | apply swp_cd
    | simp only [go_sem, seval, pe52, q52]
    | simp (disch := omega) only [w64, w32, wu8, wu16, wu32, wu64]
    | ((with_reducible refine o_same (c1) ?he ?hh ?_); (case he => first | rfl | (simp [go_sem, seval]; done)); (case hh => first | rfl | (simp [go_sem, seval]; done)))
    | with_reducible first | apply cd_dec | apply cd_eq | apply cd_ne | apply cd_split
    | ((with_reducible refine And.intro ?hw ?_); (case hw => first | omega | rfl | exact ⟨_, _, rfl⟩ | assumption | (simp only [lN] <;> omega)))
    | with_reducible intro _)
    all_goals exact ⟨_, weak_refl, by simp⟩
  · simp only [if_true] at c1
    repeat' (first
    | with_reducible first | apply swp_seq | apply swp_reg | apply swp_regD | apply swp_block | apply swp_exit | apply swp_ret | apply swp_skip | apply swp_cd
    | simp only [go_sem, seval, pe52, q52]
    | simp (disch := omega) only [w64, w32, wu8, wu16, wu32, wu64]
    | ((with_reducible refine o_same (c1) ?he ?hh ?_); (case he => first | rfl | (simp [go_sem, seval]; done)); (case hh => first | rfl | (simp [go_sem, seval]; done)))
    | with_reducible first | apply cd_dec | apply cd_eq | apply cd_ne | apply cd_split
    | ((with_reducible refine And.intro ?hw ?_); (case hw => first | omega | rfl | exact ⟨_, _, rfl⟩ | assumption | (simp only [lN] <;> omega)))
    | with_reducible intro _)
    all_goals refine ⟨_, weak_refl, by simp⟩
/-! ### All nodes are valid -/

abbrev visB : Hp := ⟨[.cells [.fn (.func 36) [] []]], []⟩
mutual
def shortB : X → Bool
  | .mk _ nm vl _ _ ks => decide (nm.length ≤ 300) && decide (vl.length ≤ 300) && shortBL ks
def shortBL : List X → Bool
  | [] => true
  | k :: ks => shortB k && shortBL ks
end
theorem shortBL_mem : ∀ {ks : List X}, shortBL ks = true → ∀ k ∈ ks, shortB k = true
  | [], _, k, h => by simp at h
  | k' :: ks, h, k, hk => by
    simp only [shortBL, Bool.and_eq_true] at h
    rcases List.mem_cons.1 hk with rfl | hk
    · exact h.1
    · exact shortBL_mem h.2 k hk
def X.sm (x : X) : Prop := shortB x = true ∧ x.nodes ≤ 100
theorem X.sm_parts {x : X} (h : x.sm) : x.nam.length ≤ 300 ∧ x.val.length ≤ 300 ∧ (∀ k ∈ x.kids, k.sm) ∧ x.kids.length < 100 := by
  have h2 := kids_len x
  have h3 : ∀ k ∈ x.kids, k.nodes < x.nodes := fun k hk => kid_nodes hk
  obtain ⟨hs, hn⟩ := h
  cases x
  simp only [shortB, Bool.and_eq_true, decide_eq_true_eq, X.nam, X.val, X.kids] at *
  exact ⟨hs.1.1, hs.1.2, fun k hk => ⟨shortBL_mem hs.2 k hk, by have := h3 k hk; omega⟩, by omega⟩
theorem wellL_all : ∀ ks : List X, wellL ks = ks.all well
  | [] => rfl
  | k :: ks => by simp [wellL, wellL_all ks]
theorem w53 (x : X) (ih : Pur M 35 [x.d, .fn (.func 36) [] []] (.bool (well x))) : Eff M 53 [x.d, .ptr 0 0] visB fun d hp => d = .bool (!well x) ∧ hp = visB := by
  refine oe53 1 0 rfl rfl rfl ?_
  rw [ie53]
  unfold c53
  have hcl := cl_X x
  have her := er_X x
  rw [X.d_eq] at ih hcl her ⊢
  unfold visB
  repeat' (first
    | with_reducible first | apply swp_seq | apply swp_reg | apply swp_regD | apply swp_block | apply swp_exit | apply swp_ret | apply swp_skip | apply swp_cd
    | simp only [go_sem, seval, pe53, q53]
    | ((with_reducible refine o_call (ih) ?he ?hc ?_); (case he | hc => first | rfl | (simp [D.erL, D.er, D.closedL, D.closed, hcl, her]; done)))
    | with_reducible first | apply cd_dec | apply cd_eq | apply cd_ne | apply cd_split
    | ((with_reducible refine And.intro ?hw ?_); (case hw => first | omega | rfl | exact ⟨_, _, rfl⟩ | assumption | (simp only [lN, hcl, her] <;> omega)))
    | with_reducible intro _)
  refine ⟨_, weak_gc 1 0 (Nat.le_refl _) (Nat.le_refl _), ?_⟩
  simp [St.gc, Hp.cut, D.rnL, D.rn, cutF, Blk.rn, Blk.rnL, Tv.rnL]
theorem cfAll (ks : List X) (hk : ks.length < 100) (ih : ∀ k ∈ ks, Pur M 35 [k.d, .fn (.func 36) [] []] (.bool (well k))) :
    Eff M 52 [.slice (ks.map X.d) .no, .fn (.func 53) [] [.ptr 0 0]] visB fun d hp => d = .bool (!ks.all well) ∧ hp = visB := by
  have hl : (ks.map X.d).length = ks.length := by simp
  have e1 : ∀ j (h : j < ks.length), Eff M 53 ([] ++ [(ks.map X.d)[j]'(by rw [hl]; exact h)] ++ [.ptr 0 0]) visB fun d hp => d = .bool (!well ks[j]) ∧ hp = visB := fun j h => by
    simp only [List.getElem_map]
    exact w53 _ (ih _ (List.getElem_mem h))
  rcases first_of (p := fun k => well k = false) ks with ⟨i, h, h1, h2⟩ | h
  · have hr : (!ks.all well) = true := by
      simp only [Bool.not_eq_true', List.all_eq_false]
      exact ⟨ks[i], List.getElem_mem h, by simp [h1]⟩
    rw [hr]
    refine cf52 (ks.map X.d) (rows_X ks) (by omega) 53 [] [.ptr 0 0] (fun _ => visB) 1 0 (fun _ => rfl) (fun _ => rfl) i (by omega) (fun j hj hj' => ?_) true (i + 1) (.inr ⟨by omega, rfl, rfl, ?_⟩)
    · have := e1 j (by omega)
      rw [show well ks[j] = true by simpa using h2 j hj] at this
      exact this
    · have := e1 i h
      rw [h1] at this
      exact this
  · have hr : (!ks.all well) = false := by
      simp only [Bool.not_eq_false', List.all_eq_true]
      intro k hk
      obtain ⟨j, hj, rfl⟩ := List.getElem_of_mem hk
      simpa using h j hj
    rw [hr]
    refine cf52 (ks.map X.d) (rows_X ks) (by omega) 53 [] [.ptr 0 0] (fun _ => visB) 1 0 (fun _ => rfl) (fun _ => rfl) ks.length (by omega) (fun j hj hj' => ?_) false ks.length (.inl ⟨hl.symm, rfl, rfl⟩)
    have := e1 j hj
    rw [show well ks[j] = true by simpa using h j hj] at this
    exact this
theorem good_p : ∀ (k : Nat) (x : X), x.nodes ≤ k → x.sm → Pur M 35 [x.d, .fn (.func 36) [] []] (.bool (well x))
  | 0, x, hk, _ => by have := nodes_pos x; omega
  | k + 1, x, hk, hs => by
    obtain ⟨s1, s2, s3, s4⟩ := X.sm_parts hs
    have c1 := node_p x (by omega) (by omega)
    have c2 := cfAll x.kids s4 fun y hy => good_p k y (by have := kid_nodes hy; omega) (s3 y hy)
    rw [X.well_eq, wellL_all]
    refine ok35 rfl ?_
    rw [i35]
    unfold c35
    unfold visB at c2
    have hcl := closedL_X x.kids
    have her := erL_X x.kids
    rw [X.d_eq] at c1 ⊢
    generalize nodeOk x.op x.nam x.val x.num x.ext x.kids.length = b at *
    cases b
    · repeat' (first
    | with_reducible first | apply swp_seq | apply swp_reg | apply swp_regD | apply swp_block | apply swp_exit | apply swp_ret | apply swp_skip | apply swp_cd
    | simp only [go_sem, seval, P35, q35]
    | ((with_reducible refine o_call (c1) ?he ?hc ?_); (case he | hc => first | rfl | (simp [D.erL, D.er, D.closedL, D.closed, hcl, her]; done)))
    | with_reducible first | apply cd_dec | apply cd_eq | apply cd_ne | apply cd_split | apply gd_dec | apply gd_eq | apply gd_ne | apply gd_split
    | ((with_reducible refine And.intro ?hw ?_); (case hw => first | omega | rfl | exact ⟨_, _, rfl⟩ | assumption | (simp only [lN, hcl, her] <;> omega)))
    | with_reducible intro _)
      all_goals first | omega | (simp_all [D.closed, D.er, D.closedL, D.erL]; done) | (simp_all [D.closed, D.er, D.closedL, D.erL] <;> omega)
    · generalize x.kids.all well = b2 at *
      repeat' (first
    | with_reducible first | apply swp_seq | apply swp_reg | apply swp_regD | apply swp_block | apply swp_exit | apply swp_ret | apply swp_skip | apply swp_cd
    | simp only [go_sem, seval, P35, q35]
    | ((with_reducible refine o_call (c1) ?he ?hc ?_); (case he | hc => first | rfl | (simp [D.erL, D.er, D.closedL, D.closed, hcl, her, D.rnL, D.rn, posF, Hp.sel, Blk.rnL, Blk.rn, Tv.rnL, idx]; done)))
    | ((with_reducible refine o_eff [1] [] (c2) ?hs ?he ?hh ?_); (case hs => exact ⟨by simp, by simp, by simp, by simp⟩); (case he => first | rfl | (simp [go_sem, seval, hcl, her, D.rnL, D.rn, posF, Hp.sel, Blk.rnL, Blk.rn, Tv.rnL, idx]; done)); (case hh => first | rfl | (simp [go_sem, seval, hcl, her, D.rnL, D.rn, posF, Hp.sel, Blk.rnL, Blk.rn, Tv.rnL, idx]; done)); rintro _ _ ⟨rfl, rfl⟩)
    | with_reducible first | apply cd_dec | apply cd_eq | apply cd_ne | apply cd_split | apply gd_dec | apply gd_eq | apply gd_ne | apply gd_split
    | ((with_reducible refine And.intro ?hw ?_); (case hw => first | omega | rfl | exact ⟨_, _, rfl⟩ | assumption | (simp only [lN, hcl, her, D.rnL, D.rn, posF, Hp.sel, Blk.rnL, Blk.rn, Tv.rnL, idx] <;> omega)))
    | with_reducible intro _)
      all_goals first | omega | (simp_all [D.closed, D.er, D.closedL, D.erL]; done) | (simp_all [D.closed, D.er, D.closedL, D.erL] <;> omega)
end Go.Proofs.Ytcchbohfcmfmlaa
end
section
set_option maxRecDepth 100000
set_option linter.unusedSimpArgs false
set_option linter.unusedVariables false
namespace Go.Proofs.Ytcchbohfcmfmlaa
open Go GoV Go.RowKit
abbrev cnt1 (n : Nat) : Hp := ⟨[.cells [.int .i64 n]], []⟩
abbrev cnt2 (n : Nat) : Hp := ⟨[.cells [.int .i64 n], .cells [.fn (.func 51) [] [.ptr 0 0]]], []⟩
theorem sz51 (x : X) (n : Nat) (hn : n < 1000) : Eff M 51 [x.d, .ptr 0 0] (cnt1 n) fun d hp => d = .bool (decide (n + 1 ≤ 60)) ∧ hp = cnt1 (n + 1) := by
  refine oe51 1 0 rfl rfl rfl ?_
  rw [ie51]
  unfold c51
  unfold cnt1
  rw [X.d_eq]
  repeat' (first
    | with_reducible first | apply swp_seq | apply swp_reg | apply swp_regD | apply swp_block | apply swp_exit | apply swp_ret | apply swp_skip | apply swp_cd
    | simp only [go_sem, seval, pe51, q51]
    | simp (disch := omega) only [w64, w32, wu8, wu16, wu32, wu64]
    | with_reducible first | apply cd_dec | apply cd_eq | apply cd_ne | apply cd_split
    | ((with_reducible refine And.intro ?hw ?_); (case hw => first | omega | rfl | exact ⟨_, _, rfl⟩ | assumption | (simp only [lN] <;> omega)))
    | with_reducible intro _)
  all_goals try omega
  refine ⟨_, weak_gc 1 0 (Nat.le_refl _) (Nat.le_refl _), ?_⟩
  simp [St.gc, Hp.cut, D.rnL, D.rn, cutF, Blk.rn, Blk.rnL, Tv.rnL, setL]
  omega
theorem sz53 (x : X) (n : Nat) (ih : Eff M 35 [x.d, .fn (.func 51) [] [.ptr 0 0]] (cnt1 n) fun d hp => d = .bool (decide (n + x.nodes ≤ 60)) ∧ hp = cnt1 (min (n + x.nodes) 61)) :
    Eff M 53 [x.d, .ptr 1 0] (cnt2 n) fun d hp => d = .bool (!decide (n + x.nodes ≤ 60)) ∧ hp = cnt2 (min (n + x.nodes) 61) := by
  refine oe53 2 0 rfl rfl rfl ?_
  rw [ie53]
  unfold c53
  generalize x.nodes = m at *
  rw [X.d_eq] at ih ⊢
  unfold cnt2
  unfold cnt1 at ih
  repeat' (first
    | with_reducible first | apply swp_seq | apply swp_reg | apply swp_regD | apply swp_block | apply swp_exit | apply swp_ret | apply swp_skip | apply swp_cd
    | simp only [go_sem, seval, pe53, q53]
    | ((with_reducible refine o_eff [0] [] (ih) ?hs ?he ?hh ?_); (case hs => exact ⟨by simp, by simp, by simp, by simp⟩); (case he => first | rfl | (simp [go_sem, seval, D.rnL, D.rn, posF, Hp.sel, Blk.rnL, Blk.rn, Tv.rnL, idx]; done)); (case hh => first | rfl | (simp [go_sem, seval, D.rnL, D.rn, posF, Hp.sel, Blk.rnL, Blk.rn, Tv.rnL, idx]; done)); rintro _ _ ⟨rfl, rfl⟩)
    | with_reducible first | apply cd_dec | apply cd_eq | apply cd_ne | apply cd_split
    | ((with_reducible refine And.intro ?hw ?_); (case hw => first | omega | rfl | exact ⟨_, _, rfl⟩ | assumption | (simp only [lN, D.rnL, D.rn, posF, Hp.sel, Blk.rnL, Blk.rn, Tv.rnL, idx] <;> omega)))
    | with_reducible intro _)
  refine ⟨_, weak_gc 2 0 (Nat.le_refl _) (Nat.le_refl _), ?_⟩
  simp [St.gc, Hp.cut, Hp.back, putAt, bakF, D.rnL, D.rn, cutF, Blk.rn, Blk.rnL, Tv.rnL, setL]
theorem nodesL_take : ∀ (ks : List X) (j : Nat) (h : j < ks.length), X.nodesL (ks.take (j + 1)) = X.nodesL (ks.take j) + ks[j].nodes
  | k :: ks, 0, h => by simp [X.nodesL]
  | k :: ks, j + 1, h => by
    simp only [List.take_succ_cons, X.nodesL, List.getElem_cons_succ]
    rw [nodesL_take ks j (by simpa using h)]; omega
theorem nodesL_le (ks : List X) (j : Nat) : X.nodesL (ks.take j) ≤ X.nodesL ks := by
  induction ks generalizing j with
  | nil => simp
  | cons k ks ih =>
    cases j with
    | zero => simp [X.nodesL]
    | succ j => simp only [List.take_succ_cons, X.nodesL]; have := ih j; omega
theorem szAll (ks : List X) (n : Nat) (hn : n ≤ 60) (hk : ks.length < 100) (ih : ∀ k ∈ ks, ∀ n, n ≤ 60 → Eff M 35 [k.d, .fn (.func 51) [] [.ptr 0 0]] (cnt1 n) fun d hp => d = .bool (decide (n + k.nodes ≤ 60)) ∧ hp = cnt1 (min (n + k.nodes) 61)) :
    Eff M 52 [.slice (ks.map X.d) .no, .fn (.func 53) [] [.ptr 1 0]] (cnt2 n) fun d hp => d = .bool (!decide (n + X.nodesL ks ≤ 60)) ∧ hp = cnt2 (min (n + X.nodesL ks) 61) := by
  have hl : (ks.map X.d).length = ks.length := by simp
  have e1 : ∀ j (h : j < ks.length), n + X.nodesL (ks.take j) ≤ 60 → Eff M 53 ([] ++ [(ks.map X.d)[j]'(by rw [hl]; exact h)] ++ [.ptr 1 0]) (cnt2 (min (n + X.nodesL (ks.take j)) 61)) fun d hp => d = .bool (!decide (n + X.nodesL (ks.take (j + 1)) ≤ 60)) ∧ hp = cnt2 (min (n + X.nodesL (ks.take (j + 1))) 61) := fun j h h0 => by
    have := sz53 ks[j] (n + X.nodesL (ks.take j)) (ih _ (List.getElem_mem h) _ h0)
    rw [nodesL_take ks j h, ← Nat.add_assoc, Nat.min_eq_left (show n + X.nodesL (ks.take j) ≤ 61 by omega)]
    simp only [List.getElem_map]
    exact this
  have h0 : cnt2 n = cnt2 (min (n + X.nodesL (ks.take 0)) 61) := by simp [X.nodesL, Nat.min_eq_left (show n ≤ 61 by omega)]
  rw [h0]
  rcases first_of (p := fun j => ¬ n + X.nodesL (ks.take (j + 1)) ≤ 60) (List.range ks.length) with ⟨i, h, h1, h2⟩ | h
  · simp only [List.getElem_range, List.length_range] at h h1
    have h2' : ∀ j, j < i → n + X.nodesL (ks.take (j + 1)) ≤ 60 := fun j hj => by have := h2 j hj; simp only [List.getElem_range] at this; omega
    have hle := nodesL_le ks (i + 1)
    have hi : n + X.nodesL (ks.take i) ≤ 60 := by
      cases i with
      | zero => simpa [X.nodesL] using hn
      | succ i => exact h2' i (by omega)
    have hr : (!decide (n + X.nodesL ks ≤ 60)) = true := by simp; omega
    rw [hr, show min (n + X.nodesL ks) 61 = min (n + X.nodesL (ks.take (i + 1))) 61 by omega]
    refine cf52 (ks.map X.d) (rows_X ks) (by omega) 53 [] [.ptr 1 0] (fun j => cnt2 (min (n + X.nodesL (ks.take j)) 61)) 2 0 (fun _ => rfl) (fun _ => rfl) i (by omega) (fun j hj hj' => ?_) true (i + 1) (.inr ⟨by omega, rfl, rfl, ?_⟩)
    · have := e1 j (by omega) (by
        cases j with
        | zero => simpa [X.nodesL] using hn
        | succ j => exact h2' j (by omega))
      rw [show (!decide (n + X.nodesL (ks.take (j + 1)) ≤ 60)) = false by simp [h2' j hj]] at this
      exact this
    · have := e1 i h hi
      rw [show (!decide (n + X.nodesL (ks.take (i + 1)) ≤ 60)) = true by simp; omega] at this
      exact this
  · have h2' : ∀ j, j < ks.length → n + X.nodesL (ks.take (j + 1)) ≤ 60 := fun j hj => by have := h j (by simpa using hj); simp only [List.getElem_range] at this; omega
    have hle : n + X.nodesL ks ≤ 60 := by
      rcases Nat.eq_zero_or_pos ks.length with q | q
      · have := List.eq_nil_of_length_eq_zero q
        subst this; simpa [X.nodesL] using hn
      · have := h2' (ks.length - 1) (by omega)
        rwa [List.take_of_length_le (by omega)] at this
    have hr : (!decide (n + X.nodesL ks ≤ 60)) = false := by simp; omega
    rw [hr, show min (n + X.nodesL ks) 61 = min (n + X.nodesL (ks.take ks.length)) 61 by rw [List.take_length]]
    refine cf52 (ks.map X.d) (rows_X ks) (by omega) 53 [] [.ptr 1 0] (fun j => cnt2 (min (n + X.nodesL (ks.take j)) 61)) 2 0 (fun _ => rfl) (fun _ => rfl) ks.length (by omega) (fun j hj hj' => ?_) false ks.length (.inl ⟨hl.symm, rfl, rfl⟩)
    have := e1 j hj (by
      cases j with
      | zero => simpa [X.nodesL] using hn
      | succ j => exact h2' j (by omega))
    rw [show (!decide (n + X.nodesL (ks.take (j + 1)) ≤ 60)) = false by simp [h2' j hj]] at this
    exact this
theorem sz35 : ∀ (k : Nat) (x : X), x.nodes ≤ k → x.sm → ∀ n, n ≤ 60 → Eff M 35 [x.d, .fn (.func 51) [] [.ptr 0 0]] (cnt1 n) fun d hp => d = .bool (decide (n + x.nodes ≤ 60)) ∧ hp = cnt1 (min (n + x.nodes) 61)
  | 0, x, hk, _, _, _ => by have := nodes_pos x; omega
  | k + 1, x, hk, hs, n, hn => by
    obtain ⟨s1, s2, s3, s4⟩ := X.sm_parts hs
    have c1 := sz51 x n (by omega)
    have hN := X.nodes_eq x
    refine oe35 1 0 rfl rfl rfl ?_
    rw [ie35]
    unfold c35
    unfold cnt1 at c1 ⊢
    have hcl := closedL_X x.kids
    have her := erL_X x.kids
    rw [X.d_eq] at c1 ⊢
    by_cases h : n + 1 ≤ 60
    · have c2 := szAll x.kids (n + 1) h s4 fun y hy m hm => sz35 k y (by have := kid_nodes hy; omega) (s3 y hy) m hm
      rw [show n + 1 + X.nodesL x.kids = n + x.nodes by omega] at c2
      generalize x.nodes = m at *
      rw [decide_eq_true h] at c1
      unfold cnt2 at c2
      repeat' (first
    | with_reducible first | apply swp_seq | apply swp_reg | apply swp_regD | apply swp_block | apply swp_exit | apply swp_ret | apply swp_skip | apply swp_cd
    | simp only [go_sem, seval, pe35, q35]
    | ((with_reducible refine o_eff [0] [] (c1) ?hs ?he ?hh ?_); (case hs => exact ⟨by simp, by simp, by simp, by simp⟩); (case he => first | rfl | (simp [go_sem, seval, hcl, her, D.rnL, D.rn, posF, Hp.sel, Blk.rnL, Blk.rn, Tv.rnL, idx, Hp.back, putAt, bakF]; done)); (case hh => first | rfl | (simp [go_sem, seval, hcl, her, D.rnL, D.rn, posF, Hp.sel, Blk.rnL, Blk.rn, Tv.rnL, idx, Hp.back, putAt, bakF]; done)); rintro _ _ ⟨rfl, rfl⟩)
    | ((with_reducible refine o_eff [0, 2] [] (c2) ?hs ?he ?hh ?_); (case hs => exact ⟨by simp, by simp, by simp, by simp⟩); (case he => first | rfl | (simp [go_sem, seval, hcl, her, D.rnL, D.rn, posF, Hp.sel, Blk.rnL, Blk.rn, Tv.rnL, idx, Hp.back, putAt, bakF]; done)); (case hh => first | rfl | (simp [go_sem, seval, hcl, her, D.rnL, D.rn, posF, Hp.sel, Blk.rnL, Blk.rn, Tv.rnL, idx, Hp.back, putAt, bakF]; done)); rintro _ _ ⟨rfl, rfl⟩)
    | with_reducible first | apply cd_dec | apply cd_eq | apply cd_ne | apply cd_split | apply gd_dec | apply gd_eq | apply gd_ne | apply gd_split
    | ((with_reducible refine And.intro ?hw ?_); (case hw => first | omega | rfl | exact ⟨_, _, rfl⟩ | assumption | (simp only [lN, hcl, her, D.rnL, D.rn, posF, Hp.sel, Blk.rnL, Blk.rn, Tv.rnL, idx, Hp.back, putAt, bakF] <;> omega)))
    | with_reducible intro _)
      all_goals refine ⟨_, weak_gc 1 0 (Nat.le_refl _) (Nat.le_refl _), ?_⟩
      all_goals simp [St.gc, Hp.cut, Hp.back, putAt, bakF, D.rnL, D.rn, cutF, Blk.rn, Blk.rnL, Tv.rnL, setL]
    · rw [decide_eq_false h] at c1
      repeat' (first
    | with_reducible first | apply swp_seq | apply swp_reg | apply swp_regD | apply swp_block | apply swp_exit | apply swp_ret | apply swp_skip | apply swp_cd
    | simp only [go_sem, seval, pe35, q35]
    | ((with_reducible refine o_eff [0] [] (c1) ?hs ?he ?hh ?_); (case hs => exact ⟨by simp, by simp, by simp, by simp⟩); (case he => first | rfl | (simp [go_sem, seval, hcl, her, D.rnL, D.rn, posF, Hp.sel, Blk.rnL, Blk.rn, Tv.rnL, idx]; done)); (case hh => first | rfl | (simp [go_sem, seval, hcl, her, D.rnL, D.rn, posF, Hp.sel, Blk.rnL, Blk.rn, Tv.rnL, idx]; done)); rintro _ _ ⟨rfl, rfl⟩)
    | with_reducible first | apply cd_dec | apply cd_eq | apply cd_ne | apply cd_split | apply gd_dec | apply gd_eq | apply gd_ne | apply gd_split
    | ((with_reducible refine And.intro ?hw ?_); (case hw => first | omega | rfl | exact ⟨_, _, rfl⟩ | assumption | (simp only [lN, hcl, her, D.rnL, D.rn, posF, Hp.sel, Blk.rnL, Blk.rn, Tv.rnL, idx] <;> omega)))
    | with_reducible intro _)
      all_goals refine ⟨_, weak_gc 1 0 (Nat.le_refl _) (Nat.le_refl _), ?_⟩
      all_goals simp [St.gc, Hp.cut, Hp.back, putAt, bakF, D.rnL, D.rn, cutF, Blk.rn, Blk.rnL, Tv.rnL, setL]
      all_goals omega
theorem size_p (x : X) (hs : x.sm) : Pur M 34 [x.d] (.int .i64 (min x.nodes 61 : Nat)) := by
  refine ok34 rfl ?_
  rw [i34]
  unfold c34
  have c1 := sz35 x.nodes x (Nat.le_refl _) hs 0 (by omega)
  rw [Nat.zero_add] at c1
  generalize x.nodes = m at *
  unfold cnt1 at c1
  rw [X.d_eq] at c1 ⊢
  repeat' (first
    | with_reducible first | apply swp_seq | apply swp_reg | apply swp_regD | apply swp_block | apply swp_exit | apply swp_ret | apply swp_skip | apply swp_cd
    | simp only [go_sem, seval, P34, q34]
    | ((with_reducible refine o_eff [1] [] (c1) ?hs ?he ?hh ?_); (case hs => exact ⟨by simp, by simp, by simp, by simp⟩); (case he => first | rfl | (simp [go_sem, seval, D.rnL, D.rn, posF, Hp.sel, Blk.rnL, Blk.rn, Tv.rnL, idx]; done)); (case hh => first | rfl | (simp [go_sem, seval, D.rnL, D.rn, posF, Hp.sel, Blk.rnL, Blk.rn, Tv.rnL, idx]; done)); rintro _ _ ⟨rfl, rfl⟩)
    | with_reducible first | apply cd_dec | apply cd_eq | apply cd_ne | apply cd_split
    | ((with_reducible refine And.intro ?hw ?_); (case hw => first | omega | rfl | exact ⟨_, _, rfl⟩ | assumption | (simp only [lN, D.rnL, D.rn, posF, Hp.sel, Blk.rnL, Blk.rn, Tv.rnL, idx] <;> omega)))
    | with_reducible intro _)
  all_goals first | omega | (simp_all [D.closed, D.er, D.closedL, D.erL, Hp.back, putAt, bakF, D.rnL, D.rn, Blk.rn, Blk.rnL, Tv.rnL]; done) | (simp_all [D.closed, D.er, D.closedL, D.erL, Hp.back, putAt, bakF, D.rnL, D.rn, Blk.rn, Blk.rnL, Tv.rnL] <;> omega)
theorem rname_p : Pur M 33 [.str [114]] (.bool true) := name_p [114] (by decide)
theorem rkind_p : Pur M 33 [.str [107]] (.bool true) := name_p [107] (by decide)
@[reducible] def ruleD (x : X) : D := .agg [.str [114], .str [107], .int .i64 x.op, .str x.nam, .str x.val, .int .i64 x.num, .int .i64 x.ext, .slice (x.kids.map X.d) .no]
theorem rvalidX_p (x : X) (hs : x.sm) : Pur M 27 [ruleD x] (.bool (validF x)) := by
  refine ok27 rfl ?_
  rw [i27]
  unfold c27
  have c1 := rname_p
  have c2 := rkind_p
  have c3 := size_p x hs
  have c4 := good_p x.nodes x (Nat.le_refl _) hs
  have hcl := closedL_X x.kids
  have her := erL_X x.kids
  unfold validF
  rw [X.d_eq] at c3 c4
  generalize well x = b at *
  have hm : ((min x.nodes 61 : Nat) : Int) ≤ 60 ↔ x.nodes ≤ 60 := by omega
  generalize min x.nodes 61 = q at *
  generalize x.nodes = m at *
  repeat' (first
    | with_reducible first | apply swp_seq | apply swp_reg | apply swp_regD | apply swp_block | apply swp_exit | apply swp_ret | apply swp_skip | apply swp_cd
    | simp only [go_sem, seval, P27, q27]
    | ((with_reducible refine o_call (c1) ?he ?hc ?_); (case he | hc => first | rfl | (simp [D.erL, D.er, D.closedL, D.closed, hcl, her]; done)))
    | ((with_reducible refine o_call (c2) ?he ?hc ?_); (case he | hc => first | rfl | (simp [D.erL, D.er, D.closedL, D.closed, hcl, her]; done)))
    | ((with_reducible refine o_call (c3) ?he ?hc ?_); (case he | hc => first | rfl | (simp [D.erL, D.er, D.closedL, D.closed, hcl, her]; done)))
    | ((with_reducible refine o_call (c4) ?he ?hc ?_); (case he | hc => first | rfl | (simp [D.erL, D.er, D.closedL, D.closed, hcl, her]; done)))
    | with_reducible first | apply cd_dec | apply cd_eq | apply cd_ne | apply cd_split | apply gd_dec | apply gd_eq | apply gd_ne | apply gd_split
    | ((with_reducible refine And.intro ?hw ?_); (case hw => first | omega | rfl | exact ⟨_, _, rfl⟩ | assumption | (simp only [lN, hcl, her] <;> omega)))
    | with_reducible intro _)
  all_goals first | omega | (simp_all [D.closed, D.er, D.closedL, D.erL, hm]; done) | (simp_all [D.closed, D.er, D.closedL, D.erL, hm] <;> omega)
end Go.Proofs.Ytcchbohfcmfmlaa
end
section
set_option maxRecDepth 100000
set_option linter.unusedSimpArgs false
set_option linter.unusedVariables false
namespace Go.Proofs.Ytcchbohfcmfmlaa
open Go GoV Go.RowKit
@[reducible] def zeroC : List D := [.str [], .str [], .str [], .str [], .int .i64 0, .int .i64 0, .bool false, .lit (.slice none 0 0), .int .i64 0, .int .i64 0, .int .i64 0, .int .i64 0, .int .i64 0, .int .i64 0]
def firstAt (nm : List UInt8) (i : Nat) : List Pt → Option (Pt × Nat)
  | [] => none
  | p :: ps => if p.name == nm then some (p, i) else firstAt nm (i + 1) ps
theorem firstAt_get (nm : List UInt8) : ∀ (l : List Pt) (i : Nat), (firstAt nm i l).map (·.1) = getP l nm
  | [], i => rfl
  | p :: ps, i => by
    unfold getP
    simp only [firstAt, List.find?]
    cases p.name == nm
    · exact firstAt_get nm ps (i + 1)
    · rfl
theorem firstAt_some {nm : List UInt8} : ∀ {l : List Pt} {i : Nat} {q : Pt × Nat}, firstAt nm i l = some q → q.1.name = nm ∧ i ≤ q.2 ∧ q.2 - i < l.length ∧ l[q.2 - i]? = some q.1
  | [], i, q, h => by simp [firstAt] at h
  | p :: ps, i, q, h => by
    simp only [firstAt] at h
    split at h
    · rename_i e
      simp only [Option.some.injEq] at h
      subst h
      simp only [beq_iff_eq] at e
      simp [e]
    · obtain ⟨h1, h2, h3, h4⟩ := firstAt_some h
      refine ⟨h1, by omega, by simp; omega, ?_⟩
      rw [show q.2 - i = (q.2 - (i + 1)) + 1 by omega]
      simpa using h4
def firstsI (seen : List (List UInt8)) (i : Nat) : List Pt → List (Pt × Nat)
  | [] => []
  | p :: ps => if seen.contains p.name then firstsI seen (i + 1) ps else (p, i) :: firstsI (seen ++ [p.name]) (i + 1) ps
theorem firstsI_fst : ∀ (l : List Pt) (seen : List (List UInt8)) (i : Nat), (firstsI seen i l).map (·.1) = firsts seen l
  | [], _, _ => rfl
  | p :: ps, seen, i => by
    simp only [firstsI, firsts]
    split
    · exact firstsI_fst ps _ _
    · simp [firstsI_fst ps]
theorem firstsI_app : ∀ (l : List Pt) (p : Pt) (seen : List (List UInt8)) (i : Nat), firstsI seen i (l ++ [p]) = firstsI seen i l ++ (bif seen.contains p.name || (l.any fun q => q.name == p.name) then [] else [(p, i + l.length)])
  | [], p, seen, i => by
    simp only [List.nil_append, firstsI, List.any_nil, Bool.or_false, List.length_nil, Nat.add_zero]
    cases seen.contains p.name <;> rfl
  | q :: l, p, seen, i => by
    simp only [List.cons_append, firstsI, List.any_cons, List.length_cons]
    by_cases h : seen.contains q.name = true
    · rw [if_pos h, if_pos h, firstsI_app l p seen (i + 1)]
      congr 1
      have e : (seen.contains p.name || (q.name == p.name || l.any fun q => q.name == p.name)) = (seen.contains p.name || l.any fun q => q.name == p.name) := by
        by_cases e2 : q.name = p.name
        · rw [← e2, h]; rfl
        · have e3 : (q.name == p.name) = false := by simpa using e2
          rw [e3, Bool.false_or]
      rw [e, show i + 1 + l.length = i + (l.length + 1) by omega]
    · rw [if_neg h, if_neg h, firstsI_app l p (seen ++ [q.name]) (i + 1)]
      have e : ((seen ++ [q.name]).contains p.name || l.any fun q => q.name == p.name) = (seen.contains p.name || (q.name == p.name || l.any fun q => q.name == p.name)) := by
        rw [Bool.eq_iff_iff]
        simp only [List.contains_eq_mem, Bool.or_eq_true, decide_eq_true_eq, List.mem_append, List.mem_singleton, beq_iff_eq]
        constructor
        · rintro ((h | h) | h)
          · exact .inl h
          · exact .inr (.inl h.symm)
          · exact .inr (.inr h)
        · rintro (h | h | h)
          · exact .inl (.inl h)
          · exact .inl (.inr h.symm)
          · exact .inr h
      rw [e, show i + 1 + l.length = i + (l.length + 1) by omega, List.cons_append]
def entsF : List (Pt × Nat) → Nat → List (D × D × Nat)
  | [], _ => []
  | q :: l, b => (.str q.1.name, .int .i64 q.2, b) :: entsF l (b + 1)
theorem entsF_len : ∀ (l : List (Pt × Nat)) (b : Nat), (entsF l b).length = l.length
  | [], _ => rfl
  | q :: l, b => by simp [entsF, entsF_len l]
theorem entsF_app : ∀ (l : List (Pt × Nat)) (q : Pt × Nat) (b : Nat), entsF (l ++ [q]) b = entsF l b ++ [(.str q.1.name, .int .i64 q.2, b + l.length)]
  | [], q, b => rfl
  | x :: l, q, b => by simp [entsF, entsF_app l q]; omega
theorem entsF_ok : ∀ (l : List (Pt × Nat)) (b : Nat), ((entsF l b).all fun e => keyOk .str e.1) = true
  | [], _ => rfl
  | q :: l, b => by
    simp only [entsF, List.all_cons, keyOk, Bool.true_and]
    exact entsF_ok l (b + 1)
theorem entsF_find (nm : List UInt8) : ∀ (l : List (Pt × Nat)) (b i : Nat), (l.find? (fun q => q.1.name == nm) = none → findM (.str nm) (entsF l b) i = none) ∧
    ∀ q, l.find? (fun q => q.1.name == nm) = some q → ∃ j, findM (.str nm) (entsF l b) i = some (j, .int .i64 q.2)
  | [], b, i => ⟨fun _ => rfl, fun q h => by simp at h⟩
  | x :: l, b, i => by
    have ih := entsF_find nm l (b + 1) (i + 1)
    have e : keq (.str nm) (.str x.1.name) = (x.1.name == nm) := by rw [keq, Bool.eq_iff_iff]; simp only [beq_iff_eq]; exact eq_comm
    simp only [entsF, findM, e, List.find?]
    cases x.1.name == nm
    · exact ih
    · exact ⟨fun h => by simp at h, fun q h => by simp only [Option.some.injEq] at h; subst h; exact ⟨i, rfl⟩⟩
theorem firstsI_find (nm : List UInt8) : ∀ (l : List Pt) (seen : List (List UInt8)) (i : Nat), seen.contains nm = false → (firstsI seen i l).find? (fun q => q.1.name == nm) = firstAt nm i l
  | [], _, _, _ => rfl
  | p :: ps, seen, i, h => by
    simp only [firstsI, firstAt]
    by_cases hs : seen.contains p.name = true
    · rw [if_pos hs]
      have : (p.name == nm) = false := by
        cases e : p.name == nm with
        | false => rfl
        | true => simp only [beq_iff_eq] at e; rw [e, h] at hs; cases hs
      rw [this]
      exact firstsI_find nm ps seen _ h
    · rw [if_neg hs]
      simp only [List.find?]
      cases e : p.name == nm
      · simp only [Bool.false_eq_true, if_false]
        refine firstsI_find nm ps _ _ ?_
        simp only [beq_eq_false_iff_ne] at e
        simp only [List.contains_eq_mem, decide_eq_false_iff_not, List.mem_append, List.mem_singleton] at h ⊢
        exact fun q => q.elim h (fun q => e q.symm)
      · rfl
theorem pairs_app (β τ : Nat → Option Nat) : ∀ (a b : List (D × D × Nat)), pairs β τ (a ++ b) = pairs β τ a ++ pairs β τ b
  | [], b => rfl
  | (x, y, n) :: a, b => by simp [pairs, pairs_app β τ a b]
theorem entsF_rn (β τ : Nat → Option Nat) : ∀ (l : List (Pt × Nat)) (b : Nat), pairs β τ (entsF l b) = entsF l b
  | [], _ => rfl
  | q :: l, b => by simp [entsF, pairs, D.rn, entsF_rn β τ l]
def ofM (s : List Pt) : List (D × D × Nat) := entsF (firstsI [] 0 s) 0
theorem ofM_rn (s : List Pt) (β τ : Nat → Option Nat) : pairs β τ (ofM s) = ofM s := entsF_rn β τ _ _
theorem ofM_ok (s : List Pt) : ((ofM s).all fun e => keyOk .str e.1) = true := entsF_ok _ _
theorem ofM_none {s : List Pt} {nm : List UInt8} (h : firstAt nm 0 s = none) : findM (.str nm) (ofM s) 0 = none :=
  (entsF_find nm _ 0 0).1 (by rw [firstsI_find nm s [] 0 rfl]; exact h)
theorem ofM_some {s : List Pt} {nm : List UInt8} {q : Pt × Nat} (h : firstAt nm 0 s = some q) : ∃ j, findM (.str nm) (ofM s) 0 = some (j, .int .i64 q.2) :=
  (entsF_find nm _ 0 0).2 q (by rw [firstsI_find nm s [] 0 rfl]; exact h)
theorem firstAt_any {nm : List UInt8} : ∀ {l : List Pt} {i : Nat}, (firstAt nm i l = none ↔ (l.any fun q => q.name == nm) = false)
  | [], i => by simp [firstAt]
  | p :: ps, i => by
    simp only [firstAt, List.any_cons]
    cases p.name == nm
    · simpa using firstAt_any (l := ps) (i := i + 1)
    · simp
theorem ofM_step {s : List Pt} {i : Nat} (h : i < s.length) : ofM (s.take (i + 1)) = (match firstAt (s[i]).name 0 (s.take i) with | none => ofM (s.take i) ++ [(.str (s[i]).name, .int .i64 i, (ofM (s.take i)).length)] | some _ => ofM (s.take i)) := by
  have e : s.take (i + 1) = s.take i ++ [s[i]] := by rw [List.take_succ_eq_append_getElem h]
  have hl : (s.take i).length = i := by simp; omega
  unfold ofM
  rw [e, firstsI_app]
  have h0 : ([] : List (List UInt8)).contains s[i].name = false := rfl
  rw [h0, Bool.false_or, hl, Nat.zero_add]
  cases hf : firstAt s[i].name 0 (s.take i) with
  | none =>
    rw [firstAt_any.1 hf]
    simp only [cond_false]
    rw [entsF_app, entsF_len, Nat.zero_add]
  | some q =>
    have : ((s.take i).any fun q => q.name == s[i].name) = true := by
      cases e : (s.take i).any fun q => q.name == s[i].name with
      | true => rfl
      | false => rw [firstAt_any.2 e] at hf; cases hf
    rw [this]; simp
theorem partsD_get {s : List Pt} {i : Nat} (h : i < s.length) : (s.map ptD).getD i .undef = ptD s[i] := by simp [List.getD, h]
theorem find_some (s : List Pt) (hl : s.length < 1000000) (nm : List UInt8) (p : Pt) (h : getP s nm = some p) : Pur M 37 [stateD s, .str nm] (.tup [ptD p, .bool true]) := by
  refine ok37 rfl ?_
  rw [i37]
  unfold c37
  have hlen : (s.map ptD).length = s.length := by simp
  have hcl : D.closedL (s.map ptD) = true := by
    have : ∀ l : List Pt, D.closedL (l.map ptD) = true := fun l => by induction l with | nil => rfl | cons x l ih => simp [D.closedL, cl_P, ih]
    exact this s
  rw [← firstAt_get nm s 0] at h
  obtain ⟨⟨p', k⟩, hq, rfl⟩ := Option.map_eq_some_iff.1 h
  obtain ⟨q1, q2, q3, q4⟩ := firstAt_some hq
  simp only [Nat.sub_zero] at q3 q4
  have hbefore : ∀ j (hj : j < k), (s[j]'(by omega)).name ≠ nm := by
    have gen : ∀ (l : List Pt) (i : Nat), firstAt nm i l = some (p', k) → ∀ j (h1 : j < l.length), j + i < k → l[j].name ≠ nm := by
      intro l
      induction l with
      | nil => intro i h; simp [firstAt] at h
      | cons x l ih =>
        intro i h j h1 h2
        simp only [firstAt] at h
        split at h
        · simp only [Option.some.injEq, Prod.mk.injEq] at h; omega
        · rename_i e
          cases j with
          | zero => simpa using e
          | succ j => simpa using ih (i + 1) h j (by simpa using h1) (by omega)
    exact fun j hj => gen s 0 hq j (by omega) (by omega)
  have hk : s[k] = p' := by rw [List.getElem?_eq_getElem q3] at q4; simpa using q4
  repeat' (first
    | with_reducible first | apply swp_seq | apply swp_reg | apply swp_regD | apply swp_block | apply swp_exit | apply swp_ret | apply swp_skip | apply swp_cd
    | simp only [go_sem, seval, P37, q37, hlen]
    | with_reducible first | apply cd_dec | apply cd_eq | apply cd_ne | apply cd_split
    | ((with_reducible refine And.intro ?hw ?_); (case hw => first | omega | rfl | exact ⟨_, _, rfl⟩ | assumption | (simp only [lN] <;> omega)))
    | with_reducible intro _)
  refine swp_famG [0, 1, 2, 3, 4, 6, 7, 8] 2 0 (Nat.zero_le _) (Nat.le_refl _) (fun i : Nat => ⟨[stateD s, .str nm, .ptr 0 0, .ptr 1 0, .bool false, .undef, partsD s, .int .i64 s.length, .int .i64 i, .undef, .undef], [], ⟨[.cells [partsD s], .cells zeroC], []⟩⟩) (fun i => i ≤ k) (fun i => k + 1 - i) 0 (by omega) ?_ ?_
  · simp [keepE, St.keepG, St.keep, St.gc, Hp.cut, D.rnL, D.rn, cutF, Blk.rn, Blk.rnL, Tv.rnL, Own.rn]
  · intro i hi
    have hil : i < s.length := by omega
    have hg : (s.map ptD).getD i .undef = .agg (s[i]).cells := partsD_get hil
    have hb : (s[i].name == nm) = decide (i = k) := by
      by_cases e : i = k
      · subst e; rw [hk, q1]; simp
      · simp [e, hbefore i (by omega)]
    repeat' (first
    | with_reducible first | apply swp_seq | apply swp_reg | apply swp_regD | apply swp_block | apply swp_exit | apply swp_ret | apply swp_skip | apply swp_cd
    | simp only [go_sem, seval, P37, q37, hlen, hg, hb]
    | simp (disch := omega) only [w64, w32, wu8, wu16, wu32, wu64]
    | with_reducible first | apply cd_dec | apply cd_eq | apply cd_ne | apply cd_split
    | ((with_reducible refine And.intro ?hw ?_); (case hw => first | omega | rfl | exact ⟨_, _, rfl⟩ | assumption | (simp only [lN, hlen, hg] <;> omega)))
    | with_reducible intro _)
    all_goals try omega
    all_goals first
      | (rename_i h9; exact absurd hil (by omega))
      | (refine ⟨i + 1, by omega, by omega, ?_⟩; simp [keepE, St.keepG, St.keep, St.gc, Hp.cut, D.rnL, D.rn, cutF, Blk.rn, Blk.rnL, Tv.rnL, Own.rn])
      | (rename_i h9; subst h9; rw [hk]; simp [D.closed, D.er, D.closedL, D.erL, ptD, setL]; done)
      | skip
theorem find_none (s : List Pt) (hl : s.length < 1000000) (nm : List UInt8) (h : getP s nm = none) : Pur M 37 [stateD s, .str nm] (.tup [ptD default, .bool false]) := by
  refine pur_res (d := .tup [.agg zeroC, .bool false]) (ok37 rfl ?_) (by simp [D.nn, D.nnL, ptD, Pt.cells, default, instInhabitedPt])
  rw [i37]
  unfold c37
  have hlen : (s.map ptD).length = s.length := by simp
  rw [← firstAt_get nm s 0] at h
  have hq : firstAt nm 0 s = none := by simpa using h
  have hne : ∀ j (hj : j < s.length), (s[j].name == nm) = false := fun j hj => by
    have := firstAt_any.1 hq
    simp only [List.any_eq_false] at this
    simpa using this s[j] (List.getElem_mem hj)
  repeat' (first
    | with_reducible first | apply swp_seq | apply swp_reg | apply swp_regD | apply swp_block | apply swp_exit | apply swp_ret | apply swp_skip | apply swp_cd
    | simp only [go_sem, seval, P37, q37, hlen]
    | with_reducible first | apply cd_dec | apply cd_eq | apply cd_ne | apply cd_split
    | ((with_reducible refine And.intro ?hw ?_); (case hw => first | omega | rfl | exact ⟨_, _, rfl⟩ | assumption | (simp only [lN] <;> omega)))
    | with_reducible intro _)
  refine swp_famG [0, 1, 2, 3, 4, 6, 7, 8] 2 0 (Nat.zero_le _) (Nat.le_refl _) (fun i : Nat => ⟨[stateD s, .str nm, .ptr 0 0, .ptr 1 0, .bool false, .undef, partsD s, .int .i64 s.length, .int .i64 i, .undef, .undef], [], ⟨[.cells [partsD s], .cells zeroC], []⟩⟩) (fun i => i ≤ s.length) (fun i => s.length + 1 - i) 0 (by omega) ?_ ?_
  · simp [keepE, St.keepG, St.keep, St.gc, Hp.cut, D.rnL, D.rn, cutF, Blk.rn, Blk.rnL, Tv.rnL, Own.rn, pairs]
  · intro i hi
    by_cases hil : i < s.length
    · have hg : (s.map ptD).getD i .undef = .agg (s[i]).cells := partsD_get hil
      have hb := hne i hil
      repeat' (first
    | with_reducible first | apply swp_seq | apply swp_reg | apply swp_regD | apply swp_block | apply swp_exit | apply swp_ret | apply swp_skip | apply swp_cd
    | simp only [go_sem, seval, P37, q37, hlen, hg, hb]
    | simp (disch := omega) only [w64, w32, wu8, wu16, wu32, wu64]
    | with_reducible first | apply cd_dec | apply cd_eq | apply cd_ne | apply cd_split
    | ((with_reducible refine And.intro ?hw ?_); (case hw => first | omega | rfl | exact ⟨_, _, rfl⟩ | assumption | (simp only [lN, hlen, hg] <;> omega)))
    | with_reducible intro _)
      all_goals try omega
      refine ⟨i + 1, by omega, by omega, ?_⟩
      simp [keepE, St.keepG, St.keep, St.gc, Hp.cut, D.rnL, D.rn, cutF, Blk.rn, Blk.rnL, Tv.rnL, Own.rn, pairs]
    · repeat' (first
    | with_reducible first | apply swp_seq | apply swp_reg | apply swp_regD | apply swp_block | apply swp_exit | apply swp_ret | apply swp_skip | apply swp_cd
    | simp only [go_sem, seval, P37, q37, hlen, fillL]
    | simp (disch := omega) only [w64, w32, wu8, wu16, wu32, wu64]
    | with_reducible first | apply cd_dec | apply cd_eq | apply cd_ne | apply cd_split
    | ((with_reducible refine And.intro ?hw ?_); (case hw => first | omega | rfl | exact ⟨_, _, rfl⟩ | assumption | (simp only [lN, hlen] <;> omega)))
    | with_reducible intro _)
      all_goals try omega
      all_goals simp [D.closed, D.er, D.closedL, D.erL, setL]
theorem find_p (s : List Pt) (hl : s.length < 1000000) (nm : List UInt8) : Pur M 37 [stateD s, .str nm] (.tup [ptD (find0 s nm), .bool (getP s nm).isSome]) := by
  unfold find0
  cases h : getP s nm with
  | none => exact find_none s hl nm h
  | some p => exact find_some s hl nm p h
abbrev yardD (s : List Pt) (b : Nat) : D := .agg [partsD s, .mp b]
theorem take_all {s : List Pt} {i : Nat} (h : ¬ i < s.length) : s.take i = s := List.take_of_length_le (by omega)
set_option maxHeartbeats 1000000 in
theorem of_e (s : List Pt) (hl : s.length < 1000000) : Eff M 29 [stateD s] ⟨[], []⟩ fun d hp => d = yardD s 0 ∧ hp = ⟨[.map (ofM s) (ofM s).length, .cells [partsD s, .mp 0]], []⟩ := by
  refine oe29 0 0 rfl rfl rfl ?_
  rw [ie29]
  unfold c29
  have hlen : (s.map ptD).length = s.length := by simp
  repeat' (first
    | with_reducible first | apply swp_seq | apply swp_reg | apply swp_regD | apply swp_block | apply swp_exit | apply swp_ret | apply swp_skip | apply swp_cd
    | simp only [go_sem, seval, pe29, q29, fillL, o_newM]
    | ((with_reducible apply s_mpu); (case h1 | hk => rfl); (case ha | hp => first | rfl | assumption | omega | ((first | refine ⟨?_, ?_⟩ | skip) <;> first | omega | (simp only [lN] <;> omega)) | (simp [elemsK, D.isVal, D.cells, D.closedL, D.closed]; first | done | omega)))
    | ((with_reducible apply s_lkpS); (case h1 | hk => rfl); (case ha | hf => first | rfl | assumption | omega | ((first | refine ⟨?_, ?_⟩ | skip) <;> first | omega | (simp only [lN] <;> omega)) | (simp [elemsK, D.isVal, D.cells, D.closedL, D.closed]; first | done | omega)))
    | ((with_reducible apply s_lkpN); (case h1 | hk => rfl); (case hf | ha => first | rfl | assumption | omega | ((first | refine ⟨?_, ?_⟩ | skip) <;> first | omega | (simp only [lN] <;> omega)) | (simp [elemsK, D.isVal, D.cells, D.closedL, D.closed]; first | done | omega)))
    | with_reducible first | apply cd_dec | apply cd_eq | apply cd_ne | apply cd_split
    | ((with_reducible refine And.intro ?hw ?_); (case hw => first | omega | rfl | exact ⟨_, _, rfl⟩ | assumption | (simp only [lN] <;> omega)))
    | with_reducible intro _)
  refine swp_famG (C := E29 0 0) [0, 1, 2, 3, 7, 8, 9] 4 0 (Nat.zero_le 4) (Nat.le_refl 0) (fun i : Nat => ⟨[stateD s, .ptr 0 0, .ptr 1 0, .ptr 3 0, .undef, .undef, .undef, partsD s, .int .i64 s.length, .int .i64 i, .undef, .undef], [],
    ⟨[.cells [partsD s], .cells [.lit (.slice none 0 0), .lit (.map none)], .map (ofM (s.take i)) (ofM (s.take i)).length, .cells [partsD s, .mp 2]], []⟩⟩) (fun i => i ≤ s.length) (fun i => s.length + 1 - i) 0 (by omega) ?_ ?_
  · simp [keepE, St.keepG, St.keep, St.gc, Hp.cut, D.rnL, D.rn, cutF, Blk.rn, Blk.rnL, Tv.rnL, Own.rn, pairs]
    exact ⟨rfl, rfl⟩
  · intro i hi
    by_cases hil : i < s.length
    · have hg : (s.map ptD).getD i .undef = .agg (s[i]).cells := partsD_get hil
      have hok := ofM_ok (s.take i)
      have hst := ofM_step hil
      have hE := fun β τ => ofM_rn (s.take i) β τ
      cases hf : firstAt (s[i]).name 0 (s.take i) with
      | none =>
        have hn := ofM_none hf
        rw [hf] at hst
        simp only at hst
        generalize ofM (s.take i) = E at *
        have hput : putM E E.length (.str (s[i]).name) (.int .i64 i) = .map (E ++ [(.str (s[i]).name, .int .i64 i, E.length)]) (E.length + 1) := by simp [putM, hn]
        repeat' (first
    | with_reducible first | apply swp_seq | apply swp_reg | apply swp_regD | apply swp_block | apply swp_exit | apply swp_ret | apply swp_skip | apply swp_cd
    | simp only [go_sem, seval, pe29, q29, hlen, hg, o_newM]
    | simp (disch := omega) only [w64, w32, wu8, wu16, wu32, wu64]
    | ((with_reducible apply s_mpu); (case h1 | hk => rfl); (case ha | hp => first | rfl | assumption | omega | ((first | refine ⟨?_, ?_⟩ | skip) <;> first | omega | (simp only [lN, hlen, hg, hok, hn, hput] <;> omega)) | (simp [elemsK, D.isVal, D.cells, D.closedL, D.closed, hlen, hg, hok, hn, hput]; first | done | omega)))
    | ((with_reducible apply s_lkpS); (case h1 | hk => rfl); (case ha | hf => first | rfl | assumption | omega | ((first | refine ⟨?_, ?_⟩ | skip) <;> first | omega | (simp only [lN, hlen, hg, hok, hn, hput] <;> omega)) | (simp [elemsK, D.isVal, D.cells, D.closedL, D.closed, hlen, hg, hok, hn, hput]; first | done | omega)))
    | ((with_reducible apply s_lkpN); (case h1 | hk => rfl); (case hf | ha => first | rfl | assumption | omega | ((first | refine ⟨?_, ?_⟩ | skip) <;> first | omega | (simp only [lN, hlen, hg, hok, hn, hput] <;> omega)) | (simp [elemsK, D.isVal, D.cells, D.closedL, D.closed, hlen, hg, hok, hn, hput]; first | done | omega)))
    | with_reducible first | apply cd_dec | apply cd_eq | apply cd_ne | apply cd_split
    | ((with_reducible refine And.intro ?hw ?_); (case hw => first | omega | rfl | exact ⟨_, _, rfl⟩ | assumption | (simp only [lN, hlen, hg, hok, hn, hput] <;> omega)))
    | with_reducible intro _)
        all_goals try omega
        all_goals refine ⟨i + 1, by omega, by omega, ?_⟩
        all_goals simp [keepE, St.keepG, St.keep, St.gc, Hp.cut, D.rnL, D.rn, cutF, Blk.rn, Blk.rnL, Tv.rnL, Own.rn, pairs, pairs_app, hE, hst, hput]
      | some q =>
        obtain ⟨j, hs⟩ := ofM_some hf
        rw [hf] at hst
        simp only at hst
        generalize ofM (s.take i) = E at *
        repeat' (first
    | with_reducible first | apply swp_seq | apply swp_reg | apply swp_regD | apply swp_block | apply swp_exit | apply swp_ret | apply swp_skip | apply swp_cd
    | simp only [go_sem, seval, pe29, q29, hlen, hg, o_newM]
    | simp (disch := omega) only [w64, w32, wu8, wu16, wu32, wu64]
    | ((with_reducible apply s_mpu); (case h1 | hk => rfl); (case ha | hp => first | rfl | assumption | omega | ((first | refine ⟨?_, ?_⟩ | skip) <;> first | omega | (simp only [lN, hlen, hg, hok, hs] <;> omega)) | (simp [elemsK, D.isVal, D.cells, D.closedL, D.closed, hlen, hg, hok, hs]; first | done | omega)))
    | ((with_reducible apply s_lkpS); (case h1 | hk => rfl); (case ha | hf => first | rfl | assumption | omega | ((first | refine ⟨?_, ?_⟩ | skip) <;> first | omega | (simp only [lN, hlen, hg, hok, hs] <;> omega)) | (simp [elemsK, D.isVal, D.cells, D.closedL, D.closed, hlen, hg, hok, hs]; first | done | omega)))
    | ((with_reducible apply s_lkpN); (case h1 | hk => rfl); (case hf | ha => first | rfl | assumption | omega | ((first | refine ⟨?_, ?_⟩ | skip) <;> first | omega | (simp only [lN, hlen, hg, hok, hs] <;> omega)) | (simp [elemsK, D.isVal, D.cells, D.closedL, D.closed, hlen, hg, hok, hs]; first | done | omega)))
    | with_reducible first | apply cd_dec | apply cd_eq | apply cd_ne | apply cd_split
    | ((with_reducible refine And.intro ?hw ?_); (case hw => first | omega | rfl | exact ⟨_, _, rfl⟩ | assumption | (simp only [lN, hlen, hg, hok, hs] <;> omega)))
    | with_reducible intro _)
        all_goals try omega
        all_goals refine ⟨i + 1, by omega, by omega, ?_⟩
        all_goals simp [keepE, St.keepG, St.keep, St.gc, Hp.cut, D.rnL, D.rn, cutF, Blk.rn, Blk.rnL, Tv.rnL, Own.rn, pairs, pairs_app, hE, hst]
    · have hE := fun β τ => ofM_rn s β τ
      simp only [take_all hil]
      generalize ofM s = E at *
      repeat' (first
    | with_reducible first | apply swp_seq | apply swp_reg | apply swp_regD | apply swp_block | apply swp_exit | apply swp_ret | apply swp_skip | apply swp_cd
    | simp only [go_sem, seval, pe29, q29, hlen, o_newM]
    | simp (disch := omega) only [w64, w32, wu8, wu16, wu32, wu64]
    | ((with_reducible apply s_mpu); (case h1 | hk => rfl); (case ha | hp => first | rfl | assumption | omega | ((first | refine ⟨?_, ?_⟩ | skip) <;> first | omega | (simp only [lN, hlen] <;> omega)) | (simp [elemsK, D.isVal, D.cells, D.closedL, D.closed, hlen]; first | done | omega)))
    | ((with_reducible apply s_lkpS); (case h1 | hk => rfl); (case ha | hf => first | rfl | assumption | omega | ((first | refine ⟨?_, ?_⟩ | skip) <;> first | omega | (simp only [lN, hlen] <;> omega)) | (simp [elemsK, D.isVal, D.cells, D.closedL, D.closed, hlen]; first | done | omega)))
    | ((with_reducible apply s_lkpN); (case h1 | hk => rfl); (case hf | ha => first | rfl | assumption | omega | ((first | refine ⟨?_, ?_⟩ | skip) <;> first | omega | (simp only [lN, hlen] <;> omega)) | (simp [elemsK, D.isVal, D.cells, D.closedL, D.closed, hlen]; first | done | omega)))
    | with_reducible first | apply cd_dec | apply cd_eq | apply cd_ne | apply cd_split
    | ((with_reducible refine And.intro ?hw ?_); (case hw => first | omega | rfl | exact ⟨_, _, rfl⟩ | assumption | (simp only [lN, hlen] <;> omega)))
    | with_reducible intro _)
      all_goals try omega
      refine ⟨_, weak_sel [2, 1] [] ⟨by simp, by simp, by simp, by simp⟩ rfl rfl, ?_⟩
      simp [St.sel, Hp.sel, D.rnL, D.rn, posF, idx, Blk.rn, Blk.rnL, Tv.rnL, Own.rn, pairs, hE, setL]
      exact ⟨_, rfl, by simp, by simp⟩
end Go.Proofs.Ytcchbohfcmfmlaa
end
section
set_option maxRecDepth 100000
set_option linter.unusedSimpArgs false
set_option linter.unusedVariables false
namespace Go.Proofs.Ytcchbohfcmfmlaa
open Go GoV Go.RowKit
abbrev mapH (s : List Pt) : Hp := ⟨[.map (ofM s) (ofM s).length], []⟩
theorem of_m (s : List Pt) (hl : s.length < 1000000) : Eff M 29 [stateD s] ⟨[], []⟩ fun d hp => d = yardD s 0 ∧ hp = mapH s := by
  refine eff_cut 1 0 (of_e s hl) (Nat.zero_le 1) (Nat.zero_le 0) ?_ ?_
  · simp [D.rn, D.rnL, Own.rn, cutF]
  · have hE := fun β τ => ofM_rn s β τ
    simp [Hp.cut, Blk.rnL, Blk.rn, Tv.rnL, hE]
theorem get_none (s : List Pt) (hl : s.length < 1000000) (nm : List UInt8) (h : getP s nm = none) : Eff M 30 [yardD s 0, .str nm] (mapH s) fun d hp => d = .tup [.agg zeroC, .bool false] ∧ hp = mapH s := by
  rw [← firstAt_get nm s 0] at h
  have hq : firstAt nm 0 s = none := by simpa using h
  have hn := ofM_none hq
  have hok := ofM_ok s
  have hE := fun β τ => ofM_rn s β τ
  unfold mapH
  generalize ofM s = E at *
  refine eff_cut 1 0 (hp1 := ⟨[.map E E.length, .cells zeroC], []⟩) (d0 := .tup [.agg zeroC, .bool false]) (oe30 1 0 rfl rfl rfl ?_) (Nat.le_refl 1) (Nat.zero_le 0) (by simp [D.rn, D.rnL]) (by simp [Hp.cut, Blk.rnL, Blk.rn, Tv.rnL, hE])
  rw [ie30]
  unfold c30
  repeat' (first
    | with_reducible first | apply swp_seq | apply swp_reg | apply swp_regD | apply swp_block | apply swp_exit | apply swp_ret | apply swp_skip | apply swp_cd
    | simp only [go_sem, seval, pe30, q30, fillL]
    | ((with_reducible apply s_lkpS); (case h1 | hk => rfl); (case ha | hf => first | rfl | assumption | omega | ((first | refine ⟨?_, ?_⟩ | skip) <;> first | omega | (simp only [lN, hok, hn] <;> omega)) | (simp [elemsK, D.isVal, D.cells, D.closedL, D.closed, hok, hn]; first | done | omega)))
    | ((with_reducible apply s_lkpN); (case h1 | hk => rfl); (case hf | ha => first | rfl | assumption | omega | ((first | refine ⟨?_, ?_⟩ | skip) <;> first | omega | (simp only [lN, hok, hn] <;> omega)) | (simp [elemsK, D.isVal, D.cells, D.closedL, D.closed, hok, hn]; first | done | omega)))
    | with_reducible first | apply cd_dec | apply cd_eq | apply cd_ne | apply cd_split
    | ((with_reducible refine And.intro ?hw ?_); (case hw => first | omega | rfl | exact ⟨_, _, rfl⟩ | assumption | (simp only [lN, hok, hn] <;> omega)))
    | with_reducible intro _)
  refine ⟨_, weak_sel [0, 2] [] ⟨by simp, by simp, by simp, by simp⟩ rfl rfl, ?_⟩
  simp [St.sel, Hp.sel, D.rnL, D.rn, posF, idx, Blk.rn, Blk.rnL, Tv.rnL, Own.rn, pairs, hE, setL]
  exact ⟨_, rfl, by simp, by simp⟩
theorem get_some (s : List Pt) (hl : s.length < 1000000) (nm : List UInt8) (p : Pt) (h : getP s nm = some p) : Eff M 30 [yardD s 0, .str nm] (mapH s) fun d hp => d = .tup [ptD p, .bool true] ∧ hp = mapH s := by
  rw [← firstAt_get nm s 0] at h
  obtain ⟨⟨p', k⟩, hq, rfl⟩ := Option.map_eq_some_iff.1 h
  obtain ⟨q1, q2, q3, q4⟩ := firstAt_some hq
  simp only [Nat.sub_zero] at q3 q4
  obtain ⟨j, hs⟩ := ofM_some hq
  have hok := ofM_ok s
  have hE := fun β τ => ofM_rn s β τ
  have hg : (s.map ptD).getD k .undef = .agg p'.cells := by rw [partsD_get q3]; rw [List.getElem?_eq_getElem q3] at q4; simp only [Option.some.injEq] at q4; rw [q4]; rfl
  have hlen : (s.map ptD).length = s.length := by simp
  unfold mapH
  generalize ofM s = E at *
  simp only at hs ⊢
  refine eff_cut 1 0 (hp1 := ⟨[.map E E.length, .cells p'.cells], []⟩) (d0 := .tup [ptD p', .bool true]) (oe30 1 0 rfl rfl rfl ?_) (Nat.le_refl 1) (Nat.zero_le 0) (by simp [ptD, D.rn, D.rnL, Own.rn]) (by simp [Hp.cut, Blk.rnL, Blk.rn, Tv.rnL, hE])
  rw [ie30]
  unfold c30
  repeat' (first
    | with_reducible first | apply swp_seq | apply swp_reg | apply swp_regD | apply swp_block | apply swp_exit | apply swp_ret | apply swp_skip | apply swp_cd
    | simp only [go_sem, seval, pe30, q30, fillL, hlen, hg]
    | ((with_reducible apply s_lkpS); (case h1 | hk => rfl); (case ha | hf => first | rfl | assumption | omega | ((first | refine ⟨?_, ?_⟩ | skip) <;> first | omega | (simp only [lN, hok, hs, hlen, hg] <;> omega)) | (simp [elemsK, D.isVal, D.cells, D.closedL, D.closed, hok, hs, hlen, hg]; first | done | omega)))
    | ((with_reducible apply s_lkpN); (case h1 | hk => rfl); (case hf | ha => first | rfl | assumption | omega | ((first | refine ⟨?_, ?_⟩ | skip) <;> first | omega | (simp only [lN, hok, hs, hlen, hg] <;> omega)) | (simp [elemsK, D.isVal, D.cells, D.closedL, D.closed, hok, hs, hlen, hg]; first | done | omega)))
    | with_reducible first | apply cd_dec | apply cd_eq | apply cd_ne | apply cd_split
    | ((with_reducible refine And.intro ?hw ?_); (case hw => first | omega | rfl | exact ⟨_, _, rfl⟩ | assumption | (simp only [lN, hok, hs, hlen, hg] <;> omega)))
    | with_reducible intro _)
  all_goals try omega
  all_goals refine ⟨_, weak_sel [0, 2] [] ⟨by simp, by simp, by simp, by simp⟩ rfl rfl, ?_⟩
  all_goals simp [St.sel, Hp.sel, D.rnL, D.rn, posF, idx, Blk.rn, Blk.rnL, Tv.rnL, Own.rn, pairs, hE, setL]
  all_goals exact ⟨_, rfl, by simp, by simp [ptD]⟩
set_option maxHeartbeats 1000000 in
theorem root_p (s : List Pt) (hl : s.length < 1000000) (part : List UInt8) : Pur M 14 [stateD s, .str part] (.str (root s part)) := by
  refine ok14 rfl ?_
  rw [i14]
  unfold c14
  have hlen : (s.map ptD).length = s.length := by simp
  have c1 := of_m s hl
  have hE := fun β τ => ofM_rn s β τ
  have hgn := fun nm h => get_none s hl nm h
  have hgs := fun nm p h => get_some s hl nm p h
  unfold mapH at c1 hgn hgs
  generalize ofM s = E at *
  repeat' (first
    | with_reducible first | apply swp_seq | apply swp_reg | apply swp_regD | apply swp_block | apply swp_exit | apply swp_ret | apply swp_skip | apply swp_cd
    | simp only [go_sem, seval, P14, q14, hlen, hE]
    | ((with_reducible refine o_eff [] [] (c1) ?hs ?he ?hh ?_); (case hs => exact ⟨by simp, by simp, by simp, by simp⟩); (case he => first | rfl | (simp [go_sem, seval, D.rnL, D.rn, posF, Hp.sel, Blk.rnL, Blk.rn, Tv.rnL, idx, Hp.back, putAt, bakF, hE]; done)); (case hh => first | rfl | (simp [go_sem, seval, D.rnL, D.rn, posF, Hp.sel, Blk.rnL, Blk.rn, Tv.rnL, idx, Hp.back, putAt, bakF, hE]; done)); rintro _ _ ⟨rfl, rfl⟩)
    | with_reducible first | apply cd_dec | apply cd_eq | apply cd_ne | apply cd_split
    | ((with_reducible refine And.intro ?hw ?_); (case hw => first | omega | rfl | exact ⟨_, _, rfl⟩ | assumption | (simp only [lN, D.rnL, D.rn, posF, Hp.sel, Blk.rnL, Blk.rn, Tv.rnL, idx, Hp.back, putAt, bakF, hE] <;> omega)))
    | with_reducible intro _)
  refine swp_famG (C := C14) [0, 1, 2, 3, 4, 7, 8] 3 0 (Nat.zero_le 3) (Nat.le_refl 0) (fun p : Nat × List UInt8 => ⟨[stateD s, .str p.2, .ptr 0 0, .str [], .ptr 2 0, .undef, .undef, .int .i64 s.length, .int .i64 p.1, .undef, .undef, .undef], [],
    ⟨[.cells [partsD s], .map E E.length, .cells [partsD s, .mp 1]], []⟩⟩) (fun p => p.1 ≤ s.length ∧ rootN s (s.length - p.1) p.2 = root s part) (fun p => s.length + 1 - p.1) (0, part) ⟨by omega, rfl⟩ ?_ ?_
  · simp [keepE, St.keepG, St.keep, St.gc, Hp.cut, D.rnL, D.rn, cutF, Blk.rn, Blk.rnL, Tv.rnL, Own.rn, pairs, hE]
  · rintro ⟨i, nm⟩ ⟨hi, hr⟩
    simp only at hi hr ⊢
    by_cases hil : i < s.length
    · rw [show s.length - i = (s.length - (i + 1)) + 1 by omega, rootN] at hr
      cases hf : getP s nm with
      | none =>
        have c2 := hgn nm hf
        rw [hf] at hr
        simp only at hr
        rw [← hr]
        repeat' (first
    | with_reducible first | apply swp_seq | apply swp_reg | apply swp_regD | apply swp_block | apply swp_exit | apply swp_ret | apply swp_skip | apply swp_cd
    | simp only [go_sem, seval, P14, q14, hlen, hE]
    | simp (disch := omega) only [w64, w32, wu8, wu16, wu32, wu64]
    | ((with_reducible refine o_eff [1] [] (c2) ?hs ?he ?hh ?_); (case hs => exact ⟨by simp, by simp, by simp, by simp⟩); (case he => first | rfl | (simp [go_sem, seval, D.rnL, D.rn, posF, Hp.sel, Blk.rnL, Blk.rn, Tv.rnL, Own.rn, idx, Hp.back, putAt, bakF, hE, hlen]; done)); (case hh => first | rfl | (simp [go_sem, seval, D.rnL, D.rn, posF, Hp.sel, Blk.rnL, Blk.rn, Tv.rnL, Own.rn, idx, Hp.back, putAt, bakF, hE, hlen]; done)); rintro _ _ ⟨rfl, rfl⟩)
    | with_reducible first | apply cd_dec | apply cd_eq | apply cd_ne | apply cd_split
    | ((with_reducible refine And.intro ?hw ?_); (case hw => first | omega | rfl | exact ⟨_, _, rfl⟩ | assumption | (simp only [lN, D.rnL, D.rn, posF, Hp.sel, Blk.rnL, Blk.rn, Tv.rnL, Own.rn, idx, Hp.back, putAt, bakF, hE, hlen] <;> omega)))
    | with_reducible intro _)
        all_goals first | omega | (simp_all [D.closed, D.er, D.closedL, D.erL]; done) | (simp_all [D.closed, D.er, D.closedL, D.erL] <;> omega)
      | some p =>
        have c2 := hgs nm p hf
        rw [hf] at hr
        simp only at hr
        by_cases hp : p.into = []
        · rw [if_pos hp] at hr
          rw [← hr]
          have hb : (p.into == []) = true := by simp [hp]
          unfold ptD at c2
          repeat' (first
    | with_reducible first | apply swp_seq | apply swp_reg | apply swp_regD | apply swp_block | apply swp_exit | apply swp_ret | apply swp_skip | apply swp_cd
    | simp only [go_sem, seval, P14, q14, hlen, hE, hb]
    | simp (disch := omega) only [w64, w32, wu8, wu16, wu32, wu64]
    | ((with_reducible refine o_eff [1] [] (c2) ?hs ?he ?hh ?_); (case hs => exact ⟨by simp, by simp, by simp, by simp⟩); (case he => first | rfl | (simp [go_sem, seval, D.rnL, D.rn, posF, Hp.sel, Blk.rnL, Blk.rn, Tv.rnL, Own.rn, idx, Hp.back, putAt, bakF, hE, hlen]; done)); (case hh => first | rfl | (simp [go_sem, seval, D.rnL, D.rn, posF, Hp.sel, Blk.rnL, Blk.rn, Tv.rnL, Own.rn, idx, Hp.back, putAt, bakF, hE, hlen]; done)); rintro _ _ ⟨rfl, rfl⟩)
    | with_reducible first | apply cd_dec | apply cd_eq | apply cd_ne | apply cd_split
    | ((with_reducible refine And.intro ?hw ?_); (case hw => first | omega | rfl | exact ⟨_, _, rfl⟩ | assumption | (simp only [lN, D.rnL, D.rn, posF, Hp.sel, Blk.rnL, Blk.rn, Tv.rnL, Own.rn, idx, Hp.back, putAt, bakF, hE, hlen] <;> omega)))
    | with_reducible intro _)
          all_goals first | omega | (simp_all [D.closed, D.er, D.closedL, D.erL]; done) | (simp_all [D.closed, D.er, D.closedL, D.erL] <;> omega)
        · rw [if_neg hp] at hr
          have hb : (p.into == []) = false := by simp [hp]
          unfold ptD at c2
          repeat' (first
    | with_reducible first | apply swp_seq | apply swp_reg | apply swp_regD | apply swp_block | apply swp_exit | apply swp_ret | apply swp_skip | apply swp_cd
    | simp only [go_sem, seval, P14, q14, hlen, hE, hb]
    | simp (disch := omega) only [w64, w32, wu8, wu16, wu32, wu64]
    | ((with_reducible refine o_eff [1] [] (c2) ?hs ?he ?hh ?_); (case hs => exact ⟨by simp, by simp, by simp, by simp⟩); (case he => first | rfl | (simp [go_sem, seval, D.rnL, D.rn, posF, Hp.sel, Blk.rnL, Blk.rn, Tv.rnL, Own.rn, idx, Hp.back, putAt, bakF, hE, hlen]; done)); (case hh => first | rfl | (simp [go_sem, seval, D.rnL, D.rn, posF, Hp.sel, Blk.rnL, Blk.rn, Tv.rnL, Own.rn, idx, Hp.back, putAt, bakF, hE, hlen]; done)); rintro _ _ ⟨rfl, rfl⟩)
    | with_reducible first | apply cd_dec | apply cd_eq | apply cd_ne | apply cd_split
    | ((with_reducible refine And.intro ?hw ?_); (case hw => first | omega | rfl | exact ⟨_, _, rfl⟩ | assumption | (simp only [lN, D.rnL, D.rn, posF, Hp.sel, Blk.rnL, Blk.rn, Tv.rnL, Own.rn, idx, Hp.back, putAt, bakF, hE, hlen] <;> omega)))
    | with_reducible intro _)
          all_goals try omega
          all_goals refine ⟨(i + 1, p.into), ⟨by simp only; omega, hr⟩, by simp only; omega, ?_⟩
          all_goals simp [keepE, St.keepG, St.keep, St.gc, Hp.cut, D.rnL, D.rn, cutF, Blk.rn, Blk.rnL, Tv.rnL, Own.rn, pairs, hE, Hp.back, putAt, bakF]
    · have hz : s.length - i = 0 := by omega
      rw [hz, rootN] at hr
      rw [← hr]
      repeat' (first
    | with_reducible first | apply swp_seq | apply swp_reg | apply swp_regD | apply swp_block | apply swp_exit | apply swp_ret | apply swp_skip | apply swp_cd
    | simp only [go_sem, seval, P14, q14, hlen]
    | simp (disch := omega) only [w64, w32, wu8, wu16, wu32, wu64]
    | with_reducible first | apply cd_dec | apply cd_eq | apply cd_ne | apply cd_split
    | ((with_reducible refine And.intro ?hw ?_); (case hw => first | omega | rfl | exact ⟨_, _, rfl⟩ | assumption | (simp only [lN, hlen] <;> omega)))
    | with_reducible intro _)
      all_goals first | omega | (simp_all [D.closed, D.er, D.closedL, D.erL]; done) | (simp_all [D.closed, D.er, D.closedL, D.erL] <;> omega)
end Go.Proofs.Ytcchbohfcmfmlaa
end
section
set_option maxRecDepth 100000
set_option linter.unusedSimpArgs false
set_option linter.unusedVariables false
namespace Go.Proofs.Ytcchbohfcmfmlaa
open Go GoV Go.RowKit
theorem nan_p (a : List UInt8) : Pur M 96 [.str a] (.bool false) := by
  refine ok96 rfl ?_
  rw [i96]
  unfold c96
  have h : (a == a) = true := by simp
  repeat' (first
    | with_reducible first | apply swp_seq | apply swp_reg | apply swp_regD | apply swp_block | apply swp_exit | apply swp_ret | apply swp_skip | apply swp_cd
    | simp only [go_sem, seval, P96, q96, h]
    | with_reducible first | apply cd_dec | apply cd_eq | apply cd_ne | apply cd_split
    | ((with_reducible refine And.intro ?hw ?_); (case hw => first | omega | rfl | exact ⟨_, _, rfl⟩ | assumption | (simp only [lN] <;> omega)))
    | with_reducible intro _)
  all_goals first | omega | (simp_all [D.closed, D.er, D.closedL, D.erL]; done) | (simp_all [D.closed, D.er, D.closedL, D.erL] <;> omega)
theorem less_p (a b : List UInt8) : Pur M 86 [.str a, .str b] (.bool (Op.bytesLess a b)) := by
  refine ok86 rfl ?_
  rw [i86]
  unfold c86
  have c1 := nan_p a
  have c2 := nan_p b
  repeat' (first
    | with_reducible first | apply swp_seq | apply swp_reg | apply swp_regD | apply swp_block | apply swp_exit | apply swp_ret | apply swp_skip | apply swp_cd
    | simp only [go_sem, seval, P86, q86]
    | ((with_reducible refine o_call (c1) ?he ?hc ?_); (case he | hc => first | rfl | (simp [D.erL, D.er, D.closedL, D.closed]; done)))
    | ((with_reducible refine o_call (c2) ?he ?hc ?_); (case he | hc => first | rfl | (simp [D.erL, D.er, D.closedL, D.closed]; done)))
    | with_reducible first | apply cd_dec | apply cd_eq | apply cd_ne | apply cd_split | apply gd_dec | apply gd_eq | apply gd_ne | apply gd_split
    | ((with_reducible refine And.intro ?hw ?_); (case hw => first | omega | rfl | exact ⟨_, _, rfl⟩ | assumption | (simp only [lN] <;> omega)))
    | with_reducible intro _)
  all_goals first | omega | (simp_all [D.closed, D.er, D.closedL, D.erL]; done) | (simp_all [D.closed, D.er, D.closedL, D.erL] <;> omega)
theorem strs_get {L : List (List UInt8)} {rest : List D} {k : Nat} (h : k < L.length) : (strs L ++ rest).getD k .undef = .str (L.getD k []) := by
  simp [strs, List.getD, List.getElem?_append_left (show k < (L.map D.str).length by simpa using h), h]
theorem strs_set {L : List (List UInt8)} {rest : List D} {k : Nat} (x : List UInt8) (h : k < L.length) : (strs L ++ rest).set k (.str x) = strs (L.set k x) ++ rest := by
  rw [List.set_append_left _ _ (by simpa [strs] using h)]
  simp [strs, List.map_set]
theorem strs_len (L : List (List UInt8)) : (strs L).length = L.length := by simp [strs]
theorem sink_lt {j : Nat} {L : List (List UInt8)} (h : Op.bytesLess (L.getD (j + 1) []) (L.getD j []) = true) : sink (j + 1) L = sink j ((L.set (j + 1) (L.getD j [])).set j (L.getD (j + 1) [])) := by
  rw [sink, if_pos h]
theorem sink_ge {j : Nat} {L : List (List UInt8)} (h : Op.bytesLess (L.getD (j + 1) []) (L.getD j []) = false) : sink (j + 1) L = L := by
  rw [sink, if_neg (by show ¬ Op.bytesLess _ _ = true; rw [h]; decide)]
set_option maxHeartbeats 2000000 in
theorem ins_p (L : List (List UInt8)) (rest : List D) (n cap : Nat) (hn : n = L.length) (hc : n + rest.length = cap) (hl : n ≤ 1000000) :
    Eff M 80 [.sl 0 1 0 n cap, .int .i64 0, .int .i64 n] ⟨[.cells (strs L ++ rest)], []⟩ fun d hp => d = .tup [] ∧ hp = ⟨[.cells (strs (isortN L (n - 1)) ++ rest)], []⟩ := by
  refine oe80 1 0 rfl rfl rfl ?_
  rw [ie80]
  unfold c80
  repeat' (first
    | with_reducible first | apply swp_seq | apply swp_reg | apply swp_regD | apply swp_block | apply swp_exit | apply swp_ret | apply swp_skip | apply swp_cd
    | simp only [go_sem, seval, pe80, q80]
    | simp (disch := omega) only [w64, w32, wu8, wu16, wu32, wu64]
    | with_reducible first | apply cd_dec | apply cd_eq | apply cd_ne | apply cd_split | apply gd_dec | apply gd_eq | apply gd_ne | apply gd_split | apply gq_dec | apply gq_eq | apply gq_ne | apply gq_split
    | ((with_reducible refine And.intro ?hw ?_); (case hw => first | omega | rfl | exact ⟨_, _, rfl⟩ | assumption | (simp only [lN] <;> omega)))
    | with_reducible intro _)
  refine swp_fam [0, 1, 2, 3] (fun i : Nat => ⟨[.sl 0 1 0 n cap, .int .i64 0, .int .i64 n, .int .i64 i, .undef, .undef, .undef], [], ⟨[.cells (strs (isortN L (i - 1)) ++ rest)], []⟩⟩)
    (fun i => 1 ≤ i ∧ (n ≤ i → isortN L (i - 1) = isortN L (n - 1))) (fun i => n - i) 1 ⟨by omega, fun h => ?_⟩ ?_ ?_
  · have : n = 0 ∨ n = 1 := by omega
    rcases this with h | h <;> rw [h]
  · simp [keepE, St.keep, isortN]
  · rintro i ⟨g1, g2⟩
    by_cases hi : i < n
    · have hlen := isortN_len L (i - 1)
      rw [← hn] at hlen
      have hst : isortN L i = sink i (isortN L (i - 1)) := by
        obtain ⟨k, rfl⟩ : ∃ k, i = k + 1 := ⟨i - 1, by omega⟩
        rfl
      generalize hT : isortN L (i - 1) = T at *
      repeat' (first
    | with_reducible first | apply swp_seq | apply swp_reg | apply swp_regD | apply swp_block | apply swp_exit | apply swp_ret | apply swp_skip | apply swp_cd
    | simp only [go_sem, seval, pe80, q80]
    | simp (disch := omega) only [w64, w32, wu8, wu16, wu32, wu64]
    | with_reducible first | apply cd_dec | apply cd_eq | apply cd_ne | apply cd_split | apply gd_dec | apply gd_eq | apply gd_ne | apply gd_split | apply gq_dec | apply gq_eq | apply gq_ne | apply gq_split
    | ((with_reducible refine And.intro ?hw ?_); (case hw => first | omega | rfl | exact ⟨_, _, rfl⟩ | assumption | (simp only [lN] <;> omega)))
    | with_reducible intro _)
      all_goals try omega
      refine swp_fam [0, 1, 2, 3, 4] (fun p : Nat × List (List UInt8) => ⟨[.sl 0 1 0 n cap, .int .i64 0, .int .i64 n, .int .i64 i, .int .i64 p.1, .undef, .undef], [], ⟨[.cells (strs p.2 ++ rest)], []⟩⟩)
        (fun p => p.1 ≤ i ∧ p.2.length = n ∧ sink p.1 p.2 = isortN L i) (fun p => p.1) (i, T) ⟨by simp, hlen, hst.symm⟩ ?_ ?_
      · simp [keepE, St.keep]
      · rintro ⟨j, U⟩ ⟨f1, f2, f3⟩
        simp only at f1 f2 f3 ⊢
        have hfl : (strs U ++ rest).length = cap := by rw [List.length_append, strs_len]; omega
        cases j with
        | zero =>
          repeat' (first
    | with_reducible first | apply swp_seq | apply swp_reg | apply swp_regD | apply swp_block | apply swp_exit | apply swp_ret | apply swp_skip | apply swp_cd
    | simp only [go_sem, seval, pe80, q80]
    | simp (disch := omega) only [w64, w32, wu8, wu16, wu32, wu64]
    | with_reducible first | apply cd_dec | apply cd_eq | apply cd_ne | apply cd_split | apply gd_dec | apply gd_eq | apply gd_ne | apply gd_split | apply gq_dec | apply gq_eq | apply gq_ne | apply gq_split
    | ((with_reducible refine And.intro ?hw ?_); (case hw => first | omega | rfl | exact ⟨_, _, rfl⟩ | assumption | (simp only [lN] <;> omega)))
    | with_reducible intro _)
          all_goals try omega
          refine ⟨i + 1, ⟨by omega, fun h => ?_⟩, by omega, ?_⟩
          · have : n = i + 1 := by omega
            rw [this]
          · simp only [sink] at f3
            simp [keepE, St.keep, f3]
        | succ k =>
          have t1 : (((k + 1 : Nat) : Int) - 1).toNat = k := by omega
          have h1 := strs_get (L := U) (rest := rest) (k := k) (by omega)
          have h2 := strs_get (L := U) (rest := rest) (k := k + 1) (by omega)
          have hcl := less_p (U.getD (k + 1) []) (U.getD k [])
          have hs1 := strs_set (L := U) (rest := rest) (k := k + 1) (U.getD k []) (by omega)
          have hs2 := strs_set (L := U.set (k + 1) (U.getD k [])) (rest := rest) (k := k) (U.getD (k + 1) []) (by simp; omega)
          have hfl2 : (strs (U.set (k + 1) (U.getD k [])) ++ rest).length = cap := by rw [List.length_append, strs_len]; simp; omega
          have f2' : ((U.set (k + 1) (U.getD k [])).set k (U.getD (k + 1) [])).length = n := by simp [f2]
          cases hlt : Op.bytesLess (U.getD (k + 1) []) (U.getD k [])
          · rw [hlt] at hcl
            rw [sink_ge hlt] at f3
            generalize U.getD k [] = x at *
            generalize U.getD (k + 1) [] = y at *
            repeat' (first
    | with_reducible first | apply swp_seq | apply swp_reg | apply swp_regD | apply swp_block | apply swp_exit | apply swp_ret | apply swp_skip | apply swp_cd
    | simp only [go_sem, seval, pe80, q80, t1, h1, h2, hfl, Nat.mul_one, Nat.zero_add]
    | simp (disch := omega) only [w64, w32, wu8, wu16, wu32, wu64]
    | ((with_reducible refine o_call (hcl) ?he ?hc ?_); (case he | hc => first | rfl | (simp [D.erL, D.er, D.closedL, D.closed, hfl]; done)))
    | with_reducible first | apply cd_dec | apply cd_eq | apply cd_ne | apply cd_split | apply gd_dec | apply gd_eq | apply gd_ne | apply gd_split | apply gq_dec | apply gq_eq | apply gq_ne | apply gq_split
    | ((with_reducible refine And.intro ?hw ?_); (case hw => first | omega | rfl | exact ⟨_, _, rfl⟩ | assumption | (simp only [lN, hfl] <;> omega)))
    | with_reducible intro _)
            all_goals try omega
            refine ⟨i + 1, ⟨by omega, fun h => by rw [show n = i + 1 by omega]⟩, by omega, ?_⟩
            simp [St.keep, keepE, f3]
          · rw [hlt] at hcl
            rw [sink_lt hlt] at f3
            generalize U.getD k [] = x at *
            generalize U.getD (k + 1) [] = y at *
            repeat' (first
    | with_reducible first | apply swp_seq | apply swp_reg | apply swp_regD | apply swp_block | apply swp_exit | apply swp_ret | apply swp_skip | apply swp_cd
    | simp only [go_sem, seval, pe80, q80, t1, h1, h2, hs1, hs2, hfl, hfl2, Nat.mul_one, Nat.zero_add]
    | simp (disch := omega) only [w64, w32, wu8, wu16, wu32, wu64]
    | ((with_reducible refine o_call (hcl) ?he ?hc ?_); (case he | hc => first | rfl | (simp [D.erL, D.er, D.closedL, D.closed, hfl, hfl2]; done)))
    | with_reducible first | apply cd_dec | apply cd_eq | apply cd_ne | apply cd_split | apply gd_dec | apply gd_eq | apply gd_ne | apply gd_split | apply gq_dec | apply gq_eq | apply gq_ne | apply gq_split
    | ((with_reducible refine And.intro ?hw ?_); (case hw => first | omega | rfl | exact ⟨_, _, rfl⟩ | assumption | (simp only [lN, hfl, hfl2] <;> omega)))
    | with_reducible intro _)
            all_goals try omega
            exact ⟨(k, (U.set (k + 1) x).set k y), ⟨by simp only; omega, f2', f3⟩, by simp only; omega, by simp only [St.keep, keepE]; simp⟩
    · repeat' (first
    | with_reducible first | apply swp_seq | apply swp_reg | apply swp_regD | apply swp_block | apply swp_exit | apply swp_ret | apply swp_skip | apply swp_cd
    | simp only [go_sem, seval, pe80, q80]
    | simp (disch := omega) only [w64, w32, wu8, wu16, wu32, wu64]
    | with_reducible first | apply cd_dec | apply cd_eq | apply cd_ne | apply cd_split | apply gd_dec | apply gd_eq | apply gd_ne | apply gd_split | apply gq_dec | apply gq_eq | apply gq_ne | apply gq_split
    | ((with_reducible refine And.intro ?hw ?_); (case hw => first | omega | rfl | exact ⟨_, _, rfl⟩ | assumption | (simp only [lN] <;> omega)))
    | with_reducible intro _)
      all_goals try omega
      exact ⟨_, weak_refl, by rw [g2 (by omega)]⟩
theorem len_any (n : Nat) (h : n ≤ 1000000) : Pur M 78 [.int .u64 n] (.int .i64 (Lib.bitLen n : Nat)) := by
  refine pur_ext (vs := [.int .u64 n]) (v := .int .i64 (Lib.bitLen n : Nat)) ⟨Try.f78, Try.func78, rfl, rfl⟩ (fun w I xs h => ?_) (fun w I => ?_) (fun w hA => ?_)
  · obtain ⟨x, xs', rfl, g1, g2⟩ := h.inv
    simp only [Rel] at g1
    rw [g2.inv_nil, g1]
  · simp [Rel]
  · refine (Try.bits_Len n w (by omega) (by omega)).mono fun e w' hh => ?_
    obtain ⟨rfl, rfl⟩ := hh
    exact ⟨by simp, Below.refl _ _⟩
theorem pdq_p (L : List (List UInt8)) (rest : List D) (n cap : Nat) (hn : n = L.length) (hc : n + rest.length = cap) (hl : n ≤ 12) (z : Int) :
    Eff M 77 [.sl 0 1 0 n cap, .int .i64 0, .int .i64 n, .int .i64 z] ⟨[.cells (strs L ++ rest)], []⟩ fun d hp => d = .tup [] ∧ hp = ⟨[.cells (strs (isort L) ++ rest)], []⟩ := by
  refine oe77 1 0 rfl rfl rfl ?_
  rw [ie77]
  unfold c77
  have c1 := ins_p L rest n cap hn hc (by omega)
  rw [hn, isortN_eq, ← hn] at c1
  repeat' (first
    | with_reducible first | apply swp_seq | apply swp_reg | apply swp_regD | apply swp_block | apply swp_exit | apply swp_ret | apply swp_skip | apply swp_cd
    | simp only [go_sem, seval, pe77, q77]
    | simp (disch := omega) only [w64, w32, wu8, wu16, wu32, wu64]
    | with_reducible first | apply cd_dec | apply cd_eq | apply cd_ne | apply cd_split | apply gd_dec | apply gd_eq | apply gd_ne | apply gd_split | apply gq_dec | apply gq_eq | apply gq_ne | apply gq_split
    | ((with_reducible refine And.intro ?hw ?_); (case hw => first | omega | rfl | exact ⟨_, _, rfl⟩ | assumption | (simp only [lN] <;> omega)))
    | with_reducible intro _)
  refine swp_fam [0, 1, 2, 3, 4, 5] (fun _ : Unit => ⟨[.sl 0 1 0 n cap, .int .i64 0, .int .i64 n, .int .i64 z, .bool true, .bool true, .undef, .undef, .undef, .undef, .undef, .undef, .undef, .undef, .undef, .undef, .undef, .undef, .undef, .undef, .undef, .undef, .undef], [], ⟨[.cells (strs L ++ rest)], []⟩⟩) (fun _ => True) (fun _ => 0) () trivial ?_ ?_
  · simp [keepE, St.keep]
  · intro _ _
    have hle : ((n : Int) ≤ 12) = True := eq_true (by omega)
    have hsub : IntKind.i64.wrap ((n : Int) - 0) = n := by rw [w64 (by omega) (by omega)]; omega
    simp only [Int.sub_zero] at hsub
    repeat' (first
    | with_reducible first | apply swp_seq | apply swp_reg | apply swp_regD | apply swp_block | apply swp_exit | apply swp_ret | apply swp_skip | apply swp_cd
    | simp only [go_sem, seval, pe77, q77, hle, hsub, Int.sub_zero]
    | ((with_reducible refine o_same (c1) ?he ?hh ?_); (case he => first | rfl | (simp [go_sem, seval]; done)); (case hh => first | rfl | (simp [go_sem, seval]; done)))
    | with_reducible first | apply cd_dec | apply cd_eq | apply cd_ne | apply cd_split | apply gd_dec | apply gd_eq | apply gd_ne | apply gd_split | apply gq_dec | apply gq_eq | apply gq_ne | apply gq_split
    | ((with_reducible refine And.intro ?hw ?_); (case hw => first | omega | rfl | exact ⟨_, _, rfl⟩ | assumption | (simp only [lN] <;> omega)))
    | with_reducible intro _)
    all_goals try omega
    all_goals exact ⟨_, weak_refl, by simp⟩
theorem sort_p (L : List (List UInt8)) (rest : List D) (n cap : Nat) (hn : n = L.length) (hc : n + rest.length = cap) (hl : n ≤ 12) :
    Eff M 74 [.sl 0 1 0 n cap] ⟨[.cells (strs L ++ rest)], []⟩ fun d hp => d = .tup [] ∧ hp = ⟨[.cells (strs (isort L) ++ rest)], []⟩ := by
  refine oe74 1 0 rfl rfl rfl ?_
  rw [ie74]
  unfold c74
  have c1 := len_any n (by omega)
  have c2 := pdq_p L rest n cap hn hc hl (Lib.bitLen n : Nat)
  repeat' (first
    | with_reducible first | apply swp_seq | apply swp_reg | apply swp_regD | apply swp_block | apply swp_exit | apply swp_ret | apply swp_skip | apply swp_cd
    | simp only [go_sem, seval, pe74, q74]
    | simp (disch := omega) only [w64, w32, wu8, wu16, wu32, wu64]
    | ((with_reducible refine o_call (c1) ?he ?hc ?_); (case he | hc => first | rfl | (simp [D.erL, D.er, D.closedL, D.closed]; done)))
    | ((with_reducible refine o_same (c2) ?he ?hh ?_); (case he => first | rfl | (simp [go_sem, seval]; done)); (case hh => first | rfl | (simp [go_sem, seval]; done)))
    | with_reducible first | apply cd_dec | apply cd_eq | apply cd_ne | apply cd_split
    | ((with_reducible refine And.intro ?hw ?_); (case hw => first | omega | rfl | exact ⟨_, _, rfl⟩ | assumption | (simp only [lN] <;> omega)))
    | with_reducible intro _)
  all_goals try omega
  all_goals exact ⟨_, weak_refl, by simp⟩
end Go.Proofs.Ytcchbohfcmfmlaa
end
section
set_option maxRecDepth 100000
set_option linter.unusedSimpArgs false
set_option linter.unusedVariables false
namespace Go.Proofs.Ytcchbohfcmfmlaa
open Go GoV Go.RowKit
abbrev Tri := List UInt8 × List UInt8 × Nat
def entT (l : List Tri) : List (D × D × Nat) := l.map fun t => (.str t.1, .str t.2.1, t.2.2)
theorem entT_ok (l : List Tri) : ((entT l).all fun e => keyOk .str e.1) = true := by
  induction l with
  | nil => rfl
  | cons t l ih => simp only [entT, List.map_cons, List.all_cons, keyOk, Bool.true_and]; exact ih
theorem entT_rn (β τ : Nat → Option Nat) (l : List Tri) : pairs β τ (entT l) = entT l := by
  induction l with
  | nil => rfl
  | cons t l ih => simp only [entT, List.map_cons, pairs, D.rn]; congr 1
theorem entT_born (l : List Tri) : (entT l).map (·.2.2) = l.map (·.2.2) := by simp [entT]
theorem entT_mem {l : List Tri} {e : D × D × Nat} (h : e ∈ entT l) : ∃ t ∈ l, e = (.str t.1, .str t.2.1, t.2.2) := by
  simp only [entT, List.mem_map] at h
  obtain ⟨t, h1, h2⟩ := h
  exact ⟨t, h1, h2.symm⟩
theorem entT_mem' {l : List Tri} {t : Tri} (h : t ∈ l) : (.str t.1, .str t.2.1, t.2.2) ∈ entT l := by
  simp only [entT, List.mem_map]; exact ⟨t, h, rfl⟩
theorem keq_str (a b : List UInt8) : keq (.str a) (.str b) = (a == b) := rfl
theorem entT_none {k : List UInt8} : ∀ {l : List Tri} {i : Nat}, (∀ t ∈ l, t.1 ≠ k) → findM (.str k) (entT l) i = none
  | [], i, _ => rfl
  | t :: l, i, h => by
    have h1 : (k == t.1) = false := by
      have := h t (by simp)
      simp [Ne.symm this]
    simp only [entT, List.map_cons, findM, keq_str, h1, Bool.false_eq_true, if_false]
    exact entT_none (l := l) (i := i + 1) fun x hx => h x (by simp [hx])
theorem entT_put {k v : List UInt8} {l : List Tri} {c : Nat} (h : ∀ t ∈ l, t.1 ≠ k) : putM (entT l) c (.str k) (.str v) = .map (entT (l ++ [(k, v, c)])) (c + 1) := by
  unfold putM
  rw [entT_none h]
  simp [entT]
theorem entT_del' {k : List UInt8} : ∀ (l : List Tri) (i : Nat), (l.map (·.1)).Nodup → (∀ t ∈ l, t.1 ≠ k) ∧ findM (.str k) (entT l) i = none ∨
    ∃ j v, findM (.str k) (entT l) i = some (i + j, v) ∧ (entT l).eraseIdx j = entT (l.filter fun t => !(t.1 == k))
  | [], i, _ => .inl ⟨by simp, rfl⟩
  | t :: l, i, h => by
    simp only [List.map_cons, List.nodup_cons] at h
    by_cases e : t.1 = k
    · refine .inr ⟨0, .str t.2.1, ?_, ?_⟩
      · have h1 : (k == t.1) = true := by simp [e]
        simp [entT, findM, keq_str, h1]
      · have h2 : (t.1 == k) = true := by simp [e]
        have h3 : l.filter (fun t => !(t.1 == k)) = l := by
          rw [List.filter_eq_self]
          intro x hx
          have : x.1 ≠ k := fun q => h.1 (by rw [e, ← q]; exact List.mem_map_of_mem hx)
          simp [this]
        rw [List.filter_cons_of_neg (by simp [h2]), h3]
        simp [entT]
    · have h1 : (k == t.1) = false := by simp [Ne.symm e]
      rcases entT_del' l (i + 1) h.2 with ⟨q1, q2⟩ | ⟨j, v, q1, q2⟩
      · left
        refine ⟨fun x hx => ?_, ?_⟩
        · rcases List.mem_cons.1 hx with rfl | hx
          · exact e
          · exact q1 x hx
        · simp only [entT, List.map_cons, findM, keq_str, h1, Bool.false_eq_true, if_false]
          exact q2
      · right
        refine ⟨j + 1, v, ?_, ?_⟩
        · simp only [entT, List.map_cons, findM, keq_str, h1, Bool.false_eq_true, if_false]
          rw [show i + (j + 1) = i + 1 + j by omega]
          exact q1
        · rw [List.filter_cons_of_pos (by simp [e])]
          simp only [entT, List.map_cons, List.eraseIdx_cons_succ] at q2 ⊢
          rw [q2]
theorem entT_del {k : List UInt8} {l : List Tri} {c : Nat} (h : (l.map (·.1)).Nodup) : delM (entT l) c (.str k) = .map (entT (l.filter fun t => !(t.1 == k))) c := by
  unfold delM
  rcases entT_del' (k := k) l 0 h with ⟨q1, q2⟩ | ⟨j, v, q1, q2⟩
  · rw [q2]
    simp only
    congr 2
    rw [eq_comm, List.filter_eq_self]
    intro x hx
    simp [q1 x hx]
  · rw [q1]
    simp only [Nat.zero_add]
    rw [q2]
/-! ### The fitted parts, in whatever order they come -/

theorem entsF_born : ∀ (l : List (Pt × Nat)) (b : Nat), (entsF l b).map (·.2.2) = (List.range' b l.length)
  | [], b => rfl
  | q :: l, b => by simp only [entsF, List.map_cons, List.length_cons, List.range'_succ, entsF_born l]
theorem entsF_mem : ∀ {l : List (Pt × Nat)} {b : Nat} {e : D × D × Nat}, e ∈ entsF l b → ∃ j, ∃ h : j < l.length, e = (.str (l[j]).1.name, .int .i64 (l[j]).2, b + j)
  | [], b, e, h => by simp [entsF] at h
  | q :: l, b, e, h => by
    simp only [entsF, List.mem_cons] at h
    rcases h with rfl | h
    · exact ⟨0, by simp, rfl⟩
    · obtain ⟨j, hj, rfl⟩ := entsF_mem h
      exact ⟨j + 1, by simpa using hj, by simp; omega⟩
theorem entsF_mem' : ∀ {l : List (Pt × Nat)} {b j : Nat} (h : j < l.length), (.str (l[j]).1.name, .int .i64 (l[j]).2, b + j) ∈ entsF l b
  | q :: l, b, 0, h => by simp [entsF]
  | q :: l, b, j + 1, h => by
    simp only [entsF, List.mem_cons]
    right
    have := entsF_mem' (l := l) (b := b + 1) (j := j) (by simpa using h)
    rw [show b + (j + 1) = b + 1 + j by omega]
    simpa using this
def pickF (L : List (Pt × Nat)) (seen : List Nat) : List (Pt × Nat) := (seen.filterMap (L[·]?)).filter fun q => !(q.1.into == [])
def triF (l : List (Pt × Nat)) : List Tri := l.zipIdx.map fun q => (q.1.1.name, q.1.1.into, q.2)
theorem triF_len (l : List (Pt × Nat)) : (triF l).length = l.length := by simp [triF]
theorem triF_app (l : List (Pt × Nat)) (q : Pt × Nat) : triF (l ++ [q]) = triF l ++ [(q.1.name, q.1.into, l.length)] := by
  simp [triF, List.zipIdx_append]
theorem triF_pair (l : List (Pt × Nat)) : (triF l).map (fun t => (t.1, t.2.1)) = l.map fun q => (q.1.name, q.1.into) := by
  have : ∀ (l : List (Pt × Nat)) (i : Nat), (l.zipIdx i).map (fun q => (q.1.1.name, q.1.1.into)) = l.map fun q => (q.1.name, q.1.into) := by
    intro l
    induction l with
    | nil => intro i; rfl
    | cons q l ih => intro i; simp [ih]
  simp only [triF, List.map_map]
  exact this l 0
theorem triF_name (l : List (Pt × Nat)) : (triF l).map (·.1) = l.map (·.1.name) := by
  have := congrArg (List.map Prod.fst) (triF_pair l)
  simpa [List.map_map, Function.comp_def] using this
theorem triF_born (l : List (Pt × Nat)) : (triF l).map (·.2.2) = List.range l.length := by
  have : ∀ (l : List (Pt × Nat)) (i : Nat), (l.zipIdx i).map (fun q => q.2) = List.range' i l.length := by
    intro l
    induction l with
    | nil => intro i; rfl
    | cons q l ih => intro i; simp [ih, List.range'_succ]
  simp only [triF, List.map_map]
  rw [List.range_eq_range']
  exact this l 0
theorem pickF_app {L : List (Pt × Nat)} {seen : List Nat} {j : Nat} (h : j < L.length) : pickF L (seen ++ [j]) = pickF L seen ++ (if L[j].1.into = [] then [] else [L[j]]) := by
  simp only [pickF, List.filterMap_append, List.filter_append, List.filterMap_cons, List.filterMap_nil, List.getElem?_eq_getElem h]
  congr 1
  by_cases e : L[j].1.into = []
  · simp [e]
  · simp [e]
theorem range_get {α : Type} (L : List α) : (List.range L.length).filterMap (L[·]?) = L := by
  apply List.ext_getElem?
  have : ∀ n, n ≤ L.length → (List.range n).filterMap (L[·]?) = L.take n := by
    intro n
    induction n with
    | zero => intro _; simp
    | succ n ih =>
      intro h
      rw [List.range_succ, List.filterMap_append, ih (by omega), List.take_succ_eq_append_getElem (by omega)]
      simp [List.getElem?_eq_getElem (show n < L.length by omega)]
  intro i
  rw [this _ (Nat.le_refl _), List.take_length]
theorem pickF_perm {L : List (Pt × Nat)} {seen : List Nat} (h1 : seen.Nodup) (h2 : ∀ j ∈ seen, j < L.length) (h3 : ∀ j, j < L.length → j ∈ seen) : (pickF L seen).Perm (L.filter fun q => !(q.1.into == [])) := by
  have hp : seen.Perm (List.range L.length) := by
    rw [List.perm_ext_iff_of_nodup h1 List.nodup_range]
    intro a
    simp only [List.mem_range]
    exact ⟨h2 a, h3 a⟩
  have := (hp.filterMap (L[·]?)).filter fun q => !(q.1.into == [])
  rw [range_get] at this
  exact this
/-! ### The names of the first parts are all different -/
theorem firsts_nodup : ∀ (l : List Pt) (seen : List (List UInt8)), ((firsts seen l).map (·.name)).Nodup ∧ ∀ p ∈ firsts seen l, p.name ∉ seen
  | [], seen => ⟨by simp [firsts], by simp [firsts]⟩
  | p :: ps, seen => by
    simp only [firsts]
    by_cases h : seen.contains p.name = true
    · rw [if_pos h]; exact firsts_nodup ps seen
    · rw [if_neg h]
      obtain ⟨h1, h2⟩ := firsts_nodup ps (seen ++ [p.name])
      have hp : p.name ∉ seen := by simpa using h
      refine ⟨?_, ?_⟩
      · simp only [List.map_cons, List.nodup_cons]
        refine ⟨fun hm => ?_, h1⟩
        obtain ⟨q, hq, e⟩ := List.mem_map.1 hm
        exact h2 q hq (by simp [e])
      · intro q hq
        rcases List.mem_cons.1 hq with rfl | hq
        · exact hp
        · exact fun e => h2 q hq (by simp [e])
theorem firstsI_nodup (s : List Pt) : ((firstsI [] 0 s).map (·.1.name)).Nodup := by
  have := (firsts_nodup s []).1
  rw [← firstsI_fst s [] 0, List.map_map] at this
  exact this
theorem firstsI_at : ∀ {l : List Pt} {seen : List (List UInt8)} {i : Nat} {q : Pt × Nat}, q ∈ firstsI seen i l → i ≤ q.2 ∧ q.2 - i < l.length ∧ l[q.2 - i]? = some q.1
  | [], seen, i, q, h => by simp [firstsI] at h
  | p :: ps, seen, i, q, h => by
    simp only [firstsI] at h
    have step : ∀ seen', q ∈ firstsI seen' (i + 1) ps → i ≤ q.2 ∧ q.2 - i < (p :: ps).length ∧ (p :: ps)[q.2 - i]? = some q.1 := fun seen' hq => by
      obtain ⟨h1, h2, h3⟩ := firstsI_at hq
      refine ⟨by omega, by simp; omega, ?_⟩
      rw [show q.2 - i = (q.2 - (i + 1)) + 1 by omega]
      simpa using h3
    split at h
    · exact step _ h
    · rcases List.mem_cons.1 h with rfl | h
      · simp
      · exact step _ h
theorem nodup_pick {α : Type} (L : List α) {f : α → List UInt8} (hn : (L.map f).Nodup) : ∀ (seen : List Nat), seen.Nodup → ((seen.filterMap (L[·]?)).map f).Nodup
  | [], _ => by simp
  | j :: seen, h => by
    simp only [List.nodup_cons] at h
    have ih := nodup_pick L hn seen h.2
    simp only [List.filterMap_cons]
    cases e : L[j]? with
    | none => exact ih
    | some q =>
      simp only [List.map_cons, List.nodup_cons]
      refine ⟨fun hm => ?_, ih⟩
      obtain ⟨q', hq', ef⟩ := List.mem_map.1 hm
      simp only [List.mem_filterMap] at hq'
      obtain ⟨k, hk, hk2⟩ := hq'
      have hj : j < L.length := by rcases Nat.lt_or_ge j L.length with g | g; exact g; rw [List.getElem?_eq_none g] at e; cases e
      have hk3 : k < L.length := by rcases Nat.lt_or_ge k L.length with g | g; exact g; rw [List.getElem?_eq_none g] at hk2; cases hk2
      rw [List.getElem?_eq_getElem hj] at e
      rw [List.getElem?_eq_getElem hk3] at hk2
      simp only [Option.some.injEq] at e hk2
      have : j = k := by
        have h1 : (L.map f)[j]'(by simpa using hj) = (L.map f)[k]'(by simpa using hk3) := by simp [e, hk2, ef]
        exact (List.getElem_inj hn).1 h1
      subst this
      exact h.1 hk
theorem pickF_nodup {s : List Pt} {seen : List Nat} (h : seen.Nodup) : ((pickF (firstsI [] 0 s) seen).map (·.1.name)).Nodup :=
  (nodup_pick (firstsI [] 0 s) (f := fun q => q.1.name) (firstsI_nodup s) seen h).sublist (List.filter_sublist.map _)
end Go.Proofs.Ytcchbohfcmfmlaa
end
