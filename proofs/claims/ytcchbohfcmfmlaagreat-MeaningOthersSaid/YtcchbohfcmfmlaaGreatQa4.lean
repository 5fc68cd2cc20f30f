/- Own texts, merged by a program: the engine that walks the code, and what the functions that the law reaches compute. -/
import Derived.Test.YtcchbohfcmfmlaaGreatQa3
import Derived.Test.YtcchbohfcmfmlaaGreatProg
import Derived.KernelRfl
import Derived.Lib.ItoaNum
section
set_option maxRecDepth 100000
namespace Go.Proofs.YtcchbohfcmfmlaaGreat
open Go GoV
noncomputable def E26 (n m : Nat) : Cfg := ⟨M, [0, 1, 2, 4, 5, 6, 16], 31, n, m, []⟩
noncomputable def C26 : Cfg := E26 0 0
noncomputable abbrev r26_0 : List RO := [
  ⟨.v 2, .box, [.v 0], none⟩,
  ⟨.v 3, .mv, [.con (.int .i64 0)], none⟩]
noncomputable abbrev r26_1 : List RO := [
  ⟨.v 4, .mv, [.con (.int .i64 1)], none⟩]
noncomputable abbrev r26_2 : List RO := [
  ⟨.v 5, .mv, [.con (.int .i64 0)], none⟩]
noncomputable abbrev r26_3 : List RO := [
  ⟨.l 7, .mv, [.v 5], none⟩,
  ⟨.l 8, .fld 5, [.v 2], none⟩,
  ⟨.l 9, .ld false 1, [.l 8], none⟩,
  ⟨.l 10, .lenL, [.l 9], none⟩,
  ⟨.l 11, .bin .lss, [.l 7, .l 10], none⟩,
  ⟨.l 12, .mv, [.l 11], none⟩,
  ⟨.l 13, .mv, [.v 4], (some (.l 12, true))⟩,
  ⟨.l 14, .mv, [.v 1], (some (.l 12, true))⟩,
  ⟨.l 15, .bin .leq, [.l 13, .l 14], (some (.l 12, true))⟩,
  ⟨.v 6, .pick, [.l 12, .l 15, .con (.bool false)], none⟩]
noncomputable abbrev r26_4 : List RO := [
  ⟨.l 19, .mv, [.v 4], none⟩,
  ⟨.l 20, .fld 5, [.v 2], none⟩,
  ⟨.l 21, .ld false 1, [.l 20], none⟩,
  ⟨.l 22, .mv, [.v 5], none⟩,
  ⟨.l 23, .ixaS 6, [.l 21, .l 22], none⟩,
  ⟨.l 24, .ld true 6, [.l 23], none⟩,
  ⟨.l 25, .mv, [.v 1], none⟩,
  ⟨.l 26, .mv, [.v 4], none⟩,
  ⟨.l 27, .bin .sub, [.l 25, .l 26], none⟩,
  ⟨.l 28, .call, [(.con (.fn (.func 26) [] [])), .l 24, .l 27], none⟩,
  ⟨.l 29, .bin .add, [.l 19, .l 28], none⟩,
  ⟨.v 4, .mv, [.l 29], none⟩]
noncomputable abbrev r26_5 : List RO := [
  ⟨.l 17, .mv, [.v 5], none⟩,
  ⟨.l 18, .bin .add, [.l 17, .con (.int .i64 1)], none⟩,
  ⟨.v 5, .mv, [.l 18], none⟩]
noncomputable abbrev r26_6 : List RO := [
  ⟨.l 30, .mv, [.v 4], none⟩,
  ⟨.v 3, .mv, [.l 30], none⟩]
theorem P26 : C26.M = M := by unfold C26 E26; rfl
theorem i26 {a0 a1 : D} : St.init C26 [a0, a1] ⟨[], []⟩ = ⟨[a0, a1, .u0, .u0, .u0, .u0, .u0], [], ⟨[], []⟩⟩ := by unfold C26 E26; rfl
noncomputable def c26 : RC := (.seq (.reg r26_0) (.seq (.reg r26_1) (.seq (.seq (.reg r26_2) (.block 0 (.loop (.seq (.seq (.reg r26_3) (.cond (.v 6) .skip (.exit 0))) (.seq (.block 1 (.reg r26_4)) (.reg r26_5)))))) (.seq (.reg r26_6) .ret))))
noncomputable def q26 : List RR := [(.slot (.v 3))]
theorem k26 : FnOk M 26 2 Tryz.f26 E26 c26 q26 := fnOk Tryz.func26
noncomputable def E27 (n m : Nat) : Cfg := ⟨M, [0, 1, 2, 3, 13, 18, 27], 28, n, m, []⟩
noncomputable def C27 : Cfg := E27 0 0
noncomputable abbrev r27_0 : List RO := [
  ⟨.v 1, .box, [.v 0], none⟩,
  ⟨.v 2, .mv, [.con (.bool false)], none⟩]
noncomputable abbrev r27_1 : List RO := [
  ⟨.l 4, .fld 1, [.v 1], none⟩,
  ⟨.l 5, .ld false 1, [.l 4], none⟩,
  ⟨.l 6, .lenS, [.l 5], none⟩,
  ⟨.l 7, .bin .gtr, [.l 6, .con (.int .i64 300)], none⟩,
  ⟨.l 8, .mv, [.l 7], none⟩,
  ⟨.l 9, .fld 2, [.v 1], (some (.l 8, false))⟩,
  ⟨.l 10, .ld false 1, [.l 9], (some (.l 8, false))⟩,
  ⟨.l 11, .lenS, [.l 10], (some (.l 8, false))⟩,
  ⟨.l 12, .bin .gtr, [.l 11, .con (.int .i64 300)], (some (.l 8, false))⟩,
  ⟨.v 4, .pick, [.l 8, .con (.bool true), .l 12], none⟩]
noncomputable abbrev r27_2 : List RO := [
  ⟨.v 2, .mv, [.con (.bool false)], none⟩]
noncomputable abbrev r27_3 : List RO := [
  ⟨.v 3, .mv, [.con (.int .i64 0)], none⟩]
noncomputable abbrev r27_4 : List RO := [
  ⟨.l 14, .mv, [.v 3], none⟩,
  ⟨.l 15, .fld 5, [.v 1], none⟩,
  ⟨.l 16, .ld false 1, [.l 15], none⟩,
  ⟨.l 17, .lenL, [.l 16], none⟩,
  ⟨.v 5, .bin .lss, [.l 14, .l 17], none⟩]
noncomputable abbrev r27_5 : List RO := [
  ⟨.l 21, .fld 5, [.v 1], none⟩,
  ⟨.l 22, .ld false 1, [.l 21], none⟩,
  ⟨.l 23, .mv, [.v 3], none⟩,
  ⟨.l 24, .ixaS 6, [.l 22, .l 23], none⟩,
  ⟨.l 25, .ld true 6, [.l 24], none⟩,
  ⟨.l 26, .call, [(.con (.fn (.func 27) [] [])), .l 25], none⟩,
  ⟨.v 6, .un .not, [.l 26], none⟩]
noncomputable abbrev r27_6 : List RO := [
  ⟨.v 2, .mv, [.con (.bool false)], none⟩]
noncomputable abbrev r27_7 : List RO := [
  ⟨.l 19, .mv, [.v 3], none⟩,
  ⟨.l 20, .bin .add, [.l 19, .con (.int .i64 1)], none⟩,
  ⟨.v 3, .mv, [.l 20], none⟩]
noncomputable abbrev r27_8 : List RO := [
  ⟨.v 2, .mv, [.con (.bool true)], none⟩]
theorem P27 : C27.M = M := by unfold C27 E27; rfl
theorem i27 {a0 : D} : St.init C27 [a0] ⟨[], []⟩ = ⟨[a0, .u0, .u0, .u0, .u0, .u0, .u0], [], ⟨[], []⟩⟩ := by unfold C27 E27; rfl
noncomputable def c27 : RC := (.seq (.reg r27_0) (.seq (.seq (.reg r27_1) (.cond (.v 4) (.seq (.reg r27_2) .ret) .skip)) (.seq (.seq (.reg r27_3) (.block 0 (.loop (.seq (.seq (.reg r27_4) (.cond (.v 5) .skip (.exit 0))) (.seq (.block 1 (.seq (.reg r27_5) (.cond (.v 6) (.seq (.reg r27_6) .ret) .skip))) (.reg r27_7)))))) (.seq (.reg r27_8) .ret))))
noncomputable def q27 : List RR := [(.slot (.v 2))]
theorem k27 : FnOk M 27 1 Tryz.f27 E27 c27 q27 := fnOk Tryz.func27
noncomputable def E13 (n m : Nat) : Cfg := ⟨M, [0, 1, 2], 10, n, m, []⟩
noncomputable def C13 : Cfg := E13 0 0
noncomputable abbrev r13_0 : List RO := [
  ⟨.v 1, .box, [.v 0], none⟩,
  ⟨.v 2, .mv, [.con (.bool false)], none⟩]
noncomputable abbrev r13_1 : List RO := [
  ⟨.l 3, .ld true 6, [.v 1], none⟩,
  ⟨.l 4, .call, [(.con (.fn (.func 26) [] [])), .l 3, .con (.int .i64 80)], none⟩,
  ⟨.l 5, .bin .leq, [.l 4, .con (.int .i64 80)], none⟩,
  ⟨.l 6, .mv, [.l 5], none⟩,
  ⟨.l 7, .ld true 6, [.v 1], (some (.l 6, true))⟩,
  ⟨.l 8, .call, [(.con (.fn (.func 27) [] [])), .l 7], (some (.l 6, true))⟩,
  ⟨.l 9, .pick, [.l 6, .l 8, .con (.bool false)], none⟩,
  ⟨.v 2, .mv, [.l 9], none⟩]
theorem P13 : C13.M = M := by unfold C13 E13; rfl
theorem i13 {a0 : D} : St.init C13 [a0] ⟨[], []⟩ = ⟨[a0, .u0, .u0], [], ⟨[], []⟩⟩ := by unfold C13 E13; rfl
noncomputable def c13 : RC := (.seq (.reg r13_0) (.seq (.reg r13_1) .ret))
noncomputable def q13 : List RR := [(.slot (.v 2))]
theorem k13 : FnOk M 13 1 Tryz.f13 E13 c13 q13 := fnOk Tryz.func13
noncomputable def E12 (n m : Nat) : Cfg := ⟨M, [0, 1, 2, 4, 5, 6, 7, 12, 17, 46, 51, 69], 70, n, m, []⟩
noncomputable def C12 : Cfg := E12 0 0
noncomputable abbrev r12_0 : List RO := [
  ⟨.v 2, .box, [.v 0], none⟩,
  ⟨.v 3, .mv, [.con (.bool false)], none⟩]
noncomputable abbrev r12_1 : List RO := [
  ⟨.l 8, .fld 0, [.v 2], none⟩,
  ⟨.l 9, .ld false 1, [.l 8], none⟩,
  ⟨.l 10, .lenL, [.l 9], none⟩,
  ⟨.l 11, .mv, [.v 1], none⟩,
  ⟨.v 7, .bin .gtr, [.l 10, .l 11], none⟩]
noncomputable abbrev r12_2 : List RO := [
  ⟨.v 3, .mv, [.con (.bool false)], none⟩]
noncomputable abbrev r12_3 : List RO := [
  ⟨.v 4, .mv, [.con (.int .i64 0)], none⟩]
noncomputable abbrev r12_4 : List RO := [
  ⟨.l 13, .mv, [.v 4], none⟩,
  ⟨.l 14, .fld 0, [.v 2], none⟩,
  ⟨.l 15, .ld false 1, [.l 14], none⟩,
  ⟨.l 16, .lenL, [.l 15], none⟩,
  ⟨.v 8, .bin .lss, [.l 13, .l 16], none⟩]
noncomputable abbrev r12_5 : List RO := [
  ⟨.l 20, .fld 0, [.v 2], none⟩,
  ⟨.l 21, .ld false 1, [.l 20], none⟩,
  ⟨.l 22, .mv, [.v 4], none⟩,
  ⟨.l 23, .ixaS 14, [.l 21, .l 22], none⟩,
  ⟨.l 24, .ld true 14, [.l 23], none⟩,
  ⟨.v 5, (.newb [(.str []), (.str []), (.str []), (.str []), (.int .i64 0), (.int .i64 0), (.bool false), (.lit (.slice none 0 0)), (.int .i64 0), (.int .i64 0), (.int .i64 0), (.int .i64 0), (.int .i64 0), (.int .i64 0)]), [], none⟩,
  ⟨.none, .st 14, [.v 5, .l 24], none⟩]
noncomputable abbrev r12_6 : List RO := [
  ⟨.l 25, .fld 0, [.v 5], none⟩,
  ⟨.l 26, .ld false 1, [.l 25], none⟩,
  ⟨.l 27, .lenS, [.l 26], none⟩,
  ⟨.l 28, .fld 1, [.v 5], none⟩,
  ⟨.l 29, .ld false 1, [.l 28], none⟩,
  ⟨.l 30, .lenS, [.l 29], none⟩,
  ⟨.l 31, .bin .add, [.l 27, .l 30], none⟩,
  ⟨.l 32, .fld 2, [.v 5], none⟩,
  ⟨.l 33, .ld false 1, [.l 32], none⟩,
  ⟨.l 34, .lenS, [.l 33], none⟩,
  ⟨.l 35, .bin .add, [.l 31, .l 34], none⟩,
  ⟨.l 36, .fld 3, [.v 5], none⟩,
  ⟨.l 37, .ld false 1, [.l 36], none⟩,
  ⟨.l 38, .lenS, [.l 37], none⟩,
  ⟨.l 39, .bin .add, [.l 35, .l 38], none⟩,
  ⟨.l 40, .bin .gtr, [.l 39, .con (.int .i64 300)], none⟩,
  ⟨.l 41, .mv, [.l 40], none⟩,
  ⟨.l 42, .fld 7, [.v 5], (some (.l 41, false))⟩,
  ⟨.l 43, .ld false 1, [.l 42], (some (.l 41, false))⟩,
  ⟨.l 44, .lenL, [.l 43], (some (.l 41, false))⟩,
  ⟨.l 45, .bin .gtr, [.l 44, .con (.int .i64 65)], (some (.l 41, false))⟩,
  ⟨.v 9, .pick, [.l 41, .con (.bool true), .l 45], none⟩]
noncomputable abbrev r12_7 : List RO := [
  ⟨.v 3, .mv, [.con (.bool false)], none⟩]
noncomputable abbrev r12_8 : List RO := [
  ⟨.v 6, .mv, [.con (.int .i64 0)], none⟩]
noncomputable abbrev r12_9 : List RO := [
  ⟨.l 47, .mv, [.v 6], none⟩,
  ⟨.l 48, .fld 7, [.v 5], none⟩,
  ⟨.l 49, .ld false 1, [.l 48], none⟩,
  ⟨.l 50, .lenL, [.l 49], none⟩,
  ⟨.v 10, .bin .lss, [.l 47, .l 50], none⟩]
noncomputable abbrev r12_10 : List (RO × Bool) := [
  (⟨.l 54, .fld 7, [.v 5], none⟩, true),
  (⟨.l 55, .ld false 1, [.l 54], none⟩, true),
  (⟨.l 56, .mv, [.v 6], none⟩, true),
  (⟨.l 57, .ixaS 2, [.l 55, .l 56], none⟩, true),
  (⟨.l 58, .fld 0, [.l 57], none⟩, true),
  (⟨.l 59, .ld false 1, [.l 58], none⟩, true),
  (⟨.l 60, .lenS, [.l 59], none⟩, true),
  (⟨.l 61, .fld 7, [.v 5], none⟩, true),
  (⟨.l 62, .ld false 1, [.l 61], none⟩, true),
  (⟨.l 63, .mv, [.v 6], none⟩, true),
  (⟨.l 64, .ixaS 2, [.l 62, .l 63], none⟩, true),
  (⟨.l 65, .fld 1, [.l 64], none⟩, true),
  (⟨.l 66, .ld false 1, [.l 65], none⟩, true),
  (⟨.l 67, .lenS, [.l 66], none⟩, true)]
noncomputable abbrev r12_11 : List RO := [
  ⟨.l 68, .bin .add, [.l 60, .l 67], none⟩,
  ⟨.v 11, .bin .gtr, [.l 68, .con (.int .i64 300)], none⟩]
noncomputable abbrev r12_12 : List RO := [
  ⟨.v 3, .mv, [.con (.bool false)], none⟩]
noncomputable abbrev r12_13 : List RO := [
  ⟨.l 52, .mv, [.v 6], none⟩,
  ⟨.l 53, .bin .add, [.l 52, .con (.int .i64 1)], none⟩,
  ⟨.v 6, .mv, [.l 53], none⟩]
noncomputable abbrev r12_14 : List RO := [
  ⟨.l 18, .mv, [.v 4], none⟩,
  ⟨.l 19, .bin .add, [.l 18, .con (.int .i64 1)], none⟩,
  ⟨.v 4, .mv, [.l 19], none⟩]
noncomputable abbrev r12_15 : List RO := [
  ⟨.v 3, .mv, [.con (.bool true)], none⟩]
theorem P12 : C12.M = M := by unfold C12 E12; rfl
theorem i12 {a0 a1 : D} : St.init C12 [a0, a1] ⟨[], []⟩ = ⟨[a0, a1, .u0, .u0, .u0, .u0, .u0, .u0, .u0, .u0, .u0, .u0], [], ⟨[], []⟩⟩ := by unfold C12 E12; rfl
noncomputable def c12 : RC := (.seq (.reg r12_0) (.seq (.seq (.reg r12_1) (.cond (.v 7) (.seq (.reg r12_2) .ret) .skip)) (.seq (.seq (.reg r12_3) (.block 0 (.loop (.seq (.seq (.reg r12_4) (.cond (.v 8) .skip (.exit 0))) (.seq (.block 1 (.seq (.reg r12_5) (.seq (.seq (.reg r12_6) (.cond (.v 9) (.seq (.reg r12_7) .ret) .skip)) (.seq (.reg r12_8) (.block 2 (.loop (.seq (.seq (.reg r12_9) (.cond (.v 10) .skip (.exit 2))) (.seq (.block 3 (.seq (.regD r12_10 r12_11) (.cond (.v 11) (.seq (.reg r12_12) .ret) .skip))) (.reg r12_13))))))))) (.reg r12_14)))))) (.seq (.reg r12_15) .ret))))
noncomputable def q12 : List RR := [(.slot (.v 3))]
theorem k12 : FnOk M 12 2 Tryz.f12 E12 c12 q12 := fnOk Tryz.func12
noncomputable def E5 (n m : Nat) : Cfg := ⟨M, [0, 1, 2, 3, 4, 6], 18, n, m, []⟩
noncomputable def C5 : Cfg := E5 0 0
noncomputable abbrev r5_0 : List RO := [
  ⟨.v 3, .box, [.v 0], none⟩,
  ⟨.v 4, .box, [.v 1], none⟩,
  ⟨.v 5, .mv, [.con (.bool false)], none⟩]
noncomputable abbrev r5_1 : List RO := [
  ⟨.l 7, .ld true 1, [.v 3], none⟩,
  ⟨.l 8, .call, [(.con (.fn (.func 12) [] [])), .l 7, .con (.int .i64 12)], none⟩,
  ⟨.l 9, .mv, [.l 8], none⟩,
  ⟨.l 10, .ld true 6, [.v 4], (some (.l 9, true))⟩,
  ⟨.l 11, .call, [(.con (.fn (.func 13) [] [])), .l 10], (some (.l 9, true))⟩,
  ⟨.l 12, .pick, [.l 9, .l 11, .con (.bool false)], none⟩,
  ⟨.l 13, .mv, [.l 12], none⟩,
  ⟨.l 14, .mv, [.v 2], (some (.l 13, true))⟩,
  ⟨.l 15, .lenS, [.l 14], (some (.l 13, true))⟩,
  ⟨.l 16, .bin .leq, [.l 15, .con (.int .i64 300)], (some (.l 13, true))⟩,
  ⟨.l 17, .pick, [.l 13, .l 16, .con (.bool false)], none⟩,
  ⟨.v 5, .mv, [.l 17], none⟩]
theorem P5 : C5.M = M := by unfold C5 E5; rfl
theorem i5 {a0 a1 a2 : D} : St.init C5 [a0, a1, a2] ⟨[], []⟩ = ⟨[a0, a1, a2, .u0, .u0, .u0], [], ⟨[], []⟩⟩ := by unfold C5 E5; rfl
noncomputable def c5 : RC := (.seq (.reg r5_0) (.seq (.reg r5_1) .ret))
noncomputable def q5 : List RR := [(.slot (.v 5))]
theorem k5 : FnOk M 5 3 Tryz.f5 E5 c5 q5 := fnOk Tryz.func5
noncomputable def E9 (n m : Nat) : Cfg := ⟨M, [0], 9, n, m, []⟩
noncomputable def C9 : Cfg := E9 0 0
noncomputable abbrev r9_0 : List RO := [
  ⟨.v 0, (.newb [(.lit (.slice none 0 0))]), [], none⟩]
noncomputable abbrev r9_1 : List RO := [
  ⟨.l 1, (.bld [(.int .i64 0), (.int .i64 0)] [(0, 1), (1, 1)]), [.con (.int .i64 90), .con (.int .i64 110)], none⟩,
  ⟨.l 2, (.bld [(.int .i64 0), (.int .i64 0), (.int .i64 0), (.int .i64 0), (.int .i64 0), (.int .i64 0)] [(0, 2)]), [.l 1], none⟩,
  ⟨.l 3, (.bld [(.str []), (.str []), (.str []), (.str []), (.int .i64 0), (.int .i64 0), (.bool false), (.lit (.slice none 0 0)), (.int .i64 0), (.int .i64 0), (.int .i64 0), (.int .i64 0), (.int .i64 0), (.int .i64 0)] [(0, 1), (1, 1), (8, 6)]), [(.con (.str [99])), (.con (.str [99, 111, 97, 99, 104])), .l 2], none⟩,
  ⟨.l 4, (.bld [(.str []), (.str [])] [(0, 1), (1, 1)]), [(.con (.str [98, 97, 116, 99, 104])), (.con (.str [65]))], none⟩,
  ⟨.l 5, .bsl 2, [.l 4], none⟩,
  ⟨.l 6, (.bld [(.str []), (.str []), (.str []), (.str []), (.int .i64 0), (.int .i64 0), (.bool false), (.lit (.slice none 0 0)), (.int .i64 0), (.int .i64 0), (.int .i64 0), (.int .i64 0), (.int .i64 0), (.int .i64 0)] [(0, 1), (1, 1), (2, 1), (3, 1), (7, 1)]), [(.con (.str [119])), (.con (.str [119, 104, 101, 101, 108, 115, 101, 116])), (.con (.str [99])), (.con (.str [102, 114, 111, 110, 116])), .l 5], none⟩,
  ⟨.l 7, .bsl 14, [.l 3, .l 6], none⟩,
  ⟨.l 8, (.bld [(.lit (.slice none 0 0))] [(0, 1)]), [.l 7], none⟩,
  ⟨.none, .st 1, [.v 0, .l 8], none⟩]
theorem P9 : C9.M = M := by unfold C9 E9; rfl
theorem i9 : St.init C9 [] ⟨[], []⟩ = ⟨[.u0], [], ⟨[], []⟩⟩ := by unfold C9 E9; rfl
noncomputable def c9 : RC := (.seq (.reg r9_0) (.seq (.reg r9_1) .ret))
noncomputable def q9 : List RR := [(.cell (.v 0) true 1)]
theorem k9 : FnOk M 9 0 Tryz.f9 E9 c9 q9 := fnOk Tryz.func9
noncomputable def E10 (n m : Nat) : Cfg := ⟨M, [0, 1, 2, 3], 7, n, m, []⟩
noncomputable abbrev r10_0 : List RO := [
  ⟨.v 2, .box, [.v 0], none⟩,
  ⟨.v 3, .mv, [.con (.int .i64 0)], none⟩]
noncomputable abbrev r10_1 : List RO := [
  ⟨.l 4, .ld true 1, [.v 1], none⟩,
  ⟨.l 5, .ld true 6, [.v 2], none⟩,
  ⟨.l 6, .call, [(.con (.fn (.func 8) [] [])), .l 4, .l 5, (.con (.str [99])), .con (.int .i64 5)], none⟩,
  ⟨.v 3, .mv, [.l 6], none⟩]
theorem pe10 {n m : Nat} : (E10 n m).M = M := by unfold E10; rfl
theorem ie10 {n m : Nat} {hp : Hp} {a0 a1 : D} : St.init (E10 n m) [a0, a1] hp = ⟨[a0, a1, .u0, .u0], [], hp⟩ := by unfold E10; rfl
noncomputable def c10 : RC := (.seq (.reg r10_0) (.seq (.reg r10_1) .ret))
noncomputable def q10 : List RR := [(.slot (.v 3))]
theorem k10 : FnOk M 10 2 Tryz.f10 E10 c10 q10 := fnOk Tryz.func10
noncomputable def E4 (n m : Nat) : Cfg := ⟨M, [0, 1, 2, 3, 4, 5], 55, n, m, []⟩
noncomputable def C4 : Cfg := E4 0 0
noncomputable abbrev r4_0 : List RO := [
  ⟨.v 0, .mv, [.con (.bool false)], none⟩]
noncomputable abbrev r4_1 : List RO := [
  ⟨.l 6, .call, [(.con (.fn (.func 9) [] []))], none⟩,
  ⟨.v 1, (.newb [(.lit (.slice none 0 0))]), [], none⟩,
  ⟨.none, .st 1, [.v 1, .l 6], none⟩]
noncomputable abbrev r4_2 : List RO := [
  ⟨.l 7, (.mkF (.func 10) 0), [.v 1], none⟩,
  ⟨.v 2, .mv, [.l 7], none⟩]
noncomputable abbrev r4_3 : List RO := [
  ⟨.l 8, (.bld [(.int .i64 0), (.str []), (.str []), (.int .i64 0), (.int .i64 0), (.lit (.slice none 0 0))] [(0, 1), (1, 1), (2, 1)]), [.con (.int .i64 7), (.con (.str [98, 97, 116, 99, 104])), (.con (.str [65]))], none⟩,
  ⟨.v 3, (.newb [(.int .i64 0), (.str []), (.str []), (.int .i64 0), (.int .i64 0), (.lit (.slice none 0 0))]), [], none⟩,
  ⟨.none, .st 6, [.v 3, .l 8], none⟩]
noncomputable abbrev r4_4 : List RO := [
  ⟨.l 9, .mv, [.v 2], none⟩,
  ⟨.l 10, .call, [(.con (.fn (.func 11) [] [])), .con (.int .i64 100), .con (.int .i64 0)], none⟩,
  ⟨.l 11, .call, [.l 9, .l 10], none⟩,
  ⟨.l 12, .bin .eql, [.l 11, .con (.int .i64 1)], none⟩,
  ⟨.l 13, .mv, [.l 12], none⟩,
  ⟨.l 14, .mv, [.v 2], (some (.l 13, true))⟩,
  ⟨.l 15, .call, [(.con (.fn (.func 11) [] [])), .con (.int .i64 100), .con (.int .i64 10)], (some (.l 13, true))⟩,
  ⟨.l 16, .call, [.l 14, .l 15], (some (.l 13, true))⟩,
  ⟨.l 17, .bin .eql, [.l 16, .con (.int .i64 2)], (some (.l 13, true))⟩,
  ⟨.l 18, .pick, [.l 13, .l 17, .con (.bool false)], none⟩,
  ⟨.l 19, .mv, [.l 18], none⟩,
  ⟨.l 20, .mv, [.v 2], (some (.l 19, true))⟩,
  ⟨.l 21, (.bld [(.int .i64 0), (.str []), (.str []), (.int .i64 0), (.int .i64 0), (.lit (.slice none 0 0))] [(0, 1), (1, 1), (3, 1)]), [.con (.int .i64 6), (.con (.str [107, 109])), .con (.int .i64 89)], (some (.l 19, true))⟩,
  ⟨.l 22, .call, [.l 20, .l 21], (some (.l 19, true))⟩,
  ⟨.l 23, .bin .eql, [.l 22, .con (.int .i64 2)], (some (.l 19, true))⟩,
  ⟨.l 24, .pick, [.l 19, .l 23, .con (.bool false)], none⟩,
  ⟨.v 4, .mv, [.l 24], none⟩]
noncomputable abbrev r4_5 : List RO := [
  ⟨.l 25, .mv, [.v 2], none⟩,
  ⟨.l 26, .ld true 6, [.v 3], none⟩,
  ⟨.l 27, .bsl 6, [.l 26], none⟩,
  ⟨.l 28, (.bld [(.int .i64 0), (.str []), (.str []), (.int .i64 0), (.int .i64 0), (.lit (.slice none 0 0))] [(0, 1), (1, 1), (5, 1)]), [.con (.int .i64 11), (.con (.str [119, 104, 101, 101, 108, 115, 101, 116])), .l 27], none⟩,
  ⟨.l 29, .call, [.l 25, .l 28], none⟩,
  ⟨.l 30, .bin .eql, [.l 29, .con (.int .i64 2)], none⟩,
  ⟨.l 31, .mv, [.l 30], none⟩,
  ⟨.l 32, .mv, [.v 2], (some (.l 31, true))⟩,
  ⟨.l 33, (.bld [(.int .i64 0), (.str []), (.str []), (.int .i64 0), (.int .i64 0), (.lit (.slice none 0 0))] [(0, 1), (1, 1)]), [.con (.int .i64 8), (.con (.str [98, 97, 116, 99, 104]))], (some (.l 31, true))⟩,
  ⟨.l 34, .bsl 6, [.l 33], (some (.l 31, true))⟩,
  ⟨.l 35, (.bld [(.int .i64 0), (.str []), (.str []), (.int .i64 0), (.int .i64 0), (.lit (.slice none 0 0))] [(0, 1), (1, 1), (5, 1)]), [.con (.int .i64 10), (.con (.str [97, 120, 108, 101])), .l 34], (some (.l 31, true))⟩,
  ⟨.l 36, .call, [.l 32, .l 35], (some (.l 31, true))⟩,
  ⟨.l 37, .bin .eql, [.l 36, .con (.int .i64 2)], (some (.l 31, true))⟩,
  ⟨.l 38, .pick, [.l 31, .l 37, .con (.bool false)], none⟩,
  ⟨.v 5, .mv, [.l 38], none⟩]
noncomputable abbrev r4_6 : List RO := [
  ⟨.l 39, .mv, [.v 4], none⟩,
  ⟨.l 40, .mv, [.l 39], none⟩,
  ⟨.l 41, .mv, [.v 5], (some (.l 40, true))⟩,
  ⟨.l 42, .pick, [.l 40, .l 41, .con (.bool false)], none⟩,
  ⟨.l 43, .mv, [.l 42], none⟩,
  ⟨.l 44, .mv, [.v 2], (some (.l 43, true))⟩,
  ⟨.l 45, (.bld [(.int .i64 0), (.str []), (.str []), (.int .i64 0), (.int .i64 0), (.lit (.slice none 0 0))] [(0, 1), (1, 1), (3, 1)]), [.con (.int .i64 12), (.con (.str [119, 104, 101, 101, 108, 115, 101, 116])), .con (.int .i64 2)], (some (.l 43, true))⟩,
  ⟨.l 46, .call, [.l 44, .l 45], (some (.l 43, true))⟩,
  ⟨.l 47, .bin .eql, [.l 46, .con (.int .i64 0)], (some (.l 43, true))⟩,
  ⟨.l 48, .pick, [.l 43, .l 47, .con (.bool false)], none⟩,
  ⟨.l 49, .mv, [.l 48], none⟩,
  ⟨.l 50, .mv, [.v 2], (some (.l 49, true))⟩,
  ⟨.l 51, .ld true 6, [.v 3], (some (.l 49, true))⟩,
  ⟨.l 52, .call, [.l 50, .l 51], (some (.l 49, true))⟩,
  ⟨.l 53, .bin .eql, [.l 52, .con (.int .i64 0)], (some (.l 49, true))⟩,
  ⟨.l 54, .pick, [.l 49, .l 53, .con (.bool false)], none⟩,
  ⟨.v 0, .mv, [.l 54], none⟩]
theorem P4 : C4.M = M := by unfold C4 E4; rfl
theorem i4 : St.init C4 [] ⟨[], []⟩ = ⟨[.u0, .u0, .u0, .u0, .u0, .u0], [], ⟨[], []⟩⟩ := by unfold C4 E4; rfl
noncomputable def c4 : RC := (.seq (.reg r4_0) (.seq (.reg r4_1) (.seq (.reg r4_2) (.seq (.reg r4_3) (.seq (.reg r4_4) (.seq (.reg r4_5) (.seq (.reg r4_6) .ret)))))))
noncomputable def q4 : List RR := [(.slot (.v 0))]
theorem k4 : FnOk M 4 0 Tryz.f4 E4 c4 q4 := fnOk Tryz.func4
end Go.Proofs.YtcchbohfcmfmlaaGreat
end
section
set_option maxRecDepth 100000
namespace Go.Proofs.YtcchbohfcmfmlaaGreat
open Go GoV
noncomputable def E16 (n m : Nat) : Cfg := ⟨M, [0, 1, 2], 5, n, m, []⟩
noncomputable def C16 : Cfg := E16 0 0
noncomputable abbrev r16_0 : List RO := [
  ⟨.v 1, .box, [.v 0], none⟩,
  ⟨.v 2, .mv, [(.con (.str []))], none⟩]
noncomputable abbrev r16_1 : List RO := [
  ⟨.l 3, .fld 0, [.v 1], none⟩,
  ⟨.l 4, .ld false 1, [.l 3], none⟩,
  ⟨.v 2, .mv, [.l 4], none⟩]
theorem P16 : C16.M = M := by unfold C16 E16; rfl
theorem i16 {a0 : D} : St.init C16 [a0] ⟨[], []⟩ = ⟨[a0, .u0, .u0], [], ⟨[], []⟩⟩ := by unfold C16 E16; rfl
noncomputable def c16 : RC := (.seq (.reg r16_0) (.seq (.reg r16_1) .ret))
noncomputable def q16 : List RR := [(.slot (.v 2))]
theorem k16 : FnOk M 16 1 Tryz.f16 E16 c16 q16 := fnOk Tryz.func16
noncomputable def E59 (n m : Nat) : Cfg := ⟨M, [0, 1, 2], 5, n, m, []⟩
noncomputable def C59 : Cfg := E59 0 0
noncomputable abbrev r59_0 : List RO := [
  ⟨.v 1, .box, [.v 0], none⟩,
  ⟨.v 2, .mv, [(.con (.str []))], none⟩]
noncomputable abbrev r59_1 : List RO := [
  ⟨.l 3, .fld 0, [.v 1], none⟩,
  ⟨.l 4, .ld false 1, [.l 3], none⟩,
  ⟨.v 2, .mv, [.l 4], none⟩]
theorem P59 : C59.M = M := by unfold C59 E59; rfl
theorem i59 {a0 : D} : St.init C59 [a0] ⟨[], []⟩ = ⟨[a0, .u0, .u0], [], ⟨[], []⟩⟩ := by unfold C59 E59; rfl
noncomputable def c59 : RC := (.seq (.reg r59_0) (.seq (.reg r59_1) .ret))
noncomputable def q59 : List RR := [(.slot (.v 2))]
theorem k59 : FnOk M 59 1 Tryz.f59 E59 c59 q59 := fnOk Tryz.func59
noncomputable def E61 (n m : Nat) : Cfg := ⟨M, [0, 1, 2], 5, n, m, []⟩
noncomputable def C61 : Cfg := E61 0 0
noncomputable abbrev r61_0 : List RO := [
  ⟨.v 1, .box, [.v 0], none⟩,
  ⟨.v 2, .mv, [(.con (.str []))], none⟩]
noncomputable abbrev r61_1 : List RO := [
  ⟨.l 3, .fld 0, [.v 1], none⟩,
  ⟨.l 4, .ld false 1, [.l 3], none⟩,
  ⟨.v 2, .mv, [.l 4], none⟩]
theorem P61 : C61.M = M := by unfold C61 E61; rfl
theorem i61 {a0 : D} : St.init C61 [a0] ⟨[], []⟩ = ⟨[a0, .u0, .u0], [], ⟨[], []⟩⟩ := by unfold C61 E61; rfl
noncomputable def c61 : RC := (.seq (.reg r61_0) (.seq (.reg r61_1) .ret))
noncomputable def q61 : List RR := [(.slot (.v 2))]
theorem k61 : FnOk M 61 1 Tryz.f61 E61 c61 q61 := fnOk Tryz.func61
noncomputable def E88 (n m : Nat) : Cfg := ⟨M, [0, 1, 2, 3, 4], 10, n, m, []⟩
noncomputable abbrev r88_0 : List RO := [
  ⟨.v 3, .box, [.v 0], none⟩,
  ⟨.v 4, .mv, [.con (.bool false)], none⟩]
noncomputable abbrev r88_1 : List (RO × Bool) := [
  (⟨.l 5, .ld false 1, [.v 1], none⟩, true),
  (⟨.l 6, .ld true 3, [.v 3], none⟩, true),
  (⟨.l 7, .call, [.l 5, .l 6], none⟩, true),
  (⟨.l 8, .ld false 1, [.v 2], none⟩, true)]
noncomputable abbrev r88_2 : List RO := [
  ⟨.l 9, .bin .eql, [.l 7, .l 8], none⟩,
  ⟨.v 4, .mv, [.l 9], none⟩]
theorem pe88 {n m : Nat} : (E88 n m).M = M := by unfold E88; rfl
theorem ie88 {n m : Nat} {hp : Hp} {a0 a1 a2 : D} : St.init (E88 n m) [a0, a1, a2] hp = ⟨[a0, a1, a2, .u0, .u0], [], hp⟩ := by unfold E88; rfl
noncomputable def c88 : RC := (.seq (.reg r88_0) (.seq (.regD r88_1 r88_2) .ret))
noncomputable def q88 : List RR := [(.slot (.v 4))]
theorem k88 : FnOk M 88 3 Tryz.f88 E88 c88 q88 := fnOk Tryz.func88
noncomputable def E90 (n m : Nat) : Cfg := ⟨M, [0, 1, 2, 3, 4], 10, n, m, []⟩
noncomputable abbrev r90_0 : List RO := [
  ⟨.v 3, .box, [.v 0], none⟩,
  ⟨.v 4, .mv, [.con (.bool false)], none⟩]
noncomputable abbrev r90_1 : List (RO × Bool) := [
  (⟨.l 5, .ld false 1, [.v 1], none⟩, true),
  (⟨.l 6, .ld true 3, [.v 3], none⟩, true),
  (⟨.l 7, .call, [.l 5, .l 6], none⟩, true),
  (⟨.l 8, .ld false 1, [.v 2], none⟩, true)]
noncomputable abbrev r90_2 : List RO := [
  ⟨.l 9, .bin .eql, [.l 7, .l 8], none⟩,
  ⟨.v 4, .mv, [.l 9], none⟩]
theorem pe90 {n m : Nat} : (E90 n m).M = M := by unfold E90; rfl
theorem ie90 {n m : Nat} {hp : Hp} {a0 a1 a2 : D} : St.init (E90 n m) [a0, a1, a2] hp = ⟨[a0, a1, a2, .u0, .u0], [], hp⟩ := by unfold E90; rfl
noncomputable def c90 : RC := (.seq (.reg r90_0) (.seq (.regD r90_1 r90_2) .ret))
noncomputable def q90 : List RR := [(.slot (.v 4))]
theorem k90 : FnOk M 90 3 Tryz.f90 E90 c90 q90 := fnOk Tryz.func90
noncomputable def E87 (n m : Nat) : Cfg := ⟨M, [0, 1, 4, 5, 7, 8, 9, 16], 19, n, m, []⟩
noncomputable abbrev r87_0 : List RO := [
  ⟨.v 2, .mv, [.con (.int .i64 0)], none⟩]
noncomputable abbrev r87_1 : List RO := [
  ⟨.l 6, .mv, [.v 0], none⟩,
  ⟨.v 4, .lenL, [.l 6], none⟩,
  ⟨.v 5, .mv, [.con (.int .i64 0)], none⟩]
noncomputable abbrev r87_2 : List RO := [
  ⟨.v 6, .bin .lss, [.v 5, .v 4], none⟩]
noncomputable abbrev r87_3 : List RO := [
  ⟨.l 10, .mv, [.v 5], none⟩,
  ⟨.v 3, .mv, [.l 10], none⟩]
noncomputable abbrev r87_4 : List RO := [
  ⟨.l 11, .mv, [.v 1], none⟩,
  ⟨.l 12, .mv, [.v 0], none⟩,
  ⟨.l 13, .mv, [.v 3], none⟩,
  ⟨.l 14, .ixaS 3, [.l 12, .l 13], none⟩,
  ⟨.l 15, .ld true 3, [.l 14], none⟩,
  ⟨.v 7, .call, [.l 11, .l 15], none⟩]
noncomputable abbrev r87_5 : List RO := [
  ⟨.l 17, .mv, [.v 3], none⟩,
  ⟨.v 2, .mv, [.l 17], none⟩]
noncomputable abbrev r87_6 : List RO := [
  ⟨.l 18, .bin .add, [.v 5, .con (.int .i64 1)], none⟩,
  ⟨.v 5, .mv, [.l 18], none⟩]
noncomputable abbrev r87_7 : List RO := [
  ⟨.v 2, .mv, [(.con (.int .i64 (-1)))], none⟩]
theorem pe87 {n m : Nat} : (E87 n m).M = M := by unfold E87; rfl
theorem ie87 {n m : Nat} {hp : Hp} {a0 a1 : D} : St.init (E87 n m) [a0, a1] hp = ⟨[a0, a1, .u0, .u0, .u0, .u0, .u0, .u0], [], hp⟩ := by unfold E87; rfl
noncomputable def c87 : RC := (.seq (.reg r87_0) (.seq (.seq (.reg r87_1) (.block 0 (.loop (.seq (.reg r87_2) (.seq (.cond (.v 6) .skip (.exit 0)) (.seq (.block 1 (.seq (.reg r87_3) (.seq (.reg r87_4) (.cond (.v 7) (.seq (.reg r87_5) .ret) .skip)))) (.reg r87_6))))))) (.seq (.reg r87_7) .ret)))
noncomputable def q87 : List RR := [(.slot (.v 2))]
theorem k87 : FnOk M 87 2 Tryz.f87 E87 c87 q87 := fnOk Tryz.func87
noncomputable def E89 (n m : Nat) : Cfg := ⟨M, [0, 1, 4, 5, 7, 8, 9, 16], 19, n, m, []⟩
noncomputable abbrev r89_0 : List RO := [
  ⟨.v 2, .mv, [.con (.int .i64 0)], none⟩]
noncomputable abbrev r89_1 : List RO := [
  ⟨.l 6, .mv, [.v 0], none⟩,
  ⟨.v 4, .lenL, [.l 6], none⟩,
  ⟨.v 5, .mv, [.con (.int .i64 0)], none⟩]
noncomputable abbrev r89_2 : List RO := [
  ⟨.v 6, .bin .lss, [.v 5, .v 4], none⟩]
noncomputable abbrev r89_3 : List RO := [
  ⟨.l 10, .mv, [.v 5], none⟩,
  ⟨.v 3, .mv, [.l 10], none⟩]
noncomputable abbrev r89_4 : List RO := [
  ⟨.l 11, .mv, [.v 1], none⟩,
  ⟨.l 12, .mv, [.v 0], none⟩,
  ⟨.l 13, .mv, [.v 3], none⟩,
  ⟨.l 14, .ixaS 3, [.l 12, .l 13], none⟩,
  ⟨.l 15, .ld true 3, [.l 14], none⟩,
  ⟨.v 7, .call, [.l 11, .l 15], none⟩]
noncomputable abbrev r89_5 : List RO := [
  ⟨.l 17, .mv, [.v 3], none⟩,
  ⟨.v 2, .mv, [.l 17], none⟩]
noncomputable abbrev r89_6 : List RO := [
  ⟨.l 18, .bin .add, [.v 5, .con (.int .i64 1)], none⟩,
  ⟨.v 5, .mv, [.l 18], none⟩]
noncomputable abbrev r89_7 : List RO := [
  ⟨.v 2, .mv, [(.con (.int .i64 (-1)))], none⟩]
theorem pe89 {n m : Nat} : (E89 n m).M = M := by unfold E89; rfl
theorem ie89 {n m : Nat} {hp : Hp} {a0 a1 : D} : St.init (E89 n m) [a0, a1] hp = ⟨[a0, a1, .u0, .u0, .u0, .u0, .u0, .u0], [], hp⟩ := by unfold E89; rfl
noncomputable def c89 : RC := (.seq (.reg r89_0) (.seq (.seq (.reg r89_1) (.block 0 (.loop (.seq (.reg r89_2) (.seq (.cond (.v 6) .skip (.exit 0)) (.seq (.block 1 (.seq (.reg r89_3) (.seq (.reg r89_4) (.cond (.v 7) (.seq (.reg r89_5) .ret) .skip)))) (.reg r89_6))))))) (.seq (.reg r89_7) .ret)))
noncomputable def q89 : List RR := [(.slot (.v 2))]
theorem k89 : FnOk M 89 2 Tryz.f89 E89 c89 q89 := fnOk Tryz.func89
noncomputable def E58 (n m : Nat) : Cfg := ⟨M, [0, 1, 2, 4, 5, 6], 10, n, m, []⟩
noncomputable def C58 : Cfg := E58 0 0
noncomputable abbrev r58_0 : List RO := [
  ⟨.v 3, .box, [.v 1], none⟩,
  ⟨.v 4, .box, [.v 2], none⟩,
  ⟨.v 5, .mv, [.con (.int .i64 0)], none⟩]
noncomputable abbrev r58_1 : List RO := [
  ⟨.l 7, .mv, [.v 0], none⟩,
  ⟨.l 8, (.mkF (.func 88) 0), [.v 3, .v 4], none⟩,
  ⟨.l 9, .call, [(.con (.fn (.func 87) [] [])), .l 7, .l 8], none⟩,
  ⟨.v 5, .mv, [.l 9], none⟩]
theorem P58 : C58.M = M := by unfold C58 E58; rfl
theorem i58 {a0 a1 a2 : D} : St.init C58 [a0, a1, a2] ⟨[], []⟩ = ⟨[a0, a1, a2, .u0, .u0, .u0], [], ⟨[], []⟩⟩ := by unfold C58 E58; rfl
noncomputable def c58 : RC := (.seq (.reg r58_0) (.seq (.reg r58_1) .ret))
noncomputable def q58 : List RR := [(.slot (.v 5))]
theorem k58 : FnOk M 58 3 Tryz.f58 E58 c58 q58 := fnOk Tryz.func58
noncomputable def E60 (n m : Nat) : Cfg := ⟨M, [0, 1, 2, 4, 5, 6], 10, n, m, []⟩
noncomputable def C60 : Cfg := E60 0 0
noncomputable abbrev r60_0 : List RO := [
  ⟨.v 3, .box, [.v 1], none⟩,
  ⟨.v 4, .box, [.v 2], none⟩,
  ⟨.v 5, .mv, [.con (.int .i64 0)], none⟩]
noncomputable abbrev r60_1 : List RO := [
  ⟨.l 7, .mv, [.v 0], none⟩,
  ⟨.l 8, (.mkF (.func 90) 0), [.v 3, .v 4], none⟩,
  ⟨.l 9, .call, [(.con (.fn (.func 89) [] [])), .l 7, .l 8], none⟩,
  ⟨.v 5, .mv, [.l 9], none⟩]
theorem P60 : C60.M = M := by unfold C60 E60; rfl
theorem i60 {a0 a1 a2 : D} : St.init C60 [a0, a1, a2] ⟨[], []⟩ = ⟨[a0, a1, a2, .u0, .u0, .u0], [], ⟨[], []⟩⟩ := by unfold C60 E60; rfl
noncomputable def c60 : RC := (.seq (.reg r60_0) (.seq (.reg r60_1) .ret))
noncomputable def q60 : List RR := [(.slot (.v 5))]
theorem k60 : FnOk M 60 3 Tryz.f60 E60 c60 q60 := fnOk Tryz.func60
noncomputable def E31 (n m : Nat) : Cfg := ⟨M, [0, 1, 2, 4, 5, 6, 12], 19, n, m, []⟩
noncomputable def C31 : Cfg := E31 0 0
noncomputable abbrev r31_0 : List RO := [
  ⟨.v 2, .box, [.v 0], none⟩,
  ⟨.v 3, (.newb [(.str []), (.bool false), (.lit (.slice none 0 0))]), [], none⟩,
  ⟨.v 4, .mv, [.con (.bool false)], none⟩]
noncomputable abbrev r31_1 : List RO := [
  ⟨.l 7, .fld 0, [.v 2], none⟩,
  ⟨.l 8, .ld false 1, [.l 7], none⟩,
  ⟨.l 9, .mv, [.v 1], none⟩,
  ⟨.l 10, .call, [(.con (.fn (.func 58) [] [])), .l 8, (.con (.fn (.func 59) [] [])), .l 9], none⟩,
  ⟨.v 5, .mv, [.l 10], none⟩]
noncomputable abbrev r31_2 : List RO := [
  ⟨.l 11, .mv, [.v 5], none⟩,
  ⟨.v 6, .bin .lss, [.l 11, .con (.int .i64 0)], none⟩]
noncomputable abbrev r31_3 : List RO := [
  ⟨.l 13, (.bld [(.str []), (.bool false), (.lit (.slice none 0 0))] []), [], none⟩,
  ⟨.none, .st 3, [.v 3, .l 13], none⟩,
  ⟨.v 4, .mv, [.con (.bool false)], none⟩]
noncomputable abbrev r31_4 : List RO := [
  ⟨.l 14, .fld 0, [.v 2], none⟩,
  ⟨.l 15, .ld false 1, [.l 14], none⟩,
  ⟨.l 16, .mv, [.v 5], none⟩,
  ⟨.l 17, .ixaS 3, [.l 15, .l 16], none⟩,
  ⟨.l 18, .ld true 3, [.l 17], none⟩,
  ⟨.none, .st 3, [.v 3, .l 18], none⟩,
  ⟨.v 4, .mv, [.con (.bool true)], none⟩]
theorem P31 : C31.M = M := by unfold C31 E31; rfl
theorem i31 {a0 a1 : D} : St.init C31 [a0, a1] ⟨[], []⟩ = ⟨[a0, a1, .u0, .u0, .u0, .u0, .u0], [], ⟨[], []⟩⟩ := by unfold C31 E31; rfl
noncomputable def c31 : RC := (.seq (.reg r31_0) (.seq (.reg r31_1) (.seq (.seq (.reg r31_2) (.cond (.v 6) (.seq (.reg r31_3) .ret) .skip)) (.seq (.reg r31_4) .ret))))
noncomputable def q31 : List RR := [(.cell (.v 3) true 3), (.slot (.v 4))]
theorem k31 : FnOk M 31 2 Tryz.f31 E31 c31 q31 := fnOk Tryz.func31
noncomputable def E34 (n m : Nat) : Cfg := ⟨M, [0, 1, 2, 3, 6, 7, 8, 10, 22], 29, n, m, []⟩
noncomputable def C34 : Cfg := E34 0 0
noncomputable abbrev r34_0 : List RO := [
  ⟨.v 3, .box, [.v 0], none⟩,
  ⟨.v 4, (.newb [(.str []), (.lit (.slice none 0 0)), (.int .i64 0)]), [], none⟩,
  ⟨.v 5, .mv, [.con (.bool false)], none⟩]
noncomputable abbrev r34_1 : List RO := [
  ⟨.l 12, .ld true 1, [.v 3], none⟩,
  ⟨.l 13, .mv, [.v 1], none⟩,
  ⟨.l 14, .call, [(.con (.fn (.func 31) [] [])), .l 12, .l 13], none⟩,
  ⟨.l 11, .mv, [.l 14], none⟩,
  ⟨.l 15, .ext 0, [.l 11], none⟩,
  ⟨.l 16, .ext 1, [.l 11], none⟩,
  ⟨.v 6, (.newb [(.str []), (.bool false), (.lit (.slice none 0 0))]), [], none⟩,
  ⟨.none, .st 3, [.v 6, .l 15], none⟩,
  ⟨.l 9, .mv, [.l 16], none⟩]
noncomputable abbrev r34_2 : List RO := [
  ⟨.l 17, .fld 2, [.v 6], none⟩,
  ⟨.l 18, .ld false 1, [.l 17], none⟩,
  ⟨.l 19, .mv, [.v 2], none⟩,
  ⟨.l 20, .call, [(.con (.fn (.func 60) [] [])), .l 18, (.con (.fn (.func 61) [] [])), .l 19], none⟩,
  ⟨.v 7, .mv, [.l 20], none⟩]
noncomputable abbrev r34_3 : List RO := [
  ⟨.l 21, .mv, [.v 7], none⟩,
  ⟨.v 8, .bin .lss, [.l 21, .con (.int .i64 0)], none⟩]
noncomputable abbrev r34_4 : List RO := [
  ⟨.l 23, (.bld [(.str []), (.lit (.slice none 0 0)), (.int .i64 0)] []), [], none⟩,
  ⟨.none, .st 3, [.v 4, .l 23], none⟩,
  ⟨.v 5, .mv, [.con (.bool false)], none⟩]
noncomputable abbrev r34_5 : List RO := [
  ⟨.l 24, .fld 2, [.v 6], none⟩,
  ⟨.l 25, .ld false 1, [.l 24], none⟩,
  ⟨.l 26, .mv, [.v 7], none⟩,
  ⟨.l 27, .ixaS 3, [.l 25, .l 26], none⟩,
  ⟨.l 28, .ld true 3, [.l 27], none⟩,
  ⟨.none, .st 3, [.v 4, .l 28], none⟩,
  ⟨.v 5, .mv, [.con (.bool true)], none⟩]
theorem P34 : C34.M = M := by unfold C34 E34; rfl
theorem i34 {a0 a1 a2 : D} : St.init C34 [a0, a1, a2] ⟨[], []⟩ = ⟨[a0, a1, a2, .u0, .u0, .u0, .u0, .u0, .u0], [], ⟨[], []⟩⟩ := by unfold C34 E34; rfl
noncomputable def c34 : RC := (.seq (.reg r34_0) (.seq (.reg r34_1) (.seq (.reg r34_2) (.seq (.seq (.reg r34_3) (.cond (.v 8) (.seq (.reg r34_4) .ret) .skip)) (.seq (.reg r34_5) .ret)))))
noncomputable def q34 : List RR := [(.cell (.v 4) true 3), (.slot (.v 5))]
theorem k34 : FnOk M 34 3 Tryz.f34 E34 c34 q34 := fnOk Tryz.func34
noncomputable def E20 (n m : Nat) : Cfg := ⟨M, [0, 1, 2, 3, 4, 8, 9, 10], 25, n, m, []⟩
noncomputable def C20 : Cfg := E20 0 0
noncomputable abbrev r20_0 : List RO := [
  ⟨.v 4, .box, [.v 0], none⟩,
  ⟨.v 5, .mv, [.con (.bool false)], none⟩]
noncomputable abbrev r20_1 : List RO := [
  ⟨.l 12, .ld true 1, [.v 4], none⟩,
  ⟨.l 13, .mv, [.v 1], none⟩,
  ⟨.l 14, .mv, [.v 2], none⟩,
  ⟨.l 15, .call, [(.con (.fn (.func 34) [] [])), .l 12, .l 13, .l 14], none⟩,
  ⟨.l 11, .mv, [.l 15], none⟩,
  ⟨.l 16, .ext 0, [.l 11], none⟩,
  ⟨.l 17, .ext 1, [.l 11], none⟩,
  ⟨.v 6, (.newb [(.str []), (.lit (.slice none 0 0)), (.int .i64 0)]), [], none⟩,
  ⟨.none, .st 3, [.v 6, .l 16], none⟩,
  ⟨.v 7, .mv, [.l 17], none⟩]
noncomputable abbrev r20_2 : List RO := [
  ⟨.l 18, .mv, [.v 7], none⟩,
  ⟨.l 19, .mv, [.l 18], none⟩,
  ⟨.l 20, .fld 1, [.v 6], (some (.l 19, true))⟩,
  ⟨.l 21, .ld false 1, [.l 20], (some (.l 19, true))⟩,
  ⟨.l 22, .mv, [.v 3], (some (.l 19, true))⟩,
  ⟨.l 23, .call, [(.con (.fn (.func 21) [] [])), .l 21, .l 22], (some (.l 19, true))⟩,
  ⟨.l 24, .pick, [.l 19, .l 23, .con (.bool false)], none⟩,
  ⟨.v 5, .mv, [.l 24], none⟩]
theorem P20 : C20.M = M := by unfold C20 E20; rfl
theorem i20 {a0 a1 a2 a3 : D} : St.init C20 [a0, a1, a2, a3] ⟨[], []⟩ = ⟨[a0, a1, a2, a3, .u0, .u0, .u0, .u0], [], ⟨[], []⟩⟩ := by unfold C20 E20; rfl
noncomputable def c20 : RC := (.seq (.reg r20_0) (.seq (.reg r20_1) (.seq (.reg r20_2) .ret)))
noncomputable def q20 : List RR := [(.slot (.v 5))]
theorem k20 : FnOk M 20 4 Tryz.f20 E20 c20 q20 := fnOk Tryz.func20
noncomputable def E33 (n m : Nat) : Cfg := ⟨M, [0, 1, 2], 5, n, m, []⟩
noncomputable def C33 : Cfg := E33 0 0
noncomputable abbrev r33_0 : List RO := [
  ⟨.v 1, .box, [.v 0], none⟩,
  ⟨.v 2, .mv, [(.con (.str []))], none⟩]
noncomputable abbrev r33_1 : List RO := [
  ⟨.l 3, .fld 0, [.v 1], none⟩,
  ⟨.l 4, .ld false 1, [.l 3], none⟩,
  ⟨.v 2, .mv, [.l 4], none⟩]
theorem P33 : C33.M = M := by unfold C33 E33; rfl
theorem i33 {a0 : D} : St.init C33 [a0] ⟨[], []⟩ = ⟨[a0, .u0, .u0], [], ⟨[], []⟩⟩ := by unfold C33 E33; rfl
noncomputable def c33 : RC := (.seq (.reg r33_0) (.seq (.reg r33_1) .ret))
noncomputable def q33 : List RR := [(.slot (.v 2))]
theorem k33 : FnOk M 33 1 Tryz.f33 E33 c33 q33 := fnOk Tryz.func33
noncomputable def E29 (n m : Nat) : Cfg := ⟨M, [0, 1, 2], 18, n, m, []⟩
noncomputable def C29 : Cfg := E29 0 0
noncomputable abbrev r29_0 : List RO := [
  ⟨.v 1, .box, [.v 0], none⟩,
  ⟨.v 2, .mv, [.con (.bool false)], none⟩]
noncomputable abbrev r29_1 : List RO := [
  ⟨.l 3, .fld 0, [.v 1], none⟩,
  ⟨.l 4, .ld false 1, [.l 3], none⟩,
  ⟨.l 5, .bin .leq, [.con (.int .i64 0), .l 4], none⟩,
  ⟨.l 6, .mv, [.l 5], none⟩,
  ⟨.l 7, .fld 0, [.v 1], (some (.l 6, true))⟩,
  ⟨.l 8, .ld false 1, [.l 7], (some (.l 6, true))⟩,
  ⟨.l 9, .fld 1, [.v 1], (some (.l 6, true))⟩,
  ⟨.l 10, .ld false 1, [.l 9], (some (.l 6, true))⟩,
  ⟨.l 11, .bin .leq, [.l 8, .l 10], (some (.l 6, true))⟩,
  ⟨.l 12, .pick, [.l 6, .l 11, .con (.bool false)], none⟩,
  ⟨.l 13, .mv, [.l 12], none⟩,
  ⟨.l 14, .fld 1, [.v 1], (some (.l 13, true))⟩,
  ⟨.l 15, .ld false 1, [.l 14], (some (.l 13, true))⟩,
  ⟨.l 16, .bin .leq, [.l 15, .con (.int .i64 1000000000000)], (some (.l 13, true))⟩,
  ⟨.l 17, .pick, [.l 13, .l 16, .con (.bool false)], none⟩,
  ⟨.v 2, .mv, [.l 17], none⟩]
theorem P29 : C29.M = M := by unfold C29 E29; rfl
theorem i29 {a0 : D} : St.init C29 [a0] ⟨[], []⟩ = ⟨[a0, .u0, .u0], [], ⟨[], []⟩⟩ := by unfold C29 E29; rfl
noncomputable def c29 : RC := (.seq (.reg r29_0) (.seq (.reg r29_1) .ret))
noncomputable def q29 : List RR := [(.slot (.v 2))]
theorem k29 : FnOk M 29 1 Tryz.f29 E29 c29 q29 := fnOk Tryz.func29
noncomputable def E30 (n m : Nat) : Cfg := ⟨M, [0, 1, 2], 17, n, m, []⟩
noncomputable def C30 : Cfg := E30 0 0
noncomputable abbrev r30_0 : List RO := [
  ⟨.v 1, .box, [.v 0], none⟩,
  ⟨.v 2, .mv, [.con (.bool false)], none⟩]
noncomputable abbrev r30_1 : List RO := [
  ⟨.l 3, .fld 0, [.v 1], none⟩,
  ⟨.l 4, .ld false 1, [.l 3], none⟩,
  ⟨.l 5, .call, [(.con (.fn (.func 28) [] [])), .l 4], none⟩,
  ⟨.l 6, .mv, [.l 5], none⟩,
  ⟨.l 7, .fld 1, [.v 1], (some (.l 6, true))⟩,
  ⟨.l 8, .ld false 1, [.l 7], (some (.l 6, true))⟩,
  ⟨.l 9, .bin .neq, [.l 8, (.con (.str []))], (some (.l 6, true))⟩,
  ⟨.l 10, .pick, [.l 6, .l 9, .con (.bool false)], none⟩,
  ⟨.l 11, .mv, [.l 10], none⟩,
  ⟨.l 12, .fld 1, [.v 1], (some (.l 11, true))⟩,
  ⟨.l 13, .ld false 1, [.l 12], (some (.l 11, true))⟩,
  ⟨.l 14, .lenS, [.l 13], (some (.l 11, true))⟩,
  ⟨.l 15, .bin .leq, [.l 14, .con (.int .i64 200)], (some (.l 11, true))⟩,
  ⟨.l 16, .pick, [.l 11, .l 15, .con (.bool false)], none⟩,
  ⟨.v 2, .mv, [.l 16], none⟩]
theorem P30 : C30.M = M := by unfold C30 E30; rfl
theorem i30 {a0 : D} : St.init C30 [a0] ⟨[], []⟩ = ⟨[a0, .u0, .u0], [], ⟨[], []⟩⟩ := by unfold C30 E30; rfl
noncomputable def c30 : RC := (.seq (.reg r30_0) (.seq (.reg r30_1) .ret))
noncomputable def q30 : List RR := [(.slot (.v 2))]
theorem k30 : FnOk M 30 1 Tryz.f30 E30 c30 q30 := fnOk Tryz.func30
noncomputable def E32 (n m : Nat) : Cfg := ⟨M, [0, 1, 4, 5, 9, 25], 26, n, m, []⟩
noncomputable def C32 : Cfg := E32 0 0
noncomputable abbrev r32_0 : List RO := [
  ⟨.v 2, .mv, [.con (.bool false)], none⟩]
noncomputable abbrev r32_1 : List RO := [
  ⟨.v 3, .mv, [.con (.int .i64 1)], none⟩]
noncomputable abbrev r32_2 : List RO := [
  ⟨.l 6, .mv, [.v 3], none⟩,
  ⟨.l 7, .mv, [.v 0], none⟩,
  ⟨.l 8, .lenL, [.l 7], none⟩,
  ⟨.v 4, .bin .lss, [.l 6, .l 8], none⟩]
noncomputable abbrev r32_3 : List (RO × Bool) := [
  (⟨.l 12, .mv, [.v 1], none⟩, true),
  (⟨.l 13, .mv, [.v 0], none⟩, true),
  (⟨.l 14, .mv, [.v 3], none⟩, true),
  (⟨.l 15, .bin .sub, [.l 14, .con (.int .i64 1)], none⟩, true),
  (⟨.l 16, .ixaS 2, [.l 13, .l 15], none⟩, true),
  (⟨.l 17, .ld true 2, [.l 16], none⟩, true),
  (⟨.l 18, .call, [.l 12, .l 17], none⟩, true),
  (⟨.l 19, .mv, [.v 1], none⟩, true),
  (⟨.l 20, .mv, [.v 0], none⟩, true),
  (⟨.l 21, .mv, [.v 3], none⟩, true),
  (⟨.l 22, .ixaS 2, [.l 20, .l 21], none⟩, true),
  (⟨.l 23, .ld true 2, [.l 22], none⟩, true)]
noncomputable abbrev r32_4 : List RO := [
  ⟨.l 24, .call, [.l 19, .l 23], none⟩,
  ⟨.v 5, .bin .geq, [.l 18, .l 24], none⟩]
noncomputable abbrev r32_5 : List RO := [
  ⟨.v 2, .mv, [.con (.bool false)], none⟩]
noncomputable abbrev r32_6 : List RO := [
  ⟨.l 10, .mv, [.v 3], none⟩,
  ⟨.l 11, .bin .add, [.l 10, .con (.int .i64 1)], none⟩,
  ⟨.v 3, .mv, [.l 11], none⟩]
noncomputable abbrev r32_7 : List RO := [
  ⟨.v 2, .mv, [.con (.bool true)], none⟩]
theorem P32 : C32.M = M := by unfold C32 E32; rfl
theorem i32 {a0 a1 : D} : St.init C32 [a0, a1] ⟨[], []⟩ = ⟨[a0, a1, .u0, .u0, .u0, .u0], [], ⟨[], []⟩⟩ := by unfold C32 E32; rfl
noncomputable def c32 : RC := (.seq (.reg r32_0) (.seq (.seq (.reg r32_1) (.block 0 (.loop (.seq (.seq (.reg r32_2) (.cond (.v 4) .skip (.exit 0))) (.seq (.block 1 (.seq (.regD r32_3 r32_4) (.cond (.v 5) (.seq (.reg r32_5) .ret) .skip))) (.reg r32_6)))))) (.seq (.reg r32_7) .ret)))
noncomputable def q32 : List RR := [(.slot (.v 2))]
theorem k32 : FnOk M 32 2 Tryz.f32 E32 c32 q32 := fnOk Tryz.func32
noncomputable def E15 (n m : Nat) : Cfg := ⟨M, [0, 1, 4, 5, 9, 25], 26, n, m, []⟩
noncomputable def C15 : Cfg := E15 0 0
noncomputable abbrev r15_0 : List RO := [
  ⟨.v 2, .mv, [.con (.bool false)], none⟩]
noncomputable abbrev r15_1 : List RO := [
  ⟨.v 3, .mv, [.con (.int .i64 1)], none⟩]
noncomputable abbrev r15_2 : List RO := [
  ⟨.l 6, .mv, [.v 3], none⟩,
  ⟨.l 7, .mv, [.v 0], none⟩,
  ⟨.l 8, .lenL, [.l 7], none⟩,
  ⟨.v 4, .bin .lss, [.l 6, .l 8], none⟩]
noncomputable abbrev r15_3 : List (RO × Bool) := [
  (⟨.l 12, .mv, [.v 1], none⟩, true),
  (⟨.l 13, .mv, [.v 0], none⟩, true),
  (⟨.l 14, .mv, [.v 3], none⟩, true),
  (⟨.l 15, .bin .sub, [.l 14, .con (.int .i64 1)], none⟩, true),
  (⟨.l 16, .ixaS 14, [.l 13, .l 15], none⟩, true),
  (⟨.l 17, .ld true 14, [.l 16], none⟩, true),
  (⟨.l 18, .call, [.l 12, .l 17], none⟩, true),
  (⟨.l 19, .mv, [.v 1], none⟩, true),
  (⟨.l 20, .mv, [.v 0], none⟩, true),
  (⟨.l 21, .mv, [.v 3], none⟩, true),
  (⟨.l 22, .ixaS 14, [.l 20, .l 21], none⟩, true),
  (⟨.l 23, .ld true 14, [.l 22], none⟩, true)]
noncomputable abbrev r15_4 : List RO := [
  ⟨.l 24, .call, [.l 19, .l 23], none⟩,
  ⟨.v 5, .bin .geq, [.l 18, .l 24], none⟩]
noncomputable abbrev r15_5 : List RO := [
  ⟨.v 2, .mv, [.con (.bool false)], none⟩]
noncomputable abbrev r15_6 : List RO := [
  ⟨.l 10, .mv, [.v 3], none⟩,
  ⟨.l 11, .bin .add, [.l 10, .con (.int .i64 1)], none⟩,
  ⟨.v 3, .mv, [.l 11], none⟩]
noncomputable abbrev r15_7 : List RO := [
  ⟨.v 2, .mv, [.con (.bool true)], none⟩]
theorem P15 : C15.M = M := by unfold C15 E15; rfl
theorem i15 {a0 a1 : D} : St.init C15 [a0, a1] ⟨[], []⟩ = ⟨[a0, a1, .u0, .u0, .u0, .u0], [], ⟨[], []⟩⟩ := by unfold C15 E15; rfl
noncomputable def c15 : RC := (.seq (.reg r15_0) (.seq (.seq (.reg r15_1) (.block 0 (.loop (.seq (.seq (.reg r15_2) (.cond (.v 4) .skip (.exit 0))) (.seq (.block 1 (.seq (.regD r15_3 r15_4) (.cond (.v 5) (.seq (.reg r15_5) .ret) .skip))) (.reg r15_6)))))) (.seq (.reg r15_7) .ret)))
noncomputable def q15 : List RR := [(.slot (.v 2))]
theorem k15 : FnOk M 15 2 Tryz.f15 E15 c15 q15 := fnOk Tryz.func15
noncomputable def E18 (n m : Nat) : Cfg := ⟨M, [0, 1, 2, 3, 4, 5, 6, 8, 10, 48, 50, 51, 52, 53, 59], 85, n, m, []⟩
noncomputable abbrev r18_0 : List RO := [
  ⟨.v 2, .box, [.v 0], none⟩,
  ⟨.v 3, .box, [.v 1], none⟩,
  ⟨.v 4, .mv, [.con (.bool false)], none⟩]
noncomputable abbrev r18_1 : List RO := [
  ⟨.v 5, .mv, [(.con (.fn (.func 29) [] []))], none⟩]
noncomputable abbrev r18_2 : List RO := [
  ⟨.v 6, .mv, [(.con (.fn (.func 30) [] []))], none⟩]
noncomputable abbrev r18_3 : List RO := [
  ⟨.l 12, .ld true 1, [.v 2], none⟩,
  ⟨.l 13, .fld 1, [.v 3], none⟩,
  ⟨.l 14, .ld false 1, [.l 13], none⟩,
  ⟨.l 15, .call, [(.con (.fn (.func 31) [] [])), .l 12, .l 14], none⟩,
  ⟨.l 11, .mv, [.l 15], none⟩,
  ⟨.l 16, .ext 0, [.l 11], none⟩,
  ⟨.l 17, .ext 1, [.l 11], none⟩,
  ⟨.l 7, (.newb [(.str []), (.bool false), (.lit (.slice none 0 0))]), [], none⟩,
  ⟨.none, .st 3, [.l 7, .l 16], none⟩,
  ⟨.v 7, .mv, [.l 17], none⟩]
noncomputable abbrev r18_4 : List RO := [
  ⟨.l 18, .mv, [.v 7], none⟩,
  ⟨.l 19, .un .not, [.l 18], none⟩,
  ⟨.l 20, .mv, [.l 19], none⟩,
  ⟨.l 21, .fld 0, [.v 3], (some (.l 20, false))⟩,
  ⟨.l 22, .ld false 1, [.l 21], (some (.l 20, false))⟩,
  ⟨.l 23, .call, [(.con (.fn (.func 28) [] [])), .l 22], (some (.l 20, false))⟩,
  ⟨.l 24, .un .not, [.l 23], (some (.l 20, false))⟩,
  ⟨.l 25, .pick, [.l 20, .con (.bool true), .l 24], none⟩,
  ⟨.l 26, .mv, [.l 25], none⟩,
  ⟨.l 27, .fld 4, [.v 3], (some (.l 26, false))⟩,
  ⟨.l 28, .ld false 1, [.l 27], (some (.l 26, false))⟩,
  ⟨.l 29, .bin .lss, [.l 28, .con (.int .i64 0)], (some (.l 26, false))⟩,
  ⟨.l 30, .pick, [.l 26, .con (.bool true), .l 29], none⟩,
  ⟨.l 31, .mv, [.l 30], none⟩,
  ⟨.l 32, .fld 4, [.v 3], (some (.l 31, false))⟩,
  ⟨.l 33, .ld false 1, [.l 32], (some (.l 31, false))⟩,
  ⟨.l 34, .fld 5, [.v 3], (some (.l 31, false))⟩,
  ⟨.l 35, .ld false 1, [.l 34], (some (.l 31, false))⟩,
  ⟨.l 36, .bin .gtr, [.l 33, .l 35], (some (.l 31, false))⟩,
  ⟨.l 37, .pick, [.l 31, .con (.bool true), .l 36], none⟩,
  ⟨.l 38, .mv, [.l 37], none⟩,
  ⟨.l 39, .fld 5, [.v 3], (some (.l 38, false))⟩,
  ⟨.l 40, .ld false 1, [.l 39], (some (.l 38, false))⟩,
  ⟨.l 41, .bin .gtr, [.l 40, .con (.int .i64 40000)], (some (.l 38, false))⟩,
  ⟨.l 42, .pick, [.l 38, .con (.bool true), .l 41], none⟩,
  ⟨.l 43, .mv, [.l 42], none⟩,
  ⟨.l 44, .fld 7, [.v 3], (some (.l 43, false))⟩,
  ⟨.l 45, .ld false 1, [.l 44], (some (.l 43, false))⟩,
  ⟨.l 46, .lenL, [.l 45], (some (.l 43, false))⟩,
  ⟨.l 47, .bin .gtr, [.l 46, .con (.int .i64 60)], (some (.l 43, false))⟩,
  ⟨.v 9, .pick, [.l 43, .con (.bool true), .l 47], none⟩]
noncomputable abbrev r18_5 : List RO := [
  ⟨.v 4, .mv, [.con (.bool false)], none⟩]
noncomputable abbrev r18_6 : List RO := [
  ⟨.l 49, .fld 7, [.v 3], none⟩,
  ⟨.v 10, .ld false 1, [.l 49], none⟩,
  ⟨.v 11, .lenL, [.v 10], none⟩,
  ⟨.v 12, .mv, [.con (.int .i64 0)], none⟩]
noncomputable abbrev r18_7 : List RO := [
  ⟨.v 13, .bin .lss, [.v 12, .v 11], none⟩]
noncomputable abbrev r18_8 : List RO := [
  ⟨.l 54, .ixaS 2, [.v 10, .v 12], none⟩,
  ⟨.l 55, .ld true 2, [.l 54], none⟩,
  ⟨.v 8, (.newb [(.str []), (.str [])]), [], none⟩,
  ⟨.none, .st 2, [.v 8, .l 55], none⟩]
noncomputable abbrev r18_9 : List RO := [
  ⟨.l 56, .mv, [.v 6], none⟩,
  ⟨.l 57, .ld true 2, [.v 8], none⟩,
  ⟨.l 58, .call, [.l 56, .l 57], none⟩,
  ⟨.v 14, .un .not, [.l 58], none⟩]
noncomputable abbrev r18_10 : List RO := [
  ⟨.v 4, .mv, [.con (.bool false)], none⟩]
noncomputable abbrev r18_11 : List RO := [
  ⟨.l 60, .bin .add, [.v 12, .con (.int .i64 1)], none⟩,
  ⟨.v 12, .mv, [.l 60], none⟩]
noncomputable abbrev r18_12 : List RO := [
  ⟨.l 61, .fld 7, [.v 3], none⟩,
  ⟨.l 62, .ld false 1, [.l 61], none⟩,
  ⟨.l 63, .call, [(.con (.fn (.func 32) [] [])), .l 62, (.con (.fn (.func 33) [] []))], none⟩,
  ⟨.l 64, .mv, [.l 63], none⟩,
  ⟨.l 65, .mv, [.v 5], (some (.l 64, true))⟩,
  ⟨.l 66, .fld 8, [.v 3], (some (.l 64, true))⟩,
  ⟨.l 67, .fld 0, [.l 66], (some (.l 64, true))⟩,
  ⟨.l 68, .ld true 2, [.l 67], (some (.l 64, true))⟩,
  ⟨.l 69, .call, [.l 65, .l 68], (some (.l 64, true))⟩,
  ⟨.l 70, .pick, [.l 64, .l 69, .con (.bool false)], none⟩,
  ⟨.l 71, .mv, [.l 70], none⟩,
  ⟨.l 72, .mv, [.v 5], (some (.l 71, true))⟩,
  ⟨.l 73, .fld 8, [.v 3], (some (.l 71, true))⟩,
  ⟨.l 74, .fld 2, [.l 73], (some (.l 71, true))⟩,
  ⟨.l 75, .ld true 2, [.l 74], (some (.l 71, true))⟩,
  ⟨.l 76, .call, [.l 72, .l 75], (some (.l 71, true))⟩,
  ⟨.l 77, .pick, [.l 71, .l 76, .con (.bool false)], none⟩,
  ⟨.l 78, .mv, [.l 77], none⟩,
  ⟨.l 79, .mv, [.v 5], (some (.l 78, true))⟩,
  ⟨.l 80, .fld 8, [.v 3], (some (.l 78, true))⟩,
  ⟨.l 81, .fld 4, [.l 80], (some (.l 78, true))⟩,
  ⟨.l 82, .ld true 2, [.l 81], (some (.l 78, true))⟩,
  ⟨.l 83, .call, [.l 79, .l 82], (some (.l 78, true))⟩,
  ⟨.l 84, .pick, [.l 78, .l 83, .con (.bool false)], none⟩,
  ⟨.v 4, .mv, [.l 84], none⟩]
theorem pe18 {n m : Nat} : (E18 n m).M = M := by unfold E18; rfl
theorem ie18 {n m : Nat} {hp : Hp} {a0 a1 : D} : St.init (E18 n m) [a0, a1] hp = ⟨[a0, a1, .u0, .u0, .u0, .u0, .u0, .u0, .u0, .u0, .u0, .u0, .u0, .u0, .u0], [], hp⟩ := by unfold E18; rfl
noncomputable def c18 : RC := (.seq (.reg r18_0) (.seq (.reg r18_1) (.seq (.reg r18_2) (.seq (.seq (.reg r18_3) (.seq (.reg r18_4) (.cond (.v 9) (.seq (.reg r18_5) .ret) .skip))) (.seq (.seq (.reg r18_6) (.block 0 (.loop (.seq (.reg r18_7) (.seq (.cond (.v 13) .skip (.exit 0)) (.seq (.block 1 (.seq (.reg r18_8) (.seq (.reg r18_9) (.cond (.v 14) (.seq (.reg r18_10) .ret) .skip)))) (.reg r18_11))))))) (.seq (.reg r18_12) .ret))))))
noncomputable def q18 : List RR := [(.slot (.v 4))]
theorem k18 : FnOk M 18 2 Tryz.f18 E18 c18 q18 := fnOk Tryz.func18
noncomputable def E14 (n m : Nat) : Cfg := ⟨M, [0, 1, 2, 3, 5, 7, 8, 10, 11, 13, 16, 17, 18, 19, 41, 44, 45, 46, 47, 72, 78, 79, 80, 81, 92], 108, n, m, []⟩
noncomputable abbrev r14_0 : List RO := [
  ⟨.v 1, .box, [.v 0], none⟩,
  ⟨.v 2, .mv, [.con (.bool false)], none⟩]
noncomputable abbrev r14_1 : List RO := [
  ⟨.l 14, .newM, [], none⟩,
  ⟨.v 3, .mv, [.l 14], none⟩]
noncomputable abbrev r14_2 : List RO := [
  ⟨.l 15, .fld 0, [.v 1], none⟩,
  ⟨.v 10, .ld false 1, [.l 15], none⟩,
  ⟨.v 11, .lenL, [.v 10], none⟩,
  ⟨.v 12, .mv, [.con (.int .i64 0)], none⟩]
noncomputable abbrev r14_3 : List RO := [
  ⟨.v 13, .bin .lss, [.v 12, .v 11], none⟩]
noncomputable abbrev r14_4 : List RO := [
  ⟨.l 20, .ixaS 3, [.v 10, .v 12], none⟩,
  ⟨.l 21, .ld true 3, [.l 20], none⟩,
  ⟨.v 4, (.newb [(.str []), (.bool false), (.lit (.slice none 0 0))]), [], none⟩,
  ⟨.none, .st 3, [.v 4, .l 21], none⟩]
noncomputable abbrev r14_5 : List RO := [
  ⟨.l 23, .mv, [.v 3], none⟩,
  ⟨.l 24, .fld 0, [.v 4], none⟩,
  ⟨.l 25, .ld false 1, [.l 24], none⟩,
  ⟨.l 26, (.lkp .str true (.bool false)), [.l 23, .l 25], none⟩,
  ⟨.l 22, .mv, [.l 26], none⟩,
  ⟨.l 27, .ext 0, [.l 22], none⟩,
  ⟨.l 28, .ext 1, [.l 22], none⟩,
  ⟨.l 6, .mv, [.l 27], none⟩,
  ⟨.v 5, .mv, [.l 28], none⟩]
noncomputable abbrev r14_6 : List RO := [
  ⟨.l 29, .mv, [.v 5], none⟩,
  ⟨.l 30, .mv, [.l 29], none⟩,
  ⟨.l 31, .fld 0, [.v 4], (some (.l 30, false))⟩,
  ⟨.l 32, .ld false 1, [.l 31], (some (.l 30, false))⟩,
  ⟨.l 33, .call, [(.con (.fn (.func 28) [] [])), .l 32], (some (.l 30, false))⟩,
  ⟨.l 34, .un .not, [.l 33], (some (.l 30, false))⟩,
  ⟨.l 35, .pick, [.l 30, .con (.bool true), .l 34], none⟩,
  ⟨.l 36, .mv, [.l 35], none⟩,
  ⟨.l 37, .fld 2, [.v 4], (some (.l 36, false))⟩,
  ⟨.l 38, .ld false 1, [.l 37], (some (.l 36, false))⟩,
  ⟨.l 39, .lenL, [.l 38], (some (.l 36, false))⟩,
  ⟨.l 40, .bin .gtr, [.l 39, .con (.int .i64 12)], (some (.l 36, false))⟩,
  ⟨.v 14, .pick, [.l 36, .con (.bool true), .l 40], none⟩]
noncomputable abbrev r14_7 : List RO := [
  ⟨.v 2, .mv, [.con (.bool false)], none⟩]
noncomputable abbrev r14_8 : List RO := [
  ⟨.l 42, .newM, [], none⟩,
  ⟨.v 6, .mv, [.l 42], none⟩]
noncomputable abbrev r14_9 : List RO := [
  ⟨.l 43, .fld 2, [.v 4], none⟩,
  ⟨.v 15, .ld false 1, [.l 43], none⟩,
  ⟨.v 16, .lenL, [.v 15], none⟩,
  ⟨.v 17, .mv, [.con (.int .i64 0)], none⟩]
noncomputable abbrev r14_10 : List RO := [
  ⟨.v 18, .bin .lss, [.v 17, .v 16], none⟩]
noncomputable abbrev r14_11 : List RO := [
  ⟨.l 48, .ixaS 3, [.v 15, .v 17], none⟩,
  ⟨.l 49, .ld true 3, [.l 48], none⟩,
  ⟨.v 7, (.newb [(.str []), (.lit (.slice none 0 0)), (.int .i64 0)]), [], none⟩,
  ⟨.none, .st 3, [.v 7, .l 49], none⟩]
noncomputable abbrev r14_12 : List RO := [
  ⟨.l 50, .mv, [.v 6], none⟩,
  ⟨.l 51, .fld 0, [.v 7], none⟩,
  ⟨.l 52, .ld false 1, [.l 51], none⟩,
  ⟨.l 53, (.lkp .str false (.bool false)), [.l 50, .l 52], none⟩,
  ⟨.l 54, .mv, [.l 53], none⟩,
  ⟨.l 55, .fld 0, [.v 7], (some (.l 54, false))⟩,
  ⟨.l 56, .ld false 1, [.l 55], (some (.l 54, false))⟩,
  ⟨.l 57, .call, [(.con (.fn (.func 28) [] [])), .l 56], (some (.l 54, false))⟩,
  ⟨.l 58, .un .not, [.l 57], (some (.l 54, false))⟩,
  ⟨.l 59, .pick, [.l 54, .con (.bool true), .l 58], none⟩,
  ⟨.l 60, .mv, [.l 59], none⟩,
  ⟨.l 61, .fld 2, [.v 7], (some (.l 60, false))⟩,
  ⟨.l 62, .ld false 1, [.l 61], (some (.l 60, false))⟩,
  ⟨.l 63, .bin .lss, [.l 62, .con (.int .i64 1)], (some (.l 60, false))⟩,
  ⟨.l 64, .pick, [.l 60, .con (.bool true), .l 63], none⟩,
  ⟨.l 65, .mv, [.l 64], none⟩,
  ⟨.l 66, .fld 2, [.v 7], (some (.l 65, false))⟩,
  ⟨.l 67, .ld false 1, [.l 66], (some (.l 65, false))⟩,
  ⟨.l 68, .fld 1, [.v 7], (some (.l 65, false))⟩,
  ⟨.l 69, .ld false 1, [.l 68], (some (.l 65, false))⟩,
  ⟨.l 70, .lenL, [.l 69], (some (.l 65, false))⟩,
  ⟨.l 71, .bin .gtr, [.l 67, .l 70], (some (.l 65, false))⟩,
  ⟨.v 19, .pick, [.l 65, .con (.bool true), .l 71], none⟩]
noncomputable abbrev r14_13 : List RO := [
  ⟨.v 2, .mv, [.con (.bool false)], none⟩]
noncomputable abbrev r14_14 : List RO := [
  ⟨.l 73, .mv, [.v 6], none⟩,
  ⟨.l 74, .fld 0, [.v 7], none⟩,
  ⟨.l 75, .ld false 1, [.l 74], none⟩,
  ⟨.none, .mpu .str, [.l 73, .l 75, .con (.bool true)], none⟩]
noncomputable abbrev r14_15 : List RO := [
  ⟨.l 76, .newM, [], none⟩,
  ⟨.v 8, .mv, [.l 76], none⟩]
noncomputable abbrev r14_16 : List RO := [
  ⟨.l 77, .fld 1, [.v 7], none⟩,
  ⟨.v 20, .ld false 1, [.l 77], none⟩,
  ⟨.v 21, .lenL, [.v 20], none⟩,
  ⟨.v 22, .mv, [.con (.int .i64 0)], none⟩]
noncomputable abbrev r14_17 : List RO := [
  ⟨.v 23, .bin .lss, [.v 22, .v 21], none⟩]
noncomputable abbrev r14_18 : List RO := [
  ⟨.l 82, .ixaS 1, [.v 20, .v 22], none⟩,
  ⟨.l 83, .ld false 1, [.l 82], none⟩,
  ⟨.v 9, .mv, [.l 83], none⟩]
noncomputable abbrev r14_19 : List RO := [
  ⟨.l 84, .mv, [.v 8], none⟩,
  ⟨.l 85, .mv, [.v 9], none⟩,
  ⟨.l 86, (.lkp .str false (.bool false)), [.l 84, .l 85], none⟩,
  ⟨.l 87, .mv, [.l 86], none⟩,
  ⟨.l 88, .mv, [.v 3], (some (.l 87, false))⟩,
  ⟨.l 89, .mv, [.v 9], (some (.l 87, false))⟩,
  ⟨.l 90, (.lkp .str false (.bool false)), [.l 88, .l 89], (some (.l 87, false))⟩,
  ⟨.l 91, .un .not, [.l 90], (some (.l 87, false))⟩,
  ⟨.v 24, .pick, [.l 87, .con (.bool true), .l 91], none⟩]
noncomputable abbrev r14_20 : List RO := [
  ⟨.v 2, .mv, [.con (.bool false)], none⟩]
noncomputable abbrev r14_21 : List RO := [
  ⟨.l 93, .mv, [.v 8], none⟩,
  ⟨.l 94, .mv, [.v 9], none⟩,
  ⟨.none, .mpu .str, [.l 93, .l 94, .con (.bool true)], none⟩]
noncomputable abbrev r14_22 : List RO := [
  ⟨.l 95, .bin .add, [.v 22, .con (.int .i64 1)], none⟩,
  ⟨.v 22, .mv, [.l 95], none⟩]
noncomputable abbrev r14_23 : List RO := [
  ⟨.l 96, .bin .add, [.v 17, .con (.int .i64 1)], none⟩,
  ⟨.v 17, .mv, [.l 96], none⟩]
noncomputable abbrev r14_24 : List RO := [
  ⟨.l 97, .mv, [.v 3], none⟩,
  ⟨.l 98, .fld 0, [.v 4], none⟩,
  ⟨.l 99, .ld false 1, [.l 98], none⟩,
  ⟨.l 100, .fld 1, [.v 4], none⟩,
  ⟨.l 101, .ld false 1, [.l 100], none⟩,
  ⟨.l 102, .un .not, [.l 101], none⟩,
  ⟨.none, .mpu .str, [.l 97, .l 99, .l 102], none⟩]
noncomputable abbrev r14_25 : List RO := [
  ⟨.l 103, .bin .add, [.v 12, .con (.int .i64 1)], none⟩,
  ⟨.v 12, .mv, [.l 103], none⟩]
noncomputable abbrev r14_26 : List RO := [
  ⟨.l 104, .fld 0, [.v 1], none⟩,
  ⟨.l 105, .ld false 1, [.l 104], none⟩,
  ⟨.l 106, .lenL, [.l 105], none⟩,
  ⟨.l 107, .bin .leq, [.l 106, .con (.int .i64 60)], none⟩,
  ⟨.v 2, .mv, [.l 107], none⟩]
theorem pe14 {n m : Nat} : (E14 n m).M = M := by unfold E14; rfl
theorem ie14 {n m : Nat} {hp : Hp} {a0 : D} : St.init (E14 n m) [a0] hp = ⟨[a0, .u0, .u0, .u0, .u0, .u0, .u0, .u0, .u0, .u0, .u0, .u0, .u0, .u0, .u0, .u0, .u0, .u0, .u0, .u0, .u0, .u0, .u0, .u0, .u0], [], hp⟩ := by unfold E14; rfl
noncomputable def c14 : RC := (.seq (.reg r14_0) (.seq (.reg r14_1) (.seq (.seq (.reg r14_2) (.block 0 (.loop (.seq (.reg r14_3) (.seq (.cond (.v 13) .skip (.exit 0)) (.seq (.block 1 (.seq (.reg r14_4) (.seq (.seq (.reg r14_5) (.seq (.reg r14_6) (.cond (.v 14) (.seq (.reg r14_7) .ret) .skip))) (.seq (.reg r14_8) (.seq (.seq (.reg r14_9) (.block 2 (.loop (.seq (.reg r14_10) (.seq (.cond (.v 18) .skip (.exit 2)) (.seq (.block 3 (.seq (.reg r14_11) (.seq (.seq (.reg r14_12) (.cond (.v 19) (.seq (.reg r14_13) .ret) .skip)) (.seq (.reg r14_14) (.seq (.reg r14_15) (.seq (.reg r14_16) (.block 4 (.loop (.seq (.reg r14_17) (.seq (.cond (.v 23) .skip (.exit 4)) (.seq (.block 5 (.seq (.reg r14_18) (.seq (.seq (.reg r14_19) (.cond (.v 24) (.seq (.reg r14_20) .ret) .skip)) (.reg r14_21)))) (.reg r14_22)))))))))))) (.reg r14_23))))))) (.reg r14_24)))))) (.reg r14_25))))))) (.seq (.reg r14_26) .ret))))
noncomputable def q14 : List RR := [(.slot (.v 2))]
theorem k14 : FnOk M 14 1 Tryz.f14 E14 c14 q14 := fnOk Tryz.func14
noncomputable def E6 (n m : Nat) : Cfg := ⟨M, [0, 1, 2, 3, 4, 5, 6, 8, 9, 10, 11, 26, 31, 32, 33, 34, 49, 52, 90], 94, n, m, []⟩
noncomputable abbrev r6_0 : List RO := [
  ⟨.v 2, .box, [.v 0], none⟩,
  ⟨.v 3, .box, [.v 1], none⟩,
  ⟨.v 4, .mv, [.con (.bool false)], none⟩]
noncomputable abbrev r6_1 : List RO := [
  ⟨.l 12, .ld true 1, [.v 2], none⟩,
  ⟨.l 13, .call, [(.con (.fn (.func 14) [] [])), .l 12], none⟩,
  ⟨.l 14, .un .not, [.l 13], none⟩,
  ⟨.l 15, .mv, [.l 14], none⟩,
  ⟨.l 16, .fld 0, [.v 3], (some (.l 15, false))⟩,
  ⟨.l 17, .ld false 1, [.l 16], (some (.l 15, false))⟩,
  ⟨.l 18, .lenL, [.l 17], (some (.l 15, false))⟩,
  ⟨.l 19, .bin .gtr, [.l 18, .con (.int .i64 20000)], (some (.l 15, false))⟩,
  ⟨.l 20, .pick, [.l 15, .con (.bool true), .l 19], none⟩,
  ⟨.l 21, .mv, [.l 20], none⟩,
  ⟨.l 22, .fld 0, [.v 3], (some (.l 21, false))⟩,
  ⟨.l 23, .ld false 1, [.l 22], (some (.l 21, false))⟩,
  ⟨.l 24, .call, [(.con (.fn (.func 15) [] [])), .l 23, (.con (.fn (.func 16) [] []))], (some (.l 21, false))⟩,
  ⟨.l 25, .un .not, [.l 24], (some (.l 21, false))⟩,
  ⟨.v 11, .pick, [.l 21, .con (.bool true), .l 25], none⟩]
noncomputable abbrev r6_2 : List RO := [
  ⟨.v 4, .mv, [.con (.bool false)], none⟩]
noncomputable abbrev r6_3 : List RO := [
  ⟨.l 27, .ld true 1, [.v 3], none⟩,
  ⟨.l 28, .call, [(.con (.fn (.func 17) [] [])), .l 27], none⟩,
  ⟨.v 5, (.newb [(.lit (.slice none 0 0)), (.lit (.map none))]), [], none⟩,
  ⟨.none, .st 2, [.v 5, .l 28], none⟩]
noncomputable abbrev r6_4 : List RO := [
  ⟨.l 29, .newM, [], none⟩,
  ⟨.v 6, .mv, [.l 29], none⟩]
noncomputable abbrev r6_5 : List RO := [
  ⟨.l 30, .fld 0, [.v 3], none⟩,
  ⟨.v 12, .ld false 1, [.l 30], none⟩,
  ⟨.v 13, .lenL, [.v 12], none⟩,
  ⟨.v 14, .mv, [.con (.int .i64 0)], none⟩]
noncomputable abbrev r6_6 : List RO := [
  ⟨.v 15, .bin .lss, [.v 14, .v 13], none⟩]
noncomputable abbrev r6_7 : List RO := [
  ⟨.l 35, .ixaS 14, [.v 12, .v 14], none⟩,
  ⟨.l 36, .ld true 14, [.l 35], none⟩,
  ⟨.v 7, (.newb [(.str []), (.str []), (.str []), (.str []), (.int .i64 0), (.int .i64 0), (.bool false), (.lit (.slice none 0 0)), (.int .i64 0), (.int .i64 0), (.int .i64 0), (.int .i64 0), (.int .i64 0), (.int .i64 0)]), [], none⟩,
  ⟨.none, .st 14, [.v 7, .l 36], none⟩]
noncomputable abbrev r6_8 : List RO := [
  ⟨.l 37, .ld true 1, [.v 2], none⟩,
  ⟨.l 38, .ld true 14, [.v 7], none⟩,
  ⟨.l 39, .call, [(.con (.fn (.func 18) [] [])), .l 37, .l 38], none⟩,
  ⟨.l 40, .un .not, [.l 39], none⟩,
  ⟨.l 41, .mv, [.l 40], none⟩,
  ⟨.l 42, .fld 2, [.v 7], (some (.l 41, false))⟩,
  ⟨.l 43, .ld false 1, [.l 42], (some (.l 41, false))⟩,
  ⟨.l 44, .bin .eql, [.l 43, (.con (.str []))], (some (.l 41, false))⟩,
  ⟨.l 45, .fld 3, [.v 7], (some (.l 41, false))⟩,
  ⟨.l 46, .ld false 1, [.l 45], (some (.l 41, false))⟩,
  ⟨.l 47, .bin .eql, [.l 46, (.con (.str []))], (some (.l 41, false))⟩,
  ⟨.l 48, .eqB true, [.l 44, .l 47], (some (.l 41, false))⟩,
  ⟨.v 16, .pick, [.l 41, .con (.bool true), .l 48], none⟩]
noncomputable abbrev r6_9 : List RO := [
  ⟨.v 4, .mv, [.con (.bool false)], none⟩]
noncomputable abbrev r6_10 : List RO := [
  ⟨.l 50, .fld 2, [.v 7], none⟩,
  ⟨.l 51, .ld false 1, [.l 50], none⟩,
  ⟨.v 17, .bin .eql, [.l 51, (.con (.str []))], none⟩]
noncomputable abbrev r6_11 : List RO := [
  ⟨.l 54, .ld true 2, [.v 5], none⟩,
  ⟨.l 55, .fld 2, [.v 7], none⟩,
  ⟨.l 56, .ld false 1, [.l 55], none⟩,
  ⟨.l 57, .call, [(.con (.fn (.func 19) [] [])), .l 54, .l 56], none⟩,
  ⟨.l 53, .mv, [.l 57], none⟩,
  ⟨.l 58, .ext 0, [.l 53], none⟩,
  ⟨.l 59, .ext 1, [.l 53], none⟩,
  ⟨.v 8, (.newb [(.str []), (.str []), (.str []), (.str []), (.int .i64 0), (.int .i64 0), (.bool false), (.lit (.slice none 0 0)), (.int .i64 0), (.int .i64 0), (.int .i64 0), (.int .i64 0), (.int .i64 0), (.int .i64 0)]), [], none⟩,
  ⟨.none, .st 14, [.v 8, .l 58], none⟩,
  ⟨.v 9, .mv, [.l 59], none⟩]
noncomputable abbrev r6_12 : List RO := [
  ⟨.l 60, .fld 2, [.v 7], none⟩,
  ⟨.l 61, .ld false 1, [.l 60], none⟩,
  ⟨.l 62, .fld 3, [.v 7], none⟩,
  ⟨.l 63, .ld false 1, [.l 62], none⟩,
  ⟨.l 64, (.bld [(.str []), (.str [])] [(0, 1), (1, 1)]), [.l 61, .l 63], none⟩,
  ⟨.v 10, (.newb [(.str []), (.str [])]), [], none⟩,
  ⟨.none, .st 2, [.v 10, .l 64], none⟩]
noncomputable abbrev r6_13 : List RO := [
  ⟨.l 65, .mv, [.v 9], none⟩,
  ⟨.l 66, .un .not, [.l 65], none⟩,
  ⟨.l 67, .mv, [.l 66], none⟩,
  ⟨.l 68, .fld 6, [.v 7], (some (.l 67, false))⟩,
  ⟨.l 69, .ld false 1, [.l 68], (some (.l 67, false))⟩,
  ⟨.l 70, .pick, [.l 67, .con (.bool true), .l 69], none⟩,
  ⟨.l 71, .mv, [.l 70], none⟩,
  ⟨.l 72, .fld 6, [.v 8], (some (.l 71, false))⟩,
  ⟨.l 73, .ld false 1, [.l 72], (some (.l 71, false))⟩,
  ⟨.l 74, .pick, [.l 71, .con (.bool true), .l 73], none⟩,
  ⟨.l 75, .mv, [.l 74], none⟩,
  ⟨.l 76, .mv, [.v 6], (some (.l 75, false))⟩,
  ⟨.l 77, .ld true 2, [.v 10], (some (.l 75, false))⟩,
  ⟨.l 78, (.lkp (.st [.str, .str]) false (.bool false)), [.l 76, .l 77], (some (.l 75, false))⟩,
  ⟨.l 79, .pick, [.l 75, .con (.bool true), .l 78], none⟩,
  ⟨.l 80, .mv, [.l 79], none⟩,
  ⟨.l 81, .ld true 1, [.v 2], (some (.l 80, false))⟩,
  ⟨.l 82, .fld 1, [.v 8], (some (.l 80, false))⟩,
  ⟨.l 83, .ld false 1, [.l 82], (some (.l 80, false))⟩,
  ⟨.l 84, .fld 3, [.v 7], (some (.l 80, false))⟩,
  ⟨.l 85, .ld false 1, [.l 84], (some (.l 80, false))⟩,
  ⟨.l 86, .fld 1, [.v 7], (some (.l 80, false))⟩,
  ⟨.l 87, .ld false 1, [.l 86], (some (.l 80, false))⟩,
  ⟨.l 88, .call, [(.con (.fn (.func 20) [] [])), .l 81, .l 83, .l 85, .l 87], (some (.l 80, false))⟩,
  ⟨.l 89, .un .not, [.l 88], (some (.l 80, false))⟩,
  ⟨.v 18, .pick, [.l 80, .con (.bool true), .l 89], none⟩]
noncomputable abbrev r6_14 : List RO := [
  ⟨.v 4, .mv, [.con (.bool false)], none⟩]
noncomputable abbrev r6_15 : List RO := [
  ⟨.l 91, .mv, [.v 6], none⟩,
  ⟨.l 92, .ld true 2, [.v 10], none⟩,
  ⟨.none, (.mpu (.st [.str, .str])), [.l 91, .l 92, .con (.bool true)], none⟩]
noncomputable abbrev r6_16 : List RO := [
  ⟨.l 93, .bin .add, [.v 14, .con (.int .i64 1)], none⟩,
  ⟨.v 14, .mv, [.l 93], none⟩]
noncomputable abbrev r6_17 : List RO := [
  ⟨.v 4, .mv, [.con (.bool true)], none⟩]
theorem pe6 {n m : Nat} : (E6 n m).M = M := by unfold E6; rfl
theorem ie6 {n m : Nat} {hp : Hp} {a0 a1 : D} : St.init (E6 n m) [a0, a1] hp = ⟨[a0, a1, .u0, .u0, .u0, .u0, .u0, .u0, .u0, .u0, .u0, .u0, .u0, .u0, .u0, .u0, .u0, .u0, .u0], [], hp⟩ := by unfold E6; rfl
noncomputable def c6 : RC := (.seq (.reg r6_0) (.seq (.seq (.reg r6_1) (.cond (.v 11) (.seq (.reg r6_2) .ret) .skip)) (.seq (.reg r6_3) (.seq (.reg r6_4) (.seq (.seq (.reg r6_5) (.block 0 (.loop (.seq (.reg r6_6) (.seq (.cond (.v 15) .skip (.exit 0)) (.seq (.block 1 (.seq (.reg r6_7) (.seq (.seq (.reg r6_8) (.cond (.v 16) (.seq (.reg r6_9) .ret) .skip)) (.seq (.seq (.reg r6_10) (.cond (.v 17) (.exit 1) .skip)) (.seq (.reg r6_11) (.seq (.reg r6_12) (.seq (.seq (.reg r6_13) (.cond (.v 18) (.seq (.reg r6_14) .ret) .skip)) (.reg r6_15)))))))) (.reg r6_16))))))) (.seq (.reg r6_17) .ret))))))
noncomputable def q6 : List RR := [(.slot (.v 4))]
theorem k6 : FnOk M 6 2 Tryz.f6 E6 c6 q6 := fnOk Tryz.func6
noncomputable def E3 (n m : Nat) : Cfg := ⟨M, [0, 1, 2, 3, 4, 5, 6, 7, 10, 11, 12, 13, 14, 15, 16, 17, 18, 19, 37, 46, 61, 81, 93], 114, n, m, []⟩
noncomputable def C3 : Cfg := E3 0 0
noncomputable abbrev r3_0 : List RO := [
  ⟨.v 5, .box, [.v 0], none⟩,
  ⟨.v 6, .box, [.v 1], none⟩,
  ⟨.v 7, .box, [.v 2], none⟩,
  ⟨.v 8, .mv, [.con (.bool false)], none⟩]
noncomputable abbrev r3_1 : List RO := [
  ⟨.l 20, .call, [(.con (.fn (.func 4) [] []))], none⟩,
  ⟨.v 9, .mv, [.l 20], none⟩]
noncomputable abbrev r3_2 : List RO := [
  ⟨.l 21, .ld true 1, [.v 6], none⟩,
  ⟨.l 22, .ld true 6, [.v 7], none⟩,
  ⟨.l 23, .mv, [.v 3], none⟩,
  ⟨.l 24, .call, [(.con (.fn (.func 5) [] [])), .l 21, .l 22, .l 23], none⟩,
  ⟨.l 25, .un .not, [.l 24], none⟩,
  ⟨.l 26, .mv, [.l 25], none⟩,
  ⟨.l 27, .fld 0, [.v 5], (some (.l 26, false))⟩,
  ⟨.l 28, .ld false 1, [.l 27], (some (.l 26, false))⟩,
  ⟨.l 29, .lenL, [.l 28], (some (.l 26, false))⟩,
  ⟨.l 30, .bin .gtr, [.l 29, .con (.int .i64 60)], (some (.l 26, false))⟩,
  ⟨.l 31, .pick, [.l 26, .con (.bool true), .l 30], none⟩,
  ⟨.l 32, .mv, [.l 31], none⟩,
  ⟨.l 33, .ld true 1, [.v 5], (some (.l 32, false))⟩,
  ⟨.l 34, .ld true 1, [.v 6], (some (.l 32, false))⟩,
  ⟨.l 35, .call, [(.con (.fn (.func 6) [] [])), .l 33, .l 34], (some (.l 32, false))⟩,
  ⟨.l 36, .un .not, [.l 35], (some (.l 32, false))⟩,
  ⟨.v 18, .pick, [.l 32, .con (.bool true), .l 36], none⟩]
noncomputable abbrev r3_3 : List RO := [
  ⟨.l 38, .mv, [.v 9], none⟩,
  ⟨.v 8, .mv, [.l 38], none⟩]
noncomputable abbrev r3_4 : List RO := [
  ⟨.l 39, .ld true 1, [.v 6], none⟩,
  ⟨.l 40, .mv, [.v 3], none⟩,
  ⟨.l 41, .call, [(.con (.fn (.func 7) [] [])), .l 39, .l 40], none⟩,
  ⟨.v 10, .mv, [.l 41], none⟩]
noncomputable abbrev r3_5 : List RO := [
  ⟨.v 11, (.newb [(.lit (.slice none 0 0))]), [], none⟩]
noncomputable abbrev r3_6 : List RO := [
  ⟨.v 12, .mv, [.con (.int .i64 0)], none⟩]
noncomputable abbrev r3_7 : List RO := [
  ⟨.l 42, .mv, [.v 12], none⟩,
  ⟨.l 43, .fld 0, [.v 6], none⟩,
  ⟨.l 44, .ld false 1, [.l 43], none⟩,
  ⟨.l 45, .lenL, [.l 44], none⟩,
  ⟨.v 19, .bin .lss, [.l 42, .l 45], none⟩]
noncomputable abbrev r3_8 : List RO := [
  ⟨.l 49, .fld 0, [.v 6], none⟩,
  ⟨.l 50, .ld false 1, [.l 49], none⟩,
  ⟨.l 51, .mv, [.v 12], none⟩,
  ⟨.l 52, .ixaS 14, [.l 50, .l 51], none⟩,
  ⟨.l 53, .ld true 14, [.l 52], none⟩,
  ⟨.v 13, (.newb [(.str []), (.str []), (.str []), (.str []), (.int .i64 0), (.int .i64 0), (.bool false), (.lit (.slice none 0 0)), (.int .i64 0), (.int .i64 0), (.int .i64 0), (.int .i64 0), (.int .i64 0), (.int .i64 0)]), [], none⟩,
  ⟨.none, .st 14, [.v 13, .l 53], none⟩]
noncomputable abbrev r3_9 : List RO := [
  ⟨.l 54, .fld 0, [.v 13], none⟩,
  ⟨.l 55, .ld false 1, [.l 54], none⟩,
  ⟨.l 56, .mv, [.v 3], none⟩,
  ⟨.l 57, .bin .eql, [.l 55, .l 56], none⟩,
  ⟨.v 14, .mv, [.l 57], none⟩]
noncomputable abbrev r3_10 : List RO := [
  ⟨.v 15, .mv, [.con (.int .i64 0)], none⟩]
noncomputable abbrev r3_11 : List RO := [
  ⟨.l 58, .mv, [.v 15], none⟩,
  ⟨.l 59, .mv, [.v 10], none⟩,
  ⟨.l 60, .lenL, [.l 59], none⟩,
  ⟨.v 20, .bin .lss, [.l 58, .l 60], none⟩]
noncomputable abbrev r3_12 : List (RO × Bool) := [
  (⟨.l 64, .mv, [.v 14], none⟩, true),
  (⟨.l 65, .mv, [.l 64], none⟩, true),
  (⟨.l 66, .mv, [.v 10], (some (.l 65, false))⟩, true),
  (⟨.l 67, .mv, [.v 15], (some (.l 65, false))⟩, true),
  (⟨.l 68, .ixaS 1, [.l 66, .l 67], (some (.l 65, false))⟩, true),
  (⟨.l 69, .ld false 1, [.l 68], (some (.l 65, false))⟩, true),
  (⟨.l 70, .fld 0, [.v 13], (some (.l 65, false))⟩, true),
  (⟨.l 71, .ld false 1, [.l 70], (some (.l 65, false))⟩, true)]
noncomputable abbrev r3_13 : List RO := [
  ⟨.l 72, .bin .eql, [.l 69, .l 71], (some (.l 65, false))⟩,
  ⟨.l 73, .pick, [.l 65, .con (.bool true), .l 72], none⟩,
  ⟨.v 14, .mv, [.l 73], none⟩]
noncomputable abbrev r3_14 : List RO := [
  ⟨.l 62, .mv, [.v 15], none⟩,
  ⟨.l 63, .bin .add, [.l 62, .con (.int .i64 1)], none⟩,
  ⟨.v 15, .mv, [.l 63], none⟩]
noncomputable abbrev r3_15 : List RO := [
  ⟨.l 74, .ld true 1, [.v 6], none⟩,
  ⟨.l 75, .fld 0, [.v 13], none⟩,
  ⟨.l 76, .ld false 1, [.l 75], none⟩,
  ⟨.l 77, .call, [(.con (.fn (.func 7) [] [])), .l 74, .l 76], none⟩,
  ⟨.v 16, .mv, [.l 77], none⟩]
noncomputable abbrev r3_16 : List RO := [
  ⟨.v 17, .mv, [.con (.int .i64 0)], none⟩]
noncomputable abbrev r3_17 : List RO := [
  ⟨.l 78, .mv, [.v 17], none⟩,
  ⟨.l 79, .mv, [.v 16], none⟩,
  ⟨.l 80, .lenL, [.l 79], none⟩,
  ⟨.v 21, .bin .lss, [.l 78, .l 80], none⟩]
noncomputable abbrev r3_18 : List RO := [
  ⟨.l 84, .mv, [.v 14], none⟩,
  ⟨.l 85, .mv, [.l 84], none⟩,
  ⟨.l 86, .mv, [.v 16], (some (.l 85, false))⟩,
  ⟨.l 87, .mv, [.v 17], (some (.l 85, false))⟩,
  ⟨.l 88, .ixaS 1, [.l 86, .l 87], (some (.l 85, false))⟩,
  ⟨.l 89, .ld false 1, [.l 88], (some (.l 85, false))⟩,
  ⟨.l 90, .mv, [.v 3], (some (.l 85, false))⟩,
  ⟨.l 91, .bin .eql, [.l 89, .l 90], (some (.l 85, false))⟩,
  ⟨.l 92, .pick, [.l 85, .con (.bool true), .l 91], none⟩,
  ⟨.v 14, .mv, [.l 92], none⟩]
noncomputable abbrev r3_19 : List RO := [
  ⟨.l 82, .mv, [.v 17], none⟩,
  ⟨.l 83, .bin .add, [.l 82, .con (.int .i64 1)], none⟩,
  ⟨.v 17, .mv, [.l 83], none⟩]
noncomputable abbrev r3_20 : List RO := [
  ⟨.v 22, .mv, [.v 14], none⟩]
noncomputable abbrev r3_21 : List RO := [
  ⟨.l 94, .fld 0, [.v 11], none⟩,
  ⟨.l 95, .ld false 1, [.l 94], none⟩,
  ⟨.l 96, .ld true 14, [.v 13], none⟩,
  ⟨.l 97, .bsl 14, [.l 96], none⟩,
  ⟨.l 98, .app 14 160 42, [.l 95, .l 97], none⟩,
  ⟨.l 99, .fld 0, [.v 11], none⟩,
  ⟨.none, .st 1, [.l 99, .l 98], none⟩]
noncomputable abbrev r3_22 : List RO := [
  ⟨.l 47, .mv, [.v 12], none⟩,
  ⟨.l 48, .bin .add, [.l 47, .con (.int .i64 1)], none⟩,
  ⟨.v 12, .mv, [.l 48], none⟩]
noncomputable abbrev r3_23 : List (RO × Bool) := [
  (⟨.l 100, .mv, [.v 9], none⟩, true),
  (⟨.l 101, .mv, [.l 100], none⟩, true),
  (⟨.l 102, .ld true 1, [.v 11], (some (.l 101, true))⟩, true),
  (⟨.l 103, .ld true 6, [.v 7], (some (.l 101, true))⟩, true),
  (⟨.l 104, .mv, [.v 3], (some (.l 101, true))⟩, true),
  (⟨.l 105, .mv, [.v 4], (some (.l 101, true))⟩, true),
  (⟨.l 106, .call, [(.con (.fn (.func 8) [] [])), .l 102, .l 103, .l 104, .l 105], (some (.l 101, true))⟩, true),
  (⟨.l 107, .ld true 1, [.v 6], (some (.l 101, true))⟩, true),
  (⟨.l 108, .ld true 6, [.v 7], (some (.l 101, true))⟩, true),
  (⟨.l 109, .mv, [.v 3], (some (.l 101, true))⟩, true),
  (⟨.l 110, .mv, [.v 4], (some (.l 101, true))⟩, true)]
noncomputable abbrev r3_24 : List RO := [
  ⟨.l 111, .call, [(.con (.fn (.func 8) [] [])), .l 107, .l 108, .l 109, .l 110], (some (.l 101, true))⟩,
  ⟨.l 112, .bin .eql, [.l 106, .l 111], (some (.l 101, true))⟩,
  ⟨.l 113, .pick, [.l 101, .l 112, .con (.bool false)], none⟩,
  ⟨.v 8, .mv, [.l 113], none⟩]
theorem P3 : C3.M = M := by unfold C3 E3; rfl
theorem i3 {a0 a1 a2 a3 a4 : D} : St.init C3 [a0, a1, a2, a3, a4] ⟨[], []⟩ = ⟨[a0, a1, a2, a3, a4, .u0, .u0, .u0, .u0, .u0, .u0, .u0, .u0, .u0, .u0, .u0, .u0, .u0, .u0, .u0, .u0, .u0, .u0], [], ⟨[], []⟩⟩ := by unfold C3 E3; rfl
noncomputable def c3 : RC := (.seq (.reg r3_0) (.seq (.reg r3_1) (.seq (.seq (.reg r3_2) (.cond (.v 18) (.seq (.reg r3_3) .ret) .skip)) (.seq (.reg r3_4) (.seq (.reg r3_5) (.seq (.seq (.reg r3_6) (.block 0 (.loop (.seq (.seq (.reg r3_7) (.cond (.v 19) .skip (.exit 0))) (.seq (.block 1 (.seq (.reg r3_8) (.seq (.reg r3_9) (.seq (.seq (.reg r3_10) (.block 2 (.loop (.seq (.seq (.reg r3_11) (.cond (.v 20) .skip (.exit 2))) (.seq (.block 3 (.regD r3_12 r3_13)) (.reg r3_14)))))) (.seq (.reg r3_15) (.seq (.seq (.reg r3_16) (.block 4 (.loop (.seq (.seq (.reg r3_17) (.cond (.v 21) .skip (.exit 4))) (.seq (.block 5 (.reg r3_18)) (.reg r3_19)))))) (.seq (.reg r3_20) (.cond (.v 22) (.reg r3_21) .skip)))))))) (.reg r3_22)))))) (.seq (.regD r3_23 r3_24) .ret)))))))
noncomputable def q3 : List RR := [(.slot (.v 8))]
theorem k3 : FnOk M 3 5 Tryz.f3 E3 c3 q3 := fnOk Tryz.func3
end Go.Proofs.YtcchbohfcmfmlaaGreat
end
section
set_option linter.unusedSimpArgs false
set_option linter.unusedVariables false
namespace Go.Proofs.YtcchbohfcmfmlaaGreat
open Go GoV
abbrev Tx := List UInt8
inductive X where
  | mk (op : Int) (name value : Tx) (n extra : Int) (kids : List X)
instance : Inhabited X := ⟨.mk 0 [] [] 0 0 []⟩
structure Pt where
  name : Tx
  kind : Tx
  into : Tx
  slot : Tx
  made : Int
  since : Int
  scr : Bool
  props : List (Tx × Tx)
  km : Int × Int
  cy : Int × Int
  dm : Int × Int
instance : Inhabited Pt := ⟨⟨[], [], [], [], 0, 0, false, [], (0, 0), (0, 0), (0, 0)⟩⟩
mutual
def X.nodes : X → Nat
  | .mk _ _ _ _ _ ks => 1 + X.nodesL ks
def X.nodesL : List X → Nat
  | [] => 0
  | k :: ks => k.nodes + X.nodesL ks
end

abbrev lt (a b : Tx) : Bool := Op.bytesLess a b
theorem lt_irr : ∀ a : Tx, lt a a = false
  | [] => rfl
  | a :: x => by
    have h : ¬ a < a := UInt8.lt_irrefl a
    simp [lt, Op.bytesLess, h]
    exact lt_irr x
theorem lt_trans : ∀ {a b c : Tx}, lt a b = true → lt b c = true → lt a c = true
  | _, [], _, h, _ => by simp [lt, Op.bytesLess] at h
  | _, _ :: _, [], _, h => by simp [lt, Op.bytesLess] at h
  | [], _ :: _, _ :: _, _, _ => by simp [lt, Op.bytesLess]
  | a :: x, b :: y, c :: z, h, g => by
    simp only [lt, Op.bytesLess, Bool.or_eq_true, Bool.and_eq_true, decide_eq_true_eq, beq_iff_eq] at h g ⊢
    rcases h with h | ⟨rfl, h⟩ <;> rcases g with g | ⟨rfl, g⟩
    · exact .inl (UInt8.lt_trans h g)
    · exact .inl h
    · exact .inl g
    · exact .inr ⟨rfl, lt_trans h g⟩
theorem lt_tri : ∀ {a b : Tx}, lt a b = false → lt b a = false → a = b
  | [], [], _, _ => rfl
  | [], _ :: _, h, _ => by simp [lt, Op.bytesLess] at h
  | _ :: _, [], _, h => by simp [lt, Op.bytesLess] at h
  | a :: x, b :: y, h, g => by
    simp only [lt, Op.bytesLess, Bool.or_eq_false_iff, Bool.and_eq_false_iff, decide_eq_false_iff_not, beq_eq_false_iff_ne] at h g
    have e : a = b := by
      have h1 := h.1; have h2 := g.1
      exact UInt8.le_antisymm (UInt8.not_lt.1 h2) (UInt8.not_lt.1 h1)
    subst e
    rw [lt_tri (h.2.resolve_left (by simp)) (g.2.resolve_left (by simp))]
def Srt : List Tx → Prop
  | [] => True
  | a :: r => (∀ b ∈ r, lt b a = false) ∧ Srt r
theorem srt_unique : ∀ {l m : List Tx}, Srt l → Srt m → l.Perm m → l = m
  | [], m, _, _, h => (List.Perm.nil_eq h)
  | a :: l, [], _, _, h => absurd h.length_eq (by simp)
  | a :: l, b :: m, h1, h2, h => by
    have e : a = b := by
      have ha : a ∈ b :: m := h.mem_iff.1 (by simp)
      have hb : b ∈ a :: l := h.mem_iff.2 (by simp)
      rcases List.mem_cons.1 ha with q | q
      · exact q
      · rcases List.mem_cons.1 hb with p | p
        · exact p.symm
        · exact lt_tri (h2.1 a q) (h1.1 b p)
    subst e
    rw [srt_unique h1.2 h2.2 (List.Perm.cons_inv h)]
def sink : Nat → List Tx → List Tx
  | 0, L => L
  | j + 1, L => if lt (L.getD (j + 1) []) (L.getD j []) then sink j ((L.set (j + 1) (L.getD j [])).set j (L.getD (j + 1) [])) else L
def zDc (L : List Tx) : Nat → List Tx
  | 0 => L
  | i + 1 => sink (i + 1) (zDc L i)
theorem sink_len : ∀ (j : Nat) (L : List Tx), (sink j L).length = L.length
  | 0, L => rfl
  | j + 1, L => by
    simp only [sink]
    split
    · rw [sink_len j]; simp
    · rfl
theorem isortN_len (L : List Tx) : ∀ i, (zDc L i).length = L.length
  | 0 => rfl
  | i + 1 => by rw [zDc, sink_len, isortN_len L i]
def insB (x : Tx) : List Tx → List Tx
  | [] => [x]
  | y :: ys => if lt x y then x :: y :: ys else y :: insB x ys
def isort : List Tx → List Tx
  | [] => []
  | x :: xs => insB x (isort xs)
theorem insB_perm (x : Tx) : ∀ l, (insB x l).Perm (x :: l)
  | [] => List.Perm.refl _
  | y :: ys => by
    simp only [insB]
    split
    · exact List.Perm.refl _
    · exact ((insB_perm x ys).cons y).trans (List.Perm.swap x y ys)
theorem insB_srt {x : Tx} : ∀ {l}, Srt l → Srt (insB x l)
  | [], _ => ⟨by simp, trivial⟩
  | y :: ys, h => by
    simp only [insB]
    split
    · rename_i hxy
      refine ⟨fun b hb => ?_, h⟩
      rcases List.mem_cons.1 hb with q | q
      · subst q
        cases e : lt b x with
        | false => rfl
        | true => have := lt_trans hxy e; rw [lt_irr] at this; cases this
      · cases e : lt b x with
        | false => rfl
        | true => have h1 := h.1 b q; have := lt_trans e hxy; rw [h1] at this; cases this
    · rename_i hxy
      refine ⟨fun b hb => ?_, insB_srt h.2⟩
      rcases List.mem_cons.1 ((insB_perm x ys).mem_iff.1 hb) with q | q
      · subst q; simpa using hxy
      · exact h.1 b q
theorem zCd : ∀ l, (isort l).Perm l
  | [] => List.Perm.refl _
  | x :: xs => (insB_perm x _).trans ((zCd xs).cons x)
theorem zFz : ∀ l, Srt (isort l)
  | [] => trivial
  | x :: xs => insB_srt (zFz xs)
theorem isort_eq {l m : List Tx} (h : l.Perm m) : isort l = isort m :=
  srt_unique (zFz l) (zFz m) ((zCd l).trans (h.trans (zCd m).symm))
theorem srt_app : ∀ {l m : List Tx}, Srt (l ++ m) ↔ Srt l ∧ Srt m ∧ ∀ a ∈ l, ∀ b ∈ m, lt b a = false
  | [], m => by simp [Srt]
  | x :: l, m => by
    simp only [List.cons_append, Srt, srt_app (l := l) (m := m), List.mem_append, List.mem_cons]
    constructor
    · rintro ⟨h1, h2, h3, h4⟩
      exact ⟨⟨fun b hb => h1 b (.inl hb), h2⟩, h3, fun a ha b hb => by
        rcases ha with q | q
        · subst q; exact h1 b (.inr hb)
        · exact h4 a q b hb⟩
    · rintro ⟨⟨h1, h2⟩, h3, h4⟩
      exact ⟨fun b hb => hb.elim (h1 b) (h4 x (.inl rfl) b), h2, h3, fun a ha b hb => h4 a (.inr ha) b hb⟩
theorem sink_at : ∀ (A : List Tx) (x : Tx) (B : List Tx), Srt A → ∃ A', sink A.length (A ++ x :: B) = A' ++ B ∧ Srt A' ∧ A'.Perm (A ++ [x])
  | A, x, B, h => by
    rcases List.eq_nil_or_concat A with rfl | ⟨A0, y, rfl⟩
    · exact ⟨[x], rfl, ⟨by simp, trivial⟩, List.Perm.refl _⟩
    · rw [List.concat_eq_append] at h ⊢
      have hl : (A0 ++ [y]).length = A0.length + 1 := by simp
      rw [hl]
      have g0 : ((A0 ++ [y]) ++ x :: B).getD A0.length [] = y := by simp [List.getD]
      have g1 : ((A0 ++ [y]) ++ x :: B).getD (A0.length + 1) [] = x := by
        rw [List.getD, List.getElem?_append_right (by simp)]; simp
      simp only [sink, g0, g1]
      obtain ⟨h1, h2, h3⟩ := srt_app.1 h
      by_cases hxy : lt x y = true
      · rw [if_pos hxy]
        have e : ((((A0 ++ [y]) ++ x :: B).set (A0.length + 1) y).set A0.length x) = A0 ++ x :: (y :: B) := by
          rw [List.set_append_right _ _ (by simp)]
          simp
        rw [e]
        have dec : A0.length < (A0 ++ [y]).length := by simp
        obtain ⟨A', q1, q2, q3⟩ := sink_at A0 x (y :: B) h1
        refine ⟨A' ++ [y], by rw [q1]; simp, srt_app.2 ⟨q2, ⟨by simp, trivial⟩, fun a ha b hb => ?_⟩, ?_⟩
        · simp at hb; subst hb
          rcases List.mem_append.1 (q3.mem_iff.1 ha) with p | p
          · exact h3 a p b (by simp)
          · simp at p; subst p
            cases e : lt b a with
            | false => rfl
            | true => have := lt_trans hxy e; rw [lt_irr] at this; cases this
        · refine (q3.append_right [y]).trans ?_
          rw [List.append_assoc, List.append_assoc]
          exact (List.Perm.swap y x []).append_left A0
      · rw [if_neg hxy]
        refine ⟨A0 ++ [y] ++ [x], by simp, srt_app.2 ⟨h, ⟨by simp, trivial⟩, fun a ha b hb => ?_⟩, List.Perm.refl _⟩
        simp at hb; subst hb
        have hxy' : lt b y = false := by simpa using hxy
        rcases List.mem_append.1 ha with p | p
        · cases e : lt b a with
          | false => rfl
          | true =>
            cases e2 : lt y b with
            | true => have := lt_trans e2 e; rw [h3 a p y (by simp)] at this; cases this
            | false =>
              have := lt_tri hxy' e2
              subst this
              rw [h3 a p b (by simp)] at e; cases e
        · simp at p; subst p; exact hxy'
termination_by A => A.length
theorem isortN_spec (L : List Tx) : ∀ i, i < L.length → ∃ A B, zDc L i = A ++ B ∧ A.length = i + 1 ∧ Srt A ∧ B = L.drop (i + 1) ∧ A.Perm (L.take (i + 1))
  | 0, h => by
    cases L with
    | nil => simp at h
    | cons x r => exact ⟨[x], r, rfl, rfl, ⟨by simp, trivial⟩, rfl, List.Perm.refl _⟩
  | i + 1, h => by
    obtain ⟨A, B, h1, h2, h3, h4, h5⟩ := isortN_spec L i (by omega)
    rw [List.drop_eq_getElem_cons h] at h4
    obtain ⟨A', q1, q2, q3⟩ := sink_at A L[i + 1] (L.drop (i + 1 + 1)) h3
    refine ⟨A', _, ?_, ?_, q2, rfl, ?_⟩
    · rw [zDc, h1, h4, show sink (i + 1) = sink A.length by rw [h2]]; exact q1
    · rw [q3.length_eq]; simp [h2]
    · refine q3.trans ?_
      have : L.take (i + 1 + 1) = L.take (i + 1) ++ [L[i + 1]] := by rw [List.take_succ_eq_append_getElem h]
      rw [this]
      exact h5.append_right _
theorem isortN_eq (L : List Tx) : zDc L (L.length - 1) = isort L := by
  rcases Nat.eq_zero_or_pos L.length with h | h
  · have : L = [] := List.eq_nil_of_length_eq_zero h
    subst this; rfl
  · obtain ⟨A, B, h1, h2, h3, h4, h5⟩ := isortN_spec L (L.length - 1) (by omega)
    have e : L.length - 1 + 1 = L.length := by omega
    rw [e] at h4 h5
    simp at h4 h5
    subst h4
    rw [h1, List.append_nil]
    exact srt_unique h3 (zFz L) (h5.trans (zCd L).symm)

def getP (s : List Pt) (name : Tx) : Option Pt := s.find? fun p => p.name == name
def rootN (s : List Pt) : Nat → Tx → Tx
  | 0, _ => []
  | k + 1, part => match getP s part with
    | none => []
    | some p => if p.into = [] then part else rootN s k p.into
def root (s : List Pt) (part : Tx) : Tx := rootN s s.length part
def zB1 (seen : List Tx) : List Pt → List Pt
  | [] => []
  | p :: ps => if seen.contains p.name then zB1 seen ps else p :: zB1 (seen ++ [p.name]) ps
def zBj (s : List Pt) (part : Tx) : List (Tx × Tx) := ((zB1 [] s).filter fun p => !(p.into == []) && !(p.name == part)).map fun p => (p.name, p.into)
def bfs : Nat → List (Tx × Tx) → List Tx → List Tx
  | 0, _, _ => []
  | k + 1, rest, list =>
    if list = [] then [] else
      (rest.filter fun r => list.contains r.2).map (·.1) ++ bfs k (rest.filter fun r => !list.contains r.2) ((rest.filter fun r => list.contains r.2).map (·.1))
def zAk (s : List Pt) (part : Tx) : List Tx :=
  match getP s part with
  | none => []
  | some _ => isort (bfs ((zBj s part).length + 2) (zBj s part) [part])
theorem bfs_perm : ∀ (k : Nat) {r r' : List (Tx × Tx)} {l l' : List Tx}, r.Perm r' → l.Perm l' → (bfs k r l).Perm (bfs k r' l')
  | 0, _, _, _, _, _, _ => List.Perm.refl _
  | k + 1, r, r', l, l', h, g => by
    have hc : ∀ x : Tx, l.contains x = l'.contains x := fun x => by
      rw [Bool.eq_iff_iff]; simp [g.mem_iff]
    have hf : (fun r : Tx × Tx => l.contains r.2) = fun r => l'.contains r.2 := by funext x; exact hc _
    have hf' : (fun r : Tx × Tx => !l.contains r.2) = fun r => !l'.contains r.2 := by funext x; rw [hc]
    simp only [bfs, hf, hf']
    have hn : l = [] ↔ l' = [] := by
      constructor
      · rintro rfl; exact List.Perm.nil_eq g |>.symm
      · rintro rfl; exact List.Perm.eq_nil g
    by_cases e : l = []
    · rw [if_pos e, if_pos (hn.1 e)]
    · rw [if_neg e, if_neg (fun q => e (hn.2 q))]
      exact ((h.filter _).map _).append (bfs_perm k (h.filter _) ((h.filter _).map _))
theorem zE1 {α : Type} (q : α → Bool) : ∀ l : List α, (l.filter q).length + (l.filter fun x => !q x).length = l.length
  | [] => rfl
  | x :: l => by
    have := zE1 q l
    by_cases h : q x = true
    · simp [h]; omega
    · simp [h]; omega
theorem bfs_fuel : ∀ (k m : Nat) (r : List (Tx × Tx)) (l : List Tx), r.length + 2 ≤ k → k ≤ m → bfs k r l = bfs m r l
  | 0, _, r, l, h, _ => by omega
  | k + 1, 0, r, l, _, h => by omega
  | k + 1, m + 1, r, l, h, g => by
    simp only [bfs]
    by_cases e : l = []
    · rw [if_pos e, if_pos e]
    · rw [if_neg e, if_neg e]
      by_cases e2 : (r.filter fun x => l.contains x.2) = []
      · rw [e2]
        simp only [List.map_nil, List.nil_append]
        cases k <;> cases m <;> simp [bfs]
      · have h1 : (r.filter fun x => !l.contains x.2).length < r.length := by
          have h2 : (r.filter fun x => l.contains x.2).length + (r.filter fun x => !l.contains x.2).length = r.length := by
            exact zE1 _ r
          have h3 : 0 < (r.filter fun x => l.contains x.2).length := by
            rcases Nat.eq_zero_or_pos (r.filter fun x => l.contains x.2).length with q | q
            · exact absurd (List.eq_nil_of_length_eq_zero q) e2
            · exact q
          omega
        rw [bfs_fuel k m _ _ (by omega) (by omega)]

def trN (a : Int) : Int := if a = 0 ∨ a = 2 then a else 1
def notT (a : Int) : Int := 2 - trN a
def andT (a b : Int) : Int := if trN b < trN a then trN b else trN a
def orT (a b : Int) : Int := if trN b > trN a then trN b else trN a
def valI (i : Int × Int) : Bool := decide (-1000000000000 ≤ i.1) && decide (i.1 ≤ i.2) && decide (i.2 ≤ 1000000000000)
def overT (i : Int × Int) (n : Int) : Int := if valI i = false ∨ i.2 ≤ n then 0 else if i.1 > n then 2 else 1
def kKm : Tx := [107, 109]
def kCy : Tx := [99, 121, 99, 108, 101, 115]
def kDm : Tx := [100, 97, 109, 97, 103, 101]
def kDays : Tx := [100, 97, 121, 115]
def kAge : Tx := [97, 103, 101]
def zEe (day frm : Int) : Int × Int := if frm ≥ day then (0, 0) else
  (day - (if day - 1000000000000 > frm then day - 1000000000000 else frm), day - (if day - 1000000000000 > frm then day - 1000000000000 else frm))
def lifeV (p : Pt) (cur : Tx) (day : Int) : Option (Int × Int) :=
  if day < 0 ∨ day > 40000 then none
  else if cur = kKm then some p.km else if cur = kCy then some p.cy else if cur = kDm then some p.dm
  else if cur = kDays then some (zEe day p.since) else if cur = kAge then some (zEe day p.made) else none

def find0 (s : List Pt) (name : Tx) : Pt := (getP s name).getD default
def zEd (b : Bool) : Int := if b then 2 else 0
def zAq (s : List Pt) (part kind : Tx) : List Tx := (zAk s part).filter fun m => (find0 s m).kind == kind
def askN (s : List Pt) (day : Int) (op : Int) (name value : Tx) (n extra : Int) (ks : List (Tx → Int)) (part : Tx) : Int :=
  if op = 1 then 2
  else if op = 2 then notT (ks.headD (fun _ => 0) part)
  else if op = 3 then ks.foldl (fun a k => andT a (k part)) 2
  else if op = 4 then ks.foldl (fun a k => orT a (k part)) 0
  else if op = 5 then (match lifeV (find0 s part) name day with | none => 0 | some v => notT (overT v (n + extra)))
  else if op = 6 then (match lifeV (find0 s part) name day with | none => 0 | some v => overT v n)
  else if op = 7 then zEd ((find0 s part).props.contains (name, value))
  else if op = 8 then zEd ((find0 s part).props.any fun x => x.1 == name)
  else if op = 9 then zEd (s.any fun q => q.into == part && q.slot == name && q.kind == value)
  else if op = 10 then (zAq s part name).foldl (fun a m => andT a (ks.headD (fun _ => 0) m)) 2
  else if op = 11 then (zAq s part name).foldl (fun a m => orT a (ks.headD (fun _ => 0) m)) 0
  else zEd (decide (((zAq s part name).length : Int) ≥ n))
mutual
def ask (s : List Pt) (day : Int) : X → Tx → Int
  | .mk op name value n extra ks, part => askN s day op name value n extra (askL s day ks) part
def askL (s : List Pt) (day : Int) : List X → List (Tx → Int)
  | [] => []
  | k :: ks => ask s day k :: askL s day ks
end

def isLet (c : UInt8) : Bool := (decide (97 ≤ c) && decide (c ≤ 122)) || (decide (65 ≤ c) && decide (c ≤ 90))
def isDig (c : UInt8) : Bool := decide (48 ≤ c) && decide (c ≤ 57)
def zC0 (s : Tx) : Bool :=
  (match s with | [] => false | c :: r => isLet c && r.all fun c => isLet c || isDig c || c == 95) && decide (s.length ≤ 24)
def words : List Tx := [[116, 114, 117, 101], [110, 111, 116], [97, 110, 100], [111, 114], [108, 105, 109, 105, 116], [111, 118, 101, 114], [104, 97, 115], [115, 108, 111, 116], [97, 108, 108], [97, 110, 121], [97, 116]]
def numOk (n low : Int) : Bool := decide (n ≥ low) && decide (n ≤ 9999999)
def zB7 (op : Int) (name value : Tx) (n extra : Int) (k : Nat) : Bool :=
  if op = 1 then k == 0 && name == [] && value == [] && n == 0 && extra == 0
  else if op = 2 then k == 1 && name == [] && value == [] && n == 0 && extra == 0
  else if op = 3 ∨ op = 4 then decide (1 < k) && name == [] && value == [] && n == 0 && extra == 0
  else if op = 5 then numOk n 0 && numOk extra 0 && zC0 name && k == 0 && value == []
  else if op = 6 then numOk n 0 && zC0 name && k == 0 && value == [] && extra == 0
  else if op = 7 then !(value == []) && decide (value.length ≤ 200) && !words.contains name && zC0 name && k == 0 && n == 0 && extra == 0
  else if op = 8 then zC0 name && k == 0 && value == [] && n == 0 && extra == 0
  else if op = 9 then zC0 value && zC0 name && k == 0 && n == 0 && extra == 0
  else if op = 10 ∨ op = 11 then zC0 name && k == 1 && value == [] && n == 0 && extra == 0
  else if op = 12 then numOk n 1 && zC0 name && k == 0 && value == [] && extra == 0
  else false
mutual
def well : X → Bool
  | .mk op name value n extra ks => zB7 op name value n extra ks.length && wellL ks
def wellL : List X → Bool
  | [] => true
  | k :: ks => well k && wellL ks
end
def validF (x : X) : Bool := decide (x.nodes ≤ 60) && well x
def zE6 (s : List Pt) (x : X) (part : Tx) (day : Int) : Int :=
  if validF x = false ∨ root s part = [] then 0 else ask s day x part
end Go.Proofs.YtcchbohfcmfmlaaGreat
end
section
set_option linter.unusedSimpArgs false
set_option linter.unusedVariables false
namespace Go.Proofs.YtcchbohfcmfmlaaGreat
open Go GoV
theorem zCg (a : Int) : trN a = 0 ∨ trN a = 1 ∨ trN a = 2 := by unfold trN; split <;> omega
def T3 (a : Int) : Prop := a = 0 ∨ a = 1 ∨ a = 2
theorem trN_of {a : Int} (h : T3 a) : trN a = a := by unfold T3 at h; unfold trN; split <;> omega
theorem zDy (x : X) : 1 ≤ x.nodes := by cases x; simp only [X.nodes]; omega

abbrev neg (a : X) : X := .mk 2 [] [] 0 0 [a]

abbrev lim (cur : Tx) (n extra : Int) : X := .mk 5 cur [] n extra []
def known (cur : Tx) : Bool := cur == kKm || cur == kCy || cur == kDm || cur == kDays || cur == kAge
theorem lifeV_none {p : Pt} {cur : Tx} {day : Int} (h : known cur = false ∨ day < 0 ∨ day > 40000) : lifeV p cur day = none := by
  unfold lifeV
  by_cases hd : day < 0 ∨ day > 40000
  · rw [if_pos hd]
  · rw [if_neg hd]
    have hk : known cur = false := by rcases h with h | h; exact h; exact absurd h hd
    simp only [known, Bool.or_eq_false_iff, beq_eq_false_iff_ne] at hk
    simp [hk.1.1.1.1, hk.1.1.1.2, hk.1.1.2, hk.1.2, hk.2]


def exactI (i : Int × Int) : Bool := decide (i.1 ≥ i.2)
def exactP (p : Pt) : Bool := exactI p.km && exactI p.cy && exactI p.dm
def T2 (a : Int) : Prop := a = 0 ∨ a = 2
theorem t2_t3 {a : Int} (h : T2 a) : T3 a := by unfold T2 at h; unfold T3; omega
theorem t2_not {a : Int} (h : T2 a) : T2 (notT a) := by have := trN_of (t2_t3 h); unfold T2 at *; unfold notT; omega
theorem t2_and {a b : Int} (h : T2 a) (g : T2 b) : T2 (andT a b) := by
  have h1 := trN_of (t2_t3 h); have h2 := trN_of (t2_t3 g); unfold andT; rw [h1, h2]; split <;> assumption
theorem t2_or {a b : Int} (h : T2 a) (g : T2 b) : T2 (orT a b) := by
  have h1 := trN_of (t2_t3 h); have h2 := trN_of (t2_t3 g); unfold orT; rw [h1, h2]; split <;> assumption
theorem t2_truth (b : Bool) : T2 (zEd b) := by unfold T2 zEd; split <;> omega
theorem t2_over {i : Int × Int} (h : exactI i = true) (n : Int) : T2 (overT i n) := by
  simp only [exactI, decide_eq_true_eq] at h
  unfold T2 overT
  split
  · exact .inl rfl
  · rename_i q
    split
    · exact .inr rfl
    · omega
theorem zEh {c : Prop} [Decidable c] {a b : Int} (h : T2 a) (g : T2 b) : T2 (if c then a else b) := by split; exact h; exact g
theorem t2_fold {α : Type} (f : Int → Int → Int) (hf : ∀ {a b}, T2 a → T2 b → T2 (f a b)) (g : α → Int) : ∀ (l : List α) (a : Int), (∀ x ∈ l, T2 (g x)) → T2 a → T2 (l.foldl (fun a k => f a (g k)) a)
  | [], a, _, h => h
  | x :: l, a, hl, h => t2_fold f hf g l _ (fun y hy => hl y (by simp [hy])) (hf h (hl x (by simp)))
theorem exact_since (day frm : Int) : exactI (zEe day frm) = true := by
  unfold zEe exactI
  split <;> simp
theorem exact_find {s : List Pt} (h : ∀ p ∈ s, exactP p = true) (name : Tx) : exactP (find0 s name) = true := by
  unfold find0 getP
  cases e : s.find? fun p => p.name == name with
  | none => rfl
  | some p => exact h p (List.mem_of_find?_eq_some e)
theorem exact_life {p : Pt} (h : exactP p = true) {cur : Tx} {day : Int} {v : Int × Int} (hv : lifeV p cur day = some v) : exactI v = true := by
  simp only [exactP, Bool.and_eq_true] at h
  unfold lifeV at hv
  repeat' split at hv
  all_goals first
    | (cases hv; done)
    | (simp only [Option.some.injEq] at hv; subst hv; first | exact h.1.1 | exact h.1.2 | exact h.2 | exact exact_since _ _)
theorem t2_askN {s : List Pt} (hs : ∀ p ∈ s, exactP p = true) (day op : Int) (name value : Tx) (n extra : Int) {ks : List (Tx → Int)} (hk : ∀ k ∈ ks, ∀ m, T2 (k m)) (part : Tx) : T2 (askN s day op name value n extra ks part) := by
  have h2 : T2 2 := .inr rfl
  have h0 : T2 0 := .inl rfl
  have hd : ∀ m, T2 (ks.headD (fun _ => 0) m) := fun m => by
    cases ks with
    | nil => exact h0
    | cons k ks => exact hk k (by simp) m
  unfold askN
  refine zEh h2 (zEh (t2_not (hd _)) (zEh (t2_fold andT t2_and _ _ _ (fun k h => hk k h _) h2) (zEh (t2_fold orT t2_or _ _ _ (fun k h => hk k h _) h0) (zEh ?_ (zEh ?_ (zEh (t2_truth _) (zEh (t2_truth _) (zEh (t2_truth _)
    (zEh (t2_fold andT t2_and _ _ _ (fun m _ => hd m) h2) (zEh (t2_fold orT t2_or _ _ _ (fun m _ => hd m) h0) (t2_truth _)))))))))))
  · cases e : lifeV (find0 s part) name day with
    | none => exact h0
    | some v => exact t2_not (t2_over (exact_life (exact_find hs part) e) _)
  · cases e : lifeV (find0 s part) name day with
    | none => exact h0
    | some v => exact t2_over (exact_life (exact_find hs part) e) _
mutual
theorem t2_ask {s : List Pt} (hs : ∀ p ∈ s, exactP p = true) (day : Int) : ∀ (x : X) (part : Tx), T2 (ask s day x part)
  | .mk op name value n extra ks, part => by rw [ask]; exact t2_askN hs _ _ _ _ _ _ (t2_askL hs day ks) _
theorem t2_askL {s : List Pt} (hs : ∀ p ∈ s, exactP p = true) (day : Int) : ∀ (ks : List X), ∀ k ∈ askL s day ks, ∀ m, T2 (k m)
  | [], k, h, _ => by simp [askL] at h
  | x :: xs, k, h, m => by
    simp only [askL, List.mem_cons] at h
    rcases h with rfl | h
    · exact t2_ask hs day x m
    · exact t2_askL hs day xs k h m
end

def within (a b : Int × Int) : Bool := valI a && valI b && decide (b.1 ≤ a.1) && decide (a.2 ≤ b.2)
structure Kn (t s : Pt) : Prop where
  name : t.name = s.name
  kind : t.kind = s.kind
  into : t.into = s.into
  slot : t.slot = s.slot
  made : t.made = s.made
  since : t.since = s.since
  props : t.props = s.props
  km : within t.km s.km = true
  cy : within t.cy s.cy = true
  dm : within t.dm s.dm = true
def Le (x y : Int) : Prop := x = 1 ∨ y = x
inductive All2 {α : Type} (R : α → α → Prop) : List α → List α → Prop where
  | nil : All2 R [] []
  | cons {a b : α} {l m : List α} : R a b → All2 R l m → All2 R (a :: l) (b :: m)
theorem All2.length {α : Type} {R : α → α → Prop} {l m : List α} (h : All2 R l m) : l.length = m.length := by
  induction h with
  | nil => rfl
  | cons _ _ ih => simp [ih]
theorem kn_get {t s : List Pt} (h : All2 Kn t s) (name : Tx) : (getP t name = none ∧ getP s name = none) ∨ ∃ p q, getP t name = some p ∧ getP s name = some q ∧ Kn p q := by
  induction h with
  | nil => exact .inl ⟨rfl, rfl⟩
  | @cons a b l m h _ ih =>
    unfold getP at *
    simp only [List.find?, h.name]
    cases b.name == name
    · exact ih
    · exact .inr ⟨a, b, rfl, rfl, h⟩
theorem kn_default : Kn default default := ⟨rfl, rfl, rfl, rfl, rfl, rfl, rfl, rfl, rfl, rfl⟩
theorem kn_find {t s : List Pt} (h : All2 Kn t s) (name : Tx) : Kn (find0 t name) (find0 s name) := by
  unfold find0
  rcases kn_get h name with ⟨h1, h2⟩ | ⟨p, q, h1, h2, h3⟩
  · rw [h1, h2]; exact kn_default
  · rw [h1, h2]; exact h3
theorem kn_firsts {t s : List Pt} (h : All2 Kn t s) : ∀ (seen : List Tx), All2 Kn (zB1 seen t) (zB1 seen s) := by
  induction h with
  | nil => intro _; exact .nil
  | @cons a b l m h _ ih =>
    intro seen
    simp only [zB1, h.name]
    split
    · exact ih _
    · exact .cons h (ih _)
theorem kn_filter {t s : List Pt} (h : All2 Kn t s) (part : Tx) : ((t.filter fun p => !(p.into == []) && !(p.name == part)).map fun p => (p.name, p.into)) = ((s.filter fun p => !(p.into == []) && !(p.name == part)).map fun p => (p.name, p.into)) := by
  induction h with
  | nil => rfl
  | @cons a b l m h _ ih =>
    simp only [List.filter, h.into, h.name]
    split
    · simp only [List.map_cons, h.name, h.into, ih]
    · exact ih
theorem kn_fitted {t s : List Pt} (h : All2 Kn t s) (part : Tx) : zBj t part = zBj s part := kn_filter (kn_firsts h _) part
theorem kn_inside {t s : List Pt} (h : All2 Kn t s) (part : Tx) : zAk t part = zAk s part := by
  unfold zAk
  rw [kn_fitted h]
  rcases kn_get h part with ⟨h1, h2⟩ | ⟨p, q, h1, h2, h3⟩ <;> rw [h1, h2]
theorem kn_kinds {t s : List Pt} (h : All2 Kn t s) (part kind : Tx) : zAq t part kind = zAq s part kind := by
  unfold zAq
  rw [kn_inside h]
  congr 1
  funext m
  rw [(kn_find h m).kind]
theorem le_refl (a : Int) : Le a a := .inr rfl
theorem le_not {a b : Int} (h : Le a b) : Le (notT a) (notT b) := by
  rcases h with rfl | rfl
  · exact .inl rfl
  · exact .inr rfl
theorem le_and {a b c d : Int} (h : Le a b) (g : Le c d) : Le (andT a c) (andT b d) := by
  have h1 := zCg a; have h2 := zCg b; have h3 := zCg c; have h4 := zCg d
  have e : trN 1 = 1 := rfl
  unfold Le andT
  rcases h with rfl | rfl <;> rcases g with rfl | rfl
  · rw [e]; simp
  · rw [e]; repeat' split
    all_goals omega
  · rw [e]; repeat' split
    all_goals omega
  · exact .inr rfl
theorem le_or {a b c d : Int} (h : Le a b) (g : Le c d) : Le (orT a c) (orT b d) := by
  have h1 := zCg a; have h2 := zCg b; have h3 := zCg c; have h4 := zCg d
  have e : trN 1 = 1 := rfl
  unfold Le orT
  rcases h with rfl | rfl <;> rcases g with rfl | rfl
  · rw [e]; simp
  · rw [e]; repeat' split
    all_goals omega
  · rw [e]; repeat' split
    all_goals omega
  · exact .inr rfl
theorem le_over {a b : Int × Int} (h : within a b = true) (n : Int) : Le (overT b n) (overT a n) := by
  simp only [within, Bool.and_eq_true, decide_eq_true_eq] at h
  obtain ⟨⟨⟨h1, h2⟩, h3⟩, h4⟩ := h
  have v1 : a.1 ≤ a.2 := by simp only [valI, Bool.and_eq_true, decide_eq_true_eq] at h1; exact h1.1.2
  have v2 : b.1 ≤ b.2 := by simp only [valI, Bool.and_eq_true, decide_eq_true_eq] at h2; exact h2.1.2
  unfold overT Le
  simp only [h1, h2, Bool.true_eq_false, false_or]
  repeat' split
  all_goals omega
theorem le_fold {α : Type} (f : Int → Int → Int) (hf : ∀ {a b c d}, Le a b → Le c d → Le (f a c) (f b d)) (g g' : α → Int) : ∀ (l : List α) (a b : Int), (∀ x ∈ l, Le (g x) (g' x)) → Le a b → Le (l.foldl (fun a k => f a (g k)) a) (l.foldl (fun a k => f a (g' k)) b)
  | [], a, b, _, h => h
  | x :: l, a, b, hl, h => le_fold f hf g g' l _ _ (fun y hy => hl y (by simp [hy])) (hf h (hl x (by simp)))
theorem le_foldA (f : Int → Int → Int) (hf : ∀ {a b c d}, Le a b → Le c d → Le (f a c) (f b d)) (m : Tx) {l l' : List (Tx → Int)} (h : All2 (fun k k' => ∀ m, Le (k m) (k' m)) l l') : ∀ (a b : Int), Le a b → Le (l.foldl (fun a k => f a (k m)) a) (l'.foldl (fun a k => f a (k m)) b) := by
  induction h with
  | nil => intro a b h; exact h
  | cons h1 _ ih => intro a b h; exact ih _ _ (hf h (h1 m))
theorem zEm {c : Prop} [Decidable c] {a b a' b' : Int} (h : Le a a') (g : Le b b') : Le (if c then a else b) (if c then a' else b') := by split; exact h; exact g
theorem kn_life {t s : Pt} (h : Kn t s) (cur : Tx) (day : Int) : (lifeV t cur day = none ∧ lifeV s cur day = none) ∨ ∃ v u, lifeV t cur day = some v ∧ lifeV s cur day = some u ∧ ∀ n, Le (overT u n) (overT v n) := by
  unfold lifeV
  rw [h.since, h.made]
  repeat' split
  all_goals first
    | exact .inl ⟨rfl, rfl⟩
    | exact .inr ⟨_, _, rfl, rfl, fun n => le_over h.km n⟩
    | exact .inr ⟨_, _, rfl, rfl, fun n => le_over h.cy n⟩
    | exact .inr ⟨_, _, rfl, rfl, fun n => le_over h.dm n⟩
    | exact .inr ⟨_, _, rfl, rfl, fun n => le_refl _⟩
theorem kn_any {t s : List Pt} (h : All2 Kn t s) (part name value : Tx) : (t.any fun q => q.into == part && q.slot == name && q.kind == value) = (s.any fun q => q.into == part && q.slot == name && q.kind == value) := by
  induction h with
  | nil => rfl
  | cons h _ ih => simp only [List.any, h.into, h.slot, h.kind, ih]
theorem le_askN {t s : List Pt} (h : All2 Kn t s) (day op : Int) (name value : Tx) (n extra : Int) {ks ks' : List (Tx → Int)} (hk : All2 (fun k k' => ∀ m, Le (k m) (k' m)) ks ks') (part : Tx) :
    Le (askN s day op name value n extra ks part) (askN t day op name value n extra ks' part) := by
  have hd : ∀ m, Le (ks.headD (fun _ => 0) m) (ks'.headD (fun _ => 0) m) := fun m => by
    cases hk with
    | nil => exact le_refl _
    | cons h _ => exact h m
  have hf := kn_find h part
  unfold askN
  rw [kn_kinds h, kn_any h, hf.props]
  refine zEm (le_refl _) (zEm (le_not (hd _)) (zEm (le_foldA andT le_and _ hk _ _ (le_refl _)) (zEm (le_foldA orT le_or _ hk _ _ (le_refl _)) (zEm ?_ (zEm ?_ (zEm (le_refl _) (zEm (le_refl _) (zEm (le_refl _)
    (zEm (le_fold andT le_and _ _ _ _ _ (fun m _ => hd m) (le_refl _)) (zEm (le_fold orT le_or _ _ _ _ _ (fun m _ => hd m) (le_refl _)) (le_refl _)))))))))))
  · rcases kn_life hf name day with ⟨h1, h2⟩ | ⟨v, u, h1, h2, h3⟩
    · rw [h1, h2]; exact le_refl _
    · rw [h1, h2]; exact le_not (h3 _)
  · rcases kn_life hf name day with ⟨h1, h2⟩ | ⟨v, u, h1, h2, h3⟩
    · rw [h1, h2]; exact le_refl _
    · rw [h1, h2]; exact h3 _
mutual
theorem le_ask {t s : List Pt} (h : All2 Kn t s) (day : Int) : ∀ (x : X) (part : Tx), Le (ask s day x part) (ask t day x part)
  | .mk op name value n extra ks, part => by rw [ask, ask]; exact le_askN h _ _ _ _ _ _ (le_askL h day ks) _
theorem le_askL {t s : List Pt} (h : All2 Kn t s) (day : Int) : ∀ (ks : List X), All2 (fun k k' => ∀ m, Le (k m) (k' m)) (askL s day ks) (askL t day ks)
  | [] => by simp only [askL]; exact .nil
  | x :: xs => by simp only [askL]; exact .cons (fun m => le_ask h day x m) (le_askL h day xs)
end
end Go.Proofs.YtcchbohfcmfmlaaGreat
end
section
set_option maxRecDepth 100000
set_option linter.unusedSimpArgs false
set_option linter.unusedVariables false
namespace Go.Proofs.YtcchbohfcmfmlaaGreat
open Go GoV
def strs (l : List Tx) : List D := l.map .str
def propD (p : Tx × Tx) : D := .agg [.str p.1, .str p.2]
abbrev ivD (i : Int × Int) : D := .agg [.int .i64 i.1, .int .i64 i.2]
@[reducible] def Pt.cells (p : Pt) : List D := [.str p.name, .str p.kind, .str p.into, .str p.slot, .int .i64 p.made, .int .i64 p.since, .bool p.scr, .slice (p.props.map propD) .no,
  .int .i64 p.km.1, .int .i64 p.km.2, .int .i64 p.cy.1, .int .i64 p.cy.2, .int .i64 p.dm.1, .int .i64 p.dm.2]
def ptD (p : Pt) : D := .agg p.cells
abbrev zAy (s : List Pt) : D := .slice (s.map ptD) .no
abbrev zA4 (s : List Pt) : D := .agg [zAy s]
def X.op : X → Int | .mk o _ _ _ _ _ => o
def X.nam : X → Tx | .mk _ o _ _ _ _ => o
def X.val : X → Tx | .mk _ _ o _ _ _ => o
def X.num : X → Int | .mk _ _ _ o _ _ => o
def X.ext : X → Int | .mk _ _ _ _ o _ => o
def X.kids : X → List X | .mk _ _ _ _ _ o => o
mutual
def X.d : X → D
  | .mk op name value n extra ks => .agg [.int .i64 op, .str name, .str value, .int .i64 n, .int .i64 extra, .slice (X.dL ks) .no]
def X.dL : List X → List D
  | [] => []
  | k :: ks => X.d k :: X.dL ks
end
theorem dL_map : ∀ ks : List X, X.dL ks = ks.map X.d
  | [] => rfl
  | k :: ks => by simp [X.dL, dL_map ks]
@[reducible] def X.cells (x : X) : List D := [.int .i64 x.op, .str x.nam, .str x.val, .int .i64 x.num, .int .i64 x.ext, .slice (x.kids.map X.d) .no]
theorem X.d_eq (x : X) : x.d = .agg x.cells := by
  cases x; simp [X.d, X.cells, X.op, X.nam, X.val, X.num, X.ext, X.kids, dL_map]
theorem X.nodes_eq (x : X) : x.nodes = 1 + X.nodesL x.kids := by cases x; simp [X.nodes, X.kids]
theorem nodesL_mem : ∀ {ks : List X} {k : X}, k ∈ ks → k.nodes ≤ X.nodesL ks
  | [], _, h => by simp at h
  | k' :: ks, k, h => by
    simp only [X.nodesL]
    rcases List.mem_cons.1 h with rfl | h
    · omega
    · have := nodesL_mem h; omega
theorem zD0 {x k : X} (h : k ∈ x.kids) : k.nodes < x.nodes := by have := nodesL_mem h; rw [X.nodes_eq x]; omega
theorem nodesL_len : ∀ ks : List X, ks.length ≤ X.nodesL ks
  | [] => by simp
  | k :: ks => by have := nodesL_len ks; have := zDy k; simp only [X.nodesL, List.length_cons]; omega
theorem kids_len (x : X) : x.kids.length < x.nodes := by have := nodesL_len x.kids; rw [X.nodes_eq x]; omega
theorem X.well_eq (x : X) : well x = (zB7 x.op x.nam x.val x.num x.ext x.kids.length && wellL x.kids) := by cases x; rfl
theorem wellL_mem : ∀ {ks : List X}, wellL ks = true → ∀ k ∈ ks, well k = true
  | [], _, k, h => by simp at h
  | k' :: ks, h, k, hk => by
    simp only [wellL, Bool.and_eq_true] at h
    rcases List.mem_cons.1 hk with rfl | hk
    · exact h.1
    · exact wellL_mem h.2 k hk
theorem zDr (l : List Tx) : D.erL (strs l) = strs l := by induction l with | nil => rfl | cons x l ih => simp_all [strs, D.erL, D.er]
theorem zDg (l : List Tx) : D.cL (strs l) = true := by induction l with | nil => rfl | cons x l ih => simp_all [strs, D.cL, D.closed]
theorem tn_p (a : Int) : Pur M 78 [.int .i64 a] (.int .i64 (trN a)) := by
  refine k78.ok (C := C78) rfl rfl ?_
  rw [i78]
  unfold c78
  unfold trN
  by_cases h : a = 0
  · subst h; repeat' (first | with_reducible (apply swq; constructor) | simp only [go_sem, seval, P78, q78] | with_reducible (apply cA; constructor) | ((with_reducible refine And.intro ?hw ?_); (case hw => first | omega | rfl | exact ⟨_, _, rfl⟩ | assumption | (simp only [lN] <;> omega))) | with_reducible intro _)
    all_goals first | omega | (simp_all [D.closed, D.er, D.cL, D.erL]; done) | (simp_all [D.closed, D.er, D.cL, D.erL] <;> omega)
  · by_cases h2 : a = 2
    · subst h2; repeat' (first | with_reducible (apply swq; constructor) | simp only [go_sem, seval, P78, q78] | with_reducible (apply cA; constructor) | ((with_reducible refine And.intro ?hw ?_); (case hw => first | omega | rfl | exact ⟨_, _, rfl⟩ | assumption | (simp only [lN] <;> omega))) | with_reducible intro _)
      all_goals first | omega | (simp_all [D.closed, D.er, D.cL, D.erL]; done) | (simp_all [D.closed, D.er, D.cL, D.erL] <;> omega)
    · repeat' (first | with_reducible (apply swq; constructor) | simp only [go_sem, seval, P78, q78] | with_reducible (apply cA; constructor) | ((with_reducible refine And.intro ?hw ?_); (case hw => first | omega | rfl | exact ⟨_, _, rfl⟩ | assumption | (simp only [lN] <;> omega))) | with_reducible intro _)
      all_goals first | omega | (simp_all [D.closed, D.er, D.cL, D.erL]; done) | (simp_all [D.closed, D.er, D.cL, D.erL] <;> omega)
theorem and_p (a b : Int) : Pur M 45 [.int .i64 a, .int .i64 b] (.int .i64 (andT a b)) := by
  refine k45.ok (C := C45) rfl rfl ?_
  rw [i45]
  unfold c45
  have e : andT a b = if trN b < trN a then trN b else trN a := rfl
  rw [e]
  repeat' (first | with_reducible (apply swq; constructor) | simp only [go_sem, seval, P45, q45, foldI] | ((with_reducible refine zAb (tn_p a) ?he ?hc ?_); (case he | hc => first | rfl | (simp [D.erL, D.er, D.cL, D.closed]; done))) | ((with_reducible refine zAb (tn_p b) ?he ?hc ?_); (case he | hc => first | rfl | (simp [D.erL, D.er, D.cL, D.closed]; done))) | with_reducible (apply cA; constructor) | ((with_reducible refine And.intro ?hw ?_); (case hw => first | omega | rfl | exact ⟨_, _, rfl⟩ | assumption | (simp only [lN] <;> omega))) | with_reducible intro _)
  all_goals first | omega | (simp_all [D.closed, D.er, D.cL, D.erL]; done) | (simp_all [D.closed, D.er, D.cL, D.erL] <;> omega)
theorem or_p (a b : Int) : Pur M 46 [.int .i64 a, .int .i64 b] (.int .i64 (orT a b)) := by
  refine k46.ok (C := C46) rfl rfl ?_
  rw [i46]
  unfold c46
  have e : orT a b = if trN b > trN a then trN b else trN a := rfl
  rw [e]
  repeat' (first | with_reducible (apply swq; constructor) | simp only [go_sem, seval, P46, q46, foldI] | ((with_reducible refine zAb (tn_p a) ?he ?hc ?_); (case he | hc => first | rfl | (simp [D.erL, D.er, D.cL, D.closed]; done))) | ((with_reducible refine zAb (tn_p b) ?he ?hc ?_); (case he | hc => first | rfl | (simp [D.erL, D.er, D.cL, D.closed]; done))) | with_reducible (apply cA; constructor) | ((with_reducible refine And.intro ?hw ?_); (case hw => first | omega | rfl | exact ⟨_, _, rfl⟩ | assumption | (simp only [lN] <;> omega))) | with_reducible intro _)
  all_goals first | omega | (simp_all [D.closed, D.er, D.cL, D.erL]; done) | (simp_all [D.closed, D.er, D.cL, D.erL] <;> omega)
theorem not_p (a : Int) : Pur M 44 [.int .i64 a] (.int .i64 (notT a)) := by
  refine k44.ok (C := C44) rfl rfl ?_
  rw [i44]
  unfold c44
  have e : notT a = 2 - trN a := rfl
  rw [e]
  have h := zCg a
  have c := tn_p a
  generalize trN a = t at *
  repeat' (first | with_reducible (apply swq; constructor) | simp only [go_sem, seval, P44, q44] | simp (disch := omega) only [w64, w32, wu8, wu16, wu32, wu64] | ((with_reducible refine zAb (c) ?he ?hc ?_); (case he | hc => first | rfl | (simp [D.erL, D.er, D.cL, D.closed]; done))) | with_reducible (apply cA; constructor) | ((with_reducible refine And.intro ?hw ?_); (case hw => first | omega | rfl | exact ⟨_, _, rfl⟩ | assumption | (simp only [lN] <;> omega))) | with_reducible intro _)
  all_goals first | omega | (simp_all [D.closed, D.er, D.cL, D.erL]; done) | (simp_all [D.closed, D.er, D.cL, D.erL] <;> omega)
theorem valid_p (i : Int × Int) : Pur M 80 [ivD i] (.bool (valI i)) := by
  refine k80.ok (C := C80) rfl rfl ?_
  rw [i80]
  unfold c80
  have e : valI i = (decide (-1000000000000 ≤ i.1) && decide (i.1 ≤ i.2) && decide (i.2 ≤ 1000000000000)) := rfl
  rw [e]
  repeat' (first | with_reducible (apply swq; constructor) | simp only [go_sem, seval, P80, q80] | (with_reducible first | (apply cA; constructor) | (apply gA; constructor)) | ((with_reducible refine And.intro ?hw ?_); (case hw => first | omega | rfl | exact ⟨_, _, rfl⟩ | assumption | (simp only [lN] <;> omega))) | with_reducible intro _)
  all_goals first | omega | (simp_all [D.closed, D.er, D.cL, D.erL]; done) | (simp_all [D.closed, D.er, D.cL, D.erL] <;> omega)
theorem over_p (i : Int × Int) (n : Int) : Pur M 48 [ivD i, .int .i64 n] (.int .i64 (overT i n)) := by
  refine k48.ok (C := C48) rfl rfl ?_
  rw [i48]
  unfold c48
  have e : overT i n = if valI i = false ∨ i.2 ≤ n then 0 else if i.1 > n then 2 else 1 := rfl
  rw [e]
  have c := valid_p i
  cases h : valI i
  · rw [h] at c
    repeat' (first | with_reducible (apply swq; constructor) | simp only [go_sem, seval, P48, q48] | ((with_reducible refine zAb (c) ?he ?hc ?_); (case he | hc => first | rfl | (simp [D.erL, D.er, D.cL, D.closed]; done))) | (with_reducible first | (apply cA; constructor) | (apply gA; constructor)) | ((with_reducible refine And.intro ?hw ?_); (case hw => first | omega | rfl | exact ⟨_, _, rfl⟩ | assumption | (simp only [lN] <;> omega))) | with_reducible intro _)
    all_goals first | omega | (simp_all [D.closed, D.er, D.cL, D.erL]; done) | (simp_all [D.closed, D.er, D.cL, D.erL] <;> omega)
  · rw [h] at c
    repeat' (first | with_reducible (apply swq; constructor) | simp only [go_sem, seval, P48, q48] | ((with_reducible refine zAb (c) ?he ?hc ?_); (case he | hc => first | rfl | (simp [D.erL, D.er, D.cL, D.closed]; done))) | (with_reducible first | (apply cA; constructor) | (apply gA; constructor)) | ((with_reducible refine And.intro ?hw ?_); (case hw => first | omega | rfl | exact ⟨_, _, rfl⟩ | assumption | (simp only [lN] <;> omega))) | with_reducible intro _)
    all_goals first | omega | (simp_all [D.closed, D.er, D.cL, D.erL]; done) | (simp [D.closed, D.er, D.cL, D.erL]; omega)
theorem tr_p (b : Bool) : Pur M 49 [.bool b] (.int .i64 (zEd b)) := by
  refine k49.ok (C := C49) rfl rfl ?_
  rw [i49]
  unfold c49
  have e : zEd b = if b then 2 else 0 := rfl
  rw [e]
  repeat' (first | with_reducible (apply swq; constructor) | simp only [go_sem, seval, P49, q49] | with_reducible (apply cA; constructor) | ((with_reducible refine And.intro ?hw ?_); (case hw => first | omega | rfl | exact ⟨_, _, rfl⟩ | assumption | (simp only [lN] <;> omega))) | with_reducible intro _)
  all_goals first | omega | (simp_all [D.closed, D.er, D.cL, D.erL]; done) | (simp_all [D.closed, D.er, D.cL, D.erL] <;> omega)
theorem num_p (n low : Int) : Pur M 76 [.int .i64 n, .int .i64 low] (.bool (numOk n low)) := by
  refine k76.ok (C := C76) rfl rfl ?_
  rw [i76]
  unfold c76
  have e : numOk n low = (decide (n ≥ low) && decide (n ≤ 9999999)) := rfl
  rw [e]
  repeat' (first | with_reducible (apply swq; constructor) | simp only [go_sem, seval, P76, q76] | (with_reducible first | (apply cA; constructor) | (apply gA; constructor)) | ((with_reducible refine And.intro ?hw ?_); (case hw => first | omega | rfl | exact ⟨_, _, rfl⟩ | assumption | (simp only [lN] <;> omega))) | with_reducible intro _)
  all_goals first | omega | (simp_all [D.closed, D.er, D.cL, D.erL]; done) | (simp_all [D.closed, D.er, D.cL, D.erL] <;> omega)
theorem limit_p (n extra : Int) : Pur M 11 [.int .i64 n, .int .i64 extra] (X.d (lim kKm n extra)) := by
  refine pur_res (d := .agg [.int .i64 5, .str [107, 109], .str [], .int .i64 n, .int .i64 extra, .lit (.slice none 0 0)]) (k11.ok (C := C11) rfl rfl ?_) (by simp [D.nn, D.nnL, X.d, X.dL, kKm])
  rw [i11]
  unfold c11
  repeat' (first | with_reducible (apply swq; constructor) | simp only [go_sem, seval, P11, q11, fillL] | with_reducible (apply cA; constructor) | ((with_reducible refine And.intro ?hw ?_); (case hw => first | omega | rfl | exact ⟨_, _, rfl⟩ | assumption | (simp only [lN] <;> omega))) | with_reducible intro _)
  all_goals first | omega | (simp_all [D.closed, D.er, D.cL, D.erL, X.d, X.dL, kKm]; done) | skip
mutual
theorem cl_X : ∀ x : X, D.closed x.d = true
  | .mk op name value n extra ks => by simp [X.d, D.closed, D.cL]
theorem cl_XL : ∀ ks : List X, D.cL (X.dL ks) = true
  | [] => rfl
  | k :: ks => by simp [X.dL, D.cL, cl_X k, cl_XL ks]
end
theorem er_X (x : X) : x.d.er = x.d := by cases x; simp [X.d, D.er, D.erL]
theorem erL_X : ∀ ks : List X, D.erL (ks.map X.d) = ks.map X.d
  | [] => rfl
  | k :: ks => by simp [D.erL, er_X k, erL_X ks]
theorem zBg : ∀ ks : List X, D.cL (ks.map X.d) = true
  | [] => rfl
  | k :: ks => by simp [D.cL, cl_X k, zBg ks]
theorem er_P (p : Pt) : (ptD p).er = ptD p := by simp [ptD, D.er, D.erL]
theorem cl_P (p : Pt) : D.closed (ptD p) = true := by simp [ptD, D.closed, D.cL]
theorem erL_P : ∀ l : List Pt, D.erL (l.map ptD) = l.map ptD
  | [] => rfl
  | k :: ks => by simp [D.erL, er_P k, erL_P ks]
end Go.Proofs.YtcchbohfcmfmlaaGreat
end
section
set_option maxRecDepth 100000
set_option linter.unusedSimpArgs false
set_option linter.unusedVariables false
namespace Go.Proofs.YtcchbohfcmfmlaaGreat
open Go GoV Go.RowKit
theorem index_p (s : Tx) (c : UInt8) : Pur M 86 [.str s, .int .u8 c.toNat] (.int .i64 (Lib.indexByte s c)) := by
  refine pur_ext (vs := [.string ⟨s.toArray⟩, .int .u8 c.toNat]) (v := .int .i64 (Lib.indexByte s c)) ⟨Tryz.f86, Tryz.func86, rfl, rfl⟩ (fun w I xs h => ?_) (fun w I => ?_) (fun w hA => ?_)
  · obtain ⟨x, xs', rfl, g1, g2⟩ := h.inv
    obtain ⟨y, ys', rfl, g3, g4⟩ := g2.inv
    simp only [Rel] at g1 g3
    rw [g4.inv_nil, g1, g3]
  · simp [Rel]
  · refine (Tryz.strings_IndexByte ⟨s.toArray⟩ c.toNat w).mono fun e w' hh => ?_
    obtain ⟨rfl, rfl⟩ := hh
    refine ⟨?_, Below.refl _ _⟩
    have : ((c.toNat : Int).toNat).toUInt8 = c := by simp
    rw [this]
def cls0 (c : Nat) : Int :=
  if (97 ≤ c ∧ c ≤ 122) ∨ (65 ≤ c ∧ c ≤ 90) then 3 else if 48 ≤ c ∧ c ≤ 57 then 4 else if Lib.indexByte [32, 9, 10] (UInt8.ofNat c) ≥ 0 then 1
  else if Lib.indexByte [59, 44, 46, 58, 40, 41, 123, 125, 91, 93, 61, 60, 62, 47, 43, 45, 42] (UInt8.ofNat c) ≥ 0 then 6 else 0
def tblN (i : Nat) : List D := (List.range 256).map fun c => .int .u8 (if c < i then cls0 c else 0)
def tbl : List D := (List.range 256).map fun c => .int .u8 (if c = 35 then 2 else if c = 95 then 5 else if c = 34 then 7 else cls0 c)
theorem zFm (i : Nat) : (tblN i).length = 256 := by simp [tblN]
theorem map_const {α : Type} (v : D) : ∀ l : List α, l.map (fun _ => v) = List.replicate l.length v
  | [] => rfl
  | x :: l => by rw [List.map_cons, map_const v l]; rfl
theorem tblN_zero : zl256 = tblN 0 := by
  unfold zl256 tblN
  have : (fun c : Nat => D.int .u8 (if c < 0 then cls0 c else 0)) = fun _ => D.int .u8 0 := by funext c; simp
  rw [this, map_const, List.length_range]
theorem zl_len : zl256.length = 256 := by rw [tblN_zero, zFm]
theorem tblN_set {i : Nat} (h : i < 256) {v : Int} (hv : v = cls0 i) : setL (tblN i) i [.int .u8 v] = tblN (i + 1) := by
  subst hv
  simp only [setL]
  apply List.ext_getElem?
  intro j
  rw [List.getElem?_set]
  by_cases hj : j < 256
  · by_cases e : i = j
    · subst e
      simp [tblN, h]
    · rw [if_neg e]
      simp only [tblN, List.getElem?_map, List.getElem?_range hj, Option.map_some]
      have : (j < i) ↔ (j < i + 1) := by omega
      simp [this]
  · have h1 : ∀ k, (tblN k)[j]? = none := fun k => List.getElem?_eq_none (by rw [zFm]; omega)
    rw [h1, h1]
    rw [if_neg (by omega)]
theorem tblN_skip {i : Nat} (h : i < 256) (hv : cls0 i = 0) : tblN i = tblN (i + 1) := by
  rw [← tblN_set h rfl, hv]
  simp only [setL]
  apply List.ext_getElem?
  intro j
  rw [List.getElem?_set]
  by_cases e : i = j
  · subst e; simp [tblN, h]
  · rw [if_neg e]
theorem tbl_eq : setL (setL (setL (tblN 256) 35 [.int .u8 2]) 95 [.int .u8 5]) 34 [.int .u8 7] = tbl := by
  simp only [setL]
  apply List.ext_getElem?
  intro j
  simp only [List.getElem?_set, List.length_set, zFm]
  by_cases hj : j < 256
  · simp only [tblN, tbl, List.getElem?_map, List.getElem?_range hj, Option.map_some, hj, if_true]
    by_cases h1 : j = 34
    · subst h1; simp
    · by_cases h2 : j = 95
      · subst h2; simp
      · by_cases h3 : j = 35
        · subst h3; simp
        · simp [h1, h2, h3, show ¬ 34 = j by omega, show ¬ 95 = j by omega, show ¬ 35 = j by omega]
  · have h1 : (tblN 256)[j]? = none := List.getElem?_eq_none (by rw [zFm]; omega)
    have h2 : tbl[j]? = none := List.getElem?_eq_none (by simp [tbl]; omega)
    rw [h1, h2]
    simp [show ¬ 34 = j by omega, show ¬ 95 = j by omega, show ¬ 35 = j by omega]
theorem u8n (n : Nat) (h : n < 256) : ((UInt8.ofNat n).toNat : Int) = n := by simp [UInt8.toNat_ofNat']; omega
theorem cls0_eq (i : Nat) : cls0 i = if (97 ≤ i ∧ i ≤ 122) ∨ (65 ≤ i ∧ i ≤ 90) then 3 else if 48 ≤ i ∧ i ≤ 57 then 4 else if Lib.indexByte [32, 9, 10] (UInt8.ofNat i) ≥ 0 then 1
        else if Lib.indexByte [59, 44, 46, 58, 40, 41, 123, 125, 91, 93, 61, 60, 62, 47, 43, 45, 42] (UInt8.ofNat i) ≥ 0 then 6 else 0 := rfl
theorem tbl_get {c : Nat} (h : c < 256) : tbl.getD c .u0 = .int .u8 (if c = 35 then 2 else if c = 95 then 5 else if c = 34 then 7 else cls0 c) := by simp [tbl, List.getD, h]
theorem tbl_len : tbl.length = 256 := by simp [tbl]
theorem setL_app : ∀ (ds : List D) (cs : List D) (off : Nat), off + ds.length ≤ cs.length → setL cs off ds = cs.take off ++ ds ++ cs.drop (off + ds.length)
  | [], cs, off, h => by simp [setL]
  | d :: ds, cs, off, h => by
    simp only [List.length_cons] at h
    rw [setL, setL_app ds (cs.set off d) (off + 1) (by simp; omega)]
    have e1 : (cs.set off d).take (off + 1) = cs.take off ++ [d] := by
      rw [List.take_set, List.take_succ_eq_append_getElem (by omega), List.set_append_right _ _ (by simp; omega)]
      simp [Nat.min_eq_left (show off ≤ cs.length by omega)]
    have e2 : (cs.set off d).drop (off + 1 + ds.length) = cs.drop (off + (ds.length + 1)) := by
      rw [List.drop_set_of_lt (by omega)]; congr 1; omega
    rw [e1, e2]; simp
theorem setL_full {cs ds : List D} (h : ds.length = cs.length) : setL cs 0 ds = ds := by
  rw [setL_app ds cs 0 (by omega)]; simp [h]
theorem tbl_cl : D.cL tbl = true ∧ D.erL tbl = tbl := by
  unfold tbl
  have : ∀ (f : Nat → Int) (l : List Nat), D.cL (l.map fun c => D.int .u8 (f c)) = true ∧ D.erL (l.map fun c => D.int .u8 (f c)) = l.map fun c => D.int .u8 (f c) := by
    intro f l
    induction l with
    | nil => exact ⟨rfl, rfl⟩
    | cons x l ih => simp only [List.map_cons, D.cL, D.erL, D.closed, D.er, ih.1, ih.2]; exact ⟨rfl, trivial⟩
  exact this _ _
attribute [irreducible] tblN tbl cls0
set_option maxHeartbeats 1000000 in
theorem classes_p : Pur M 57 [] (.agg tbl) := by
  refine k57.ok (C := C57) rfl rfl ?_
  rw [i57]
  unfold c57
  have hz := zl_len
  have ht := tbl_eq
  simp only [setL] at ht
  repeat' (first | with_reducible (apply swq; constructor) | simp only [go_sem, seval, P57, q57] | (with_reducible first | (apply cA; constructor) | (apply gA; constructor)) | ((with_reducible refine And.intro ?hw ?_); (case hw => first | omega | rfl | exact ⟨_, _, rfl⟩ | assumption | (simp only [lN] <;> omega))) | with_reducible intro _)
  refine zAz [0, 1, 4] (fun i : Nat => ⟨[.ptr 0 0, .ptr 1 0, .u0, .u0, .int .i64 i, .u0, .u0, .u0, .u0, .u0], [], ⟨[.cells zl256, .cells (tblN i)], []⟩⟩) (fun i => i ≤ 256) (fun i => 256 - i) 0 (by omega) ?_ ?_
  · simp [keepE, St.keep, tblN_zero]
  · intro i g1
    have hl := zFm i
    by_cases hi : i < 256
    · have hn := u8n i hi
      have x1 := index_p [32, 9, 10] (UInt8.ofNat i)
      have x2 := index_p [59, 44, 46, 58, 40, 41, 123, 125, 91, 93, 61, 60, 62, 47, 43, 45, 42] (UInt8.ofNat i)
      rw [hn] at x1 x2
      have hset := fun v => tblN_set (v := v) hi
      have hskip := tblN_skip hi
      have hc := cls0_eq i
      generalize Lib.indexByte [32, 9, 10] (UInt8.ofNat i) = y1 at *
      generalize Lib.indexByte [59, 44, 46, 58, 40, 41, 123, 125, 91, 93, 61, 60, 62, 47, 43, 45, 42] (UInt8.ofNat i) = y2 at *
      generalize cls0 i = ci at *
      have hcase : (i < 48) ∨ (48 ≤ i ∧ i < 58) ∨ (58 ≤ i ∧ i < 65) ∨ (65 ≤ i ∧ i < 91) ∨ (91 ≤ i ∧ i < 97) ∨ (97 ≤ i ∧ i < 123) ∨ (123 ≤ i) := by omega
      rcases hcase with hq | hq | hq | hq | hq | hq | hq
      · have t0 : decide (97 ≤ (i : Int)) = false := by simp; omega
        have t1 : decide ((i : Int) ≤ 122) = true := by simp; omega
        have t2 : decide (65 ≤ (i : Int)) = false := by simp; omega
        have t3 : decide ((i : Int) ≤ 90) = true := by simp; omega
        have t4 : decide (48 ≤ (i : Int)) = false := by simp; omega
        have t5 : decide ((i : Int) ≤ 57) = true := by simp; omega
        repeat' (first | with_reducible (apply swq; constructor) | simp only [go_sem, seval, P57, q57, hl, t0, t1, t2, t3, t4, t5] | simp (disch := omega) only [w64, w32, wu8, wu16, wu32, wu64] | ((with_reducible refine zAb (x1) ?he ?hc ?_); (case he | hc => first | rfl | (simp [D.erL, D.er, D.cL, D.closed]; done))) | ((with_reducible refine zAb (x2) ?he ?hc ?_); (case he | hc => first | rfl | (simp [D.erL, D.er, D.cL, D.closed]; done))) | (with_reducible first | (apply cA; constructor) | (apply gA; constructor)) | ((with_reducible refine And.intro ?hw ?_); (case hw => first | omega | rfl | exact ⟨_, _, rfl⟩ | assumption | (simp only [lN] <;> omega))) | with_reducible intro _)
        all_goals try omega
        all_goals refine ⟨i + 1, by omega, by omega, ?_⟩
        all_goals simp [St.keep, keepE]
        all_goals first
          | exact hset _ (by rw [hc]; repeat' split <;> first | rfl | omega)
          | exact hskip (by rw [hc]; repeat' split <;> first | rfl | omega)
      · have t0 : decide (97 ≤ (i : Int)) = false := by simp; omega
        have t1 : decide ((i : Int) ≤ 122) = true := by simp; omega
        have t2 : decide (65 ≤ (i : Int)) = false := by simp; omega
        have t3 : decide ((i : Int) ≤ 90) = true := by simp; omega
        have t4 : decide (48 ≤ (i : Int)) = true := by simp; omega
        have t5 : decide ((i : Int) ≤ 57) = true := by simp; omega
        repeat' (first | with_reducible (apply swq; constructor) | simp only [go_sem, seval, P57, q57, hl, t0, t1, t2, t3, t4, t5] | simp (disch := omega) only [w64, w32, wu8, wu16, wu32, wu64] | ((with_reducible refine zAb (x1) ?he ?hc ?_); (case he | hc => first | rfl | (simp [D.erL, D.er, D.cL, D.closed]; done))) | ((with_reducible refine zAb (x2) ?he ?hc ?_); (case he | hc => first | rfl | (simp [D.erL, D.er, D.cL, D.closed]; done))) | (with_reducible first | (apply cA; constructor) | (apply gA; constructor)) | ((with_reducible refine And.intro ?hw ?_); (case hw => first | omega | rfl | exact ⟨_, _, rfl⟩ | assumption | (simp only [lN] <;> omega))) | with_reducible intro _)
        all_goals try omega
        all_goals refine ⟨i + 1, by omega, by omega, ?_⟩
        all_goals simp [St.keep, keepE]
        all_goals first
          | exact hset _ (by rw [hc]; repeat' split <;> first | rfl | omega)
          | exact hskip (by rw [hc]; repeat' split <;> first | rfl | omega)
      · have t0 : decide (97 ≤ (i : Int)) = false := by simp; omega
        have t1 : decide ((i : Int) ≤ 122) = true := by simp; omega
        have t2 : decide (65 ≤ (i : Int)) = false := by simp; omega
        have t3 : decide ((i : Int) ≤ 90) = true := by simp; omega
        have t4 : decide (48 ≤ (i : Int)) = true := by simp; omega
        have t5 : decide ((i : Int) ≤ 57) = false := by simp; omega
        repeat' (first | with_reducible (apply swq; constructor) | simp only [go_sem, seval, P57, q57, hl, t0, t1, t2, t3, t4, t5] | simp (disch := omega) only [w64, w32, wu8, wu16, wu32, wu64] | ((with_reducible refine zAb (x1) ?he ?hc ?_); (case he | hc => first | rfl | (simp [D.erL, D.er, D.cL, D.closed]; done))) | ((with_reducible refine zAb (x2) ?he ?hc ?_); (case he | hc => first | rfl | (simp [D.erL, D.er, D.cL, D.closed]; done))) | (with_reducible first | (apply cA; constructor) | (apply gA; constructor)) | ((with_reducible refine And.intro ?hw ?_); (case hw => first | omega | rfl | exact ⟨_, _, rfl⟩ | assumption | (simp only [lN] <;> omega))) | with_reducible intro _)
        all_goals try omega
        all_goals refine ⟨i + 1, by omega, by omega, ?_⟩
        all_goals simp [St.keep, keepE]
        all_goals first
          | exact hset _ (by rw [hc]; repeat' split <;> first | rfl | omega)
          | exact hskip (by rw [hc]; repeat' split <;> first | rfl | omega)
      · have t0 : decide (97 ≤ (i : Int)) = false := by simp; omega
        have t1 : decide ((i : Int) ≤ 122) = true := by simp; omega
        have t2 : decide (65 ≤ (i : Int)) = true := by simp; omega
        have t3 : decide ((i : Int) ≤ 90) = true := by simp; omega
        have t4 : decide (48 ≤ (i : Int)) = true := by simp; omega
        have t5 : decide ((i : Int) ≤ 57) = false := by simp; omega
        repeat' (first | with_reducible (apply swq; constructor) | simp only [go_sem, seval, P57, q57, hl, t0, t1, t2, t3, t4, t5] | simp (disch := omega) only [w64, w32, wu8, wu16, wu32, wu64] | ((with_reducible refine zAb (x1) ?he ?hc ?_); (case he | hc => first | rfl | (simp [D.erL, D.er, D.cL, D.closed]; done))) | ((with_reducible refine zAb (x2) ?he ?hc ?_); (case he | hc => first | rfl | (simp [D.erL, D.er, D.cL, D.closed]; done))) | (with_reducible first | (apply cA; constructor) | (apply gA; constructor)) | ((with_reducible refine And.intro ?hw ?_); (case hw => first | omega | rfl | exact ⟨_, _, rfl⟩ | assumption | (simp only [lN] <;> omega))) | with_reducible intro _)
        all_goals try omega
        all_goals refine ⟨i + 1, by omega, by omega, ?_⟩
        all_goals simp [St.keep, keepE]
        all_goals first
          | exact hset _ (by rw [hc]; repeat' split <;> first | rfl | omega)
          | exact hskip (by rw [hc]; repeat' split <;> first | rfl | omega)
      · have t0 : decide (97 ≤ (i : Int)) = false := by simp; omega
        have t1 : decide ((i : Int) ≤ 122) = true := by simp; omega
        have t2 : decide (65 ≤ (i : Int)) = true := by simp; omega
        have t3 : decide ((i : Int) ≤ 90) = false := by simp; omega
        have t4 : decide (48 ≤ (i : Int)) = true := by simp; omega
        have t5 : decide ((i : Int) ≤ 57) = false := by simp; omega
        repeat' (first | with_reducible (apply swq; constructor) | simp only [go_sem, seval, P57, q57, hl, t0, t1, t2, t3, t4, t5] | simp (disch := omega) only [w64, w32, wu8, wu16, wu32, wu64] | ((with_reducible refine zAb (x1) ?he ?hc ?_); (case he | hc => first | rfl | (simp [D.erL, D.er, D.cL, D.closed]; done))) | ((with_reducible refine zAb (x2) ?he ?hc ?_); (case he | hc => first | rfl | (simp [D.erL, D.er, D.cL, D.closed]; done))) | (with_reducible first | (apply cA; constructor) | (apply gA; constructor)) | ((with_reducible refine And.intro ?hw ?_); (case hw => first | omega | rfl | exact ⟨_, _, rfl⟩ | assumption | (simp only [lN] <;> omega))) | with_reducible intro _)
        all_goals try omega
        all_goals refine ⟨i + 1, by omega, by omega, ?_⟩
        all_goals simp [St.keep, keepE]
        all_goals first
          | exact hset _ (by rw [hc]; repeat' split <;> first | rfl | omega)
          | exact hskip (by rw [hc]; repeat' split <;> first | rfl | omega)
      · have t0 : decide (97 ≤ (i : Int)) = true := by simp; omega
        have t1 : decide ((i : Int) ≤ 122) = true := by simp; omega
        have t2 : decide (65 ≤ (i : Int)) = true := by simp; omega
        have t3 : decide ((i : Int) ≤ 90) = false := by simp; omega
        have t4 : decide (48 ≤ (i : Int)) = true := by simp; omega
        have t5 : decide ((i : Int) ≤ 57) = false := by simp; omega
        repeat' (first | with_reducible (apply swq; constructor) | simp only [go_sem, seval, P57, q57, hl, t0, t1, t2, t3, t4, t5] | simp (disch := omega) only [w64, w32, wu8, wu16, wu32, wu64] | ((with_reducible refine zAb (x1) ?he ?hc ?_); (case he | hc => first | rfl | (simp [D.erL, D.er, D.cL, D.closed]; done))) | ((with_reducible refine zAb (x2) ?he ?hc ?_); (case he | hc => first | rfl | (simp [D.erL, D.er, D.cL, D.closed]; done))) | (with_reducible first | (apply cA; constructor) | (apply gA; constructor)) | ((with_reducible refine And.intro ?hw ?_); (case hw => first | omega | rfl | exact ⟨_, _, rfl⟩ | assumption | (simp only [lN] <;> omega))) | with_reducible intro _)
        all_goals try omega
        all_goals refine ⟨i + 1, by omega, by omega, ?_⟩
        all_goals simp [St.keep, keepE]
        all_goals first
          | exact hset _ (by rw [hc]; repeat' split <;> first | rfl | omega)
          | exact hskip (by rw [hc]; repeat' split <;> first | rfl | omega)
      · have t0 : decide (97 ≤ (i : Int)) = true := by simp; omega
        have t1 : decide ((i : Int) ≤ 122) = false := by simp; omega
        have t2 : decide (65 ≤ (i : Int)) = true := by simp; omega
        have t3 : decide ((i : Int) ≤ 90) = false := by simp; omega
        have t4 : decide (48 ≤ (i : Int)) = true := by simp; omega
        have t5 : decide ((i : Int) ≤ 57) = false := by simp; omega
        repeat' (first | with_reducible (apply swq; constructor) | simp only [go_sem, seval, P57, q57, hl, t0, t1, t2, t3, t4, t5] | simp (disch := omega) only [w64, w32, wu8, wu16, wu32, wu64] | ((with_reducible refine zAb (x1) ?he ?hc ?_); (case he | hc => first | rfl | (simp [D.erL, D.er, D.cL, D.closed]; done))) | ((with_reducible refine zAb (x2) ?he ?hc ?_); (case he | hc => first | rfl | (simp [D.erL, D.er, D.cL, D.closed]; done))) | (with_reducible first | (apply cA; constructor) | (apply gA; constructor)) | ((with_reducible refine And.intro ?hw ?_); (case hw => first | omega | rfl | exact ⟨_, _, rfl⟩ | assumption | (simp only [lN] <;> omega))) | with_reducible intro _)
        all_goals try omega
        all_goals refine ⟨i + 1, by omega, by omega, ?_⟩
        all_goals simp [St.keep, keepE]
        all_goals first
          | exact hset _ (by rw [hc]; repeat' split <;> first | rfl | omega)
          | exact hskip (by rw [hc]; repeat' split <;> first | rfl | omega)
    · obtain rfl : i = 256 := by omega
      generalize tblN 256 = T1 at *
      have hk := tbl_len
      have htk : tbl.take 256 = tbl := List.take_of_length_le (by omega)
      have hsf : setL zl256 0 tbl = tbl := setL_full (by omega)
      have hmin : min 256 tbl.length = 256 := by omega
      have hcl := tbl_cl
      repeat' (first | with_reducible (apply swq; constructor) | simp only [go_sem, seval, P57, q57, hl, List.length_set, hz, ht, htk, hsf, hmin, hk] | simp (disch := omega) only [w64, w32, wu8, wu16, wu32, wu64] | (with_reducible first | (apply cA; constructor) | (apply gA; constructor)) | ((with_reducible refine And.intro ?hw ?_); (case hw => first | omega | rfl | exact ⟨_, _, rfl⟩ | assumption | (simp only [lN, hl, List.length_set, hcl] <;> omega))) | with_reducible intro _)
      all_goals first | omega | skip
      all_goals simp [D.closed, D.er, D.cL, D.erL, hl, hcl.1, hcl.2]
end Go.Proofs.YtcchbohfcmfmlaaGreat
end
section
set_option maxRecDepth 100000
set_option linter.unusedSimpArgs false
set_option linter.unusedVariables false
namespace Go.Proofs.YtcchbohfcmfmlaaGreat
open Go GoV Go.RowKit
def clsB (c : UInt8) : Int := if c.toNat = 35 then 2 else if c.toNat = 95 then 5 else if c.toNat = 34 then 7 else cls0 c.toNat
theorem clsB_get (c : UInt8) : tbl.getD c.toNat .u0 = .int .u8 (clsB c) := tbl_get (UInt8.toNat_lt c)
theorem cls_cases (c : UInt8) : (clsB c = 3 ↔ isLet c = true) ∧ (clsB c = 4 ↔ isDig c = true) ∧ (clsB c = 5 ↔ (c == 95) = true) := by
  have hc : c.toNat < 256 := UInt8.toNat_lt c
  have e1 : ∀ k : Nat, k < 256 → ((UInt8.ofNat k ≤ c) ↔ k ≤ c.toNat) := fun k hk => by
    rw [UInt8.le_iff_toNat_le]; simp [UInt8.toNat_ofNat']; omega
  have e2 : ∀ k : Nat, k < 256 → ((c ≤ UInt8.ofNat k) ↔ c.toNat ≤ k) := fun k hk => by
    rw [UInt8.le_iff_toNat_le]; simp [UInt8.toNat_ofNat']; omega
  have l1 := e1 97 (by omega); have l2 := e2 122 (by omega); have l3 := e1 65 (by omega); have l4 := e2 90 (by omega); have l5 := e1 48 (by omega); have l6 := e2 57 (by omega)
  have l7 : (c == 95) = true ↔ c.toNat = 95 := by
    rw [beq_iff_eq]
    constructor
    · rintro rfl; rfl
    · intro h; exact UInt8.toNat_inj.1 h
  have a1 : isLet c = true ↔ (97 ≤ c.toNat ∧ c.toNat ≤ 122) ∨ (65 ≤ c.toNat ∧ c.toNat ≤ 90) := by
    simp only [isLet, Bool.or_eq_true, Bool.and_eq_true, decide_eq_true_eq]
    rw [show (97 : UInt8) = UInt8.ofNat 97 from rfl, show (122 : UInt8) = UInt8.ofNat 122 from rfl, show (65 : UInt8) = UInt8.ofNat 65 from rfl, show (90 : UInt8) = UInt8.ofNat 90 from rfl, l1, l2, l3, l4]
  have a2 : isDig c = true ↔ 48 ≤ c.toNat ∧ c.toNat ≤ 57 := by
    simp only [isDig, Bool.and_eq_true, decide_eq_true_eq]
    rw [show (48 : UInt8) = UInt8.ofNat 48 from rfl, show (57 : UInt8) = UInt8.ofNat 57 from rfl, l5, l6]
  rw [a1, a2, l7]
  unfold clsB
  rw [cls0_eq]
  refine ⟨?_, ?_, ?_⟩ <;> repeat' split
  all_goals omega
def nameB (c : UInt8) (first : Bool) : Bool := isLet c || (!first && (isDig c || c == 95))
theorem nameOk_cons (c : UInt8) (r : List UInt8) : zC0 (c :: r) = (isLet c && (r.all fun c => nameB c false) && decide ((c :: r).length ≤ 24)) := by
  simp only [zC0]
  congr 2
  congr 1
  funext c
  simp [nameB, Bool.or_assoc]
def okTo (s : List UInt8) (i : Nat) : Prop := ∀ j, j < i → nameB (s.getD j 0) (j == 0) = true
theorem okTo_all (s : List UInt8) : okTo s s.length ↔ (s = [] ∨ (match s with | [] => false | c :: r => isLet c && r.all fun c => nameB c false) = true) := by
  cases s with
  | nil => simp [okTo]
  | cons c r =>
    simp only [okTo, List.length_cons, reduceCtorEq, false_or, Bool.and_eq_true, List.all_eq_true]
    constructor
    · intro h
      refine ⟨by have := h 0 (by omega); simpa [nameB] using this, fun x hx => ?_⟩
      obtain ⟨k, hk, rfl⟩ := List.getElem_of_mem hx
      have := h (k + 1) (by omega)
      simpa [List.getD, hk] using this
    · rintro ⟨h1, h2⟩ j hj
      cases j with
      | zero => simp [nameB, h1]
      | succ j =>
        have hj' : j < r.length := by omega
        have := h2 r[j] (List.getElem_mem hj')
        simpa [List.getD, hj'] using this
theorem nameOk_eq (s : List UInt8) (h : okTo s s.length) : zC0 s = (!(s == []) && decide (s.length ≤ 24)) := by
  cases s with
  | nil => rfl
  | cons c r =>
    rw [nameOk_cons]
    have := (okTo_all (c :: r)).1 h
    simp only [reduceCtorEq, false_or] at this
    rw [this]; simp
theorem nameOk_bad (s : List UInt8) {i : Nat} (hi : i < s.length) (h : nameB (s.getD i 0) (i == 0) = false) : zC0 s = false := by
  cases s with
  | nil => simp at hi
  | cons c r =>
    rw [nameOk_cons]
    cases e : (isLet c && r.all fun c => nameB c false) with
    | false => rfl
    | true =>
      have := (okTo_all (c :: r)).2 (.inr e) i hi
      rw [h] at this; cases this
set_option maxHeartbeats 1000000 in
theorem name_p (s : List UInt8) (hs : s.length < 9223372036854775808) : Pur M 28 [.str s] (.bool (zC0 s)) := by
  refine k28.ok (C := C28) rfl rfl ?_
  rw [i28]
  unfold c28
  have c1 := classes_p
  have hk := tbl_len
  have htk : tbl.take 256 = tbl := List.take_of_length_le (by omega)
  have hz := zl_len
  have hsf : setL zl256 0 tbl = tbl := setL_full (by omega)
  have hmin : min 256 tbl.length = 256 := by omega
  repeat' (first | with_reducible (apply swq; constructor) | simp only [go_sem, seval, P28, q28, hz, hk, htk, hsf, hmin] | simp (disch := omega) only [w64, w32, wu8, wu16, wu32, wu64] | ((with_reducible refine zAb (c1) ?he ?hc ?_); (case he | hc => first | rfl | (simp [D.erL, D.er, D.cL, D.closed]; done))) | (with_reducible first | (apply cA; constructor) | (apply gA; constructor)) | ((with_reducible refine And.intro ?hw ?_); (case hw => first | omega | rfl | exact ⟨_, _, rfl⟩ | assumption | (simp only [lN] <;> omega))) | with_reducible intro _)
  refine zAz [0, 1, 2, 5, 6] (fun i : Nat => ⟨[.str s, .bool false, .ptr 0 0, .u0, .u0, .int .i64 s.length, .int .i64 i, .u0, .u0], [], ⟨[.cells tbl], []⟩⟩) (fun i => i ≤ s.length ∧ okTo s i) (fun i => s.length - i) 0 ⟨by omega, fun j hj => by omega⟩ ?_ ?_
  · simp [keepE, St.keep]
  · rintro i ⟨g1, g2⟩
    by_cases hi : i < s.length
    · have hg := clsB_get (s.getD i 0)
      obtain ⟨k1, k2, k3⟩ := cls_cases (s.getD i 0)
      have hlt : (s.getD i 0).toNat < 256 := UInt8.toNat_lt _
      have hb : nameB (s.getD i 0) (i == 0) = (decide (clsB (s.getD i 0) = 3) || (!(i == 0) && (decide (clsB (s.getD i 0) = 4) || decide (clsB (s.getD i 0) = 5)))) := by
        unfold nameB
        congr 1
        · rw [Bool.eq_iff_iff, decide_eq_true_eq]; exact k1.symm
        · congr 1
          congr 1
          · rw [Bool.eq_iff_iff, decide_eq_true_eq]; exact k2.symm
          · rw [Bool.eq_iff_iff, decide_eq_true_eq]; exact k3.symm
      have hbad := nameOk_bad s hi
      have hstep : nameB (s.getD i 0) (i == 0) = true → okTo s (i + 1) := fun h j hj => by
        by_cases e : j = i
        · subst e; exact h
        · exact g2 j (by omega)
      rw [hb] at hbad hstep
      generalize clsB (s.getD i 0) = cl at *
      repeat' (first | with_reducible (apply swq; constructor) | simp only [go_sem, seval, P28, q28, Nat.mul_one, hk, hg] | simp (disch := omega) only [w64, w32, wu8, wu16, wu32, wu64] | (with_reducible first | (apply cA; constructor) | (apply gA; constructor)) | ((with_reducible refine And.intro ?hw ?_); (case hw => first | omega | rfl | exact ⟨_, _, rfl⟩ | assumption | (simp only [lN, hk, hlt] <;> omega))) | with_reducible intro _)
      all_goals try omega
      all_goals first
        | (refine ⟨i + 1, ⟨by omega, hstep (by simp only [Bool.or_eq_true, Bool.and_eq_true, decide_eq_true_eq, Bool.not_eq_true', beq_eq_false_iff_ne]; omega)⟩, by omega, ?_⟩; simp [St.keep, keepE])
        | (rw [hbad (by simp only [Bool.or_eq_false_iff, Bool.and_eq_false_iff, decide_eq_false_iff_not, Bool.not_eq_false', beq_iff_eq]; omega)])
        | skip
    · obtain rfl : i = s.length := by omega
      rw [nameOk_eq s g2]
      repeat' (first | with_reducible (apply swq; constructor) | simp only [go_sem, seval, P28, q28, hk] | simp (disch := omega) only [w64, w32, wu8, wu16, wu32, wu64] | (with_reducible first | (apply cA; constructor) | (apply gA; constructor)) | ((with_reducible refine And.intro ?hw ?_); (case hw => first | omega | rfl | exact ⟨_, _, rfl⟩ | assumption | (simp only [lN, hk] <;> omega))) | with_reducible intro _)
      all_goals try omega
      all_goals simp [D.closed, D.er, D.cL, D.erL]
      all_goals clear g1 g2 hi hs
      all_goals rcases s with _ | ⟨c, r⟩
      all_goals first | (simp_all; done) | (simp; omega) | (simp only [List.isEmpty_cons, Bool.not_false, Bool.true_and]; exact decide_eq_decide.2 (by simp <;> omega))
theorem index76 (l : List (List UInt8)) (s : List UInt8) (hl : l.length < 9223372036854775808) (i : Nat) (hi : i < l.length) (he : l[i] = s) (hm : ∀ j (h : j < i), l[j] ≠ s) :
    Pur M 35 [.slice (strs l) .no, .str s] (.int .i64 i) := by
  refine k35.ok (C := C35) rfl rfl ?_
  rw [i35]
  unfold c35
  have hlen : (strs l).length = l.length := by simp [strs]
  repeat' (first | with_reducible (apply swq; constructor) | simp only [go_sem, seval, P35, q35, hlen] | simp (disch := omega) only [w64, w32, wu8, wu16, wu32, wu64] | with_reducible (apply cA; constructor) | ((with_reducible refine And.intro ?hw ?_); (case hw => first | omega | rfl | exact ⟨_, _, rfl⟩ | assumption | (simp only [lN, hlen] <;> omega))) | with_reducible intro _)
  refine zAz [0, 1, 2, 4, 5] (fun j : Nat => ⟨[.slice (strs l) .no, .str s, .int .i64 0, .u0, .int .i64 l.length, .int .i64 j, .u0, .u0], [], ⟨[], []⟩⟩) (fun j => j ≤ i) (fun j => l.length - j) 0 (by omega) ?_ ?_
  · simp [keepE, St.keep]
  · intro j hj
    have hjl : j < l.length := by omega
    have hg : (strs l).getD j .u0 = .str l[j] := by simp [strs, List.getD, hjl]
    have hb : (s == l[j]) = decide (j = i) := by
      by_cases e : j = i
      · subst e; simp [he]
      · have := hm j (by omega)
        simp [e, Ne.symm this]
    repeat' (first | with_reducible (apply swq; constructor) | simp only [go_sem, seval, P35, q35, hlen, hg, hb] | simp (disch := omega) only [w64, w32, wu8, wu16, wu32, wu64] | with_reducible (apply cA; constructor) | ((with_reducible refine And.intro ?hw ?_); (case hw => first | omega | rfl | exact ⟨_, _, rfl⟩ | assumption | (simp only [lN, hlen, hg] <;> omega))) | with_reducible intro _)
    all_goals try omega
    all_goals first
      | (refine ⟨j + 1, by omega, by omega, ?_⟩; simp [St.keep, keepE])
      | (rename_i h; subst h; simp [D.closed, D.er, D.cL, D.erL])
      | skip
theorem index76n (l : List (List UInt8)) (s : List UInt8) (hl : l.length < 9223372036854775808) (hm : ∀ j (h : j < l.length), l[j] ≠ s) :
    Pur M 35 [.slice (strs l) .no, .str s] (.int .i64 (-1)) := by
  refine k35.ok (C := C35) rfl rfl ?_
  rw [i35]
  unfold c35
  have hlen : (strs l).length = l.length := by simp [strs]
  repeat' (first | with_reducible (apply swq; constructor) | simp only [go_sem, seval, P35, q35, hlen] | simp (disch := omega) only [w64, w32, wu8, wu16, wu32, wu64] | with_reducible (apply cA; constructor) | ((with_reducible refine And.intro ?hw ?_); (case hw => first | omega | rfl | exact ⟨_, _, rfl⟩ | assumption | (simp only [lN, hlen] <;> omega))) | with_reducible intro _)
  refine zAz [0, 1, 2, 4, 5] (fun j : Nat => ⟨[.slice (strs l) .no, .str s, .int .i64 0, .u0, .int .i64 l.length, .int .i64 j, .u0, .u0], [], ⟨[], []⟩⟩) (fun j => j ≤ l.length) (fun j => l.length - j) 0 (by omega) ?_ ?_
  · simp [keepE, St.keep]
  · intro j hj
    by_cases hjl : j < l.length
    · have hg : (strs l).getD j .u0 = .str l[j] := by simp [strs, List.getD, hjl]
      have hb : (s == l[j]) = false := by
        have := hm j hjl
        simp [Ne.symm this]
      repeat' (first | with_reducible (apply swq; constructor) | simp only [go_sem, seval, P35, q35, hlen, hg, hb] | simp (disch := omega) only [w64, w32, wu8, wu16, wu32, wu64] | with_reducible (apply cA; constructor) | ((with_reducible refine And.intro ?hw ?_); (case hw => first | omega | rfl | exact ⟨_, _, rfl⟩ | assumption | (simp only [lN, hlen, hg] <;> omega))) | with_reducible intro _)
      all_goals try omega
      all_goals first
        | (refine ⟨j + 1, by omega, by omega, ?_⟩; simp [St.keep, keepE])
        | skip
    · repeat' (first | with_reducible (apply swq; constructor) | simp only [go_sem, seval, P35, q35, hlen] | simp (disch := omega) only [w64, w32, wu8, wu16, wu32, wu64] | with_reducible (apply cA; constructor) | ((with_reducible refine And.intro ?hw ?_); (case hw => first | omega | rfl | exact ⟨_, _, rfl⟩ | assumption | (simp only [lN, hlen] <;> omega))) | with_reducible intro _)
      all_goals try omega
      all_goals simp [D.closed, D.er, D.cL, D.erL]
theorem zE0 {α : Type} {p : α → Prop} [DecidablePred p] : ∀ (l : List α), (∃ i, ∃ h : i < l.length, p l[i] ∧ ∀ j (g : j < i), ¬ p l[j]) ∨ ∀ j (h : j < l.length), ¬ p l[j]
  | [] => .inr (by simp)
  | x :: l => by
    by_cases hx : p x
    · exact .inl ⟨0, by simp, hx, by simp⟩
    · rcases zE0 (p := p) l with ⟨i, h, h1, h2⟩ | h
      · refine .inl ⟨i + 1, by simpa using h, by simpa using h1, fun j g => ?_⟩
        cases j with
        | zero => simpa using hx
        | succ j => simpa using h2 j (by omega)
      · refine .inr fun j hj => ?_
        cases j with
        | zero => simpa using hx
        | succ j => simpa using h j (by simpa using hj)
theorem contains66 (l : List (List UInt8)) (s : List UInt8) (hl : l.length < 9223372036854775808) : Pur M 21 [.slice (strs l) .no, .str s] (.bool (l.contains s)) := by
  refine k21.ok (C := C21) rfl rfl ?_
  rw [i21]
  unfold c21
  rcases zE0 (p := fun x => x = s) l with ⟨i, h, h1, h2⟩ | h
  · have c1 := index76 l s hl i h h1 h2
    have hc : l.contains s = true := by simp only [List.contains_iff_mem]; rw [← h1]; exact List.getElem_mem h
    rw [hc]
    repeat' (first | with_reducible (apply swq; constructor) | simp only [go_sem, seval, P21, q21] | simp (disch := omega) only [w64, w32, wu8, wu16, wu32, wu64] | ((with_reducible refine zAb (c1) ?he ?hc ?_); (case he | hc => first | rfl | (simp [D.erL, D.er, D.cL, D.closed]; done))) | with_reducible (apply cA; constructor) | ((with_reducible refine And.intro ?hw ?_); (case hw => first | omega | rfl | exact ⟨_, _, rfl⟩ | assumption | (simp only [lN] <;> omega))) | with_reducible intro _)
    all_goals simp [D.closed, D.er, D.cL, D.erL]
  · have c1 := index76n l s hl h
    have hc : l.contains s = false := by
      cases e : l.contains s with
      | false => rfl
      | true =>
        simp only [List.contains_iff_mem] at e
        obtain ⟨j, hj, rfl⟩ := List.getElem_of_mem e
        exact absurd rfl (h j hj)
    rw [hc]
    repeat' (first | with_reducible (apply swq; constructor) | simp only [go_sem, seval, P21, q21] | simp (disch := omega) only [w64, w32, wu8, wu16, wu32, wu64] | ((with_reducible refine zAb (c1) ?he ?hc ?_); (case he | hc => first | rfl | (simp [D.erL, D.er, D.cL, D.closed]; done))) | with_reducible (apply cA; constructor) | ((with_reducible refine And.intro ?hw ?_); (case hw => first | omega | rfl | exact ⟨_, _, rfl⟩ | assumption | (simp only [lN] <;> omega))) | with_reducible intro _)
    all_goals simp [D.closed, D.er, D.cL, D.erL]
theorem reserved_p (s : List UInt8) : Pur M 77 [.str s] (.bool (words.contains s)) := by
  refine k77.ok (C := C77) rfl rfl ?_
  rw [i77]
  unfold c77
  have c1 := contains66 words s (by decide)
  simp only [strs, words, List.map_cons, List.map_nil] at c1
  repeat' (first | with_reducible (apply swq; constructor) | simp only [go_sem, seval, P77, q77] | simp (disch := omega) only [w64, w32, wu8, wu16, wu32, wu64] | ((with_reducible refine zAb (c1) ?he ?hc ?_); (case he | hc => first | rfl | (simp [D.erL, D.er, D.cL, D.closed]; done))) | ((with_reducible apply s_bsl); (case he | hl | hc => first | rfl | assumption | omega | ((first | refine ⟨?_, ?_⟩ | skip) <;> first | omega | (simp only [lN] <;> omega)) | (simp [zAa, D.iV, D.cells, D.cL, D.closed]; first | done | omega))) | with_reducible (apply cA; constructor) | ((with_reducible refine And.intro ?hw ?_); (case hw => first | omega | rfl | exact ⟨_, _, rfl⟩ | assumption | (simp only [lN] <;> omega))) | with_reducible intro _)
  all_goals simp [D.closed, D.er, D.cL, D.erL, words]
end Go.Proofs.YtcchbohfcmfmlaaGreat
end
section
set_option maxRecDepth 100000
set_option linter.unusedSimpArgs false
set_option linter.unusedVariables false
namespace Go.Proofs.YtcchbohfcmfmlaaGreat
open Go GoV Go.RowKit
theorem y_ng {M : Mod} {F : (Nat → Bool) → Hp} {i : Nat} {oc : OC} {args : List Opd} {dst : Dst} {q : Bool} {r : List (RO × Bool)} {K : St → Prop} {s : St} {g : Opd} {want : Bool} (hg : s.get g = .bool (!want)) (hF : Still F i) (h : opsF M F (i + 1) r K ((s.setO g (.bool (!want))).put dst .skip)) :
    opsF M F i ((⟨dst, oc, args, some (g, want)⟩, q) :: r) K s := by
  simp only [opsF, headF, hg]
  have hne : ¬ (!want) = want := by cases want <;> decide
  exact ⟨fun e => absurd e hne, fun _ => ⟨hF, h⟩⟩
def limHp (n ex : Int) (E : Nat → Bool) : Hp := ⟨[.gone, .cells [.int .i64 5, .str [], .str [], if E 15 then .int .i64 n else .int .i64 0, if E 17 then .int .i64 ex else .int .i64 0, .lit (.slice none 0 0)]], []⟩
theorem limHp_still (n ex : Int) (i : Nat) (h5 : i ≠ 15) (h7 : i ≠ 17) : Still (limHp n ex) i := fun E _ => by
  have q5 : (15 == i) = false := beq_false_of_ne (Ne.symm h5)
  have q7 : (17 == i) = false := beq_false_of_ne (Ne.symm h7)
  simp only [limHp, q5, q7, Bool.or_false]
set_option maxHeartbeats 1000000 in
theorem node_lim (nm vl : List UInt8) (n ex : Int) (K : List D) (hcl : D.cL K = true) (her : D.erL K = K) (Q : Ex → St → Prop)
    (hQ : Q .normal ⟨[.u0, .ip [.int .i64 5, .str nm, .str vl, .int .i64 n, .int .i64 ex, .slice K .no], .bool false, .ptr 1 0, .bool (((K.length : Nat) : Int) == 0), .bool true, .fn (.func 76) [] [], .bool (numOk n 0 && numOk ex 0), .u0, .u0, .u0, .u0, .u0, .u0, .u0, .u0, .u0, .u0, .u0, .u0], [], limHp n ex fun k => decide (k < 18)⟩) :
    SWp C40 (.regD r40_16 r40_17) Q ⟨[.u0, .ip [.int .i64 5, .str nm, .str vl, .int .i64 n, .int .i64 ex, .slice K .no], .bool false, .ptr 1 0, .bool (((K.length : Nat) : Int) == 0), .bool true, .fn (.func 76) [] [], .bool true, .u0, .u0, .u0, .u0, .u0, .u0, .u0, .u0, .u0, .u0, .u0, .u0], [], limHp n ex fun _ => false⟩ := by
  have st := limHp_still n ex
  refine swp_regDF (limHp n ex) rfl ?_
  rw [P40]
  generalize hc : (((K.length : Nat) : Int) == 0) = kb at *
  refine y_q (ds := [.ip [.int .i64 5, .str nm, .str vl, .int .i64 n, .int .i64 ex, .slice K .no]]) (.ip [.int .i64 n, .int .i64 ex, .slice K .no]) rfl (st _ (by decide) (by decide)) (fun _ => by simp [OcWp, zAc, opWp]) ?_
  refine y_q (ds := [.ip [.int .i64 n, .int .i64 ex, .slice K .no]]) (.int .i64 n) rfl (st _ (by decide) (by decide)) (fun _ => by simp [OcWp, zAc, opWp]) ?_
  refine y_q (ds := [.ip [.int .i64 5, .str nm, .str vl, .int .i64 n, .int .i64 ex, .slice K .no]]) (.ip [.int .i64 ex, .slice K .no]) rfl (st _ (by decide) (by decide)) (fun _ => by simp [OcWp, zAc, opWp]) ?_
  refine y_q (ds := [.ip [.int .i64 ex, .slice K .no]]) (.int .i64 ex) rfl (st _ (by decide) (by decide)) (fun _ => by simp [OcWp, zAc, opWp]) ?_
  refine y_q (ds := [.fn (.func 76) [] []]) (.fn (.func 76) [] []) rfl (st _ (by decide) (by decide)) (fun _ => by simp [OcWp, zAc, opWp]) ?_
  refine y_q (ds := [.ip [.int .i64 5, .str nm, .str vl, .int .i64 n, .int .i64 ex, .slice K .no]]) (.ip [.int .i64 n, .int .i64 ex, .slice K .no]) rfl (st _ (by decide) (by decide)) (fun _ => by simp [OcWp, zAc, opWp]) ?_
  refine y_q (ds := [.ip [.int .i64 n, .int .i64 ex, .slice K .no]]) (.int .i64 n) rfl (st _ (by decide) (by decide)) (fun _ => by simp [OcWp, zAc, opWp]) ?_
  refine y_q (ds := [.fn (.func 76) [] [], .int .i64 n, .int .i64 0]) (.bool (numOk n 0)) rfl (st _ (by decide) (by decide)) (fun _ => by
    simp only [OcWp, zAc, if_true]; exact zF6 (by simp [D.cL, D.closed]) (num_p n 0) ⟨rfl, rfl⟩) ?_
  refine y_q (ds := [.bool (numOk n 0)]) (.bool (numOk n 0)) rfl (st _ (by decide) (by decide)) (fun _ => by simp [OcWp, zAc, opWp]) ?_
  have e15 : ∀ E : Nat → Bool, E 15 = false → OcWp M (.st 1) [.ptr 1 3, .int .i64 n] (limHp n ex E) (fun d' hp' => d' = .skip ∧ hp' = limHp n ex (fun j => E j || j == 15)) := fun E hE => by
    simp [OcWp, zAc, opWp, limHp, hE, Blk.csq, D.iV, D.cells, Blk.putc, setL]
  have e17 : ∀ E : Nat → Bool, E 17 = false → OcWp M (.st 1) [.ptr 1 4, .int .i64 ex] (limHp n ex E) (fun d' hp' => d' = .skip ∧ hp' = limHp n ex (fun j => E j || j == 17)) := fun E hE => by
    simp [OcWp, zAc, opWp, limHp, hE, Blk.csq, D.iV, D.cells, Blk.putc, setL]
  cases hb : numOk n 0
  · rw [hb] at hQ
    refine y_ng rfl (st _ (by decide) (by decide)) ?_
    refine y_ng rfl (st _ (by decide) (by decide)) ?_
    refine y_ng rfl (st _ (by decide) (by decide)) ?_
    refine y_ng rfl (st _ (by decide) (by decide)) ?_
    refine y_q (ds := [.bool false, .skip, .bool false]) (.bool false) rfl (st _ (by decide) (by decide)) (fun _ => by simp [OcWp, zAc, opWp]) ?_
    refine y_q (ds := [.ptr 1 0]) (.ptr 1 3) rfl (st _ (by decide) (by decide)) (fun _ => by simp [OcWp, zAc, opWp]) ?_
    refine y_c (ds := [.ptr 1 3, .int .i64 n]) (d := .skip) rfl (fun E hE => e15 E hE) ?_
    refine y_q (ds := [.ptr 1 0]) (.ptr 1 4) rfl (st _ (by decide) (by decide)) (fun _ => by simp [OcWp, zAc, opWp]) ?_
    refine y_c (ds := [.ptr 1 4, .int .i64 ex]) (d := .skip) rfl (fun E hE => e17 E hE) ?_
    refine y_end rfl ?_
    repeat' (first | with_reducible (apply swq; constructor) | simp only [go_sem, seval, P40, q40] | (with_reducible first | (apply cA; constructor) | (apply gA; constructor) | (apply qA; constructor)) | ((with_reducible refine And.intro ?hw ?_); (case hw => first | omega | rfl | exact ⟨_, _, rfl⟩ | assumption | (simp only [lN] <;> omega))) | with_reducible intro _)
    exact hQ
  · rw [hb] at hQ
    refine y_qg (ds := [.fn (.func 76) [] []]) (.fn (.func 76) [] []) rfl rfl (st _ (by decide) (by decide)) (fun _ => by simp [OcWp, zAc, opWp]) ?_
    refine y_qg (ds := [.ip [.int .i64 5, .str nm, .str vl, .int .i64 n, .int .i64 ex, .slice K .no]]) (.ip [.int .i64 ex, .slice K .no]) rfl rfl (st _ (by decide) (by decide)) (fun _ => by simp [OcWp, zAc, opWp]) ?_
    refine y_qg (ds := [.ip [.int .i64 ex, .slice K .no]]) (.int .i64 ex) rfl rfl (st _ (by decide) (by decide)) (fun _ => by simp [OcWp, zAc, opWp]) ?_
    refine y_qg (ds := [.fn (.func 76) [] [], .int .i64 ex, .int .i64 0]) (.bool (numOk ex 0)) rfl rfl (st _ (by decide) (by decide)) (fun _ => by
      simp only [OcWp, zAc, if_true]; exact zF6 (by simp [D.cL, D.closed]) (num_p ex 0) ⟨rfl, rfl⟩) ?_
    refine y_q (ds := [.bool true, .bool (numOk ex 0), .bool false]) (.bool (numOk ex 0)) rfl (st _ (by decide) (by decide)) (fun _ => by simp [OcWp, zAc, opWp]) ?_
    refine y_q (ds := [.ptr 1 0]) (.ptr 1 3) rfl (st _ (by decide) (by decide)) (fun _ => by simp [OcWp, zAc, opWp]) ?_
    refine y_c (ds := [.ptr 1 3, .int .i64 n]) (d := .skip) rfl (fun E hE => e15 E hE) ?_
    refine y_q (ds := [.ptr 1 0]) (.ptr 1 4) rfl (st _ (by decide) (by decide)) (fun _ => by simp [OcWp, zAc, opWp]) ?_
    refine y_c (ds := [.ptr 1 4, .int .i64 ex]) (d := .skip) rfl (fun E hE => e17 E hE) ?_
    refine y_end rfl ?_
    repeat' (first | with_reducible (apply swq; constructor) | simp only [go_sem, seval, P40, q40] | (with_reducible first | (apply cA; constructor) | (apply gA; constructor) | (apply qA; constructor)) | ((with_reducible refine And.intro ?hw ?_); (case hw => first | omega | rfl | exact ⟨_, _, rfl⟩ | assumption | (simp only [lN] <;> omega))) | with_reducible intro _)
    exact hQ
set_option maxHeartbeats 4000000 in
theorem node_p (x : X) (hn : x.nam.length < 9223372036854775807) (hv : x.val.length < 9223372036854775807) : Pur M 40 [x.d] (.bool (zB7 x.op x.nam x.val x.num x.ext x.kids.length)) := by
  refine k40.ok (C := C40) rfl rfl ?_
  rw [i40]
  unfold c40
  have c1 := name_p x.nam (by omega)
  have c2 := name_p x.val (by omega)
  have c3 := reserved_p x.nam
  have c4 := num_p x.num 0
  have c5 := num_p x.num 1
  have hcl := zBg x.kids
  have her := erL_X x.kids
  have hl : (x.kids.map X.d).length = x.kids.length := by simp
  rw [X.d_eq]
  unfold X.cells
  obtain ⟨op, nm, vl, n, ex, ks⟩ := x
  simp only [X.op, X.nam, X.val, X.num, X.ext, X.kids] at *
  have hlim := node_lim nm vl n ex (ks.map X.d) hcl her
  rw [hl] at hlim
  generalize ks.map X.d = K at *
  generalize ks.length = kl at *
  obtain ⟨rc, hrc⟩ : ∃ rc, rc = RC.regD r40_16 r40_17 := ⟨_, rfl⟩
  rw [← hrc] at hlim ⊢
  by_cases h1 : op = 1
  · subst h1
    repeat' (first | with_reducible (apply swq; constructor) | simp only [go_sem, seval, P40, q40, hl, fillL] | ((with_reducible first | refine zAb (c1) ?he ?hc ?_ | refine zAe (c1) ?he ?hc ?_ | refine zAf (c1) ?he ?hc ?_); (case he | hc => first | rfl | (simp [D.erL, D.er, D.cL, D.closed]; done))) | ((with_reducible first | refine zAb (c2) ?he ?hc ?_ | refine zAe (c2) ?he ?hc ?_ | refine zAf (c2) ?he ?hc ?_); (case he | hc => first | rfl | (simp [D.erL, D.er, D.cL, D.closed]; done))) | ((with_reducible first | refine zAb (c3) ?he ?hc ?_ | refine zAe (c3) ?he ?hc ?_ | refine zAf (c3) ?he ?hc ?_); (case he | hc => first | rfl | (simp [D.erL, D.er, D.cL, D.closed]; done))) | ((with_reducible first | refine zAb (c4) ?he ?hc ?_ | refine zAe (c4) ?he ?hc ?_ | refine zAf (c4) ?he ?hc ?_); (case he | hc => first | rfl | (simp [D.erL, D.er, D.cL, D.closed]; done))) | ((with_reducible first | refine zAb (c5) ?he ?hc ?_ | refine zAe (c5) ?he ?hc ?_ | refine zAf (c5) ?he ?hc ?_); (case he | hc => first | rfl | (simp [D.erL, D.er, D.cL, D.closed]; done))) | (with_reducible first | (apply cA; constructor) | (apply gA; constructor) | (apply qA; constructor)) | ((with_reducible refine And.intro ?hw ?_); (case hw => first | omega | rfl | exact ⟨_, _, rfl⟩ | assumption | (simp only [lN] <;> omega))) | with_reducible intro _)
    all_goals (congr 1; rw [Bool.eq_iff_iff]; simp only [zB7]; first | (simp_all; done) | (simp_all; omega) | (simp_all [eq_comm]; done) | (simp_all [eq_comm]; omega))
  by_cases h2 : op = 2
  · subst h2
    repeat' (first | with_reducible (apply swq; constructor) | simp only [go_sem, seval, P40, q40, hl, fillL] | ((with_reducible first | refine zAb (c1) ?he ?hc ?_ | refine zAe (c1) ?he ?hc ?_ | refine zAf (c1) ?he ?hc ?_); (case he | hc => first | rfl | (simp [D.erL, D.er, D.cL, D.closed]; done))) | ((with_reducible first | refine zAb (c2) ?he ?hc ?_ | refine zAe (c2) ?he ?hc ?_ | refine zAf (c2) ?he ?hc ?_); (case he | hc => first | rfl | (simp [D.erL, D.er, D.cL, D.closed]; done))) | ((with_reducible first | refine zAb (c3) ?he ?hc ?_ | refine zAe (c3) ?he ?hc ?_ | refine zAf (c3) ?he ?hc ?_); (case he | hc => first | rfl | (simp [D.erL, D.er, D.cL, D.closed]; done))) | ((with_reducible first | refine zAb (c4) ?he ?hc ?_ | refine zAe (c4) ?he ?hc ?_ | refine zAf (c4) ?he ?hc ?_); (case he | hc => first | rfl | (simp [D.erL, D.er, D.cL, D.closed]; done))) | ((with_reducible first | refine zAb (c5) ?he ?hc ?_ | refine zAe (c5) ?he ?hc ?_ | refine zAf (c5) ?he ?hc ?_); (case he | hc => first | rfl | (simp [D.erL, D.er, D.cL, D.closed]; done))) | (with_reducible first | (apply cA; constructor) | (apply gA; constructor) | (apply qA; constructor)) | ((with_reducible refine And.intro ?hw ?_); (case hw => first | omega | rfl | exact ⟨_, _, rfl⟩ | assumption | (simp only [lN] <;> omega))) | with_reducible intro _)
    all_goals (congr 1; rw [Bool.eq_iff_iff]; simp only [zB7]; first | (simp_all; done) | (simp_all; omega) | (simp_all [eq_comm]; done) | (simp_all [eq_comm]; omega))
  by_cases h3 : op = 3
  · subst h3
    repeat' (first | with_reducible (apply swq; constructor) | simp only [go_sem, seval, P40, q40, hl, fillL] | ((with_reducible first | refine zAb (c1) ?he ?hc ?_ | refine zAe (c1) ?he ?hc ?_ | refine zAf (c1) ?he ?hc ?_); (case he | hc => first | rfl | (simp [D.erL, D.er, D.cL, D.closed]; done))) | ((with_reducible first | refine zAb (c2) ?he ?hc ?_ | refine zAe (c2) ?he ?hc ?_ | refine zAf (c2) ?he ?hc ?_); (case he | hc => first | rfl | (simp [D.erL, D.er, D.cL, D.closed]; done))) | ((with_reducible first | refine zAb (c3) ?he ?hc ?_ | refine zAe (c3) ?he ?hc ?_ | refine zAf (c3) ?he ?hc ?_); (case he | hc => first | rfl | (simp [D.erL, D.er, D.cL, D.closed]; done))) | ((with_reducible first | refine zAb (c4) ?he ?hc ?_ | refine zAe (c4) ?he ?hc ?_ | refine zAf (c4) ?he ?hc ?_); (case he | hc => first | rfl | (simp [D.erL, D.er, D.cL, D.closed]; done))) | ((with_reducible first | refine zAb (c5) ?he ?hc ?_ | refine zAe (c5) ?he ?hc ?_ | refine zAf (c5) ?he ?hc ?_); (case he | hc => first | rfl | (simp [D.erL, D.er, D.cL, D.closed]; done))) | (with_reducible first | (apply cA; constructor) | (apply gA; constructor) | (apply qA; constructor)) | ((with_reducible refine And.intro ?hw ?_); (case hw => first | omega | rfl | exact ⟨_, _, rfl⟩ | assumption | (simp only [lN] <;> omega))) | with_reducible intro _)
    all_goals (congr 1; rw [Bool.eq_iff_iff]; simp only [zB7]; first | (simp_all; done) | (simp_all; omega) | (simp_all [eq_comm]; done) | (simp_all [eq_comm]; omega))
  by_cases h4 : op = 4
  · subst h4
    repeat' (first | with_reducible (apply swq; constructor) | simp only [go_sem, seval, P40, q40, hl, fillL] | ((with_reducible first | refine zAb (c1) ?he ?hc ?_ | refine zAe (c1) ?he ?hc ?_ | refine zAf (c1) ?he ?hc ?_); (case he | hc => first | rfl | (simp [D.erL, D.er, D.cL, D.closed]; done))) | ((with_reducible first | refine zAb (c2) ?he ?hc ?_ | refine zAe (c2) ?he ?hc ?_ | refine zAf (c2) ?he ?hc ?_); (case he | hc => first | rfl | (simp [D.erL, D.er, D.cL, D.closed]; done))) | ((with_reducible first | refine zAb (c3) ?he ?hc ?_ | refine zAe (c3) ?he ?hc ?_ | refine zAf (c3) ?he ?hc ?_); (case he | hc => first | rfl | (simp [D.erL, D.er, D.cL, D.closed]; done))) | ((with_reducible first | refine zAb (c4) ?he ?hc ?_ | refine zAe (c4) ?he ?hc ?_ | refine zAf (c4) ?he ?hc ?_); (case he | hc => first | rfl | (simp [D.erL, D.er, D.cL, D.closed]; done))) | ((with_reducible first | refine zAb (c5) ?he ?hc ?_ | refine zAe (c5) ?he ?hc ?_ | refine zAf (c5) ?he ?hc ?_); (case he | hc => first | rfl | (simp [D.erL, D.er, D.cL, D.closed]; done))) | (with_reducible first | (apply cA; constructor) | (apply gA; constructor) | (apply qA; constructor)) | ((with_reducible refine And.intro ?hw ?_); (case hw => first | omega | rfl | exact ⟨_, _, rfl⟩ | assumption | (simp only [lN] <;> omega))) | with_reducible intro _)
    all_goals (congr 1; rw [Bool.eq_iff_iff]; simp only [zB7]; first | (simp_all; done) | (simp_all; omega) | (simp_all [eq_comm]; done) | (simp_all [eq_comm]; omega))
  by_cases h5 : op = 5
  · subst h5
    repeat' (first | with_reducible (apply swq; constructor) | simp only [go_sem, seval, P40, q40, hl, fillL] | ((with_reducible first | refine zAb (c1) ?he ?hc ?_ | refine zAe (c1) ?he ?hc ?_ | refine zAf (c1) ?he ?hc ?_); (case he | hc => first | rfl | (simp [D.erL, D.er, D.cL, D.closed]; done))) | ((with_reducible first | refine zAb (c2) ?he ?hc ?_ | refine zAe (c2) ?he ?hc ?_ | refine zAf (c2) ?he ?hc ?_); (case he | hc => first | rfl | (simp [D.erL, D.er, D.cL, D.closed]; done))) | ((with_reducible first | refine zAb (c3) ?he ?hc ?_ | refine zAe (c3) ?he ?hc ?_ | refine zAf (c3) ?he ?hc ?_); (case he | hc => first | rfl | (simp [D.erL, D.er, D.cL, D.closed]; done))) | ((with_reducible first | refine zAb (c4) ?he ?hc ?_ | refine zAe (c4) ?he ?hc ?_ | refine zAf (c4) ?he ?hc ?_); (case he | hc => first | rfl | (simp [D.erL, D.er, D.cL, D.closed]; done))) | ((with_reducible first | refine zAb (c5) ?he ?hc ?_ | refine zAe (c5) ?he ?hc ?_ | refine zAf (c5) ?he ?hc ?_); (case he | hc => first | rfl | (simp [D.erL, D.er, D.cL, D.closed]; done))) | (with_reducible first | (apply cA; constructor) | (apply gA; constructor) | (apply qA; constructor)) | ((with_reducible refine And.intro ?hw ?_); (case hw => first | omega | rfl | exact ⟨_, _, rfl⟩ | assumption | (simp only [lN] <;> omega))) | with_reducible intro _)
    refine zFn (zBu (zBk [1, 2, 3, 4, 5, 6, 7]) (weak_frz 0 [.int .i64 5, .str nm, .str vl, .int .i64 n, .int .i64 ex, .slice K .no] rfl (Nat.le_refl 0) (by simp [D.cL, D.closed, hcl]))) ?_
    simp only [St.frz, keepE, D.erL, D.er, her]
    simp [D.fz, D.fzL, Blk.mapD]
    refine hlim _ ?_
    simp only [limHp]
    simp only [show decide (15 < 18) = true from rfl, show decide (17 < 18) = true from rfl, if_true]
    have c6 := num_p ex 0
    repeat' (first | with_reducible (apply swq; constructor) | simp only [go_sem, seval, P40, q40, hl, fillL] | ((with_reducible first | refine zAb (c1) ?he ?hc ?_ | refine zAe (c1) ?he ?hc ?_ | refine zAf (c1) ?he ?hc ?_); (case he | hc => first | rfl | (simp [D.erL, D.er, D.cL, D.closed]; done))) | ((with_reducible first | refine zAb (c2) ?he ?hc ?_ | refine zAe (c2) ?he ?hc ?_ | refine zAf (c2) ?he ?hc ?_); (case he | hc => first | rfl | (simp [D.erL, D.er, D.cL, D.closed]; done))) | ((with_reducible first | refine zAb (c3) ?he ?hc ?_ | refine zAe (c3) ?he ?hc ?_ | refine zAf (c3) ?he ?hc ?_); (case he | hc => first | rfl | (simp [D.erL, D.er, D.cL, D.closed]; done))) | ((with_reducible first | refine zAb (c4) ?he ?hc ?_ | refine zAe (c4) ?he ?hc ?_ | refine zAf (c4) ?he ?hc ?_); (case he | hc => first | rfl | (simp [D.erL, D.er, D.cL, D.closed]; done))) | ((with_reducible first | refine zAb (c5) ?he ?hc ?_ | refine zAe (c5) ?he ?hc ?_ | refine zAf (c5) ?he ?hc ?_); (case he | hc => first | rfl | (simp [D.erL, D.er, D.cL, D.closed]; done))) | (with_reducible first | (apply cA; constructor) | (apply gA; constructor) | (apply qA; constructor)) | ((with_reducible refine And.intro ?hw ?_); (case hw => first | omega | rfl | exact ⟨_, _, rfl⟩ | assumption | (simp only [lN] <;> omega))) | with_reducible intro _)
    all_goals try simp only [Option.getD_some, D.er]
    all_goals first | (simp [D.closed]; done) | (congr 1; rw [Bool.eq_iff_iff]; simp only [zB7]; first | (simp_all; done) | (simp_all; omega) | (simp_all [eq_comm]; done) | (simp_all [eq_comm]; omega))
  by_cases h6 : op = 6
  · subst h6
    repeat' (first | with_reducible (apply swq; constructor) | simp only [go_sem, seval, P40, q40, hl, fillL] | ((with_reducible first | refine zAb (c1) ?he ?hc ?_ | refine zAe (c1) ?he ?hc ?_ | refine zAf (c1) ?he ?hc ?_); (case he | hc => first | rfl | (simp [D.erL, D.er, D.cL, D.closed]; done))) | ((with_reducible first | refine zAb (c2) ?he ?hc ?_ | refine zAe (c2) ?he ?hc ?_ | refine zAf (c2) ?he ?hc ?_); (case he | hc => first | rfl | (simp [D.erL, D.er, D.cL, D.closed]; done))) | ((with_reducible first | refine zAb (c3) ?he ?hc ?_ | refine zAe (c3) ?he ?hc ?_ | refine zAf (c3) ?he ?hc ?_); (case he | hc => first | rfl | (simp [D.erL, D.er, D.cL, D.closed]; done))) | ((with_reducible first | refine zAb (c4) ?he ?hc ?_ | refine zAe (c4) ?he ?hc ?_ | refine zAf (c4) ?he ?hc ?_); (case he | hc => first | rfl | (simp [D.erL, D.er, D.cL, D.closed]; done))) | ((with_reducible first | refine zAb (c5) ?he ?hc ?_ | refine zAe (c5) ?he ?hc ?_ | refine zAf (c5) ?he ?hc ?_); (case he | hc => first | rfl | (simp [D.erL, D.er, D.cL, D.closed]; done))) | (with_reducible first | (apply cA; constructor) | (apply gA; constructor) | (apply qA; constructor)) | ((with_reducible refine And.intro ?hw ?_); (case hw => first | omega | rfl | exact ⟨_, _, rfl⟩ | assumption | (simp only [lN] <;> omega))) | with_reducible intro _)
    all_goals (congr 1; rw [Bool.eq_iff_iff]; simp only [zB7]; first | (simp_all; done) | (simp_all; omega) | (simp_all [eq_comm]; done) | (simp_all [eq_comm]; omega))
  by_cases h7 : op = 7
  · subst h7
    repeat' (first | with_reducible (apply swq; constructor) | simp only [go_sem, seval, P40, q40, hl, fillL] | ((with_reducible first | refine zAb (c1) ?he ?hc ?_ | refine zAe (c1) ?he ?hc ?_ | refine zAf (c1) ?he ?hc ?_); (case he | hc => first | rfl | (simp [D.erL, D.er, D.cL, D.closed]; done))) | ((with_reducible first | refine zAb (c2) ?he ?hc ?_ | refine zAe (c2) ?he ?hc ?_ | refine zAf (c2) ?he ?hc ?_); (case he | hc => first | rfl | (simp [D.erL, D.er, D.cL, D.closed]; done))) | ((with_reducible first | refine zAb (c3) ?he ?hc ?_ | refine zAe (c3) ?he ?hc ?_ | refine zAf (c3) ?he ?hc ?_); (case he | hc => first | rfl | (simp [D.erL, D.er, D.cL, D.closed]; done))) | ((with_reducible first | refine zAb (c4) ?he ?hc ?_ | refine zAe (c4) ?he ?hc ?_ | refine zAf (c4) ?he ?hc ?_); (case he | hc => first | rfl | (simp [D.erL, D.er, D.cL, D.closed]; done))) | ((with_reducible first | refine zAb (c5) ?he ?hc ?_ | refine zAe (c5) ?he ?hc ?_ | refine zAf (c5) ?he ?hc ?_); (case he | hc => first | rfl | (simp [D.erL, D.er, D.cL, D.closed]; done))) | (with_reducible first | (apply cA; constructor) | (apply gA; constructor) | (apply qA; constructor)) | ((with_reducible refine And.intro ?hw ?_); (case hw => first | omega | rfl | exact ⟨_, _, rfl⟩ | assumption | (simp only [lN] <;> omega))) | with_reducible intro _)
    all_goals (congr 1; rw [Bool.eq_iff_iff]; simp only [zB7]; first | (simp_all; done) | (simp_all; omega) | (simp_all [eq_comm]; done) | (simp_all [eq_comm]; omega))
  by_cases h8 : op = 8
  · subst h8
    repeat' (first | with_reducible (apply swq; constructor) | simp only [go_sem, seval, P40, q40, hl, fillL] | ((with_reducible first | refine zAb (c1) ?he ?hc ?_ | refine zAe (c1) ?he ?hc ?_ | refine zAf (c1) ?he ?hc ?_); (case he | hc => first | rfl | (simp [D.erL, D.er, D.cL, D.closed]; done))) | ((with_reducible first | refine zAb (c2) ?he ?hc ?_ | refine zAe (c2) ?he ?hc ?_ | refine zAf (c2) ?he ?hc ?_); (case he | hc => first | rfl | (simp [D.erL, D.er, D.cL, D.closed]; done))) | ((with_reducible first | refine zAb (c3) ?he ?hc ?_ | refine zAe (c3) ?he ?hc ?_ | refine zAf (c3) ?he ?hc ?_); (case he | hc => first | rfl | (simp [D.erL, D.er, D.cL, D.closed]; done))) | ((with_reducible first | refine zAb (c4) ?he ?hc ?_ | refine zAe (c4) ?he ?hc ?_ | refine zAf (c4) ?he ?hc ?_); (case he | hc => first | rfl | (simp [D.erL, D.er, D.cL, D.closed]; done))) | ((with_reducible first | refine zAb (c5) ?he ?hc ?_ | refine zAe (c5) ?he ?hc ?_ | refine zAf (c5) ?he ?hc ?_); (case he | hc => first | rfl | (simp [D.erL, D.er, D.cL, D.closed]; done))) | (with_reducible first | (apply cA; constructor) | (apply gA; constructor) | (apply qA; constructor)) | ((with_reducible refine And.intro ?hw ?_); (case hw => first | omega | rfl | exact ⟨_, _, rfl⟩ | assumption | (simp only [lN] <;> omega))) | with_reducible intro _)
    all_goals (congr 1; rw [Bool.eq_iff_iff]; simp only [zB7]; first | (simp_all; done) | (simp_all; omega) | (simp_all [eq_comm]; done) | (simp_all [eq_comm]; omega))
  by_cases h9 : op = 9
  · subst h9
    repeat' (first | with_reducible (apply swq; constructor) | simp only [go_sem, seval, P40, q40, hl, fillL] | ((with_reducible first | refine zAb (c1) ?he ?hc ?_ | refine zAe (c1) ?he ?hc ?_ | refine zAf (c1) ?he ?hc ?_); (case he | hc => first | rfl | (simp [D.erL, D.er, D.cL, D.closed]; done))) | ((with_reducible first | refine zAb (c2) ?he ?hc ?_ | refine zAe (c2) ?he ?hc ?_ | refine zAf (c2) ?he ?hc ?_); (case he | hc => first | rfl | (simp [D.erL, D.er, D.cL, D.closed]; done))) | ((with_reducible first | refine zAb (c3) ?he ?hc ?_ | refine zAe (c3) ?he ?hc ?_ | refine zAf (c3) ?he ?hc ?_); (case he | hc => first | rfl | (simp [D.erL, D.er, D.cL, D.closed]; done))) | ((with_reducible first | refine zAb (c4) ?he ?hc ?_ | refine zAe (c4) ?he ?hc ?_ | refine zAf (c4) ?he ?hc ?_); (case he | hc => first | rfl | (simp [D.erL, D.er, D.cL, D.closed]; done))) | ((with_reducible first | refine zAb (c5) ?he ?hc ?_ | refine zAe (c5) ?he ?hc ?_ | refine zAf (c5) ?he ?hc ?_); (case he | hc => first | rfl | (simp [D.erL, D.er, D.cL, D.closed]; done))) | (with_reducible first | (apply cA; constructor) | (apply gA; constructor) | (apply qA; constructor)) | ((with_reducible refine And.intro ?hw ?_); (case hw => first | omega | rfl | exact ⟨_, _, rfl⟩ | assumption | (simp only [lN] <;> omega))) | with_reducible intro _)
    all_goals (congr 1; rw [Bool.eq_iff_iff]; simp only [zB7]; first | (simp_all; done) | (simp_all; omega) | (simp_all [eq_comm]; done) | (simp_all [eq_comm]; omega))
  by_cases h10 : op = 10
  · subst h10
    repeat' (first | with_reducible (apply swq; constructor) | simp only [go_sem, seval, P40, q40, hl, fillL] | ((with_reducible first | refine zAb (c1) ?he ?hc ?_ | refine zAe (c1) ?he ?hc ?_ | refine zAf (c1) ?he ?hc ?_); (case he | hc => first | rfl | (simp [D.erL, D.er, D.cL, D.closed]; done))) | ((with_reducible first | refine zAb (c2) ?he ?hc ?_ | refine zAe (c2) ?he ?hc ?_ | refine zAf (c2) ?he ?hc ?_); (case he | hc => first | rfl | (simp [D.erL, D.er, D.cL, D.closed]; done))) | ((with_reducible first | refine zAb (c3) ?he ?hc ?_ | refine zAe (c3) ?he ?hc ?_ | refine zAf (c3) ?he ?hc ?_); (case he | hc => first | rfl | (simp [D.erL, D.er, D.cL, D.closed]; done))) | ((with_reducible first | refine zAb (c4) ?he ?hc ?_ | refine zAe (c4) ?he ?hc ?_ | refine zAf (c4) ?he ?hc ?_); (case he | hc => first | rfl | (simp [D.erL, D.er, D.cL, D.closed]; done))) | ((with_reducible first | refine zAb (c5) ?he ?hc ?_ | refine zAe (c5) ?he ?hc ?_ | refine zAf (c5) ?he ?hc ?_); (case he | hc => first | rfl | (simp [D.erL, D.er, D.cL, D.closed]; done))) | (with_reducible first | (apply cA; constructor) | (apply gA; constructor) | (apply qA; constructor)) | ((with_reducible refine And.intro ?hw ?_); (case hw => first | omega | rfl | exact ⟨_, _, rfl⟩ | assumption | (simp only [lN] <;> omega))) | with_reducible intro _)
    all_goals (congr 1; rw [Bool.eq_iff_iff]; simp only [zB7]; first | (simp_all; done) | (simp_all; omega) | (simp_all [eq_comm]; done) | (simp_all [eq_comm]; omega))
  by_cases h11 : op = 11
  · subst h11
    repeat' (first | with_reducible (apply swq; constructor) | simp only [go_sem, seval, P40, q40, hl, fillL] | ((with_reducible first | refine zAb (c1) ?he ?hc ?_ | refine zAe (c1) ?he ?hc ?_ | refine zAf (c1) ?he ?hc ?_); (case he | hc => first | rfl | (simp [D.erL, D.er, D.cL, D.closed]; done))) | ((with_reducible first | refine zAb (c2) ?he ?hc ?_ | refine zAe (c2) ?he ?hc ?_ | refine zAf (c2) ?he ?hc ?_); (case he | hc => first | rfl | (simp [D.erL, D.er, D.cL, D.closed]; done))) | ((with_reducible first | refine zAb (c3) ?he ?hc ?_ | refine zAe (c3) ?he ?hc ?_ | refine zAf (c3) ?he ?hc ?_); (case he | hc => first | rfl | (simp [D.erL, D.er, D.cL, D.closed]; done))) | ((with_reducible first | refine zAb (c4) ?he ?hc ?_ | refine zAe (c4) ?he ?hc ?_ | refine zAf (c4) ?he ?hc ?_); (case he | hc => first | rfl | (simp [D.erL, D.er, D.cL, D.closed]; done))) | ((with_reducible first | refine zAb (c5) ?he ?hc ?_ | refine zAe (c5) ?he ?hc ?_ | refine zAf (c5) ?he ?hc ?_); (case he | hc => first | rfl | (simp [D.erL, D.er, D.cL, D.closed]; done))) | (with_reducible first | (apply cA; constructor) | (apply gA; constructor) | (apply qA; constructor)) | ((with_reducible refine And.intro ?hw ?_); (case hw => first | omega | rfl | exact ⟨_, _, rfl⟩ | assumption | (simp only [lN] <;> omega))) | with_reducible intro _)
    all_goals (congr 1; rw [Bool.eq_iff_iff]; simp only [zB7]; first | (simp_all; done) | (simp_all; omega) | (simp_all [eq_comm]; done) | (simp_all [eq_comm]; omega))
  by_cases h12 : op = 12
  · subst h12
    repeat' (first | with_reducible (apply swq; constructor) | simp only [go_sem, seval, P40, q40, hl, fillL] | ((with_reducible first | refine zAb (c1) ?he ?hc ?_ | refine zAe (c1) ?he ?hc ?_ | refine zAf (c1) ?he ?hc ?_); (case he | hc => first | rfl | (simp [D.erL, D.er, D.cL, D.closed]; done))) | ((with_reducible first | refine zAb (c2) ?he ?hc ?_ | refine zAe (c2) ?he ?hc ?_ | refine zAf (c2) ?he ?hc ?_); (case he | hc => first | rfl | (simp [D.erL, D.er, D.cL, D.closed]; done))) | ((with_reducible first | refine zAb (c3) ?he ?hc ?_ | refine zAe (c3) ?he ?hc ?_ | refine zAf (c3) ?he ?hc ?_); (case he | hc => first | rfl | (simp [D.erL, D.er, D.cL, D.closed]; done))) | ((with_reducible first | refine zAb (c4) ?he ?hc ?_ | refine zAe (c4) ?he ?hc ?_ | refine zAf (c4) ?he ?hc ?_); (case he | hc => first | rfl | (simp [D.erL, D.er, D.cL, D.closed]; done))) | ((with_reducible first | refine zAb (c5) ?he ?hc ?_ | refine zAe (c5) ?he ?hc ?_ | refine zAf (c5) ?he ?hc ?_); (case he | hc => first | rfl | (simp [D.erL, D.er, D.cL, D.closed]; done))) | (with_reducible first | (apply cA; constructor) | (apply gA; constructor) | (apply qA; constructor)) | ((with_reducible refine And.intro ?hw ?_); (case hw => first | omega | rfl | exact ⟨_, _, rfl⟩ | assumption | (simp only [lN] <;> omega))) | with_reducible intro _)
    all_goals (congr 1; rw [Bool.eq_iff_iff]; simp only [zB7]; first | (simp_all; done) | (simp_all; omega) | (simp_all [eq_comm]; done) | (simp_all [eq_comm]; omega))
  have n1 : (op == 1) = false := by simp [h1]
  have n2 : (op == 2) = false := by simp [h2]
  have n3 : (op == 3) = false := by simp [h3]
  have n4 : (op == 4) = false := by simp [h4]
  have n5 : (op == 5) = false := by simp [h5]
  have n6 : (op == 6) = false := by simp [h6]
  have n7 : (op == 7) = false := by simp [h7]
  have n8 : (op == 8) = false := by simp [h8]
  have n9 : (op == 9) = false := by simp [h9]
  have n10 : (op == 10) = false := by simp [h10]
  have n11 : (op == 11) = false := by simp [h11]
  have n12 : (op == 12) = false := by simp [h12]
  repeat' (first | with_reducible (apply swq; constructor) | simp only [go_sem, seval, P40, q40, hl, fillL, n1, n2, n3, n4, n5, n6, n7, n8, n9, n10, n11, n12] | ((with_reducible first | refine zAb (c1) ?he ?hc ?_ | refine zAe (c1) ?he ?hc ?_ | refine zAf (c1) ?he ?hc ?_); (case he | hc => first | rfl | (simp [D.erL, D.er, D.cL, D.closed]; done))) | ((with_reducible first | refine zAb (c2) ?he ?hc ?_ | refine zAe (c2) ?he ?hc ?_ | refine zAf (c2) ?he ?hc ?_); (case he | hc => first | rfl | (simp [D.erL, D.er, D.cL, D.closed]; done))) | ((with_reducible first | refine zAb (c3) ?he ?hc ?_ | refine zAe (c3) ?he ?hc ?_ | refine zAf (c3) ?he ?hc ?_); (case he | hc => first | rfl | (simp [D.erL, D.er, D.cL, D.closed]; done))) | ((with_reducible first | refine zAb (c4) ?he ?hc ?_ | refine zAe (c4) ?he ?hc ?_ | refine zAf (c4) ?he ?hc ?_); (case he | hc => first | rfl | (simp [D.erL, D.er, D.cL, D.closed]; done))) | ((with_reducible first | refine zAb (c5) ?he ?hc ?_ | refine zAe (c5) ?he ?hc ?_ | refine zAf (c5) ?he ?hc ?_); (case he | hc => first | rfl | (simp [D.erL, D.er, D.cL, D.closed]; done))) | (with_reducible first | (apply cA; constructor) | (apply gA; constructor) | (apply qA; constructor)) | ((with_reducible refine And.intro ?hw ?_); (case hw => first | omega | rfl | exact ⟨_, _, rfl⟩ | assumption | (simp only [lN] <;> omega))) | with_reducible intro _)
  all_goals (simp [zB7, h1, h2, h3, h4, h5, h6, h7, h8, h9, h10, h11, h12, D.closed, D.er])
end Go.Proofs.YtcchbohfcmfmlaaGreat
end
section
set_option maxRecDepth 100000
set_option linter.unusedSimpArgs false
set_option linter.unusedVariables false
namespace Go.Proofs.YtcchbohfcmfmlaaGreat
open Go GoV Go.RowKit
def RowsK (k : Nat) (K : List D) : Prop := ∀ j (h : j < K.length), ∃ cs, K[j] = .agg cs ∧ cs.length = k
theorem zFr {α : Type} {k : Nat} (f : α → D) (h : ∀ x, ∃ cs, f x = .agg cs ∧ cs.length = k) (l : List α) : RowsK k (l.map f) := fun j hj => by
  simp only [List.getElem_map]; exact h _
theorem rows_X (ks : List X) : RowsK 6 (ks.map X.d) := zFr _ (fun x => ⟨_, X.d_eq x, rfl⟩) ks
theorem rows_P (ps : List Pt) : RowsK 14 (ps.map ptD) := zFr _ (fun p => ⟨p.cells, rfl, rfl⟩) ps

theorem if65 (K : List D) (hR : RowsK 6 K) (hl : K.length < 4611686018427387904) (f : FuncId) (a c : List D) (hpF : Nat → Hp) (nH nT : Nat) (hH : ∀ j, (hpF j).H.length = nH) (hT : ∀ j, (hpF j).tk.length = nT) (n : Nat) (hn : n ≤ K.length)
    (hf : ∀ j (h : j < n) (h' : j < K.length), Eff M f (a ++ [K[j]] ++ c) (hpF j) fun d hp => d = .bool false ∧ hp = hpF (j + 1)) (r : Int) (e : Nat)
    (hr : (n = K.length ∧ r = -1 ∧ e = n) ∨ (∃ h : n < K.length, r = n ∧ e = n + 1 ∧ Eff M f (a ++ [K[n]] ++ c) (hpF n) fun d hp => d = .bool true ∧ hp = hpF (n + 1))) :
    Eff M 97 [.slice K .no, .fn (.func f) a c] (hpF 0) fun d hp => d = .int .i64 r ∧ hp = hpF e := by
  refine k97.oe nH nT rfl (hH 0).symm (hT 0).symm ?_
  rw [ie97]
  unfold c97
  repeat' (first | with_reducible (apply swq; constructor) | simp only [go_sem, seval, pe97, q97] | simp (disch := omega) only [w64, w32, wu8, wu16, wu32, wu64] | with_reducible (apply cA; constructor) | ((with_reducible refine And.intro ?hw ?_); (case hw => first | omega | rfl | exact ⟨_, _, rfl⟩ | assumption | (simp only [lN] <;> omega))) | with_reducible intro _)
  refine zAz [0, 1, 2, 4, 5] (fun j : Nat => ⟨[.slice K .no, .fn (.func f) a c, .int .i64 0, .u0, .int .i64 K.length, .int .i64 j, .u0, .u0], [], hpF j⟩) (fun j => j ≤ n) (fun j => n + 1 - j) 0 (by omega) ?_ ?_
  · simp [keepE, St.keep]
  · intro j hj
    by_cases hjn : j < n
    · have hjl : j < K.length := by omega
      obtain ⟨cs, e1, e2⟩ := hR j hjl
      have hg : K.getD j .u0 = .agg cs := by simp [List.getD, hjl, e1]
      have htk : cs.take 6 = cs := List.take_of_length_le (by omega)
      have c1 := hf j hjn hjl
      rw [e1] at c1
      repeat' (first | with_reducible (apply swq; constructor) | simp only [go_sem, seval, pe97, q97, hg, htk, e2] | simp (disch := omega) only [w64, w32, wu8, wu16, wu32, wu64] | ((with_reducible refine zBs (c1) ?he ?hh ?_); (case he => first | rfl | (simp [go_sem, seval, hg, e2]; done)); (case hh => first | rfl | (simp [go_sem, seval, hg, e2]; done))) | with_reducible (apply cA; constructor) | ((with_reducible refine And.intro ?hw ?_); (case hw => first | omega | rfl | exact ⟨_, _, rfl⟩ | assumption | (simp only [lN, hg, e2] <;> omega))) | with_reducible intro _)
      all_goals try omega
      all_goals try (refine ⟨j + 1, by omega, by omega, ?_⟩; simp [St.keep, keepE])
    · obtain rfl : j = n := by omega
      rcases hr with ⟨h1, rfl, rfl⟩ | ⟨h1, rfl, rfl, c1⟩
      · repeat' (first | with_reducible (apply swq; constructor) | simp only [go_sem, seval, pe97, q97] | simp (disch := omega) only [w64, w32, wu8, wu16, wu32, wu64] | with_reducible (apply cA; constructor) | ((with_reducible refine And.intro ?hw ?_); (case hw => first | omega | rfl | exact ⟨_, _, rfl⟩ | assumption | (simp only [lN] <;> omega))) | with_reducible intro _)
        all_goals try omega
        all_goals exact ⟨_, zAh, by simp⟩
      · obtain ⟨cs, e1, e2⟩ := hR j h1
        have hg : K.getD j .u0 = .agg cs := by simp [List.getD, h1, e1]
        have htk : cs.take 6 = cs := List.take_of_length_le (by omega)
        rw [e1] at c1
        repeat' (first | with_reducible (apply swq; constructor) | simp only [go_sem, seval, pe97, q97, hg, htk, e2] | simp (disch := omega) only [w64, w32, wu8, wu16, wu32, wu64] | ((with_reducible refine zBs (c1) ?he ?hh ?_); (case he => first | rfl | (simp [go_sem, seval, hg, e2]; done)); (case hh => first | rfl | (simp [go_sem, seval, hg, e2]; done))) | with_reducible (apply cA; constructor) | ((with_reducible refine And.intro ?hw ?_); (case hw => first | omega | rfl | exact ⟨_, _, rfl⟩ | assumption | (simp only [lN, hg, e2] <;> omega))) | with_reducible intro _)
        all_goals try omega
        all_goals exact ⟨_, zAh, by simp⟩
theorem cf52 (K : List D) (hR : RowsK 6 K) (hl : K.length < 4611686018427387904) (f : FuncId) (a c : List D) (hpF : Nat → Hp) (nH nT : Nat) (hH : ∀ j, (hpF j).H.length = nH) (hT : ∀ j, (hpF j).tk.length = nT) (n : Nat) (hn : n ≤ K.length)
    (hf : ∀ j (h : j < n) (h' : j < K.length), Eff M f (a ++ [K[j]] ++ c) (hpF j) fun d hp => d = .bool false ∧ hp = hpF (j + 1)) (r : Bool) (e : Nat)
    (hr : (n = K.length ∧ r = false ∧ e = n) ∨ (∃ h : n < K.length, r = true ∧ e = n + 1 ∧ Eff M f (a ++ [K[n]] ++ c) (hpF n) fun d hp => d = .bool true ∧ hp = hpF (n + 1))) :
    Eff M 74 [.slice K .no, .fn (.func f) a c] (hpF 0) fun d hp => d = .bool r ∧ hp = hpF e := by
  have c1 : Eff M 97 [.slice K .no, .fn (.func f) a c] (hpF 0) fun d hp => d = .int .i64 (if r then (n : Int) else -1) ∧ hp = hpF e :=
    if65 K hR hl f a c hpF nH nT hH hT n hn hf _ e (by
      rcases hr with ⟨h1, rfl, rfl⟩ | ⟨h1, rfl, rfl, h2⟩
      · exact .inl ⟨h1, by simp, rfl⟩
      · exact .inr ⟨h1, by simp, rfl, h2⟩)
  refine k74.oe nH nT rfl (hH 0).symm (hT 0).symm ?_
  rw [ie74]
  unfold c74
  cases r
  · simp only [Bool.false_eq_true, if_false] at c1
    repeat' (first | with_reducible (apply swq; constructor) | simp only [go_sem, seval, pe74, q74] | simp (disch := omega) only [w64, w32, wu8, wu16, wu32, wu64] | ((with_reducible refine zBs (c1) ?he ?hh ?_); (case he => first | rfl | (simp [go_sem, seval]; done)); (case hh => first | rfl | (simp [go_sem, seval]; done))) | with_reducible (apply cA; constructor) | ((with_reducible refine And.intro ?hw ?_); (case hw => first | omega | rfl | exact ⟨_, _, rfl⟩ | assumption | (simp only [lN] <;> omega))) | with_reducible intro _)
    all_goals exact ⟨_, zAh, by simp⟩
  · simp only [if_true] at c1
    repeat' (first | with_reducible (apply swq; constructor) | simp only [go_sem, seval, pe74, q74] | simp (disch := omega) only [w64, w32, wu8, wu16, wu32, wu64] | ((with_reducible refine zBs (c1) ?he ?hh ?_); (case he => first | rfl | (simp [go_sem, seval]; done)); (case hh => first | rfl | (simp [go_sem, seval]; done))) | with_reducible (apply cA; constructor) | ((with_reducible refine And.intro ?hw ?_); (case hw => first | omega | rfl | exact ⟨_, _, rfl⟩ | assumption | (simp only [lN] <;> omega))) | with_reducible intro _)
    all_goals refine ⟨_, zAh, by simp⟩

abbrev visB : Hp := ⟨[.cells [.fn (.func 40) [] []]], []⟩
mutual
def zCn : X → Bool
  | .mk _ nm vl _ _ ks => decide (nm.length ≤ 300) && decide (vl.length ≤ 300) && zFa ks
def zFa : List X → Bool
  | [] => true
  | k :: ks => zCn k && zFa ks
end
theorem shortBL_mem : ∀ {ks : List X}, zFa ks = true → ∀ k ∈ ks, zCn k = true
  | [], _, k, h => by simp at h
  | k' :: ks, h, k, hk => by
    simp only [zFa, Bool.and_eq_true] at h
    rcases List.mem_cons.1 hk with rfl | hk
    · exact h.1
    · exact shortBL_mem h.2 k hk
def X.sm (x : X) : Prop := zCn x = true ∧ x.nodes ≤ 100
theorem X.sm_parts {x : X} (h : x.sm) : x.nam.length ≤ 300 ∧ x.val.length ≤ 300 ∧ (∀ k ∈ x.kids, k.sm) ∧ x.kids.length < 100 := by
  have h2 := kids_len x
  have h3 : ∀ k ∈ x.kids, k.nodes < x.nodes := fun k hk => zD0 hk
  obtain ⟨hs, hn⟩ := h
  cases x
  simp only [zCn, Bool.and_eq_true, decide_eq_true_eq, X.nam, X.val, X.kids] at *
  exact ⟨hs.1.1, hs.1.2, fun k hk => ⟨shortBL_mem hs.2 k hk, by have := h3 k hk; omega⟩, by omega⟩
theorem wellL_all : ∀ ks : List X, wellL ks = ks.all well
  | [] => rfl
  | k :: ks => by simp [wellL, wellL_all ks]
theorem w53 (x : X) (ih : Pur M 39 [x.d, .fn (.func 40) [] []] (.bool (well x))) : Eff M 75 [x.d, .ptr 0 0] visB fun d hp => d = .bool (!well x) ∧ hp = visB := by
  refine k75.oe 1 0 rfl rfl rfl ?_
  rw [ie75]
  unfold c75
  have hcl := cl_X x
  have her := er_X x
  rw [X.d_eq] at ih hcl her ⊢
  unfold visB
  repeat' (first | with_reducible (apply swq; constructor) | simp only [go_sem, seval, pe75, q75] | ((with_reducible refine zAb (ih) ?he ?hc ?_); (case he | hc => first | rfl | (simp [D.erL, D.er, D.cL, D.closed, hcl, her]; done))) | with_reducible (apply cA; constructor) | ((with_reducible refine And.intro ?hw ?_); (case hw => first | omega | rfl | exact ⟨_, _, rfl⟩ | assumption | (simp only [lN, hcl, her] <;> omega))) | with_reducible intro _)
  refine ⟨_, zB2 1 0 (Nat.le_refl _) (Nat.le_refl _), ?_⟩
  simp [St.gc, Hp.cut, D.rnL, D.rn, cutF, Blk.rn, Blk.rnL, Tv.rnL]
theorem cfAll (ks : List X) (hk : ks.length < 100) (ih : ∀ k ∈ ks, Pur M 39 [k.d, .fn (.func 40) [] []] (.bool (well k))) :
    Eff M 74 [.slice (ks.map X.d) .no, .fn (.func 75) [] [.ptr 0 0]] visB fun d hp => d = .bool (!ks.all well) ∧ hp = visB := by
  have hl : (ks.map X.d).length = ks.length := by simp
  have e1 : ∀ j (h : j < ks.length), Eff M 75 ([] ++ [(ks.map X.d)[j]'(by rw [hl]; exact h)] ++ [.ptr 0 0]) visB fun d hp => d = .bool (!well ks[j]) ∧ hp = visB := fun j h => by
    simp only [List.getElem_map]
    exact w53 _ (ih _ (List.getElem_mem h))
  rcases zE0 (p := fun k => well k = false) ks with ⟨i, h, h1, h2⟩ | h
  · have hr : (!ks.all well) = true := by
      simp only [Bool.not_eq_true', List.all_eq_false]
      exact ⟨ks[i], List.getElem_mem h, by simp [h1]⟩
    rw [hr]
    refine cf52 (ks.map X.d) (rows_X ks) (by omega) 75 [] [.ptr 0 0] (fun _ => visB) 1 0 (fun _ => rfl) (fun _ => rfl) i (by omega) (fun j hj hj' => ?_) true (i + 1) (.inr ⟨by omega, rfl, rfl, ?_⟩)
    · have := e1 j (by omega)
      rw [show well ks[j] = true by simpa using h2 j hj] at this
      exact this
    · have := e1 i h
      rw [h1] at this
      exact this
  · have hr : (!ks.all well) = false := by
      simp only [Bool.not_eq_false', List.all_eq_true]
      intro k hk
      obtain ⟨j, hj, rfl⟩ := List.getElem_of_mem hk
      simpa using h j hj
    rw [hr]
    refine cf52 (ks.map X.d) (rows_X ks) (by omega) 75 [] [.ptr 0 0] (fun _ => visB) 1 0 (fun _ => rfl) (fun _ => rfl) ks.length (by omega) (fun j hj hj' => ?_) false ks.length (.inl ⟨hl.symm, rfl, rfl⟩)
    have := e1 j hj
    rw [show well ks[j] = true by simpa using h j hj] at this
    exact this
theorem good_p : ∀ (k : Nat) (x : X), x.nodes ≤ k → x.sm → Pur M 39 [x.d, .fn (.func 40) [] []] (.bool (well x))
  | 0, x, hk, _ => by have := zDy x; omega
  | k + 1, x, hk, hs => by
    obtain ⟨s1, s2, s3, s4⟩ := X.sm_parts hs
    have c1 := node_p x (by omega) (by omega)
    have c2 := cfAll x.kids s4 fun y hy => good_p k y (by have := zD0 hy; omega) (s3 y hy)
    rw [X.well_eq, wellL_all]
    refine k39.ok (C := C39) rfl rfl ?_
    rw [i39]
    unfold c39
    unfold visB at c2
    have hcl := zBg x.kids
    have her := erL_X x.kids
    rw [X.d_eq] at c1 ⊢
    generalize zB7 x.op x.nam x.val x.num x.ext x.kids.length = b at *
    cases b
    · repeat' (first | with_reducible (apply swq; constructor) | simp only [go_sem, seval, P39, q39] | ((with_reducible refine zAb (c1) ?he ?hc ?_); (case he | hc => first | rfl | (simp [D.erL, D.er, D.cL, D.closed, hcl, her]; done))) | (with_reducible first | (apply cA; constructor) | (apply gA; constructor)) | ((with_reducible refine And.intro ?hw ?_); (case hw => first | omega | rfl | exact ⟨_, _, rfl⟩ | assumption | (simp only [lN, hcl, her] <;> omega))) | with_reducible intro _)
      all_goals first | omega | (simp_all [D.closed, D.er, D.cL, D.erL]; done) | (simp_all [D.closed, D.er, D.cL, D.erL] <;> omega)
    · generalize x.kids.all well = b2 at *
      repeat' (first | with_reducible (apply swq; constructor) | simp only [go_sem, seval, P39, q39] | ((with_reducible refine zAb (c1) ?he ?hc ?_); (case he | hc => first | rfl | (simp [D.erL, D.er, D.cL, D.closed, hcl, her, D.rnL, D.rn, posF, Hp.sel, Blk.rnL, Blk.rn, Tv.rnL, idx]; done))) | ((with_reducible refine o_eff [1] [] (c2) ?hs ?he ?hh ?_); (case hs => exact ⟨by simp, by simp, by simp, by simp⟩); (case he => first | rfl | (simp [go_sem, seval, hcl, her, D.rnL, D.rn, posF, Hp.sel, Blk.rnL, Blk.rn, Tv.rnL, idx]; done)); (case hh => first | rfl | (simp [go_sem, seval, hcl, her, D.rnL, D.rn, posF, Hp.sel, Blk.rnL, Blk.rn, Tv.rnL, idx]; done)); rintro _ _ ⟨rfl, rfl⟩) | (with_reducible first | (apply cA; constructor) | (apply gA; constructor)) | ((with_reducible refine And.intro ?hw ?_); (case hw => first | omega | rfl | exact ⟨_, _, rfl⟩ | assumption | (simp only [lN, hcl, her, D.rnL, D.rn, posF, Hp.sel, Blk.rnL, Blk.rn, Tv.rnL, idx] <;> omega))) | with_reducible intro _)
      all_goals first | omega | (simp_all [D.closed, D.er, D.cL, D.erL]; done) | (simp_all [D.closed, D.er, D.cL, D.erL] <;> omega)
end Go.Proofs.YtcchbohfcmfmlaaGreat
end
section
set_option maxRecDepth 100000
set_option linter.unusedSimpArgs false
set_option linter.unusedVariables false
namespace Go.Proofs.YtcchbohfcmfmlaaGreat
open Go GoV Go.RowKit
abbrev cnt1 (n : Nat) : Hp := ⟨[.cells [.int .i64 n]], []⟩
abbrev cnt2 (n : Nat) : Hp := ⟨[.cells [.int .i64 n], .cells [.fn (.func 73) [] [.ptr 0 0]]], []⟩
theorem sz51 (x : X) (n : Nat) (hn : n < 1000) : Eff M 73 [x.d, .ptr 0 0] (cnt1 n) fun d hp => d = .bool (decide (n + 1 ≤ 60)) ∧ hp = cnt1 (n + 1) := by
  refine k73.oe 1 0 rfl rfl rfl ?_
  rw [ie73]
  unfold c73
  unfold cnt1
  rw [X.d_eq]
  repeat' (first | with_reducible (apply swq; constructor) | simp only [go_sem, seval, pe73, q73] | simp (disch := omega) only [w64, w32, wu8, wu16, wu32, wu64] | with_reducible (apply cA; constructor) | ((with_reducible refine And.intro ?hw ?_); (case hw => first | omega | rfl | exact ⟨_, _, rfl⟩ | assumption | (simp only [lN] <;> omega))) | with_reducible intro _)
  all_goals try omega
  refine ⟨_, zB2 1 0 (Nat.le_refl _) (Nat.le_refl _), ?_⟩
  simp [St.gc, Hp.cut, D.rnL, D.rn, cutF, Blk.rn, Blk.rnL, Tv.rnL, setL]
  omega
theorem sz53 (x : X) (n : Nat) (ih : Eff M 39 [x.d, .fn (.func 73) [] [.ptr 0 0]] (cnt1 n) fun d hp => d = .bool (decide (n + x.nodes ≤ 60)) ∧ hp = cnt1 (min (n + x.nodes) 61)) :
    Eff M 75 [x.d, .ptr 1 0] (cnt2 n) fun d hp => d = .bool (!decide (n + x.nodes ≤ 60)) ∧ hp = cnt2 (min (n + x.nodes) 61) := by
  refine k75.oe 2 0 rfl rfl rfl ?_
  rw [ie75]
  unfold c75
  generalize x.nodes = m at *
  rw [X.d_eq] at ih ⊢
  unfold cnt2
  unfold cnt1 at ih
  repeat' (first | with_reducible (apply swq; constructor) | simp only [go_sem, seval, pe75, q75] | ((with_reducible refine o_eff [0] [] (ih) ?hs ?he ?hh ?_); (case hs => exact ⟨by simp, by simp, by simp, by simp⟩); (case he => first | rfl | (simp [go_sem, seval, D.rnL, D.rn, posF, Hp.sel, Blk.rnL, Blk.rn, Tv.rnL, idx]; done)); (case hh => first | rfl | (simp [go_sem, seval, D.rnL, D.rn, posF, Hp.sel, Blk.rnL, Blk.rn, Tv.rnL, idx]; done)); rintro _ _ ⟨rfl, rfl⟩) | with_reducible (apply cA; constructor) | ((with_reducible refine And.intro ?hw ?_); (case hw => first | omega | rfl | exact ⟨_, _, rfl⟩ | assumption | (simp only [lN, D.rnL, D.rn, posF, Hp.sel, Blk.rnL, Blk.rn, Tv.rnL, idx] <;> omega))) | with_reducible intro _)
  refine ⟨_, zB2 2 0 (Nat.le_refl _) (Nat.le_refl _), ?_⟩
  simp [St.gc, Hp.cut, Hp.back, putAt, bakF, D.rnL, D.rn, cutF, Blk.rn, Blk.rnL, Tv.rnL, setL]
theorem zFd : ∀ (ks : List X) (j : Nat) (h : j < ks.length), X.nodesL (ks.take (j + 1)) = X.nodesL (ks.take j) + ks[j].nodes
  | k :: ks, 0, h => by simp [X.nodesL]
  | k :: ks, j + 1, h => by
    simp only [List.take_succ_cons, X.nodesL, List.getElem_cons_succ]
    rw [zFd ks j (by simpa using h)]; omega
theorem nodesL_le (ks : List X) (j : Nat) : X.nodesL (ks.take j) ≤ X.nodesL ks := by
  induction ks generalizing j with
  | nil => simp
  | cons k ks ih =>
    cases j with
    | zero => simp [X.nodesL]
    | succ j => simp only [List.take_succ_cons, X.nodesL]; have := ih j; omega
theorem szAll (ks : List X) (n : Nat) (hn : n ≤ 60) (hk : ks.length < 100) (ih : ∀ k ∈ ks, ∀ n, n ≤ 60 → Eff M 39 [k.d, .fn (.func 73) [] [.ptr 0 0]] (cnt1 n) fun d hp => d = .bool (decide (n + k.nodes ≤ 60)) ∧ hp = cnt1 (min (n + k.nodes) 61)) :
    Eff M 74 [.slice (ks.map X.d) .no, .fn (.func 75) [] [.ptr 1 0]] (cnt2 n) fun d hp => d = .bool (!decide (n + X.nodesL ks ≤ 60)) ∧ hp = cnt2 (min (n + X.nodesL ks) 61) := by
  have hl : (ks.map X.d).length = ks.length := by simp
  have e1 : ∀ j (h : j < ks.length), n + X.nodesL (ks.take j) ≤ 60 → Eff M 75 ([] ++ [(ks.map X.d)[j]'(by rw [hl]; exact h)] ++ [.ptr 1 0]) (cnt2 (min (n + X.nodesL (ks.take j)) 61)) fun d hp => d = .bool (!decide (n + X.nodesL (ks.take (j + 1)) ≤ 60)) ∧ hp = cnt2 (min (n + X.nodesL (ks.take (j + 1))) 61) := fun j h h0 => by
    have := sz53 ks[j] (n + X.nodesL (ks.take j)) (ih _ (List.getElem_mem h) _ h0)
    rw [zFd ks j h, ← Nat.add_assoc, Nat.min_eq_left (show n + X.nodesL (ks.take j) ≤ 61 by omega)]
    simp only [List.getElem_map]
    exact this
  have h0 : cnt2 n = cnt2 (min (n + X.nodesL (ks.take 0)) 61) := by simp [X.nodesL, Nat.min_eq_left (show n ≤ 61 by omega)]
  rw [h0]
  rcases zE0 (p := fun j => ¬ n + X.nodesL (ks.take (j + 1)) ≤ 60) (List.range ks.length) with ⟨i, h, h1, h2⟩ | h
  · simp only [List.getElem_range, List.length_range] at h h1
    have h2' : ∀ j, j < i → n + X.nodesL (ks.take (j + 1)) ≤ 60 := fun j hj => by have := h2 j hj; simp only [List.getElem_range] at this; omega
    have hle := nodesL_le ks (i + 1)
    have hi : n + X.nodesL (ks.take i) ≤ 60 := by
      cases i with
      | zero => simpa [X.nodesL] using hn
      | succ i => exact h2' i (by omega)
    have hr : (!decide (n + X.nodesL ks ≤ 60)) = true := by simp; omega
    rw [hr, show min (n + X.nodesL ks) 61 = min (n + X.nodesL (ks.take (i + 1))) 61 by omega]
    refine cf52 (ks.map X.d) (rows_X ks) (by omega) 75 [] [.ptr 1 0] (fun j => cnt2 (min (n + X.nodesL (ks.take j)) 61)) 2 0 (fun _ => rfl) (fun _ => rfl) i (by omega) (fun j hj hj' => ?_) true (i + 1) (.inr ⟨by omega, rfl, rfl, ?_⟩)
    · have := e1 j (by omega) (by
        cases j with
        | zero => simpa [X.nodesL] using hn
        | succ j => exact h2' j (by omega))
      rw [show (!decide (n + X.nodesL (ks.take (j + 1)) ≤ 60)) = false by simp [h2' j hj]] at this
      exact this
    · have := e1 i h hi
      rw [show (!decide (n + X.nodesL (ks.take (i + 1)) ≤ 60)) = true by simp; omega] at this
      exact this
  · have h2' : ∀ j, j < ks.length → n + X.nodesL (ks.take (j + 1)) ≤ 60 := fun j hj => by have := h j (by simpa using hj); simp only [List.getElem_range] at this; omega
    have hle : n + X.nodesL ks ≤ 60 := by
      rcases Nat.eq_zero_or_pos ks.length with q | q
      · have := List.eq_nil_of_length_eq_zero q
        subst this; simpa [X.nodesL] using hn
      · have := h2' (ks.length - 1) (by omega)
        rwa [List.take_of_length_le (by omega)] at this
    have hr : (!decide (n + X.nodesL ks ≤ 60)) = false := by simp; omega
    rw [hr, show min (n + X.nodesL ks) 61 = min (n + X.nodesL (ks.take ks.length)) 61 by rw [List.take_length]]
    refine cf52 (ks.map X.d) (rows_X ks) (by omega) 75 [] [.ptr 1 0] (fun j => cnt2 (min (n + X.nodesL (ks.take j)) 61)) 2 0 (fun _ => rfl) (fun _ => rfl) ks.length (by omega) (fun j hj hj' => ?_) false ks.length (.inl ⟨hl.symm, rfl, rfl⟩)
    have := e1 j hj (by
      cases j with
      | zero => simpa [X.nodesL] using hn
      | succ j => exact h2' j (by omega))
    rw [show (!decide (n + X.nodesL (ks.take (j + 1)) ≤ 60)) = false by simp [h2' j hj]] at this
    exact this
theorem sz35 : ∀ (k : Nat) (x : X), x.nodes ≤ k → x.sm → ∀ n, n ≤ 60 → Eff M 39 [x.d, .fn (.func 73) [] [.ptr 0 0]] (cnt1 n) fun d hp => d = .bool (decide (n + x.nodes ≤ 60)) ∧ hp = cnt1 (min (n + x.nodes) 61)
  | 0, x, hk, _, _, _ => by have := zDy x; omega
  | k + 1, x, hk, hs, n, hn => by
    obtain ⟨s1, s2, s3, s4⟩ := X.sm_parts hs
    have c1 := sz51 x n (by omega)
    have hN := X.nodes_eq x
    refine k39.oe 1 0 rfl rfl rfl ?_
    rw [ie39]
    unfold c39
    unfold cnt1 at c1 ⊢
    have hcl := zBg x.kids
    have her := erL_X x.kids
    rw [X.d_eq] at c1 ⊢
    by_cases h : n + 1 ≤ 60
    · have c2 := szAll x.kids (n + 1) h s4 fun y hy m hm => sz35 k y (by have := zD0 hy; omega) (s3 y hy) m hm
      rw [show n + 1 + X.nodesL x.kids = n + x.nodes by omega] at c2
      generalize x.nodes = m at *
      rw [decide_eq_true h] at c1
      unfold cnt2 at c2
      repeat' (first | with_reducible (apply swq; constructor) | simp only [go_sem, seval, pe39, q39] | ((with_reducible refine o_eff [0] [] (c1) ?hs ?he ?hh ?_); (case hs => exact ⟨by simp, by simp, by simp, by simp⟩); (case he => first | rfl | (simp [go_sem, seval, hcl, her, D.rnL, D.rn, posF, Hp.sel, Blk.rnL, Blk.rn, Tv.rnL, idx, Hp.back, putAt, bakF]; done)); (case hh => first | rfl | (simp [go_sem, seval, hcl, her, D.rnL, D.rn, posF, Hp.sel, Blk.rnL, Blk.rn, Tv.rnL, idx, Hp.back, putAt, bakF]; done)); rintro _ _ ⟨rfl, rfl⟩) | ((with_reducible refine o_eff [0, 2] [] (c2) ?hs ?he ?hh ?_); (case hs => exact ⟨by simp, by simp, by simp, by simp⟩); (case he => first | rfl | (simp [go_sem, seval, hcl, her, D.rnL, D.rn, posF, Hp.sel, Blk.rnL, Blk.rn, Tv.rnL, idx, Hp.back, putAt, bakF]; done)); (case hh => first | rfl | (simp [go_sem, seval, hcl, her, D.rnL, D.rn, posF, Hp.sel, Blk.rnL, Blk.rn, Tv.rnL, idx, Hp.back, putAt, bakF]; done)); rintro _ _ ⟨rfl, rfl⟩) | (with_reducible first | (apply cA; constructor) | (apply gA; constructor)) | ((with_reducible refine And.intro ?hw ?_); (case hw => first | omega | rfl | exact ⟨_, _, rfl⟩ | assumption | (simp only [lN, hcl, her, D.rnL, D.rn, posF, Hp.sel, Blk.rnL, Blk.rn, Tv.rnL, idx, Hp.back, putAt, bakF] <;> omega))) | with_reducible intro _)
      all_goals refine ⟨_, zB2 1 0 (Nat.le_refl _) (Nat.le_refl _), ?_⟩
      all_goals simp [St.gc, Hp.cut, Hp.back, putAt, bakF, D.rnL, D.rn, cutF, Blk.rn, Blk.rnL, Tv.rnL, setL]
    · rw [decide_eq_false h] at c1
      repeat' (first | with_reducible (apply swq; constructor) | simp only [go_sem, seval, pe39, q39] | ((with_reducible refine o_eff [0] [] (c1) ?hs ?he ?hh ?_); (case hs => exact ⟨by simp, by simp, by simp, by simp⟩); (case he => first | rfl | (simp [go_sem, seval, hcl, her, D.rnL, D.rn, posF, Hp.sel, Blk.rnL, Blk.rn, Tv.rnL, idx]; done)); (case hh => first | rfl | (simp [go_sem, seval, hcl, her, D.rnL, D.rn, posF, Hp.sel, Blk.rnL, Blk.rn, Tv.rnL, idx]; done)); rintro _ _ ⟨rfl, rfl⟩) | (with_reducible first | (apply cA; constructor) | (apply gA; constructor)) | ((with_reducible refine And.intro ?hw ?_); (case hw => first | omega | rfl | exact ⟨_, _, rfl⟩ | assumption | (simp only [lN, hcl, her, D.rnL, D.rn, posF, Hp.sel, Blk.rnL, Blk.rn, Tv.rnL, idx] <;> omega))) | with_reducible intro _)
      all_goals refine ⟨_, zB2 1 0 (Nat.le_refl _) (Nat.le_refl _), ?_⟩
      all_goals simp [St.gc, Hp.cut, Hp.back, putAt, bakF, D.rnL, D.rn, cutF, Blk.rn, Blk.rnL, Tv.rnL, setL]
      all_goals omega
theorem size_p (x : X) (hs : x.sm) : Pur M 38 [x.d] (.int .i64 (min x.nodes 61 : Nat)) := by
  refine k38.ok (C := C38) rfl rfl ?_
  rw [i38]
  unfold c38
  have c1 := sz35 x.nodes x (Nat.le_refl _) hs 0 (by omega)
  rw [Nat.zero_add] at c1
  generalize x.nodes = m at *
  unfold cnt1 at c1
  rw [X.d_eq] at c1 ⊢
  repeat' (first | with_reducible (apply swq; constructor) | simp only [go_sem, seval, P38, q38] | ((with_reducible refine o_eff [1] [] (c1) ?hs ?he ?hh ?_); (case hs => exact ⟨by simp, by simp, by simp, by simp⟩); (case he => first | rfl | (simp [go_sem, seval, D.rnL, D.rn, posF, Hp.sel, Blk.rnL, Blk.rn, Tv.rnL, idx]; done)); (case hh => first | rfl | (simp [go_sem, seval, D.rnL, D.rn, posF, Hp.sel, Blk.rnL, Blk.rn, Tv.rnL, idx]; done)); rintro _ _ ⟨rfl, rfl⟩) | with_reducible (apply cA; constructor) | ((with_reducible refine And.intro ?hw ?_); (case hw => first | omega | rfl | exact ⟨_, _, rfl⟩ | assumption | (simp only [lN, D.rnL, D.rn, posF, Hp.sel, Blk.rnL, Blk.rn, Tv.rnL, idx] <;> omega))) | with_reducible intro _)
  all_goals first | omega | (simp_all [D.closed, D.er, D.cL, D.erL, Hp.back, putAt, bakF, D.rnL, D.rn, Blk.rn, Blk.rnL, Tv.rnL]; done) | (simp_all [D.closed, D.er, D.cL, D.erL, Hp.back, putAt, bakF, D.rnL, D.rn, Blk.rn, Blk.rnL, Tv.rnL] <;> omega)
theorem rname_p : Pur M 28 [.str [114]] (.bool true) := name_p [114] (by decide)
theorem rkind_p : Pur M 28 [.str [107]] (.bool true) := name_p [107] (by decide)
@[reducible] def ruleD (x : X) : D := .agg [.str [114], .str [107], .int .i64 x.op, .str x.nam, .str x.val, .int .i64 x.num, .int .i64 x.ext, .slice (x.kids.map X.d) .no]
theorem rvalidX_p (x : X) (hs : x.sm) : Pur M 23 [ruleD x] (.bool (validF x)) := by
  refine k23.ok (C := C23) rfl rfl ?_
  rw [i23]
  unfold c23
  have c1 := rname_p
  have c2 := rkind_p
  have c3 := size_p x hs
  have c4 := good_p x.nodes x (Nat.le_refl _) hs
  have hcl := zBg x.kids
  have her := erL_X x.kids
  unfold validF
  rw [X.d_eq] at c3 c4
  generalize well x = b at *
  have hm : ((min x.nodes 61 : Nat) : Int) ≤ 60 ↔ x.nodes ≤ 60 := by omega
  generalize min x.nodes 61 = q at *
  generalize x.nodes = m at *
  repeat' (first | with_reducible (apply swq; constructor) | simp only [go_sem, seval, P23, q23] | ((with_reducible refine zAb (c1) ?he ?hc ?_); (case he | hc => first | rfl | (simp [D.erL, D.er, D.cL, D.closed, hcl, her]; done))) | ((with_reducible refine zAb (c2) ?he ?hc ?_); (case he | hc => first | rfl | (simp [D.erL, D.er, D.cL, D.closed, hcl, her]; done))) | ((with_reducible refine zAb (c3) ?he ?hc ?_); (case he | hc => first | rfl | (simp [D.erL, D.er, D.cL, D.closed, hcl, her]; done))) | ((with_reducible refine zAb (c4) ?he ?hc ?_); (case he | hc => first | rfl | (simp [D.erL, D.er, D.cL, D.closed, hcl, her]; done))) | (with_reducible first | (apply cA; constructor) | (apply gA; constructor)) | ((with_reducible refine And.intro ?hw ?_); (case hw => first | omega | rfl | exact ⟨_, _, rfl⟩ | assumption | (simp only [lN, hcl, her] <;> omega))) | with_reducible intro _)
  all_goals first | omega | (simp_all [D.closed, D.er, D.cL, D.erL, hm]; done) | (simp_all [D.closed, D.er, D.cL, D.erL, hm] <;> omega)
end Go.Proofs.YtcchbohfcmfmlaaGreat
end
section
set_option maxRecDepth 100000
set_option linter.unusedSimpArgs false
set_option linter.unusedVariables false
namespace Go.Proofs.YtcchbohfcmfmlaaGreat
open Go GoV Go.RowKit
@[reducible] def zeroC : List D := [.str [], .str [], .str [], .str [], .int .i64 0, .int .i64 0, .bool false, .lit (.slice none 0 0), .int .i64 0, .int .i64 0, .int .i64 0, .int .i64 0, .int .i64 0, .int .i64 0]
def zA8 (nm : List UInt8) (i : Nat) : List Pt → Option (Pt × Nat)
  | [] => none
  | p :: ps => if p.name == nm then some (p, i) else zA8 nm (i + 1) ps
theorem zCa (nm : List UInt8) : ∀ (l : List Pt) (i : Nat), (zA8 nm i l).map (·.1) = getP l nm
  | [], i => rfl
  | p :: ps, i => by
    unfold getP
    simp only [zA8, List.find?]
    cases p.name == nm
    · exact zCa nm ps (i + 1)
    · rfl
theorem zEq {nm : List UInt8} : ∀ {l : List Pt} {i : Nat} {q : Pt × Nat}, zA8 nm i l = some q → q.1.name = nm ∧ i ≤ q.2 ∧ q.2 - i < l.length ∧ l[q.2 - i]? = some q.1
  | [], i, q, h => by simp [zA8] at h
  | p :: ps, i, q, h => by
    simp only [zA8] at h
    split at h
    · rename_i e
      simp only [Option.some.injEq] at h
      subst h
      simp only [beq_iff_eq] at e
      simp [e]
    · obtain ⟨h1, h2, h3, h4⟩ := zEq h
      refine ⟨h1, by omega, by simp; omega, ?_⟩
      rw [show q.2 - i = (q.2 - (i + 1)) + 1 by omega]
      simpa using h4
def zAp (seen : List (List UInt8)) (i : Nat) : List Pt → List (Pt × Nat)
  | [] => []
  | p :: ps => if seen.contains p.name then zAp seen (i + 1) ps else (p, i) :: zAp (seen ++ [p.name]) (i + 1) ps
theorem zDf : ∀ (l : List Pt) (seen : List (List UInt8)) (i : Nat), (zAp seen i l).map (·.1) = zB1 seen l
  | [], _, _ => rfl
  | p :: ps, seen, i => by
    simp only [zAp, zB1]
    split
    · exact zDf ps _ _
    · simp [zDf ps]
theorem zFg : ∀ (l : List Pt) (p : Pt) (seen : List (List UInt8)) (i : Nat), zAp seen i (l ++ [p]) = zAp seen i l ++ (bif seen.contains p.name || (l.any fun q => q.name == p.name) then [] else [(p, i + l.length)])
  | [], p, seen, i => by
    simp only [List.nil_append, zAp, List.any_nil, Bool.or_false, List.length_nil, Nat.add_zero]
    cases seen.contains p.name <;> rfl
  | q :: l, p, seen, i => by
    simp only [List.cons_append, zAp, List.any_cons, List.length_cons]
    by_cases h : seen.contains q.name = true
    · rw [if_pos h, if_pos h, zFg l p seen (i + 1)]
      congr 1
      have e : (seen.contains p.name || (q.name == p.name || l.any fun q => q.name == p.name)) = (seen.contains p.name || l.any fun q => q.name == p.name) := by
        by_cases e2 : q.name = p.name
        · rw [← e2, h]; rfl
        · have e3 : (q.name == p.name) = false := by simpa using e2
          rw [e3, Bool.false_or]
      rw [e, show i + 1 + l.length = i + (l.length + 1) by omega]
    · rw [if_neg h, if_neg h, zFg l p (seen ++ [q.name]) (i + 1)]
      have e : ((seen ++ [q.name]).contains p.name || l.any fun q => q.name == p.name) = (seen.contains p.name || (q.name == p.name || l.any fun q => q.name == p.name)) := by
        rw [Bool.eq_iff_iff]
        simp only [List.contains_eq_mem, Bool.or_eq_true, decide_eq_true_eq, List.mem_append, List.mem_singleton, beq_iff_eq]
        constructor
        · rintro ((h | h) | h)
          · exact .inl h
          · exact .inr (.inl h.symm)
          · exact .inr (.inr h)
        · rintro (h | h | h)
          · exact .inl (.inl h)
          · exact .inl (.inr h.symm)
          · exact .inr h
      rw [e, show i + 1 + l.length = i + (l.length + 1) by omega, List.cons_append]
def entsF : List (Pt × Nat) → Nat → List (D × D × Nat)
  | [], _ => []
  | q :: l, b => (.str q.1.name, .int .i64 q.2, b) :: entsF l (b + 1)
theorem entsF_len : ∀ (l : List (Pt × Nat)) (b : Nat), (entsF l b).length = l.length
  | [], _ => rfl
  | q :: l, b => by simp [entsF, entsF_len l]
theorem entsF_app : ∀ (l : List (Pt × Nat)) (q : Pt × Nat) (b : Nat), entsF (l ++ [q]) b = entsF l b ++ [(.str q.1.name, .int .i64 q.2, b + l.length)]
  | [], q, b => rfl
  | x :: l, q, b => by simp [entsF, entsF_app l q]; omega
theorem entsF_ok : ∀ (l : List (Pt × Nat)) (b : Nat), ((entsF l b).all fun e => keyOk .str e.1) = true
  | [], _ => rfl
  | q :: l, b => by
    simp only [entsF, List.all_cons, keyOk, Bool.true_and]
    exact entsF_ok l (b + 1)
theorem entsF_find (nm : List UInt8) : ∀ (l : List (Pt × Nat)) (b i : Nat), (l.find? (fun q => q.1.name == nm) = none → findM (.str nm) (entsF l b) i = none) ∧
    ∀ q, l.find? (fun q => q.1.name == nm) = some q → ∃ j, findM (.str nm) (entsF l b) i = some (j, .int .i64 q.2)
  | [], b, i => ⟨fun _ => rfl, fun q h => by simp at h⟩
  | x :: l, b, i => by
    have ih := entsF_find nm l (b + 1) (i + 1)
    have e : keq (.str nm) (.str x.1.name) = (x.1.name == nm) := by rw [keq, Bool.eq_iff_iff]; simp only [beq_iff_eq]; exact eq_comm
    simp only [entsF, findM, e, List.find?]
    cases x.1.name == nm
    · exact ih
    · exact ⟨fun h => by simp at h, fun q h => by simp only [Option.some.injEq] at h; subst h; exact ⟨i, rfl⟩⟩
theorem zDm (nm : List UInt8) : ∀ (l : List Pt) (seen : List (List UInt8)) (i : Nat), seen.contains nm = false → (zAp seen i l).find? (fun q => q.1.name == nm) = zA8 nm i l
  | [], _, _, _ => rfl
  | p :: ps, seen, i, h => by
    simp only [zAp, zA8]
    by_cases hs : seen.contains p.name = true
    · rw [if_pos hs]
      have : (p.name == nm) = false := by
        cases e : p.name == nm with
        | false => rfl
        | true => simp only [beq_iff_eq] at e; rw [e, h] at hs; cases hs
      rw [this]
      exact zDm nm ps seen _ h
    · rw [if_neg hs]
      simp only [List.find?]
      cases e : p.name == nm
      · simp only [Bool.false_eq_true, if_false]
        refine zDm nm ps _ _ ?_
        simp only [beq_eq_false_iff_ne] at e
        simp only [List.contains_eq_mem, decide_eq_false_iff_not, List.mem_append, List.mem_singleton] at h ⊢
        exact fun q => q.elim h (fun q => e q.symm)
      · rfl
theorem pairs_app (β τ : Nat → Option Nat) : ∀ (a b : List (D × D × Nat)), pairs β τ (a ++ b) = pairs β τ a ++ pairs β τ b
  | [], b => rfl
  | (x, y, n) :: a, b => by simp [pairs, pairs_app β τ a b]
theorem entsF_rn (β τ : Nat → Option Nat) : ∀ (l : List (Pt × Nat)) (b : Nat), pairs β τ (entsF l b) = entsF l b
  | [], _ => rfl
  | q :: l, b => by simp [entsF, pairs, D.rn, entsF_rn β τ l]
def ofM (s : List Pt) : List (D × D × Nat) := entsF (zAp [] 0 s) 0
theorem zFv (s : List Pt) (β τ : Nat → Option Nat) : pairs β τ (ofM s) = ofM s := entsF_rn β τ _ _
theorem ofM_ok (s : List Pt) : ((ofM s).all fun e => keyOk .str e.1) = true := entsF_ok _ _
theorem ofM_none {s : List Pt} {nm : List UInt8} (h : zA8 nm 0 s = none) : findM (.str nm) (ofM s) 0 = none :=
  (entsF_find nm _ 0 0).1 (by rw [zDm nm s [] 0 rfl]; exact h)
theorem ofM_some {s : List Pt} {nm : List UInt8} {q : Pt × Nat} (h : zA8 nm 0 s = some q) : ∃ j, findM (.str nm) (ofM s) 0 = some (j, .int .i64 q.2) :=
  (entsF_find nm _ 0 0).2 q (by rw [zDm nm s [] 0 rfl]; exact h)
theorem firstAt_any {nm : List UInt8} : ∀ {l : List Pt} {i : Nat}, (zA8 nm i l = none ↔ (l.any fun q => q.name == nm) = false)
  | [], i => by simp [zA8]
  | p :: ps, i => by
    simp only [zA8, List.any_cons]
    cases p.name == nm
    · simpa using firstAt_any (l := ps) (i := i + 1)
    · simp
theorem ofM_step {s : List Pt} {i : Nat} (h : i < s.length) : ofM (s.take (i + 1)) = (match zA8 (s[i]).name 0 (s.take i) with | none => ofM (s.take i) ++ [(.str (s[i]).name, .int .i64 i, (ofM (s.take i)).length)] | some _ => ofM (s.take i)) := by
  have e : s.take (i + 1) = s.take i ++ [s[i]] := by rw [List.take_succ_eq_append_getElem h]
  have hl : (s.take i).length = i := by simp; omega
  unfold ofM
  rw [e, zFg]
  have h0 : ([] : List (List UInt8)).contains s[i].name = false := rfl
  rw [h0, Bool.false_or, hl, Nat.zero_add]
  cases hf : zA8 s[i].name 0 (s.take i) with
  | none =>
    rw [firstAt_any.1 hf]
    simp only [cond_false]
    rw [entsF_app, entsF_len, Nat.zero_add]
  | some q =>
    have : ((s.take i).any fun q => q.name == s[i].name) = true := by
      cases e : (s.take i).any fun q => q.name == s[i].name with
      | true => rfl
      | false => rw [firstAt_any.2 e] at hf; cases hf
    rw [this]; simp
theorem zBx {s : List Pt} {i : Nat} (h : i < s.length) : (s.map ptD).getD i .u0 = ptD s[i] := by simp [List.getD, h]
theorem find_some (s : List Pt) (hl : s.length < 1000000) (nm : List UInt8) (p : Pt) (h : getP s nm = some p) : Pur M 41 [zA4 s, .str nm] (.tup [ptD p, .bool true]) := by
  refine k41.ok (C := C41) rfl rfl ?_
  rw [i41]
  unfold c41
  have hlen : (s.map ptD).length = s.length := by simp
  have hcl : D.cL (s.map ptD) = true := by
    have : ∀ l : List Pt, D.cL (l.map ptD) = true := fun l => by induction l with | nil => rfl | cons x l ih => simp [D.cL, cl_P, ih]
    exact this s
  rw [← zCa nm s 0] at h
  obtain ⟨⟨p', k⟩, hq, rfl⟩ := Option.map_eq_some_iff.1 h
  obtain ⟨q1, q2, q3, q4⟩ := zEq hq
  simp only [Nat.sub_zero] at q3 q4
  have hbefore : ∀ j (hj : j < k), (s[j]'(by omega)).name ≠ nm := by
    have gen : ∀ (l : List Pt) (i : Nat), zA8 nm i l = some (p', k) → ∀ j (h1 : j < l.length), j + i < k → l[j].name ≠ nm := by
      intro l
      induction l with
      | nil => intro i h; simp [zA8] at h
      | cons x l ih =>
        intro i h j h1 h2
        simp only [zA8] at h
        split at h
        · simp only [Option.some.injEq, Prod.mk.injEq] at h; omega
        · rename_i e
          cases j with
          | zero => simpa using e
          | succ j => simpa using ih (i + 1) h j (by simpa using h1) (by omega)
    exact fun j hj => gen s 0 hq j (by omega) (by omega)
  have hk : s[k] = p' := by rw [List.getElem?_eq_getElem q3] at q4; simpa using q4
  repeat' (first | with_reducible (apply swq; constructor) | simp only [go_sem, seval, P41, q41, hlen] | with_reducible (apply cA; constructor) | ((with_reducible refine And.intro ?hw ?_); (case hw => first | omega | rfl | exact ⟨_, _, rfl⟩ | assumption | (simp only [lN] <;> omega))) | with_reducible intro _)
  refine zB0 [0, 1, 2, 3, 4, 6, 7, 8] 2 0 (Nat.zero_le _) (Nat.le_refl _) (fun i : Nat => ⟨[zA4 s, .str nm, .ptr 0 0, .ptr 1 0, .bool false, .u0, zAy s, .int .i64 s.length, .int .i64 i, .u0, .u0], [], ⟨[.cells [zAy s], .cells zeroC], []⟩⟩) (fun i => i ≤ k) (fun i => k + 1 - i) 0 (by omega) ?_ ?_
  · simp [keepE, St.keepG, St.keep, St.gc, Hp.cut, D.rnL, D.rn, cutF, Blk.rn, Blk.rnL, Tv.rnL, Own.rn]
  · intro i hi
    have hil : i < s.length := by omega
    have hg : (s.map ptD).getD i .u0 = .agg (s[i]).cells := zBx hil
    have hb : (s[i].name == nm) = decide (i = k) := by
      by_cases e : i = k
      · subst e; rw [hk, q1]; simp
      · simp [e, hbefore i (by omega)]
    repeat' (first | with_reducible (apply swq; constructor) | simp only [go_sem, seval, P41, q41, hlen, hg, hb] | simp (disch := omega) only [w64, w32, wu8, wu16, wu32, wu64] | with_reducible (apply cA; constructor) | ((with_reducible refine And.intro ?hw ?_); (case hw => first | omega | rfl | exact ⟨_, _, rfl⟩ | assumption | (simp only [lN, hlen, hg] <;> omega))) | with_reducible intro _)
    all_goals try omega
    all_goals first
      | (rename_i h9; exact absurd hil (by omega))
      | (refine ⟨i + 1, by omega, by omega, ?_⟩; simp [keepE, St.keepG, St.keep, St.gc, Hp.cut, D.rnL, D.rn, cutF, Blk.rn, Blk.rnL, Tv.rnL, Own.rn])
      | (rename_i h9; subst h9; rw [hk]; simp [D.closed, D.er, D.cL, D.erL, ptD, setL]; done)
      | skip
theorem find_none (s : List Pt) (hl : s.length < 1000000) (nm : List UInt8) (h : getP s nm = none) : Pur M 41 [zA4 s, .str nm] (.tup [ptD default, .bool false]) := by
  refine pur_res (d := .tup [.agg zeroC, .bool false]) (k41.ok (C := C41) rfl rfl ?_) (by simp [D.nn, D.nnL, ptD, Pt.cells, default, instInhabitedPt])
  rw [i41]
  unfold c41
  have hlen : (s.map ptD).length = s.length := by simp
  rw [← zCa nm s 0] at h
  have hq : zA8 nm 0 s = none := by simpa using h
  have hne : ∀ j (hj : j < s.length), (s[j].name == nm) = false := fun j hj => by
    have := firstAt_any.1 hq
    simp only [List.any_eq_false] at this
    simpa using this s[j] (List.getElem_mem hj)
  repeat' (first | with_reducible (apply swq; constructor) | simp only [go_sem, seval, P41, q41, hlen] | with_reducible (apply cA; constructor) | ((with_reducible refine And.intro ?hw ?_); (case hw => first | omega | rfl | exact ⟨_, _, rfl⟩ | assumption | (simp only [lN] <;> omega))) | with_reducible intro _)
  refine zB0 [0, 1, 2, 3, 4, 6, 7, 8] 2 0 (Nat.zero_le _) (Nat.le_refl _) (fun i : Nat => ⟨[zA4 s, .str nm, .ptr 0 0, .ptr 1 0, .bool false, .u0, zAy s, .int .i64 s.length, .int .i64 i, .u0, .u0], [], ⟨[.cells [zAy s], .cells zeroC], []⟩⟩) (fun i => i ≤ s.length) (fun i => s.length + 1 - i) 0 (by omega) ?_ ?_
  · simp [keepE, St.keepG, St.keep, St.gc, Hp.cut, D.rnL, D.rn, cutF, Blk.rn, Blk.rnL, Tv.rnL, Own.rn, pairs]
  · intro i hi
    by_cases hil : i < s.length
    · have hg : (s.map ptD).getD i .u0 = .agg (s[i]).cells := zBx hil
      have hb := hne i hil
      repeat' (first | with_reducible (apply swq; constructor) | simp only [go_sem, seval, P41, q41, hlen, hg, hb] | simp (disch := omega) only [w64, w32, wu8, wu16, wu32, wu64] | with_reducible (apply cA; constructor) | ((with_reducible refine And.intro ?hw ?_); (case hw => first | omega | rfl | exact ⟨_, _, rfl⟩ | assumption | (simp only [lN, hlen, hg] <;> omega))) | with_reducible intro _)
      all_goals try omega
      refine ⟨i + 1, by omega, by omega, ?_⟩
      simp [keepE, St.keepG, St.keep, St.gc, Hp.cut, D.rnL, D.rn, cutF, Blk.rn, Blk.rnL, Tv.rnL, Own.rn, pairs]
    · repeat' (first | with_reducible (apply swq; constructor) | simp only [go_sem, seval, P41, q41, hlen, fillL] | simp (disch := omega) only [w64, w32, wu8, wu16, wu32, wu64] | with_reducible (apply cA; constructor) | ((with_reducible refine And.intro ?hw ?_); (case hw => first | omega | rfl | exact ⟨_, _, rfl⟩ | assumption | (simp only [lN, hlen] <;> omega))) | with_reducible intro _)
      all_goals try omega
      all_goals simp [D.closed, D.er, D.cL, D.erL, setL]
theorem find_p (s : List Pt) (hl : s.length < 1000000) (nm : List UInt8) : Pur M 41 [zA4 s, .str nm] (.tup [ptD (find0 s nm), .bool (getP s nm).isSome]) := by
  unfold find0
  cases h : getP s nm with
  | none => exact find_none s hl nm h
  | some p => exact find_some s hl nm p h
abbrev yardD (s : List Pt) (b : Nat) : D := .agg [zAy s, .mp b]
theorem take_all {s : List Pt} {i : Nat} (h : ¬ i < s.length) : s.take i = s := List.take_of_length_le (by omega)
set_option maxHeartbeats 1000000 in
theorem of_e (s : List Pt) (hl : s.length < 1000000) : Eff M 17 [zA4 s] ⟨[], []⟩ fun d hp => d = yardD s 0 ∧ hp = ⟨[.map (ofM s) (ofM s).length, .cells [zAy s, .mp 0]], []⟩ := by
  refine k17.oe 0 0 rfl rfl rfl ?_
  rw [ie17]
  unfold c17
  have hlen : (s.map ptD).length = s.length := by simp
  repeat' (first | with_reducible (apply swq; constructor) | simp only [go_sem, seval, pe17, q17, fillL, zAt] | ((with_reducible apply s_mpu); (case h1 | hk => rfl); (case ha | hp => first | rfl | assumption)) | ((with_reducible apply zAl); (case h1 | hk => rfl); (case ha | hf => first | rfl | assumption)) | ((with_reducible apply zAm); (case h1 | hk => rfl); (case hf | ha => first | rfl | assumption)) | with_reducible (apply cA; constructor) | ((with_reducible refine And.intro ?hw ?_); (case hw => first | omega | rfl | exact ⟨_, _, rfl⟩ | assumption | (simp only [lN] <;> omega))) | with_reducible intro _)
  refine zB0 (C := E17 0 0) [0, 1, 2, 3, 7, 8, 9] 4 0 (Nat.zero_le 4) (Nat.le_refl 0) (fun i : Nat => ⟨[zA4 s, .ptr 0 0, .ptr 1 0, .ptr 3 0, .u0, .u0, .u0, zAy s, .int .i64 s.length, .int .i64 i, .u0, .u0], [],
    ⟨[.cells [zAy s], .cells [.lit (.slice none 0 0), .lit (.map none)], .map (ofM (s.take i)) (ofM (s.take i)).length, .cells [zAy s, .mp 2]], []⟩⟩) (fun i => i ≤ s.length) (fun i => s.length + 1 - i) 0 (by omega) ?_ ?_
  · simp [keepE, St.keepG, St.keep, St.gc, Hp.cut, D.rnL, D.rn, cutF, Blk.rn, Blk.rnL, Tv.rnL, Own.rn, pairs]
    exact ⟨rfl, rfl⟩
  · intro i hi
    by_cases hil : i < s.length
    · have hg : (s.map ptD).getD i .u0 = .agg (s[i]).cells := zBx hil
      have hok := ofM_ok (s.take i)
      have hst := ofM_step hil
      have hE := fun β τ => zFv (s.take i) β τ
      cases hf : zA8 (s[i]).name 0 (s.take i) with
      | none =>
        have hn := ofM_none hf
        rw [hf] at hst
        simp only at hst
        generalize ofM (s.take i) = E at *
        have hput : putM E E.length (.str (s[i]).name) (.int .i64 i) = .map (E ++ [(.str (s[i]).name, .int .i64 i, E.length)]) (E.length + 1) := by simp [putM, hn]
        repeat' (first | with_reducible (apply swq; constructor) | simp only [go_sem, seval, pe17, q17, hlen, hg, zAt] | simp (disch := omega) only [w64, w32, wu8, wu16, wu32, wu64] | ((with_reducible apply s_mpu); (case h1 | hk => rfl); (case ha | hp => first | rfl | assumption)) | ((with_reducible apply zAl); (case h1 | hk => rfl); (case ha | hf => first | rfl | assumption)) | ((with_reducible apply zAm); (case h1 | hk => rfl); (case hf | ha => first | rfl | assumption)) | with_reducible (apply cA; constructor) | ((with_reducible refine And.intro ?hw ?_); (case hw => first | omega | rfl | exact ⟨_, _, rfl⟩ | assumption | (simp only [lN, hlen, hg, hok, hn, hput] <;> omega))) | with_reducible intro _)
        all_goals try omega
        all_goals refine ⟨i + 1, by omega, by omega, ?_⟩
        all_goals simp [keepE, St.keepG, St.keep, St.gc, Hp.cut, D.rnL, D.rn, cutF, Blk.rn, Blk.rnL, Tv.rnL, Own.rn, pairs, pairs_app, hE, hst, hput]
      | some q =>
        obtain ⟨j, hs⟩ := ofM_some hf
        rw [hf] at hst
        simp only at hst
        generalize ofM (s.take i) = E at *
        repeat' (first | with_reducible (apply swq; constructor) | simp only [go_sem, seval, pe17, q17, hlen, hg, zAt] | simp (disch := omega) only [w64, w32, wu8, wu16, wu32, wu64] | ((with_reducible apply s_mpu); (case h1 | hk => rfl); (case ha | hp => first | rfl | assumption)) | ((with_reducible apply zAl); (case h1 | hk => rfl); (case ha | hf => first | rfl | assumption)) | ((with_reducible apply zAm); (case h1 | hk => rfl); (case hf | ha => first | rfl | assumption)) | with_reducible (apply cA; constructor) | ((with_reducible refine And.intro ?hw ?_); (case hw => first | omega | rfl | exact ⟨_, _, rfl⟩ | assumption | (simp only [lN, hlen, hg, hok, hs] <;> omega))) | with_reducible intro _)
        all_goals try omega
        all_goals refine ⟨i + 1, by omega, by omega, ?_⟩
        all_goals simp [keepE, St.keepG, St.keep, St.gc, Hp.cut, D.rnL, D.rn, cutF, Blk.rn, Blk.rnL, Tv.rnL, Own.rn, pairs, pairs_app, hE, hst]
    · have hE := fun β τ => zFv s β τ
      simp only [take_all hil]
      generalize ofM s = E at *
      repeat' (first | with_reducible (apply swq; constructor) | simp only [go_sem, seval, pe17, q17, hlen, zAt] | simp (disch := omega) only [w64, w32, wu8, wu16, wu32, wu64] | ((with_reducible apply s_mpu); (case h1 | hk => rfl); (case ha | hp => first | rfl | assumption)) | ((with_reducible apply zAl); (case h1 | hk => rfl); (case ha | hf => first | rfl | assumption)) | ((with_reducible apply zAm); (case h1 | hk => rfl); (case hf | ha => first | rfl | assumption)) | with_reducible (apply cA; constructor) | ((with_reducible refine And.intro ?hw ?_); (case hw => first | omega | rfl | exact ⟨_, _, rfl⟩ | assumption | (simp only [lN, hlen] <;> omega))) | with_reducible intro _)
      all_goals try omega
      refine ⟨_, zDh [2, 1] [] ⟨by simp, by simp, by simp, by simp⟩ rfl rfl, ?_⟩
      simp [St.sel, Hp.sel, D.rnL, D.rn, posF, idx, Blk.rn, Blk.rnL, Tv.rnL, Own.rn, pairs, hE, setL]
      exact ⟨_, rfl, by simp, by simp⟩
end Go.Proofs.YtcchbohfcmfmlaaGreat
end
section
set_option maxRecDepth 100000
set_option linter.unusedSimpArgs false
set_option linter.unusedVariables false
namespace Go.Proofs.YtcchbohfcmfmlaaGreat
open Go GoV Go.RowKit
abbrev mapH (s : List Pt) : Hp := ⟨[.map (ofM s) (ofM s).length], []⟩
theorem of_m (s : List Pt) (hl : s.length < 1000000) : Eff M 17 [zA4 s] ⟨[], []⟩ fun d hp => d = yardD s 0 ∧ hp = mapH s := by
  refine eff_cut 1 0 (of_e s hl) (Nat.zero_le 1) (Nat.zero_le 0) ?_ ?_
  · simp [D.rn, D.rnL, Own.rn, cutF]
  · have hE := fun β τ => zFv s β τ
    simp [Hp.cut, Blk.rnL, Blk.rn, Tv.rnL, hE]
theorem get_none (s : List Pt) (hl : s.length < 1000000) (nm : List UInt8) (h : getP s nm = none) : Eff M 19 [yardD s 0, .str nm] (mapH s) fun d hp => d = .tup [.agg zeroC, .bool false] ∧ hp = mapH s := by
  rw [← zCa nm s 0] at h
  have hq : zA8 nm 0 s = none := by simpa using h
  have hn := ofM_none hq
  have hok := ofM_ok s
  have hE := fun β τ => zFv s β τ
  unfold mapH
  generalize ofM s = E at *
  refine eff_cut 1 0 (hp1 := ⟨[.map E E.length, .cells zeroC], []⟩) (d0 := .tup [.agg zeroC, .bool false]) (k19.oe 1 0 rfl rfl rfl ?_) (Nat.le_refl 1) (Nat.zero_le 0) (by simp [D.rn, D.rnL]) (by simp [Hp.cut, Blk.rnL, Blk.rn, Tv.rnL, hE])
  rw [ie19]
  unfold c19
  repeat' (first | with_reducible (apply swq; constructor) | simp only [go_sem, seval, pe19, q19, fillL] | ((with_reducible apply zAl); (case h1 | hk => rfl); (case ha | hf => first | rfl | assumption)) | ((with_reducible apply zAm); (case h1 | hk => rfl); (case hf | ha => first | rfl | assumption)) | with_reducible (apply cA; constructor) | ((with_reducible refine And.intro ?hw ?_); (case hw => first | omega | rfl | exact ⟨_, _, rfl⟩ | assumption | (simp only [lN, hok, hn] <;> omega))) | with_reducible intro _)
  refine ⟨_, zDh [0, 2] [] ⟨by simp, by simp, by simp, by simp⟩ rfl rfl, ?_⟩
  simp [St.sel, Hp.sel, D.rnL, D.rn, posF, idx, Blk.rn, Blk.rnL, Tv.rnL, Own.rn, pairs, hE, setL]
  exact ⟨_, rfl, by simp, by simp⟩
theorem get_some (s : List Pt) (hl : s.length < 1000000) (nm : List UInt8) (p : Pt) (h : getP s nm = some p) : Eff M 19 [yardD s 0, .str nm] (mapH s) fun d hp => d = .tup [ptD p, .bool true] ∧ hp = mapH s := by
  rw [← zCa nm s 0] at h
  obtain ⟨⟨p', k⟩, hq, rfl⟩ := Option.map_eq_some_iff.1 h
  obtain ⟨q1, q2, q3, q4⟩ := zEq hq
  simp only [Nat.sub_zero] at q3 q4
  obtain ⟨j, hs⟩ := ofM_some hq
  have hok := ofM_ok s
  have hE := fun β τ => zFv s β τ
  have hg : (s.map ptD).getD k .u0 = .agg p'.cells := by rw [zBx q3]; rw [List.getElem?_eq_getElem q3] at q4; simp only [Option.some.injEq] at q4; rw [q4]; rfl
  have hlen : (s.map ptD).length = s.length := by simp
  unfold mapH
  generalize ofM s = E at *
  simp only at hs ⊢
  refine eff_cut 1 0 (hp1 := ⟨[.map E E.length, .cells p'.cells], []⟩) (d0 := .tup [ptD p', .bool true]) (k19.oe 1 0 rfl rfl rfl ?_) (Nat.le_refl 1) (Nat.zero_le 0) (by simp [ptD, D.rn, D.rnL, Own.rn]) (by simp [Hp.cut, Blk.rnL, Blk.rn, Tv.rnL, hE])
  rw [ie19]
  unfold c19
  repeat' (first | with_reducible (apply swq; constructor) | simp only [go_sem, seval, pe19, q19, fillL, hlen, hg] | ((with_reducible apply zAl); (case h1 | hk => rfl); (case ha | hf => first | rfl | assumption)) | ((with_reducible apply zAm); (case h1 | hk => rfl); (case hf | ha => first | rfl | assumption)) | with_reducible (apply cA; constructor) | ((with_reducible refine And.intro ?hw ?_); (case hw => first | omega | rfl | exact ⟨_, _, rfl⟩ | assumption | (simp only [lN, hok, hs, hlen, hg] <;> omega))) | with_reducible intro _)
  all_goals try omega
  all_goals refine ⟨_, zDh [0, 2] [] ⟨by simp, by simp, by simp, by simp⟩ rfl rfl, ?_⟩
  all_goals simp [St.sel, Hp.sel, D.rnL, D.rn, posF, idx, Blk.rn, Blk.rnL, Tv.rnL, Own.rn, pairs, hE, setL]
  all_goals exact ⟨_, rfl, by simp, by simp [ptD]⟩
set_option maxHeartbeats 1000000 in
theorem root_p (s : List Pt) (hl : s.length < 1000000) (part : List UInt8) : Pur M 24 [zA4 s, .str part] (.str (root s part)) := by
  refine k24.ok (C := C24) rfl rfl ?_
  rw [i24]
  unfold c24
  have hlen : (s.map ptD).length = s.length := by simp
  have c1 := of_m s hl
  have hE := fun β τ => zFv s β τ
  have hgn := fun nm h => get_none s hl nm h
  have hgs := fun nm p h => get_some s hl nm p h
  unfold mapH at c1 hgn hgs
  generalize ofM s = E at *
  repeat' (first | with_reducible (apply swq; constructor) | simp only [go_sem, seval, P24, q24, hlen, hE] | ((with_reducible refine o_eff [] [] (c1) ?hs ?he ?hh ?_); (case hs => exact ⟨by simp, by simp, by simp, by simp⟩); (case he => first | rfl | (simp [go_sem, seval, D.rnL, D.rn, posF, Hp.sel, Blk.rnL, Blk.rn, Tv.rnL, idx, Hp.back, putAt, bakF, hE]; done)); (case hh => first | rfl | (simp [go_sem, seval, D.rnL, D.rn, posF, Hp.sel, Blk.rnL, Blk.rn, Tv.rnL, idx, Hp.back, putAt, bakF, hE]; done)); rintro _ _ ⟨rfl, rfl⟩) | with_reducible (apply cA; constructor) | ((with_reducible refine And.intro ?hw ?_); (case hw => first | omega | rfl | exact ⟨_, _, rfl⟩ | assumption | (simp only [lN, D.rnL, D.rn, posF, Hp.sel, Blk.rnL, Blk.rn, Tv.rnL, idx, Hp.back, putAt, bakF, hE] <;> omega))) | with_reducible intro _)
  refine zB0 (C := C24) [0, 1, 2, 3, 4, 7, 8] 3 0 (Nat.zero_le 3) (Nat.le_refl 0) (fun p : Nat × List UInt8 => ⟨[zA4 s, .str p.2, .ptr 0 0, .str [], .ptr 2 0, .u0, .u0, .int .i64 s.length, .int .i64 p.1, .u0, .u0, .u0], [],
    ⟨[.cells [zAy s], .map E E.length, .cells [zAy s, .mp 1]], []⟩⟩) (fun p => p.1 ≤ s.length ∧ rootN s (s.length - p.1) p.2 = root s part) (fun p => s.length + 1 - p.1) (0, part) ⟨by omega, rfl⟩ ?_ ?_
  · simp [keepE, St.keepG, St.keep, St.gc, Hp.cut, D.rnL, D.rn, cutF, Blk.rn, Blk.rnL, Tv.rnL, Own.rn, pairs, hE]
  · rintro ⟨i, nm⟩ ⟨hi, hr⟩
    simp only at hi hr ⊢
    by_cases hil : i < s.length
    · rw [show s.length - i = (s.length - (i + 1)) + 1 by omega, rootN] at hr
      cases hf : getP s nm with
      | none =>
        have c2 := hgn nm hf
        rw [hf] at hr
        simp only at hr
        rw [← hr]
        repeat' (first | with_reducible (apply swq; constructor) | simp only [go_sem, seval, P24, q24, hlen, hE] | simp (disch := omega) only [w64, w32, wu8, wu16, wu32, wu64] | ((with_reducible refine o_eff [1] [] (c2) ?hs ?he ?hh ?_); (case hs => exact ⟨by simp, by simp, by simp, by simp⟩); (case he => first | rfl | (simp [go_sem, seval, D.rnL, D.rn, posF, Hp.sel, Blk.rnL, Blk.rn, Tv.rnL, Own.rn, idx, Hp.back, putAt, bakF, hE, hlen]; done)); (case hh => first | rfl | (simp [go_sem, seval, D.rnL, D.rn, posF, Hp.sel, Blk.rnL, Blk.rn, Tv.rnL, Own.rn, idx, Hp.back, putAt, bakF, hE, hlen]; done)); rintro _ _ ⟨rfl, rfl⟩) | with_reducible (apply cA; constructor) | ((with_reducible refine And.intro ?hw ?_); (case hw => first | omega | rfl | exact ⟨_, _, rfl⟩ | assumption | (simp only [lN, D.rnL, D.rn, posF, Hp.sel, Blk.rnL, Blk.rn, Tv.rnL, Own.rn, idx, Hp.back, putAt, bakF, hE, hlen] <;> omega))) | with_reducible intro _)
        all_goals first | omega | (simp_all [D.closed, D.er, D.cL, D.erL]; done) | (simp_all [D.closed, D.er, D.cL, D.erL] <;> omega)
      | some p =>
        have c2 := hgs nm p hf
        rw [hf] at hr
        simp only at hr
        by_cases hp : p.into = []
        · rw [if_pos hp] at hr
          rw [← hr]
          have hb : (p.into == []) = true := by simp [hp]
          unfold ptD at c2
          repeat' (first | with_reducible (apply swq; constructor) | simp only [go_sem, seval, P24, q24, hlen, hE, hb] | simp (disch := omega) only [w64, w32, wu8, wu16, wu32, wu64] | ((with_reducible refine o_eff [1] [] (c2) ?hs ?he ?hh ?_); (case hs => exact ⟨by simp, by simp, by simp, by simp⟩); (case he => first | rfl | (simp [go_sem, seval, D.rnL, D.rn, posF, Hp.sel, Blk.rnL, Blk.rn, Tv.rnL, Own.rn, idx, Hp.back, putAt, bakF, hE, hlen]; done)); (case hh => first | rfl | (simp [go_sem, seval, D.rnL, D.rn, posF, Hp.sel, Blk.rnL, Blk.rn, Tv.rnL, Own.rn, idx, Hp.back, putAt, bakF, hE, hlen]; done)); rintro _ _ ⟨rfl, rfl⟩) | with_reducible (apply cA; constructor) | ((with_reducible refine And.intro ?hw ?_); (case hw => first | omega | rfl | exact ⟨_, _, rfl⟩ | assumption | (simp only [lN, D.rnL, D.rn, posF, Hp.sel, Blk.rnL, Blk.rn, Tv.rnL, Own.rn, idx, Hp.back, putAt, bakF, hE, hlen] <;> omega))) | with_reducible intro _)
          all_goals first | omega | (simp_all [D.closed, D.er, D.cL, D.erL]; done) | (simp_all [D.closed, D.er, D.cL, D.erL] <;> omega)
        · rw [if_neg hp] at hr
          have hb : (p.into == []) = false := by simp [hp]
          unfold ptD at c2
          repeat' (first | with_reducible (apply swq; constructor) | simp only [go_sem, seval, P24, q24, hlen, hE, hb] | simp (disch := omega) only [w64, w32, wu8, wu16, wu32, wu64] | ((with_reducible refine o_eff [1] [] (c2) ?hs ?he ?hh ?_); (case hs => exact ⟨by simp, by simp, by simp, by simp⟩); (case he => first | rfl | (simp [go_sem, seval, D.rnL, D.rn, posF, Hp.sel, Blk.rnL, Blk.rn, Tv.rnL, Own.rn, idx, Hp.back, putAt, bakF, hE, hlen]; done)); (case hh => first | rfl | (simp [go_sem, seval, D.rnL, D.rn, posF, Hp.sel, Blk.rnL, Blk.rn, Tv.rnL, Own.rn, idx, Hp.back, putAt, bakF, hE, hlen]; done)); rintro _ _ ⟨rfl, rfl⟩) | with_reducible (apply cA; constructor) | ((with_reducible refine And.intro ?hw ?_); (case hw => first | omega | rfl | exact ⟨_, _, rfl⟩ | assumption | (simp only [lN, D.rnL, D.rn, posF, Hp.sel, Blk.rnL, Blk.rn, Tv.rnL, Own.rn, idx, Hp.back, putAt, bakF, hE, hlen] <;> omega))) | with_reducible intro _)
          all_goals try omega
          all_goals refine ⟨(i + 1, p.into), ⟨by simp only; omega, hr⟩, by simp only; omega, ?_⟩
          all_goals simp [keepE, St.keepG, St.keep, St.gc, Hp.cut, D.rnL, D.rn, cutF, Blk.rn, Blk.rnL, Tv.rnL, Own.rn, pairs, hE, Hp.back, putAt, bakF]
    · have hz : s.length - i = 0 := by omega
      rw [hz, rootN] at hr
      rw [← hr]
      repeat' (first | with_reducible (apply swq; constructor) | simp only [go_sem, seval, P24, q24, hlen] | simp (disch := omega) only [w64, w32, wu8, wu16, wu32, wu64] | with_reducible (apply cA; constructor) | ((with_reducible refine And.intro ?hw ?_); (case hw => first | omega | rfl | exact ⟨_, _, rfl⟩ | assumption | (simp only [lN, hlen] <;> omega))) | with_reducible intro _)
      all_goals first | omega | (simp_all [D.closed, D.er, D.cL, D.erL]; done) | (simp_all [D.closed, D.er, D.cL, D.erL] <;> omega)
end Go.Proofs.YtcchbohfcmfmlaaGreat
end
section
set_option maxRecDepth 100000
set_option linter.unusedSimpArgs false
set_option linter.unusedVariables false
namespace Go.Proofs.YtcchbohfcmfmlaaGreat
open Go GoV Go.RowKit
theorem nan_p (a : List UInt8) : Pur M 96 [.str a] (.bool false) := by
  refine k96.ok (C := C96) rfl rfl ?_
  rw [i96]
  unfold c96
  have h : (a == a) = true := by simp
  repeat' (first | with_reducible (apply swq; constructor) | simp only [go_sem, seval, P96, q96, h] | with_reducible (apply cA; constructor) | ((with_reducible refine And.intro ?hw ?_); (case hw => first | omega | rfl | exact ⟨_, _, rfl⟩ | assumption | (simp only [lN] <;> omega))) | with_reducible intro _)
  all_goals first | omega | (simp_all [D.closed, D.er, D.cL, D.erL]; done) | (simp_all [D.closed, D.er, D.cL, D.erL] <;> omega)
theorem less_p (a b : List UInt8) : Pur M 68 [.str a, .str b] (.bool (Op.bytesLess a b)) := by
  refine k68.ok (C := C68) rfl rfl ?_
  rw [i68]
  unfold c68
  have c1 := nan_p a
  have c2 := nan_p b
  repeat' (first | with_reducible (apply swq; constructor) | simp only [go_sem, seval, P68, q68] | ((with_reducible refine zAb (c1) ?he ?hc ?_); (case he | hc => first | rfl | (simp [D.erL, D.er, D.cL, D.closed]; done))) | ((with_reducible refine zAb (c2) ?he ?hc ?_); (case he | hc => first | rfl | (simp [D.erL, D.er, D.cL, D.closed]; done))) | (with_reducible first | (apply cA; constructor) | (apply gA; constructor)) | ((with_reducible refine And.intro ?hw ?_); (case hw => first | omega | rfl | exact ⟨_, _, rfl⟩ | assumption | (simp only [lN] <;> omega))) | with_reducible intro _)
  all_goals first | omega | (simp_all [D.closed, D.er, D.cL, D.erL]; done) | (simp_all [D.closed, D.er, D.cL, D.erL] <;> omega)
theorem strs_get {L : List (List UInt8)} {rest : List D} {k : Nat} (h : k < L.length) : (strs L ++ rest).getD k .u0 = .str (L.getD k []) := by
  simp [strs, List.getD, List.getElem?_append_left (show k < (L.map D.str).length by simpa using h), h]
theorem strs_set {L : List (List UInt8)} {rest : List D} {k : Nat} (x : List UInt8) (h : k < L.length) : (strs L ++ rest).set k (.str x) = strs (L.set k x) ++ rest := by
  rw [List.set_append_left _ _ (by simpa [strs] using h)]
  simp [strs, List.map_set]
theorem zA9 (L : List (List UInt8)) : (strs L).length = L.length := by simp [strs]
theorem sink_lt {j : Nat} {L : List (List UInt8)} (h : Op.bytesLess (L.getD (j + 1) []) (L.getD j []) = true) : sink (j + 1) L = sink j ((L.set (j + 1) (L.getD j [])).set j (L.getD (j + 1) [])) := by
  rw [sink, if_pos h]
theorem sink_ge {j : Nat} {L : List (List UInt8)} (h : Op.bytesLess (L.getD (j + 1) []) (L.getD j []) = false) : sink (j + 1) L = L := by
  rw [sink, if_neg (by show ¬ Op.bytesLess _ _ = true; rw [h]; decide)]
set_option maxHeartbeats 2000000 in
theorem ins_p (L : List (List UInt8)) (rest : List D) (n cap : Nat) (hn : n = L.length) (hc : n + rest.length = cap) (hl : n ≤ 1000000) :
    Eff M 62 [.sl 0 1 0 n cap, .int .i64 0, .int .i64 n] ⟨[.cells (strs L ++ rest)], []⟩ fun d hp => d = .tup [] ∧ hp = ⟨[.cells (strs (zDc L (n - 1)) ++ rest)], []⟩ := by
  refine k62.oe 1 0 rfl rfl rfl ?_
  rw [ie62]
  unfold c62
  repeat' (first | with_reducible (apply swq; constructor) | simp only [go_sem, seval, pe62, q62] | simp (disch := omega) only [w64, w32, wu8, wu16, wu32, wu64] | (with_reducible first | (apply cA; constructor) | (apply gA; constructor) | (apply qA; constructor)) | ((with_reducible refine And.intro ?hw ?_); (case hw => first | omega | rfl | exact ⟨_, _, rfl⟩ | assumption | (simp only [lN] <;> omega))) | with_reducible intro _)
  refine zAz [0, 1, 2, 3] (fun i : Nat => ⟨[.sl 0 1 0 n cap, .int .i64 0, .int .i64 n, .int .i64 i, .u0, .u0, .u0], [], ⟨[.cells (strs (zDc L (i - 1)) ++ rest)], []⟩⟩)
    (fun i => 1 ≤ i ∧ (n ≤ i → zDc L (i - 1) = zDc L (n - 1))) (fun i => n - i) 1 ⟨by omega, fun h => ?_⟩ ?_ ?_
  · have : n = 0 ∨ n = 1 := by omega
    rcases this with h | h <;> rw [h]
  · simp [keepE, St.keep, zDc]
  · rintro i ⟨g1, g2⟩
    by_cases hi : i < n
    · have hlen := isortN_len L (i - 1)
      rw [← hn] at hlen
      have hst : zDc L i = sink i (zDc L (i - 1)) := by
        obtain ⟨k, rfl⟩ : ∃ k, i = k + 1 := ⟨i - 1, by omega⟩
        rfl
      generalize hT : zDc L (i - 1) = T at *
      repeat' (first | with_reducible (apply swq; constructor) | simp only [go_sem, seval, pe62, q62] | simp (disch := omega) only [w64, w32, wu8, wu16, wu32, wu64] | (with_reducible first | (apply cA; constructor) | (apply gA; constructor) | (apply qA; constructor)) | ((with_reducible refine And.intro ?hw ?_); (case hw => first | omega | rfl | exact ⟨_, _, rfl⟩ | assumption | (simp only [lN] <;> omega))) | with_reducible intro _)
      all_goals try omega
      refine zAz [0, 1, 2, 3, 4] (fun p : Nat × List (List UInt8) => ⟨[.sl 0 1 0 n cap, .int .i64 0, .int .i64 n, .int .i64 i, .int .i64 p.1, .u0, .u0], [], ⟨[.cells (strs p.2 ++ rest)], []⟩⟩)
        (fun p => p.1 ≤ i ∧ p.2.length = n ∧ sink p.1 p.2 = zDc L i) (fun p => p.1) (i, T) ⟨by simp, hlen, hst.symm⟩ ?_ ?_
      · simp [keepE, St.keep]
      · rintro ⟨j, U⟩ ⟨f1, f2, f3⟩
        simp only at f1 f2 f3 ⊢
        have hfl : (strs U ++ rest).length = cap := by rw [List.length_append, zA9]; omega
        cases j with
        | zero =>
          repeat' (first | with_reducible (apply swq; constructor) | simp only [go_sem, seval, pe62, q62] | simp (disch := omega) only [w64, w32, wu8, wu16, wu32, wu64] | (with_reducible first | (apply cA; constructor) | (apply gA; constructor) | (apply qA; constructor)) | ((with_reducible refine And.intro ?hw ?_); (case hw => first | omega | rfl | exact ⟨_, _, rfl⟩ | assumption | (simp only [lN] <;> omega))) | with_reducible intro _)
          all_goals try omega
          refine ⟨i + 1, ⟨by omega, fun h => ?_⟩, by omega, ?_⟩
          · have : n = i + 1 := by omega
            rw [this]
          · simp only [sink] at f3
            simp [keepE, St.keep, f3]
        | succ k =>
          have t1 : (((k + 1 : Nat) : Int) - 1).toNat = k := by omega
          have h1 := strs_get (L := U) (rest := rest) (k := k) (by omega)
          have h2 := strs_get (L := U) (rest := rest) (k := k + 1) (by omega)
          have hcl := less_p (U.getD (k + 1) []) (U.getD k [])
          have hs1 := strs_set (L := U) (rest := rest) (k := k + 1) (U.getD k []) (by omega)
          have hs2 := strs_set (L := U.set (k + 1) (U.getD k [])) (rest := rest) (k := k) (U.getD (k + 1) []) (by simp; omega)
          have hfl2 : (strs (U.set (k + 1) (U.getD k [])) ++ rest).length = cap := by rw [List.length_append, zA9]; simp; omega
          have f2' : ((U.set (k + 1) (U.getD k [])).set k (U.getD (k + 1) [])).length = n := by simp [f2]
          cases hlt : Op.bytesLess (U.getD (k + 1) []) (U.getD k [])
          · rw [hlt] at hcl
            rw [sink_ge hlt] at f3
            generalize U.getD k [] = x at *
            generalize U.getD (k + 1) [] = y at *
            repeat' (first | with_reducible (apply swq; constructor) | simp only [go_sem, seval, pe62, q62, t1, h1, h2, hfl, Nat.mul_one, Nat.zero_add] | simp (disch := omega) only [w64, w32, wu8, wu16, wu32, wu64] | ((with_reducible refine zAb (hcl) ?he ?hc ?_); (case he | hc => first | rfl | (simp [D.erL, D.er, D.cL, D.closed, hfl]; done))) | (with_reducible first | (apply cA; constructor) | (apply gA; constructor) | (apply qA; constructor)) | ((with_reducible refine And.intro ?hw ?_); (case hw => first | omega | rfl | exact ⟨_, _, rfl⟩ | assumption | (simp only [lN, hfl] <;> omega))) | with_reducible intro _)
            all_goals try omega
            refine ⟨i + 1, ⟨by omega, fun h => by rw [show n = i + 1 by omega]⟩, by omega, ?_⟩
            simp [St.keep, keepE, f3]
          · rw [hlt] at hcl
            rw [sink_lt hlt] at f3
            generalize U.getD k [] = x at *
            generalize U.getD (k + 1) [] = y at *
            repeat' (first | with_reducible (apply swq; constructor) | simp only [go_sem, seval, pe62, q62, t1, h1, h2, hs1, hs2, hfl, hfl2, Nat.mul_one, Nat.zero_add] | simp (disch := omega) only [w64, w32, wu8, wu16, wu32, wu64] | ((with_reducible refine zAb (hcl) ?he ?hc ?_); (case he | hc => first | rfl | (simp [D.erL, D.er, D.cL, D.closed, hfl, hfl2]; done))) | (with_reducible first | (apply cA; constructor) | (apply gA; constructor) | (apply qA; constructor)) | ((with_reducible refine And.intro ?hw ?_); (case hw => first | omega | rfl | exact ⟨_, _, rfl⟩ | assumption | (simp only [lN, hfl, hfl2] <;> omega))) | with_reducible intro _)
            all_goals try omega
            exact ⟨(k, (U.set (k + 1) x).set k y), ⟨by simp only; omega, f2', f3⟩, by simp only; omega, by simp only [St.keep, keepE]; simp⟩
    · repeat' (first | with_reducible (apply swq; constructor) | simp only [go_sem, seval, pe62, q62] | simp (disch := omega) only [w64, w32, wu8, wu16, wu32, wu64] | (with_reducible first | (apply cA; constructor) | (apply gA; constructor) | (apply qA; constructor)) | ((with_reducible refine And.intro ?hw ?_); (case hw => first | omega | rfl | exact ⟨_, _, rfl⟩ | assumption | (simp only [lN] <;> omega))) | with_reducible intro _)
      all_goals try omega
      exact ⟨_, zAh, by rw [g2 (by omega)]⟩
theorem len_any (n : Nat) (h : n ≤ 1000000) : Pur M 37 [.int .u64 n] (.int .i64 (Lib.bitLen n : Nat)) := by
  refine pur_ext (vs := [.int .u64 n]) (v := .int .i64 (Lib.bitLen n : Nat)) ⟨Tryz.f37, Tryz.func37, rfl, rfl⟩ (fun w I xs h => ?_) (fun w I => ?_) (fun w hA => ?_)
  · obtain ⟨x, xs', rfl, g1, g2⟩ := h.inv
    simp only [Rel] at g1
    rw [g2.inv_nil, g1]
  · simp [Rel]
  · refine (Tryz.bits_Len n w (by omega) (by omega)).mono fun e w' hh => ?_
    obtain ⟨rfl, rfl⟩ := hh
    exact ⟨by simp, Below.refl _ _⟩
theorem pdq_p (L : List (List UInt8)) (rest : List D) (n cap : Nat) (hn : n = L.length) (hc : n + rest.length = cap) (hl : n ≤ 12) (z : Int) :
    Eff M 36 [.sl 0 1 0 n cap, .int .i64 0, .int .i64 n, .int .i64 z] ⟨[.cells (strs L ++ rest)], []⟩ fun d hp => d = .tup [] ∧ hp = ⟨[.cells (strs (isort L) ++ rest)], []⟩ := by
  refine k36.oe 1 0 rfl rfl rfl ?_
  rw [ie36]
  unfold c36
  have c1 := ins_p L rest n cap hn hc (by omega)
  rw [hn, isortN_eq, ← hn] at c1
  repeat' (first | with_reducible (apply swq; constructor) | simp only [go_sem, seval, pe36, q36] | simp (disch := omega) only [w64, w32, wu8, wu16, wu32, wu64] | (with_reducible first | (apply cA; constructor) | (apply gA; constructor) | (apply qA; constructor)) | ((with_reducible refine And.intro ?hw ?_); (case hw => first | omega | rfl | exact ⟨_, _, rfl⟩ | assumption | (simp only [lN] <;> omega))) | with_reducible intro _)
  refine zAz [0, 1, 2, 3, 4, 5] (fun _ : Unit => ⟨[.sl 0 1 0 n cap, .int .i64 0, .int .i64 n, .int .i64 z, .bool true, .bool true, .u0, .u0, .u0, .u0, .u0, .u0, .u0, .u0, .u0, .u0, .u0, .u0, .u0, .u0, .u0, .u0, .u0], [], ⟨[.cells (strs L ++ rest)], []⟩⟩) (fun _ => True) (fun _ => 0) () trivial ?_ ?_
  · simp [keepE, St.keep]
  · intro _ _
    have hle : ((n : Int) ≤ 12) = True := eq_true (by omega)
    have hsub : IntKind.i64.wrap ((n : Int) - 0) = n := by rw [w64 (by omega) (by omega)]; omega
    simp only [Int.sub_zero] at hsub
    repeat' (first | with_reducible (apply swq; constructor) | simp only [go_sem, seval, pe36, q36, hle, hsub, Int.sub_zero] | ((with_reducible refine zBs (c1) ?he ?hh ?_); (case he => first | rfl | (simp [go_sem, seval]; done)); (case hh => first | rfl | (simp [go_sem, seval]; done))) | (with_reducible first | (apply cA; constructor) | (apply gA; constructor) | (apply qA; constructor)) | ((with_reducible refine And.intro ?hw ?_); (case hw => first | omega | rfl | exact ⟨_, _, rfl⟩ | assumption | (simp only [lN] <;> omega))) | with_reducible intro _)
    all_goals try omega
    all_goals exact ⟨_, zAh, by simp⟩
theorem sort_p (L : List (List UInt8)) (rest : List D) (n cap : Nat) (hn : n = L.length) (hc : n + rest.length = cap) (hl : n ≤ 12) :
    Eff M 22 [.sl 0 1 0 n cap] ⟨[.cells (strs L ++ rest)], []⟩ fun d hp => d = .tup [] ∧ hp = ⟨[.cells (strs (isort L) ++ rest)], []⟩ := by
  refine k22.oe 1 0 rfl rfl rfl ?_
  rw [ie22]
  unfold c22
  have c1 := len_any n (by omega)
  have c2 := pdq_p L rest n cap hn hc hl (Lib.bitLen n : Nat)
  repeat' (first | with_reducible (apply swq; constructor) | simp only [go_sem, seval, pe22, q22] | simp (disch := omega) only [w64, w32, wu8, wu16, wu32, wu64] | ((with_reducible refine zAb (c1) ?he ?hc ?_); (case he | hc => first | rfl | (simp [D.erL, D.er, D.cL, D.closed]; done))) | ((with_reducible refine zBs (c2) ?he ?hh ?_); (case he => first | rfl | (simp [go_sem, seval]; done)); (case hh => first | rfl | (simp [go_sem, seval]; done))) | with_reducible (apply cA; constructor) | ((with_reducible refine And.intro ?hw ?_); (case hw => first | omega | rfl | exact ⟨_, _, rfl⟩ | assumption | (simp only [lN] <;> omega))) | with_reducible intro _)
  all_goals try omega
  all_goals exact ⟨_, zAh, by simp⟩
end Go.Proofs.YtcchbohfcmfmlaaGreat
end
section
set_option maxRecDepth 100000
set_option linter.unusedSimpArgs false
set_option linter.unusedVariables false
namespace Go.Proofs.YtcchbohfcmfmlaaGreat
open Go GoV Go.RowKit
abbrev Tri := List UInt8 × List UInt8 × Nat
def entT (l : List Tri) : List (D × D × Nat) := l.map fun t => (.str t.1, .str t.2.1, t.2.2)
theorem entT_ok (l : List Tri) : ((entT l).all fun e => keyOk .str e.1) = true := by
  induction l with
  | nil => rfl
  | cons t l ih => simp only [entT, List.map_cons, List.all_cons, keyOk, Bool.true_and]; exact ih
theorem zFh (β τ : Nat → Option Nat) (l : List Tri) : pairs β τ (entT l) = entT l := by
  induction l with
  | nil => rfl
  | cons t l ih => simp only [entT, List.map_cons, pairs, D.rn]; congr 1
theorem entT_born (l : List Tri) : (entT l).map (·.2.2) = l.map (·.2.2) := by simp [entT]
theorem entT_mem {l : List Tri} {e : D × D × Nat} (h : e ∈ entT l) : ∃ t ∈ l, e = (.str t.1, .str t.2.1, t.2.2) := by
  simp only [entT, List.mem_map] at h
  obtain ⟨t, h1, h2⟩ := h
  exact ⟨t, h1, h2.symm⟩
theorem entT_mem' {l : List Tri} {t : Tri} (h : t ∈ l) : (.str t.1, .str t.2.1, t.2.2) ∈ entT l := by
  simp only [entT, List.mem_map]; exact ⟨t, h, rfl⟩
theorem keq_str (a b : List UInt8) : keq (.str a) (.str b) = (a == b) := rfl
theorem entT_none {k : List UInt8} : ∀ {l : List Tri} {i : Nat}, (∀ t ∈ l, t.1 ≠ k) → findM (.str k) (entT l) i = none
  | [], i, _ => rfl
  | t :: l, i, h => by
    have h1 : (k == t.1) = false := by
      have := h t (by simp)
      simp [Ne.symm this]
    simp only [entT, List.map_cons, findM, keq_str, h1, Bool.false_eq_true, if_false]
    exact entT_none (l := l) (i := i + 1) fun x hx => h x (by simp [hx])
theorem entT_put {k v : List UInt8} {l : List Tri} {c : Nat} (h : ∀ t ∈ l, t.1 ≠ k) : putM (entT l) c (.str k) (.str v) = .map (entT (l ++ [(k, v, c)])) (c + 1) := by
  unfold putM
  rw [entT_none h]
  simp [entT]
theorem entT_del' {k : List UInt8} : ∀ (l : List Tri) (i : Nat), (l.map (·.1)).Nodup → (∀ t ∈ l, t.1 ≠ k) ∧ findM (.str k) (entT l) i = none ∨
    ∃ j v, findM (.str k) (entT l) i = some (i + j, v) ∧ (entT l).eraseIdx j = entT (l.filter fun t => !(t.1 == k))
  | [], i, _ => .inl ⟨by simp, rfl⟩
  | t :: l, i, h => by
    simp only [List.map_cons, List.nodup_cons] at h
    by_cases e : t.1 = k
    · refine .inr ⟨0, .str t.2.1, ?_, ?_⟩
      · have h1 : (k == t.1) = true := by simp [e]
        simp [entT, findM, keq_str, h1]
      · have h2 : (t.1 == k) = true := by simp [e]
        have h3 : l.filter (fun t => !(t.1 == k)) = l := by
          rw [List.filter_eq_self]
          intro x hx
          have : x.1 ≠ k := fun q => h.1 (by rw [e, ← q]; exact List.mem_map_of_mem hx)
          simp [this]
        rw [List.filter_cons_of_neg (by simp [h2]), h3]
        simp [entT]
    · have h1 : (k == t.1) = false := by simp [Ne.symm e]
      rcases entT_del' l (i + 1) h.2 with ⟨q1, q2⟩ | ⟨j, v, q1, q2⟩
      · left
        refine ⟨fun x hx => ?_, ?_⟩
        · rcases List.mem_cons.1 hx with rfl | hx
          · exact e
          · exact q1 x hx
        · simp only [entT, List.map_cons, findM, keq_str, h1, Bool.false_eq_true, if_false]
          exact q2
      · right
        refine ⟨j + 1, v, ?_, ?_⟩
        · simp only [entT, List.map_cons, findM, keq_str, h1, Bool.false_eq_true, if_false]
          rw [show i + (j + 1) = i + 1 + j by omega]
          exact q1
        · rw [List.filter_cons_of_pos (by simp [e])]
          simp only [entT, List.map_cons, List.eraseIdx_cons_succ] at q2 ⊢
          rw [q2]
theorem entT_del {k : List UInt8} {l : List Tri} {c : Nat} (h : (l.map (·.1)).Nodup) : delM (entT l) c (.str k) = .map (entT (l.filter fun t => !(t.1 == k))) c := by
  unfold delM
  rcases entT_del' (k := k) l 0 h with ⟨q1, q2⟩ | ⟨j, v, q1, q2⟩
  · rw [q2]
    simp only
    congr 2
    rw [eq_comm, List.filter_eq_self]
    intro x hx
    simp [q1 x hx]
  · rw [q1]
    simp only [Nat.zero_add]
    rw [q2]

theorem entsF_born : ∀ (l : List (Pt × Nat)) (b : Nat), (entsF l b).map (·.2.2) = (List.range' b l.length)
  | [], b => rfl
  | q :: l, b => by simp only [entsF, List.map_cons, List.length_cons, List.range'_succ, entsF_born l]
theorem entsF_mem : ∀ {l : List (Pt × Nat)} {b : Nat} {e : D × D × Nat}, e ∈ entsF l b → ∃ j, ∃ h : j < l.length, e = (.str (l[j]).1.name, .int .i64 (l[j]).2, b + j)
  | [], b, e, h => by simp [entsF] at h
  | q :: l, b, e, h => by
    simp only [entsF, List.mem_cons] at h
    rcases h with rfl | h
    · exact ⟨0, by simp, rfl⟩
    · obtain ⟨j, hj, rfl⟩ := entsF_mem h
      exact ⟨j + 1, by simpa using hj, by simp; omega⟩
theorem entsF_mem' : ∀ {l : List (Pt × Nat)} {b j : Nat} (h : j < l.length), (.str (l[j]).1.name, .int .i64 (l[j]).2, b + j) ∈ entsF l b
  | q :: l, b, 0, h => by simp [entsF]
  | q :: l, b, j + 1, h => by
    simp only [entsF, List.mem_cons]
    right
    have := entsF_mem' (l := l) (b := b + 1) (j := j) (by simpa using h)
    rw [show b + (j + 1) = b + 1 + j by omega]
    simpa using this
def pickF (L : List (Pt × Nat)) (seen : List Nat) : List (Pt × Nat) := (seen.filterMap (L[·]?)).filter fun q => !(q.1.into == [])
def triF (l : List (Pt × Nat)) : List Tri := l.zipIdx.map fun q => (q.1.1.name, q.1.1.into, q.2)
theorem triF_len (l : List (Pt × Nat)) : (triF l).length = l.length := by simp [triF]
theorem triF_app (l : List (Pt × Nat)) (q : Pt × Nat) : triF (l ++ [q]) = triF l ++ [(q.1.name, q.1.into, l.length)] := by
  simp [triF, List.zipIdx_append]
theorem triF_pair (l : List (Pt × Nat)) : (triF l).map (fun t => (t.1, t.2.1)) = l.map fun q => (q.1.name, q.1.into) := by
  have : ∀ (l : List (Pt × Nat)) (i : Nat), (l.zipIdx i).map (fun q => (q.1.1.name, q.1.1.into)) = l.map fun q => (q.1.name, q.1.into) := by
    intro l
    induction l with
    | nil => intro i; rfl
    | cons q l ih => intro i; simp [ih]
  simp only [triF, List.map_map]
  exact this l 0
theorem triF_name (l : List (Pt × Nat)) : (triF l).map (·.1) = l.map (·.1.name) := by
  have := congrArg (List.map Prod.fst) (triF_pair l)
  simpa [List.map_map, Function.comp_def] using this
theorem triF_born (l : List (Pt × Nat)) : (triF l).map (·.2.2) = List.range l.length := by
  have : ∀ (l : List (Pt × Nat)) (i : Nat), (l.zipIdx i).map (fun q => q.2) = List.range' i l.length := by
    intro l
    induction l with
    | nil => intro i; rfl
    | cons q l ih => intro i; simp [ih, List.range'_succ]
  simp only [triF, List.map_map]
  rw [List.range_eq_range']
  exact this l 0
theorem pickF_app {L : List (Pt × Nat)} {seen : List Nat} {j : Nat} (h : j < L.length) : pickF L (seen ++ [j]) = pickF L seen ++ (if L[j].1.into = [] then [] else [L[j]]) := by
  simp only [pickF, List.filterMap_append, List.filter_append, List.filterMap_cons, List.filterMap_nil, List.getElem?_eq_getElem h]
  congr 1
  by_cases e : L[j].1.into = []
  · simp [e]
  · simp [e]
theorem range_get {α : Type} (L : List α) : (List.range L.length).filterMap (L[·]?) = L := by
  apply List.ext_getElem?
  have : ∀ n, n ≤ L.length → (List.range n).filterMap (L[·]?) = L.take n := by
    intro n
    induction n with
    | zero => intro _; simp
    | succ n ih =>
      intro h
      rw [List.range_succ, List.filterMap_append, ih (by omega), List.take_succ_eq_append_getElem (by omega)]
      simp [List.getElem?_eq_getElem (show n < L.length by omega)]
  intro i
  rw [this _ (Nat.le_refl _), List.take_length]
theorem pickF_perm {L : List (Pt × Nat)} {seen : List Nat} (h1 : seen.Nodup) (h2 : ∀ j ∈ seen, j < L.length) (h3 : ∀ j, j < L.length → j ∈ seen) : (pickF L seen).Perm (L.filter fun q => !(q.1.into == [])) := by
  have hp : seen.Perm (List.range L.length) := by
    rw [List.perm_ext_iff_of_nodup h1 List.nodup_range]
    intro a
    simp only [List.mem_range]
    exact ⟨h2 a, h3 a⟩
  have := (hp.filterMap (L[·]?)).filter fun q => !(q.1.into == [])
  rw [range_get] at this
  exact this
theorem zEp : ∀ (l : List Pt) (seen : List (List UInt8)), ((zB1 seen l).map (·.name)).Nodup ∧ ∀ p ∈ zB1 seen l, p.name ∉ seen
  | [], seen => ⟨by simp [zB1], by simp [zB1]⟩
  | p :: ps, seen => by
    simp only [zB1]
    by_cases h : seen.contains p.name = true
    · rw [if_pos h]; exact zEp ps seen
    · rw [if_neg h]
      obtain ⟨h1, h2⟩ := zEp ps (seen ++ [p.name])
      have hp : p.name ∉ seen := by simpa using h
      refine ⟨?_, ?_⟩
      · simp only [List.map_cons, List.nodup_cons]
        refine ⟨fun hm => ?_, h1⟩
        obtain ⟨q, hq, e⟩ := List.mem_map.1 hm
        exact h2 q hq (by simp [e])
      · intro q hq
        rcases List.mem_cons.1 hq with rfl | hq
        · exact hp
        · exact fun e => h2 q hq (by simp [e])
theorem firstsI_nodup (s : List Pt) : ((zAp [] 0 s).map (·.1.name)).Nodup := by
  have := (zEp s []).1
  rw [← zDf s [] 0, List.map_map] at this
  exact this
theorem firstsI_at : ∀ {l : List Pt} {seen : List (List UInt8)} {i : Nat} {q : Pt × Nat}, q ∈ zAp seen i l → i ≤ q.2 ∧ q.2 - i < l.length ∧ l[q.2 - i]? = some q.1
  | [], seen, i, q, h => by simp [zAp] at h
  | p :: ps, seen, i, q, h => by
    simp only [zAp] at h
    have step : ∀ seen', q ∈ zAp seen' (i + 1) ps → i ≤ q.2 ∧ q.2 - i < (p :: ps).length ∧ (p :: ps)[q.2 - i]? = some q.1 := fun seen' hq => by
      obtain ⟨h1, h2, h3⟩ := firstsI_at hq
      refine ⟨by omega, by simp; omega, ?_⟩
      rw [show q.2 - i = (q.2 - (i + 1)) + 1 by omega]
      simpa using h3
    split at h
    · exact step _ h
    · rcases List.mem_cons.1 h with rfl | h
      · simp
      · exact step _ h
theorem nodup_pick {α : Type} (L : List α) {f : α → List UInt8} (hn : (L.map f).Nodup) : ∀ (seen : List Nat), seen.Nodup → ((seen.filterMap (L[·]?)).map f).Nodup
  | [], _ => by simp
  | j :: seen, h => by
    simp only [List.nodup_cons] at h
    have ih := nodup_pick L hn seen h.2
    simp only [List.filterMap_cons]
    cases e : L[j]? with
    | none => exact ih
    | some q =>
      simp only [List.map_cons, List.nodup_cons]
      refine ⟨fun hm => ?_, ih⟩
      obtain ⟨q', hq', ef⟩ := List.mem_map.1 hm
      simp only [List.mem_filterMap] at hq'
      obtain ⟨k, hk, hk2⟩ := hq'
      have hj : j < L.length := by rcases Nat.lt_or_ge j L.length with g | g; exact g; rw [List.getElem?_eq_none g] at e; cases e
      have hk3 : k < L.length := by rcases Nat.lt_or_ge k L.length with g | g; exact g; rw [List.getElem?_eq_none g] at hk2; cases hk2
      rw [List.getElem?_eq_getElem hj] at e
      rw [List.getElem?_eq_getElem hk3] at hk2
      simp only [Option.some.injEq] at e hk2
      have : j = k := by
        have h1 : (L.map f)[j]'(by simpa using hj) = (L.map f)[k]'(by simpa using hk3) := by simp [e, hk2, ef]
        exact (List.getElem_inj hn).1 h1
      subst this
      exact h.1 hk
theorem pickF_nodup {s : List Pt} {seen : List Nat} (h : seen.Nodup) : ((pickF (zAp [] 0 s) seen).map (·.1.name)).Nodup :=
  (nodup_pick (zAp [] 0 s) (f := fun q => q.1.name) (firstsI_nodup s) seen h).sublist (List.filter_sublist.map _)
end Go.Proofs.YtcchbohfcmfmlaaGreat
end
