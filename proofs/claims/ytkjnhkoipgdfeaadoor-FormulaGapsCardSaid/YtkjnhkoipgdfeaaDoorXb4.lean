/- Own texts, merged by a program: the engine that walks the code, and what the functions that the law reaches compute. -/
import Derived.Test.YtkjnhkoipgdfeaaDoorXb3
import Derived.Test.YtkjnhkoipgdfeaaDoorProg
import Derived.KernelRfl
import Derived.Lib.ItoaNum
section
set_option maxRecDepth 100000
namespace Go.Proofs.YtkjnhkoipgdfeaaDoor
open Go GoV
noncomputable def M : Mod := varMod Tryd.prog [(0, fun cs => cs = (Lib.pow10Tab.map (Value.int .u64 ·)).toArray), (1, fun cs => ∃ v, (∃ m, v = .int .i64 m) ∧ cs = #[v]),
 (2, fun cs => ∃ v, (v = .nilIface ∨ ∃ te pe, v = .iface te pe) ∧ cs = #[v]), (3, fun cs => ∃ v, (v = .nilIface ∨ ∃ te pe, v = .iface te pe) ∧ cs = #[v])]
@[irreducible] def zl256 : List D := List.replicate 256 (.int .u8 0)
noncomputable def E30 (n m : Nat) : Cfg := ⟨M, [0, 1, 2, 4, 5, 7, 9, 10, 11, 12, 17], 27, n, m, []⟩
noncomputable def C30 : Cfg := E30 0 0
noncomputable abbrev r30_0 : List RO := [
 ⟨.v 2, .box, [.v 0], none⟩,
 ⟨.v 3, .mv, [.con (.int .i64 0)], none⟩]
noncomputable abbrev r30_1 : List RO := [
 ⟨.v 4, .mv, [.con (.int .i64 1)], none⟩]
noncomputable abbrev r30_2 : List RO := [
 ⟨.l 8, .fld 2, [.v 2], none⟩,
 ⟨.v 6, .ld false 1, [.l 8], none⟩,
 ⟨.v 7, .lenL, [.v 6], none⟩,
 ⟨.v 8, .mv, [.con (.int .i64 0)], none⟩]
noncomputable abbrev r30_3 : List RO := [
 ⟨.v 9, .bin .lss, [.v 8, .v 7], none⟩]
noncomputable abbrev r30_4 : List RO := [
 ⟨.l 13, .ixaS 3, [.v 6, .v 8], none⟩,
 ⟨.l 14, .ld true 3, [.l 13], none⟩,
 ⟨.v 5, (.newb [(.int .i64 0), (.int .i64 0), (.lit (.slice none 0 0))]), [], none⟩,
 ⟨.none, .st 3, [.v 5, .l 14], none⟩]
noncomputable abbrev r30_5 : List RO := [
 ⟨.l 15, .mv, [.v 4], none⟩,
 ⟨.l 16, .mv, [.v 1], none⟩,
 ⟨.v 10, .bin .gtr, [.l 15, .l 16], none⟩]
noncomputable abbrev r30_6 : List RO := [
 ⟨.l 18, .mv, [.v 4], none⟩,
 ⟨.l 19, .ld true 3, [.v 5], none⟩,
 ⟨.l 20, .mv, [.v 1], none⟩,
 ⟨.l 21, .mv, [.v 4], none⟩,
 ⟨.l 22, .bin .sub, [.l 20, .l 21], none⟩,
 ⟨.l 23, .calls .fn, [(.con (.fn (.func 30) [] [])), .l 19, .l 22], none⟩,
 ⟨.l 24, .bin .add, [.l 18, .l 23], none⟩,
 ⟨.v 4, .mv, [.l 24], none⟩]
noncomputable abbrev r30_7 : List RO := [
 ⟨.l 25, .bin .add, [.v 8, .con (.int .i64 1)], none⟩,
 ⟨.v 8, .mv, [.l 25], none⟩]
noncomputable abbrev r30_8 : List RO := [
 ⟨.l 26, .mv, [.v 4], none⟩,
 ⟨.v 3, .mv, [.l 26], none⟩]
theorem P30 : C30.M = M := by unfold C30 E30; rfl
theorem i30 {a0 a1 : D} : St.init C30 [a0, a1] ⟨[], []⟩ = ⟨[a0, a1, .u0, .u0, .u0, .u0, .u0, .u0, .u0, .u0, .u0], [], ⟨[], []⟩⟩ := by unfold C30 E30; rfl
noncomputable def c30 : RC := (.seq (.reg r30_0) (.seq (.reg r30_1) (.seq (.seq (.reg r30_2) (.block 0 (.loop (.seq (.reg r30_3) (.seq (.cond (.v 9) .skip (.exit 0)) (.seq (.block 1 (.seq (.reg r30_4) (.seq (.seq (.reg r30_5) (.cond (.v 10) (.exit 0) .skip)) (.reg r30_6)))) (.reg r30_7))))))) (.seq (.reg r30_8) .ret))))
noncomputable def q30 : List RR := [(.slot (.v 3))]
theorem k30 : FnOk M 30 2 Tryd.f30 E30 c30 q30 := fnOk Tryd.func30
noncomputable def E31 (n m : Nat) : Cfg := ⟨M, [0, 1, 2, 3, 5, 6, 15, 19, 47, 49, 50, 51, 52, 57], 59, n, m, []⟩
noncomputable def C31 : Cfg := E31 0 0
noncomputable abbrev r31_0 : List RO := [
 ⟨.v 1, .box, [.v 0], none⟩,
 ⟨.v 2, .mv, [.con (.bool false)], none⟩]
noncomputable abbrev r31_1 : List RO := [
 ⟨.v 3, .mv, [.con (.int .i64 0)], none⟩]
noncomputable abbrev r31_2 : List RO := [
 ⟨.l 7, .fld 0, [.v 1], none⟩,
 ⟨.l 8, .ld false 1, [.l 7], none⟩,
 ⟨.l 9, .bin .lss, [.l 8, .con (.int .i64 1)], none⟩,
 ⟨.l 10, .mv, [.l 9], none⟩,
 ⟨.l 11, .fld 0, [.v 1], (some (.l 10, false))⟩,
 ⟨.l 12, .ld false 1, [.l 11], (some (.l 10, false))⟩,
 ⟨.l 13, .bin .gtr, [.l 12, .con (.int .i64 11)], (some (.l 10, false))⟩,
 ⟨.l 14, .pick, [.l 10, .con (.bool true), .l 13], none⟩,
 ⟨.v 5, .mv, [.l 14], none⟩]
noncomputable abbrev r31_3 : List RO := [
 ⟨.v 2, .mv, [.con (.bool false)], none⟩]
noncomputable abbrev r31_4 : List RO := [
 ⟨.l 16, .fld 0, [.v 1], none⟩,
 ⟨.l 17, .ld false 1, [.l 16], none⟩,
 ⟨.l 18, .bin .eql, [.l 17, .con (.int .i64 11)], none⟩,
 ⟨.v 6, .mv, [.l 18], none⟩]
noncomputable abbrev r31_5 : List RO := [
 ⟨.v 3, .mv, [.con (.int .i64 3)], none⟩]
noncomputable abbrev r31_6 : List RO := [
 ⟨.l 20, .fld 0, [.v 1], none⟩,
 ⟨.l 21, .ld false 1, [.l 20], none⟩,
 ⟨.l 22, .bin .geq, [.l 21, .con (.int .i64 5)], none⟩,
 ⟨.v 7, .mv, [.l 22], none⟩]
noncomputable abbrev r31_7 : List RO := [
 ⟨.v 3, .mv, [.con (.int .i64 2)], none⟩]
noncomputable abbrev r31_8 : List RO := [
 ⟨.l 23, .fld 2, [.v 1], none⟩,
 ⟨.l 24, .ld false 1, [.l 23], none⟩,
 ⟨.l 25, .lenL, [.l 24], none⟩,
 ⟨.l 26, .mv, [.v 3], none⟩,
 ⟨.l 27, .bin .neq, [.l 25, .l 26], none⟩,
 ⟨.l 28, .mv, [.l 27], none⟩,
 ⟨.l 29, .fld 1, [.v 1], (some (.l 28, false))⟩,
 ⟨.l 30, .ld false 1, [.l 29], (some (.l 28, false))⟩,
 ⟨.l 31, .bin .lss, [.l 30, .con (.int .i64 0)], (some (.l 28, false))⟩,
 ⟨.l 32, .pick, [.l 28, .con (.bool true), .l 31], none⟩,
 ⟨.l 33, .mv, [.l 32], none⟩,
 ⟨.l 34, .fld 1, [.v 1], (some (.l 33, false))⟩,
 ⟨.l 35, .ld false 1, [.l 34], (some (.l 33, false))⟩,
 ⟨.l 36, .bin .gtr, [.l 35, .con (.int .i64 9999999)], (some (.l 33, false))⟩,
 ⟨.l 37, .pick, [.l 33, .con (.bool true), .l 36], none⟩,
 ⟨.l 38, .mv, [.l 37], none⟩,
 ⟨.l 39, .fld 1, [.v 1], (some (.l 38, false))⟩,
 ⟨.l 40, .ld false 1, [.l 39], (some (.l 38, false))⟩,
 ⟨.l 41, .bin .gtr, [.l 40, .con (.int .i64 0)], (some (.l 38, false))⟩,
 ⟨.l 42, .mv, [.l 41], (some (.l 38, false))⟩,
 ⟨.l 43, .fld 0, [.v 1], (some (.l 42, true))⟩,
 ⟨.l 44, .ld false 1, [.l 43], (some (.l 42, true))⟩,
 ⟨.l 45, .bin .neq, [.l 44, .con (.int .i64 1)], (some (.l 42, true))⟩,
 ⟨.l 46, .pick, [.l 42, .l 45, .con (.bool false)], (some (.l 38, false))⟩,
 ⟨.v 8, .pick, [.l 38, .con (.bool true), .l 46], none⟩]
noncomputable abbrev r31_9 : List RO := [
 ⟨.v 2, .mv, [.con (.bool false)], none⟩]
noncomputable abbrev r31_10 : List RO := [
 ⟨.l 48, .fld 2, [.v 1], none⟩,
 ⟨.v 9, .ld false 1, [.l 48], none⟩,
 ⟨.v 10, .lenL, [.v 9], none⟩,
 ⟨.v 11, .mv, [.con (.int .i64 0)], none⟩]
noncomputable abbrev r31_11 : List RO := [
 ⟨.v 12, .bin .lss, [.v 11, .v 10], none⟩]
noncomputable abbrev r31_12 : List RO := [
 ⟨.l 53, .ixaS 3, [.v 9, .v 11], none⟩,
 ⟨.l 54, .ld true 3, [.l 53], none⟩,
 ⟨.v 4, (.newb [(.int .i64 0), (.int .i64 0), (.lit (.slice none 0 0))]), [], none⟩,
 ⟨.none, .st 3, [.v 4, .l 54], none⟩]
noncomputable abbrev r31_13 : List RO := [
 ⟨.l 55, .ld true 3, [.v 4], none⟩,
 ⟨.l 56, .calls .fn, [(.con (.fn (.func 31) [] [])), .l 55], none⟩,
 ⟨.v 13, .un .not, [.l 56], none⟩]
noncomputable abbrev r31_14 : List RO := [
 ⟨.v 2, .mv, [.con (.bool false)], none⟩]
noncomputable abbrev r31_15 : List RO := [
 ⟨.l 58, .bin .add, [.v 11, .con (.int .i64 1)], none⟩,
 ⟨.v 11, .mv, [.l 58], none⟩]
noncomputable abbrev r31_16 : List RO := [
 ⟨.v 2, .mv, [.con (.bool true)], none⟩]
theorem P31 : C31.M = M := by unfold C31 E31; rfl
theorem i31 {a0 : D} : St.init C31 [a0] ⟨[], []⟩ = ⟨[a0, .u0, .u0, .u0, .u0, .u0, .u0, .u0, .u0, .u0, .u0, .u0, .u0, .u0], [], ⟨[], []⟩⟩ := by unfold C31 E31; rfl
noncomputable def c31 : RC := (.seq (.reg r31_0) (.seq (.reg r31_1) (.seq (.block 0 (.seq (.reg r31_2) (.cond (.v 5) (.seq (.reg r31_3) .ret) (.seq (.reg r31_4) (.cond (.v 6) (.reg r31_5) (.seq (.reg r31_6) (.cond (.v 7) (.reg r31_7) .skip))))))) (.seq (.seq (.reg r31_8) (.cond (.v 8) (.seq (.reg r31_9) .ret) .skip)) (.seq (.seq (.reg r31_10) (.block 1 (.loop (.seq (.reg r31_11) (.seq (.cond (.v 12) .skip (.exit 1)) (.seq (.block 2 (.seq (.reg r31_12) (.seq (.reg r31_13) (.cond (.v 13) (.seq (.reg r31_14) .ret) .skip)))) (.reg r31_15))))))) (.seq (.reg r31_16) .ret))))))
noncomputable def q31 : List RR := [(.slot (.v 2))]
theorem k31 : FnOk M 31 1 Tryd.f31 E31 c31 q31 := fnOk Tryd.func31
noncomputable def E12 (n m : Nat) : Cfg := ⟨M, [0, 1, 2], 10, n, m, []⟩
noncomputable def C12 : Cfg := E12 0 0
noncomputable abbrev r12_0 : List RO := [
 ⟨.v 1, .box, [.v 0], none⟩,
 ⟨.v 2, .mv, [.con (.bool false)], none⟩]
noncomputable abbrev r12_1 : List RO := [
 ⟨.l 3, .ld true 3, [.v 1], none⟩,
 ⟨.l 4, .calls .fn, [(.con (.fn (.func 30) [] [])), .l 3, .con (.int .i64 60)], none⟩,
 ⟨.l 5, .bin .leq, [.l 4, .con (.int .i64 60)], none⟩,
 ⟨.l 6, .mv, [.l 5], none⟩,
 ⟨.l 7, .ld true 3, [.v 1], (some (.l 6, true))⟩,
 ⟨.l 8, .calls .fn, [(.con (.fn (.func 31) [] [])), .l 7], (some (.l 6, true))⟩,
 ⟨.l 9, .pick, [.l 6, .l 8, .con (.bool false)], none⟩,
 ⟨.v 2, .mv, [.l 9], none⟩]
theorem P12 : C12.M = M := by unfold C12 E12; rfl
theorem i12 {a0 : D} : St.init C12 [a0] ⟨[], []⟩ = ⟨[a0, .u0, .u0], [], ⟨[], []⟩⟩ := by unfold C12 E12; rfl
noncomputable def c12 : RC := (.seq (.reg r12_0) (.seq (.reg r12_1) .ret))
noncomputable def q12 : List RR := [(.slot (.v 2))]
theorem k12 : FnOk M 12 1 Tryd.f12 E12 c12 q12 := fnOk Tryd.func12
noncomputable def E19 (n m : Nat) : Cfg := ⟨M, [0, 1, 2], 18, n, m, []⟩
noncomputable def C19 : Cfg := E19 0 0
noncomputable abbrev r19_0 : List RO := [
 ⟨.v 1, .box, [.v 0], none⟩,
 ⟨.v 2, .mv, [.con (.bool false)], none⟩]
noncomputable abbrev r19_1 : List RO := [
 ⟨.l 3, .fld 0, [.v 1], none⟩,
 ⟨.l 4, .ld false 1, [.l 3], none⟩,
 ⟨.l 5, .bin .leq, [(.con (.int .i64 (-1000000000000))), .l 4], none⟩,
 ⟨.l 6, .mv, [.l 5], none⟩,
 ⟨.l 7, .fld 0, [.v 1], (some (.l 6, true))⟩,
 ⟨.l 8, .ld false 1, [.l 7], (some (.l 6, true))⟩,
 ⟨.l 9, .fld 1, [.v 1], (some (.l 6, true))⟩,
 ⟨.l 10, .ld false 1, [.l 9], (some (.l 6, true))⟩,
 ⟨.l 11, .bin .leq, [.l 8, .l 10], (some (.l 6, true))⟩,
 ⟨.l 12, .pick, [.l 6, .l 11, .con (.bool false)], none⟩,
 ⟨.l 13, .mv, [.l 12], none⟩,
 ⟨.l 14, .fld 1, [.v 1], (some (.l 13, true))⟩,
 ⟨.l 15, .ld false 1, [.l 14], (some (.l 13, true))⟩,
 ⟨.l 16, .bin .leq, [.l 15, .con (.int .i64 1000000000000)], (some (.l 13, true))⟩,
 ⟨.l 17, .pick, [.l 13, .l 16, .con (.bool false)], none⟩,
 ⟨.v 2, .mv, [.l 17], none⟩]
theorem P19 : C19.M = M := by unfold C19 E19; rfl
theorem i19 {a0 : D} : St.init C19 [a0] ⟨[], []⟩ = ⟨[a0, .u0, .u0], [], ⟨[], []⟩⟩ := by unfold C19 E19; rfl
noncomputable def c19 : RC := (.seq (.reg r19_0) (.seq (.reg r19_1) .ret))
noncomputable def q19 : List RR := [(.slot (.v 2))]
theorem k19 : FnOk M 19 1 Tryd.f19 E19 c19 q19 := fnOk Tryd.func19
noncomputable def E21 (n m : Nat) : Cfg := ⟨M, [0, 1, 4], 8, n, m, []⟩
noncomputable def C21 : Cfg := E21 0 0
noncomputable abbrev r21_0 : List RO := [
 ⟨.v 2, (.newb [(.int .i64 0), (.int .i64 0)]), [], none⟩]
noncomputable abbrev r21_1 : List RO := [
 ⟨.l 5, .mv, [.v 0], none⟩,
 ⟨.l 6, .mv, [.v 1], none⟩,
 ⟨.l 7, (.bld [(.int .i64 0), (.int .i64 0)] [(0, 1), (1, 1)]), [.l 5, .l 6], none⟩,
 ⟨.none, .st 2, [.v 2, .l 7], none⟩]
theorem P21 : C21.M = M := by unfold C21 E21; rfl
theorem i21 {a0 a1 : D} : St.init C21 [a0, a1] ⟨[], []⟩ = ⟨[a0, a1, .u0], [], ⟨[], []⟩⟩ := by unfold C21 E21; rfl
noncomputable def c21 : RC := (.seq (.reg r21_0) (.seq (.reg r21_1) .ret))
noncomputable def q21 : List RR := [(.cell (.v 2) true 2)]
theorem z21 {n m : Nat} : zAc (E21 n m) (Tryd.f21.body.getD .skip) = some c21 := by kernel_rfl
theorem k21 : FnOk M 21 2 Tryd.f21 E21 c21 q21 := fnOk Tryd.func21
noncomputable def E37 (n m : Nat) : Cfg := ⟨M, [0, 2], 6, n, m, []⟩
noncomputable def C37 : Cfg := E37 0 0
noncomputable abbrev r37_0 : List RO := [
 ⟨.v 1, .mv, [.con (.int .i64 0)], none⟩]
noncomputable abbrev r37_1 : List RO := [
 ⟨.l 3, .mv, [.v 0], none⟩,
 ⟨.l 4, .minI, [.l 3, .con (.int .i64 1000000000000)], none⟩,
 ⟨.l 5, .maxI, [(.con (.int .i64 (-1000000000000))), .l 4], none⟩,
 ⟨.v 1, .mv, [.l 5], none⟩]
theorem P37 : C37.M = M := by unfold C37 E37; rfl
theorem i37 {a0 : D} : St.init C37 [a0] ⟨[], []⟩ = ⟨[a0, .u0], [], ⟨[], []⟩⟩ := by unfold C37 E37; rfl
noncomputable def c37 : RC := (.seq (.reg r37_0) (.seq (.reg r37_1) .ret))
noncomputable def q37 : List RR := [(.slot (.v 1))]
theorem z37 {n m : Nat} : zAc (E37 n m) (Tryd.f37.body.getD .skip) = some c37 := by kernel_rfl
theorem k37 : FnOk M 37 1 Tryd.f37 E37 c37 q37 := fnOk Tryd.func37
noncomputable def E124 (n m : Nat) : Cfg := ⟨M, [0, 1, 4], 6, n, m, []⟩
noncomputable def C124 : Cfg := E124 0 0
noncomputable abbrev r124_0 : List RO := [
 ⟨.l 2, .box, [.v 0], none⟩,
 ⟨.v 2, .mv, [.con (.int .i64 0)], none⟩]
noncomputable abbrev r124_1 : List RO := [
 ⟨.l 5, .mv, [.v 1], none⟩,
 ⟨.v 2, .mv, [.l 5], none⟩]
theorem P124 : C124.M = M := by unfold C124 E124; rfl
theorem i124 {a0 a1 : D} : St.init C124 [a0, a1] ⟨[], []⟩ = ⟨[a0, a1, .u0], [], ⟨[], []⟩⟩ := by unfold C124 E124; rfl
noncomputable def c124 : RC := (.seq (.reg r124_0) (.seq (.reg r124_1) .ret))
noncomputable def q124 : List RR := [(.slot (.v 2))]
theorem k124 : FnOk M 124 2 Tryd.f124 E124 c124 q124 := fnOk Tryd.func124
noncomputable def E123 (n m : Nat) : Cfg := ⟨M, [0, 1, 2, 4, 5, 6, 10], 16, n, m, []⟩
noncomputable def C123 : Cfg := E123 0 0
noncomputable abbrev r123_0 : List RO := [
 ⟨.v 2, .box, [.v 0], none⟩,
 ⟨.v 3, .mv, [.con (.int .i64 0)], none⟩]
noncomputable abbrev r123_1 : List RO := [
 ⟨.v 4, .mv, [.v 1], none⟩]
noncomputable abbrev r123_2 : List RO := [
 ⟨.l 7, .bin .eql, [.v 4, .con (.int .i64 2)], none⟩,
 ⟨.v 5, .mv, [.l 7], none⟩]
noncomputable abbrev r123_3 : List RO := [
 ⟨.l 8, .fld 0, [.v 2], none⟩,
 ⟨.l 9, .ld false 1, [.l 8], none⟩,
 ⟨.v 3, .mv, [.l 9], none⟩]
noncomputable abbrev r123_4 : List RO := [
 ⟨.l 11, .bin .eql, [.v 4, .con (.int .i64 3)], none⟩,
 ⟨.v 6, .mv, [.l 11], none⟩]
noncomputable abbrev r123_5 : List RO := [
 ⟨.l 12, .fld 1, [.v 2], none⟩,
 ⟨.l 13, .ld false 1, [.l 12], none⟩,
 ⟨.v 3, .mv, [.l 13], none⟩]
noncomputable abbrev r123_6 : List RO := [
 ⟨.l 14, .fld 2, [.v 2], none⟩,
 ⟨.l 15, .ld false 1, [.l 14], none⟩,
 ⟨.v 3, .mv, [.l 15], none⟩]
theorem P123 : C123.M = M := by unfold C123 E123; rfl
theorem i123 {a0 a1 : D} : St.init C123 [a0, a1] ⟨[], []⟩ = ⟨[a0, a1, .u0, .u0, .u0, .u0, .u0], [], ⟨[], []⟩⟩ := by unfold C123 E123; rfl
noncomputable def c123 : RC := (.seq (.reg r123_0) (.seq (.seq (.reg r123_1) (.block 0 (.seq (.reg r123_2) (.cond (.v 5) (.seq (.reg r123_3) .ret) (.seq (.reg r123_4) (.cond (.v 6) (.seq (.reg r123_5) .ret) .skip)))))) (.seq (.reg r123_6) .ret)))
noncomputable def q123 : List RR := [(.slot (.v 3))]
theorem k123 : FnOk M 123 2 Tryd.f123 E123 c123 q123 := fnOk Tryd.func123
noncomputable def E122 (n m : Nat) : Cfg := ⟨M, [0, 1, 2, 3, 8, 10], 13, n, m, []⟩
noncomputable def C122 : Cfg := E122 0 0
noncomputable abbrev r122_0 : List RO := [
 ⟨.l 4, .box, [.v 0], none⟩,
 ⟨.v 4, .mv, [.con (.int .i64 0)], none⟩]
noncomputable abbrev r122_1 : List RO := [
 ⟨.l 9, .mv, [.v 1], none⟩,
 ⟨.v 5, .bin .gtr, [.l 9, .con (.int .i64 0)], none⟩]
noncomputable abbrev r122_2 : List RO := [
 ⟨.l 11, .mv, [.v 2], none⟩,
 ⟨.v 4, .mv, [.l 11], none⟩]
noncomputable abbrev r122_3 : List RO := [
 ⟨.l 12, .mv, [.v 3], none⟩,
 ⟨.v 4, .mv, [.l 12], none⟩]
theorem P122 : C122.M = M := by unfold C122 E122; rfl
theorem i122 {a0 a1 a2 a3 : D} : St.init C122 [a0, a1, a2, a3] ⟨[], []⟩ = ⟨[a0, a1, a2, a3, .u0, .u0], [], ⟨[], []⟩⟩ := by unfold C122 E122; rfl
noncomputable def c122 : RC := (.seq (.reg r122_0) (.seq (.seq (.reg r122_1) (.cond (.v 5) (.seq (.reg r122_2) .ret) .skip)) (.seq (.reg r122_3) .ret)))
noncomputable def q122 : List RR := [(.slot (.v 4))]
theorem k122 : FnOk M 122 4 Tryd.f122 E122 c122 q122 := fnOk Tryd.func122
noncomputable def E121 (n m : Nat) : Cfg := ⟨M, [0, 1, 2, 3, 8, 9, 10, 11, 21, 31, 41, 46], 54, n, m, []⟩
noncomputable def C121 : Cfg := E121 0 0
noncomputable abbrev r121_0 : List RO := [
 ⟨.l 4, .box, [.v 0], none⟩,
 ⟨.v 4, .mv, [.con (.int .i64 0)], none⟩]
noncomputable abbrev r121_1 : List RO := [
 ⟨.v 5, .mv, [(.con (.fn (.func 125) [] []))], none⟩]
noncomputable abbrev r121_2 : List RO := [
 ⟨.v 6, .mv, [.v 1], none⟩]
noncomputable abbrev r121_3 : List RO := [
 ⟨.l 12, .bin .eql, [.v 6, .con (.int .i64 5)], none⟩,
 ⟨.v 7, .mv, [.l 12], none⟩]
noncomputable abbrev r121_4 : List RO := [
 ⟨.l 13, .mv, [.v 5], none⟩,
 ⟨.l 14, .mv, [.v 2], none⟩,
 ⟨.l 15, .calls .fn, [.l 13, .l 14], none⟩,
 ⟨.l 16, .mv, [.v 5], none⟩,
 ⟨.l 17, .mv, [.v 3], none⟩,
 ⟨.l 18, .calls .fn, [.l 16, .l 17], none⟩,
 ⟨.l 19, .calls .fn, [(.con (.fn (.func 104) [] [])), .l 15, .l 18], none⟩,
 ⟨.l 20, .fv false 0 1, [.l 19], none⟩,
 ⟨.v 4, .mv, [.l 20], none⟩]
noncomputable abbrev r121_5 : List RO := [
 ⟨.l 22, .bin .eql, [.v 6, .con (.int .i64 6)], none⟩,
 ⟨.v 8, .mv, [.l 22], none⟩]
noncomputable abbrev r121_6 : List RO := [
 ⟨.l 23, .mv, [.v 5], none⟩,
 ⟨.l 24, .mv, [.v 2], none⟩,
 ⟨.l 25, .calls .fn, [.l 23, .l 24], none⟩,
 ⟨.l 26, .mv, [.v 5], none⟩,
 ⟨.l 27, .mv, [.v 3], none⟩,
 ⟨.l 28, .calls .fn, [.l 26, .l 27], none⟩,
 ⟨.l 29, .calls .fn, [(.con (.fn (.func 105) [] [])), .l 25, .l 28], none⟩,
 ⟨.l 30, .fv false 0 1, [.l 29], none⟩,
 ⟨.v 4, .mv, [.l 30], none⟩]
noncomputable abbrev r121_7 : List RO := [
 ⟨.l 32, .bin .eql, [.v 6, .con (.int .i64 7)], none⟩,
 ⟨.v 9, .mv, [.l 32], none⟩]
noncomputable abbrev r121_8 : List RO := [
 ⟨.l 33, .mv, [.v 5], none⟩,
 ⟨.l 34, .mv, [.v 2], none⟩,
 ⟨.l 35, .calls .fn, [.l 33, .l 34], none⟩,
 ⟨.l 36, .mv, [.v 5], none⟩,
 ⟨.l 37, .mv, [.v 3], none⟩,
 ⟨.l 38, .calls .fn, [.l 36, .l 37], none⟩,
 ⟨.l 39, .calls .fn, [(.con (.fn (.func 106) [] [])), .l 35, .l 38], none⟩,
 ⟨.l 40, .fv false 0 1, [.l 39], none⟩,
 ⟨.v 4, .mv, [.l 40], none⟩]
noncomputable abbrev r121_9 : List RO := [
 ⟨.l 42, .bin .eql, [.v 6, .con (.int .i64 8)], none⟩,
 ⟨.v 10, .mv, [.l 42], none⟩]
noncomputable abbrev r121_10 : List RO := [
 ⟨.l 43, .mv, [.v 2], none⟩,
 ⟨.l 44, .mv, [.v 3], none⟩,
 ⟨.l 45, .calls .fn, [(.con (.fn (.func 115) [] [])), .l 43, .l 44], none⟩,
 ⟨.v 4, .mv, [.l 45], none⟩]
noncomputable abbrev r121_11 : List RO := [
 ⟨.l 47, .bin .eql, [.v 6, .con (.int .i64 9)], none⟩,
 ⟨.v 11, .mv, [.l 47], none⟩]
noncomputable abbrev r121_12 : List RO := [
 ⟨.l 48, .mv, [.v 2], none⟩,
 ⟨.l 49, .mv, [.v 3], none⟩,
 ⟨.l 50, .minI, [.l 48, .l 49], none⟩,
 ⟨.v 4, .mv, [.l 50], none⟩]
noncomputable abbrev r121_13 : List RO := [
 ⟨.l 51, .mv, [.v 2], none⟩,
 ⟨.l 52, .mv, [.v 3], none⟩,
 ⟨.l 53, .maxI, [.l 51, .l 52], none⟩,
 ⟨.v 4, .mv, [.l 53], none⟩]
theorem P121 : C121.M = M := by unfold C121 E121; rfl
theorem i121 {a0 a1 a2 a3 : D} : St.init C121 [a0, a1, a2, a3] ⟨[], []⟩ = ⟨[a0, a1, a2, a3, .u0, .u0, .u0, .u0, .u0, .u0, .u0, .u0], [], ⟨[], []⟩⟩ := by unfold C121 E121; rfl
noncomputable def c121 : RC := (.seq (.reg r121_0) (.seq (.reg r121_1) (.seq (.seq (.reg r121_2) (.block 0 (.seq (.reg r121_3) (.cond (.v 7) (.seq (.reg r121_4) .ret) (.seq (.reg r121_5) (.cond (.v 8) (.seq (.reg r121_6) .ret) (.seq (.reg r121_7) (.cond (.v 9) (.seq (.reg r121_8) .ret) (.seq (.reg r121_9) (.cond (.v 10) (.seq (.reg r121_10) .ret) (.seq (.reg r121_11) (.cond (.v 11) (.seq (.reg r121_12) .ret) .skip)))))))))))) (.seq (.reg r121_13) .ret))))
noncomputable def q121 : List RR := [(.slot (.v 4))]
theorem k121 : FnOk M 121 4 Tryd.f121 E121 c121 q121 := fnOk Tryd.func121
noncomputable def E125 (n m : Nat) : Cfg := ⟨M, [0, 2], 6, n, m, []⟩
noncomputable def C125 : Cfg := E125 0 0
noncomputable abbrev r125_0 : List RO := [
 ⟨.v 1, (.newb [(.int .i64 0), (.int .i64 0)]), [], none⟩]
noncomputable abbrev r125_1 : List RO := [
 ⟨.l 3, .mv, [.v 0], none⟩,
 ⟨.l 4, .mv, [.v 0], none⟩,
 ⟨.l 5, (.bld [(.int .i64 0), (.int .i64 0)] [(0, 1), (1, 1)]), [.l 3, .l 4], none⟩,
 ⟨.none, .st 2, [.v 1, .l 5], none⟩]
theorem P125 : C125.M = M := by unfold C125 E125; rfl
theorem i125 {a0 : D} : St.init C125 [a0] ⟨[], []⟩ = ⟨[a0, .u0], [], ⟨[], []⟩⟩ := by unfold C125 E125; rfl
noncomputable def c125 : RC := (.seq (.reg r125_0) (.seq (.reg r125_1) .ret))
noncomputable def q125 : List RR := [(.cell (.v 1) true 2)]
theorem k125 : FnOk M 125 1 Tryd.f125 E125 c125 q125 := fnOk Tryd.func125
noncomputable def E103 (n m : Nat) : Cfg := ⟨M, [0, 1, 4], 8, n, m, []⟩
noncomputable def C103 : Cfg := E103 0 0
noncomputable abbrev r103_0 : List RO := [
 ⟨.l 2, .box, [.v 0], none⟩,
 ⟨.v 2, (.newb [(.int .i64 0), (.int .i64 0)]), [], none⟩]
noncomputable abbrev r103_1 : List RO := [
 ⟨.l 5, .mv, [.v 1], none⟩,
 ⟨.l 6, .mv, [.v 1], none⟩,
 ⟨.l 7, (.bld [(.int .i64 0), (.int .i64 0)] [(0, 1), (1, 1)]), [.l 5, .l 6], none⟩,
 ⟨.none, .st 2, [.v 2, .l 7], none⟩]
theorem P103 : C103.M = M := by unfold C103 E103; rfl
theorem i103 {a0 a1 : D} : St.init C103 [a0, a1] ⟨[], []⟩ = ⟨[a0, a1, .u0], [], ⟨[], []⟩⟩ := by unfold C103 E103; rfl
noncomputable def c103 : RC := (.seq (.reg r103_0) (.seq (.reg r103_1) .ret))
noncomputable def q103 : List RR := [(.cell (.v 2) true 2)]
theorem k103 : FnOk M 103 2 Tryd.f103 E103 c103 q103 := fnOk Tryd.func103
noncomputable def E102 (n m : Nat) : Cfg := ⟨M, [0, 1, 2, 4, 5, 6, 11], 19, n, m, []⟩
noncomputable def C102 : Cfg := E102 0 0
noncomputable abbrev r102_0 : List RO := [
 ⟨.v 2, .box, [.v 0], none⟩,
 ⟨.v 3, (.newb [(.int .i64 0), (.int .i64 0)]), [], none⟩]
noncomputable abbrev r102_1 : List RO := [
 ⟨.v 4, .mv, [.v 1], none⟩]
noncomputable abbrev r102_2 : List RO := [
 ⟨.l 7, .bin .eql, [.v 4, .con (.int .i64 2)], none⟩,
 ⟨.v 5, .mv, [.l 7], none⟩]
noncomputable abbrev r102_3 : List RO := [
 ⟨.l 8, .fld 0, [.v 2], none⟩,
 ⟨.l 9, .fld 0, [.l 8], none⟩,
 ⟨.l 10, .ld true 2, [.l 9], none⟩,
 ⟨.none, .st 2, [.v 3, .l 10], none⟩]
noncomputable abbrev r102_4 : List RO := [
 ⟨.l 12, .bin .eql, [.v 4, .con (.int .i64 3)], none⟩,
 ⟨.v 6, .mv, [.l 12], none⟩]
noncomputable abbrev r102_5 : List RO := [
 ⟨.l 13, .fld 0, [.v 2], none⟩,
 ⟨.l 14, .fld 2, [.l 13], none⟩,
 ⟨.l 15, .ld true 2, [.l 14], none⟩,
 ⟨.none, .st 2, [.v 3, .l 15], none⟩]
noncomputable abbrev r102_6 : List RO := [
 ⟨.l 16, .fld 0, [.v 2], none⟩,
 ⟨.l 17, .fld 4, [.l 16], none⟩,
 ⟨.l 18, .ld true 2, [.l 17], none⟩,
 ⟨.none, .st 2, [.v 3, .l 18], none⟩]
theorem P102 : C102.M = M := by unfold C102 E102; rfl
theorem i102 {a0 a1 : D} : St.init C102 [a0, a1] ⟨[], []⟩ = ⟨[a0, a1, .u0, .u0, .u0, .u0, .u0], [], ⟨[], []⟩⟩ := by unfold C102 E102; rfl
noncomputable def c102 : RC := (.seq (.reg r102_0) (.seq (.seq (.reg r102_1) (.block 0 (.seq (.reg r102_2) (.cond (.v 5) (.seq (.reg r102_3) .ret) (.seq (.reg r102_4) (.cond (.v 6) (.seq (.reg r102_5) .ret) .skip)))))) (.seq (.reg r102_6) .ret)))
noncomputable def q102 : List RR := [(.cell (.v 3) true 2)]
theorem k102 : FnOk M 102 2 Tryd.f102 E102 c102 q102 := fnOk Tryd.func102
noncomputable def E101 (n m : Nat) : Cfg := ⟨M, [0, 1, 2, 3, 5, 6, 7, 8, 10, 11, 14], 20, n, m, []⟩
noncomputable def C101 : Cfg := E101 0 0
noncomputable abbrev r101_0 : List RO := [
 ⟨.l 4, .box, [.v 0], none⟩,
 ⟨.v 4, .box, [.v 1], none⟩,
 ⟨.v 5, .box, [.v 2], none⟩,
 ⟨.v 6, .box, [.v 3], none⟩,
 ⟨.v 7, (.newb [(.int .i64 0), (.int .i64 0)]), [], none⟩]
noncomputable abbrev r101_1 : List RO := [
 ⟨.l 9, .ld true 2, [.v 4], none⟩,
 ⟨.v 8, .calls .fn, [(.con (.fn (.func 108) [] [])), .l 9, .con (.int .i64 0)], none⟩]
noncomputable abbrev r101_2 : List RO := [
 ⟨.l 12, .bin .eql, [.v 8, .con (.int .i64 2)], none⟩,
 ⟨.v 9, .mv, [.l 12], none⟩]
noncomputable abbrev r101_3 : List RO := [
 ⟨.l 13, .ld true 2, [.v 5], none⟩,
 ⟨.none, .st 2, [.v 7, .l 13], none⟩]
noncomputable abbrev r101_4 : List RO := [
 ⟨.l 15, .bin .eql, [.v 8, .con (.int .i64 0)], none⟩,
 ⟨.v 10, .mv, [.l 15], none⟩]
noncomputable abbrev r101_5 : List RO := [
 ⟨.l 16, .ld true 2, [.v 6], none⟩,
 ⟨.none, .st 2, [.v 7, .l 16], none⟩]
noncomputable abbrev r101_6 : List RO := [
 ⟨.l 17, .ld true 2, [.v 5], none⟩,
 ⟨.l 18, .ld true 2, [.v 6], none⟩,
 ⟨.l 19, .calls .fn, [(.con (.fn (.func 109) [] [])), .l 17, .l 18], none⟩,
 ⟨.none, .st 2, [.v 7, .l 19], none⟩]
theorem P101 : C101.M = M := by unfold C101 E101; rfl
theorem i101 {a0 a1 a2 a3 : D} : St.init C101 [a0, a1, a2, a3] ⟨[], []⟩ = ⟨[a0, a1, a2, a3, .u0, .u0, .u0, .u0, .u0, .u0, .u0], [], ⟨[], []⟩⟩ := by unfold C101 E101; rfl
noncomputable def c101 : RC := (.seq (.reg r101_0) (.seq (.seq (.reg r101_1) (.block 0 (.seq (.reg r101_2) (.cond (.v 9) (.seq (.reg r101_3) .ret) (.seq (.reg r101_4) (.cond (.v 10) (.seq (.reg r101_5) .ret) .skip)))))) (.seq (.reg r101_6) .ret)))
noncomputable def q101 : List RR := [(.cell (.v 7) true 2)]
theorem k101 : FnOk M 101 4 Tryd.f101 E101 c101 q101 := fnOk Tryd.func101
noncomputable def E100 (n m : Nat) : Cfg := ⟨M, [0, 1, 2, 3, 6, 7, 8, 9, 10, 15, 20, 25, 38], 54, n, m, []⟩
noncomputable def C100 : Cfg := E100 0 0
noncomputable abbrev r100_0 : List RO := [
 ⟨.l 4, .box, [.v 0], none⟩,
 ⟨.v 4, .box, [.v 2], none⟩,
 ⟨.v 5, .box, [.v 3], none⟩,
 ⟨.v 6, (.newb [(.int .i64 0), (.int .i64 0)]), [], none⟩]
noncomputable abbrev r100_1 : List RO := [
 ⟨.v 7, .mv, [.v 1], none⟩]
noncomputable abbrev r100_2 : List RO := [
 ⟨.l 11, .bin .eql, [.v 7, .con (.int .i64 5)], none⟩,
 ⟨.v 8, .mv, [.l 11], none⟩]
noncomputable abbrev r100_3 : List RO := [
 ⟨.l 12, .ld true 2, [.v 4], none⟩,
 ⟨.l 13, .ld true 2, [.v 5], none⟩,
 ⟨.l 14, .calls .fn, [(.con (.fn (.func 104) [] [])), .l 12, .l 13], none⟩,
 ⟨.none, .st 2, [.v 6, .l 14], none⟩]
noncomputable abbrev r100_4 : List RO := [
 ⟨.l 16, .bin .eql, [.v 7, .con (.int .i64 6)], none⟩,
 ⟨.v 9, .mv, [.l 16], none⟩]
noncomputable abbrev r100_5 : List RO := [
 ⟨.l 17, .ld true 2, [.v 4], none⟩,
 ⟨.l 18, .ld true 2, [.v 5], none⟩,
 ⟨.l 19, .calls .fn, [(.con (.fn (.func 105) [] [])), .l 17, .l 18], none⟩,
 ⟨.none, .st 2, [.v 6, .l 19], none⟩]
noncomputable abbrev r100_6 : List RO := [
 ⟨.l 21, .bin .eql, [.v 7, .con (.int .i64 7)], none⟩,
 ⟨.v 10, .mv, [.l 21], none⟩]
noncomputable abbrev r100_7 : List RO := [
 ⟨.l 22, .ld true 2, [.v 4], none⟩,
 ⟨.l 23, .ld true 2, [.v 5], none⟩,
 ⟨.l 24, .calls .fn, [(.con (.fn (.func 106) [] [])), .l 22, .l 23], none⟩,
 ⟨.none, .st 2, [.v 6, .l 24], none⟩]
noncomputable abbrev r100_8 : List RO := [
 ⟨.l 26, .bin .eql, [.v 7, .con (.int .i64 9)], none⟩,
 ⟨.v 11, .mv, [.l 26], none⟩]
noncomputable abbrev r100_9 : List RO := [
 ⟨.l 27, .fld 0, [.v 4], none⟩,
 ⟨.l 28, .ld false 1, [.l 27], none⟩,
 ⟨.l 29, .fld 0, [.v 5], none⟩,
 ⟨.l 30, .ld false 1, [.l 29], none⟩,
 ⟨.l 31, .minI, [.l 28, .l 30], none⟩,
 ⟨.l 32, .fld 1, [.v 4], none⟩,
 ⟨.l 33, .ld false 1, [.l 32], none⟩,
 ⟨.l 34, .fld 1, [.v 5], none⟩,
 ⟨.l 35, .ld false 1, [.l 34], none⟩,
 ⟨.l 36, .minI, [.l 33, .l 35], none⟩,
 ⟨.l 37, (.bld [(.int .i64 0), (.int .i64 0)] [(0, 1), (1, 1)]), [.l 31, .l 36], none⟩,
 ⟨.none, .st 2, [.v 6, .l 37], none⟩]
noncomputable abbrev r100_10 : List RO := [
 ⟨.l 39, .bin .eql, [.v 7, .con (.int .i64 10)], none⟩,
 ⟨.v 12, .mv, [.l 39], none⟩]
noncomputable abbrev r100_11 : List RO := [
 ⟨.l 40, .fld 0, [.v 4], none⟩,
 ⟨.l 41, .ld false 1, [.l 40], none⟩,
 ⟨.l 42, .fld 0, [.v 5], none⟩,
 ⟨.l 43, .ld false 1, [.l 42], none⟩,
 ⟨.l 44, .maxI, [.l 41, .l 43], none⟩,
 ⟨.l 45, .fld 1, [.v 4], none⟩,
 ⟨.l 46, .ld false 1, [.l 45], none⟩,
 ⟨.l 47, .fld 1, [.v 5], none⟩,
 ⟨.l 48, .ld false 1, [.l 47], none⟩,
 ⟨.l 49, .maxI, [.l 46, .l 48], none⟩,
 ⟨.l 50, (.bld [(.int .i64 0), (.int .i64 0)] [(0, 1), (1, 1)]), [.l 44, .l 49], none⟩,
 ⟨.none, .st 2, [.v 6, .l 50], none⟩]
noncomputable abbrev r100_12 : List RO := [
 ⟨.l 51, .ld true 2, [.v 4], none⟩,
 ⟨.l 52, .ld true 2, [.v 5], none⟩,
 ⟨.l 53, .calls .fn, [(.con (.fn (.func 107) [] [])), .l 51, .l 52], none⟩,
 ⟨.none, .st 2, [.v 6, .l 53], none⟩]
theorem P100 : C100.M = M := by unfold C100 E100; rfl
theorem i100 {a0 a1 a2 a3 : D} : St.init C100 [a0, a1, a2, a3] ⟨[], []⟩ = ⟨[a0, a1, a2, a3, .u0, .u0, .u0, .u0, .u0, .u0, .u0, .u0, .u0], [], ⟨[], []⟩⟩ := by unfold C100 E100; rfl
noncomputable def c100 : RC := (.seq (.reg r100_0) (.seq (.seq (.reg r100_1) (.block 0 (.seq (.reg r100_2) (.cond (.v 8) (.seq (.reg r100_3) .ret) (.seq (.reg r100_4) (.cond (.v 9) (.seq (.reg r100_5) .ret) (.seq (.reg r100_6) (.cond (.v 10) (.seq (.reg r100_7) .ret) (.seq (.reg r100_8) (.cond (.v 11) (.seq (.reg r100_9) .ret) (.seq (.reg r100_10) (.cond (.v 12) (.seq (.reg r100_11) .ret) .skip)))))))))))) (.seq (.reg r100_12) .ret)))
noncomputable def q100 : List RR := [(.cell (.v 6) true 2)]
theorem k100 : FnOk M 100 4 Tryd.f100 E100 c100 q100 := fnOk Tryd.func100
noncomputable def E104 (n m : Nat) : Cfg := ⟨M, [0, 1, 2, 3, 4], 8, n, m, []⟩
noncomputable def C104 : Cfg := E104 0 0
noncomputable abbrev r104_0 : List RO := [
 ⟨.v 2, .box, [.v 0], none⟩,
 ⟨.v 3, .box, [.v 1], none⟩,
 ⟨.v 4, (.newb [(.int .i64 0), (.int .i64 0)]), [], none⟩]
noncomputable abbrev r104_1 : List RO := [
 ⟨.l 5, .ld true 2, [.v 2], none⟩,
 ⟨.l 6, .ld true 2, [.v 3], none⟩,
 ⟨.l 7, .calls .fn, [(.con (.fn (.func 110) [] [])), .l 5, .l 6, (.con (.fn (.func 111) [] []))], none⟩,
 ⟨.none, .st 2, [.v 4, .l 7], none⟩]
theorem P104 : C104.M = M := by unfold C104 E104; rfl
theorem i104 {a0 a1 : D} : St.init C104 [a0, a1] ⟨[], []⟩ = ⟨[a0, a1, .u0, .u0, .u0], [], ⟨[], []⟩⟩ := by unfold C104 E104; rfl
noncomputable def c104 : RC := (.seq (.reg r104_0) (.seq (.reg r104_1) .ret))
noncomputable def q104 : List RR := [(.cell (.v 4) true 2)]
theorem k104 : FnOk M 104 2 Tryd.f104 E104 c104 q104 := fnOk Tryd.func104
noncomputable def E105 (n m : Nat) : Cfg := ⟨M, [0, 1, 2, 3, 4], 8, n, m, []⟩
noncomputable def C105 : Cfg := E105 0 0
noncomputable abbrev r105_0 : List RO := [
 ⟨.v 2, .box, [.v 0], none⟩,
 ⟨.v 3, .box, [.v 1], none⟩,
 ⟨.v 4, (.newb [(.int .i64 0), (.int .i64 0)]), [], none⟩]
noncomputable abbrev r105_1 : List RO := [
 ⟨.l 5, .ld true 2, [.v 2], none⟩,
 ⟨.l 6, .ld true 2, [.v 3], none⟩,
 ⟨.l 7, .calls .fn, [(.con (.fn (.func 110) [] [])), .l 5, .l 6, (.con (.fn (.func 112) [] []))], none⟩,
 ⟨.none, .st 2, [.v 4, .l 7], none⟩]
theorem P105 : C105.M = M := by unfold C105 E105; rfl
theorem i105 {a0 a1 : D} : St.init C105 [a0, a1] ⟨[], []⟩ = ⟨[a0, a1, .u0, .u0, .u0], [], ⟨[], []⟩⟩ := by unfold C105 E105; rfl
noncomputable def c105 : RC := (.seq (.reg r105_0) (.seq (.reg r105_1) .ret))
noncomputable def q105 : List RR := [(.cell (.v 4) true 2)]
theorem k105 : FnOk M 105 2 Tryd.f105 E105 c105 q105 := fnOk Tryd.func105
noncomputable def E106 (n m : Nat) : Cfg := ⟨M, [0, 1, 2, 3, 4], 8, n, m, []⟩
noncomputable def C106 : Cfg := E106 0 0
noncomputable abbrev r106_0 : List RO := [
 ⟨.v 2, .box, [.v 0], none⟩,
 ⟨.v 3, .box, [.v 1], none⟩,
 ⟨.v 4, (.newb [(.int .i64 0), (.int .i64 0)]), [], none⟩]
noncomputable abbrev r106_1 : List RO := [
 ⟨.l 5, .ld true 2, [.v 2], none⟩,
 ⟨.l 6, .ld true 2, [.v 3], none⟩,
 ⟨.l 7, .calls .fn, [(.con (.fn (.func 110) [] [])), .l 5, .l 6, (.con (.fn (.func 113) [] []))], none⟩,
 ⟨.none, .st 2, [.v 4, .l 7], none⟩]
theorem P106 : C106.M = M := by unfold C106 E106; rfl
theorem i106 {a0 a1 : D} : St.init C106 [a0, a1] ⟨[], []⟩ = ⟨[a0, a1, .u0, .u0, .u0], [], ⟨[], []⟩⟩ := by unfold C106 E106; rfl
noncomputable def c106 : RC := (.seq (.reg r106_0) (.seq (.reg r106_1) .ret))
noncomputable def q106 : List RR := [(.cell (.v 4) true 2)]
theorem k106 : FnOk M 106 2 Tryd.f106 E106 c106 q106 := fnOk Tryd.func106
noncomputable def E108 (n m : Nat) : Cfg := ⟨M, [0, 1, 2, 4, 5, 15], 20, n, m, []⟩
noncomputable def C108 : Cfg := E108 0 0
noncomputable abbrev r108_0 : List RO := [
 ⟨.v 2, .box, [.v 0], none⟩,
 ⟨.v 3, .mv, [.con (.int .i64 0)], none⟩]
noncomputable abbrev r108_1 : List RO := [
 ⟨.l 6, .ld true 2, [.v 2], none⟩,
 ⟨.l 7, .calls .fn, [(.con (.fn (.func 19) [] [])), .l 6], none⟩,
 ⟨.l 8, .un .not, [.l 7], none⟩,
 ⟨.l 9, .mv, [.l 8], none⟩,
 ⟨.l 10, .fld 1, [.v 2], (some (.l 9, false))⟩,
 ⟨.l 11, .ld false 1, [.l 10], (some (.l 9, false))⟩,
 ⟨.l 12, .mv, [.v 1], (some (.l 9, false))⟩,
 ⟨.l 13, .bin .leq, [.l 11, .l 12], (some (.l 9, false))⟩,
 ⟨.l 14, .pick, [.l 9, .con (.bool true), .l 13], none⟩,
 ⟨.v 4, .mv, [.l 14], none⟩]
noncomputable abbrev r108_2 : List RO := [
 ⟨.v 3, .mv, [.con (.int .i64 0)], none⟩]
noncomputable abbrev r108_3 : List RO := [
 ⟨.l 16, .fld 0, [.v 2], none⟩,
 ⟨.l 17, .ld false 1, [.l 16], none⟩,
 ⟨.l 18, .mv, [.v 1], none⟩,
 ⟨.l 19, .bin .gtr, [.l 17, .l 18], none⟩,
 ⟨.v 5, .mv, [.l 19], none⟩]
noncomputable abbrev r108_4 : List RO := [
 ⟨.v 3, .mv, [.con (.int .i64 2)], none⟩]
noncomputable abbrev r108_5 : List RO := [
 ⟨.v 3, .mv, [.con (.int .i64 1)], none⟩]
theorem P108 : C108.M = M := by unfold C108 E108; rfl
theorem i108 {a0 a1 : D} : St.init C108 [a0, a1] ⟨[], []⟩ = ⟨[a0, a1, .u0, .u0, .u0, .u0], [], ⟨[], []⟩⟩ := by unfold C108 E108; rfl
noncomputable def c108 : RC := (.seq (.reg r108_0) (.seq (.block 0 (.seq (.reg r108_1) (.cond (.v 4) (.seq (.reg r108_2) .ret) (.seq (.reg r108_3) (.cond (.v 5) (.seq (.reg r108_4) .ret) .skip))))) (.seq (.reg r108_5) .ret)))
noncomputable def q108 : List RR := [(.slot (.v 3))]
theorem k108 : FnOk M 108 2 Tryd.f108 E108 c108 q108 := fnOk Tryd.func108
noncomputable def E109 (n m : Nat) : Cfg := ⟨M, [0, 1, 2, 3, 4, 12], 24, n, m, []⟩
noncomputable def C109 : Cfg := E109 0 0
noncomputable abbrev r109_0 : List RO := [
 ⟨.v 2, .box, [.v 0], none⟩,
 ⟨.v 3, .box, [.v 1], none⟩,
 ⟨.v 4, (.newb [(.int .i64 0), (.int .i64 0)]), [], none⟩]
noncomputable abbrev r109_1 : List RO := [
 ⟨.l 5, .ld true 2, [.v 2], none⟩,
 ⟨.l 6, .calls .fn, [(.con (.fn (.func 19) [] [])), .l 5], none⟩,
 ⟨.l 7, .un .not, [.l 6], none⟩,
 ⟨.l 8, .mv, [.l 7], none⟩,
 ⟨.l 9, .ld true 2, [.v 3], (some (.l 8, false))⟩,
 ⟨.l 10, .calls .fn, [(.con (.fn (.func 19) [] [])), .l 9], (some (.l 8, false))⟩,
 ⟨.l 11, .un .not, [.l 10], (some (.l 8, false))⟩,
 ⟨.v 5, .pick, [.l 8, .con (.bool true), .l 11], none⟩]
noncomputable abbrev r109_2 : List RO := [
 ⟨.l 13, (.bld [(.int .i64 0), (.int .i64 0)] []), [], none⟩,
 ⟨.none, .st 2, [.v 4, .l 13], none⟩]
noncomputable abbrev r109_3 : List RO := [
 ⟨.l 14, .fld 0, [.v 2], none⟩,
 ⟨.l 15, .ld false 1, [.l 14], none⟩,
 ⟨.l 16, .fld 1, [.v 2], none⟩,
 ⟨.l 17, .ld false 1, [.l 16], none⟩,
 ⟨.l 18, .fld 0, [.v 3], none⟩,
 ⟨.l 19, .ld false 1, [.l 18], none⟩,
 ⟨.l 20, .fld 1, [.v 3], none⟩,
 ⟨.l 21, .ld false 1, [.l 20], none⟩,
 ⟨.l 22, .bsl 1, [.l 15, .l 17, .l 19, .l 21], none⟩,
 ⟨.l 23, .calls .fn, [(.con (.fn (.func 116) [] [])), .l 22], none⟩,
 ⟨.none, .st 2, [.v 4, .l 23], none⟩]
theorem P109 : C109.M = M := by unfold C109 E109; rfl
theorem i109 {a0 a1 : D} : St.init C109 [a0, a1] ⟨[], []⟩ = ⟨[a0, a1, .u0, .u0, .u0, .u0], [], ⟨[], []⟩⟩ := by unfold C109 E109; rfl
noncomputable def c109 : RC := (.seq (.reg r109_0) (.seq (.seq (.reg r109_1) (.cond (.v 5) (.seq (.reg r109_2) .ret) .skip)) (.seq (.reg r109_3) .ret)))
noncomputable def q109 : List RR := [(.cell (.v 4) true 2)]
theorem k109 : FnOk M 109 2 Tryd.f109 E109 c109 q109 := fnOk Tryd.func109
noncomputable def E110 (n m : Nat) : Cfg := ⟨M, [0, 1, 2, 3, 4, 6, 7, 8, 9, 10, 18], 46, n, m, []⟩
noncomputable def C110 : Cfg := E110 0 0
noncomputable abbrev r110_0 : List RO := [
 ⟨.v 3, .box, [.v 0], none⟩,
 ⟨.v 4, .box, [.v 1], none⟩,
 ⟨.v 5, (.newb [(.int .i64 0), (.int .i64 0)]), [], none⟩]
noncomputable abbrev r110_1 : List RO := [
 ⟨.l 11, .ld true 2, [.v 3], none⟩,
 ⟨.l 12, .calls .fn, [(.con (.fn (.func 19) [] [])), .l 11], none⟩,
 ⟨.l 13, .un .not, [.l 12], none⟩,
 ⟨.l 14, .mv, [.l 13], none⟩,
 ⟨.l 15, .ld true 2, [.v 4], (some (.l 14, false))⟩,
 ⟨.l 16, .calls .fn, [(.con (.fn (.func 19) [] [])), .l 15], (some (.l 14, false))⟩,
 ⟨.l 17, .un .not, [.l 16], (some (.l 14, false))⟩,
 ⟨.v 10, .pick, [.l 14, .con (.bool true), .l 17], none⟩]
noncomputable abbrev r110_2 : List RO := [
 ⟨.l 19, (.bld [(.int .i64 0), (.int .i64 0)] []), [], none⟩,
 ⟨.none, .st 2, [.v 5, .l 19], none⟩]
noncomputable abbrev r110_3 : List (RO × Bool) := [
 (⟨.l 20, .fld 0, [.v 3], none⟩, true),
 (⟨.l 21, .ld false 1, [.l 20], none⟩, true),
 (⟨.l 22, .fld 1, [.v 3], none⟩, true),
 (⟨.l 23, .ld false 1, [.l 22], none⟩, true),
 (⟨.l 24, .fld 0, [.v 4], none⟩, true),
 (⟨.l 25, .ld false 1, [.l 24], none⟩, true),
 (⟨.l 26, .fld 1, [.v 4], none⟩, true),
 (⟨.l 27, .ld false 1, [.l 26], none⟩, true),
 (⟨.v 6, .mv, [.l 21], none⟩, true),
 (⟨.v 7, .mv, [.l 23], none⟩, true),
 (⟨.v 8, .mv, [.l 25], none⟩, true)]
noncomputable abbrev r110_4 : List RO := [
 ⟨.v 9, .mv, [.l 27], none⟩]
noncomputable abbrev r110_5 : List RO := [
 ⟨.l 28, .mv, [.v 2], none⟩,
 ⟨.l 29, .mv, [.v 6], none⟩,
 ⟨.l 30, .mv, [.v 8], none⟩,
 ⟨.l 31, .calls .fn, [.l 28, .l 29, .l 30], none⟩,
 ⟨.l 32, .mv, [.v 2], none⟩,
 ⟨.l 33, .mv, [.v 6], none⟩,
 ⟨.l 34, .mv, [.v 9], none⟩,
 ⟨.l 35, .calls .fn, [.l 32, .l 33, .l 34], none⟩,
 ⟨.l 36, .mv, [.v 2], none⟩,
 ⟨.l 37, .mv, [.v 7], none⟩,
 ⟨.l 38, .mv, [.v 8], none⟩,
 ⟨.l 39, .calls .fn, [.l 36, .l 37, .l 38], none⟩,
 ⟨.l 40, .mv, [.v 2], none⟩,
 ⟨.l 41, .mv, [.v 7], none⟩,
 ⟨.l 42, .mv, [.v 9], none⟩,
 ⟨.l 43, .calls .fn, [.l 40, .l 41, .l 42], none⟩,
 ⟨.l 44, .bsl 1, [.l 31, .l 35, .l 39, .l 43], none⟩,
 ⟨.l 45, .calls .fn, [(.con (.fn (.func 116) [] [])), .l 44], none⟩,
 ⟨.none, .st 2, [.v 5, .l 45], none⟩]
theorem P110 : C110.M = M := by unfold C110 E110; rfl
theorem i110 {a0 a1 a2 : D} : St.init C110 [a0, a1, a2] ⟨[], []⟩ = ⟨[a0, a1, a2, .u0, .u0, .u0, .u0, .u0, .u0, .u0, .u0], [], ⟨[], []⟩⟩ := by unfold C110 E110; rfl
noncomputable def c110 : RC := (.seq (.reg r110_0) (.seq (.seq (.reg r110_1) (.cond (.v 10) (.seq (.reg r110_2) .ret) .skip)) (.seq (.regD r110_3 r110_4) (.seq (.reg r110_5) .ret))))
noncomputable def q110 : List RR := [(.cell (.v 5) true 2)]
theorem k110 : FnOk M 110 3 Tryd.f110 E110 c110 q110 := fnOk Tryd.func110
noncomputable def E111 (n m : Nat) : Cfg := ⟨M, [0, 1, 4], 9, n, m, []⟩
noncomputable def C111 : Cfg := E111 0 0
noncomputable abbrev r111_0 : List RO := [
 ⟨.v 2, .mv, [.con (.int .i64 0)], none⟩]
noncomputable abbrev r111_1 : List RO := [
 ⟨.l 5, .mv, [.v 0], none⟩,
 ⟨.l 6, .mv, [.v 1], none⟩,
 ⟨.l 7, .bin .add, [.l 5, .l 6], none⟩,
 ⟨.l 8, .calls .fn, [(.con (.fn (.func 117) [] [])), .l 7], none⟩,
 ⟨.v 2, .mv, [.l 8], none⟩]
theorem P111 : C111.M = M := by unfold C111 E111; rfl
theorem i111 {a0 a1 : D} : St.init C111 [a0, a1] ⟨[], []⟩ = ⟨[a0, a1, .u0], [], ⟨[], []⟩⟩ := by unfold C111 E111; rfl
noncomputable def c111 : RC := (.seq (.reg r111_0) (.seq (.reg r111_1) .ret))
noncomputable def q111 : List RR := [(.slot (.v 2))]
theorem k111 : FnOk M 111 2 Tryd.f111 E111 c111 q111 := fnOk Tryd.func111
noncomputable def E112 (n m : Nat) : Cfg := ⟨M, [0, 1, 4], 9, n, m, []⟩
noncomputable def C112 : Cfg := E112 0 0
noncomputable abbrev r112_0 : List RO := [
 ⟨.v 2, .mv, [.con (.int .i64 0)], none⟩]
noncomputable abbrev r112_1 : List RO := [
 ⟨.l 5, .mv, [.v 0], none⟩,
 ⟨.l 6, .mv, [.v 1], none⟩,
 ⟨.l 7, .bin .sub, [.l 5, .l 6], none⟩,
 ⟨.l 8, .calls .fn, [(.con (.fn (.func 117) [] [])), .l 7], none⟩,
 ⟨.v 2, .mv, [.l 8], none⟩]
theorem P112 : C112.M = M := by unfold C112 E112; rfl
theorem i112 {a0 a1 : D} : St.init C112 [a0, a1] ⟨[], []⟩ = ⟨[a0, a1, .u0], [], ⟨[], []⟩⟩ := by unfold C112 E112; rfl
noncomputable def c112 : RC := (.seq (.reg r112_0) (.seq (.reg r112_1) .ret))
noncomputable def q112 : List RR := [(.slot (.v 2))]
theorem k112 : FnOk M 112 2 Tryd.f112 E112 c112 q112 := fnOk Tryd.func112
noncomputable def E113 (n m : Nat) : Cfg := ⟨M, [0, 1, 4, 5, 6, 7, 27, 34], 38, n, m, []⟩
noncomputable def C113 : Cfg := E113 0 0
noncomputable abbrev r113_0 : List RO := [
 ⟨.v 2, .mv, [.con (.int .i64 0)], none⟩]
noncomputable abbrev r113_1 : List RO := [
 ⟨.l 9, .mv, [.v 0], none⟩,
 ⟨.l 10, .mv, [.v 0], none⟩,
 ⟨.l 11, .un .neg, [.l 10], none⟩,
 ⟨.l 12, .maxI, [.l 9, .l 11], none⟩,
 ⟨.l 13, .cvI .u64, [.l 12], none⟩,
 ⟨.l 14, .mv, [.v 1], none⟩,
 ⟨.l 15, .mv, [.v 1], none⟩,
 ⟨.l 16, .un .neg, [.l 15], none⟩,
 ⟨.l 17, .maxI, [.l 14, .l 16], none⟩,
 ⟨.l 18, .cvI .u64, [.l 17], none⟩,
 ⟨.l 19, .calls .fn, [(.con (.fn (.func 118) [] [])), .l 13, .l 18], none⟩,
 ⟨.l 8, .mv, [.l 19], none⟩,
 ⟨.l 20, .ext 0, [.l 8], none⟩,
 ⟨.l 21, .ext 1, [.l 8], none⟩,
 ⟨.v 3, .mv, [.l 20], none⟩,
 ⟨.v 4, .mv, [.l 21], none⟩]
noncomputable abbrev r113_2 : List RO := [
 ⟨.v 5, .mv, [.con (.int .i64 1000000000000)], none⟩]
noncomputable abbrev r113_3 : List RO := [
 ⟨.l 22, .mv, [.v 3], none⟩,
 ⟨.l 23, .bin .eql, [.l 22, (.con (.int .u64 0))], none⟩,
 ⟨.l 24, .mv, [.l 23], none⟩,
 ⟨.l 25, .mv, [.v 4], (some (.l 24, true))⟩,
 ⟨.l 26, .bin .leq, [.l 25, (.con (.int .u64 1000000000000))], (some (.l 24, true))⟩,
 ⟨.v 6, .pick, [.l 24, .l 26, .con (.bool false)], none⟩]
noncomputable abbrev r113_4 : List RO := [
 ⟨.l 28, .mv, [.v 4], none⟩,
 ⟨.l 29, .cvI .i64, [.l 28], none⟩,
 ⟨.v 5, .mv, [.l 29], none⟩]
noncomputable abbrev r113_5 : List RO := [
 ⟨.l 30, .mv, [.v 0], none⟩,
 ⟨.l 31, .bin .lss, [.l 30, .con (.int .i64 0)], none⟩,
 ⟨.l 32, .mv, [.v 1], none⟩,
 ⟨.l 33, .bin .lss, [.l 32, .con (.int .i64 0)], none⟩,
 ⟨.v 7, .eqB true, [.l 31, .l 33], none⟩]
noncomputable abbrev r113_6 : List RO := [
 ⟨.l 35, .mv, [.v 5], none⟩,
 ⟨.l 36, .un .neg, [.l 35], none⟩,
 ⟨.v 2, .mv, [.l 36], none⟩]
noncomputable abbrev r113_7 : List RO := [
 ⟨.l 37, .mv, [.v 5], none⟩,
 ⟨.v 2, .mv, [.l 37], none⟩]
theorem P113 : C113.M = M := by unfold C113 E113; rfl
theorem i113 {a0 a1 : D} : St.init C113 [a0, a1] ⟨[], []⟩ = ⟨[a0, a1, .u0, .u0, .u0, .u0, .u0, .u0], [], ⟨[], []⟩⟩ := by unfold C113 E113; rfl
noncomputable def c113 : RC := (.seq (.reg r113_0) (.seq (.reg r113_1) (.seq (.reg r113_2) (.seq (.seq (.reg r113_3) (.cond (.v 6) (.reg r113_4) .skip)) (.seq (.seq (.reg r113_5) (.cond (.v 7) (.seq (.reg r113_6) .ret) .skip)) (.seq (.reg r113_7) .ret))))))
noncomputable def q113 : List RR := [(.slot (.v 2))]
theorem k113 : FnOk M 113 2 Tryd.f113 E113 c113 q113 := fnOk Tryd.func113
noncomputable def E115 (n m : Nat) : Cfg := ⟨M, [0, 1, 4, 5, 7, 22], 26, n, m, []⟩
noncomputable def C115 : Cfg := E115 0 0
noncomputable abbrev r115_0 : List RO := [
 ⟨.v 2, .mv, [.con (.int .i64 0)], none⟩]
noncomputable abbrev r115_1 : List RO := [
 ⟨.l 6, .mv, [.v 1], none⟩,
 ⟨.v 4, .bin .eql, [.l 6, .con (.int .i64 0)], none⟩]
noncomputable abbrev r115_2 : List RO := [
 ⟨.v 2, .mv, [.con (.int .i64 0)], none⟩]
noncomputable abbrev r115_3 : List RO := [
 ⟨.l 8, .mv, [.v 0], none⟩,
 ⟨.l 9, .mv, [.v 1], none⟩,
 ⟨.l 10, .bin .quo, [.l 8, .l 9], none⟩,
 ⟨.v 3, .mv, [.l 10], none⟩]
noncomputable abbrev r115_4 : List RO := [
 ⟨.l 11, .mv, [.v 3], none⟩,
 ⟨.l 12, .mv, [.v 1], none⟩,
 ⟨.l 13, .bin .mul, [.l 11, .l 12], none⟩,
 ⟨.l 14, .mv, [.v 0], none⟩,
 ⟨.l 15, .bin .neq, [.l 13, .l 14], none⟩,
 ⟨.l 16, .mv, [.l 15], none⟩,
 ⟨.l 17, .mv, [.v 0], (some (.l 16, true))⟩,
 ⟨.l 18, .bin .lss, [.l 17, .con (.int .i64 0)], (some (.l 16, true))⟩,
 ⟨.l 19, .mv, [.v 1], (some (.l 16, true))⟩,
 ⟨.l 20, .bin .lss, [.l 19, .con (.int .i64 0)], (some (.l 16, true))⟩,
 ⟨.l 21, .eqB true, [.l 18, .l 20], (some (.l 16, true))⟩,
 ⟨.v 5, .pick, [.l 16, .l 21, .con (.bool false)], none⟩]
noncomputable abbrev r115_5 : List RO := [
 ⟨.l 23, .mv, [.v 3], none⟩,
 ⟨.l 24, .bin .sub, [.l 23, .con (.int .i64 1)], none⟩,
 ⟨.v 3, .mv, [.l 24], none⟩]
noncomputable abbrev r115_6 : List RO := [
 ⟨.l 25, .mv, [.v 3], none⟩,
 ⟨.v 2, .mv, [.l 25], none⟩]
theorem P115 : C115.M = M := by unfold C115 E115; rfl
theorem i115 {a0 a1 : D} : St.init C115 [a0, a1] ⟨[], []⟩ = ⟨[a0, a1, .u0, .u0, .u0, .u0], [], ⟨[], []⟩⟩ := by unfold C115 E115; rfl
noncomputable def c115 : RC := (.seq (.reg r115_0) (.seq (.seq (.reg r115_1) (.cond (.v 4) (.seq (.reg r115_2) .ret) .skip)) (.seq (.reg r115_3) (.seq (.seq (.reg r115_4) (.cond (.v 5) (.reg r115_5) .skip)) (.seq (.reg r115_6) .ret)))))
noncomputable def q115 : List RR := [(.slot (.v 2))]
theorem k115 : FnOk M 115 2 Tryd.f115 E115 c115 q115 := fnOk Tryd.func115
noncomputable def E116 (n m : Nat) : Cfg := ⟨M, [0, 2], 8, n, m, []⟩
noncomputable def C116 : Cfg := E116 0 0
noncomputable abbrev r116_0 : List RO := [
 ⟨.v 1, (.newb [(.int .i64 0), (.int .i64 0)]), [], none⟩]
noncomputable abbrev r116_1 : List RO := [
 ⟨.l 3, .mv, [.v 0], none⟩,
 ⟨.l 4, .calls .fn, [(.con (.fn (.func 119) [] [])), .l 3], none⟩,
 ⟨.l 5, .mv, [.v 0], none⟩,
 ⟨.l 6, .calls .fn, [(.con (.fn (.func 120) [] [])), .l 5], none⟩,
 ⟨.l 7, (.bld [(.int .i64 0), (.int .i64 0)] [(0, 1), (1, 1)]), [.l 4, .l 6], none⟩,
 ⟨.none, .st 2, [.v 1, .l 7], none⟩]
theorem P116 : C116.M = M := by unfold C116 E116; rfl
theorem i116 {a0 : D} : St.init C116 [a0] ⟨[], []⟩ = ⟨[a0, .u0], [], ⟨[], []⟩⟩ := by unfold C116 E116; rfl
noncomputable def c116 : RC := (.seq (.reg r116_0) (.seq (.reg r116_1) .ret))
noncomputable def q116 : List RR := [(.cell (.v 1) true 2)]
theorem k116 : FnOk M 116 1 Tryd.f116 E116 c116 q116 := fnOk Tryd.func116
noncomputable def E117 (n m : Nat) : Cfg := ⟨M, [0, 2], 6, n, m, []⟩
noncomputable def C117 : Cfg := E117 0 0
noncomputable abbrev r117_0 : List RO := [
 ⟨.v 1, .mv, [.con (.int .i64 0)], none⟩]
noncomputable abbrev r117_1 : List RO := [
 ⟨.l 3, .mv, [.v 0], none⟩,
 ⟨.l 4, .minI, [.l 3, .con (.int .i64 1000000000000)], none⟩,
 ⟨.l 5, .maxI, [(.con (.int .i64 (-1000000000000))), .l 4], none⟩,
 ⟨.v 1, .mv, [.l 5], none⟩]
theorem P117 : C117.M = M := by unfold C117 E117; rfl
theorem i117 {a0 : D} : St.init C117 [a0] ⟨[], []⟩ = ⟨[a0, .u0], [], ⟨[], []⟩⟩ := by unfold C117 E117; rfl
noncomputable def c117 : RC := (.seq (.reg r117_0) (.seq (.reg r117_1) .ret))
noncomputable def q117 : List RR := [(.slot (.v 1))]
theorem k117 : FnOk M 117 1 Tryd.f117 E117 c117 q117 := fnOk Tryd.func117
noncomputable def E119 (n m : Nat) : Cfg := ⟨M, [0, 2, 3, 4, 7, 15], 25, n, m, []⟩
noncomputable def C119 : Cfg := E119 0 0
noncomputable abbrev r119_0 : List RO := [
 ⟨.v 1, .mv, [.con (.int .i64 0)], none⟩]
noncomputable abbrev r119_1 : List RO := [
 ⟨.l 5, .mv, [.v 0], none⟩,
 ⟨.l 6, .lenL, [.l 5], none⟩,
 ⟨.v 4, .bin .lss, [.l 6, .con (.int .i64 1)], none⟩]
noncomputable abbrev r119_2 : List RO := [
 ⟨.l 8, .mkI 9, [(.con (.str [115, 108, 105, 99, 101, 115, 46, 77, 105, 110, 58, 32, 101, 109, 112, 116, 121, 32, 108, 105, 115, 116]))], none⟩,
 ⟨.none, .calls .pan, [.l 8], none⟩]
noncomputable abbrev r119_3 : List RO := [
 ⟨.l 9, .mv, [.v 0], none⟩,
 ⟨.l 10, .ixaS 1, [.l 9, .con (.int .i64 0)], none⟩,
 ⟨.l 11, .ld false 1, [.l 10], none⟩,
 ⟨.v 2, .mv, [.l 11], none⟩]
noncomputable abbrev r119_4 : List RO := [
 ⟨.v 3, .mv, [.con (.int .i64 1)], none⟩]
noncomputable abbrev r119_5 : List RO := [
 ⟨.l 12, .mv, [.v 3], none⟩,
 ⟨.l 13, .mv, [.v 0], none⟩,
 ⟨.l 14, .lenL, [.l 13], none⟩,
 ⟨.v 5, .bin .lss, [.l 12, .l 14], none⟩]
noncomputable abbrev r119_6 : List RO := [
 ⟨.l 18, .mv, [.v 2], none⟩,
 ⟨.l 19, .mv, [.v 0], none⟩,
 ⟨.l 20, .mv, [.v 3], none⟩,
 ⟨.l 21, .ixaS 1, [.l 19, .l 20], none⟩,
 ⟨.l 22, .ld false 1, [.l 21], none⟩,
 ⟨.l 23, .minI, [.l 18, .l 22], none⟩,
 ⟨.v 2, .mv, [.l 23], none⟩]
noncomputable abbrev r119_7 : List RO := [
 ⟨.l 16, .mv, [.v 3], none⟩,
 ⟨.l 17, .bin .add, [.l 16, .con (.int .i64 1)], none⟩,
 ⟨.v 3, .mv, [.l 17], none⟩]
noncomputable abbrev r119_8 : List RO := [
 ⟨.l 24, .mv, [.v 2], none⟩,
 ⟨.v 1, .mv, [.l 24], none⟩]
theorem P119 : C119.M = M := by unfold C119 E119; rfl
theorem i119 {a0 : D} : St.init C119 [a0] ⟨[], []⟩ = ⟨[a0, .u0, .u0, .u0, .u0, .u0], [], ⟨[], []⟩⟩ := by unfold C119 E119; rfl
noncomputable def c119 : RC := (.seq (.reg r119_0) (.seq (.seq (.reg r119_1) (.cond (.v 4) (.reg r119_2) .skip)) (.seq (.reg r119_3) (.seq (.seq (.reg r119_4) (.block 0 (.loop (.seq (.seq (.reg r119_5) (.cond (.v 5) .skip (.exit 0))) (.seq (.block 1 (.reg r119_6)) (.reg r119_7)))))) (.seq (.reg r119_8) .ret)))))
noncomputable def q119 : List RR := [(.slot (.v 1))]
theorem k119 : FnOk M 119 1 Tryd.f119 E119 c119 q119 := fnOk Tryd.func119
noncomputable def E120 (n m : Nat) : Cfg := ⟨M, [0, 2, 3, 4, 7, 15], 25, n, m, []⟩
noncomputable def C120 : Cfg := E120 0 0
noncomputable abbrev r120_0 : List RO := [
 ⟨.v 1, .mv, [.con (.int .i64 0)], none⟩]
noncomputable abbrev r120_1 : List RO := [
 ⟨.l 5, .mv, [.v 0], none⟩,
 ⟨.l 6, .lenL, [.l 5], none⟩,
 ⟨.v 4, .bin .lss, [.l 6, .con (.int .i64 1)], none⟩]
noncomputable abbrev r120_2 : List RO := [
 ⟨.l 8, .mkI 9, [(.con (.str [115, 108, 105, 99, 101, 115, 46, 77, 97, 120, 58, 32, 101, 109, 112, 116, 121, 32, 108, 105, 115, 116]))], none⟩,
 ⟨.none, .calls .pan, [.l 8], none⟩]
noncomputable abbrev r120_3 : List RO := [
 ⟨.l 9, .mv, [.v 0], none⟩,
 ⟨.l 10, .ixaS 1, [.l 9, .con (.int .i64 0)], none⟩,
 ⟨.l 11, .ld false 1, [.l 10], none⟩,
 ⟨.v 2, .mv, [.l 11], none⟩]
noncomputable abbrev r120_4 : List RO := [
 ⟨.v 3, .mv, [.con (.int .i64 1)], none⟩]
noncomputable abbrev r120_5 : List RO := [
 ⟨.l 12, .mv, [.v 3], none⟩,
 ⟨.l 13, .mv, [.v 0], none⟩,
 ⟨.l 14, .lenL, [.l 13], none⟩,
 ⟨.v 5, .bin .lss, [.l 12, .l 14], none⟩]
noncomputable abbrev r120_6 : List RO := [
 ⟨.l 18, .mv, [.v 2], none⟩,
 ⟨.l 19, .mv, [.v 0], none⟩,
 ⟨.l 20, .mv, [.v 3], none⟩,
 ⟨.l 21, .ixaS 1, [.l 19, .l 20], none⟩,
 ⟨.l 22, .ld false 1, [.l 21], none⟩,
 ⟨.l 23, .maxI, [.l 18, .l 22], none⟩,
 ⟨.v 2, .mv, [.l 23], none⟩]
noncomputable abbrev r120_7 : List RO := [
 ⟨.l 16, .mv, [.v 3], none⟩,
 ⟨.l 17, .bin .add, [.l 16, .con (.int .i64 1)], none⟩,
 ⟨.v 3, .mv, [.l 17], none⟩]
noncomputable abbrev r120_8 : List RO := [
 ⟨.l 24, .mv, [.v 2], none⟩,
 ⟨.v 1, .mv, [.l 24], none⟩]
theorem P120 : C120.M = M := by unfold C120 E120; rfl
theorem i120 {a0 : D} : St.init C120 [a0] ⟨[], []⟩ = ⟨[a0, .u0, .u0, .u0, .u0, .u0], [], ⟨[], []⟩⟩ := by unfold C120 E120; rfl
noncomputable def c120 : RC := (.seq (.reg r120_0) (.seq (.seq (.reg r120_1) (.cond (.v 4) (.reg r120_2) .skip)) (.seq (.reg r120_3) (.seq (.seq (.reg r120_4) (.block 0 (.loop (.seq (.seq (.reg r120_5) (.cond (.v 5) .skip (.exit 0))) (.seq (.block 1 (.reg r120_6)) (.reg r120_7)))))) (.seq (.reg r120_8) .ret)))))
noncomputable def q120 : List RR := [(.slot (.v 1))]
theorem k120 : FnOk M 120 1 Tryd.f120 E120 c120 q120 := fnOk Tryd.func120
noncomputable def E114 (n m : Nat) : Cfg := ⟨M, [0, 1, 2, 3, 7, 8, 9, 12, 15, 16, 17, 18], 40, n, m, []⟩
noncomputable abbrev r114_0 : List RO := [
 ⟨.l 10, .mv, [.v 0], none⟩,
 ⟨.l 11, .mv, [.v 1], none⟩,
 ⟨.v 7, .bin .leq, [.l 10, .l 11], none⟩]
noncomputable abbrev r114_1 : List RO := [
 ⟨.l 13, .mv, [.v 0], none⟩,
 ⟨.l 14, .mv, [.v 1], none⟩,
 ⟨.v 8, .bsl 1, [.l 13, .l 14], none⟩,
 ⟨.v 9, .lenL, [.v 8], none⟩,
 ⟨.v 10, .mv, [.con (.int .i64 0)], none⟩]
noncomputable abbrev r114_2 : List RO := [
 ⟨.v 11, .bin .lss, [.v 10, .v 9], none⟩]
noncomputable abbrev r114_3 : List RO := [
 ⟨.l 19, .ixaS 1, [.v 8, .v 10], none⟩,
 ⟨.l 20, .ld false 1, [.l 19], none⟩,
 ⟨.v 4, .mv, [.l 20], none⟩]
noncomputable abbrev r114_4 : List (RO × Bool) := [
 (⟨.l 21, .fld 0, [.v 2], none⟩, true),
 (⟨.l 22, .ld false 1, [.l 21], none⟩, true),
 (⟨.l 23, .mv, [.v 4], none⟩, true),
 (⟨.l 24, .calls .fn, [(.con (.fn (.func 115) [] [])), .l 22, .l 23], none⟩, true),
 (⟨.l 25, .fld 1, [.v 2], none⟩, true),
 (⟨.l 26, .ld false 1, [.l 25], none⟩, true),
 (⟨.l 27, .mv, [.v 4], none⟩, true)]
noncomputable abbrev r114_5 : List RO := [
 ⟨.l 28, .calls .fn, [(.con (.fn (.func 115) [] [])), .l 26, .l 27], none⟩,
 ⟨.v 5, .mv, [.l 24], none⟩,
 ⟨.v 6, .mv, [.l 28], none⟩]
noncomputable abbrev r114_6 : List RO := [
 ⟨.l 29, .ld false 1, [.v 3], none⟩,
 ⟨.l 30, .mv, [.v 5], none⟩,
 ⟨.l 31, .mv, [.v 6], none⟩,
 ⟨.l 32, .minI, [.l 30, .l 31], none⟩,
 ⟨.l 33, .mv, [.v 5], none⟩,
 ⟨.l 34, .mv, [.v 6], none⟩,
 ⟨.l 35, .maxI, [.l 33, .l 34], none⟩,
 ⟨.l 36, (.bld [(.int .i64 0), (.int .i64 0)] [(0, 1), (1, 1)]), [.l 32, .l 35], none⟩,
 ⟨.l 37, .bsl 2, [.l 36], none⟩,
 ⟨.l 38, .app 2 16 35, [.l 29, .l 37], none⟩,
 ⟨.none, .st 1, [.v 3, .l 38], none⟩]
noncomputable abbrev r114_7 : List RO := [
 ⟨.l 39, .bin .add, [.v 10, .con (.int .i64 1)], none⟩,
 ⟨.v 10, .mv, [.l 39], none⟩]
theorem pe114 {n m : Nat} : (E114 n m).M = M := by unfold E114; rfl
theorem ie114 {n m : Nat} {hp : Hp} {a0 a1 a2 a3 : D} : St.init (E114 n m) [a0, a1, a2, a3] hp = ⟨[a0, a1, a2, a3, .u0, .u0, .u0, .u0, .u0, .u0, .u0, .u0], [], hp⟩ := by unfold E114; rfl
noncomputable def c114 : RC := (.seq (.reg r114_0) (.cond (.v 7) (.seq (.reg r114_1) (.block 0 (.loop (.seq (.reg r114_2) (.seq (.cond (.v 11) .skip (.exit 0)) (.seq (.block 1 (.seq (.reg r114_3) (.seq (.regD r114_4 r114_5) (.reg r114_6)))) (.reg r114_7))))))) .skip))
noncomputable def q114 : List RR := []
theorem k114 : FnOk M 114 4 Tryd.f114 E114 c114 q114 := fnOk Tryd.func114
noncomputable def E107 (n m : Nat) : Cfg := ⟨M, [0, 1, 2, 3, 4, 5, 6, 7, 9, 17, 40, 41, 42, 43], 51, n, m, []⟩
noncomputable def C107 : Cfg := E107 0 0
noncomputable abbrev r107_0 : List RO := [
 ⟨.v 2, .box, [.v 0], none⟩,
 ⟨.v 3, .box, [.v 1], none⟩,
 ⟨.v 4, (.newb [(.int .i64 0), (.int .i64 0)]), [], none⟩]
noncomputable abbrev r107_1 : List RO := [
 ⟨.v 5, (.newb [(.lit (.slice none 0 0))]), [], none⟩]
noncomputable abbrev r107_2 : List RO := [
 ⟨.l 10, .fld 0, [.v 3], none⟩,
 ⟨.l 11, .ld false 1, [.l 10], none⟩,
 ⟨.l 12, .bin .leq, [.l 11, .con (.int .i64 0)], none⟩,
 ⟨.l 13, .mv, [.l 12], none⟩,
 ⟨.l 14, .fld 1, [.v 3], (some (.l 13, true))⟩,
 ⟨.l 15, .ld false 1, [.l 14], (some (.l 13, true))⟩,
 ⟨.l 16, .bin .geq, [.l 15, .con (.int .i64 0)], (some (.l 13, true))⟩,
 ⟨.v 9, .pick, [.l 13, .l 16, .con (.bool false)], none⟩]
noncomputable abbrev r107_3 : List RO := [
 ⟨.l 18, .ld false 1, [.v 5], none⟩,
 ⟨.l 19, (.bld [(.int .i64 0), (.int .i64 0)] []), [], none⟩,
 ⟨.l 20, .bsl 2, [.l 19], none⟩,
 ⟨.l 21, .app 2 16 35, [.l 18, .l 20], none⟩,
 ⟨.none, .st 1, [.v 5, .l 21], none⟩]
noncomputable abbrev r107_4 : List RO := [
 ⟨.l 22, (.mkF (.func 114) 0), [.v 2, .v 5], none⟩,
 ⟨.v 6, .mv, [.l 22], none⟩]
noncomputable abbrev r107_5 : List RO := [
 ⟨.l 23, .mv, [.v 6], none⟩,
 ⟨.l 24, .fld 0, [.v 3], none⟩,
 ⟨.l 25, .ld false 1, [.l 24], none⟩,
 ⟨.l 26, .maxI, [.l 25, .con (.int .i64 1)], none⟩,
 ⟨.l 27, .fld 1, [.v 3], none⟩,
 ⟨.l 28, .ld false 1, [.l 27], none⟩,
 ⟨.l 29, .calls .fn, [.l 23, .l 26, .l 28], none⟩]
noncomputable abbrev r107_6 : List RO := [
 ⟨.l 30, .mv, [.v 6], none⟩,
 ⟨.l 31, .fld 0, [.v 3], none⟩,
 ⟨.l 32, .ld false 1, [.l 31], none⟩,
 ⟨.l 33, .fld 1, [.v 3], none⟩,
 ⟨.l 34, .ld false 1, [.l 33], none⟩,
 ⟨.l 35, .minI, [.l 34, (.con (.int .i64 (-1)))], none⟩,
 ⟨.l 36, .calls .fn, [.l 30, .l 32, .l 35], none⟩]
noncomputable abbrev r107_7 : List RO := [
 ⟨.l 37, .ld false 1, [.v 5], none⟩,
 ⟨.l 38, .ixaS 2, [.l 37, .con (.int .i64 0)], none⟩,
 ⟨.l 39, .ld true 2, [.l 38], none⟩,
 ⟨.v 7, (.newb [(.int .i64 0), (.int .i64 0)]), [], none⟩,
 ⟨.none, .st 2, [.v 7, .l 39], none⟩]
noncomputable abbrev r107_8 : List RO := [
 ⟨.v 10, .ld false 1, [.v 5], none⟩,
 ⟨.v 11, .lenL, [.v 10], none⟩,
 ⟨.v 12, .mv, [.con (.int .i64 0)], none⟩]
noncomputable abbrev r107_9 : List RO := [
 ⟨.v 13, .bin .lss, [.v 12, .v 11], none⟩]
noncomputable abbrev r107_10 : List RO := [
 ⟨.l 44, .ixaS 2, [.v 10, .v 12], none⟩,
 ⟨.l 45, .ld true 2, [.l 44], none⟩,
 ⟨.v 8, (.newb [(.int .i64 0), (.int .i64 0)]), [], none⟩,
 ⟨.none, .st 2, [.v 8, .l 45], none⟩]
noncomputable abbrev r107_11 : List RO := [
 ⟨.l 46, .ld true 2, [.v 7], none⟩,
 ⟨.l 47, .ld true 2, [.v 8], none⟩,
 ⟨.l 48, .calls .fn, [(.con (.fn (.func 109) [] [])), .l 46, .l 47], none⟩,
 ⟨.none, .st 2, [.v 7, .l 48], none⟩]
noncomputable abbrev r107_12 : List RO := [
 ⟨.l 49, .bin .add, [.v 12, .con (.int .i64 1)], none⟩,
 ⟨.v 12, .mv, [.l 49], none⟩]
noncomputable abbrev r107_13 : List RO := [
 ⟨.l 50, .ld true 2, [.v 7], none⟩,
 ⟨.none, .st 2, [.v 4, .l 50], none⟩]
theorem P107 : C107.M = M := by unfold C107 E107; rfl
theorem i107 {a0 a1 : D} : St.init C107 [a0, a1] ⟨[], []⟩ = ⟨[a0, a1, .u0, .u0, .u0, .u0, .u0, .u0, .u0, .u0, .u0, .u0, .u0, .u0], [], ⟨[], []⟩⟩ := by unfold C107 E107; rfl
noncomputable def c107 : RC := (.seq (.reg r107_0) (.seq (.reg r107_1) (.seq (.seq (.reg r107_2) (.cond (.v 9) (.reg r107_3) .skip)) (.seq (.reg r107_4) (.seq (.reg r107_5) (.seq (.reg r107_6) (.seq (.reg r107_7) (.seq (.seq (.reg r107_8) (.block 0 (.loop (.seq (.reg r107_9) (.seq (.cond (.v 13) .skip (.exit 0)) (.seq (.block 1 (.seq (.reg r107_10) (.reg r107_11))) (.reg r107_12))))))) (.seq (.reg r107_13) .ret)))))))))
noncomputable def q107 : List RR := [(.cell (.v 4) true 2)]
theorem k107 : FnOk M 107 2 Tryd.f107 E107 c107 q107 := fnOk Tryd.func107
noncomputable def E38 (n m : Nat) : Cfg := ⟨M, [0, 1, 3, 4, 5, 13, 21], 67, n, m, []⟩
noncomputable def C38 : Cfg := E38 0 0
noncomputable abbrev r38_0 : List RO := [
 ⟨.v 2, .box, [.v 1], none⟩,
 ⟨.v 3, .mv, [.con (.int .i64 0)], none⟩]
noncomputable abbrev r38_1 : List RO := [
 ⟨.l 6, .fld 0, [.v 2], none⟩,
 ⟨.l 7, .ld false 1, [.l 6], none⟩,
 ⟨.l 8, .bin .eql, [.l 7, .con (.int .i64 1)], none⟩,
 ⟨.v 4, .mv, [.l 8], none⟩]
noncomputable abbrev r38_2 : List RO := [
 ⟨.l 9, .mv, [.v 0], none⟩,
 ⟨.l 10, .fld 1, [.v 2], none⟩,
 ⟨.l 11, .ld false 1, [.l 10], none⟩,
 ⟨.l 12, (.calls (.inv "bogie/formula.number")), [.l 9, .l 11], none⟩,
 ⟨.v 3, .mv, [.l 12], none⟩]
noncomputable abbrev r38_3 : List RO := [
 ⟨.l 14, .fld 0, [.v 2], none⟩,
 ⟨.l 15, .ld false 1, [.l 14], none⟩,
 ⟨.l 16, .bin .leq, [.l 15, .con (.int .i64 4)], none⟩,
 ⟨.v 5, .mv, [.l 16], none⟩]
noncomputable abbrev r38_4 : List RO := [
 ⟨.l 17, .mv, [.v 0], none⟩,
 ⟨.l 18, .fld 0, [.v 2], none⟩,
 ⟨.l 19, .ld false 1, [.l 18], none⟩,
 ⟨.l 20, (.calls (.inv "bogie/formula.letter")), [.l 17, .l 19], none⟩,
 ⟨.v 3, .mv, [.l 20], none⟩]
noncomputable abbrev r38_5 : List RO := [
 ⟨.l 22, .fld 0, [.v 2], none⟩,
 ⟨.l 23, .ld false 1, [.l 22], none⟩,
 ⟨.l 24, .bin .eql, [.l 23, .con (.int .i64 11)], none⟩,
 ⟨.v 6, .mv, [.l 24], none⟩]
noncomputable abbrev r38_6 : List (RO × Bool) := [
 (⟨.l 25, .mv, [.v 0], none⟩, true),
 (⟨.l 26, .mv, [.v 0], none⟩, true),
 (⟨.l 27, .fld 2, [.v 2], none⟩, true),
 (⟨.l 28, .ld false 1, [.l 27], none⟩, true),
 (⟨.l 29, .ixaS 3, [.l 28, .con (.int .i64 0)], none⟩, true),
 (⟨.l 30, .ld true 3, [.l 29], none⟩, true),
 (⟨.l 31, .calls .fn, [(.con (.fn (.func 38) [] [])), .l 26, .l 30], none⟩, true),
 (⟨.l 32, .mv, [.v 0], none⟩, true),
 (⟨.l 33, .fld 2, [.v 2], none⟩, true),
 (⟨.l 34, .ld false 1, [.l 33], none⟩, true),
 (⟨.l 35, .ixaS 3, [.l 34, .con (.int .i64 1)], none⟩, true),
 (⟨.l 36, .ld true 3, [.l 35], none⟩, true),
 (⟨.l 37, .calls .fn, [(.con (.fn (.func 38) [] [])), .l 32, .l 36], none⟩, true),
 (⟨.l 38, .mv, [.v 0], none⟩, true),
 (⟨.l 39, .fld 2, [.v 2], none⟩, true),
 (⟨.l 40, .ld false 1, [.l 39], none⟩, true),
 (⟨.l 41, .ixaS 3, [.l 40, .con (.int .i64 2)], none⟩, true),
 (⟨.l 42, .ld true 3, [.l 41], none⟩, true),
 (⟨.l 43, .calls .fn, [(.con (.fn (.func 38) [] [])), .l 38, .l 42], none⟩, false),
 (⟨.l 44, (.mkF (.method "bogie/formula.choose") 1), [.l 25], none⟩, true),
 (⟨.l 45, (.nck M.P), [.l 44], none⟩, true),
 (⟨.l 46, .mv, [.l 25], none⟩, true)]
noncomputable abbrev r38_7 : List RO := [
 ⟨.l 47, (.calls (.inv "bogie/formula.choose")), [.l 46, .l 31, .l 37, .l 43], none⟩,
 ⟨.v 3, .mv, [.l 47], none⟩]
noncomputable abbrev r38_8 : List (RO × Bool) := [
 (⟨.l 48, .mv, [.v 0], none⟩, true),
 (⟨.l 49, .fld 0, [.v 2], none⟩, true),
 (⟨.l 50, .ld false 1, [.l 49], none⟩, true),
 (⟨.l 51, .mv, [.v 0], none⟩, true),
 (⟨.l 52, .fld 2, [.v 2], none⟩, true),
 (⟨.l 53, .ld false 1, [.l 52], none⟩, true),
 (⟨.l 54, .ixaS 3, [.l 53, .con (.int .i64 0)], none⟩, true),
 (⟨.l 55, .ld true 3, [.l 54], none⟩, true),
 (⟨.l 56, .calls .fn, [(.con (.fn (.func 38) [] [])), .l 51, .l 55], none⟩, true),
 (⟨.l 57, .mv, [.v 0], none⟩, true),
 (⟨.l 58, .fld 2, [.v 2], none⟩, true),
 (⟨.l 59, .ld false 1, [.l 58], none⟩, true),
 (⟨.l 60, .ixaS 3, [.l 59, .con (.int .i64 1)], none⟩, true),
 (⟨.l 61, .ld true 3, [.l 60], none⟩, true),
 (⟨.l 62, .calls .fn, [(.con (.fn (.func 38) [] [])), .l 57, .l 61], none⟩, true),
 (⟨.l 63, (.mkF (.method "bogie/formula.apply") 1), [.l 48], none⟩, true),
 (⟨.l 64, (.nck M.P), [.l 63], none⟩, true),
 (⟨.l 65, .mv, [.l 48], none⟩, true)]
noncomputable abbrev r38_9 : List RO := [
 ⟨.l 66, (.calls (.inv "bogie/formula.apply")), [.l 65, .l 50, .l 56, .l 62], none⟩,
 ⟨.v 3, .mv, [.l 66], none⟩]
theorem P38 : C38.M = M := by unfold C38 E38; rfl
theorem i38 {a0 a1 : D} : St.init C38 [a0, a1] ⟨[], []⟩ = ⟨[a0, a1, .u0, .u0, .u0, .u0, .u0], [], ⟨[], []⟩⟩ := by unfold C38 E38; rfl
noncomputable def c38 : RC := (.seq (.reg r38_0) (.seq (.block 0 (.seq (.reg r38_1) (.cond (.v 4) (.seq (.reg r38_2) .ret) (.seq (.reg r38_3) (.cond (.v 5) (.seq (.reg r38_4) .ret) (.seq (.reg r38_5) (.cond (.v 6) (.seq (.regD r38_6 r38_7) .ret) .skip))))))) (.seq (.regD r38_8 r38_9) .ret)))
noncomputable def q38 : List RR := [(.slot (.v 3))]
theorem k38 : FnOk M 38 2 Tryd.f38 E38 c38 q38 := fnOk Tryd.func38
noncomputable def E36 (n m : Nat) : Cfg := ⟨M, [0, 1, 3, 4, 5, 13, 21], 67, n, m, []⟩
noncomputable def C36 : Cfg := E36 0 0
noncomputable abbrev r36_0 : List RO := [
 ⟨.v 2, .box, [.v 1], none⟩,
 ⟨.v 3, (.newb [(.int .i64 0), (.int .i64 0)]), [], none⟩]
noncomputable abbrev r36_1 : List RO := [
 ⟨.l 6, .fld 0, [.v 2], none⟩,
 ⟨.l 7, .ld false 1, [.l 6], none⟩,
 ⟨.l 8, .bin .eql, [.l 7, .con (.int .i64 1)], none⟩,
 ⟨.v 4, .mv, [.l 8], none⟩]
noncomputable abbrev r36_2 : List RO := [
 ⟨.l 9, .mv, [.v 0], none⟩,
 ⟨.l 10, .fld 1, [.v 2], none⟩,
 ⟨.l 11, .ld false 1, [.l 10], none⟩,
 ⟨.l 12, (.calls (.inv "bogie/formula.number")), [.l 9, .l 11], none⟩,
 ⟨.none, .st 2, [.v 3, .l 12], none⟩]
noncomputable abbrev r36_3 : List RO := [
 ⟨.l 14, .fld 0, [.v 2], none⟩,
 ⟨.l 15, .ld false 1, [.l 14], none⟩,
 ⟨.l 16, .bin .leq, [.l 15, .con (.int .i64 4)], none⟩,
 ⟨.v 5, .mv, [.l 16], none⟩]
noncomputable abbrev r36_4 : List RO := [
 ⟨.l 17, .mv, [.v 0], none⟩,
 ⟨.l 18, .fld 0, [.v 2], none⟩,
 ⟨.l 19, .ld false 1, [.l 18], none⟩,
 ⟨.l 20, (.calls (.inv "bogie/formula.letter")), [.l 17, .l 19], none⟩,
 ⟨.none, .st 2, [.v 3, .l 20], none⟩]
noncomputable abbrev r36_5 : List RO := [
 ⟨.l 22, .fld 0, [.v 2], none⟩,
 ⟨.l 23, .ld false 1, [.l 22], none⟩,
 ⟨.l 24, .bin .eql, [.l 23, .con (.int .i64 11)], none⟩,
 ⟨.v 6, .mv, [.l 24], none⟩]
noncomputable abbrev r36_6 : List (RO × Bool) := [
 (⟨.l 25, .mv, [.v 0], none⟩, true),
 (⟨.l 26, .mv, [.v 0], none⟩, true),
 (⟨.l 27, .fld 2, [.v 2], none⟩, true),
 (⟨.l 28, .ld false 1, [.l 27], none⟩, true),
 (⟨.l 29, .ixaS 3, [.l 28, .con (.int .i64 0)], none⟩, true),
 (⟨.l 30, .ld true 3, [.l 29], none⟩, true),
 (⟨.l 31, .calls .fn, [(.con (.fn (.func 36) [] [])), .l 26, .l 30], none⟩, true),
 (⟨.l 32, .mv, [.v 0], none⟩, true),
 (⟨.l 33, .fld 2, [.v 2], none⟩, true),
 (⟨.l 34, .ld false 1, [.l 33], none⟩, true),
 (⟨.l 35, .ixaS 3, [.l 34, .con (.int .i64 1)], none⟩, true),
 (⟨.l 36, .ld true 3, [.l 35], none⟩, true),
 (⟨.l 37, .calls .fn, [(.con (.fn (.func 36) [] [])), .l 32, .l 36], none⟩, true),
 (⟨.l 38, .mv, [.v 0], none⟩, true),
 (⟨.l 39, .fld 2, [.v 2], none⟩, true),
 (⟨.l 40, .ld false 1, [.l 39], none⟩, true),
 (⟨.l 41, .ixaS 3, [.l 40, .con (.int .i64 2)], none⟩, true),
 (⟨.l 42, .ld true 3, [.l 41], none⟩, true),
 (⟨.l 43, .calls .fn, [(.con (.fn (.func 36) [] [])), .l 38, .l 42], none⟩, false),
 (⟨.l 44, (.mkF (.method "bogie/formula.choose") 1), [.l 25], none⟩, true),
 (⟨.l 45, (.nck M.P), [.l 44], none⟩, true),
 (⟨.l 46, .mv, [.l 25], none⟩, true)]
noncomputable abbrev r36_7 : List RO := [
 ⟨.l 47, (.calls (.inv "bogie/formula.choose")), [.l 46, .l 31, .l 37, .l 43], none⟩,
 ⟨.none, .st 2, [.v 3, .l 47], none⟩]
noncomputable abbrev r36_8 : List (RO × Bool) := [
 (⟨.l 48, .mv, [.v 0], none⟩, true),
 (⟨.l 49, .fld 0, [.v 2], none⟩, true),
 (⟨.l 50, .ld false 1, [.l 49], none⟩, true),
 (⟨.l 51, .mv, [.v 0], none⟩, true),
 (⟨.l 52, .fld 2, [.v 2], none⟩, true),
 (⟨.l 53, .ld false 1, [.l 52], none⟩, true),
 (⟨.l 54, .ixaS 3, [.l 53, .con (.int .i64 0)], none⟩, true),
 (⟨.l 55, .ld true 3, [.l 54], none⟩, true),
 (⟨.l 56, .calls .fn, [(.con (.fn (.func 36) [] [])), .l 51, .l 55], none⟩, true),
 (⟨.l 57, .mv, [.v 0], none⟩, true),
 (⟨.l 58, .fld 2, [.v 2], none⟩, true),
 (⟨.l 59, .ld false 1, [.l 58], none⟩, true),
 (⟨.l 60, .ixaS 3, [.l 59, .con (.int .i64 1)], none⟩, true),
 (⟨.l 61, .ld true 3, [.l 60], none⟩, true),
 (⟨.l 62, .calls .fn, [(.con (.fn (.func 36) [] [])), .l 57, .l 61], none⟩, true),
 (⟨.l 63, (.mkF (.method "bogie/formula.apply") 1), [.l 48], none⟩, true),
 (⟨.l 64, (.nck M.P), [.l 63], none⟩, true),
 (⟨.l 65, .mv, [.l 48], none⟩, true)]
noncomputable abbrev r36_9 : List RO := [
 ⟨.l 66, (.calls (.inv "bogie/formula.apply")), [.l 65, .l 50, .l 56, .l 62], none⟩,
 ⟨.none, .st 2, [.v 3, .l 66], none⟩]
theorem P36 : C36.M = M := by unfold C36 E36; rfl
theorem i36 {a0 a1 : D} : St.init C36 [a0, a1] ⟨[], []⟩ = ⟨[a0, a1, .u0, .u0, .u0, .u0, .u0], [], ⟨[], []⟩⟩ := by unfold C36 E36; rfl
noncomputable def c36 : RC := (.seq (.reg r36_0) (.seq (.block 0 (.seq (.reg r36_1) (.cond (.v 4) (.seq (.reg r36_2) .ret) (.seq (.reg r36_3) (.cond (.v 5) (.seq (.reg r36_4) .ret) (.seq (.reg r36_5) (.cond (.v 6) (.seq (.regD r36_6 r36_7) .ret) .skip))))))) (.seq (.regD r36_8 r36_9) .ret)))
noncomputable def q36 : List RR := [(.cell (.v 3) true 2)]
theorem k36 : FnOk M 36 2 Tryd.f36 E36 c36 q36 := fnOk Tryd.func36
noncomputable def E18 (n m : Nat) : Cfg := ⟨M, [0, 1, 2, 3, 4, 8, 9, 12], 26, n, m, []⟩
noncomputable def C18 : Cfg := E18 0 0
noncomputable abbrev r18_0 : List RO := [
 ⟨.v 4, .box, [.v 0], none⟩,
 ⟨.v 5, .mv, [.con (.int .i64 0)], none⟩]
noncomputable abbrev r18_1 : List RO := [
 ⟨.l 10, .ld true 3, [.v 4], none⟩,
 ⟨.l 11, .calls .fn, [(.con (.fn (.func 12) [] [])), .l 10], none⟩,
 ⟨.v 7, .un .not, [.l 11], none⟩]
noncomputable abbrev r18_2 : List RO := [
 ⟨.v 5, .mv, [.con (.int .i64 0)], none⟩]
noncomputable abbrev r18_3 : List RO := [
 ⟨.v 6, .mv, [(.con (.fn (.func 37) [] []))], none⟩]
noncomputable abbrev r18_4 : List (RO × Bool) := [
 (⟨.l 13, .mv, [.v 6], none⟩, true),
 (⟨.l 14, .mv, [.v 1], none⟩, true),
 (⟨.l 15, .calls .fn, [.l 13, .l 14], none⟩, true),
 (⟨.l 16, .mv, [.v 6], none⟩, true),
 (⟨.l 17, .mv, [.v 2], none⟩, true),
 (⟨.l 18, .calls .fn, [.l 16, .l 17], none⟩, true),
 (⟨.l 19, .mv, [.v 6], none⟩, true),
 (⟨.l 20, .mv, [.v 3], none⟩, true),
 (⟨.l 21, .calls .fn, [.l 19, .l 20], none⟩, true),
 (⟨.l 22, (.bld [(.int .i64 0), (.int .i64 0), (.int .i64 0)] [(0, 1), (1, 1), (2, 1)]), [.l 15, .l 18, .l 21], none⟩, true),
 (⟨.l 23, .mkI 73, [.l 22], none⟩, true),
 (⟨.l 24, .ld true 3, [.v 4], none⟩, true)]
noncomputable abbrev r18_5 : List RO := [
 ⟨.l 25, .calls .fn, [(.con (.fn (.func 38) [] [])), .l 23, .l 24], none⟩,
 ⟨.v 5, .mv, [.l 25], none⟩]
theorem P18 : C18.M = M := by unfold C18 E18; rfl
theorem i18 {a0 a1 a2 a3 : D} : St.init C18 [a0, a1, a2, a3] ⟨[], []⟩ = ⟨[a0, a1, a2, a3, .u0, .u0, .u0, .u0], [], ⟨[], []⟩⟩ := by unfold C18 E18; rfl
noncomputable def c18 : RC := (.seq (.reg r18_0) (.seq (.seq (.reg r18_1) (.cond (.v 7) (.seq (.reg r18_2) .ret) .skip)) (.seq (.reg r18_3) (.seq (.regD r18_4 r18_5) .ret))))
noncomputable def q18 : List RR := [(.slot (.v 5))]
theorem k18 : FnOk M 18 4 Tryd.f18 E18 c18 q18 := fnOk Tryd.func18
noncomputable def E17 (n m : Nat) : Cfg := ⟨M, [0, 1, 2, 3, 4, 6, 7, 14, 15, 16, 17, 34, 39], 53, n, m, []⟩
noncomputable def C17 : Cfg := E17 0 0
noncomputable abbrev r17_0 : List RO := [
 ⟨.v 2, .box, [.v 0], none⟩,
 ⟨.v 3, .box, [.v 1], none⟩,
 ⟨.v 4, (.newb [(.int .i64 0), (.int .i64 0)]), [], none⟩]
noncomputable abbrev r17_1 : List RO := [
 ⟨.l 8, .fld 0, [.v 3], none⟩,
 ⟨.l 9, .ld true 2, [.l 8], none⟩,
 ⟨.l 10, .fld 2, [.v 3], none⟩,
 ⟨.l 11, .ld true 2, [.l 10], none⟩,
 ⟨.l 12, .fld 4, [.v 3], none⟩,
 ⟨.l 13, .ld true 2, [.l 12], none⟩,
 ⟨.v 7, .bsl 2, [.l 9, .l 11, .l 13], none⟩,
 ⟨.v 8, .lenL, [.v 7], none⟩,
 ⟨.v 9, .mv, [.con (.int .i64 0)], none⟩]
noncomputable abbrev r17_2 : List RO := [
 ⟨.v 10, .bin .lss, [.v 9, .v 8], none⟩]
noncomputable abbrev r17_3 : List RO := [
 ⟨.l 18, .ixaS 2, [.v 7, .v 9], none⟩,
 ⟨.l 19, .ld true 2, [.l 18], none⟩,
 ⟨.v 5, (.newb [(.int .i64 0), (.int .i64 0)]), [], none⟩,
 ⟨.none, .st 2, [.v 5, .l 19], none⟩]
noncomputable abbrev r17_4 : List RO := [
 ⟨.l 20, .fld 0, [.v 5], none⟩,
 ⟨.l 21, .ld false 1, [.l 20], none⟩,
 ⟨.l 22, .bin .lss, [.l 21, .con (.int .i64 0)], none⟩,
 ⟨.l 23, .mv, [.l 22], none⟩,
 ⟨.l 24, .fld 0, [.v 5], (some (.l 23, false))⟩,
 ⟨.l 25, .ld false 1, [.l 24], (some (.l 23, false))⟩,
 ⟨.l 26, .fld 1, [.v 5], (some (.l 23, false))⟩,
 ⟨.l 27, .ld false 1, [.l 26], (some (.l 23, false))⟩,
 ⟨.l 28, .bin .gtr, [.l 25, .l 27], (some (.l 23, false))⟩,
 ⟨.l 29, .pick, [.l 23, .con (.bool true), .l 28], none⟩,
 ⟨.l 30, .mv, [.l 29], none⟩,
 ⟨.l 31, .fld 1, [.v 5], (some (.l 30, false))⟩,
 ⟨.l 32, .ld false 1, [.l 31], (some (.l 30, false))⟩,
 ⟨.l 33, .bin .gtr, [.l 32, .con (.int .i64 1000000)], (some (.l 30, false))⟩,
 ⟨.v 11, .pick, [.l 30, .con (.bool true), .l 33], none⟩]
noncomputable abbrev r17_5 : List RO := [
 ⟨.l 35, (.bld [(.int .i64 0), (.int .i64 0)] []), [], none⟩,
 ⟨.none, .st 2, [.v 4, .l 35], none⟩]
noncomputable abbrev r17_6 : List RO := [
 ⟨.l 36, .bin .add, [.v 9, .con (.int .i64 1)], none⟩,
 ⟨.v 9, .mv, [.l 36], none⟩]
noncomputable abbrev r17_7 : List RO := [
 ⟨.l 37, .ld true 3, [.v 2], none⟩,
 ⟨.l 38, .calls .fn, [(.con (.fn (.func 12) [] [])), .l 37], none⟩,
 ⟨.v 12, .un .not, [.l 38], none⟩]
noncomputable abbrev r17_8 : List RO := [
 ⟨.l 40, (.bld [(.int .i64 0), (.int .i64 0)] []), [], none⟩,
 ⟨.none, .st 2, [.v 4, .l 40], none⟩]
noncomputable abbrev r17_9 : List RO := [
 ⟨.l 41, .ld true 6, [.v 3], none⟩,
 ⟨.l 42, (.bld [(.int .i64 0), (.int .i64 0), (.int .i64 0), (.int .i64 0), (.int .i64 0), (.int .i64 0)] [(0, 6)]), [.l 41], none⟩,
 ⟨.l 43, .mkI 70, [.l 42], none⟩,
 ⟨.l 44, .ld true 3, [.v 2], none⟩,
 ⟨.l 45, .calls .fn, [(.con (.fn (.func 36) [] [])), .l 43, .l 44], none⟩,
 ⟨.v 6, (.newb [(.int .i64 0), (.int .i64 0)]), [], none⟩,
 ⟨.none, .st 2, [.v 6, .l 45], none⟩]
noncomputable abbrev r17_10 : List RO := [
 ⟨.l 46, .fld 0, [.v 6], none⟩,
 ⟨.l 47, .ld false 1, [.l 46], none⟩,
 ⟨.l 48, .maxI, [.con (.int .i64 0), .l 47], none⟩,
 ⟨.l 49, .fld 1, [.v 6], none⟩,
 ⟨.l 50, .ld false 1, [.l 49], none⟩,
 ⟨.l 51, .maxI, [.con (.int .i64 0), .l 50], none⟩,
 ⟨.l 52, (.bld [(.int .i64 0), (.int .i64 0)] [(0, 1), (1, 1)]), [.l 48, .l 51], none⟩,
 ⟨.none, .st 2, [.v 4, .l 52], none⟩]
theorem P17 : C17.M = M := by unfold C17 E17; rfl
theorem i17 {a0 a1 : D} : St.init C17 [a0, a1] ⟨[], []⟩ = ⟨[a0, a1, .u0, .u0, .u0, .u0, .u0, .u0, .u0, .u0, .u0, .u0, .u0], [], ⟨[], []⟩⟩ := by unfold C17 E17; rfl
noncomputable def c17 : RC := (.seq (.reg r17_0) (.seq (.seq (.reg r17_1) (.block 0 (.loop (.seq (.reg r17_2) (.seq (.cond (.v 10) .skip (.exit 0)) (.seq (.block 1 (.seq (.reg r17_3) (.seq (.reg r17_4) (.cond (.v 11) (.seq (.reg r17_5) .ret) .skip)))) (.reg r17_6))))))) (.seq (.seq (.reg r17_7) (.cond (.v 12) (.seq (.reg r17_8) .ret) .skip)) (.seq (.reg r17_9) (.seq (.reg r17_10) .ret)))))
noncomputable def q17 : List RR := [(.cell (.v 4) true 2)]
theorem k17 : FnOk M 17 2 Tryd.f17 E17 c17 q17 := fnOk Tryd.func17
noncomputable def E14 (n m : Nat) : Cfg := ⟨M, [0, 1, 2, 3, 4, 5, 26, 31, 45], 46, n, m, []⟩
noncomputable def C14 : Cfg := E14 0 0
noncomputable abbrev r14_0 : List RO := [
 ⟨.v 2, .box, [.v 0], none⟩,
 ⟨.v 3, .box, [.v 1], none⟩,
 ⟨.v 4, .mv, [.con (.bool false)], none⟩]
noncomputable abbrev r14_1 : List RO := [
 ⟨.l 6, .fld 0, [.v 2], none⟩,
 ⟨.l 7, .ld false 1, [.l 6], none⟩,
 ⟨.l 8, .fld 0, [.v 3], none⟩,
 ⟨.l 9, .ld false 1, [.l 8], none⟩,
 ⟨.l 10, .bin .neq, [.l 7, .l 9], none⟩,
 ⟨.l 11, .mv, [.l 10], none⟩,
 ⟨.l 12, .fld 1, [.v 2], (some (.l 11, false))⟩,
 ⟨.l 13, .ld false 1, [.l 12], (some (.l 11, false))⟩,
 ⟨.l 14, .fld 1, [.v 3], (some (.l 11, false))⟩,
 ⟨.l 15, .ld false 1, [.l 14], (some (.l 11, false))⟩,
 ⟨.l 16, .bin .neq, [.l 13, .l 15], (some (.l 11, false))⟩,
 ⟨.l 17, .pick, [.l 11, .con (.bool true), .l 16], none⟩,
 ⟨.l 18, .mv, [.l 17], none⟩,
 ⟨.l 19, .fld 2, [.v 2], (some (.l 18, false))⟩,
 ⟨.l 20, .ld false 1, [.l 19], (some (.l 18, false))⟩,
 ⟨.l 21, .lenL, [.l 20], (some (.l 18, false))⟩,
 ⟨.l 22, .fld 2, [.v 3], (some (.l 18, false))⟩,
 ⟨.l 23, .ld false 1, [.l 22], (some (.l 18, false))⟩,
 ⟨.l 24, .lenL, [.l 23], (some (.l 18, false))⟩,
 ⟨.l 25, .bin .neq, [.l 21, .l 24], (some (.l 18, false))⟩,
 ⟨.v 6, .pick, [.l 18, .con (.bool true), .l 25], none⟩]
noncomputable abbrev r14_2 : List RO := [
 ⟨.v 4, .mv, [.con (.bool false)], none⟩]
noncomputable abbrev r14_3 : List RO := [
 ⟨.v 5, .mv, [.con (.int .i64 0)], none⟩]
noncomputable abbrev r14_4 : List RO := [
 ⟨.l 27, .mv, [.v 5], none⟩,
 ⟨.l 28, .fld 2, [.v 2], none⟩,
 ⟨.l 29, .ld false 1, [.l 28], none⟩,
 ⟨.l 30, .lenL, [.l 29], none⟩,
 ⟨.v 7, .bin .lss, [.l 27, .l 30], none⟩]
noncomputable abbrev r14_5 : List (RO × Bool) := [
 (⟨.l 34, .fld 2, [.v 2], none⟩, true),
 (⟨.l 35, .ld false 1, [.l 34], none⟩, true),
 (⟨.l 36, .mv, [.v 5], none⟩, true),
 (⟨.l 37, .ixaS 3, [.l 35, .l 36], none⟩, true),
 (⟨.l 38, .ld true 3, [.l 37], none⟩, true),
 (⟨.l 39, .fld 2, [.v 3], none⟩, true),
 (⟨.l 40, .ld false 1, [.l 39], none⟩, true),
 (⟨.l 41, .mv, [.v 5], none⟩, true),
 (⟨.l 42, .ixaS 3, [.l 40, .l 41], none⟩, true),
 (⟨.l 43, .ld true 3, [.l 42], none⟩, true)]
noncomputable abbrev r14_6 : List RO := [
 ⟨.l 44, .calls .fn, [(.con (.fn (.func 14) [] [])), .l 38, .l 43], none⟩,
 ⟨.v 8, .un .not, [.l 44], none⟩]
noncomputable abbrev r14_7 : List RO := [
 ⟨.v 4, .mv, [.con (.bool false)], none⟩]
noncomputable abbrev r14_8 : List RO := [
 ⟨.l 32, .mv, [.v 5], none⟩,
 ⟨.l 33, .bin .add, [.l 32, .con (.int .i64 1)], none⟩,
 ⟨.v 5, .mv, [.l 33], none⟩]
noncomputable abbrev r14_9 : List RO := [
 ⟨.v 4, .mv, [.con (.bool true)], none⟩]
theorem P14 : C14.M = M := by unfold C14 E14; rfl
theorem i14 {a0 a1 : D} : St.init C14 [a0, a1] ⟨[], []⟩ = ⟨[a0, a1, .u0, .u0, .u0, .u0, .u0, .u0, .u0], [], ⟨[], []⟩⟩ := by unfold C14 E14; rfl
noncomputable def c14 : RC := (.seq (.reg r14_0) (.seq (.seq (.reg r14_1) (.cond (.v 6) (.seq (.reg r14_2) .ret) .skip)) (.seq (.seq (.reg r14_3) (.block 0 (.loop (.seq (.seq (.reg r14_4) (.cond (.v 7) .skip (.exit 0))) (.seq (.block 1 (.seq (.regD r14_5 r14_6) (.cond (.v 8) (.seq (.reg r14_7) .ret) .skip))) (.reg r14_8)))))) (.seq (.reg r14_9) .ret))))
noncomputable def q14 : List RR := [(.slot (.v 4))]
theorem k14 : FnOk M 14 2 Tryd.f14 E14 c14 q14 := fnOk Tryd.func14
end Go.Proofs.YtkjnhkoipgdfeaaDoor
end
section
set_option maxRecDepth 100000
namespace Go.Proofs.YtkjnhkoipgdfeaaDoor
open Go GoV
noncomputable def E47 (n m : Nat) : Cfg := ⟨M, [0, 1, 2, 3, 4, 5, 9, 24, 33, 39], 50, n, m, []⟩
noncomputable def C47 : Cfg := E47 0 0
noncomputable abbrev r47_0 : List RO := [
 ⟨.v 0, .newb zl256, [], none⟩]
noncomputable abbrev r47_1 : List RO := [
 ⟨.v 1, .newb zl256, [], none⟩]
noncomputable abbrev r47_2 : List RO := [
 ⟨.v 4, .mv, [.con (.int .i64 0)], none⟩]
noncomputable abbrev r47_3 : List RO := [
 ⟨.v 5, .bin .lss, [.v 4, .con (.int .i64 256)], none⟩]
noncomputable abbrev r47_4 : List RO := [
 ⟨.l 6, .mv, [.v 4], none⟩,
 ⟨.v 2, .mv, [.l 6], none⟩]
noncomputable abbrev r47_5 : List RO := [
 ⟨.l 7, .mv, [.v 2], none⟩,
 ⟨.l 8, .cvI .u8, [.l 7], none⟩,
 ⟨.v 3, .mv, [.l 8], none⟩]
noncomputable abbrev r47_6 : List RO := [
 ⟨.l 10, .mv, [.v 3], none⟩,
 ⟨.l 11, .bin .leq, [(.con (.int .u8 97)), .l 10], none⟩,
 ⟨.l 12, .mv, [.l 11], none⟩,
 ⟨.l 13, .mv, [.v 3], (some (.l 12, true))⟩,
 ⟨.l 14, .bin .leq, [.l 13, (.con (.int .u8 122))], (some (.l 12, true))⟩,
 ⟨.l 15, .pick, [.l 12, .l 14, .con (.bool false)], none⟩,
 ⟨.v 6, .mv, [.l 15], none⟩]
noncomputable abbrev r47_7 : List RO := [
 ⟨.l 16, .mv, [.v 3], none⟩,
 ⟨.l 17, .bin .leq, [(.con (.int .u8 65)), .l 16], none⟩,
 ⟨.l 18, .mv, [.l 17], none⟩,
 ⟨.l 19, .mv, [.v 3], (some (.l 18, true))⟩,
 ⟨.l 20, .bin .leq, [.l 19, (.con (.int .u8 90))], (some (.l 18, true))⟩,
 ⟨.l 21, .pick, [.l 18, .l 20, .con (.bool false)], none⟩,
 ⟨.v 6, .mv, [.l 21], none⟩]
noncomputable abbrev r47_8 : List RO := [
 ⟨.l 22, .mv, [.v 2], none⟩,
 ⟨.l 23, .ixaA 256 1, [.v 1, .l 22], none⟩,
 ⟨.none, .st 1, [.l 23, (.con (.int .u8 3))], none⟩]
noncomputable abbrev r47_9 : List RO := [
 ⟨.l 25, .mv, [.v 3], none⟩,
 ⟨.l 26, .bin .leq, [(.con (.int .u8 48)), .l 25], none⟩,
 ⟨.l 27, .mv, [.l 26], none⟩,
 ⟨.l 28, .mv, [.v 3], (some (.l 27, true))⟩,
 ⟨.l 29, .bin .leq, [.l 28, (.con (.int .u8 57))], (some (.l 27, true))⟩,
 ⟨.l 30, .pick, [.l 27, .l 29, .con (.bool false)], none⟩,
 ⟨.v 7, .mv, [.l 30], none⟩]
noncomputable abbrev r47_10 : List RO := [
 ⟨.l 31, .mv, [.v 2], none⟩,
 ⟨.l 32, .ixaA 256 1, [.v 1, .l 31], none⟩,
 ⟨.none, .st 1, [.l 32, (.con (.int .u8 4))], none⟩]
noncomputable abbrev r47_11 : List RO := [
 ⟨.l 34, .mv, [.v 3], none⟩,
 ⟨.l 35, .calls .fn, [(.con (.fn (.func 55) [] [])), (.con (.str [32, 9, 10])), .l 34], none⟩,
 ⟨.l 36, .bin .geq, [.l 35, .con (.int .i64 0)], none⟩,
 ⟨.v 8, .mv, [.l 36], none⟩]
noncomputable abbrev r47_12 : List RO := [
 ⟨.l 37, .mv, [.v 2], none⟩,
 ⟨.l 38, .ixaA 256 1, [.v 1, .l 37], none⟩,
 ⟨.none, .st 1, [.l 38, (.con (.int .u8 1))], none⟩]
noncomputable abbrev r47_13 : List RO := [
 ⟨.l 40, .mv, [.v 3], none⟩,
 ⟨.l 41, .calls .fn, [(.con (.fn (.func 55) [] [])), (.con (.str [59, 44, 46, 58, 40, 41, 123, 125, 91, 93, 61, 60, 62, 47, 43, 45, 42])), .l 40], none⟩,
 ⟨.l 42, .bin .geq, [.l 41, .con (.int .i64 0)], none⟩,
 ⟨.v 9, .mv, [.l 42], none⟩]
noncomputable abbrev r47_14 : List RO := [
 ⟨.l 43, .mv, [.v 2], none⟩,
 ⟨.l 44, .ixaA 256 1, [.v 1, .l 43], none⟩,
 ⟨.none, .st 1, [.l 44, (.con (.int .u8 6))], none⟩]
noncomputable abbrev r47_15 : List RO := [
 ⟨.l 45, .bin .add, [.v 4, .con (.int .i64 1)], none⟩,
 ⟨.v 4, .mv, [.l 45], none⟩]
noncomputable abbrev r47_16 : List RO := [
 ⟨.l 46, .ixaA 256 1, [.v 1, .con (.int .i64 35)], none⟩,
 ⟨.none, .st 1, [.l 46, (.con (.int .u8 2))], none⟩,
 ⟨.l 47, .ixaA 256 1, [.v 1, .con (.int .i64 95)], none⟩,
 ⟨.none, .st 1, [.l 47, (.con (.int .u8 5))], none⟩,
 ⟨.l 48, .ixaA 256 1, [.v 1, .con (.int .i64 34)], none⟩,
 ⟨.none, .st 1, [.l 48, (.con (.int .u8 7))], none⟩]
noncomputable abbrev r47_17 : List RO := [
 ⟨.l 49, .ld true 256, [.v 1], none⟩,
 ⟨.none, .st 256, [.v 0, .l 49], none⟩]
theorem P47 : C47.M = M := by unfold C47 E47; rfl
theorem i47 : St.init C47 [] ⟨[], []⟩ = ⟨[.u0, .u0, .u0, .u0, .u0, .u0, .u0, .u0, .u0, .u0], [], ⟨[], []⟩⟩ := by unfold C47 E47; rfl
noncomputable def c47 : RC := (.seq (.reg r47_0) (.seq (.reg r47_1) (.seq (.seq (.reg r47_2) (.block 0 (.loop (.seq (.reg r47_3) (.seq (.cond (.v 5) .skip (.exit 0)) (.seq (.block 1 (.seq (.reg r47_4) (.seq (.reg r47_5) (.block 2 (.seq (.seq (.reg r47_6) (.cond (.v 6) .skip (.reg r47_7))) (.cond (.v 6) (.reg r47_8) (.seq (.reg r47_9) (.cond (.v 7) (.reg r47_10) (.seq (.reg r47_11) (.cond (.v 8) (.reg r47_12) (.seq (.reg r47_13) (.cond (.v 9) (.reg r47_14) .skip)))))))))))) (.reg r47_15))))))) (.seq (.reg r47_16) (.seq (.reg r47_17) .ret)))))
noncomputable def q47 : List RR := [(.cell (.v 0) true 256)]
theorem k47 : FnOk M 47 0 Tryd.f47 E47 c47 q47 := fnOk Tryd.func47
noncomputable def E39 (n m : Nat) : Cfg := ⟨M, [0, 1, 2, 3, 4], 8, n, m, []⟩
noncomputable def C39 : Cfg := E39 0 0
noncomputable abbrev r39_0 : List RO := [
 ⟨.v 1, .box, [.v 0], none⟩,
 ⟨.v 2, .mv, [(.con (.lit .nilFunc))], none⟩]
noncomputable abbrev r39_1 : List RO := [
 ⟨.l 5, .calls .fn, [(.con (.fn (.func 47) [] []))], none⟩,
 ⟨.v 3, .newb zl256, [], none⟩,
 ⟨.none, .st 256, [.v 3, .l 5], none⟩]
noncomputable abbrev r39_2 : List RO := [
 ⟨.l 6, (.mkF (.func 48) 0), [.v 1, .v 3], none⟩,
 ⟨.v 4, (.newb [(.lit .nilFunc)]), [], none⟩,
 ⟨.none, .st 1, [.v 4, .l 6], none⟩]
noncomputable abbrev r39_3 : List RO := [
 ⟨.l 7, (.mkF (.func 49) 0), [.v 1, .v 4], none⟩,
 ⟨.v 2, .mv, [.l 7], none⟩]
theorem P39 : C39.M = M := by unfold C39 E39; rfl
theorem i39 {a0 : D} : St.init C39 [a0] ⟨[], []⟩ = ⟨[a0, .u0, .u0, .u0, .u0], [], ⟨[], []⟩⟩ := by unfold C39 E39; rfl
noncomputable def c39 : RC := (.seq (.reg r39_0) (.seq (.reg r39_1) (.seq (.reg r39_2) (.seq (.reg r39_3) .ret))))
noncomputable def q39 : List RR := [(.slot (.v 2))]
theorem k39 : FnOk M 39 1 Tryd.f39 E39 c39 q39 := fnOk Tryd.func39
noncomputable def E48 (n m : Nat) : Cfg := ⟨M, [0, 1, 2, 4, 8], 14, n, m, []⟩
noncomputable def C48 : Cfg := E48 0 0
noncomputable abbrev r48_0 : List RO := [
 ⟨.v 3, .mv, [(.con (.int .u8 0))], none⟩]
noncomputable abbrev r48_1 : List RO := [
 ⟨.l 5, .mv, [.v 0], none⟩,
 ⟨.l 6, .ld false 1, [.v 1], none⟩,
 ⟨.l 7, .lenS, [.l 6], none⟩,
 ⟨.v 4, .bin .geq, [.l 5, .l 7], none⟩]
noncomputable abbrev r48_2 : List RO := [
 ⟨.v 3, .mv, [(.con (.int .u8 0))], none⟩]
noncomputable abbrev r48_3 : List RO := [
 ⟨.l 9, .ld false 1, [.v 1], none⟩,
 ⟨.l 10, .mv, [.v 0], none⟩,
 ⟨.l 11, .ixvS, [.l 9, .l 10], none⟩,
 ⟨.l 12, .ixaA 256 1, [.v 2, .l 11], none⟩,
 ⟨.l 13, .ld false 1, [.l 12], none⟩,
 ⟨.v 3, .mv, [.l 13], none⟩]
theorem P48 : C48.M = M := by unfold C48 E48; rfl
theorem i48 {a0 a1 a2 : D} : St.init C48 [a0, a1, a2] ⟨[], []⟩ = ⟨[a0, a1, a2, .u0, .u0], [], ⟨[], []⟩⟩ := by unfold C48 E48; rfl
noncomputable def c48 : RC := (.seq (.reg r48_0) (.seq (.seq (.reg r48_1) (.cond (.v 4) (.seq (.reg r48_2) .ret) .skip)) (.seq (.reg r48_3) .ret)))
noncomputable def q48 : List RR := [(.slot (.v 3))]
theorem k48 : FnOk M 48 3 Tryd.f48 E48 c48 q48 := fnOk Tryd.func48
noncomputable def E49 (n m : Nat) : Cfg := ⟨M, [0, 1, 2, 4, 5, 6, 7, 8, 9, 10, 14, 21, 22, 26, 37, 40, 54, 72, 74, 79, 105, 107, 117, 127, 148], 149, n, m, []⟩
noncomputable abbrev r49_0 : List RO := [
 ⟨.v 3, .mv, [.con (.int .i64 0)], none⟩]
noncomputable abbrev r49_1 : List RO := [
 ⟨.l 11, .mv, [.v 3], none⟩,
 ⟨.l 12, .ld false 1, [.v 1], none⟩,
 ⟨.l 13, .lenS, [.l 12], none⟩,
 ⟨.v 10, .bin .lss, [.l 11, .l 13], none⟩]
noncomputable abbrev r49_2 : List RO := [
 ⟨.l 15, .mv, [.v 3], none⟩,
 ⟨.v 4, .mv, [.l 15], none⟩]
noncomputable abbrev r49_3 : List RO := [
 ⟨.l 16, .mv, [.v 4], none⟩,
 ⟨.l 17, (.bld [(.int .i64 0), (.str []), (.int .i64 0)] [(2, 1)]), [.l 16], none⟩,
 ⟨.l 18, (.bld [(.int .i64 0), (.str []), (.int .i64 0), (.int .i64 0)] [(0, 3), (3, 1)]), [.l 17, .con (.int .i64 10)], none⟩,
 ⟨.v 5, (.newb [(.int .i64 0), (.str []), (.int .i64 0), (.int .i64 0)]), [], none⟩,
 ⟨.none, .st 4, [.v 5, .l 18], none⟩]
noncomputable abbrev r49_4 : List RO := [
 ⟨.l 19, .ld false 1, [.v 2], none⟩,
 ⟨.l 20, .mv, [.v 3], none⟩,
 ⟨.v 11, .calls .fn, [.l 19, .l 20], none⟩]
noncomputable abbrev r49_5 : List RO := [
 ⟨.l 23, .bin .eql, [.v 11, (.con (.int .u8 1))], none⟩,
 ⟨.v 12, .mv, [.l 23], none⟩]
noncomputable abbrev r49_6 : List RO := [
 ⟨.l 24, .mv, [.v 3], none⟩,
 ⟨.l 25, .bin .add, [.l 24, .con (.int .i64 1)], none⟩,
 ⟨.v 3, .mv, [.l 25], none⟩]
noncomputable abbrev r49_7 : List RO := [
 ⟨.l 27, .bin .eql, [.v 11, (.con (.int .u8 2))], none⟩,
 ⟨.v 13, .mv, [.l 27], none⟩]
noncomputable abbrev r49_8 : List RO := [
 ⟨.l 28, .mv, [.v 3], none⟩,
 ⟨.l 29, .ld false 1, [.v 1], none⟩,
 ⟨.l 30, .lenS, [.l 29], none⟩,
 ⟨.l 31, .bin .lss, [.l 28, .l 30], none⟩,
 ⟨.l 32, .mv, [.l 31], none⟩,
 ⟨.l 33, .ld false 1, [.v 1], (some (.l 32, true))⟩,
 ⟨.l 34, .mv, [.v 3], (some (.l 32, true))⟩,
 ⟨.l 35, .ixvS, [.l 33, .l 34], (some (.l 32, true))⟩,
 ⟨.l 36, .bin .neq, [.l 35, (.con (.int .u8 10))], (some (.l 32, true))⟩,
 ⟨.v 14, .pick, [.l 32, .l 36, .con (.bool false)], none⟩]
noncomputable abbrev r49_9 : List RO := [
 ⟨.l 38, .mv, [.v 3], none⟩,
 ⟨.l 39, .bin .add, [.l 38, .con (.int .i64 1)], none⟩,
 ⟨.v 3, .mv, [.l 39], none⟩]
noncomputable abbrev r49_10 : List RO := [
 ⟨.l 41, .bin .eql, [.v 11, (.con (.int .u8 3))], none⟩,
 ⟨.v 15, .mv, [.l 41], none⟩]
noncomputable abbrev r49_11 : List RO := [
 ⟨.l 42, .ld false 1, [.v 2], none⟩,
 ⟨.l 43, .mv, [.v 3], none⟩,
 ⟨.l 44, .calls .fn, [.l 42, .l 43], none⟩,
 ⟨.v 6, .mv, [.l 44], none⟩]
noncomputable abbrev r49_12 : List RO := [
 ⟨.l 45, .mv, [.v 6], none⟩,
 ⟨.l 46, .bin .eql, [.l 45, (.con (.int .u8 3))], none⟩,
 ⟨.l 47, .mv, [.l 46], none⟩,
 ⟨.l 48, .mv, [.v 6], (some (.l 47, false))⟩,
 ⟨.l 49, .bin .eql, [.l 48, (.con (.int .u8 4))], (some (.l 47, false))⟩,
 ⟨.l 50, .pick, [.l 47, .con (.bool true), .l 49], none⟩,
 ⟨.l 51, .mv, [.l 50], none⟩,
 ⟨.l 52, .mv, [.v 6], (some (.l 51, false))⟩,
 ⟨.l 53, .bin .eql, [.l 52, (.con (.int .u8 5))], (some (.l 51, false))⟩,
 ⟨.v 16, .pick, [.l 51, .con (.bool true), .l 53], none⟩]
noncomputable abbrev r49_13 : List RO := [
 ⟨.l 58, .mv, [.v 3], none⟩,
 ⟨.l 59, .bin .add, [.l 58, .con (.int .i64 1)], none⟩,
 ⟨.v 3, .mv, [.l 59], none⟩]
noncomputable abbrev r49_14 : List RO := [
 ⟨.l 55, .ld false 1, [.v 2], none⟩,
 ⟨.l 56, .mv, [.v 3], none⟩,
 ⟨.l 57, .calls .fn, [.l 55, .l 56], none⟩,
 ⟨.v 6, .mv, [.l 57], none⟩]
noncomputable abbrev r49_15 : List (RO × Bool) := [
 (⟨.l 60, .ld false 1, [.v 1], none⟩, true),
 (⟨.l 61, .mv, [.v 4], none⟩, true),
 (⟨.l 62, .mv, [.v 3], none⟩, true),
 (⟨.l 63, .slcS true true, [.l 60, .l 61, .l 62], none⟩, true),
 (⟨.l 64, .fld 0, [.v 5], none⟩, true),
 (⟨.l 65, .fld 0, [.l 64], none⟩, true),
 (⟨.none, .st 1, [.l 65, .con (.int .i64 1)], none⟩, true)]
noncomputable abbrev r49_16 : List RO := [
 ⟨.l 66, .fld 0, [.v 5], none⟩,
 ⟨.l 67, .fld 1, [.l 66], none⟩,
 ⟨.none, .st 1, [.l 67, .l 63], none⟩,
 ⟨.l 68, .fld 3, [.v 5], none⟩,
 ⟨.none, .st 1, [.l 68, .con (.int .i64 0)], none⟩]
noncomputable abbrev r49_17 : List RO := [
 ⟨.l 69, .mv, [.v 3], none⟩,
 ⟨.l 70, .mv, [.v 4], none⟩,
 ⟨.l 71, .bin .sub, [.l 69, .l 70], none⟩,
 ⟨.v 17, .bin .gtr, [.l 71, .con (.int .i64 24)], none⟩]
noncomputable abbrev r49_18 : List RO := [
 ⟨.l 73, .fld 3, [.v 5], none⟩,
 ⟨.none, .st 1, [.l 73, .con (.int .i64 7)], none⟩]
noncomputable abbrev r49_19 : List RO := [
 ⟨.l 75, .bin .eql, [.v 11, (.con (.int .u8 4))], none⟩,
 ⟨.v 18, .mv, [.l 75], none⟩]
noncomputable abbrev r49_20 : List RO := [
 ⟨.l 76, .ld false 1, [.v 2], none⟩,
 ⟨.l 77, .mv, [.v 3], none⟩,
 ⟨.l 78, .calls .fn, [.l 76, .l 77], none⟩,
 ⟨.v 19, .bin .eql, [.l 78, (.con (.int .u8 4))], none⟩]
noncomputable abbrev r49_21 : List RO := [
 ⟨.l 80, .mv, [.v 3], none⟩,
 ⟨.l 81, .bin .add, [.l 80, .con (.int .i64 1)], none⟩,
 ⟨.v 3, .mv, [.l 81], none⟩]
noncomputable abbrev r49_22 : List (RO × Bool) := [
 (⟨.l 82, .ld false 1, [.v 1], none⟩, true),
 (⟨.l 83, .mv, [.v 4], none⟩, true),
 (⟨.l 84, .mv, [.v 3], none⟩, true),
 (⟨.l 85, .slcS true true, [.l 82, .l 83, .l 84], none⟩, true),
 (⟨.l 86, .fld 0, [.v 5], none⟩, true),
 (⟨.l 87, .fld 0, [.l 86], none⟩, true),
 (⟨.none, .st 1, [.l 87, .con (.int .i64 2)], none⟩, true)]
noncomputable abbrev r49_23 : List RO := [
 ⟨.l 88, .fld 0, [.v 5], none⟩,
 ⟨.l 89, .fld 1, [.l 88], none⟩,
 ⟨.none, .st 1, [.l 89, .l 85], none⟩,
 ⟨.l 90, .fld 3, [.v 5], none⟩,
 ⟨.none, .st 1, [.l 90, .con (.int .i64 0)], none⟩]
noncomputable abbrev r49_24 : List RO := [
 ⟨.l 91, .ld false 1, [.v 2], none⟩,
 ⟨.l 92, .mv, [.v 3], none⟩,
 ⟨.l 93, .calls .fn, [.l 91, .l 92], none⟩,
 ⟨.v 7, .mv, [.l 93], none⟩]
noncomputable abbrev r49_25 : List RO := [
 ⟨.l 94, .mv, [.v 3], none⟩,
 ⟨.l 95, .mv, [.v 4], none⟩,
 ⟨.l 96, .bin .sub, [.l 94, .l 95], none⟩,
 ⟨.l 97, .bin .gtr, [.l 96, .con (.int .i64 7)], none⟩,
 ⟨.l 98, .mv, [.l 97], none⟩,
 ⟨.l 99, .mv, [.v 7], (some (.l 98, false))⟩,
 ⟨.l 100, .bin .eql, [.l 99, (.con (.int .u8 3))], (some (.l 98, false))⟩,
 ⟨.l 101, .pick, [.l 98, .con (.bool true), .l 100], none⟩,
 ⟨.l 102, .mv, [.l 101], none⟩,
 ⟨.l 103, .mv, [.v 7], (some (.l 102, false))⟩,
 ⟨.l 104, .bin .eql, [.l 103, (.con (.int .u8 5))], (some (.l 102, false))⟩,
 ⟨.v 20, .pick, [.l 102, .con (.bool true), .l 104], none⟩]
noncomputable abbrev r49_26 : List RO := [
 ⟨.l 106, .fld 3, [.v 5], none⟩,
 ⟨.none, .st 1, [.l 106, .con (.int .i64 11)], none⟩]
noncomputable abbrev r49_27 : List RO := [
 ⟨.l 108, .bin .eql, [.v 11, (.con (.int .u8 7))], none⟩,
 ⟨.v 21, .mv, [.l 108], none⟩]
noncomputable abbrev r49_28 : List RO := [
 ⟨.l 110, .ld false 1, [.v 1], none⟩,
 ⟨.l 111, .mv, [.v 3], none⟩,
 ⟨.l 112, .slcS true false, [.l 110, .l 111], none⟩,
 ⟨.l 113, .calls .fn, [(.con (.fn (.func 50) [] [])), .l 112], none⟩,
 ⟨.l 109, .mv, [.l 113], none⟩,
 ⟨.l 114, .ext 0, [.l 109], none⟩,
 ⟨.l 115, .ext 1, [.l 109], none⟩,
 ⟨.v 8, .mv, [.l 114], none⟩,
 ⟨.v 9, .mv, [.l 115], none⟩]
noncomputable abbrev r49_29 : List RO := [
 ⟨.l 116, .mv, [.v 9], none⟩,
 ⟨.v 22, .bin .gtr, [.l 116, .con (.int .i64 0)], none⟩]
noncomputable abbrev r49_30 : List RO := [
 ⟨.l 118, .mv, [.v 8], none⟩,
 ⟨.l 119, .fld 0, [.v 5], none⟩,
 ⟨.l 120, .fld 0, [.l 119], none⟩,
 ⟨.none, .st 1, [.l 120, .con (.int .i64 3)], none⟩,
 ⟨.l 121, .fld 0, [.v 5], none⟩,
 ⟨.l 122, .fld 1, [.l 121], none⟩,
 ⟨.none, .st 1, [.l 122, .l 118], none⟩,
 ⟨.l 123, .fld 3, [.v 5], none⟩,
 ⟨.none, .st 1, [.l 123, .con (.int .i64 0)], none⟩]
noncomputable abbrev r49_31 : List RO := [
 ⟨.l 124, .mv, [.v 3], none⟩,
 ⟨.l 125, .mv, [.v 9], none⟩,
 ⟨.l 126, .bin .add, [.l 124, .l 125], none⟩,
 ⟨.v 3, .mv, [.l 126], none⟩]
noncomputable abbrev r49_32 : List RO := [
 ⟨.l 128, .bin .eql, [.v 11, (.con (.int .u8 6))], none⟩,
 ⟨.v 23, .mv, [.l 128], none⟩]
noncomputable abbrev r49_33 : List RO := [
 ⟨.l 129, .mv, [.v 3], none⟩,
 ⟨.l 130, .bin .add, [.l 129, .con (.int .i64 1)], none⟩,
 ⟨.v 3, .mv, [.l 130], none⟩]
noncomputable abbrev r49_34 : List (RO × Bool) := [
 (⟨.l 131, .ld false 1, [.v 1], none⟩, true),
 (⟨.l 132, .mv, [.v 4], none⟩, true),
 (⟨.l 133, .mv, [.v 3], none⟩, true),
 (⟨.l 134, .slcS true true, [.l 131, .l 132, .l 133], none⟩, true),
 (⟨.l 135, .fld 0, [.v 5], none⟩, true),
 (⟨.l 136, .fld 0, [.l 135], none⟩, true),
 (⟨.none, .st 1, [.l 136, .con (.int .i64 4)], none⟩, true)]
noncomputable abbrev r49_35 : List RO := [
 ⟨.l 137, .fld 0, [.v 5], none⟩,
 ⟨.l 138, .fld 1, [.l 137], none⟩,
 ⟨.none, .st 1, [.l 138, .l 134], none⟩,
 ⟨.l 139, .fld 3, [.v 5], none⟩,
 ⟨.none, .st 1, [.l 139, .con (.int .i64 0)], none⟩]
noncomputable abbrev r49_36 : List RO := [
 ⟨.l 140, .mv, [.v 0], none⟩,
 ⟨.l 141, .ld true 4, [.v 5], none⟩,
 ⟨.l 142, .calls .fn, [.l 140, .l 141], none⟩,
 ⟨.l 143, .un .not, [.l 142], none⟩,
 ⟨.l 144, .mv, [.l 143], none⟩,
 ⟨.l 145, .fld 3, [.v 5], (some (.l 144, false))⟩,
 ⟨.l 146, .ld false 1, [.l 145], (some (.l 144, false))⟩,
 ⟨.l 147, .bin .neq, [.l 146, .con (.int .i64 0)], (some (.l 144, false))⟩,
 ⟨.v 24, .pick, [.l 144, .con (.bool true), .l 147], none⟩]
theorem pe49 {n m : Nat} : (E49 n m).M = M := by unfold E49; rfl
theorem ie49 {n m : Nat} {hp : Hp} {a0 a1 a2 : D} : St.init (E49 n m) [a0, a1, a2] hp = ⟨[a0, a1, a2, .u0, .u0, .u0, .u0, .u0, .u0, .u0, .u0, .u0, .u0, .u0, .u0, .u0, .u0, .u0, .u0, .u0, .u0, .u0, .u0, .u0, .u0], [], hp⟩ := by unfold E49; rfl
noncomputable def c49 : RC := (.scope (.seq (.reg r49_0) (.seq .skip (.block 0 (.loop (.seq (.seq (.reg r49_1) (.cond (.v 10) .skip (.exit 0))) (.block 1 (.seq (.reg r49_2) (.seq (.reg r49_3) (.seq (.seq (.reg r49_4) (.block 2 (.seq (.reg r49_5) (.cond (.v 12) (.seq (.reg r49_6) (.exit 1)) (.seq (.reg r49_7) (.cond (.v 13) (.seq (.block 3 (.loop (.seq (.seq (.reg r49_8) (.cond (.v 14) .skip (.exit 3))) (.block 4 (.reg r49_9))))) (.exit 1)) (.seq (.reg r49_10) (.cond (.v 15) (.seq (.seq (.reg r49_11) (.block 5 (.loop (.seq (.seq (.reg r49_12) (.cond (.v 16) .skip (.exit 5))) (.seq (.block 6 (.reg r49_13)) (.reg r49_14)))))) (.seq (.regD r49_15 r49_16) (.seq (.reg r49_17) (.cond (.v 17) (.reg r49_18) .skip)))) (.seq (.reg r49_19) (.cond (.v 18) (.seq (.block 7 (.loop (.seq (.seq (.reg r49_20) (.cond (.v 19) .skip (.exit 7))) (.block 8 (.reg r49_21))))) (.seq (.regD r49_22 r49_23) (.seq (.reg r49_24) (.seq (.reg r49_25) (.cond (.v 20) (.reg r49_26) .skip))))) (.seq (.reg r49_27) (.cond (.v 21) (.seq (.reg r49_28) (.seq (.seq (.reg r49_29) (.cond (.v 22) (.reg r49_30) .skip)) (.reg r49_31))) (.seq (.reg r49_32) (.cond (.v 23) (.seq (.reg r49_33) (.regD r49_34 r49_35)) .skip)))))))))))))) (.seq (.reg r49_36) (.cond (.v 24) .ret .skip))))))))))))
theorem z49 {n m : Nat} : zAc (E49 n m) (Tryd.f49.body.getD .skip) = some c49 := by kernel_rfl
noncomputable def E27 (n m : Nat) : Cfg := ⟨M, [0, 2, 3, 4, 5, 6, 9, 11, 12, 13, 22], 35, n, m, []⟩
noncomputable def C27 : Cfg := E27 0 0
noncomputable abbrev r27_0 : List RO := [
 ⟨.v 1, (.newb [(.lit (.slice none 0 0))]), [], none⟩,
 ⟨.v 2, (.newb [(.int .i64 0)]), [], none⟩,
 ⟨.v 3, (.newb [(.int .i64 0)]), [], none⟩]
noncomputable abbrev r27_1 : List RO := [
 ⟨.l 7, .mv, [.v 0], none⟩,
 ⟨.l 8, .lenS, [.l 7], none⟩,
 ⟨.v 6, .bin .gtr, [.l 8, .con (.int .i64 20000)], none⟩]
noncomputable abbrev r27_2 : List RO := [
 ⟨.none, .st 1, [.v 1, (.con (.lit (.slice none 0 0)))], none⟩,
 ⟨.none, .st 1, [.v 2, .con (.int .i64 7)], none⟩,
 ⟨.none, .st 1, [.v 3, (.con (.int .i64 (-1)))], none⟩]
noncomputable abbrev r27_3 : List RO := [
 ⟨.v 4, (.newb [(.lit (.slice none 0 0))]), [], none⟩]
noncomputable abbrev r27_4 : List RO := [
 ⟨.l 10, .mv, [.v 0], none⟩,
 ⟨.v 7, .calls .fn, [(.con (.fn (.func 39) [] [])), .l 10], none⟩]
noncomputable abbrev r27_5 : List RO := [
 ⟨.v 5, (.newb [(.int .i64 0), (.str []), (.int .i64 0), (.int .i64 0)]), [], none⟩,
 ⟨.none, .st 4, [.v 5, .v 8], none⟩]
noncomputable abbrev r27_6 : List RO := [
 ⟨.l 14, .fld 3, [.v 5], none⟩,
 ⟨.l 15, .ld false 1, [.l 14], none⟩,
 ⟨.l 16, .bin .neq, [.l 15, .con (.int .i64 0)], none⟩,
 ⟨.v 9, .mv, [.l 16], none⟩]
noncomputable abbrev r27_7 : List (RO × Bool) := [
 (⟨.l 17, .fld 3, [.v 5], none⟩, true),
 (⟨.l 18, .ld false 1, [.l 17], none⟩, true),
 (⟨.l 19, .fld 0, [.v 5], none⟩, true),
 (⟨.l 20, .fld 2, [.l 19], none⟩, true),
 (⟨.l 21, .ld false 1, [.l 20], none⟩, true),
 (⟨.none, .st 1, [.v 1, (.con (.lit (.slice none 0 0)))], none⟩, true),
 (⟨.none, .st 1, [.v 2, .l 18], none⟩, true)]
noncomputable abbrev r27_8 : List RO := [
 ⟨.none, .st 1, [.v 3, .l 21], none⟩]
noncomputable abbrev r27_9 : List RO := [
 ⟨.l 23, .ld false 1, [.v 4], none⟩,
 ⟨.l 24, .lenL, [.l 23], none⟩,
 ⟨.l 25, .bin .eql, [.l 24, .con (.int .i64 5000)], none⟩,
 ⟨.v 10, .mv, [.l 25], none⟩]
noncomputable abbrev r27_10 : List (RO × Bool) := [
 (⟨.l 26, .fld 0, [.v 5], none⟩, true),
 (⟨.l 27, .fld 2, [.l 26], none⟩, true),
 (⟨.l 28, .ld false 1, [.l 27], none⟩, true),
 (⟨.none, .st 1, [.v 1, (.con (.lit (.slice none 0 0)))], none⟩, true),
 (⟨.none, .st 1, [.v 2, .con (.int .i64 7)], none⟩, true)]
noncomputable abbrev r27_11 : List RO := [
 ⟨.none, .st 1, [.v 3, .l 28], none⟩]
noncomputable abbrev r27_12 : List RO := [
 ⟨.l 29, .ld false 1, [.v 4], none⟩,
 ⟨.l 30, .fld 0, [.v 5], none⟩,
 ⟨.l 31, .ld true 3, [.l 30], none⟩,
 ⟨.l 32, .bsl 3, [.l 31], none⟩,
 ⟨.l 33, .app 3 32 57, [.l 29, .l 32], none⟩,
 ⟨.none, .st 1, [.v 4, .l 33], none⟩]
noncomputable abbrev r27_13 : List RO := [
 ⟨.l 34, .ld false 1, [.v 4], none⟩,
 ⟨.none, .st 1, [.v 1, .l 34], none⟩,
 ⟨.none, .st 1, [.v 2, .con (.int .i64 0)], none⟩,
 ⟨.none, .st 1, [.v 3, .con (.int .i64 0)], none⟩]
theorem P27 : C27.M = M := by unfold C27 E27; rfl
theorem i27 {a0 : D} : St.init C27 [a0] ⟨[], []⟩ = ⟨[a0, .u0, .u0, .u0, .u0, .u0, .u0, .u0, .u0, .u0, .u0], [], ⟨[], []⟩⟩ := by unfold C27 E27; rfl
noncomputable def c27 : RC := (.seq (.reg r27_0) (.seq (.seq (.reg r27_1) (.cond (.v 6) (.seq (.reg r27_2) .ret) .skip)) (.seq (.reg r27_3) (.seq (.seq (.reg r27_4) (.block 0 (.rangeF (.v 7) [(.v 8)] (.reg r27_5) (.block 1 (.seq (.block 2 (.seq (.reg r27_6) (.cond (.v 9) (.seq (.regD r27_7 r27_8) .ret) (.seq (.reg r27_9) (.cond (.v 10) (.seq (.regD r27_10 r27_11) .ret) .skip))))) (.reg r27_12)))))) (.seq (.reg r27_13) .ret)))))
noncomputable def q27 : List RR := [(.cell (.v 1) false 1), (.cell (.v 2) false 1), (.cell (.v 3) false 1)]
theorem z27 {n m : Nat} : zAc (E27 n m) (Tryd.f27.body.getD .skip) = some c27 := by kernel_rfl
theorem zr27 {n m : Nat} : resRs (E27 n m) Tryd.f27.results.toList = some q27 := by kernel_rfl
theorem oT27 {args : List D} {d : D} (hl : args.length = 1) (h : TWp C27 0 0 c27 (fun e n m s => (match e with | .exit _ => False | _ => True) ∧ ∃ s1, (∀ ds, Weak { C27 with n0 := n, m0 := m, dfs := ds } s s1) ∧ rrsWp q27 s1 fun ds => D.closed (zAn ds) = true ∧ (zAn ds).er = d) (St.init C27 args ⟨[], []⟩)) : Pur M 27 args d :=
 pur_of_bodyT (C := C27) (fn := Tryd.f27) Tryd.func27 (by kernel_rfl) (by kernel_rfl) (rc := c27) z27 (rs := q27) zr27 (by kernel_rfl) (by rw [hl]; rfl) (by rw [hl]; decide) rfl rfl h
noncomputable def E50 (n m : Nat) : Cfg := ⟨M, [0, 2, 3, 4, 5, 6, 7, 11, 17, 20, 25, 27, 34, 40], 44, n, m, []⟩
noncomputable def C50 : Cfg := E50 0 0
noncomputable abbrev r50_0 : List RO := [
 ⟨.v 1, .mv, [(.con (.str []))], none⟩,
 ⟨.v 2, .mv, [.con (.int .i64 0)], none⟩]
noncomputable abbrev r50_1 : List RO := [
 ⟨.v 3, (.newT 82 [(.lit (.pointer none)), (.lit (.slice none 0 0))]), [], none⟩]
noncomputable abbrev r50_2 : List RO := [
 ⟨.v 4, .mv, [.con (.int .i64 1)], none⟩]
noncomputable abbrev r50_3 : List RO := [
 ⟨.l 8, .mv, [.v 4], none⟩,
 ⟨.l 9, .mv, [.v 0], none⟩,
 ⟨.l 10, .lenS, [.l 9], none⟩,
 ⟨.v 7, .bin .lss, [.l 8, .l 10], none⟩]
noncomputable abbrev r50_4 : List RO := [
 ⟨.l 14, .mv, [.v 0], none⟩,
 ⟨.l 15, .mv, [.v 4], none⟩,
 ⟨.l 16, .ixvS, [.l 14, .l 15], none⟩,
 ⟨.v 5, .mv, [.l 16], none⟩]
noncomputable abbrev r50_5 : List RO := [
 ⟨.v 8, .mv, [.v 5], none⟩]
noncomputable abbrev r50_6 : List RO := [
 ⟨.l 21, .bin .eql, [.v 8, (.con (.int .u8 34))], none⟩,
 ⟨.v 9, .mv, [.l 21], none⟩]
noncomputable abbrev r50_7 : List RO := [
 ⟨.l 22, .calls .fn, [(.con (.fn (.func 42) [] [])), .v 3], none⟩,
 ⟨.l 23, .mv, [.v 4], none⟩,
 ⟨.l 24, .bin .add, [.l 23, .con (.int .i64 1)], none⟩,
 ⟨.v 1, .mv, [.l 22], none⟩,
 ⟨.v 2, .mv, [.l 24], none⟩]
noncomputable abbrev r50_8 : List RO := [
 ⟨.l 26, .bin .eql, [.v 8, (.con (.int .u8 10))], none⟩,
 ⟨.v 10, .mv, [.l 26], none⟩]
noncomputable abbrev r50_9 : List RO := [
 ⟨.v 1, .mv, [(.con (.str []))], none⟩,
 ⟨.v 2, .mv, [.con (.int .i64 0)], none⟩]
noncomputable abbrev r50_10 : List RO := [
 ⟨.l 28, .bin .eql, [.v 8, (.con (.int .u8 92))], none⟩,
 ⟨.v 11, .mv, [.l 28], none⟩]
noncomputable abbrev r50_11 : List RO := [
 ⟨.l 29, .mv, [.v 4], none⟩,
 ⟨.l 30, .bin .add, [.l 29, .con (.int .i64 1)], none⟩,
 ⟨.v 4, .mv, [.l 30], none⟩]
noncomputable abbrev r50_12 : List RO := [
 ⟨.v 6, .mv, [(.con (.int .i64 (-1)))], none⟩]
noncomputable abbrev r50_13 : List RO := [
 ⟨.l 31, .mv, [.v 4], none⟩,
 ⟨.l 32, .mv, [.v 0], none⟩,
 ⟨.l 33, .lenS, [.l 32], none⟩,
 ⟨.v 12, .bin .lss, [.l 31, .l 33], none⟩]
noncomputable abbrev r50_14 : List RO := [
 ⟨.l 35, .mv, [.v 0], none⟩,
 ⟨.l 36, .mv, [.v 4], none⟩,
 ⟨.l 37, .ixvS, [.l 35, .l 36], none⟩,
 ⟨.l 38, .calls .fn, [(.con (.fn (.func 55) [] [])), (.con (.str [92, 34, 110])), .l 37], none⟩,
 ⟨.v 6, .mv, [.l 38], none⟩]
noncomputable abbrev r50_15 : List RO := [
 ⟨.l 39, .mv, [.v 6], none⟩,
 ⟨.v 13, .bin .lss, [.l 39, .con (.int .i64 0)], none⟩]
noncomputable abbrev r50_16 : List RO := [
 ⟨.v 1, .mv, [(.con (.str []))], none⟩,
 ⟨.v 2, .mv, [.con (.int .i64 0)], none⟩]
noncomputable abbrev r50_17 : List RO := [
 ⟨.l 41, .mv, [.v 6], none⟩,
 ⟨.l 42, .ixvS, [(.con (.str [92, 34, 10])), .l 41], none⟩,
 ⟨.l 43, .calls .fn, [(.con (.fn (.func 40) [] [])), .v 3, .l 42], none⟩]
noncomputable abbrev r50_18 : List RO := [
 ⟨.l 18, .mv, [.v 5], none⟩,
 ⟨.l 19, .calls .fn, [(.con (.fn (.func 40) [] [])), .v 3, .l 18], none⟩]
noncomputable abbrev r50_19 : List RO := [
 ⟨.l 12, .mv, [.v 4], none⟩,
 ⟨.l 13, .bin .add, [.l 12, .con (.int .i64 1)], none⟩,
 ⟨.v 4, .mv, [.l 13], none⟩]
noncomputable abbrev r50_20 : List RO := [
 ⟨.v 1, .mv, [(.con (.str []))], none⟩,
 ⟨.v 2, .mv, [.con (.int .i64 0)], none⟩]
theorem P50 : C50.M = M := by unfold C50 E50; rfl
theorem i50 {a0 : D} : St.init C50 [a0] ⟨[], []⟩ = ⟨[a0, .u0, .u0, .u0, .u0, .u0, .u0, .u0, .u0, .u0, .u0, .u0, .u0, .u0], [], ⟨[], []⟩⟩ := by unfold C50 E50; rfl
noncomputable def c50 : RC := (.seq (.reg r50_0) (.seq (.reg r50_1) (.seq (.seq (.reg r50_2) (.block 0 (.loop (.seq (.seq (.reg r50_3) (.cond (.v 7) .skip (.exit 0))) (.seq (.block 1 (.seq (.reg r50_4) (.seq (.reg r50_5) (.block 2 (.seq (.reg r50_6) (.cond (.v 9) (.seq (.reg r50_7) .ret) (.seq (.reg r50_8) (.cond (.v 10) (.seq (.reg r50_9) .ret) (.seq (.reg r50_10) (.cond (.v 11) (.seq (.reg r50_11) (.seq (.reg r50_12) (.seq (.seq (.reg r50_13) (.cond (.v 12) (.reg r50_14) .skip)) (.seq (.seq (.reg r50_15) (.cond (.v 13) (.seq (.reg r50_16) .ret) .skip)) (.reg r50_17))))) (.reg r50_18))))))))))) (.reg r50_19)))))) (.seq (.reg r50_20) .ret))))
noncomputable def q50 : List RR := [(.slot (.v 1)), (.slot (.v 2))]
theorem k50 : FnOk M 50 1 Tryd.f50 E50 c50 q50 := fnOk Tryd.func50
noncomputable def E33 (n m : Nat) : Cfg := ⟨M, [0, 2], 8, n, m, []⟩
noncomputable abbrev r33_0 : List RO := [
 ⟨.v 1, (.newb [(.int .i64 0), (.int .i64 0), (.lit (.slice none 0 0))]), [], none⟩]
noncomputable abbrev r33_1 : List RO := [
 ⟨.l 3, .mv, [.v 0], none⟩,
 ⟨.l 4, .mv, [.v 0], none⟩,
 ⟨.l 5, (.mkF (.func 46) 1), [.l 4], none⟩,
 ⟨.l 6, .bsl 1, [(.con (.str [43])), (.con (.str [45]))], none⟩,
 ⟨.l 7, .calls .fn, [(.con (.fn (.func 45) [] [])), .l 3, .con (.int .i64 5), .l 5, .l 6], none⟩,
 ⟨.none, .st 3, [.v 1, .l 7], none⟩]
theorem pe33 {n m : Nat} : (E33 n m).M = M := by unfold E33; rfl
theorem ie33 {n m : Nat} {hp : Hp} {a0 : D} : St.init (E33 n m) [a0] hp = ⟨[a0, .u0], [], hp⟩ := by unfold E33; rfl
noncomputable def c33 : RC := (.seq (.reg r33_0) (.seq (.reg r33_1) .ret))
noncomputable def q33 : List RR := [(.cell (.v 1) true 3)]
theorem z33 {n m : Nat} : zAc (E33 n m) (Tryd.f33.body.getD .skip) = some c33 := by kernel_rfl
theorem k33 : FnOk M 33 1 Tryd.f33 E33 c33 q33 := fnOk Tryd.func33
noncomputable def E34 (n m : Nat) : Cfg := ⟨M, [0, 7], 23, n, m, []⟩
noncomputable abbrev r34_0 : List RO := [
 ⟨.l 2, .mv, [.v 0], none⟩,
 ⟨.l 3, (.nck M.P), [.l 2], none⟩,
 ⟨.l 4, .fld 0, [.l 3], none⟩,
 ⟨.l 5, .ld false 1, [.l 4], none⟩,
 ⟨.l 6, .lenL, [.l 5], none⟩,
 ⟨.v 1, .bin .eql, [.l 6, .con (.int .i64 0)], none⟩]
noncomputable abbrev r34_1 : List RO := [
 ⟨.l 8, .mv, [.v 0], none⟩,
 ⟨.l 9, (.nck M.P), [.l 8], none⟩,
 ⟨.l 10, .fld 1, [.l 9], none⟩,
 ⟨.l 11, .ld false 1, [.l 10], none⟩,
 ⟨.l 12, (.bld [(.int .i64 0), (.int .i64 0)] [(0, 1), (1, 1)]), [.con (.int .i64 9), .l 11], none⟩,
 ⟨.l 13, .mkI 62, [.l 12], none⟩,
 ⟨.none, .calls .pan, [.l 13], none⟩]
noncomputable abbrev r34_2 : List RO := [
 ⟨.l 14, .mv, [.v 0], none⟩,
 ⟨.l 15, (.nck M.P), [.l 14], none⟩,
 ⟨.l 16, .fld 0, [.l 15], none⟩,
 ⟨.l 17, .ld false 1, [.l 16], none⟩,
 ⟨.l 18, .ixaS 3, [.l 17, .con (.int .i64 0)], none⟩,
 ⟨.l 19, .fld 2, [.l 18], none⟩,
 ⟨.l 20, .ld false 1, [.l 19], none⟩,
 ⟨.l 21, (.bld [(.int .i64 0), (.int .i64 0)] [(0, 1), (1, 1)]), [.con (.int .i64 8), .l 20], none⟩,
 ⟨.l 22, .mkI 62, [.l 21], none⟩,
 ⟨.none, .calls .pan, [.l 22], none⟩]
theorem pe34 {n m : Nat} : (E34 n m).M = M := by unfold E34; rfl
theorem ie34 {n m : Nat} {hp : Hp} {a0 : D} : St.init (E34 n m) [a0] hp = ⟨[a0, .u0], [], hp⟩ := by unfold E34; rfl
noncomputable def c34 : RC := (.seq (.seq (.reg r34_0) (.cond (.v 1) (.reg r34_1) .skip)) (.reg r34_2))
noncomputable def q34 : List RR := []
theorem z34 {n m : Nat} : zAc (E34 n m) (Tryd.f34.body.getD .skip) = some c34 := by kernel_rfl
noncomputable def E45 (n m : Nat) : Cfg := ⟨M, [0, 1, 2, 3, 8, 9, 10, 17], 27, n, m, []⟩
noncomputable abbrev r45_0 : List RO := [
 ⟨.v 4, (.newb [(.int .i64 0), (.int .i64 0), (.lit (.slice none 0 0))]), [], none⟩]
noncomputable abbrev r45_1 : List RO := [
 ⟨.l 11, .mv, [.v 2], none⟩,
 ⟨.l 12, .calls .fn, [.l 11], none⟩,
 ⟨.v 5, (.newb [(.int .i64 0), (.int .i64 0), (.lit (.slice none 0 0))]), [], none⟩,
 ⟨.none, .st 3, [.v 5, .l 12], none⟩]
noncomputable abbrev r45_2 : List RO := [
 ⟨.l 13, .mv, [.v 0], none⟩,
 ⟨.l 14, .mv, [.v 3], none⟩,
 ⟨.l 15, .calls .fn, [(.con (.fn (.func 53) [] [])), .l 13, .con (.int .i64 4), .l 14], none⟩,
 ⟨.v 6, .mv, [.l 15], none⟩]
noncomputable abbrev r45_3 : List RO := [
 ⟨.l 16, .mv, [.v 6], none⟩,
 ⟨.v 7, .bin .lss, [.l 16, .con (.int .i64 0)], none⟩]
noncomputable abbrev r45_4 : List RO := [
 ⟨.l 18, .ld true 3, [.v 5], none⟩,
 ⟨.none, .st 3, [.v 4, .l 18], none⟩]
noncomputable abbrev r45_5 : List (RO × Bool) := [
 (⟨.l 19, .mv, [.v 1], none⟩, true),
 (⟨.l 20, .mv, [.v 6], none⟩, true),
 (⟨.l 21, .bin .add, [.l 19, .l 20], none⟩, true),
 (⟨.l 22, .ld true 3, [.v 5], none⟩, true),
 (⟨.l 23, .mv, [.v 2], none⟩, true),
 (⟨.l 24, .calls .fn, [.l 23], none⟩, true),
 (⟨.l 25, .bsl 3, [.l 22, .l 24], none⟩, false)]
noncomputable abbrev r45_6 : List RO := [
 ⟨.l 26, (.bld [(.int .i64 0), (.int .i64 0), (.lit (.slice none 0 0))] [(0, 1), (2, 1)]), [.l 21, .l 25], none⟩,
 ⟨.none, .st 3, [.v 5, .l 26], none⟩]
theorem pe45 {n m : Nat} : (E45 n m).M = M := by unfold E45; rfl
theorem ie45 {n m : Nat} {hp : Hp} {a0 a1 a2 a3 : D} : St.init (E45 n m) [a0, a1, a2, a3] hp = ⟨[a0, a1, a2, a3, .u0, .u0, .u0, .u0], [], hp⟩ := by unfold E45; rfl
noncomputable def c45 : RC := (.seq (.reg r45_0) (.seq (.reg r45_1) (.block 0 (.loop (.block 1 (.seq (.reg r45_2) (.seq (.seq (.reg r45_3) (.cond (.v 7) (.seq (.reg r45_4) .ret) .skip)) (.regD r45_5 r45_6))))))))
noncomputable def q45 : List RR := [(.cell (.v 4) true 3)]
theorem z45 {n m : Nat} : zAc (E45 n m) (Tryd.f45.body.getD .skip) = some c45 := by kernel_rfl
theorem k45 : FnOk M 45 4 Tryd.f45 E45 c45 q45 := fnOk Tryd.func45
noncomputable def E46 (n m : Nat) : Cfg := ⟨M, [0, 2], 8, n, m, []⟩
noncomputable def C46 : Cfg := E46 0 0
noncomputable abbrev r46_0 : List RO := [
 ⟨.v 1, (.newb [(.int .i64 0), (.int .i64 0), (.lit (.slice none 0 0))]), [], none⟩]
noncomputable abbrev r46_1 : List RO := [
 ⟨.l 3, .mv, [.v 0], none⟩,
 ⟨.l 4, .mv, [.v 0], none⟩,
 ⟨.l 5, (.mkF (.func 54) 1), [.l 4], none⟩,
 ⟨.l 6, .bsl 1, [(.con (.str [42])), (.con (.str [47]))], none⟩,
 ⟨.l 7, .calls .fn, [(.con (.fn (.func 45) [] [])), .l 3, .con (.int .i64 7), .l 5, .l 6], none⟩,
 ⟨.none, .st 3, [.v 1, .l 7], none⟩]
theorem pe46 {n m : Nat} : (E46 n m).M = M := by unfold E46; rfl
theorem i46 {a0 : D} : St.init C46 [a0] ⟨[], []⟩ = ⟨[a0, .u0], [], ⟨[], []⟩⟩ := by unfold C46 E46; rfl
theorem ie46 {n m : Nat} {hp : Hp} {a0 : D} : St.init (E46 n m) [a0] hp = ⟨[a0, .u0], [], hp⟩ := by unfold E46; rfl
noncomputable def c46 : RC := (.seq (.reg r46_0) (.seq (.reg r46_1) .ret))
noncomputable def q46 : List RR := [(.cell (.v 1) true 3)]
theorem z46 {n m : Nat} : zAc (E46 n m) (Tryd.f46.body.getD .skip) = some c46 := by kernel_rfl
theorem k46 : FnOk M 46 1 Tryd.f46 E46 c46 q46 := fnOk Tryd.func46
noncomputable def E53 (n m : Nat) : Cfg := ⟨M, [0, 1, 2, 6, 7, 8, 9, 10, 11, 12, 43], 54, n, m, []⟩
noncomputable def C53 : Cfg := E53 0 0
noncomputable abbrev r53_0 : List RO := [
 ⟨.v 3, .mv, [.con (.int .i64 0)], none⟩]
noncomputable abbrev r53_1 : List RO := [
 ⟨.v 6, .mv, [.v 2], none⟩,
 ⟨.v 7, .lenL, [.v 6], none⟩,
 ⟨.v 8, .mv, [.con (.int .i64 0)], none⟩]
noncomputable abbrev r53_2 : List RO := [
 ⟨.v 9, .bin .lss, [.v 8, .v 7], none⟩]
noncomputable abbrev r53_3 : List RO := [
 ⟨.l 13, .mv, [.v 8], none⟩,
 ⟨.l 14, .ixaS 1, [.v 6, .v 8], none⟩,
 ⟨.l 15, .ld false 1, [.l 14], none⟩,
 ⟨.v 4, .mv, [.l 13], none⟩,
 ⟨.v 5, .mv, [.l 15], none⟩]
noncomputable abbrev r53_4 : List RO := [
 ⟨.l 16, .mv, [.v 0], none⟩,
 ⟨.l 17, (.nck M.P), [.l 16], none⟩,
 ⟨.l 18, .fld 0, [.l 17], none⟩,
 ⟨.l 19, .ld false 1, [.l 18], none⟩,
 ⟨.l 20, .lenL, [.l 19], none⟩,
 ⟨.l 21, .bin .gtr, [.l 20, .con (.int .i64 0)], none⟩,
 ⟨.l 22, .mv, [.l 21], none⟩,
 ⟨.l 23, .mv, [.v 0], (some (.l 22, true))⟩,
 ⟨.l 24, (.nck M.P), [.l 23], (some (.l 22, true))⟩,
 ⟨.l 25, .fld 0, [.l 24], (some (.l 22, true))⟩,
 ⟨.l 26, .ld false 1, [.l 25], (some (.l 22, true))⟩,
 ⟨.l 27, .ixaS 3, [.l 26, .con (.int .i64 0)], (some (.l 22, true))⟩,
 ⟨.l 28, .fld 0, [.l 27], (some (.l 22, true))⟩,
 ⟨.l 29, .ld false 1, [.l 28], (some (.l 22, true))⟩,
 ⟨.l 30, .mv, [.v 1], (some (.l 22, true))⟩,
 ⟨.l 31, .bin .eql, [.l 29, .l 30], (some (.l 22, true))⟩,
 ⟨.l 32, .pick, [.l 22, .l 31, .con (.bool false)], none⟩,
 ⟨.l 33, .mv, [.l 32], none⟩,
 ⟨.l 34, .mv, [.v 0], (some (.l 33, true))⟩,
 ⟨.l 35, (.nck M.P), [.l 34], (some (.l 33, true))⟩,
 ⟨.l 36, .fld 0, [.l 35], (some (.l 33, true))⟩,
 ⟨.l 37, .ld false 1, [.l 36], (some (.l 33, true))⟩,
 ⟨.l 38, .ixaS 3, [.l 37, .con (.int .i64 0)], (some (.l 33, true))⟩,
 ⟨.l 39, .fld 1, [.l 38], (some (.l 33, true))⟩,
 ⟨.l 40, .ld false 1, [.l 39], (some (.l 33, true))⟩,
 ⟨.l 41, .mv, [.v 5], (some (.l 33, true))⟩,
 ⟨.l 42, .bin .eql, [.l 40, .l 41], (some (.l 33, true))⟩,
 ⟨.v 10, .pick, [.l 33, .l 42, .con (.bool false)], none⟩]
noncomputable abbrev r53_5 : List RO := [
 ⟨.l 44, .mv, [.v 0], none⟩,
 ⟨.l 45, .mv, [.v 0], none⟩,
 ⟨.l 46, (.nck M.P), [.l 45], none⟩,
 ⟨.l 47, .fld 0, [.l 46], none⟩,
 ⟨.l 48, .ld false 1, [.l 47], none⟩,
 ⟨.l 49, .slcL 3 true false, [.l 48, .con (.int .i64 1)], none⟩,
 ⟨.l 50, (.nck M.P), [.l 44], none⟩,
 ⟨.l 51, .fld 0, [.l 50], none⟩,
 ⟨.none, .st 1, [.l 51, .l 49], none⟩]
noncomputable abbrev r53_6 : List RO := [
 ⟨.l 52, .mv, [.v 4], none⟩,
 ⟨.v 3, .mv, [.l 52], none⟩]
noncomputable abbrev r53_7 : List RO := [
 ⟨.l 53, .bin .add, [.v 8, .con (.int .i64 1)], none⟩,
 ⟨.v 8, .mv, [.l 53], none⟩]
noncomputable abbrev r53_8 : List RO := [
 ⟨.v 3, .mv, [(.con (.int .i64 (-1)))], none⟩]
theorem pe53 {n m : Nat} : (E53 n m).M = M := by unfold E53; rfl
theorem i53 {a0 a1 a2 : D} : St.init C53 [a0, a1, a2] ⟨[], []⟩ = ⟨[a0, a1, a2, .u0, .u0, .u0, .u0, .u0, .u0, .u0, .u0], [], ⟨[], []⟩⟩ := by unfold C53 E53; rfl
theorem ie53 {n m : Nat} {hp : Hp} {a0 a1 a2 : D} : St.init (E53 n m) [a0, a1, a2] hp = ⟨[a0, a1, a2, .u0, .u0, .u0, .u0, .u0, .u0, .u0, .u0], [], hp⟩ := by unfold E53; rfl
noncomputable def c53 : RC := (.seq (.reg r53_0) (.seq (.seq (.reg r53_1) (.block 0 (.loop (.seq (.reg r53_2) (.seq (.cond (.v 9) .skip (.exit 0)) (.seq (.block 1 (.seq (.reg r53_3) (.seq (.reg r53_4) (.cond (.v 10) (.seq (.reg r53_5) (.seq (.reg r53_6) .ret)) .skip)))) (.reg r53_7))))))) (.seq (.reg r53_8) .ret)))
noncomputable def q53 : List RR := [(.slot (.v 3))]
theorem z53 {n m : Nat} : zAc (E53 n m) (Tryd.f53.body.getD .skip) = some c53 := by kernel_rfl
theorem k53 : FnOk M 53 3 Tryd.f53 E53 c53 q53 := fnOk Tryd.func53
noncomputable def E54 (n m : Nat) : Cfg := ⟨M, [0, 2, 3, 5, 6, 7, 8, 24, 50, 58, 72, 73, 74], 95, n, m, []⟩
noncomputable abbrev r54_0 : List RO := [
 ⟨.v 1, (.newb [(.int .i64 0), (.int .i64 0), (.lit (.slice none 0 0))]), [], none⟩]
noncomputable abbrev r54_1 : List RO := [
 ⟨.l 9, .mv, [.v 0], none⟩,
 ⟨.l 10, (.nck M.P), [.l 9], none⟩,
 ⟨.l 11, .fld 0, [.l 10], none⟩,
 ⟨.l 12, .ld false 1, [.l 11], none⟩,
 ⟨.l 13, .lenL, [.l 12], none⟩,
 ⟨.l 14, .bin .gtr, [.l 13, .con (.int .i64 0)], none⟩,
 ⟨.l 15, .mv, [.l 14], none⟩,
 ⟨.l 16, .mv, [.v 0], (some (.l 15, true))⟩,
 ⟨.l 17, (.nck M.P), [.l 16], (some (.l 15, true))⟩,
 ⟨.l 18, .fld 0, [.l 17], (some (.l 15, true))⟩,
 ⟨.l 19, .ld false 1, [.l 18], (some (.l 15, true))⟩,
 ⟨.l 20, .ixaS 3, [.l 19, .con (.int .i64 0)], (some (.l 15, true))⟩,
 ⟨.l 21, .fld 0, [.l 20], (some (.l 15, true))⟩,
 ⟨.l 22, .ld false 1, [.l 21], (some (.l 15, true))⟩,
 ⟨.l 23, .bin .eql, [.l 22, .con (.int .i64 2)], (some (.l 15, true))⟩,
 ⟨.v 7, .pick, [.l 15, .l 23, .con (.bool false)], none⟩]
noncomputable abbrev r54_2 : List RO := [
 ⟨.l 26, .mv, [.v 0], none⟩,
 ⟨.l 27, (.nck M.P), [.l 26], none⟩,
 ⟨.l 28, .fld 0, [.l 27], none⟩,
 ⟨.l 29, .ld false 1, [.l 28], none⟩,
 ⟨.l 30, .ixaS 3, [.l 29, .con (.int .i64 0)], none⟩,
 ⟨.l 31, .fld 1, [.l 30], none⟩,
 ⟨.l 32, .ld false 1, [.l 31], none⟩,
 ⟨.l 33, .calls .fn, [(.con (.fn (.func 58) [] [])), .l 32], none⟩,
 ⟨.l 25, .mv, [.l 33], none⟩,
 ⟨.l 34, .ext 0, [.l 25], none⟩,
 ⟨.l 35, .ext 1, [.l 25], none⟩,
 ⟨.v 2, .mv, [.l 34], none⟩,
 ⟨.l 4, .mv, [.l 35], none⟩]
noncomputable abbrev r54_3 : List RO := [
 ⟨.l 36, .mv, [.v 0], none⟩,
 ⟨.l 37, .mv, [.v 0], none⟩,
 ⟨.l 38, (.nck M.P), [.l 37], none⟩,
 ⟨.l 39, .fld 0, [.l 38], none⟩,
 ⟨.l 40, .ld false 1, [.l 39], none⟩,
 ⟨.l 41, .slcL 3 true false, [.l 40, .con (.int .i64 1)], none⟩,
 ⟨.l 42, (.nck M.P), [.l 36], none⟩,
 ⟨.l 43, .fld 0, [.l 42], none⟩,
 ⟨.none, .st 1, [.l 43, .l 41], none⟩]
noncomputable abbrev r54_4 : List RO := [
 ⟨.l 44, .mv, [.v 2], none⟩,
 ⟨.l 45, (.bld [(.int .i64 0), (.int .i64 0), (.lit (.slice none 0 0))] [(0, 1), (1, 1)]), [.con (.int .i64 1), .l 44], none⟩,
 ⟨.none, .st 3, [.v 1, .l 45], none⟩]
noncomputable abbrev r54_5 : List RO := [
 ⟨.l 46, .mv, [.v 0], none⟩,
 ⟨.l 47, .bsl 1, [(.con (.str [107, 109])), (.con (.str [99, 121, 99, 108, 101, 115])), (.con (.str [108, 111, 97, 100]))], none⟩,
 ⟨.l 48, .calls .fn, [(.con (.fn (.func 53) [] [])), .l 46, .con (.int .i64 1), .l 47], none⟩,
 ⟨.v 3, .mv, [.l 48], none⟩]
noncomputable abbrev r54_6 : List RO := [
 ⟨.l 49, .mv, [.v 3], none⟩,
 ⟨.v 8, .bin .geq, [.l 49, .con (.int .i64 0)], none⟩]
noncomputable abbrev r54_7 : List RO := [
 ⟨.l 51, .mv, [.v 3], none⟩,
 ⟨.l 52, .bin .add, [.con (.int .i64 2), .l 51], none⟩,
 ⟨.l 53, (.bld [(.int .i64 0), (.int .i64 0), (.lit (.slice none 0 0))] [(0, 1)]), [.l 52], none⟩,
 ⟨.none, .st 3, [.v 1, .l 53], none⟩]
noncomputable abbrev r54_8 : List RO := [
 ⟨.l 54, .mv, [.v 0], none⟩,
 ⟨.l 55, .bsl 1, [(.con (.str [109, 105, 110])), (.con (.str [109, 97, 120])), (.con (.str [105, 102]))], none⟩,
 ⟨.l 56, .calls .fn, [(.con (.fn (.func 53) [] [])), .l 54, .con (.int .i64 1), .l 55], none⟩,
 ⟨.v 4, .mv, [.l 56], none⟩]
noncomputable abbrev r54_9 : List RO := [
 ⟨.l 57, .mv, [.v 4], none⟩,
 ⟨.v 9, .bin .geq, [.l 57, .con (.int .i64 0)], none⟩]
noncomputable abbrev r54_10 : List RO := [
 ⟨.l 59, .mv, [.v 4], none⟩,
 ⟨.l 60, .bin .add, [.con (.int .i64 9), .l 59], none⟩,
 ⟨.l 61, (.bld [(.int .i64 0), (.int .i64 0), (.lit (.slice none 0 0))] [(0, 1)]), [.l 60], none⟩,
 ⟨.v 5, (.newb [(.int .i64 0), (.int .i64 0), (.lit (.slice none 0 0))]), [], none⟩,
 ⟨.none, .st 3, [.v 5, .l 61], none⟩]
noncomputable abbrev r54_11 : List RO := [
 ⟨.l 62, .mv, [.v 0], none⟩,
 ⟨.l 63, .calls .fn, [(.con (.fn (.func 59) [] [])), .l 62, (.con (.str [40]))], none⟩]
noncomputable abbrev r54_12 : List (RO × Bool) := [
 (⟨.l 64, .fld 2, [.v 5], none⟩, true),
 (⟨.l 65, .ld false 1, [.l 64], none⟩, true),
 (⟨.l 66, .mv, [.v 0], none⟩, true),
 (⟨.l 67, .calls .fn, [(.con (.fn (.func 33) [] [])), .l 66], none⟩, true),
 (⟨.l 68, .bsl 3, [.l 67], none⟩, true)]
noncomputable abbrev r54_13 : List RO := [
 ⟨.l 69, .app 3 40 24, [.l 65, .l 68], none⟩,
 ⟨.l 70, .fld 2, [.v 5], none⟩,
 ⟨.none, .st 1, [.l 70, .l 69], none⟩]
noncomputable abbrev r54_14 : List RO := [
 ⟨.l 71, .mv, [.v 4], none⟩,
 ⟨.v 10, .maxI, [.con (.int .i64 1), .l 71], none⟩,
 ⟨.v 11, .mv, [.con (.int .i64 0)], none⟩]
noncomputable abbrev r54_15 : List RO := [
 ⟨.v 12, .bin .lss, [.v 11, .v 10], none⟩]
noncomputable abbrev r54_16 : List RO := [
 ⟨.l 75, .mv, [.v 0], none⟩,
 ⟨.l 76, .calls .fn, [(.con (.fn (.func 59) [] [])), .l 75, (.con (.str [44]))], none⟩]
noncomputable abbrev r54_17 : List (RO × Bool) := [
 (⟨.l 77, .fld 2, [.v 5], none⟩, true),
 (⟨.l 78, .ld false 1, [.l 77], none⟩, true),
 (⟨.l 79, .mv, [.v 0], none⟩, true),
 (⟨.l 80, .calls .fn, [(.con (.fn (.func 33) [] [])), .l 79], none⟩, true),
 (⟨.l 81, .bsl 3, [.l 80], none⟩, true)]
noncomputable abbrev r54_18 : List RO := [
 ⟨.l 82, .app 3 40 24, [.l 78, .l 81], none⟩,
 ⟨.l 83, .fld 2, [.v 5], none⟩,
 ⟨.none, .st 1, [.l 83, .l 82], none⟩]
noncomputable abbrev r54_19 : List RO := [
 ⟨.l 84, .bin .add, [.v 11, .con (.int .i64 1)], none⟩,
 ⟨.v 11, .mv, [.l 84], none⟩]
noncomputable abbrev r54_20 : List RO := [
 ⟨.l 85, .mv, [.v 0], none⟩,
 ⟨.l 86, .calls .fn, [(.con (.fn (.func 59) [] [])), .l 85, (.con (.str [41]))], none⟩]
noncomputable abbrev r54_21 : List RO := [
 ⟨.l 87, .ld true 3, [.v 5], none⟩,
 ⟨.none, .st 3, [.v 1, .l 87], none⟩]
noncomputable abbrev r54_22 : List RO := [
 ⟨.l 88, .mv, [.v 0], none⟩,
 ⟨.l 89, .calls .fn, [(.con (.fn (.func 59) [] [])), .l 88, (.con (.str [40]))], none⟩]
noncomputable abbrev r54_23 : List RO := [
 ⟨.l 90, .mv, [.v 0], none⟩,
 ⟨.l 91, .calls .fn, [(.con (.fn (.func 33) [] [])), .l 90], none⟩,
 ⟨.v 6, (.newb [(.int .i64 0), (.int .i64 0), (.lit (.slice none 0 0))]), [], none⟩,
 ⟨.none, .st 3, [.v 6, .l 91], none⟩]
noncomputable abbrev r54_24 : List RO := [
 ⟨.l 92, .mv, [.v 0], none⟩,
 ⟨.l 93, .calls .fn, [(.con (.fn (.func 59) [] [])), .l 92, (.con (.str [41]))], none⟩]
noncomputable abbrev r54_25 : List RO := [
 ⟨.l 94, .ld true 3, [.v 6], none⟩,
 ⟨.none, .st 3, [.v 1, .l 94], none⟩]
theorem pe54 {n m : Nat} : (E54 n m).M = M := by unfold E54; rfl
theorem ie54 {n m : Nat} {hp : Hp} {a0 : D} : St.init (E54 n m) [a0] hp = ⟨[a0, .u0, .u0, .u0, .u0, .u0, .u0, .u0, .u0, .u0, .u0, .u0, .u0], [], hp⟩ := by unfold E54; rfl
noncomputable def c54 : RC := (.seq (.reg r54_0) (.seq (.seq (.reg r54_1) (.cond (.v 7) (.seq (.reg r54_2) (.seq (.reg r54_3) (.seq (.reg r54_4) .ret))) .skip)) (.seq (.seq (.reg r54_5) (.seq (.reg r54_6) (.cond (.v 8) (.seq (.reg r54_7) .ret) .skip))) (.seq (.seq (.reg r54_8) (.seq (.reg r54_9) (.cond (.v 9) (.seq (.reg r54_10) (.seq (.reg r54_11) (.seq (.regD r54_12 r54_13) (.seq (.seq (.reg r54_14) (.block 0 (.loop (.seq (.reg r54_15) (.seq (.cond (.v 12) .skip (.exit 0)) (.seq (.block 1 (.seq (.reg r54_16) (.regD r54_17 r54_18))) (.reg r54_19))))))) (.seq (.reg r54_20) (.seq (.reg r54_21) .ret)))))) .skip))) (.seq (.reg r54_22) (.seq (.reg r54_23) (.seq (.reg r54_24) (.seq (.reg r54_25) .ret))))))))
noncomputable def q54 : List RR := [(.cell (.v 1) true 3)]
theorem z54 {n m : Nat} : zAc (E54 n m) (Tryd.f54.body.getD .skip) = some c54 := by kernel_rfl
theorem k54 : FnOk M 54 1 Tryd.f54 E54 c54 q54 := fnOk Tryd.func54
noncomputable def E59 (n m : Nat) : Cfg := ⟨M, [0, 1, 8], 11, n, m, []⟩
noncomputable abbrev r59_0 : List RO := [
 ⟨.l 4, .mv, [.v 0], none⟩,
 ⟨.l 5, .mv, [.v 1], none⟩,
 ⟨.l 6, .bsl 1, [.l 5], none⟩,
 ⟨.l 7, .calls .fn, [(.con (.fn (.func 53) [] [])), .l 4, .con (.int .i64 4), .l 6], none⟩,
 ⟨.v 2, .bin .lss, [.l 7, .con (.int .i64 0)], none⟩]
noncomputable abbrev r59_1 : List RO := [
 ⟨.l 9, .mv, [.v 0], none⟩,
 ⟨.l 10, .calls .fn, [(.con (.fn (.func 34) [] [])), .l 9], none⟩]
theorem pe59 {n m : Nat} : (E59 n m).M = M := by unfold E59; rfl
theorem ie59 {n m : Nat} {hp : Hp} {a0 a1 : D} : St.init (E59 n m) [a0, a1] hp = ⟨[a0, a1, .u0], [], hp⟩ := by unfold E59; rfl
noncomputable def c59 : RC := (.seq (.reg r59_0) (.cond (.v 2) (.reg r59_1) .skip))
noncomputable def q59 : List RR := []
theorem z59 {n m : Nat} : zAc (E59 n m) (Tryd.f59.body.getD .skip) = some c59 := by kernel_rfl
theorem k59 : FnOk M 59 2 Tryd.f59 E59 c59 q59 := fnOk Tryd.func59
noncomputable def E13 (n m : Nat) : Cfg := ⟨M, [0, 2, 3, 4, 5, 6, 7, 8, 16, 33, 38], 41, n, m, []⟩
noncomputable abbrev r13_0 : List RO := [
 ⟨.v 1, (.newb [(.int .i64 0), (.int .i64 0), (.lit (.slice none 0 0))]), [], none⟩,
 ⟨.v 2, (.newb [(.int .i64 0)]), [], none⟩,
 ⟨.v 3, (.newb [(.int .i64 0)]), [], none⟩]
noncomputable abbrev r13_1 : List RO := [
 ⟨.l 10, .mv, [.v 0], none⟩,
 ⟨.l 11, .calls .fn, [(.con (.fn (.func 27) [] [])), .l 10], none⟩,
 ⟨.l 9, .mv, [.l 11], none⟩,
 ⟨.l 12, .ext 0, [.l 9], none⟩,
 ⟨.l 13, .ext 1, [.l 9], none⟩,
 ⟨.l 14, .ext 2, [.l 9], none⟩,
 ⟨.v 4, .mv, [.l 12], none⟩,
 ⟨.v 5, .mv, [.l 13], none⟩,
 ⟨.v 6, .mv, [.l 14], none⟩]
noncomputable abbrev r13_2 : List RO := [
 ⟨.l 15, .mv, [.v 5], none⟩,
 ⟨.v 8, .bin .neq, [.l 15, .con (.int .i64 0)], none⟩]
noncomputable abbrev r13_3 : List RO := [
 ⟨.l 17, (.bld [(.int .i64 0), (.int .i64 0), (.lit (.slice none 0 0))] []), [], none⟩,
 ⟨.l 18, .mv, [.v 5], none⟩,
 ⟨.l 19, .mv, [.v 6], none⟩,
 ⟨.none, .st 3, [.v 1, .l 17], none⟩,
 ⟨.none, .st 1, [.v 2, .l 18], none⟩,
 ⟨.none, .st 1, [.v 3, .l 19], none⟩]
noncomputable abbrev r13_4 : List RO := [
 ⟨.l 21, .mv, [.v 4], none⟩,
 ⟨.l 22, .mv, [.v 0], none⟩,
 ⟨.l 23, .lenS, [.l 22], none⟩,
 ⟨.l 24, (.bld [(.lit (.slice none 0 0)), (.int .i64 0)] [(0, 1), (1, 1)]), [.l 21, .l 23], none⟩,
 ⟨.l 25, .box, [.l 24], none⟩,
 ⟨.v 7, .mv, [.l 25], none⟩]
noncomputable abbrev r13_5 : List RO := [
 ⟨.l 26, .mv, [.v 7], none⟩,
 ⟨.l 27, .calls .fn, [(.con (.fn (.func 33) [] [])), .l 26], none⟩,
 ⟨.none, .st 3, [.v 1, .l 27], none⟩]
noncomputable abbrev r13_6 : List RO := [
 ⟨.l 28, .mv, [.v 7], none⟩,
 ⟨.l 29, (.nck M.P), [.l 28], none⟩,
 ⟨.l 30, .fld 0, [.l 29], none⟩,
 ⟨.l 31, .ld false 1, [.l 30], none⟩,
 ⟨.l 32, .lenL, [.l 31], none⟩,
 ⟨.v 9, .bin .gtr, [.l 32, .con (.int .i64 0)], none⟩]
noncomputable abbrev r13_7 : List RO := [
 ⟨.l 34, .mv, [.v 7], none⟩,
 ⟨.l 35, .calls .fn, [(.con (.fn (.func 34) [] [])), .l 34], none⟩]
noncomputable abbrev r13_8 : List RO := [
 ⟨.l 36, .ld true 3, [.v 1], none⟩,
 ⟨.l 37, .calls .fn, [(.con (.fn (.func 30) [] [])), .l 36, .con (.int .i64 60)], none⟩,
 ⟨.v 10, .bin .gtr, [.l 37, .con (.int .i64 60)], none⟩]
noncomputable abbrev r13_9 : List RO := [
 ⟨.l 39, (.bld [(.int .i64 0), (.int .i64 0), (.lit (.slice none 0 0))] []), [], none⟩,
 ⟨.none, .st 3, [.v 1, .l 39], none⟩,
 ⟨.none, .st 1, [.v 2, .con (.int .i64 7)], none⟩,
 ⟨.none, .st 1, [.v 3, .con (.int .i64 0)], none⟩]
noncomputable abbrev r13_10 : List RO := [
 ⟨.l 40, .ld true 3, [.v 1], none⟩,
 ⟨.none, .st 3, [.v 1, .l 40], none⟩,
 ⟨.none, .st 1, [.v 2, .con (.int .i64 0)], none⟩,
 ⟨.none, .st 1, [.v 3, .con (.int .i64 0)], none⟩]
theorem pe13 {n m : Nat} : (E13 n m).M = M := by unfold E13; rfl
theorem ie13 {n m : Nat} {hp : Hp} {a0 : D} : St.init (E13 n m) [a0] hp = ⟨[a0, .u0, .u0, .u0, .u0, .u0, .u0, .u0, .u0, .u0, .u0], [], hp⟩ := by unfold E13; rfl
noncomputable def q13 : List RR := [(.cell (.v 1) true 3), (.cell (.v 2) false 1), (.cell (.v 3) false 1)]
noncomputable def E32 (n m : Nat) : Cfg := ⟨M, [0, 1, 2, 3, 4, 7], 15, n, m, []⟩
noncomputable def C32 : Cfg := E32 0 0
noncomputable abbrev r32_0 : List (RO × Bool) := [
 (⟨.l 10, (.bld [(.int .i64 0), (.int .i64 0), (.lit (.slice none 0 0))] []), [], none⟩, true),
 (⟨.l 11, .fld 0, [.v 4], none⟩, true),
 (⟨.l 12, .ld false 1, [.l 11], none⟩, true),
 (⟨.l 13, .fld 1, [.v 4], none⟩, true),
 (⟨.l 14, .ld false 1, [.l 13], none⟩, true),
 (⟨.none, .st 3, [.v 0, .l 10], none⟩, true),
 (⟨.none, .st 1, [.v 1, .l 12], none⟩, true)]
noncomputable abbrev r32_1 : List RO := [
 ⟨.none, .st 1, [.v 2, .l 14], none⟩]
theorem i32 {a0 a1 a2 : D} : St.init C32 [a0, a1, a2] ⟨[], []⟩ = ⟨[a0, a1, a2, .u0, .u0, .u0], [], ⟨[], []⟩⟩ := by unfold C32 E32; rfl
theorem ie32 {n m : Nat} {hp : Hp} {a0 a1 a2 : D} : St.init (E32 n m) [a0, a1, a2] hp = ⟨[a0, a1, a2, .u0, .u0, .u0], [], hp⟩ := by unfold E32; rfl
noncomputable def E9 (n m : Nat) : Cfg := ⟨M, [0, 1, 2, 4, 5, 7, 8, 9], 64, n, m, []⟩
noncomputable def C9 : Cfg := E9 0 0
noncomputable abbrev r9_0 : List RO := [
 ⟨.v 0, .mv, [.con (.bool false)], none⟩]
noncomputable abbrev r9_1 : List RO := [
 ⟨.l 11, .calls .fn, [(.con (.fn (.func 13) [] [])), (.con (.str [107, 109, 32, 43, 32, 99, 121, 99, 108, 101, 115, 32, 42, 32, 109, 97, 120, 40, 108, 111, 97, 100, 32, 45, 32, 50, 48, 48, 44, 32, 48, 41, 32, 47, 32, 49, 48, 48]))], none⟩,
 ⟨.l 10, .mv, [.l 11], none⟩,
 ⟨.l 12, .ext 0, [.l 10], none⟩,
 ⟨.l 13, .ext 1, [.l 10], none⟩,
 ⟨.l 14, .ext 2, [.l 10], none⟩,
 ⟨.v 1, (.newb [(.int .i64 0), (.int .i64 0), (.lit (.slice none 0 0))]), [], none⟩,
 ⟨.none, .st 3, [.v 1, .l 12], none⟩,
 ⟨.v 2, .mv, [.l 13], none⟩,
 ⟨.l 3, .mv, [.l 14], none⟩]
noncomputable abbrev r9_2 : List RO := [
 ⟨.l 16, .calls .fn, [(.con (.fn (.func 13) [] [])), (.con (.str [105, 102, 40, 108, 111, 97, 100, 32, 45, 32, 49, 48, 44, 32, 107, 109, 44, 32, 48, 41]))], none⟩,
 ⟨.l 15, .mv, [.l 16], none⟩,
 ⟨.l 17, .ext 0, [.l 15], none⟩,
 ⟨.l 18, .ext 1, [.l 15], none⟩,
 ⟨.l 19, .ext 2, [.l 15], none⟩,
 ⟨.v 3, (.newb [(.int .i64 0), (.int .i64 0), (.lit (.slice none 0 0))]), [], none⟩,
 ⟨.none, .st 3, [.v 3, .l 17], none⟩,
 ⟨.v 4, .mv, [.l 18], none⟩,
 ⟨.l 6, .mv, [.l 19], none⟩]
noncomputable abbrev r9_3 : List RO := [
 ⟨.l 21, .ld true 3, [.v 1], none⟩,
 ⟨.l 22, .calls .fn, [(.con (.fn (.func 11) [] [])), .l 21], none⟩,
 ⟨.l 20, .mv, [.l 22], none⟩,
 ⟨.l 23, .ext 0, [.l 20], none⟩,
 ⟨.l 24, .ext 1, [.l 20], none⟩,
 ⟨.v 5, .mv, [.l 23], none⟩,
 ⟨.v 6, .mv, [.l 24], none⟩]
noncomputable abbrev r9_4 : List RO := [
 ⟨.l 25, .mv, [.v 2], none⟩,
 ⟨.l 26, .bin .eql, [.l 25, .con (.int .i64 0)], none⟩,
 ⟨.l 27, .mv, [.l 26], none⟩,
 ⟨.l 28, .mv, [.v 4], (some (.l 27, true))⟩,
 ⟨.l 29, .bin .eql, [.l 28, .con (.int .i64 0)], (some (.l 27, true))⟩,
 ⟨.l 30, .pick, [.l 27, .l 29, .con (.bool false)], none⟩,
 ⟨.l 31, .mv, [.l 30], none⟩,
 ⟨.l 32, .mv, [.v 6], (some (.l 31, true))⟩,
 ⟨.l 33, .bin .eql, [.l 32, .con (.int .i64 0)], (some (.l 31, true))⟩,
 ⟨.l 34, .pick, [.l 31, .l 33, .con (.bool false)], none⟩,
 ⟨.l 35, .mv, [.l 34], none⟩,
 ⟨.l 36, .mv, [.v 5], (some (.l 35, true))⟩,
 ⟨.l 37, .bin .eql, [.l 36, (.con (.str [107, 109, 32, 43, 32, 99, 121, 99, 108, 101, 115, 32, 42, 32, 109, 97, 120, 40, 108, 111, 97, 100, 32, 45, 32, 50, 48, 48, 44, 32, 48, 41, 32, 47, 32, 49, 48, 48]))], (some (.l 35, true))⟩,
 ⟨.l 38, .pick, [.l 35, .l 37, .con (.bool false)], none⟩,
 ⟨.l 39, .mv, [.l 38], none⟩,
 ⟨.l 40, .ld true 3, [.v 1], (some (.l 39, true))⟩,
 ⟨.l 41, .calls .fn, [(.con (.fn (.func 18) [] [])), .l 40, .con (.int .i64 1000), .con (.int .i64 3), .con (.int .i64 500)], (some (.l 39, true))⟩,
 ⟨.l 42, .bin .eql, [.l 41, .con (.int .i64 1009)], (some (.l 39, true))⟩,
 ⟨.l 43, .pick, [.l 39, .l 42, .con (.bool false)], none⟩,
 ⟨.v 7, .mv, [.l 43], none⟩]
noncomputable abbrev r9_5 : List (RO × Bool) := [
 (⟨.l 44, .mv, [.v 7], none⟩, true),
 (⟨.l 45, .mv, [.l 44], none⟩, true),
 (⟨.l 46, .ld true 3, [.v 1], (some (.l 45, true))⟩, true),
 (⟨.l 47, .calls .fn, [(.con (.fn (.func 21) [] [])), .con (.int .i64 1000), .con (.int .i64 1000)], (some (.l 45, true))⟩, true),
 (⟨.l 48, .calls .fn, [(.con (.fn (.func 21) [] [])), .con (.int .i64 3), .con (.int .i64 4)], (some (.l 45, true))⟩, true),
 (⟨.l 49, .calls .fn, [(.con (.fn (.func 21) [] [])), .con (.int .i64 150), .con (.int .i64 500)], (some (.l 45, true))⟩, true),
 (⟨.l 50, (.bld [(.int .i64 0), (.int .i64 0), (.int .i64 0), (.int .i64 0), (.int .i64 0), (.int .i64 0)] [(0, 2), (2, 2), (4, 2)]), [.l 47, .l 48, .l 49], (some (.l 45, true))⟩, true),
 (⟨.l 51, .calls .fn, [(.con (.fn (.func 17) [] [])), .l 46, .l 50], (some (.l 45, true))⟩, false),
 (⟨.l 52, .calls .fn, [(.con (.fn (.func 21) [] [])), .con (.int .i64 1000), .con (.int .i64 1012)], (some (.l 45, true))⟩, false),
 (⟨.l 53, (.eqA false [.int, .int]), [.l 51, .l 52], (some (.l 45, true))⟩, true),
 (⟨.l 54, .pick, [.l 45, .l 53, .con (.bool false)], none⟩, true),
 (⟨.l 55, .mv, [.l 54], none⟩, true),
 (⟨.l 56, .ld true 3, [.v 3], (some (.l 55, true))⟩, true),
 (⟨.l 57, .calls .fn, [(.con (.fn (.func 21) [] [])), .con (.int .i64 7), .con (.int .i64 7)], (some (.l 55, true))⟩, true),
 (⟨.l 58, .calls .fn, [(.con (.fn (.func 21) [] [])), .con (.int .i64 5), .con (.int .i64 20)], (some (.l 55, true))⟩, true),
 (⟨.l 59, (.bld [(.int .i64 0), (.int .i64 0), (.int .i64 0), (.int .i64 0), (.int .i64 0), (.int .i64 0)] [(0, 2), (4, 2)]), [.l 57, .l 58], (some (.l 55, true))⟩, true)]
noncomputable abbrev r9_6 : List RO := [
 ⟨.l 60, .calls .fn, [(.con (.fn (.func 17) [] [])), .l 56, .l 59], (some (.l 55, true))⟩,
 ⟨.l 61, .calls .fn, [(.con (.fn (.func 21) [] [])), .con (.int .i64 0), .con (.int .i64 7)], (some (.l 55, true))⟩,
 ⟨.l 62, (.eqA false [.int, .int]), [.l 60, .l 61], (some (.l 55, true))⟩,
 ⟨.l 63, .pick, [.l 55, .l 62, .con (.bool false)], none⟩,
 ⟨.v 0, .mv, [.l 63], none⟩]
theorem P9 : C9.M = M := by unfold C9 E9; rfl
theorem i9 : St.init C9 [] ⟨[], []⟩ = ⟨[.u0, .u0, .u0, .u0, .u0, .u0, .u0, .u0], [], ⟨[], []⟩⟩ := by unfold C9 E9; rfl
noncomputable def c9 : RC := (.seq (.reg r9_0) (.seq (.reg r9_1) (.seq (.reg r9_2) (.seq (.reg r9_3) (.seq (.reg r9_4) (.seq (.regD r9_5 r9_6) .ret))))))
noncomputable def q9 : List RR := [(.slot (.v 0))]
theorem z9 {n m : Nat} : zAc (E9 n m) (Tryd.f9.body.getD .skip) = some c9 := by kernel_rfl
theorem k9 : FnOk M 9 0 Tryd.f9 E9 c9 q9 := fnOk Tryd.func9
noncomputable def E8 (n m : Nat) : Cfg := ⟨M, [0, 2, 3, 4, 5, 7, 8, 10, 11, 12, 13, 14, 16, 17, 22, 37, 47, 60, 89], 109, n, m, []⟩
noncomputable def C8 : Cfg := E8 0 0
noncomputable abbrev r8_0 : List RO := [
 ⟨.v 1, .mv, [.con (.bool false)], none⟩]
noncomputable abbrev r8_1 : List RO := [
 ⟨.l 19, .calls .fn, [(.con (.fn (.func 9) [] []))], none⟩,
 ⟨.v 2, .mv, [.l 19], none⟩]
noncomputable abbrev r8_2 : List RO := [
 ⟨.l 20, .mv, [.v 0], none⟩,
 ⟨.l 21, .lenS, [.l 20], none⟩,
 ⟨.v 14, .bin .gtr, [.l 21, .con (.int .i64 1500)], none⟩]
noncomputable abbrev r8_3 : List RO := [
 ⟨.l 23, .mv, [.v 2], none⟩,
 ⟨.v 1, .mv, [.l 23], none⟩]
noncomputable abbrev r8_4 : List RO := [
 ⟨.l 25, .mv, [.v 0], none⟩,
 ⟨.l 26, .calls .fn, [(.con (.fn (.func 27) [] [])), .l 25], none⟩,
 ⟨.l 24, .mv, [.l 26], none⟩,
 ⟨.l 27, .ext 0, [.l 24], none⟩,
 ⟨.l 28, .ext 1, [.l 24], none⟩,
 ⟨.l 29, .ext 2, [.l 24], none⟩,
 ⟨.v 3, .mv, [.l 27], none⟩,
 ⟨.v 4, .mv, [.l 28], none⟩,
 ⟨.l 6, .mv, [.l 29], none⟩]
noncomputable abbrev r8_5 : List RO := [
 ⟨.l 31, .mv, [.v 0], none⟩,
 ⟨.l 32, .calls .fn, [(.con (.fn (.func 13) [] [])), .l 31], none⟩,
 ⟨.l 30, .mv, [.l 32], none⟩,
 ⟨.l 33, .ext 0, [.l 30], none⟩,
 ⟨.l 34, .ext 1, [.l 30], none⟩,
 ⟨.l 35, .ext 2, [.l 30], none⟩,
 ⟨.v 5, (.newb [(.int .i64 0), (.int .i64 0), (.lit (.slice none 0 0))]), [], none⟩,
 ⟨.none, .st 3, [.v 5, .l 33], none⟩,
 ⟨.v 6, .mv, [.l 34], none⟩,
 ⟨.l 9, .mv, [.l 35], none⟩]
noncomputable abbrev r8_6 : List RO := [
 ⟨.l 36, .mv, [.v 4], none⟩,
 ⟨.v 15, .bin .neq, [.l 36, .con (.int .i64 0)], none⟩]
noncomputable abbrev r8_7 : List RO := [
 ⟨.l 38, .mv, [.v 2], none⟩,
 ⟨.l 39, .mv, [.l 38], none⟩,
 ⟨.l 40, .mv, [.v 6], (some (.l 39, true))⟩,
 ⟨.l 41, .mv, [.v 4], (some (.l 39, true))⟩,
 ⟨.l 42, .bin .eql, [.l 40, .l 41], (some (.l 39, true))⟩,
 ⟨.l 43, .pick, [.l 39, .l 42, .con (.bool false)], none⟩,
 ⟨.v 1, .mv, [.l 43], none⟩]
noncomputable abbrev r8_8 : List RO := [
 ⟨.v 7, .mv, [(.con (.str []))], none⟩]
noncomputable abbrev r8_9 : List RO := [
 ⟨.v 8, .mv, [.con (.int .i64 0)], none⟩]
noncomputable abbrev r8_10 : List RO := [
 ⟨.l 44, .mv, [.v 8], none⟩,
 ⟨.l 45, .mv, [.v 3], none⟩,
 ⟨.l 46, .lenL, [.l 45], none⟩,
 ⟨.v 16, .bin .lss, [.l 44, .l 46], none⟩]
noncomputable abbrev r8_11 : List RO := [
 ⟨.l 50, .mv, [.v 3], none⟩,
 ⟨.l 51, .mv, [.v 8], none⟩,
 ⟨.l 52, .ixaS 3, [.l 50, .l 51], none⟩,
 ⟨.l 53, .fld 1, [.l 52], none⟩,
 ⟨.l 54, .ld false 1, [.l 53], none⟩,
 ⟨.v 9, .mv, [.l 54], none⟩]
noncomputable abbrev r8_12 : List RO := [
 ⟨.l 55, .mv, [.v 3], none⟩,
 ⟨.l 56, .mv, [.v 8], none⟩,
 ⟨.l 57, .ixaS 3, [.l 55, .l 56], none⟩,
 ⟨.l 58, .fld 0, [.l 57], none⟩,
 ⟨.l 59, .ld false 1, [.l 58], none⟩,
 ⟨.v 17, .bin .eql, [.l 59, .con (.int .i64 3)], none⟩]
noncomputable abbrev r8_13 : List RO := [
 ⟨.l 61, .mv, [.v 9], none⟩,
 ⟨.l 62, .calls .fn, [(.con (.fn (.func 28) [] [])), .l 61], none⟩,
 ⟨.v 9, .mv, [.l 62], none⟩]
noncomputable abbrev r8_14 : List RO := [
 ⟨.l 63, .mv, [.v 7], none⟩,
 ⟨.l 64, .mv, [.v 9], none⟩,
 ⟨.l 65, .bin .add, [.l 64, (.con (.str [10]))], none⟩,
 ⟨.l 66, .bin .add, [.l 63, .l 65], none⟩,
 ⟨.v 7, .mv, [.l 66], none⟩]
noncomputable abbrev r8_15 : List RO := [
 ⟨.l 48, .mv, [.v 8], none⟩,
 ⟨.l 49, .bin .add, [.l 48, .con (.int .i64 1)], none⟩,
 ⟨.v 8, .mv, [.l 49], none⟩]
noncomputable abbrev r8_16 : List RO := [
 ⟨.l 68, .mv, [.v 7], none⟩,
 ⟨.l 69, .calls .fn, [(.con (.fn (.func 13) [] [])), .l 68], none⟩,
 ⟨.l 67, .mv, [.l 69], none⟩,
 ⟨.l 70, .ext 0, [.l 67], none⟩,
 ⟨.l 71, .ext 1, [.l 67], none⟩,
 ⟨.l 72, .ext 2, [.l 67], none⟩,
 ⟨.v 10, (.newb [(.int .i64 0), (.int .i64 0), (.lit (.slice none 0 0))]), [], none⟩,
 ⟨.none, .st 3, [.v 10, .l 70], none⟩,
 ⟨.v 11, .mv, [.l 71], none⟩,
 ⟨.l 15, .mv, [.l 72], none⟩]
noncomputable abbrev r8_17 : List RO := [
 ⟨.l 74, .mv, [.v 7], none⟩,
 ⟨.l 75, .bin .add, [(.con (.str [40])), .l 74], none⟩,
 ⟨.l 76, .bin .add, [.l 75, (.con (.str [41]))], none⟩,
 ⟨.l 77, .calls .fn, [(.con (.fn (.func 13) [] [])), .l 76], none⟩,
 ⟨.l 73, .mv, [.l 77], none⟩,
 ⟨.l 78, .ext 0, [.l 73], none⟩,
 ⟨.l 79, .ext 1, [.l 73], none⟩,
 ⟨.l 80, .ext 2, [.l 73], none⟩,
 ⟨.v 12, (.newb [(.int .i64 0), (.int .i64 0), (.lit (.slice none 0 0))]), [], none⟩,
 ⟨.none, .st 3, [.v 12, .l 78], none⟩,
 ⟨.v 13, .mv, [.l 79], none⟩,
 ⟨.l 18, .mv, [.l 80], none⟩]
noncomputable abbrev r8_18 : List RO := [
 ⟨.l 81, .mv, [.v 6], none⟩,
 ⟨.l 82, .mv, [.v 11], none⟩,
 ⟨.l 83, .bin .neq, [.l 81, .l 82], none⟩,
 ⟨.l 84, .mv, [.l 83], none⟩,
 ⟨.l 85, .ld true 3, [.v 5], (some (.l 84, false))⟩,
 ⟨.l 86, .ld true 3, [.v 10], (some (.l 84, false))⟩,
 ⟨.l 87, .calls .fn, [(.con (.fn (.func 14) [] [])), .l 85, .l 86], (some (.l 84, false))⟩,
 ⟨.l 88, .un .not, [.l 87], (some (.l 84, false))⟩,
 ⟨.v 18, .pick, [.l 84, .con (.bool true), .l 88], none⟩]
noncomputable abbrev r8_19 : List RO := [
 ⟨.v 1, .mv, [.con (.bool false)], none⟩]
noncomputable abbrev r8_20 : List RO := [
 ⟨.l 90, .mv, [.v 2], none⟩,
 ⟨.l 91, .mv, [.l 90], none⟩,
 ⟨.l 92, .mv, [.v 6], (some (.l 91, true))⟩,
 ⟨.l 93, .bin .neq, [.l 92, .con (.int .i64 0)], (some (.l 91, true))⟩,
 ⟨.l 94, .mv, [.l 93], (some (.l 91, true))⟩,
 ⟨.l 95, .mv, [.v 6], (some (.l 94, true))⟩,
 ⟨.l 96, .bin .neq, [.l 95, .con (.int .i64 7)], (some (.l 94, true))⟩,
 ⟨.l 97, .pick, [.l 94, .l 96, .con (.bool false)], (some (.l 91, true))⟩,
 ⟨.l 98, .mv, [.l 97], (some (.l 91, true))⟩,
 ⟨.l 99, .mv, [.v 13], (some (.l 98, false))⟩,
 ⟨.l 100, .mv, [.v 6], (some (.l 98, false))⟩,
 ⟨.l 101, .bin .eql, [.l 99, .l 100], (some (.l 98, false))⟩,
 ⟨.l 102, .mv, [.l 101], (some (.l 98, false))⟩,
 ⟨.l 103, .ld true 3, [.v 5], (some (.l 102, true))⟩,
 ⟨.l 104, .ld true 3, [.v 12], (some (.l 102, true))⟩,
 ⟨.l 105, .calls .fn, [(.con (.fn (.func 14) [] [])), .l 103, .l 104], (some (.l 102, true))⟩,
 ⟨.l 106, .pick, [.l 102, .l 105, .con (.bool false)], (some (.l 98, false))⟩,
 ⟨.l 107, .pick, [.l 98, .con (.bool true), .l 106], (some (.l 91, true))⟩,
 ⟨.l 108, .pick, [.l 91, .l 107, .con (.bool false)], none⟩,
 ⟨.v 1, .mv, [.l 108], none⟩]
theorem P8 : C8.M = M := by unfold C8 E8; rfl
theorem i8 {a0 : D} : St.init C8 [a0] ⟨[], []⟩ = ⟨[a0, .u0, .u0, .u0, .u0, .u0, .u0, .u0, .u0, .u0, .u0, .u0, .u0, .u0, .u0, .u0, .u0, .u0, .u0], [], ⟨[], []⟩⟩ := by unfold C8 E8; rfl
noncomputable def c8 : RC := (.seq (.reg r8_0) (.seq (.reg r8_1) (.seq (.seq (.reg r8_2) (.cond (.v 14) (.seq (.reg r8_3) .ret) .skip)) (.seq (.reg r8_4) (.seq (.reg r8_5) (.seq (.seq (.reg r8_6) (.cond (.v 15) (.seq (.reg r8_7) .ret) .skip)) (.seq (.reg r8_8) (.seq (.seq (.reg r8_9) (.block 0 (.loop (.seq (.seq (.reg r8_10) (.cond (.v 16) .skip (.exit 0))) (.seq (.block 1 (.seq (.reg r8_11) (.seq (.seq (.reg r8_12) (.cond (.v 17) (.reg r8_13) .skip)) (.reg r8_14)))) (.reg r8_15)))))) (.seq (.reg r8_16) (.seq (.reg r8_17) (.seq (.seq (.reg r8_18) (.cond (.v 18) (.seq (.reg r8_19) .ret) .skip)) (.seq (.reg r8_20) .ret))))))))))))
noncomputable def q8 : List RR := [(.slot (.v 1))]
theorem k8 : FnOk M 8 1 Tryd.f8 E8 c8 q8 := fnOk Tryd.func8
noncomputable def E11 (n m : Nat) : Cfg := ⟨M, [0, 1, 2, 3, 6], 9, n, m, []⟩
noncomputable def C11 : Cfg := E11 0 0
noncomputable abbrev r11_0 : List RO := [
 ⟨.v 1, .box, [.v 0], none⟩,
 ⟨.v 2, .mv, [(.con (.str []))], none⟩,
 ⟨.v 3, .mv, [.con (.int .i64 0)], none⟩]
noncomputable abbrev r11_1 : List RO := [
 ⟨.l 4, .ld true 3, [.v 1], none⟩,
 ⟨.l 5, .calls .fn, [(.con (.fn (.func 12) [] [])), .l 4], none⟩,
 ⟨.v 4, .un .not, [.l 5], none⟩]
noncomputable abbrev r11_2 : List RO := [
 ⟨.v 2, .mv, [(.con (.str []))], none⟩,
 ⟨.v 3, .mv, [.con (.int .i64 1)], none⟩]
noncomputable abbrev r11_3 : List RO := [
 ⟨.l 7, .ld true 3, [.v 1], none⟩,
 ⟨.l 8, .calls .fn, [(.con (.fn (.func 29) [] [])), .l 7, .con (.int .i64 0)], none⟩,
 ⟨.v 2, .mv, [.l 8], none⟩,
 ⟨.v 3, .mv, [.con (.int .i64 0)], none⟩]
theorem P11 : C11.M = M := by unfold C11 E11; rfl
theorem i11 {a0 : D} : St.init C11 [a0] ⟨[], []⟩ = ⟨[a0, .u0, .u0, .u0, .u0], [], ⟨[], []⟩⟩ := by unfold C11 E11; rfl
noncomputable def c11 : RC := (.seq (.reg r11_0) (.seq (.seq (.reg r11_1) (.cond (.v 4) (.seq (.reg r11_2) .ret) .skip)) (.seq (.reg r11_3) .ret)))
noncomputable def q11 : List RR := [(.slot (.v 2)), (.slot (.v 3))]
theorem k11 : FnOk M 11 1 Tryd.f11 E11 c11 q11 := fnOk Tryd.func11
noncomputable def E29 (n m : Nat) : Cfg := ⟨M, [0, 1, 2, 4, 5, 6, 7, 9, 37, 42, 44, 46, 48, 64, 80, 107], 112, n, m, []⟩
noncomputable def C29 : Cfg := E29 0 0
noncomputable abbrev r29_0 : List RO := [
 ⟨.v 2, .box, [.v 0], none⟩,
 ⟨.v 3, .mv, [(.con (.str []))], none⟩]
noncomputable abbrev r29_1 : List RO := [
 ⟨.v 4, .mv, [(.con (.str []))], none⟩]
noncomputable abbrev r29_2 : List RO := [
 ⟨.l 8, .fld 0, [.v 2], none⟩,
 ⟨.v 7, .ld false 1, [.l 8], none⟩]
noncomputable abbrev r29_3 : List RO := [
 ⟨.l 38, .bin .eql, [.v 7, .con (.int .i64 1)], none⟩,
 ⟨.v 8, .mv, [.l 38], none⟩]
noncomputable abbrev r29_4 : List RO := [
 ⟨.l 39, .fld 1, [.v 2], none⟩,
 ⟨.l 40, .ld false 1, [.l 39], none⟩,
 ⟨.l 41, .calls .fn, [(.con (.fn (.func 43) [] [])), .l 40], none⟩,
 ⟨.v 4, .mv, [.l 41], none⟩]
noncomputable abbrev r29_5 : List RO := [
 ⟨.l 43, .bin .eql, [.v 7, .con (.int .i64 2)], none⟩,
 ⟨.v 9, .mv, [.l 43], none⟩]
noncomputable abbrev r29_6 : List RO := [
 ⟨.v 4, .mv, [(.con (.str [107, 109]))], none⟩]
noncomputable abbrev r29_7 : List RO := [
 ⟨.l 45, .bin .eql, [.v 7, .con (.int .i64 3)], none⟩,
 ⟨.v 10, .mv, [.l 45], none⟩]
noncomputable abbrev r29_8 : List RO := [
 ⟨.v 4, .mv, [(.con (.str [99, 121, 99, 108, 101, 115]))], none⟩]
noncomputable abbrev r29_9 : List RO := [
 ⟨.l 47, .bin .eql, [.v 7, .con (.int .i64 4)], none⟩,
 ⟨.v 11, .mv, [.l 47], none⟩]
noncomputable abbrev r29_10 : List RO := [
 ⟨.v 4, .mv, [(.con (.str [108, 111, 97, 100]))], none⟩]
noncomputable abbrev r29_11 : List RO := [
 ⟨.l 49, .bin .eql, [.v 7, .con (.int .i64 9)], none⟩,
 ⟨.v 12, .mv, [.l 49], none⟩]
noncomputable abbrev r29_12 : List (RO × Bool) := [
 (⟨.l 50, .fld 2, [.v 2], none⟩, true),
 (⟨.l 51, .ld false 1, [.l 50], none⟩, true),
 (⟨.l 52, .ixaS 3, [.l 51, .con (.int .i64 0)], none⟩, true),
 (⟨.l 53, .ld true 3, [.l 52], none⟩, true),
 (⟨.l 54, .calls .fn, [(.con (.fn (.func 29) [] [])), .l 53, .con (.int .i64 0)], none⟩, true),
 (⟨.l 55, .bin .add, [(.con (.str [109, 105, 110, 40])), .l 54], none⟩, true),
 (⟨.l 56, .bin .add, [.l 55, (.con (.str [44, 32]))], none⟩, true),
 (⟨.l 57, .fld 2, [.v 2], none⟩, true),
 (⟨.l 58, .ld false 1, [.l 57], none⟩, true),
 (⟨.l 59, .ixaS 3, [.l 58, .con (.int .i64 1)], none⟩, true),
 (⟨.l 60, .ld true 3, [.l 59], none⟩, true),
 (⟨.l 61, .calls .fn, [(.con (.fn (.func 29) [] [])), .l 60, .con (.int .i64 0)], none⟩, false)]
noncomputable abbrev r29_13 : List RO := [
 ⟨.l 62, .bin .add, [.l 56, .l 61], none⟩,
 ⟨.l 63, .bin .add, [.l 62, (.con (.str [41]))], none⟩,
 ⟨.v 4, .mv, [.l 63], none⟩]
noncomputable abbrev r29_14 : List RO := [
 ⟨.l 65, .bin .eql, [.v 7, .con (.int .i64 10)], none⟩,
 ⟨.v 13, .mv, [.l 65], none⟩]
noncomputable abbrev r29_15 : List (RO × Bool) := [
 (⟨.l 66, .fld 2, [.v 2], none⟩, true),
 (⟨.l 67, .ld false 1, [.l 66], none⟩, true),
 (⟨.l 68, .ixaS 3, [.l 67, .con (.int .i64 0)], none⟩, true),
 (⟨.l 69, .ld true 3, [.l 68], none⟩, true),
 (⟨.l 70, .calls .fn, [(.con (.fn (.func 29) [] [])), .l 69, .con (.int .i64 0)], none⟩, true),
 (⟨.l 71, .bin .add, [(.con (.str [109, 97, 120, 40])), .l 70], none⟩, true),
 (⟨.l 72, .bin .add, [.l 71, (.con (.str [44, 32]))], none⟩, true),
 (⟨.l 73, .fld 2, [.v 2], none⟩, true),
 (⟨.l 74, .ld false 1, [.l 73], none⟩, true),
 (⟨.l 75, .ixaS 3, [.l 74, .con (.int .i64 1)], none⟩, true),
 (⟨.l 76, .ld true 3, [.l 75], none⟩, true),
 (⟨.l 77, .calls .fn, [(.con (.fn (.func 29) [] [])), .l 76, .con (.int .i64 0)], none⟩, false)]
noncomputable abbrev r29_16 : List RO := [
 ⟨.l 78, .bin .add, [.l 72, .l 77], none⟩,
 ⟨.l 79, .bin .add, [.l 78, (.con (.str [41]))], none⟩,
 ⟨.v 4, .mv, [.l 79], none⟩]
noncomputable abbrev r29_17 : List RO := [
 ⟨.l 81, .bin .eql, [.v 7, .con (.int .i64 11)], none⟩,
 ⟨.v 14, .mv, [.l 81], none⟩]
noncomputable abbrev r29_18 : List (RO × Bool) := [
 (⟨.l 82, .fld 2, [.v 2], none⟩, true),
 (⟨.l 83, .ld false 1, [.l 82], none⟩, true),
 (⟨.l 84, .ixaS 3, [.l 83, .con (.int .i64 0)], none⟩, true),
 (⟨.l 85, .ld true 3, [.l 84], none⟩, true),
 (⟨.l 86, .calls .fn, [(.con (.fn (.func 29) [] [])), .l 85, .con (.int .i64 0)], none⟩, true),
 (⟨.l 87, .bin .add, [(.con (.str [105, 102, 40])), .l 86], none⟩, true),
 (⟨.l 88, .bin .add, [.l 87, (.con (.str [44, 32]))], none⟩, true),
 (⟨.l 89, .fld 2, [.v 2], none⟩, true),
 (⟨.l 90, .ld false 1, [.l 89], none⟩, true),
 (⟨.l 91, .ixaS 3, [.l 90, .con (.int .i64 1)], none⟩, true),
 (⟨.l 92, .ld true 3, [.l 91], none⟩, true),
 (⟨.l 93, .calls .fn, [(.con (.fn (.func 29) [] [])), .l 92, .con (.int .i64 0)], none⟩, true),
 (⟨.l 94, .bin .add, [.l 88, .l 93], none⟩, true),
 (⟨.l 95, .bin .add, [.l 94, (.con (.str [44, 32]))], none⟩, true),
 (⟨.l 96, .fld 2, [.v 2], none⟩, true),
 (⟨.l 97, .ld false 1, [.l 96], none⟩, true),
 (⟨.l 98, .ixaS 3, [.l 97, .con (.int .i64 2)], none⟩, true),
 (⟨.l 99, .ld true 3, [.l 98], none⟩, true),
 (⟨.l 100, .calls .fn, [(.con (.fn (.func 29) [] [])), .l 99, .con (.int .i64 0)], none⟩, false)]
noncomputable abbrev r29_19 : List RO := [
 ⟨.l 101, .bin .add, [.l 95, .l 100], none⟩,
 ⟨.l 102, .bin .add, [.l 101, (.con (.str [41]))], none⟩,
 ⟨.v 4, .mv, [.l 102], none⟩]
noncomputable abbrev r29_20 : List RO := [
 ⟨.l 10, .fld 0, [.v 2], none⟩,
 ⟨.l 11, .ld false 1, [.l 10], none⟩,
 ⟨.l 12, .bin .sub, [.l 11, .con (.int .i64 5)], none⟩,
 ⟨.v 5, .mv, [.l 12], none⟩]
noncomputable abbrev r29_21 : List RO := [
 ⟨.l 13, .fld 0, [.v 2], none⟩,
 ⟨.l 14, .ld false 1, [.l 13], none⟩,
 ⟨.l 15, .calls .fn, [(.con (.fn (.func 44) [] [])), .l 14], none⟩,
 ⟨.v 6, .mv, [.l 15], none⟩]
noncomputable abbrev r29_22 : List (RO × Bool) := [
 (⟨.l 16, .fld 2, [.v 2], none⟩, true),
 (⟨.l 17, .ld false 1, [.l 16], none⟩, true),
 (⟨.l 18, .ixaS 3, [.l 17, .con (.int .i64 0)], none⟩, true),
 (⟨.l 19, .ld true 3, [.l 18], none⟩, true),
 (⟨.l 20, .mv, [.v 6], none⟩, true),
 (⟨.l 21, .calls .fn, [(.con (.fn (.func 29) [] [])), .l 19, .l 20], none⟩, true),
 (⟨.l 22, .bin .add, [.l 21, (.con (.str [32]))], none⟩, true),
 (⟨.l 23, .mv, [.v 5], none⟩, true),
 (⟨.l 24, .mv, [.v 5], none⟩, true),
 (⟨.l 25, .bin .add, [.l 24, .con (.int .i64 1)], none⟩, true),
 (⟨.l 26, .slcS true true, [(.con (.str [43, 45, 42, 47])), .l 23, .l 25], none⟩, true),
 (⟨.l 27, .bin .add, [.l 22, .l 26], none⟩, true),
 (⟨.l 28, .bin .add, [.l 27, (.con (.str [32]))], none⟩, true),
 (⟨.l 29, .fld 2, [.v 2], none⟩, true),
 (⟨.l 30, .ld false 1, [.l 29], none⟩, true),
 (⟨.l 31, .ixaS 3, [.l 30, .con (.int .i64 1)], none⟩, true),
 (⟨.l 32, .ld true 3, [.l 31], none⟩, true),
 (⟨.l 33, .mv, [.v 6], none⟩, true),
 (⟨.l 34, .bin .add, [.l 33, .con (.int .i64 1)], none⟩, true),
 (⟨.l 35, .calls .fn, [(.con (.fn (.func 29) [] [])), .l 32, .l 34], none⟩, false)]
noncomputable abbrev r29_23 : List RO := [
 ⟨.l 36, .bin .add, [.l 28, .l 35], none⟩,
 ⟨.v 4, .mv, [.l 36], none⟩]
noncomputable abbrev r29_24 : List RO := [
 ⟨.l 103, .fld 0, [.v 2], none⟩,
 ⟨.l 104, .ld false 1, [.l 103], none⟩,
 ⟨.l 105, .calls .fn, [(.con (.fn (.func 44) [] [])), .l 104], none⟩,
 ⟨.l 106, .mv, [.v 1], none⟩,
 ⟨.v 15, .bin .lss, [.l 105, .l 106], none⟩]
noncomputable abbrev r29_25 : List RO := [
 ⟨.l 108, .mv, [.v 4], none⟩,
 ⟨.l 109, .bin .add, [(.con (.str [40])), .l 108], none⟩,
 ⟨.l 110, .bin .add, [.l 109, (.con (.str [41]))], none⟩,
 ⟨.v 4, .mv, [.l 110], none⟩]
noncomputable abbrev r29_26 : List RO := [
 ⟨.l 111, .mv, [.v 4], none⟩,
 ⟨.v 3, .mv, [.l 111], none⟩]
theorem P29 : C29.M = M := by unfold C29 E29; rfl
theorem i29 {a0 a1 : D} : St.init C29 [a0, a1] ⟨[], []⟩ = ⟨[a0, a1, .u0, .u0, .u0, .u0, .u0, .u0, .u0, .u0, .u0, .u0, .u0, .u0, .u0, .u0], [], ⟨[], []⟩⟩ := by unfold C29 E29; rfl
noncomputable def c29 : RC := (.seq (.reg r29_0) (.seq (.reg r29_1) (.seq (.seq (.reg r29_2) (.block 0 (.seq (.reg r29_3) (.cond (.v 8) (.reg r29_4) (.seq (.reg r29_5) (.cond (.v 9) (.reg r29_6) (.seq (.reg r29_7) (.cond (.v 10) (.reg r29_8) (.seq (.reg r29_9) (.cond (.v 11) (.reg r29_10) (.seq (.reg r29_11) (.cond (.v 12) (.regD r29_12 r29_13) (.seq (.reg r29_14) (.cond (.v 13) (.regD r29_15 r29_16) (.seq (.reg r29_17) (.cond (.v 14) (.regD r29_18 r29_19) (.seq (.reg r29_20) (.seq (.reg r29_21) (.regD r29_22 r29_23))))))))))))))))))) (.seq (.seq (.reg r29_24) (.cond (.v 15) (.reg r29_25) .skip)) (.seq (.reg r29_26) .ret)))))
noncomputable def q29 : List RR := [(.slot (.v 3))]
theorem k29 : FnOk M 29 2 Tryd.f29 E29 c29 q29 := fnOk Tryd.func29
noncomputable def E44 (n m : Nat) : Cfg := ⟨M, [0, 2, 3, 4, 7], 10, n, m, []⟩
noncomputable def C44 : Cfg := E44 0 0
noncomputable abbrev r44_0 : List RO := [
 ⟨.v 1, .mv, [.con (.int .i64 0)], none⟩]
noncomputable abbrev r44_1 : List RO := [
 ⟨.v 2, .mv, [.v 0], none⟩]
noncomputable abbrev r44_2 : List RO := [
 ⟨.l 5, .bin .eql, [.v 2, .con (.int .i64 5)], none⟩,
 ⟨.v 3, .mv, [.l 5], none⟩]
noncomputable abbrev r44_3 : List RO := [
 ⟨.l 6, .bin .eql, [.v 2, .con (.int .i64 6)], none⟩,
 ⟨.v 3, .mv, [.l 6], none⟩]
noncomputable abbrev r44_4 : List RO := [
 ⟨.v 1, .mv, [.con (.int .i64 0)], none⟩]
noncomputable abbrev r44_5 : List RO := [
 ⟨.l 8, .bin .eql, [.v 2, .con (.int .i64 7)], none⟩,
 ⟨.v 4, .mv, [.l 8], none⟩]
noncomputable abbrev r44_6 : List RO := [
 ⟨.l 9, .bin .eql, [.v 2, .con (.int .i64 8)], none⟩,
 ⟨.v 4, .mv, [.l 9], none⟩]
noncomputable abbrev r44_7 : List RO := [
 ⟨.v 1, .mv, [.con (.int .i64 1)], none⟩]
noncomputable abbrev r44_8 : List RO := [
 ⟨.v 1, .mv, [.con (.int .i64 2)], none⟩]
theorem P44 : C44.M = M := by unfold C44 E44; rfl
theorem i44 {a0 : D} : St.init C44 [a0] ⟨[], []⟩ = ⟨[a0, .u0, .u0, .u0, .u0], [], ⟨[], []⟩⟩ := by unfold C44 E44; rfl
noncomputable def c44 : RC := (.seq (.reg r44_0) (.seq (.seq (.reg r44_1) (.block 0 (.seq (.seq (.reg r44_2) (.cond (.v 3) .skip (.reg r44_3))) (.cond (.v 3) (.seq (.reg r44_4) .ret) (.seq (.seq (.reg r44_5) (.cond (.v 4) .skip (.reg r44_6))) (.cond (.v 4) (.seq (.reg r44_7) .ret) .skip)))))) (.seq (.reg r44_8) .ret)))
noncomputable def q44 : List RR := [(.slot (.v 1))]
theorem k44 : FnOk M 44 1 Tryd.f44 E44 c44 q44 := fnOk Tryd.func44
noncomputable def E28 (n m : Nat) : Cfg := ⟨M, [0, 2, 3, 4, 5, 8, 9, 10, 15, 18, 21], 30, n, m, []⟩
noncomputable def C28 : Cfg := E28 0 0
noncomputable abbrev r28_0 : List RO := [
 ⟨.v 1, .mv, [(.con (.str []))], none⟩]
noncomputable abbrev r28_1 : List RO := [
 ⟨.v 2, (.newT 82 [(.lit (.pointer none)), (.lit (.slice none 0 0))]), [], none⟩]
noncomputable abbrev r28_2 : List RO := [
 ⟨.l 6, .calls .fn, [(.con (.fn (.func 40) [] [])), .v 2, (.con (.int .u8 34))], none⟩]
noncomputable abbrev r28_3 : List RO := [
 ⟨.l 7, .mv, [.v 0], none⟩,
 ⟨.v 5, .lenS, [.l 7], none⟩,
 ⟨.v 6, .mv, [.con (.int .i64 0)], none⟩]
noncomputable abbrev r28_4 : List RO := [
 ⟨.v 7, .bin .lss, [.v 6, .v 5], none⟩]
noncomputable abbrev r28_5 : List RO := [
 ⟨.l 11, .mv, [.v 6], none⟩,
 ⟨.v 3, .mv, [.l 11], none⟩]
noncomputable abbrev r28_6 : List RO := [
 ⟨.l 12, .mv, [.v 0], none⟩,
 ⟨.l 13, .mv, [.v 3], none⟩,
 ⟨.l 14, .ixvS, [.l 12, .l 13], none⟩,
 ⟨.v 4, .mv, [.l 14], none⟩]
noncomputable abbrev r28_7 : List RO := [
 ⟨.v 8, .mv, [.v 4], none⟩]
noncomputable abbrev r28_8 : List RO := [
 ⟨.l 19, .bin .eql, [.v 8, (.con (.int .u8 10))], none⟩,
 ⟨.v 9, .mv, [.l 19], none⟩]
noncomputable abbrev r28_9 : List RO := [
 ⟨.l 20, .calls .fn, [(.con (.fn (.func 41) [] [])), .v 2, (.con (.str [92, 110]))], none⟩]
noncomputable abbrev r28_10 : List RO := [
 ⟨.l 22, .bin .eql, [.v 8, (.con (.int .u8 34))], none⟩,
 ⟨.v 10, .mv, [.l 22], none⟩]
noncomputable abbrev r28_11 : List RO := [
 ⟨.l 23, .bin .eql, [.v 8, (.con (.int .u8 92))], none⟩,
 ⟨.v 10, .mv, [.l 23], none⟩]
noncomputable abbrev r28_12 : List RO := [
 ⟨.l 24, .calls .fn, [(.con (.fn (.func 40) [] [])), .v 2, (.con (.int .u8 92))], none⟩]
noncomputable abbrev r28_13 : List RO := [
 ⟨.l 25, .mv, [.v 4], none⟩,
 ⟨.l 26, .calls .fn, [(.con (.fn (.func 40) [] [])), .v 2, .l 25], none⟩]
noncomputable abbrev r28_14 : List RO := [
 ⟨.l 16, .mv, [.v 4], none⟩,
 ⟨.l 17, .calls .fn, [(.con (.fn (.func 40) [] [])), .v 2, .l 16], none⟩]
noncomputable abbrev r28_15 : List RO := [
 ⟨.l 27, .bin .add, [.v 6, .con (.int .i64 1)], none⟩,
 ⟨.v 6, .mv, [.l 27], none⟩]
noncomputable abbrev r28_16 : List RO := [
 ⟨.l 28, .calls .fn, [(.con (.fn (.func 40) [] [])), .v 2, (.con (.int .u8 34))], none⟩]
noncomputable abbrev r28_17 : List RO := [
 ⟨.l 29, .calls .fn, [(.con (.fn (.func 42) [] [])), .v 2], none⟩,
 ⟨.v 1, .mv, [.l 29], none⟩]
theorem P28 : C28.M = M := by unfold C28 E28; rfl
theorem i28 {a0 : D} : St.init C28 [a0] ⟨[], []⟩ = ⟨[a0, .u0, .u0, .u0, .u0, .u0, .u0, .u0, .u0, .u0, .u0], [], ⟨[], []⟩⟩ := by unfold C28 E28; rfl
noncomputable def c28 : RC := (.seq (.reg r28_0) (.seq (.reg r28_1) (.seq (.reg r28_2) (.seq (.seq (.reg r28_3) (.block 0 (.loop (.seq (.reg r28_4) (.seq (.cond (.v 7) .skip (.exit 0)) (.seq (.block 1 (.seq (.reg r28_5) (.seq (.reg r28_6) (.seq (.reg r28_7) (.block 2 (.seq (.reg r28_8) (.cond (.v 9) (.reg r28_9) (.seq (.seq (.reg r28_10) (.cond (.v 10) .skip (.reg r28_11))) (.cond (.v 10) (.seq (.reg r28_12) (.reg r28_13)) (.reg r28_14)))))))))) (.reg r28_15))))))) (.seq (.reg r28_16) (.seq (.reg r28_17) .ret))))))
noncomputable def q28 : List RR := [(.slot (.v 1))]
theorem k28 : FnOk M 28 1 Tryd.f28 E28 c28 q28 := fnOk Tryd.func28
end Go.Proofs.YtkjnhkoipgdfeaaDoor
end
section
set_option maxRecDepth 100000
namespace Go.Proofs.YtkjnhkoipgdfeaaDoor
open Go GoV
noncomputable def E40 (n m : Nat) : Cfg := ⟨M, [0, 1, 4], 17, n, m, []⟩
noncomputable def C40 : Cfg := E40 0 0
noncomputable abbrev r40_0 : List RO := [
 ⟨.v 2, .mv, [(.con (.lit .nilIface))], none⟩]
noncomputable abbrev r40_1 : List RO := [
 ⟨.l 5, .mv, [.v 0], none⟩,
 ⟨.l 6, .calls .fn, [(.con (.fn (.func 51) [] [])), .l 5], none⟩]
noncomputable abbrev r40_2 : List RO := [
 ⟨.l 7, .mv, [.v 0], none⟩,
 ⟨.l 8, .mv, [.v 0], none⟩,
 ⟨.l 9, (.nck M.P), [.l 8], none⟩,
 ⟨.l 10, .fld 1, [.l 9], none⟩,
 ⟨.l 11, .ld false 1, [.l 10], none⟩,
 ⟨.l 12, .mv, [.v 1], none⟩,
 ⟨.l 13, .bsl 1, [.l 12], none⟩,
 ⟨.l 14, .app 1 1 5, [.l 11, .l 13], none⟩,
 ⟨.l 15, (.nck M.P), [.l 7], none⟩,
 ⟨.l 16, .fld 1, [.l 15], none⟩,
 ⟨.none, .st 1, [.l 16, .l 14], none⟩]
noncomputable abbrev r40_3 : List RO := [
 ⟨.v 2, .mv, [(.con (.lit .nilIface))], none⟩]
theorem pe40 {n m : Nat} : (E40 n m).M = M := by unfold E40; rfl
theorem i40 {a0 a1 : D} : St.init C40 [a0, a1] ⟨[], []⟩ = ⟨[a0, a1, .u0], [], ⟨[], []⟩⟩ := by unfold C40 E40; rfl
theorem ie40 {n m : Nat} {hp : Hp} {a0 a1 : D} : St.init (E40 n m) [a0, a1] hp = ⟨[a0, a1, .u0], [], hp⟩ := by unfold E40; rfl
noncomputable def c40 : RC := (.seq (.reg r40_0) (.seq (.reg r40_1) (.seq (.reg r40_2) (.seq (.reg r40_3) .ret))))
noncomputable def q40 : List RR := [(.slot (.v 2))]
theorem k40 : FnOk M 40 2 Tryd.f40 E40 c40 q40 := fnOk Tryd.func40
noncomputable def E41 (n m : Nat) : Cfg := ⟨M, [0, 1, 4, 5], 19, n, m, []⟩
noncomputable def C41 : Cfg := E41 0 0
noncomputable abbrev r41_0 : List RO := [
 ⟨.v 2, .mv, [.con (.int .i64 0)], none⟩,
 ⟨.v 3, .mv, [(.con (.lit .nilIface))], none⟩]
noncomputable abbrev r41_1 : List RO := [
 ⟨.l 6, .mv, [.v 0], none⟩,
 ⟨.l 7, .calls .fn, [(.con (.fn (.func 51) [] [])), .l 6], none⟩]
noncomputable abbrev r41_2 : List RO := [
 ⟨.l 8, .mv, [.v 0], none⟩,
 ⟨.l 9, .mv, [.v 0], none⟩,
 ⟨.l 10, (.nck M.P), [.l 9], none⟩,
 ⟨.l 11, .fld 1, [.l 10], none⟩,
 ⟨.l 12, .ld false 1, [.l 11], none⟩,
 ⟨.l 13, .mv, [.v 1], none⟩,
 ⟨.l 14, .app 1 1 5, [.l 12, .l 13], none⟩,
 ⟨.l 15, (.nck M.P), [.l 8], none⟩,
 ⟨.l 16, .fld 1, [.l 15], none⟩,
 ⟨.none, .st 1, [.l 16, .l 14], none⟩]
noncomputable abbrev r41_3 : List RO := [
 ⟨.l 17, .mv, [.v 1], none⟩,
 ⟨.l 18, .lenS, [.l 17], none⟩,
 ⟨.v 2, .mv, [.l 18], none⟩,
 ⟨.v 3, .mv, [(.con (.lit .nilIface))], none⟩]
theorem pe41 {n m : Nat} : (E41 n m).M = M := by unfold E41; rfl
theorem i41 {a0 a1 : D} : St.init C41 [a0, a1] ⟨[], []⟩ = ⟨[a0, a1, .u0, .u0], [], ⟨[], []⟩⟩ := by unfold C41 E41; rfl
theorem ie41 {n m : Nat} {hp : Hp} {a0 a1 : D} : St.init (E41 n m) [a0, a1] hp = ⟨[a0, a1, .u0, .u0], [], hp⟩ := by unfold E41; rfl
noncomputable def c41 : RC := (.seq (.reg r41_0) (.seq (.reg r41_1) (.seq (.reg r41_2) (.seq (.reg r41_3) .ret))))
noncomputable def q41 : List RR := [(.slot (.v 2)), (.slot (.v 3))]
theorem k41 : FnOk M 41 2 Tryd.f41 E41 c41 q41 := fnOk Tryd.func41
end Go.Proofs.YtkjnhkoipgdfeaaDoor
end
section
set_option linter.unusedSimpArgs false
set_option linter.unusedVariables false
namespace Go.Proofs.YtkjnhkoipgdfeaaDoor
inductive F where
 | mk (op n : Int) (kids : List F)
instance : Inhabited F := ⟨.mk 0 0 []⟩
def F.op : F → Int | .mk o _ _ => o
def F.num : F → Int | .mk _ n _ => n
def F.kids : F → List F | .mk _ _ k => k
mutual
def F.nodes : F → Nat
 | .mk _ _ ks => 1 + F.nodesL ks
def F.nodesL : List F → Nat
 | [] => 0
 | k :: ks => F.nodes k + F.nodesL ks
end
def want (op : Int) : Nat := if op = 11 then 3 else if 5 ≤ op then 2 else 0
def okN (op n : Int) (k : Nat) : Bool := decide (1 ≤ op ∧ op ≤ 11 ∧ k = want op ∧ 0 ≤ n ∧ n ≤ 9999999 ∧ (0 < n → op = 1))
mutual
def F.well : F → Bool
 | .mk op n ks => okN op n ks.length && F.wellL ks
def F.wellL : List F → Bool
 | [] => true
 | k :: ks => F.well k && F.wellL ks
end
def F.valid (f : F) : Bool := decide (f.nodes ≤ 60) && f.well
def sat (n : Int) : Int := max (-1000000000000) (min n 1000000000000)
theorem sat_mono {a b : Int} (h : a ≤ b) : sat a ≤ sat b := by unfold sat; omega
abbrev Rg (n : Int) : Prop := -1000000000000 ≤ n ∧ n ≤ 1000000000000
theorem sat_rng (a : Int) : Rg (sat a) := by unfold sat; omega
def fl (a b : Int) : Int := if b = 0 then 0 else if 0 < b then a / b else (-a) / (-b)
theorem ediv_mono {a b d : Int} (hd : 0 < d) (h : a ≤ b) : a / d ≤ b / d := Int.ediv_le_ediv hd h
theorem ediv_anti {a d e : Int} (hd : 0 < d) (h : d ≤ e) (ha : 0 ≤ a) : a / e ≤ a / d := by
 have he : 0 < e := by omega
 rw [Int.le_ediv_iff_mul_le hd]
 have h1 : a / e * e ≤ a := Int.ediv_mul_le a (by omega)
 have h2 : 0 ≤ a / e := Int.ediv_nonneg ha (by omega)
 have h3 := Int.mul_le_mul_of_nonneg_left h h2
 omega
theorem ediv_antn {a d e : Int} (hd : 0 < d) (h : d ≤ e) (ha : a < 0) : a / d ≤ a / e := by
 have he : 0 < e := by omega
 rw [Int.le_ediv_iff_mul_le he]
 have h1 : a / d * d ≤ a := Int.ediv_mul_le a (by omega)
 have h2 : a / d < 0 := Int.ediv_neg_of_neg_of_pos ha hd
 have h3 := Int.mul_le_mul_of_nonneg_left h (show 0 ≤ -(a / d) by omega)
 rw [Int.neg_mul, Int.neg_mul] at h3
 omega
theorem ediv_rng {a d : Int} (hd : 0 < d) (h : Rg a) : Rg (a / d) := by
 obtain ⟨h1, h2⟩ := h
 constructor
 ·rw [Int.le_ediv_iff_mul_le hd]
  have := Int.mul_le_mul_of_nonneg_left (show 1 ≤ d by omega) (show (0:Int) ≤ 1000000000000 by decide)
  omega
 ·rcases Int.lt_or_le a 0 with h3 | h3
  ·have := Int.ediv_neg_of_neg_of_pos h3 hd; omega
  ·have := Int.ediv_le_self d h3; omega
theorem fl_rng {a b : Int} (h : Rg a) : Rg (fl a b) := by
 unfold fl
 split
 ·decide
 ·split
  ·exact ediv_rng (by omega) h
  ·exact ediv_rng (by omega) ⟨by omega, by omega⟩
abbrev Iv := Int × Int
def In (i : Iv) (n : Int) : Prop := i.1 ≤ n ∧ n ≤ i.2
def Sub (i j : Iv) : Prop := j.1 ≤ i.1 ∧ i.2 ≤ j.2
def okI (i : Iv) : Prop := -1000000000000 ≤ i.1 ∧ i.1 ≤ i.2 ∧ i.2 ≤ 1000000000000
def joinI (a b : Iv) : Iv := (min a.1 b.1, max a.2 b.2)
def corn (f : Int → Int → Int) (A B : Iv) : Iv := (min (min (f A.1 B.1) (f A.1 B.2)) (min (f A.2 B.1) (f A.2 B.2)), max (max (f A.1 B.1) (f A.1 B.2)) (max (f A.2 B.1) (f A.2 B.2)))
def Mo (g : Int → Int) (l h : Int) : Prop := (∀ x y, l ≤ x → x ≤ y → y ≤ h → g x ≤ g y) ∨ (∀ x y, l ≤ x → x ≤ y → y ≤ h → g y ≤ g x)
theorem mo_in {g : Int → Int} {l h x : Int} (m : Mo g l h) (h1 : l ≤ x) (h2 : x ≤ h) : min (g l) (g h) ≤ g x ∧ g x ≤ max (g l) (g h) := by
 rcases m with m | m
 iterate 2
  ·have a := m l x (Int.le_refl _) h1 h2
   have b := m x h h1 h2 (Int.le_refl _)
   omega
theorem corn_in {f : Int → Int → Int} {A B : Iv} {a b : Int} (h1 : ∀ b, In B b → Mo (fun a => f a b) A.1 A.2) (h2 : ∀ a, In A a → Mo (fun b => f a b) B.1 B.2) (ha : In A a) (hb : In B b) : In (corn f A B) (f a b) := by
 have hA : A.1 ≤ A.2 := Int.le_trans ha.1 ha.2
 have x1 := mo_in (h1 b hb) ha.1 ha.2
 have x2 := mo_in (h2 A.1 ⟨Int.le_refl _, hA⟩) hb.1 hb.2
 have x3 := mo_in (h2 A.2 ⟨hA, Int.le_refl _⟩) hb.1 hb.2
 simp only [In, corn] at *
 omega
def Att (f : Int → Int → Int) (A B R : Iv) : Prop := (∃ a b, In A a ∧ In B b ∧ R.1 = f a b) ∧ ∃ a b, In A a ∧ In B b ∧ R.2 = f a b
theorem min2 (a b : Int) : min a b = a ∨ min a b = b := by omega
theorem max2 (a b : Int) : max a b = a ∨ max a b = b := by omega
theorem corn_att {f : Int → Int → Int} {A B : Iv} (hA : A.1 ≤ A.2) (hB : B.1 ≤ B.2) : Att f A B (corn f A B) := by
 have a1 : In A A.1 := ⟨Int.le_refl _, hA⟩
 have a2 : In A A.2 := ⟨hA, Int.le_refl _⟩
 have b1 : In B B.1 := ⟨Int.le_refl _, hB⟩
 have b2 : In B B.2 := ⟨hB, Int.le_refl _⟩
 constructor
 ·unfold corn; simp only
  rcases min2 (min (f A.1 B.1) (f A.1 B.2)) (min (f A.2 B.1) (f A.2 B.2)) with h | h <;> rw [h]
  ·rcases min2 (f A.1 B.1) (f A.1 B.2) with h | h <;> rw [h]
   ·exact ⟨_, _, a1, b1, rfl⟩
   ·exact ⟨_, _, a1, b2, rfl⟩
  ·rcases min2 (f A.2 B.1) (f A.2 B.2) with h | h <;> rw [h]
   ·exact ⟨_, _, a2, b1, rfl⟩
   ·exact ⟨_, _, a2, b2, rfl⟩
 ·unfold corn; simp only
  rcases max2 (max (f A.1 B.1) (f A.1 B.2)) (max (f A.2 B.1) (f A.2 B.2)) with h | h <;> rw [h]
  ·rcases max2 (f A.1 B.1) (f A.1 B.2) with h | h <;> rw [h]
   ·exact ⟨_, _, a1, b1, rfl⟩
   ·exact ⟨_, _, a1, b2, rfl⟩
  ·rcases max2 (f A.2 B.1) (f A.2 B.2) with h | h <;> rw [h]
   ·exact ⟨_, _, a2, b1, rfl⟩
   ·exact ⟨_, _, a2, b2, rfl⟩
theorem mul_mo (b l h : Int) : Mo (fun a => a * b) l h := by
 rcases Int.le_total 0 b with hb | hb
 ·exact .inl fun x y _ hxy _ => Int.mul_le_mul_of_nonneg_right hxy hb
 ·exact .inr fun x y _ hxy _ => Int.mul_le_mul_of_nonpos_right hxy hb
theorem sat_mo {g : Int → Int} {l h : Int} (m : Mo g l h) : Mo (fun x => sat (g x)) l h := by
 rcases m with m | m
 ·exact .inl fun x y a b c => sat_mono (m x y a b c)
 ·exact .inr fun x y a b c => sat_mono (m x y a b c)
theorem add_in {A B : Iv} {a b : Int} (ha : In A a) (hb : In B b) : In (corn (fun a b => sat (a + b)) A B) (sat (a + b)) :=
 corn_in (f := fun a b => sat (a + b)) (fun b _ => sat_mo (g := fun a => a + b) (.inl fun x y _ h _ => by show x + b ≤ y + b; omega)) (fun a _ => sat_mo (g := fun b => a + b) (.inl fun x y _ h _ => by show a + x ≤ a + y; omega)) ha hb
theorem sub_in {A B : Iv} {a b : Int} (ha : In A a) (hb : In B b) : In (corn (fun a b => sat (a - b)) A B) (sat (a - b)) :=
 corn_in (f := fun a b => sat (a - b)) (fun b _ => sat_mo (g := fun a => a - b) (.inl fun x y _ h _ => by show x - b ≤ y - b; omega)) (fun a _ => sat_mo (g := fun b => a - b) (.inr fun x y _ h _ => by show a - y ≤ a - x; omega)) ha hb
theorem mul_in {A B : Iv} {a b : Int} (ha : In A a) (hb : In B b) : In (corn (fun a b => sat (a * b)) A B) (sat (a * b)) :=
 corn_in (f := fun a b => sat (a * b)) (fun b _ => sat_mo (mul_mo b _ _)) (fun a _ => sat_mo (by have := mul_mo a B.1 B.2; simpa [Int.mul_comm] using this)) ha hb
theorem fl_moa (d l h : Int) : Mo (fun a => fl a d) l h := by
 unfold fl
 by_cases h0 : d = 0
 ·simp only [h0, if_true]; exact .inl fun _ _ _ _ _ => Int.le_refl _
 ·simp only [h0, if_false]
  by_cases h1 : 0 < d
  ·simp only [h1, if_true]; exact .inl fun x y _ hxy _ => ediv_mono h1 hxy
  ·simp only [h1, if_false]; exact .inr fun x y _ hxy _ => ediv_mono (by omega) (by omega)
theorem fl_mop (a : Int) {l h : Int} (hl : 0 < l) : Mo (fun d => fl a d) l h := by
 rcases Int.lt_or_le a 0 with ha | ha
 ·refine .inl fun x y h1 h2 h3 => ?_
  simp only [fl, if_neg (show ¬ x = 0 by omega), if_neg (show ¬ y = 0 by omega), if_pos (show 0 < x by omega), if_pos (show 0 < y by omega)]
  exact ediv_antn (by omega) h2 ha
 ·refine .inr fun x y h1 h2 h3 => ?_
  simp only [fl, if_neg (show ¬ x = 0 by omega), if_neg (show ¬ y = 0 by omega), if_pos (show 0 < x by omega), if_pos (show 0 < y by omega)]
  exact ediv_anti (by omega) h2 ha
theorem fl_mon (a : Int) {l h : Int} (hh : h < 0) : Mo (fun d => fl a d) l h := by
 rcases Int.lt_or_le (-a) 0 with ha | ha
 ·refine .inr fun x y h1 h2 h3 => ?_
  simp only [fl, if_neg (show ¬ x = 0 by omega), if_neg (show ¬ y = 0 by omega), if_neg (show ¬ 0 < x by omega), if_neg (show ¬ 0 < y by omega)]
  exact ediv_antn (by omega) (by omega) ha
 ·refine .inl fun x y h1 h2 h3 => ?_
  simp only [fl, if_neg (show ¬ x = 0 by omega), if_neg (show ¬ y = 0 by omega), if_neg (show ¬ 0 < x by omega), if_neg (show ¬ 0 < y by omega)]
  exact ediv_anti (by omega) (by omega) ha
def flP (A : Iv) (d : Int) : Iv := (min (fl A.1 d) (fl A.2 d), max (fl A.1 d) (fl A.2 d))
def sgn (A : Iv) (l h : Int) : List Iv := if l ≤ h then [flP A l, flP A h] else []
def zBz (A B : Iv) : List Iv := (if B.1 ≤ 0 ∧ 0 ≤ B.2 then [((0 : Int), (0 : Int))] else []) ++ sgn A (max B.1 1) B.2 ++ sgn A B.1 (min B.2 (-1))
def hull : List Iv → Iv
 | [] => (0, 0)
 | x :: l => l.foldl joinI x
theorem fold_sub : ∀ (l : List Iv) (x : Iv), Sub x (l.foldl joinI x) ∧ ∀ p ∈ l, Sub p (l.foldl joinI x)
 | [], x => ⟨⟨Int.le_refl _, Int.le_refl _⟩, fun p hp => by simp at hp⟩
 | y :: l, x => by
   obtain ⟨h1, h2⟩ := fold_sub l (joinI x y)
   simp only [List.foldl_cons]
   refine ⟨?_, fun p hp => ?_⟩
   ·simp only [Sub, joinI] at h1 ⊢; omega
   ·rcases List.mem_cons.1 hp with rfl | hp
    ·simp only [Sub, joinI] at h1 ⊢; omega
    ·exact h2 p hp
theorem hull_sub {l : List Iv} {p : Iv} (h : p ∈ l) : Sub p (hull l) := by
 cases l with
 | nil => simp at h
 | cons x l =>
   rcases List.mem_cons.1 h with rfl | h
   ·exact (fold_sub l p).1
   ·exact (fold_sub l x).2 p h
theorem fold_att : ∀ (l : List Iv) (x : Iv), (∃ p ∈ x :: l, (l.foldl joinI x).1 = p.1) ∧ ∃ p ∈ x :: l, (l.foldl joinI x).2 = p.2
 | [], x => ⟨⟨x, by simp, rfl⟩, ⟨x, by simp, rfl⟩⟩
 | y :: l, x => by
   obtain ⟨⟨p, hp, e1⟩, ⟨q, hq, e2⟩⟩ := fold_att l (joinI x y)
   simp only [List.foldl_cons]
   constructor
   ·rcases List.mem_cons.1 hp with rfl | hp
    ·rcases min2 x.1 y.1 with h | h
     ·exact ⟨x, by simp, by rw [e1]; exact h⟩
     ·exact ⟨y, by simp, by rw [e1]; exact h⟩
    ·exact ⟨p, by simp [hp], e1⟩
   ·rcases List.mem_cons.1 hq with rfl | hq
    ·rcases max2 x.2 y.2 with h | h
     ·exact ⟨x, by simp, by rw [e2]; exact h⟩
     ·exact ⟨y, by simp, by rw [e2]; exact h⟩
    ·exact ⟨q, by simp [hq], e2⟩
theorem hull_att {l : List Iv} (h : l ≠ []) : (∃ p ∈ l, (hull l).1 = p.1) ∧ ∃ p ∈ l, (hull l).2 = p.2 := by
 cases l with
 | nil => exact absurd rfl h
 | cons x l => exact fold_att l x
def divI (A B : Iv) : Iv := hull (zBz A B)
theorem sgn_in {A : Iv} {l h a d : Int} (hs : 0 < l ∨ h < 0) (ha : In A a) (h1 : l ≤ d) (h2 : d ≤ h) : ∀ {L : List Iv}, (∀ p ∈ sgn A l h, p ∈ L) → In (hull L) (fl a d) := by
 intro L hL
 have hlh : l ≤ h := by omega
 rw [sgn, if_pos hlh] at hL
 have s1 := hull_sub (hL (flP A l) (by simp))
 have s2 := hull_sub (hL (flP A h) (by simp))
 have hm : ∀ a, Mo (fun d => fl a d) l h := fun a => hs.elim (fun g => fl_mop a g) (fun g => fl_mon a g)
 have hc := corn_in (f := fl) (A := A) (B := (l, h)) (fun b _ => fl_moa b _ _) (fun a _ => hm a) ha ⟨h1, h2⟩
 simp only [In, corn, Sub, flP] at *
 omega
theorem div_in {A B : Iv} {a b : Int} (ha : In A a) (hb : In B b) : In (divI A B) (fl a b) := by
 unfold divI
 rcases Int.lt_trichotomy b 0 with h | h | h
 ·refine sgn_in (l := B.1) (h := min B.2 (-1)) (.inr (by omega)) ha hb.1 (by have := hb.2; omega) fun p hp => ?_
  simp [zBz, hp]
 ·subst h
  have : ((0 : Int), (0 : Int)) ∈ zBz A B := by simp [zBz, hb.1, hb.2]
  have := hull_sub this
  simp only [fl, if_true, In, Sub] at *
  exact this
 ·refine sgn_in (l := max B.1 1) (h := B.2) (.inl (by omega)) ha (by have := hb.1; omega) hb.2 fun p hp => ?_
  simp [zBz, hp]
theorem sgn_mem {A : Iv} {l h : Int} {p : Iv} (hp : p ∈ sgn A l h) : ∃ d, l ≤ d ∧ d ≤ h ∧ p = flP A d := by
 unfold sgn at hp
 split at hp
 ·rename_i hlh
  simp only [List.mem_cons, List.not_mem_nil, or_false] at hp
  rcases hp with rfl | rfl
  ·exact ⟨l, Int.le_refl _, hlh, rfl⟩
  ·exact ⟨h, hlh, Int.le_refl _, rfl⟩
 ·simp at hp
theorem piece_mem {A B : Iv} {p : Iv} (hp : p ∈ zBz A B) : ∃ d, In B d ∧ p = flP A d := by
 unfold zBz at hp
 rw [List.mem_append, List.mem_append] at hp
 rcases hp with (hp | hp) | hp
 ·split at hp
  ·rename_i h
   simp only [List.mem_cons, List.not_mem_nil, or_false] at hp
   exact ⟨0, h, by rw [hp]; simp [flP, fl]⟩
  ·simp at hp
 ·obtain ⟨d, h1, h2, rfl⟩ := sgn_mem hp
  exact ⟨d, ⟨by omega, h2⟩, rfl⟩
 ·obtain ⟨d, h1, h2, rfl⟩ := sgn_mem hp
  exact ⟨d, ⟨h1, by omega⟩, rfl⟩
theorem pieces_ne {A B : Iv} (hB : B.1 ≤ B.2) : zBz A B ≠ [] := by
 intro h
 have key : ∃ p, p ∈ zBz A B := by
  rcases Int.lt_or_le B.2 0 with h1 | h1
  ·exact ⟨flP A B.1, by simp only [zBz, List.mem_append]; right; rw [sgn, if_pos (by omega)]; simp⟩
  ·rcases Int.lt_or_le 0 B.1 with h2 | h2
   ·exact ⟨flP A B.2, by simp only [zBz, List.mem_append]; left; right; rw [sgn, if_pos (by omega)]; simp⟩
   ·exact ⟨(0, 0), by simp [zBz, h1, h2]⟩
 obtain ⟨p, hp⟩ := key
 rw [h] at hp; simp at hp
theorem div_att {A B : Iv} (hA : A.1 ≤ A.2) (hB : B.1 ≤ B.2) : Att fl A B (divI A B) := by
 have a1 : In A A.1 := ⟨Int.le_refl _, hA⟩
 have a2 : In A A.2 := ⟨hA, Int.le_refl _⟩
 obtain ⟨⟨p, hp, e1⟩, ⟨q, hq, e2⟩⟩ := hull_att (pieces_ne (A := A) hB)
 constructor
 ·obtain ⟨d, hd, rfl⟩ := piece_mem hp
  rcases min2 (fl A.1 d) (fl A.2 d) with h | h
  ·exact ⟨_, _, a1, hd, by unfold divI; rw [e1]; exact h⟩
  ·exact ⟨_, _, a2, hd, by unfold divI; rw [e1]; exact h⟩
 ·obtain ⟨d, hd, rfl⟩ := piece_mem hq
  rcases max2 (fl A.1 d) (fl A.2 d) with h | h
  ·exact ⟨_, _, a1, hd, by unfold divI; rw [e2]; exact h⟩
  ·exact ⟨_, _, a2, hd, by unfold divI; rw [e2]; exact h⟩
def opN (op a b : Int) : Int :=
 if op = 5 then sat (a + b) else if op = 6 then sat (a - b) else if op = 7 then sat (a * b) else if op = 8 then fl a b else if op = 9 then min a b else max a b
def opI (op : Int) (A B : Iv) : Iv :=
 if op = 5 then corn (fun a b => sat (a + b)) A B else if op = 6 then corn (fun a b => sat (a - b)) A B else if op = 7 then corn (fun a b => sat (a * b)) A B
 else if op = 8 then divI A B else if op = 9 then (min A.1 B.1, min A.2 B.2) else (max A.1 B.1, max A.2 B.2)
def chN (a b c : Int) : Int := if 0 < a then b else c
def chI (A B C : Iv) : Iv := if A.2 ≤ 0 then C else if 0 < A.1 then B else joinI B C
theorem opN_rng {op a b : Int} (ha : Rg a) (hb : Rg b) : Rg (opN op a b) := by
 unfold opN
 split
 ·exact sat_rng _
 split
 ·exact sat_rng _
 split
 ·exact sat_rng _
 split
 ·exact fl_rng ha
 split
 iterate 2
  ·constructor <;> omega
theorem opI_in {op a b : Int} {A B : Iv} (ha : In A a) (hb : In B b) : In (opI op A B) (opN op a b) := by
 unfold opN opI
 split
 ·exact add_in ha hb
 split
 ·exact sub_in ha hb
 split
 ·exact mul_in ha hb
 split
 ·exact div_in ha hb
 split
 iterate 2
  ·simp only [In] at *; omega
theorem opI_att {op : Int} {A B : Iv} (hA : A.1 ≤ A.2) (hB : B.1 ≤ B.2) : Att (opN op) A B (opI op A B) := by
 unfold opN opI
 split
 ·exact corn_att hA hB
 split
 ·exact corn_att hA hB
 split
 ·exact corn_att hA hB
 split
 ·exact div_att hA hB
 have a1 : In A A.1 := ⟨Int.le_refl _, hA⟩
 have a2 : In A A.2 := ⟨hA, Int.le_refl _⟩
 have b1 : In B B.1 := ⟨Int.le_refl _, hB⟩
 have b2 : In B B.2 := ⟨hB, Int.le_refl _⟩
 split
 iterate 2
  ·exact ⟨⟨_, _, a1, b1, rfl⟩, ⟨_, _, a2, b2, rfl⟩⟩
theorem opI_ok {op : Int} {A B : Iv} (hA : okI A) (hB : okI B) : okI (opI op A B) := by
 obtain ⟨⟨a, b, h1, h2, e1⟩, ⟨c, d, h3, h4, e2⟩⟩ := opI_att (op := op) hA.2.1 hB.2.1
 have r : ∀ {a b}, In A a → In B b → Rg (opN op a b) := fun h1 h2 => opN_rng ⟨Int.le_trans hA.1 h1.1, Int.le_trans h1.2 hA.2.2⟩ ⟨Int.le_trans hB.1 h2.1, Int.le_trans h2.2 hB.2.2⟩
 have x := opI_in (op := op) h1 h2
 have r1 := r h1 h2
 have r2 := r h3 h4
 refine ⟨by rw [e1]; exact r1.1, Int.le_trans x.1 x.2, by rw [e2]; exact r2.2⟩
theorem chI_in {A B C : Iv} {a b c : Int} (ha : In A a) (hb : In B b) (hc : In C c) : In (chI A B C) (chN a b c) := by
 unfold chI chN
 simp only [In, joinI] at *
 (repeat' split) <;> omega
theorem chI_ok {A B C : Iv} (hA : okI A) (hB : okI B) (hC : okI C) : okI (chI A B C) := by
 unfold chI
 simp only [okI, joinI] at *
 (repeat' split) <;> omega
mutual
def val (km cy ld : Int) : F → Int
 | .mk op n ks =>
   let vs := valL km cy ld ks
   if op = 1 then n else if op = 2 then km else if op = 3 then cy else if op ≤ 4 then ld
   else if op = 11 then chN (vs.getD 0 0) (vs.getD 1 0) (vs.getD 2 0) else opN op (vs.getD 0 0) (vs.getD 1 0)
def valL (km cy ld : Int) : List F → List Int
 | [] => []
 | k :: ks => val km cy ld k :: valL km cy ld ks
end
structure Use where
 km : Iv
 cy : Iv
 ld : Iv
mutual
def span (u : Use) : F → Iv
 | .mk op n ks =>
   let vs := spanL u ks
   if op = 1 then (n, n) else if op = 2 then u.km else if op = 3 then u.cy else if op ≤ 4 then u.ld
   else if op = 11 then chI (vs.getD 0 (0, 0)) (vs.getD 1 (0, 0)) (vs.getD 2 (0, 0)) else opI op (vs.getD 0 (0, 0)) (vs.getD 1 (0, 0))
def spanL (u : Use) : List F → List Iv
 | [] => []
 | k :: ks => span u k :: spanL u ks
end
def Use.In (u : Use) (km cy ld : Int) : Prop := Go.Proofs.YtkjnhkoipgdfeaaDoor.In u.km km ∧ Go.Proofs.YtkjnhkoipgdfeaaDoor.In u.cy cy ∧ Go.Proofs.YtkjnhkoipgdfeaaDoor.In u.ld ld
def Use.ok (u : Use) : Prop := okI u.km ∧ okI u.cy ∧ okI u.ld
def Use.Sub (u v : Use) : Prop := Go.Proofs.YtkjnhkoipgdfeaaDoor.Sub u.km v.km ∧ Go.Proofs.YtkjnhkoipgdfeaaDoor.Sub u.cy v.cy ∧ Go.Proofs.YtkjnhkoipgdfeaaDoor.Sub u.ld v.ld
theorem ok0 : okI ((0 : Int), (0 : Int)) := by unfold okI; decide
theorem getD_in {u : Use} {km cy ld : Int} : ∀ {ks : List F} (_ : ∀ k ∈ ks, In (span u k) (val km cy ld k)) (i : Nat), In ((spanL u ks).getD i (0, 0)) ((valL km cy ld ks).getD i 0)
 | [], _, i => by simp [spanL, valL, In]
 | k :: ks, h, 0 => by simpa [spanL, valL] using h k (by simp)
 | k :: ks, h, i + 1 => by simpa [spanL, valL] using getD_in (fun k hk => h k (by simp [hk])) i
theorem getD_ok {u : Use} : ∀ {ks : List F} (_ : ∀ k ∈ ks, okI (span u k)) (i : Nat), okI ((spanL u ks).getD i (0, 0))
 | [], _, i => by simpa [spanL] using ok0
 | k :: ks, h, 0 => by simpa [spanL] using h k (by simp)
 | k :: ks, h, i + 1 => by simpa [spanL] using getD_ok (fun k hk => h k (by simp [hk])) i
theorem wellL_mem : ∀ {ks : List F}, F.wellL ks = true → ∀ k ∈ ks, k.well = true
 | [], _, k, h => by simp at h
 | k' :: ks, h, k, hk => by
   simp only [F.wellL, Bool.and_eq_true] at h
   rcases List.mem_cons.1 hk with rfl | hk
   ·exact h.1
   ·exact wellL_mem h.2 k hk
theorem well_num {op n : Int} {k : Nat} (h : okN op n k = true) : 0 ≤ n ∧ n ≤ 9999999 := by
 simp only [okN, decide_eq_true_eq] at h; omega
theorem span_ok {u : Use} (hu : u.ok) : ∀ f : F, f.well = true → okI (span u f)
 | .mk op n ks, h => by
   simp only [F.well, Bool.and_eq_true] at h
   have hn := well_num h.1
   have hk := getD_ok (u := u) fun k hk => span_ok hu k (wellL_mem h.2 k hk)
   simp only [span]
   split
   ·exact ⟨by simp only; omega, Int.le_refl _, by simp only; omega⟩
   split
   ·exact hu.1
   split
   ·exact hu.2.1
   split
   ·exact hu.2.2
   split
   ·exact chI_ok (hk 0) (hk 1) (hk 2)
   ·exact opI_ok (hk 0) (hk 1)
theorem span_in {u : Use} {km cy ld : Int} (hi : u.In km cy ld) : ∀ f : F, In (span u f) (val km cy ld f)
 | .mk op n ks => by
   have hk := getD_in (u := u) (km := km) (cy := cy) (ld := ld) fun k (_ : k ∈ ks) => span_in hi k
   simp only [span, val]
   split
   ·exact ⟨Int.le_refl _, Int.le_refl _⟩
   split
   ·exact hi.1
   split
   ·exact hi.2.1
   split
   ·exact hi.2.2
   split
   ·exact chI_in (hk 0) (hk 1) (hk 2)
   ·exact opI_in (hk 0) (hk 1)
def useI (i : Iv) : Bool := decide (0 ≤ i.1 ∧ i.1 ≤ i.2 ∧ i.2 ≤ 1000000)
def Use.good (u : Use) : Bool := useI u.km && useI u.cy && useI u.ld
def valueF (f : F) (km cy ld : Int) : Int := if f.valid then val (sat km) (sat cy) (sat ld) f else 0
def damageF (f : F) (u : Use) : Iv := if f.valid && u.good then (max 0 (span u f).1, max 0 (span u f).2) else (0, 0)
theorem good_ok {u : Use} (h : u.good = true) : u.ok := by
 simp only [Use.good, useI, Bool.and_eq_true, decide_eq_true_eq] at h
 simp only [Use.ok, okI]
 omega
theorem valid_well {f : F} (h : f.valid = true) : f.well = true := by
 simp only [F.valid, Bool.and_eq_true] at h; exact h.2
theorem val_rng {km cy ld : Int} (h1 : Rg km) (h2 : Rg cy) (h3 : Rg ld) : ∀ f : F, f.well = true → Rg (val km cy ld f) := fun f hw => by
 have h := span_in (u := ⟨(km, km), (cy, cy), (ld, ld)⟩) (km := km) (cy := cy) (ld := ld) ⟨⟨Int.le_refl _, Int.le_refl _⟩, ⟨Int.le_refl _, Int.le_refl _⟩, ⟨Int.le_refl _, Int.le_refl _⟩⟩ f
 have g := span_ok (u := ⟨(km, km), (cy, cy), (ld, ld)⟩) ⟨⟨h1.1, Int.le_refl _, h1.2⟩, ⟨h2.1, Int.le_refl _, h2.2⟩, ⟨h3.1, Int.le_refl _, h3.2⟩⟩ f hw
 simp only [In, okI] at *
 constructor <;> omega
theorem valid_iff {f : F} : f.valid = true ↔ f.nodes ≤ 60 ∧ f.well = true := by simp [F.valid]
end Go.Proofs.YtkjnhkoipgdfeaaDoor
end
section
set_option linter.unusedSimpArgs false
set_option linter.unusedVariables false
namespace Go.Proofs.YtkjnhkoipgdfeaaDoor
abbrev Tx := List UInt8
structure Tok where
 kind : Int
 text : Tx
 pos : Int
 deriving DecidableEq
structure Fo where
 tok : Tok
 err : Int
 deriving DecidableEq
def isLet (c : UInt8) : Bool := decide ((97 ≤ c.toNat ∧ c.toNat ≤ 122) ∨ (65 ≤ c.toNat ∧ c.toNat ≤ 90))
def isDig (c : UInt8) : Bool := decide (48 ≤ c.toNat ∧ c.toNat ≤ 57)
def zA1 (c : UInt8) : Bool := isLet c || isDig c || c == 95
def zCb (c : UInt8) : Bool := c == 32 || c == 9 || c == 10
def isSym (c : UInt8) : Bool := ([59, 44, 46, 58, 40, 41, 123, 125, 91, 93, 61, 60, 62, 47, 43, 45, 42] : Tx).contains c
def unq : Tx → Tx → Nat → Option (Tx × Nat)
 | [], _, _ => none
 | c :: r, acc, n =>
   if c = 34 then some (acc, n + 1)
   else if c = 10 then none
   else if c = 92 then
    match r with
    | [] => none
    | d :: r' => if d = 92 then unq r' (acc ++ [92]) (n + 2) else if d = 34 then unq r' (acc ++ [34]) (n + 2) else if d = 110 then unq r' (acc ++ [10]) (n + 2) else none
   else unq r (acc ++ [c]) (n + 1)
def spn (p : UInt8 → Bool) (s : Tx) : Nat := (s.takeWhile p).length
abbrev noErr (i : Nat) : Fo := ⟨⟨0, [], i⟩, 10⟩
def step (s : Tx) (i : Nat) : Nat × Option Fo :=
 match s with
 | [] => (0, none)
 | c :: r =>
   if isLet c then (spn zA1 s, some ⟨⟨1, s.take (spn zA1 s), i⟩, if 24 < spn zA1 s then 7 else 0⟩)
   else if isDig c then (spn isDig s, some ⟨⟨2, s.take (spn isDig s), i⟩, if 7 < spn isDig s ∨ (s.drop (spn isDig s)).head?.any zA1 = true then 11 else 0⟩)
   else if zCb c then (1, none)
   else if c = 35 then (spn (fun d => !(d == 10)) s, none)
   else if c = 34 then
    match unq r [] 1 with
    | some (t, n) => (n, some ⟨⟨3, t, i⟩, 0⟩)
    | none => (0, some (noErr i))
   else if isSym c then (1, some ⟨⟨4, [c], i⟩, 0⟩)
   else (0, some (noErr i))
def lexF : Nat → Tx → Nat → List Fo
 | 0, _, _ => []
 | k + 1, s, i =>
   if s = [] then []
   else match (step s i).2 with
    | none => lexF k (s.drop (step s i).1) (i + (step s i).1)
    | some f => if f.err = 0 then f :: lexF k (s.drop (step s i).1) (i + (step s i).1) else [f]
def lexR (t : Tx) : List Fo := lexF t.length t 0
def bad (l : List Fo) : Option Fo := l.find? fun f => decide (f.err ≠ 0)
def lexP (t : Tx) : List Tok × Int × Int :=
 match bad (lexR t) with
 | some f => ([], f.err, f.tok.pos)
 | none => ((lexR t).map Fo.tok, 0, 0)
inductive PR where
 | ok (f : F) (r : List Tok)
 | no (e p : Int)
def failP (en : Int) : List Tok → PR
 | [] => .no 9 en
 | t :: _ => .no 8 t.pos
def gotN (k : Int) (ws : List Tx) (l : List Tok) : Option Nat :=
 match l with
 | [] => none
 | t :: _ => if t.kind = k then ws.findIdx? fun w => t.text == w else none
def needP (en : Int) (w : Tx) (l : List Tok) (go : List Tok → PR) : PR :=
 match gotN 4 [w] l with
 | some _ => go l.tail
 | none => failP en l
def thenP (p : PR) (go : F → List Tok → PR) : PR :=
 match p with
 | .ok f r => go f r
 | .no e p => .no e p
def loopP (opd : List Tok → PR) (first : Int) (a b : Tx) : Nat → F → List Tok → PR
 | 0, f, l => .ok f l
 | k + 1, f, l =>
   match gotN 4 [a, b] l with
   | none => .ok f l
   | some i => thenP (opd l.tail) fun g r => loopP opd first a b k (.mk (first + i) 0 [f, g]) r
def zDw (opd : List Tok → PR) (first : Int) (a b : Tx) (l : List Tok) : PR := thenP (opd l) fun f r => loopP opd first a b r.length f r
def digs (s : Tx) : Int := s.foldl (fun n c => 10 * n + ((c.toNat : Int) - 48)) 0
def tKm : Tx := [107, 109]
def tCy : Tx := [99, 121, 99, 108, 101, 115]
def tLd : Tx := [108, 111, 97, 100]
def tMin : Tx := [109, 105, 110]
def tMax : Tx := [109, 97, 120]
def tIf : Tx := [105, 102]
def argsP (fo : List Tok → PR) (en op : Int) : Nat → List F → List Tok → PR
 | 0, fs, l => needP en [41] l fun r => .ok (.mk op 0 fs) r
 | n + 1, fs, l => needP en [44] l fun r => thenP (fo r) fun g r' => argsP fo en op n (fs ++ [g]) r'
def callP (fo : List Tok → PR) (en : Int) (i : Nat) (l : List Tok) : PR :=
 needP en [40] l fun r => thenP (fo r) fun f r' => argsP fo en (9 + i) (max 1 i) [f] r'
def parP (fo : List Tok → PR) (en : Int) (l : List Tok) : PR := needP en [40] l fun r => thenP (fo r) fun f r' => needP en [41] r' fun r'' => .ok f r''
def factP (fo : List Tok → PR) (en : Int) (l : List Tok) : PR :=
 match l with
 | [] => .no 9 en
 | t :: r =>
   if t.kind = 2 then .ok (.mk 1 (digs t.text) []) r
   else match gotN 1 [tKm, tCy, tLd] l with
    | some i => .ok (.mk (2 + i) 0 []) r
    | none => match gotN 1 [tMin, tMax, tIf] l with
      | some i => callP fo en i r
      | none => parP fo en l
def prodP (fo : List Tok → PR) (en : Int) (l : List Tok) : PR := zDw (factP fo en) 7 [42] [47] l
def sumP (fo : List Tok → PR) (en : Int) (l : List Tok) : PR := zDw (prodP fo en) 5 [43] [45] l
def formP (en : Int) : Nat → List Tok → PR
 | 0, l => .no 9 en
 | k + 1, l => sumP (formP en k) en l
def zeroF : F := .mk 0 0 []
def zCd (en : Int) (l : List Tok) : F × Int × Int :=
 match formP en (l.length + 1) l with
 | .no e p => (zeroF, e, p)
 | .ok f (t :: _) => (zeroF, 8, t.pos)
 | .ok f [] => if f.nodes ≤ 60 then (f, 0, 0) else (zeroF, 7, 0)
def zBh (s : Tx) : F × Int × Int :=
 match lexP s with
 | (l, e, p) => if e = 0 then zCd s.length l else (zeroF, e, p)
def ex1 : Tx := [107, 109, 32, 43, 32, 99, 121, 99, 108, 101, 115, 32, 42, 32, 109, 97, 120, 40, 108, 111, 97, 100, 32, 45, 32, 50, 48, 48, 44, 32, 48, 41, 32, 47, 32, 49, 48, 48]
def ex2 : Tx := [105, 102, 40, 108, 111, 97, 100, 32, 45, 32, 49, 48, 44, 32, 107, 109, 44, 32, 48, 41]
def F1 : F := .mk 5 0 [.mk 2 0 [], .mk 8 0 [.mk 7 0 [.mk 3 0 [], .mk 10 0 [.mk 6 0 [.mk 4 0 [], .mk 1 200 []], .mk 1 0 []]], .mk 1 100 []]]
def F2 : F := .mk 11 0 [.mk 6 0 [.mk 4 0 [], .mk 1 10 []], .mk 2 0 [], .mk 1 0 []]
end Go.Proofs.YtkjnhkoipgdfeaaDoor
end
section
set_option maxRecDepth 100000
set_option linter.unusedSimpArgs false
set_option linter.unusedVariables false
namespace Go.Proofs.YtkjnhkoipgdfeaaDoor
open Go GoV
mutual
def F.d : F → D
 | .mk op n ks => .agg [.int .i64 op, .int .i64 n, .slice (F.dL ks) .no]
def F.dL : List F → List D
 | [] => []
 | k :: ks => F.d k :: F.dL ks
end
theorem fdL_map : ∀ ks : List F, F.dL ks = ks.map F.d
 | [] => rfl
 | k :: ks => by simp [F.dL, fdL_map ks]
@[reducible] def F.cells (f : F) : List D := [.int .i64 f.op, .int .i64 f.num, .slice (f.kids.map F.d) .no]
theorem F.d_eq (f : F) : f.d = .agg f.cells := by
 cases f; simp [F.d, F.cells, F.op, F.num, F.kids, fdL_map]
theorem F.nodes_eq (f : F) : f.nodes = 1 + F.nodesL f.kids := by cases f; simp [F.nodes, F.kids]
theorem F.well_eq (f : F) : f.well = (okN f.op f.num f.kids.length && F.wellL f.kids) := by cases f; rfl
theorem zCy (f : F) : 0 < f.nodes := by rw [F.nodes_eq]; omega
theorem nodesL_mem : ∀ {ks : List F} {k : F}, k ∈ ks → k.nodes ≤ F.nodesL ks
 | [], _, h => by simp at h
 | k' :: ks, k, h => by
   simp only [F.nodesL]
   rcases List.mem_cons.1 h with rfl | h
   ·omega
   ·have := nodesL_mem h; omega
theorem zB0 {f k : F} (h : k ∈ f.kids) : k.nodes < f.nodes := by have := nodesL_mem h; rw [F.nodes_eq f]; omega
theorem zE0 : ∀ ks : List F, ks.length ≤ F.nodesL ks
 | [] => by simp
 | k :: ks => by have := zE0 ks; have := zCy k; simp only [F.nodesL, List.length_cons]; omega
theorem nodesL_take : ∀ (ks : List F) (j : Nat) (h : j < ks.length), F.nodesL (ks.take (j + 1)) = F.nodesL (ks.take j) + ks[j].nodes
 | k :: ks, 0, h => by simp [F.nodesL]
 | k :: ks, j + 1, h => by
   simp only [List.take_succ_cons, F.nodesL, List.getElem_cons_succ]
   rw [nodesL_take ks j (by simpa using h)]; omega
theorem nodesL_le (ks : List F) (j : Nat) : F.nodesL (ks.take j) ≤ F.nodesL ks := by
 induction ks generalizing j with
 | nil => simp [F.nodesL]
 | cons k ks ih =>
   cases j with
   | zero => simp [F.nodesL]
   | succ j => simp only [List.take_succ_cons, F.nodesL]; have := ih j; omega
theorem wellL_all : ∀ ks : List F, F.wellL ks = ks.all F.well
 | [] => rfl
 | k :: ks => by simp [F.wellL, wellL_all ks]
theorem er_F (x : F) : x.d.er = x.d := by cases x; simp [F.d, D.er, D.erL]
theorem cl_F (x : F) : D.closed x.d = true := by cases x; simp [F.d, D.closed, D.cL]
theorem erL_F : ∀ ks : List F, D.erL (ks.map F.d) = ks.map F.d
 | [] => rfl
 | k :: ks => by simp [D.erL, er_F k, erL_F ks]
theorem zAh : ∀ ks : List F, D.cL (ks.map F.d) = true
 | [] => rfl
 | k :: ks => by simp [D.cL, cl_F k, zAh ks]
theorem zEo (x : F) : x.d.iV = true ∧ x.d.cells.length = 3 := by rw [F.d_eq]; exact ⟨rfl, rfl⟩
mutual
theorem rn_F (β τ : Nat → Option Nat) : ∀ x : F, x.d.rn β τ = x.d
 | .mk op n ks => by simp [F.d, D.rn, D.rnL, Own.rn, rnL_F' β τ ks]
theorem rnL_F' (β τ : Nat → Option Nat) : ∀ ks : List F, D.rnL β τ (F.dL ks) = F.dL ks
 | [] => rfl
 | k :: ks => by simp [F.dL, D.rnL, rn_F β τ k, rnL_F' β τ ks]
end
theorem rnL_F (β τ : Nat → Option Nat) (ks : List F) : D.rnL β τ (ks.map F.d) = ks.map F.d := by rw [← fdL_map]; exact rnL_F' β τ ks
theorem nodes_p : ∀ (k : Nat) (x : F), x.nodes ≤ k → ∀ m : Nat, m ≤ 1000 → Pur M 30 [x.d, .int .i64 m] (.int .i64 (min x.nodes (m + 1) : Nat))
 | 0, x, hk, _, _ => by have := zCy x; omega
 | k + 1, x, hk, m, hm => by
   have ih : ∀ y ∈ x.kids, ∀ q : Nat, q ≤ 1000 → Pur M 30 [y.d, .int .i64 q] (.int .i64 (min y.nodes (q + 1) : Nat)) := fun y hy q hq => nodes_p k y (by have := zB0 hy; omega) q hq
   refine k30.ok (C := C30) rfl rfl ?_
   rw [i30]
   unfold c30
   have hN := F.nodes_eq x
   have hlen : (x.kids.map F.d).length = x.kids.length := by simp
   have hge : ∀ i, i ≤ x.kids.length → i ≤ F.nodesL (x.kids.take i) := fun i hi => by
    have := zE0 (x.kids.take i)
    rw [List.length_take] at this; omega
   rw [F.d_eq]
   have wQ := tw; repeat' (first | with_reducible (apply swq; constructor) | simp only [go_sem, seval, P30, q30, hlen] | with_reducible (apply cdA; constructor) | ((with_reducible refine And.intro ?hw ?_); (case hw => exact sw wQ)) | with_reducible intro _)
   refine zD0 [1, 4, 6, 7, 8] 0 0 (Nat.le_refl 0) (Nat.le_refl 0) (fun i : Nat => ⟨[.u0, .int .i64 m, .u0, .u0, .int .i64 (min (1 + F.nodesL (x.kids.take i)) (m + 1) : Nat), .u0, .slice (x.kids.map F.d) .no, .int .i64 x.kids.length, .int .i64 i, .u0, .u0], [], ⟨[], []⟩⟩) (fun i => i ≤ x.kids.length ∧ i ≤ m + 1) (fun i => m + 2 - i) 0 ⟨by omega, by omega⟩ ?_ ?_
   ·simp [keepE, St.keep, St.keepG, St.gc, Hp.cut, D.rn, D.rnL, Blk.rnL, Blk.rn, Tv.rnL, cutF, Own.rn, rnL_F, F.nodesL]
    try omega
   ·rintro i ⟨hi, him⟩
    by_cases hil : i < x.kids.length
    ·have hg : (x.kids.map F.d).getD i .u0 = .agg (x.kids[i]).cells := by simp [List.getD, hil, F.d_eq]
     by_cases hle : 1 + F.nodesL (x.kids.take i) ≤ m
     ·have hmin : min (1 + F.nodesL (x.kids.take i)) (m + 1) = 1 + F.nodesL (x.kids.take i) := by omega
      have hst := nodesL_take x.kids i hil
      have c1 := ih _ (List.getElem_mem hil) (m - (1 + F.nodesL (x.kids.take i))) (by omega)
      have hck := zAh (x.kids[i]).kids
      have hek := erL_F (x.kids[i]).kids
      have hlei := hge i hi
      rw [F.d_eq] at c1
      rw [hmin]
      generalize F.nodesL (x.kids.take i) = z at *
      generalize hz0 : F.nodesL (x.kids.take (i + 1)) = z' at *
      have hsub : ((m : Int) - ((1 + z : Nat) : Int)) = ((m - (1 + z) : Nat) : Int) := by omega
      generalize hq : m - (1 + z) = q at *
      have wQ := And.intro @hlen (And.intro @hg (And.intro @hck @hek)); repeat' (first | with_reducible (apply swq; constructor) | simp only [go_sem, seval, P30, q30, hlen, hg, hsub] | simp (disch := omega) only [w64, w32, wu8, wu16, wu32, wu64] | ((with_reducible refine zAb (c1) ?he ?hc ?_); (case he | hc => exact sc wQ)) | with_reducible (apply cdA; constructor) | ((with_reducible refine And.intro ?hw ?_); (case hw => exact sw wQ)) | with_reducible intro _)
      all_goals try (exfalso; omega)
      refine ⟨i + 1, ⟨by omega, by omega⟩, by omega, ?_⟩
      simp [keepE, St.keep, St.keepG, St.gc, Hp.cut, D.rn, D.rnL, Blk.rnL, Blk.rn, Tv.rnL, cutF, Own.rn, rnL_F, hz0]
      try omega
     ·have hle2 := nodesL_le x.kids i
      have hmin : min (1 + F.nodesL (x.kids.take i)) (m + 1) = m + 1 := by omega
      have hres : min x.nodes (m + 1) = m + 1 := by omega
      rw [hmin, hres]
      have wQ := And.intro @hlen @hg; repeat' (first | with_reducible (apply swq; constructor) | simp only [go_sem, seval, P30, q30, hlen, hg] | simp (disch := omega) only [w64, w32, wu8, wu16, wu32, wu64] | with_reducible (apply cdA; constructor) | ((with_reducible refine And.intro ?hw ?_); (case hw => exact sw wQ)) | with_reducible intro _)
      all_goals try (exfalso; omega)
      all_goals simp [D.closed, D.er]
    ·have hie : i = x.kids.length := by omega
     subst hie
     rw [List.take_length, ← hN]
     by_cases hle : x.nodes ≤ m
     ·have hmin : min x.nodes (m + 1) = x.nodes := by omega
      rw [hmin]
      have wQ := @hlen; repeat' (first | with_reducible (apply swq; constructor) | simp only [go_sem, seval, P30, q30, hlen] | simp (disch := omega) only [w64, w32, wu8, wu16, wu32, wu64] | with_reducible (apply cdA; constructor) | ((with_reducible refine And.intro ?hw ?_); (case hw => exact sw wQ)) | with_reducible intro _)
      all_goals try (exfalso; omega)
      all_goals simp [D.closed, D.er]
     ·have hmin : min x.nodes (m + 1) = m + 1 := by omega
      rw [hmin]
      have wQ := @hlen; repeat' (first | with_reducible (apply swq; constructor) | simp only [go_sem, seval, P30, q30, hlen] | simp (disch := omega) only [w64, w32, wu8, wu16, wu32, wu64] | with_reducible (apply cdA; constructor) | ((with_reducible refine And.intro ?hw ?_); (case hw => exact sw wQ)) | with_reducible intro _)
      all_goals try (exfalso; omega)
      all_goals simp [D.closed, D.er]
end Go.Proofs.YtkjnhkoipgdfeaaDoor
end
section
set_option maxRecDepth 100000
set_option linter.unusedSimpArgs false
set_option linter.unusedVariables false
namespace Go.Proofs.YtkjnhkoipgdfeaaDoor
open Go GoV
theorem all_bad {p : F → Bool} {ks : List F} {i : Nat} (hi : i < ks.length) (h : p ks[i] = false) : ks.all p = false := by
 rw [List.all_eq_false]; exact ⟨ks[i], List.getElem_mem hi, by simp [h]⟩
theorem all_good {p : F → Bool} {ks : List F} (h : ∀ j (h : j < ks.length), p ks[j] = true) : ks.all p = true := by
 rw [List.all_eq_true]
 intro y hy
 obtain ⟨j, hj, rfl⟩ := List.getElem_of_mem hy
 exact h j hj
theorem want_cases (op : Int) : (op = 11 → want op = 3) ∧ (op ≠ 11 → 5 ≤ op → want op = 2) ∧ (op ≠ 11 → ¬ 5 ≤ op → want op = 0) := by
 unfold want
 refine ⟨fun h => by rw [if_pos h], fun h h2 => by rw [if_neg h, if_pos h2], fun h h2 => by rw [if_neg h, if_neg h2]⟩
set_option maxHeartbeats 1000000 in
theorem right_p : ∀ (k : Nat) (x : F), x.nodes ≤ k → x.nodes ≤ 1000 → Pur M 31 [x.d] (.bool x.well)
 | 0, x, hk, _ => by have := zCy x; omega
 | k + 1, x, hk, hx => by
   have ih : ∀ y ∈ x.kids, Pur M 31 [y.d] (.bool y.well) := fun y hy => right_p k y (by have := zB0 hy; omega) (by have := zB0 hy; omega)
   refine k31.ok (C := C31) rfl rfl ?_
   rw [i31]
   unfold c31
   have hlen : (x.kids.map F.d).length = x.kids.length := by simp
   have hkl : x.kids.length < 1000 := by have := zE0 x.kids; have := F.nodes_eq x; omega
   rw [F.d_eq, F.well_eq, wellL_all]
   cases hok : okN x.op x.num x.kids.length
   ·rw [Bool.false_and]
    unfold okN at hok
    have hok := of_decide_eq_false hok
    obtain ⟨hw1, hw2, hw3⟩ := want_cases x.op
    generalize want x.op = wn at *
    have wQ := @hlen; repeat' (first | with_reducible (apply swq; constructor) | simp only [go_sem, seval, P31, q31, hlen] | simp (disch := omega) only [w64, w32, wu8, wu16, wu32, wu64] | (with_reducible first | (apply cdA; constructor) | (apply gdA; constructor)) | ((with_reducible refine And.intro ?hw ?_); (case hw => exact sw wQ)) | with_reducible intro _)
    all_goals try (exfalso; omega)
    all_goals simp [D.closed, D.er]
   ·rw [Bool.true_and]
    unfold okN at hok
    have hok := of_decide_eq_true hok
    obtain ⟨hw1, hw2, hw3⟩ := want_cases x.op
    generalize want x.op = wn at *
    have wQ := @hlen; repeat' (first | with_reducible (apply swq; constructor) | simp only [go_sem, seval, P31, q31, hlen] | simp (disch := omega) only [w64, w32, wu8, wu16, wu32, wu64] | (with_reducible first | (apply cdA; constructor) | (apply gdA; constructor)) | ((with_reducible refine And.intro ?hw ?_); (case hw => exact sw wQ)) | with_reducible intro _)
    all_goals try (exfalso; omega)
    all_goals
     refine zD0 [9, 10, 11] 0 0 (Nat.le_refl 0) (Nat.le_refl 0) (fun i : Nat => ⟨[.u0, .u0, .u0, .u0, .u0, .u0, .u0, .u0, .u0, .slice (x.kids.map F.d) .no, .int .i64 x.kids.length, .int .i64 i, .u0, .u0], [], ⟨[], []⟩⟩) (fun i => i ≤ x.kids.length ∧ ∀ j (h : j < x.kids.length), j < i → (x.kids[j]).well = true) (fun i => x.kids.length - i) 0 ⟨by omega, fun j h h' => by omega⟩ ?_ ?_
     ·simp [keepE, St.keep, St.keepG, St.gc, Hp.cut, D.rn, D.rnL, Blk.rnL, Blk.rn, Tv.rnL, cutF, Own.rn, rnL_F]
     ·rintro i ⟨hi, hb⟩
      by_cases hil : i < x.kids.length
      ·have hg : (x.kids.map F.d).getD i .u0 = .agg (x.kids[i]).cells := by simp [List.getD, hil, F.d_eq]
       have c1 := ih _ (List.getElem_mem hil)
       have hck := zAh (x.kids[i]).kids
       have hek := erL_F (x.kids[i]).kids
       rw [F.d_eq] at c1
       cases hs : F.well x.kids[i]
       ·rw [hs] at c1
        rw [all_bad hil hs]
        have wQ := And.intro @hlen (And.intro @hg (And.intro @hck @hek)); repeat' (first | with_reducible (apply swq; constructor) | simp only [go_sem, seval, P31, q31, hlen, hg] | simp (disch := omega) only [w64, w32, wu8, wu16, wu32, wu64] | ((with_reducible refine zAb (c1) ?he ?hc ?_); (case he | hc => exact sc wQ)) | (with_reducible first | (apply cdA; constructor) | (apply gdA; constructor)) | ((with_reducible refine And.intro ?hw ?_); (case hw => exact sw wQ)) | with_reducible intro _)
        all_goals try (exfalso; omega)
        all_goals simp [D.closed, D.er]
       ·rw [hs] at c1
        have wQ := And.intro @hlen (And.intro @hg (And.intro @hck @hek)); repeat' (first | with_reducible (apply swq; constructor) | simp only [go_sem, seval, P31, q31, hlen, hg] | simp (disch := omega) only [w64, w32, wu8, wu16, wu32, wu64] | ((with_reducible refine zAb (c1) ?he ?hc ?_); (case he | hc => exact sc wQ)) | (with_reducible first | (apply cdA; constructor) | (apply gdA; constructor)) | ((with_reducible refine And.intro ?hw ?_); (case hw => exact sw wQ)) | with_reducible intro _)
        all_goals try (exfalso; omega)
        all_goals refine ⟨i + 1, ⟨by omega, fun j h h' => by
         by_cases e : j = i
         ·subst e; exact hs
         ·exact hb j h (by omega)⟩, by omega, ?_⟩
        all_goals simp [keepE, St.keep, St.keepG, St.gc, Hp.cut, D.rn, D.rnL, Blk.rnL, Blk.rn, Tv.rnL, cutF, Own.rn, rnL_F]
      ·rw [all_good fun j h => hb j h (by omega)]
       have wQ := @hlen; repeat' (first | with_reducible (apply swq; constructor) | simp only [go_sem, seval, P31, q31, hlen] | simp (disch := omega) only [w64, w32, wu8, wu16, wu32, wu64] | (with_reducible first | (apply cdA; constructor) | (apply gdA; constructor)) | ((with_reducible refine And.intro ?hw ?_); (case hw => exact sw wQ)) | with_reducible intro _)
       all_goals try (exfalso; omega)
       all_goals simp [D.closed, D.er]
theorem valid_p (x : F) : Pur M 12 [x.d] (.bool x.valid) := by
 refine k12.ok (C := C12) rfl rfl ?_
 rw [i12]
 unfold c12
 have c1 := nodes_p x.nodes x (Nat.le_refl _) 60 (by omega)
 have hck := zAh x.kids
 have hek := erL_F x.kids
 unfold F.valid
 by_cases h : x.nodes ≤ 60
 ·have c2 := right_p x.nodes x (Nat.le_refl _) (by omega)
  rw [decide_eq_true h, Bool.true_and]
  rw [F.d_eq] at c1 c2 ⊢
  rw [show min x.nodes (60 + 1) = x.nodes by omega] at c1
  generalize x.nodes = q at *
  have hd : decide ((q : Int) ≤ 60) = true := decide_eq_true (by omega)
  have wQ := And.intro @hck @hek; repeat' (first | with_reducible (apply swq; constructor) | simp only [go_sem, seval, P12, q12, hd] | ((with_reducible refine zAb (c1) ?he ?hc ?_); (case he | hc => exact sc wQ)) | ((with_reducible refine zAb (c2) ?he ?hc ?_); (case he | hc => exact sc wQ)) | (with_reducible first | (apply cdA; constructor) | (apply gdA; constructor)) | ((with_reducible refine And.intro ?hw ?_); (case hw => exact sw wQ)) | with_reducible intro _)
  all_goals first | omega | (simp_all [D.closed, D.er, D.cL, D.erL]; done) | (simp_all [D.closed, D.er, D.cL, D.erL] <;> omega)
 ·rw [decide_eq_false h, Bool.false_and]
  rw [F.d_eq] at c1 ⊢
  rw [show min x.nodes (60 + 1) = 61 by omega] at c1
  have wQ := And.intro @hck @hek; repeat' (first | with_reducible (apply swq; constructor) | simp only [go_sem, seval, P12, q12] | ((with_reducible refine zAb (c1) ?he ?hc ?_); (case he | hc => exact sc wQ)) | (with_reducible first | (apply cdA; constructor) | (apply gdA; constructor)) | ((with_reducible refine And.intro ?hw ?_); (case hw => exact sw wQ)) | with_reducible intro _)
  all_goals first | omega | (simp_all [D.closed, D.er, D.cL, D.erL]; done) | (simp_all [D.closed, D.er, D.cL, D.erL] <;> omega)
abbrev ivD (i : Iv) : D := .agg [.int .i64 i.1, .int .i64 i.2]
@[reducible] def useD (u : Use) : D := .agg [.int .i64 u.km.1, .int .i64 u.km.2, .int .i64 u.cy.1, .int .i64 u.cy.2, .int .i64 u.ld.1, .int .i64 u.ld.2]
instance (i : Iv) : Decidable (okI i) := by unfold okI; infer_instance
instance (i : Iv) (n : Int) : Decidable (In i n) := by unfold In; infer_instance
instance (a b : Iv) : Decidable (Sub a b) := by unfold Sub; infer_instance
theorem okI_dec (i : Iv) : decide (okI i) = (decide (-1000000000000 ≤ i.1) && decide (i.1 ≤ i.2) && decide (i.2 ≤ 1000000000000)) := by
 rw [Bool.eq_iff_iff, decide_eq_true_iff]; simp [okI, and_assoc]
theorem zF0 (i : Iv) : Pur M 19 [ivD i] (.bool (decide (okI i))) := by
 refine k19.ok (C := C19) rfl rfl ?_
 rw [i19]
 unfold c19
 rw [okI_dec]
 cases e1 : decide (-1000000000000 ≤ i.1) <;> cases e2 : decide (i.1 ≤ i.2) <;> cases e3 : decide (i.2 ≤ 1000000000000)
 all_goals
  have wQ := tw; repeat' (first | with_reducible (apply swq; constructor) | simp only [go_sem, seval, P19, q19, e1, e2, e3] | simp (disch := omega) only [w64, w32, wu8, wu16, wu32, wu64] | (with_reducible first | (apply cdA; constructor) | (apply gdA; constructor)) | ((with_reducible refine And.intro ?hw ?_); (case hw => exact sw wQ)) | with_reducible intro _)
  all_goals simp [D.closed, D.er]
  all_goals (simp only [decide_eq_true_eq, decide_eq_false_iff_not] at e1 e2 e3; first | done | omega)
theorem of_p (a b : Int) : Pur M 21 [.int .i64 a, .int .i64 b] (ivD (a, b)) := by
 refine k21.ok (C := C21) rfl rfl ?_
 rw [i21]
 unfold c21
 have wQ := tw; repeat' (first | with_reducible (apply swq; constructor) | simp only [go_sem, seval, P21, q21] | with_reducible (apply cdA; constructor) | ((with_reducible refine And.intro ?hw ?_); (case hw => exact sw wQ)) | with_reducible intro _)
 all_goals first | omega | (simp_all [D.closed, D.er, D.cL, D.erL]; done) | (simp_all [D.closed, D.er, D.cL, D.erL] <;> omega)
end Go.Proofs.YtkjnhkoipgdfeaaDoor
end
section
set_option maxRecDepth 100000
set_option linter.unusedSimpArgs false
set_option linter.unusedVariables false
namespace Go.Proofs.YtkjnhkoipgdfeaaDoor
open Go GoV Go.RowKit
theorem minW (a b : Int) : (if b < a then b else a) = min a b := by split <;> omega
theorem maxW (a b : Int) : (if b > a then b else a) = max a b := by split <;> omega
theorem bq1 : (false == false) = true := rfl
theorem bq2 : (true == true) = true := rfl
theorem bq3 : (false == true) = false := rfl
theorem bq4 : (true == false) = false := rfl
theorem sat117_p (a : Int) : Pur M 117 [.int .i64 a] (.int .i64 (sat a)) := by
 refine k117.ok (C := C117) rfl rfl ?_
 rw [i117]
 unfold c117
 have e : sat a = max (-1000000000000) (min a 1000000000000) := rfl
 rw [e]
 have wQ := tw; repeat' (first | with_reducible (apply swq; constructor) | simp only [go_sem, seval, P117, q117, minW, maxW] | with_reducible (apply cdA; constructor) | ((with_reducible refine And.intro ?hw ?_); (case hw => exact sw wQ)) | with_reducible intro _)
 all_goals first | omega | (simp_all [D.closed, D.er, D.cL, D.erL]; done) | (simp_all [D.closed, D.er, D.cL, D.erL] <;> omega)
theorem cut_p (a : Int) : Pur M 37 [.int .i64 a] (.int .i64 (sat a)) := by
 refine k37.ok (C := C37) rfl rfl ?_
 rw [i37]
 unfold c37
 have e : sat a = max (-1000000000000) (min a 1000000000000) := rfl
 rw [e]
 have wQ := tw; repeat' (first | with_reducible (apply swq; constructor) | simp only [go_sem, seval, P37, q37, minW, maxW] | with_reducible (apply cdA; constructor) | ((with_reducible refine And.intro ?hw ?_); (case hw => exact sw wQ)) | with_reducible intro _)
 all_goals first | omega | (simp_all [D.closed, D.er, D.cL, D.erL]; done) | (simp_all [D.closed, D.er, D.cL, D.erL] <;> omega)
theorem plus_p (a b : Int) (ha : Rg a) (hb : Rg b) : Pur M 111 [.int .i64 a, .int .i64 b] (.int .i64 (sat (a + b))) := by
 refine k111.ok (C := C111) rfl rfl ?_
 rw [i111]
 unfold c111
 obtain ⟨h1, h2⟩ := ha
 obtain ⟨h3, h4⟩ := hb
 have c1 := sat117_p (a + b)
 generalize sat (a + b) = z at *
 have wQ := tw; repeat' (first | with_reducible (apply swq; constructor) | simp only [go_sem, seval, P111, q111] | simp (disch := omega) only [w64, w32, wu8, wu16, wu32, wu64] | ((with_reducible refine zAb (c1) ?he ?hc ?_); (case he | hc => exact sc wQ)) | with_reducible (apply cdA; constructor) | ((with_reducible refine And.intro ?hw ?_); (case hw => exact sw wQ)) | with_reducible intro _)
 all_goals first | omega | (simp_all [D.closed, D.er, D.cL, D.erL]; done) | (simp_all [D.closed, D.er, D.cL, D.erL] <;> omega)
theorem minus_p (a b : Int) (ha : Rg a) (hb : Rg b) : Pur M 112 [.int .i64 a, .int .i64 b] (.int .i64 (sat (a - b))) := by
 refine k112.ok (C := C112) rfl rfl ?_
 rw [i112]
 unfold c112
 obtain ⟨h1, h2⟩ := ha
 obtain ⟨h3, h4⟩ := hb
 have c1 := sat117_p (a - b)
 generalize sat (a - b) = z at *
 have wQ := tw; repeat' (first | with_reducible (apply swq; constructor) | simp only [go_sem, seval, P112, q112] | simp (disch := omega) only [w64, w32, wu8, wu16, wu32, wu64] | ((with_reducible refine zAb (c1) ?he ?hc ?_); (case he | hc => exact sc wQ)) | with_reducible (apply cdA; constructor) | ((with_reducible refine And.intro ?hw ?_); (case hw => exact sw wQ)) | with_reducible intro _)
 all_goals first | omega | (simp_all [D.closed, D.er, D.cL, D.erL]; done) | (simp_all [D.closed, D.er, D.cL, D.erL] <;> omega)
theorem mul64_p (x y : Nat) (hx : x < 18446744073709551616) (hy : y < 18446744073709551616) : Pur M 118 [.int .u64 x, .int .u64 y] (.tup [.int .u64 (x * y / 18446744073709551616 : Nat), .int .u64 (x * y % 18446744073709551616 : Nat)]) := by
 refine pur_ext (vs := [.int .u64 x, .int .u64 y]) (v := .tuple #[.int .u64 (x * y / 18446744073709551616 : Nat), .int .u64 (x * y % 18446744073709551616 : Nat)]) ⟨Tryd.f118, Tryd.func118, rfl, rfl⟩ (fun w I xs h => ?_) (fun w I => ?_) (fun w hA => ?_)
 ·obtain ⟨x, xs', rfl, g1, g2⟩ := h.inv
  obtain ⟨x2, xs2, rfl, g3, g4⟩ := g2.inv
  simp only [Rel] at g1 g3
  rw [g4.inv_nil, g1, g3]
 ·simp only [Rel]
  exact ⟨_, rfl, by simp [RelL, Rel]⟩
 ·refine (Tryd.bits_Mul64 x y hx hy w).mono fun e w' h' => ?_
  obtain ⟨rfl, rfl⟩ := h'
  exact ⟨rfl, ⟨rfl, rfl, rfl, Nat.le_refl _, fun _ _ => rfl⟩⟩
theorem mul_abs (a b : Int) : a * b = if (decide (a < 0)) = decide (b < 0) then ((a.natAbs * b.natAbs : Nat) : Int) else -((a.natAbs * b.natAbs : Nat) : Int) := by
 rcases Int.natAbs_eq a with h | h <;> rcases Int.natAbs_eq b with g | g
 all_goals
  rw [Int.natCast_mul]
  generalize a.natAbs = x at *
  generalize b.natAbs = y at *
  subst h; subst g
 ·rw [if_pos (by simp; omega)]
 ·by_cases hy : y = 0
  ·subst hy; simp
  ·rw [if_neg (by simp; omega)]; rw [Int.mul_neg]
 ·by_cases hx : x = 0
  ·subst hx; simp
  ·rw [if_neg (by simp; omega)]; rw [Int.neg_mul]
 ·by_cases hx : x = 0
  ·subst hx; simp
  ·by_cases hy : y = 0
   ·subst hy; simp
   ·rw [if_pos (by simp; omega)]; rw [Int.neg_mul_neg]
theorem abs_max (a : Int) : max a (0 - a) = (a.natAbs : Int) := by omega
set_option maxHeartbeats 1000000 in
theorem times_p (a b : Int) (ha : Rg a) (hb : Rg b) : Pur M 113 [.int .i64 a, .int .i64 b] (.int .i64 (sat (a * b))) := by
 refine k113.ok (C := C113) rfl rfl ?_
 rw [i113]
 unfold c113
 obtain ⟨h1, h2⟩ := ha
 obtain ⟨h3, h4⟩ := hb
 have hx : a.natAbs ≤ 1000000000000 := by omega
 have hy : b.natAbs ≤ 1000000000000 := by omega
 have c1 := mul64_p a.natAbs b.natAbs (by omega) (by omega)
 have hm := Nat.mul_le_mul hx hy
 have em := mul_abs a b
 have ea := abs_max a
 have eb := abs_max b
 have e : sat (a * b) = max (-1000000000000) (min (a * b) 1000000000000) := rfl
 generalize sat (a * b) = sz at *
 generalize a.natAbs * b.natAbs = p at *
 have d1 : p / 18446744073709551616 = 0 ↔ p < 18446744073709551616 := by omega
 have d2 : p < 18446744073709551616 → p % 18446744073709551616 = p := fun h => Nat.mod_eq_of_lt h
 have d3 : p / 18446744073709551616 < 18446744073709551616 := by omega
 have d4 : p % 18446744073709551616 < 18446744073709551616 := by omega
 generalize p / 18446744073709551616 = hi at *
 generalize p % 18446744073709551616 = lo at *
 generalize a * b = z at *
 cases ta : decide (a < 0) <;> cases tb : decide (b < 0)
 all_goals
  rw [ta, tb] at em
  simp only [Bool.false_eq_true, Bool.true_eq_false, reduceIte, reduceCtorEq] at em
  generalize a.natAbs = x at *
  generalize b.natAbs = y at *
  have wQ := tw; repeat' (first | with_reducible (apply swq; constructor) | simp only [go_sem, seval, P113, q113, minW, maxW, ta, tb, ea, eb, bq1, bq2, bq3, bq4, Bool.not_true, Bool.not_false] | simp (disch := omega) only [w64, w32, wu8, wu16, wu32, wu64] | ((with_reducible refine zAb (c1) ?he ?hc ?_); (case he | hc => exact sc wQ)) | (with_reducible first | (apply cdA; constructor) | (apply gdA; constructor)) | ((with_reducible refine And.intro ?hw ?_); (case hw => exact sw wQ)) | with_reducible intro _)
  all_goals try (exfalso; omega)
  all_goals simp only [decide_eq_true_eq, decide_eq_false_iff_not] at ta tb
  all_goals clear ea eb
  all_goals simp only [D.closed, D.er, List.getElem?_cons_zero, List.getElem?_cons_succ, Option.getD_some, true_and, D.int.injEq]
  all_goals omega
theorem ediv_tdiv {a b : Int} (hb : 0 < b) : a / b = if a.tdiv b * b ≠ a ∧ a < 0 then a.tdiv b - 1 else a.tdiv b := by
 have hq := Int.tdiv_eq_ediv (a := a) (b := b)
 have hs : b.sign = 1 := Int.sign_eq_one_of_pos hb
 generalize a.tdiv b = q at *
 by_cases h0 : 0 ≤ a
 ·rw [if_pos (Or.inl h0)] at hq
  rw [if_neg (by omega)]; omega
 ·by_cases hd : b ∣ a
  ·rw [if_pos (Or.inr hd)] at hq
   have := Int.ediv_mul_cancel hd
   rw [if_neg]
   ·omega
   ·rintro ⟨h, _⟩
    exact h (by rw [hq, Int.add_zero]; exact this)
  ·rw [if_neg (fun h => h.elim h0 hd), hs] at hq
   rw [if_pos]
   ·omega
   ·exact ⟨fun h => hd ⟨q, by rw [Int.mul_comm]; exact h.symm⟩, by omega⟩
theorem fl_tdiv {a b : Int} (hb : b ≠ 0) : fl a b = if a.tdiv b * b ≠ a ∧ decide (a < 0) ≠ decide (b < 0) then a.tdiv b - 1 else a.tdiv b := by
 unfold fl
 rw [if_neg hb]
 by_cases hp : 0 < b
 ·rw [if_pos hp, ediv_tdiv hp]
  have : decide (b < 0) = false := by simp; omega
  rw [this]
  by_cases hc : a.tdiv b * b ≠ a ∧ a < 0
  ·rw [if_pos hc, if_pos ⟨hc.1, by simp [hc.2]⟩]
  ·rw [if_neg hc, if_neg (by simpa using hc)]
 ·rw [if_neg hp, ediv_tdiv (by omega)]
  have : decide (b < 0) = true := by simp; omega
  rw [this, Int.neg_tdiv_neg, Int.mul_neg]
  by_cases h0 : a = 0
  ·subst h0; simp
  ·by_cases hc : a.tdiv b * b ≠ a ∧ ¬ a < 0
   ·rw [if_pos ⟨by omega, by omega⟩, if_pos ⟨hc.1, by simp; omega⟩]
   ·rw [if_neg (by omega), if_neg (by simp only [ne_eq, decide_eq_true_eq]; exact hc)]
theorem tdiv_rng {a b : Int} (ha : Rg a) : Rg (a.tdiv b) ∧ Rg (a.tdiv b * b) := by
 have h1 : (a.tdiv b).natAbs = a.natAbs / b.natAbs := Int.natAbs_tdiv a b
 have h2 := Int.natAbs_mul (a.tdiv b) b
 rw [h1] at h2
 have h3 := Nat.div_mul_le_self a.natAbs b.natAbs
 have h4 := Nat.div_le_self a.natAbs b.natAbs
 obtain ⟨g1, g2⟩ := ha
 generalize a.natAbs / b.natAbs * b.natAbs = u at *
 generalize a.natAbs / b.natAbs = v at *
 generalize a.tdiv b * b = m at *
 generalize a.tdiv b = q at *
 constructor <;> constructor <;> omega
set_option maxHeartbeats 1000000 in
theorem floor_p (a b : Int) (ha : Rg a) (hb : Rg b) : Pur M 115 [.int .i64 a, .int .i64 b] (.int .i64 (fl a b)) := by
 refine k115.ok (C := C115) rfl rfl ?_
 rw [i115]
 unfold c115
 by_cases h0 : b = 0
 ·subst h0
  have : fl a 0 = 0 := by simp [fl]
  rw [this]
  have wQ := tw; repeat' (first | with_reducible (apply swq; constructor) | simp only [go_sem, seval, P115, q115] | simp (disch := omega) only [w64, w32, wu8, wu16, wu32, wu64] | (with_reducible first | (apply cdA; constructor) | (apply gdA; constructor)) | ((with_reducible refine And.intro ?hw ?_); (case hw => exact sw wQ)) | with_reducible intro _)
  all_goals first | omega | (simp_all [D.closed, D.er, D.cL, D.erL]; done) | (simp_all [D.closed, D.er, D.cL, D.erL] <;> omega)
 ·rw [fl_tdiv h0]
  have hr := tdiv_rng (b := b) ha
  obtain ⟨⟨r1, r2⟩, ⟨r3, r4⟩⟩ := hr
  obtain ⟨h1, h2⟩ := ha
  obtain ⟨h3, h4⟩ := hb
  generalize hm : a.tdiv b * b = m at *
  generalize hq : a.tdiv b = q at *
  have e0 : (b == 0) = false := by simp [h0]
  cases ta : decide (a < 0) <;> cases tb : decide (b < 0)
  all_goals
   by_cases hma : m = a
   ·have em : (m == a) = true := by simp [hma]
    have em' : (m != a) = false := by simp [hma]
    rw [if_neg (by simp [hma])]
    have wQ := tw; repeat' (first | with_reducible (apply swq; constructor) | simp only [go_sem, seval, P115, q115, hq, hm, em, em', e0, ta, tb, bq1, bq2, bq3, bq4, Bool.not_true, Bool.not_false] | simp (disch := omega) only [w64, w32, wu8, wu16, wu32, wu64] | (with_reducible first | (apply cdA; constructor) | (apply gdA; constructor)) | ((with_reducible refine And.intro ?hw ?_); (case hw => exact sw wQ)) | with_reducible intro _)
    all_goals try (exfalso; omega)
    all_goals simp [D.closed, D.er]
   ·have em : (m == a) = false := by simp [hma]
    have em' : (m != a) = true := by simp [hma]
    have wQ := tw; repeat' (first | with_reducible (apply swq; constructor) | simp only [go_sem, seval, P115, q115, hq, hm, em, em', e0, ta, tb, bq1, bq2, bq3, bq4, Bool.not_true, Bool.not_false] | simp (disch := omega) only [w64, w32, wu8, wu16, wu32, wu64] | (with_reducible first | (apply cdA; constructor) | (apply gdA; constructor)) | ((with_reducible refine And.intro ?hw ?_); (case hw => exact sw wQ)) | with_reducible intro _)
    all_goals try (exfalso; omega)
    all_goals simp [D.closed, D.er, hma]
end Go.Proofs.YtkjnhkoipgdfeaaDoor
end
section
set_option maxRecDepth 100000
set_option linter.unusedSimpArgs false
set_option linter.unusedVariables false
namespace Go.Proofs.YtkjnhkoipgdfeaaDoor
open Go GoV Go.RowKit
def mn (p q r s : Int) (i : Nat) : Int := if i ≤ 1 then p else if i = 2 then min p q else if i = 3 then min (min p q) r else min (min (min p q) r) s
def mx (p q r s : Int) (i : Nat) : Int := if i ≤ 1 then p else if i = 2 then max p q else if i = 3 then max (max p q) r else max (max (max p q) r) s
theorem mn_step (p q r s : Int) {i : Nat} (h1 : 1 ≤ i) (h2 : i < 4) : ∃ v, [D.int .i64 p, .int .i64 q, .int .i64 r, .int .i64 s].getD i .u0 = .int .i64 v ∧ mn p q r s (i + 1) = min (mn p q r s i) v ∧ mx p q r s (i + 1) = max (mx p q r s i) v := by
 have : i = 1 ∨ i = 2 ∨ i = 3 := by omega
 rcases this with rfl | rfl | rfl
 ·exact ⟨q, rfl, by simp [mn], by simp [mx]⟩
 ·exact ⟨r, rfl, by simp [mn], by simp [mx]⟩
 ·exact ⟨s, rfl, by simp [mn], by simp [mx]⟩
theorem smin_p (p q r s : Int) : Pur M 119 [.slice [.int .i64 p, .int .i64 q, .int .i64 r, .int .i64 s] .no] (.int .i64 (mn p q r s 4)) := by
 refine k119.ok (C := C119) rfl rfl ?_
 rw [i119]
 unfold c119
 have wQ := tw; repeat' (first | with_reducible (apply swq; constructor) | simp only [go_sem, seval, P119, q119] | with_reducible (apply cdA; constructor) | ((with_reducible refine And.intro ?hw ?_); (case hw => exact sw wQ)) | with_reducible intro _)
 all_goals try (exfalso; omega)
 refine zB6 [0, 2, 3] (fun i : Nat => ⟨[.slice [.int .i64 p, .int .i64 q, .int .i64 r, .int .i64 s] .no, .u0, .int .i64 (mn p q r s i), .int .i64 i, .u0, .u0], [], ⟨[], []⟩⟩) (fun i => 1 ≤ i ∧ i ≤ 4) (fun i => 4 - i) 1 (by omega) ?_ ?_
 ·simp [keepE, St.keep, mn]
 ·rintro i ⟨h1, h2⟩
  by_cases hi : i < 4
  ·obtain ⟨v, hv, e1, e2⟩ := mn_step p q r s h1 hi
   have hd : decide ((i : Int) < 4) = true := by simp; omega
   generalize mn p q r s i = m at *
   have hlen : [D.int .i64 p, .int .i64 q, .int .i64 r, .int .i64 s].length = 4 := rfl
   generalize [D.int .i64 p, .int .i64 q, .int .i64 r, .int .i64 s] = L at *
   have wQ := And.intro @hlen @hv; repeat' (first | with_reducible (apply swq; constructor) | simp only [go_sem, seval, P119, q119, hlen, hd, hv, minW] | simp (disch := omega) only [w64, w32, wu8, wu16, wu32, wu64] | with_reducible (apply cdA; constructor) | ((with_reducible refine And.intro ?hw ?_); (case hw => exact sw wQ)) | with_reducible intro _)
   all_goals try (exfalso; omega)
   refine ⟨i + 1, ⟨by omega, by omega⟩, by omega, ?_⟩
   simp [keepE, St.keep, e1]
  ·obtain rfl : i = 4 := by omega
   generalize mn p q r s 4 = m at *
   have wQ := tw; repeat' (first | with_reducible (apply swq; constructor) | simp only [go_sem, seval, P119, q119] | simp (disch := omega) only [w64, w32, wu8, wu16, wu32, wu64] | with_reducible (apply cdA; constructor) | ((with_reducible refine And.intro ?hw ?_); (case hw => exact sw wQ)) | with_reducible intro _)
   all_goals try (exfalso; omega)
   all_goals simp [D.closed, D.er]
theorem smax_p (p q r s : Int) : Pur M 120 [.slice [.int .i64 p, .int .i64 q, .int .i64 r, .int .i64 s] .no] (.int .i64 (mx p q r s 4)) := by
 refine k120.ok (C := C120) rfl rfl ?_
 rw [i120]
 unfold c120
 have wQ := tw; repeat' (first | with_reducible (apply swq; constructor) | simp only [go_sem, seval, P120, q120] | with_reducible (apply cdA; constructor) | ((with_reducible refine And.intro ?hw ?_); (case hw => exact sw wQ)) | with_reducible intro _)
 all_goals try (exfalso; omega)
 refine zB6 [0, 2, 3] (fun i : Nat => ⟨[.slice [.int .i64 p, .int .i64 q, .int .i64 r, .int .i64 s] .no, .u0, .int .i64 (mx p q r s i), .int .i64 i, .u0, .u0], [], ⟨[], []⟩⟩) (fun i => 1 ≤ i ∧ i ≤ 4) (fun i => 4 - i) 1 (by omega) ?_ ?_
 ·simp [keepE, St.keep, mx]
 ·rintro i ⟨h1, h2⟩
  by_cases hi : i < 4
  ·obtain ⟨v, hv, e1, e2⟩ := mn_step p q r s h1 hi
   have hd : decide ((i : Int) < 4) = true := by simp; omega
   generalize mx p q r s i = m at *
   have hlen : [D.int .i64 p, .int .i64 q, .int .i64 r, .int .i64 s].length = 4 := rfl
   generalize [D.int .i64 p, .int .i64 q, .int .i64 r, .int .i64 s] = L at *
   have wQ := And.intro @hlen @hv; repeat' (first | with_reducible (apply swq; constructor) | simp only [go_sem, seval, P120, q120, hlen, hd, hv, maxW] | simp (disch := omega) only [w64, w32, wu8, wu16, wu32, wu64] | with_reducible (apply cdA; constructor) | ((with_reducible refine And.intro ?hw ?_); (case hw => exact sw wQ)) | with_reducible intro _)
   all_goals try (exfalso; omega)
   refine ⟨i + 1, ⟨by omega, by omega⟩, by omega, ?_⟩
   simp [keepE, St.keep, e2]
  ·obtain rfl : i = 4 := by omega
   generalize mx p q r s 4 = m at *
   have wQ := tw; repeat' (first | with_reducible (apply swq; constructor) | simp only [go_sem, seval, P120, q120] | simp (disch := omega) only [w64, w32, wu8, wu16, wu32, wu64] | with_reducible (apply cdA; constructor) | ((with_reducible refine And.intro ?hw ?_); (case hw => exact sw wQ)) | with_reducible intro _)
   all_goals try (exfalso; omega)
   all_goals simp [D.closed, D.er]
theorem around_p (p q r s : Int) : Pur M 116 [.slice [.int .i64 p, .int .i64 q, .int .i64 r, .int .i64 s] .no] (ivD (min (min p q) (min r s), max (max p q) (max r s))) := by
 refine k116.ok (C := C116) rfl rfl ?_
 rw [i116]
 unfold c116
 have c1 := smin_p p q r s
 have c2 := smax_p p q r s
 have e1 : mn p q r s 4 = min (min p q) (min r s) := by simp only [mn]; omega
 have e2 : mx p q r s 4 = max (max p q) (max r s) := by simp only [mx]; omega
 rw [e1] at c1
 rw [e2] at c2
 generalize min (min p q) (min r s) = a at *
 generalize max (max p q) (max r s) = b at *
 have wQ := tw; repeat' (first | with_reducible (apply swq; constructor) | simp only [go_sem, seval, P116, q116] | ((with_reducible refine zAb (c1) ?he ?hc ?_); (case he | hc => exact sc wQ)) | ((with_reducible refine zAb (c2) ?he ?hc ?_); (case he | hc => exact sc wQ)) | with_reducible (apply cdA; constructor) | ((with_reducible refine And.intro ?hw ?_); (case hw => exact sw wQ)) | with_reducible intro _)
 all_goals first | omega | (simp_all [D.closed, D.er, D.cL, D.erL]; done) | (simp_all [D.closed, D.er, D.cL, D.erL] <;> omega)
def bothI (g : Int → Int → Int) (A B : Iv) : Iv := if okI A ∧ okI B then corn g A B else (0, 0)
theorem both_p (f : FuncId) (g : Int → Int → Int) (hg : ∀ x y, Rg x → Rg y → Pur M f [.int .i64 x, .int .i64 y] (.int .i64 (g x y))) (A B : Iv) : Pur M 110 [ivD A, ivD B, .fn (.func f) [] []] (ivD (bothI g A B)) := by
 refine k110.ok (C := C110) rfl rfl ?_
 rw [i110]
 unfold c110
 have c1 := zF0 A
 have c2 := zF0 B
 unfold bothI
 by_cases h1 : okI A
 ·by_cases h2 : okI B
  ·rw [if_pos ⟨h1, h2⟩]
   rw [decide_eq_true h1] at c1
   rw [decide_eq_true h2] at c2
   obtain ⟨a1, a2, a3⟩ := h1
   obtain ⟨b1, b2, b3⟩ := h2
   have c3 := hg A.1 B.1 ⟨by omega, by omega⟩ ⟨by omega, by omega⟩
   have c4 := hg A.1 B.2 ⟨by omega, by omega⟩ ⟨by omega, by omega⟩
   have c5 := hg A.2 B.1 ⟨by omega, by omega⟩ ⟨by omega, by omega⟩
   have c6 := hg A.2 B.2 ⟨by omega, by omega⟩ ⟨by omega, by omega⟩
   unfold corn
   have c7 := around_p (g A.1 B.1) (g A.1 B.2) (g A.2 B.1) (g A.2 B.2)
   generalize g A.1 B.1 = x1 at *
   generalize g A.1 B.2 = x2 at *
   generalize g A.2 B.1 = x3 at *
   generalize g A.2 B.2 = x4 at *
   generalize min (min x1 x2) (min x3 x4) = lo at *
   generalize max (max x1 x2) (max x3 x4) = hi at *
   have wQ := tw; repeat' (first | with_reducible (apply swq; constructor) | simp only [go_sem, seval, P110, q110] | ((with_reducible refine zAb (c1) ?he ?hc ?_); (case he | hc => exact sc wQ)) | ((with_reducible refine zAb (c2) ?he ?hc ?_); (case he | hc => exact sc wQ)) | ((with_reducible refine zAb (c3) ?he ?hc ?_); (case he | hc => exact sc wQ)) | ((with_reducible refine zAb (c4) ?he ?hc ?_); (case he | hc => exact sc wQ)) | ((with_reducible refine zAb (c5) ?he ?hc ?_); (case he | hc => exact sc wQ)) | ((with_reducible refine zAb (c6) ?he ?hc ?_); (case he | hc => exact sc wQ)) | ((with_reducible refine zAb (c7) ?he ?hc ?_); (case he | hc => exact sc wQ)) | ((with_reducible apply s_bsl); (case he | hl | hc => exact sd wQ)) | (with_reducible first | (apply cdA; constructor) | (apply gdA; constructor)) | ((with_reducible refine And.intro ?hw ?_); (case hw => exact sw wQ)) | with_reducible intro _)
   all_goals first | omega | (simp_all [D.closed, D.er, D.cL, D.erL]; done) | (simp_all [D.closed, D.er, D.cL, D.erL] <;> omega)
  ·rw [if_neg (fun h => h2 h.2)]
   rw [decide_eq_true h1] at c1
   rw [decide_eq_false h2] at c2
   have wQ := tw; repeat' (first | with_reducible (apply swq; constructor) | simp only [go_sem, seval, P110, q110] | ((with_reducible refine zAb (c1) ?he ?hc ?_); (case he | hc => exact sc wQ)) | ((with_reducible refine zAb (c2) ?he ?hc ?_); (case he | hc => exact sc wQ)) | ((with_reducible apply s_bsl); (case he | hl | hc => exact sd wQ)) | (with_reducible first | (apply cdA; constructor) | (apply gdA; constructor)) | ((with_reducible refine And.intro ?hw ?_); (case hw => exact sw wQ)) | with_reducible intro _)
   all_goals first | omega | (simp_all [D.closed, D.er, D.cL, D.erL]; done) | (simp_all [D.closed, D.er, D.cL, D.erL] <;> omega)
 ·rw [if_neg (fun h => h1 h.1)]
  rw [decide_eq_false h1] at c1
  have wQ := tw; repeat' (first | with_reducible (apply swq; constructor) | simp only [go_sem, seval, P110, q110] | ((with_reducible refine zAb (c1) ?he ?hc ?_); (case he | hc => exact sc wQ)) | ((with_reducible refine zAb (c2) ?he ?hc ?_); (case he | hc => exact sc wQ)) | ((with_reducible apply s_bsl); (case he | hl | hc => exact sd wQ)) | (with_reducible first | (apply cdA; constructor) | (apply gdA; constructor)) | ((with_reducible refine And.intro ?hw ?_); (case hw => exact sw wQ)) | with_reducible intro _)
  all_goals first | omega | (simp_all [D.closed, D.er, D.cL, D.erL]; done) | (simp_all [D.closed, D.er, D.cL, D.erL] <;> omega)
theorem add_p (A B : Iv) : Pur M 104 [ivD A, ivD B] (ivD (bothI (fun a b => sat (a + b)) A B)) := by
 refine k104.ok (C := C104) rfl rfl ?_
 rw [i104]
 unfold c104
 have c1 := both_p 111 (fun a b => sat (a + b)) (fun x y h1 h2 => plus_p x y h1 h2) A B
 generalize bothI (fun a b => sat (a + b)) A B = R at *
 have wQ := tw; repeat' (first | with_reducible (apply swq; constructor) | simp only [go_sem, seval, P104, q104] | ((with_reducible refine zAb (c1) ?he ?hc ?_); (case he | hc => exact sc wQ)) | with_reducible (apply cdA; constructor) | ((with_reducible refine And.intro ?hw ?_); (case hw => exact sw wQ)) | with_reducible intro _)
 all_goals first | omega | (simp_all [D.closed, D.er, D.cL, D.erL]; done) | (simp_all [D.closed, D.er, D.cL, D.erL] <;> omega)
theorem sub_p (A B : Iv) : Pur M 105 [ivD A, ivD B] (ivD (bothI (fun a b => sat (a - b)) A B)) := by
 refine k105.ok (C := C105) rfl rfl ?_
 rw [i105]
 unfold c105
 have c1 := both_p 112 (fun a b => sat (a - b)) (fun x y h1 h2 => minus_p x y h1 h2) A B
 generalize bothI (fun a b => sat (a - b)) A B = R at *
 have wQ := tw; repeat' (first | with_reducible (apply swq; constructor) | simp only [go_sem, seval, P105, q105] | ((with_reducible refine zAb (c1) ?he ?hc ?_); (case he | hc => exact sc wQ)) | with_reducible (apply cdA; constructor) | ((with_reducible refine And.intro ?hw ?_); (case hw => exact sw wQ)) | with_reducible intro _)
 all_goals first | omega | (simp_all [D.closed, D.er, D.cL, D.erL]; done) | (simp_all [D.closed, D.er, D.cL, D.erL] <;> omega)
theorem mul_p (A B : Iv) : Pur M 106 [ivD A, ivD B] (ivD (bothI (fun a b => sat (a * b)) A B)) := by
 refine k106.ok (C := C106) rfl rfl ?_
 rw [i106]
 unfold c106
 have c1 := both_p 113 (fun a b => sat (a * b)) (fun x y h1 h2 => times_p x y h1 h2) A B
 generalize bothI (fun a b => sat (a * b)) A B = R at *
 have wQ := tw; repeat' (first | with_reducible (apply swq; constructor) | simp only [go_sem, seval, P106, q106] | ((with_reducible refine zAb (c1) ?he ?hc ?_); (case he | hc => exact sc wQ)) | with_reducible (apply cdA; constructor) | ((with_reducible refine And.intro ?hw ?_); (case hw => exact sw wQ)) | with_reducible intro _)
 all_goals first | omega | (simp_all [D.closed, D.er, D.cL, D.erL]; done) | (simp_all [D.closed, D.er, D.cL, D.erL] <;> omega)
theorem join_p (A B : Iv) (h1 : okI A) (h2 : okI B) : Pur M 109 [ivD A, ivD B] (ivD (joinI A B)) := by
 refine k109.ok (C := C109) rfl rfl ?_
 rw [i109]
 unfold c109
 have c1 := zF0 A
 have c2 := zF0 B
 rw [decide_eq_true h1] at c1
 rw [decide_eq_true h2] at c2
 have c3 := around_p A.1 A.2 B.1 B.2
 have e : joinI A B = (min (min A.1 A.2) (min B.1 B.2), max (max A.1 A.2) (max B.1 B.2)) := by
  obtain ⟨a1, a2, a3⟩ := h1
  obtain ⟨b1, b2, b3⟩ := h2
  simp only [joinI, Prod.mk.injEq]
  omega
 rw [e]
 generalize min (min A.1 A.2) (min B.1 B.2) = lo at *
 generalize max (max A.1 A.2) (max B.1 B.2) = hi at *
 have wQ := tw; repeat' (first | with_reducible (apply swq; constructor) | simp only [go_sem, seval, P109, q109] | ((with_reducible refine zAb (c1) ?he ?hc ?_); (case he | hc => exact sc wQ)) | ((with_reducible refine zAb (c2) ?he ?hc ?_); (case he | hc => exact sc wQ)) | ((with_reducible refine zAb (c3) ?he ?hc ?_); (case he | hc => exact sc wQ)) | ((with_reducible apply s_bsl); (case he | hl | hc => exact sd wQ)) | (with_reducible first | (apply cdA; constructor) | (apply gdA; constructor)) | ((with_reducible refine And.intro ?hw ?_); (case hw => exact sw wQ)) | with_reducible intro _)
 all_goals first | omega | (simp_all [D.closed, D.er, D.cL, D.erL]; done) | (simp_all [D.closed, D.er, D.cL, D.erL] <;> omega)
def overI (A : Iv) : Int := if A.2 ≤ 0 then 0 else if 0 < A.1 then 2 else 1
theorem over_p (A : Iv) (h1 : okI A) : Pur M 108 [ivD A, .int .i64 0] (.int .i64 (overI A)) := by
 refine k108.ok (C := C108) rfl rfl ?_
 rw [i108]
 unfold c108
 have c1 := zF0 A
 rw [decide_eq_true h1] at c1
 unfold overI
 by_cases g1 : A.2 ≤ 0
 ·rw [if_pos g1]
  have t1 : decide (A.2 ≤ 0) = true := by simp [g1]
  have wQ := tw; repeat' (first | with_reducible (apply swq; constructor) | simp only [go_sem, seval, P108, q108, t1] | ((with_reducible refine zAb (c1) ?he ?hc ?_); (case he | hc => exact sc wQ)) | (with_reducible first | (apply cdA; constructor) | (apply gdA; constructor)) | ((with_reducible refine And.intro ?hw ?_); (case hw => exact sw wQ)) | with_reducible intro _)
  all_goals first | omega | (simp_all [D.closed, D.er, D.cL, D.erL]; done) | (simp_all [D.closed, D.er, D.cL, D.erL] <;> omega)
 ·rw [if_neg g1]
  have t1 : decide (A.2 ≤ 0) = false := by simp; omega
  by_cases g2 : 0 < A.1
  ·rw [if_pos g2]
   have t2 : decide (A.1 > 0) = true := by simp [g2]
   have wQ := tw; repeat' (first | with_reducible (apply swq; constructor) | simp only [go_sem, seval, P108, q108, t1, t2] | ((with_reducible refine zAb (c1) ?he ?hc ?_); (case he | hc => exact sc wQ)) | (with_reducible first | (apply cdA; constructor) | (apply gdA; constructor)) | ((with_reducible refine And.intro ?hw ?_); (case hw => exact sw wQ)) | with_reducible intro _)
   all_goals first | omega | (simp_all [D.closed, D.er, D.cL, D.erL]; done) | (simp_all [D.closed, D.er, D.cL, D.erL] <;> omega)
  ·rw [if_neg g2]
   have t2 : decide (A.1 > 0) = false := by simp; omega
   have wQ := tw; repeat' (first | with_reducible (apply swq; constructor) | simp only [go_sem, seval, P108, q108, t1, t2] | ((with_reducible refine zAb (c1) ?he ?hc ?_); (case he | hc => exact sc wQ)) | (with_reducible first | (apply cdA; constructor) | (apply gdA; constructor)) | ((with_reducible refine And.intro ?hw ?_); (case hw => exact sw wQ)) | with_reducible intro _)
   all_goals first | omega | (simp_all [D.closed, D.er, D.cL, D.erL]; done) | (simp_all [D.closed, D.er, D.cL, D.erL] <;> omega)
end Go.Proofs.YtkjnhkoipgdfeaaDoor
end
section
set_option maxRecDepth 100000
set_option linter.unusedSimpArgs false
set_option linter.unusedVariables false
namespace Go.Proofs.YtkjnhkoipgdfeaaDoor
open Go GoV Go.RowKit
def ivs (L : List Iv) : List D := L.map fun i => ivD i
theorem ivs_len (L : List Iv) : (ivs L).length = L.length := by simp [ivs]
theorem ivs_app (L L' : List Iv) : ivs (L ++ L') = ivs L ++ ivs L' := by simp [ivs]
theorem ivs_get {L : List Iv} {i : Nat} (h : i < L.length) : (ivs L).getD i .u0 = ivD (L.getD i (0, 0)) := by simp [ivs, List.getD, h]
theorem ivs_rn (β τ : Nat → Option Nat) : ∀ L : List Iv, D.rnL β τ (ivs L) = ivs L
 | [] => rfl
 | x :: L => by have := ivs_rn β τ L; simp_all [ivs, D.rnL, D.rn]
theorem ivs_elems : ∀ L : List Iv, zAj 2 (ivs L) = true
 | [] => rfl
 | x :: L => by have := ivs_elems L; simp_all [ivs, zAj, D.iV, D.cells]
def hpD (A : Iv) (L : List Iv) : Hp := ⟨[.cells [.int .i64 A.1, .int .i64 A.2], .cells [.slice (ivs L) (.tok 0)]], [.per 2 L.length]⟩
theorem signed_e (A : Iv) (hA : Rg A.1) (hA2 : Rg A.2) (L : List Iv) (hL : L.length ≤ 10) (l h : Int) (hl : Rg l) (hh : Rg h) : Eff M 114 [.int .i64 l, .int .i64 h, .ptr 0 0, .ptr 1 0] (hpD A L) fun d hp => d = .tup [] ∧ hp = hpD A (L ++ sgn A l h) := by
 refine k114.oe 2 1 rfl rfl rfl ?_
 rw [ie114]
 unfold c114
 unfold sgn
 by_cases hlh : l ≤ h
 ·have t0 : decide (l ≤ h) = true := by simp [hlh]
  rw [if_pos hlh]
  unfold hpD
  have wQ := tw; repeat' (first | with_reducible (apply swq; constructor) | simp only [go_sem, seval, pe114, q114, t0] | ((with_reducible apply zAp); (case he => rfl); (case hK | hc | hr | hV => exact sd wQ)) | ((with_reducible apply zAq); (case he => rfl); (case hV | hK | hr | hl => exact sd wQ)) | ((with_reducible apply zAs); (case he => rfl); (case hK | hc | hr => exact sd wQ)) | ((with_reducible apply zAr); (case he => rfl); (case hK | hc | hr | hx | hn => exact sd wQ)) | ((with_reducible apply s_bsl); (case he | hl | hc => exact sd wQ)) | with_reducible (apply cdA; constructor) | ((with_reducible refine And.intro ?hw ?_); (case hw => exact sw wQ)) | with_reducible intro _)
  refine zB6 [2, 3, 8, 9, 10] (fun i : Nat => ⟨[.u0, .u0, .ptr 0 0, .ptr 1 0, .u0, .u0, .u0, .u0, .slice [.int .i64 l, .int .i64 h] .full, .int .i64 2, .int .i64 i, .u0], [], hpD A (L ++ [flP A l, flP A h].take i)⟩) (fun i => i ≤ 2) (fun i => 2 - i) 0 (by omega) ?_ ?_
  ·simp [keepE, St.keep, hpD]
  ·intro i hi
   by_cases hi2 : i < 2
   ·have hd : decide ((i : Int) < 2) = true := by simp; omega
    have key : ∃ v, Rg v ∧ [D.int .i64 l, .int .i64 h].getD i .u0 = .int .i64 v ∧ [flP A l, flP A h].take (i + 1) = [flP A l, flP A h].take i ++ [flP A v] := by
     have : i = 0 ∨ i = 1 := by omega
     rcases this with rfl | rfl
     ·exact ⟨l, hl, rfl, rfl⟩
     ·exact ⟨h, hh, rfl, rfl⟩
    obtain ⟨v, hv, hg, ht⟩ := key
    have c1 := floor_p A.1 v hA hv
    have c2 := floor_p A.2 v hA2 hv
    have hT : ([flP A l, flP A h].take i).length = i := by rw [List.length_take]; simp; omega
    generalize [flP A l, flP A h].take i = T at *
    have hfp : flP A v = (min (fl A.1 v) (fl A.2 v), max (fl A.1 v) (fl A.2 v)) := rfl
    rw [hfp] at ht
    generalize fl A.1 v = x at *
    generalize fl A.2 v = y at *
    have hlen : [D.int .i64 l, .int .i64 h].length = 2 := rfl
    generalize [D.int .i64 l, .int .i64 h] = W at *
    have hil := ivs_len (L ++ T)
    have hel := ivs_elems (L ++ T)
    unfold hpD
    have wQ := And.intro @hlen (And.intro @hg (And.intro @hil @hel)); repeat' (first | with_reducible (apply swq; constructor) | simp only [go_sem, seval, pe114, q114, hlen, hd, hg, minW, maxW] | simp (disch := omega) only [w64, w32, wu8, wu16, wu32, wu64] | ((with_reducible first | refine zAb (c1) ?he ?hc ?_ | refine zAk (c1) ?he ?hc ?_ | refine zAl (c1) ?he ?hc ?_); (case he | hc => exact sc wQ)) | ((with_reducible first | refine zAb (c2) ?he ?hc ?_ | refine zAk (c2) ?he ?hc ?_ | refine zAl (c2) ?he ?hc ?_); (case he | hc => exact sc wQ)) | ((with_reducible apply zAp); (case he => rfl); (case hK | hc | hr | hV => exact sd wQ)) | ((with_reducible apply zAq); (case he => rfl); (case hV | hK | hr | hl => exact sd wQ)) | ((with_reducible apply zAs); (case he => rfl); (case hK | hc | hr => exact sd wQ)) | ((with_reducible apply zAr); (case he => rfl); (case hK | hc | hr | hx | hn => exact sd wQ)) | ((with_reducible apply s_bsl); (case he | hl | hc => exact sd wQ)) | with_reducible (apply cdA; constructor) | ((with_reducible refine And.intro ?hw ?_); (case hw => exact sw wQ)) | with_reducible intro _)
    all_goals try (exfalso; simp only [List.length_append] at *; omega)
    refine ⟨i + 1, by omega, by omega, ?_⟩
    simp [keepE, St.keep, ht, ivs_app, ivs]
    try omega
   ·obtain rfl : i = 2 := by omega
    have hd : decide (((2 : Nat) : Int) < 2) = false := rfl
    unfold hpD
    have wQ := tw; repeat' (first | with_reducible (apply swq; constructor) | simp only [go_sem, seval, pe114, q114, hd] | simp (disch := omega) only [w64, w32, wu8, wu16, wu32, wu64] | ((with_reducible apply zAp); (case he => rfl); (case hK | hc | hr | hV => exact sd wQ)) | ((with_reducible apply zAq); (case he => rfl); (case hV | hK | hr | hl => exact sd wQ)) | ((with_reducible apply zAs); (case he => rfl); (case hK | hc | hr => exact sd wQ)) | ((with_reducible apply zAr); (case he => rfl); (case hK | hc | hr | hx | hn => exact sd wQ)) | ((with_reducible apply s_bsl); (case he | hl | hc => exact sd wQ)) | with_reducible (apply cdA; constructor) | ((with_reducible refine And.intro ?hw ?_); (case hw => exact sw wQ)) | with_reducible intro _)
    all_goals try (exfalso; omega)
    exact ⟨_, zAo, by simp⟩
 ·have t0 : decide (l ≤ h) = false := by simp; omega
  rw [if_neg hlh]
  have wQ := tw; repeat' (first | with_reducible (apply swq; constructor) | simp only [go_sem, seval, pe114, q114, t0] | ((with_reducible apply zAp); (case he => rfl); (case hK | hc | hr | hV => exact sd wQ)) | ((with_reducible apply zAq); (case he => rfl); (case hV | hK | hr | hl => exact sd wQ)) | ((with_reducible apply zAs); (case he => rfl); (case hK | hc | hr => exact sd wQ)) | ((with_reducible apply zAr); (case he => rfl); (case hK | hc | hr | hx | hn => exact sd wQ)) | ((with_reducible apply s_bsl); (case he | hl | hc => exact sd wQ)) | with_reducible (apply cdA; constructor) | ((with_reducible refine And.intro ?hw ?_); (case hw => exact sw wQ)) | with_reducible intro _)
  exact ⟨_, zAo, by simp⟩
end Go.Proofs.YtkjnhkoipgdfeaaDoor
end
section
set_option maxRecDepth 100000
set_option linter.unusedSimpArgs false
set_option linter.unusedVariables false
namespace Go.Proofs.YtkjnhkoipgdfeaaDoor
open Go GoV Go.RowKit
theorem flP_ok {A : Iv} (hA : okI A) (d : Int) : okI (flP A d) := by
 have h1 := fl_rng (b := d) (show Rg A.1 from ⟨hA.1, Int.le_trans hA.2.1 hA.2.2⟩)
 have h2 := fl_rng (b := d) (show Rg A.2 from ⟨Int.le_trans hA.1 hA.2.1, hA.2.2⟩)
 obtain ⟨a1, a2⟩ := h1
 obtain ⟨b1, b2⟩ := h2
 refine ⟨?_, ?_, ?_⟩ <;> simp only [flP] <;> omega
theorem pieces_ok {A B : Iv} (hA : okI A) : ∀ p ∈ zBz A B, okI p := fun p hp => by
 obtain ⟨d, _, rfl⟩ := piece_mem hp
 exact flP_ok hA d
theorem join_ok {a b : Iv} (h1 : okI a) (h2 : okI b) : okI (joinI a b) := by
 simp only [okI, joinI] at *; omega
def jn (P : List Iv) (i : Nat) : Iv := (P.take i).foldl joinI (P.getD 0 (0, 0))
theorem jn_step {P : List Iv} {i : Nat} (h : i < P.length) : jn P (i + 1) = joinI (jn P i) (P.getD i (0, 0)) := by
 unfold jn
 rw [List.take_succ_eq_append_getElem h, List.foldl_append]
 simp [List.getD, h]
theorem jn_all {P : List Iv} (h : P ≠ []) : jn P P.length = hull P := by
 cases P with
 | nil => exact absurd rfl h
 | cons x l =>
   simp only [jn, List.take_length, List.getD_cons_zero, List.foldl_cons, hull]
   have : joinI x x = x := by simp only [joinI]; exact Prod.ext (by simp only; omega) (by simp only; omega)
   rw [this]
theorem jn_ok {P : List Iv} (hp : ∀ p ∈ P, okI p) (h0 : P ≠ []) : ∀ i, i ≤ P.length → okI (jn P i)
 | 0, _ => by
   cases P with
   | nil => exact absurd rfl h0
   | cons x l => simpa [jn] using hp x (by simp)
 | i + 1, h => by
   rw [jn_step (by omega)]
   have : P.getD i (0, 0) = P[i]'(by omega) := by simp [List.getD, show i < P.length by omega]
   exact join_ok (jn_ok hp h0 i (by omega)) (by rw [this]; exact hp _ (List.getElem_mem _))
theorem pieces_len (A B : Iv) : (zBz A B).length ≤ 5 := by
 unfold zBz sgn
 simp only [List.length_append]
 repeat' split
 all_goals simp
set_option maxHeartbeats 1000000 in
theorem divide_p (A B : Iv) (hA : okI A) (hB : okI B) : Pur M 107 [ivD A, ivD B] (ivD (divI A B)) := by
 refine k107.ok (C := C107) rfl rfl ?_
 rw [i107]
 unfold c107
 obtain ⟨R, hR⟩ : ∃ R, R = (.reg r107_2 : RC) := ⟨_, rfl⟩
 rw [← hR]
 have wQ := tw; repeat' (first | with_reducible (apply swq; constructor) | simp only [go_sem, seval, P107, q107] | ((with_reducible apply zAp); (case he => rfl); (case hK | hc | hr | hV => exact sd wQ)) | ((with_reducible apply zAq); (case he => rfl); (case hV | hK | hr | hl => exact sd wQ)) | ((with_reducible apply zAs); (case he => rfl); (case hK | hc | hr => exact sd wQ)) | ((with_reducible apply zAr); (case he => rfl); (case hK | hc | hr | hx | hn => exact sd wQ)) | ((with_reducible apply s_bsl); (case he | hl | hc => exact sd wQ)) | (with_reducible first | (apply cdA; constructor) | (apply gdA; constructor)) | ((with_reducible refine And.intro ?hw ?_); (case hw => exact sw wQ)) | with_reducible intro _)
 refine zEu (zDn 3 0 2 (by decide) rfl rfl) ?_
 subst hR
 have hne := pieces_ne (A := A) (B := B) hB.2.1
 have hpo := pieces_ok (B := B) hA
 have hpl := pieces_len A B
 have hpe : zBz A B = ((if B.1 ≤ 0 ∧ 0 ≤ B.2 then [((0 : Int), (0 : Int))] else []) ++ sgn A (max B.1 1) B.2) ++ sgn A B.1 (min B.2 (-1)) := rfl
 have hA1 : Rg A.1 := ⟨hA.1, Int.le_trans hA.2.1 hA.2.2⟩
 have hA2 : Rg A.2 := ⟨Int.le_trans hA.1 hA.2.1, hA.2.2⟩
 obtain ⟨b1, b2, b3⟩ := hB
 have s1 := fun L hL => signed_e A hA1 hA2 L hL (max B.1 1) B.2 ⟨by omega, by omega⟩ ⟨by omega, by omega⟩
 have s2 := fun L hL => signed_e A hA1 hA2 L hL B.1 (min B.2 (-1)) ⟨by omega, by omega⟩ ⟨by omega, by omega⟩
 unfold hpD at s1 s2
 have key : ∀ Z : List Iv, Z = (if B.1 ≤ 0 ∧ 0 ≤ B.2 then [((0 : Int), (0 : Int))] else []) → Z.length ≤ 5 ∧ (Z ++ sgn A (max B.1 1) B.2).length ≤ 10 := by
  intro Z hZ
  rw [hpe, ← hZ] at hpl
  simp only [List.length_append] at *
  omega
 have hdv : divI A B = jn (zBz A B) (zBz A B).length := (jn_all hne).symm
 rw [hdv]
 have t1 := key _ rfl
 have hil := ivs_len (zBz A B)
 have hpos : 0 < (zBz A B).length := List.length_pos_iff.2 hne
 have hg0 := ivs_get hpos
 have e0 : ivs [] = [] := rfl
 by_cases h1 : B.1 ≤ 0 ∧ 0 ≤ B.2
 ·rw [if_pos h1] at hpe t1
  have d1 : decide (B.1 ≤ 0) = true := by simp [h1]
  have d2 : decide (B.2 ≥ 0) = true := by simp [h1]
  have s1 := s1 _ (by simp : ([((0 : Int), (0 : Int))] : List Iv).length ≤ 10)
  have s2 := s2 _ t1.2
  rw [← hpe] at s2
  have wQ := And.intro @minW (And.intro @maxW (And.intro @d1 (And.intro @d2 (And.intro @hil @hg0)))); repeat' (first | with_reducible (apply swq; constructor) | simp only [go_sem, seval, P107, q107, d1, d2, minW, maxW, hil, hg0] | simp (disch := omega) only [w64, w32, wu8, wu16, wu32, wu64] | ((with_reducible refine o_eff [0, 3] [0] (s1) ?hs ?he ?hh ?_); (case hs => exact so); (case he | hh => exact sh wQ); rintro _ _ ⟨rfl, rfl⟩) | ((with_reducible refine o_eff [0, 3] [0] (s2) ?hs ?he ?hh ?_); (case hs => exact so); (case he | hh => exact sh wQ); rintro _ _ ⟨rfl, rfl⟩) | ((with_reducible apply zAp); (case he => rfl); (case hK | hc | hr | hV => exact sd wQ)) | ((with_reducible apply zAq); (case he => rfl); (case hV | hK | hr | hl => exact sd wQ)) | ((with_reducible apply zAs); (case he => rfl); (case hK | hc | hr => exact sd wQ)) | ((with_reducible apply zAr); (case he => rfl); (case hK | hc | hr | hx | hn => exact sd wQ)) | ((with_reducible apply s_bsl); (case he | hl | hc => exact sd wQ)) | (with_reducible first | (apply cdA; constructor) | (apply gdA; constructor)) | ((with_reducible refine And.intro ?hw ?_); (case hw => exact sw wQ)) | with_reducible intro _)
  all_goals try omega
  all_goals
   clear s1 s2 hpe t1 key
   generalize zBz A B = Z at *
   refine zD0 [4, 7, 10, 11, 12] 5 1 (Nat.zero_le 5) (Nat.zero_le 1) (fun i : Nat => ⟨[.u0, .u0, .u0, .u0, .ptr 2 0, .u0, .u0, .ptr 4 0, .u0, .u0, .slice (ivs Z) (.tok 0), .int .i64 Z.length, .int .i64 i, .u0], [],
    ⟨[.cells [.int .i64 A.1, .int .i64 A.2], .cells [.int .i64 B.1, .int .i64 B.2], .cells [.int .i64 0, .int .i64 0], .cells [.slice (ivs Z) (.tok 0)], .cells [.int .i64 (jn Z i).1, .int .i64 (jn Z i).2]], [.per 2 Z.length]⟩⟩) (fun i => i ≤ Z.length) (fun i => Z.length - i) 0 (by omega) ?_ ?_
   ·simp [keepE, St.keep, St.keepG, St.gc, Hp.cut, D.rn, D.rnL, Blk.rnL, Blk.rn, Tv.rnL, Tv.rn, cutF, Own.rn, ivs_rn, jn, setL]
   ·intro i hi
    by_cases hi2 : i < Z.length
    ·have hgi := ivs_get hi2
     have hst := jn_step hi2
     have c1 := join_p (jn Z i) (Z.getD i (0, 0)) (jn_ok hpo hne i hi) (by rw [show Z.getD i (0, 0) = Z[i] by simp [List.getD, hi2]]; exact hpo _ (List.getElem_mem _))
     generalize jn Z i = u at *
     generalize Z.getD i (0, 0) = v at *
     have hd : decide ((i : Int) < Z.length) = true := by simp; omega
     have wQ := And.intro @hil @hgi; repeat' (first | with_reducible (apply swq; constructor) | simp only [go_sem, seval, P107, q107, hil, hgi, hd] | simp (disch := omega) only [w64, w32, wu8, wu16, wu32, wu64] | ((with_reducible refine zAb (c1) ?he ?hc ?_); (case he | hc => exact sc wQ)) | ((with_reducible apply zAp); (case he => rfl); (case hK | hc | hr | hV => exact sd wQ)) | ((with_reducible apply zAq); (case he => rfl); (case hV | hK | hr | hl => exact sd wQ)) | ((with_reducible apply zAs); (case he => rfl); (case hK | hc | hr => exact sd wQ)) | ((with_reducible apply zAr); (case he => rfl); (case hK | hc | hr | hx | hn => exact sd wQ)) | ((with_reducible apply s_bsl); (case he | hl | hc => exact sd wQ)) | (with_reducible first | (apply cdA; constructor) | (apply gdA; constructor)) | ((with_reducible refine And.intro ?hw ?_); (case hw => exact sw wQ)) | with_reducible intro _)
     all_goals try (exfalso; omega)
     refine ⟨i + 1, by omega, by omega, ?_⟩
     simp [keepE, St.keep, St.keepG, St.gc, Hp.cut, D.rn, D.rnL, Blk.rnL, Blk.rn, Tv.rnL, Tv.rn, cutF, Own.rn, ivs_rn, setL, hst]
    ·obtain rfl : i = Z.length := by omega
     have hd : decide ((Z.length : Int) < Z.length) = false := by simp
     generalize jn Z Z.length = u at *
     have wQ := @hil; repeat' (first | with_reducible (apply swq; constructor) | simp only [go_sem, seval, P107, q107, hil, hd] | simp (disch := omega) only [w64, w32, wu8, wu16, wu32, wu64] | ((with_reducible apply zAp); (case he => rfl); (case hK | hc | hr | hV => exact sd wQ)) | ((with_reducible apply zAq); (case he => rfl); (case hV | hK | hr | hl => exact sd wQ)) | ((with_reducible apply zAs); (case he => rfl); (case hK | hc | hr => exact sd wQ)) | ((with_reducible apply zAr); (case he => rfl); (case hK | hc | hr | hx | hn => exact sd wQ)) | ((with_reducible apply s_bsl); (case he | hl | hc => exact sd wQ)) | (with_reducible first | (apply cdA; constructor) | (apply gdA; constructor)) | ((with_reducible refine And.intro ?hw ?_); (case hw => exact sw wQ)) | with_reducible intro _)
     all_goals try (exfalso; omega)
     all_goals simp [D.closed, D.er, setL, RcS]
 ·rw [if_neg h1] at hpe t1
  have s1 := s1 [] (by simp)
  have s2 := s2 _ t1.2
  rw [← hpe] at s2
  rw [e0, List.length_nil] at s1
  by_cases d : B.1 ≤ 0
  ·have d1 : decide (B.1 ≤ 0) = true := by simp [d]
   have d2 : decide (B.2 ≥ 0) = false := by simp; omega
   have wQ := And.intro @minW (And.intro @maxW (And.intro @d1 (And.intro @d2 (And.intro @hil @hg0)))); repeat' (first | with_reducible (apply swq; constructor) | simp only [go_sem, seval, P107, q107, d1, d2, minW, maxW, hil, hg0] | simp (disch := omega) only [w64, w32, wu8, wu16, wu32, wu64] | ((with_reducible refine o_eff [0, 3] [0] (s1) ?hs ?he ?hh ?_); (case hs => exact so); (case he | hh => exact sh wQ); rintro _ _ ⟨rfl, rfl⟩) | ((with_reducible refine o_eff [0, 3] [0] (s2) ?hs ?he ?hh ?_); (case hs => exact so); (case he | hh => exact sh wQ); rintro _ _ ⟨rfl, rfl⟩) | ((with_reducible apply zAp); (case he => rfl); (case hK | hc | hr | hV => exact sd wQ)) | ((with_reducible apply zAq); (case he => rfl); (case hV | hK | hr | hl => exact sd wQ)) | ((with_reducible apply zAs); (case he => rfl); (case hK | hc | hr => exact sd wQ)) | ((with_reducible apply zAr); (case he => rfl); (case hK | hc | hr | hx | hn => exact sd wQ)) | ((with_reducible apply s_bsl); (case he | hl | hc => exact sd wQ)) | (with_reducible first | (apply cdA; constructor) | (apply gdA; constructor)) | ((with_reducible refine And.intro ?hw ?_); (case hw => exact sw wQ)) | with_reducible intro _)
   all_goals try omega
   all_goals
   clear s1 s2 hpe t1 key
   generalize zBz A B = Z at *
   refine zD0 [4, 7, 10, 11, 12] 5 1 (Nat.zero_le 5) (Nat.zero_le 1) (fun i : Nat => ⟨[.u0, .u0, .u0, .u0, .ptr 2 0, .u0, .u0, .ptr 4 0, .u0, .u0, .slice (ivs Z) (.tok 0), .int .i64 Z.length, .int .i64 i, .u0], [],
    ⟨[.cells [.int .i64 A.1, .int .i64 A.2], .cells [.int .i64 B.1, .int .i64 B.2], .cells [.int .i64 0, .int .i64 0], .cells [.slice (ivs Z) (.tok 0)], .cells [.int .i64 (jn Z i).1, .int .i64 (jn Z i).2]], [.per 2 Z.length]⟩⟩) (fun i => i ≤ Z.length) (fun i => Z.length - i) 0 (by omega) ?_ ?_
   ·simp [keepE, St.keep, St.keepG, St.gc, Hp.cut, D.rn, D.rnL, Blk.rnL, Blk.rn, Tv.rnL, Tv.rn, cutF, Own.rn, ivs_rn, jn, setL]
   ·intro i hi
    by_cases hi2 : i < Z.length
    ·have hgi := ivs_get hi2
     have hst := jn_step hi2
     have c1 := join_p (jn Z i) (Z.getD i (0, 0)) (jn_ok hpo hne i hi) (by rw [show Z.getD i (0, 0) = Z[i] by simp [List.getD, hi2]]; exact hpo _ (List.getElem_mem _))
     generalize jn Z i = u at *
     generalize Z.getD i (0, 0) = v at *
     have hd : decide ((i : Int) < Z.length) = true := by simp; omega
     have wQ := And.intro @hil @hgi; repeat' (first | with_reducible (apply swq; constructor) | simp only [go_sem, seval, P107, q107, hil, hgi, hd] | simp (disch := omega) only [w64, w32, wu8, wu16, wu32, wu64] | ((with_reducible refine zAb (c1) ?he ?hc ?_); (case he | hc => exact sc wQ)) | ((with_reducible apply zAp); (case he => rfl); (case hK | hc | hr | hV => exact sd wQ)) | ((with_reducible apply zAq); (case he => rfl); (case hV | hK | hr | hl => exact sd wQ)) | ((with_reducible apply zAs); (case he => rfl); (case hK | hc | hr => exact sd wQ)) | ((with_reducible apply zAr); (case he => rfl); (case hK | hc | hr | hx | hn => exact sd wQ)) | ((with_reducible apply s_bsl); (case he | hl | hc => exact sd wQ)) | (with_reducible first | (apply cdA; constructor) | (apply gdA; constructor)) | ((with_reducible refine And.intro ?hw ?_); (case hw => exact sw wQ)) | with_reducible intro _)
     all_goals try (exfalso; omega)
     refine ⟨i + 1, by omega, by omega, ?_⟩
     simp [keepE, St.keep, St.keepG, St.gc, Hp.cut, D.rn, D.rnL, Blk.rnL, Blk.rn, Tv.rnL, Tv.rn, cutF, Own.rn, ivs_rn, setL, hst]
    ·obtain rfl : i = Z.length := by omega
     have hd : decide ((Z.length : Int) < Z.length) = false := by simp
     generalize jn Z Z.length = u at *
     have wQ := @hil; repeat' (first | with_reducible (apply swq; constructor) | simp only [go_sem, seval, P107, q107, hil, hd] | simp (disch := omega) only [w64, w32, wu8, wu16, wu32, wu64] | ((with_reducible apply zAp); (case he => rfl); (case hK | hc | hr | hV => exact sd wQ)) | ((with_reducible apply zAq); (case he => rfl); (case hV | hK | hr | hl => exact sd wQ)) | ((with_reducible apply zAs); (case he => rfl); (case hK | hc | hr => exact sd wQ)) | ((with_reducible apply zAr); (case he => rfl); (case hK | hc | hr | hx | hn => exact sd wQ)) | ((with_reducible apply s_bsl); (case he | hl | hc => exact sd wQ)) | (with_reducible first | (apply cdA; constructor) | (apply gdA; constructor)) | ((with_reducible refine And.intro ?hw ?_); (case hw => exact sw wQ)) | with_reducible intro _)
     all_goals try (exfalso; omega)
     all_goals simp [D.closed, D.er, setL, RcS]
  ·have d1 : decide (B.1 ≤ 0) = false := by simp; omega
   have wQ := And.intro @minW (And.intro @maxW (And.intro @d1 (And.intro @hil @hg0))); repeat' (first | with_reducible (apply swq; constructor) | simp only [go_sem, seval, P107, q107, d1, minW, maxW, hil, hg0] | simp (disch := omega) only [w64, w32, wu8, wu16, wu32, wu64] | ((with_reducible refine o_eff [0, 3] [0] (s1) ?hs ?he ?hh ?_); (case hs => exact so); (case he | hh => exact sh wQ); rintro _ _ ⟨rfl, rfl⟩) | ((with_reducible refine o_eff [0, 3] [0] (s2) ?hs ?he ?hh ?_); (case hs => exact so); (case he | hh => exact sh wQ); rintro _ _ ⟨rfl, rfl⟩) | ((with_reducible apply zAp); (case he => rfl); (case hK | hc | hr | hV => exact sd wQ)) | ((with_reducible apply zAq); (case he => rfl); (case hV | hK | hr | hl => exact sd wQ)) | ((with_reducible apply zAs); (case he => rfl); (case hK | hc | hr => exact sd wQ)) | ((with_reducible apply zAr); (case he => rfl); (case hK | hc | hr | hx | hn => exact sd wQ)) | ((with_reducible apply s_bsl); (case he | hl | hc => exact sd wQ)) | (with_reducible first | (apply cdA; constructor) | (apply gdA; constructor)) | ((with_reducible refine And.intro ?hw ?_); (case hw => exact sw wQ)) | with_reducible intro _)
   all_goals try omega
   all_goals
   clear s1 s2 hpe t1 key
   generalize zBz A B = Z at *
   refine zD0 [4, 7, 10, 11, 12] 5 1 (Nat.zero_le 5) (Nat.zero_le 1) (fun i : Nat => ⟨[.u0, .u0, .u0, .u0, .ptr 2 0, .u0, .u0, .ptr 4 0, .u0, .u0, .slice (ivs Z) (.tok 0), .int .i64 Z.length, .int .i64 i, .u0], [],
    ⟨[.cells [.int .i64 A.1, .int .i64 A.2], .cells [.int .i64 B.1, .int .i64 B.2], .cells [.int .i64 0, .int .i64 0], .cells [.slice (ivs Z) (.tok 0)], .cells [.int .i64 (jn Z i).1, .int .i64 (jn Z i).2]], [.per 2 Z.length]⟩⟩) (fun i => i ≤ Z.length) (fun i => Z.length - i) 0 (by omega) ?_ ?_
   ·simp [keepE, St.keep, St.keepG, St.gc, Hp.cut, D.rn, D.rnL, Blk.rnL, Blk.rn, Tv.rnL, Tv.rn, cutF, Own.rn, ivs_rn, jn, setL]
   ·intro i hi
    by_cases hi2 : i < Z.length
    ·have hgi := ivs_get hi2
     have hst := jn_step hi2
     have c1 := join_p (jn Z i) (Z.getD i (0, 0)) (jn_ok hpo hne i hi) (by rw [show Z.getD i (0, 0) = Z[i] by simp [List.getD, hi2]]; exact hpo _ (List.getElem_mem _))
     generalize jn Z i = u at *
     generalize Z.getD i (0, 0) = v at *
     have hd : decide ((i : Int) < Z.length) = true := by simp; omega
     have wQ := And.intro @hil @hgi; repeat' (first | with_reducible (apply swq; constructor) | simp only [go_sem, seval, P107, q107, hil, hgi, hd] | simp (disch := omega) only [w64, w32, wu8, wu16, wu32, wu64] | ((with_reducible refine zAb (c1) ?he ?hc ?_); (case he | hc => exact sc wQ)) | ((with_reducible apply zAp); (case he => rfl); (case hK | hc | hr | hV => exact sd wQ)) | ((with_reducible apply zAq); (case he => rfl); (case hV | hK | hr | hl => exact sd wQ)) | ((with_reducible apply zAs); (case he => rfl); (case hK | hc | hr => exact sd wQ)) | ((with_reducible apply zAr); (case he => rfl); (case hK | hc | hr | hx | hn => exact sd wQ)) | ((with_reducible apply s_bsl); (case he | hl | hc => exact sd wQ)) | (with_reducible first | (apply cdA; constructor) | (apply gdA; constructor)) | ((with_reducible refine And.intro ?hw ?_); (case hw => exact sw wQ)) | with_reducible intro _)
     all_goals try (exfalso; omega)
     refine ⟨i + 1, by omega, by omega, ?_⟩
     simp [keepE, St.keep, St.keepG, St.gc, Hp.cut, D.rn, D.rnL, Blk.rnL, Blk.rn, Tv.rnL, Tv.rn, cutF, Own.rn, ivs_rn, setL, hst]
    ·obtain rfl : i = Z.length := by omega
     have hd : decide ((Z.length : Int) < Z.length) = false := by simp
     generalize jn Z Z.length = u at *
     have wQ := @hil; repeat' (first | with_reducible (apply swq; constructor) | simp only [go_sem, seval, P107, q107, hil, hd] | simp (disch := omega) only [w64, w32, wu8, wu16, wu32, wu64] | ((with_reducible apply zAp); (case he => rfl); (case hK | hc | hr | hV => exact sd wQ)) | ((with_reducible apply zAq); (case he => rfl); (case hV | hK | hr | hl => exact sd wQ)) | ((with_reducible apply zAs); (case he => rfl); (case hK | hc | hr => exact sd wQ)) | ((with_reducible apply zAr); (case he => rfl); (case hK | hc | hr | hx | hn => exact sd wQ)) | ((with_reducible apply s_bsl); (case he | hl | hc => exact sd wQ)) | (with_reducible first | (apply cdA; constructor) | (apply gdA; constructor)) | ((with_reducible refine And.intro ?hw ?_); (case hw => exact sw wQ)) | with_reducible intro _)
     all_goals try (exfalso; omega)
     all_goals simp [D.closed, D.er, setL, RcS]
end Go.Proofs.YtkjnhkoipgdfeaaDoor
end