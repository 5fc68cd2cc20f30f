/- Own texts, merged by a program: the engine that walks the code, and what the functions that the law reaches compute. -/
import Derived.Test.YtgjkhlnpplajjaaDoorQb4
import Derived.Test.YtgjkhlnpplajjaaDoorProg
import Derived.KernelRfl
import Derived.Lib.ItoaNum
section
set_option maxRecDepth 100000
namespace Go.Proofs.YtgjkhlnpplajjaaDoor
open Go GoV
/- 3 bogie.bogielaw02.SignMatchesReference · 6 arguments · kept slots [0, 1, 2, 3, 4, 5, 11, 12, 13, 14, 15, 16, 17, 18, 19, 20, 21, 22, 42] -/
noncomputable def E3 (n m : Nat) : Cfg := ⟨M, [0, 1, 2, 3, 4, 5, 11, 12, 13, 14, 15, 16, 17, 18, 19, 20, 21, 22, 42], 116, n, m, []⟩
noncomputable def C3 : Cfg := E3 0 0
@[reducible] noncomputable def r3_0 : List RO := [
  ⟨.var 6, .box, [.var 5], none⟩,
  ⟨.var 7, .mv, [.con (.bool false)], none⟩]
@[reducible] noncomputable def r3_1 : List RO := [
  ⟨.loc 23, .call, [(.con (.fn (.func 10) [] []))], none⟩,
  ⟨.var 8, .mv, [.loc 23], none⟩]
@[reducible] noncomputable def r3_2 : List RO := [
  ⟨.loc 24, .mv, [.var 0], none⟩,
  ⟨.loc 25, .mv, [.var 3], none⟩,
  ⟨.loc 26, .mv, [.var 4], none⟩,
  ⟨.loc 27, .bsl 1, [.loc 24, .loc 25, .loc 26], none⟩,
  ⟨.loc 28, .call, [(.con (.fn (.func 11) [] [])), .loc 27], none⟩,
  ⟨.loc 29, .un .not, [.loc 28], none⟩,
  ⟨.loc 30, .mv, [.loc 29], none⟩,
  ⟨.loc 31, .ld true 3, [.var 6], (some (.loc 30, false))⟩,
  ⟨.loc 32, .call, [(.con (.fn (.func 12) [] [])), .loc 31], (some (.loc 30, false))⟩,
  ⟨.loc 33, .un .not, [.loc 32], (some (.loc 30, false))⟩,
  ⟨.loc 34, .pick, [.loc 30, .con (.bool true), .loc 33], none⟩,
  ⟨.loc 35, .mv, [.loc 34], none⟩,
  ⟨.loc 36, .mv, [.var 1], (some (.loc 35, false))⟩,
  ⟨.loc 37, .bin .gtr, [.loc 36, .con (.int .i64 3)], (some (.loc 35, false))⟩,
  ⟨.loc 38, .mv, [.loc 37], (some (.loc 35, false))⟩,
  ⟨.loc 39, .mv, [.var 1], (some (.loc 38, true))⟩,
  ⟨.loc 40, .bin .leq, [.loc 39, .con (.int .i64 8)], (some (.loc 38, true))⟩,
  ⟨.loc 41, .pick, [.loc 38, .loc 40, .con (.bool false)], (some (.loc 35, false))⟩,
  ⟨.var 18, .pick, [.loc 35, .con (.bool true), .loc 41], none⟩]
@[reducible] noncomputable def r3_3 : List RO := [
  ⟨.loc 43, .mv, [.var 8], none⟩,
  ⟨.var 7, .mv, [.loc 43], none⟩]
@[reducible] noncomputable def r3_4 : List RO := [
  ⟨.loc 45, .mv, [.var 0], none⟩,
  ⟨.loc 46, .mv, [.var 1], none⟩,
  ⟨.loc 47, .call, [(.con (.fn (.func 13) [] [])), .loc 45, .loc 46], none⟩,
  ⟨.loc 44, .mv, [.loc 47], none⟩,
  ⟨.loc 48, .ext 0, [.loc 44], none⟩,
  ⟨.loc 49, .ext 1, [.loc 44], none⟩,
  ⟨.var 9, .mv, [.loc 48], none⟩,
  ⟨.var 10, .mv, [.loc 49], none⟩]
@[reducible] noncomputable def r3_5 : List RO := [
  ⟨.loc 51, .mv, [.var 0], none⟩,
  ⟨.loc 52, .mv, [.var 1], none⟩,
  ⟨.loc 53, .call, [(.con (.fn (.func 14) [] [])), .loc 51, .loc 52], none⟩,
  ⟨.loc 50, .mv, [.loc 53], none⟩,
  ⟨.loc 54, .ext 0, [.loc 50], none⟩,
  ⟨.loc 55, .ext 1, [.loc 50], none⟩,
  ⟨.var 11, .mv, [.loc 54], none⟩,
  ⟨.var 12, .mv, [.loc 55], none⟩]
@[reducible] noncomputable def r3_6 : List RO := [
  ⟨.loc 57, .mv, [.var 0], none⟩,
  ⟨.loc 58, .mv, [.var 1], none⟩,
  ⟨.loc 59, .mv, [.var 2], none⟩,
  ⟨.loc 60, .mv, [.var 3], none⟩,
  ⟨.loc 61, .call, [(.con (.fn (.func 15) [] [])), .loc 57, .loc 58, .loc 59, .loc 60], none⟩,
  ⟨.loc 56, .mv, [.loc 61], none⟩,
  ⟨.loc 62, .ext 0, [.loc 56], none⟩,
  ⟨.loc 63, .ext 1, [.loc 56], none⟩,
  ⟨.var 13, (.newb [(.int .i64 0), (.lit (.slice none 0 0)), (.lit (.slice none 0 0))]), [], none⟩,
  ⟨.none, .st 3, [.var 13, .loc 62], none⟩,
  ⟨.var 14, .mv, [.loc 63], none⟩]
@[reducible] noncomputable def r3_7 : List RO := [
  ⟨.loc 65, .mv, [.var 0], none⟩,
  ⟨.loc 66, .mv, [.var 1], none⟩,
  ⟨.loc 67, .mv, [.var 2], none⟩,
  ⟨.loc 68, .mv, [.var 3], none⟩,
  ⟨.loc 69, .call, [(.con (.fn (.func 16) [] [])), .loc 65, .loc 66, .loc 67, .loc 68], none⟩,
  ⟨.loc 64, .mv, [.loc 69], none⟩,
  ⟨.loc 70, .ext 0, [.loc 64], none⟩,
  ⟨.loc 71, .ext 1, [.loc 64], none⟩,
  ⟨.var 15, (.newb [(.int .i64 0), (.lit (.slice none 0 0)), (.lit (.slice none 0 0))]), [], none⟩,
  ⟨.none, .st 3, [.var 15, .loc 70], none⟩,
  ⟨.var 16, .mv, [.loc 71], none⟩]
@[reducible] noncomputable def r3_8 : List RO := [
  ⟨.loc 72, .mv, [.var 9], none⟩,
  ⟨.loc 73, .mv, [.var 11], none⟩,
  ⟨.loc 74, .bin .eql, [.loc 72, .loc 73], none⟩,
  ⟨.loc 75, .mv, [.loc 74], none⟩,
  ⟨.loc 76, .mv, [.var 10], (some (.loc 75, true))⟩,
  ⟨.loc 77, .mv, [.var 12], (some (.loc 75, true))⟩,
  ⟨.loc 78, .bin .eql, [.loc 76, .loc 77], (some (.loc 75, true))⟩,
  ⟨.loc 79, .pick, [.loc 75, .loc 78, .con (.bool false)], none⟩,
  ⟨.loc 80, .mv, [.loc 79], none⟩,
  ⟨.loc 81, .mv, [.var 14], (some (.loc 80, true))⟩,
  ⟨.loc 82, .mv, [.var 16], (some (.loc 80, true))⟩,
  ⟨.loc 83, .bin .eql, [.loc 81, .loc 82], (some (.loc 80, true))⟩,
  ⟨.loc 84, .pick, [.loc 80, .loc 83, .con (.bool false)], none⟩,
  ⟨.loc 85, .mv, [.loc 84], none⟩,
  ⟨.loc 86, .ld true 3, [.var 13], (some (.loc 85, true))⟩,
  ⟨.loc 87, .ld true 3, [.var 15], (some (.loc 85, true))⟩,
  ⟨.loc 88, .call, [(.con (.fn (.func 17) [] [])), .loc 86, .loc 87], (some (.loc 85, true))⟩,
  ⟨.loc 89, .pick, [.loc 85, .loc 88, .con (.bool false)], none⟩,
  ⟨.var 17, .mv, [.loc 89], none⟩]
@[reducible] noncomputable def r3_9 : List (RO × Bool) := [
  (⟨.loc 90, .mv, [.var 8], none⟩, true),
  (⟨.loc 91, .mv, [.loc 90], none⟩, true),
  (⟨.loc 92, .mv, [.var 17], (some (.loc 91, true))⟩, true),
  (⟨.loc 93, .pick, [.loc 91, .loc 92, .con (.bool false)], none⟩, true),
  (⟨.loc 94, .mv, [.loc 93], none⟩, true),
  (⟨.loc 95, .mv, [.var 4], (some (.loc 94, true))⟩, true),
  (⟨.loc 96, .mv, [.var 3], (some (.loc 94, true))⟩, true),
  (⟨.loc 97, .ld true 3, [.var 6], (some (.loc 94, true))⟩, true),
  (⟨.loc 98, .call, [(.con (.fn (.func 18) [] [])), .loc 95, .loc 96, .loc 97], (some (.loc 94, true))⟩, true),
  (⟨.loc 99, .mv, [.var 4], (some (.loc 94, true))⟩, true),
  (⟨.loc 100, .mv, [.var 3], (some (.loc 94, true))⟩, true),
  (⟨.loc 101, .ld true 3, [.var 6], (some (.loc 94, true))⟩, true),
  (⟨.loc 102, .call, [(.con (.fn (.func 19) [] [])), .loc 99, .loc 100, .loc 101], (some (.loc 94, true))⟩, false),
  (⟨.loc 103, .eqB false, [.loc 98, .loc 102], (some (.loc 94, true))⟩, true),
  (⟨.loc 104, .pick, [.loc 94, .loc 103, .con (.bool false)], none⟩, true),
  (⟨.loc 105, .mv, [.loc 104], none⟩, true),
  (⟨.loc 106, .mv, [.var 9], (some (.loc 105, true))⟩, true),
  (⟨.loc 107, .mv, [.var 3], (some (.loc 105, true))⟩, true),
  (⟨.loc 108, .ld true 3, [.var 6], (some (.loc 105, true))⟩, true),
  (⟨.loc 109, .call, [(.con (.fn (.func 18) [] [])), .loc 106, .loc 107, .loc 108], (some (.loc 105, true))⟩, true),
  (⟨.loc 110, .mv, [.var 11], (some (.loc 105, true))⟩, true),
  (⟨.loc 111, .mv, [.var 3], (some (.loc 105, true))⟩, true),
  (⟨.loc 112, .ld true 3, [.var 6], (some (.loc 105, true))⟩, true)]
@[reducible] noncomputable def r3_10 : List RO := [
  ⟨.loc 113, .call, [(.con (.fn (.func 19) [] [])), .loc 110, .loc 111, .loc 112], (some (.loc 105, true))⟩,
  ⟨.loc 114, .eqB false, [.loc 109, .loc 113], (some (.loc 105, true))⟩,
  ⟨.loc 115, .pick, [.loc 105, .loc 114, .con (.bool false)], none⟩,
  ⟨.var 7, .mv, [.loc 115], none⟩]
theorem i3 {a0 a1 a2 a3 a4 a5 : D} : St.init C3 [a0, a1, a2, a3, a4, a5] ⟨[], []⟩ = ⟨[a0, a1, a2, a3, a4, a5, .undef, .undef, .undef, .undef, .undef, .undef, .undef, .undef, .undef, .undef, .undef, .undef, .undef], [], ⟨[], []⟩⟩ := by unfold C3 E3; rfl
noncomputable def c3 : RC := (.seq (.reg r3_0) (.seq (.reg r3_1) (.seq (.seq (.reg r3_2) (.cond (.var 18) (.seq (.reg r3_3) .ret) .skip)) (.seq (.reg r3_4) (.seq (.reg r3_5) (.seq (.reg r3_6) (.seq (.reg r3_7) (.seq (.reg r3_8) (.seq (.regD r3_9 r3_10) .ret)))))))))
noncomputable def q3 : List RR := [(.slot (.var 7))]
theorem z3 {n m : Nat} : resCode (E3 n m) (Tryd.f3.body.getD .skip) = some c3 := by kernel_rfl
/- 4 bogie.bogielaw02.SignVerifies · 4 arguments · kept slots [0, 1, 2, 3, 8, 9, 10, 11, 12, 13, 14, 15, 16, 17, 18, 19, 20, 21, 27, 106, 111, 120, 125, 134] -/
noncomputable def E4 (n m : Nat) : Cfg := ⟨M, [0, 1, 2, 3, 8, 9, 10, 11, 12, 13, 14, 15, 16, 17, 18, 19, 20, 21, 27, 106, 111, 120, 125, 134], 153, n, m, []⟩
noncomputable def C4 : Cfg := E4 0 0
@[reducible] noncomputable def r4_0 : List RO := [
  ⟨.var 4, .mv, [.con (.bool false)], none⟩]
@[reducible] noncomputable def r4_1 : List RO := [
  ⟨.loc 22, .call, [(.con (.fn (.func 10) [] []))], none⟩,
  ⟨.var 5, .mv, [.loc 22], none⟩]
@[reducible] noncomputable def r4_2 : List RO := [
  ⟨.loc 23, .mv, [.var 0], none⟩,
  ⟨.loc 24, .mv, [.var 3], none⟩,
  ⟨.loc 25, .bsl 1, [.loc 23, .loc 24], none⟩,
  ⟨.loc 26, .call, [(.con (.fn (.func 11) [] [])), .loc 25], none⟩,
  ⟨.var 18, .un .not, [.loc 26], none⟩]
@[reducible] noncomputable def r4_3 : List RO := [
  ⟨.loc 28, .mv, [.var 5], none⟩,
  ⟨.var 4, .mv, [.loc 28], none⟩]
@[reducible] noncomputable def r4_4 : List RO := [
  ⟨.loc 29, .mv, [.var 1], none⟩,
  ⟨.loc 30, .cvI .i64, [.loc 29], none⟩,
  ⟨.loc 31, .bin .rem, [.loc 30, .con (.int .i64 4)], none⟩,
  ⟨.var 6, .mv, [.loc 31], none⟩]
@[reducible] noncomputable def r4_5 : List RO := [
  ⟨.loc 32, .mv, [.var 2], none⟩,
  ⟨.loc 33, .cvI .i64, [.loc 32], none⟩,
  ⟨.loc 34, .mv, [.var 6], none⟩,
  ⟨.loc 35, .bin .shl, [.con (.int .i64 1), .loc 34], none⟩,
  ⟨.loc 36, .bin .rem, [.loc 33, .loc 35], none⟩,
  ⟨.var 7, .mv, [.loc 36], none⟩]
@[reducible] noncomputable def r4_6 : List RO := [
  ⟨.loc 38, .mv, [.var 0], none⟩,
  ⟨.loc 39, .mv, [.var 6], none⟩,
  ⟨.loc 40, .call, [(.con (.fn (.func 13) [] [])), .loc 38, .loc 39], none⟩,
  ⟨.loc 37, .mv, [.loc 40], none⟩,
  ⟨.loc 41, .ext 0, [.loc 37], none⟩,
  ⟨.loc 42, .ext 1, [.loc 37], none⟩,
  ⟨.var 8, .mv, [.loc 41], none⟩,
  ⟨.var 9, .mv, [.loc 42], none⟩]
@[reducible] noncomputable def r4_7 : List RO := [
  ⟨.loc 44, .mv, [.var 0], none⟩,
  ⟨.loc 45, .mv, [.var 6], none⟩,
  ⟨.loc 46, .mv, [.var 7], none⟩,
  ⟨.loc 47, .mv, [.var 3], none⟩,
  ⟨.loc 48, .call, [(.con (.fn (.func 15) [] [])), .loc 44, .loc 45, .loc 46, .loc 47], none⟩,
  ⟨.loc 43, .mv, [.loc 48], none⟩,
  ⟨.loc 49, .ext 0, [.loc 43], none⟩,
  ⟨.loc 50, .ext 1, [.loc 43], none⟩,
  ⟨.var 10, (.newb [(.int .i64 0), (.lit (.slice none 0 0)), (.lit (.slice none 0 0))]), [], none⟩,
  ⟨.none, .st 3, [.var 10, .loc 49], none⟩,
  ⟨.var 11, .mv, [.loc 50], none⟩]
@[reducible] noncomputable def r4_8 : List RO := [
  ⟨.loc 52, .mv, [.var 0], none⟩,
  ⟨.loc 53, .mv, [.var 6], none⟩,
  ⟨.loc 54, .mv, [.var 7], none⟩,
  ⟨.loc 55, .mv, [.var 3], none⟩,
  ⟨.loc 56, .call, [(.con (.fn (.func 15) [] [])), .loc 52, .loc 53, .loc 54, .loc 55], none⟩,
  ⟨.loc 51, .mv, [.loc 56], none⟩,
  ⟨.loc 57, .ext 0, [.loc 51], none⟩,
  ⟨.loc 58, .ext 1, [.loc 51], none⟩,
  ⟨.var 12, (.newb [(.int .i64 0), (.lit (.slice none 0 0)), (.lit (.slice none 0 0))]), [], none⟩,
  ⟨.none, .st 3, [.var 12, .loc 57], none⟩,
  ⟨.var 13, .mv, [.loc 58], none⟩]
@[reducible] noncomputable def r4_9 : List RO := [
  ⟨.loc 60, .mv, [.var 0], none⟩,
  ⟨.loc 61, .mv, [.var 6], none⟩,
  ⟨.loc 62, .bin .add, [.loc 61, .con (.int .i64 1)], none⟩,
  ⟨.loc 63, .mv, [.var 7], none⟩,
  ⟨.loc 64, .mv, [.var 3], none⟩,
  ⟨.loc 65, .call, [(.con (.fn (.func 15) [] [])), .loc 60, .loc 62, .loc 63, .loc 64], none⟩,
  ⟨.loc 59, .mv, [.loc 65], none⟩,
  ⟨.loc 66, .ext 0, [.loc 59], none⟩,
  ⟨.loc 67, .ext 1, [.loc 59], none⟩,
  ⟨.var 14, (.newb [(.int .i64 0), (.lit (.slice none 0 0)), (.lit (.slice none 0 0))]), [], none⟩,
  ⟨.none, .st 3, [.var 14, .loc 66], none⟩,
  ⟨.var 15, .mv, [.loc 67], none⟩]
@[reducible] noncomputable def r4_10 : List RO := [
  ⟨.loc 68, .mv, [.var 9], none⟩,
  ⟨.loc 69, .bin .neq, [.loc 68, .con (.int .i64 0)], none⟩,
  ⟨.loc 70, .mv, [.loc 69], none⟩,
  ⟨.loc 71, .mv, [.var 11], (some (.loc 70, false))⟩,
  ⟨.loc 72, .bin .neq, [.loc 71, .con (.int .i64 0)], (some (.loc 70, false))⟩,
  ⟨.loc 73, .pick, [.loc 70, .con (.bool true), .loc 72], none⟩,
  ⟨.loc 74, .mv, [.loc 73], none⟩,
  ⟨.loc 75, .mv, [.var 13], (some (.loc 74, false))⟩,
  ⟨.loc 76, .bin .neq, [.loc 75, .con (.int .i64 0)], (some (.loc 74, false))⟩,
  ⟨.loc 77, .pick, [.loc 74, .con (.bool true), .loc 76], none⟩,
  ⟨.loc 78, .mv, [.loc 77], none⟩,
  ⟨.loc 79, .mv, [.var 15], (some (.loc 78, false))⟩,
  ⟨.loc 80, .bin .neq, [.loc 79, .con (.int .i64 0)], (some (.loc 78, false))⟩,
  ⟨.loc 81, .pick, [.loc 78, .con (.bool true), .loc 80], none⟩,
  ⟨.loc 82, .mv, [.loc 81], none⟩,
  ⟨.loc 83, .fld 0, [.var 10], (some (.loc 82, false))⟩,
  ⟨.loc 84, .ld false 1, [.loc 83], (some (.loc 82, false))⟩,
  ⟨.loc 85, .mv, [.var 7], (some (.loc 82, false))⟩,
  ⟨.loc 86, .bin .neq, [.loc 84, .loc 85], (some (.loc 82, false))⟩,
  ⟨.loc 87, .pick, [.loc 82, .con (.bool true), .loc 86], none⟩,
  ⟨.loc 88, .mv, [.loc 87], none⟩,
  ⟨.loc 89, .fld 1, [.var 10], (some (.loc 88, false))⟩,
  ⟨.loc 90, .ld false 1, [.loc 89], (some (.loc 88, false))⟩,
  ⟨.loc 91, .lenL, [.loc 90], (some (.loc 88, false))⟩,
  ⟨.loc 92, .bin .neq, [.loc 91, .con (.int .i64 18)], (some (.loc 88, false))⟩,
  ⟨.loc 93, .pick, [.loc 88, .con (.bool true), .loc 92], none⟩,
  ⟨.loc 94, .mv, [.loc 93], none⟩,
  ⟨.loc 95, .fld 2, [.var 10], (some (.loc 94, false))⟩,
  ⟨.loc 96, .ld false 1, [.loc 95], (some (.loc 94, false))⟩,
  ⟨.loc 97, .lenL, [.loc 96], (some (.loc 94, false))⟩,
  ⟨.loc 98, .mv, [.var 6], (some (.loc 94, false))⟩,
  ⟨.loc 99, .bin .neq, [.loc 97, .loc 98], (some (.loc 94, false))⟩,
  ⟨.loc 100, .pick, [.loc 94, .con (.bool true), .loc 99], none⟩,
  ⟨.loc 101, .mv, [.loc 100], none⟩,
  ⟨.loc 102, .ld true 3, [.var 10], (some (.loc 101, false))⟩,
  ⟨.loc 103, .ld true 3, [.var 12], (some (.loc 101, false))⟩,
  ⟨.loc 104, .call, [(.con (.fn (.func 17) [] [])), .loc 102, .loc 103], (some (.loc 101, false))⟩,
  ⟨.loc 105, .un .not, [.loc 104], (some (.loc 101, false))⟩,
  ⟨.var 19, .pick, [.loc 101, .con (.bool true), .loc 105], none⟩]
@[reducible] noncomputable def r4_11 : List RO := [
  ⟨.var 4, .mv, [.con (.bool false)], none⟩]
@[reducible] noncomputable def r4_12 : List RO := [
  ⟨.var 16, .mv, [.con (.int .i64 0)], none⟩]
@[reducible] noncomputable def r4_13 : List RO := [
  ⟨.loc 107, .mv, [.var 16], none⟩,
  ⟨.loc 108, .fld 1, [.var 10], none⟩,
  ⟨.loc 109, .ld false 1, [.loc 108], none⟩,
  ⟨.loc 110, .lenL, [.loc 109], none⟩,
  ⟨.var 20, .bin .lss, [.loc 107, .loc 110], none⟩]
@[reducible] noncomputable def r4_14 : List RO := [
  ⟨.loc 114, .fld 1, [.var 10], none⟩,
  ⟨.loc 115, .ld false 1, [.loc 114], none⟩,
  ⟨.loc 116, .mv, [.var 16], none⟩,
  ⟨.loc 117, .ixaS 1, [.loc 115, .loc 116], none⟩,
  ⟨.loc 118, .ld false 1, [.loc 117], none⟩,
  ⟨.loc 119, .call, [(.con (.fn (.func 20) [] [])), .loc 118], none⟩,
  ⟨.var 21, .un .not, [.loc 119], none⟩]
@[reducible] noncomputable def r4_15 : List RO := [
  ⟨.var 4, .mv, [.con (.bool false)], none⟩]
@[reducible] noncomputable def r4_16 : List RO := [
  ⟨.loc 112, .mv, [.var 16], none⟩,
  ⟨.loc 113, .bin .add, [.loc 112, .con (.int .i64 1)], none⟩,
  ⟨.var 16, .mv, [.loc 113], none⟩]
@[reducible] noncomputable def r4_17 : List RO := [
  ⟨.var 17, .mv, [.con (.int .i64 0)], none⟩]
@[reducible] noncomputable def r4_18 : List RO := [
  ⟨.loc 121, .mv, [.var 17], none⟩,
  ⟨.loc 122, .fld 2, [.var 10], none⟩,
  ⟨.loc 123, .ld false 1, [.loc 122], none⟩,
  ⟨.loc 124, .lenL, [.loc 123], none⟩,
  ⟨.var 22, .bin .lss, [.loc 121, .loc 124], none⟩]
@[reducible] noncomputable def r4_19 : List RO := [
  ⟨.loc 128, .fld 2, [.var 10], none⟩,
  ⟨.loc 129, .ld false 1, [.loc 128], none⟩,
  ⟨.loc 130, .mv, [.var 17], none⟩,
  ⟨.loc 131, .ixaS 1, [.loc 129, .loc 130], none⟩,
  ⟨.loc 132, .ld false 1, [.loc 131], none⟩,
  ⟨.loc 133, .call, [(.con (.fn (.func 20) [] [])), .loc 132], none⟩,
  ⟨.var 23, .un .not, [.loc 133], none⟩]
@[reducible] noncomputable def r4_20 : List RO := [
  ⟨.var 4, .mv, [.con (.bool false)], none⟩]
@[reducible] noncomputable def r4_21 : List RO := [
  ⟨.loc 126, .mv, [.var 17], none⟩,
  ⟨.loc 127, .bin .add, [.loc 126, .con (.int .i64 1)], none⟩,
  ⟨.var 17, .mv, [.loc 127], none⟩]
@[reducible] noncomputable def r4_22 : List RO := [
  ⟨.loc 135, .mv, [.var 5], none⟩,
  ⟨.loc 136, .mv, [.loc 135], none⟩,
  ⟨.loc 137, .mv, [.var 8], (some (.loc 136, true))⟩,
  ⟨.loc 138, .call, [(.con (.fn (.func 20) [] [])), .loc 137], (some (.loc 136, true))⟩,
  ⟨.loc 139, .pick, [.loc 136, .loc 138, .con (.bool false)], none⟩,
  ⟨.loc 140, .mv, [.loc 139], none⟩,
  ⟨.loc 141, .fld 1, [.var 14], (some (.loc 140, true))⟩,
  ⟨.loc 142, .ld false 1, [.loc 141], (some (.loc 140, true))⟩,
  ⟨.loc 143, .fld 1, [.var 10], (some (.loc 140, true))⟩,
  ⟨.loc 144, .ld false 1, [.loc 143], (some (.loc 140, true))⟩,
  ⟨.loc 145, .call, [(.con (.fn (.func 21) [] [])), .loc 142, .loc 144], (some (.loc 140, true))⟩,
  ⟨.loc 146, .pick, [.loc 140, .loc 145, .con (.bool false)], none⟩,
  ⟨.loc 147, .mv, [.loc 146], none⟩,
  ⟨.loc 148, .mv, [.var 8], (some (.loc 147, true))⟩,
  ⟨.loc 149, .mv, [.var 3], (some (.loc 147, true))⟩,
  ⟨.loc 150, .ld true 3, [.var 10], (some (.loc 147, true))⟩,
  ⟨.loc 151, .call, [(.con (.fn (.func 18) [] [])), .loc 148, .loc 149, .loc 150], (some (.loc 147, true))⟩,
  ⟨.loc 152, .pick, [.loc 147, .loc 151, .con (.bool false)], none⟩,
  ⟨.var 4, .mv, [.loc 152], none⟩]
theorem P4 : C4.M = M := by unfold C4 E4; rfl
theorem i4 {a0 a1 a2 a3 : D} : St.init C4 [a0, a1, a2, a3] ⟨[], []⟩ = ⟨[a0, a1, a2, a3, .undef, .undef, .undef, .undef, .undef, .undef, .undef, .undef, .undef, .undef, .undef, .undef, .undef, .undef, .undef, .undef, .undef, .undef, .undef, .undef], [], ⟨[], []⟩⟩ := by unfold C4 E4; rfl
noncomputable def c4 : RC := (.seq (.reg r4_0) (.seq (.reg r4_1) (.seq (.seq (.reg r4_2) (.cond (.var 18) (.seq (.reg r4_3) .ret) .skip)) (.seq (.reg r4_4) (.seq (.reg r4_5) (.seq (.reg r4_6) (.seq (.reg r4_7) (.seq (.reg r4_8) (.seq (.reg r4_9) (.seq (.seq (.reg r4_10) (.cond (.var 19) (.seq (.reg r4_11) .ret) .skip)) (.seq (.seq (.reg r4_12) (.block 0 (.loop (.seq (.seq (.reg r4_13) (.cond (.var 20) .skip (.exit 0))) (.seq (.block 1 (.seq (.reg r4_14) (.cond (.var 21) (.seq (.reg r4_15) .ret) .skip))) (.reg r4_16)))))) (.seq (.seq (.reg r4_17) (.block 2 (.loop (.seq (.seq (.reg r4_18) (.cond (.var 22) .skip (.exit 2))) (.seq (.block 3 (.seq (.reg r4_19) (.cond (.var 23) (.seq (.reg r4_20) .ret) .skip))) (.reg r4_21)))))) (.seq (.reg r4_22) .ret)))))))))))))
noncomputable def q4 : List RR := [(.slot (.var 4))]
theorem z4 {n m : Nat} : resCode (E4 n m) (Tryd.f4.body.getD .skip) = some c4 := by kernel_rfl
theorem zr4 {n m : Nat} : resRs (E4 n m) Tryd.f4.results.toList = some q4 := by kernel_rfl
theorem ok4 {args : List D} {d : D} (hl : args.length = 4) (h : SWp C4 c4 (fun e s => (match e with | .exit _ => False | _ => True) ∧ rrsWp q4 s fun ds => D.closed (oneOrTup ds) = true ∧ (oneOrTup ds).er = d) (St.init C4 args ⟨[], []⟩)) : Pur M 4 args d :=
  pur_of_body (C := C4) (fn := Tryd.f4) Tryd.func4 (by kernel_rfl) (by kernel_rfl) (rc := c4) z4 (rs := q4) zr4 (by kernel_rfl) (by rw [hl]; rfl) (by rw [hl]; decide) rfl rfl h
/- 5 bogie.bogielaw02.SignSound · 4 arguments · kept slots [0, 1, 2, 3, 7, 8, 9, 10, 11, 12, 13, 14, 28, 37, 42, 59] -/
noncomputable def E5 (n m : Nat) : Cfg := ⟨M, [0, 1, 2, 3, 7, 8, 9, 10, 11, 12, 13, 14, 28, 37, 42, 59], 72, n, m, []⟩
noncomputable def C5 : Cfg := E5 0 0
@[reducible] noncomputable def r5_0 : List RO := [
  ⟨.var 4, .box, [.var 3], none⟩,
  ⟨.var 5, .mv, [.con (.bool false)], none⟩]
@[reducible] noncomputable def r5_1 : List RO := [
  ⟨.loc 15, .call, [(.con (.fn (.func 10) [] []))], none⟩,
  ⟨.var 6, .mv, [.loc 15], none⟩]
@[reducible] noncomputable def r5_2 : List RO := [
  ⟨.loc 16, .mv, [.var 1], none⟩,
  ⟨.loc 17, .cvI .i64, [.loc 16], none⟩,
  ⟨.loc 18, .bin .rem, [.loc 17, .con (.int .i64 3)], none⟩,
  ⟨.var 7, .mv, [.loc 18], none⟩]
@[reducible] noncomputable def r5_3 : List RO := [
  ⟨.loc 19, .mv, [.var 0], none⟩,
  ⟨.loc 20, .mv, [.var 2], none⟩,
  ⟨.loc 21, .bsl 1, [.loc 19, .loc 20], none⟩,
  ⟨.loc 22, .call, [(.con (.fn (.func 11) [] [])), .loc 21], none⟩,
  ⟨.loc 23, .un .not, [.loc 22], none⟩,
  ⟨.loc 24, .mv, [.loc 23], none⟩,
  ⟨.loc 25, .ld true 3, [.var 4], (some (.loc 24, false))⟩,
  ⟨.loc 26, .call, [(.con (.fn (.func 12) [] [])), .loc 25], (some (.loc 24, false))⟩,
  ⟨.loc 27, .un .not, [.loc 26], (some (.loc 24, false))⟩,
  ⟨.var 12, .pick, [.loc 24, .con (.bool true), .loc 27], none⟩]
@[reducible] noncomputable def r5_4 : List RO := [
  ⟨.loc 29, .mv, [.var 6], none⟩,
  ⟨.var 5, .mv, [.loc 29], none⟩]
@[reducible] noncomputable def r5_5 : List RO := [
  ⟨.loc 31, .mv, [.var 0], none⟩,
  ⟨.loc 32, .mv, [.var 7], none⟩,
  ⟨.loc 33, .call, [(.con (.fn (.func 13) [] [])), .loc 31, .loc 32], none⟩,
  ⟨.loc 30, .mv, [.loc 33], none⟩,
  ⟨.loc 34, .ext 0, [.loc 30], none⟩,
  ⟨.loc 35, .ext 1, [.loc 30], none⟩,
  ⟨.var 8, .mv, [.loc 34], none⟩,
  ⟨.var 9, .mv, [.loc 35], none⟩]
@[reducible] noncomputable def r5_6 : List RO := [
  ⟨.loc 36, .mv, [.var 9], none⟩,
  ⟨.var 13, .bin .neq, [.loc 36, .con (.int .i64 0)], none⟩]
@[reducible] noncomputable def r5_7 : List RO := [
  ⟨.var 5, .mv, [.con (.bool false)], none⟩]
@[reducible] noncomputable def r5_8 : List RO := [
  ⟨.loc 38, .mv, [.var 8], none⟩,
  ⟨.loc 39, .mv, [.var 2], none⟩,
  ⟨.loc 40, .ld true 3, [.var 4], none⟩,
  ⟨.loc 41, .call, [(.con (.fn (.func 18) [] [])), .loc 38, .loc 39, .loc 40], none⟩,
  ⟨.var 14, .un .not, [.loc 41], none⟩]
@[reducible] noncomputable def r5_9 : List RO := [
  ⟨.loc 43, .mv, [.var 6], none⟩,
  ⟨.var 5, .mv, [.loc 43], none⟩]
@[reducible] noncomputable def r5_10 : List RO := [
  ⟨.loc 45, .mv, [.var 0], none⟩,
  ⟨.loc 46, .mv, [.var 7], none⟩,
  ⟨.loc 47, .fld 0, [.var 4], none⟩,
  ⟨.loc 48, .ld false 1, [.loc 47], none⟩,
  ⟨.loc 49, .mv, [.var 2], none⟩,
  ⟨.loc 50, .call, [(.con (.fn (.func 15) [] [])), .loc 45, .loc 46, .loc 48, .loc 49], none⟩,
  ⟨.loc 44, .mv, [.loc 50], none⟩,
  ⟨.loc 51, .ext 0, [.loc 44], none⟩,
  ⟨.loc 52, .ext 1, [.loc 44], none⟩,
  ⟨.var 10, (.newb [(.int .i64 0), (.lit (.slice none 0 0)), (.lit (.slice none 0 0))]), [], none⟩,
  ⟨.none, .st 3, [.var 10, .loc 51], none⟩,
  ⟨.var 11, .mv, [.loc 52], none⟩]
@[reducible] noncomputable def r5_11 : List RO := [
  ⟨.loc 53, .mv, [.var 11], none⟩,
  ⟨.loc 54, .bin .eql, [.loc 53, .con (.int .i64 0)], none⟩,
  ⟨.loc 55, .mv, [.loc 54], none⟩,
  ⟨.loc 56, .ld true 3, [.var 10], (some (.loc 55, true))⟩,
  ⟨.loc 57, .ld true 3, [.var 4], (some (.loc 55, true))⟩,
  ⟨.loc 58, .call, [(.con (.fn (.func 17) [] [])), .loc 56, .loc 57], (some (.loc 55, true))⟩,
  ⟨.var 15, .pick, [.loc 55, .loc 58, .con (.bool false)], none⟩]
@[reducible] noncomputable def r5_12 : List RO := [
  ⟨.loc 60, .mv, [.var 6], none⟩,
  ⟨.var 5, .mv, [.loc 60], none⟩]
@[reducible] noncomputable def r5_13 : List (RO × Bool) := [
  (⟨.loc 61, .mv, [.var 6], none⟩, true),
  (⟨.loc 62, .mv, [.loc 61], none⟩, true),
  (⟨.loc 63, .mv, [.var 0], (some (.loc 62, true))⟩, true),
  (⟨.loc 64, .mv, [.var 7], (some (.loc 62, true))⟩, true),
  (⟨.loc 65, .call, [(.con (.fn (.func 23) [] [])), .loc 63, .loc 64, .con (.int .i64 15)], (some (.loc 62, true))⟩, true),
  (⟨.loc 66, .mv, [.var 2], (some (.loc 62, true))⟩, true),
  (⟨.loc 67, .ld true 3, [.var 4], (some (.loc 62, true))⟩, true)]
@[reducible] noncomputable def r5_14 : List RO := [
  ⟨.loc 68, .call, [(.con (.fn (.func 24) [] [])), .loc 66, .loc 67], (some (.loc 62, true))⟩,
  ⟨.loc 69, .app 1 16 9, [.loc 65, .loc 68], (some (.loc 62, true))⟩,
  ⟨.loc 70, .call, [(.con (.fn (.func 22) [] [])), .loc 69], (some (.loc 62, true))⟩,
  ⟨.loc 71, .pick, [.loc 62, .loc 70, .con (.bool false)], none⟩,
  ⟨.var 5, .mv, [.loc 71], none⟩]
theorem i5 {a0 a1 a2 a3 : D} : St.init C5 [a0, a1, a2, a3] ⟨[], []⟩ = ⟨[a0, a1, a2, a3, .undef, .undef, .undef, .undef, .undef, .undef, .undef, .undef, .undef, .undef, .undef, .undef], [], ⟨[], []⟩⟩ := by unfold C5 E5; rfl
noncomputable def c5 : RC := (.seq (.reg r5_0) (.seq (.reg r5_1) (.seq (.reg r5_2) (.seq (.seq (.reg r5_3) (.cond (.var 12) (.seq (.reg r5_4) .ret) .skip)) (.seq (.reg r5_5) (.seq (.seq (.reg r5_6) (.cond (.var 13) (.seq (.reg r5_7) .ret) .skip)) (.seq (.seq (.reg r5_8) (.cond (.var 14) (.seq (.reg r5_9) .ret) .skip)) (.seq (.reg r5_10) (.seq (.seq (.reg r5_11) (.cond (.var 15) (.seq (.reg r5_12) .ret) .skip)) (.seq (.regD r5_13 r5_14) .ret))))))))))
noncomputable def q5 : List RR := [(.slot (.var 5))]
theorem z5 {n m : Nat} : resCode (E5 n m) (Tryd.f5.body.getD .skip) = some c5 := by kernel_rfl
/- 6 bogie.bogielaw02.SignBinds · 5 arguments · kept slots [0, 1, 2, 3, 4, 10, 11, 12, 13, 14, 15, 16, 17, 39, 60, 65] -/
noncomputable def E6 (n m : Nat) : Cfg := ⟨M, [0, 1, 2, 3, 4, 10, 11, 12, 13, 14, 15, 16, 17, 39, 60, 65], 78, n, m, []⟩
noncomputable def C6 : Cfg := E6 0 0
@[reducible] noncomputable def r6_0 : List RO := [
  ⟨.var 5, .mv, [.con (.bool false)], none⟩]
@[reducible] noncomputable def r6_1 : List RO := [
  ⟨.loc 18, .call, [(.con (.fn (.func 10) [] []))], none⟩,
  ⟨.var 6, .mv, [.loc 18], none⟩]
@[reducible] noncomputable def r6_2 : List RO := [
  ⟨.loc 19, .mv, [.var 1], none⟩,
  ⟨.loc 20, .cvI .i64, [.loc 19], none⟩,
  ⟨.loc 21, .bin .rem, [.loc 20, .con (.int .i64 3)], none⟩,
  ⟨.var 7, .mv, [.loc 21], none⟩]
@[reducible] noncomputable def r6_3 : List RO := [
  ⟨.loc 22, .mv, [.var 2], none⟩,
  ⟨.loc 23, .cvI .i64, [.loc 22], none⟩,
  ⟨.loc 24, .mv, [.var 7], none⟩,
  ⟨.loc 25, .bin .shl, [.con (.int .i64 1), .loc 24], none⟩,
  ⟨.loc 26, .bin .rem, [.loc 23, .loc 25], none⟩,
  ⟨.var 8, .mv, [.loc 26], none⟩]
@[reducible] noncomputable def r6_4 : List RO := [
  ⟨.loc 27, .mv, [.var 0], none⟩,
  ⟨.loc 28, .mv, [.var 3], none⟩,
  ⟨.loc 29, .mv, [.var 4], none⟩,
  ⟨.loc 30, .bsl 1, [.loc 27, .loc 28, .loc 29], none⟩,
  ⟨.loc 31, .call, [(.con (.fn (.func 11) [] [])), .loc 30], none⟩,
  ⟨.loc 32, .un .not, [.loc 31], none⟩,
  ⟨.loc 33, .mv, [.loc 32], none⟩,
  ⟨.loc 34, .mv, [.var 3], (some (.loc 33, false))⟩,
  ⟨.loc 35, .call, [(.con (.fn (.func 25) [] [])), .loc 34], (some (.loc 33, false))⟩,
  ⟨.loc 36, .mv, [.var 4], (some (.loc 33, false))⟩,
  ⟨.loc 37, .call, [(.con (.fn (.func 25) [] [])), .loc 36], (some (.loc 33, false))⟩,
  ⟨.loc 38, .bin .eql, [.loc 35, .loc 37], (some (.loc 33, false))⟩,
  ⟨.var 13, .pick, [.loc 33, .con (.bool true), .loc 38], none⟩]
@[reducible] noncomputable def r6_5 : List RO := [
  ⟨.loc 40, .mv, [.var 6], none⟩,
  ⟨.var 5, .mv, [.loc 40], none⟩]
@[reducible] noncomputable def r6_6 : List RO := [
  ⟨.loc 42, .mv, [.var 0], none⟩,
  ⟨.loc 43, .mv, [.var 7], none⟩,
  ⟨.loc 44, .call, [(.con (.fn (.func 13) [] [])), .loc 42, .loc 43], none⟩,
  ⟨.loc 41, .mv, [.loc 44], none⟩,
  ⟨.loc 45, .ext 0, [.loc 41], none⟩,
  ⟨.loc 46, .ext 1, [.loc 41], none⟩,
  ⟨.var 9, .mv, [.loc 45], none⟩,
  ⟨.var 10, .mv, [.loc 46], none⟩]
@[reducible] noncomputable def r6_7 : List RO := [
  ⟨.loc 48, .mv, [.var 0], none⟩,
  ⟨.loc 49, .mv, [.var 7], none⟩,
  ⟨.loc 50, .mv, [.var 8], none⟩,
  ⟨.loc 51, .mv, [.var 3], none⟩,
  ⟨.loc 52, .call, [(.con (.fn (.func 15) [] [])), .loc 48, .loc 49, .loc 50, .loc 51], none⟩,
  ⟨.loc 47, .mv, [.loc 52], none⟩,
  ⟨.loc 53, .ext 0, [.loc 47], none⟩,
  ⟨.loc 54, .ext 1, [.loc 47], none⟩,
  ⟨.var 11, (.newb [(.int .i64 0), (.lit (.slice none 0 0)), (.lit (.slice none 0 0))]), [], none⟩,
  ⟨.none, .st 3, [.var 11, .loc 53], none⟩,
  ⟨.var 12, .mv, [.loc 54], none⟩]
@[reducible] noncomputable def r6_8 : List RO := [
  ⟨.loc 55, .mv, [.var 10], none⟩,
  ⟨.loc 56, .bin .neq, [.loc 55, .con (.int .i64 0)], none⟩,
  ⟨.loc 57, .mv, [.loc 56], none⟩,
  ⟨.loc 58, .mv, [.var 12], (some (.loc 57, false))⟩,
  ⟨.loc 59, .bin .neq, [.loc 58, .con (.int .i64 0)], (some (.loc 57, false))⟩,
  ⟨.var 14, .pick, [.loc 57, .con (.bool true), .loc 59], none⟩]
@[reducible] noncomputable def r6_9 : List RO := [
  ⟨.var 5, .mv, [.con (.bool false)], none⟩]
@[reducible] noncomputable def r6_10 : List RO := [
  ⟨.loc 61, .mv, [.var 9], none⟩,
  ⟨.loc 62, .mv, [.var 4], none⟩,
  ⟨.loc 63, .ld true 3, [.var 11], none⟩,
  ⟨.loc 64, .call, [(.con (.fn (.func 18) [] [])), .loc 61, .loc 62, .loc 63], none⟩,
  ⟨.var 15, .un .not, [.loc 64], none⟩]
@[reducible] noncomputable def r6_11 : List RO := [
  ⟨.loc 66, .mv, [.var 6], none⟩,
  ⟨.var 5, .mv, [.loc 66], none⟩]
@[reducible] noncomputable def r6_12 : List (RO × Bool) := [
  (⟨.loc 67, .mv, [.var 6], none⟩, true),
  (⟨.loc 68, .mv, [.loc 67], none⟩, true),
  (⟨.loc 69, .mv, [.var 0], (some (.loc 68, true))⟩, true),
  (⟨.loc 70, .mv, [.var 7], (some (.loc 68, true))⟩, true),
  (⟨.loc 71, .call, [(.con (.fn (.func 23) [] [])), .loc 69, .loc 70, .con (.int .i64 30)], (some (.loc 68, true))⟩, true),
  (⟨.loc 72, .mv, [.var 4], (some (.loc 68, true))⟩, true),
  (⟨.loc 73, .ld true 3, [.var 11], (some (.loc 68, true))⟩, true)]
@[reducible] noncomputable def r6_13 : List RO := [
  ⟨.loc 74, .call, [(.con (.fn (.func 24) [] [])), .loc 72, .loc 73], (some (.loc 68, true))⟩,
  ⟨.loc 75, .app 1 16 9, [.loc 71, .loc 74], (some (.loc 68, true))⟩,
  ⟨.loc 76, .call, [(.con (.fn (.func 22) [] [])), .loc 75], (some (.loc 68, true))⟩,
  ⟨.loc 77, .pick, [.loc 68, .loc 76, .con (.bool false)], none⟩,
  ⟨.var 5, .mv, [.loc 77], none⟩]
theorem i6 {a0 a1 a2 a3 a4 : D} : St.init C6 [a0, a1, a2, a3, a4] ⟨[], []⟩ = ⟨[a0, a1, a2, a3, a4, .undef, .undef, .undef, .undef, .undef, .undef, .undef, .undef, .undef, .undef, .undef], [], ⟨[], []⟩⟩ := by unfold C6 E6; rfl
noncomputable def c6 : RC := (.seq (.reg r6_0) (.seq (.reg r6_1) (.seq (.reg r6_2) (.seq (.reg r6_3) (.seq (.seq (.reg r6_4) (.cond (.var 13) (.seq (.reg r6_5) .ret) .skip)) (.seq (.reg r6_6) (.seq (.reg r6_7) (.seq (.seq (.reg r6_8) (.cond (.var 14) (.seq (.reg r6_9) .ret) .skip)) (.seq (.seq (.reg r6_10) (.cond (.var 15) (.seq (.reg r6_11) .ret) .skip)) (.seq (.regD r6_12 r6_13) .ret))))))))))
noncomputable def q6 : List RR := [(.slot (.var 5))]
theorem z6 {n m : Nat} : resCode (E6 n m) (Tryd.f6.body.getD .skip) = some c6 := by kernel_rfl
/- 7 bogie.bogielaw02.SignChanges · 6 arguments · kept slots [0, 1, 2, 3, 4, 5, 12, 13, 14, 15, 16, 17, 18, 19, 20, 21, 36, 70, 88, 97, 120] -/
@[reducible] noncomputable def r7_0 : List RO := [
  ⟨.var 6, .mv, [.con (.bool false)], none⟩]
@[reducible] noncomputable def r7_1 : List RO := [
  ⟨.loc 22, .call, [(.con (.fn (.func 10) [] []))], none⟩,
  ⟨.var 7, .mv, [.loc 22], none⟩]
@[reducible] noncomputable def r7_2 : List RO := [
  ⟨.loc 23, .mv, [.var 1], none⟩,
  ⟨.loc 24, .cvI .i64, [.loc 23], none⟩,
  ⟨.loc 25, .bin .rem, [.loc 24, .con (.int .i64 3)], none⟩,
  ⟨.var 8, .mv, [.loc 25], none⟩]
@[reducible] noncomputable def r7_3 : List RO := [
  ⟨.loc 26, .mv, [.var 2], none⟩,
  ⟨.loc 27, .cvI .i64, [.loc 26], none⟩,
  ⟨.loc 28, .mv, [.var 8], none⟩,
  ⟨.loc 29, .bin .shl, [.con (.int .i64 1), .loc 28], none⟩,
  ⟨.loc 30, .bin .rem, [.loc 27, .loc 29], none⟩,
  ⟨.var 9, .mv, [.loc 30], none⟩]
@[reducible] noncomputable def r7_4 : List RO := [
  ⟨.loc 31, .mv, [.var 0], none⟩,
  ⟨.loc 32, .mv, [.var 3], none⟩,
  ⟨.loc 33, .mv, [.var 5], none⟩,
  ⟨.loc 34, .bsl 1, [.loc 31, .loc 32, .loc 33], none⟩,
  ⟨.loc 35, .call, [(.con (.fn (.func 11) [] [])), .loc 34], none⟩,
  ⟨.var 16, .un .not, [.loc 35], none⟩]
@[reducible] noncomputable def r7_5 : List RO := [
  ⟨.loc 37, .mv, [.var 7], none⟩,
  ⟨.var 6, .mv, [.loc 37], none⟩]
@[reducible] noncomputable def r7_6 : List RO := [
  ⟨.loc 39, .mv, [.var 0], none⟩,
  ⟨.loc 40, .mv, [.var 8], none⟩,
  ⟨.loc 41, .call, [(.con (.fn (.func 13) [] [])), .loc 39, .loc 40], none⟩,
  ⟨.loc 38, .mv, [.loc 41], none⟩,
  ⟨.loc 42, .ext 0, [.loc 38], none⟩,
  ⟨.loc 43, .ext 1, [.loc 38], none⟩,
  ⟨.var 10, .mv, [.loc 42], none⟩,
  ⟨.var 11, .mv, [.loc 43], none⟩]
@[reducible] noncomputable def r7_7 : List RO := [
  ⟨.loc 45, .mv, [.var 0], none⟩,
  ⟨.loc 46, .mv, [.var 8], none⟩,
  ⟨.loc 47, .mv, [.var 9], none⟩,
  ⟨.loc 48, .mv, [.var 3], none⟩,
  ⟨.loc 49, .call, [(.con (.fn (.func 15) [] [])), .loc 45, .loc 46, .loc 47, .loc 48], none⟩,
  ⟨.loc 44, .mv, [.loc 49], none⟩,
  ⟨.loc 50, .ext 0, [.loc 44], none⟩,
  ⟨.loc 51, .ext 1, [.loc 44], none⟩,
  ⟨.var 12, (.newb [(.int .i64 0), (.lit (.slice none 0 0)), (.lit (.slice none 0 0))]), [], none⟩,
  ⟨.none, .st 3, [.var 12, .loc 50], none⟩,
  ⟨.var 13, .mv, [.loc 51], none⟩]
@[reducible] noncomputable def r7_8 : List RO := [
  ⟨.loc 52, .mv, [.var 11], none⟩,
  ⟨.loc 53, .bin .neq, [.loc 52, .con (.int .i64 0)], none⟩,
  ⟨.loc 54, .mv, [.loc 53], none⟩,
  ⟨.loc 55, .mv, [.var 13], (some (.loc 54, false))⟩,
  ⟨.loc 56, .bin .neq, [.loc 55, .con (.int .i64 0)], (some (.loc 54, false))⟩,
  ⟨.loc 57, .pick, [.loc 54, .con (.bool true), .loc 56], none⟩,
  ⟨.loc 58, .mv, [.loc 57], none⟩,
  ⟨.loc 59, .fld 1, [.var 12], (some (.loc 58, false))⟩,
  ⟨.loc 60, .ld false 1, [.loc 59], (some (.loc 58, false))⟩,
  ⟨.loc 61, .lenL, [.loc 60], (some (.loc 58, false))⟩,
  ⟨.loc 62, .bin .neq, [.loc 61, .con (.int .i64 18)], (some (.loc 58, false))⟩,
  ⟨.loc 63, .pick, [.loc 58, .con (.bool true), .loc 62], none⟩,
  ⟨.loc 64, .mv, [.loc 63], none⟩,
  ⟨.loc 65, .fld 2, [.var 12], (some (.loc 64, false))⟩,
  ⟨.loc 66, .ld false 1, [.loc 65], (some (.loc 64, false))⟩,
  ⟨.loc 67, .lenL, [.loc 66], (some (.loc 64, false))⟩,
  ⟨.loc 68, .mv, [.var 8], (some (.loc 64, false))⟩,
  ⟨.loc 69, .bin .neq, [.loc 67, .loc 68], (some (.loc 64, false))⟩,
  ⟨.var 17, .pick, [.loc 64, .con (.bool true), .loc 69], none⟩]
@[reducible] noncomputable def r7_9 : List RO := [
  ⟨.var 6, .mv, [.con (.bool false)], none⟩]
@[reducible] noncomputable def r7_10 : List (RO × Bool) := [
  (⟨.loc 71, .fld 0, [.var 12], none⟩, true),
  (⟨.loc 72, .ld false 1, [.loc 71], none⟩, true),
  (⟨.loc 73, .bsl 1, [], none⟩, true),
  (⟨.loc 74, .fld 1, [.var 12], none⟩, true),
  (⟨.loc 75, .ld false 1, [.loc 74], none⟩, true),
  (⟨.loc 76, .app 1 16 9, [.loc 73, .loc 75], none⟩, true),
  (⟨.loc 77, .bsl 1, [], none⟩, true),
  (⟨.loc 78, .fld 2, [.var 12], none⟩, true),
  (⟨.loc 79, .ld false 1, [.loc 78], none⟩, true),
  (⟨.loc 80, .app 1 16 9, [.loc 77, .loc 79], none⟩, true),
  (⟨.loc 81, (.bld [(.int .i64 0), (.lit (.slice none 0 0)), (.lit (.slice none 0 0))] [(0, 1), (1, 1), (2, 1)]), [.loc 72, .loc 76, .loc 80], none⟩, true),
  (⟨.var 14, (.newb [(.int .i64 0), (.lit (.slice none 0 0)), (.lit (.slice none 0 0))]), [], none⟩, true)]
@[reducible] noncomputable def r7_11 : List RO := [
  ⟨.none, .st 3, [.var 14, .loc 81], none⟩]
@[reducible] noncomputable def r7_12 : List RO := [
  ⟨.loc 82, .mv, [.var 4], none⟩,
  ⟨.loc 83, .cvI .i64, [.loc 82], none⟩,
  ⟨.loc 84, .mv, [.var 8], none⟩,
  ⟨.loc 85, .bin .add, [.con (.int .i64 19), .loc 84], none⟩,
  ⟨.loc 86, .bin .rem, [.loc 83, .loc 85], none⟩,
  ⟨.var 15, .mv, [.loc 86], none⟩]
@[reducible] noncomputable def r7_13 : List RO := [
  ⟨.loc 87, .mv, [.var 15], none⟩,
  ⟨.var 18, .bin .lss, [.loc 87, .con (.int .i64 18)], none⟩]
@[reducible] noncomputable def r7_14 : List RO := [
  ⟨.loc 89, .fld 1, [.var 14], none⟩,
  ⟨.loc 90, .ld false 1, [.loc 89], none⟩,
  ⟨.loc 91, .mv, [.var 15], none⟩,
  ⟨.loc 92, .mv, [.var 5], none⟩,
  ⟨.loc 93, .ixaS 1, [.loc 90, .loc 91], none⟩,
  ⟨.none, .st 1, [.loc 93, .loc 92], none⟩]
@[reducible] noncomputable def r7_15 : List RO := [
  ⟨.loc 94, .mv, [.var 15], none⟩,
  ⟨.loc 95, .mv, [.var 8], none⟩,
  ⟨.loc 96, .bin .add, [.con (.int .i64 18), .loc 95], none⟩,
  ⟨.var 19, .bin .lss, [.loc 94, .loc 96], none⟩]
@[reducible] noncomputable def r7_16 : List RO := [
  ⟨.loc 98, .fld 2, [.var 14], none⟩,
  ⟨.loc 99, .ld false 1, [.loc 98], none⟩,
  ⟨.loc 100, .mv, [.var 15], none⟩,
  ⟨.loc 101, .bin .sub, [.loc 100, .con (.int .i64 18)], none⟩,
  ⟨.loc 102, .mv, [.var 5], none⟩,
  ⟨.loc 103, .ixaS 1, [.loc 99, .loc 101], none⟩,
  ⟨.none, .st 1, [.loc 103, .loc 102], none⟩]
@[reducible] noncomputable def r7_17 : List (RO × Bool) := [
  (⟨.loc 104, .fld 0, [.var 12], none⟩, true),
  (⟨.loc 105, .ld false 1, [.loc 104], none⟩, true),
  (⟨.loc 106, .bin .add, [.loc 105, .con (.int .i64 1)], none⟩, true),
  (⟨.loc 107, .mv, [.var 8], none⟩, true),
  (⟨.loc 108, .bin .shl, [.con (.int .i64 1), .loc 107], none⟩, true)]
@[reducible] noncomputable def r7_18 : List RO := [
  ⟨.loc 109, .bin .rem, [.loc 106, .loc 108], none⟩,
  ⟨.loc 110, .fld 0, [.var 14], none⟩,
  ⟨.none, .st 1, [.loc 110, .loc 109], none⟩]
@[reducible] noncomputable def r7_19 : List RO := [
  ⟨.loc 111, .ld true 3, [.var 14], none⟩,
  ⟨.loc 112, .ld true 3, [.var 12], none⟩,
  ⟨.loc 113, .call, [(.con (.fn (.func 17) [] [])), .loc 111, .loc 112], none⟩,
  ⟨.loc 114, .mv, [.loc 113], none⟩,
  ⟨.loc 115, .mv, [.var 10], (some (.loc 114, false))⟩,
  ⟨.loc 116, .mv, [.var 3], (some (.loc 114, false))⟩,
  ⟨.loc 117, .ld true 3, [.var 14], (some (.loc 114, false))⟩,
  ⟨.loc 118, .call, [(.con (.fn (.func 18) [] [])), .loc 115, .loc 116, .loc 117], (some (.loc 114, false))⟩,
  ⟨.loc 119, .un .not, [.loc 118], (some (.loc 114, false))⟩,
  ⟨.var 20, .pick, [.loc 114, .con (.bool true), .loc 119], none⟩]
@[reducible] noncomputable def r7_20 : List RO := [
  ⟨.loc 121, .mv, [.var 7], none⟩,
  ⟨.var 6, .mv, [.loc 121], none⟩]
@[reducible] noncomputable def r7_21 : List (RO × Bool) := [
  (⟨.loc 122, .mv, [.var 7], none⟩, true),
  (⟨.loc 123, .mv, [.loc 122], none⟩, true),
  (⟨.loc 124, .mv, [.var 0], (some (.loc 123, true))⟩, true),
  (⟨.loc 125, .mv, [.var 8], (some (.loc 123, true))⟩, true),
  (⟨.loc 126, .call, [(.con (.fn (.func 23) [] [])), .loc 124, .loc 125, .con (.int .i64 15)], (some (.loc 123, true))⟩, true),
  (⟨.loc 127, .mv, [.var 3], (some (.loc 123, true))⟩, true),
  (⟨.loc 128, .ld true 3, [.var 14], (some (.loc 123, true))⟩, true)]
@[reducible] noncomputable def r7_22 : List RO := [
  ⟨.loc 129, .call, [(.con (.fn (.func 24) [] [])), .loc 127, .loc 128], (some (.loc 123, true))⟩,
  ⟨.loc 130, .app 1 16 9, [.loc 126, .loc 129], (some (.loc 123, true))⟩,
  ⟨.loc 131, .call, [(.con (.fn (.func 22) [] [])), .loc 130], (some (.loc 123, true))⟩,
  ⟨.loc 132, .pick, [.loc 123, .loc 131, .con (.bool false)], none⟩,
  ⟨.var 6, .mv, [.loc 132], none⟩]
noncomputable def c7 : RC := (.seq (.reg r7_0) (.seq (.reg r7_1) (.seq (.reg r7_2) (.seq (.reg r7_3) (.seq (.seq (.reg r7_4) (.cond (.var 16) (.seq (.reg r7_5) .ret) .skip)) (.seq (.reg r7_6) (.seq (.reg r7_7) (.seq (.seq (.reg r7_8) (.cond (.var 17) (.seq (.reg r7_9) .ret) .skip)) (.seq (.regD r7_10 r7_11) (.seq (.reg r7_12) (.seq (.seq (.reg r7_13) (.cond (.var 18) (.reg r7_14) (.seq (.reg r7_15) (.cond (.var 19) (.reg r7_16) (.regD r7_17 r7_18))))) (.seq (.seq (.reg r7_19) (.cond (.var 20) (.seq (.reg r7_20) .ret) .skip)) (.seq (.regD r7_21 r7_22) .ret)))))))))))))
/- 8 bogie.bogielaw02.SignSecrets · 5 arguments · kept slots [0, 1, 2, 3, 4, 10, 11, 12, 13, 14, 15, 16, 17, 37, 58, 63] -/
/- 9 bogie.bogielaw02.SignForm · 3 arguments · kept slots [0, 1, 2, 5, 6, 7, 8, 9, 10, 11, 12, 30, 60, 65, 74, 79, 88] -/
noncomputable def E9 (n m : Nat) : Cfg := ⟨M, [0, 1, 2, 5, 6, 7, 8, 9, 10, 11, 12, 30, 60, 65, 74, 79, 88], 134, n, m, []⟩
noncomputable def C9 : Cfg := E9 0 0
@[reducible] noncomputable def r9_0 : List RO := [
  ⟨.var 3, .box, [.var 2], none⟩,
  ⟨.var 4, .mv, [.con (.bool false)], none⟩]
@[reducible] noncomputable def r9_1 : List RO := [
  ⟨.loc 13, .call, [(.con (.fn (.func 10) [] []))], none⟩,
  ⟨.var 5, .mv, [.loc 13], none⟩]
@[reducible] noncomputable def r9_2 : List RO := [
  ⟨.loc 14, .mv, [.var 0], none⟩,
  ⟨.loc 15, .mv, [.var 1], none⟩,
  ⟨.loc 16, .bsl 1, [.loc 14, .loc 15], none⟩,
  ⟨.loc 17, .call, [(.con (.fn (.func 11) [] [])), .loc 16], none⟩,
  ⟨.loc 18, .un .not, [.loc 17], none⟩,
  ⟨.loc 19, .mv, [.loc 18], none⟩,
  ⟨.loc 20, .ld true 3, [.var 3], (some (.loc 19, false))⟩,
  ⟨.loc 21, .call, [(.con (.fn (.func 12) [] [])), .loc 20], (some (.loc 19, false))⟩,
  ⟨.loc 22, .un .not, [.loc 21], (some (.loc 19, false))⟩,
  ⟨.loc 23, .pick, [.loc 19, .con (.bool true), .loc 22], none⟩,
  ⟨.loc 24, .mv, [.loc 23], none⟩,
  ⟨.loc 25, .mv, [.var 0], (some (.loc 24, false))⟩,
  ⟨.loc 26, .mv, [.var 1], (some (.loc 24, false))⟩,
  ⟨.loc 27, .ld true 3, [.var 3], (some (.loc 24, false))⟩,
  ⟨.loc 28, .call, [(.con (.fn (.func 18) [] [])), .loc 25, .loc 26, .loc 27], (some (.loc 24, false))⟩,
  ⟨.loc 29, .un .not, [.loc 28], (some (.loc 24, false))⟩,
  ⟨.var 11, .pick, [.loc 24, .con (.bool true), .loc 29], none⟩]
@[reducible] noncomputable def r9_3 : List RO := [
  ⟨.loc 31, .mv, [.var 5], none⟩,
  ⟨.var 4, .mv, [.loc 31], none⟩]
@[reducible] noncomputable def r9_4 : List (RO × Bool) := [
  (⟨.loc 32, .fld 1, [.var 3], none⟩, true),
  (⟨.loc 33, .ld false 1, [.loc 32], none⟩, true),
  (⟨.loc 34, .lenL, [.loc 33], none⟩, true),
  (⟨.loc 35, .bin .neq, [.loc 34, .con (.int .i64 18)], none⟩, true),
  (⟨.loc 36, .mv, [.loc 35], none⟩, true),
  (⟨.loc 37, .fld 2, [.var 3], (some (.loc 36, false))⟩, true),
  (⟨.loc 38, .ld false 1, [.loc 37], (some (.loc 36, false))⟩, true),
  (⟨.loc 39, .lenL, [.loc 38], (some (.loc 36, false))⟩, true),
  (⟨.loc 40, .bin .gtr, [.loc 39, .con (.int .i64 8)], (some (.loc 36, false))⟩, true),
  (⟨.loc 41, .pick, [.loc 36, .con (.bool true), .loc 40], none⟩, true),
  (⟨.loc 42, .mv, [.loc 41], none⟩, true),
  (⟨.loc 43, .fld 0, [.var 3], (some (.loc 42, false))⟩, true),
  (⟨.loc 44, .ld false 1, [.loc 43], (some (.loc 42, false))⟩, true),
  (⟨.loc 45, .bin .lss, [.loc 44, .con (.int .i64 0)], (some (.loc 42, false))⟩, true),
  (⟨.loc 46, .pick, [.loc 42, .con (.bool true), .loc 45], none⟩, true),
  (⟨.loc 47, .mv, [.loc 46], none⟩, true),
  (⟨.loc 48, .fld 0, [.var 3], (some (.loc 47, false))⟩, true),
  (⟨.loc 49, .ld false 1, [.loc 48], (some (.loc 47, false))⟩, true),
  (⟨.loc 50, .fld 2, [.var 3], (some (.loc 47, false))⟩, true),
  (⟨.loc 51, .ld false 1, [.loc 50], (some (.loc 47, false))⟩, true),
  (⟨.loc 52, .lenL, [.loc 51], (some (.loc 47, false))⟩, true),
  (⟨.loc 53, .bin .shl, [.con (.int .i64 1), .loc 52], (some (.loc 47, false))⟩, true)]
@[reducible] noncomputable def r9_5 : List RO := [
  ⟨.loc 54, .bin .geq, [.loc 49, .loc 53], (some (.loc 47, false))⟩,
  ⟨.loc 55, .pick, [.loc 47, .con (.bool true), .loc 54], none⟩,
  ⟨.loc 56, .mv, [.loc 55], none⟩,
  ⟨.loc 57, .mv, [.var 0], (some (.loc 56, false))⟩,
  ⟨.loc 58, .call, [(.con (.fn (.func 20) [] [])), .loc 57], (some (.loc 56, false))⟩,
  ⟨.loc 59, .un .not, [.loc 58], (some (.loc 56, false))⟩,
  ⟨.var 12, .pick, [.loc 56, .con (.bool true), .loc 59], none⟩]
@[reducible] noncomputable def r9_6 : List RO := [
  ⟨.var 4, .mv, [.con (.bool false)], none⟩]
@[reducible] noncomputable def r9_7 : List RO := [
  ⟨.var 6, .mv, [.con (.int .i64 0)], none⟩]
@[reducible] noncomputable def r9_8 : List RO := [
  ⟨.loc 61, .mv, [.var 6], none⟩,
  ⟨.loc 62, .fld 1, [.var 3], none⟩,
  ⟨.loc 63, .ld false 1, [.loc 62], none⟩,
  ⟨.loc 64, .lenL, [.loc 63], none⟩,
  ⟨.var 13, .bin .lss, [.loc 61, .loc 64], none⟩]
@[reducible] noncomputable def r9_9 : List RO := [
  ⟨.loc 68, .fld 1, [.var 3], none⟩,
  ⟨.loc 69, .ld false 1, [.loc 68], none⟩,
  ⟨.loc 70, .mv, [.var 6], none⟩,
  ⟨.loc 71, .ixaS 1, [.loc 69, .loc 70], none⟩,
  ⟨.loc 72, .ld false 1, [.loc 71], none⟩,
  ⟨.loc 73, .call, [(.con (.fn (.func 20) [] [])), .loc 72], none⟩,
  ⟨.var 14, .un .not, [.loc 73], none⟩]
@[reducible] noncomputable def r9_10 : List RO := [
  ⟨.var 4, .mv, [.con (.bool false)], none⟩]
@[reducible] noncomputable def r9_11 : List RO := [
  ⟨.loc 66, .mv, [.var 6], none⟩,
  ⟨.loc 67, .bin .add, [.loc 66, .con (.int .i64 1)], none⟩,
  ⟨.var 6, .mv, [.loc 67], none⟩]
@[reducible] noncomputable def r9_12 : List RO := [
  ⟨.var 7, .mv, [.con (.int .i64 0)], none⟩]
@[reducible] noncomputable def r9_13 : List RO := [
  ⟨.loc 75, .mv, [.var 7], none⟩,
  ⟨.loc 76, .fld 2, [.var 3], none⟩,
  ⟨.loc 77, .ld false 1, [.loc 76], none⟩,
  ⟨.loc 78, .lenL, [.loc 77], none⟩,
  ⟨.var 15, .bin .lss, [.loc 75, .loc 78], none⟩]
@[reducible] noncomputable def r9_14 : List RO := [
  ⟨.loc 82, .fld 2, [.var 3], none⟩,
  ⟨.loc 83, .ld false 1, [.loc 82], none⟩,
  ⟨.loc 84, .mv, [.var 7], none⟩,
  ⟨.loc 85, .ixaS 1, [.loc 83, .loc 84], none⟩,
  ⟨.loc 86, .ld false 1, [.loc 85], none⟩,
  ⟨.loc 87, .call, [(.con (.fn (.func 20) [] [])), .loc 86], none⟩,
  ⟨.var 16, .un .not, [.loc 87], none⟩]
@[reducible] noncomputable def r9_15 : List RO := [
  ⟨.var 4, .mv, [.con (.bool false)], none⟩]
@[reducible] noncomputable def r9_16 : List RO := [
  ⟨.loc 80, .mv, [.var 7], none⟩,
  ⟨.loc 81, .bin .add, [.loc 80, .con (.int .i64 1)], none⟩,
  ⟨.var 7, .mv, [.loc 81], none⟩]
@[reducible] noncomputable def r9_17 : List RO := [
  ⟨.loc 89, .ld true 3, [.var 3], none⟩,
  ⟨.var 8, (.newb [(.int .i64 0), (.lit (.slice none 0 0)), (.lit (.slice none 0 0))]), [], none⟩,
  ⟨.none, .st 3, [.var 8, .loc 89], none⟩]
@[reducible] noncomputable def r9_18 : List RO := [
  ⟨.loc 90, .fld 1, [.var 3], none⟩,
  ⟨.loc 91, .ld false 1, [.loc 90], none⟩,
  ⟨.loc 92, .slcL 1 false true, [.loc 91, .con (.int .i64 17)], none⟩,
  ⟨.loc 93, .fld 1, [.var 8], none⟩,
  ⟨.none, .st 1, [.loc 93, .loc 92], none⟩]
@[reducible] noncomputable def r9_19 : List RO := [
  ⟨.loc 94, .ld true 3, [.var 3], none⟩,
  ⟨.var 9, (.newb [(.int .i64 0), (.lit (.slice none 0 0)), (.lit (.slice none 0 0))]), [], none⟩,
  ⟨.none, .st 3, [.var 9, .loc 94], none⟩]
@[reducible] noncomputable def r9_20 : List (RO × Bool) := [
  (⟨.loc 95, .fld 0, [.var 3], none⟩, true),
  (⟨.loc 96, .ld false 1, [.loc 95], none⟩, true),
  (⟨.loc 97, .fld 2, [.var 3], none⟩, true),
  (⟨.loc 98, .ld false 1, [.loc 97], none⟩, true),
  (⟨.loc 99, .lenL, [.loc 98], none⟩, true),
  (⟨.loc 100, .bin .shl, [.con (.int .i64 1), .loc 99], none⟩, true)]
@[reducible] noncomputable def r9_21 : List RO := [
  ⟨.loc 101, .bin .add, [.loc 96, .loc 100], none⟩,
  ⟨.loc 102, .fld 0, [.var 9], none⟩,
  ⟨.none, .st 1, [.loc 102, .loc 101], none⟩]
@[reducible] noncomputable def r9_22 : List RO := [
  ⟨.loc 103, .ld true 3, [.var 3], none⟩,
  ⟨.var 10, (.newb [(.int .i64 0), (.lit (.slice none 0 0)), (.lit (.slice none 0 0))]), [], none⟩,
  ⟨.none, .st 3, [.var 10, .loc 103], none⟩]
@[reducible] noncomputable def r9_23 : List (RO × Bool) := [
  (⟨.loc 104, .fld 0, [.var 3], none⟩, true),
  (⟨.loc 105, .ld false 1, [.loc 104], none⟩, true),
  (⟨.loc 106, .fld 2, [.var 3], none⟩, true),
  (⟨.loc 107, .ld false 1, [.loc 106], none⟩, true),
  (⟨.loc 108, .lenL, [.loc 107], none⟩, true),
  (⟨.loc 109, .bin .shl, [.con (.int .i64 1), .loc 108], none⟩, true)]
@[reducible] noncomputable def r9_24 : List RO := [
  ⟨.loc 110, .bin .sub, [.loc 105, .loc 109], none⟩,
  ⟨.loc 111, .fld 0, [.var 10], none⟩,
  ⟨.none, .st 1, [.loc 111, .loc 110], none⟩]
@[reducible] noncomputable def r9_25 : List RO := [
  ⟨.loc 112, .mv, [.var 5], none⟩,
  ⟨.loc 113, .mv, [.loc 112], none⟩,
  ⟨.loc 114, .mv, [.var 0], (some (.loc 113, true))⟩,
  ⟨.loc 115, .mv, [.var 1], (some (.loc 113, true))⟩,
  ⟨.loc 116, .ld true 3, [.var 8], (some (.loc 113, true))⟩,
  ⟨.loc 117, .call, [(.con (.fn (.func 18) [] [])), .loc 114, .loc 115, .loc 116], (some (.loc 113, true))⟩,
  ⟨.loc 118, .un .not, [.loc 117], (some (.loc 113, true))⟩,
  ⟨.loc 119, .pick, [.loc 113, .loc 118, .con (.bool false)], none⟩,
  ⟨.loc 120, .mv, [.loc 119], none⟩,
  ⟨.loc 121, .mv, [.var 0], (some (.loc 120, true))⟩,
  ⟨.loc 122, .mv, [.var 1], (some (.loc 120, true))⟩,
  ⟨.loc 123, .ld true 3, [.var 9], (some (.loc 120, true))⟩,
  ⟨.loc 124, .call, [(.con (.fn (.func 18) [] [])), .loc 121, .loc 122, .loc 123], (some (.loc 120, true))⟩,
  ⟨.loc 125, .un .not, [.loc 124], (some (.loc 120, true))⟩,
  ⟨.loc 126, .pick, [.loc 120, .loc 125, .con (.bool false)], none⟩,
  ⟨.loc 127, .mv, [.loc 126], none⟩,
  ⟨.loc 128, .mv, [.var 0], (some (.loc 127, true))⟩,
  ⟨.loc 129, .mv, [.var 1], (some (.loc 127, true))⟩,
  ⟨.loc 130, .ld true 3, [.var 10], (some (.loc 127, true))⟩,
  ⟨.loc 131, .call, [(.con (.fn (.func 18) [] [])), .loc 128, .loc 129, .loc 130], (some (.loc 127, true))⟩,
  ⟨.loc 132, .un .not, [.loc 131], (some (.loc 127, true))⟩,
  ⟨.loc 133, .pick, [.loc 127, .loc 132, .con (.bool false)], none⟩,
  ⟨.var 4, .mv, [.loc 133], none⟩]
theorem P9 : C9.M = M := by unfold C9 E9; rfl
theorem i9 {a0 a1 a2 : D} : St.init C9 [a0, a1, a2] ⟨[], []⟩ = ⟨[a0, a1, a2, .undef, .undef, .undef, .undef, .undef, .undef, .undef, .undef, .undef, .undef, .undef, .undef, .undef, .undef], [], ⟨[], []⟩⟩ := by unfold C9 E9; rfl
noncomputable def c9 : RC := (.seq (.reg r9_0) (.seq (.reg r9_1) (.seq (.seq (.reg r9_2) (.cond (.var 11) (.seq (.reg r9_3) .ret) .skip)) (.seq (.seq (.regD r9_4 r9_5) (.cond (.var 12) (.seq (.reg r9_6) .ret) .skip)) (.seq (.seq (.reg r9_7) (.block 0 (.loop (.seq (.seq (.reg r9_8) (.cond (.var 13) .skip (.exit 0))) (.seq (.block 1 (.seq (.reg r9_9) (.cond (.var 14) (.seq (.reg r9_10) .ret) .skip))) (.reg r9_11)))))) (.seq (.seq (.reg r9_12) (.block 2 (.loop (.seq (.seq (.reg r9_13) (.cond (.var 15) .skip (.exit 2))) (.seq (.block 3 (.seq (.reg r9_14) (.cond (.var 16) (.seq (.reg r9_15) .ret) .skip))) (.reg r9_16)))))) (.seq (.reg r9_17) (.seq (.reg r9_18) (.seq (.reg r9_19) (.seq (.regD r9_20 r9_21) (.seq (.reg r9_22) (.seq (.regD r9_23 r9_24) (.seq (.reg r9_25) .ret)))))))))))))
noncomputable def q9 : List RR := [(.slot (.var 4))]
theorem z9 {n m : Nat} : resCode (E9 n m) (Tryd.f9.body.getD .skip) = some c9 := by kernel_rfl
theorem zr9 {n m : Nat} : resRs (E9 n m) Tryd.f9.results.toList = some q9 := by kernel_rfl
theorem ok9 {args : List D} {d : D} (hl : args.length = 3) (h : SWp C9 c9 (fun e s => (match e with | .exit _ => False | _ => True) ∧ rrsWp q9 s fun ds => D.closed (oneOrTup ds) = true ∧ (oneOrTup ds).er = d) (St.init C9 args ⟨[], []⟩)) : Pur M 9 args d :=
  pur_of_body (C := C9) (fn := Tryd.f9) Tryd.func9 (by kernel_rfl) (by kernel_rfl) (rc := c9) z9 (rs := q9) zr9 (by kernel_rfl) (by rw [hl]; rfl) (by rw [hl]; decide) rfl rfl h
/- 10 bogie.bogielaw02.head · 0 arguments · kept slots [0, 1, 2, 4, 5, 6, 8, 9, 10, 46] -/
noncomputable def E10 (n m : Nat) : Cfg := ⟨M, [0, 1, 2, 4, 5, 6, 8, 9, 10, 46], 82, n, m, []⟩
noncomputable def C10 : Cfg := E10 0 0
@[reducible] noncomputable def r10_0 : List RO := [
  ⟨.var 0, .mv, [.con (.bool false)], none⟩]
@[reducible] noncomputable def r10_1 : List RO := [
  ⟨.loc 12, .call, [(.con (.fn (.func 13) [] [])), (.con (.str [115, 101, 99, 114, 101, 116])), .con (.int .i64 2)], none⟩,
  ⟨.loc 11, .mv, [.loc 12], none⟩,
  ⟨.loc 13, .ext 0, [.loc 11], none⟩,
  ⟨.loc 14, .ext 1, [.loc 11], none⟩,
  ⟨.var 1, .mv, [.loc 13], none⟩,
  ⟨.var 2, .mv, [.loc 14], none⟩]
@[reducible] noncomputable def r10_2 : List RO := [
  ⟨.loc 16, .call, [(.con (.fn (.func 13) [] [])), (.con (.str [115, 101, 99, 114, 101, 116])), .con (.int .i64 9)], none⟩,
  ⟨.loc 15, .mv, [.loc 16], none⟩,
  ⟨.loc 17, .ext 0, [.loc 15], none⟩,
  ⟨.loc 18, .ext 1, [.loc 15], none⟩,
  ⟨.loc 3, .mv, [.loc 17], none⟩,
  ⟨.var 3, .mv, [.loc 18], none⟩]
@[reducible] noncomputable def r10_3 : List RO := [
  ⟨.loc 20, .call, [(.con (.fn (.func 15) [] [])), (.con (.str [115, 101, 99, 114, 101, 116])), .con (.int .i64 2), .con (.int .i64 3), (.con (.str [109, 101, 115, 115, 97, 103, 101]))], none⟩,
  ⟨.loc 19, .mv, [.loc 20], none⟩,
  ⟨.loc 21, .ext 0, [.loc 19], none⟩,
  ⟨.loc 22, .ext 1, [.loc 19], none⟩,
  ⟨.var 4, (.newb [(.int .i64 0), (.lit (.slice none 0 0)), (.lit (.slice none 0 0))]), [], none⟩,
  ⟨.none, .st 3, [.var 4, .loc 21], none⟩,
  ⟨.var 5, .mv, [.loc 22], none⟩]
@[reducible] noncomputable def r10_4 : List RO := [
  ⟨.loc 24, .call, [(.con (.fn (.func 15) [] [])), (.con (.str [115, 101, 99, 114, 101, 116])), .con (.int .i64 2), .con (.int .i64 4), (.con (.str [109, 101, 115, 115, 97, 103, 101]))], none⟩,
  ⟨.loc 23, .mv, [.loc 24], none⟩,
  ⟨.loc 25, .ext 0, [.loc 23], none⟩,
  ⟨.loc 26, .ext 1, [.loc 23], none⟩,
  ⟨.loc 7, (.newb [(.int .i64 0), (.lit (.slice none 0 0)), (.lit (.slice none 0 0))]), [], none⟩,
  ⟨.none, .st 3, [.loc 7, .loc 25], none⟩,
  ⟨.var 6, .mv, [.loc 26], none⟩]
@[reducible] noncomputable def r10_5 : List RO := [
  ⟨.loc 27, .mv, [.var 2], none⟩,
  ⟨.loc 28, .bin .neq, [.loc 27, .con (.int .i64 0)], none⟩,
  ⟨.loc 29, .mv, [.loc 28], none⟩,
  ⟨.loc 30, .mv, [.var 3], (some (.loc 29, false))⟩,
  ⟨.loc 31, .bin .neq, [.loc 30, .con (.int .i64 1)], (some (.loc 29, false))⟩,
  ⟨.loc 32, .pick, [.loc 29, .con (.bool true), .loc 31], none⟩,
  ⟨.loc 33, .mv, [.loc 32], none⟩,
  ⟨.loc 34, .mv, [.var 5], (some (.loc 33, false))⟩,
  ⟨.loc 35, .bin .neq, [.loc 34, .con (.int .i64 0)], (some (.loc 33, false))⟩,
  ⟨.loc 36, .pick, [.loc 33, .con (.bool true), .loc 35], none⟩,
  ⟨.loc 37, .mv, [.loc 36], none⟩,
  ⟨.loc 38, .mv, [.var 6], (some (.loc 37, false))⟩,
  ⟨.loc 39, .bin .neq, [.loc 38, .con (.int .i64 1)], (some (.loc 37, false))⟩,
  ⟨.loc 40, .pick, [.loc 37, .con (.bool true), .loc 39], none⟩,
  ⟨.loc 41, .mv, [.loc 40], none⟩,
  ⟨.loc 42, .fld 2, [.var 4], (some (.loc 41, false))⟩,
  ⟨.loc 43, .ld false 1, [.loc 42], (some (.loc 41, false))⟩,
  ⟨.loc 44, .lenL, [.loc 43], (some (.loc 41, false))⟩,
  ⟨.loc 45, .bin .neq, [.loc 44, .con (.int .i64 2)], (some (.loc 41, false))⟩,
  ⟨.var 9, .pick, [.loc 41, .con (.bool true), .loc 45], none⟩]
@[reducible] noncomputable def r10_6 : List RO := [
  ⟨.var 0, .mv, [.con (.bool false)], none⟩]
@[reducible] noncomputable def r10_7 : List RO := [
  ⟨.loc 47, .ld true 3, [.var 4], none⟩,
  ⟨.var 7, (.newb [(.int .i64 0), (.lit (.slice none 0 0)), (.lit (.slice none 0 0))]), [], none⟩,
  ⟨.none, .st 3, [.var 7, .loc 47], none⟩]
@[reducible] noncomputable def r10_8 : List RO := [
  ⟨.loc 48, .fld 2, [.var 4], none⟩,
  ⟨.loc 49, .ld false 1, [.loc 48], none⟩,
  ⟨.loc 50, .slcL 1 false true, [.loc 49, .con (.int .i64 1)], none⟩,
  ⟨.loc 51, .fld 2, [.var 7], none⟩,
  ⟨.none, .st 1, [.loc 51, .loc 50], none⟩]
@[reducible] noncomputable def r10_9 : List RO := [
  ⟨.loc 52, .ld true 3, [.var 4], none⟩,
  ⟨.var 8, (.newb [(.int .i64 0), (.lit (.slice none 0 0)), (.lit (.slice none 0 0))]), [], none⟩,
  ⟨.none, .st 3, [.var 8, .loc 52], none⟩]
@[reducible] noncomputable def r10_10 : List RO := [
  ⟨.loc 53, .fld 1, [.var 4], none⟩,
  ⟨.loc 54, .ld false 1, [.loc 53], none⟩,
  ⟨.loc 55, .slcL 1 true false, [.loc 54, .con (.int .i64 1)], none⟩,
  ⟨.loc 56, .fld 1, [.var 8], none⟩,
  ⟨.none, .st 1, [.loc 56, .loc 55], none⟩]
@[reducible] noncomputable def r10_11 : List RO := [
  ⟨.loc 57, .fld 0, [.var 4], none⟩,
  ⟨.loc 58, .ld false 1, [.loc 57], none⟩,
  ⟨.loc 59, .bin .eql, [.loc 58, .con (.int .i64 3)], none⟩,
  ⟨.loc 60, .mv, [.loc 59], none⟩,
  ⟨.loc 61, .mv, [.var 1], (some (.loc 60, true))⟩,
  ⟨.loc 62, .ld true 3, [.var 4], (some (.loc 60, true))⟩,
  ⟨.loc 63, .call, [(.con (.fn (.func 18) [] [])), .loc 61, (.con (.str [109, 101, 115, 115, 97, 103, 101])), .loc 62], (some (.loc 60, true))⟩,
  ⟨.loc 64, .pick, [.loc 60, .loc 63, .con (.bool false)], none⟩,
  ⟨.loc 65, .mv, [.loc 64], none⟩,
  ⟨.loc 66, .mv, [.var 1], (some (.loc 65, true))⟩,
  ⟨.loc 67, .ld true 3, [.var 7], (some (.loc 65, true))⟩,
  ⟨.loc 68, .call, [(.con (.fn (.func 18) [] [])), .loc 66, (.con (.str [109, 101, 115, 115, 97, 103, 101])), .loc 67], (some (.loc 65, true))⟩,
  ⟨.loc 69, .un .not, [.loc 68], (some (.loc 65, true))⟩,
  ⟨.loc 70, .pick, [.loc 65, .loc 69, .con (.bool false)], none⟩,
  ⟨.loc 71, .mv, [.loc 70], none⟩,
  ⟨.loc 72, .mv, [.var 1], (some (.loc 71, true))⟩,
  ⟨.loc 73, .ld true 3, [.var 8], (some (.loc 71, true))⟩,
  ⟨.loc 74, .call, [(.con (.fn (.func 18) [] [])), .loc 72, (.con (.str [109, 101, 115, 115, 97, 103, 101])), .loc 73], (some (.loc 71, true))⟩,
  ⟨.loc 75, .un .not, [.loc 74], (some (.loc 71, true))⟩,
  ⟨.loc 76, .pick, [.loc 71, .loc 75, .con (.bool false)], none⟩,
  ⟨.loc 77, .mv, [.loc 76], none⟩,
  ⟨.loc 78, .ld true 3, [.var 4], (some (.loc 77, true))⟩,
  ⟨.loc 79, .call, [(.con (.fn (.func 18) [] [])), (.con (.str [])), (.con (.str [109, 101, 115, 115, 97, 103, 101])), .loc 78], (some (.loc 77, true))⟩,
  ⟨.loc 80, .un .not, [.loc 79], (some (.loc 77, true))⟩,
  ⟨.loc 81, .pick, [.loc 77, .loc 80, .con (.bool false)], none⟩,
  ⟨.var 0, .mv, [.loc 81], none⟩]
theorem P10 : C10.M = M := by unfold C10 E10; rfl
theorem i10 : St.init C10 [] ⟨[], []⟩ = ⟨[.undef, .undef, .undef, .undef, .undef, .undef, .undef, .undef, .undef, .undef], [], ⟨[], []⟩⟩ := by unfold C10 E10; rfl
noncomputable def c10 : RC := (.seq (.reg r10_0) (.seq (.reg r10_1) (.seq (.reg r10_2) (.seq (.reg r10_3) (.seq (.reg r10_4) (.seq (.seq (.reg r10_5) (.cond (.var 9) (.seq (.reg r10_6) .ret) .skip)) (.seq (.reg r10_7) (.seq (.reg r10_8) (.seq (.reg r10_9) (.seq (.reg r10_10) (.seq (.reg r10_11) .ret)))))))))))
noncomputable def q10 : List RR := [(.slot (.var 0))]
theorem z10 {n m : Nat} : resCode (E10 n m) (Tryd.f10.body.getD .skip) = some c10 := by kernel_rfl
theorem zr10 {n m : Nat} : resRs (E10 n m) Tryd.f10.results.toList = some q10 := by kernel_rfl
theorem ok10 {args : List D} {d : D} (hl : args.length = 0) (h : SWp C10 c10 (fun e s => (match e with | .exit _ => False | _ => True) ∧ rrsWp q10 s fun ds => D.closed (oneOrTup ds) = true ∧ (oneOrTup ds).er = d) (St.init C10 args ⟨[], []⟩)) : Pur M 10 args d :=
  pur_of_body (C := C10) (fn := Tryd.f10) Tryd.func10 (by kernel_rfl) (by kernel_rfl) (rc := c10) z10 (rs := q10) zr10 (by kernel_rfl) (by rw [hl]; rfl) (by rw [hl]; decide) rfl rfl h
end Go.Proofs.YtgjkhlnpplajjaaDoor
end
section
set_option maxRecDepth 100000
set_option linter.unusedSimpArgs false
set_option linter.unusedVariables false
namespace Go.Proofs.YtgjkhlnpplajjaaDoor
open Go GoV Go.RowKit
theorem small_of_is {x : Seal} (h1 : x.sig.length ≤ 1000) (h2 : ∀ t ∈ x.sig, isD t = true) (h3 : x.path.length ≤ 1000) (h4 : ∀ t ∈ x.path, isD t = true) : SmallS x :=
  ⟨h1, fun t ht => by rw [isD_len (h2 t ht)]; omega, h3, fun t ht => by rw [isD_len (h4 t ht)]; omega⟩
theorem sgn_parts (s : List UInt8) {h i : Nat} (m : List UInt8) (hh : h ≤ 8) (hi : i < 2 ^ h) : (sgn s h i m).sig.length = 18 ∧ (sgn s h i m).path.length = h ∧ (∀ t ∈ (sgn s h i m).sig, isD t = true) ∧ (∀ t ∈ (sgn s h i m).path, isD t = true) := by
  have h0 := okS_parts (okS_sgn (s := s) (m := m) hh hi)
  exact ⟨h0.1, pathL_len h _ _ (keys_len _ _), h0.2.2.1, h0.2.2.2.1⟩
theorem small_sgn (s : List UInt8) {h i : Nat} (m : List UInt8) (hh : h ≤ 8) (hi : i < 2 ^ h) : SmallS (sgn s h i m) := by
  obtain ⟨h1, h2, h3, h4⟩ := sgn_parts s m hh hi
  exact small_of_is (by omega) h3 (by omega) h4
theorem ver_len {p m : List UInt8} {x : Seal} (h : p.length ≠ 16) : ver p m x = false := by
  unfold ver
  have : (climb (sumN (joined (ends' m x.sig))) x.path x.idx.toNat == p) = false := by
    rw [beq_eq_false_iff_ne]
    intro e
    have := climb_len (p := x.path) (i := x.idx.toNat) (sumN_len (joined (ends' m x.sig)))
    rw [e] at this
    exact h this
  rw [this, Bool.and_false]
theorem ver_sig {p m : List UInt8} {x : Seal} (h : x.sig.length ≠ 18) : ver p m x = false := by unfold ver okS; simp [h]
theorem ver_idx {p m : List UInt8} {x : Seal} (h : ¬(0 ≤ x.idx ∧ x.idx < ((2 ^ x.path.length : Nat) : Int))) : ver p m x = false := by
  unfold ver okS
  have e4 : (2 : Int) ^ x.path.length = ((2 ^ x.path.length : Nat) : Int) := by simp
  rw [e4]
  by_cases q : 0 ≤ x.idx
  · have : ¬(x.idx < ((2 ^ x.path.length : Nat) : Int)) := fun q2 => h ⟨q, q2⟩
    rw [decide_eq_false this, Bool.and_false, Bool.false_and]
  · rw [decide_eq_false q]; simp
theorem pub_is {s : List UInt8} {h : Nat} : isD (pub s h) = true := rootL_is h _ (keys_len _ _) (keys_is _ _)
set_option maxHeartbeats 4000000 in
theorem head_p : Pur M 10 [] (.bool true) := by
  refine ok10 rfl ?_
  rw [i10]
  unfold c10
  obtain ⟨sec, hsec⟩ : ∃ l : List UInt8, l = [115, 101, 99, 114, 101, 116] := ⟨_, rfl⟩
  obtain ⟨msg, hmsg⟩ : ∃ l : List UInt8, l = [109, 101, 115, 115, 97, 103, 101] := ⟨_, rfl⟩
  have ls : sec.length ≤ 300 := by rw [hsec]; decide
  have lm : msg.length ≤ 300 := by rw [hmsg]; decide
  have a1 := public_p sec 2 ls
  have a2 := public_p sec 9 ls
  have a3 := sign_p sec 2 3 msg ls lm (by omega)
  have a4 := sign_p sec 2 4 msg ls lm (by omega)
  have e1 : pubR sec 2 = (pub sec 2, 0) := rfl
  have e2 : pubR sec 9 = ([], 1) := rfl
  have e3 : sgnR sec 2 3 msg = (sgn sec 2 3 msg, 0) := rfl
  have e4 : sgnR sec 2 4 msg = (⟨0, [], []⟩, 1) := rfl
  rw [e1] at a1
  rw [e2] at a2
  rw [e3] at a3
  rw [e4] at a4
  have hv := ver_sgn (s := sec) (m := msg) (h := 2) (i := 3) (by omega) (by decide)
  have hsm := small_sgn sec (h := 2) (i := 3) msg (by omega) (by decide)
  obtain ⟨p1, p2, p3, p4⟩ := sgn_parts sec (h := 2) (i := 3) msg (by omega) (by decide)
  have hidx : (sgn sec 2 3 msg).idx = 3 := rfl
  generalize sgn sec 2 3 msg = S at *
  generalize pub sec 2 = P at *
  obtain ⟨si, ss, sp⟩ := S
  simp only at p1 p2 p3 p4 hidx
  subst hidx
  have b1 := verify_p P msg ⟨3, ss, sp⟩ hsm lm
  rw [hv] at b1
  have b2 := verify_p P msg ⟨3, ss, sp.take 1⟩ (small_of_is (by simp only; omega) p3 (by simp; omega) (fun t ht => p4 t (List.mem_of_mem_take ht))) lm
  rw [ver_idx (by simp [p2])] at b2
  have b3 := verify_p P msg ⟨3, ss.drop 1, sp⟩ (small_of_is (by simp; omega) (fun t ht => p3 t (List.mem_of_mem_drop ht)) (by simp only; omega) p4) lm
  rw [ver_sig (by simp [p1])] at b3
  have b4 := verify_p [] msg ⟨3, ss, sp⟩ hsm lm
  rw [ver_len (by simp)] at b4
  have t1 : strs (sp.take 1) = (strs sp).take 1 := by simp [List.map_take]
  have t2 : strs (ss.drop 1) = (strs ss).drop 1 := by simp [List.map_drop]
  simp only [sealD, sgnD, pubD] at a1 a2 a3 a4 b1 b2 b3 b4
  rw [t1] at b2
  rw [t2] at b3
  have l1 := strs_len ss
  have l2 := strs_len sp
  rw [p1] at l1
  rw [p2] at l2
  have c1 := closed_strs ss
  have c2 := closed_strs sp
  have d1 := erL_strs ss
  have d2 := erL_strs sp
  have k1 := elems_strs ss
  have k2 := elems_strs sp
  have c3 : D.closedL ((strs sp).take 1) = true := by rw [← t1]; exact closed_strs _
  have c4 : D.closedL ((strs ss).drop 1) = true := by rw [← t2]; exact closed_strs _
  have d3 : D.erL ((strs sp).take 1) = (strs sp).take 1 := by rw [← t1]; exact erL_strs _
  have d4 : D.erL ((strs ss).drop 1) = (strs ss).drop 1 := by rw [← t2]; exact erL_strs _
  generalize strs ss = SS at *
  generalize strs sp = SP at *
  simp only [List.map_nil] at a4
  subst hsec
  subst hmsg
  repeat' (first
    | with_reducible first | apply swp_seq | apply swp_reg | apply swp_regD | apply swp_block | apply swp_exit | apply swp_ret | apply swp_skip | apply swp_cd
    | simp only [go_sem, Nat.reduceAdd, Nat.reduceSub, Nat.reduceMul, Nat.reduceEqDiff, Nat.reduceLeDiff, Nat.reduceLT, Int.reduceEq, Int.reduceNe, Int.reduceLT, Int.reduceLE, Int.reduceAdd, Int.reduceSub, Int.reduceMul, Int.reduceNeg, Int.reduceToNat, Int.reduceTDiv, Int.reduceTMod, Int.reduceBEq, Int.reduceBNe, decide_true, decide_false, reduceCtorEq, reduceIte, P10, q10, l1, l2]
    | simp (disch := omega) only [w64, w32, wu8, wu16, wu32, wu64]
    | ((with_reducible refine o_call (a1) ?he ?hc ?_); (case he | hc => first | rfl | (simp [D.erL, D.er, D.closedL, D.closed, l1, l2, c1, c2, c3, c4, d1, d2, d3, d4, k1, k2]; done)))
    | ((with_reducible refine o_call (a2) ?he ?hc ?_); (case he | hc => first | rfl | (simp [D.erL, D.er, D.closedL, D.closed, l1, l2, c1, c2, c3, c4, d1, d2, d3, d4, k1, k2]; done)))
    | ((with_reducible refine o_call (a3) ?he ?hc ?_); (case he | hc => first | rfl | (simp [D.erL, D.er, D.closedL, D.closed, l1, l2, c1, c2, c3, c4, d1, d2, d3, d4, k1, k2]; done)))
    | ((with_reducible refine o_call (a4) ?he ?hc ?_); (case he | hc => first | rfl | (simp [D.erL, D.er, D.closedL, D.closed, l1, l2, c1, c2, c3, c4, d1, d2, d3, d4, k1, k2]; done)))
    | ((with_reducible refine o_call (b1) ?he ?hc ?_); (case he | hc => first | rfl | (simp [D.erL, D.er, D.closedL, D.closed, l1, l2, c1, c2, c3, c4, d1, d2, d3, d4, k1, k2]; done)))
    | ((with_reducible refine o_call (b2) ?he ?hc ?_); (case he | hc => first | rfl | (simp [D.erL, D.er, D.closedL, D.closed, l1, l2, c1, c2, c3, c4, d1, d2, d3, d4, k1, k2]; done)))
    | ((with_reducible refine o_call (b3) ?he ?hc ?_); (case he | hc => first | rfl | (simp [D.erL, D.er, D.closedL, D.closed, l1, l2, c1, c2, c3, c4, d1, d2, d3, d4, k1, k2]; done)))
    | ((with_reducible refine o_call (b4) ?he ?hc ?_); (case he | hc => first | rfl | (simp [D.erL, D.er, D.closedL, D.closed, l1, l2, c1, c2, c3, c4, d1, d2, d3, d4, k1, k2]; done)))
    | ((with_reducible apply s_slFF); (case hx => first | rfl | assumption | omega | ((first | refine ⟨?_, ?_⟩ | skip) <;> first | omega | (simp only [lN1, lN2, lN3, lN4, lN5, lN6, lN7, l1, l2, c1, c2, c3, c4, d1, d2, d3, d4, k1, k2] <;> omega)) | (simp [elemsK, D.isVal, D.cells, D.closedL, D.closed, l1, l2, c1, c2, c3, c4, d1, d2, d3, d4, k1, k2]; first | done | omega)))
    | ((with_reducible first | apply s_slTF | apply s_slFT); (case h0 | h1 | hx => first | rfl | assumption | omega | ((first | refine ⟨?_, ?_⟩ | skip) <;> first | omega | (simp only [lN1, lN2, lN3, lN4, lN5, lN6, lN7, l1, l2, c1, c2, c3, c4, d1, d2, d3, d4, k1, k2] <;> omega)) | (simp [elemsK, D.isVal, D.cells, D.closedL, D.closed, l1, l2, c1, c2, c3, c4, d1, d2, d3, d4, k1, k2]; first | done | omega)))
    | ((with_reducible apply s_slTT); (case h0 | h1 | h2 | hx => first | rfl | assumption | omega | ((first | refine ⟨?_, ?_⟩ | skip) <;> first | omega | (simp only [lN1, lN2, lN3, lN4, lN5, lN6, lN7, l1, l2, c1, c2, c3, c4, d1, d2, d3, d4, k1, k2] <;> omega)) | (simp [elemsK, D.isVal, D.cells, D.closedL, D.closed, l1, l2, c1, c2, c3, c4, d1, d2, d3, d4, k1, k2]; first | done | omega)))
    | ((with_reducible first | apply s_smTF | apply s_smFT); (case h0 | h1 | hc => first | rfl | assumption | omega | ((first | refine ⟨?_, ?_⟩ | skip) <;> first | omega | (simp only [lN1, lN2, lN3, lN4, lN5, lN6, lN7, l1, l2, c1, c2, c3, c4, d1, d2, d3, d4, k1, k2] <;> omega)) | (simp [elemsK, D.isVal, D.cells, D.closedL, D.closed, l1, l2, c1, c2, c3, c4, d1, d2, d3, d4, k1, k2]; first | done | omega)))
    | ((with_reducible apply s_smTT); (case h0 | h1 | h2 | hc => first | rfl | assumption | omega | ((first | refine ⟨?_, ?_⟩ | skip) <;> first | omega | (simp only [lN1, lN2, lN3, lN4, lN5, lN6, lN7, l1, l2, c1, c2, c3, c4, d1, d2, d3, d4, k1, k2] <;> omega)) | (simp [elemsK, D.isVal, D.cells, D.closedL, D.closed, l1, l2, c1, c2, c3, c4, d1, d2, d3, d4, k1, k2]; first | done | omega)))
    | with_reducible first | apply cd_dec | apply cd_eq | apply cd_ne | apply cd_split | apply gd_dec | apply gd_eq | apply gd_ne | apply gd_split
    | ((with_reducible refine And.intro ?hw ?_); (case hw => first | omega | rfl | exact ⟨_, _, rfl⟩ | assumption | (simp only [lN1, lN2, lN3, lN4, lN5, lN6, lN7, l1, l2, c1, c2, c3, c4, d1, d2, d3, d4, k1, k2] <;> omega)))
    | with_reducible intro _)
  all_goals first
    | omega
    | (exfalso; omega)
    | (simp [D.closed, D.er]; done)
end Go.Proofs.YtgjkhlnpplajjaaDoor
end
section
set_option maxRecDepth 100000
set_option linter.unusedSimpArgs false
set_option linter.unusedVariables false
namespace Go.Proofs.YtgjkhlnpplajjaaDoor
open Go GoV Go.RowKit
theorem few_small {x : Seal} (h : fewB x = true) : SmallS x ∧ x.sig.length ≤ 30 ∧ x.path.length ≤ 30 ∧ (∀ t ∈ x.sig, t.length ≤ 100) ∧ (∀ t ∈ x.path, t.length ≤ 100) := by
  unfold fewB h100 at h
  simp only [Bool.and_eq_true, List.all_eq_true, decide_eq_true_eq] at h
  obtain ⟨h1, h2, h3, h4⟩ := h
  exact ⟨⟨by omega, fun t ht => by have := h1 t ht; omega, by omega, fun t ht => by have := h2 t ht; omega⟩, h3, h4, h1, h2⟩
theorem climb_is {p : List (List UInt8)} {a : List UInt8} {i : Nat} (ha : isD a = true) : isD (climb a p i) = true := by
  induction p generalizing a i with
  | nil => exact ha
  | cons x p ih => exact ih (by rw [par_sum]; exact sumN_is _)
theorem ver_parts {p m : List UInt8} {x : Seal} (h : ver p m x = true) : okS x = true ∧ isD p = true := by
  unfold ver at h
  simp only [Bool.and_eq_true, beq_iff_eq] at h
  exact ⟨h.1, h.2 ▸ climb_is (sumN_is _)⟩
set_option maxHeartbeats 4000000 in
theorem l9_p (p m : List UInt8) (x : Seal) : Pur M 9 [.str p, .str m, sealD x] (.bool true) := by
  refine ok9 rfl ?_
  rw [i9]
  unfold c9 sealD
  have c0 := head_p
  have c1 := short_p [p, m] (by simp)
  have s1 : strs [p, m] = [.str p, .str m] := rfl
  rw [s1] at c1
  have hsl := strs_len x.sig
  have hpl := strs_len x.path
  have d1 := closed_strs x.sig
  have d2 := closed_strs x.path
  have d3 := erL_strs x.sig
  have d4 := erL_strs x.path
  have c2 := few_p x
  unfold sealD at c2
  cases h1 : ([p, m].all fun x => decide (x.length ≤ 300))
  · rw [h1] at c1
    generalize strs x.sig = SS at *
    generalize strs x.path = PP at *
    repeat' (first
    | with_reducible first | apply swp_seq | apply swp_reg | apply swp_regD | apply swp_block | apply swp_exit | apply swp_ret | apply swp_skip | apply swp_cd
    | simp only [go_sem, Nat.reduceAdd, Nat.reduceSub, Nat.reduceMul, Nat.reduceEqDiff, Nat.reduceLeDiff, Nat.reduceLT, Int.reduceEq, Int.reduceNe, Int.reduceLT, Int.reduceLE, Int.reduceAdd, Int.reduceSub, Int.reduceMul, Int.reduceNeg, Int.reduceToNat, Int.reduceTDiv, Int.reduceTMod, Int.reduceBEq, Int.reduceBNe, decide_true, decide_false, reduceCtorEq, reduceIte, P9, q9]
    | simp (disch := omega) only [w64, w32, wu8, wu16, wu32, wu64]
    | ((with_reducible refine o_call (c0) ?he ?hc ?_); (case he | hc => first | rfl | (simp [D.erL, D.er, D.closedL, D.closed, d1, d2, d3, d4]; done)))
    | ((with_reducible refine o_call (c1) ?he ?hc ?_); (case he | hc => first | rfl | (simp [D.erL, D.er, D.closedL, D.closed, d1, d2, d3, d4]; done)))
    | ((with_reducible apply s_bsl); (case he | hl | hc => first | rfl | assumption | omega | ((first | refine ⟨?_, ?_⟩ | skip) <;> first | omega | (simp only [lN1, lN2, lN3, lN4, lN5, lN6, lN7, d1, d2, d3, d4] <;> omega)) | (simp [elemsK, D.isVal, D.cells, D.closedL, D.closed, d1, d2, d3, d4]; first | done | omega)))
    | ((with_reducible apply s_slFF); (case hx => first | rfl | assumption | omega | ((first | refine ⟨?_, ?_⟩ | skip) <;> first | omega | (simp only [lN1, lN2, lN3, lN4, lN5, lN6, lN7, d1, d2, d3, d4] <;> omega)) | (simp [elemsK, D.isVal, D.cells, D.closedL, D.closed, d1, d2, d3, d4]; first | done | omega)))
    | ((with_reducible first | apply s_slTF | apply s_slFT); (case h0 | h1 | hx => first | rfl | assumption | omega | ((first | refine ⟨?_, ?_⟩ | skip) <;> first | omega | (simp only [lN1, lN2, lN3, lN4, lN5, lN6, lN7, d1, d2, d3, d4] <;> omega)) | (simp [elemsK, D.isVal, D.cells, D.closedL, D.closed, d1, d2, d3, d4]; first | done | omega)))
    | ((with_reducible apply s_slTT); (case h0 | h1 | h2 | hx => first | rfl | assumption | omega | ((first | refine ⟨?_, ?_⟩ | skip) <;> first | omega | (simp only [lN1, lN2, lN3, lN4, lN5, lN6, lN7, d1, d2, d3, d4] <;> omega)) | (simp [elemsK, D.isVal, D.cells, D.closedL, D.closed, d1, d2, d3, d4]; first | done | omega)))
    | ((with_reducible first | apply s_smTF | apply s_smFT); (case h0 | h1 | hc => first | rfl | assumption | omega | ((first | refine ⟨?_, ?_⟩ | skip) <;> first | omega | (simp only [lN1, lN2, lN3, lN4, lN5, lN6, lN7, d1, d2, d3, d4] <;> omega)) | (simp [elemsK, D.isVal, D.cells, D.closedL, D.closed, d1, d2, d3, d4]; first | done | omega)))
    | ((with_reducible apply s_smTT); (case h0 | h1 | h2 | hc => first | rfl | assumption | omega | ((first | refine ⟨?_, ?_⟩ | skip) <;> first | omega | (simp only [lN1, lN2, lN3, lN4, lN5, lN6, lN7, d1, d2, d3, d4] <;> omega)) | (simp [elemsK, D.isVal, D.cells, D.closedL, D.closed, d1, d2, d3, d4]; first | done | omega)))
    | with_reducible first | apply cd_dec | apply cd_eq | apply cd_ne | apply cd_split | apply gd_dec | apply gd_eq | apply gd_ne | apply gd_split | apply gq_dec | apply gq_eq | apply gq_ne | apply gq_split
    | ((with_reducible refine And.intro ?hw ?_); (case hw => first | omega | rfl | exact ⟨_, _, rfl⟩ | assumption | (simp only [lN1, lN2, lN3, lN4, lN5, lN6, lN7, d1, d2, d3, d4] <;> omega)))
    | with_reducible intro _)
    all_goals first
      | omega
      | (simp [D.closed, D.er]; done)
  rw [h1] at c1
  have hp : p.length ≤ 300 ∧ m.length ≤ 300 := by simpa using h1
  cases h2 : fewB x
  · rw [h2] at c2
    generalize strs x.sig = SS at *
    generalize strs x.path = PP at *
    repeat' (first
    | with_reducible first | apply swp_seq | apply swp_reg | apply swp_regD | apply swp_block | apply swp_exit | apply swp_ret | apply swp_skip | apply swp_cd
    | simp only [go_sem, Nat.reduceAdd, Nat.reduceSub, Nat.reduceMul, Nat.reduceEqDiff, Nat.reduceLeDiff, Nat.reduceLT, Int.reduceEq, Int.reduceNe, Int.reduceLT, Int.reduceLE, Int.reduceAdd, Int.reduceSub, Int.reduceMul, Int.reduceNeg, Int.reduceToNat, Int.reduceTDiv, Int.reduceTMod, Int.reduceBEq, Int.reduceBNe, decide_true, decide_false, reduceCtorEq, reduceIte, P9, q9]
    | simp (disch := omega) only [w64, w32, wu8, wu16, wu32, wu64]
    | ((with_reducible refine o_call (c0) ?he ?hc ?_); (case he | hc => first | rfl | (simp [D.erL, D.er, D.closedL, D.closed, d1, d2, d3, d4]; done)))
    | ((with_reducible refine o_call (c1) ?he ?hc ?_); (case he | hc => first | rfl | (simp [D.erL, D.er, D.closedL, D.closed, d1, d2, d3, d4]; done)))
    | ((with_reducible refine o_call (c2) ?he ?hc ?_); (case he | hc => first | rfl | (simp [D.erL, D.er, D.closedL, D.closed, d1, d2, d3, d4]; done)))
    | ((with_reducible apply s_bsl); (case he | hl | hc => first | rfl | assumption | omega | ((first | refine ⟨?_, ?_⟩ | skip) <;> first | omega | (simp only [lN1, lN2, lN3, lN4, lN5, lN6, lN7, d1, d2, d3, d4] <;> omega)) | (simp [elemsK, D.isVal, D.cells, D.closedL, D.closed, d1, d2, d3, d4]; first | done | omega)))
    | ((with_reducible apply s_slFF); (case hx => first | rfl | assumption | omega | ((first | refine ⟨?_, ?_⟩ | skip) <;> first | omega | (simp only [lN1, lN2, lN3, lN4, lN5, lN6, lN7, d1, d2, d3, d4] <;> omega)) | (simp [elemsK, D.isVal, D.cells, D.closedL, D.closed, d1, d2, d3, d4]; first | done | omega)))
    | ((with_reducible first | apply s_slTF | apply s_slFT); (case h0 | h1 | hx => first | rfl | assumption | omega | ((first | refine ⟨?_, ?_⟩ | skip) <;> first | omega | (simp only [lN1, lN2, lN3, lN4, lN5, lN6, lN7, d1, d2, d3, d4] <;> omega)) | (simp [elemsK, D.isVal, D.cells, D.closedL, D.closed, d1, d2, d3, d4]; first | done | omega)))
    | ((with_reducible apply s_slTT); (case h0 | h1 | h2 | hx => first | rfl | assumption | omega | ((first | refine ⟨?_, ?_⟩ | skip) <;> first | omega | (simp only [lN1, lN2, lN3, lN4, lN5, lN6, lN7, d1, d2, d3, d4] <;> omega)) | (simp [elemsK, D.isVal, D.cells, D.closedL, D.closed, d1, d2, d3, d4]; first | done | omega)))
    | ((with_reducible first | apply s_smTF | apply s_smFT); (case h0 | h1 | hc => first | rfl | assumption | omega | ((first | refine ⟨?_, ?_⟩ | skip) <;> first | omega | (simp only [lN1, lN2, lN3, lN4, lN5, lN6, lN7, d1, d2, d3, d4] <;> omega)) | (simp [elemsK, D.isVal, D.cells, D.closedL, D.closed, d1, d2, d3, d4]; first | done | omega)))
    | ((with_reducible apply s_smTT); (case h0 | h1 | h2 | hc => first | rfl | assumption | omega | ((first | refine ⟨?_, ?_⟩ | skip) <;> first | omega | (simp only [lN1, lN2, lN3, lN4, lN5, lN6, lN7, d1, d2, d3, d4] <;> omega)) | (simp [elemsK, D.isVal, D.cells, D.closedL, D.closed, d1, d2, d3, d4]; first | done | omega)))
    | with_reducible first | apply cd_dec | apply cd_eq | apply cd_ne | apply cd_split | apply gd_dec | apply gd_eq | apply gd_ne | apply gd_split | apply gq_dec | apply gq_eq | apply gq_ne | apply gq_split
    | ((with_reducible refine And.intro ?hw ?_); (case hw => first | omega | rfl | exact ⟨_, _, rfl⟩ | assumption | (simp only [lN1, lN2, lN3, lN4, lN5, lN6, lN7, d1, d2, d3, d4] <;> omega)))
    | with_reducible intro _)
    all_goals first
      | omega
      | (simp [D.closed, D.er]; done)
  rw [h2] at c2
  obtain ⟨hsm, n1, n2, n3, n4⟩ := few_small h2
  have c3 := verify_p p m x hsm hp.2
  unfold sealD at c3
  cases h3 : ver p m x
  · rw [h3] at c3
    generalize strs x.sig = SS at *
    generalize strs x.path = PP at *
    repeat' (first
    | with_reducible first | apply swp_seq | apply swp_reg | apply swp_regD | apply swp_block | apply swp_exit | apply swp_ret | apply swp_skip | apply swp_cd
    | simp only [go_sem, Nat.reduceAdd, Nat.reduceSub, Nat.reduceMul, Nat.reduceEqDiff, Nat.reduceLeDiff, Nat.reduceLT, Int.reduceEq, Int.reduceNe, Int.reduceLT, Int.reduceLE, Int.reduceAdd, Int.reduceSub, Int.reduceMul, Int.reduceNeg, Int.reduceToNat, Int.reduceTDiv, Int.reduceTMod, Int.reduceBEq, Int.reduceBNe, decide_true, decide_false, reduceCtorEq, reduceIte, P9, q9]
    | simp (disch := omega) only [w64, w32, wu8, wu16, wu32, wu64]
    | ((with_reducible refine o_call (c0) ?he ?hc ?_); (case he | hc => first | rfl | (simp [D.erL, D.er, D.closedL, D.closed, d1, d2, d3, d4]; done)))
    | ((with_reducible refine o_call (c1) ?he ?hc ?_); (case he | hc => first | rfl | (simp [D.erL, D.er, D.closedL, D.closed, d1, d2, d3, d4]; done)))
    | ((with_reducible refine o_call (c2) ?he ?hc ?_); (case he | hc => first | rfl | (simp [D.erL, D.er, D.closedL, D.closed, d1, d2, d3, d4]; done)))
    | ((with_reducible refine o_call (c3) ?he ?hc ?_); (case he | hc => first | rfl | (simp [D.erL, D.er, D.closedL, D.closed, d1, d2, d3, d4]; done)))
    | ((with_reducible apply s_bsl); (case he | hl | hc => first | rfl | assumption | omega | ((first | refine ⟨?_, ?_⟩ | skip) <;> first | omega | (simp only [lN1, lN2, lN3, lN4, lN5, lN6, lN7, d1, d2, d3, d4] <;> omega)) | (simp [elemsK, D.isVal, D.cells, D.closedL, D.closed, d1, d2, d3, d4]; first | done | omega)))
    | ((with_reducible apply s_slFF); (case hx => first | rfl | assumption | omega | ((first | refine ⟨?_, ?_⟩ | skip) <;> first | omega | (simp only [lN1, lN2, lN3, lN4, lN5, lN6, lN7, d1, d2, d3, d4] <;> omega)) | (simp [elemsK, D.isVal, D.cells, D.closedL, D.closed, d1, d2, d3, d4]; first | done | omega)))
    | ((with_reducible first | apply s_slTF | apply s_slFT); (case h0 | h1 | hx => first | rfl | assumption | omega | ((first | refine ⟨?_, ?_⟩ | skip) <;> first | omega | (simp only [lN1, lN2, lN3, lN4, lN5, lN6, lN7, d1, d2, d3, d4] <;> omega)) | (simp [elemsK, D.isVal, D.cells, D.closedL, D.closed, d1, d2, d3, d4]; first | done | omega)))
    | ((with_reducible apply s_slTT); (case h0 | h1 | h2 | hx => first | rfl | assumption | omega | ((first | refine ⟨?_, ?_⟩ | skip) <;> first | omega | (simp only [lN1, lN2, lN3, lN4, lN5, lN6, lN7, d1, d2, d3, d4] <;> omega)) | (simp [elemsK, D.isVal, D.cells, D.closedL, D.closed, d1, d2, d3, d4]; first | done | omega)))
    | ((with_reducible first | apply s_smTF | apply s_smFT); (case h0 | h1 | hc => first | rfl | assumption | omega | ((first | refine ⟨?_, ?_⟩ | skip) <;> first | omega | (simp only [lN1, lN2, lN3, lN4, lN5, lN6, lN7, d1, d2, d3, d4] <;> omega)) | (simp [elemsK, D.isVal, D.cells, D.closedL, D.closed, d1, d2, d3, d4]; first | done | omega)))
    | ((with_reducible apply s_smTT); (case h0 | h1 | h2 | hc => first | rfl | assumption | omega | ((first | refine ⟨?_, ?_⟩ | skip) <;> first | omega | (simp only [lN1, lN2, lN3, lN4, lN5, lN6, lN7, d1, d2, d3, d4] <;> omega)) | (simp [elemsK, D.isVal, D.cells, D.closedL, D.closed, d1, d2, d3, d4]; first | done | omega)))
    | with_reducible first | apply cd_dec | apply cd_eq | apply cd_ne | apply cd_split | apply gd_dec | apply gd_eq | apply gd_ne | apply gd_split | apply gq_dec | apply gq_eq | apply gq_ne | apply gq_split
    | ((with_reducible refine And.intro ?hw ?_); (case hw => first | omega | rfl | exact ⟨_, _, rfl⟩ | assumption | (simp only [lN1, lN2, lN3, lN4, lN5, lN6, lN7, d1, d2, d3, d4] <;> omega)))
    | with_reducible intro _)
    all_goals first
      | omega
      | (simp [D.closed, D.er]; done)
  rw [h3] at c3
  obtain ⟨h4, h5⟩ := ver_parts h3
  obtain ⟨k1, k2, k3, k4, k5, k6⟩ := okS_parts h4
  have c4 := is_p p (by omega)
  rw [h5] at c4
  rw [k1] at hsl
  have e4 : (2 : Int) ^ x.path.length = ((2 ^ x.path.length : Nat) : Int) := by simp
  rw [e4] at k6
  have hw := shl_one (h := x.path.length) (by omega)
  have hN : 2 ^ x.path.length ≤ 2 ^ 8 := Nat.pow_le_pow_right (by omega) (by omega)
  have h256 : (2 : Nat) ^ 8 = 256 := by decide
  have w2 : decide (8 < ((x.path.length : Nat) : Int)) = false := decide_eq_false (by omega)
  have w3 : decide (x.idx < 0) = false := decide_eq_false (by omega)
  have w4 : decide (((2 ^ x.path.length : Nat) : Int) ≤ x.idx) = false := decide_eq_false (by omega)
  have t1 : strs (x.sig.take 17) = (strs x.sig).take 17 := by simp [List.map_take]
  have v1 := verify_p p m ⟨x.idx, x.sig.take 17, x.path⟩ ⟨by simp; omega, fun t ht => hsm.sx t (List.mem_of_mem_take ht), hsm.pl, hsm.px⟩ hp.2
  have v2 := verify_p p m ⟨x.idx + ((2 ^ x.path.length : Nat) : Int), x.sig, x.path⟩ ⟨hsm.sl, hsm.sx, hsm.pl, hsm.px⟩ hp.2
  have v3 := verify_p p m ⟨x.idx - ((2 ^ x.path.length : Nat) : Int), x.sig, x.path⟩ ⟨hsm.sl, hsm.sx, hsm.pl, hsm.px⟩ hp.2
  rw [ver_sig (by simp [k1])] at v1
  rw [ver_idx (by simp only; omega)] at v2
  rw [ver_idx (by simp only; omega)] at v3
  unfold sealD at v1 v2 v3
  simp only [t1] at v1 v2 v3
  have d5 : D.closedL ((strs x.sig).take 17) = true := by rw [← t1]; exact closed_strs _
  have d6 : D.erL ((strs x.sig).take 17) = (strs x.sig).take 17 := by rw [← t1]; exact erL_strs _
  have d7 := elems_strs x.sig
  have hgS : ∀ k, k < 18 → (strs x.sig).getD k .undef = .str (x.sig.getD k []) := fun k hk => strs_get (by omega)
  have hgP : ∀ k, k < x.path.length → (strs x.path).getD k .undef = .str (x.path.getD k []) := fun k hk => strs_get hk
  have hiS : ∀ k, k < 18 → isD (x.sig.getD k []) = true := fun k hk => getD_is k3 (by omega)
  have hiP : ∀ k, k < x.path.length → isD (x.path.getD k []) = true := fun k hk => getD_is k4 hk
  have hlS : ∀ k, (x.sig.getD k []).length ≤ 1000 := fun k => get_small hsm.sx
  have hlP : ∀ k, (x.path.getD k []).length ≤ 1000 := fun k => get_small hsm.px
  generalize 2 ^ x.path.length = N at *
  generalize strs x.sig = SS at *
  generalize strs x.path = PP at *
  repeat' (first
    | with_reducible first | apply swp_seq | apply swp_reg | apply swp_regD | apply swp_block | apply swp_exit | apply swp_ret | apply swp_skip | apply swp_cd
    | simp only [go_sem, Nat.reduceAdd, Nat.reduceSub, Nat.reduceMul, Nat.reduceEqDiff, Nat.reduceLeDiff, Nat.reduceLT, Int.reduceEq, Int.reduceNe, Int.reduceLT, Int.reduceLE, Int.reduceAdd, Int.reduceSub, Int.reduceMul, Int.reduceNeg, Int.reduceToNat, Int.reduceTDiv, Int.reduceTMod, Int.reduceBEq, Int.reduceBNe, decide_true, decide_false, reduceCtorEq, reduceIte, P9, q9, q_shl, hsl, hpl, w2, w3, hw, w4]
    | simp (disch := omega) only [w64, w32, wu8, wu16, wu32, wu64]
    | ((with_reducible refine o_call (c0) ?he ?hc ?_); (case he | hc => first | rfl | (simp [D.erL, D.er, D.closedL, D.closed, d1, d2, d3, d4, hsl, hpl]; done)))
    | ((with_reducible refine o_call (c1) ?he ?hc ?_); (case he | hc => first | rfl | (simp [D.erL, D.er, D.closedL, D.closed, d1, d2, d3, d4, hsl, hpl]; done)))
    | ((with_reducible refine o_call (c2) ?he ?hc ?_); (case he | hc => first | rfl | (simp [D.erL, D.er, D.closedL, D.closed, d1, d2, d3, d4, hsl, hpl]; done)))
    | ((with_reducible refine o_call (c3) ?he ?hc ?_); (case he | hc => first | rfl | (simp [D.erL, D.er, D.closedL, D.closed, d1, d2, d3, d4, hsl, hpl]; done)))
    | ((with_reducible refine o_call (c4) ?he ?hc ?_); (case he | hc => first | rfl | (simp [D.erL, D.er, D.closedL, D.closed, d1, d2, d3, d4, hsl, hpl]; done)))
    | ((with_reducible apply s_bsl); (case he | hl | hc => first | rfl | assumption | omega | ((first | refine ⟨?_, ?_⟩ | skip) <;> first | omega | (simp only [lN1, lN2, lN3, lN4, lN5, lN6, lN7, d1, d2, d3, d4, hsl, hpl] <;> omega)) | (simp [elemsK, D.isVal, D.cells, D.closedL, D.closed, d1, d2, d3, d4, hsl, hpl]; first | done | omega)))
    | ((with_reducible apply s_slFF); (case hx => first | rfl | assumption | omega | ((first | refine ⟨?_, ?_⟩ | skip) <;> first | omega | (simp only [lN1, lN2, lN3, lN4, lN5, lN6, lN7, d1, d2, d3, d4, hsl, hpl] <;> omega)) | (simp [elemsK, D.isVal, D.cells, D.closedL, D.closed, d1, d2, d3, d4, hsl, hpl]; first | done | omega)))
    | ((with_reducible first | apply s_slTF | apply s_slFT); (case h0 | h1 | hx => first | rfl | assumption | omega | ((first | refine ⟨?_, ?_⟩ | skip) <;> first | omega | (simp only [lN1, lN2, lN3, lN4, lN5, lN6, lN7, d1, d2, d3, d4, hsl, hpl] <;> omega)) | (simp [elemsK, D.isVal, D.cells, D.closedL, D.closed, d1, d2, d3, d4, hsl, hpl]; first | done | omega)))
    | ((with_reducible apply s_slTT); (case h0 | h1 | h2 | hx => first | rfl | assumption | omega | ((first | refine ⟨?_, ?_⟩ | skip) <;> first | omega | (simp only [lN1, lN2, lN3, lN4, lN5, lN6, lN7, d1, d2, d3, d4, hsl, hpl] <;> omega)) | (simp [elemsK, D.isVal, D.cells, D.closedL, D.closed, d1, d2, d3, d4, hsl, hpl]; first | done | omega)))
    | ((with_reducible first | apply s_smTF | apply s_smFT); (case h0 | h1 | hc => first | rfl | assumption | omega | ((first | refine ⟨?_, ?_⟩ | skip) <;> first | omega | (simp only [lN1, lN2, lN3, lN4, lN5, lN6, lN7, d1, d2, d3, d4, hsl, hpl] <;> omega)) | (simp [elemsK, D.isVal, D.cells, D.closedL, D.closed, d1, d2, d3, d4, hsl, hpl]; first | done | omega)))
    | ((with_reducible apply s_smTT); (case h0 | h1 | h2 | hc => first | rfl | assumption | omega | ((first | refine ⟨?_, ?_⟩ | skip) <;> first | omega | (simp only [lN1, lN2, lN3, lN4, lN5, lN6, lN7, d1, d2, d3, d4, hsl, hpl] <;> omega)) | (simp [elemsK, D.isVal, D.cells, D.closedL, D.closed, d1, d2, d3, d4, hsl, hpl]; first | done | omega)))
    | with_reducible first | apply cd_dec | apply cd_eq | apply cd_ne | apply cd_split | apply gd_dec | apply gd_eq | apply gd_ne | apply gd_split | apply gq_dec | apply gq_eq | apply gq_ne | apply gq_split
    | ((with_reducible refine And.intro ?hw ?_); (case hw => first | omega | rfl | exact ⟨_, _, rfl⟩ | assumption | (simp only [lN1, lN2, lN3, lN4, lN5, lN6, lN7, d1, d2, d3, d4, hsl, hpl] <;> omega)))
    | with_reducible intro _)
  all_goals try omega
  refine swp_fam [0, 1, 2, 3, 4, 5, 6] (fun k : Nat => ⟨[.str p, .str m, .agg [.int .i64 x.idx, .slice SS .no, .slice PP .no], .ptr 0 0, .bool false, .bool true, .int .i64 (k : Nat), .undef, .undef, .undef, .undef, .undef, .undef, .undef, .undef, .undef, .undef], [], ⟨[.cells [.int .i64 x.idx, .slice SS .no, .slice PP .no]], []⟩⟩)
    (fun k => k ≤ 18) (fun k => 18 - k) 0 (by omega) ?_ ?_
  · simp [keepE, St.keep]
  intro k hk
  by_cases hlt : k < 18
  · have hg := hgS k hlt
    have b1 := is_p (x.sig.getD k []) (by have := hlS k; omega)
    rw [hiS k hlt] at b1
    have u1 : ((k : Nat) : Int).toNat = k := Int.toNat_natCast k
    generalize x.sig.getD k [] = g at *
    repeat' (first
    | with_reducible first | apply swp_seq | apply swp_reg | apply swp_regD | apply swp_block | apply swp_exit | apply swp_ret | apply swp_skip | apply swp_cd
    | simp only [go_sem, Nat.reduceAdd, Nat.reduceSub, Nat.reduceMul, Nat.reduceEqDiff, Nat.reduceLeDiff, Nat.reduceLT, Int.reduceEq, Int.reduceNe, Int.reduceLT, Int.reduceLE, Int.reduceAdd, Int.reduceSub, Int.reduceMul, Int.reduceNeg, Int.reduceToNat, Int.reduceTDiv, Int.reduceTMod, Int.reduceBEq, Int.reduceBNe, decide_true, decide_false, reduceCtorEq, reduceIte, P9, q9, u1, hg, hsl]
    | simp (disch := omega) only [w64, w32, wu8, wu16, wu32, wu64]
    | ((with_reducible refine o_call (b1) ?he ?hc ?_); (case he | hc => first | rfl | (simp [D.erL, D.er, D.closedL, D.closed, hsl]; done)))
    | ((with_reducible apply s_bsl); (case he | hl | hc => first | rfl | assumption | omega | ((first | refine ⟨?_, ?_⟩ | skip) <;> first | omega | (simp only [lN1, lN2, lN3, lN4, lN5, lN6, lN7, hsl] <;> omega)) | (simp [elemsK, D.isVal, D.cells, D.closedL, D.closed, hsl]; first | done | omega)))
    | ((with_reducible apply s_slFF); (case hx => first | rfl | assumption | omega | ((first | refine ⟨?_, ?_⟩ | skip) <;> first | omega | (simp only [lN1, lN2, lN3, lN4, lN5, lN6, lN7, hsl] <;> omega)) | (simp [elemsK, D.isVal, D.cells, D.closedL, D.closed, hsl]; first | done | omega)))
    | ((with_reducible first | apply s_slTF | apply s_slFT); (case h0 | h1 | hx => first | rfl | assumption | omega | ((first | refine ⟨?_, ?_⟩ | skip) <;> first | omega | (simp only [lN1, lN2, lN3, lN4, lN5, lN6, lN7, hsl] <;> omega)) | (simp [elemsK, D.isVal, D.cells, D.closedL, D.closed, hsl]; first | done | omega)))
    | ((with_reducible apply s_slTT); (case h0 | h1 | h2 | hx => first | rfl | assumption | omega | ((first | refine ⟨?_, ?_⟩ | skip) <;> first | omega | (simp only [lN1, lN2, lN3, lN4, lN5, lN6, lN7, hsl] <;> omega)) | (simp [elemsK, D.isVal, D.cells, D.closedL, D.closed, hsl]; first | done | omega)))
    | ((with_reducible first | apply s_smTF | apply s_smFT); (case h0 | h1 | hc => first | rfl | assumption | omega | ((first | refine ⟨?_, ?_⟩ | skip) <;> first | omega | (simp only [lN1, lN2, lN3, lN4, lN5, lN6, lN7, hsl] <;> omega)) | (simp [elemsK, D.isVal, D.cells, D.closedL, D.closed, hsl]; first | done | omega)))
    | ((with_reducible apply s_smTT); (case h0 | h1 | h2 | hc => first | rfl | assumption | omega | ((first | refine ⟨?_, ?_⟩ | skip) <;> first | omega | (simp only [lN1, lN2, lN3, lN4, lN5, lN6, lN7, hsl] <;> omega)) | (simp [elemsK, D.isVal, D.cells, D.closedL, D.closed, hsl]; first | done | omega)))
    | with_reducible first | apply cd_dec | apply cd_eq | apply cd_ne | apply cd_split | apply gd_dec | apply gd_eq | apply gd_ne | apply gd_split | apply gq_dec | apply gq_eq | apply gq_ne | apply gq_split
    | ((with_reducible refine And.intro ?hw ?_); (case hw => first | omega | rfl | exact ⟨_, _, rfl⟩ | assumption | (simp only [lN1, lN2, lN3, lN4, lN5, lN6, lN7, hsl] <;> omega)))
    | with_reducible intro _)
    all_goals try omega
    refine ⟨k + 1, by omega, by omega, ?_⟩
    simp [keepE, St.keep]
  have e : k = 18 := by omega
  subst e
  repeat' (first
    | with_reducible first | apply swp_seq | apply swp_reg | apply swp_regD | apply swp_block | apply swp_exit | apply swp_ret | apply swp_skip | apply swp_cd
    | simp only [go_sem, Nat.reduceAdd, Nat.reduceSub, Nat.reduceMul, Nat.reduceEqDiff, Nat.reduceLeDiff, Nat.reduceLT, Int.reduceEq, Int.reduceNe, Int.reduceLT, Int.reduceLE, Int.reduceAdd, Int.reduceSub, Int.reduceMul, Int.reduceNeg, Int.reduceToNat, Int.reduceTDiv, Int.reduceTMod, Int.reduceBEq, Int.reduceBNe, decide_true, decide_false, reduceCtorEq, reduceIte, P9, q9, hsl]
    | simp (disch := omega) only [w64, w32, wu8, wu16, wu32, wu64]
    | ((with_reducible apply s_bsl); (case he | hl | hc => first | rfl | assumption | omega | ((first | refine ⟨?_, ?_⟩ | skip) <;> first | omega | (simp only [lN1, lN2, lN3, lN4, lN5, lN6, lN7, hsl] <;> omega)) | (simp [elemsK, D.isVal, D.cells, D.closedL, D.closed, hsl]; first | done | omega)))
    | ((with_reducible apply s_slFF); (case hx => first | rfl | assumption | omega | ((first | refine ⟨?_, ?_⟩ | skip) <;> first | omega | (simp only [lN1, lN2, lN3, lN4, lN5, lN6, lN7, hsl] <;> omega)) | (simp [elemsK, D.isVal, D.cells, D.closedL, D.closed, hsl]; first | done | omega)))
    | ((with_reducible first | apply s_slTF | apply s_slFT); (case h0 | h1 | hx => first | rfl | assumption | omega | ((first | refine ⟨?_, ?_⟩ | skip) <;> first | omega | (simp only [lN1, lN2, lN3, lN4, lN5, lN6, lN7, hsl] <;> omega)) | (simp [elemsK, D.isVal, D.cells, D.closedL, D.closed, hsl]; first | done | omega)))
    | ((with_reducible apply s_slTT); (case h0 | h1 | h2 | hx => first | rfl | assumption | omega | ((first | refine ⟨?_, ?_⟩ | skip) <;> first | omega | (simp only [lN1, lN2, lN3, lN4, lN5, lN6, lN7, hsl] <;> omega)) | (simp [elemsK, D.isVal, D.cells, D.closedL, D.closed, hsl]; first | done | omega)))
    | ((with_reducible first | apply s_smTF | apply s_smFT); (case h0 | h1 | hc => first | rfl | assumption | omega | ((first | refine ⟨?_, ?_⟩ | skip) <;> first | omega | (simp only [lN1, lN2, lN3, lN4, lN5, lN6, lN7, hsl] <;> omega)) | (simp [elemsK, D.isVal, D.cells, D.closedL, D.closed, hsl]; first | done | omega)))
    | ((with_reducible apply s_smTT); (case h0 | h1 | h2 | hc => first | rfl | assumption | omega | ((first | refine ⟨?_, ?_⟩ | skip) <;> first | omega | (simp only [lN1, lN2, lN3, lN4, lN5, lN6, lN7, hsl] <;> omega)) | (simp [elemsK, D.isVal, D.cells, D.closedL, D.closed, hsl]; first | done | omega)))
    | with_reducible first | apply cd_dec | apply cd_eq | apply cd_ne | apply cd_split | apply gd_dec | apply gd_eq | apply gd_ne | apply gd_split | apply gq_dec | apply gq_eq | apply gq_ne | apply gq_split
    | ((with_reducible refine And.intro ?hw ?_); (case hw => first | omega | rfl | exact ⟨_, _, rfl⟩ | assumption | (simp only [lN1, lN2, lN3, lN4, lN5, lN6, lN7, hsl] <;> omega)))
    | with_reducible intro _)
  all_goals try omega
  refine swp_fam [0, 1, 2, 3, 4, 5, 7] (fun k : Nat => ⟨[.str p, .str m, .agg [.int .i64 x.idx, .slice SS .no, .slice PP .no], .ptr 0 0, .bool false, .bool true, .undef, .int .i64 (k : Nat), .undef, .undef, .undef, .undef, .undef, .undef, .undef, .undef, .undef], [], ⟨[.cells [.int .i64 x.idx, .slice SS .no, .slice PP .no]], []⟩⟩)
    (fun k => k ≤ x.path.length) (fun k => x.path.length - k) 0 (by omega) ?_ ?_
  · simp [keepE, St.keep]
  intro k hk
  by_cases hlt : k < x.path.length
  · have hg := hgP k hlt
    have b1 := is_p (x.path.getD k []) (by have := hlP k; omega)
    rw [hiP k hlt] at b1
    have u1 : ((k : Nat) : Int).toNat = k := Int.toNat_natCast k
    generalize x.path.getD k [] = g at *
    repeat' (first
    | with_reducible first | apply swp_seq | apply swp_reg | apply swp_regD | apply swp_block | apply swp_exit | apply swp_ret | apply swp_skip | apply swp_cd
    | simp only [go_sem, Nat.reduceAdd, Nat.reduceSub, Nat.reduceMul, Nat.reduceEqDiff, Nat.reduceLeDiff, Nat.reduceLT, Int.reduceEq, Int.reduceNe, Int.reduceLT, Int.reduceLE, Int.reduceAdd, Int.reduceSub, Int.reduceMul, Int.reduceNeg, Int.reduceToNat, Int.reduceTDiv, Int.reduceTMod, Int.reduceBEq, Int.reduceBNe, decide_true, decide_false, reduceCtorEq, reduceIte, P9, q9, u1, hg, hpl]
    | simp (disch := omega) only [w64, w32, wu8, wu16, wu32, wu64]
    | ((with_reducible refine o_call (b1) ?he ?hc ?_); (case he | hc => first | rfl | (simp [D.erL, D.er, D.closedL, D.closed, hpl]; done)))
    | ((with_reducible apply s_bsl); (case he | hl | hc => first | rfl | assumption | omega | ((first | refine ⟨?_, ?_⟩ | skip) <;> first | omega | (simp only [lN1, lN2, lN3, lN4, lN5, lN6, lN7, hpl] <;> omega)) | (simp [elemsK, D.isVal, D.cells, D.closedL, D.closed, hpl]; first | done | omega)))
    | ((with_reducible apply s_slFF); (case hx => first | rfl | assumption | omega | ((first | refine ⟨?_, ?_⟩ | skip) <;> first | omega | (simp only [lN1, lN2, lN3, lN4, lN5, lN6, lN7, hpl] <;> omega)) | (simp [elemsK, D.isVal, D.cells, D.closedL, D.closed, hpl]; first | done | omega)))
    | ((with_reducible first | apply s_slTF | apply s_slFT); (case h0 | h1 | hx => first | rfl | assumption | omega | ((first | refine ⟨?_, ?_⟩ | skip) <;> first | omega | (simp only [lN1, lN2, lN3, lN4, lN5, lN6, lN7, hpl] <;> omega)) | (simp [elemsK, D.isVal, D.cells, D.closedL, D.closed, hpl]; first | done | omega)))
    | ((with_reducible apply s_slTT); (case h0 | h1 | h2 | hx => first | rfl | assumption | omega | ((first | refine ⟨?_, ?_⟩ | skip) <;> first | omega | (simp only [lN1, lN2, lN3, lN4, lN5, lN6, lN7, hpl] <;> omega)) | (simp [elemsK, D.isVal, D.cells, D.closedL, D.closed, hpl]; first | done | omega)))
    | ((with_reducible first | apply s_smTF | apply s_smFT); (case h0 | h1 | hc => first | rfl | assumption | omega | ((first | refine ⟨?_, ?_⟩ | skip) <;> first | omega | (simp only [lN1, lN2, lN3, lN4, lN5, lN6, lN7, hpl] <;> omega)) | (simp [elemsK, D.isVal, D.cells, D.closedL, D.closed, hpl]; first | done | omega)))
    | ((with_reducible apply s_smTT); (case h0 | h1 | h2 | hc => first | rfl | assumption | omega | ((first | refine ⟨?_, ?_⟩ | skip) <;> first | omega | (simp only [lN1, lN2, lN3, lN4, lN5, lN6, lN7, hpl] <;> omega)) | (simp [elemsK, D.isVal, D.cells, D.closedL, D.closed, hpl]; first | done | omega)))
    | with_reducible first | apply cd_dec | apply cd_eq | apply cd_ne | apply cd_split | apply gd_dec | apply gd_eq | apply gd_ne | apply gd_split | apply gq_dec | apply gq_eq | apply gq_ne | apply gq_split
    | ((with_reducible refine And.intro ?hw ?_); (case hw => first | omega | rfl | exact ⟨_, _, rfl⟩ | assumption | (simp only [lN1, lN2, lN3, lN4, lN5, lN6, lN7, hpl] <;> omega)))
    | with_reducible intro _)
    all_goals try omega
    refine ⟨k + 1, by omega, by omega, ?_⟩
    simp [keepE, St.keep]
  have e : k = x.path.length := by omega
  subst e
  repeat' (first
    | with_reducible first | apply swp_seq | apply swp_reg | apply swp_regD | apply swp_block | apply swp_exit | apply swp_ret | apply swp_skip | apply swp_cd
    | simp only [go_sem, Nat.reduceAdd, Nat.reduceSub, Nat.reduceMul, Nat.reduceEqDiff, Nat.reduceLeDiff, Nat.reduceLT, Int.reduceEq, Int.reduceNe, Int.reduceLT, Int.reduceLE, Int.reduceAdd, Int.reduceSub, Int.reduceMul, Int.reduceNeg, Int.reduceToNat, Int.reduceTDiv, Int.reduceTMod, Int.reduceBEq, Int.reduceBNe, decide_true, decide_false, reduceCtorEq, reduceIte, P9, q9, q_shl, hpl, hsl, hw]
    | simp (disch := omega) only [w64, w32, wu8, wu16, wu32, wu64]
    | ((with_reducible refine o_call (v1) ?he ?hc ?_); (case he | hc => first | rfl | (simp [D.erL, D.er, D.closedL, D.closed, hpl, hsl, d1, d2, d3, d4, d5, d6, d7]; done)))
    | ((with_reducible refine o_call (v2) ?he ?hc ?_); (case he | hc => first | rfl | (simp [D.erL, D.er, D.closedL, D.closed, hpl, hsl, d1, d2, d3, d4, d5, d6, d7]; done)))
    | ((with_reducible refine o_call (v3) ?he ?hc ?_); (case he | hc => first | rfl | (simp [D.erL, D.er, D.closedL, D.closed, hpl, hsl, d1, d2, d3, d4, d5, d6, d7]; done)))
    | ((with_reducible apply s_bsl); (case he | hl | hc => first | rfl | assumption | omega | ((first | refine ⟨?_, ?_⟩ | skip) <;> first | omega | (simp only [lN1, lN2, lN3, lN4, lN5, lN6, lN7, hpl, hsl, d1, d2, d3, d4, d5, d6, d7] <;> omega)) | (simp [elemsK, D.isVal, D.cells, D.closedL, D.closed, hpl, hsl, d1, d2, d3, d4, d5, d6, d7]; first | done | omega)))
    | ((with_reducible apply s_slFF); (case hx => first | rfl | assumption | omega | ((first | refine ⟨?_, ?_⟩ | skip) <;> first | omega | (simp only [lN1, lN2, lN3, lN4, lN5, lN6, lN7, hpl, hsl, d1, d2, d3, d4, d5, d6, d7] <;> omega)) | (simp [elemsK, D.isVal, D.cells, D.closedL, D.closed, hpl, hsl, d1, d2, d3, d4, d5, d6, d7]; first | done | omega)))
    | ((with_reducible first | apply s_slTF | apply s_slFT); (case h0 | h1 | hx => first | rfl | assumption | omega | ((first | refine ⟨?_, ?_⟩ | skip) <;> first | omega | (simp only [lN1, lN2, lN3, lN4, lN5, lN6, lN7, hpl, hsl, d1, d2, d3, d4, d5, d6, d7] <;> omega)) | (simp [elemsK, D.isVal, D.cells, D.closedL, D.closed, hpl, hsl, d1, d2, d3, d4, d5, d6, d7]; first | done | omega)))
    | ((with_reducible apply s_slTT); (case h0 | h1 | h2 | hx => first | rfl | assumption | omega | ((first | refine ⟨?_, ?_⟩ | skip) <;> first | omega | (simp only [lN1, lN2, lN3, lN4, lN5, lN6, lN7, hpl, hsl, d1, d2, d3, d4, d5, d6, d7] <;> omega)) | (simp [elemsK, D.isVal, D.cells, D.closedL, D.closed, hpl, hsl, d1, d2, d3, d4, d5, d6, d7]; first | done | omega)))
    | ((with_reducible first | apply s_smTF | apply s_smFT); (case h0 | h1 | hc => first | rfl | assumption | omega | ((first | refine ⟨?_, ?_⟩ | skip) <;> first | omega | (simp only [lN1, lN2, lN3, lN4, lN5, lN6, lN7, hpl, hsl, d1, d2, d3, d4, d5, d6, d7] <;> omega)) | (simp [elemsK, D.isVal, D.cells, D.closedL, D.closed, hpl, hsl, d1, d2, d3, d4, d5, d6, d7]; first | done | omega)))
    | ((with_reducible apply s_smTT); (case h0 | h1 | h2 | hc => first | rfl | assumption | omega | ((first | refine ⟨?_, ?_⟩ | skip) <;> first | omega | (simp only [lN1, lN2, lN3, lN4, lN5, lN6, lN7, hpl, hsl, d1, d2, d3, d4, d5, d6, d7] <;> omega)) | (simp [elemsK, D.isVal, D.cells, D.closedL, D.closed, hpl, hsl, d1, d2, d3, d4, d5, d6, d7]; first | done | omega)))
    | with_reducible first | apply cd_dec | apply cd_eq | apply cd_ne | apply cd_split | apply gd_dec | apply gd_eq | apply gd_ne | apply gd_split | apply gq_dec | apply gq_eq | apply gq_ne | apply gq_split
    | ((with_reducible refine And.intro ?hw ?_); (case hw => first | omega | rfl | exact ⟨_, _, rfl⟩ | assumption | (simp only [lN1, lN2, lN3, lN4, lN5, lN6, lN7, hpl, hsl, d1, d2, d3, d4, d5, d6, d7] <;> omega)))
    | with_reducible intro _)
  all_goals first
    | omega
    | (simp [D.closed, D.er]; done)
end Go.Proofs.YtgjkhlnpplajjaaDoor
end
section
set_option maxRecDepth 100000
set_option linter.unusedSimpArgs false
set_option linter.unusedVariables false
namespace Go.Proofs.YtgjkhlnpplajjaaDoor
open Go GoV Go.RowKit
theorem sameS_refl (a : Seal) : sameS a a = true := by simp [sameS]
end Go.Proofs.YtgjkhlnpplajjaaDoor
end
section
set_option maxRecDepth 100000
set_option linter.unusedSimpArgs false
set_option linter.unusedVariables false
namespace Go.Proofs.YtgjkhlnpplajjaaDoor
open Go GoV Go.RowKit
theorem mod_nat {a : Int} {n : Nat} (h0 : 0 ≤ a) (hn : 0 < n) : ∃ k : Nat, a.tmod (n : Int) = (k : Int) ∧ k < n := by
  refine ⟨(a % (n : Int)).toNat, ?_, ?_⟩
  · rw [Int.tmod_eq_emod_of_nonneg h0, Int.toNat_of_nonneg (Int.emod_nonneg _ (by omega))]
  · have h1 := Int.emod_nonneg a (show (n : Int) ≠ 0 by omega)
    have h2 := Int.emod_lt_of_pos a (show (0 : Int) < (n : Int) by omega)
    omega
theorem sgnR_ok {s : List UInt8} {h i : Nat} {m : List UInt8} (hh : h ≤ 8) (hi : i < 2 ^ h) : sgnR s (h : Nat) (i : Nat) m = (sgn s h i m, 0) := by
  unfold sgnR
  have e4 : (2 : Int) ^ h = ((2 ^ h : Nat) : Int) := by simp
  simp only [Int.toNat_natCast, e4]
  rw [if_pos ⟨by omega, by omega, by omega, by omega⟩]
theorem pubR_ok {s : List UInt8} {h : Nat} (hh : h ≤ 8) : pubR s (h : Nat) = (pub s h, 0) := by
  unfold pubR
  simp only [Int.toNat_natCast]
  rw [if_pos ⟨by omega, by omega⟩]
set_option maxHeartbeats 4000000 in
theorem l4_p (s : List UInt8) (a b : Int) (m : List UInt8) (ha : 0 ≤ a ∧ a ≤ 255) (hb : 0 ≤ b ∧ b ≤ 255) : Pur M 4 [.str s, .int .u8 a, .int .u8 b, .str m] (.bool true) := by
  refine ok4 rfl ?_
  rw [i4]
  unfold c4
  have c0 := head_p
  have c1 := short_p [s, m] (by simp)
  have s1 : strs [s, m] = [.str s, .str m] := rfl
  rw [s1] at c1
  cases h1 : ([s, m].all fun x => decide (x.length ≤ 300))
  · rw [h1] at c1
    repeat' (first
    | with_reducible first | apply swp_seq | apply swp_reg | apply swp_regD | apply swp_block | apply swp_exit | apply swp_ret | apply swp_skip | apply swp_cd
    | simp only [go_sem, Nat.reduceAdd, Nat.reduceSub, Nat.reduceMul, Nat.reduceEqDiff, Nat.reduceLeDiff, Nat.reduceLT, Int.reduceEq, Int.reduceNe, Int.reduceLT, Int.reduceLE, Int.reduceAdd, Int.reduceSub, Int.reduceMul, Int.reduceNeg, Int.reduceToNat, Int.reduceTDiv, Int.reduceTMod, Int.reduceBEq, Int.reduceBNe, decide_true, decide_false, reduceCtorEq, reduceIte, P4, q4]
    | simp (disch := omega) only [w64, w32, wu8, wu16, wu32, wu64]
    | ((with_reducible refine o_call (c0) ?he ?hc ?_); (case he | hc => first | rfl | (simp [D.erL, D.er, D.closedL, D.closed]; done)))
    | ((with_reducible refine o_call (c1) ?he ?hc ?_); (case he | hc => first | rfl | (simp [D.erL, D.er, D.closedL, D.closed]; done)))
    | ((with_reducible apply s_bsl); (case he | hl | hc => first | rfl | assumption | omega | ((first | refine ⟨?_, ?_⟩ | skip) <;> first | omega | (simp only [lN1, lN2, lN3, lN4, lN5, lN6, lN7] <;> omega)) | (simp [elemsK, D.isVal, D.cells, D.closedL, D.closed]; first | done | omega)))
    | with_reducible first | apply cd_dec | apply cd_eq | apply cd_ne | apply cd_split | apply gd_dec | apply gd_eq | apply gd_ne | apply gd_split
    | ((with_reducible refine And.intro ?hw ?_); (case hw => first | omega | rfl | exact ⟨_, _, rfl⟩ | assumption | (simp only [lN1, lN2, lN3, lN4, lN5, lN6, lN7] <;> omega)))
    | with_reducible intro _)
    all_goals first
      | omega
      | (simp [D.closed, D.er]; done)
  rw [h1] at c1
  have hp : s.length ≤ 300 ∧ m.length ≤ 300 := by simpa using h1
  obtain ⟨h, t1, hh⟩ := mod_nat (n := 4) ha.1 (by omega)
  have t1' : a.tmod 4 = (h : Int) := t1
  have hw := shl_one (h := h) (by omega)
  have hN : 2 ^ h ≤ 2 ^ 8 := Nat.pow_le_pow_right (by omega) (by omega)
  have h256 : (2 : Nat) ^ 8 = 256 := by decide
  have hN0 : 0 < 2 ^ h := Nat.pow_pos (by omega)
  obtain ⟨i, t2, hi⟩ := mod_nat (a := b) (n := 2 ^ h) hb.1 hN0
  have h2 : 2 ^ (h + 1) = 2 * 2 ^ h := by rw [Nat.pow_succ, Nat.mul_comm]
  have e1 := public_p s h hp.1
  rw [pubR_ok (by omega)] at e1
  have e2 := sign_p s h i m hp.1 hp.2 (by omega)
  rw [sgnR_ok (by omega) hi] at e2
  have e3 := sign_p s (h + 1 : Nat) i m hp.1 hp.2 (by omega)
  rw [sgnR_ok (by omega) (by omega)] at e3
  have c4 : (((h + 1 : Nat)) : Int) = (h : Int) + 1 := by omega
  rw [c4] at e3
  obtain ⟨z1, z2, z3, z4⟩ := sgn_parts s (h := h) (i := i) m (by omega) hi
  have z5 : (sgn s (h + 1) i m).sig = (sgn s h i m).sig := rfl
  have z6 : (sgn s h i m).idx = (i : Int) := rfl
  have v1 := verify_p (pub s h) m (sgn s h i m) (small_sgn s m (by omega) hi) hp.2
  rw [ver_sgn (by omega) hi] at v1
  have v2 := ssame_p (sgn s h i m) (sgn s h i m) (by omega) (by omega)
  rw [sameS_refl] at v2
  have v3 := same_p (sgn s h i m).sig (sgn s h i m).sig (by omega)
  rw [decide_eq_true rfl] at v3
  have v4 := is_p (pub s h) (by rw [isD_len (pub_is (s := s) (h := h))]; omega)
  rw [pub_is] at v4
  unfold sgnD sealD at e2 e3
  unfold sealD at v1 v2
  unfold pubD at e1
  rw [z5] at e3
  generalize sgn s (h + 1) i m = Y at *
  generalize sgn s h i m = X at *
  generalize pub s h = P at *
  obtain ⟨xi, xs, xp⟩ := X
  obtain ⟨yi, ys, yp⟩ := Y
  simp only at e1 e2 e3 z1 z2 z3 z4 z6 v1 v2 v3 v4
  subst z6
  have d1 := closed_strs xs
  have d2 := closed_strs xp
  have d3 := erL_strs xs
  have d4 := erL_strs xp
  have d5 := closed_strs yp
  have d6 := erL_strs yp
  have n1 := strs_len xs
  have n2 := strs_len xp
  rw [z1] at n1
  rw [z2] at n2
  have hgS : ∀ k, k < 18 → (strs xs).getD k .undef = .str (xs.getD k []) := fun k hk => strs_get (by omega)
  have hgP : ∀ k, k < h → (strs xp).getD k .undef = .str (xp.getD k []) := fun k hk => strs_get (by omega)
  have hiS : ∀ k, k < 18 → isD (xs.getD k []) = true := fun k hk => getD_is z3 (by omega)
  have hiP : ∀ k, k < h → isD (xp.getD k []) = true := fun k hk => getD_is z4 (by omega)
  have b1 : decide (((18 : Nat) : Int) ≠ 18) = false := by simp
  have b2 : decide ((i : Int) ≠ (i : Int)) = false := by simp
  have b3 : decide ((h : Int) ≠ (h : Int)) = false := by simp
  generalize strs xs = SS at *
  generalize strs xp = PP at *
  generalize strs yp = YP at *
  generalize hN2 : 2 ^ h = N at *
  repeat' (first
    | with_reducible first | apply swp_seq | apply swp_reg | apply swp_regD | apply swp_block | apply swp_exit | apply swp_ret | apply swp_skip | apply swp_cd
    | simp only [go_sem, Nat.reduceAdd, Nat.reduceSub, Nat.reduceMul, Nat.reduceEqDiff, Nat.reduceLeDiff, Nat.reduceLT, Int.reduceEq, Int.reduceNe, Int.reduceLT, Int.reduceLE, Int.reduceAdd, Int.reduceSub, Int.reduceMul, Int.reduceNeg, Int.reduceToNat, Int.reduceTDiv, Int.reduceTMod, Int.reduceBEq, Int.reduceBNe, decide_true, decide_false, reduceCtorEq, reduceIte, P4, q4, t1', hw, t2, n1, n2, b2, b3]
    | simp (disch := omega) only [w64, w32, wu8, wu16, wu32, wu64]
    | ((with_reducible refine o_call (c0) ?he ?hc ?_); (case he | hc => first | rfl | (simp [D.erL, D.er, D.closedL, D.closed, d1, d2, d3, d4, d5, d6, n1, n2]; done)))
    | ((with_reducible refine o_call (c1) ?he ?hc ?_); (case he | hc => first | rfl | (simp [D.erL, D.er, D.closedL, D.closed, d1, d2, d3, d4, d5, d6, n1, n2]; done)))
    | ((with_reducible refine o_call (e1) ?he ?hc ?_); (case he | hc => first | rfl | (simp [D.erL, D.er, D.closedL, D.closed, d1, d2, d3, d4, d5, d6, n1, n2]; done)))
    | ((with_reducible refine o_call (e2) ?he ?hc ?_); (case he | hc => first | rfl | (simp [D.erL, D.er, D.closedL, D.closed, d1, d2, d3, d4, d5, d6, n1, n2]; done)))
    | ((with_reducible refine o_call (e3) ?he ?hc ?_); (case he | hc => first | rfl | (simp [D.erL, D.er, D.closedL, D.closed, d1, d2, d3, d4, d5, d6, n1, n2]; done)))
    | ((with_reducible refine o_call (v2) ?he ?hc ?_); (case he | hc => first | rfl | (simp [D.erL, D.er, D.closedL, D.closed, d1, d2, d3, d4, d5, d6, n1, n2]; done)))
    | ((with_reducible apply s_bsl); (case he | hl | hc => first | rfl | assumption | omega | ((first | refine ⟨?_, ?_⟩ | skip) <;> first | omega | (simp only [lN1, lN2, lN3, lN4, lN5, lN6, lN7, d1, d2, d3, d4, d5, d6, n1, n2] <;> omega)) | (simp [elemsK, D.isVal, D.cells, D.closedL, D.closed, d1, d2, d3, d4, d5, d6, n1, n2]; first | done | omega)))
    | with_reducible first | apply cd_dec | apply cd_eq | apply cd_ne | apply cd_split | apply gd_dec | apply gd_eq | apply gd_ne | apply gd_split
    | ((with_reducible refine And.intro ?hw ?_); (case hw => first | omega | rfl | exact ⟨_, _, rfl⟩ | assumption | (simp only [lN1, lN2, lN3, lN4, lN5, lN6, lN7, d1, d2, d3, d4, d5, d6, n1, n2] <;> omega)))
    | with_reducible intro _)
  all_goals try first | omega | (exfalso; omega)
  refine swp_fam [0, 3, 4, 5, 8, 10, 14, 16] (fun k : Nat => ⟨[.str s, .undef, .undef, .str m, .bool false, .bool true, .undef, .undef, .str P, .undef, .ptr 0 0, .undef, .undef, .undef, .ptr 2 0, .undef, .int .i64 (k : Nat), .undef, .undef, .undef, .undef, .undef, .undef, .undef], [],
      ⟨[.cells [.int .i64 (i : Nat), .slice SS .no, .slice PP .no], .cells [.int .i64 (i : Nat), .slice SS .no, .slice PP .no], .cells [.int .i64 yi, .slice SS .no, .slice YP .no]], []⟩⟩)
    (fun k => k ≤ 18) (fun k => 18 - k) 0 (by omega) ?_ ?_
  · simp [keepE, St.keep]
  intro k hk
  by_cases hlt : k < 18
  · have hg := hgS k hlt
    have is1 := hiS k hlt
    have b1 := is_p (xs.getD k []) (by rw [isD_len is1]; omega)
    rw [is1] at b1
    have u1 : ((k : Nat) : Int).toNat = k := Int.toNat_natCast k
    generalize xs.getD k [] = g at *
    repeat' (first
    | with_reducible first | apply swp_seq | apply swp_reg | apply swp_regD | apply swp_block | apply swp_exit | apply swp_ret | apply swp_skip | apply swp_cd
    | simp only [go_sem, Nat.reduceAdd, Nat.reduceSub, Nat.reduceMul, Nat.reduceEqDiff, Nat.reduceLeDiff, Nat.reduceLT, Int.reduceEq, Int.reduceNe, Int.reduceLT, Int.reduceLE, Int.reduceAdd, Int.reduceSub, Int.reduceMul, Int.reduceNeg, Int.reduceToNat, Int.reduceTDiv, Int.reduceTMod, Int.reduceBEq, Int.reduceBNe, decide_true, decide_false, reduceCtorEq, reduceIte, P4, q4, u1, hg, n1]
    | simp (disch := omega) only [w64, w32, wu8, wu16, wu32, wu64]
    | ((with_reducible refine o_call (b1) ?he ?hc ?_); (case he | hc => first | rfl | (simp [D.erL, D.er, D.closedL, D.closed, n1]; done)))
    | ((with_reducible apply s_bsl); (case he | hl | hc => first | rfl | assumption | omega | ((first | refine ⟨?_, ?_⟩ | skip) <;> first | omega | (simp only [lN1, lN2, lN3, lN4, lN5, lN6, lN7, n1] <;> omega)) | (simp [elemsK, D.isVal, D.cells, D.closedL, D.closed, n1]; first | done | omega)))
    | with_reducible first | apply cd_dec | apply cd_eq | apply cd_ne | apply cd_split | apply gd_dec | apply gd_eq | apply gd_ne | apply gd_split
    | ((with_reducible refine And.intro ?hw ?_); (case hw => first | omega | rfl | exact ⟨_, _, rfl⟩ | assumption | (simp only [lN1, lN2, lN3, lN4, lN5, lN6, lN7, n1] <;> omega)))
    | with_reducible intro _)
    all_goals try omega
    refine ⟨k + 1, by omega, by omega, ?_⟩
    simp [keepE, St.keep]
  have e : k = 18 := by omega
  subst e
  repeat' (first
    | with_reducible first | apply swp_seq | apply swp_reg | apply swp_regD | apply swp_block | apply swp_exit | apply swp_ret | apply swp_skip | apply swp_cd
    | simp only [go_sem, Nat.reduceAdd, Nat.reduceSub, Nat.reduceMul, Nat.reduceEqDiff, Nat.reduceLeDiff, Nat.reduceLT, Int.reduceEq, Int.reduceNe, Int.reduceLT, Int.reduceLE, Int.reduceAdd, Int.reduceSub, Int.reduceMul, Int.reduceNeg, Int.reduceToNat, Int.reduceTDiv, Int.reduceTMod, Int.reduceBEq, Int.reduceBNe, decide_true, decide_false, reduceCtorEq, reduceIte, P4, q4, n1]
    | simp (disch := omega) only [w64, w32, wu8, wu16, wu32, wu64]
    | ((with_reducible apply s_bsl); (case he | hl | hc => first | rfl | assumption | omega | ((first | refine ⟨?_, ?_⟩ | skip) <;> first | omega | (simp only [lN1, lN2, lN3, lN4, lN5, lN6, lN7, n1] <;> omega)) | (simp [elemsK, D.isVal, D.cells, D.closedL, D.closed, n1]; first | done | omega)))
    | with_reducible first | apply cd_dec | apply cd_eq | apply cd_ne | apply cd_split | apply gd_dec | apply gd_eq | apply gd_ne | apply gd_split
    | ((with_reducible refine And.intro ?hw ?_); (case hw => first | omega | rfl | exact ⟨_, _, rfl⟩ | assumption | (simp only [lN1, lN2, lN3, lN4, lN5, lN6, lN7, n1] <;> omega)))
    | with_reducible intro _)
  all_goals try first | omega | (exfalso; omega)
  refine swp_fam [0, 3, 4, 5, 8, 10, 14, 17] (fun k : Nat => ⟨[.str s, .undef, .undef, .str m, .bool false, .bool true, .undef, .undef, .str P, .undef, .ptr 0 0, .undef, .undef, .undef, .ptr 2 0, .undef, .undef, .int .i64 (k : Nat), .undef, .undef, .undef, .undef, .undef, .undef], [],
      ⟨[.cells [.int .i64 (i : Nat), .slice SS .no, .slice PP .no], .cells [.int .i64 (i : Nat), .slice SS .no, .slice PP .no], .cells [.int .i64 yi, .slice SS .no, .slice YP .no]], []⟩⟩)
    (fun k => k ≤ h) (fun k => h - k) 0 (by omega) ?_ ?_
  · simp [keepE, St.keep]
  intro k hk
  by_cases hlt : k < h
  · have hg := hgP k hlt
    have is1 := hiP k hlt
    have b1 := is_p (xp.getD k []) (by rw [isD_len is1]; omega)
    rw [is1] at b1
    have u1 : ((k : Nat) : Int).toNat = k := Int.toNat_natCast k
    generalize xp.getD k [] = g at *
    repeat' (first
    | with_reducible first | apply swp_seq | apply swp_reg | apply swp_regD | apply swp_block | apply swp_exit | apply swp_ret | apply swp_skip | apply swp_cd
    | simp only [go_sem, Nat.reduceAdd, Nat.reduceSub, Nat.reduceMul, Nat.reduceEqDiff, Nat.reduceLeDiff, Nat.reduceLT, Int.reduceEq, Int.reduceNe, Int.reduceLT, Int.reduceLE, Int.reduceAdd, Int.reduceSub, Int.reduceMul, Int.reduceNeg, Int.reduceToNat, Int.reduceTDiv, Int.reduceTMod, Int.reduceBEq, Int.reduceBNe, decide_true, decide_false, reduceCtorEq, reduceIte, P4, q4, u1, hg, n2]
    | simp (disch := omega) only [w64, w32, wu8, wu16, wu32, wu64]
    | ((with_reducible refine o_call (b1) ?he ?hc ?_); (case he | hc => first | rfl | (simp [D.erL, D.er, D.closedL, D.closed, n2]; done)))
    | ((with_reducible apply s_bsl); (case he | hl | hc => first | rfl | assumption | omega | ((first | refine ⟨?_, ?_⟩ | skip) <;> first | omega | (simp only [lN1, lN2, lN3, lN4, lN5, lN6, lN7, n2] <;> omega)) | (simp [elemsK, D.isVal, D.cells, D.closedL, D.closed, n2]; first | done | omega)))
    | with_reducible first | apply cd_dec | apply cd_eq | apply cd_ne | apply cd_split | apply gd_dec | apply gd_eq | apply gd_ne | apply gd_split
    | ((with_reducible refine And.intro ?hw ?_); (case hw => first | omega | rfl | exact ⟨_, _, rfl⟩ | assumption | (simp only [lN1, lN2, lN3, lN4, lN5, lN6, lN7, n2] <;> omega)))
    | with_reducible intro _)
    all_goals try omega
    refine ⟨k + 1, by omega, by omega, ?_⟩
    simp [keepE, St.keep]
  have e : k = h := by omega
  subst e
  repeat' (first
    | with_reducible first | apply swp_seq | apply swp_reg | apply swp_regD | apply swp_block | apply swp_exit | apply swp_ret | apply swp_skip | apply swp_cd
    | simp only [go_sem, Nat.reduceAdd, Nat.reduceSub, Nat.reduceMul, Nat.reduceEqDiff, Nat.reduceLeDiff, Nat.reduceLT, Int.reduceEq, Int.reduceNe, Int.reduceLT, Int.reduceLE, Int.reduceAdd, Int.reduceSub, Int.reduceMul, Int.reduceNeg, Int.reduceToNat, Int.reduceTDiv, Int.reduceTMod, Int.reduceBEq, Int.reduceBNe, decide_true, decide_false, reduceCtorEq, reduceIte, P4, q4, n2, n1]
    | simp (disch := omega) only [w64, w32, wu8, wu16, wu32, wu64]
    | ((with_reducible refine o_call (v4) ?he ?hc ?_); (case he | hc => first | rfl | (simp [D.erL, D.er, D.closedL, D.closed, n1, n2, d1, d2, d3, d4, d5, d6]; done)))
    | ((with_reducible refine o_call (v3) ?he ?hc ?_); (case he | hc => first | rfl | (simp [D.erL, D.er, D.closedL, D.closed, n1, n2, d1, d2, d3, d4, d5, d6]; done)))
    | ((with_reducible refine o_call (v1) ?he ?hc ?_); (case he | hc => first | rfl | (simp [D.erL, D.er, D.closedL, D.closed, n1, n2, d1, d2, d3, d4, d5, d6]; done)))
    | ((with_reducible apply s_bsl); (case he | hl | hc => first | rfl | assumption | omega | ((first | refine ⟨?_, ?_⟩ | skip) <;> first | omega | (simp only [lN1, lN2, lN3, lN4, lN5, lN6, lN7, n1, n2, d1, d2, d3, d4, d5, d6] <;> omega)) | (simp [elemsK, D.isVal, D.cells, D.closedL, D.closed, n1, n2, d1, d2, d3, d4, d5, d6]; first | done | omega)))
    | with_reducible first | apply cd_dec | apply cd_eq | apply cd_ne | apply cd_split | apply gd_dec | apply gd_eq | apply gd_ne | apply gd_split
    | ((with_reducible refine And.intro ?hw ?_); (case hw => first | omega | rfl | exact ⟨_, _, rfl⟩ | assumption | (simp only [lN1, lN2, lN3, lN4, lN5, lN6, lN7, n1, n2, d1, d2, d3, d4, d5, d6] <;> omega)))
    | with_reducible intro _)
  all_goals first
    | omega
    | (simp [D.closed, D.er]; done)
end Go.Proofs.YtgjkhlnpplajjaaDoor
end
section
set_option maxRecDepth 100000
set_option linter.unusedSimpArgs false
set_option linter.unusedVariables false
namespace Go.Proofs.YtgjkhlnpplajjaaDoor
open Go GoV Go.RowKit
theorem opens_strs {w : World} : ∀ n, Opens Tryd.prog w n 22 (fun l : List (List UInt8) => [.slice (strs l) .no]) (fun l => l.length ≤ 9223372036854775807) :=
  opens_all fun _ => (opens_slice Tryd.underlying22 (show 0 < Tryd.prog.cellsOf 9 by rw [show Tryd.prog.cellsOf 9 = 1 by kernel_rfl]; exact Nat.one_pos) (opens_str Tryd.underlying9)).imp id (fun a _ => rfl) (fun a h => h.1)
theorem opens_seal {w : World} : ∀ n, Opens Tryd.prog w n 24 (fun x : Seal => [.int .i64 x.idx, .slice (strs x.sig) .no, .slice (strs x.path) .no]) (fun x => -9223372036854775808 ≤ x.idx ∧ x.idx ≤ 9223372036854775807) := by
  refine opens_all fun n => ?_
  have hF : OpensF Tryd.prog w n [⟨"Index", 3, 0, false, "", "", 0⟩, ⟨"Sig", 22, 1, false, "", "", 8⟩, ⟨"Path", 22, 2, false, "", "", 32⟩] 0 _ _ :=
    opensF_cons (c := 1) rfl (by kernel_rfl) (opens_i64 Tryd.underlying3) (opensF_cons (c := 1) rfl (by kernel_rfl) (opens_strs n) (opensF_cons (c := 1) rfl (by kernel_rfl) (opens_strs n) opensF_nil))
  exact (opens_struct Tryd.underlying24 (by kernel_rfl) hF).imp (fun a => ⟨a.1, a.2.1, a.2.2.1⟩) (fun a _ => by simp) (fun a h => h.1)
end Go.Proofs.YtgjkhlnpplajjaaDoor
end
