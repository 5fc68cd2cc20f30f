/- Own texts, merged by a program: the engine that walks the code, and what the functions that the law reaches compute. -/
import Derived.Test.YtkjnhkoipgdfeaaGreatDoorXc3
import Derived.Test.YtkjnhkoipgdfeaaGreatDoorProg
import Derived.KernelRfl
import Derived.Lib.ItoaNum
section
set_option maxRecDepth 100000
namespace Go.Proofs.YtkjnhkoipgdfeaaGreatDoor
open Go GoV
noncomputable def E7 (n m : Nat) : Cfg := ⟨M, [0, 1, 2, 3, 6], 9, n, m, []⟩
noncomputable def C7 : Cfg := E7 0 0
noncomputable abbrev r7_0 : List RO := [Yl 1 0, ⟨.v 2, .mv, [(.con (.str []))], none⟩, Ys 3 0]
noncomputable abbrev r7_1 : List RO := [Yf 4 3 1, Yt 5 11 4, ⟨.v 4, .un .not, [.l 5], none⟩]
noncomputable abbrev r7_2 : List RO := [⟨.v 2, .mv, [(.con (.str []))], none⟩, Ys 3 1]
noncomputable abbrev r7_3 : List RO := [Yf 7 3 1, Yt 8 20 7, Yb 2 8, Ys 3 0]
theorem P7 : C7.M = M := rfl
theorem i7 {a0 : D} : St.init C7 [a0] ⟨[], []⟩ = ⟨[a0, .u0, .u0, .u0, .u0], [], ⟨[], []⟩⟩ := rfl
noncomputable def c7 : RC := (.seq (.reg r7_0) (.seq (.seq (.reg r7_1) (.cond (.v 4) (.seq (.reg r7_2) .ret) .skip)) (.seq (.reg r7_3) .ret)))
noncomputable def q7 : List RR := [(.slot (.v 2)), (.slot (.v 3))]
theorem k7 : FnOk M 7 1 Tryz.f7 E7 c7 q7 := fnOk Tryz.func7
noncomputable def E9 (n m : Nat) : Cfg := ⟨M, [0, 2, 3, 4, 5, 6, 7, 8, 9, 17, 41, 48, 60], 63, n, m, []⟩
noncomputable def C9 : Cfg := E9 0 0
noncomputable abbrev r9_0 : List RO := [⟨.v 1, (.newb [(.int .i64 0), (.int .i64 0), (.lit (.slice none 0 0))]), [], none⟩, Ys 2 0, Ys 3 0]
noncomputable abbrev r9_1 : List RO := [Ya 11 0, Yt 12 26 11, Yc 10 12, Ym 13 0 10, Ym 14 1 10, Ym 15 2 10, Yb 4 13, Yb 5 14, Yb 6 15]
noncomputable abbrev r9_2 : List RO := [Ya 16 5, Yz 9 .neq 16 0]
noncomputable abbrev r9_3 : List RO := [⟨.l 18, (.bld [(.int .i64 0), (.int .i64 0), (.lit (.slice none 0 0))] []), [], none⟩, Ya 19 5, Ya 20 6, Yj 3 1 18, Yb 2 19, Yb 3 20]
noncomputable abbrev r9_4 : List RO := [Ya 21 4, Ya 22 0, ⟨.l 23, .lenS, [.l 22], none⟩, ⟨.l 24, (.bld [(.lit (.slice none 0 0)), (.int .i64 0), (.int .i64 0), (.int .i64 0), (.int .i64 0), (.int .i64 0)] [(0, 1), (4, 1)]), [.l 21, .l 23], none⟩, ⟨.l 25, .box, [.l 24], none⟩, Yb 7 25]
noncomputable abbrev r9_5 : List RO := [Ya 26 7, Yt 27 27 26, ⟨.v 8, (.newb [(.int .i64 0), (.int .i64 0), (.lit (.slice none 0 0))]), [], none⟩, Yj 3 8 27]
noncomputable abbrev r9_6 : List RO := [Ya 28 7, Yn 29 28, Yi 30 2 29, Yd 31 30, Yv 32 .eql 31 0, Yc 33 32, Za 34 7 33 true, Zn 35 34 33 true, Zi 36 1 35 33 true, Zd 37 36 33 true, Za 38 4 33 true, ⟨.l 39, .lenL, [.l 38], (some (.l 33, true))⟩, ⟨.l 40, .bin .lss, [.l 37, .l 39], (some (.l 33, true))⟩, Yp 10 33 40]
noncomputable abbrev r9_7 : List RO := [Ya 42 7, Yt 43 28 42]
noncomputable abbrev r9_8 : List RO := [Ya 44 7, Yn 45 44, Yi 46 2 45, Yd 47 46, Yz 11 .neq 47 0]
noncomputable abbrev r9_9 : List (RO × Bool) := [(⟨.l 49, (.bld [(.int .i64 0), (.int .i64 0), (.lit (.slice none 0 0))] []), [], none⟩, true), (Ya 50 7, true), (Yn 51 50, true), (Yi 52 2 51, true), (Yd 53 52, true), (Ya 54 7, true), (Yn 55 54, true), (Yi 56 3 55, true), (Yd 57 56, true), (Yj 3 1 49, true), (Yb 2 53, true)]
noncomputable abbrev r9_10 : List RO := [Yb 3 57]
noncomputable abbrev r9_11 : List RO := [Yf 58 3 8, ⟨.l 59, .calls .fn, [(.con (.fn (.func 18) [] [])), .l 58, .con (.int .i64 60)], none⟩, Yz 12 .gtr 59 60]
noncomputable abbrev r9_12 : List RO := [⟨.l 61, (.bld [(.int .i64 0), (.int .i64 0), (.lit (.slice none 0 0))] []), [], none⟩, Yj 3 1 61, Ys 2 7, Ys 3 0]
noncomputable abbrev r9_13 : List RO := [Yf 62 3 8, Yj 3 1 62, Ys 2 0, Ys 3 0]
theorem P9 : C9.M = M := rfl
theorem i9 {a0 : D} : St.init C9 [a0] ⟨[], []⟩ = ⟨[a0, .u0, .u0, .u0, .u0, .u0, .u0, .u0, .u0, .u0, .u0, .u0, .u0], [], ⟨[], []⟩⟩ := rfl
noncomputable def c9 : RC := (.seq (.reg r9_0) (.seq (.reg r9_1) (.seq (.seq (.reg r9_2) (.cond (.v 9) (.seq (.reg r9_3) .ret) .skip)) (.seq (.reg r9_4) (.seq (.reg r9_5) (.seq (.seq (.reg r9_6) (.cond (.v 10) (.reg r9_7) .skip)) (.seq (.seq (.reg r9_8) (.cond (.v 11) (.seq (.regD r9_9 r9_10) .ret) .skip)) (.seq (.seq (.reg r9_11) (.cond (.v 12) (.seq (.reg r9_12) .ret) .skip)) (.seq (.reg r9_13) .ret)))))))))
noncomputable def q9 : List RR := [(.cell (.v 1) true 3), (.slot (.v 2)), (.slot (.v 3))]
theorem z9 {n m : Nat} : zAe (E9 n m) (Tryz.f9.body.getD .skip) = some c9 := by kernel_rfl
theorem k9 : FnOk M 9 1 Tryz.f9 E9 c9 q9 := fnOk Tryz.func9
noncomputable def E11 (n m : Nat) : Cfg := ⟨M, [0, 1, 2], 10, n, m, []⟩
noncomputable def C11 : Cfg := E11 0 0
noncomputable abbrev r11_0 : List RO := [Yl 1 0, ⟨.v 2, .mv, [.con (.bool false)], none⟩]
noncomputable abbrev r11_1 : List RO := [Yf 3 3 1, ⟨.l 4, .calls .fn, [(.con (.fn (.func 18) [] [])), .l 3, .con (.int .i64 60)], none⟩, Yv 5 .leq 4 60, Yc 6 5, Zf 7 3 1 6 true, ⟨.l 8, .calls .fn, [(.con (.fn (.func 30) [] [])), .l 7], (some (.l 6, true))⟩, Yo 9 6 8, Yb 2 9]
theorem P11 : C11.M = M := rfl
theorem i11 {a0 : D} : St.init C11 [a0] ⟨[], []⟩ = ⟨[a0, .u0, .u0], [], ⟨[], []⟩⟩ := rfl
noncomputable def c11 : RC := (.seq (.reg r11_0) (.seq (.reg r11_1) .ret))
noncomputable def q11 : List RR := [(.slot (.v 2))]
theorem k11 : FnOk M 11 1 Tryz.f11 E11 c11 q11 := fnOk Tryz.func11
noncomputable def E14 (n m : Nat) : Cfg := ⟨M, [0, 1, 2, 3, 4, 8, 11], 20, n, m, []⟩
noncomputable def C14 : Cfg := E14 0 0
noncomputable abbrev r14_0 : List RO := [Yl 4 0, Ys 5 0]
noncomputable abbrev r14_1 : List RO := [Yf 9 3 4, Yt 10 11 9, ⟨.v 6, .un .not, [.l 10], none⟩]
noncomputable abbrev r14_2 : List RO := [Ys 5 0]
noncomputable abbrev r14_3 : List (RO × Bool) := [(Yf 12 3 4, true), (Ya 13 1, true), (Yt 14 34 13, true), (Ya 15 2, true), (Yt 16 34 15, true), (Ya 17 3, true), (Yt 18 34 17, true)]
noncomputable abbrev r14_4 : List RO := [⟨.l 19, .calls .fn, [(.con (.fn (.func 33) [] [])), .l 12, .l 14, .l 16, .l 18], none⟩, Yb 5 19]
theorem P14 : C14.M = M := rfl
theorem i14 {a0 a1 a2 a3 : D} : St.init C14 [a0, a1, a2, a3] ⟨[], []⟩ = ⟨[a0, a1, a2, a3, .u0, .u0, .u0], [], ⟨[], []⟩⟩ := rfl
noncomputable def c14 : RC := (.seq (.reg r14_0) (.seq (.seq (.reg r14_1) (.cond (.v 6) (.seq (.reg r14_2) .ret) .skip)) (.seq (.regD r14_3 r14_4) .ret)))
noncomputable def q14 : List RR := [(.slot (.v 5))]
theorem k14 : FnOk M 14 4 Tryz.f14 E14 c14 q14 := fnOk Tryz.func14
noncomputable def E16 (n m : Nat) : Cfg := ⟨M, [0, 1, 2, 3, 4, 5, 13], 25, n, m, []⟩
noncomputable def C16 : Cfg := E16 0 0
noncomputable abbrev r16_0 : List RO := [Yl 2 0, Yl 3 1, ⟨.v 4, (.newb [(.int .i64 0), (.int .i64 0)]), [], none⟩]
noncomputable abbrev r16_1 : List RO := [Yf 6 3 2, Yt 7 11 6, ⟨.l 8, .un .not, [.l 7], none⟩, Yc 9 8, Zf 10 6 3 9 false, ⟨.l 11, .calls .fn, [(.con (.fn (.func 36) [] [])), .l 10], (some (.l 9, false))⟩, ⟨.l 12, .un .not, [.l 11], (some (.l 9, false))⟩, Yr 6 9 12]
noncomputable abbrev r16_2 : List RO := [⟨.l 14, (.bld [(.int .i64 0), (.int .i64 0)] []), [], none⟩, Yj 2 4 14]
noncomputable abbrev r16_3 : List RO := [Yf 15 3 2, Yf 16 6 3, Yu 17 37 15 16, ⟨.v 5, (.newb [(.int .i64 0), (.int .i64 0)]), [], none⟩, Yj 2 5 17]
noncomputable abbrev r16_4 : List RO := [Yh 18 0 5, Yd 19 18, ⟨.l 20, .maxI, [.con (.int .i64 0), .l 19], none⟩, Yh 21 1 5, Yd 22 21, ⟨.l 23, .maxI, [.con (.int .i64 0), .l 22], none⟩, ⟨.l 24, (.bld [(.int .i64 0), (.int .i64 0)] [(0, 1), (1, 1)]), [.l 20, .l 23], none⟩, Yj 2 4 24]
theorem P16 : C16.M = M := rfl
theorem i16 {a0 a1 : D} : St.init C16 [a0, a1] ⟨[], []⟩ = ⟨[a0, a1, .u0, .u0, .u0, .u0, .u0], [], ⟨[], []⟩⟩ := rfl
noncomputable def c16 : RC := (.seq (.reg r16_0) (.seq (.seq (.reg r16_1) (.cond (.v 6) (.seq (.reg r16_2) .ret) .skip)) (.seq (.reg r16_3) (.seq (.reg r16_4) .ret))))
noncomputable def q16 : List RR := [(.cell (.v 4) true 2)]
theorem k16 : FnOk M 16 2 Tryz.f16 E16 c16 q16 := fnOk Tryz.func16
noncomputable def E20 (n m : Nat) : Cfg := ⟨M, [0, 1, 2, 3, 4, 5, 6, 7, 10, 17, 26, 42, 75, 88], 101, n, m, []⟩
noncomputable def C20 : Cfg := E20 0 0
noncomputable abbrev r20_0 : List RO := [Yl 1 0, ⟨.v 2, .mv, [(.con (.str []))], none⟩]
noncomputable abbrev r20_1 : List RO := [Yh 8 0 1, Yd 9 8, Yz 8 .eql 9 1]
noncomputable abbrev r20_2 : List RO := [Yh 11 1 1, Yd 12 11, Yt 13 40 12, Yb 2 13]
noncomputable abbrev r20_3 : List RO := [⟨.l 14, .bsl 1, [(.con (.str [])), (.con (.str [])), (.con (.str [107, 109])), (.con (.str [99, 121, 99, 108, 101, 115])), (.con (.str [108, 111, 97, 100])), (.con (.str [32, 43, 32])), (.con (.str [32, 45, 32])), (.con (.str [32, 42, 32])), (.con (.str [32, 47, 32])), (.con (.str [109, 105, 110, 40])), (.con (.str [109, 97, 120, 40])), (.con (.str [105, 102, 40]))], none⟩, Yb 3 14]
noncomputable abbrev r20_4 : List RO := [Yh 15 0 1, Yd 16 15, Yz 9 .leq 16 4]
noncomputable abbrev r20_5 : List RO := [Ya 18 3, Yh 19 0 1, Yd 20 19, ⟨.l 21, .ixaS 1, [.l 18, .l 20], none⟩, Yd 22 21, Yb 2 22]
noncomputable abbrev r20_6 : List RO := [Yh 23 0 1, Yd 24 23, Yt 25 41 24, Yz 10 .eql 25 3]
noncomputable abbrev r20_7 : List (RO × Bool) := [(Ya 27 3, true), (Yh 28 0 1, true), (Yd 29 28, true), (⟨.l 30, .ixaS 1, [.l 27, .l 29], none⟩, true), (Yd 31 30, true), (Yh 32 2 1, true), (Yd 33 32, true), (⟨.l 34, .ixaS 3, [.l 33, .con (.int .i64 0)], none⟩, true), (Yg 35 3 34, true), (Yt 36 20 35, true)]
noncomputable abbrev r20_8 : List RO := [Yx 37 .add 31 36, Yb 4 37]
noncomputable abbrev r20_9 : List RO := [Ys 5 1]
noncomputable abbrev r20_10 : List RO := [Ya 38 5, Yh 39 2 1, Yd 40 39, ⟨.l 41, .lenL, [.l 40], none⟩, Yy 11 .lss 38 41]
noncomputable abbrev r20_11 : List RO := [Ya 45 4, Yh 46 2 1, Yd 47 46, Ya 48 5, ⟨.l 49, .ixaS 3, [.l 47, .l 48], none⟩, Yg 50 3 49, Yt 51 20 50, ⟨.l 52, .bin .add, [(.con (.str [44, 32])), .l 51], none⟩, Yx 53 .add 45 52, Yb 4 53]
noncomputable abbrev r20_12 : List RO := [Ya 43 5, Yv 44 .add 43 1, Yb 5 44]
noncomputable abbrev r20_13 : List RO := [Ya 54 4, ⟨.l 55, .bin .add, [.l 54, (.con (.str [41]))], none⟩, Yb 2 55]
noncomputable abbrev r20_14 : List RO := [Yh 56 2 1, Yd 57 56, ⟨.l 58, .ixaS 3, [.l 57, .con (.int .i64 0)], none⟩, Yg 59 3 58, Yt 60 20 59, Yb 6 60]
noncomputable abbrev r20_15 : List RO := [Yh 61 2 1, Yd 62 61, ⟨.l 63, .ixaS 3, [.l 62, .con (.int .i64 1)], none⟩, Yg 64 3 63, Yt 65 20 64, Yb 7 65]
noncomputable abbrev r20_16 : List (RO × Bool) := [(Yh 66 2 1, true), (Yd 67 66, true), (⟨.l 68, .ixaS 3, [.l 67, .con (.int .i64 0)], none⟩, true), (Yi 69 0 68, true), (Yd 70 69, true), (Yt 71 41 70, true), (Yh 72 0 1, true), (Yd 73 72, true)]
noncomputable abbrev r20_17 : List RO := [Yt 74 41 73, Yy 12 .lss 71 74]
noncomputable abbrev r20_18 : List RO := [Ya 76 6, ⟨.l 77, .bin .add, [(.con (.str [40])), .l 76], none⟩, ⟨.l 78, .bin .add, [.l 77, (.con (.str [41]))], none⟩, Yb 6 78]
noncomputable abbrev r20_19 : List (RO × Bool) := [(Yh 79 2 1, true), (Yd 80 79, true), (⟨.l 81, .ixaS 3, [.l 80, .con (.int .i64 1)], none⟩, true), (Yi 82 0 81, true), (Yd 83 82, true), (Yt 84 41 83, true), (Yh 85 0 1, true), (Yd 86 85, true)]
noncomputable abbrev r20_20 : List RO := [Yt 87 41 86, Yy 13 .leq 84 87]
noncomputable abbrev r20_21 : List RO := [Ya 89 7, ⟨.l 90, .bin .add, [(.con (.str [40])), .l 89], none⟩, ⟨.l 91, .bin .add, [.l 90, (.con (.str [41]))], none⟩, Yb 7 91]
noncomputable abbrev r20_22 : List RO := [Ya 92 6, Ya 93 3, Yh 94 0 1, Yd 95 94, ⟨.l 96, .ixaS 1, [.l 93, .l 95], none⟩, Yd 97 96, Yx 98 .add 92 97, Ya 99 7, Yx 100 .add 98 99, Yb 2 100]
theorem P20 : C20.M = M := rfl
theorem i20 {a0 : D} : St.init C20 [a0] ⟨[], []⟩ = ⟨[a0, .u0, .u0, .u0, .u0, .u0, .u0, .u0, .u0, .u0, .u0, .u0, .u0, .u0], [], ⟨[], []⟩⟩ := rfl
noncomputable def c20 : RC := (.seq (.reg r20_0) (.seq (.seq (.reg r20_1) (.cond (.v 8) (.seq (.reg r20_2) .ret) .skip)) (.seq (.reg r20_3) (.seq (.seq (.reg r20_4) (.cond (.v 9) (.seq (.reg r20_5) .ret) .skip)) (.seq (.seq (.reg r20_6) (.cond (.v 10) (.seq (.regD r20_7 r20_8) (.seq (.seq (.reg r20_9) (.block 0 (.loop (.seq (.seq (.reg r20_10) (.cond (.v 11) .skip (.exit 0))) (.seq (.block 1 (.reg r20_11)) (.reg r20_12)))))) (.seq (.reg r20_13) .ret))) .skip)) (.seq (.reg r20_14) (.seq (.reg r20_15) (.seq (.seq (.regD r20_16 r20_17) (.cond (.v 12) (.reg r20_18) .skip)) (.seq (.seq (.regD r20_19 r20_20) (.cond (.v 13) (.reg r20_21) .skip)) (.seq (.reg r20_22) .ret))))))))))
noncomputable def q20 : List RR := [(.slot (.v 2))]
theorem z20 {n m : Nat} : zAe (E20 n m) (Tryz.f20.body.getD .skip) = some c20 := by kernel_rfl
theorem k20 : FnOk M 20 1 Tryz.f20 E20 c20 q20 := fnOk Tryz.func20
noncomputable def E26 (n m : Nat) : Cfg := ⟨M, [0, 2, 3, 4, 5, 6, 7, 8, 9, 12, 18, 27, 32], 42, n, m, []⟩
noncomputable def C26 : Cfg := E26 0 0
noncomputable abbrev r26_0 : List RO := [⟨.v 1, .mv, [(.con (.lit (.slice none 0 0)))], none⟩, Ys 2 0, Ys 3 0]
noncomputable abbrev r26_1 : List RO := [Ya 10 0, ⟨.l 11, .lenS, [.l 10], none⟩, Yz 9 .gtr 11 20000]
noncomputable abbrev r26_2 : List RO := [⟨.v 1, .mv, [(.con (.lit (.slice none 0 0)))], none⟩, Ys 2 7, ⟨.v 3, .mv, [(.con (.int .i64 (-1)))], none⟩]
noncomputable abbrev r26_3 : List RO := [⟨.v 4, .mv, [(.con (.lit (.slice none 0 0)))], none⟩]
noncomputable abbrev r26_4 : List RO := [Ya 13 0, ⟨.l 14, .calls .fn, [(.con (.fn (.func 45) [] [])), .l 13, .con (.int .i64 0)], none⟩, Yb 5 14]
noncomputable abbrev r26_5 : List RO := [Ya 15 5, Ya 16 0, ⟨.l 17, .lenS, [.l 16], none⟩, Yy 10 .lss 15 17]
noncomputable abbrev r26_6 : List RO := [Ya 20 0, Ya 21 5, Yu 22 46 20 21, Yc 19 22, Ym 23 0 19, Ym 24 1 19, Ym 25 2 19, ⟨.v 6, (.newb [(.int .i64 0), (.str []), (.int .i64 0)]), [], none⟩, Yj 3 6 23, Yb 7 24, Yb 8 25]
noncomputable abbrev r26_7 : List RO := [Ya 26 8, Yz 11 .neq 26 0]
noncomputable abbrev r26_8 : List RO := [Ya 28 8, Ya 29 5, ⟨.v 1, .mv, [(.con (.lit (.slice none 0 0)))], none⟩, Yb 2 28, Yb 3 29]
noncomputable abbrev r26_9 : List RO := [Ya 30 4, ⟨.l 31, .lenL, [.l 30], none⟩, Yz 12 .eql 31 5000]
noncomputable abbrev r26_10 : List RO := [Ya 33 5, ⟨.v 1, .mv, [(.con (.lit (.slice none 0 0)))], none⟩, Ys 2 7, Yb 3 33]
noncomputable abbrev r26_11 : List RO := [Ya 34 4, Yf 35 3 6, ⟨.l 36, .bsl 3, [.l 35], none⟩, ⟨.l 37, .app 3 32 71, [.l 34, .l 36], none⟩, Yb 4 37]
noncomputable abbrev r26_12 : List RO := [Ya 38 0, Ya 39 7, Yu 40 45 38 39, Yb 5 40]
noncomputable abbrev r26_13 : List RO := [Ya 41 4, Yb 1 41, Ys 2 0, Ys 3 0]
theorem P26 : C26.M = M := rfl
theorem i26 {a0 : D} : St.init C26 [a0] ⟨[], []⟩ = ⟨[a0, .u0, .u0, .u0, .u0, .u0, .u0, .u0, .u0, .u0, .u0, .u0, .u0], [], ⟨[], []⟩⟩ := rfl
noncomputable def c26 : RC := (.seq (.reg r26_0) (.seq (.seq (.reg r26_1) (.cond (.v 9) (.seq (.reg r26_2) .ret) .skip)) (.seq (.reg r26_3) (.seq (.reg r26_4) (.seq (.block 0 (.loop (.seq (.seq (.reg r26_5) (.cond (.v 10) .skip (.exit 0))) (.block 1 (.seq (.reg r26_6) (.seq (.seq (.reg r26_7) (.cond (.v 11) (.seq (.reg r26_8) .ret) .skip)) (.seq (.seq (.reg r26_9) (.cond (.v 12) (.seq (.reg r26_10) .ret) .skip)) (.seq (.reg r26_11) (.reg r26_12))))))))) (.seq (.reg r26_13) .ret))))))
noncomputable def q26 : List RR := [(.slot (.v 1)), (.slot (.v 2)), (.slot (.v 3))]
theorem k26 : FnOk M 26 1 Tryz.f26 E26 c26 q26 := fnOk Tryz.func26
noncomputable def E27 (n m : Nat) : Cfg := ⟨M, [0, 2, 3, 4, 5, 13, 15], 31, n, m, []⟩
noncomputable abbrev r27_0 : List RO := [⟨.v 1, (.newb [(.int .i64 0), (.int .i64 0), (.lit (.slice none 0 0))]), [], none⟩]
noncomputable abbrev r27_1 : List RO := [Ya 6 0, Yt 7 47 6, ⟨.v 2, (.newb [(.int .i64 0), (.int .i64 0), (.lit (.slice none 0 0))]), [], none⟩, Yj 3 2 7]
noncomputable abbrev r27_2 : List RO := [Ya 8 0, ⟨.l 9, .calls .fn, [(.con (.fn (.func 48) [] [])), .l 8, .con (.int .i64 4), (.con (.str [43]))], none⟩, Yc 10 9, Za 11 0 10 false, ⟨.l 12, .calls .fn, [(.con (.fn (.func 48) [] [])), .l 11, .con (.int .i64 4), (.con (.str [45]))], (some (.l 10, false))⟩, Yr 5 10 12]
noncomputable abbrev r27_3 : List RO := [Ys 3 5]
noncomputable abbrev r27_4 : List RO := [Ya 14 0, ⟨.v 6, .calls .fn, [(.con (.fn (.func 48) [] [])), .l 14, .con (.int .i64 4), (.con (.str [45]))], none⟩]
noncomputable abbrev r27_5 : List RO := [Ys 3 6]
noncomputable abbrev r27_6 : List RO := [Ya 16 0, Yn 17 16, Yi 18 1 17, Yd 19 18, Yv 20 .add 19 1, Yn 21 16, Yi 22 1 21, Yk 1 22 20]
noncomputable abbrev r27_7 : List RO := [Ya 23 0, Yt 24 47 23, ⟨.v 4, (.newb [(.int .i64 0), (.int .i64 0), (.lit (.slice none 0 0))]), [], none⟩, Yj 3 4 24]
noncomputable abbrev r27_8 : List RO := [Ya 25 3, Yf 26 3 2, Yf 27 3 4, ⟨.l 28, .bsl 3, [.l 26, .l 27], none⟩, ⟨.l 29, (.bld [(.int .i64 0), (.int .i64 0), (.lit (.slice none 0 0))] [(0, 1), (2, 1)]), [.l 25, .l 28], none⟩, Yj 3 2 29]
noncomputable abbrev r27_9 : List RO := [Yf 30 3 2, Yj 3 1 30]
theorem pe27 {n m : Nat} : (E27 n m).M = M := rfl
theorem ie27 {n m : Nat} {hp : Hp} {a0 : D} : St.init (E27 n m) [a0] hp = ⟨[a0, .u0, .u0, .u0, .u0, .u0, .u0], [], hp⟩ := rfl
noncomputable def c27 : RC := (.seq (.reg r27_0) (.seq (.reg r27_1) (.seq (.block 0 (.loop (.seq (.seq (.reg r27_2) (.cond (.v 5) .skip (.exit 0))) (.block 1 (.seq (.reg r27_3) (.seq (.seq (.reg r27_4) (.cond (.v 6) (.reg r27_5) .skip)) (.seq (.reg r27_6) (.seq (.reg r27_7) (.reg r27_8))))))))) (.seq (.reg r27_9) .ret))))
noncomputable def q27 : List RR := [(.cell (.v 1) true 3)]
theorem k27 : FnOk M 27 1 Tryz.f27 E27 c27 q27 := fnOk Tryz.func27
noncomputable def E28 (n m : Nat) : Cfg := ⟨M, [0, 6, 16], 44, n, m, []⟩
noncomputable abbrev r28_0 : List RO := [Ya 2 0, Yn 3 2, Yi 4 2 3, Yd 5 4, Yz 1 .neq 5 0]
noncomputable abbrev r28_1 : List (RO × Bool) := [(Ya 7 0, true), (Yn 8 7, true), (Yi 9 1 8, true), (Yd 10 9, true), (Ya 11 0, true), (Yn 12 11, true), (Yi 13 0 12, true), (Yd 14 13, true), (⟨.l 15, .lenL, [.l 14], none⟩, true)]
noncomputable abbrev r28_2 : List RO := [Yy 2 .geq 10 15]
noncomputable abbrev r28_3 : List RO := [Ya 17 0, Yn 18 17, Yi 19 2 18, ⟨.none, .st 1, [.l 19, .con (.int .i64 9)], none⟩]
noncomputable abbrev r28_4 : List RO := [Ya 20 0, Ya 21 0, Yn 22 21, Yi 23 4 22, Yd 24 23, Yn 25 20, Yi 26 3 25, Yk 1 26 24]
noncomputable abbrev r28_5 : List RO := [Ya 27 0, Yn 28 27, Yi 29 2 28, ⟨.none, .st 1, [.l 29, .con (.int .i64 8)], none⟩]
noncomputable abbrev r28_6 : List (RO × Bool) := [(Ya 30 0, true), (Ya 31 0, true), (Yn 32 31, true), (Yi 33 0 32, true), (Yd 34 33, true), (Ya 35 0, true), (Yn 36 35, true), (Yi 37 1 36, true), (Yd 38 37, true), (⟨.l 39, .ixaS 3, [.l 34, .l 38], none⟩, true), (Yi 40 2 39, true), (Yd 41 40, true)]
noncomputable abbrev r28_7 : List RO := [Yn 42 30, Yi 43 3 42, Yk 1 43 41]
theorem pe28 {n m : Nat} : (E28 n m).M = M := rfl
theorem ie28 {n m : Nat} {hp : Hp} {a0 : D} : St.init (E28 n m) [a0] hp = ⟨[a0, .u0, .u0], [], hp⟩ := rfl
noncomputable def c28 : RC := (.seq (.seq (.reg r28_0) (.cond (.v 1) .ret .skip)) (.seq (.seq (.regD r28_1 r28_2) (.cond (.v 2) (.seq (.reg r28_3) (.seq (.reg r28_4) .ret)) .skip)) (.seq (.reg r28_5) (.regD r28_6 r28_7))))
noncomputable def q28 : List RR := []
theorem k28 : FnOk M 28 1 Tryz.f28 E28 c28 q28 := fnOk Tryz.func28
noncomputable def E30 (n m : Nat) : Cfg := ⟨M, [0, 1, 2, 3, 30, 35, 44], 45, n, m, []⟩
noncomputable def C30 : Cfg := E30 0 0
noncomputable abbrev r30_0 : List RO := [Yl 1 0, ⟨.v 2, .mv, [.con (.bool false)], none⟩]
noncomputable abbrev r30_1 : List (RO × Bool) := [(Yh 4 2 1, true), (Yd 5 4, true), (⟨.l 6, .lenL, [.l 5], none⟩, true), (Yh 7 0 1, true), (Yd 8 7, true), (Yt 9 49 8, true)]
noncomputable abbrev r30_2 : List RO := [Yx 10 .neq 6 9, Yc 11 10, Zh 12 1 1 11 false, Zd 13 12 11 false, ⟨.l 14, .bin .lss, [.l 13, .con (.int .i64 0)], (some (.l 11, false))⟩, Yq 15 11 14, Yc 16 15, Zh 17 1 1 16 false, Zd 18 17 16 false, ⟨.l 19, .bin .gtr, [.l 18, .con (.int .i64 9999999)], (some (.l 16, false))⟩, Yq 20 16 19, Yc 21 20, Zh 22 0 1 21 false, Zd 23 22 21 false, ⟨.l 24, .bin .neq, [.l 23, .con (.int .i64 1)], (some (.l 21, false))⟩, Zc 25 24 21 false, Zh 26 1 1 25 true, Zd 27 26 25 true, ⟨.l 28, .bin .neq, [.l 27, .con (.int .i64 0)], (some (.l 25, true))⟩, ⟨.l 29, .pick, [.l 25, .l 28, .con (.bool false)], (some (.l 21, false))⟩, Yr 4 21 29]
noncomputable abbrev r30_3 : List RO := [⟨.v 2, .mv, [.con (.bool false)], none⟩]
noncomputable abbrev r30_4 : List RO := [Ys 3 0]
noncomputable abbrev r30_5 : List RO := [Ya 31 3, Yh 32 2 1, Yd 33 32, ⟨.l 34, .lenL, [.l 33], none⟩, Yy 5 .lss 31 34]
noncomputable abbrev r30_6 : List RO := [Yh 38 2 1, Yd 39 38, Ya 40 3, ⟨.l 41, .ixaS 3, [.l 39, .l 40], none⟩, Yg 42 3 41, Yt 43 30 42, ⟨.v 6, .un .not, [.l 43], none⟩]
noncomputable abbrev r30_7 : List RO := [⟨.v 2, .mv, [.con (.bool false)], none⟩]
noncomputable abbrev r30_8 : List RO := [Ya 36 3, Yv 37 .add 36 1, Yb 3 37]
noncomputable abbrev r30_9 : List RO := [⟨.v 2, .mv, [.con (.bool true)], none⟩]
theorem P30 : C30.M = M := rfl
theorem i30 {a0 : D} : St.init C30 [a0] ⟨[], []⟩ = ⟨[a0, .u0, .u0, .u0, .u0, .u0, .u0], [], ⟨[], []⟩⟩ := rfl
noncomputable def c30 : RC := (.seq (.reg r30_0) (.seq (.seq (.regD r30_1 r30_2) (.cond (.v 4) (.seq (.reg r30_3) .ret) .skip)) (.seq (.seq (.reg r30_4) (.block 0 (.loop (.seq (.seq (.reg r30_5) (.cond (.v 5) .skip (.exit 0))) (.seq (.block 1 (.seq (.reg r30_6) (.cond (.v 6) (.seq (.reg r30_7) .ret) .skip))) (.reg r30_8)))))) (.seq (.reg r30_9) .ret))))
noncomputable def q30 : List RR := [(.slot (.v 2))]
theorem k30 : FnOk M 30 1 Tryz.f30 E30 c30 q30 := fnOk Tryz.func30
noncomputable def E33 (n m : Nat) : Cfg := ⟨M, [0, 1, 2, 3, 4, 8, 9, 10, 12, 13, 17, 20, 23, 36, 38, 64, 65, 71, 77, 82, 87], 95, n, m, []⟩
noncomputable def C33 : Cfg := E33 0 0
noncomputable abbrev r33_0 : List RO := [Yl 4 0, Ys 5 0]
noncomputable abbrev r33_1 : List RO := [Yh 11 0 4, ⟨.v 8, .ld false 1, [.l 11], none⟩]
noncomputable abbrev r33_2 : List RO := [Yw 14 .eql 8 1, Yb 9 14]
noncomputable abbrev r33_3 : List RO := [Yh 15 1 4, Yd 16 15, Yb 5 16]
noncomputable abbrev r33_4 : List RO := [Yw 18 .eql 8 2, Yb 10 18]
noncomputable abbrev r33_5 : List RO := [Ya 19 1, Yb 5 19]
noncomputable abbrev r33_6 : List RO := [Yw 21 .eql 8 3, Yb 11 21]
noncomputable abbrev r33_7 : List RO := [Ya 22 2, Yb 5 22]
noncomputable abbrev r33_8 : List RO := [Yw 24 .eql 8 4, Yb 12 24]
noncomputable abbrev r33_9 : List RO := [Ya 25 3, Yb 5 25]
noncomputable abbrev r33_10 : List RO := [Yh 26 2 4, Yd 27 26, ⟨.l 28, .ixaS 3, [.l 27, .con (.int .i64 0)], none⟩, Yg 29 3 28, Ya 30 1, Ya 31 2, Ya 32 3, ⟨.l 33, .calls .fn, [(.con (.fn (.func 33) [] [])), .l 29, .l 30, .l 31, .l 32], none⟩, Yb 6 33]
noncomputable abbrev r33_11 : List RO := [Yh 34 0 4, Yd 35 34, Yz 13 .eql 35 11]
noncomputable abbrev r33_12 : List RO := [Ya 37 6, Yz 14 .gtr 37 0]
noncomputable abbrev r33_13 : List RO := [Yh 39 2 4, Yd 40 39, ⟨.l 41, .ixaS 3, [.l 40, .con (.int .i64 1)], none⟩, Yg 42 3 41, Ya 43 1, Ya 44 2, Ya 45 3, ⟨.l 46, .calls .fn, [(.con (.fn (.func 33) [] [])), .l 42, .l 43, .l 44, .l 45], none⟩, Yb 5 46]
noncomputable abbrev r33_14 : List RO := [Yh 47 2 4, Yd 48 47, ⟨.l 49, .ixaS 3, [.l 48, .con (.int .i64 2)], none⟩, Yg 50 3 49, Ya 51 1, Ya 52 2, Ya 53 3, ⟨.l 54, .calls .fn, [(.con (.fn (.func 33) [] [])), .l 50, .l 51, .l 52, .l 53], none⟩, Yb 5 54]
noncomputable abbrev r33_15 : List RO := [Yh 55 2 4, Yd 56 55, ⟨.l 57, .ixaS 3, [.l 56, .con (.int .i64 1)], none⟩, Yg 58 3 57, Ya 59 1, Ya 60 2, Ya 61 3, ⟨.l 62, .calls .fn, [(.con (.fn (.func 33) [] [])), .l 58, .l 59, .l 60, .l 61], none⟩, Yb 7 62]
noncomputable abbrev r33_16 : List RO := [Yh 63 0 4, ⟨.v 15, .ld false 1, [.l 63], none⟩]
noncomputable abbrev r33_17 : List RO := [Yw 66 .eql 15 5, Yb 16 66]
noncomputable abbrev r33_18 : List RO := [Ya 67 6, Ya 68 7, Yx 69 .add 67 68, Yt 70 34 69, Yb 5 70]
noncomputable abbrev r33_19 : List RO := [Yw 72 .eql 15 6, Yb 17 72]
noncomputable abbrev r33_20 : List RO := [Ya 73 6, Ya 74 7, Yx 75 .sub 73 74, Yt 76 34 75, Yb 5 76]
noncomputable abbrev r33_21 : List RO := [Yw 78 .eql 15 7, Yb 18 78]
noncomputable abbrev r33_22 : List RO := [Ya 79 6, Ya 80 7, Yu 81 50 79 80, Yb 5 81]
noncomputable abbrev r33_23 : List RO := [Yw 83 .eql 15 8, Yb 19 83]
noncomputable abbrev r33_24 : List RO := [Ya 84 6, Ya 85 7, Yu 86 51 84 85, Yb 5 86]
noncomputable abbrev r33_25 : List RO := [Yw 88 .eql 15 9, Yb 20 88]
noncomputable abbrev r33_26 : List RO := [Ya 89 6, Ya 90 7, ⟨.l 91, .minI, [.l 89, .l 90], none⟩, Yb 5 91]
noncomputable abbrev r33_27 : List RO := [Ya 92 6, Ya 93 7, ⟨.l 94, .maxI, [.l 92, .l 93], none⟩, Yb 5 94]
theorem P33 : C33.M = M := rfl
theorem i33 {a0 a1 a2 a3 : D} : St.init C33 [a0, a1, a2, a3] ⟨[], []⟩ = ⟨[a0, a1, a2, a3, .u0, .u0, .u0, .u0, .u0, .u0, .u0, .u0, .u0, .u0, .u0, .u0, .u0, .u0, .u0, .u0, .u0], [], ⟨[], []⟩⟩ := rfl
noncomputable def c33 : RC := (.seq (.reg r33_0) (.seq (.seq (.reg r33_1) (.block 0 (.seq (.reg r33_2) (.cond (.v 9) (.seq (.reg r33_3) .ret) (.seq (.reg r33_4) (.cond (.v 10) (.seq (.reg r33_5) .ret) (.seq (.reg r33_6) (.cond (.v 11) (.seq (.reg r33_7) .ret) (.seq (.reg r33_8) (.cond (.v 12) (.seq (.reg r33_9) .ret) .skip)))))))))) (.seq (.reg r33_10) (.seq (.seq (.reg r33_11) (.cond (.v 13) (.seq (.seq (.reg r33_12) (.cond (.v 14) (.seq (.reg r33_13) .ret) .skip)) (.seq (.reg r33_14) .ret)) .skip)) (.seq (.reg r33_15) (.seq (.seq (.reg r33_16) (.block 1 (.seq (.reg r33_17) (.cond (.v 16) (.seq (.reg r33_18) .ret) (.seq (.reg r33_19) (.cond (.v 17) (.seq (.reg r33_20) .ret) (.seq (.reg r33_21) (.cond (.v 18) (.seq (.reg r33_22) .ret) (.seq (.reg r33_23) (.cond (.v 19) (.seq (.reg r33_24) .ret) (.seq (.reg r33_25) (.cond (.v 20) (.seq (.reg r33_26) .ret) .skip)))))))))))) (.seq (.reg r33_27) .ret)))))))
noncomputable def q33 : List RR := [(.slot (.v 5))]
theorem k33 : FnOk M 33 4 Tryz.f33 E33 c33 q33 := fnOk Tryz.func33
noncomputable def E37 (n m : Nat) : Cfg := ⟨M, [0, 1, 2, 3, 4, 5, 6, 7, 9, 10, 17, 21, 25, 42, 43, 48, 53, 58, 63, 76, 96, 97, 100], 106, n, m, []⟩
noncomputable def C37 : Cfg := E37 0 0
noncomputable abbrev r37_0 : List RO := [Yl 2 0, Yl 3 1, ⟨.v 4, (.newb [(.int .i64 0), (.int .i64 0)]), [], none⟩]
noncomputable abbrev r37_1 : List RO := [Yh 8 0 2, ⟨.v 8, .ld false 1, [.l 8], none⟩]
noncomputable abbrev r37_2 : List RO := [Yw 11 .eql 8 1, Yb 9 11]
noncomputable abbrev r37_3 : List RO := [Yh 12 1 2, Yd 13 12, Yh 14 1 2, Yd 15 14, ⟨.l 16, (.bld [(.int .i64 0), (.int .i64 0)] [(0, 1), (1, 1)]), [.l 13, .l 15], none⟩, Yj 2 4 16]
noncomputable abbrev r37_4 : List RO := [Yw 18 .eql 8 2, Yb 10 18]
noncomputable abbrev r37_5 : List RO := [Yh 19 0 3, Yg 20 2 19, Yj 2 4 20]
noncomputable abbrev r37_6 : List RO := [Yw 22 .eql 8 3, Yb 11 22]
noncomputable abbrev r37_7 : List RO := [Yh 23 2 3, Yg 24 2 23, Yj 2 4 24]
noncomputable abbrev r37_8 : List RO := [Yw 26 .eql 8 4, Yb 12 26]
noncomputable abbrev r37_9 : List RO := [Yh 27 4 3, Yg 28 2 27, Yj 2 4 28]
noncomputable abbrev r37_10 : List (RO × Bool) := [(Yh 29 2 2, true), (Yd 30 29, true), (⟨.l 31, .ixaS 3, [.l 30, .con (.int .i64 0)], none⟩, true), (Yg 32 3 31, true), (Yf 33 6 3, true), (Yu 34 37 32 33, true), (⟨.v 5, (.newb [(.int .i64 0), (.int .i64 0)]), [], none⟩, true)]
noncomputable abbrev r37_11 : List RO := [Yj 2 5 34]
noncomputable abbrev r37_12 : List (RO × Bool) := [(Yh 35 2 2, true), (Yd 36 35, true), (⟨.l 37, .ixaS 3, [.l 36, .con (.int .i64 1)], none⟩, true), (Yg 38 3 37, true), (Yf 39 6 3, true), (Yu 40 37 38 39, true), (⟨.v 6, (.newb [(.int .i64 0), (.int .i64 0)]), [], none⟩, true)]
noncomputable abbrev r37_13 : List RO := [Yj 2 6 40]
noncomputable abbrev r37_14 : List RO := [Yh 41 0 2, ⟨.v 13, .ld false 1, [.l 41], none⟩]
noncomputable abbrev r37_15 : List RO := [Yw 44 .eql 13 5, Yb 14 44]
noncomputable abbrev r37_16 : List RO := [Yf 45 2 5, Yf 46 2 6, Yu 47 53 45 46, Yj 2 4 47]
noncomputable abbrev r37_17 : List RO := [Yw 49 .eql 13 6, Yb 15 49]
noncomputable abbrev r37_18 : List RO := [Yf 50 2 5, Yf 51 2 6, Yu 52 54 50 51, Yj 2 4 52]
noncomputable abbrev r37_19 : List RO := [Yw 54 .eql 13 7, Yb 16 54]
noncomputable abbrev r37_20 : List RO := [Yf 55 2 5, Yf 56 2 6, Yu 57 55 55 56, Yj 2 4 57]
noncomputable abbrev r37_21 : List RO := [Yw 59 .eql 13 8, Yb 17 59]
noncomputable abbrev r37_22 : List RO := [Yf 60 2 5, Yf 61 2 6, Yu 62 56 60 61, Yj 2 4 62]
noncomputable abbrev r37_23 : List RO := [Yw 64 .eql 13 9, Yb 18 64]
noncomputable abbrev r37_24 : List RO := [Yh 65 0 5, Yd 66 65, Yh 67 0 6, Yd 68 67, ⟨.l 69, .minI, [.l 66, .l 68], none⟩, Yh 70 1 5, Yd 71 70, Yh 72 1 6, Yd 73 72, ⟨.l 74, .minI, [.l 71, .l 73], none⟩, ⟨.l 75, (.bld [(.int .i64 0), (.int .i64 0)] [(0, 1), (1, 1)]), [.l 69, .l 74], none⟩, Yj 2 4 75]
noncomputable abbrev r37_25 : List RO := [Yw 77 .eql 13 10, Yb 19 77]
noncomputable abbrev r37_26 : List RO := [Yh 78 0 5, Yd 79 78, Yh 80 0 6, Yd 81 80, ⟨.l 82, .maxI, [.l 79, .l 81], none⟩, Yh 83 1 5, Yd 84 83, Yh 85 1 6, Yd 86 85, ⟨.l 87, .maxI, [.l 84, .l 86], none⟩, ⟨.l 88, (.bld [(.int .i64 0), (.int .i64 0)] [(0, 1), (1, 1)]), [.l 82, .l 87], none⟩, Yj 2 4 88]
noncomputable abbrev r37_27 : List (RO × Bool) := [(Yh 89 2 2, true), (Yd 90 89, true), (⟨.l 91, .ixaS 3, [.l 90, .con (.int .i64 2)], none⟩, true), (Yg 92 3 91, true), (Yf 93 6 3, true), (Yu 94 37 92 93, true), (⟨.v 7, (.newb [(.int .i64 0), (.int .i64 0)]), [], none⟩, true)]
noncomputable abbrev r37_28 : List RO := [Yj 2 7 94]
noncomputable abbrev r37_29 : List RO := [Yf 95 2 5, ⟨.v 20, .calls .fn, [(.con (.fn (.func 57) [] [])), .l 95, .con (.int .i64 0)], none⟩]
noncomputable abbrev r37_30 : List RO := [Yw 98 .eql 20 2, Yb 21 98]
noncomputable abbrev r37_31 : List RO := [Yf 99 2 6, Yj 2 4 99]
noncomputable abbrev r37_32 : List RO := [Yw 101 .eql 20 0, Yb 22 101]
noncomputable abbrev r37_33 : List RO := [Yf 102 2 7, Yj 2 4 102]
noncomputable abbrev r37_34 : List RO := [Yf 103 2 6, Yf 104 2 7, Yu 105 58 103 104, Yj 2 4 105]
theorem P37 : C37.M = M := rfl
theorem i37 {a0 a1 : D} : St.init C37 [a0, a1] ⟨[], []⟩ = ⟨[a0, a1, .u0, .u0, .u0, .u0, .u0, .u0, .u0, .u0, .u0, .u0, .u0, .u0, .u0, .u0, .u0, .u0, .u0, .u0, .u0, .u0, .u0], [], ⟨[], []⟩⟩ := rfl
noncomputable def c37 : RC := (.seq (.reg r37_0) (.seq (.seq (.reg r37_1) (.block 0 (.seq (.reg r37_2) (.cond (.v 9) (.seq (.reg r37_3) .ret) (.seq (.reg r37_4) (.cond (.v 10) (.seq (.reg r37_5) .ret) (.seq (.reg r37_6) (.cond (.v 11) (.seq (.reg r37_7) .ret) (.seq (.reg r37_8) (.cond (.v 12) (.seq (.reg r37_9) .ret) .skip)))))))))) (.seq (.regD r37_10 r37_11) (.seq (.regD r37_12 r37_13) (.seq (.seq (.reg r37_14) (.block 1 (.seq (.reg r37_15) (.cond (.v 14) (.seq (.reg r37_16) .ret) (.seq (.reg r37_17) (.cond (.v 15) (.seq (.reg r37_18) .ret) (.seq (.reg r37_19) (.cond (.v 16) (.seq (.reg r37_20) .ret) (.seq (.reg r37_21) (.cond (.v 17) (.seq (.reg r37_22) .ret) (.seq (.reg r37_23) (.cond (.v 18) (.seq (.reg r37_24) .ret) (.seq (.reg r37_25) (.cond (.v 19) (.seq (.reg r37_26) .ret) .skip)))))))))))))) (.seq (.regD r37_27 r37_28) (.seq (.seq (.reg r37_29) (.block 2 (.seq (.reg r37_30) (.cond (.v 21) (.seq (.reg r37_31) .ret) (.seq (.reg r37_32) (.cond (.v 22) (.seq (.reg r37_33) .ret) .skip)))))) (.seq (.reg r37_34) .ret))))))))
noncomputable def q37 : List RR := [(.cell (.v 4) true 2)]
theorem z37 {n m : Nat} : zAe (E37 n m) (Tryz.f37.body.getD .skip) = some c37 := by kernel_rfl
theorem k37 : FnOk M 37 2 Tryz.f37 E37 c37 q37 := fnOk Tryz.func37
noncomputable def E40 (n m : Nat) : Cfg := ⟨M, [0, 2, 4], 15, n, m, []⟩
noncomputable def C40 : Cfg := E40 0 0
noncomputable abbrev r40_0 : List RO := [⟨.v 1, .mv, [(.con (.str []))], none⟩]
noncomputable abbrev r40_1 : List RO := [Ya 3 0, Yz 2 .lss 3 0]
noncomputable abbrev r40_2 : List RO := [Ya 5 0, Yv 6 .add 5 1, ⟨.l 7, .un .neg, [.l 6], none⟩, ⟨.l 8, .cvI .u64, [.l 7], none⟩, ⟨.l 9, .bin .add, [.l 8, (.con (.int .u64 1))], none⟩, Yt 10 60 9, ⟨.l 11, .bin .add, [(.con (.str [45])), .l 10], none⟩, Yb 1 11]
noncomputable abbrev r40_3 : List RO := [Ya 12 0, ⟨.l 13, .cvI .u64, [.l 12], none⟩, Yt 14 60 13, Yb 1 14]
theorem P40 : C40.M = M := rfl
theorem i40 {a0 : D} : St.init C40 [a0] ⟨[], []⟩ = ⟨[a0, .u0, .u0], [], ⟨[], []⟩⟩ := rfl
noncomputable def c40 : RC := (.seq (.reg r40_0) (.seq (.seq (.reg r40_1) (.cond (.v 2) (.seq (.reg r40_2) .ret) .skip)) (.seq (.reg r40_3) .ret)))
noncomputable def q40 : List RR := [(.slot (.v 1))]
theorem k40 : FnOk M 40 1 Tryz.f40 E40 c40 q40 := fnOk Tryz.func40
noncomputable def E41 (n m : Nat) : Cfg := ⟨M, [0, 2, 8, 14], 15, n, m, []⟩
noncomputable def C41 : Cfg := E41 0 0
noncomputable abbrev r41_0 : List RO := [Ys 1 0]
noncomputable abbrev r41_1 : List RO := [Ya 3 0, Yv 4 .eql 3 5, Yc 5 4, Za 6 0 5 false, ⟨.l 7, .bin .eql, [.l 6, .con (.int .i64 6)], (some (.l 5, false))⟩, Yr 2 5 7]
noncomputable abbrev r41_2 : List RO := [Ys 1 1]
noncomputable abbrev r41_3 : List RO := [Ya 9 0, Yv 10 .eql 9 7, Yc 11 10, Za 12 0 11 false, ⟨.l 13, .bin .eql, [.l 12, .con (.int .i64 8)], (some (.l 11, false))⟩, Yr 3 11 13]
noncomputable abbrev r41_4 : List RO := [Ys 1 2]
noncomputable abbrev r41_5 : List RO := [Ys 1 3]
theorem P41 : C41.M = M := rfl
theorem i41 {a0 : D} : St.init C41 [a0] ⟨[], []⟩ = ⟨[a0, .u0, .u0, .u0], [], ⟨[], []⟩⟩ := rfl
noncomputable def c41 : RC := (.seq (.reg r41_0) (.seq (.seq (.reg r41_1) (.cond (.v 2) (.seq (.reg r41_2) .ret) .skip)) (.seq (.seq (.reg r41_3) (.cond (.v 3) (.seq (.reg r41_4) .ret) .skip)) (.seq (.reg r41_5) .ret))))
noncomputable def q41 : List RR := [(.slot (.v 1))]
theorem k41 : FnOk M 41 1 Tryz.f41 E41 c41 q41 := fnOk Tryz.func41
noncomputable def E45 (n m : Nat) : Cfg := ⟨M, [0, 1, 4, 8, 12, 18, 28], 33, n, m, []⟩
noncomputable def C45 : Cfg := E45 0 0
noncomputable abbrev r45_0 : List RO := [Ys 2 0]
noncomputable abbrev r45_1 : List RO := [Ya 5 1, Ya 6 0, ⟨.l 7, .lenS, [.l 6], none⟩, Yy 3 .lss 5 7]
noncomputable abbrev r45_2 : List RO := [Ya 9 0, Ya 10 1, ⟨.l 11, .ixvS, [.l 9, .l 10], none⟩, ⟨.v 4, .calls .fn, [(.con (.fn (.func 67) [] [])), (.con (.str [32, 9, 10])), .l 11], none⟩]
noncomputable abbrev r45_3 : List RO := [Ya 13 1, Yv 14 .add 13 1, Yb 1 14]
noncomputable abbrev r45_4 : List RO := [Ya 15 0, Ya 16 1, ⟨.l 17, .ixvS, [.l 15, .l 16], none⟩, ⟨.v 5, .bin .eql, [.l 17, (.con (.int .u8 35))], none⟩]
noncomputable abbrev r45_5 : List RO := [Ya 19 1, Ya 20 0, ⟨.l 21, .lenS, [.l 20], none⟩, Yx 22 .lss 19 21, Yc 23 22, Za 24 0 23 true, Za 25 1 23 true, ⟨.l 26, .ixvS, [.l 24, .l 25], (some (.l 23, true))⟩, ⟨.l 27, .bin .neq, [.l 26, (.con (.int .u8 10))], (some (.l 23, true))⟩, Yp 6 23 27]
noncomputable abbrev r45_6 : List RO := [Ya 29 1, Yv 30 .add 29 1, Yb 1 30]
noncomputable abbrev r45_7 : List RO := [Ya 31 1, Yb 2 31]
noncomputable abbrev r45_8 : List RO := [Ya 32 1, Yb 2 32]
theorem P45 : C45.M = M := rfl
theorem i45 {a0 a1 : D} : St.init C45 [a0, a1] ⟨[], []⟩ = ⟨[a0, a1, .u0, .u0, .u0, .u0, .u0], [], ⟨[], []⟩⟩ := rfl
noncomputable def c45 : RC := (.seq (.reg r45_0) (.seq (.block 0 (.loop (.seq (.seq (.reg r45_1) (.cond (.v 3) .skip (.exit 0))) (.block 1 (.seq (.reg r45_2) (.cond (.v 4) (.reg r45_3) (.seq (.reg r45_4) (.cond (.v 5) (.block 2 (.loop (.seq (.seq (.reg r45_5) (.cond (.v 6) .skip (.exit 2))) (.block 3 (.reg r45_6))))) (.seq (.reg r45_7) .ret))))))))) (.seq (.reg r45_8) .ret)))
noncomputable def q45 : List RR := [(.slot (.v 2))]
theorem k45 : FnOk M 45 2 Tryz.f45 E45 c45 q45 := fnOk Tryz.func45
noncomputable def E46 (n m : Nat) : Cfg := ⟨M, [0, 1, 4, 5, 6, 7, 8, 9, 10, 11, 18, 28, 34, 44, 54, 72, 82, 91, 99], 108, n, m, []⟩
noncomputable def C46 : Cfg := E46 0 0
noncomputable abbrev r46_0 : List RO := [⟨.v 2, (.newb [(.int .i64 0), (.str []), (.int .i64 0)]), [], none⟩, Ys 3 0, Ys 4 0]
noncomputable abbrev r46_1 : List RO := [Ya 12 1, Yv 13 .add 12 1, Yb 5 13]
noncomputable abbrev r46_2 : List RO := [Ya 14 0, Ya 15 1, ⟨.l 16, .ixvS, [.l 14, .l 15], none⟩, Yb 6 16]
noncomputable abbrev r46_3 : List RO := [Ya 17 6, ⟨.v 10, .calls .fn, [(.con (.fn (.func 68) [] [])), .l 17], none⟩]
noncomputable abbrev r46_4 : List RO := [Ya 19 5, Ya 20 0, ⟨.l 21, .lenS, [.l 20], none⟩, Yx 22 .lss 19 21, Yc 23 22, Za 24 0 23 true, Za 25 5 23 true, ⟨.l 26, .ixvS, [.l 24, .l 25], (some (.l 23, true))⟩, ⟨.l 27, .calls .fn, [(.con (.fn (.func 69) [] [])), .l 26], (some (.l 23, true))⟩, Yp 11 23 27]
noncomputable abbrev r46_5 : List RO := [Ya 29 5, Yv 30 .add 29 1, Yb 5 30]
noncomputable abbrev r46_6 : List RO := [Ya 31 5, Ya 32 1, Yx 33 .sub 31 32, Yz 12 .gtr 33 24]
noncomputable abbrev r46_7 : List RO := [⟨.l 35, (.bld [(.int .i64 0), (.str []), (.int .i64 0)] []), [], none⟩, Yj 3 2 35, Ys 3 0, Ys 4 7]
noncomputable abbrev r46_8 : List RO := [Ya 36 0, Ya 37 1, Ya 38 5, ⟨.l 39, .slcS true true, [.l 36, .l 37, .l 38], none⟩, Ya 40 1, ⟨.l 41, (.bld [(.int .i64 0), (.str []), (.int .i64 0)] [(0, 1), (1, 1), (2, 1)]), [.con (.int .i64 1), .l 39, .l 40], none⟩, Ya 42 5, Yj 3 2 41, Yb 3 42, Ys 4 0]
noncomputable abbrev r46_9 : List RO := [Ya 43 6, ⟨.v 13, .calls .fn, [(.con (.fn (.func 70) [] [])), .l 43], none⟩]
noncomputable abbrev r46_10 : List RO := [Ya 45 5, Ya 46 0, ⟨.l 47, .lenS, [.l 46], none⟩, Yx 48 .lss 45 47, Yc 49 48, Za 50 0 49 true, Za 51 5 49 true, ⟨.l 52, .ixvS, [.l 50, .l 51], (some (.l 49, true))⟩, ⟨.l 53, .calls .fn, [(.con (.fn (.func 70) [] [])), .l 52], (some (.l 49, true))⟩, Yp 14 49 53]
noncomputable abbrev r46_11 : List RO := [Ya 55 5, Yv 56 .add 55 1, Yb 5 56]
noncomputable abbrev r46_12 : List RO := [Ya 57 5, Ya 58 1, Yx 59 .sub 57 58, Yv 60 .gtr 59 7, Yc 61 60, Za 62 5 61 false, Za 63 0 61 false, ⟨.l 64, .lenS, [.l 63], (some (.l 61, false))⟩, ⟨.l 65, .bin .lss, [.l 62, .l 64], (some (.l 61, false))⟩, Zc 66 65 61 false, Za 67 0 66 true, Za 68 5 66 true, ⟨.l 69, .ixvS, [.l 67, .l 68], (some (.l 66, true))⟩, ⟨.l 70, .calls .fn, [(.con (.fn (.func 69) [] [])), .l 69], (some (.l 66, true))⟩, ⟨.l 71, .pick, [.l 66, .l 70, .con (.bool false)], (some (.l 61, false))⟩, Yr 15 61 71]
noncomputable abbrev r46_13 : List RO := [⟨.l 73, (.bld [(.int .i64 0), (.str []), (.int .i64 0)] []), [], none⟩, Yj 3 2 73, Ys 3 0, Ys 4 11]
noncomputable abbrev r46_14 : List RO := [Ya 74 0, Ya 75 1, Ya 76 5, ⟨.l 77, .slcS true true, [.l 74, .l 75, .l 76], none⟩, Ya 78 1, ⟨.l 79, (.bld [(.int .i64 0), (.str []), (.int .i64 0)] [(0, 1), (1, 1), (2, 1)]), [.con (.int .i64 2), .l 77, .l 78], none⟩, Ya 80 5, Yj 3 2 79, Yb 3 80, Ys 4 0]
noncomputable abbrev r46_15 : List RO := [Ya 81 6, ⟨.v 16, .bin .eql, [.l 81, (.con (.int .u8 34))], none⟩]
noncomputable abbrev r46_16 : List RO := [Ya 84 0, Ya 85 1, Yu 86 71 84 85, Yc 83 86, Ym 87 0 83, Ym 88 1 83, Ym 89 2 83, Yb 7 87, Yb 8 88, Yb 9 89]
noncomputable abbrev r46_17 : List RO := [Ya 90 9, ⟨.v 17, .un .not, [.l 90], none⟩]
noncomputable abbrev r46_18 : List RO := [⟨.l 92, (.bld [(.int .i64 0), (.str []), (.int .i64 0)] []), [], none⟩, Yj 3 2 92, Ys 3 0, Ys 4 10]
noncomputable abbrev r46_19 : List RO := [Ya 93 7, Ya 94 1, ⟨.l 95, (.bld [(.int .i64 0), (.str []), (.int .i64 0)] [(0, 1), (1, 1), (2, 1)]), [.con (.int .i64 3), .l 93, .l 94], none⟩, Ya 96 8, Yj 3 2 95, Yb 3 96, Ys 4 0]
noncomputable abbrev r46_20 : List RO := [Ya 97 6, ⟨.l 98, .calls .fn, [(.con (.fn (.func 67) [] [])), (.con (.str [59, 44, 46, 58, 40, 41, 123, 125, 91, 93, 61, 60, 62, 47, 43, 45, 42])), .l 97], none⟩, ⟨.v 18, .un .not, [.l 98], none⟩]
noncomputable abbrev r46_21 : List RO := [⟨.l 100, (.bld [(.int .i64 0), (.str []), (.int .i64 0)] []), [], none⟩, Yj 3 2 100, Ys 3 0, Ys 4 10]
noncomputable abbrev r46_22 : List RO := [Ya 101 0, Ya 102 1, Ya 103 5, ⟨.l 104, .slcS true true, [.l 101, .l 102, .l 103], none⟩, Ya 105 1, ⟨.l 106, (.bld [(.int .i64 0), (.str []), (.int .i64 0)] [(0, 1), (1, 1), (2, 1)]), [.con (.int .i64 4), .l 104, .l 105], none⟩, Ya 107 5, Yj 3 2 106, Yb 3 107, Ys 4 0]
theorem P46 : C46.M = M := rfl
theorem i46 {a0 a1 : D} : St.init C46 [a0, a1] ⟨[], []⟩ = ⟨[a0, a1, .u0, .u0, .u0, .u0, .u0, .u0, .u0, .u0, .u0, .u0, .u0, .u0, .u0, .u0, .u0, .u0, .u0], [], ⟨[], []⟩⟩ := rfl
noncomputable def c46 : RC := (.seq (.reg r46_0) (.seq (.reg r46_1) (.seq (.reg r46_2) (.seq (.seq (.reg r46_3) (.cond (.v 10) (.seq (.block 0 (.loop (.seq (.seq (.reg r46_4) (.cond (.v 11) .skip (.exit 0))) (.block 1 (.reg r46_5))))) (.seq (.seq (.reg r46_6) (.cond (.v 12) (.seq (.reg r46_7) .ret) .skip)) (.seq (.reg r46_8) .ret))) .skip)) (.seq (.seq (.reg r46_9) (.cond (.v 13) (.seq (.block 2 (.loop (.seq (.seq (.reg r46_10) (.cond (.v 14) .skip (.exit 2))) (.block 3 (.reg r46_11))))) (.seq (.seq (.reg r46_12) (.cond (.v 15) (.seq (.reg r46_13) .ret) .skip)) (.seq (.reg r46_14) .ret))) .skip)) (.seq (.seq (.reg r46_15) (.cond (.v 16) (.seq (.reg r46_16) (.seq (.seq (.reg r46_17) (.cond (.v 17) (.seq (.reg r46_18) .ret) .skip)) (.seq (.reg r46_19) .ret))) .skip)) (.seq (.seq (.reg r46_20) (.cond (.v 18) (.seq (.reg r46_21) .ret) .skip)) (.seq (.reg r46_22) .ret))))))))
noncomputable def q46 : List RR := [(.cell (.v 2) true 3), (.slot (.v 3)), (.slot (.v 4))]
theorem z46 {n m : Nat} : zAe (E46 n m) (Tryz.f46.body.getD .skip) = some c46 := by kernel_rfl
theorem k46 : FnOk M 46 2 Tryz.f46 E46 c46 q46 := fnOk Tryz.func46
noncomputable def E47 (n m : Nat) : Cfg := ⟨M, [0, 2, 3, 4, 5, 13, 15], 31, n, m, []⟩
noncomputable abbrev r47_0 : List RO := [⟨.v 1, (.newb [(.int .i64 0), (.int .i64 0), (.lit (.slice none 0 0))]), [], none⟩]
noncomputable abbrev r47_1 : List RO := [Ya 6 0, Yt 7 72 6, ⟨.v 2, (.newb [(.int .i64 0), (.int .i64 0), (.lit (.slice none 0 0))]), [], none⟩, Yj 3 2 7]
noncomputable abbrev r47_2 : List RO := [Ya 8 0, ⟨.l 9, .calls .fn, [(.con (.fn (.func 48) [] [])), .l 8, .con (.int .i64 4), (.con (.str [42]))], none⟩, Yc 10 9, Za 11 0 10 false, ⟨.l 12, .calls .fn, [(.con (.fn (.func 48) [] [])), .l 11, .con (.int .i64 4), (.con (.str [47]))], (some (.l 10, false))⟩, Yr 5 10 12]
noncomputable abbrev r47_3 : List RO := [Ys 3 7]
noncomputable abbrev r47_4 : List RO := [Ya 14 0, ⟨.v 6, .calls .fn, [(.con (.fn (.func 48) [] [])), .l 14, .con (.int .i64 4), (.con (.str [47]))], none⟩]
noncomputable abbrev r47_5 : List RO := [Ys 3 8]
noncomputable abbrev r47_6 : List RO := [Ya 16 0, Yn 17 16, Yi 18 1 17, Yd 19 18, Yv 20 .add 19 1, Yn 21 16, Yi 22 1 21, Yk 1 22 20]
noncomputable abbrev r47_7 : List RO := [Ya 23 0, Yt 24 72 23, ⟨.v 4, (.newb [(.int .i64 0), (.int .i64 0), (.lit (.slice none 0 0))]), [], none⟩, Yj 3 4 24]
noncomputable abbrev r47_8 : List RO := [Ya 25 3, Yf 26 3 2, Yf 27 3 4, ⟨.l 28, .bsl 3, [.l 26, .l 27], none⟩, ⟨.l 29, (.bld [(.int .i64 0), (.int .i64 0), (.lit (.slice none 0 0))] [(0, 1), (2, 1)]), [.l 25, .l 28], none⟩, Yj 3 2 29]
noncomputable abbrev r47_9 : List RO := [Yf 30 3 2, Yj 3 1 30]
theorem pe47 {n m : Nat} : (E47 n m).M = M := rfl
theorem ie47 {n m : Nat} {hp : Hp} {a0 : D} : St.init (E47 n m) [a0] hp = ⟨[a0, .u0, .u0, .u0, .u0, .u0, .u0], [], hp⟩ := rfl
noncomputable def c47 : RC := (.seq (.reg r47_0) (.seq (.reg r47_1) (.seq (.block 0 (.loop (.seq (.seq (.reg r47_2) (.cond (.v 5) .skip (.exit 0))) (.block 1 (.seq (.reg r47_3) (.seq (.seq (.reg r47_4) (.cond (.v 6) (.reg r47_5) .skip)) (.seq (.reg r47_6) (.seq (.reg r47_7) (.reg r47_8))))))))) (.seq (.reg r47_9) .ret))))
noncomputable def q47 : List RR := [(.cell (.v 1) true 3)]
theorem k47 : FnOk M 47 1 Tryz.f47 E47 c47 q47 := fnOk Tryz.func47
noncomputable def E48 (n m : Nat) : Cfg := ⟨M, [0, 1, 2, 6], 54, n, m, []⟩
noncomputable abbrev r48_0 : List RO := [⟨.v 3, .mv, [.con (.bool false)], none⟩]
noncomputable abbrev r48_1 : List (RO × Bool) := [(Ya 7 0, true), (Yn 8 7, true), (Yi 9 2 8, true), (Yd 10 9, true), (Yv 11 .eql 10 0, true), (Yc 12 11, true), (Za 13 0 12 true, true), (Zn 14 13 12 true, true), (Zi 15 1 14 12 true, true), (Zd 16 15 12 true, true), (Za 17 0 12 true, true), (Zn 18 17 12 true, true), (Zi 19 0 18 12 true, true), (Zd 20 19 12 true, true), (⟨.l 21, .lenL, [.l 20], (some (.l 12, true))⟩, true), (⟨.l 22, .bin .lss, [.l 16, .l 21], (some (.l 12, true))⟩, true), (Yo 23 12 22, true), (Yc 24 23, true), (Za 25 0 24 true, true), (Zn 26 25 24 true, true), (Zi 27 0 26 24 true, true), (Zd 28 27 24 true, true), (Za 29 0 24 true, true), (Zn 30 29 24 true, true), (Zi 31 1 30 24 true, true), (Zd 32 31 24 true, true), (⟨.l 33, .ixaS 3, [.l 28, .l 32], (some (.l 24, true))⟩, true), (Zi 34 0 33 24 true, true), (Zd 35 34 24 true, true), (Za 36 1 24 true, true), (⟨.l 37, .bin .eql, [.l 35, .l 36], (some (.l 24, true))⟩, true), (Yo 38 24 37, true), (Yc 39 38, true), (Za 40 0 39 true, true), (Zn 41 40 39 true, true), (Zi 42 0 41 39 true, true), (Zd 43 42 39 true, true), (Za 44 0 39 true, true), (Zn 45 44 39 true, true), (Zi 46 1 45 39 true, true), (Zd 47 46 39 true, true), (⟨.l 48, .ixaS 3, [.l 43, .l 47], (some (.l 39, true))⟩, true), (Zi 49 1 48 39 true, true), (Zd 50 49 39 true, true), (Za 51 2 39 true, true)]
noncomputable abbrev r48_2 : List RO := [⟨.l 52, .bin .eql, [.l 50, .l 51], (some (.l 39, true))⟩, Yo 53 39 52, Yb 3 53]
theorem pe48 {n m : Nat} : (E48 n m).M = M := rfl
theorem ie48 {n m : Nat} {hp : Hp} {a0 a1 a2 : D} : St.init (E48 n m) [a0, a1, a2] hp = ⟨[a0, a1, a2, .u0], [], hp⟩ := rfl
noncomputable def c48 : RC := (.seq (.reg r48_0) (.seq (.regD r48_1 r48_2) .ret))
noncomputable def q48 : List RR := [(.slot (.v 3))]
theorem k48 : FnOk M 48 3 Tryz.f48 E48 c48 q48 := fnOk Tryz.func48
noncomputable def E49 (n m : Nat) : Cfg := ⟨M, [0, 2, 8, 14, 16], 17, n, m, []⟩
noncomputable def C49 : Cfg := E49 0 0
noncomputable abbrev r49_0 : List RO := [Ys 1 0]
noncomputable abbrev r49_1 : List RO := [Ya 3 0, Yv 4 .geq 3 1, Yc 5 4, Za 6 0 5 true, ⟨.l 7, .bin .leq, [.l 6, .con (.int .i64 4)], (some (.l 5, true))⟩, Yp 2 5 7]
noncomputable abbrev r49_2 : List RO := [Ys 1 0]
noncomputable abbrev r49_3 : List RO := [Ya 9 0, Yv 10 .geq 9 5, Yc 11 10, Za 12 0 11 true, ⟨.l 13, .bin .leq, [.l 12, .con (.int .i64 10)], (some (.l 11, true))⟩, Yp 3 11 13]
noncomputable abbrev r49_4 : List RO := [Ys 1 2]
noncomputable abbrev r49_5 : List RO := [Ya 15 0, Yz 4 .eql 15 11]
noncomputable abbrev r49_6 : List RO := [Ys 1 3]
noncomputable abbrev r49_7 : List RO := [⟨.v 1, .mv, [(.con (.int .i64 (-1)))], none⟩]
theorem P49 : C49.M = M := rfl
theorem i49 {a0 : D} : St.init C49 [a0] ⟨[], []⟩ = ⟨[a0, .u0, .u0, .u0, .u0], [], ⟨[], []⟩⟩ := rfl
noncomputable def c49 : RC := (.seq (.reg r49_0) (.seq (.seq (.reg r49_1) (.cond (.v 2) (.seq (.reg r49_2) .ret) .skip)) (.seq (.seq (.reg r49_3) (.cond (.v 3) (.seq (.reg r49_4) .ret) .skip)) (.seq (.seq (.reg r49_5) (.cond (.v 4) (.seq (.reg r49_6) .ret) .skip)) (.seq (.reg r49_7) .ret)))))
noncomputable def q49 : List RR := [(.slot (.v 1))]
theorem k49 : FnOk M 49 1 Tryz.f49 E49 c49 q49 := fnOk Tryz.func49
noncomputable def E51 (n m : Nat) : Cfg := ⟨M, [0, 1, 4, 5, 7, 21], 25, n, m, []⟩
noncomputable def C51 : Cfg := E51 0 0
noncomputable abbrev r51_0 : List RO := [Ys 2 0]
noncomputable abbrev r51_1 : List RO := [Ya 6 1, Yz 4 .eql 6 0]
noncomputable abbrev r51_2 : List RO := [Ys 2 0]
noncomputable abbrev r51_3 : List RO := [Ya 8 0, Ya 9 1, Yx 10 .quo 8 9, Yb 3 10]
noncomputable abbrev r51_4 : List RO := [Ya 11 0, Ya 12 1, Yx 13 .rem 11 12, Yv 14 .neq 13 0, Yc 15 14, Za 16 0 15 true, ⟨.l 17, .bin .lss, [.l 16, .con (.int .i64 0)], (some (.l 15, true))⟩, Za 18 1 15 true, ⟨.l 19, .bin .lss, [.l 18, .con (.int .i64 0)], (some (.l 15, true))⟩, ⟨.l 20, .eqB true, [.l 17, .l 19], (some (.l 15, true))⟩, Yp 5 15 20]
noncomputable abbrev r51_5 : List RO := [Ya 22 3, Yv 23 .sub 22 1, Yb 3 23]
noncomputable abbrev r51_6 : List RO := [Ya 24 3, Yb 2 24]
theorem P51 : C51.M = M := rfl
theorem i51 {a0 a1 : D} : St.init C51 [a0, a1] ⟨[], []⟩ = ⟨[a0, a1, .u0, .u0, .u0, .u0], [], ⟨[], []⟩⟩ := rfl
noncomputable def c51 : RC := (.seq (.reg r51_0) (.seq (.seq (.reg r51_1) (.cond (.v 4) (.seq (.reg r51_2) .ret) .skip)) (.seq (.reg r51_3) (.seq (.seq (.reg r51_4) (.cond (.v 5) (.reg r51_5) .skip)) (.seq (.reg r51_6) .ret)))))
noncomputable def q51 : List RR := [(.slot (.v 2))]
theorem z51 {n m : Nat} : zAe (E51 n m) (Tryz.f51.body.getD .skip) = some c51 := by kernel_rfl
theorem k51 : FnOk M 51 2 Tryz.f51 E51 c51 q51 := fnOk Tryz.func51
noncomputable def E53 (n m : Nat) : Cfg := ⟨M, [0, 1, 2, 3, 4, 12], 27, n, m, []⟩
noncomputable def C53 : Cfg := E53 0 0
noncomputable abbrev r53_0 : List RO := [Yl 2 0, Yl 3 1, ⟨.v 4, (.newb [(.int .i64 0), (.int .i64 0)]), [], none⟩]
noncomputable abbrev r53_1 : List RO := [Yf 5 2 2, Yt 6 73 5, ⟨.l 7, .un .not, [.l 6], none⟩, Yc 8 7, Zf 9 2 3 8 false, ⟨.l 10, .calls .fn, [(.con (.fn (.func 73) [] [])), .l 9], (some (.l 8, false))⟩, ⟨.l 11, .un .not, [.l 10], (some (.l 8, false))⟩, Yr 5 8 11]
noncomputable abbrev r53_2 : List RO := [⟨.l 13, (.bld [(.int .i64 0), (.int .i64 0)] []), [], none⟩, Yj 2 4 13]
noncomputable abbrev r53_3 : List (RO × Bool) := [(Yh 14 0 2, true), (Yd 15 14, true), (Yh 16 0 3, true), (Yd 17 16, true), (Yx 18 .add 15 17, true), (Yt 19 34 18, true), (Yh 20 1 2, true), (Yd 21 20, true), (Yh 22 1 3, true), (Yd 23 22, true), (Yx 24 .add 21 23, true)]
noncomputable abbrev r53_4 : List RO := [Yt 25 34 24, ⟨.l 26, (.bld [(.int .i64 0), (.int .i64 0)] [(0, 1), (1, 1)]), [.l 19, .l 25], none⟩, Yj 2 4 26]
theorem P53 : C53.M = M := rfl
theorem i53 {a0 a1 : D} : St.init C53 [a0, a1] ⟨[], []⟩ = ⟨[a0, a1, .u0, .u0, .u0, .u0], [], ⟨[], []⟩⟩ := rfl
noncomputable def c53 : RC := (.seq (.reg r53_0) (.seq (.seq (.reg r53_1) (.cond (.v 5) (.seq (.reg r53_2) .ret) .skip)) (.seq (.regD r53_3 r53_4) .ret)))
noncomputable def q53 : List RR := [(.cell (.v 4) true 2)]
theorem z53 {n m : Nat} : zAe (E53 n m) (Tryz.f53.body.getD .skip) = some c53 := by kernel_rfl
theorem k53 : FnOk M 53 2 Tryz.f53 E53 c53 q53 := fnOk Tryz.func53
noncomputable def E54 (n m : Nat) : Cfg := ⟨M, [0, 1, 2, 3, 4, 12], 27, n, m, []⟩
noncomputable def C54 : Cfg := E54 0 0
noncomputable abbrev r54_0 : List RO := [Yl 2 0, Yl 3 1, ⟨.v 4, (.newb [(.int .i64 0), (.int .i64 0)]), [], none⟩]
noncomputable abbrev r54_1 : List RO := [Yf 5 2 2, Yt 6 73 5, ⟨.l 7, .un .not, [.l 6], none⟩, Yc 8 7, Zf 9 2 3 8 false, ⟨.l 10, .calls .fn, [(.con (.fn (.func 73) [] [])), .l 9], (some (.l 8, false))⟩, ⟨.l 11, .un .not, [.l 10], (some (.l 8, false))⟩, Yr 5 8 11]
noncomputable abbrev r54_2 : List RO := [⟨.l 13, (.bld [(.int .i64 0), (.int .i64 0)] []), [], none⟩, Yj 2 4 13]
noncomputable abbrev r54_3 : List (RO × Bool) := [(Yh 14 0 2, true), (Yd 15 14, true), (Yh 16 1 3, true), (Yd 17 16, true), (Yx 18 .sub 15 17, true), (Yt 19 34 18, true), (Yh 20 1 2, true), (Yd 21 20, true), (Yh 22 0 3, true), (Yd 23 22, true), (Yx 24 .sub 21 23, true)]
noncomputable abbrev r54_4 : List RO := [Yt 25 34 24, ⟨.l 26, (.bld [(.int .i64 0), (.int .i64 0)] [(0, 1), (1, 1)]), [.l 19, .l 25], none⟩, Yj 2 4 26]
theorem P54 : C54.M = M := rfl
theorem i54 {a0 a1 : D} : St.init C54 [a0, a1] ⟨[], []⟩ = ⟨[a0, a1, .u0, .u0, .u0, .u0], [], ⟨[], []⟩⟩ := rfl
noncomputable def c54 : RC := (.seq (.reg r54_0) (.seq (.seq (.reg r54_1) (.cond (.v 5) (.seq (.reg r54_2) .ret) .skip)) (.seq (.regD r54_3 r54_4) .ret)))
noncomputable def q54 : List RR := [(.cell (.v 4) true 2)]
theorem k54 : FnOk M 54 2 Tryz.f54 E54 c54 q54 := fnOk Tryz.func54
noncomputable def E55 (n m : Nat) : Cfg := ⟨M, [0, 1, 2, 3, 4, 5, 6, 7, 8, 16], 49, n, m, []⟩
noncomputable def C55 : Cfg := E55 0 0
noncomputable abbrev r55_0 : List RO := [Yl 2 0, Yl 3 1, ⟨.v 4, (.newb [(.int .i64 0), (.int .i64 0)]), [], none⟩]
noncomputable abbrev r55_1 : List RO := [Yf 9 2 2, Yt 10 73 9, ⟨.l 11, .un .not, [.l 10], none⟩, Yc 12 11, Zf 13 2 3 12 false, ⟨.l 14, .calls .fn, [(.con (.fn (.func 73) [] [])), .l 13], (some (.l 12, false))⟩, ⟨.l 15, .un .not, [.l 14], (some (.l 12, false))⟩, Yr 9 12 15]
noncomputable abbrev r55_2 : List RO := [⟨.l 17, (.bld [(.int .i64 0), (.int .i64 0)] []), [], none⟩, Yj 2 4 17]
noncomputable abbrev r55_3 : List RO := [Yh 18 0 2, Yd 19 18, Yh 20 0 3, Yd 21 20, Yu 22 50 19 21, Yb 5 22]
noncomputable abbrev r55_4 : List RO := [Yh 23 0 2, Yd 24 23, Yh 25 1 3, Yd 26 25, Yu 27 50 24 26, Yb 6 27]
noncomputable abbrev r55_5 : List RO := [Yh 28 1 2, Yd 29 28, Yh 30 0 3, Yd 31 30, Yu 32 50 29 31, Yb 7 32]
noncomputable abbrev r55_6 : List RO := [Yh 33 1 2, Yd 34 33, Yh 35 1 3, Yd 36 35, Yu 37 50 34 36, Yb 8 37]
noncomputable abbrev r55_7 : List RO := [Ya 38 5, Ya 39 6, Ya 40 7, Ya 41 8, ⟨.l 42, .minI, [.l 38, .l 39, .l 40, .l 41], none⟩, Ya 43 5, Ya 44 6, Ya 45 7, Ya 46 8, ⟨.l 47, .maxI, [.l 43, .l 44, .l 45, .l 46], none⟩, ⟨.l 48, (.bld [(.int .i64 0), (.int .i64 0)] [(0, 1), (1, 1)]), [.l 42, .l 47], none⟩, Yj 2 4 48]
theorem P55 : C55.M = M := rfl
theorem i55 {a0 a1 : D} : St.init C55 [a0, a1] ⟨[], []⟩ = ⟨[a0, a1, .u0, .u0, .u0, .u0, .u0, .u0, .u0, .u0], [], ⟨[], []⟩⟩ := rfl
noncomputable def c55 : RC := (.seq (.reg r55_0) (.seq (.seq (.reg r55_1) (.cond (.v 9) (.seq (.reg r55_2) .ret) .skip)) (.seq (.reg r55_3) (.seq (.reg r55_4) (.seq (.reg r55_5) (.seq (.reg r55_6) (.seq (.reg r55_7) .ret)))))))
noncomputable def q55 : List RR := [(.cell (.v 4) true 2)]
theorem k55 : FnOk M 55 2 Tryz.f55 E55 c55 q55 := fnOk Tryz.func55
noncomputable def E56 (n m : Nat) : Cfg := ⟨M, [0, 1, 2, 3, 4, 5, 6, 7, 8, 9, 10, 11, 35, 60, 82], 88, n, m, []⟩
noncomputable def C56 : Cfg := E56 0 0
noncomputable abbrev r56_0 : List RO := [Yl 2 0, Yl 3 1, ⟨.v 4, (.newb [(.int .i64 0), (.int .i64 0)]), [], none⟩]
noncomputable abbrev r56_1 : List RO := [⟨.l 12, (.bld [(.int .i64 0), (.int .i64 0)] []), [], none⟩, ⟨.v 5, (.newb [(.int .i64 0), (.int .i64 0)]), [], none⟩, Yj 2 5 12]
noncomputable abbrev r56_2 : List RO := [Yh 13 0 3, Yd 14 13, Yv 15 .leq 14 0, Yc 16 15, Zh 17 1 3 16 true, Zd 18 17 16 true, ⟨.l 19, .bin .geq, [.l 18, .con (.int .i64 0)], (some (.l 16, true))⟩, Yo 20 16 19, Yb 6 20]
noncomputable abbrev r56_3 : List RO := [Yh 21 0 3, Yd 22 21, ⟨.l 23, .maxI, [.l 22, .con (.int .i64 1)], none⟩, Yh 24 1 3, Yd 25 24, Yh 26 0 3, Yd 27 26, Yh 28 1 3, Yd 29 28, ⟨.l 30, .minI, [.l 29, (.con (.int .i64 (-1)))], none⟩, ⟨.l 31, .bsl 1, [.l 23, .l 25, .l 27, .l 30], none⟩, Yb 7 31]
noncomputable abbrev r56_4 : List RO := [Ys 8 0]
noncomputable abbrev r56_5 : List RO := [Ya 32 8, Ya 33 7, ⟨.l 34, .lenL, [.l 33], none⟩, Yy 12 .lss 32 34]
noncomputable abbrev r56_6 : List (RO × Bool) := [(Ya 38 7, true), (Ya 39 8, true), (⟨.l 40, .ixaS 1, [.l 38, .l 39], none⟩, true), (Yd 41 40, true), (Yh 42 0 3, true), (Yd 43 42, true), (Yx 44 .lss 41 43, true), (Yc 45 44, true), (Za 46 7 45 false, true), (Za 47 8 45 false, true), (⟨.l 48, .ixaS 1, [.l 46, .l 47], (some (.l 45, false))⟩, true), (Zd 49 48 45 false, true), (Zh 50 1 3 45 false, true), (Zd 51 50 45 false, true), (⟨.l 52, .bin .gtr, [.l 49, .l 51], (some (.l 45, false))⟩, true), (Yq 53 45 52, true), (Yc 54 53, true), (Za 55 7 54 false, true), (Za 56 8 54 false, true)]
noncomputable abbrev r56_7 : List RO := [⟨.l 57, .ixaS 1, [.l 55, .l 56], (some (.l 54, false))⟩, Zd 58 57 54 false, ⟨.l 59, .bin .eql, [.l 58, .con (.int .i64 0)], (some (.l 54, false))⟩, Yr 13 54 59]
noncomputable abbrev r56_8 : List (RO × Bool) := [(Yh 61 0 2, true), (Yd 62 61, true), (Ya 63 7, true), (Ya 64 8, true), (⟨.l 65, .ixaS 1, [.l 63, .l 64], none⟩, true), (Yd 66 65, true)]
noncomputable abbrev r56_9 : List RO := [Yu 67 51 62 66, Yb 9 67]
noncomputable abbrev r56_10 : List (RO × Bool) := [(Yh 68 1 2, true), (Yd 69 68, true), (Ya 70 7, true), (Ya 71 8, true), (⟨.l 72, .ixaS 1, [.l 70, .l 71], none⟩, true), (Yd 73 72, true)]
noncomputable abbrev r56_11 : List RO := [Yu 74 51 69 73, Yb 10 74]
noncomputable abbrev r56_12 : List RO := [Ya 75 9, Ya 76 10, ⟨.l 77, .minI, [.l 75, .l 76], none⟩, Ya 78 9, Ya 79 10, ⟨.l 80, .maxI, [.l 78, .l 79], none⟩, ⟨.l 81, (.bld [(.int .i64 0), (.int .i64 0)] [(0, 1), (1, 1)]), [.l 77, .l 80], none⟩, ⟨.v 11, (.newb [(.int .i64 0), (.int .i64 0)]), [], none⟩, Yj 2 11 81]
noncomputable abbrev r56_13 : List RO := [⟨.v 14, .mv, [.v 6], none⟩]
noncomputable abbrev r56_14 : List RO := [Yf 83 2 11, Yf 84 2 5, Yu 85 58 83 84, Yj 2 11 85]
noncomputable abbrev r56_15 : List RO := [Yf 86 2 11, Yj 2 5 86]
noncomputable abbrev r56_16 : List RO := [⟨.v 6, .mv, [.con (.bool true)], none⟩]
noncomputable abbrev r56_17 : List RO := [Ya 36 8, Yv 37 .add 36 1, Yb 8 37]
noncomputable abbrev r56_18 : List RO := [Yf 87 2 5, Yj 2 4 87]
theorem P56 : C56.M = M := rfl
theorem i56 {a0 a1 : D} : St.init C56 [a0, a1] ⟨[], []⟩ = ⟨[a0, a1, .u0, .u0, .u0, .u0, .u0, .u0, .u0, .u0, .u0, .u0, .u0, .u0, .u0], [], ⟨[], []⟩⟩ := rfl
noncomputable def c56 : RC := (.seq (.reg r56_0) (.seq (.reg r56_1) (.seq (.reg r56_2) (.seq (.reg r56_3) (.seq (.seq (.reg r56_4) (.block 0 (.loop (.seq (.seq (.reg r56_5) (.cond (.v 12) .skip (.exit 0))) (.seq (.block 1 (.seq (.seq (.regD r56_6 r56_7) (.cond (.v 13) (.exit 1) .skip)) (.seq (.regD r56_8 r56_9) (.seq (.regD r56_10 r56_11) (.seq (.reg r56_12) (.seq (.seq (.reg r56_13) (.cond (.v 14) (.reg r56_14) .skip)) (.seq (.reg r56_15) (.reg r56_16)))))))) (.reg r56_17)))))) (.seq (.reg r56_18) .ret))))))
noncomputable def q56 : List RR := [(.cell (.v 4) true 2)]
theorem k56 : FnOk M 56 2 Tryz.f56 E56 c56 q56 := fnOk Tryz.func56
noncomputable def E57 (n m : Nat) : Cfg := ⟨M, [0, 1, 2, 4, 13, 17], 18, n, m, []⟩
noncomputable def C57 : Cfg := E57 0 0
noncomputable abbrev r57_0 : List RO := [Yl 2 0, Ys 3 0]
noncomputable abbrev r57_1 : List RO := [Yf 5 2 2, Yt 6 73 5, ⟨.l 7, .un .not, [.l 6], none⟩, Yc 8 7, Zh 9 1 2 8 false, Zd 10 9 8 false, Za 11 1 8 false, ⟨.l 12, .bin .leq, [.l 10, .l 11], (some (.l 8, false))⟩, Yr 4 8 12]
noncomputable abbrev r57_2 : List RO := [Ys 3 0]
noncomputable abbrev r57_3 : List RO := [Yh 14 0 2, Yd 15 14, Ya 16 1, Yy 5 .gtr 15 16]
noncomputable abbrev r57_4 : List RO := [Ys 3 2]
noncomputable abbrev r57_5 : List RO := [Ys 3 1]
theorem P57 : C57.M = M := rfl
theorem i57 {a0 a1 : D} : St.init C57 [a0, a1] ⟨[], []⟩ = ⟨[a0, a1, .u0, .u0, .u0, .u0], [], ⟨[], []⟩⟩ := rfl
noncomputable def c57 : RC := (.seq (.reg r57_0) (.seq (.seq (.reg r57_1) (.cond (.v 4) (.seq (.reg r57_2) .ret) .skip)) (.seq (.seq (.reg r57_3) (.cond (.v 5) (.seq (.reg r57_4) .ret) .skip)) (.seq (.reg r57_5) .ret))))
noncomputable def q57 : List RR := [(.slot (.v 3))]
theorem k57 : FnOk M 57 2 Tryz.f57 E57 c57 q57 := fnOk Tryz.func57
noncomputable def E58 (n m : Nat) : Cfg := ⟨M, [0, 1, 2, 3, 4, 12], 25, n, m, []⟩
noncomputable def C58 : Cfg := E58 0 0
noncomputable abbrev r58_0 : List RO := [Yl 2 0, Yl 3 1, ⟨.v 4, (.newb [(.int .i64 0), (.int .i64 0)]), [], none⟩]
noncomputable abbrev r58_1 : List RO := [Yf 5 2 2, Yt 6 73 5, ⟨.l 7, .un .not, [.l 6], none⟩, Yc 8 7, Zf 9 2 3 8 false, ⟨.l 10, .calls .fn, [(.con (.fn (.func 73) [] [])), .l 9], (some (.l 8, false))⟩, ⟨.l 11, .un .not, [.l 10], (some (.l 8, false))⟩, Yr 5 8 11]
noncomputable abbrev r58_2 : List RO := [⟨.l 13, (.bld [(.int .i64 0), (.int .i64 0)] []), [], none⟩, Yj 2 4 13]
noncomputable abbrev r58_3 : List RO := [Yh 14 0 2, Yd 15 14, Yh 16 0 3, Yd 17 16, ⟨.l 18, .minI, [.l 15, .l 17], none⟩, Yh 19 1 2, Yd 20 19, Yh 21 1 3, Yd 22 21, ⟨.l 23, .maxI, [.l 20, .l 22], none⟩, ⟨.l 24, (.bld [(.int .i64 0), (.int .i64 0)] [(0, 1), (1, 1)]), [.l 18, .l 23], none⟩, Yj 2 4 24]
theorem P58 : C58.M = M := rfl
theorem i58 {a0 a1 : D} : St.init C58 [a0, a1] ⟨[], []⟩ = ⟨[a0, a1, .u0, .u0, .u0, .u0], [], ⟨[], []⟩⟩ := rfl
noncomputable def c58 : RC := (.seq (.reg r58_0) (.seq (.seq (.reg r58_1) (.cond (.v 5) (.seq (.reg r58_2) .ret) .skip)) (.seq (.reg r58_3) .ret)))
noncomputable def q58 : List RR := [(.cell (.v 4) true 2)]
theorem k58 : FnOk M 58 2 Tryz.f58 E58 c58 q58 := fnOk Tryz.func58
noncomputable def E60 (n m : Nat) : Cfg := ⟨M, [0, 2, 3, 13], 25, n, m, []⟩
noncomputable def C60 : Cfg := E60 0 0
noncomputable abbrev r60_0 : List RO := [⟨.v 1, .mv, [(.con (.str []))], none⟩]
noncomputable abbrev r60_1 : List RO := [Ya 4 0, ⟨.l 5, .bin .rem, [.l 4, (.con (.int .u64 10))], none⟩, Ya 6 0, ⟨.l 7, .bin .rem, [.l 6, (.con (.int .u64 10))], none⟩, ⟨.l 8, .bin .add, [.l 7, (.con (.int .u64 1))], none⟩, ⟨.l 9, .slcS true true, [(.con (.str [48, 49, 50, 51, 52, 53, 54, 55, 56, 57])), .l 5, .l 8], none⟩, Yb 2 9]
noncomputable abbrev r60_2 : List RO := [Ya 10 0, ⟨.l 11, .bin .quo, [.l 10, (.con (.int .u64 10))], none⟩, Yb 0 11]
noncomputable abbrev r60_3 : List RO := [Ya 12 0, ⟨.v 3, .bin .gtr, [.l 12, (.con (.int .u64 0))], none⟩]
noncomputable abbrev r60_4 : List RO := [Ya 16 0, ⟨.l 17, .bin .rem, [.l 16, (.con (.int .u64 10))], none⟩, Ya 18 0, ⟨.l 19, .bin .rem, [.l 18, (.con (.int .u64 10))], none⟩, ⟨.l 20, .bin .add, [.l 19, (.con (.int .u64 1))], none⟩, ⟨.l 21, .slcS true true, [(.con (.str [48, 49, 50, 51, 52, 53, 54, 55, 56, 57])), .l 17, .l 20], none⟩, Ya 22 2, Yx 23 .add 21 22, Yb 2 23]
noncomputable abbrev r60_5 : List RO := [Ya 14 0, ⟨.l 15, .bin .quo, [.l 14, (.con (.int .u64 10))], none⟩, Yb 0 15]
noncomputable abbrev r60_6 : List RO := [Ya 24 2, Yb 1 24]
theorem P60 : C60.M = M := rfl
theorem i60 {a0 : D} : St.init C60 [a0] ⟨[], []⟩ = ⟨[a0, .u0, .u0, .u0], [], ⟨[], []⟩⟩ := rfl
noncomputable def c60 : RC := (.seq (.reg r60_0) (.seq (.reg r60_1) (.seq (.seq (.reg r60_2) (.block 0 (.loop (.seq (.seq (.reg r60_3) (.cond (.v 3) .skip (.exit 0))) (.seq (.block 1 (.reg r60_4)) (.reg r60_5)))))) (.seq (.reg r60_6) .ret))))
noncomputable def q60 : List RR := [(.slot (.v 1))]
theorem k60 : FnOk M 60 1 Tryz.f60 E60 c60 q60 := fnOk Tryz.func60
noncomputable def E67 (n m : Nat) : Cfg := ⟨M, [0, 1, 4, 5, 9, 16], 17, n, m, []⟩
noncomputable def C67 : Cfg := E67 0 0
noncomputable abbrev r67_0 : List RO := [⟨.v 2, .mv, [.con (.bool false)], none⟩]
noncomputable abbrev r67_1 : List RO := [Ys 3 0]
noncomputable abbrev r67_2 : List RO := [Ya 6 3, Ya 7 0, ⟨.l 8, .lenS, [.l 7], none⟩, Yy 4 .lss 6 8]
noncomputable abbrev r67_3 : List RO := [Ya 12 0, Ya 13 3, ⟨.l 14, .ixvS, [.l 12, .l 13], none⟩, Ya 15 1, Yy 5 .eql 14 15]
noncomputable abbrev r67_4 : List RO := [⟨.v 2, .mv, [.con (.bool true)], none⟩]
noncomputable abbrev r67_5 : List RO := [Ya 10 3, Yv 11 .add 10 1, Yb 3 11]
noncomputable abbrev r67_6 : List RO := [⟨.v 2, .mv, [.con (.bool false)], none⟩]
theorem P67 : C67.M = M := rfl
theorem i67 {a0 a1 : D} : St.init C67 [a0, a1] ⟨[], []⟩ = ⟨[a0, a1, .u0, .u0, .u0, .u0], [], ⟨[], []⟩⟩ := rfl
noncomputable def c67 : RC := (.seq (.reg r67_0) (.seq (.seq (.reg r67_1) (.block 0 (.loop (.seq (.seq (.reg r67_2) (.cond (.v 4) .skip (.exit 0))) (.seq (.block 1 (.seq (.reg r67_3) (.cond (.v 5) (.seq (.reg r67_4) .ret) .skip))) (.reg r67_5)))))) (.seq (.reg r67_6) .ret)))
noncomputable def q67 : List RR := [(.slot (.v 2))]
theorem k67 : FnOk M 67 2 Tryz.f67 E67 c67 q67 := fnOk Tryz.func67
noncomputable def E68 (n m : Nat) : Cfg := ⟨M, [0, 2], 17, n, m, []⟩
noncomputable def C68 : Cfg := E68 0 0
noncomputable abbrev r68_0 : List RO := [⟨.v 1, .mv, [.con (.bool false)], none⟩]
noncomputable abbrev r68_1 : List RO := [Ya 3 0, ⟨.l 4, .bin .geq, [.l 3, (.con (.int .u8 97))], none⟩, Yc 5 4, Za 6 0 5 true, ⟨.l 7, .bin .leq, [.l 6, (.con (.int .u8 122))], (some (.l 5, true))⟩, Yo 8 5 7, Yc 9 8, Za 10 0 9 false, ⟨.l 11, .bin .geq, [.l 10, (.con (.int .u8 65))], (some (.l 9, false))⟩, Zc 12 11 9 false, Za 13 0 12 true, ⟨.l 14, .bin .leq, [.l 13, (.con (.int .u8 90))], (some (.l 12, true))⟩, ⟨.l 15, .pick, [.l 12, .l 14, .con (.bool false)], (some (.l 9, false))⟩, Yq 16 9 15, Yb 1 16]
theorem P68 : C68.M = M := rfl
theorem i68 {a0 : D} : St.init C68 [a0] ⟨[], []⟩ = ⟨[a0, .u0], [], ⟨[], []⟩⟩ := rfl
noncomputable def c68 : RC := (.seq (.reg r68_0) (.seq (.reg r68_1) .ret))
noncomputable def q68 : List RR := [(.slot (.v 1))]
theorem k68 : FnOk M 68 1 Tryz.f68 E68 c68 q68 := fnOk Tryz.func68
noncomputable def E69 (n m : Nat) : Cfg := ⟨M, [0, 2], 13, n, m, []⟩
noncomputable def C69 : Cfg := E69 0 0
noncomputable abbrev r69_0 : List RO := [⟨.v 1, .mv, [.con (.bool false)], none⟩]
noncomputable abbrev r69_1 : List RO := [Ya 3 0, Yt 4 68 3, Yc 5 4, Za 6 0 5 false, ⟨.l 7, .calls .fn, [(.con (.fn (.func 70) [] [])), .l 6], (some (.l 5, false))⟩, Yq 8 5 7, Yc 9 8, Za 10 0 9 false, ⟨.l 11, .bin .eql, [.l 10, (.con (.int .u8 95))], (some (.l 9, false))⟩, Yq 12 9 11, Yb 1 12]
theorem P69 : C69.M = M := rfl
theorem i69 {a0 : D} : St.init C69 [a0] ⟨[], []⟩ = ⟨[a0, .u0], [], ⟨[], []⟩⟩ := rfl
noncomputable def c69 : RC := (.seq (.reg r69_0) (.seq (.reg r69_1) .ret))
noncomputable def q69 : List RR := [(.slot (.v 1))]
theorem k69 : FnOk M 69 1 Tryz.f69 E69 c69 q69 := fnOk Tryz.func69
noncomputable def E70 (n m : Nat) : Cfg := ⟨M, [0, 2], 9, n, m, []⟩
noncomputable def C70 : Cfg := E70 0 0
noncomputable abbrev r70_0 : List RO := [⟨.v 1, .mv, [.con (.bool false)], none⟩]
noncomputable abbrev r70_1 : List RO := [Ya 3 0, ⟨.l 4, .bin .geq, [.l 3, (.con (.int .u8 48))], none⟩, Yc 5 4, Za 6 0 5 true, ⟨.l 7, .bin .leq, [.l 6, (.con (.int .u8 57))], (some (.l 5, true))⟩, Yo 8 5 7, Yb 1 8]
theorem P70 : C70.M = M := rfl
theorem i70 {a0 : D} : St.init C70 [a0] ⟨[], []⟩ = ⟨[a0, .u0], [], ⟨[], []⟩⟩ := rfl
noncomputable def c70 : RC := (.seq (.reg r70_0) (.seq (.reg r70_1) .ret))
noncomputable def q70 : List RR := [(.slot (.v 1))]
theorem z70 {n m : Nat} : zAe (E70 n m) (Tryz.f70.body.getD .skip) = some c70 := by kernel_rfl
theorem k70 : FnOk M 70 1 Tryz.f70 E70 c70 q70 := fnOk Tryz.func70
noncomputable def E71 (n m : Nat) : Cfg := ⟨M, [0, 1, 4, 5, 6, 7, 8, 9, 15, 22, 27, 29, 49, 53], 63, n, m, []⟩
noncomputable def C71 : Cfg := E71 0 0
noncomputable abbrev r71_0 : List RO := [⟨.v 2, .mv, [(.con (.str []))], none⟩, Ys 3 0, ⟨.v 4, .mv, [.con (.bool false)], none⟩]
noncomputable abbrev r71_1 : List RO := [⟨.v 5, .mv, [(.con (.str []))], none⟩]
noncomputable abbrev r71_2 : List RO := [Ya 10 1, Yv 11 .add 10 1, Yb 6 11]
noncomputable abbrev r71_3 : List RO := [Ya 12 6, Ya 13 0, ⟨.l 14, .lenS, [.l 13], none⟩, Yy 8 .lss 12 14]
noncomputable abbrev r71_4 : List RO := [Ya 18 0, Ya 19 6, ⟨.l 20, .ixvS, [.l 18, .l 19], none⟩, Yb 7 20]
noncomputable abbrev r71_5 : List RO := [Ya 21 7, ⟨.v 9, .bin .eql, [.l 21, (.con (.int .u8 34))], none⟩]
noncomputable abbrev r71_6 : List RO := [Ya 23 5, Ya 24 6, Yv 25 .add 24 1, Yb 2 23, Yb 3 25, ⟨.v 4, .mv, [.con (.bool true)], none⟩]
noncomputable abbrev r71_7 : List RO := [Ya 26 7, ⟨.v 10, .bin .eql, [.l 26, (.con (.int .u8 10))], none⟩]
noncomputable abbrev r71_8 : List RO := [⟨.v 2, .mv, [(.con (.str []))], none⟩, Ys 3 0, ⟨.v 4, .mv, [.con (.bool false)], none⟩]
noncomputable abbrev r71_9 : List RO := [Ya 28 7, ⟨.v 11, .bin .neq, [.l 28, (.con (.int .u8 92))], none⟩]
noncomputable abbrev r71_10 : List RO := [Ya 30 5, Ya 31 0, Ya 32 6, Ya 33 6, Yv 34 .add 33 1, ⟨.l 35, .slcS true true, [.l 31, .l 32, .l 34], none⟩, Yx 36 .add 30 35, Yb 5 36]
noncomputable abbrev r71_11 : List RO := [Ya 37 6, Yv 38 .add 37 1, Yb 6 38]
noncomputable abbrev r71_12 : List RO := [Ya 39 6, Ya 40 0, ⟨.l 41, .lenS, [.l 40], none⟩, Yx 42 .geq 39 41, Yc 43 42, Za 44 0 43 false, Za 45 6 43 false, ⟨.l 46, .ixvS, [.l 44, .l 45], (some (.l 43, false))⟩, ⟨.l 47, .calls .fn, [(.con (.fn (.func 67) [] [])), (.con (.str [92, 34, 110])), .l 46], (some (.l 43, false))⟩, ⟨.l 48, .un .not, [.l 47], (some (.l 43, false))⟩, Yr 12 43 48]
noncomputable abbrev r71_13 : List RO := [⟨.v 2, .mv, [(.con (.str []))], none⟩, Ys 3 0, ⟨.v 4, .mv, [.con (.bool false)], none⟩]
noncomputable abbrev r71_14 : List RO := [Ya 50 0, Ya 51 6, ⟨.l 52, .ixvS, [.l 50, .l 51], none⟩, ⟨.v 13, .bin .eql, [.l 52, (.con (.int .u8 110))], none⟩]
noncomputable abbrev r71_15 : List RO := [Ya 54 5, ⟨.l 55, .bin .add, [.l 54, (.con (.str [10]))], none⟩, Yb 5 55]
noncomputable abbrev r71_16 : List RO := [Ya 56 5, Ya 57 0, Ya 58 6, Ya 59 6, Yv 60 .add 59 1, ⟨.l 61, .slcS true true, [.l 57, .l 58, .l 60], none⟩, Yx 62 .add 56 61, Yb 5 62]
noncomputable abbrev r71_17 : List RO := [Ya 16 6, Yv 17 .add 16 1, Yb 6 17]
noncomputable abbrev r71_18 : List RO := [⟨.v 2, .mv, [(.con (.str []))], none⟩, Ys 3 0, ⟨.v 4, .mv, [.con (.bool false)], none⟩]
theorem P71 : C71.M = M := rfl
theorem i71 {a0 a1 : D} : St.init C71 [a0, a1] ⟨[], []⟩ = ⟨[a0, a1, .u0, .u0, .u0, .u0, .u0, .u0, .u0, .u0, .u0, .u0, .u0, .u0], [], ⟨[], []⟩⟩ := rfl
noncomputable def c71 : RC := (.seq (.reg r71_0) (.seq (.reg r71_1) (.seq (.seq (.reg r71_2) (.block 0 (.loop (.seq (.seq (.reg r71_3) (.cond (.v 8) .skip (.exit 0))) (.seq (.block 1 (.seq (.reg r71_4) (.seq (.seq (.reg r71_5) (.cond (.v 9) (.seq (.reg r71_6) .ret) .skip)) (.seq (.seq (.reg r71_7) (.cond (.v 10) (.seq (.reg r71_8) .ret) .skip)) (.seq (.seq (.reg r71_9) (.cond (.v 11) (.seq (.reg r71_10) (.exit 1)) .skip)) (.seq (.reg r71_11) (.seq (.seq (.reg r71_12) (.cond (.v 12) (.seq (.reg r71_13) .ret) .skip)) (.seq (.reg r71_14) (.cond (.v 13) (.reg r71_15) (.reg r71_16)))))))))) (.reg r71_17)))))) (.seq (.reg r71_18) .ret))))
noncomputable def q71 : List RR := [(.slot (.v 2)), (.slot (.v 3)), (.slot (.v 4))]
theorem k71 : FnOk M 71 2 Tryz.f71 E71 c71 q71 := fnOk Tryz.func71
noncomputable def E72 (n m : Nat) : Cfg := ⟨M, [0, 2, 3, 4, 5, 6, 37, 64, 72, 74, 100], 116, n, m, []⟩
noncomputable abbrev r72_0 : List RO := [⟨.v 1, (.newb [(.int .i64 0), (.int .i64 0), (.lit (.slice none 0 0))]), [], none⟩]
noncomputable abbrev r72_1 : List (RO × Bool) := [(Ya 7 0, true), (Yn 8 7, true), (Yi 9 2 8, true), (Yd 10 9, true), (Yv 11 .eql 10 0, true), (Yc 12 11, true), (Za 13 0 12 true, true), (Zn 14 13 12 true, true), (Zi 15 1 14 12 true, true), (Zd 16 15 12 true, true), (Za 17 0 12 true, true), (Zn 18 17 12 true, true), (Zi 19 0 18 12 true, true), (Zd 20 19 12 true, true), (⟨.l 21, .lenL, [.l 20], (some (.l 12, true))⟩, true), (⟨.l 22, .bin .lss, [.l 16, .l 21], (some (.l 12, true))⟩, true), (Yo 23 12 22, true), (Yc 24 23, true), (Za 25 0 24 true, true), (Zn 26 25 24 true, true), (Zi 27 0 26 24 true, true), (Zd 28 27 24 true, true), (Za 29 0 24 true, true), (Zn 30 29 24 true, true), (Zi 31 1 30 24 true, true), (Zd 32 31 24 true, true)]
noncomputable abbrev r72_2 : List RO := [⟨.l 33, .ixaS 3, [.l 28, .l 32], (some (.l 24, true))⟩, Zi 34 0 33 24 true, Zd 35 34 24 true, ⟨.l 36, .bin .eql, [.l 35, .con (.int .i64 2)], (some (.l 24, true))⟩, Yp 6 24 36]
noncomputable abbrev r72_3 : List RO := [Ya 38 0, Yn 39 38, Yi 40 1 39, Yd 41 40, Yv 42 .add 41 1, Yn 43 38, Yi 44 1 43, Yk 1 44 42]
noncomputable abbrev r72_4 : List (RO × Bool) := [(Ya 45 0, true), (Yn 46 45, true), (Yi 47 0 46, true), (Yd 48 47, true), (Ya 49 0, true), (Yn 50 49, true), (Yi 51 1 50, true), (Yd 52 51, true), (Yv 53 .sub 52 1, true)]
noncomputable abbrev r72_5 : List RO := [⟨.l 54, .ixaS 3, [.l 48, .l 53], none⟩, Yi 55 1 54, Yd 56 55, Yt 57 80 56, ⟨.l 58, (.bld [(.int .i64 0), (.int .i64 0), (.lit (.slice none 0 0))] [(0, 1), (1, 1)]), [.con (.int .i64 1), .l 57], none⟩, Yj 3 1 58]
noncomputable abbrev r72_6 : List RO := [⟨.l 59, .bsl 1, [(.con (.str [107, 109])), (.con (.str [99, 121, 99, 108, 101, 115])), (.con (.str [108, 111, 97, 100])), (.con (.str [109, 105, 110])), (.con (.str [109, 97, 120])), (.con (.str [105, 102]))], none⟩, Yb 2 59]
noncomputable abbrev r72_7 : List RO := [⟨.l 60, .bsl 1, [.con (.int .i64 2), .con (.int .i64 3), .con (.int .i64 4), .con (.int .i64 9), .con (.int .i64 10), .con (.int .i64 11)], none⟩, Yb 3 60]
noncomputable abbrev r72_8 : List RO := [Ys 4 0]
noncomputable abbrev r72_9 : List RO := [Ya 61 4, Ya 62 2, ⟨.l 63, .lenL, [.l 62], none⟩, Yy 7 .lss 61 63]
noncomputable abbrev r72_10 : List RO := [Ya 67 0, Ya 68 2, Ya 69 4, ⟨.l 70, .ixaS 1, [.l 68, .l 69], none⟩, Yd 71 70, ⟨.v 8, .calls .fn, [(.con (.fn (.func 48) [] [])), .l 67, .con (.int .i64 1), .l 71], none⟩]
noncomputable abbrev r72_11 : List RO := [Ya 73 4, Yz 9 .lss 73 3]
noncomputable abbrev r72_12 : List RO := [Ya 75 0, Yn 76 75, Yi 77 1 76, Yd 78 77, Yv 79 .add 78 1, Yn 80 75, Yi 81 1 80, Yk 1 81 79]
noncomputable abbrev r72_13 : List RO := [Ya 82 3, Ya 83 4, ⟨.l 84, .ixaS 1, [.l 82, .l 83], none⟩, Yd 85 84, ⟨.l 86, (.bld [(.int .i64 0), (.int .i64 0), (.lit (.slice none 0 0))] [(0, 1)]), [.l 85], none⟩, Yj 3 1 86]
noncomputable abbrev r72_14 : List (RO × Bool) := [(Ya 87 0, true), (Ya 88 3, true), (Ya 89 4, true), (⟨.l 90, .ixaS 1, [.l 88, .l 89], none⟩, true), (Yd 91 90, true), (Ya 92 3, true), (Ya 93 4, true), (⟨.l 94, .ixaS 1, [.l 92, .l 93], none⟩, true), (Yd 95 94, true), (Yt 96 49 95, true)]
noncomputable abbrev r72_15 : List RO := [⟨.l 97, .calls .fn, [(.con (.fn (.func 81) [] [])), .l 87, .l 91, .l 96], none⟩, Yj 3 1 97]
noncomputable abbrev r72_16 : List RO := [Ya 65 4, Yv 66 .add 65 1, Yb 4 66]
noncomputable abbrev r72_17 : List RO := [Ya 98 0, ⟨.l 99, .calls .fn, [(.con (.fn (.func 48) [] [])), .l 98, .con (.int .i64 4), (.con (.str [40]))], none⟩, ⟨.v 10, .un .not, [.l 99], none⟩]
noncomputable abbrev r72_18 : List RO := [Ya 101 0, Yt 102 28 101]
noncomputable abbrev r72_19 : List RO := [⟨.l 103, (.bld [(.int .i64 0), (.int .i64 0), (.lit (.slice none 0 0))] []), [], none⟩, Yj 3 1 103]
noncomputable abbrev r72_20 : List RO := [Ya 104 0, Yn 105 104, Yi 106 1 105, Yd 107 106, Yv 108 .add 107 1, Yn 109 104, Yi 110 1 109, Yk 1 110 108]
noncomputable abbrev r72_21 : List RO := [Ya 111 0, Yt 112 27 111, ⟨.v 5, (.newb [(.int .i64 0), (.int .i64 0), (.lit (.slice none 0 0))]), [], none⟩, Yj 3 5 112]
noncomputable abbrev r72_22 : List RO := [Ya 113 0, ⟨.l 114, .calls .fn, [(.con (.fn (.func 82) [] [])), .l 113, (.con (.str [41]))], none⟩]
noncomputable abbrev r72_23 : List RO := [Yf 115 3 5, Yj 3 1 115]
theorem pe72 {n m : Nat} : (E72 n m).M = M := rfl
theorem ie72 {n m : Nat} {hp : Hp} {a0 : D} : St.init (E72 n m) [a0] hp = ⟨[a0, .u0, .u0, .u0, .u0, .u0, .u0, .u0, .u0, .u0, .u0], [], hp⟩ := rfl
noncomputable def c72 : RC := (.seq (.reg r72_0) (.seq (.seq (.regD r72_1 r72_2) (.cond (.v 6) (.seq (.reg r72_3) (.seq (.regD r72_4 r72_5) .ret)) .skip)) (.seq (.reg r72_6) (.seq (.reg r72_7) (.seq (.seq (.reg r72_8) (.block 0 (.loop (.seq (.seq (.reg r72_9) (.cond (.v 7) .skip (.exit 0))) (.seq (.block 1 (.seq (.reg r72_10) (.cond (.v 8) (.seq (.seq (.reg r72_11) (.cond (.v 9) (.seq (.reg r72_12) (.seq (.reg r72_13) .ret)) .skip)) (.seq (.regD r72_14 r72_15) .ret)) .skip))) (.reg r72_16)))))) (.seq (.seq (.reg r72_17) (.cond (.v 10) (.seq (.reg r72_18) (.seq (.reg r72_19) .ret)) .skip)) (.seq (.reg r72_20) (.seq (.reg r72_21) (.seq (.reg r72_22) (.seq (.reg r72_23) .ret))))))))))
noncomputable def q72 : List RR := [(.cell (.v 1) true 3)]
theorem z72 {n m : Nat} : zAe (E72 n m) (Tryz.f72.body.getD .skip) = some c72 := by kernel_rfl
theorem k72 : FnOk M 72 1 Tryz.f72 E72 c72 q72 := fnOk Tryz.func72
noncomputable def E73 (n m : Nat) : Cfg := ⟨M, [0, 1, 2], 18, n, m, []⟩
noncomputable def C73 : Cfg := E73 0 0
noncomputable abbrev r73_0 : List RO := [Yl 1 0, ⟨.v 2, .mv, [.con (.bool false)], none⟩]
noncomputable abbrev r73_1 : List RO := [Yh 3 0 1, Yd 4 3, Yh 5 1 1, Yd 6 5, Yx 7 .leq 4 6, Yc 8 7, Zh 9 0 1 8 true, Zd 10 9 8 true, ⟨.l 11, .bin .geq, [.l 10, (.con (.int .i64 (-1000000000000)))], (some (.l 8, true))⟩, Yo 12 8 11, Yc 13 12, Zh 14 1 1 13 true, Zd 15 14 13 true, ⟨.l 16, .bin .leq, [.l 15, .con (.int .i64 1000000000000)], (some (.l 13, true))⟩, Yo 17 13 16, Yb 2 17]
theorem P73 : C73.M = M := rfl
theorem i73 {a0 : D} : St.init C73 [a0] ⟨[], []⟩ = ⟨[a0, .u0, .u0], [], ⟨[], []⟩⟩ := rfl
noncomputable def c73 : RC := (.seq (.reg r73_0) (.seq (.reg r73_1) .ret))
noncomputable def q73 : List RR := [(.slot (.v 2))]
theorem k73 : FnOk M 73 1 Tryz.f73 E73 c73 q73 := fnOk Tryz.func73
noncomputable def E80 (n m : Nat) : Cfg := ⟨M, [0, 2, 3, 4, 8], 20, n, m, []⟩
noncomputable def C80 : Cfg := E80 0 0
noncomputable abbrev r80_0 : List RO := [Ys 1 0]
noncomputable abbrev r80_1 : List RO := [Ys 2 0]
noncomputable abbrev r80_2 : List RO := [Ys 3 0]
noncomputable abbrev r80_3 : List RO := [Ya 5 3, Ya 6 0, ⟨.l 7, .lenS, [.l 6], none⟩, Yy 4 .lss 5 7]
noncomputable abbrev r80_4 : List RO := [Ya 11 2, ⟨.l 12, .bin .mul, [.con (.int .i64 10), .l 11], none⟩, Ya 13 0, Ya 14 3, ⟨.l 15, .ixvS, [.l 13, .l 14], none⟩, ⟨.l 16, .bin .sub, [.l 15, (.con (.int .u8 48))], none⟩, ⟨.l 17, .cvI .i64, [.l 16], none⟩, Yx 18 .add 12 17, Yb 2 18]
noncomputable abbrev r80_5 : List RO := [Ya 9 3, Yv 10 .add 9 1, Yb 3 10]
noncomputable abbrev r80_6 : List RO := [Ya 19 2, Yb 1 19]
theorem P80 : C80.M = M := rfl
theorem i80 {a0 : D} : St.init C80 [a0] ⟨[], []⟩ = ⟨[a0, .u0, .u0, .u0, .u0], [], ⟨[], []⟩⟩ := rfl
noncomputable def c80 : RC := (.seq (.reg r80_0) (.seq (.reg r80_1) (.seq (.seq (.reg r80_2) (.block 0 (.loop (.seq (.seq (.reg r80_3) (.cond (.v 4) .skip (.exit 0))) (.seq (.block 1 (.reg r80_4)) (.reg r80_5)))))) (.seq (.reg r80_6) .ret))))
noncomputable def q80 : List RR := [(.slot (.v 1))]
theorem k80 : FnOk M 80 1 Tryz.f80 E80 c80 q80 := fnOk Tryz.func80
noncomputable def E81 (n m : Nat) : Cfg := ⟨M, [0, 1, 2, 6, 7, 8, 29, 33], 46, n, m, []⟩
noncomputable abbrev r81_0 : List RO := [⟨.v 3, (.newb [(.int .i64 0), (.int .i64 0), (.lit (.slice none 0 0))]), [], none⟩]
noncomputable abbrev r81_1 : List RO := [Ya 9 1, ⟨.l 10, (.bld [(.int .i64 0), (.int .i64 0), (.lit (.slice none 0 0))] [(0, 1)]), [.l 9], none⟩, ⟨.v 4, (.newb [(.int .i64 0), (.int .i64 0), (.lit (.slice none 0 0))]), [], none⟩, Yj 3 4 10]
noncomputable abbrev r81_2 : List RO := [Ya 11 0, Yn 12 11, Yi 13 1 12, Yd 14 13, Yv 15 .add 14 1, Yn 16 11, Yi 17 1 16, Yk 1 17 15]
noncomputable abbrev r81_3 : List RO := [Ya 18 0, ⟨.l 19, .calls .fn, [(.con (.fn (.func 82) [] [])), .l 18, (.con (.str [40]))], none⟩]
noncomputable abbrev r81_4 : List RO := [Ys 5 0]
noncomputable abbrev r81_5 : List RO := [Ya 20 5, Ya 21 2, Yx 22 .lss 20 21, Yc 23 22, Za 24 0 23 true, Zn 25 24 23 true, Zi 26 2 25 23 true, Zd 27 26 23 true, ⟨.l 28, .bin .eql, [.l 27, .con (.int .i64 0)], (some (.l 23, true))⟩, Yp 6 23 28]
noncomputable abbrev r81_6 : List RO := [Ya 32 5, Yz 7 .gtr 32 0]
noncomputable abbrev r81_7 : List RO := [Ya 34 0, ⟨.l 35, .calls .fn, [(.con (.fn (.func 82) [] [])), .l 34, (.con (.str [44]))], none⟩]
noncomputable abbrev r81_8 : List (RO × Bool) := [(Yh 36 2 4, true), (Yd 37 36, true), (Ya 38 0, true), (Yt 39 27 38, true), (⟨.l 40, .bsl 3, [.l 39], none⟩, true)]
noncomputable abbrev r81_9 : List RO := [⟨.l 41, .app 3 40 24, [.l 37, .l 40], none⟩, Yh 42 2 4, Yk 1 42 41]
noncomputable abbrev r81_10 : List RO := [Ya 30 5, Yv 31 .add 30 1, Yb 5 31]
noncomputable abbrev r81_11 : List RO := [Ya 43 0, ⟨.l 44, .calls .fn, [(.con (.fn (.func 82) [] [])), .l 43, (.con (.str [41]))], none⟩]
noncomputable abbrev r81_12 : List RO := [Yf 45 3 4, Yj 3 3 45]
theorem pe81 {n m : Nat} : (E81 n m).M = M := rfl
theorem ie81 {n m : Nat} {hp : Hp} {a0 a1 a2 : D} : St.init (E81 n m) [a0, a1, a2] hp = ⟨[a0, a1, a2, .u0, .u0, .u0, .u0, .u0], [], hp⟩ := rfl
noncomputable def c81 : RC := (.seq (.reg r81_0) (.seq (.reg r81_1) (.seq (.reg r81_2) (.seq (.reg r81_3) (.seq (.seq (.reg r81_4) (.block 0 (.loop (.seq (.seq (.reg r81_5) (.cond (.v 6) .skip (.exit 0))) (.seq (.block 1 (.seq (.seq (.reg r81_6) (.cond (.v 7) (.reg r81_7) .skip)) (.regD r81_8 r81_9))) (.reg r81_10)))))) (.seq (.reg r81_11) (.seq (.reg r81_12) .ret)))))))
noncomputable def q81 : List RR := [(.cell (.v 3) true 3)]
theorem k81 : FnOk M 81 3 Tryz.f81 E81 c81 q81 := fnOk Tryz.func81
noncomputable def E82 (n m : Nat) : Cfg := ⟨M, [0, 1, 7], 17, n, m, []⟩
noncomputable abbrev r82_0 : List RO := [Ya 4 0, Ya 5 1, ⟨.l 6, .calls .fn, [(.con (.fn (.func 48) [] [])), .l 4, .con (.int .i64 4), .l 5], none⟩, ⟨.v 2, .un .not, [.l 6], none⟩]
noncomputable abbrev r82_1 : List RO := [Ya 8 0, Yt 9 28 8]
noncomputable abbrev r82_2 : List RO := [Ya 10 0, Yn 11 10, Yi 12 1 11, Yd 13 12, Yv 14 .add 13 1, Yn 15 10, Yi 16 1 15, Yk 1 16 14]
theorem pe82 {n m : Nat} : (E82 n m).M = M := rfl
theorem ie82 {n m : Nat} {hp : Hp} {a0 a1 : D} : St.init (E82 n m) [a0, a1] hp = ⟨[a0, a1, .u0], [], hp⟩ := rfl
noncomputable def c82 : RC := (.seq (.seq (.reg r82_0) (.cond (.v 2) (.seq (.reg r82_1) .ret) .skip)) (.reg r82_2))
noncomputable def q82 : List RR := []
theorem k82 : FnOk M 82 2 Tryz.f82 E82 c82 q82 := fnOk Tryz.func82
noncomputable def E3 (n m : Nat) : Cfg := ⟨M, [0, 1, 2, 3, 4, 5, 6, 11, 12, 13, 14, 15, 16, 17, 18, 19, 20, 21, 22, 23, 24, 33], 113, n, m, []⟩
noncomputable def C3 : Cfg := E3 0 0
noncomputable abbrev r3_0 : List RO := [Yl 6 0, Yl 7 5, ⟨.v 8, .mv, [.con (.bool false)], none⟩]
noncomputable abbrev r3_1 : List RO := [⟨.l 25, .calls .fn, [(.con (.fn (.func 4) [] []))], none⟩, Yb 9 25]
noncomputable abbrev r3_2 : List RO := [Yf 26 3 6, Yt 27 5 26, ⟨.l 28, .un .not, [.l 27], none⟩, Yc 29 28, Za 30 1 29 false, ⟨.l 31, .lenS, [.l 30], (some (.l 29, false))⟩, ⟨.l 32, .bin .gtr, [.l 31, .con (.int .i64 3000)], (some (.l 29, false))⟩, Yr 21 29 32]
noncomputable abbrev r3_3 : List RO := [Ya 34 9, Yb 8 34]
noncomputable abbrev r3_4 : List RO := [Yf 36 3 6, Yt 37 6 36, Yc 35 37, Ym 38 0 35, Ym 39 1 35, Yb 10 38, Yb 11 39]
noncomputable abbrev r3_5 : List RO := [Yf 41 3 6, Yt 42 7 41, Yc 40 42, Ym 43 0 40, Ym 44 1 40, Yb 12 43, Yb 13 44]
noncomputable abbrev r3_6 : List RO := [Ya 46 1, Yt 47 8 46, Yc 45 47, Ym 48 0 45, Ym 49 1 45, Ym 50 2 45, ⟨.v 14, (.newb [(.int .i64 0), (.int .i64 0), (.lit (.slice none 0 0))]), [], none⟩, Yj 3 14 48, Yb 15 49, Yb 16 50]
noncomputable abbrev r3_7 : List RO := [Ya 52 1, Yt 53 9 52, Yc 51 53, Ym 54 0 51, Ym 55 1 51, Ym 56 2 51, ⟨.v 17, (.newb [(.int .i64 0), (.int .i64 0), (.lit (.slice none 0 0))]), [], none⟩, Yj 3 17 54, Yb 18 55, Yb 19 56]
noncomputable abbrev r3_8 : List (RO × Bool) := [(Yf 57 3 6, true), (Yt 58 10 57, true), (Yf 59 3 6, true), (Yt 60 11 59, false), (⟨.l 61, .eqB false, [.l 58, .l 60], none⟩, true), (Yc 62 61, true), (Za 63 10 62 true, true), (Za 64 12 62 true, true), (⟨.l 65, .bin .eql, [.l 63, .l 64], (some (.l 62, true))⟩, true), (Yo 66 62 65, true), (Yc 67 66, true), (Za 68 11 67 true, true), (Za 69 13 67 true, true), (⟨.l 70, .bin .eql, [.l 68, .l 69], (some (.l 67, true))⟩, true), (Yo 71 67 70, true), (Yc 72 71, true), (Za 73 15 72 true, true), (Za 74 18 72 true, true), (⟨.l 75, .bin .eql, [.l 73, .l 74], (some (.l 72, true))⟩, true), (Yo 76 72 75, true), (Yc 77 76, true), (Za 78 16 77 true, true), (Za 79 19 77 true, true), (⟨.l 80, .bin .eql, [.l 78, .l 79], (some (.l 77, true))⟩, true), (Yo 81 77 80, true), (Yc 82 81, true), (Zf 83 3 14 82 true, true), (Zf 84 3 17 82 true, true)]
noncomputable abbrev r3_9 : List RO := [⟨.l 85, .calls .fn, [(.con (.fn (.func 12) [] [])), .l 83, .l 84], (some (.l 82, true))⟩, Yo 86 82 85, Yb 20 86]
noncomputable abbrev r3_10 : List (RO × Bool) := [(Ya 87 9, true), (Yc 88 87, true), (Za 89 20 88 true, true), (Yo 90 88 89, true), (Yc 91 90, true), (Zf 92 3 6 91 true, true), (Za 93 2 91 true, true), (Za 94 3 91 true, true), (Za 95 4 91 true, true), (⟨.l 96, .calls .fn, [(.con (.fn (.func 13) [] [])), .l 92, .l 93, .l 94, .l 95], (some (.l 91, true))⟩, true), (Zf 97 3 6 91 true, true), (Za 98 2 91 true, true), (Za 99 3 91 true, true), (Za 100 4 91 true, true), (⟨.l 101, .calls .fn, [(.con (.fn (.func 14) [] [])), .l 97, .l 98, .l 99, .l 100], (some (.l 91, true))⟩, false), (⟨.l 102, .bin .eql, [.l 96, .l 101], (some (.l 91, true))⟩, true), (Yo 103 91 102, true), (Yc 104 103, true), (Zf 105 3 6 104 true, true), (Zf 106 6 7 104 true, true), (⟨.l 107, .calls .fn, [(.con (.fn (.func 15) [] [])), .l 105, .l 106], (some (.l 104, true))⟩, true), (Zf 108 3 6 104 true, true), (Zf 109 6 7 104 true, true)]
noncomputable abbrev r3_11 : List RO := [⟨.l 110, .calls .fn, [(.con (.fn (.func 16) [] [])), .l 108, .l 109], (some (.l 104, true))⟩, ⟨.l 111, (.eqA false [.int, .int]), [.l 107, .l 110], (some (.l 104, true))⟩, Yo 112 104 111, Yb 8 112]
theorem P3 : C3.M = M := rfl
theorem i3 {a0 a1 a2 a3 a4 a5 : D} : St.init C3 [a0, a1, a2, a3, a4, a5] ⟨[], []⟩ = ⟨[a0, a1, a2, a3, a4, a5, .u0, .u0, .u0, .u0, .u0, .u0, .u0, .u0, .u0, .u0, .u0, .u0, .u0, .u0, .u0, .u0], [], ⟨[], []⟩⟩ := rfl
noncomputable def c3 : RC := (.seq (.reg r3_0) (.seq (.reg r3_1) (.seq (.seq (.reg r3_2) (.cond (.v 21) (.seq (.reg r3_3) .ret) .skip)) (.seq (.reg r3_4) (.seq (.reg r3_5) (.seq (.reg r3_6) (.seq (.reg r3_7) (.seq (.regD r3_8 r3_9) (.seq (.regD r3_10 r3_11) .ret)))))))))
noncomputable def q3 : List RR := [(.slot (.v 8))]
theorem z3 {n m : Nat} : zAe (E3 n m) (Tryz.f3.body.getD .skip) = some c3 := by kernel_rfl
theorem k3 : FnOk M 3 6 Tryz.f3 E3 c3 q3 := fnOk Tryz.func3
end Go.Proofs.YtkjnhkoipgdfeaaGreatDoor
end
section
set_option linter.unusedSimpArgs false
set_option linter.unusedVariables false
namespace Go.Proofs.YtkjnhkoipgdfeaaGreatDoor
inductive F where
 | mk (op n : Int) (kids : List F)
instance : Inhabited F := ⟨.mk 0 0 []⟩
def F.op : F → Int | .mk o _ _ => o
def F.num : F → Int | .mk _ n _ => n
def F.kids : F → List F | .mk _ _ k => k
mutual
def F.nodes : F → Nat
 | .mk _ _ ks => 1 + F.nodesL ks
def F.nodesL : List F → Nat
 | [] => 0
 | k :: ks => F.nodes k + F.nodesL ks
end
def want (op : Int) : Nat := if op = 11 then 3 else if 5 ≤ op then 2 else 0
def okN (op n : Int) (k : Nat) : Bool := decide (1 ≤ op ∧ op ≤ 11 ∧ k = want op ∧ 0 ≤ n ∧ n ≤ 9999999 ∧ (0 < n → op = 1))
mutual
def F.well : F → Bool
 | .mk op n ks => okN op n ks.length && F.wellL ks
def F.wellL : List F → Bool
 | [] => true
 | k :: ks => F.well k && F.wellL ks
end
def F.valid (f : F) : Bool := decide (f.nodes ≤ 60) && f.well
def sat (n : Int) : Int := max (-1000000000000) (min n 1000000000000)
theorem zCg {a b : Int} (h : a ≤ b) : sat a ≤ sat b := by unfold sat; omega
abbrev Rg (n : Int) : Prop := -1000000000000 ≤ n ∧ n ≤ 1000000000000
theorem zDx (a : Int) : Rg (sat a) := by unfold sat; omega
def fl (a b : Int) : Int := if b = 0 then 0 else if 0 < b then a / b else (-a) / (-b)
theorem ediv_mono {a b d : Int} (hd : 0 < d) (h : a ≤ b) : a / d ≤ b / d := Int.ediv_le_ediv hd h
theorem ediv_anti {a d e : Int} (hd : 0 < d) (h : d ≤ e) (ha : 0 ≤ a) : a / e ≤ a / d := by
 have he : 0 < e := by omega
 rw [Int.le_ediv_iff_mul_le hd]
 have h1 : a / e * e ≤ a := Int.ediv_mul_le a (by omega)
 have h2 : 0 ≤ a / e := Int.ediv_nonneg ha (by omega)
 have h3 := Int.mul_le_mul_of_nonneg_left h h2
 omega
theorem ediv_antn {a d e : Int} (hd : 0 < d) (h : d ≤ e) (ha : a < 0) : a / d ≤ a / e := by
 have he : 0 < e := by omega
 rw [Int.le_ediv_iff_mul_le he]
 have h1 : a / d * d ≤ a := Int.ediv_mul_le a (by omega)
 have h2 : a / d < 0 := Int.ediv_neg_of_neg_of_pos ha hd
 have h3 := Int.mul_le_mul_of_nonneg_left h (show 0 ≤ -(a / d) by omega)
 rw [Int.neg_mul, Int.neg_mul] at h3
 omega
theorem ediv_rng {a d : Int} (hd : 0 < d) (h : Rg a) : Rg (a / d) := by
 obtain ⟨h1, h2⟩ := h
 constructor
 ·rw [Int.le_ediv_iff_mul_le hd]
  have := Int.mul_le_mul_of_nonneg_left (show 1 ≤ d by omega) (show (0:Int) ≤ 1000000000000 by decide)
  omega
 ·rcases Int.lt_or_le a 0 with h3 | h3
  ·have := Int.ediv_neg_of_neg_of_pos h3 hd; omega
  ·have := Int.ediv_le_self d h3; omega
theorem fl_rng {a b : Int} (h : Rg a) : Rg (fl a b) := by
 unfold fl
 split
 ·decide
 ·split
  ·exact ediv_rng (by omega) h
  ·exact ediv_rng (by omega) ⟨by omega, by omega⟩
abbrev Iv := Int × Int
def In (i : Iv) (n : Int) : Prop := i.1 ≤ n ∧ n ≤ i.2
def Sub (i j : Iv) : Prop := j.1 ≤ i.1 ∧ i.2 ≤ j.2
def okI (i : Iv) : Prop := -1000000000000 ≤ i.1 ∧ i.1 ≤ i.2 ∧ i.2 ≤ 1000000000000
def joinI (a b : Iv) : Iv := (min a.1 b.1, max a.2 b.2)
def corn (f : Int → Int → Int) (A B : Iv) : Iv := (min (min (f A.1 B.1) (f A.1 B.2)) (min (f A.2 B.1) (f A.2 B.2)), max (max (f A.1 B.1) (f A.1 B.2)) (max (f A.2 B.1) (f A.2 B.2)))
def Mo (g : Int → Int) (l h : Int) : Prop := (∀ x y, l ≤ x → x ≤ y → y ≤ h → g x ≤ g y) ∨ (∀ x y, l ≤ x → x ≤ y → y ≤ h → g y ≤ g x)
theorem mo_in {g : Int → Int} {l h x : Int} (m : Mo g l h) (h1 : l ≤ x) (h2 : x ≤ h) : min (g l) (g h) ≤ g x ∧ g x ≤ max (g l) (g h) := by
 rcases m with m | m
 iterate 2
  ·have a := m l x (Int.le_refl _) h1 h2
   have b := m x h h1 h2 (Int.le_refl _)
   omega
theorem corn_in {f : Int → Int → Int} {A B : Iv} {a b : Int} (h1 : ∀ b, In B b → Mo (fun a => f a b) A.1 A.2) (h2 : ∀ a, In A a → Mo (fun b => f a b) B.1 B.2) (ha : In A a) (hb : In B b) : In (corn f A B) (f a b) := by
 have hA : A.1 ≤ A.2 := Int.le_trans ha.1 ha.2
 have x1 := mo_in (h1 b hb) ha.1 ha.2
 have x2 := mo_in (h2 A.1 ⟨Int.le_refl _, hA⟩) hb.1 hb.2
 have x3 := mo_in (h2 A.2 ⟨hA, Int.le_refl _⟩) hb.1 hb.2
 simp only [In, corn] at *
 omega
def Att (f : Int → Int → Int) (A B R : Iv) : Prop := (∃ a b, In A a ∧ In B b ∧ R.1 = f a b) ∧ ∃ a b, In A a ∧ In B b ∧ R.2 = f a b
theorem min2 (a b : Int) : min a b = a ∨ min a b = b := by omega
theorem max2 (a b : Int) : max a b = a ∨ max a b = b := by omega
theorem corn_att {f : Int → Int → Int} {A B : Iv} (hA : A.1 ≤ A.2) (hB : B.1 ≤ B.2) : Att f A B (corn f A B) := by
 have a1 : In A A.1 := ⟨Int.le_refl _, hA⟩
 have a2 : In A A.2 := ⟨hA, Int.le_refl _⟩
 have b1 : In B B.1 := ⟨Int.le_refl _, hB⟩
 have b2 : In B B.2 := ⟨hB, Int.le_refl _⟩
 constructor
 ·unfold corn; simp only
  rcases min2 (min (f A.1 B.1) (f A.1 B.2)) (min (f A.2 B.1) (f A.2 B.2)) with h | h <;> rw [h]
  ·rcases min2 (f A.1 B.1) (f A.1 B.2) with h | h <;> rw [h]
   ·exact ⟨_, _, a1, b1, rfl⟩
   ·exact ⟨_, _, a1, b2, rfl⟩
  ·rcases min2 (f A.2 B.1) (f A.2 B.2) with h | h <;> rw [h]
   ·exact ⟨_, _, a2, b1, rfl⟩
   ·exact ⟨_, _, a2, b2, rfl⟩
 ·unfold corn; simp only
  rcases max2 (max (f A.1 B.1) (f A.1 B.2)) (max (f A.2 B.1) (f A.2 B.2)) with h | h <;> rw [h]
  ·rcases max2 (f A.1 B.1) (f A.1 B.2) with h | h <;> rw [h]
   ·exact ⟨_, _, a1, b1, rfl⟩
   ·exact ⟨_, _, a1, b2, rfl⟩
  ·rcases max2 (f A.2 B.1) (f A.2 B.2) with h | h <;> rw [h]
   ·exact ⟨_, _, a2, b1, rfl⟩
   ·exact ⟨_, _, a2, b2, rfl⟩
theorem mul_mo (b l h : Int) : Mo (fun a => a * b) l h := by
 rcases Int.le_total 0 b with hb | hb
 ·exact .inl fun x y _ hxy _ => Int.mul_le_mul_of_nonneg_right hxy hb
 ·exact .inr fun x y _ hxy _ => Int.mul_le_mul_of_nonpos_right hxy hb
theorem sat_mo {g : Int → Int} {l h : Int} (m : Mo g l h) : Mo (fun x => sat (g x)) l h := by
 rcases m with m | m
 ·exact .inl fun x y a b c => zCg (m x y a b c)
 ·exact .inr fun x y a b c => zCg (m x y a b c)
theorem add_in {A B : Iv} {a b : Int} (ha : In A a) (hb : In B b) : In (corn (fun a b => sat (a + b)) A B) (sat (a + b)) :=
 corn_in (f := fun a b => sat (a + b)) (fun b _ => sat_mo (g := fun a => a + b) (.inl fun x y _ h _ => by show x + b ≤ y + b; omega)) (fun a _ => sat_mo (g := fun b => a + b) (.inl fun x y _ h _ => by show a + x ≤ a + y; omega)) ha hb
theorem sub_in {A B : Iv} {a b : Int} (ha : In A a) (hb : In B b) : In (corn (fun a b => sat (a - b)) A B) (sat (a - b)) :=
 corn_in (f := fun a b => sat (a - b)) (fun b _ => sat_mo (g := fun a => a - b) (.inl fun x y _ h _ => by show x - b ≤ y - b; omega)) (fun a _ => sat_mo (g := fun b => a - b) (.inr fun x y _ h _ => by show a - y ≤ a - x; omega)) ha hb
theorem mul_in {A B : Iv} {a b : Int} (ha : In A a) (hb : In B b) : In (corn (fun a b => sat (a * b)) A B) (sat (a * b)) :=
 corn_in (f := fun a b => sat (a * b)) (fun b _ => sat_mo (mul_mo b _ _)) (fun a _ => sat_mo (by have := mul_mo a B.1 B.2; simpa [Int.mul_comm] using this)) ha hb
theorem fl_moa (d l h : Int) : Mo (fun a => fl a d) l h := by
 unfold fl
 by_cases h0 : d = 0
 ·simp only [h0, if_true]; exact .inl fun _ _ _ _ _ => Int.le_refl _
 ·simp only [h0, if_false]
  by_cases h1 : 0 < d
  ·simp only [h1, if_true]; exact .inl fun x y _ hxy _ => ediv_mono h1 hxy
  ·simp only [h1, if_false]; exact .inr fun x y _ hxy _ => ediv_mono (by omega) (by omega)
theorem fl_mop (a : Int) {l h : Int} (hl : 0 < l) : Mo (fun d => fl a d) l h := by
 rcases Int.lt_or_le a 0 with ha | ha
 ·refine .inl fun x y h1 h2 h3 => ?_
  simp only [fl, if_neg (show ¬ x = 0 by omega), if_neg (show ¬ y = 0 by omega), if_pos (show 0 < x by omega), if_pos (show 0 < y by omega)]
  exact ediv_antn (by omega) h2 ha
 ·refine .inr fun x y h1 h2 h3 => ?_
  simp only [fl, if_neg (show ¬ x = 0 by omega), if_neg (show ¬ y = 0 by omega), if_pos (show 0 < x by omega), if_pos (show 0 < y by omega)]
  exact ediv_anti (by omega) h2 ha
theorem fl_mon (a : Int) {l h : Int} (hh : h < 0) : Mo (fun d => fl a d) l h := by
 rcases Int.lt_or_le (-a) 0 with ha | ha
 ·refine .inr fun x y h1 h2 h3 => ?_
  simp only [fl, if_neg (show ¬ x = 0 by omega), if_neg (show ¬ y = 0 by omega), if_neg (show ¬ 0 < x by omega), if_neg (show ¬ 0 < y by omega)]
  exact ediv_antn (by omega) (by omega) ha
 ·refine .inl fun x y h1 h2 h3 => ?_
  simp only [fl, if_neg (show ¬ x = 0 by omega), if_neg (show ¬ y = 0 by omega), if_neg (show ¬ 0 < x by omega), if_neg (show ¬ 0 < y by omega)]
  exact ediv_anti (by omega) (by omega) ha
def flP (A : Iv) (d : Int) : Iv := (min (fl A.1 d) (fl A.2 d), max (fl A.1 d) (fl A.2 d))
def sgn (A : Iv) (l h : Int) : List Iv := if l ≤ h then [flP A l, flP A h] else []
def zA9 (A B : Iv) : List Iv := (if B.1 ≤ 0 ∧ 0 ≤ B.2 then [((0 : Int), (0 : Int))] else []) ++ sgn A (max B.1 1) B.2 ++ sgn A B.1 (min B.2 (-1))
def hull : List Iv → Iv
 | [] => (0, 0)
 | x :: l => l.foldl joinI x
theorem fold_sub : ∀ (l : List Iv) (x : Iv), Sub x (l.foldl joinI x) ∧ ∀ p ∈ l, Sub p (l.foldl joinI x)
 | [], x => ⟨⟨Int.le_refl _, Int.le_refl _⟩, fun p hp => by simp at hp⟩
 | y :: l, x => by
   obtain ⟨h1, h2⟩ := fold_sub l (joinI x y)
   simp only [List.foldl_cons]
   refine ⟨?_, fun p hp => ?_⟩
   ·simp only [Sub, joinI] at h1 ⊢; omega
   ·rcases List.mem_cons.1 hp with rfl | hp
    ·simp only [Sub, joinI] at h1 ⊢; omega
    ·exact h2 p hp
theorem zC8 {l : List Iv} {p : Iv} (h : p ∈ l) : Sub p (hull l) := by
 cases l with
 | nil => simp at h
 | cons x l =>
   rcases List.mem_cons.1 h with rfl | h
   ·exact (fold_sub l p).1
   ·exact (fold_sub l x).2 p h
theorem fold_att : ∀ (l : List Iv) (x : Iv), (∃ p ∈ x :: l, (l.foldl joinI x).1 = p.1) ∧ ∃ p ∈ x :: l, (l.foldl joinI x).2 = p.2
 | [], x => ⟨⟨x, by simp, rfl⟩, ⟨x, by simp, rfl⟩⟩
 | y :: l, x => by
   obtain ⟨⟨p, hp, e1⟩, ⟨q, hq, e2⟩⟩ := fold_att l (joinI x y)
   simp only [List.foldl_cons]
   constructor
   ·rcases List.mem_cons.1 hp with rfl | hp
    ·rcases min2 x.1 y.1 with h | h
     ·exact ⟨x, by simp, by rw [e1]; exact h⟩
     ·exact ⟨y, by simp, by rw [e1]; exact h⟩
    ·exact ⟨p, by simp [hp], e1⟩
   ·rcases List.mem_cons.1 hq with rfl | hq
    ·rcases max2 x.2 y.2 with h | h
     ·exact ⟨x, by simp, by rw [e2]; exact h⟩
     ·exact ⟨y, by simp, by rw [e2]; exact h⟩
    ·exact ⟨q, by simp [hq], e2⟩
theorem hull_att {l : List Iv} (h : l ≠ []) : (∃ p ∈ l, (hull l).1 = p.1) ∧ ∃ p ∈ l, (hull l).2 = p.2 := by
 cases l with
 | nil => exact absurd rfl h
 | cons x l => exact fold_att l x
def divI (A B : Iv) : Iv := hull (zA9 A B)
theorem sgn_in {A : Iv} {l h a d : Int} (hs : 0 < l ∨ h < 0) (ha : In A a) (h1 : l ≤ d) (h2 : d ≤ h) : ∀ {L : List Iv}, (∀ p ∈ sgn A l h, p ∈ L) → In (hull L) (fl a d) := by
 intro L hL
 have hlh : l ≤ h := by omega
 rw [sgn, if_pos hlh] at hL
 have s1 := zC8 (hL (flP A l) (by simp))
 have s2 := zC8 (hL (flP A h) (by simp))
 have hm : ∀ a, Mo (fun d => fl a d) l h := fun a => hs.elim (fun g => fl_mop a g) (fun g => fl_mon a g)
 have hc := corn_in (f := fl) (A := A) (B := (l, h)) (fun b _ => fl_moa b _ _) (fun a _ => hm a) ha ⟨h1, h2⟩
 simp only [In, corn, Sub, flP] at *
 omega
theorem div_in {A B : Iv} {a b : Int} (ha : In A a) (hb : In B b) : In (divI A B) (fl a b) := by
 unfold divI
 rcases Int.lt_trichotomy b 0 with h | h | h
 ·refine sgn_in (l := B.1) (h := min B.2 (-1)) (.inr (by omega)) ha hb.1 (by have := hb.2; omega) fun p hp => ?_
  simp [zA9, hp]
 ·subst h
  have : ((0 : Int), (0 : Int)) ∈ zA9 A B := by simp [zA9, hb.1, hb.2]
  have := zC8 this
  simp only [fl, if_true, In, Sub] at *
  exact this
 ·refine sgn_in (l := max B.1 1) (h := B.2) (.inl (by omega)) ha (by have := hb.1; omega) hb.2 fun p hp => ?_
  simp [zA9, hp]
theorem sgn_mem {A : Iv} {l h : Int} {p : Iv} (hp : p ∈ sgn A l h) : ∃ d, l ≤ d ∧ d ≤ h ∧ p = flP A d := by
 unfold sgn at hp
 split at hp
 ·rename_i hlh
  simp only [List.mem_cons, List.not_mem_nil, or_false] at hp
  rcases hp with rfl | rfl
  ·exact ⟨l, Int.le_refl _, hlh, rfl⟩
  ·exact ⟨h, hlh, Int.le_refl _, rfl⟩
 ·simp at hp
theorem piece_mem {A B : Iv} {p : Iv} (hp : p ∈ zA9 A B) : ∃ d, In B d ∧ p = flP A d := by
 unfold zA9 at hp
 rw [List.mem_append, List.mem_append] at hp
 rcases hp with (hp | hp) | hp
 ·split at hp
  ·rename_i h
   simp only [List.mem_cons, List.not_mem_nil, or_false] at hp
   exact ⟨0, h, by rw [hp]; simp [flP, fl]⟩
  ·simp at hp
 ·obtain ⟨d, h1, h2, rfl⟩ := sgn_mem hp
  exact ⟨d, ⟨by omega, h2⟩, rfl⟩
 ·obtain ⟨d, h1, h2, rfl⟩ := sgn_mem hp
  exact ⟨d, ⟨h1, by omega⟩, rfl⟩
theorem pieces_ne {A B : Iv} (hB : B.1 ≤ B.2) : zA9 A B ≠ [] := by
 intro h
 have key : ∃ p, p ∈ zA9 A B := by
  rcases Int.lt_or_le B.2 0 with h1 | h1
  ·exact ⟨flP A B.1, by simp only [zA9, List.mem_append]; right; rw [sgn, if_pos (by omega)]; simp⟩
  ·rcases Int.lt_or_le 0 B.1 with h2 | h2
   ·exact ⟨flP A B.2, by simp only [zA9, List.mem_append]; left; right; rw [sgn, if_pos (by omega)]; simp⟩
   ·exact ⟨(0, 0), by simp [zA9, h1, h2]⟩
 obtain ⟨p, hp⟩ := key
 rw [h] at hp; simp at hp
theorem div_att {A B : Iv} (hA : A.1 ≤ A.2) (hB : B.1 ≤ B.2) : Att fl A B (divI A B) := by
 have a1 : In A A.1 := ⟨Int.le_refl _, hA⟩
 have a2 : In A A.2 := ⟨hA, Int.le_refl _⟩
 obtain ⟨⟨p, hp, e1⟩, ⟨q, hq, e2⟩⟩ := hull_att (pieces_ne (A := A) hB)
 constructor
 ·obtain ⟨d, hd, rfl⟩ := piece_mem hp
  rcases min2 (fl A.1 d) (fl A.2 d) with h | h
  ·exact ⟨_, _, a1, hd, by unfold divI; rw [e1]; exact h⟩
  ·exact ⟨_, _, a2, hd, by unfold divI; rw [e1]; exact h⟩
 ·obtain ⟨d, hd, rfl⟩ := piece_mem hq
  rcases max2 (fl A.1 d) (fl A.2 d) with h | h
  ·exact ⟨_, _, a1, hd, by unfold divI; rw [e2]; exact h⟩
  ·exact ⟨_, _, a2, hd, by unfold divI; rw [e2]; exact h⟩
def opN (op a b : Int) : Int :=
 if op = 5 then sat (a + b) else if op = 6 then sat (a - b) else if op = 7 then sat (a * b) else if op = 8 then fl a b else if op = 9 then min a b else max a b
def opI (op : Int) (A B : Iv) : Iv :=
 if op = 5 then corn (fun a b => sat (a + b)) A B else if op = 6 then corn (fun a b => sat (a - b)) A B else if op = 7 then corn (fun a b => sat (a * b)) A B
 else if op = 8 then divI A B else if op = 9 then (min A.1 B.1, min A.2 B.2) else (max A.1 B.1, max A.2 B.2)
def chN (a b c : Int) : Int := if 0 < a then b else c
def chI (A B C : Iv) : Iv := if A.2 ≤ 0 then C else if 0 < A.1 then B else joinI B C
theorem opN_rng {op a b : Int} (ha : Rg a) (hb : Rg b) : Rg (opN op a b) := by
 unfold opN
 split
 ·exact zDx _
 split
 ·exact zDx _
 split
 ·exact zDx _
 split
 ·exact fl_rng ha
 split
 iterate 2
  ·constructor <;> omega
theorem opI_in {op a b : Int} {A B : Iv} (ha : In A a) (hb : In B b) : In (opI op A B) (opN op a b) := by
 unfold opN opI
 split
 ·exact add_in ha hb
 split
 ·exact sub_in ha hb
 split
 ·exact mul_in ha hb
 split
 ·exact div_in ha hb
 split
 iterate 2
  ·simp only [In] at *; omega
theorem opI_att {op : Int} {A B : Iv} (hA : A.1 ≤ A.2) (hB : B.1 ≤ B.2) : Att (opN op) A B (opI op A B) := by
 unfold opN opI
 split
 ·exact corn_att hA hB
 split
 ·exact corn_att hA hB
 split
 ·exact corn_att hA hB
 split
 ·exact div_att hA hB
 have a1 : In A A.1 := ⟨Int.le_refl _, hA⟩
 have a2 : In A A.2 := ⟨hA, Int.le_refl _⟩
 have b1 : In B B.1 := ⟨Int.le_refl _, hB⟩
 have b2 : In B B.2 := ⟨hB, Int.le_refl _⟩
 split
 iterate 2
  ·exact ⟨⟨_, _, a1, b1, rfl⟩, ⟨_, _, a2, b2, rfl⟩⟩
theorem opI_ok {op : Int} {A B : Iv} (hA : okI A) (hB : okI B) : okI (opI op A B) := by
 obtain ⟨⟨a, b, h1, h2, e1⟩, ⟨c, d, h3, h4, e2⟩⟩ := opI_att (op := op) hA.2.1 hB.2.1
 have r : ∀ {a b}, In A a → In B b → Rg (opN op a b) := fun h1 h2 => opN_rng ⟨Int.le_trans hA.1 h1.1, Int.le_trans h1.2 hA.2.2⟩ ⟨Int.le_trans hB.1 h2.1, Int.le_trans h2.2 hB.2.2⟩
 have x := opI_in (op := op) h1 h2
 have r1 := r h1 h2
 have r2 := r h3 h4
 refine ⟨by rw [e1]; exact r1.1, Int.le_trans x.1 x.2, by rw [e2]; exact r2.2⟩
theorem chI_in {A B C : Iv} {a b c : Int} (ha : In A a) (hb : In B b) (hc : In C c) : In (chI A B C) (chN a b c) := by
 unfold chI chN
 simp only [In, joinI] at *
 (repeat' split) <;> omega
theorem chI_ok {A B C : Iv} (hA : okI A) (hB : okI B) (hC : okI C) : okI (chI A B C) := by
 unfold chI
 simp only [okI, joinI] at *
 (repeat' split) <;> omega
mutual
def val (km cy ld : Int) : F → Int
 | .mk op n ks =>
   let vs := valL km cy ld ks
   if op = 1 then n else if op = 2 then km else if op = 3 then cy else if op ≤ 4 then ld
   else if op = 11 then chN (vs.getD 0 0) (vs.getD 1 0) (vs.getD 2 0) else opN op (vs.getD 0 0) (vs.getD 1 0)
def valL (km cy ld : Int) : List F → List Int
 | [] => []
 | k :: ks => val km cy ld k :: valL km cy ld ks
end
structure Use where
 km : Iv
 cy : Iv
 ld : Iv
mutual
def span (u : Use) : F → Iv
 | .mk op n ks =>
   let vs := spanL u ks
   if op = 1 then (n, n) else if op = 2 then u.km else if op = 3 then u.cy else if op ≤ 4 then u.ld
   else if op = 11 then chI (vs.getD 0 (0, 0)) (vs.getD 1 (0, 0)) (vs.getD 2 (0, 0)) else opI op (vs.getD 0 (0, 0)) (vs.getD 1 (0, 0))
def spanL (u : Use) : List F → List Iv
 | [] => []
 | k :: ks => span u k :: spanL u ks
end
def Use.In (u : Use) (km cy ld : Int) : Prop := Go.Proofs.YtkjnhkoipgdfeaaGreatDoor.In u.km km ∧ Go.Proofs.YtkjnhkoipgdfeaaGreatDoor.In u.cy cy ∧ Go.Proofs.YtkjnhkoipgdfeaaGreatDoor.In u.ld ld
def Use.ok (u : Use) : Prop := okI u.km ∧ okI u.cy ∧ okI u.ld
def Use.Sub (u v : Use) : Prop := Go.Proofs.YtkjnhkoipgdfeaaGreatDoor.Sub u.km v.km ∧ Go.Proofs.YtkjnhkoipgdfeaaGreatDoor.Sub u.cy v.cy ∧ Go.Proofs.YtkjnhkoipgdfeaaGreatDoor.Sub u.ld v.ld
theorem ok0 : okI ((0 : Int), (0 : Int)) := by unfold okI; decide
theorem getD_in {u : Use} {km cy ld : Int} : ∀ {ks : List F} (_ : ∀ k ∈ ks, In (span u k) (val km cy ld k)) (i : Nat), In ((spanL u ks).getD i (0, 0)) ((valL km cy ld ks).getD i 0)
 | [], _, i => by simp [spanL, valL, In]
 | k :: ks, h, 0 => by simpa [spanL, valL] using h k (by simp)
 | k :: ks, h, i + 1 => by simpa [spanL, valL] using getD_in (fun k hk => h k (by simp [hk])) i
theorem getD_ok {u : Use} : ∀ {ks : List F} (_ : ∀ k ∈ ks, okI (span u k)) (i : Nat), okI ((spanL u ks).getD i (0, 0))
 | [], _, i => by simpa [spanL] using ok0
 | k :: ks, h, 0 => by simpa [spanL] using h k (by simp)
 | k :: ks, h, i + 1 => by simpa [spanL] using getD_ok (fun k hk => h k (by simp [hk])) i
theorem wellL_mem : ∀ {ks : List F}, F.wellL ks = true → ∀ k ∈ ks, k.well = true
 | [], _, k, h => by simp at h
 | k' :: ks, h, k, hk => by
   simp only [F.wellL, Bool.and_eq_true] at h
   rcases List.mem_cons.1 hk with rfl | hk
   ·exact h.1
   ·exact wellL_mem h.2 k hk
theorem well_num {op n : Int} {k : Nat} (h : okN op n k = true) : 0 ≤ n ∧ n ≤ 9999999 := by
 simp only [okN, decide_eq_true_eq] at h; omega
theorem span_ok {u : Use} (hu : u.ok) : ∀ f : F, f.well = true → okI (span u f)
 | .mk op n ks, h => by
   simp only [F.well, Bool.and_eq_true] at h
   have hn := well_num h.1
   have hk := getD_ok (u := u) fun k hk => span_ok hu k (wellL_mem h.2 k hk)
   simp only [span]
   split
   ·exact ⟨by simp only; omega, Int.le_refl _, by simp only; omega⟩
   split
   ·exact hu.1
   split
   ·exact hu.2.1
   split
   ·exact hu.2.2
   split
   ·exact chI_ok (hk 0) (hk 1) (hk 2)
   ·exact opI_ok (hk 0) (hk 1)
theorem span_in {u : Use} {km cy ld : Int} (hi : u.In km cy ld) : ∀ f : F, In (span u f) (val km cy ld f)
 | .mk op n ks => by
   have hk := getD_in (u := u) (km := km) (cy := cy) (ld := ld) fun k (_ : k ∈ ks) => span_in hi k
   simp only [span, val]
   split
   ·exact ⟨Int.le_refl _, Int.le_refl _⟩
   split
   ·exact hi.1
   split
   ·exact hi.2.1
   split
   ·exact hi.2.2
   split
   ·exact chI_in (hk 0) (hk 1) (hk 2)
   ·exact opI_in (hk 0) (hk 1)
def useI (i : Iv) : Bool := decide (0 ≤ i.1 ∧ i.1 ≤ i.2 ∧ i.2 ≤ 1000000)
def Use.good (u : Use) : Bool := useI u.km && useI u.cy && useI u.ld
def valueF (f : F) (km cy ld : Int) : Int := if f.valid then val (sat km) (sat cy) (sat ld) f else 0
def zD2 (f : F) (u : Use) : Iv := if f.valid && u.good then (max 0 (span u f).1, max 0 (span u f).2) else (0, 0)
theorem good_ok {u : Use} (h : u.good = true) : u.ok := by
 simp only [Use.good, useI, Bool.and_eq_true, decide_eq_true_eq] at h
 simp only [Use.ok, okI]
 omega
theorem zEt {f : F} (h : f.valid = true) : f.well = true := by
 simp only [F.valid, Bool.and_eq_true] at h; exact h.2
theorem val_rng {km cy ld : Int} (h1 : Rg km) (h2 : Rg cy) (h3 : Rg ld) : ∀ f : F, f.well = true → Rg (val km cy ld f) := fun f hw => by
 have h := span_in (u := ⟨(km, km), (cy, cy), (ld, ld)⟩) (km := km) (cy := cy) (ld := ld) ⟨⟨Int.le_refl _, Int.le_refl _⟩, ⟨Int.le_refl _, Int.le_refl _⟩, ⟨Int.le_refl _, Int.le_refl _⟩⟩ f
 have g := span_ok (u := ⟨(km, km), (cy, cy), (ld, ld)⟩) ⟨⟨h1.1, Int.le_refl _, h1.2⟩, ⟨h2.1, Int.le_refl _, h2.2⟩, ⟨h3.1, Int.le_refl _, h3.2⟩⟩ f hw
 simp only [In, okI] at *
 constructor <;> omega
theorem valid_iff {f : F} : f.valid = true ↔ f.nodes ≤ 60 ∧ f.well = true := by simp [F.valid]
end Go.Proofs.YtkjnhkoipgdfeaaGreatDoor
end
section
set_option linter.unusedSimpArgs false
set_option linter.unusedVariables false
namespace Go.Proofs.YtkjnhkoipgdfeaaGreatDoor
abbrev Tx := List UInt8
structure Tok where
 kind : Int
 text : Tx
 pos : Int
 deriving DecidableEq
structure Fo where
 tok : Tok
 err : Int
 deriving DecidableEq
def isLet (c : UInt8) : Bool := decide ((97 ≤ c.toNat ∧ c.toNat ≤ 122) ∨ (65 ≤ c.toNat ∧ c.toNat ≤ 90))
def isDig (c : UInt8) : Bool := decide (48 ≤ c.toNat ∧ c.toNat ≤ 57)
def zAz (c : UInt8) : Bool := isLet c || isDig c || c == 95
def zA4 (c : UInt8) : Bool := c == 32 || c == 9 || c == 10
def isSym (c : UInt8) : Bool := ([59, 44, 46, 58, 40, 41, 123, 125, 91, 93, 61, 60, 62, 47, 43, 45, 42] : Tx).contains c
def unq : Tx → Tx → Nat → Option (Tx × Nat)
 | [], _, _ => none
 | c :: r, acc, n =>
   if c = 34 then some (acc, n + 1)
   else if c = 10 then none
   else if c = 92 then
    match r with
    | [] => none
    | d :: r' => if d = 92 then unq r' (acc ++ [92]) (n + 2) else if d = 34 then unq r' (acc ++ [34]) (n + 2) else if d = 110 then unq r' (acc ++ [10]) (n + 2) else none
   else unq r (acc ++ [c]) (n + 1)
def spn (p : UInt8 → Bool) (s : Tx) : Nat := (s.takeWhile p).length
abbrev noErr (i : Nat) : Fo := ⟨⟨0, [], i⟩, 10⟩
def step (s : Tx) (i : Nat) : Nat × Option Fo :=
 match s with
 | [] => (0, none)
 | c :: r =>
   if isLet c then (spn zAz s, some ⟨⟨1, s.take (spn zAz s), i⟩, if 24 < spn zAz s then 7 else 0⟩)
   else if isDig c then (spn isDig s, some ⟨⟨2, s.take (spn isDig s), i⟩, if 7 < spn isDig s ∨ (s.drop (spn isDig s)).head?.any zAz = true then 11 else 0⟩)
   else if zA4 c then (1, none)
   else if c = 35 then (spn (fun d => !(d == 10)) s, none)
   else if c = 34 then
    match unq r [] 1 with
    | some (t, n) => (n, some ⟨⟨3, t, i⟩, 0⟩)
    | none => (0, some (noErr i))
   else if isSym c then (1, some ⟨⟨4, [c], i⟩, 0⟩)
   else (0, some (noErr i))
def lexF : Nat → Tx → Nat → List Fo
 | 0, _, _ => []
 | k + 1, s, i =>
   if s = [] then []
   else match (step s i).2 with
    | none => lexF k (s.drop (step s i).1) (i + (step s i).1)
    | some f => if f.err = 0 then f :: lexF k (s.drop (step s i).1) (i + (step s i).1) else [f]
def lexR (t : Tx) : List Fo := lexF t.length t 0
def bad (l : List Fo) : Option Fo := l.find? fun f => decide (f.err ≠ 0)
def lexP (t : Tx) : List Tok × Int × Int :=
 match bad (lexR t) with
 | some f => ([], f.err, f.tok.pos)
 | none => ((lexR t).map Fo.tok, 0, 0)
inductive PR where
 | ok (f : F) (r : List Tok)
 | no (e p : Int)
def failP (en : Int) : List Tok → PR
 | [] => .no 9 en
 | t :: _ => .no 8 t.pos
def gotN (k : Int) (ws : List Tx) (l : List Tok) : Option Nat :=
 match l with
 | [] => none
 | t :: _ => if t.kind = k then ws.findIdx? fun w => t.text == w else none
def needP (en : Int) (w : Tx) (l : List Tok) (go : List Tok → PR) : PR :=
 match gotN 4 [w] l with
 | some _ => go l.tail
 | none => failP en l
def thenP (p : PR) (go : F → List Tok → PR) : PR :=
 match p with
 | .ok f r => go f r
 | .no e p => .no e p
def loopP (opd : List Tok → PR) (first : Int) (a b : Tx) : Nat → F → List Tok → PR
 | 0, f, l => .ok f l
 | k + 1, f, l =>
   match gotN 4 [a, b] l with
   | none => .ok f l
   | some i => thenP (opd l.tail) fun g r => loopP opd first a b k (.mk (first + i) 0 [f, g]) r
def zFb (opd : List Tok → PR) (first : Int) (a b : Tx) (l : List Tok) : PR := thenP (opd l) fun f r => loopP opd first a b r.length f r
def digs (s : Tx) : Int := s.foldl (fun n c => 10 * n + ((c.toNat : Int) - 48)) 0
def tKm : Tx := [107, 109]
def tCy : Tx := [99, 121, 99, 108, 101, 115]
def tLd : Tx := [108, 111, 97, 100]
def tMin : Tx := [109, 105, 110]
def tMax : Tx := [109, 97, 120]
def tIf : Tx := [105, 102]
def argsP (fo : List Tok → PR) (en op : Int) : Nat → List F → List Tok → PR
 | 0, fs, l => needP en [41] l fun r => .ok (.mk op 0 fs) r
 | n + 1, fs, l => needP en [44] l fun r => thenP (fo r) fun g r' => argsP fo en op n (fs ++ [g]) r'
def callP (fo : List Tok → PR) (en : Int) (i : Nat) (l : List Tok) : PR :=
 needP en [40] l fun r => thenP (fo r) fun f r' => argsP fo en (9 + i) (max 1 i) [f] r'
def parP (fo : List Tok → PR) (en : Int) (l : List Tok) : PR := needP en [40] l fun r => thenP (fo r) fun f r' => needP en [41] r' fun r'' => .ok f r''
def factP (fo : List Tok → PR) (en : Int) (l : List Tok) : PR :=
 match l with
 | [] => .no 9 en
 | t :: r =>
   if t.kind = 2 then .ok (.mk 1 (digs t.text) []) r
   else match gotN 1 [tKm, tCy, tLd] l with
    | some i => .ok (.mk (2 + i) 0 []) r
    | none => match gotN 1 [tMin, tMax, tIf] l with
      | some i => callP fo en i r
      | none => parP fo en l
def prodP (fo : List Tok → PR) (en : Int) (l : List Tok) : PR := zFb (factP fo en) 7 [42] [47] l
def sumP (fo : List Tok → PR) (en : Int) (l : List Tok) : PR := zFb (prodP fo en) 5 [43] [45] l
def formP (en : Int) : Nat → List Tok → PR
 | 0, l => .no 9 en
 | k + 1, l => sumP (formP en k) en l
def zeroF : F := .mk 0 0 []
def parseT (en : Int) (l : List Tok) : F × Int × Int :=
 match formP en (l.length + 1) l with
 | .no e p => (zeroF, e, p)
 | .ok f (t :: _) => (zeroF, 8, t.pos)
 | .ok f [] => if f.nodes ≤ 60 then (f, 0, 0) else (zeroF, 7, 0)
def zEl (s : Tx) : F × Int × Int :=
 match lexP s with
 | (l, e, p) => if e = 0 then parseT s.length l else (zeroF, e, p)
def ex1 : Tx := [107, 109, 32, 43, 32, 99, 121, 99, 108, 101, 115, 32, 42, 32, 109, 97, 120, 40, 108, 111, 97, 100, 32, 45, 32, 50, 48, 48, 44, 32, 48, 41, 32, 47, 32, 49, 48, 48]
def ex2 : Tx := [105, 102, 40, 108, 111, 97, 100, 32, 45, 32, 49, 48, 44, 32, 107, 109, 44, 32, 48, 41]
def F1 : F := .mk 5 0 [.mk 2 0 [], .mk 8 0 [.mk 7 0 [.mk 3 0 [], .mk 10 0 [.mk 6 0 [.mk 4 0 [], .mk 1 200 []], .mk 1 0 []]], .mk 1 100 []]]
def F2 : F := .mk 11 0 [.mk 6 0 [.mk 4 0 [], .mk 1 10 []], .mk 2 0 [], .mk 1 0 []]
end Go.Proofs.YtkjnhkoipgdfeaaGreatDoor
end
section
set_option maxRecDepth 100000
set_option linter.unusedSimpArgs false
set_option linter.unusedVariables false
namespace Go.Proofs.YtkjnhkoipgdfeaaGreatDoor
open Go GoV
mutual
def F.d : F → D
 | .mk op n ks => .agg [.int .i64 op, .int .i64 n, .slice (F.dL ks) .no]
def F.dL : List F → List D
 | [] => []
 | k :: ks => F.d k :: F.dL ks
end
theorem fdL_map : ∀ ks : List F, F.dL ks = ks.map F.d
 | [] => rfl
 | k :: ks => by simp [F.dL, fdL_map ks]
@[reducible] def F.cells (f : F) : List D := [.int .i64 f.op, .int .i64 f.num, .slice (f.kids.map F.d) .no]
theorem F.d_eq (f : F) : f.d = .agg f.cells := by
 cases f; simp [F.d, F.cells, F.op, F.num, F.kids, fdL_map]
theorem F.nodes_eq (f : F) : f.nodes = 1 + F.nodesL f.kids := by cases f; simp [F.nodes, F.kids]
theorem F.well_eq (f : F) : f.well = (okN f.op f.num f.kids.length && F.wellL f.kids) := by cases f; rfl
theorem zBe (f : F) : 0 < f.nodes := by rw [F.nodes_eq]; omega
theorem nodesL_mem : ∀ {ks : List F} {k : F}, k ∈ ks → k.nodes ≤ F.nodesL ks
 | [], _, h => by simp at h
 | k' :: ks, k, h => by
   simp only [F.nodesL]
   rcases List.mem_cons.1 h with rfl | h
   ·omega
   ·have := nodesL_mem h; omega
theorem zAx {f k : F} (h : k ∈ f.kids) : k.nodes < f.nodes := by have := nodesL_mem h; rw [F.nodes_eq f]; omega
theorem zCs : ∀ ks : List F, ks.length ≤ F.nodesL ks
 | [] => by simp
 | k :: ks => by have := zCs ks; have := zBe k; simp only [F.nodesL, List.length_cons]; omega
theorem zFp : ∀ (ks : List F) (j : Nat) (h : j < ks.length), F.nodesL (ks.take (j + 1)) = F.nodesL (ks.take j) + ks[j].nodes
 | k :: ks, 0, h => by simp [F.nodesL]
 | k :: ks, j + 1, h => by
   simp only [List.take_succ_cons, F.nodesL, List.getElem_cons_succ]
   rw [zFp ks j (by simpa using h)]; omega
theorem nodesL_le (ks : List F) (j : Nat) : F.nodesL (ks.take j) ≤ F.nodesL ks := by
 induction ks generalizing j with
 | nil => simp [F.nodesL]
 | cons k ks ih =>
   cases j with
   | zero => simp [F.nodesL]
   | succ j => simp only [List.take_succ_cons, F.nodesL]; have := ih j; omega
theorem zD8 : ∀ ks : List F, F.wellL ks = ks.all F.well
 | [] => rfl
 | k :: ks => by simp [F.wellL, zD8 ks]
theorem er_F (x : F) : x.d.er = x.d := by cases x; simp [F.d, D.er, D.erL]
theorem cl_F (x : F) : D.closed x.d = true := by cases x; simp [F.d, D.closed, D.cL]
theorem erL_F : ∀ ks : List F, D.erL (ks.map F.d) = ks.map F.d
 | [] => rfl
 | k :: ks => by simp [D.erL, er_F k, erL_F ks]
theorem zAd : ∀ ks : List F, D.cL (ks.map F.d) = true
 | [] => rfl
 | k :: ks => by simp [D.cL, cl_F k, zAd ks]
theorem zD5 (x : F) : x.d.iV = true ∧ x.d.cells.length = 3 := by rw [F.d_eq]; exact ⟨rfl, rfl⟩
mutual
theorem rn_F (β τ : Nat → Option Nat) : ∀ x : F, x.d.rn β τ = x.d
 | .mk op n ks => by simp [F.d, D.rn, D.rnL, Own.rn, rnL_F' β τ ks]
theorem rnL_F' (β τ : Nat → Option Nat) : ∀ ks : List F, D.rnL β τ (F.dL ks) = F.dL ks
 | [] => rfl
 | k :: ks => by simp [F.dL, D.rnL, rn_F β τ k, rnL_F' β τ ks]
end
theorem rnL_F (β τ : Nat → Option Nat) (ks : List F) : D.rnL β τ (ks.map F.d) = ks.map F.d := by rw [← fdL_map]; exact rnL_F' β τ ks
theorem nodes_p : ∀ (k : Nat) (x : F), x.nodes ≤ k → ∀ m : Nat, m ≤ 1000 → Pur M 25 [x.d, .int .i64 m] (.int .i64 (min x.nodes (m + 1) : Nat))
 | 0, x, hk, _, _ => by have := zBe x; omega
 | k + 1, x, hk, m, hm => by
   have ih : ∀ y ∈ x.kids, ∀ q : Nat, q ≤ 1000 → Pur M 25 [y.d, .int .i64 q] (.int .i64 (min y.nodes (q + 1) : Nat)) := fun y hy q hq => nodes_p k y (by have := zAx hy; omega) q hq
   refine k25.ok (C := C25) rfl rfl ?_
   rw [i25]
   unfold c25
   have hN := F.nodes_eq x
   have hlen : (x.kids.map F.d).length = x.kids.length := by simp
   have hge : ∀ i, i ≤ x.kids.length → i ≤ F.nodesL (x.kids.take i) := fun i hi => by
    have := zCs (x.kids.take i)
    rw [List.length_take] at this; omega
   rw [F.d_eq]
   repeat' (first | with_reducible (apply swq; constructor) | simp only [go_sem, seval, P25, q25, hlen] | with_reducible intro _)
   refine zBz [1, 4, 6, 7, 8] 0 0 (Nat.le_refl 0) (Nat.le_refl 0) (fun i : Nat => ⟨[.u0, .int .i64 m, .u0, .u0, .int .i64 (min (1 + F.nodesL (x.kids.take i)) (m + 1) : Nat), .u0, .slice (x.kids.map F.d) .no, .int .i64 x.kids.length, .int .i64 i, .u0, .u0], [], ⟨[], []⟩⟩) (fun i => i ≤ x.kids.length ∧ i ≤ m + 1) (fun i => m + 2 - i) 0 ⟨by omega, by omega⟩ ?_ ?_
   ·simp [keepE, St.keep, St.keepG, St.gc, Hp.cut, D.rn, D.rnL, Blk.rnL, Blk.rn, Tv.rnL, cutF, Own.rn, rnL_F, F.nodesL]
    try omega
   ·rintro i ⟨hi, him⟩
    by_cases hil : i < x.kids.length
    ·have hg : (x.kids.map F.d).getD i .u0 = .agg (x.kids[i]).cells := by simp [List.getD, hil, F.d_eq]
     by_cases hle : 1 + F.nodesL (x.kids.take i) ≤ m
     ·have hmin : min (1 + F.nodesL (x.kids.take i)) (m + 1) = 1 + F.nodesL (x.kids.take i) := by omega
      have hst := zFp x.kids i hil
      have c1 := ih _ (List.getElem_mem hil) (m - (1 + F.nodesL (x.kids.take i))) (by omega)
      have hck := zAd (x.kids[i]).kids
      have hek := erL_F (x.kids[i]).kids
      have hlei := hge i hi
      rw [F.d_eq] at c1
      rw [hmin]
      generalize F.nodesL (x.kids.take i) = z at *
      generalize hz0 : F.nodesL (x.kids.take (i + 1)) = z' at *
      have hsub : ((m : Int) - ((1 + z : Nat) : Int)) = ((m - (1 + z) : Nat) : Int) := by omega
      generalize hq : m - (1 + z) = q at *
      have wQ := And.intro @hlen (And.intro @hg (And.intro @hck @hek)); repeat' (first | with_reducible (apply swq; constructor) | simp only [go_sem, seval, P25, q25, hlen, hg, hsub] | simp (disch := omega) only [wA] | ((with_reducible refine zAb (c1) ?he ?hc ?_); (case he | hc => exact sc wQ)) | with_reducible (apply cdA; constructor) | ((with_reducible refine And.intro ?hw ?_); (case hw => exact sw wQ)) | with_reducible intro _)
      all_goals try (exfalso; omega)
      refine ⟨i + 1, ⟨by omega, by omega⟩, by omega, ?_⟩
      simp [keepE, St.keep, St.keepG, St.gc, Hp.cut, D.rn, D.rnL, Blk.rnL, Blk.rn, Tv.rnL, cutF, Own.rn, rnL_F, hz0]
      try omega
     ·have hle2 := nodesL_le x.kids i
      have hmin : min (1 + F.nodesL (x.kids.take i)) (m + 1) = m + 1 := by omega
      have hres : min x.nodes (m + 1) = m + 1 := by omega
      rw [hmin, hres]
      have wQ := And.intro @hlen @hg; repeat' (first | with_reducible (apply swq; constructor) | simp only [go_sem, seval, P25, q25, hlen, hg] | simp (disch := omega) only [wA] | with_reducible (apply cdA; constructor) | ((with_reducible refine And.intro ?hw ?_); (case hw => exact sw wQ)) | with_reducible intro _)
      all_goals try (exfalso; omega)
      all_goals simp [D.closed, D.er]
    ·have hie : i = x.kids.length := by omega
     subst hie
     rw [List.take_length, ← hN]
     by_cases hle : x.nodes ≤ m
     ·have hmin : min x.nodes (m + 1) = x.nodes := by omega
      rw [hmin]
      have wQ := @hlen; repeat' (first | with_reducible (apply swq; constructor) | simp only [go_sem, seval, P25, q25, hlen] | simp (disch := omega) only [wA] | with_reducible (apply cdA; constructor) | ((with_reducible refine And.intro ?hw ?_); (case hw => exact sw wQ)) | with_reducible intro _)
      all_goals try (exfalso; omega)
      all_goals simp [D.closed, D.er]
     ·have hmin : min x.nodes (m + 1) = m + 1 := by omega
      rw [hmin]
      have wQ := @hlen; repeat' (first | with_reducible (apply swq; constructor) | simp only [go_sem, seval, P25, q25, hlen] | simp (disch := omega) only [wA] | with_reducible (apply cdA; constructor) | ((with_reducible refine And.intro ?hw ?_); (case hw => exact sw wQ)) | with_reducible intro _)
      all_goals try (exfalso; omega)
      all_goals simp [D.closed, D.er]
theorem rnodes_p : ∀ (k : Nat) (x : F), x.nodes ≤ k → ∀ m : Nat, m ≤ 1000 → Pur M 18 [x.d, .int .i64 m] (.int .i64 (min x.nodes (m + 1) : Nat))
 | 0, x, hk, _, _ => by have := zBe x; omega
 | k + 1, x, hk, m, hm => by
   have ih : ∀ y ∈ x.kids, ∀ q : Nat, q ≤ 1000 → Pur M 18 [y.d, .int .i64 q] (.int .i64 (min y.nodes (q + 1) : Nat)) := fun y hy q hq => rnodes_p k y (by have := zAx hy; omega) q hq
   refine k18.ok (C := C18) rfl rfl ?_
   rw [i18]
   unfold c18
   have hN := F.nodes_eq x
   have hlen : (x.kids.map F.d).length = x.kids.length := by simp
   have hge : ∀ i, i ≤ x.kids.length → i ≤ F.nodesL (x.kids.take i) := fun i hi => by
    have := zCs (x.kids.take i)
    rw [List.length_take] at this; omega
   rw [F.d_eq]
   repeat' (first | with_reducible (apply swq; constructor) | simp only [go_sem, seval, P18, q18, hlen] | with_reducible intro _)
   refine zAu [0, 1, 2, 3, 4, 5] (fun i : Nat => ⟨[.agg x.cells, .int .i64 m, .ptr 0 0, .int .i64 0, .int .i64 (min (1 + F.nodesL (x.kids.take i)) (m + 1) : Nat), .int .i64 i, .u0], [], ⟨[.cells x.cells], []⟩⟩) (fun i => i ≤ x.kids.length ∧ i ≤ m + 1) (fun i => m + 2 - i) 0 ⟨by omega, by omega⟩ ?_ ?_
   ·simp [keepE, St.keep, F.nodesL]
    try omega
   ·rintro i ⟨hi, him⟩
    by_cases hil : i < x.kids.length
    ·by_cases hle : 1 + F.nodesL (x.kids.take i) ≤ m
     ·have hmin : min (1 + F.nodesL (x.kids.take i)) (m + 1) = 1 + F.nodesL (x.kids.take i) := by omega
      have hst := zFp x.kids i hil
      have hg : (x.kids.map F.d).getD i .u0 = .agg (x.kids[i]).cells := by simp [List.getD, hil, F.d_eq]
      have c1 := ih _ (List.getElem_mem hil) (m - (1 + F.nodesL (x.kids.take i))) (by omega)
      have hck := zAd (x.kids[i]).kids
      have hek := erL_F (x.kids[i]).kids
      have hlei := hge i hi
      rw [F.d_eq] at c1
      rw [hmin]
      generalize F.nodesL (x.kids.take i) = z at *
      generalize hz0 : F.nodesL (x.kids.take (i + 1)) = z' at *
      have hsub : ((m : Int) - ((1 + z : Nat) : Int)) = ((m - (1 + z) : Nat) : Int) := by omega
      generalize hq : m - (1 + z) = q at *
      have wQ := And.intro @hlen (And.intro @hg (And.intro @hck @hek)); repeat' (first | with_reducible (apply swq; constructor) | simp only [go_sem, seval, P18, q18, hlen, hg, hsub] | simp (disch := omega) only [wA] | ((with_reducible refine zAb (c1) ?he ?hc ?_); (case he | hc => exact sc wQ)) | (with_reducible first | (apply cdA; constructor) | (apply gdA; constructor)) | ((with_reducible refine And.intro ?hw ?_); (case hw => exact sw wQ)) | with_reducible intro _)
      all_goals try (exfalso; omega)
      refine ⟨i + 1, ⟨by omega, by omega⟩, by omega, ?_⟩
      simp [keepE, St.keep, hz0]
      try omega
     ·have hle2 := nodesL_le x.kids i
      have hmin : min (1 + F.nodesL (x.kids.take i)) (m + 1) = m + 1 := by omega
      have hres : min x.nodes (m + 1) = m + 1 := by omega
      rw [hmin, hres]
      have wQ := @hlen; repeat' (first | with_reducible (apply swq; constructor) | simp only [go_sem, seval, P18, q18, hlen] | simp (disch := omega) only [wA] | (with_reducible first | (apply cdA; constructor) | (apply gdA; constructor)) | ((with_reducible refine And.intro ?hw ?_); (case hw => exact sw wQ)) | with_reducible intro _)
      all_goals try (exfalso; omega)
      all_goals simp [D.closed, D.er]
    ·have hie : i = x.kids.length := by omega
     subst hie
     rw [List.take_length, ← hN]
     by_cases hle : x.nodes ≤ m
     ·have hmin : min x.nodes (m + 1) = x.nodes := by omega
      rw [hmin]
      repeat' (first | with_reducible (apply swq; constructor) | simp only [go_sem, seval, P18, q18, hlen] | simp (disch := omega) only [wA] | (with_reducible first | (apply cdA; constructor) | (apply gdA; constructor)) | with_reducible intro _)
      all_goals try (exfalso; omega)
      all_goals simp [D.closed, D.er]
     ·have hmin : min x.nodes (m + 1) = m + 1 := by omega
      rw [hmin]
      repeat' (first | with_reducible (apply swq; constructor) | simp only [go_sem, seval, P18, q18, hlen] | simp (disch := omega) only [wA] | (with_reducible first | (apply cdA; constructor) | (apply gdA; constructor)) | with_reducible intro _)
      all_goals try (exfalso; omega)
      all_goals simp [D.closed, D.er]
end Go.Proofs.YtkjnhkoipgdfeaaGreatDoor
end
section
set_option maxRecDepth 100000
set_option linter.unusedSimpArgs false
set_option linter.unusedVariables false
namespace Go.Proofs.YtkjnhkoipgdfeaaGreatDoor
open Go GoV
theorem all_bad {p : F → Bool} {ks : List F} {i : Nat} (hi : i < ks.length) (h : p ks[i] = false) : ks.all p = false := by
 rw [List.all_eq_false]; exact ⟨ks[i], List.getElem_mem hi, by simp [h]⟩
theorem all_good {p : F → Bool} {ks : List F} (h : ∀ j (h : j < ks.length), p ks[j] = true) : ks.all p = true := by
 rw [List.all_eq_true]
 intro y hy
 obtain ⟨j, hj, rfl⟩ := List.getElem_of_mem hy
 exact h j hj
theorem want_cases (op : Int) : (op = 11 → want op = 3) ∧ (op ≠ 11 → 5 ≤ op → want op = 2) ∧ (op ≠ 11 → ¬ 5 ≤ op → want op = 0) := by
 unfold want
 refine ⟨fun h => by rw [if_pos h], fun h h2 => by rw [if_neg h, if_pos h2], fun h h2 => by rw [if_neg h, if_neg h2]⟩
set_option maxHeartbeats 1000000 in
theorem right_p : ∀ (k : Nat) (x : F), x.nodes ≤ k → x.nodes ≤ 1000 → Pur M 29 [x.d] (.bool x.well)
 | 0, x, hk, _ => by have := zBe x; omega
 | k + 1, x, hk, hx => by
   have ih : ∀ y ∈ x.kids, Pur M 29 [y.d] (.bool y.well) := fun y hy => right_p k y (by have := zAx hy; omega) (by have := zAx hy; omega)
   refine k29.ok (C := C29) rfl rfl ?_
   rw [i29]
   unfold c29
   have hlen : (x.kids.map F.d).length = x.kids.length := by simp
   have hkl : x.kids.length < 1000 := by have := zCs x.kids; have := F.nodes_eq x; omega
   rw [F.d_eq, F.well_eq, zD8]
   cases hok : okN x.op x.num x.kids.length
   ·rw [Bool.false_and]
    unfold okN at hok
    have hok := of_decide_eq_false hok
    obtain ⟨hw1, hw2, hw3⟩ := want_cases x.op
    generalize want x.op = wn at *
    repeat' (first | with_reducible (apply swq; constructor) | simp only [go_sem, seval, P29, q29, hlen] | simp (disch := omega) only [wA] | (with_reducible first | (apply cdA; constructor) | (apply gdA; constructor)) | with_reducible intro _)
    all_goals try (exfalso; omega)
    all_goals simp [D.closed, D.er]
   ·rw [Bool.true_and]
    unfold okN at hok
    have hok := of_decide_eq_true hok
    obtain ⟨hw1, hw2, hw3⟩ := want_cases x.op
    generalize want x.op = wn at *
    repeat' (first | with_reducible (apply swq; constructor) | simp only [go_sem, seval, P29, q29, hlen] | simp (disch := omega) only [wA] | (with_reducible first | (apply cdA; constructor) | (apply gdA; constructor)) | with_reducible intro _)
    all_goals try (exfalso; omega)
    all_goals
     refine zBz [9, 10, 11] 0 0 (Nat.le_refl 0) (Nat.le_refl 0) (fun i : Nat => ⟨[.u0, .u0, .u0, .u0, .u0, .u0, .u0, .u0, .u0, .slice (x.kids.map F.d) .no, .int .i64 x.kids.length, .int .i64 i, .u0, .u0], [], ⟨[], []⟩⟩) (fun i => i ≤ x.kids.length ∧ ∀ j (h : j < x.kids.length), j < i → (x.kids[j]).well = true) (fun i => x.kids.length - i) 0 ⟨by omega, fun j h h' => by omega⟩ ?_ ?_
     ·simp [keepE, St.keep, St.keepG, St.gc, Hp.cut, D.rn, D.rnL, Blk.rnL, Blk.rn, Tv.rnL, cutF, Own.rn, rnL_F]
     ·rintro i ⟨hi, hb⟩
      by_cases hil : i < x.kids.length
      ·have hg : (x.kids.map F.d).getD i .u0 = .agg (x.kids[i]).cells := by simp [List.getD, hil, F.d_eq]
       have c1 := ih _ (List.getElem_mem hil)
       have hck := zAd (x.kids[i]).kids
       have hek := erL_F (x.kids[i]).kids
       rw [F.d_eq] at c1
       cases hs : F.well x.kids[i]
       ·rw [hs] at c1
        rw [all_bad hil hs]
        have wQ := And.intro @hlen (And.intro @hg (And.intro @hck @hek)); repeat' (first | with_reducible (apply swq; constructor) | simp only [go_sem, seval, P29, q29, hlen, hg] | simp (disch := omega) only [wA] | ((with_reducible refine zAb (c1) ?he ?hc ?_); (case he | hc => exact sc wQ)) | (with_reducible (apply cdA; constructor)) | ((with_reducible refine And.intro ?hw ?_); (case hw => exact sw wQ)) | with_reducible intro _)
        all_goals try (exfalso; omega)
        all_goals simp [D.closed, D.er]
       ·rw [hs] at c1
        have wQ := And.intro @hlen (And.intro @hg (And.intro @hck @hek)); repeat' (first | with_reducible (apply swq; constructor) | simp only [go_sem, seval, P29, q29, hlen, hg] | simp (disch := omega) only [wA] | ((with_reducible refine zAb (c1) ?he ?hc ?_); (case he | hc => exact sc wQ)) | (with_reducible (apply cdA; constructor)) | ((with_reducible refine And.intro ?hw ?_); (case hw => exact sw wQ)) | with_reducible intro _)
        all_goals try (exfalso; omega)
        all_goals refine ⟨i + 1, ⟨by omega, fun j h h' => by
         by_cases e : j = i
         ·subst e; exact hs
         ·exact hb j h (by omega)⟩, by omega, ?_⟩
        all_goals simp [keepE, St.keep, St.keepG, St.gc, Hp.cut, D.rn, D.rnL, Blk.rnL, Blk.rn, Tv.rnL, cutF, Own.rn, rnL_F]
      ·rw [all_good fun j h => hb j h (by omega)]
       have wQ := @hlen; repeat' (first | with_reducible (apply swq; constructor) | simp only [go_sem, seval, P29, q29, hlen] | simp (disch := omega) only [wA] | (with_reducible (apply cdA; constructor)) | ((with_reducible refine And.intro ?hw ?_); (case hw => exact sw wQ)) | with_reducible intro _)
       all_goals try (exfalso; omega)
       all_goals simp [D.closed, D.er]
theorem valid_p (x : F) : Pur M 10 [x.d] (.bool x.valid) := by
 refine k10.ok (C := C10) rfl rfl ?_
 rw [i10]
 unfold c10
 have c1 := nodes_p x.nodes x (Nat.le_refl _) 60 (by omega)
 have hck := zAd x.kids
 have hek := erL_F x.kids
 unfold F.valid
 by_cases h : x.nodes ≤ 60
 ·have c2 := right_p x.nodes x (Nat.le_refl _) (by omega)
  rw [decide_eq_true h, Bool.true_and]
  rw [F.d_eq] at c1 c2 ⊢
  rw [show min x.nodes (60 + 1) = x.nodes by omega] at c1
  generalize x.nodes = q at *
  have hd : decide ((q : Int) ≤ 60) = true := decide_eq_true (by omega)
  have wQ := And.intro @hck @hek; repeat' (first | with_reducible (apply swq; constructor) | simp only [go_sem, seval, P10, q10, hd] | ((with_reducible refine zAb (c1) ?he ?hc ?_); (case he | hc => exact sc wQ)) | ((with_reducible refine zAb (c2) ?he ?hc ?_); (case he | hc => exact sc wQ)) | with_reducible intro _)
  all_goals first | omega | (simp_all [D.closed, D.er, D.cL, D.erL]; done) | (simp_all [D.closed, D.er, D.cL, D.erL] <;> omega)
 ·rw [decide_eq_false h, Bool.false_and]
  rw [F.d_eq] at c1 ⊢
  rw [show min x.nodes (60 + 1) = 61 by omega] at c1
  have wQ := And.intro @hck @hek; repeat' (first | with_reducible (apply swq; constructor) | simp only [go_sem, seval, P10, q10] | ((with_reducible refine zAb (c1) ?he ?hc ?_); (case he | hc => exact sc wQ)) | (with_reducible (apply gdA; constructor)) | with_reducible intro _)
  all_goals first | omega | (simp_all [D.closed, D.er, D.cL, D.erL]; done) | (simp_all [D.closed, D.er, D.cL, D.erL] <;> omega)
theorem few_p (x : F) : Pur M 5 [x.d] (.bool (decide (x.nodes ≤ 80))) := by
 refine k5.ok (C := C5) rfl rfl ?_
 rw [i5]
 unfold c5
 have c1 := rnodes_p x.nodes x (Nat.le_refl _) 80 (by omega)
 have hck := zAd x.kids
 have hek := erL_F x.kids
 rw [F.d_eq] at c1 ⊢
 by_cases h : x.nodes ≤ 80
 ·rw [decide_eq_true h]
  rw [show min x.nodes (80 + 1) = x.nodes by omega] at c1
  generalize x.nodes = q at *
  have hd : decide ((q : Int) ≤ 80) = true := decide_eq_true (by omega)
  have wQ := And.intro @hck @hek; repeat' (first | with_reducible (apply swq; constructor) | simp only [go_sem, seval, P5, q5, hd] | ((with_reducible refine zAb (c1) ?he ?hc ?_); (case he | hc => exact sc wQ)) | with_reducible intro _)
  all_goals first | omega | (simp_all [D.closed, D.er, D.cL, D.erL]; done) | (simp_all [D.closed, D.er, D.cL, D.erL] <;> omega)
 ·rw [decide_eq_false h]
  rw [show min x.nodes (80 + 1) = 81 by omega] at c1
  have wQ := And.intro @hck @hek; repeat' (first | with_reducible (apply swq; constructor) | simp only [go_sem, seval, P5, q5] | ((with_reducible refine zAb (c1) ?he ?hc ?_); (case he | hc => exact sc wQ)) | with_reducible intro _)
  all_goals first | omega | (simp_all [D.closed, D.er, D.cL, D.erL]; done) | (simp_all [D.closed, D.er, D.cL, D.erL] <;> omega)
abbrev ivD (i : Iv) : D := .agg [.int .i64 i.1, .int .i64 i.2]
@[reducible] def useD (u : Use) : D := .agg [.int .i64 u.km.1, .int .i64 u.km.2, .int .i64 u.cy.1, .int .i64 u.cy.2, .int .i64 u.ld.1, .int .i64 u.ld.2]
instance (i : Iv) : Decidable (okI i) := by unfold okI; infer_instance
instance (i : Iv) (n : Int) : Decidable (In i n) := by unfold In; infer_instance
instance (a b : Iv) : Decidable (Sub a b) := by unfold Sub; infer_instance
theorem upart_p (i : Iv) : Pur M 52 [ivD i] (.bool (useI i)) := by
 refine k52.ok (C := C52) rfl rfl ?_
 rw [i52]
 unfold c52
 unfold useI
 cases e1 : decide (i.1 ≥ 0) <;> cases e2 : decide (i.1 ≤ i.2) <;> cases e3 : decide (i.2 ≤ 1000000)
 all_goals
  repeat' (first | with_reducible (apply swq; constructor) | simp only [go_sem, seval, P52, q52, e1, e2, e3] | with_reducible intro _)
  all_goals simp [D.closed, D.er]
  all_goals (simp only [decide_eq_true_eq, decide_eq_false_iff_not] at e1 e2 e3; first | done | omega)
theorem use_p (u : Use) : Pur M 36 [useD u] (.bool u.good) := by
 refine k36.ok (C := C36) rfl rfl ?_
 rw [i36]
 unfold c36
 have c1 := upart_p u.km
 have c2 := upart_p u.cy
 have c3 := upart_p u.ld
 unfold Use.good
 generalize useI u.km = b1 at *
 generalize useI u.cy = b2 at *
 generalize useI u.ld = b3 at *
 cases b1 <;> cases b2 <;> cases b3
 all_goals
  have wQ := tw; repeat' (first | with_reducible (apply swq; constructor) | simp only [go_sem, seval, P36, q36] | ((with_reducible refine zAb (c1) ?he ?hc ?_); (case he | hc => exact sc wQ)) | ((with_reducible refine zAb (c2) ?he ?hc ?_); (case he | hc => exact sc wQ)) | ((with_reducible refine zAb (c3) ?he ?hc ?_); (case he | hc => exact sc wQ)) | with_reducible intro _)
  all_goals simp [D.closed, D.er]
theorem okI_dec (i : Iv) : decide (okI i) = (decide (-1000000000000 ≤ i.1) && decide (i.1 ≤ i.2) && decide (i.2 ≤ 1000000000000)) := by
 rw [Bool.eq_iff_iff, decide_eq_true_iff]; simp [okI, and_assoc]
theorem zFz (i : Iv) : Pur M 138 [ivD i] (.bool (decide (okI i))) := by
 refine k138.ok (C := C138) rfl rfl ?_
 rw [i138]
 unfold c138
 rw [okI_dec]
 cases e1 : decide (-1000000000000 ≤ i.1) <;> cases e2 : decide (i.1 ≤ i.2) <;> cases e3 : decide (i.2 ≤ 1000000000000)
 all_goals
  repeat' (first | with_reducible (apply swq; constructor) | simp only [go_sem, seval, P138, q138, e1, e2, e3] | with_reducible intro _)
  all_goals simp [D.closed, D.er]
  all_goals (simp only [decide_eq_true_eq, decide_eq_false_iff_not] at e1 e2 e3; first | done | omega)
theorem of_p (a b : Int) : Pur M 17 [.int .i64 a, .int .i64 b] (ivD (a, b)) := by
 refine k17.ok (C := C17) rfl rfl ?_
 rw [i17]
 unfold c17
 repeat' (first | with_reducible (apply swq; constructor) | simp only [go_sem, seval, P17, q17] | with_reducible intro _)
 all_goals first | omega | (simp_all [D.closed, D.er, D.cL, D.erL]; done) | (simp_all [D.closed, D.er, D.cL, D.erL] <;> omega)
end Go.Proofs.YtkjnhkoipgdfeaaGreatDoor
end
section
set_option maxRecDepth 100000
set_option linter.unusedSimpArgs false
set_option linter.unusedVariables false
namespace Go.Proofs.YtkjnhkoipgdfeaaGreatDoor
open Go GoV Go.RowKit
theorem minW (a b : Int) : (if b < a then b else a) = min a b := by split <;> omega
theorem maxW (a b : Int) : (if b > a then b else a) = max a b := by split <;> omega
theorem bq1 : (false == false) = true := rfl
theorem bq2 : (true == true) = true := rfl
theorem bq3 : (false == true) = false := rfl
theorem bq4 : (true == false) = false := rfl
theorem sat117_p (a : Int) : Pur M 140 [.int .i64 a] (.int .i64 (sat a)) := by
 refine k140.ok (C := C140) rfl rfl ?_
 rw [i140]
 unfold c140
 have e : sat a = max (-1000000000000) (min a 1000000000000) := rfl
 rw [e]
 repeat' (first | with_reducible (apply swq; constructor) | simp only [go_sem, seval, P140, q140, minW, maxW] | with_reducible intro _)
 all_goals first | omega | (simp_all [D.closed, D.er, D.cL, D.erL]; done) | (simp_all [D.closed, D.er, D.cL, D.erL] <;> omega)
theorem zDy (a : Int) : Pur M 34 [.int .i64 a] (.int .i64 (sat a)) := by
 refine k34.ok (C := C34) rfl rfl ?_
 rw [i34]
 unfold c34
 have e : sat a = max (-1000000000000) (min a 1000000000000) := rfl
 rw [e]
 repeat' (first | with_reducible (apply swq; constructor) | simp only [go_sem, seval, P34, q34, minW, maxW] | with_reducible intro _)
 all_goals first | omega | (simp_all [D.closed, D.er, D.cL, D.erL]; done) | (simp_all [D.closed, D.er, D.cL, D.erL] <;> omega)
theorem cut_p (a : Int) : Pur M 31 [.int .i64 a] (.int .i64 (sat a)) := by
 refine k31.ok (C := C31) rfl rfl ?_
 rw [i31]
 unfold c31
 have e : sat a = max (-1000000000000) (min a 1000000000000) := rfl
 rw [e]
 repeat' (first | with_reducible (apply swq; constructor) | simp only [go_sem, seval, P31, q31, minW, maxW] | with_reducible intro _)
 all_goals first | omega | (simp_all [D.closed, D.er, D.cL, D.erL]; done) | (simp_all [D.closed, D.er, D.cL, D.erL] <;> omega)
theorem plus_p (a b : Int) (ha : Rg a) (hb : Rg b) : Pur M 135 [.int .i64 a, .int .i64 b] (.int .i64 (sat (a + b))) := by
 refine k135.ok (C := C135) rfl rfl ?_
 rw [i135]
 unfold c135
 obtain ⟨h1, h2⟩ := ha
 obtain ⟨h3, h4⟩ := hb
 have c1 := sat117_p (a + b)
 generalize sat (a + b) = z at *
 have wQ := tw; repeat' (first | with_reducible (apply swq; constructor) | simp only [go_sem, seval, P135, q135] | simp (disch := omega) only [wA] | ((with_reducible refine zAb (c1) ?he ?hc ?_); (case he | hc => exact sc wQ)) | with_reducible intro _)
 all_goals first | omega | (simp_all [D.closed, D.er, D.cL, D.erL]; done) | (simp_all [D.closed, D.er, D.cL, D.erL] <;> omega)
theorem minus_p (a b : Int) (ha : Rg a) (hb : Rg b) : Pur M 136 [.int .i64 a, .int .i64 b] (.int .i64 (sat (a - b))) := by
 refine k136.ok (C := C136) rfl rfl ?_
 rw [i136]
 unfold c136
 obtain ⟨h1, h2⟩ := ha
 obtain ⟨h3, h4⟩ := hb
 have c1 := sat117_p (a - b)
 generalize sat (a - b) = z at *
 have wQ := tw; repeat' (first | with_reducible (apply swq; constructor) | simp only [go_sem, seval, P136, q136] | simp (disch := omega) only [wA] | ((with_reducible refine zAb (c1) ?he ?hc ?_); (case he | hc => exact sc wQ)) | with_reducible intro _)
 all_goals first | omega | (simp_all [D.closed, D.er, D.cL, D.erL]; done) | (simp_all [D.closed, D.er, D.cL, D.erL] <;> omega)
theorem mul64_p (x y : Nat) (hx : x < 18446744073709551616) (hy : y < 18446744073709551616) : Pur M 141 [.int .u64 x, .int .u64 y] (.tup [.int .u64 (x * y / 18446744073709551616 : Nat), .int .u64 (x * y % 18446744073709551616 : Nat)]) := by
 refine pur_ext (vs := [.int .u64 x, .int .u64 y]) (v := .tuple #[.int .u64 (x * y / 18446744073709551616 : Nat), .int .u64 (x * y % 18446744073709551616 : Nat)]) ⟨Tryz.f141, Tryz.func141, rfl, rfl⟩ (fun w I xs h => ?_) (fun w I => ?_) (fun w hA => ?_)
 ·obtain ⟨x, xs', rfl, g1, g2⟩ := h.inv
  obtain ⟨x2, xs2, rfl, g3, g4⟩ := g2.inv
  simp only [Rel] at g1 g3
  rw [g4.inv_nil, g1, g3]
 ·simp only [Rel]
  exact ⟨_, rfl, by simp [RelL, Rel]⟩
 ·refine (Tryz.bits_Mul64 x y hx hy w).mono fun e w' h' => ?_
  obtain ⟨rfl, rfl⟩ := h'
  exact ⟨rfl, ⟨rfl, rfl, rfl, Nat.le_refl _, fun _ _ => rfl⟩⟩
theorem mul_abs (a b : Int) : a * b = if (decide (a < 0)) = decide (b < 0) then ((a.natAbs * b.natAbs : Nat) : Int) else -((a.natAbs * b.natAbs : Nat) : Int) := by
 rcases Int.natAbs_eq a with h | h <;> rcases Int.natAbs_eq b with g | g
 all_goals
  rw [Int.natCast_mul]
  generalize a.natAbs = x at *
  generalize b.natAbs = y at *
  subst h; subst g
 ·rw [if_pos (by simp; omega)]
 ·by_cases hy : y = 0
  ·subst hy; simp
  ·rw [if_neg (by simp; omega)]; rw [Int.mul_neg]
 ·by_cases hx : x = 0
  ·subst hx; simp
  ·rw [if_neg (by simp; omega)]; rw [Int.neg_mul]
 ·by_cases hx : x = 0
  ·subst hx; simp
  ·by_cases hy : y = 0
   ·subst hy; simp
   ·rw [if_pos (by simp; omega)]; rw [Int.neg_mul_neg]
theorem abs_max (a : Int) : max a (0 - a) = (a.natAbs : Int) := by omega
set_option maxHeartbeats 1000000 in
theorem times_p (a b : Int) (ha : Rg a) (hb : Rg b) : Pur M 137 [.int .i64 a, .int .i64 b] (.int .i64 (sat (a * b))) := by
 refine k137.ok (C := C137) rfl rfl ?_
 rw [i137]
 unfold c137
 obtain ⟨h1, h2⟩ := ha
 obtain ⟨h3, h4⟩ := hb
 have hx : a.natAbs ≤ 1000000000000 := by omega
 have hy : b.natAbs ≤ 1000000000000 := by omega
 have c1 := mul64_p a.natAbs b.natAbs (by omega) (by omega)
 have hm := Nat.mul_le_mul hx hy
 have em := mul_abs a b
 have ea := abs_max a
 have eb := abs_max b
 have e : sat (a * b) = max (-1000000000000) (min (a * b) 1000000000000) := rfl
 generalize sat (a * b) = sz at *
 generalize a.natAbs * b.natAbs = p at *
 have d1 : p / 18446744073709551616 = 0 ↔ p < 18446744073709551616 := by omega
 have d2 : p < 18446744073709551616 → p % 18446744073709551616 = p := fun h => Nat.mod_eq_of_lt h
 have d3 : p / 18446744073709551616 < 18446744073709551616 := by omega
 have d4 : p % 18446744073709551616 < 18446744073709551616 := by omega
 generalize p / 18446744073709551616 = hi at *
 generalize p % 18446744073709551616 = lo at *
 generalize a * b = z at *
 cases ta : decide (a < 0) <;> cases tb : decide (b < 0)
 all_goals
  rw [ta, tb] at em
  simp only [Bool.false_eq_true, Bool.true_eq_false, reduceIte, reduceCtorEq] at em
  generalize a.natAbs = x at *
  generalize b.natAbs = y at *
  have wQ := tw; repeat' (first | with_reducible (apply swq; constructor) | simp only [go_sem, seval, P137, q137, minW, maxW, ta, tb, ea, eb, bq1, bq2, bq3, bq4, Bool.not_true, Bool.not_false] | simp (disch := omega) only [wA] | ((with_reducible refine zAb (c1) ?he ?hc ?_); (case he | hc => exact sc wQ)) | (with_reducible first | (apply cdA; constructor) | (apply gdA; constructor)) | with_reducible intro _)
  all_goals try (exfalso; omega)
  all_goals simp only [decide_eq_true_eq, decide_eq_false_iff_not] at ta tb
  all_goals clear ea eb
  all_goals simp only [D.closed, D.er, List.getElem?_cons_zero, List.getElem?_cons_succ, Option.getD_some, true_and, D.int.injEq]
  all_goals omega
theorem ediv_tdiv {a b : Int} (hb : 0 < b) : a / b = if a.tdiv b * b ≠ a ∧ a < 0 then a.tdiv b - 1 else a.tdiv b := by
 have hq := Int.tdiv_eq_ediv (a := a) (b := b)
 have hs : b.sign = 1 := Int.sign_eq_one_of_pos hb
 generalize a.tdiv b = q at *
 by_cases h0 : 0 ≤ a
 ·rw [if_pos (Or.inl h0)] at hq
  rw [if_neg (by omega)]; omega
 ·by_cases hd : b ∣ a
  ·rw [if_pos (Or.inr hd)] at hq
   have := Int.ediv_mul_cancel hd
   rw [if_neg]
   ·omega
   ·rintro ⟨h, _⟩
    exact h (by rw [hq, Int.add_zero]; exact this)
  ·rw [if_neg (fun h => h.elim h0 hd), hs] at hq
   rw [if_pos]
   ·omega
   ·exact ⟨fun h => hd ⟨q, by rw [Int.mul_comm]; exact h.symm⟩, by omega⟩
theorem fl_tdiv {a b : Int} (hb : b ≠ 0) : fl a b = if a.tdiv b * b ≠ a ∧ decide (a < 0) ≠ decide (b < 0) then a.tdiv b - 1 else a.tdiv b := by
 unfold fl
 rw [if_neg hb]
 by_cases hp : 0 < b
 ·rw [if_pos hp, ediv_tdiv hp]
  have : decide (b < 0) = false := by simp; omega
  rw [this]
  by_cases hc : a.tdiv b * b ≠ a ∧ a < 0
  ·rw [if_pos hc, if_pos ⟨hc.1, by simp [hc.2]⟩]
  ·rw [if_neg hc, if_neg (by simpa using hc)]
 ·rw [if_neg hp, ediv_tdiv (by omega)]
  have : decide (b < 0) = true := by simp; omega
  rw [this, Int.neg_tdiv_neg, Int.mul_neg]
  by_cases h0 : a = 0
  ·subst h0; simp
  ·by_cases hc : a.tdiv b * b ≠ a ∧ ¬ a < 0
   ·rw [if_pos ⟨by omega, by omega⟩, if_pos ⟨hc.1, by simp; omega⟩]
   ·rw [if_neg (by omega), if_neg (by simp only [ne_eq, decide_eq_true_eq]; exact hc)]
theorem tdiv_rng {a b : Int} (ha : Rg a) : Rg (a.tdiv b) ∧ Rg (a.tdiv b * b) := by
 have h1 : (a.tdiv b).natAbs = a.natAbs / b.natAbs := Int.natAbs_tdiv a b
 have h2 := Int.natAbs_mul (a.tdiv b) b
 rw [h1] at h2
 have h3 := Nat.div_mul_le_self a.natAbs b.natAbs
 have h4 := Nat.div_le_self a.natAbs b.natAbs
 obtain ⟨g1, g2⟩ := ha
 generalize a.natAbs / b.natAbs * b.natAbs = u at *
 generalize a.natAbs / b.natAbs = v at *
 generalize a.tdiv b * b = m at *
 generalize a.tdiv b = q at *
 constructor <;> constructor <;> omega
set_option maxHeartbeats 1000000 in
theorem floor_p (a b : Int) (ha : Rg a) (hb : Rg b) : Pur M 133 [.int .i64 a, .int .i64 b] (.int .i64 (fl a b)) := by
 refine k133.ok (C := C133) rfl rfl ?_
 rw [i133]
 unfold c133
 by_cases h0 : b = 0
 ·subst h0
  have : fl a 0 = 0 := by simp [fl]
  rw [this]
  repeat' (first | with_reducible (apply swq; constructor) | simp only [go_sem, seval, P133, q133] | with_reducible intro _)
  all_goals first | omega | (simp_all [D.closed, D.er, D.cL, D.erL]; done) | (simp_all [D.closed, D.er, D.cL, D.erL] <;> omega)
 ·rw [fl_tdiv h0]
  have hr := tdiv_rng (b := b) ha
  obtain ⟨⟨r1, r2⟩, ⟨r3, r4⟩⟩ := hr
  obtain ⟨h1, h2⟩ := ha
  obtain ⟨h3, h4⟩ := hb
  generalize hm : a.tdiv b * b = m at *
  generalize hq : a.tdiv b = q at *
  have e0 : (b == 0) = false := by simp [h0]
  cases ta : decide (a < 0) <;> cases tb : decide (b < 0)
  all_goals
   by_cases hma : m = a
   ·have em : (m == a) = true := by simp [hma]
    have em' : (m != a) = false := by simp [hma]
    rw [if_neg (by simp [hma])]
    have wQ := tw; repeat' (first | with_reducible (apply swq; constructor) | simp only [go_sem, seval, P133, q133, hq, hm, em, em', e0, ta, tb, bq1, bq2, bq3, bq4, Bool.not_true, Bool.not_false] | simp (disch := omega) only [wA] | ((with_reducible refine And.intro ?hw ?_); (case hw => exact sw wQ)) | with_reducible intro _)
    all_goals try (exfalso; omega)
    all_goals simp [D.closed, D.er]
   ·have em : (m == a) = false := by simp [hma]
    have em' : (m != a) = true := by simp [hma]
    have wQ := tw; repeat' (first | with_reducible (apply swq; constructor) | simp only [go_sem, seval, P133, q133, hq, hm, em, em', e0, ta, tb, bq1, bq2, bq3, bq4, Bool.not_true, Bool.not_false] | simp (disch := omega) only [wA] | ((with_reducible refine And.intro ?hw ?_); (case hw => exact sw wQ)) | with_reducible intro _)
    all_goals try (exfalso; omega)
    all_goals simp [D.closed, D.er, hma]
end Go.Proofs.YtkjnhkoipgdfeaaGreatDoor
end
section
set_option maxRecDepth 100000
set_option linter.unusedSimpArgs false
set_option linter.unusedVariables false
namespace Go.Proofs.YtkjnhkoipgdfeaaGreatDoor
open Go GoV Go.RowKit
def mn (p q r s : Int) (i : Nat) : Int := if i ≤ 1 then p else if i = 2 then min p q else if i = 3 then min (min p q) r else min (min (min p q) r) s
def mx (p q r s : Int) (i : Nat) : Int := if i ≤ 1 then p else if i = 2 then max p q else if i = 3 then max (max p q) r else max (max (max p q) r) s
theorem mn_step (p q r s : Int) {i : Nat} (h1 : 1 ≤ i) (h2 : i < 4) : ∃ v, [D.int .i64 p, .int .i64 q, .int .i64 r, .int .i64 s].getD i .u0 = .int .i64 v ∧ mn p q r s (i + 1) = min (mn p q r s i) v ∧ mx p q r s (i + 1) = max (mx p q r s i) v := by
 have : i = 1 ∨ i = 2 ∨ i = 3 := by omega
 rcases this with rfl | rfl | rfl
 ·exact ⟨q, rfl, by simp [mn], by simp [mx]⟩
 ·exact ⟨r, rfl, by simp [mn], by simp [mx]⟩
 ·exact ⟨s, rfl, by simp [mn], by simp [mx]⟩
theorem smin_p (p q r s : Int) : Pur M 142 [.slice [.int .i64 p, .int .i64 q, .int .i64 r, .int .i64 s] .no] (.int .i64 (mn p q r s 4)) := by
 refine k142.ok (C := C142) rfl rfl ?_
 rw [i142]
 unfold c142
 have wQ := tw; repeat' (first | with_reducible (apply swq; constructor) | simp only [go_sem, seval, P142, q142] | with_reducible (apply cdA; constructor) | ((with_reducible refine And.intro ?hw ?_); (case hw => exact sw wQ)) | with_reducible intro _)
 all_goals try (exfalso; omega)
 refine zAu [0, 2, 3] (fun i : Nat => ⟨[.slice [.int .i64 p, .int .i64 q, .int .i64 r, .int .i64 s] .no, .u0, .int .i64 (mn p q r s i), .int .i64 i, .u0, .u0], [], ⟨[], []⟩⟩) (fun i => 1 ≤ i ∧ i ≤ 4) (fun i => 4 - i) 1 (by omega) ?_ ?_
 ·simp [keepE, St.keep, mn]
 ·rintro i ⟨h1, h2⟩
  by_cases hi : i < 4
  ·obtain ⟨v, hv, e1, e2⟩ := mn_step p q r s h1 hi
   have hd : decide ((i : Int) < 4) = true := by simp; omega
   generalize mn p q r s i = m at *
   have hlen : [D.int .i64 p, .int .i64 q, .int .i64 r, .int .i64 s].length = 4 := rfl
   generalize [D.int .i64 p, .int .i64 q, .int .i64 r, .int .i64 s] = L at *
   have wQ := And.intro @hlen @hv; repeat' (first | with_reducible (apply swq; constructor) | simp only [go_sem, seval, P142, q142, hlen, hd, hv, minW] | simp (disch := omega) only [wA] | with_reducible (apply cdA; constructor) | ((with_reducible refine And.intro ?hw ?_); (case hw => exact sw wQ)) | with_reducible intro _)
   all_goals try (exfalso; omega)
   refine ⟨i + 1, ⟨by omega, by omega⟩, by omega, ?_⟩
   simp [keepE, St.keep, e1]
  ·obtain rfl : i = 4 := by omega
   generalize mn p q r s 4 = m at *
   have wQ := tw; repeat' (first | with_reducible (apply swq; constructor) | simp only [go_sem, seval, P142, q142] | simp (disch := omega) only [wA] | with_reducible (apply cdA; constructor) | ((with_reducible refine And.intro ?hw ?_); (case hw => exact sw wQ)) | with_reducible intro _)
   all_goals try (exfalso; omega)
   all_goals simp [D.closed, D.er]
theorem smax_p (p q r s : Int) : Pur M 143 [.slice [.int .i64 p, .int .i64 q, .int .i64 r, .int .i64 s] .no] (.int .i64 (mx p q r s 4)) := by
 refine k143.ok (C := C143) rfl rfl ?_
 rw [i143]
 unfold c143
 have wQ := tw; repeat' (first | with_reducible (apply swq; constructor) | simp only [go_sem, seval, P143, q143] | with_reducible (apply cdA; constructor) | ((with_reducible refine And.intro ?hw ?_); (case hw => exact sw wQ)) | with_reducible intro _)
 all_goals try (exfalso; omega)
 refine zAu [0, 2, 3] (fun i : Nat => ⟨[.slice [.int .i64 p, .int .i64 q, .int .i64 r, .int .i64 s] .no, .u0, .int .i64 (mx p q r s i), .int .i64 i, .u0, .u0], [], ⟨[], []⟩⟩) (fun i => 1 ≤ i ∧ i ≤ 4) (fun i => 4 - i) 1 (by omega) ?_ ?_
 ·simp [keepE, St.keep, mx]
 ·rintro i ⟨h1, h2⟩
  by_cases hi : i < 4
  ·obtain ⟨v, hv, e1, e2⟩ := mn_step p q r s h1 hi
   have hd : decide ((i : Int) < 4) = true := by simp; omega
   generalize mx p q r s i = m at *
   have hlen : [D.int .i64 p, .int .i64 q, .int .i64 r, .int .i64 s].length = 4 := rfl
   generalize [D.int .i64 p, .int .i64 q, .int .i64 r, .int .i64 s] = L at *
   have wQ := And.intro @hlen @hv; repeat' (first | with_reducible (apply swq; constructor) | simp only [go_sem, seval, P143, q143, hlen, hd, hv, maxW] | simp (disch := omega) only [wA] | with_reducible (apply cdA; constructor) | ((with_reducible refine And.intro ?hw ?_); (case hw => exact sw wQ)) | with_reducible intro _)
   all_goals try (exfalso; omega)
   refine ⟨i + 1, ⟨by omega, by omega⟩, by omega, ?_⟩
   simp [keepE, St.keep, e2]
  ·obtain rfl : i = 4 := by omega
   generalize mx p q r s 4 = m at *
   have wQ := tw; repeat' (first | with_reducible (apply swq; constructor) | simp only [go_sem, seval, P143, q143] | simp (disch := omega) only [wA] | with_reducible (apply cdA; constructor) | ((with_reducible refine And.intro ?hw ?_); (case hw => exact sw wQ)) | with_reducible intro _)
   all_goals try (exfalso; omega)
   all_goals simp [D.closed, D.er]
theorem around_p (p q r s : Int) : Pur M 139 [.slice [.int .i64 p, .int .i64 q, .int .i64 r, .int .i64 s] .no] (ivD (min (min p q) (min r s), max (max p q) (max r s))) := by
 refine k139.ok (C := C139) rfl rfl ?_
 rw [i139]
 unfold c139
 have c1 := smin_p p q r s
 have c2 := smax_p p q r s
 have e1 : mn p q r s 4 = min (min p q) (min r s) := by simp only [mn]; omega
 have e2 : mx p q r s 4 = max (max p q) (max r s) := by simp only [mx]; omega
 rw [e1] at c1
 rw [e2] at c2
 generalize min (min p q) (min r s) = a at *
 generalize max (max p q) (max r s) = b at *
 have wQ := tw; repeat' (first | with_reducible (apply swq; constructor) | simp only [go_sem, seval, P139, q139] | ((with_reducible refine zAb (c1) ?he ?hc ?_); (case he | hc => exact sc wQ)) | ((with_reducible refine zAb (c2) ?he ?hc ?_); (case he | hc => exact sc wQ)) | with_reducible intro _)
 all_goals first | omega | (simp_all [D.closed, D.er, D.cL, D.erL]; done) | (simp_all [D.closed, D.er, D.cL, D.erL] <;> omega)
def bothI (g : Int → Int → Int) (A B : Iv) : Iv := if okI A ∧ okI B then corn g A B else (0, 0)
theorem both_p (f : FuncId) (g : Int → Int → Int) (hg : ∀ x y, Rg x → Rg y → Pur M f [.int .i64 x, .int .i64 y] (.int .i64 (g x y))) (A B : Iv) : Pur M 134 [ivD A, ivD B, .fn (.func f) [] []] (ivD (bothI g A B)) := by
 refine k134.ok (C := C134) rfl rfl ?_
 rw [i134]
 unfold c134
 have c1 := zFz A
 have c2 := zFz B
 unfold bothI
 by_cases h1 : okI A
 ·by_cases h2 : okI B
  ·rw [if_pos ⟨h1, h2⟩]
   rw [decide_eq_true h1] at c1
   rw [decide_eq_true h2] at c2
   obtain ⟨a1, a2, a3⟩ := h1
   obtain ⟨b1, b2, b3⟩ := h2
   have c3 := hg A.1 B.1 ⟨by omega, by omega⟩ ⟨by omega, by omega⟩
   have c4 := hg A.1 B.2 ⟨by omega, by omega⟩ ⟨by omega, by omega⟩
   have c5 := hg A.2 B.1 ⟨by omega, by omega⟩ ⟨by omega, by omega⟩
   have c6 := hg A.2 B.2 ⟨by omega, by omega⟩ ⟨by omega, by omega⟩
   unfold corn
   have c7 := around_p (g A.1 B.1) (g A.1 B.2) (g A.2 B.1) (g A.2 B.2)
   generalize g A.1 B.1 = x1 at *
   generalize g A.1 B.2 = x2 at *
   generalize g A.2 B.1 = x3 at *
   generalize g A.2 B.2 = x4 at *
   generalize min (min x1 x2) (min x3 x4) = lo at *
   generalize max (max x1 x2) (max x3 x4) = hi at *
   have wQ := tw; repeat' (first | with_reducible (apply swq; constructor) | simp only [go_sem, seval, P134, q134] | ((with_reducible refine zAb (c1) ?he ?hc ?_); (case he | hc => exact sc wQ)) | ((with_reducible refine zAb (c2) ?he ?hc ?_); (case he | hc => exact sc wQ)) | ((with_reducible refine zAb (c3) ?he ?hc ?_); (case he | hc => exact sc wQ)) | ((with_reducible refine zAb (c4) ?he ?hc ?_); (case he | hc => exact sc wQ)) | ((with_reducible refine zAb (c5) ?he ?hc ?_); (case he | hc => exact sc wQ)) | ((with_reducible refine zAb (c6) ?he ?hc ?_); (case he | hc => exact sc wQ)) | ((with_reducible refine zAb (c7) ?he ?hc ?_); (case he | hc => exact sc wQ)) | ((with_reducible apply s_bsl); (case he | hl | hc => exact sd wQ)) | with_reducible intro _)
   all_goals first | omega | (simp_all [D.closed, D.er, D.cL, D.erL]; done) | (simp_all [D.closed, D.er, D.cL, D.erL] <;> omega)
  ·rw [if_neg (fun h => h2 h.2)]
   rw [decide_eq_true h1] at c1
   rw [decide_eq_false h2] at c2
   have wQ := tw; repeat' (first | with_reducible (apply swq; constructor) | simp only [go_sem, seval, P134, q134] | ((with_reducible refine zAb (c1) ?he ?hc ?_); (case he | hc => exact sc wQ)) | ((with_reducible refine zAb (c2) ?he ?hc ?_); (case he | hc => exact sc wQ)) | with_reducible intro _)
   all_goals first | omega | (simp_all [D.closed, D.er, D.cL, D.erL]; done) | (simp_all [D.closed, D.er, D.cL, D.erL] <;> omega)
 ·rw [if_neg (fun h => h1 h.1)]
  rw [decide_eq_false h1] at c1
  have wQ := tw; repeat' (first | with_reducible (apply swq; constructor) | simp only [go_sem, seval, P134, q134] | ((with_reducible refine zAb (c1) ?he ?hc ?_); (case he | hc => exact sc wQ)) | with_reducible intro _)
  all_goals first | omega | (simp_all [D.closed, D.er, D.cL, D.erL]; done) | (simp_all [D.closed, D.er, D.cL, D.erL] <;> omega)
theorem add_p (A B : Iv) : Pur M 130 [ivD A, ivD B] (ivD (bothI (fun a b => sat (a + b)) A B)) := by
 refine k130.ok (C := C130) rfl rfl ?_
 rw [i130]
 unfold c130
 have c1 := both_p 135 (fun a b => sat (a + b)) (fun x y h1 h2 => plus_p x y h1 h2) A B
 generalize bothI (fun a b => sat (a + b)) A B = R at *
 have wQ := tw; repeat' (first | with_reducible (apply swq; constructor) | simp only [go_sem, seval, P130, q130] | ((with_reducible refine zAb (c1) ?he ?hc ?_); (case he | hc => exact sc wQ)) | with_reducible intro _)
 all_goals first | omega | (simp_all [D.closed, D.er, D.cL, D.erL]; done) | (simp_all [D.closed, D.er, D.cL, D.erL] <;> omega)
theorem sub_p (A B : Iv) : Pur M 131 [ivD A, ivD B] (ivD (bothI (fun a b => sat (a - b)) A B)) := by
 refine k131.ok (C := C131) rfl rfl ?_
 rw [i131]
 unfold c131
 have c1 := both_p 136 (fun a b => sat (a - b)) (fun x y h1 h2 => minus_p x y h1 h2) A B
 generalize bothI (fun a b => sat (a - b)) A B = R at *
 have wQ := tw; repeat' (first | with_reducible (apply swq; constructor) | simp only [go_sem, seval, P131, q131] | ((with_reducible refine zAb (c1) ?he ?hc ?_); (case he | hc => exact sc wQ)) | with_reducible intro _)
 all_goals first | omega | (simp_all [D.closed, D.er, D.cL, D.erL]; done) | (simp_all [D.closed, D.er, D.cL, D.erL] <;> omega)
theorem mul_p (A B : Iv) : Pur M 132 [ivD A, ivD B] (ivD (bothI (fun a b => sat (a * b)) A B)) := by
 refine k132.ok (C := C132) rfl rfl ?_
 rw [i132]
 unfold c132
 have c1 := both_p 137 (fun a b => sat (a * b)) (fun x y h1 h2 => times_p x y h1 h2) A B
 generalize bothI (fun a b => sat (a * b)) A B = R at *
 have wQ := tw; repeat' (first | with_reducible (apply swq; constructor) | simp only [go_sem, seval, P132, q132] | ((with_reducible refine zAb (c1) ?he ?hc ?_); (case he | hc => exact sc wQ)) | with_reducible intro _)
 all_goals first | omega | (simp_all [D.closed, D.er, D.cL, D.erL]; done) | (simp_all [D.closed, D.er, D.cL, D.erL] <;> omega)
theorem join_p (A B : Iv) (h1 : okI A) (h2 : okI B) : Pur M 150 [ivD A, ivD B] (ivD (joinI A B)) := by
 refine k150.ok (C := C150) rfl rfl ?_
 rw [i150]
 unfold c150
 have c1 := zFz A
 have c2 := zFz B
 rw [decide_eq_true h1] at c1
 rw [decide_eq_true h2] at c2
 have c3 := around_p A.1 A.2 B.1 B.2
 have e : joinI A B = (min (min A.1 A.2) (min B.1 B.2), max (max A.1 A.2) (max B.1 B.2)) := by
  obtain ⟨a1, a2, a3⟩ := h1
  obtain ⟨b1, b2, b3⟩ := h2
  simp only [joinI, Prod.mk.injEq]
  omega
 rw [e]
 generalize min (min A.1 A.2) (min B.1 B.2) = lo at *
 generalize max (max A.1 A.2) (max B.1 B.2) = hi at *
 have wQ := tw; repeat' (first | with_reducible (apply swq; constructor) | simp only [go_sem, seval, P150, q150] | ((with_reducible refine zAb (c1) ?he ?hc ?_); (case he | hc => exact sc wQ)) | ((with_reducible refine zAb (c2) ?he ?hc ?_); (case he | hc => exact sc wQ)) | ((with_reducible refine zAb (c3) ?he ?hc ?_); (case he | hc => exact sc wQ)) | ((with_reducible apply s_bsl); (case he | hl | hc => exact sd wQ)) | with_reducible intro _)
 all_goals first | omega | (simp_all [D.closed, D.er, D.cL, D.erL]; done) | (simp_all [D.closed, D.er, D.cL, D.erL] <;> omega)
def overI (A : Iv) : Int := if A.2 ≤ 0 then 0 else if 0 < A.1 then 2 else 1
theorem over_p (A : Iv) (h1 : okI A) : Pur M 149 [ivD A, .int .i64 0] (.int .i64 (overI A)) := by
 refine k149.ok (C := C149) rfl rfl ?_
 rw [i149]
 unfold c149
 have c1 := zFz A
 rw [decide_eq_true h1] at c1
 unfold overI
 by_cases g1 : A.2 ≤ 0
 ·rw [if_pos g1]
  have t1 : decide (A.2 ≤ 0) = true := by simp [g1]
  have wQ := tw; repeat' (first | with_reducible (apply swq; constructor) | simp only [go_sem, seval, P149, q149, t1] | ((with_reducible refine zAb (c1) ?he ?hc ?_); (case he | hc => exact sc wQ)) | with_reducible intro _)
  all_goals first | omega | (simp_all [D.closed, D.er, D.cL, D.erL]; done) | (simp_all [D.closed, D.er, D.cL, D.erL] <;> omega)
 ·rw [if_neg g1]
  have t1 : decide (A.2 ≤ 0) = false := by simp; omega
  by_cases g2 : 0 < A.1
  ·rw [if_pos g2]
   have t2 : decide (A.1 > 0) = true := by simp [g2]
   have wQ := tw; repeat' (first | with_reducible (apply swq; constructor) | simp only [go_sem, seval, P149, q149, t1, t2] | ((with_reducible refine zAb (c1) ?he ?hc ?_); (case he | hc => exact sc wQ)) | with_reducible intro _)
   all_goals first | omega | (simp_all [D.closed, D.er, D.cL, D.erL]; done) | (simp_all [D.closed, D.er, D.cL, D.erL] <;> omega)
  ·rw [if_neg g2]
   have t2 : decide (A.1 > 0) = false := by simp; omega
   have wQ := tw; repeat' (first | with_reducible (apply swq; constructor) | simp only [go_sem, seval, P149, q149, t1, t2] | ((with_reducible refine zAb (c1) ?he ?hc ?_); (case he | hc => exact sc wQ)) | with_reducible intro _)
   all_goals first | omega | (simp_all [D.closed, D.er, D.cL, D.erL]; done) | (simp_all [D.closed, D.er, D.cL, D.erL] <;> omega)
end Go.Proofs.YtkjnhkoipgdfeaaGreatDoor
end
section
set_option maxRecDepth 100000
set_option linter.unusedSimpArgs false
set_option linter.unusedVariables false
namespace Go.Proofs.YtkjnhkoipgdfeaaGreatDoor
open Go GoV Go.RowKit
def ivs (L : List Iv) : List D := L.map fun i => ivD i
theorem ivs_len (L : List Iv) : (ivs L).length = L.length := by simp [ivs]
theorem ivs_app (L L' : List Iv) : ivs (L ++ L') = ivs L ++ ivs L' := by simp [ivs]
theorem ivs_get {L : List Iv} {i : Nat} (h : i < L.length) : (ivs L).getD i .u0 = ivD (L.getD i (0, 0)) := by simp [ivs, List.getD, h]
theorem ivs_rn (β τ : Nat → Option Nat) : ∀ L : List Iv, D.rnL β τ (ivs L) = ivs L
 | [] => rfl
 | x :: L => by have := ivs_rn β τ L; simp_all [ivs, D.rnL, D.rn]
theorem ivs_elems : ∀ L : List Iv, zAk 2 (ivs L) = true
 | [] => rfl
 | x :: L => by have := ivs_elems L; simp_all [ivs, zAk, D.iV, D.cells]
def hpD (A : Iv) (L : List Iv) : Hp := ⟨[.cells [.int .i64 A.1, .int .i64 A.2], .cells [.slice (ivs L) (.tok 0)]], [.per 2 L.length]⟩
theorem signed_e (A : Iv) (hA : Rg A.1) (hA2 : Rg A.2) (L : List Iv) (hL : L.length ≤ 10) (l h : Int) (hl : Rg l) (hh : Rg h) : Eff M 151 [.int .i64 l, .int .i64 h, .ptr 0 0, .ptr 1 0] (hpD A L) fun d hp => d = .tup [] ∧ hp = hpD A (L ++ sgn A l h) := by
 refine k151.oe 2 1 rfl rfl rfl ?_
 rw [ie151]
 unfold c151
 unfold sgn
 by_cases hlh : l ≤ h
 ·have t0 : decide (l ≤ h) = true := by simp [hlh]
  rw [if_pos hlh]
  unfold hpD
  have wQ := tw; repeat' (first | with_reducible (apply swq; constructor) | simp only [go_sem, seval, pe151, q151, t0] | ((with_reducible apply s_bsl); (case he | hl | hc => exact sd wQ)) | with_reducible intro _)
  refine zAu [2, 3, 8, 9, 10] (fun i : Nat => ⟨[.u0, .u0, .ptr 0 0, .ptr 1 0, .u0, .u0, .u0, .u0, .slice [.int .i64 l, .int .i64 h] .full, .int .i64 2, .int .i64 i, .u0], [], hpD A (L ++ [flP A l, flP A h].take i)⟩) (fun i => i ≤ 2) (fun i => 2 - i) 0 (by omega) ?_ ?_
  ·simp [keepE, St.keep, hpD]
  ·intro i hi
   by_cases hi2 : i < 2
   ·have hd : decide ((i : Int) < 2) = true := by simp; omega
    have key : ∃ v, Rg v ∧ [D.int .i64 l, .int .i64 h].getD i .u0 = .int .i64 v ∧ [flP A l, flP A h].take (i + 1) = [flP A l, flP A h].take i ++ [flP A v] := by
     have : i = 0 ∨ i = 1 := by omega
     rcases this with rfl | rfl
     ·exact ⟨l, hl, rfl, rfl⟩
     ·exact ⟨h, hh, rfl, rfl⟩
    obtain ⟨v, hv, hg, ht⟩ := key
    have c1 := floor_p A.1 v hA hv
    have c2 := floor_p A.2 v hA2 hv
    have hT : ([flP A l, flP A h].take i).length = i := by rw [List.length_take]; simp; omega
    generalize [flP A l, flP A h].take i = T at *
    have hfp : flP A v = (min (fl A.1 v) (fl A.2 v), max (fl A.1 v) (fl A.2 v)) := rfl
    rw [hfp] at ht
    generalize fl A.1 v = x at *
    generalize fl A.2 v = y at *
    have hlen : [D.int .i64 l, .int .i64 h].length = 2 := rfl
    generalize [D.int .i64 l, .int .i64 h] = W at *
    have hil := ivs_len (L ++ T)
    have hel := ivs_elems (L ++ T)
    unfold hpD
    have wQ := And.intro @hlen (And.intro @hg (And.intro @hil @hel)); repeat' (first | with_reducible (apply swq; constructor) | simp only [go_sem, seval, pe151, q151, hlen, hd, hg, minW, maxW] | simp (disch := omega) only [wA] | ((with_reducible refine zAq (c1) ?he ?hc ?_); (case he | hc => exact sc wQ)) | ((with_reducible refine zAb (c2) ?he ?hc ?_); (case he | hc => exact sc wQ)) | ((with_reducible apply zEg); (case he => rfl); (case hK | hc | hr | hV => exact sd wQ)) | ((with_reducible apply s_bsl); (case he | hl | hc => exact sd wQ)) | ((with_reducible refine And.intro ?hw ?_); (case hw => exact sw wQ)) | with_reducible intro _)
    all_goals try (exfalso; simp only [List.length_append] at *; omega)
    refine ⟨i + 1, by omega, by omega, ?_⟩
    simp [keepE, St.keep, ht, ivs_app, ivs]
    try omega
   ·obtain rfl : i = 2 := by omega
    have hd : decide (((2 : Nat) : Int) < 2) = false := rfl
    unfold hpD
    repeat' (first | with_reducible (apply swq; constructor) | simp only [go_sem, seval, pe151, q151, hd] | with_reducible intro _)
    all_goals try (exfalso; omega)
    exact ⟨_, zAf, by simp⟩
 ·have t0 : decide (l ≤ h) = false := by simp; omega
  rw [if_neg hlh]
  repeat' (first | with_reducible (apply swq; constructor) | simp only [go_sem, seval, pe151, q151, t0] | with_reducible intro _)
  exact ⟨_, zAf, by simp⟩
end Go.Proofs.YtkjnhkoipgdfeaaGreatDoor
end
section
set_option maxRecDepth 100000
set_option linter.unusedSimpArgs false
set_option linter.unusedVariables false
namespace Go.Proofs.YtkjnhkoipgdfeaaGreatDoor
open Go GoV Go.RowKit
theorem flP_ok {A : Iv} (hA : okI A) (d : Int) : okI (flP A d) := by
 have h1 := fl_rng (b := d) (show Rg A.1 from ⟨hA.1, Int.le_trans hA.2.1 hA.2.2⟩)
 have h2 := fl_rng (b := d) (show Rg A.2 from ⟨Int.le_trans hA.1 hA.2.1, hA.2.2⟩)
 obtain ⟨a1, a2⟩ := h1
 obtain ⟨b1, b2⟩ := h2
 refine ⟨?_, ?_, ?_⟩ <;> simp only [flP] <;> omega
theorem pieces_ok {A B : Iv} (hA : okI A) : ∀ p ∈ zA9 A B, okI p := fun p hp => by
 obtain ⟨d, _, rfl⟩ := piece_mem hp
 exact flP_ok hA d
theorem join_ok {a b : Iv} (h1 : okI a) (h2 : okI b) : okI (joinI a b) := by
 simp only [okI, joinI] at *; omega
def jn (P : List Iv) (i : Nat) : Iv := (P.take i).foldl joinI (P.getD 0 (0, 0))
theorem jn_step {P : List Iv} {i : Nat} (h : i < P.length) : jn P (i + 1) = joinI (jn P i) (P.getD i (0, 0)) := by
 unfold jn
 rw [List.take_succ_eq_append_getElem h, List.foldl_append]
 simp [List.getD, h]
theorem jn_all {P : List Iv} (h : P ≠ []) : jn P P.length = hull P := by
 cases P with
 | nil => exact absurd rfl h
 | cons x l =>
   simp only [jn, List.take_length, List.getD_cons_zero, List.foldl_cons, hull]
   have : joinI x x = x := by simp only [joinI]; exact Prod.ext (by simp only; omega) (by simp only; omega)
   rw [this]
theorem jn_ok {P : List Iv} (hp : ∀ p ∈ P, okI p) (h0 : P ≠ []) : ∀ i, i ≤ P.length → okI (jn P i)
 | 0, _ => by
   cases P with
   | nil => exact absurd rfl h0
   | cons x l => simpa [jn] using hp x (by simp)
 | i + 1, h => by
   rw [jn_step (by omega)]
   have : P.getD i (0, 0) = P[i]'(by omega) := by simp [List.getD, show i < P.length by omega]
   exact join_ok (jn_ok hp h0 i (by omega)) (by rw [this]; exact hp _ (List.getElem_mem _))
theorem pieces_len (A B : Iv) : (zA9 A B).length ≤ 5 := by
 unfold zA9 sgn
 simp only [List.length_append]
 repeat' split
 all_goals simp
set_option maxHeartbeats 1000000 in
theorem divide_p (A B : Iv) (hA : okI A) (hB : okI B) : Pur M 148 [ivD A, ivD B] (ivD (divI A B)) := by
 refine k148.ok (C := C148) rfl rfl ?_
 rw [i148]
 unfold c148
 obtain ⟨R, hR⟩ : ∃ R, R = (.reg r148_2 : RC) := ⟨_, rfl⟩
 rw [← hR]
 repeat' (first | with_reducible (apply swq; constructor) | simp only [go_sem, seval, P148, q148] | with_reducible intro _)
 refine zDt (zCv 3 0 2 (by decide) rfl rfl) ?_
 subst hR
 have hne := pieces_ne (A := A) (B := B) hB.2.1
 have hpo := pieces_ok (B := B) hA
 have hpl := pieces_len A B
 have hpe : zA9 A B = ((if B.1 ≤ 0 ∧ 0 ≤ B.2 then [((0 : Int), (0 : Int))] else []) ++ sgn A (max B.1 1) B.2) ++ sgn A B.1 (min B.2 (-1)) := rfl
 have hA1 : Rg A.1 := ⟨hA.1, Int.le_trans hA.2.1 hA.2.2⟩
 have hA2 : Rg A.2 := ⟨Int.le_trans hA.1 hA.2.1, hA.2.2⟩
 obtain ⟨b1, b2, b3⟩ := hB
 have s1 := fun L hL => signed_e A hA1 hA2 L hL (max B.1 1) B.2 ⟨by omega, by omega⟩ ⟨by omega, by omega⟩
 have s2 := fun L hL => signed_e A hA1 hA2 L hL B.1 (min B.2 (-1)) ⟨by omega, by omega⟩ ⟨by omega, by omega⟩
 unfold hpD at s1 s2
 have key : ∀ Z : List Iv, Z = (if B.1 ≤ 0 ∧ 0 ≤ B.2 then [((0 : Int), (0 : Int))] else []) → Z.length ≤ 5 ∧ (Z ++ sgn A (max B.1 1) B.2).length ≤ 10 := by
  intro Z hZ
  rw [hpe, ← hZ] at hpl
  simp only [List.length_append] at *
  omega
 have hdv : divI A B = jn (zA9 A B) (zA9 A B).length := (jn_all hne).symm
 rw [hdv]
 have t1 := key _ rfl
 have hil := ivs_len (zA9 A B)
 have hpos : 0 < (zA9 A B).length := List.length_pos_iff.2 hne
 have hg0 := ivs_get hpos
 have e0 : ivs [] = [] := rfl
 by_cases h1 : B.1 ≤ 0 ∧ 0 ≤ B.2
 ·rw [if_pos h1] at hpe t1
  have d1 : decide (B.1 ≤ 0) = true := by simp [h1]
  have d2 : decide (B.2 ≥ 0) = true := by simp [h1]
  have s1 := s1 _ (by simp : ([((0 : Int), (0 : Int))] : List Iv).length ≤ 10)
  have s2 := s2 _ t1.2
  rw [← hpe] at s2
  have wQ := And.intro @minW (And.intro @maxW (And.intro @d1 (And.intro @d2 (And.intro @hil @hg0)))); repeat' (first | with_reducible (apply swq; constructor) | simp only [go_sem, seval, P148, q148, d1, d2, minW, maxW, hil, hg0] | ((with_reducible refine o_eff [0, 3] [0] (s1) ?hs ?he ?hh ?_); (case hs => exact so); (case he | hh => exact sh wQ); rintro _ _ ⟨rfl, rfl⟩) | ((with_reducible refine o_eff [0, 3] [0] (s2) ?hs ?he ?hh ?_); (case hs => exact so); (case he | hh => exact sh wQ); rintro _ _ ⟨rfl, rfl⟩) | ((with_reducible apply zEg); (case he => rfl); (case hK | hc | hr | hV => exact sd wQ)) | ((with_reducible apply s_bsl); (case he | hl | hc => exact sd wQ)) | ((with_reducible refine And.intro ?hw ?_); (case hw => exact sw wQ)) | with_reducible intro _)
  all_goals try omega
  all_goals
   clear s1 s2 hpe t1 key
   generalize zA9 A B = Z at *
   refine zBz [4, 7, 10, 11, 12] 5 1 (Nat.zero_le 5) (Nat.zero_le 1) (fun i : Nat => ⟨[.u0, .u0, .u0, .u0, .ptr 2 0, .u0, .u0, .ptr 4 0, .u0, .u0, .slice (ivs Z) (.tok 0), .int .i64 Z.length, .int .i64 i, .u0], [],
    ⟨[.cells [.int .i64 A.1, .int .i64 A.2], .cells [.int .i64 B.1, .int .i64 B.2], .cells [.int .i64 0, .int .i64 0], .cells [.slice (ivs Z) (.tok 0)], .cells [.int .i64 (jn Z i).1, .int .i64 (jn Z i).2]], [.per 2 Z.length]⟩⟩) (fun i => i ≤ Z.length) (fun i => Z.length - i) 0 (by omega) ?_ ?_
   ·simp [keepE, St.keep, St.keepG, St.gc, Hp.cut, D.rn, D.rnL, Blk.rnL, Blk.rn, Tv.rnL, Tv.rn, cutF, Own.rn, ivs_rn, jn, setL]
   ·intro i hi
    by_cases hi2 : i < Z.length
    ·have hgi := ivs_get hi2
     have hst := jn_step hi2
     have c1 := join_p (jn Z i) (Z.getD i (0, 0)) (jn_ok hpo hne i hi) (by rw [show Z.getD i (0, 0) = Z[i] by simp [List.getD, hi2]]; exact hpo _ (List.getElem_mem _))
     generalize jn Z i = u at *
     generalize Z.getD i (0, 0) = v at *
     have hd : decide ((i : Int) < Z.length) = true := by simp; omega
     have wQ := And.intro @hil @hgi; repeat' (first | with_reducible (apply swq; constructor) | simp only [go_sem, seval, P148, q148, hil, hgi, hd] | simp (disch := omega) only [wA] | ((with_reducible refine zAb (c1) ?he ?hc ?_); (case he | hc => exact sc wQ)) | ((with_reducible refine And.intro ?hw ?_); (case hw => exact sw wQ)) | with_reducible intro _)
     all_goals try (exfalso; omega)
     refine ⟨i + 1, by omega, by omega, ?_⟩
     simp [keepE, St.keep, St.keepG, St.gc, Hp.cut, D.rn, D.rnL, Blk.rnL, Blk.rn, Tv.rnL, Tv.rn, cutF, Own.rn, ivs_rn, setL, hst]
    ·obtain rfl : i = Z.length := by omega
     have hd : decide ((Z.length : Int) < Z.length) = false := by simp
     generalize jn Z Z.length = u at *
     repeat' (first | with_reducible (apply swq; constructor) | simp only [go_sem, seval, P148, q148, hil, hd] | with_reducible intro _)
     all_goals try (exfalso; omega)
     all_goals simp [D.closed, D.er, setL, RcS]
 ·rw [if_neg h1] at hpe t1
  have s1 := s1 [] (by simp)
  have s2 := s2 _ t1.2
  rw [← hpe] at s2
  rw [e0, List.length_nil] at s1
  by_cases d : B.1 ≤ 0
  ·have d1 : decide (B.1 ≤ 0) = true := by simp [d]
   have d2 : decide (B.2 ≥ 0) = false := by simp; omega
   have wQ := And.intro @minW (And.intro @maxW (And.intro @d1 (And.intro @d2 (And.intro @hil @hg0)))); repeat' (first | with_reducible (apply swq; constructor) | simp only [go_sem, seval, P148, q148, d1, d2, minW, maxW, hil, hg0] | ((with_reducible refine o_eff [0, 3] [0] (s1) ?hs ?he ?hh ?_); (case hs => exact so); (case he | hh => exact sh wQ); rintro _ _ ⟨rfl, rfl⟩) | ((with_reducible refine o_eff [0, 3] [0] (s2) ?hs ?he ?hh ?_); (case hs => exact so); (case he | hh => exact sh wQ); rintro _ _ ⟨rfl, rfl⟩) | ((with_reducible refine And.intro ?hw ?_); (case hw => exact sw wQ)) | with_reducible intro _)
   all_goals try omega
   all_goals
   clear s1 s2 hpe t1 key
   generalize zA9 A B = Z at *
   refine zBz [4, 7, 10, 11, 12] 5 1 (Nat.zero_le 5) (Nat.zero_le 1) (fun i : Nat => ⟨[.u0, .u0, .u0, .u0, .ptr 2 0, .u0, .u0, .ptr 4 0, .u0, .u0, .slice (ivs Z) (.tok 0), .int .i64 Z.length, .int .i64 i, .u0], [],
    ⟨[.cells [.int .i64 A.1, .int .i64 A.2], .cells [.int .i64 B.1, .int .i64 B.2], .cells [.int .i64 0, .int .i64 0], .cells [.slice (ivs Z) (.tok 0)], .cells [.int .i64 (jn Z i).1, .int .i64 (jn Z i).2]], [.per 2 Z.length]⟩⟩) (fun i => i ≤ Z.length) (fun i => Z.length - i) 0 (by omega) ?_ ?_
   ·simp [keepE, St.keep, St.keepG, St.gc, Hp.cut, D.rn, D.rnL, Blk.rnL, Blk.rn, Tv.rnL, Tv.rn, cutF, Own.rn, ivs_rn, jn, setL]
   ·intro i hi
    by_cases hi2 : i < Z.length
    ·have hgi := ivs_get hi2
     have hst := jn_step hi2
     have c1 := join_p (jn Z i) (Z.getD i (0, 0)) (jn_ok hpo hne i hi) (by rw [show Z.getD i (0, 0) = Z[i] by simp [List.getD, hi2]]; exact hpo _ (List.getElem_mem _))
     generalize jn Z i = u at *
     generalize Z.getD i (0, 0) = v at *
     have hd : decide ((i : Int) < Z.length) = true := by simp; omega
     have wQ := And.intro @hil @hgi; repeat' (first | with_reducible (apply swq; constructor) | simp only [go_sem, seval, P148, q148, hil, hgi, hd] | simp (disch := omega) only [wA] | ((with_reducible refine zAb (c1) ?he ?hc ?_); (case he | hc => exact sc wQ)) | ((with_reducible refine And.intro ?hw ?_); (case hw => exact sw wQ)) | with_reducible intro _)
     all_goals try (exfalso; omega)
     refine ⟨i + 1, by omega, by omega, ?_⟩
     simp [keepE, St.keep, St.keepG, St.gc, Hp.cut, D.rn, D.rnL, Blk.rnL, Blk.rn, Tv.rnL, Tv.rn, cutF, Own.rn, ivs_rn, setL, hst]
    ·obtain rfl : i = Z.length := by omega
     have hd : decide ((Z.length : Int) < Z.length) = false := by simp
     generalize jn Z Z.length = u at *
     repeat' (first | with_reducible (apply swq; constructor) | simp only [go_sem, seval, P148, q148, hil, hd] | with_reducible intro _)
     all_goals try (exfalso; omega)
     all_goals simp [D.closed, D.er, setL, RcS]
  ·have d1 : decide (B.1 ≤ 0) = false := by simp; omega
   have wQ := And.intro @minW (And.intro @maxW (And.intro @d1 (And.intro @hil @hg0))); repeat' (first | with_reducible (apply swq; constructor) | simp only [go_sem, seval, P148, q148, d1, minW, maxW, hil, hg0] | ((with_reducible refine o_eff [0, 3] [0] (s1) ?hs ?he ?hh ?_); (case hs => exact so); (case he | hh => exact sh wQ); rintro _ _ ⟨rfl, rfl⟩) | ((with_reducible refine o_eff [0, 3] [0] (s2) ?hs ?he ?hh ?_); (case hs => exact so); (case he | hh => exact sh wQ); rintro _ _ ⟨rfl, rfl⟩) | ((with_reducible refine And.intro ?hw ?_); (case hw => exact sw wQ)) | with_reducible intro _)
   all_goals try omega
   all_goals
   clear s1 s2 hpe t1 key
   generalize zA9 A B = Z at *
   refine zBz [4, 7, 10, 11, 12] 5 1 (Nat.zero_le 5) (Nat.zero_le 1) (fun i : Nat => ⟨[.u0, .u0, .u0, .u0, .ptr 2 0, .u0, .u0, .ptr 4 0, .u0, .u0, .slice (ivs Z) (.tok 0), .int .i64 Z.length, .int .i64 i, .u0], [],
    ⟨[.cells [.int .i64 A.1, .int .i64 A.2], .cells [.int .i64 B.1, .int .i64 B.2], .cells [.int .i64 0, .int .i64 0], .cells [.slice (ivs Z) (.tok 0)], .cells [.int .i64 (jn Z i).1, .int .i64 (jn Z i).2]], [.per 2 Z.length]⟩⟩) (fun i => i ≤ Z.length) (fun i => Z.length - i) 0 (by omega) ?_ ?_
   ·simp [keepE, St.keep, St.keepG, St.gc, Hp.cut, D.rn, D.rnL, Blk.rnL, Blk.rn, Tv.rnL, Tv.rn, cutF, Own.rn, ivs_rn, jn, setL]
   ·intro i hi
    by_cases hi2 : i < Z.length
    ·have hgi := ivs_get hi2
     have hst := jn_step hi2
     have c1 := join_p (jn Z i) (Z.getD i (0, 0)) (jn_ok hpo hne i hi) (by rw [show Z.getD i (0, 0) = Z[i] by simp [List.getD, hi2]]; exact hpo _ (List.getElem_mem _))
     generalize jn Z i = u at *
     generalize Z.getD i (0, 0) = v at *
     have hd : decide ((i : Int) < Z.length) = true := by simp; omega
     have wQ := And.intro @hil @hgi; repeat' (first | with_reducible (apply swq; constructor) | simp only [go_sem, seval, P148, q148, hil, hgi, hd] | simp (disch := omega) only [wA] | ((with_reducible refine zAb (c1) ?he ?hc ?_); (case he | hc => exact sc wQ)) | ((with_reducible refine And.intro ?hw ?_); (case hw => exact sw wQ)) | with_reducible intro _)
     all_goals try (exfalso; omega)
     refine ⟨i + 1, by omega, by omega, ?_⟩
     simp [keepE, St.keep, St.keepG, St.gc, Hp.cut, D.rn, D.rnL, Blk.rnL, Blk.rn, Tv.rnL, Tv.rn, cutF, Own.rn, ivs_rn, setL, hst]
    ·obtain rfl : i = Z.length := by omega
     have hd : decide ((Z.length : Int) < Z.length) = false := by simp
     generalize jn Z Z.length = u at *
     repeat' (first | with_reducible (apply swq; constructor) | simp only [go_sem, seval, P148, q148, hil, hd] | with_reducible intro _)
     all_goals try (exfalso; omega)
     all_goals simp [D.closed, D.er, setL, RcS]
end Go.Proofs.YtkjnhkoipgdfeaaGreatDoor
end
section
set_option maxRecDepth 100000
set_option linter.unusedSimpArgs false
set_option linter.unusedVariables false
namespace Go.Proofs.YtkjnhkoipgdfeaaGreatDoor
open Go GoV Go.RowKit
abbrev ptD (km cy ld : Int) : D := .agg [.int .i64 km, .int .i64 cy, .int .i64 ld]
theorem pnum_p (km cy ld n : Int) : Pur M 128 [ptD km cy ld, .int .i64 n] (.int .i64 n) := by
 refine k128.ok (C := C128) rfl rfl ?_
 rw [i128]
 unfold c128
 repeat' (first | with_reducible (apply swq; constructor) | simp only [go_sem, seval, P128, q128] | with_reducible intro _)
 all_goals first | omega | (simp_all [D.closed, D.er, D.cL, D.erL]; done) | (simp_all [D.closed, D.er, D.cL, D.erL] <;> omega)
theorem plet_p (km cy ld op : Int) (h : 2 ≤ op) (h2 : op ≤ 4) : Pur M 127 [ptD km cy ld, .int .i64 op] (.int .i64 (if op = 2 then km else if op = 3 then cy else ld)) := by
 refine k127.ok (C := C127) rfl rfl ?_
 rw [i127]
 unfold c127
 have : op = 2 ∨ op = 3 ∨ op = 4 := by omega
 rcases this with rfl | rfl | rfl
 all_goals
  repeat' (first | with_reducible (apply swq; constructor) | simp only [go_sem, seval, P127, q127] | with_reducible intro _)
  all_goals first | omega | (simp_all [D.closed, D.er, D.cL, D.erL]; done) | (simp_all [D.closed, D.er, D.cL, D.erL] <;> omega)
theorem pch_p (km cy ld a b c : Int) : Pur M 126 [ptD km cy ld, .int .i64 a, .int .i64 b, .int .i64 c] (.int .i64 (chN a b c)) := by
 refine k126.ok (C := C126) rfl rfl ?_
 rw [i126]
 unfold c126
 unfold chN
 by_cases h : 0 < a
 ·have d1 : decide (a > 0) = true := by simp [h]
  rw [if_pos h]
  repeat' (first | with_reducible (apply swq; constructor) | simp only [go_sem, seval, P126, q126, d1] | with_reducible intro _)
  all_goals first | omega | (simp_all [D.closed, D.er, D.cL, D.erL]; done) | (simp_all [D.closed, D.er, D.cL, D.erL] <;> omega)
 ·have d1 : decide (a > 0) = false := by simp; omega
  rw [if_neg h]
  repeat' (first | with_reducible (apply swq; constructor) | simp only [go_sem, seval, P126, q126, d1] | with_reducible intro _)
  all_goals first | omega | (simp_all [D.closed, D.er, D.cL, D.erL]; done) | (simp_all [D.closed, D.er, D.cL, D.erL] <;> omega)
theorem one_p (n : Int) : Pur M 129 [.int .i64 n] (ivD (n, n)) := by
 refine k129.ok (C := C129) rfl rfl ?_
 rw [i129]
 unfold c129
 repeat' (first | with_reducible (apply swq; constructor) | simp only [go_sem, seval, P129, q129] | with_reducible intro _)
 all_goals first | omega | (simp_all [D.closed, D.er, D.cL, D.erL]; done) | (simp_all [D.closed, D.er, D.cL, D.erL] <;> omega)
theorem both_one {g : Int → Int → Int} {a b : Int} (ha : Rg a) (hb : Rg b) : (bothI g (a, a) (b, b)).1 = g a b := by
 unfold bothI
 rw [if_pos ⟨⟨ha.1, Int.le_refl _, ha.2⟩, ⟨hb.1, Int.le_refl _, hb.2⟩⟩]
 simp [corn]
theorem papp_p (km cy ld op a b : Int) (h : 5 ≤ op) (h2 : op ≤ 10) (ha : Rg a) (hb : Rg b) : Pur M 125 [ptD km cy ld, .int .i64 op, .int .i64 a, .int .i64 b] (.int .i64 (opN op a b)) := by
 refine k125.ok (C := C125) rfl rfl ?_
 rw [i125]
 unfold c125
 have c1 := one_p a
 have c2 := one_p b
 have c3 := add_p (a, a) (b, b)
 have c4 := sub_p (a, a) (b, b)
 have c5 := mul_p (a, a) (b, b)
 have c6 := floor_p a b ha hb
 have e3 := both_one (g := fun a b => sat (a + b)) ha hb
 have e4 := both_one (g := fun a b => sat (a - b)) ha hb
 have e5 := both_one (g := fun a b => sat (a * b)) ha hb
 generalize bothI (fun a b => sat (a + b)) (a, a) (b, b) = r3 at *
 generalize bothI (fun a b => sat (a - b)) (a, a) (b, b) = r4 at *
 generalize bothI (fun a b => sat (a * b)) (a, a) (b, b) = r5 at *
 have : op = 5 ∨ op = 6 ∨ op = 7 ∨ op = 8 ∨ op = 9 ∨ op = 10 := by omega
 rcases this with rfl | rfl | rfl | rfl | rfl | rfl
 ·have e : opN 5 a b = sat (a + b) := rfl
  rw [e, ← e3]
  have wQ := tw; repeat' (first | with_reducible (apply swq; constructor) | simp only [go_sem, seval, P125, q125] | ((with_reducible refine zAb (c1) ?he ?hc ?_); (case he | hc => exact sc wQ)) | ((with_reducible refine zAb (c2) ?he ?hc ?_); (case he | hc => exact sc wQ)) | ((with_reducible refine zAb (c3) ?he ?hc ?_); (case he | hc => exact sc wQ)) | with_reducible intro _)
  all_goals first | omega | (simp_all [D.closed, D.er, D.cL, D.erL]; done) | (simp_all [D.closed, D.er, D.cL, D.erL] <;> omega)
 ·have e : opN 6 a b = sat (a - b) := rfl
  rw [e, ← e4]
  have wQ := tw; repeat' (first | with_reducible (apply swq; constructor) | simp only [go_sem, seval, P125, q125] | ((with_reducible refine zAb (c1) ?he ?hc ?_); (case he | hc => exact sc wQ)) | ((with_reducible refine zAb (c2) ?he ?hc ?_); (case he | hc => exact sc wQ)) | ((with_reducible refine zAb (c4) ?he ?hc ?_); (case he | hc => exact sc wQ)) | with_reducible intro _)
  all_goals first | omega | (simp_all [D.closed, D.er, D.cL, D.erL]; done) | (simp_all [D.closed, D.er, D.cL, D.erL] <;> omega)
 ·have e : opN 7 a b = sat (a * b) := rfl
  rw [e, ← e5]
  have wQ := tw; repeat' (first | with_reducible (apply swq; constructor) | simp only [go_sem, seval, P125, q125] | ((with_reducible refine zAb (c1) ?he ?hc ?_); (case he | hc => exact sc wQ)) | ((with_reducible refine zAb (c2) ?he ?hc ?_); (case he | hc => exact sc wQ)) | ((with_reducible refine zAb (c5) ?he ?hc ?_); (case he | hc => exact sc wQ)) | with_reducible intro _)
  all_goals first | omega | (simp_all [D.closed, D.er, D.cL, D.erL]; done) | (simp_all [D.closed, D.er, D.cL, D.erL] <;> omega)
 ·have e : opN 8 a b = fl a b := rfl
  rw [e]
  have wQ := tw; repeat' (first | with_reducible (apply swq; constructor) | simp only [go_sem, seval, P125, q125] | ((with_reducible refine zAb (c6) ?he ?hc ?_); (case he | hc => exact sc wQ)) | with_reducible intro _)
  all_goals first | omega | (simp_all [D.closed, D.er, D.cL, D.erL]; done) | (simp_all [D.closed, D.er, D.cL, D.erL] <;> omega)
 ·have e : opN 9 a b = min a b := rfl
  rw [e]
  repeat' (first | with_reducible (apply swq; constructor) | simp only [go_sem, seval, P125, q125, minW] | with_reducible intro _)
  all_goals first | omega | (simp_all [D.closed, D.er, D.cL, D.erL]; done) | (simp_all [D.closed, D.er, D.cL, D.erL] <;> omega)
 ·have e : opN 10 a b = max a b := rfl
  rw [e]
  repeat' (first | with_reducible (apply swq; constructor) | simp only [go_sem, seval, P125, q125, maxW] | with_reducible intro _)
  all_goals first | omega | (simp_all [D.closed, D.er, D.cL, D.erL]; done) | (simp_all [D.closed, D.er, D.cL, D.erL] <;> omega)
theorem rnum_p (u : Use) (n : Int) : Pur M 147 [useD u, .int .i64 n] (ivD (n, n)) := by
 refine k147.ok (C := C147) rfl rfl ?_
 rw [i147]
 unfold c147
 repeat' (first | with_reducible (apply swq; constructor) | simp only [go_sem, seval, P147, q147] | with_reducible intro _)
 all_goals first | omega | (simp_all [D.closed, D.er, D.cL, D.erL]; done) | (simp_all [D.closed, D.er, D.cL, D.erL] <;> omega)
theorem rlet_p (u : Use) (op : Int) (h : 2 ≤ op) (h2 : op ≤ 4) : Pur M 146 [useD u, .int .i64 op] (ivD (if op = 2 then u.km else if op = 3 then u.cy else u.ld)) := by
 refine k146.ok (C := C146) rfl rfl ?_
 rw [i146]
 unfold c146
 have : op = 2 ∨ op = 3 ∨ op = 4 := by omega
 rcases this with rfl | rfl | rfl
 all_goals
  repeat' (first | with_reducible (apply swq; constructor) | simp only [go_sem, seval, P146, q146] | with_reducible intro _)
  all_goals first | omega | (simp_all [D.closed, D.er, D.cL, D.erL]; done) | (simp_all [D.closed, D.er, D.cL, D.erL] <;> omega)
theorem rch_p (u : Use) (A B C : Iv) (hA : okI A) (hB : okI B) (hC : okI C) : Pur M 145 [useD u, ivD A, ivD B, ivD C] (ivD (chI A B C)) := by
 refine k145.ok (C := C145) rfl rfl ?_
 rw [i145]
 unfold c145
 have c1 := over_p A hA
 have c2 := join_p B C hB hC
 unfold chI
 unfold overI at c1
 by_cases g1 : A.2 ≤ 0
 ·rw [if_pos g1] at c1 ⊢
  have wQ := tw; repeat' (first | with_reducible (apply swq; constructor) | simp only [go_sem, seval, P145, q145] | ((with_reducible refine zAb (c1) ?he ?hc ?_); (case he | hc => exact sc wQ)) | with_reducible intro _)
  all_goals first | omega | (simp_all [D.closed, D.er, D.cL, D.erL]; done) | (simp_all [D.closed, D.er, D.cL, D.erL] <;> omega)
 ·rw [if_neg g1] at c1 ⊢
  by_cases g2 : 0 < A.1
  ·rw [if_pos g2] at c1 ⊢
   have wQ := tw; repeat' (first | with_reducible (apply swq; constructor) | simp only [go_sem, seval, P145, q145] | ((with_reducible refine zAb (c1) ?he ?hc ?_); (case he | hc => exact sc wQ)) | with_reducible intro _)
   all_goals first | omega | (simp_all [D.closed, D.er, D.cL, D.erL]; done) | (simp_all [D.closed, D.er, D.cL, D.erL] <;> omega)
  ·rw [if_neg g2] at c1 ⊢
   generalize joinI B C = R at *
   have wQ := tw; repeat' (first | with_reducible (apply swq; constructor) | simp only [go_sem, seval, P145, q145] | ((with_reducible refine zAb (c1) ?he ?hc ?_); (case he | hc => exact sc wQ)) | ((with_reducible refine zAb (c2) ?he ?hc ?_); (case he | hc => exact sc wQ)) | with_reducible intro _)
   all_goals first | omega | (simp_all [D.closed, D.er, D.cL, D.erL]; done) | (simp_all [D.closed, D.er, D.cL, D.erL] <;> omega)
theorem rapp_p (u : Use) (op : Int) (A B : Iv) (h : 5 ≤ op) (h2 : op ≤ 10) (hA : okI A) (hB : okI B) : Pur M 144 [useD u, .int .i64 op, ivD A, ivD B] (ivD (opI op A B)) := by
 refine k144.ok (C := C144) rfl rfl ?_
 rw [i144]
 unfold c144
 have c3 := add_p A B
 have c4 := sub_p A B
 have c5 := mul_p A B
 have c6 := divide_p A B hA hB
 unfold bothI at c3 c4 c5
 rw [if_pos ⟨hA, hB⟩] at c3 c4 c5
 have : op = 5 ∨ op = 6 ∨ op = 7 ∨ op = 8 ∨ op = 9 ∨ op = 10 := by omega
 rcases this with rfl | rfl | rfl | rfl | rfl | rfl
 ·have e : opI 5 A B = corn (fun a b => sat (a + b)) A B := rfl
  rw [e]
  generalize corn (fun a b => sat (a + b)) A B = R at *
  have wQ := tw; repeat' (first | with_reducible (apply swq; constructor) | simp only [go_sem, seval, P144, q144] | ((with_reducible refine zAb (c3) ?he ?hc ?_); (case he | hc => exact sc wQ)) | with_reducible intro _)
  all_goals first | omega | (simp_all [D.closed, D.er, D.cL, D.erL]; done) | (simp_all [D.closed, D.er, D.cL, D.erL] <;> omega)
 ·have e : opI 6 A B = corn (fun a b => sat (a - b)) A B := rfl
  rw [e]
  generalize corn (fun a b => sat (a - b)) A B = R at *
  have wQ := tw; repeat' (first | with_reducible (apply swq; constructor) | simp only [go_sem, seval, P144, q144] | ((with_reducible refine zAb (c4) ?he ?hc ?_); (case he | hc => exact sc wQ)) | with_reducible intro _)
  all_goals first | omega | (simp_all [D.closed, D.er, D.cL, D.erL]; done) | (simp_all [D.closed, D.er, D.cL, D.erL] <;> omega)
 ·have e : opI 7 A B = corn (fun a b => sat (a * b)) A B := rfl
  rw [e]
  generalize corn (fun a b => sat (a * b)) A B = R at *
  have wQ := tw; repeat' (first | with_reducible (apply swq; constructor) | simp only [go_sem, seval, P144, q144] | ((with_reducible refine zAb (c5) ?he ?hc ?_); (case he | hc => exact sc wQ)) | with_reducible intro _)
  all_goals first | omega | (simp_all [D.closed, D.er, D.cL, D.erL]; done) | (simp_all [D.closed, D.er, D.cL, D.erL] <;> omega)
 ·have e : opI 8 A B = divI A B := rfl
  rw [e]
  generalize divI A B = R at *
  have wQ := tw; repeat' (first | with_reducible (apply swq; constructor) | simp only [go_sem, seval, P144, q144] | ((with_reducible refine zAb (c6) ?he ?hc ?_); (case he | hc => exact sc wQ)) | with_reducible intro _)
  all_goals first | omega | (simp_all [D.closed, D.er, D.cL, D.erL]; done) | (simp_all [D.closed, D.er, D.cL, D.erL] <;> omega)
 ·have e : opI 9 A B = (min A.1 B.1, min A.2 B.2) := rfl
  rw [e]
  repeat' (first | with_reducible (apply swq; constructor) | simp only [go_sem, seval, P144, q144, minW] | with_reducible intro _)
  all_goals first | omega | (simp_all [D.closed, D.er, D.cL, D.erL]; done) | (simp_all [D.closed, D.er, D.cL, D.erL] <;> omega)
 ·have e : opI 10 A B = (max A.1 B.1, max A.2 B.2) := rfl
  rw [e]
  repeat' (first | with_reducible (apply swq; constructor) | simp only [go_sem, seval, P144, q144, maxW] | with_reducible intro _)
  all_goals first | omega | (simp_all [D.closed, D.er, D.cL, D.erL]; done) | (simp_all [D.closed, D.er, D.cL, D.erL] <;> omega)
theorem m1 : zB3 M.P 59 "bogie/formula.number" = some 128 := by kernel_rfl
theorem m2 : zB3 M.P 59 "bogie/formula.letter" = some 127 := by kernel_rfl
theorem m3 : zB3 M.P 59 "bogie/formula.choose" = some 126 := by kernel_rfl
theorem m4 : zB3 M.P 59 "bogie/formula.apply" = some 125 := by kernel_rfl
theorem m5 : zB3 M.P 63 "bogie/formula.number" = some 147 := by kernel_rfl
theorem m6 : zB3 M.P 63 "bogie/formula.letter" = some 146 := by kernel_rfl
theorem m7 : zB3 M.P 63 "bogie/formula.choose" = some 145 := by kernel_rfl
theorem m8 : zB3 M.P 63 "bogie/formula.apply" = some 144 := by kernel_rfl
end Go.Proofs.YtkjnhkoipgdfeaaGreatDoor
end
section
set_option maxRecDepth 100000
set_option linter.unusedSimpArgs false
set_option linter.unusedVariables false
namespace Go.Proofs.YtkjnhkoipgdfeaaGreatDoor
open Go GoV Go.RowKit
theorem zB9 {op n : Int} {ks : List F} (h : (F.mk op n ks).well = true) :
 (∀ k ∈ ks, k.well = true) ∧ 1 ≤ op ∧ op ≤ 11 ∧ 0 ≤ n ∧ n ≤ 9999999 ∧ ((op ≤ 4 ∧ ks = []) ∨ (5 ≤ op ∧ op ≤ 10 ∧ ∃ a b, ks = [a, b]) ∨ (op = 11 ∧ ∃ a b c, ks = [a, b, c])) := by
 simp only [F.well, Bool.and_eq_true] at h
 have hk := wellL_mem h.2
 have ho := h.1
 unfold okN at ho
 have ho := of_decide_eq_true ho
 obtain ⟨w1, w2, w3⟩ := want_cases op
 generalize want op = w at *
 refine ⟨hk, by omega, by omega, by omega, by omega, ?_⟩
 by_cases g1 : op = 11
 ·have : ks.length = 3 := by omega
  match ks, this with
  | [a, b, c], _ => exact .inr (.inr ⟨g1, a, b, c, rfl⟩)
 ·by_cases g2 : 5 ≤ op
  ·have : ks.length = 2 := by omega
   match ks, this with
   | [a, b], _ => exact .inr (.inl ⟨g2, by omega, a, b, rfl⟩)
  ·have : ks.length = 0 := by omega
   obtain rfl := List.length_eq_zero_iff.1 this
   exact .inl ⟨by omega, rfl⟩
theorem F.d_mk (op n : Int) (ks : List F) : (F.mk op n ks).d = .agg [.int .i64 op, .int .i64 n, .slice (ks.map F.d) .no] := by simp [F.d, fdL_map]
theorem val_leaf (km cy ld op n : Int) (h1 : 2 ≤ op) (h2 : op ≤ 4) : val km cy ld (.mk op n []) = if op = 2 then km else if op = 3 then cy else ld := by
 simp only [val]
 rw [if_neg (show ¬ op = 1 by omega), if_pos h2]
theorem span_leaf (u : Use) (op n : Int) (h1 : 2 ≤ op) (h2 : op ≤ 4) : span u (.mk op n []) = if op = 2 then u.km else if op = 3 then u.cy else u.ld := by
 simp only [span]
 rw [if_neg (show ¬ op = 1 by omega), if_pos h2]
theorem val_op (km cy ld op n : Int) (a b : F) (h1 : 5 ≤ op) (h2 : op ≤ 10) : val km cy ld (.mk op n [a, b]) = opN op (val km cy ld a) (val km cy ld b) := by
 simp only [val, valL, List.getD_cons_zero, List.getD_cons_succ]
 rw [if_neg (by omega), if_neg (by omega), if_neg (by omega), if_neg (by omega), if_neg (by omega)]
theorem span_op (u : Use) (op n : Int) (a b : F) (h1 : 5 ≤ op) (h2 : op ≤ 10) : span u (.mk op n [a, b]) = opI op (span u a) (span u b) := by
 simp only [span, spanL, List.getD_cons_zero, List.getD_cons_succ]
 rw [if_neg (by omega), if_neg (by omega), if_neg (by omega), if_neg (by omega), if_neg (by omega)]
set_option maxHeartbeats 1000000 in
theorem run38_p (km cy ld : Int) (h1 : Rg km) (h2 : Rg cy) (h3 : Rg ld) : ∀ (k : Nat) (f : F), f.nodes ≤ k → f.well = true → Pur M 32 [.iface 59 (ptD km cy ld), f.d] (.int .i64 (val km cy ld f))
 | 0, x, hk, _ => by have := zBe x; omega
 | k + 1, .mk op n ks, hk, hw => by
   obtain ⟨hkw, o1, o2, n1, n2, hc⟩ := zB9 hw
   have ih : ∀ y ∈ ks, Pur M 32 [.iface 59 (ptD km cy ld), y.d] (.int .i64 (val km cy ld y)) := fun y hy => run38_p km cy ld h1 h2 h3 k y (by have := zAx (f := .mk op n ks) hy; omega) (hkw y hy)
   have hR : ∀ y ∈ ks, Rg (val km cy ld y) := fun y hy => val_rng h1 h2 h3 y (hkw y hy)
   refine k32.ok (C := C32) rfl rfl ?_
   rw [i32]
   unfold c32
   rw [F.d_mk]
   rcases hc with ⟨g1, rfl⟩ | ⟨g1, g2, a, b, rfl⟩ | ⟨rfl, a, b, c, rfl⟩
   ·by_cases e1 : op = 1
    ·subst e1
     have c1 := pnum_p km cy ld n
     have e : val km cy ld (.mk 1 n []) = n := rfl
     rw [e]
     have wQ := tw; repeat' (first | with_reducible (apply swq; constructor) | simp only [go_sem, seval, P32, q32, m1] | ((with_reducible refine zAb (c1) ?he ?hc ?_); (case he | hc => exact sc wQ)) | with_reducible intro _)
     all_goals first | omega | (simp_all [D.closed, D.er, D.cL, D.erL]; done) | (simp_all [D.closed, D.er, D.cL, D.erL] <;> omega)
    ·have c2 := plet_p km cy ld op (by omega) g1
     rw [← val_leaf km cy ld op n (by omega) g1] at c2
     generalize val km cy ld (.mk op n []) = v at *
     have t1 : (op == 1) = false := by simp [e1]
     have t2 : decide (op ≤ 4) = true := by simp [g1]
     have wQ := tw; repeat' (first | with_reducible (apply swq; constructor) | simp only [go_sem, seval, P32, q32, m2, t1, t2] | ((with_reducible refine zAb (c2) ?he ?hc ?_); (case he | hc => exact sc wQ)) | with_reducible intro _)
     all_goals first | omega | (simp_all [D.closed, D.er, D.cL, D.erL]; done) | (simp_all [D.closed, D.er, D.cL, D.erL] <;> omega)
   ·have i1 := ih a (by simp)
    have i2 := ih b (by simp)
    have c2 := papp_p km cy ld op (val km cy ld a) (val km cy ld b) g1 g2 (hR a (by simp)) (hR b (by simp))
    rw [val_op km cy ld op n a b g1 g2]
    rw [F.d_eq] at i1 i2
    simp only [List.map_cons, List.map_nil, F.d_eq]
    have ha := zAd a.kids
    have hb := zAd b.kids
    have ea := erL_F a.kids
    have eb := erL_F b.kids
    generalize val km cy ld a = va at *
    generalize val km cy ld b = vb at *
    generalize opN op va vb = vr at *
    have t1 : (op == 1) = false := by simp; omega
    have t2 : decide (op ≤ 4) = false := by simp; omega
    have t3 : (op == 11) = false := by simp; omega
    have wQ := And.intro @ha (And.intro @hb (And.intro @ea @eb)); repeat' (first | with_reducible (apply swq; constructor) | simp only [go_sem, seval, P32, q32, m4, t1, t2, t3] | ((with_reducible refine zAq (i1) ?he ?hc ?_); (case he | hc => exact sc wQ)) | ((with_reducible refine zAq (i2) ?he ?hc ?_); (case he | hc => exact sc wQ)) | ((with_reducible refine zAb (c2) ?he ?hc ?_); (case he | hc => exact sc wQ)) | ((with_reducible refine And.intro ?hw ?_); (case hw => exact sw wQ)) | with_reducible intro _)
    all_goals first | omega | (simp_all [D.closed, D.er, D.cL, D.erL, ha, hb, ea, eb]; done) | (simp_all [D.closed, D.er, D.cL, D.erL, ha, hb, ea, eb] <;> omega)
   ·have i1 := ih a (by simp)
    have i2 := ih b (by simp)
    have i3 := ih c (by simp)
    have e : val km cy ld (.mk 11 n [a, b, c]) = chN (val km cy ld a) (val km cy ld b) (val km cy ld c) := by simp [val, valL]
    rw [e]
    have c2 := pch_p km cy ld (val km cy ld a) (val km cy ld b) (val km cy ld c)
    rw [F.d_eq] at i1 i2 i3
    simp only [List.map_cons, List.map_nil, F.d_eq]
    have ha := zAd a.kids
    have hb := zAd b.kids
    have hcc := zAd c.kids
    have ea := erL_F a.kids
    have eb := erL_F b.kids
    have ec := erL_F c.kids
    generalize val km cy ld a = va at *
    generalize val km cy ld b = vb at *
    generalize val km cy ld c = vc at *
    generalize chN va vb vc = vr at *
    have wQ := And.intro @ha (And.intro @hb (And.intro @hcc (And.intro @ea (And.intro @eb @ec)))); repeat' (first | with_reducible (apply swq; constructor) | simp only [go_sem, seval, P32, q32, m3] | ((with_reducible refine zAq (i1) ?he ?hc ?_); (case he | hc => exact sc wQ)) | ((with_reducible refine zAq (i2) ?he ?hc ?_); (case he | hc => exact sc wQ)) | ((with_reducible refine zD7 (i3) ?he ?hc ?_); (case he | hc => exact sc wQ)) | ((with_reducible refine zAb (c2) ?he ?hc ?_); (case he | hc => exact sc wQ)) | ((with_reducible refine And.intro ?hw ?_); (case hw => exact sw wQ)) | with_reducible intro _)
    all_goals first | omega | (simp_all [D.closed, D.er, D.cL, D.erL, ha, hb, hcc, ea, eb, ec]; done) | (simp_all [D.closed, D.er, D.cL, D.erL, ha, hb, hcc, ea, eb, ec] <;> omega)
set_option maxHeartbeats 1000000 in
theorem run36_p (u : Use) (hu : u.ok) : ∀ (k : Nat) (f : F), f.nodes ≤ k → f.well = true → Pur M 35 [.iface 63 (useD u), f.d] (ivD (span u f))
 | 0, x, hk, _ => by have := zBe x; omega
 | k + 1, .mk op n ks, hk, hw => by
   obtain ⟨hkw, o1, o2, n1, n2, hc⟩ := zB9 hw
   have ih : ∀ y ∈ ks, Pur M 35 [.iface 63 (useD u), y.d] (ivD (span u y)) := fun y hy => run36_p u hu k y (by have := zAx (f := .mk op n ks) hy; omega) (hkw y hy)
   have hR : ∀ y ∈ ks, okI (span u y) := fun y hy => span_ok hu y (hkw y hy)
   refine k35.ok (C := C35) rfl rfl ?_
   rw [i35]
   unfold c35
   rw [F.d_mk]
   rcases hc with ⟨g1, rfl⟩ | ⟨g1, g2, a, b, rfl⟩ | ⟨rfl, a, b, c, rfl⟩
   ·by_cases e1 : op = 1
    ·subst e1
     have c1 := rnum_p u n
     have e : span u (.mk 1 n []) = (n, n) := rfl
     rw [e]
     have wQ := tw; repeat' (first | with_reducible (apply swq; constructor) | simp only [go_sem, seval, P35, q35, m5] | ((with_reducible refine zAb (c1) ?he ?hc ?_); (case he | hc => exact sc wQ)) | with_reducible intro _)
     all_goals first | omega | (simp_all [D.closed, D.er, D.cL, D.erL]; done) | (simp_all [D.closed, D.er, D.cL, D.erL] <;> omega)
    ·have c2 := rlet_p u op (by omega) g1
     rw [← span_leaf u op n (by omega) g1] at c2
     generalize span u (.mk op n []) = v at *
     have t1 : (op == 1) = false := by simp [e1]
     have t2 : decide (op ≤ 4) = true := by simp [g1]
     have wQ := tw; repeat' (first | with_reducible (apply swq; constructor) | simp only [go_sem, seval, P35, q35, m6, t1, t2] | ((with_reducible refine zAb (c2) ?he ?hc ?_); (case he | hc => exact sc wQ)) | with_reducible intro _)
     all_goals first | omega | (simp_all [D.closed, D.er, D.cL, D.erL]; done) | (simp_all [D.closed, D.er, D.cL, D.erL] <;> omega)
   ·have i1 := ih a (by simp)
    have i2 := ih b (by simp)
    have c2 := rapp_p u op (span u a) (span u b) g1 g2 (hR a (by simp)) (hR b (by simp))
    rw [span_op u op n a b g1 g2]
    rw [F.d_eq] at i1 i2
    simp only [List.map_cons, List.map_nil, F.d_eq]
    have ha := zAd a.kids
    have hb := zAd b.kids
    have ea := erL_F a.kids
    have eb := erL_F b.kids
    generalize span u a = va at *
    generalize span u b = vb at *
    generalize opI op va vb = vr at *
    have t1 : (op == 1) = false := by simp; omega
    have t2 : decide (op ≤ 4) = false := by simp; omega
    have t3 : (op == 11) = false := by simp; omega
    have wQ := And.intro @ha (And.intro @hb (And.intro @ea @eb)); repeat' (first | with_reducible (apply swq; constructor) | simp only [go_sem, seval, P35, q35, m8, t1, t2, t3] | ((with_reducible refine zAq (i1) ?he ?hc ?_); (case he | hc => exact sc wQ)) | ((with_reducible refine zAq (i2) ?he ?hc ?_); (case he | hc => exact sc wQ)) | ((with_reducible refine zAb (c2) ?he ?hc ?_); (case he | hc => exact sc wQ)) | ((with_reducible refine And.intro ?hw ?_); (case hw => exact sw wQ)) | with_reducible intro _)
    all_goals first | omega | (simp_all [D.closed, D.er, D.cL, D.erL, ha, hb, ea, eb]; done) | (simp_all [D.closed, D.er, D.cL, D.erL, ha, hb, ea, eb] <;> omega)
   ·have i1 := ih a (by simp)
    have i2 := ih b (by simp)
    have i3 := ih c (by simp)
    have e : span u (.mk 11 n [a, b, c]) = chI (span u a) (span u b) (span u c) := by simp [span, spanL]
    rw [e]
    have c2 := rch_p u (span u a) (span u b) (span u c) (hR a (by simp)) (hR b (by simp)) (hR c (by simp))
    rw [F.d_eq] at i1 i2 i3
    simp only [List.map_cons, List.map_nil, F.d_eq]
    have ha := zAd a.kids
    have hb := zAd b.kids
    have hcc := zAd c.kids
    have ea := erL_F a.kids
    have eb := erL_F b.kids
    have ec := erL_F c.kids
    generalize span u a = va at *
    generalize span u b = vb at *
    generalize span u c = vc at *
    generalize chI va vb vc = vr at *
    have wQ := And.intro @ha (And.intro @hb (And.intro @hcc (And.intro @ea (And.intro @eb @ec)))); repeat' (first | with_reducible (apply swq; constructor) | simp only [go_sem, seval, P35, q35, m7] | ((with_reducible refine zAq (i1) ?he ?hc ?_); (case he | hc => exact sc wQ)) | ((with_reducible refine zAq (i2) ?he ?hc ?_); (case he | hc => exact sc wQ)) | ((with_reducible refine zD7 (i3) ?he ?hc ?_); (case he | hc => exact sc wQ)) | ((with_reducible refine zAb (c2) ?he ?hc ?_); (case he | hc => exact sc wQ)) | ((with_reducible refine And.intro ?hw ?_); (case hw => exact sw wQ)) | with_reducible intro _)
    all_goals first | omega | (simp_all [D.closed, D.er, D.cL, D.erL, ha, hb, hcc, ea, eb, ec]; done) | (simp_all [D.closed, D.er, D.cL, D.erL, ha, hb, hcc, ea, eb, ec] <;> omega)
end Go.Proofs.YtkjnhkoipgdfeaaGreatDoor
end
section
set_option maxRecDepth 100000
set_option linter.unusedSimpArgs false
set_option linter.unusedVariables false
namespace Go.Proofs.YtkjnhkoipgdfeaaGreatDoor
open Go GoV Go.RowKit
theorem value_p (f : F) (km cy ld : Int) : Pur M 13 [f.d, .int .i64 km, .int .i64 cy, .int .i64 ld] (.int .i64 (valueF f km cy ld)) := by
 refine k13.ok (C := C13) rfl rfl ?_
 rw [i13]
 unfold c13
 have c1 := valid_p f
 have hck := zAd f.kids
 have hek := erL_F f.kids
 unfold valueF
 cases hv : f.valid
 ·rw [hv] at c1
  rw [F.d_eq] at c1 ⊢
  have wQ := And.intro @hck @hek; repeat' (first | with_reducible (apply swq; constructor) | simp only [go_sem, seval, P13, q13] | ((with_reducible refine zAb (c1) ?he ?hc ?_); (case he | hc => exact sc wQ)) | with_reducible intro _)
  all_goals first | omega | (simp_all [D.closed, D.er, D.cL, D.erL, hck, hek]; done) | (simp_all [D.closed, D.er, D.cL, D.erL, hck, hek] <;> omega)
 ·rw [hv] at c1
  simp only [if_true]
  have c2 := cut_p km
  have c3 := cut_p cy
  have c4 := cut_p ld
  have c5 := run38_p (sat km) (sat cy) (sat ld) (zDx _) (zDx _) (zDx _) f.nodes f (Nat.le_refl _) (zEt hv)
  rw [F.d_eq] at c1 c5 ⊢
  generalize val (sat km) (sat cy) (sat ld) f = v at *
  generalize sat km = skm at *
  generalize sat cy = scy at *
  generalize sat ld = sld at *
  have wQ := And.intro @hck @hek; repeat' (first | with_reducible (apply swq; constructor) | simp only [go_sem, seval, P13, q13] | ((with_reducible refine zAb (c1) ?he ?hc ?_); (case he | hc => exact sc wQ)) | ((with_reducible refine zAq (c2) ?he ?hc ?_); (case he | hc => exact sc wQ)) | ((with_reducible refine zAq (c3) ?he ?hc ?_); (case he | hc => exact sc wQ)) | ((with_reducible refine zAq (c4) ?he ?hc ?_); (case he | hc => exact sc wQ)) | ((with_reducible refine zAb (c5) ?he ?hc ?_); (case he | hc => exact sc wQ)) | with_reducible intro _)
  all_goals first | omega | (simp_all [D.closed, D.er, D.cL, D.erL, hck, hek]; done) | (simp_all [D.closed, D.er, D.cL, D.erL, hck, hek] <;> omega)
theorem good_dec (i : Iv) (h : useI i = true) : decide (i.1 < 0) = false ∧ decide (i.1 > i.2) = false ∧ decide (i.2 > 1000000) = false := by
 unfold useI at h
 have := of_decide_eq_true h
 simp; omega
def ivk (u : Use) (i : Nat) : Iv := if i = 0 then u.km else if i = 1 then u.cy else u.ld
theorem ivk_get (u : Use) {i : Nat} (h : i < 3) : [ivD u.km, ivD u.cy, ivD u.ld].getD i .u0 = ivD (ivk u i) := by
 have : i = 0 ∨ i = 1 ∨ i = 2 := by omega
 rcases this with rfl | rfl | rfl <;> rfl
theorem good_k (u : Use) : u.good = (useI (ivk u 0) && useI (ivk u 1) && useI (ivk u 2)) := rfl
theorem useI_bad {i : Iv} (h : useI i = false) : i.1 < 0 ∨ i.1 > i.2 ∨ i.2 > 1000000 := by
 unfold useI at h
 have := of_decide_eq_false h
 omega
set_option maxHeartbeats 1000000 in
theorem damage_p (f : F) (u : Use) : Pur M 15 [f.d, useD u] (ivD (zD2 f u)) := by
 refine k15.ok (C := C15) rfl rfl ?_
 rw [i15]
 unfold c15
 have c1 := valid_p f
 have hck := zAd f.kids
 have hek := erL_F f.kids
 have hrk := fun β τ => rnL_F β τ f.kids
 rw [F.d_eq] at c1 ⊢
 have wQ := And.intro @hck @hek; repeat' (first | with_reducible (apply swq; constructor) | simp only [go_sem, seval, P15, q15] | ((with_reducible apply s_bsl); (case he | hl | hc => exact sd wQ)) | with_reducible intro _)
 refine zBz [3, 2, 4, 7, 8, 9] 3 0 (Nat.zero_le 3) (Nat.le_refl 0) (fun i : Nat => ⟨[.u0, .u0, .ptr 0 0, .ptr 1 0, .ptr 2 0, .u0, .u0, .slice [ivD u.km, ivD u.cy, ivD u.ld] .full, .int .i64 3, .int .i64 i, .u0, .u0, .u0], [],
  ⟨[.cells f.cells, .cells [.int .i64 u.km.1, .int .i64 u.km.2, .int .i64 u.cy.1, .int .i64 u.cy.2, .int .i64 u.ld.1, .int .i64 u.ld.2], .cells [.int .i64 0, .int .i64 0]], []⟩⟩) (fun i => i ≤ 3 ∧ ∀ j, j < i → useI (ivk u j) = true) (fun i => 3 - i) 0 ⟨by omega, fun j h => by omega⟩ ?_ ?_
 ·simp [keepE, St.keep, St.keepG, St.gc, Hp.cut, D.rn, D.rnL, Blk.rnL, Blk.rn, Tv.rnL, Tv.rn, cutF, Own.rn, hrk]
 ·rintro i ⟨hi, hb⟩
  by_cases hi3 : i < 3
  ·have hg := ivk_get u hi3
   have hd : decide ((i : Int) < 3) = true := by simp; omega
   have hlen : [ivD u.km, ivD u.cy, ivD u.ld].length = 3 := rfl
   cases hu : useI (ivk u i)
   ·have hgd : u.good = false := by
     rw [good_k]
     have : i = 0 ∨ i = 1 ∨ i = 2 := by omega
     rcases this with rfl | rfl | rfl <;> simp [hu]
    have hbad := useI_bad hu
    have hD : zD2 f u = (0, 0) := by simp [zD2, hgd]
    rw [hD]
    generalize ivk u i = v at *
    generalize [ivD u.km, ivD u.cy, ivD u.ld] = W at *
    by_cases g1 : v.1 < 0
    ·have t1 : decide (v.1 < 0) = true := by simp [g1]
     have wQ := And.intro @hg @hlen; repeat' (first | with_reducible (apply swq; constructor) | simp only [go_sem, seval, P15, q15, hd, hg, hlen, t1] | ((with_reducible refine And.intro ?hw ?_); (case hw => exact sw wQ)) | with_reducible intro _)
     all_goals try (exfalso; omega)
     all_goals simp [D.closed, D.er, setL, RcS]
    ·have t1 : decide (v.1 < 0) = false := by simp [g1]
     by_cases g2 : v.1 > v.2
     ·have t2 : decide (v.1 > v.2) = true := by simp [g2]
      have wQ := And.intro @hg @hlen; repeat' (first | with_reducible (apply swq; constructor) | simp only [go_sem, seval, P15, q15, hd, hg, hlen, t1, t2] | ((with_reducible refine And.intro ?hw ?_); (case hw => exact sw wQ)) | with_reducible intro _)
      all_goals try (exfalso; omega)
      all_goals simp [D.closed, D.er, setL, RcS]
     ·have t2 : decide (v.1 > v.2) = false := by simp; omega
      have t3 : decide (v.2 > 1000000) = true := by simp; omega
      have wQ := And.intro @hg @hlen; repeat' (first | with_reducible (apply swq; constructor) | simp only [go_sem, seval, P15, q15, hd, hg, hlen, t1, t2, t3] | ((with_reducible refine And.intro ?hw ?_); (case hw => exact sw wQ)) | with_reducible intro _)
      all_goals try (exfalso; omega)
      all_goals simp [D.closed, D.er, setL, RcS]
   ·obtain ⟨t1, t2, t3⟩ := good_dec _ hu
    generalize hvi : ivk u i = v at *
    generalize hW : [ivD u.km, ivD u.cy, ivD u.ld] = W at *
    have wQ := And.intro @hg @hlen; repeat' (first | with_reducible (apply swq; constructor) | simp only [go_sem, seval, P15, q15, hd, hg, hlen, t1, t2, t3] | simp (disch := omega) only [wA] | ((with_reducible refine And.intro ?hw ?_); (case hw => exact sw wQ)) | with_reducible intro _)
    all_goals try (exfalso; omega)
    refine ⟨i + 1, ⟨by omega, fun j h => ?_⟩, by omega, ?_⟩
    ·by_cases e : j = i
     ·subst e; rw [hvi]; exact hu
     ·exact hb j (by omega)
    ·subst hW
     simp [keepE, St.keep, St.keepG, St.gc, Hp.cut, D.rn, D.rnL, Blk.rnL, Blk.rn, Tv.rnL, Tv.rn, cutF, Own.rn, hrk]
  ·obtain rfl : i = 3 := by omega
   have hgd : u.good = true := by rw [good_k, hb 0 (by omega), hb 1 (by omega), hb 2 (by omega)]; rfl
   have hd : decide (((3 : Nat) : Int) < 3) = false := rfl
   unfold zD2
   rw [hgd]
   cases hv : f.valid
   ·rw [hv] at c1
    simp only [Bool.false_and, Bool.false_eq_true, if_false]
    have wQ := And.intro @hck @hek; repeat' (first | with_reducible (apply swq; constructor) | simp only [go_sem, seval, P15, q15, hd] | ((with_reducible refine zAb (c1) ?he ?hc ?_); (case he | hc => exact sc wQ)) | with_reducible intro _)
    all_goals first | omega | (simp_all [D.closed, D.er, D.cL, D.erL, hck, hek]; done) | (simp_all [D.closed, D.er, D.cL, D.erL, hck, hek] <;> omega)
   ·rw [hv] at c1
    simp only [Bool.and_self, if_true]
    have c2 := run36_p u (good_ok hgd) f.nodes f (Nat.le_refl _) (zEt hv)
    rw [F.d_eq] at c2
    generalize span u f = v at *
    have wQ := And.intro @hck @hek; repeat' (first | with_reducible (apply swq; constructor) | simp only [go_sem, seval, P15, q15, hd, maxW] | ((with_reducible refine zAb (c1) ?he ?hc ?_); (case he | hc => exact sc wQ)) | ((with_reducible refine zAb (c2) ?he ?hc ?_); (case he | hc => exact sc wQ)) | with_reducible intro _)
    all_goals first | omega | (simp_all [D.closed, D.er, D.cL, D.erL, hck, hek]; done) | (simp_all [D.closed, D.er, D.cL, D.erL, hck, hek] <;> omega)
theorem zFu (a b : Int) (ha : Rg a) (hb : Rg b) : Pur M 50 [.int .i64 a, .int .i64 b] (.int .i64 (sat (a * b))) := by
 refine k50.ok (C := C50) rfl rfl ?_
 rw [i50]
 unfold c50
 obtain ⟨h1, h2⟩ := ha
 obtain ⟨h3, h4⟩ := hb
 by_cases ha0 : a = 0
 ·subst ha0
  have : sat (0 * b) = 0 := by rw [Int.zero_mul]; rfl
  rw [this]
  repeat' (first | with_reducible (apply swq; constructor) | simp only [go_sem, seval, P50, q50] | with_reducible intro _)
  all_goals try (exfalso; omega)
  all_goals simp [D.closed, D.er]
 ·by_cases hb0 : b = 0
  ·subst hb0
   have : sat (a * 0) = 0 := by rw [Int.mul_zero]; rfl
   rw [this]
   have t1 : (a == 0) = false := by simp [ha0]
   repeat' (first | with_reducible (apply swq; constructor) | simp only [go_sem, seval, P50, q50, t1] | with_reducible intro _)
   all_goals try (exfalso; omega)
   all_goals simp [D.closed, D.er]
  ·have t1 : (a == 0) = false := by simp [ha0]
   have t2 : (b == 0) = false := by simp [hb0]
   have hx : a.natAbs ≤ 1000000000000 := by omega
   have hy : b.natAbs ≤ 1000000000000 := by omega
   have em := mul_abs a b
   have ea := abs_max a
   have eb := abs_max b
   have hq : (1000000000000 : Int).tdiv b.natAbs = (1000000000000 / b.natAbs : Nat) := by
    rw [Int.tdiv_eq_ediv_of_nonneg (by omega)]; rfl
   have hle : a.natAbs ≤ 1000000000000 / b.natAbs ↔ a.natAbs * b.natAbs ≤ 1000000000000 := Nat.le_div_iff_mul_le (by omega)
   have hql : 1000000000000 / b.natAbs ≤ 1000000000000 := Nat.div_le_self _ _
   have e : sat (a * b) = max (-1000000000000) (min (a * b) 1000000000000) := rfl
   have hmul : (a.natAbs : Int) * b.natAbs = ((a.natAbs * b.natAbs : Nat) : Int) := by simp
   generalize sat (a * b) = sz at *
   generalize a.natAbs * b.natAbs = p at *
   generalize 1000000000000 / b.natAbs = q at *
   generalize a * b = z at *
   have hbn : b.natAbs ≠ 0 := by omega
   cases ta : decide (a < 0) <;> cases tb : decide (b < 0)
   all_goals
    rw [ta, tb] at em
    simp only [Bool.false_eq_true, Bool.true_eq_false, reduceIte, reduceCtorEq] at em
    generalize a.natAbs = x at *
    generalize b.natAbs = y at *
    by_cases hxq : (x : Int) ≤ q
    ·have t3 : decide ((x : Int) ≤ q) = true := by simp only [decide_eq_true_eq]; exact hxq
     have hp := hle.1 (by omega)
     have wQ := tw; repeat' (first | with_reducible (apply swq; constructor) | simp only [go_sem, seval, P50, q50, minW, maxW, ta, tb, ea, eb, t1, t2, t3, hq, hmul, bq1, bq2, bq3, bq4, Bool.not_true, Bool.not_false] | simp (disch := omega) only [wA] | ((with_reducible refine And.intro ?hw ?_); (case hw => exact sw wQ)) | with_reducible intro _)
     all_goals try (exfalso; omega)
     all_goals simp only [decide_eq_true_eq, decide_eq_false_iff_not] at ta tb
     all_goals clear ea eb
     all_goals simp only [D.closed, D.er, List.getElem?_cons_zero, List.getElem?_cons_succ, Option.getD_some, true_and, D.int.injEq]
     all_goals omega
    ·have t3 : decide ((x : Int) ≤ q) = false := by simp only [decide_eq_false_iff_not]; exact hxq
     have hp := fun h => hxq (by have := hle.2 h; omega)
     have wQ := tw; repeat' (first | with_reducible (apply swq; constructor) | simp only [go_sem, seval, P50, q50, minW, maxW, ta, tb, ea, eb, t1, t2, t3, hq, hmul, bq1, bq2, bq3, bq4, Bool.not_true, Bool.not_false] | simp (disch := omega) only [wA] | ((with_reducible refine And.intro ?hw ?_); (case hw => exact sw wQ)) | with_reducible intro _)
     all_goals try (exfalso; omega)
     all_goals simp only [decide_eq_true_eq, decide_eq_false_iff_not] at ta tb
     all_goals clear ea eb
     all_goals simp only [D.closed, D.er, List.getElem?_cons_zero, List.getElem?_cons_succ, Option.getD_some, true_and, D.int.injEq]
     all_goals omega
end Go.Proofs.YtkjnhkoipgdfeaaGreatDoor
end
section
set_option maxRecDepth 100000
set_option linter.unusedSimpArgs false
set_option linter.unusedVariables false
namespace Go.Proofs.YtkjnhkoipgdfeaaGreatDoor
open Go GoV Go.RowKit
theorem index_p (s : Tx) (c : UInt8) : Pur M 75 [.str s, .int .u8 c.toNat] (.int .i64 (Lib.indexByte s c)) := by
 refine pur_ext (vs := [.string ⟨s.toArray⟩, .int .u8 c.toNat]) (v := .int .i64 (Lib.indexByte s c)) ⟨Tryz.f75, Tryz.func75, rfl, rfl⟩ (fun w I xs h => ?_) (fun w I => ?_) (fun w hA => ?_)
 ·obtain ⟨x, xs', rfl, g1, g2⟩ := h.inv
  obtain ⟨y, ys', rfl, g3, g4⟩ := g2.inv
  simp only [Rel] at g1 g3
  rw [g4.inv_nil, g1, g3]
 ·simp [Rel]
 ·refine (Tryz.strings_IndexByte ⟨s.toArray⟩ c.toNat w).mono fun e w' hh => ?_
  obtain ⟨rfl, rfl⟩ := hh
  refine ⟨?_, Below.refl _ _⟩
  have : ((c.toNat : Int).toNat).toUInt8 = c := by simp
  rw [this]
def cls0 (c : Nat) : Int :=
 if (97 ≤ c ∧ c ≤ 122) ∨ (65 ≤ c ∧ c ≤ 90) then 3 else if 48 ≤ c ∧ c ≤ 57 then 4 else if Lib.indexByte [32, 9, 10] (UInt8.ofNat c) ≥ 0 then 1
 else if Lib.indexByte [59, 44, 46, 58, 40, 41, 123, 125, 91, 93, 61, 60, 62, 47, 43, 45, 42] (UInt8.ofNat c) ≥ 0 then 6 else 0
def tblN (i : Nat) : List D := (List.range 256).map fun c => .int .u8 (if c < i then cls0 c else 0)
def tbl : List D := (List.range 256).map fun c => .int .u8 (if c = 35 then 2 else if c = 95 then 5 else if c = 34 then 7 else cls0 c)
theorem zFs (i : Nat) : (tblN i).length = 256 := by simp [tblN]
theorem map_const {α : Type} (v : D) : ∀ l : List α, l.map (fun _ => v) = List.replicate l.length v
 | [] => rfl
 | x :: l => by rw [List.map_cons, map_const v l]; rfl
theorem tblN_zero : zl256 = tblN 0 := by
 unfold zl256 tblN
 have : (fun c : Nat => D.int .u8 (if c < 0 then cls0 c else 0)) = fun _ => D.int .u8 0 := by funext c; simp
 rw [this, map_const, List.length_range]
theorem zl_len : zl256.length = 256 := by rw [tblN_zero, zFs]
theorem tblN_set {i : Nat} (h : i < 256) {v : Int} (hv : v = cls0 i) : setL (tblN i) i [.int .u8 v] = tblN (i + 1) := by
 subst hv
 simp only [setL]
 apply List.ext_getElem?
 intro j
 rw [List.getElem?_set]
 by_cases hj : j < 256
 ·by_cases e : i = j
  ·subst e
   simp [tblN, h]
  ·rw [if_neg e]
   simp only [tblN, List.getElem?_map, List.getElem?_range hj, Option.map_some]
   have : (j < i) ↔ (j < i + 1) := by omega
   simp [this]
 ·have h1 : ∀ k, (tblN k)[j]? = none := fun k => List.getElem?_eq_none (by rw [zFs]; omega)
  rw [h1, h1]
  rw [if_neg (by omega)]
theorem tblN_skip {i : Nat} (h : i < 256) (hv : cls0 i = 0) : tblN i = tblN (i + 1) := by
 rw [← tblN_set h rfl, hv]
 simp only [setL]
 apply List.ext_getElem?
 intro j
 rw [List.getElem?_set]
 by_cases e : i = j
 ·subst e; simp [tblN, h]
 ·rw [if_neg e]
theorem tbl_eq : setL (setL (setL (tblN 256) 35 [.int .u8 2]) 95 [.int .u8 5]) 34 [.int .u8 7] = tbl := by
 simp only [setL]
 apply List.ext_getElem?
 intro j
 simp only [List.getElem?_set, List.length_set, zFs]
 by_cases hj : j < 256
 ·simp only [tblN, tbl, List.getElem?_map, List.getElem?_range hj, Option.map_some, hj, if_true]
  by_cases h1 : j = 34
  ·subst h1; simp
  ·by_cases h2 : j = 95
   ·subst h2; simp
   ·by_cases h3 : j = 35
    ·subst h3; simp
    ·simp [h1, h2, h3, show ¬ 34 = j by omega, show ¬ 95 = j by omega, show ¬ 35 = j by omega]
 ·have h1 : (tblN 256)[j]? = none := List.getElem?_eq_none (by rw [zFs]; omega)
  have h2 : tbl[j]? = none := List.getElem?_eq_none (by simp [tbl]; omega)
  rw [h1, h2]
  simp [show ¬ 34 = j by omega, show ¬ 95 = j by omega, show ¬ 35 = j by omega]
theorem u8n (n : Nat) (h : n < 256) : ((UInt8.ofNat n).toNat : Int) = n := by simp [UInt8.toNat_ofNat']; omega
theorem cls0_eq (i : Nat) : cls0 i = if (97 ≤ i ∧ i ≤ 122) ∨ (65 ≤ i ∧ i ≤ 90) then 3 else if 48 ≤ i ∧ i ≤ 57 then 4 else if Lib.indexByte [32, 9, 10] (UInt8.ofNat i) ≥ 0 then 1
        else if Lib.indexByte [59, 44, 46, 58, 40, 41, 123, 125, 91, 93, 61, 60, 62, 47, 43, 45, 42] (UInt8.ofNat i) ≥ 0 then 6 else 0 := rfl
theorem tbl_get {c : Nat} (h : c < 256) : tbl.getD c .u0 = .int .u8 (if c = 35 then 2 else if c = 95 then 5 else if c = 34 then 7 else cls0 c) := by simp [tbl, List.getD, h]
theorem tbl_len : tbl.length = 256 := by simp [tbl]
theorem setL_app : ∀ (ds : List D) (cs : List D) (off : Nat), off + ds.length ≤ cs.length → setL cs off ds = cs.take off ++ ds ++ cs.drop (off + ds.length)
 | [], cs, off, h => by simp [setL]
 | d :: ds, cs, off, h => by
   simp only [List.length_cons] at h
   rw [setL, setL_app ds (cs.set off d) (off + 1) (by simp; omega)]
   have e1 : (cs.set off d).take (off + 1) = cs.take off ++ [d] := by
    rw [List.take_set, List.take_succ_eq_append_getElem (by omega), List.set_append_right _ _ (by simp; omega)]
    simp [Nat.min_eq_left (show off ≤ cs.length by omega)]
   have e2 : (cs.set off d).drop (off + 1 + ds.length) = cs.drop (off + (ds.length + 1)) := by
    rw [List.drop_set_of_lt (by omega)]; congr 1; omega
   rw [e1, e2]; simp
theorem setL_full {cs ds : List D} (h : ds.length = cs.length) : setL cs 0 ds = ds := by
 rw [setL_app ds cs 0 (by omega)]; simp [h]
theorem tbl_cl : D.cL tbl = true ∧ D.erL tbl = tbl := by
 unfold tbl
 have : ∀ (f : Nat → Int) (l : List Nat), D.cL (l.map fun c => D.int .u8 (f c)) = true ∧ D.erL (l.map fun c => D.int .u8 (f c)) = l.map fun c => D.int .u8 (f c) := by
  intro f l
  induction l with
  | nil => exact ⟨rfl, rfl⟩
  | cons x l ih => simp only [List.map_cons, D.cL, D.erL, D.closed, D.er, ih.1, ih.2]; exact ⟨rfl, trivial⟩
 exact this _ _
attribute [irreducible] tblN tbl cls0
set_option maxHeartbeats 1000000 in
theorem classes_p : Pur M 61 [] (.agg tbl) := by
 refine k61.ok (C := C61) rfl rfl ?_
 rw [i61]
 unfold c61
 have hz := zl_len
 have ht := tbl_eq
 simp only [setL] at ht
 repeat' (first | with_reducible (apply swq; constructor) | simp only [go_sem, seval, P61, q61] | with_reducible intro _)
 refine zAu [0, 1, 4] (fun i : Nat => ⟨[.ptr 0 0, .ptr 1 0, .u0, .u0, .int .i64 i, .u0, .u0, .u0, .u0, .u0], [], ⟨[.cells zl256, .cells (tblN i)], []⟩⟩) (fun i => i ≤ 256) (fun i => 256 - i) 0 (by omega) ?_ ?_
 ·simp [keepE, St.keep, tblN_zero]
 ·intro i g1
  have hl := zFs i
  by_cases hi : i < 256
  ·have hn := u8n i hi
   have x1 := index_p [32, 9, 10] (UInt8.ofNat i)
   have x2 := index_p [59, 44, 46, 58, 40, 41, 123, 125, 91, 93, 61, 60, 62, 47, 43, 45, 42] (UInt8.ofNat i)
   rw [hn] at x1 x2
   have hset := fun v => tblN_set (v := v) hi
   have hskip := tblN_skip hi
   have hc := cls0_eq i
   generalize Lib.indexByte [32, 9, 10] (UInt8.ofNat i) = y1 at *
   generalize Lib.indexByte [59, 44, 46, 58, 40, 41, 123, 125, 91, 93, 61, 60, 62, 47, 43, 45, 42] (UInt8.ofNat i) = y2 at *
   generalize cls0 i = ci at *
   have hcase : (i < 48) ∨ (48 ≤ i ∧ i < 58) ∨ (58 ≤ i ∧ i < 65) ∨ (65 ≤ i ∧ i < 91) ∨ (91 ≤ i ∧ i < 97) ∨ (97 ≤ i ∧ i < 123) ∨ (123 ≤ i) := by omega
   rcases hcase with hq | hq | hq | hq | hq | hq | hq
   ·have t0 : decide (97 ≤ (i : Int)) = false := by simp; omega
    have t1 : decide ((i : Int) ≤ 122) = true := by simp; omega
    have t2 : decide (65 ≤ (i : Int)) = false := by simp; omega
    have t3 : decide ((i : Int) ≤ 90) = true := by simp; omega
    have t4 : decide (48 ≤ (i : Int)) = false := by simp; omega
    have t5 : decide ((i : Int) ≤ 57) = true := by simp; omega
    have wQ := tw; repeat' (first | with_reducible (apply swq; constructor) | simp only [go_sem, seval, P61, q61, hl, t0, t1, t2, t3, t4, t5] | simp (disch := omega) only [wA] | ((with_reducible refine zAb (x1) ?he ?hc ?_); (case he | hc => exact sc wQ)) | ((with_reducible refine zAb (x2) ?he ?hc ?_); (case he | hc => exact sc wQ)) | (with_reducible (apply cdA; constructor)) | ((with_reducible refine And.intro ?hw ?_); (case hw => exact sw wQ)) | with_reducible intro _)
    all_goals try omega
    all_goals refine ⟨i + 1, by omega, by omega, ?_⟩
    all_goals simp [St.keep, keepE]
    all_goals first
     | exact hset _ (by rw [hc]; repeat' split <;> first | rfl | omega)
     | exact hskip (by rw [hc]; repeat' split <;> first | rfl | omega)
   ·have t0 : decide (97 ≤ (i : Int)) = false := by simp; omega
    have t1 : decide ((i : Int) ≤ 122) = true := by simp; omega
    have t2 : decide (65 ≤ (i : Int)) = false := by simp; omega
    have t3 : decide ((i : Int) ≤ 90) = true := by simp; omega
    have t4 : decide (48 ≤ (i : Int)) = true := by simp; omega
    have t5 : decide ((i : Int) ≤ 57) = true := by simp; omega
    have wQ := tw; repeat' (first | with_reducible (apply swq; constructor) | simp only [go_sem, seval, P61, q61, hl, t0, t1, t2, t3, t4, t5] | simp (disch := omega) only [wA] | (with_reducible (apply cdA; constructor)) | ((with_reducible refine And.intro ?hw ?_); (case hw => exact sw wQ)) | with_reducible intro _)
    all_goals try omega
    all_goals refine ⟨i + 1, by omega, by omega, ?_⟩
    all_goals simp [St.keep, keepE]
    all_goals first
     | exact hset _ (by rw [hc]; repeat' split <;> first | rfl | omega)
     | exact hskip (by rw [hc]; repeat' split <;> first | rfl | omega)
   ·have t0 : decide (97 ≤ (i : Int)) = false := by simp; omega
    have t1 : decide ((i : Int) ≤ 122) = true := by simp; omega
    have t2 : decide (65 ≤ (i : Int)) = false := by simp; omega
    have t3 : decide ((i : Int) ≤ 90) = true := by simp; omega
    have t4 : decide (48 ≤ (i : Int)) = true := by simp; omega
    have t5 : decide ((i : Int) ≤ 57) = false := by simp; omega
    have wQ := tw; repeat' (first | with_reducible (apply swq; constructor) | simp only [go_sem, seval, P61, q61, hl, t0, t1, t2, t3, t4, t5] | simp (disch := omega) only [wA] | ((with_reducible refine zAb (x1) ?he ?hc ?_); (case he | hc => exact sc wQ)) | ((with_reducible refine zAb (x2) ?he ?hc ?_); (case he | hc => exact sc wQ)) | (with_reducible (apply cdA; constructor)) | ((with_reducible refine And.intro ?hw ?_); (case hw => exact sw wQ)) | with_reducible intro _)
    all_goals try omega
    all_goals refine ⟨i + 1, by omega, by omega, ?_⟩
    all_goals simp [St.keep, keepE]
    all_goals first
     | exact hset _ (by rw [hc]; repeat' split <;> first | rfl | omega)
     | exact hskip (by rw [hc]; repeat' split <;> first | rfl | omega)
   ·have t0 : decide (97 ≤ (i : Int)) = false := by simp; omega
    have t1 : decide ((i : Int) ≤ 122) = true := by simp; omega
    have t2 : decide (65 ≤ (i : Int)) = true := by simp; omega
    have t3 : decide ((i : Int) ≤ 90) = true := by simp; omega
    have t4 : decide (48 ≤ (i : Int)) = true := by simp; omega
    have t5 : decide ((i : Int) ≤ 57) = false := by simp; omega
    have wQ := tw; repeat' (first | with_reducible (apply swq; constructor) | simp only [go_sem, seval, P61, q61, hl, t0, t1, t2, t3, t4, t5] | simp (disch := omega) only [wA] | (with_reducible (apply cdA; constructor)) | ((with_reducible refine And.intro ?hw ?_); (case hw => exact sw wQ)) | with_reducible intro _)
    all_goals try omega
    all_goals refine ⟨i + 1, by omega, by omega, ?_⟩
    all_goals simp [St.keep, keepE]
    all_goals first
     | exact hset _ (by rw [hc]; repeat' split <;> first | rfl | omega)
     | exact hskip (by rw [hc]; repeat' split <;> first | rfl | omega)
   ·have t0 : decide (97 ≤ (i : Int)) = false := by simp; omega
    have t1 : decide ((i : Int) ≤ 122) = true := by simp; omega
    have t2 : decide (65 ≤ (i : Int)) = true := by simp; omega
    have t3 : decide ((i : Int) ≤ 90) = false := by simp; omega
    have t4 : decide (48 ≤ (i : Int)) = true := by simp; omega
    have t5 : decide ((i : Int) ≤ 57) = false := by simp; omega
    have wQ := tw; repeat' (first | with_reducible (apply swq; constructor) | simp only [go_sem, seval, P61, q61, hl, t0, t1, t2, t3, t4, t5] | simp (disch := omega) only [wA] | ((with_reducible refine zAb (x1) ?he ?hc ?_); (case he | hc => exact sc wQ)) | ((with_reducible refine zAb (x2) ?he ?hc ?_); (case he | hc => exact sc wQ)) | (with_reducible (apply cdA; constructor)) | ((with_reducible refine And.intro ?hw ?_); (case hw => exact sw wQ)) | with_reducible intro _)
    all_goals try omega
    all_goals refine ⟨i + 1, by omega, by omega, ?_⟩
    all_goals simp [St.keep, keepE]
    all_goals first
     | exact hset _ (by rw [hc]; repeat' split <;> first | rfl | omega)
     | exact hskip (by rw [hc]; repeat' split <;> first | rfl | omega)
   ·have t0 : decide (97 ≤ (i : Int)) = true := by simp; omega
    have t1 : decide ((i : Int) ≤ 122) = true := by simp; omega
    have t2 : decide (65 ≤ (i : Int)) = true := by simp; omega
    have t3 : decide ((i : Int) ≤ 90) = false := by simp; omega
    have t4 : decide (48 ≤ (i : Int)) = true := by simp; omega
    have t5 : decide ((i : Int) ≤ 57) = false := by simp; omega
    have wQ := tw; repeat' (first | with_reducible (apply swq; constructor) | simp only [go_sem, seval, P61, q61, hl, t0, t1, t2, t3, t4, t5] | simp (disch := omega) only [wA] | (with_reducible (apply cdA; constructor)) | ((with_reducible refine And.intro ?hw ?_); (case hw => exact sw wQ)) | with_reducible intro _)
    all_goals try omega
    all_goals refine ⟨i + 1, by omega, by omega, ?_⟩
    all_goals simp [St.keep, keepE]
    all_goals first
     | exact hset _ (by rw [hc]; repeat' split <;> first | rfl | omega)
     | exact hskip (by rw [hc]; repeat' split <;> first | rfl | omega)
   ·have t0 : decide (97 ≤ (i : Int)) = true := by simp; omega
    have t1 : decide ((i : Int) ≤ 122) = false := by simp; omega
    have t2 : decide (65 ≤ (i : Int)) = true := by simp; omega
    have t3 : decide ((i : Int) ≤ 90) = false := by simp; omega
    have t4 : decide (48 ≤ (i : Int)) = true := by simp; omega
    have t5 : decide ((i : Int) ≤ 57) = false := by simp; omega
    have wQ := tw; repeat' (first | with_reducible (apply swq; constructor) | simp only [go_sem, seval, P61, q61, hl, t0, t1, t2, t3, t4, t5] | simp (disch := omega) only [wA] | ((with_reducible refine zAb (x1) ?he ?hc ?_); (case he | hc => exact sc wQ)) | ((with_reducible refine zAb (x2) ?he ?hc ?_); (case he | hc => exact sc wQ)) | (with_reducible (apply cdA; constructor)) | ((with_reducible refine And.intro ?hw ?_); (case hw => exact sw wQ)) | with_reducible intro _)
    all_goals try omega
    all_goals refine ⟨i + 1, by omega, by omega, ?_⟩
    all_goals simp [St.keep, keepE]
    all_goals first
     | exact hset _ (by rw [hc]; repeat' split <;> first | rfl | omega)
     | exact hskip (by rw [hc]; repeat' split <;> first | rfl | omega)
  ·obtain rfl : i = 256 := by omega
   generalize tblN 256 = T1 at *
   have hk := tbl_len
   have htk : tbl.take 256 = tbl := List.take_of_length_le (by omega)
   have hsf : setL zl256 0 tbl = tbl := setL_full (by omega)
   have hmin : min 256 tbl.length = 256 := by omega
   have hcl := tbl_cl
   have wQ := And.intro @hl (And.intro @List.length_set.{0} @hcl); repeat' (first | with_reducible (apply swq; constructor) | simp only [go_sem, seval, P61, q61, hl, List.length_set, hz, ht, htk, hsf, hmin, hk] | simp (disch := omega) only [wA] | (with_reducible first | (apply cdA; constructor) | (apply gdA; constructor)) | ((with_reducible refine And.intro ?hw ?_); (case hw => exact sw wQ)) | with_reducible intro _)
   all_goals first | omega | skip
   all_goals simp [D.closed, D.er, D.cL, D.erL, hl, hcl.1, hcl.2]
end Go.Proofs.YtkjnhkoipgdfeaaGreatDoor
end
section
set_option maxRecDepth 100000
set_option linter.unusedSimpArgs false
set_option linter.unusedVariables false
namespace Go.Proofs.YtkjnhkoipgdfeaaGreatDoor
open Go GoV Go.RowKit
def cls (c : UInt8) : Int := if isLet c then 3 else if isDig c then 4 else if zA4 c then 1 else if c = 35 then 2 else if c = 34 then 7 else if c = 95 then 5 else if isSym c then 6 else 0
def clsB (c : UInt8) : Int := if c.toNat = 35 then 2 else if c.toNat = 95 then 5 else if c.toNat = 34 then 7 else cls0 c.toNat
theorem clsB_get (c : UInt8) : tbl.getD c.toNat .u0 = .int .u8 (clsB c) := tbl_get (UInt8.toNat_lt c)
theorem clsB_eq (c : UInt8) : clsB c = cls c := by
 have key : ∀ n : Fin 256, (if (UInt8.ofNat n.val).toNat = 35 then 2 else if (UInt8.ofNat n.val).toNat = 95 then 5 else if (UInt8.ofNat n.val).toNat = 34 then 7 else
  (if (97 ≤ (UInt8.ofNat n.val).toNat ∧ (UInt8.ofNat n.val).toNat ≤ 122) ∨ (65 ≤ (UInt8.ofNat n.val).toNat ∧ (UInt8.ofNat n.val).toNat ≤ 90) then 3 else if 48 ≤ (UInt8.ofNat n.val).toNat ∧ (UInt8.ofNat n.val).toNat ≤ 57 then 4 else if Lib.indexByte [32, 9, 10] (UInt8.ofNat (UInt8.ofNat n.val).toNat) ≥ 0 then 1
   else if Lib.indexByte [59, 44, 46, 58, 40, 41, 123, 125, 91, 93, 61, 60, 62, 47, 43, 45, 42] (UInt8.ofNat (UInt8.ofNat n.val).toNat) ≥ 0 then 6 else 0 : Int)) = cls (UInt8.ofNat n.val) := by decide +kernel
 have h := key ⟨c.toNat, UInt8.toNat_lt c⟩
 have e : UInt8.ofNat c.toNat = c := by simp
 simp only [e] at h
 unfold clsB
 rw [cls0_eq, e]
 exact h
def clsAt (t : Tx) (i : Nat) : Int := if i < t.length then cls (t.getD i 0) else 0
theorem o_ixaI {P : Mod} {r : List RO} {K : St → Prop} {s : St} {dst : Dst} {len n : Nat} {k : IntKind} {a : Int} {cs : List D} : OpS P (.ixaA len n) [.ip cs, .int k a] dst r K s = (0 ≤ a ∧ a < len ∧ opsWp P r K (s.put dst (.ip (cs.drop (a.toNat * n))))) := by simp [OpS, OcWp, zAa, isPan, opWp]
theorem drop_getD {L : List D} {n : Nat} {v : D} (h : n < L.length) (hv : L.getD n .u0 = v) : L.drop n = v :: L.drop (n + 1) := by
 rw [List.drop_eq_getElem_cons h]
 congr 1
 rw [← hv]; simp [List.getD, h]
theorem at_p (t : Tx) (i : Nat) (ht : t.length ≤ 1000000) (hi : i ≤ 1000000) : Pur M 62 [.int .i64 i, .ip [.str t], .ip tbl] (.int .u8 (clsAt t i)) := by
 refine k62.ok (C := C62) rfl rfl ?_
 rw [i62]
 unfold c62
 have hk := tbl_len
 have hcl := tbl_cl
 unfold clsAt
 by_cases h : i < t.length
 ·rw [if_pos h]
  have hg := clsB_get (t.getD i 0)
  rw [clsB_eq] at hg
  have hlt : (t.getD i 0).toNat < 256 := UInt8.toNat_lt _
  have hg2 : tbl.drop (t.getD i 0).toNat = .int .u8 (cls (t.getD i 0)) :: tbl.drop ((t.getD i 0).toNat + 1) := by
   exact drop_getD (by omega) hg
  generalize cls (t.getD i 0) = cl at *
  have hd : decide ((i : Int) ≥ t.length) = false := by simp; omega
  have wQ := And.intro @hk (And.intro @hlt @hg2); repeat' (first | with_reducible (apply swq; constructor) | simp only [go_sem, seval, P62, q62, Nat.mul_one, hk, hg, hd, o_ixaI, hg2] | ((with_reducible refine And.intro ?hw ?_); (case hw => exact sw wQ)) | with_reducible intro _)
  all_goals try omega
  all_goals trace_state
  all_goals simp [D.closed, D.er]
 ·rw [if_neg h]
  have hd : decide ((i : Int) ≥ t.length) = true := by simp; omega
  repeat' (first | with_reducible (apply swq; constructor) | simp only [go_sem, seval, P62, q62, hd] | with_reducible intro _)
  all_goals try omega
  all_goals simp [D.closed, D.er]
abbrev atD (t : Tx) : D := .fn (.func 62) [] [.ip [.str t], .ip tbl]
abbrev toksD (t : Tx) : D := .fn (.func 63) [] [.ip [.str t], .ip [atD t]]
theorem tbl_fz (b : Nat) (cs : List D) : tbl.map (D.fz b cs) = tbl := by
 unfold tbl
 rw [List.map_map]
 rfl
set_option maxHeartbeats 1000000 in
theorem tokens_p (t : Tx) : Pur M 42 [.str t] (toksD t) := by
 refine k42.ow (C := C42) rfl rfl ?_
 rw [i42]
 unfold c42
 have c1 := classes_p
 have hk := tbl_len
 have htk : tbl.take 256 = tbl := List.take_of_length_le (by omega)
 have hz := zl_len
 have hsf : setL zl256 0 tbl = tbl := setL_full (by omega)
 have hmin : min 256 tbl.length = 256 := by omega
 obtain ⟨hcl, her⟩ := tbl_cl
 have hfz := tbl_fz
 have wQ := And.intro @hk (And.intro @hz (And.intro @htk (And.intro @hsf (And.intro @hmin (And.intro @hcl @her))))); repeat' (first | with_reducible (apply swq; constructor) | simp only [go_sem, seval, P42, q42, hz, hk, htk, hsf, hmin] | ((with_reducible refine zAb (c1) ?he ?hc ?_); (case he | hc => exact sc wQ)) | with_reducible intro _)
 all_goals try omega
 refine ⟨_, zDd (zD9 [2]) (zDd (weak_frz 0 [.str t] (by simp [keepE]) (Nat.zero_le _) (by simp [D.cL, D.closed])) (zDd (weak_frz 1 tbl (by simp [St.frz, Blk.mapD, keepE, hfz]) (Nat.zero_le _) hcl) (weak_frz 2 [.fn (.func 62) [] [.ip [.str t], .ip tbl]] (by simp [St.frz, Blk.mapD, keepE, D.fz, D.fzL, hfz, D.erL, D.er, her]) (Nat.zero_le _) (by simp [D.cL, D.closed, hcl])))), ?_⟩
 simp [St.frz, keepE, D.fz, D.fzL, D.closed, D.er, D.cL, D.erL, hcl, her, hfz]
end Go.Proofs.YtkjnhkoipgdfeaaGreatDoor
end
section
set_option maxRecDepth 100000
set_option linter.unusedSimpArgs false
set_option linter.unusedVariables false
namespace Go.Proofs.YtkjnhkoipgdfeaaGreatDoor
open Go GoV Go.RowKit
theorem zDq {p : UInt8 → Bool} (h : ∀ n : Fin 256, p (UInt8.ofNat n.val) = true) (c : UInt8) : p c = true := by
 have := h ⟨c.toNat, UInt8.toNat_lt c⟩
 simpa using this
theorem isWord_cls (c : UInt8) : zAz c = (decide (cls c = 3) || decide (cls c = 4) || decide (cls c = 5)) := by
 have := zDq (p := fun c => zAz c == (decide (cls c = 3) || decide (cls c = 4) || decide (cls c = 5))) (by decide +kernel) c
 exact eq_of_beq this
theorem isDig_cls (c : UInt8) : isDig c = decide (cls c = 4) := by
 have := zDq (p := fun c => isDig c == decide (cls c = 4)) (by decide +kernel) c
 exact eq_of_beq this
theorem hash_cls (c : UInt8) : cls c = 2 → c = 35 := by
 have := zDq (p := fun c => !(decide (cls c = 2)) || c == 35) (by decide +kernel) c
 intro h
 simp only [h, decide_true, Bool.not_true, Bool.false_or] at this
 exact eq_of_beq this
theorem tw_get {p : UInt8 → Bool} : ∀ {s : Tx} {j : Nat}, j < spn p s → j < s.length ∧ p (s.getD j 0) = true
 | [], j, h => by simp [spn] at h
 | c :: s, j, h => by
   cases hc : p c
   ·simp [spn, List.takeWhile, hc] at h
   ·cases j with
    | zero => exact ⟨by simp, by simpa using hc⟩
    | succ j =>
      have h' : j < spn p s := by simpa [spn, List.takeWhile, hc] using h
      have := tw_get h'
      exact ⟨by simp; omega, by simpa using this.2⟩
theorem tw_len {p : UInt8 → Bool} : ∀ (s : Tx), spn p s ≤ s.length
 | [] => by simp [spn]
 | c :: s => by
   cases hc : p c
   ·simp [spn, List.takeWhile, hc]
   ·have := tw_len (p := p) s
    simp only [spn] at this
    simp [spn, List.takeWhile, hc]; omega
theorem tw_stop {p : UInt8 → Bool} : ∀ {s : Tx}, spn p s < s.length → p (s.getD (spn p s) 0) = false
 | [], h => by simp [spn] at h
 | c :: s, h => by
   cases hc : p c
   ·simp [spn, List.takeWhile, hc]
   ·have e : spn p (c :: s) = spn p s + 1 := by simp [spn, List.takeWhile, hc]
    rw [e] at h ⊢
    have := tw_stop (p := p) (s := s) (by simp at h; omega)
    simpa using this
theorem getD_drop (t : Tx) (i j : Nat) : (t.drop i).getD j 0 = t.getD (i + j) 0 := by simp [List.getD]
theorem spn_get {p : UInt8 → Bool} {t : Tx} {i j : Nat} (h : j < spn p (t.drop i)) : i + j < t.length ∧ p (t.getD (i + j) 0) = true := by
 have := tw_get h
 rw [getD_drop] at this
 simp only [List.length_drop] at this
 exact ⟨by omega, this.2⟩
theorem zFh {p : UInt8 → Bool} {t : Tx} {i : Nat} (hi : i ≤ t.length) : i + spn p (t.drop i) ≤ t.length := by
 have := tw_len (p := p) (t.drop i)
 simp only [List.length_drop] at this; omega
theorem zEw {p : UInt8 → Bool} {t : Tx} {i : Nat} (h : i + spn p (t.drop i) < t.length) : p (t.getD (i + spn p (t.drop i)) 0) = false := by
 have := tw_stop (p := p) (s := t.drop i) (by simp only [List.length_drop]; omega)
 rwa [getD_drop] at this
theorem zAt {t : Tx} {i : Nat} (h : i < t.length) : t.drop i = t.getD i 0 :: t.drop (i + 1) := by
 rw [List.drop_eq_getElem_cons h]; simp [List.getD, h]
theorem zEc {p : UInt8 → Bool} {t : Tx} {i : Nat} (h : i < t.length) (hp : p (t.getD i 0) = true) : 0 < spn p (t.drop i) := by
 rw [zAt h]
 simp only [spn, List.takeWhile_cons, hp, if_true, List.length_cons]; omega
theorem cls_let {c : UInt8} : cls c = 3 → isLet c = true := fun h => by
 have := zDq (p := fun c => !(decide (cls c = 3)) || isLet c) (by decide +kernel) c
 simpa [h] using this
theorem step_let {t : Tx} {i : Nat} (hi : i < t.length) (h : cls (t.getD i 0) = 3) : step (t.drop i) i = (spn zAz (t.drop i), some ⟨⟨1, (t.drop i).take (spn zAz (t.drop i)), i⟩, if 24 < spn zAz (t.drop i) then 7 else 0⟩) := by
 have h1 := cls_let h
 rw [zAt hi]
 simp only [step, h1, if_true]
theorem cls_dig {c : UInt8} : cls c = 4 → isLet c = false ∧ isDig c = true := fun h => by
 have := zDq (p := fun c => !(decide (cls c = 4)) || (!isLet c && isDig c)) (by decide +kernel) c
 simpa [h] using this
theorem step_dig {t : Tx} {i : Nat} (hi : i < t.length) (h : cls (t.getD i 0) = 4) : step (t.drop i) i = (spn isDig (t.drop i), some ⟨⟨2, (t.drop i).take (spn isDig (t.drop i)), i⟩, if 7 < spn isDig (t.drop i) ∨ ((t.drop i).drop (spn isDig (t.drop i))).head?.any zAz = true then 11 else 0⟩) := by
 have h1 := cls_dig h
 rw [zAt hi]
 simp only [step, h1.1, h1.2, if_true, Bool.false_eq_true, if_false]
theorem cls_blank {c : UInt8} : cls c = 1 → isLet c = false ∧ isDig c = false ∧ zA4 c = true := fun h => by
 have := zDq (p := fun c => !(decide (cls c = 1)) || (!isLet c && (!isDig c && zA4 c))) (by decide +kernel) c
 simpa [h] using this
theorem step_blank {t : Tx} {i : Nat} (hi : i < t.length) (h : cls (t.getD i 0) = 1) : step (t.drop i) i = (1, none) := by
 have h1 := cls_blank h
 rw [zAt hi]
 simp only [step, h1.1, h1.2.1, h1.2.2, if_true, Bool.false_eq_true, if_false]
theorem step_hash {t : Tx} {i : Nat} (hi : i < t.length) (h : cls (t.getD i 0) = 2) : step (t.drop i) i = (spn (fun d => !(d == 10)) (t.drop i), none) := by
 have h1 := hash_cls _ h
 rw [zAt hi, h1]
 simp [step, isLet, isDig, zA4]
theorem cls_quote {c : UInt8} : cls c = 7 → c = 34 := fun h => by
 have := zDq (p := fun c => !(decide (cls c = 7)) || c == 34) (by decide +kernel) c
 simp only [h, decide_true, Bool.not_true, Bool.false_or] at this
 exact eq_of_beq this
theorem zEv {t : Tx} {i : Nat} (hi : i < t.length) (h : cls (t.getD i 0) = 7) : step (t.drop i) i = match unq (t.drop (i + 1)) [] 1 with
      | some (u, n) => (n, some ⟨⟨3, u, i⟩, 0⟩)
      | none => (0, some (noErr i)) := by
  have h1 := cls_quote h
  rw [zAt hi, h1]
  simp [step, isLet, isDig, zA4]
  try rfl
theorem cls_sym {c : UInt8} : cls c = 6 → isLet c = false ∧ isDig c = false ∧ zA4 c = false ∧ (c == 35) = false ∧ (c == 34) = false ∧ isSym c = true := fun h => by
 have := zDq (p := fun c => !(decide (cls c = 6)) || (!isLet c && (!isDig c && (!zA4 c && (!(c == 35) && (!(c == 34) && isSym c)))))) (by decide +kernel) c
 simpa [h] using this
theorem step_sym {t : Tx} {i : Nat} (hi : i < t.length) (h : cls (t.getD i 0) = 6) : step (t.drop i) i = (1, some ⟨⟨4, (t.drop i).take 1, i⟩, 0⟩) := by
 obtain ⟨h1, h2, h3, h4, h5, h6⟩ := cls_sym h
 rw [beq_eq_false_iff_ne] at h4 h5
 rw [zAt hi]
 simp only [step, h1, h2, h3, h6, if_true, Bool.false_eq_true, if_false, if_neg h4, if_neg h5, List.take_succ_cons, List.take_zero]
theorem cls_other {c : UInt8} : (cls c = 0 ∨ cls c = 5) → isLet c = false ∧ isDig c = false ∧ zA4 c = false ∧ (c == 35) = false ∧ (c == 34) = false ∧ isSym c = false := fun h => by
 have := zDq (p := fun c => !(decide (cls c = 0) || decide (cls c = 5)) || (!isLet c && (!isDig c && (!zA4 c && (!(c == 35) && (!(c == 34) && !isSym c)))))) (by decide +kernel) c
 rcases h with h | h <;> simpa [h] using this
theorem zBw {t : Tx} {i : Nat} (hi : i < t.length) (h : cls (t.getD i 0) = 0 ∨ cls (t.getD i 0) = 5) : step (t.drop i) i = (0, some (noErr i)) := by
 obtain ⟨h1, h2, h3, h4, h5, h6⟩ := cls_other h
 rw [beq_eq_false_iff_ne] at h4 h5
 rw [zAt hi]
 simp only [step, h1, h2, h3, h6, if_true, Bool.false_eq_true, if_false, if_neg h4, if_neg h5]
theorem cls_all (c : UInt8) : cls c = 0 ∨ cls c = 1 ∨ cls c = 2 ∨ cls c = 3 ∨ cls c = 4 ∨ cls c = 5 ∨ cls c = 6 ∨ cls c = 7 := by
 unfold cls
 repeat' split
 all_goals simp
theorem unq_len : ∀ (r a : Tx) (k : Nat) {u : Tx} {n : Nat}, unq r a k = some (u, n) → k < n ∧ n ≤ k + r.length
 | [], _, _, _, _, h => by simp [unq] at h
 | c :: r, a, k, u, n, h => by
   rw [unq.eq_def] at h
   simp only at h
   split at h
   ·cases h; simp
   split at h
   ·cases h
   split at h
   ·cases r with
    | nil => simp at h
    | cons d r =>
      simp only at h
      split at h
      ·have := unq_len r _ _ h; simp; omega
      split at h
      ·have := unq_len r _ _ h; simp; omega
      split at h
      ·have := unq_len r _ _ h; simp; omega
      ·cases h
   ·have := unq_len r _ _ h; simp; omega
theorem step_ok (t : Tx) {i : Nat} (hi : i < t.length) : i + (step (t.drop i) i).1 ≤ t.length ∧ (((step (t.drop i) i).2 = none ∨ ∃ f, (step (t.drop i) i).2 = some f ∧ f.err = 0) → 0 < (step (t.drop i) i).1) := by
 rcases cls_all (t.getD i 0) with h | h | h | h | h | h | h | h
 ·rw [zBw hi (.inl h)]; exact ⟨by simp only; omega, by simp⟩
 ·rw [step_blank hi h]; exact ⟨by simp only; omega, by simp⟩
 ·rw [step_hash hi h]
  have := hash_cls _ h
  exact ⟨zFh (by omega), fun _ => zEc hi (by rw [this]; rfl)⟩
 ·rw [step_let hi h]; exact ⟨zFh (by omega), fun _ => zEc hi (by rw [isWord_cls, h]; rfl)⟩
 ·rw [step_dig hi h]; exact ⟨zFh (by omega), fun _ => zEc hi (by rw [isDig_cls, h]; rfl)⟩
 ·rw [zBw hi (.inr h)]; exact ⟨by simp only; omega, by simp⟩
 ·rw [step_sym hi h]; exact ⟨by simp only; omega, by simp⟩
 ·rw [zEv hi h]
  cases hu : unq (t.drop (i + 1)) [] 1 with
  | none => exact ⟨by simp only; omega, by simp⟩
  | some p =>
    obtain ⟨u, n⟩ := p
    have := unq_len _ _ _ hu
    simp only [List.length_drop] at this
    exact ⟨by simp only; omega, fun _ => by simp only; omega⟩
def lx (t : Tx) (i : Nat) : List Fo := lexF (t.length - i) (t.drop i) i
theorem zFy (t : Tx) : ∀ (a b i : Nat), t.length - i ≤ a → t.length - i ≤ b → lexF a (t.drop i) i = lexF b (t.drop i) i
 | 0, b, i, ha, hb => by
   have : t.drop i = [] := List.drop_eq_nil_of_le (by omega)
   rw [this]; cases b <;> simp [lexF]
 | a + 1, 0, i, ha, hb => by
   have : t.drop i = [] := List.drop_eq_nil_of_le (by omega)
   rw [this]; simp [lexF]
 | a + 1, b + 1, i, ha, hb => by
   by_cases hi : i < t.length
   ·have hne : t.drop i ≠ [] := by rw [zAt hi]; simp
    have hok := step_ok t hi
    simp only [lexF, if_neg hne]
    cases hs : (step (t.drop i) i).2 with
    | none =>
      simp only []
      rw [List.drop_drop]
      have := hok.2 (.inl hs)
      exact zFy t a b _ (by omega) (by omega)
    | some f =>
      simp only []
      split
      ·rename_i he
       rw [List.drop_drop]
       have := hok.2 (.inr ⟨f, hs, he⟩)
       rw [zFy t a b _ (by omega) (by omega)]
      ·rfl
   ·have : t.drop i = [] := List.drop_eq_nil_of_le (by omega)
    rw [this]; simp [lexF]
theorem lx_end {t : Tx} {i : Nat} (h : t.length ≤ i) : lx t i = [] := by
 unfold lx
 rw [List.drop_eq_nil_of_le h]; cases t.length - i <;> simp [lexF]
theorem lx_step {t : Tx} {i : Nat} (hi : i < t.length) : lx t i = match (step (t.drop i) i).2 with
 | none => lx t (i + (step (t.drop i) i).1)
 | some f => if f.err = 0 then f :: lx t (i + (step (t.drop i) i).1) else [f] := by
 have hne : t.drop i ≠ [] := by rw [zAt hi]; simp
 have hok := step_ok t hi
 unfold lx
 obtain ⟨a, ha⟩ : ∃ a, t.length - i = a + 1 := ⟨t.length - i - 1, by omega⟩
 rw [ha]
 simp only [lexF, if_neg hne]
 cases hs : (step (t.drop i) i).2 with
 | none =>
   simp only []
   rw [List.drop_drop]
   have := hok.2 (.inl hs)
   exact zFy t _ _ _ (by omega) (by omega)
 | some f =>
   simp only []
   split
   ·rename_i he
    rw [List.drop_drop]
    have := hok.2 (.inr ⟨f, hs, he⟩)
    rw [zFy t a _ _ (by omega) (Nat.le_refl _)]
   ·rfl
theorem lx_all (t : Tx) : lx t 0 = lexR t := by simp [lx, lexR]
@[reducible] def Fo.cells (f : Fo) : List D := [.int .i64 f.tok.kind, .str f.tok.text, .int .i64 f.tok.pos, .int .i64 f.err]
def rowD (f : Fo) : List D := [.agg f.cells]
def rows (t : Tx) : List (List D) := (lexR t).map rowD
def isErr (t : Tx) : Bool := match (lexR t).getLast? with
 | some f => !(f.err == 0)
 | none => false
theorem reg15 {C : Cfg} {t : Tx} {a b n : Nat} {HH : List Blk} {tk : List Tv} (hn : HH.length = n) (hab : a ≤ b) (hb : b ≤ t.length) {p : Int} {e : List D} (he1 : e[1]? = some (.ip [.str t])) (he3 : e[3]? = some (.int .i64 (b : Nat))) (he4 : e[4]? = some (.int .i64 (a : Nat))) (he5 : e[5]? = some (.ptr n 0))
 (Q : Ex → St → Prop) (hQ : Q .normal ⟨e, [], ⟨HH ++ [.cells [.int .i64 1, .str ((t.take b).drop a), .int .i64 p, .int .i64 0]], tk⟩⟩) :
 SWp C (.regD r63_15 r63_16) Q ⟨e, [], ⟨HH ++ [.cells [.int .i64 0, .str [], .int .i64 p, .int .i64 10]], tk⟩⟩ := by
 have still : ∀ i, i ≠ 6 → Still (fun E => (⟨HH ++ [.cells [if E 6 then .int .i64 1 else .int .i64 0, .str [], .int .i64 p, .int .i64 10]], tk⟩ : Hp)) i := fun i h E _ => by
  have : (6 == i) = false := by rw [beq_eq_false_iff_ne]; omega
  simp [this]
 have hg : ∀ B : Blk, (HH ++ [B])[n]? = some B := fun B => by rw [← hn]; simp
 have hs : ∀ B B' : Blk, (HH ++ [B]).set n B' = HH ++ [B'] := fun B B' => by rw [← hn]; simp
 refine zA0 (fun E => ⟨HH ++ [.cells [if E 6 then .int .i64 1 else .int .i64 0, .str [], .int .i64 p, .int .i64 10]], tk⟩) (by simp) ?_
 refine y_q (ds := [.ip [.str t]]) (.str t) (by simp [go_sem, he1]) (still _ (by decide)) (fun _ => by simp [OcWp, zAa, isPan, opWp]) ?_
 refine y_q (ds := [.int .i64 (a : Nat)]) (.int .i64 (a : Nat)) (by simp [go_sem, he4]) (still _ (by decide)) (fun _ => by simp [OcWp, zAa, isPan, opWp]) ?_
 refine y_q (ds := [.int .i64 (b : Nat)]) (.int .i64 (b : Nat)) (by simp [go_sem, he3]) (still _ (by decide)) (fun _ => by simp [OcWp, zAa, isPan, opWp]) ?_
 refine y_q (ds := [.str t, .int .i64 (a : Nat), .int .i64 (b : Nat)]) (.str ((t.take b).drop a)) (by simp [go_sem]) (still _ (by decide)) (fun _ => by simp [OcWp, zAa, isPan, opWp]; omega) ?_
 refine y_q (ds := [.ptr n 0]) (.ptr n 0) (by simp [go_sem, he5]) (still _ (by decide)) (fun _ => by simp [OcWp, zAa, isPan, opWp]) ?_
 refine y_q (ds := [.ptr n 0]) (.ptr n 0) (by simp [go_sem]) (still _ (by decide)) (fun _ => by simp [OcWp, zAa, isPan, opWp]) ?_
 refine y_c (ds := [.ptr n 0, .int .i64 1]) (d := .skip) (by simp [go_sem]) (fun E hE => ?_) ?_
 ·have hE' : E 6 = false := hE
  simp [OcWp, zAa, isPan, opWp, hE', hg, hs, Blk.csq, Blk.putc, D.iV, D.cells, setL]
 refine y_end (hp' := ⟨HH ++ [.cells [.int .i64 1, .str [], .int .i64 p, .int .i64 10]], tk⟩) (by simp) ?_
 simp only [go_sem, he1, he3, he4, he5, hg, hs]
 simp [go_sem, he1, he3, he4, he5, hg, hs, setL, D.iV, D.cells, St.done]
 exact hQ
theorem reg22 {C : Cfg} {t : Tx} {a b n : Nat} {HH : List Blk} {tk : List Tv} (hn : HH.length = n) (hab : a ≤ b) (hb : b ≤ t.length) {p : Int} {e : List D} (he1 : e[1]? = some (.ip [.str t])) (he3 : e[3]? = some (.int .i64 (b : Nat))) (he4 : e[4]? = some (.int .i64 (a : Nat))) (he5 : e[5]? = some (.ptr n 0))
 (Q : Ex → St → Prop) (hQ : Q .normal ⟨e, [], ⟨HH ++ [.cells [.int .i64 2, .str ((t.take b).drop a), .int .i64 p, .int .i64 0]], tk⟩⟩) :
 SWp C (.regD r63_22 r63_23) Q ⟨e, [], ⟨HH ++ [.cells [.int .i64 0, .str [], .int .i64 p, .int .i64 10]], tk⟩⟩ := by
 have still : ∀ i, i ≠ 6 → Still (fun E => (⟨HH ++ [.cells [if E 6 then .int .i64 2 else .int .i64 0, .str [], .int .i64 p, .int .i64 10]], tk⟩ : Hp)) i := fun i h E _ => by
  have : (6 == i) = false := by rw [beq_eq_false_iff_ne]; omega
  simp [this]
 have hg : ∀ B : Blk, (HH ++ [B])[n]? = some B := fun B => by rw [← hn]; simp
 have hs : ∀ B B' : Blk, (HH ++ [B]).set n B' = HH ++ [B'] := fun B B' => by rw [← hn]; simp
 refine zA0 (fun E => ⟨HH ++ [.cells [if E 6 then .int .i64 2 else .int .i64 0, .str [], .int .i64 p, .int .i64 10]], tk⟩) (by simp) ?_
 refine y_q (ds := [.ip [.str t]]) (.str t) (by simp [go_sem, he1]) (still _ (by decide)) (fun _ => by simp [OcWp, zAa, isPan, opWp]) ?_
 refine y_q (ds := [.int .i64 (a : Nat)]) (.int .i64 (a : Nat)) (by simp [go_sem, he4]) (still _ (by decide)) (fun _ => by simp [OcWp, zAa, isPan, opWp]) ?_
 refine y_q (ds := [.int .i64 (b : Nat)]) (.int .i64 (b : Nat)) (by simp [go_sem, he3]) (still _ (by decide)) (fun _ => by simp [OcWp, zAa, isPan, opWp]) ?_
 refine y_q (ds := [.str t, .int .i64 (a : Nat), .int .i64 (b : Nat)]) (.str ((t.take b).drop a)) (by simp [go_sem]) (still _ (by decide)) (fun _ => by simp [OcWp, zAa, isPan, opWp]; omega) ?_
 refine y_q (ds := [.ptr n 0]) (.ptr n 0) (by simp [go_sem, he5]) (still _ (by decide)) (fun _ => by simp [OcWp, zAa, isPan, opWp]) ?_
 refine y_q (ds := [.ptr n 0]) (.ptr n 0) (by simp [go_sem]) (still _ (by decide)) (fun _ => by simp [OcWp, zAa, isPan, opWp]) ?_
 refine y_c (ds := [.ptr n 0, .int .i64 2]) (d := .skip) (by simp [go_sem]) (fun E hE => ?_) ?_
 ·have hE' : E 6 = false := hE
  simp [OcWp, zAa, isPan, opWp, hE', hg, hs, Blk.csq, Blk.putc, D.iV, D.cells, setL]
 refine y_end (hp' := ⟨HH ++ [.cells [.int .i64 2, .str [], .int .i64 p, .int .i64 10]], tk⟩) (by simp) ?_
 simp only [go_sem, he1, he3, he4, he5, hg, hs]
 simp [go_sem, he1, he3, he4, he5, hg, hs, setL, D.iV, D.cells, St.done]
 exact hQ
theorem reg34 {C : Cfg} {t : Tx} {a b n : Nat} {HH : List Blk} {tk : List Tv} (hn : HH.length = n) (hab : a ≤ b) (hb : b ≤ t.length) {p : Int} {e : List D} (he1 : e[1]? = some (.ip [.str t])) (he3 : e[3]? = some (.int .i64 (b : Nat))) (he4 : e[4]? = some (.int .i64 (a : Nat))) (he5 : e[5]? = some (.ptr n 0))
 (Q : Ex → St → Prop) (hQ : Q .normal ⟨e, [], ⟨HH ++ [.cells [.int .i64 4, .str ((t.take b).drop a), .int .i64 p, .int .i64 0]], tk⟩⟩) :
 SWp C (.regD r63_34 r63_35) Q ⟨e, [], ⟨HH ++ [.cells [.int .i64 0, .str [], .int .i64 p, .int .i64 10]], tk⟩⟩ := by
 have still : ∀ i, i ≠ 6 → Still (fun E => (⟨HH ++ [.cells [if E 6 then .int .i64 4 else .int .i64 0, .str [], .int .i64 p, .int .i64 10]], tk⟩ : Hp)) i := fun i h E _ => by
  have : (6 == i) = false := by rw [beq_eq_false_iff_ne]; omega
  simp [this]
 have hg : ∀ B : Blk, (HH ++ [B])[n]? = some B := fun B => by rw [← hn]; simp
 have hs : ∀ B B' : Blk, (HH ++ [B]).set n B' = HH ++ [B'] := fun B B' => by rw [← hn]; simp
 refine zA0 (fun E => ⟨HH ++ [.cells [if E 6 then .int .i64 4 else .int .i64 0, .str [], .int .i64 p, .int .i64 10]], tk⟩) (by simp) ?_
 refine y_q (ds := [.ip [.str t]]) (.str t) (by simp [go_sem, he1]) (still _ (by decide)) (fun _ => by simp [OcWp, zAa, isPan, opWp]) ?_
 refine y_q (ds := [.int .i64 (a : Nat)]) (.int .i64 (a : Nat)) (by simp [go_sem, he4]) (still _ (by decide)) (fun _ => by simp [OcWp, zAa, isPan, opWp]) ?_
 refine y_q (ds := [.int .i64 (b : Nat)]) (.int .i64 (b : Nat)) (by simp [go_sem, he3]) (still _ (by decide)) (fun _ => by simp [OcWp, zAa, isPan, opWp]) ?_
 refine y_q (ds := [.str t, .int .i64 (a : Nat), .int .i64 (b : Nat)]) (.str ((t.take b).drop a)) (by simp [go_sem]) (still _ (by decide)) (fun _ => by simp [OcWp, zAa, isPan, opWp]; omega) ?_
 refine y_q (ds := [.ptr n 0]) (.ptr n 0) (by simp [go_sem, he5]) (still _ (by decide)) (fun _ => by simp [OcWp, zAa, isPan, opWp]) ?_
 refine y_q (ds := [.ptr n 0]) (.ptr n 0) (by simp [go_sem]) (still _ (by decide)) (fun _ => by simp [OcWp, zAa, isPan, opWp]) ?_
 refine y_c (ds := [.ptr n 0, .int .i64 4]) (d := .skip) (by simp [go_sem]) (fun E hE => ?_) ?_
 ·have hE' : E 6 = false := hE
  simp [OcWp, zAa, isPan, opWp, hE', hg, hs, Blk.csq, Blk.putc, D.iV, D.cells, setL]
 refine y_end (hp' := ⟨HH ++ [.cells [.int .i64 4, .str [], .int .i64 p, .int .i64 10]], tk⟩) (by simp) ?_
 simp only [go_sem, he1, he3, he4, he5, hg, hs]
 simp [go_sem, he1, he3, he4, he5, hg, hs, setL, D.iV, D.cells, St.done]
 exact hQ
end Go.Proofs.YtkjnhkoipgdfeaaGreatDoor
end
section
set_option maxRecDepth 100000
set_option linter.unusedSimpArgs false
set_option linter.unusedVariables false
namespace Go.Proofs.YtkjnhkoipgdfeaaGreatDoor
open Go GoV Go.RowKit
theorem zCj {xs : List Fo} {k : Nat} {f : Fo} {r : List Fo} (h : xs.drop k = f :: r) : k < xs.length ∧ xs[k]? = some f ∧ xs.drop (k + 1) = r := by
 have hk : k < xs.length := by
  rcases Nat.lt_or_ge k xs.length with q | q
  ·exact q
  ·rw [List.drop_eq_nil_of_le q] at h; cases h
 rw [List.drop_eq_getElem_cons hk] at h
 injection h with h1 h2
 exact ⟨hk, by rw [List.getElem?_eq_getElem hk, h1], h2⟩
theorem yes_row {t : Tx} {k : Nat} {f : Fo} {r : List Fo} (h : (lexR t).drop k = f :: r) (he : f.err = 0) : yans (rows t) (isErr t) k = true := by
 obtain ⟨h1, h2, h3⟩ := zCj h
 unfold yans
 by_cases hk : k + 1 = (lexR t).length
 ·have hl : (lexR t).getLast? = some f := by rw [List.getLast?_eq_getElem?, ← hk]; simpa using h2
  simp [isErr, hl, he]
 ·have : ¬ (k + 1 = (rows t).length) := by simpa [rows] using hk
  simp [this]
theorem no_row {t : Tx} {k : Nat} {f : Fo} (h : (lexR t).drop k = [f]) (he : f.err ≠ 0) : yans (rows t) (isErr t) k = false ∧ k + 1 = (rows t).length := by
 obtain ⟨h1, h2, h3⟩ := zCj h
 have hk : k + 1 = (lexR t).length := by
  have := List.drop_eq_nil_iff.1 h3; omega
 have hl : (lexR t).getLast? = some f := by rw [List.getLast?_eq_getElem?, ← hk]; simpa using h2
 refine ⟨?_, by simpa [rows] using hk⟩
 have h0 : (f.err == 0) = false := by simp [he]
 simp [yans, isErr, hl, h0, rows, ← hk]
theorem rows_get {t : Tx} {k : Nat} {f : Fo} {r : List Fo} (h : (lexR t).drop k = f :: r) : (rows t)[k]? = some (rowD f) := by
 obtain ⟨h1, h2, h3⟩ := zCj h
 simp [rows, h2]
theorem zE8 {b : World → Gh → Prop} {hpk : Nat → Hp} {n m y : Nat} {t : Tx} (hst : Steady hpk n m) (hB : ∀ w0 B, (M.with b).base w0 B → B.r.length = n ∧ B.tk.length = m)
 (hY : ∀ k x, (rows t)[k]? = some x → YOkB (M.with b) y x (hpk k) (hpk (k + 1)) (yans (rows t) (isErr t) k)) {k : Nat} {f : Fo} {r : List Fo} (hf : (lexR t).drop k = f :: r) (hr : f.err ≠ 0 → r = [])
 {e1 e2 e3 e4 e6 e7 e8 e9 e10 e11 e12 e13 e14 e15 e16 e17 e18 e19 e20 e21 e22 e23 e24 : D} (Q : Ex → St → Prop)
 (hgo : f.err = 0 → Q .normal ⟨[yldD y, e1, e2, e3, e4, .ptr n 0, e6, e7, e8, e9, e10, e11, e12, e13, e14, e15, e16, e17, e18, e19, e20, e21, e22, e23, .bool false], [], ⟨(hpk (k + 1)).H ++ [.cells f.cells], (hpk (k + 1)).tk⟩⟩)
 (hno : f.err ≠ 0 → k + 1 = (rows t).length → Q .ret ⟨[yldD y, e1, e2, e3, e4, .ptr n 0, e6, e7, e8, e9, e10, e11, e12, e13, e14, e15, e16, e17, e18, e19, e20, e21, e22, e23, .bool true], [], ⟨(hpk (k + 1)).H ++ [.cells f.cells], (hpk (k + 1)).tk⟩⟩) :
 SWp ((E63 0 0).atB b (hpk 0)) (.seq (.reg r63_36) (.cond (.v 24) .ret .skip)) Q ⟨[yldD y, e1, e2, e3, e4, .ptr n 0, e6, e7, e8, e9, e10, e11, e12, e13, e14, e15, e16, e17, e18, e19, e20, e21, e22, e23, e24], [], ⟨(hpk k).H ++ [.cells f.cells], (hpk k).tk⟩⟩ := by
 have h8 := hY k _ (rows_get hf)
 have hln := hst.len
 have hlt := hst.lent
 have hg : ∀ (j : Nat) (B : Blk), ((hpk j).H ++ [B])[n]? = some B := fun j B => by rw [← hst.len j]; simp
 have hgc := hst.gc
 have hbk := hst.bk
 by_cases he : f.err = 0
 ·have hy := yes_row hf he
  rw [hy] at h8
  have h0 : (f.err != 0) = false := by simp [he]
  repeat' (first | with_reducible (apply swq; constructor) | simp only [go_sem, seval, atB_M, pe63, hg, h0] | ((with_reducible refine o_yieldS (L := ?yL) hst (h8) hB ?hx ?hh ?_); (case hx => first | rfl | (simp [D.rnL, D.rn, rowD]; done)); (case hh => rfl)) | with_reducible intro _)
  all_goals try (exfalso; omega)
  exact hgo he
 ·rw [hr he] at hf
  obtain ⟨hy, hk⟩ := no_row hf he
  rw [hy] at h8
  have h0 : (f.err != 0) = true := by simp [he]
  repeat' (first | with_reducible (apply swq; constructor) | simp only [go_sem, seval, atB_M, pe63, hg, h0] | ((with_reducible refine o_yieldS (L := ?yL) hst (h8) hB ?hx ?hh ?_); (case hx => first | rfl | (simp [D.rnL, D.rn, rowD]; done)); (case hh => rfl)) | with_reducible intro _)
  all_goals try (exfalso; omega)
  exact hno he hk
end Go.Proofs.YtkjnhkoipgdfeaaGreatDoor
end