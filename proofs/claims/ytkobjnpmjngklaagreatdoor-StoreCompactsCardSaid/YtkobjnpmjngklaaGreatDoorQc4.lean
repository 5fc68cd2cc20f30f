/- Own texts, merged by a program: the engine that walks the code, and what the functions that the law reaches compute. -/
import Derived.Test.YtkobjnpmjngklaaGreatDoorQc3
import Derived.Test.YtkobjnpmjngklaaGreatDoorProg
import Derived.KernelRfl
import Derived.Lib.ItoaNum
import Derived.Lib.AtoiAll
import Derived.Laws.Bits64
import Derived.Laws.Bits64b
section
set_option maxRecDepth 100000
namespace Go.Proofs.YtkobjnpmjngklaaGreatDoor
open Go GoV
noncomputable def E102 (n m : Nat) : Cfg := ⟨M, [0, 1, 4, 5], 16, n, m, []⟩
noncomputable def C102 : Cfg := E102 0 0
noncomputable abbrev r102_0 : List RO := [⟨.v 2, .mv, [(.con (.str []))], none⟩]
noncomputable abbrev r102_1 : List RO := [Ya 6 0, Yt 7 98 6, Yb 3 7]
noncomputable abbrev r102_2 : List RO := [Ya 8 1, Ya 9 3, ⟨.l 10, .lenS, [.l 9], none⟩, Yx 11 .sub 8 10, ⟨.l 12, .maxI, [.con (.int .i64 0), .l 11], none⟩, ⟨.l 13, .calls .fn, [(.con (.fn (.func 130) [] [])), (.con (.str [48])), .l 12], none⟩, Ya 14 3, Yx 15 .add 13 14, Yb 2 15]
theorem P102 : C102.M = M := rfl
theorem i102 {a0 a1 : D} : St.init C102 [a0, a1] ⟨[], []⟩ = ⟨[a0, a1, .u0, .u0], [], ⟨[], []⟩⟩ := rfl
noncomputable def c102 : RC := (.seq (.reg r102_0) (.seq (.reg r102_1) (.seq (.reg r102_2) .ret)))
noncomputable def q102 : List RR := [(.slot (.v 2))]
theorem k102 : FnOk M 102 2 Tryz.f102 E102 c102 q102 := fnOk Tryz.func102
noncomputable def E43 (n m : Nat) : Cfg := ⟨M, [0], 3, n, m, []⟩
noncomputable def C43 : Cfg := E43 0 0
noncomputable abbrev r43_0 : List RO := [⟨.v 0, .mv, [(.con (.str []))], none⟩]
noncomputable abbrev r43_1 : List RO := [⟨.l 1, (.mks 1 1 [(.int .u8 0)]), [.con (.int .i64 64), .con (.int .i64 64)], none⟩, ⟨.l 2, .b2s, [.l 1], none⟩, Yb 0 2]
theorem P43 : C43.M = M := rfl
theorem i43 : St.init C43 [] ⟨[], []⟩ = ⟨[.u0], [], ⟨[], []⟩⟩ := rfl
noncomputable def c43 : RC := (.seq (.reg r43_0) (.seq (.reg r43_1) .ret))
noncomputable def q43 : List RR := [(.slot (.v 0))]
theorem k43 : FnOk M 43 0 Tryz.f43 E43 c43 q43 := fnOk Tryz.func43
noncomputable def E101 (n m : Nat) : Cfg := ⟨M, [0, 1, 4], 18, n, m, []⟩
noncomputable def C101 : Cfg := E101 0 0
noncomputable abbrev r101_0 : List RO := [⟨.v 2, .mv, [(.con (.str []))], none⟩]
noncomputable abbrev r101_1 : List RO := [Ya 5 1, Ya 6 1, ⟨.l 7, .lenS, [.l 6], none⟩, ⟨.l 8, .bin .sub, [.con (.int .i64 48), .l 7], none⟩, ⟨.l 9, .calls .fn, [(.con (.fn (.func 130) [] [])), (.con (.str [0])), .l 8], none⟩, Yx 10 .add 5 9, Yb 1 10]
noncomputable abbrev r101_2 : List RO := [Ya 11 0, ⟨.l 12, .calls .fn, [(.con (.fn (.func 102) [] [])), .l 11, .con (.int .i64 8)], none⟩, Ya 13 1, Yx 14 .add 12 13, Yt 15 131 14, Ya 16 1, Yx 17 .add 15 16, Yb 2 17]
theorem P101 : C101.M = M := rfl
theorem i101 {a0 a1 : D} : St.init C101 [a0, a1] ⟨[], []⟩ = ⟨[a0, a1, .u0], [], ⟨[], []⟩⟩ := rfl
noncomputable def c101 : RC := (.seq (.reg r101_0) (.seq (.reg r101_1) (.seq (.reg r101_2) .ret)))
noncomputable def q101 : List RR := [(.slot (.v 2))]
theorem k101 : FnOk M 101 2 Tryz.f101 E101 c101 q101 := fnOk Tryz.func101
noncomputable def E83 (n m : Nat) : Cfg := ⟨M, [0, 1, 3, 4], 14, n, m, []⟩
noncomputable def C83 : Cfg := E83 0 0
noncomputable abbrev r83_0 : List RO := [Yl 2 1, ⟨.v 3, .mv, [(.con (.str []))], none⟩]
noncomputable abbrev r83_1 : List (RO × Bool) := [(Ya 5 0, true), (Yh 6 0 2, true), (Yd 7 6, true), (⟨.l 8, .calls .fn, [(.con (.fn (.func 102) [] [])), .l 7, .con (.int .i64 1)], none⟩, true), (Yh 9 1 2, true), (Yd 10 9, true), (⟨.l 11, .calls .fn, [(.con (.fn (.func 102) [] [])), .l 10, .con (.int .i64 7)], none⟩, false), (Yx 12 .add 8 11, true)]
noncomputable abbrev r83_2 : List RO := [Yu 13 101 5 12, Yb 3 13]
theorem P83 : C83.M = M := rfl
theorem i83 {a0 a1 : D} : St.init C83 [a0, a1] ⟨[], []⟩ = ⟨[a0, a1, .u0, .u0], [], ⟨[], []⟩⟩ := rfl
noncomputable def c83 : RC := (.seq (.reg r83_0) (.seq (.regD r83_1 r83_2) .ret))
noncomputable def q83 : List RR := [(.slot (.v 3))]
theorem k83 : FnOk M 83 2 Tryz.f83 E83 c83 q83 := fnOk Tryz.func83
noncomputable def E42 (n m : Nat) : Cfg := ⟨M, [0, 1, 4, 5, 6, 8, 9, 10, 31], 58, n, m, []⟩
noncomputable def C42 : Cfg := E42 0 0
noncomputable abbrev r42_0 : List RO := [⟨.v 2, (.newb [(.int .i64 0), (.int .i64 0)]), [], none⟩, ⟨.v 3, .mv, [.con (.bool false)], none⟩]
noncomputable abbrev r42_1 : List RO := [Ya 12 0, Yn 13 12, Yi 14 0 13, Yd 15 14, Ya 16 1, Yu 17 41 15 16, Yc 11 17, Ym 18 0 11, Ym 19 1 11, Yb 4 18, Yc 7 19]
noncomputable abbrev r42_2 : List RO := [Ya 21 4, ⟨.l 22, .slcS true true, [.l 21, .con (.int .i64 16), .con (.int .i64 24)], none⟩, Yt 23 82 22, Yc 20 23, Ym 24 0 20, Ym 25 1 20, Yb 5 24, Yb 6 25]
noncomputable abbrev r42_3 : List RO := [Ya 26 6, ⟨.l 27, .eqN true .ifc, [.l 26, (.con (.lit .nilIface))], none⟩, Yc 28 27, Za 29 5 28 false, ⟨.l 30, .bin .lss, [.l 29, .con (.int .i64 0)], (some (.l 28, false))⟩, Yr 8 28 30]
noncomputable abbrev r42_4 : List RO := [⟨.l 32, (.bld [(.int .i64 0), (.int .i64 0)] []), [], none⟩, Yj 2 2 32, ⟨.v 3, .mv, [.con (.bool false)], none⟩]
noncomputable abbrev r42_5 : List RO := [Ya 33 5, Yv 34 .quo 33 10000000, Ya 35 5, Yv 36 .rem 35 10000000, ⟨.l 37, (.bld [(.int .i64 0), (.int .i64 0)] [(0, 1), (1, 1)]), [.l 34, .l 36], none⟩, ⟨.v 7, (.newb [(.int .i64 0), (.int .i64 0)]), [], none⟩, Yj 2 7 37]
noncomputable abbrev r42_6 : List (RO × Bool) := [(Yf 38 2 7, true), (Yh 39 0 7, true), (Yd 40 39, true), (Yv 41 .lss 40 2, true), (Yc 42 41, true), (Zh 43 1 7 42 true, true), (Zd 44 43 42 true, true), (Za 45 0 42 true, true), (Zn 46 45 42 true, true), (Zi 47 1 46 42 true, true), (Zd 48 47 42 true, true), (⟨.l 49, .bin .leq, [.l 44, .l 48], (some (.l 42, true))⟩, true), (Yo 50 42 49, true), (Yc 51 50, true), (Za 52 1 51 true, true), (Zf 53 2 7 51 true, true), (⟨.l 54, .calls .fn, [(.con (.fn (.func 83) [] [])), .l 52, .l 53], (some (.l 51, true))⟩, true), (Za 55 4 51 true, true), (⟨.l 56, .bin .eql, [.l 54, .l 55], (some (.l 51, true))⟩, true), (Yo 57 51 56, true), (Yj 2 2 38, false)]
noncomputable abbrev r42_7 : List RO := [Yb 3 57]
theorem P42 : C42.M = M := rfl
theorem pe42 {n m : Nat} : (E42 n m).M = M := rfl
theorem ie42 {n m : Nat} {hp : Hp} {a0 a1 : D} : St.init (E42 n m) [a0, a1] hp = ⟨[a0, a1, .u0, .u0, .u0, .u0, .u0, .u0, .u0], [], hp⟩ := rfl
noncomputable def c42 : RC := (.seq (.reg r42_0) (.seq (.reg r42_1) (.seq (.reg r42_2) (.seq (.seq (.reg r42_3) (.cond (.v 8) (.seq (.reg r42_4) .ret) .skip)) (.seq (.reg r42_5) (.seq (.regD r42_6 r42_7) .ret))))))
noncomputable def q42 : List RR := [(.cell (.v 2) true 2), (.slot (.v 3))]
theorem k42 : FnOk M 42 2 Tryz.f42 E42 c42 q42 := fnOk Tryz.func42
noncomputable def E100 (n m : Nat) : Cfg := ⟨M, [0, 1, 2], 4, n, m, []⟩
noncomputable abbrev r100_0 : List RO := [Yl 1 0, ⟨.v 2, .mv, [(.con (.lit .nilFunc))], none⟩]
noncomputable abbrev r100_1 : List RO := [⟨.l 3, (.mkF (.func 129) 0), [.v 1], none⟩, Yb 2 3]
theorem pe100 {n m : Nat} : (E100 n m).M = M := rfl
theorem ie100 {n m : Nat} {hp : Hp} {a0 : D} : St.init (E100 n m) [a0] hp = ⟨[a0, .u0, .u0], [], hp⟩ := rfl
noncomputable def c100 : RC := (.seq (.reg r100_0) (.seq (.reg r100_1) .ret))
noncomputable def q100 : List RR := [(.slot (.v 2))]
theorem k100 : FnOk M 100 1 Tryz.f100 E100 c100 q100 := fnOk Tryz.func100
noncomputable def E129 (n m : Nat) : Cfg := ⟨M, [0, 1, 3, 6, 15], 19, n, m, []⟩
noncomputable abbrev r129_0 : List RO := [Ye 4 1, ⟨.l 5, .lenS, [.l 4], none⟩, Yz 3 .gtr 5 0]
noncomputable abbrev r129_1 : List RO := [Ye 7 1, ⟨.l 8, .lenS, [.l 7], none⟩, ⟨.l 9, .minI, [.con (.int .i64 46), .l 8], none⟩, Yb 2 9]
noncomputable abbrev r129_2 : List RO := [Ya 10 0, Ye 11 1, Ya 12 2, ⟨.l 13, .slcS false true, [.l 11, .l 12], none⟩, ⟨.l 14, .calls .fn, [.l 10, .l 13], none⟩, ⟨.v 4, .un .not, [.l 14], none⟩]
noncomputable abbrev r129_3 : List RO := [Ye 16 1, Ya 17 2, ⟨.l 18, .slcS true false, [.l 16, .l 17], none⟩, Yj 1 1 18]
theorem pe129 {n m : Nat} : (E129 n m).M = M := rfl
theorem ie129 {n m : Nat} {hp : Hp} {a0 a1 : D} : St.init (E129 n m) [a0, a1] hp = ⟨[a0, a1, .u0, .u0, .u0], [], hp⟩ := rfl
noncomputable def c129 : RC := (.block 0 (.loop (.seq (.seq (.reg r129_0) (.cond (.v 3) .skip (.exit 0))) (.block 1 (.seq (.reg r129_1) (.seq (.seq (.reg r129_2) (.cond (.v 4) .ret .skip)) (.reg r129_3)))))))
theorem z129 {n m : Nat} : zAe (E129 n m) (Tryz.f129.body.getD .skip) = some c129 := by kernel_rfl
noncomputable def E84 (n m : Nat) : Cfg := ⟨M, [0, 1, 4, 5, 7, 8, 9, 34, 46], 48, n, m, []⟩
noncomputable def C84 : Cfg := E84 0 0
noncomputable abbrev r84_0 : List RO := [⟨.v 2, .mv, [(.con (.str []))], none⟩]
noncomputable abbrev r84_1 : List RO := [Ya 11 0, Yn 12 11, Yi 13 0 12, Yd 14 13, Ya 15 1, Yu 16 41 14 15, Yc 10 16, Ym 17 0 10, Ym 18 1 10, Yb 3 17, Yc 6 18]
noncomputable abbrev r84_2 : List RO := [Ya 20 3, ⟨.l 21, .slcS true true, [.l 20, .con (.int .i64 16), .con (.int .i64 18)], none⟩, Yt 22 82 21, Yc 19 22, Ym 23 0 19, Ym 24 1 19, Yb 4 23, Yb 5 24]
noncomputable abbrev r84_3 : List RO := [Ya 25 5, ⟨.l 26, .eqN true .ifc, [.l 25, (.con (.lit .nilIface))], none⟩, Yc 27 26, Za 28 4 27 false, ⟨.l 29, .bin .lss, [.l 28, .con (.int .i64 1)], (some (.l 27, false))⟩, Yq 30 27 29, Yc 31 30, Za 32 4 31 false, ⟨.l 33, .bin .gtr, [.l 32, .con (.int .i64 46)], (some (.l 31, false))⟩, Yr 7 31 33]
noncomputable abbrev r84_4 : List RO := [⟨.v 2, .mv, [(.con (.str []))], none⟩]
noncomputable abbrev r84_5 : List RO := [Ya 35 3, Ya 36 4, ⟨.l 37, .bin .add, [.con (.int .i64 18), .l 36], none⟩, ⟨.l 38, .slcS true true, [.l 35, .con (.int .i64 18), .l 37], none⟩, Yb 6 38]
noncomputable abbrev r84_6 : List RO := [Ya 39 1, Ya 40 4, ⟨.l 41, .calls .fn, [(.con (.fn (.func 102) [] [])), .l 40, .con (.int .i64 2)], none⟩, Ya 42 6, Yx 43 .add 41 42, Yu 44 101 39 43, Ya 45 3, Yy 8 .neq 44 45]
noncomputable abbrev r84_7 : List RO := [⟨.v 2, .mv, [(.con (.str []))], none⟩]
noncomputable abbrev r84_8 : List RO := [Ya 47 6, Yb 2 47]
theorem P84 : C84.M = M := rfl
theorem pe84 {n m : Nat} : (E84 n m).M = M := rfl
theorem ie84 {n m : Nat} {hp : Hp} {a0 a1 : D} : St.init (E84 n m) [a0, a1] hp = ⟨[a0, a1, .u0, .u0, .u0, .u0, .u0, .u0, .u0], [], hp⟩ := rfl
noncomputable def c84 : RC := (.seq (.reg r84_0) (.seq (.reg r84_1) (.seq (.reg r84_2) (.seq (.seq (.reg r84_3) (.cond (.v 7) (.seq (.reg r84_4) .ret) .skip)) (.seq (.reg r84_5) (.seq (.seq (.reg r84_6) (.cond (.v 8) (.seq (.reg r84_7) .ret) .skip)) (.seq (.reg r84_8) .ret)))))))
noncomputable def q84 : List RR := [(.slot (.v 2))]
theorem k84 : FnOk M 84 2 Tryz.f84 E84 c84 q84 := fnOk Tryz.func84
noncomputable def E99 (n m : Nat) : Cfg := ⟨M, [0, 2, 3, 5, 6, 7, 8, 9], 21, n, m, []⟩
noncomputable def C99 : Cfg := E99 0 0
noncomputable abbrev r99_0 : List RO := [⟨.v 1, .mv, [(.con (.str []))], none⟩]
noncomputable abbrev r99_1 : List RO := [⟨.v 2, (.newT 138 [(.lit (.pointer none)), (.lit (.slice none 0 0))]), [], none⟩]
noncomputable abbrev r99_2 : List RO := [⟨.v 4, .mv, [.v 0], none⟩, ⟨.v 5, .lenL, [.v 4], none⟩, Ys 6 0]
noncomputable abbrev r99_3 : List RO := [⟨.v 7, .bin .lss, [.v 6, .v 5], none⟩]
noncomputable abbrev r99_4 : List RO := [⟨.l 10, .ixaS 1, [.v 4, .v 6], none⟩, Yd 11 10, Yb 3 11]
noncomputable abbrev r99_5 : List RO := [Ya 12 3, ⟨.l 13, .lenS, [.l 12], none⟩, Yt 14 98 13, ⟨.l 15, .bin .add, [.l 14, (.con (.str [58]))], none⟩, Ya 16 3, Yx 17 .add 15 16, ⟨.l 18, .calls .fn, [(.con (.fn (.func 86) [] [])), .v 2, .l 17], none⟩]
noncomputable abbrev r99_6 : List RO := [Yw 19 .add 6 1, Yb 6 19]
noncomputable abbrev r99_7 : List RO := [⟨.l 20, .calls .fn, [(.con (.fn (.func 88) [] [])), .v 2], none⟩, Yb 1 20]
theorem P99 : C99.M = M := rfl
theorem i99 {a0 : D} : St.init C99 [a0] ⟨[], []⟩ = ⟨[a0, .u0, .u0, .u0, .u0, .u0, .u0, .u0], [], ⟨[], []⟩⟩ := rfl
noncomputable def c99 : RC := (.seq (.reg r99_0) (.seq (.reg r99_1) (.seq (.seq (.reg r99_2) (.block 0 (.loop (.seq (.reg r99_3) (.seq (.cond (.v 7) .skip (.exit 0)) (.seq (.block 1 (.seq (.reg r99_4) (.reg r99_5))) (.reg r99_6))))))) (.seq (.reg r99_7) .ret))))
noncomputable def q99 : List RR := [(.slot (.v 1))]
theorem k99 : FnOk M 99 1 Tryz.f99 E99 c99 q99 := fnOk Tryz.func99
noncomputable def E87 (n m : Nat) : Cfg := ⟨M, [0, 2, 3, 4, 5, 6, 7, 8, 9, 12, 45], 56, n, m, []⟩
noncomputable def C87 : Cfg := E87 0 0
noncomputable abbrev r87_0 : List RO := [⟨.v 1, .mv, [(.con (.lit (.slice none 0 0)))], none⟩, ⟨.v 2, .mv, [.con (.bool false)], none⟩]
noncomputable abbrev r87_1 : List RO := [⟨.v 3, .mv, [(.con (.lit (.slice none 0 0)))], none⟩]
noncomputable abbrev r87_2 : List RO := [Ya 10 0, ⟨.l 11, .lenS, [.l 10], none⟩, Yz 9 .gtr 11 0]
noncomputable abbrev r87_3 : List RO := [Ya 14 0, ⟨.l 15, .calls .fn, [(.con (.fn (.func 117) [] [])), .l 14, (.con (.str [58]))], none⟩, Yc 13 15, Ym 16 0 13, Ym 17 1 13, Ym 18 2 13, Yb 4 16, Yb 5 17, Yb 6 18]
noncomputable abbrev r87_4 : List RO := [Ya 20 4, Yt 21 82 20, Yc 19 21, Ym 22 0 19, Ym 23 1 19, Yb 7 22, Yb 8 23]
noncomputable abbrev r87_5 : List RO := [Ya 24 6, ⟨.l 25, .un .not, [.l 24], none⟩, Yc 26 25, Za 27 8 26 false, ⟨.l 28, .eqN true .ifc, [.l 27, (.con (.lit .nilIface))], (some (.l 26, false))⟩, Yq 29 26 28, Yc 30 29, Za 31 7 30 false, ⟨.l 32, .bin .lss, [.l 31, .con (.int .i64 0)], (some (.l 30, false))⟩, Yq 33 30 32, Yc 34 33, Za 35 7 34 false, Za 36 5 34 false, ⟨.l 37, .lenS, [.l 36], (some (.l 34, false))⟩, ⟨.l 38, .bin .gtr, [.l 35, .l 37], (some (.l 34, false))⟩, Yq 39 34 38, Yc 40 39, Za 41 7 40 false, ⟨.l 42, .calls .fn, [(.con (.fn (.func 98) [] [])), .l 41], (some (.l 40, false))⟩, Za 43 4 40 false, ⟨.l 44, .bin .neq, [.l 42, .l 43], (some (.l 40, false))⟩, Yr 10 40 44]
noncomputable abbrev r87_6 : List RO := [⟨.v 1, .mv, [(.con (.lit (.slice none 0 0)))], none⟩, ⟨.v 2, .mv, [.con (.bool false)], none⟩]
noncomputable abbrev r87_7 : List (RO × Bool) := [(Ya 46 3, true), (Ya 47 5, true), (Ya 48 7, true), (⟨.l 49, .slcS false true, [.l 47, .l 48], none⟩, true), (⟨.l 50, .bsl 1, [.l 49], none⟩, false), (⟨.l 51, .app 1 16 9, [.l 46, .l 50], none⟩, false), (Ya 52 5, true), (Ya 53 7, true), (⟨.l 54, .slcS true false, [.l 52, .l 53], none⟩, true), (Yb 3 51, true)]
noncomputable abbrev r87_8 : List RO := [Yb 0 54]
noncomputable abbrev r87_9 : List RO := [Ya 55 3, Yb 1 55, ⟨.v 2, .mv, [.con (.bool true)], none⟩]
theorem P87 : C87.M = M := rfl
theorem i87 {a0 : D} : St.init C87 [a0] ⟨[], []⟩ = ⟨[a0, .u0, .u0, .u0, .u0, .u0, .u0, .u0, .u0, .u0, .u0], [], ⟨[], []⟩⟩ := rfl
noncomputable def c87 : RC := (.seq (.reg r87_0) (.seq (.reg r87_1) (.seq (.block 0 (.loop (.seq (.seq (.reg r87_2) (.cond (.v 9) .skip (.exit 0))) (.block 1 (.seq (.reg r87_3) (.seq (.reg r87_4) (.seq (.seq (.reg r87_5) (.cond (.v 10) (.seq (.reg r87_6) .ret) .skip)) (.regD r87_7 r87_8)))))))) (.seq (.reg r87_9) .ret))))
noncomputable def q87 : List RR := [(.slot (.v 1)), (.slot (.v 2))]
theorem k87 : FnOk M 87 1 Tryz.f87 E87 c87 q87 := fnOk Tryz.func87
noncomputable def E50 (n m : Nat) : Cfg := ⟨M, [0, 1, 4, 5, 7, 14, 15, 16, 17], 40, n, m, []⟩
noncomputable abbrev r50_0 : List RO := [⟨.v 2, .mv, [(.con (.str []))], none⟩]
noncomputable abbrev r50_1 : List RO := [Ya 8 0, ⟨.l 9, .lenM, [.l 8], none⟩, Yt 10 98 9, ⟨.l 11, .bsl 1, [.l 10], none⟩, Yb 3 11]
noncomputable abbrev r50_2 : List RO := [Ya 12 0, Yt 13 55 12, ⟨.v 5, .calls .fn, [(.con (.fn (.func 48) [] [])), .l 13], none⟩, ⟨.v 6, .lenL, [.v 5], none⟩, Ys 7 0]
noncomputable abbrev r50_3 : List RO := [⟨.v 8, .bin .lss, [.v 7, .v 6], none⟩]
noncomputable abbrev r50_4 : List RO := [⟨.l 18, .ixaS 1, [.v 5, .v 7], none⟩, Yd 19 18, Yb 4 19]
noncomputable abbrev r50_5 : List RO := [Ya 20 3, Ya 21 4, Ya 22 0, Ya 23 4, ⟨.l 24, (.lkp .str false (.str [])), [.l 22, .l 23], none⟩, ⟨.l 25, .bsl 1, [.l 21, .l 24], none⟩, ⟨.l 26, .app 1 16 9, [.l 20, .l 25], none⟩, Yb 3 26]
noncomputable abbrev r50_6 : List RO := [Yw 27 .add 7 1, Yb 7 27]
noncomputable abbrev r50_7 : List RO := [Ya 28 3, Ya 29 1, ⟨.l 30, .lenL, [.l 29], none⟩, Yt 31 98 30, ⟨.l 32, .bsl 1, [.l 31], none⟩, ⟨.l 33, .app 1 16 9, [.l 28, .l 32], none⟩, Yb 3 33]
noncomputable abbrev r50_8 : List RO := [Ya 34 3, Ya 35 1, ⟨.l 36, .app 1 16 9, [.l 34, .l 35], none⟩, Yt 37 99 36, ⟨.l 38, .bsl 1, [.l 37], none⟩, Yt 39 99 38, Yb 2 39]
theorem pe50 {n m : Nat} : (E50 n m).M = M := rfl
theorem ie50 {n m : Nat} {hp : Hp} {a0 a1 : D} : St.init (E50 n m) [a0, a1] hp = ⟨[a0, a1, .u0, .u0, .u0, .u0, .u0, .u0, .u0], [], hp⟩ := rfl
noncomputable def c50 : RC := (.seq (.reg r50_0) (.seq (.reg r50_1) (.seq (.seq (.reg r50_2) (.block 0 (.loop (.seq (.reg r50_3) (.seq (.cond (.v 8) .skip (.exit 0)) (.seq (.block 1 (.seq (.reg r50_4) (.reg r50_5))) (.reg r50_6))))))) (.seq (.reg r50_7) (.seq (.reg r50_8) .ret)))))
noncomputable def q50 : List RR := [(.slot (.v 2))]
theorem k50 : FnOk M 50 2 Tryz.f50 E50 c50 q50 := fnOk Tryz.func50
noncomputable def E46 (n m : Nat) : Cfg := ⟨M, [0, 1, 4, 5, 6, 7, 8, 10, 12, 24, 31, 35], 37, n, m, []⟩
noncomputable def C46 : Cfg := E46 0 0
noncomputable abbrev r46_0 : List RO := [Ys 2 0]
noncomputable abbrev r46_1 : List RO := [⟨.v 3, (.newb [(.lit .nilFunc)]), [], none⟩, ⟨.none, .st 1, [.v 3, (.con (.fn (.func 91) [] []))], none⟩]
noncomputable abbrev r46_2 : List RO := [⟨.v 4, .mv, [.con (.bool false)], none⟩]
noncomputable abbrev r46_3 : List RO := [Ya 9 0, ⟨.v 7, .rngM, [.l 9], none⟩]
noncomputable abbrev r46_4 : List RO := [⟨.l 11, .nxtM, [.v 7], none⟩, ⟨.v 8, .ext 0, [.l 11], none⟩]
noncomputable abbrev r46_5 : List RO := [⟨.l 13, .ent, [.v 7], none⟩, Ym 14 0 13, Ym 15 1 13, Yb 5 14, Yb 6 15]
noncomputable abbrev r46_6 : List RO := [Ye 16 3, Ya 17 5, ⟨.l 18, .calls .fn, [.l 16, .l 17], none⟩, ⟨.l 19, .un .not, [.l 18], none⟩, Yc 20 19, Za 21 1 20 false, Za 22 5 20 false, ⟨.l 23, .calls .fn, [(.con (.fn (.func 92) [] [])), .l 21, .l 22], (some (.l 20, false))⟩, Yr 9 20 23]
noncomputable abbrev r46_7 : List RO := [Ys 2 1]
noncomputable abbrev r46_8 : List RO := [Ya 25 4, Yc 26 25, Za 27 6 26 false, ⟨.l 28, .lenS, [.l 27], (some (.l 26, false))⟩, ⟨.l 29, .bin .gtr, [.l 28, .con (.int .i64 20000)], (some (.l 26, false))⟩, Yq 30 26 29, Yb 4 30]
noncomputable abbrev r46_9 : List RO := [Ya 32 1, ⟨.l 33, (.mkF (.func 94) 0), [.v 3], none⟩, Yu 34 93 32 33, Yb 10 34]
noncomputable abbrev r46_10 : List RO := [Ys 2 1]
noncomputable abbrev r46_11 : List RO := [Ya 36 4, Yb 11 36]
noncomputable abbrev r46_12 : List RO := [Ys 2 7]
noncomputable abbrev r46_13 : List RO := [Ys 2 0]
theorem pe46 {n m : Nat} : (E46 n m).M = M := rfl
theorem i46 {a0 a1 : D} : St.init C46 [a0, a1] ⟨[], []⟩ = ⟨[a0, a1, .u0, .u0, .u0, .u0, .u0, .u0, .u0, .u0, .u0, .u0], [], ⟨[], []⟩⟩ := rfl
theorem ie46 {n m : Nat} {hp : Hp} {a0 a1 : D} : St.init (E46 n m) [a0, a1] hp = ⟨[a0, a1, .u0, .u0, .u0, .u0, .u0, .u0, .u0, .u0, .u0, .u0], [], hp⟩ := rfl
noncomputable def c46 : RC := (.seq (.reg r46_0) (.seq (.reg r46_1) (.seq (.reg r46_2) (.seq (.seq (.reg r46_3) (.block 0 (.loop (.seq (.reg r46_4) (.seq (.cond (.v 8) .skip (.exit 0)) (.block 1 (.seq (.reg r46_5) (.seq (.seq (.reg r46_6) (.cond (.v 9) (.seq (.reg r46_7) .ret) .skip)) (.reg r46_8))))))))) (.seq (.block 2 (.seq (.reg r46_9) (.cond (.v 10) (.seq (.reg r46_10) .ret) (.seq (.reg r46_11) (.cond (.v 11) (.seq (.reg r46_12) .ret) .skip))))) (.seq (.reg r46_13) .ret))))))
noncomputable def q46 : List RR := [(.slot (.v 2))]
theorem z46 {n m : Nat} : zAe (E46 n m) (Tryz.f46.body.getD .skip) = some c46 := by kernel_rfl
theorem k46 : FnOk M 46 2 Tryz.f46 E46 c46 q46 := fnOk Tryz.func46
noncomputable def E91 (n m : Nat) : Cfg := ⟨M, [0, 2], 10, n, m, []⟩
noncomputable def C91 : Cfg := E91 0 0
noncomputable abbrev r91_0 : List RO := [⟨.v 1, .mv, [.con (.bool false)], none⟩]
noncomputable abbrev r91_1 : List RO := [Ya 3 0, ⟨.l 4, .bin .neq, [.l 3, (.con (.str []))], none⟩, Yc 5 4, Za 6 0 5 true, ⟨.l 7, .lenS, [.l 6], (some (.l 5, true))⟩, ⟨.l 8, .bin .leq, [.l 7, .con (.int .i64 200)], (some (.l 5, true))⟩, Yo 9 5 8, Yb 1 9]
theorem P91 : C91.M = M := rfl
theorem i91 {a0 : D} : St.init C91 [a0] ⟨[], []⟩ = ⟨[a0, .u0], [], ⟨[], []⟩⟩ := rfl
noncomputable def c91 : RC := (.seq (.reg r91_0) (.seq (.reg r91_1) .ret))
noncomputable def q91 : List RR := [(.slot (.v 1))]
theorem k91 : FnOk M 91 1 Tryz.f91 E91 c91 q91 := fnOk Tryz.func91
noncomputable def E93 (n m : Nat) : Cfg := ⟨M, [0, 1, 4], 9, n, m, []⟩
noncomputable abbrev r93_0 : List RO := [⟨.v 2, .mv, [.con (.bool false)], none⟩]
noncomputable abbrev r93_1 : List RO := [Ya 5 0, Ya 6 1, Yu 7 124 5 6, Yv 8 .geq 7 0, Yb 2 8]
theorem pe93 {n m : Nat} : (E93 n m).M = M := rfl
theorem ie93 {n m : Nat} {hp : Hp} {a0 a1 : D} : St.init (E93 n m) [a0, a1] hp = ⟨[a0, a1, .u0], [], hp⟩ := rfl
noncomputable def c93 : RC := (.seq (.reg r93_0) (.seq (.reg r93_1) .ret))
noncomputable def q93 : List RR := [(.slot (.v 2))]
theorem k93 : FnOk M 93 2 Tryz.f93 E93 c93 q93 := fnOk Tryz.func93
noncomputable def E94 (n m : Nat) : Cfg := ⟨M, [0, 1, 3], 8, n, m, []⟩
noncomputable abbrev r94_0 : List RO := [⟨.v 2, .mv, [.con (.bool false)], none⟩]
noncomputable abbrev r94_1 : List RO := [Ye 4 1, Ya 5 0, ⟨.l 6, .calls .fn, [.l 4, .l 5], none⟩, ⟨.l 7, .un .not, [.l 6], none⟩, Yb 2 7]
theorem pe94 {n m : Nat} : (E94 n m).M = M := rfl
theorem ie94 {n m : Nat} {hp : Hp} {a0 a1 : D} : St.init (E94 n m) [a0, a1] hp = ⟨[a0, a1, .u0], [], hp⟩ := rfl
noncomputable def c94 : RC := (.seq (.reg r94_0) (.seq (.reg r94_1) .ret))
noncomputable def q94 : List RR := [(.slot (.v 2))]
theorem k94 : FnOk M 94 2 Tryz.f94 E94 c94 q94 := fnOk Tryz.func94
noncomputable def E124 (n m : Nat) : Cfg := ⟨M, [0, 1, 4, 5, 7, 8, 9, 16], 19, n, m, []⟩
noncomputable abbrev r124_0 : List RO := [Ys 2 0]
noncomputable abbrev r124_1 : List RO := [Ya 6 0, ⟨.v 4, .lenL, [.l 6], none⟩, Ys 5 0]
noncomputable abbrev r124_2 : List RO := [⟨.v 6, .bin .lss, [.v 5, .v 4], none⟩]
noncomputable abbrev r124_3 : List RO := [Ya 10 5, Yb 3 10]
noncomputable abbrev r124_4 : List RO := [Ya 11 1, Ya 12 0, Ya 13 3, ⟨.l 14, .ixaS 1, [.l 12, .l 13], none⟩, Yd 15 14, ⟨.v 7, .calls .fn, [.l 11, .l 15], none⟩]
noncomputable abbrev r124_5 : List RO := [Ya 17 3, Yb 2 17]
noncomputable abbrev r124_6 : List RO := [Yw 18 .add 5 1, Yb 5 18]
noncomputable abbrev r124_7 : List RO := [⟨.v 2, .mv, [(.con (.int .i64 (-1)))], none⟩]
theorem pe124 {n m : Nat} : (E124 n m).M = M := rfl
theorem ie124 {n m : Nat} {hp : Hp} {a0 a1 : D} : St.init (E124 n m) [a0, a1] hp = ⟨[a0, a1, .u0, .u0, .u0, .u0, .u0, .u0], [], hp⟩ := rfl
noncomputable def c124 : RC := (.seq (.reg r124_0) (.seq (.seq (.reg r124_1) (.block 0 (.loop (.seq (.reg r124_2) (.seq (.cond (.v 6) .skip (.exit 0)) (.seq (.block 1 (.seq (.reg r124_3) (.seq (.reg r124_4) (.cond (.v 7) (.seq (.reg r124_5) .ret) .skip)))) (.reg r124_6))))))) (.seq (.reg r124_7) .ret)))
noncomputable def q124 : List RR := [(.slot (.v 2))]
theorem k124 : FnOk M 124 2 Tryz.f124 E124 c124 q124 := fnOk Tryz.func124
noncomputable def E53 (n m : Nat) : Cfg := ⟨M, [0, 1, 2, 7, 11, 12, 13, 14], 20, n, m, []⟩
noncomputable def C53 : Cfg := E53 0 0
noncomputable abbrev r53_0 : List RO := [Ya 8 0, Ya 9 1, Yu 10 104 8 9]
noncomputable abbrev r53_1 : List RO := [⟨.v 4, .mv, [.v 2], none⟩, ⟨.v 5, .lenL, [.v 4], none⟩, Ys 6 0]
noncomputable abbrev r53_2 : List RO := [⟨.v 7, .bin .lss, [.v 6, .v 5], none⟩]
noncomputable abbrev r53_3 : List RO := [⟨.l 15, .ixaS 1, [.v 4, .v 6], none⟩, Yd 16 15, Yb 3 16]
noncomputable abbrev r53_4 : List RO := [Ya 17 0, Ya 18 3, ⟨.none, .mdl .str, [.l 17, .l 18], none⟩]
noncomputable abbrev r53_5 : List RO := [Yw 19 .add 6 1, Yb 6 19]
theorem pe53 {n m : Nat} : (E53 n m).M = M := rfl
theorem i53 {a0 a1 a2 : D} : St.init C53 [a0, a1, a2] ⟨[], []⟩ = ⟨[a0, a1, a2, .u0, .u0, .u0, .u0, .u0], [], ⟨[], []⟩⟩ := rfl
theorem ie53 {n m : Nat} {hp : Hp} {a0 a1 a2 : D} : St.init (E53 n m) [a0, a1, a2] hp = ⟨[a0, a1, a2, .u0, .u0, .u0, .u0, .u0], [], hp⟩ := rfl
noncomputable def c53 : RC := (.seq (.reg r53_0) (.seq (.reg r53_1) (.block 0 (.loop (.seq (.reg r53_2) (.seq (.cond (.v 7) .skip (.exit 0)) (.seq (.block 1 (.seq (.reg r53_3) (.reg r53_4))) (.reg r53_5))))))))
noncomputable def q53 : List RR := []
theorem z53 {n m : Nat} : zAe (E53 n m) (Tryz.f53.body.getD .skip) = some c53 := by kernel_rfl
theorem k53 : FnOk M 53 3 Tryz.f53 E53 c53 q53 := fnOk Tryz.func53
noncomputable def E104 (n m : Nat) : Cfg := ⟨M, [0, 1, 4, 5, 7, 9], 16, n, m, []⟩
noncomputable abbrev r104_0 : List RO := [Ya 6 1, ⟨.v 4, .rngM, [.l 6], none⟩]
noncomputable abbrev r104_1 : List RO := [⟨.l 8, .nxtM, [.v 4], none⟩, ⟨.v 5, .ext 0, [.l 8], none⟩]
noncomputable abbrev r104_2 : List RO := [⟨.l 10, .ent, [.v 4], none⟩, Ym 11 0 10, Ym 12 1 10, Yb 2 11, Yb 3 12]
noncomputable abbrev r104_3 : List RO := [Ya 13 0, Ya 14 2, Ya 15 3, ⟨.none, .mpu .str, [.l 13, .l 14, .l 15], none⟩]
theorem pe104 {n m : Nat} : (E104 n m).M = M := rfl
theorem ie104 {n m : Nat} {hp : Hp} {a0 a1 : D} : St.init (E104 n m) [a0, a1] hp = ⟨[a0, a1, .u0, .u0, .u0, .u0], [], hp⟩ := rfl
noncomputable def c104 : RC := (.seq (.reg r104_0) (.block 0 (.loop (.seq (.reg r104_1) (.seq (.cond (.v 5) .skip (.exit 0)) (.block 1 (.seq (.reg r104_2) (.reg r104_3))))))))
noncomputable def q104 : List RR := []
theorem k104 : FnOk M 104 2 Tryz.f104 E104 c104 q104 := fnOk Tryz.func104
noncomputable def E89 (n m : Nat) : Cfg := ⟨M, [0, 1, 4, 5, 6, 7, 8, 9, 10, 11, 23, 51, 58, 59, 106], 111, n, m, []⟩
noncomputable abbrev r89_0 : List RO := [⟨.v 2, .mv, [.con (.bool false)], none⟩]
noncomputable abbrev r89_1 : List RO := [Ya 13 1, Yt 14 87 13, Yc 12 14, Ym 15 0 12, Ym 16 1 12, Yb 3 15, Yb 4 16]
noncomputable abbrev r89_2 : List RO := [Ya 17 4, ⟨.l 18, .un .not, [.l 17], none⟩, Yc 19 18, Za 20 3 19 false, ⟨.l 21, .lenL, [.l 20], (some (.l 19, false))⟩, ⟨.l 22, .bin .eql, [.l 21, .con (.int .i64 0)], (some (.l 19, false))⟩, Yr 10 19 22]
noncomputable abbrev r89_3 : List RO := [⟨.v 2, .mv, [.con (.bool false)], none⟩]
noncomputable abbrev r89_4 : List RO := [Ya 25 3, ⟨.l 26, .ixaS 1, [.l 25, .con (.int .i64 0)], none⟩, Yd 27 26, Yt 28 82 27, Yc 24 28, Ym 29 0 24, Ym 30 1 24, Yb 5 29, Yb 6 30]
noncomputable abbrev r89_5 : List RO := [Ya 31 6, ⟨.l 32, .eqN true .ifc, [.l 31, (.con (.lit .nilIface))], none⟩, Yc 33 32, Za 34 5 33 false, ⟨.l 35, .bin .lss, [.l 34, .con (.int .i64 0)], (some (.l 33, false))⟩, Yq 36 33 35, Yc 37 36, Za 38 5 37 false, Za 39 3 37 false, ⟨.l 40, .lenL, [.l 39], (some (.l 37, false))⟩, ⟨.l 41, .bin .quo, [.l 40, .con (.int .i64 2)], (some (.l 37, false))⟩, ⟨.l 42, .bin .gtr, [.l 38, .l 41], (some (.l 37, false))⟩, Yq 43 37 42, Yc 44 43, Za 45 3 44 false, ⟨.l 46, .lenL, [.l 45], (some (.l 44, false))⟩, Za 47 5 44 false, ⟨.l 48, .bin .mul, [.con (.int .i64 2), .l 47], (some (.l 44, false))⟩, ⟨.l 49, .bin .add, [.l 48, .con (.int .i64 2)], (some (.l 44, false))⟩, ⟨.l 50, .bin .lss, [.l 46, .l 49], (some (.l 44, false))⟩, Yr 11 44 50]
noncomputable abbrev r89_6 : List RO := [⟨.v 2, .mv, [.con (.bool false)], none⟩]
noncomputable abbrev r89_7 : List RO := [⟨.l 52, .newM, [], none⟩, ⟨.v 7, (.newb [(.lit (.map none))]), [], none⟩, Yj 1 7 52]
noncomputable abbrev r89_8 : List RO := [Ya 53 3, Ya 54 5, ⟨.l 55, .bin .mul, [.con (.int .i64 2), .l 54], none⟩, Yv 56 .add 55 1, ⟨.l 57, .slcL 1 true true, [.l 53, .con (.int .i64 1), .l 56], none⟩, ⟨.v 12, .calls .fn, [(.con (.fn (.func 118) [] [])), .l 57, .con (.int .i64 2)], none⟩]
noncomputable abbrev r89_9 : List RO := [⟨.v 8, .mv, [.v 13], none⟩]
noncomputable abbrev r89_10 : List (RO × Bool) := [(Ye 60 7, true), (Ya 61 8, true), (⟨.l 62, .ixaS 1, [.l 61, .con (.int .i64 0)], none⟩, true), (Yd 63 62, true), (Ya 64 8, true), (⟨.l 65, .ixaS 1, [.l 64, .con (.int .i64 1)], none⟩, true), (Yd 66 65, true)]
noncomputable abbrev r89_11 : List RO := [⟨.none, .mpu .str, [.l 60, .l 63, .l 66], none⟩]
noncomputable abbrev r89_12 : List RO := [Ya 67 3, Ya 68 5, ⟨.l 69, .bin .mul, [.con (.int .i64 2), .l 68], none⟩, Yv 70 .add 69 2, ⟨.l 71, .slcL 1 true false, [.l 67, .l 70], none⟩, Yb 9 71]
noncomputable abbrev r89_13 : List RO := [Ye 72 7, ⟨.l 73, .lenM, [.l 72], none⟩, Ya 74 9, ⟨.l 75, .lenL, [.l 74], none⟩, Yx 76 .add 73 75, Yv 77 .eql 76 0, Yc 78 77, Ze 79 7 78 false, Za 80 9 78 false, ⟨.l 81, .calls .fn, [(.con (.fn (.func 46) [] [])), .l 79, .l 80], (some (.l 78, false))⟩, ⟨.l 82, .bin .neq, [.l 81, .con (.int .i64 0)], (some (.l 78, false))⟩, Yq 83 78 82, Yc 84 83, Ze 85 7 84 false, Za 86 9 84 false, ⟨.l 87, .calls .fn, [(.con (.fn (.func 50) [] [])), .l 85, .l 86], (some (.l 84, false))⟩, Za 88 1 84 false, ⟨.l 89, .bsl 1, [.l 88], (some (.l 84, false))⟩, ⟨.l 90, .calls .fn, [(.con (.fn (.func 99) [] [])), .l 89], (some (.l 84, false))⟩, ⟨.l 91, .bin .neq, [.l 87, .l 90], (some (.l 84, false))⟩, Yq 92 84 91, Yc 93 92, Za 94 9 93 false, ⟨.l 95, .calls .fn, [(.con (.fn (.func 119) [] [])), .l 94], (some (.l 93, false))⟩, ⟨.l 96, .un .not, [.l 95], (some (.l 93, false))⟩, Yq 97 93 96, Yc 98 97, Za 99 9 98 false, ⟨.l 100, .calls .fn, [(.con (.fn (.func 120) [] [])), .l 99], (some (.l 98, false))⟩, ⟨.l 101, .calls .fn, [(.con (.fn (.func 47) [] [])), .l 100], (some (.l 98, false))⟩, ⟨.l 102, .lenL, [.l 101], (some (.l 98, false))⟩, Za 103 9 98 false, ⟨.l 104, .lenL, [.l 103], (some (.l 98, false))⟩, ⟨.l 105, .bin .lss, [.l 102, .l 104], (some (.l 98, false))⟩, Yr 14 98 105]
noncomputable abbrev r89_14 : List RO := [⟨.v 2, .mv, [.con (.bool false)], none⟩]
noncomputable abbrev r89_15 : List RO := [Ya 107 0, Ye 108 7, Ya 109 9, ⟨.l 110, .calls .fn, [(.con (.fn (.func 53) [] [])), .l 107, .l 108, .l 109], none⟩]
noncomputable abbrev r89_16 : List RO := [⟨.v 2, .mv, [.con (.bool true)], none⟩]
theorem pe89 {n m : Nat} : (E89 n m).M = M := rfl
theorem ie89 {n m : Nat} {hp : Hp} {a0 a1 : D} : St.init (E89 n m) [a0, a1] hp = ⟨[a0, a1, .u0, .u0, .u0, .u0, .u0, .u0, .u0, .u0, .u0, .u0, .u0, .u0, .u0], [], hp⟩ := rfl
noncomputable def c89 : RC := (.seq (.reg r89_0) (.seq (.reg r89_1) (.seq (.seq (.reg r89_2) (.cond (.v 10) (.seq (.reg r89_3) .ret) .skip)) (.seq (.reg r89_4) (.seq (.seq (.reg r89_5) (.cond (.v 11) (.seq (.reg r89_6) .ret) .skip)) (.seq (.reg r89_7) (.seq (.seq (.reg r89_8) (.block 0 (.rangeF (.v 12) [(.v 13)] (.reg r89_9) (.block 1 (.regD r89_10 r89_11))))) (.seq (.reg r89_12) (.seq (.seq (.reg r89_13) (.cond (.v 14) (.seq (.reg r89_14) .ret) .skip)) (.seq (.reg r89_15) (.seq (.reg r89_16) .ret)))))))))))
noncomputable def q89 : List RR := [(.slot (.v 2))]
theorem z89 {n m : Nat} : zAe (E89 n m) (Tryz.f89.body.getD .skip) = some c89 := by kernel_rfl
theorem zr89 {n m : Nat} : resRs (E89 n m) Tryz.f89.results.toList = some q89 := by kernel_rfl
noncomputable def E118 (n m : Nat) : Cfg := ⟨M, [0, 1, 2, 3, 4, 6], 9, n, m, []⟩
noncomputable def C118 : Cfg := E118 0 0
noncomputable abbrev r118_0 : List RO := [Yl 2 0, Yl 3 1, ⟨.v 4, .mv, [(.con (.lit .nilFunc))], none⟩]
noncomputable abbrev r118_1 : List RO := [Ye 5 3, Yz 5 .lss 5 1]
noncomputable abbrev r118_2 : List RO := [⟨.l 7, .mkI 9, [(.con (.str [99, 97, 110, 110, 111, 116, 32, 98, 101, 32, 108, 101, 115, 115, 32, 116, 104, 97, 110, 32, 49]))], none⟩, ⟨.none, .calls .pan, [.l 7], none⟩]
noncomputable abbrev r118_3 : List RO := [⟨.l 8, (.mkF (.func 145) 0), [.v 2, .v 3], none⟩, Yb 4 8]
theorem P118 : C118.M = M := rfl
theorem i118 {a0 a1 : D} : St.init C118 [a0, a1] ⟨[], []⟩ = ⟨[a0, a1, .u0, .u0, .u0, .u0], [], ⟨[], []⟩⟩ := rfl
noncomputable def c118 : RC := (.seq (.reg r118_0) (.seq (.seq (.reg r118_1) (.cond (.v 5) (.reg r118_2) .skip)) (.seq (.reg r118_3) .ret)))
noncomputable def q118 : List RR := [(.slot (.v 4))]
theorem k118 : FnOk M 118 2 Tryz.f118 E118 c118 q118 := fnOk Tryz.func118
noncomputable def E145 (n m : Nat) : Cfg := ⟨M, [0, 1, 2, 4, 5, 9, 30], 31, n, m, []⟩
noncomputable def C145 : Cfg := E145 0 0
noncomputable abbrev r145_0 : List RO := [Ys 3 0]
noncomputable abbrev r145_1 : List RO := [Ya 6 3, Ye 7 1, ⟨.l 8, .lenL, [.l 7], none⟩, Yy 5 .lss 6 8]
noncomputable abbrev r145_2 : List (RO × Bool) := [(Ye 13 2, true), (Ye 14 1, true), (Ya 15 3, true), (⟨.l 16, .slcL 1 true false, [.l 14, .l 15], none⟩, true), (⟨.l 17, .lenL, [.l 16], none⟩, true)]
noncomputable abbrev r145_3 : List RO := [⟨.l 18, .minI, [.l 13, .l 17], none⟩, Yb 4 18]
noncomputable abbrev r145_4 : List RO := [Ya 19 0, Ye 20 1, Ya 21 3, Ya 22 3, Ya 23 4, Yx 24 .add 22 23, Ya 25 3, Ya 26 4, Yx 27 .add 25 26, ⟨.l 28, .slc3 1, [.l 20, .l 21, .l 24, .l 27], none⟩, ⟨.l 29, .calls .fn, [.l 19, .l 28], none⟩, ⟨.v 6, .un .not, [.l 29], none⟩]
noncomputable abbrev r145_5 : List RO := [Ya 10 3, Ye 11 2, Yx 12 .add 10 11, Yb 3 12]
theorem pe145 {n m : Nat} : (E145 n m).M = M := rfl
theorem i145 {a0 a1 a2 : D} : St.init C145 [a0, a1, a2] ⟨[], []⟩ = ⟨[a0, a1, a2, .u0, .u0, .u0, .u0], [], ⟨[], []⟩⟩ := rfl
theorem ie145 {n m : Nat} {hp : Hp} {a0 a1 a2 : D} : St.init (E145 n m) [a0, a1, a2] hp = ⟨[a0, a1, a2, .u0, .u0, .u0, .u0], [], hp⟩ := rfl
noncomputable def c145 : RC := (.seq (.reg r145_0) (.block 0 (.loop (.seq (.seq (.reg r145_1) (.cond (.v 5) .skip (.exit 0))) (.seq (.block 1 (.seq (.regD r145_2 r145_3) (.seq (.reg r145_4) (.cond (.v 6) .ret .skip)))) (.reg r145_5))))))
theorem z145 {n m : Nat} : zAe (E145 n m) (Tryz.f145.body.getD .skip) = some c145 := by kernel_rfl
noncomputable def E119 (n m : Nat) : Cfg := ⟨M, [0, 2, 3, 8, 20], 21, n, m, []⟩
noncomputable def C119 : Cfg := E119 0 0
noncomputable abbrev r119_0 : List RO := [⟨.v 1, .mv, [.con (.bool false)], none⟩]
noncomputable abbrev r119_1 : List RO := [Ya 4 0, ⟨.l 5, .lenL, [.l 4], none⟩, Yv 6 .sub 5 1, Yb 2 6]
noncomputable abbrev r119_2 : List RO := [Ya 7 2, Yz 3 .gtr 7 0]
noncomputable abbrev r119_3 : List (RO × Bool) := [(Ya 11 0, true), (Ya 12 2, true), (⟨.l 13, .ixaS 1, [.l 11, .l 12], none⟩, true), (Yd 14 13, true), (Ya 15 0, true), (Ya 16 2, true), (Yv 17 .sub 16 1, true), (⟨.l 18, .ixaS 1, [.l 15, .l 17], none⟩, true), (Yd 19 18, true)]
noncomputable abbrev r119_4 : List RO := [⟨.v 4, .calls .fn, [(.con (.fn (.func 146) [] [])), .l 14, .l 19], none⟩]
noncomputable abbrev r119_5 : List RO := [⟨.v 1, .mv, [.con (.bool false)], none⟩]
noncomputable abbrev r119_6 : List RO := [Ya 9 2, Yv 10 .sub 9 1, Yb 2 10]
noncomputable abbrev r119_7 : List RO := [⟨.v 1, .mv, [.con (.bool true)], none⟩]
theorem P119 : C119.M = M := rfl
theorem i119 {a0 : D} : St.init C119 [a0] ⟨[], []⟩ = ⟨[a0, .u0, .u0, .u0, .u0], [], ⟨[], []⟩⟩ := rfl
noncomputable def c119 : RC := (.seq (.reg r119_0) (.seq (.seq (.reg r119_1) (.block 0 (.loop (.seq (.seq (.reg r119_2) (.cond (.v 3) .skip (.exit 0))) (.seq (.block 1 (.seq (.regD r119_3 r119_4) (.cond (.v 4) (.seq (.reg r119_5) .ret) .skip))) (.reg r119_6)))))) (.seq (.reg r119_7) .ret)))
noncomputable def q119 : List RR := [(.slot (.v 1))]
theorem k119 : FnOk M 119 1 Tryz.f119 E119 c119 q119 := fnOk Tryz.func119
noncomputable def E146 (n m : Nat) : Cfg := ⟨M, [0, 1, 4], 17, n, m, []⟩
noncomputable def C146 : Cfg := E146 0 0
noncomputable abbrev r146_0 : List RO := [⟨.v 2, .mv, [.con (.bool false)], none⟩]
noncomputable abbrev r146_1 : List RO := [Ya 5 0, Yt 6 172 5, Yc 7 6, Za 8 1 7 true, ⟨.l 9, .calls .fn, [(.con (.fn (.func 172) [] [])), .l 8], (some (.l 7, true))⟩, ⟨.l 10, .un .not, [.l 9], (some (.l 7, true))⟩, Yo 11 7 10, Yc 12 11, Za 13 0 12 false, Za 14 1 12 false, ⟨.l 15, .bin .lss, [.l 13, .l 14], (some (.l 12, false))⟩, Yq 16 12 15, Yb 2 16]
theorem P146 : C146.M = M := rfl
theorem i146 {a0 a1 : D} : St.init C146 [a0, a1] ⟨[], []⟩ = ⟨[a0, a1, .u0], [], ⟨[], []⟩⟩ := rfl
noncomputable def c146 : RC := (.seq (.reg r146_0) (.seq (.reg r146_1) .ret))
noncomputable def q146 : List RR := [(.slot (.v 2))]
theorem z146 {n m : Nat} : zAe (E146 n m) (Tryz.f146.body.getD .skip) = some c146 := by kernel_rfl
theorem k146 : FnOk M 146 2 Tryz.f146 E146 c146 q146 := fnOk Tryz.func146
noncomputable def E172 (n m : Nat) : Cfg := ⟨M, [0, 2], 6, n, m, []⟩
noncomputable def C172 : Cfg := E172 0 0
noncomputable abbrev r172_0 : List RO := [⟨.v 1, .mv, [.con (.bool false)], none⟩]
noncomputable abbrev r172_1 : List RO := [Ya 3 0, Ya 4 0, Yx 5 .neq 3 4, Yb 1 5]
theorem P172 : C172.M = M := rfl
theorem i172 {a0 : D} : St.init C172 [a0] ⟨[], []⟩ = ⟨[a0, .u0], [], ⟨[], []⟩⟩ := rfl
noncomputable def c172 : RC := (.seq (.reg r172_0) (.seq (.reg r172_1) .ret))
noncomputable def q172 : List RR := [(.slot (.v 1))]
theorem k172 : FnOk M 172 1 Tryz.f172 E172 c172 q172 := fnOk Tryz.func172
noncomputable def E85 (n m : Nat) : Cfg := ⟨M, [0, 1, 2, 6], 16, n, m, []⟩
noncomputable def C85 : Cfg := E85 0 0
noncomputable abbrev r85_0 : List RO := [Ys 3 0]
noncomputable abbrev r85_1 : List RO := [Ya 7 1, Ya 8 0, Yn 9 8, Yi 10 1 9, Yd 11 10, Yx 12 .mul 7 11, ⟨.l 13, .bin .add, [.con (.int .i64 2), .l 12], none⟩, Ya 14 2, Yx 15 .add 13 14, Yb 3 15]
theorem P85 : C85.M = M := rfl
theorem pe85 {n m : Nat} : (E85 n m).M = M := rfl
theorem i85 {a0 a1 a2 : D} : St.init C85 [a0, a1, a2] ⟨[], []⟩ = ⟨[a0, a1, a2, .u0], [], ⟨[], []⟩⟩ := rfl
theorem ie85 {n m : Nat} {hp : Hp} {a0 a1 a2 : D} : St.init (E85 n m) [a0, a1, a2] hp = ⟨[a0, a1, a2, .u0], [], hp⟩ := rfl
noncomputable def c85 : RC := (.seq (.reg r85_0) (.seq (.reg r85_1) .ret))
noncomputable def q85 : List RR := [(.slot (.v 3))]
theorem z85 {n m : Nat} : zAe (E85 n m) (Tryz.f85.body.getD .skip) = some c85 := by kernel_rfl
theorem k85 : FnOk M 85 3 Tryz.f85 E85 c85 q85 := fnOk Tryz.func85
noncomputable def E90 (n m : Nat) : Cfg := ⟨M, [0, 1, 2, 6, 7, 8, 16, 32], 50, n, m, []⟩
noncomputable def C90 : Cfg := E90 0 0
noncomputable abbrev r90_0 : List RO := [Ys 3 0]
noncomputable abbrev r90_1 : List RO := [Ys 4 0]
noncomputable abbrev r90_2 : List RO := [Ys 5 0]
noncomputable abbrev r90_3 : List RO := [Ya 9 5, Ya 10 2, ⟨.l 11, .lenL, [.l 10], none⟩, Yx 12 .lss 9 11, Yc 13 12, Za 14 4 13 true, ⟨.l 15, .bin .eql, [.l 14, .con (.int .i64 0)], (some (.l 13, true))⟩, Yp 6 13 15]
noncomputable abbrev r90_4 : List (RO × Bool) := [(Ya 19 0, true), (Yn 20 19, true), (Yi 21 0 20, true), (Yd 22 21, true), (Ya 23 1, true), (Ya 24 5, true), (Yx 25 .add 23 24, true), (Ya 26 2, true), (Ya 27 5, true), (⟨.l 28, .ixaS 1, [.l 26, .l 27], none⟩, true), (Yd 29 28, true)]
noncomputable abbrev r90_5 : List RO := [⟨.l 30, .calls .fn, [(.con (.fn (.func 121) [] [])), .l 22, .l 25, .l 29], none⟩, Yb 4 30]
noncomputable abbrev r90_6 : List RO := [Ya 17 5, Yv 18 .add 17 1, Yb 5 18]
noncomputable abbrev r90_7 : List RO := [Ya 31 4, Yz 7 .eql 31 0]
noncomputable abbrev r90_8 : List RO := [Ya 33 0, Yn 34 33, Yi 35 0 34, Yd 36 35, Yt 37 122 36, Yb 4 37]
noncomputable abbrev r90_9 : List RO := [Ya 38 0, Ya 39 0, Yn 40 39, Yi 41 5 40, Yd 42 41, Yc 43 42, Za 44 4 43 false, ⟨.l 45, .bin .neq, [.l 44, .con (.int .i64 0)], (some (.l 43, false))⟩, Yq 46 43 45, Yn 47 38, Yi 48 5 47, Yk 1 48 46]
noncomputable abbrev r90_10 : List RO := [Ya 49 4, Yb 3 49]
theorem P90 : C90.M = M := rfl
theorem pe90 {n m : Nat} : (E90 n m).M = M := rfl
theorem ie90 {n m : Nat} {hp : Hp} {a0 a1 a2 : D} : St.init (E90 n m) [a0, a1, a2] hp = ⟨[a0, a1, a2, .u0, .u0, .u0, .u0, .u0], [], hp⟩ := rfl
noncomputable def c90 : RC := (.seq (.reg r90_0) (.seq (.reg r90_1) (.seq (.seq (.reg r90_2) (.block 0 (.loop (.seq (.seq (.reg r90_3) (.cond (.v 6) .skip (.exit 0))) (.seq (.block 1 (.regD r90_4 r90_5)) (.reg r90_6)))))) (.seq (.seq (.reg r90_7) (.cond (.v 7) (.reg r90_8) .skip)) (.seq (.reg r90_9) (.seq (.reg r90_10) .ret))))))
noncomputable def q90 : List RR := [(.slot (.v 3))]
theorem k90 : FnOk M 90 3 Tryz.f90 E90 c90 q90 := fnOk Tryz.func90
noncomputable def E45 (n m : Nat) : Cfg := ⟨M, [0, 1, 2, 6, 7, 9, 10, 21, 30, 40], 47, n, m, []⟩
noncomputable def C45 : Cfg := E45 0 0
noncomputable abbrev r45_0 : List RO := [Ys 3 0]
noncomputable abbrev r45_1 : List RO := [Ya 12 0, Yn 13 12, Yi 14 0 13, Yd 15 14, Ya 16 1, Yu 17 41 15 16, Yc 11 17, Ym 18 0 11, Ym 19 1 11, Yb 4 18, Yc 8 19]
noncomputable abbrev r45_2 : List RO := [⟨.l 20, .calls .fn, [(.con (.fn (.func 43) [] []))], none⟩, Yb 5 20]
noncomputable abbrev r45_3 : List RO := [⟨.v 7, .mv, [.v 2], none⟩]
noncomputable abbrev r45_4 : List RO := [Ya 22 1, Ya 23 0, Yn 24 23, Yi 25 2 24, Yg 26 2 25, Yu 27 83 22 26, Yb 5 27]
noncomputable abbrev r45_5 : List RO := [Ya 28 4, Ya 29 5, Yy 8 .eql 28 29]
noncomputable abbrev r45_6 : List RO := [Ys 3 0]
noncomputable abbrev r45_7 : List RO := [Ya 31 0, Ya 32 1, ⟨.l 33, .calls .fn, [(.con (.fn (.func 43) [] []))], none⟩, ⟨.l 34, .bsl 1, [.l 33], none⟩, ⟨.l 35, .calls .fn, [(.con (.fn (.func 90) [] [])), .l 31, .l 32, .l 34], none⟩, Yb 6 35]
noncomputable abbrev r45_8 : List RO := [Ya 36 6, Yv 37 .eql 36 0, Yc 38 37, Za 39 2 38 true, Yp 9 38 39]
noncomputable abbrev r45_9 : List RO := [Ya 41 0, Ya 42 1, Ya 43 5, ⟨.l 44, .bsl 1, [.l 43], none⟩, ⟨.l 45, .calls .fn, [(.con (.fn (.func 90) [] [])), .l 41, .l 42, .l 44], none⟩, Yb 6 45]
noncomputable abbrev r45_10 : List RO := [Ya 46 6, Yb 3 46]
theorem P45 : C45.M = M := rfl
theorem pe45 {n m : Nat} : (E45 n m).M = M := rfl
theorem ie45 {n m : Nat} {hp : Hp} {a0 a1 a2 : D} : St.init (E45 n m) [a0, a1, a2] hp = ⟨[a0, a1, a2, .u0, .u0, .u0, .u0, .u0, .u0, .u0], [], hp⟩ := rfl
noncomputable def c45 : RC := (.seq (.reg r45_0) (.seq (.reg r45_1) (.seq (.reg r45_2) (.seq (.seq (.reg r45_3) (.cond (.v 7) (.reg r45_4) .skip)) (.seq (.seq (.reg r45_5) (.cond (.v 8) (.seq (.reg r45_6) .ret) .skip)) (.seq (.reg r45_7) (.seq (.seq (.reg r45_8) (.cond (.v 9) (.reg r45_9) .skip)) (.seq (.reg r45_10) .ret))))))))
noncomputable def q45 : List RR := [(.slot (.v 3))]
theorem k45 : FnOk M 45 3 Tryz.f45 E45 c45 q45 := fnOk Tryz.func45
noncomputable def E103 (n m : Nat) : Cfg := ⟨M, [0, 1, 3, 4, 6, 7, 8, 9, 10, 11, 22], 29, n, m, []⟩
noncomputable def C103 : Cfg := E103 0 0
noncomputable abbrev r103_0 : List RO := [Yl 2 1, Ys 3 0]
noncomputable abbrev r103_1 : List RO := [⟨.v 6, .bsl 1, [.con (.int .i64 1), .con (.int .i64 0)], none⟩, ⟨.v 7, .lenL, [.v 6], none⟩, Ys 8 0]
noncomputable abbrev r103_2 : List RO := [⟨.v 9, .bin .lss, [.v 8, .v 7], none⟩]
noncomputable abbrev r103_3 : List RO := [⟨.l 12, .ixaS 1, [.v 6, .v 8], none⟩, Yd 13 12, Yb 4 13]
noncomputable abbrev r103_4 : List RO := [Ya 14 0, Ya 15 4, Ya 16 4, Yf 17 2 2, Yu 18 83 16 17, ⟨.l 19, .bsl 1, [.l 18], none⟩, ⟨.l 20, .calls .fn, [(.con (.fn (.func 90) [] [])), .l 14, .l 15, .l 19], none⟩, Yb 5 20]
noncomputable abbrev r103_5 : List RO := [Ya 21 5, Yz 10 .neq 21 0]
noncomputable abbrev r103_6 : List RO := [Ya 23 5, Yb 3 23]
noncomputable abbrev r103_7 : List RO := [Yw 24 .add 8 1, Yb 8 24]
noncomputable abbrev r103_8 : List RO := [Ya 25 0, Yf 26 2 2, Yn 27 25, Yi 28 2 27, Yk 2 28 26]
noncomputable abbrev r103_9 : List RO := [Ys 3 0]
theorem P103 : C103.M = M := rfl
theorem pe103 {n m : Nat} : (E103 n m).M = M := rfl
theorem ie103 {n m : Nat} {hp : Hp} {a0 a1 : D} : St.init (E103 n m) [a0, a1] hp = ⟨[a0, a1, .u0, .u0, .u0, .u0, .u0, .u0, .u0, .u0, .u0], [], hp⟩ := rfl
noncomputable def c103 : RC := (.seq (.reg r103_0) (.seq (.seq (.reg r103_1) (.block 0 (.loop (.seq (.reg r103_2) (.seq (.cond (.v 9) .skip (.exit 0)) (.seq (.block 1 (.seq (.reg r103_3) (.seq (.reg r103_4) (.seq (.reg r103_5) (.cond (.v 10) (.seq (.reg r103_6) .ret) .skip))))) (.reg r103_7))))))) (.seq (.reg r103_8) (.seq (.reg r103_9) .ret))))
noncomputable def q103 : List RR := [(.slot (.v 3))]
theorem k103 : FnOk M 103 2 Tryz.f103 E103 c103 q103 := fnOk Tryz.func103
noncomputable def E52 (n m : Nat) : Cfg := ⟨M, [0, 1, 2, 4, 6, 7, 8, 9, 10, 18, 19, 38], 49, n, m, []⟩
noncomputable abbrev r52_0 : List RO := [Yl 3 1, Ys 4 0]
noncomputable abbrev r52_1 : List RO := [Ya 11 0, Yh 12 0 3, Yd 13 12, Yh 14 1 3, Yd 15 14, ⟨.l 16, .calls .fn, [(.con (.fn (.func 85) [] [])), .l 11, .l 13, .l 15], none⟩, ⟨.v 5, (.newb [(.int .i64 0)]), [], none⟩, Yj 1 5 16]
noncomputable abbrev r52_2 : List RO := [⟨.v 6, (.newb [(.lit (.slice none 0 0))]), [], none⟩]
noncomputable abbrev r52_3 : List RO := [Ya 17 2, ⟨.v 9, .calls .fn, [(.con (.fn (.func 100) [] [])), .l 17], none⟩]
noncomputable abbrev r52_4 : List RO := [⟨.v 7, .mv, [.v 10], none⟩]
noncomputable abbrev r52_5 : List (RO × Bool) := [(Ye 20 6, true), (Ye 21 5, true), (Ye 22 6, true), (⟨.l 23, .lenL, [.l 22], none⟩, true), (Yx 24 .add 21 23, true), (Ya 25 7, true), (⟨.l 26, .lenS, [.l 25], none⟩, true), (⟨.l 27, .calls .fn, [(.con (.fn (.func 102) [] [])), .l 26, .con (.int .i64 2)], none⟩, true), (Ya 28 7, true), (Yx 29 .add 27 28, true), (Yu 30 101 24 29, true), (⟨.l 31, .bsl 1, [.l 30], none⟩, true)]
noncomputable abbrev r52_6 : List RO := [⟨.l 32, .app 1 16 9, [.l 20, .l 31], none⟩, Yj 1 6 32]
noncomputable abbrev r52_7 : List RO := [Ya 33 0, Ye 34 5, Ye 35 6, ⟨.l 36, .calls .fn, [(.con (.fn (.func 90) [] [])), .l 33, .l 34, .l 35], none⟩, Yb 8 36]
noncomputable abbrev r52_8 : List RO := [Ya 37 8, Yz 11 .neq 37 0]
noncomputable abbrev r52_9 : List RO := [Ya 39 8, Yb 4 39]
noncomputable abbrev r52_10 : List RO := [Yh 40 1 3, Yd 41 40, Ye 42 6, ⟨.l 43, .lenL, [.l 42], none⟩, Yx 44 .add 41 43, Yh 45 1 3, Yk 1 45 44]
noncomputable abbrev r52_11 : List RO := [Ya 46 0, Yf 47 2 3, Yu 48 103 46 47, Yb 4 48]
theorem pe52 {n m : Nat} : (E52 n m).M = M := rfl
theorem ie52 {n m : Nat} {hp : Hp} {a0 a1 a2 : D} : St.init (E52 n m) [a0, a1, a2] hp = ⟨[a0, a1, a2, .u0, .u0, .u0, .u0, .u0, .u0, .u0, .u0, .u0], [], hp⟩ := rfl
noncomputable def c52 : RC := (.seq (.reg r52_0) (.seq (.reg r52_1) (.seq (.reg r52_2) (.seq (.seq (.reg r52_3) (.block 0 (.rangeF (.v 9) [(.v 10)] (.reg r52_4) (.block 1 (.regD r52_5 r52_6))))) (.seq (.seq (.reg r52_7) (.seq (.reg r52_8) (.cond (.v 11) (.seq (.reg r52_9) .ret) .skip))) (.seq (.reg r52_10) (.seq (.reg r52_11) .ret)))))))
noncomputable def q52 : List RR := [(.slot (.v 4))]
theorem z52 {n m : Nat} : zAe (E52 n m) (Tryz.f52.body.getD .skip) = some c52 := by kernel_rfl
theorem zr52 {n m : Nat} : resRs (E52 n m) Tryz.f52.results.toList = some q52 := by kernel_rfl
noncomputable def E51 (n m : Nat) : Cfg := ⟨M, [0, 2], 8, n, m, []⟩
noncomputable def C51 : Cfg := E51 0 0
noncomputable abbrev r51_0 : List RO := [Ys 1 0]
noncomputable abbrev r51_1 : List RO := [Ya 3 0, ⟨.l 4, .lenS, [.l 3], none⟩, Yv 5 .add 4 46, Yv 6 .sub 5 1, Yv 7 .quo 6 46, Yb 1 7]
theorem P51 : C51.M = M := rfl
theorem i51 {a0 : D} : St.init C51 [a0] ⟨[], []⟩ = ⟨[a0, .u0], [], ⟨[], []⟩⟩ := rfl
noncomputable def c51 : RC := (.seq (.reg r51_0) (.seq (.reg r51_1) .ret))
noncomputable def q51 : List RR := [(.slot (.v 1))]
theorem z51 {n m : Nat} : zAe (E51 n m) (Tryz.f51.body.getD .skip) = some c51 := by kernel_rfl
theorem k51 : FnOk M 51 1 Tryz.f51 E51 c51 q51 := fnOk Tryz.func51
noncomputable def E24 (n m : Nat) : Cfg := ⟨M, [0, 1, 4, 5, 6, 7, 9], 21, n, m, []⟩
noncomputable abbrev r24_0 : List RO := [⟨.v 2, .mv, [(.con (.str []))], none⟩, ⟨.v 3, .mv, [.con (.bool false)], none⟩]
noncomputable abbrev r24_1 : List RO := [Ya 8 0, ⟨.v 6, .eqN false .ptr, [.l 8, (.con (.lit (.pointer none)))], none⟩]
noncomputable abbrev r24_2 : List RO := [⟨.v 2, .mv, [(.con (.str []))], none⟩, ⟨.v 3, .mv, [.con (.bool false)], none⟩]
noncomputable abbrev r24_3 : List RO := [Ya 11 0, Yn 12 11, Yi 13 4 12, Yd 14 13, Ya 15 1, ⟨.l 16, (.lkp .str true (.str [])), [.l 14, .l 15], none⟩, Yc 10 16, Ym 17 0 10, Ym 18 1 10, Yb 4 17, Yb 5 18]
noncomputable abbrev r24_4 : List RO := [Ya 19 4, Ya 20 5, Yb 2 19, Yb 3 20]
theorem pe24 {n m : Nat} : (E24 n m).M = M := rfl
theorem ie24 {n m : Nat} {hp : Hp} {a0 a1 : D} : St.init (E24 n m) [a0, a1] hp = ⟨[a0, a1, .u0, .u0, .u0, .u0, .u0], [], hp⟩ := rfl
noncomputable def c24 : RC := (.seq (.reg r24_0) (.seq (.seq (.reg r24_1) (.cond (.v 6) (.seq (.reg r24_2) .ret) .skip)) (.seq (.reg r24_3) (.seq (.reg r24_4) .ret))))
noncomputable def q24 : List RR := [(.slot (.v 2)), (.slot (.v 3))]
theorem z24 {n m : Nat} : zAe (E24 n m) (Tryz.f24.body.getD .skip) = some c24 := by kernel_rfl
theorem k24 : FnOk M 24 2 Tryz.f24 E24 c24 q24 := fnOk Tryz.func24
noncomputable def E19 (n m : Nat) : Cfg := ⟨M, [0, 2, 4], 11, n, m, []⟩
noncomputable abbrev r19_0 : List RO := [⟨.v 1, .mv, [(.con (.lit (.slice none 0 0)))], none⟩]
noncomputable abbrev r19_1 : List RO := [Ya 3 0, ⟨.v 2, .eqN false .ptr, [.l 3, (.con (.lit (.pointer none)))], none⟩]
noncomputable abbrev r19_2 : List RO := [⟨.v 1, .mv, [(.con (.lit (.slice none 0 0)))], none⟩]
noncomputable abbrev r19_3 : List RO := [Ya 5 0, Yn 6 5, Yi 7 4 6, Yd 8 7, Yt 9 55 8, Yt 10 48 9, Yb 1 10]
theorem pe19 {n m : Nat} : (E19 n m).M = M := rfl
theorem ie19 {n m : Nat} {hp : Hp} {a0 : D} : St.init (E19 n m) [a0] hp = ⟨[a0, .u0, .u0], [], hp⟩ := rfl
noncomputable def c19 : RC := (.seq (.reg r19_0) (.seq (.seq (.reg r19_1) (.cond (.v 2) (.seq (.reg r19_2) .ret) .skip)) (.seq (.reg r19_3) .ret)))
noncomputable def q19 : List RR := [(.slot (.v 1))]
theorem k19 : FnOk M 19 1 Tryz.f19 E19 c19 q19 := fnOk Tryz.func19
noncomputable def E48 (n m : Nat) : Cfg := ⟨M, [0, 2, 3], 9, n, m, []⟩
noncomputable def C48 : Cfg := E48 0 0
noncomputable abbrev r48_0 : List RO := [⟨.v 1, .mv, [(.con (.lit (.slice none 0 0)))], none⟩]
noncomputable abbrev r48_1 : List RO := [Ya 4 0, Yt 5 95 4, Yb 2 5]
noncomputable abbrev r48_2 : List RO := [Ya 6 2, Yt 7 96 6]
noncomputable abbrev r48_3 : List RO := [Ya 8 2, Yb 1 8]
theorem P48 : C48.M = M := rfl
theorem pe48 {n m : Nat} : (E48 n m).M = M := rfl
theorem i48 {a0 : D} : St.init C48 [a0] ⟨[], []⟩ = ⟨[a0, .u0, .u0], [], ⟨[], []⟩⟩ := rfl
theorem ie48 {n m : Nat} {hp : Hp} {a0 : D} : St.init (E48 n m) [a0] hp = ⟨[a0, .u0, .u0], [], hp⟩ := rfl
noncomputable def c48 : RC := (.seq (.reg r48_0) (.seq (.reg r48_1) (.seq (.reg r48_2) (.seq (.reg r48_3) .ret))))
noncomputable def q48 : List RR := [(.slot (.v 1))]
theorem k48 : FnOk M 48 1 Tryz.f48 E48 c48 q48 := fnOk Tryz.func48
noncomputable def E95 (n m : Nat) : Cfg := ⟨M, [0, 2], 5, n, m, []⟩
noncomputable abbrev r95_0 : List RO := [⟨.v 1, .mv, [(.con (.lit (.slice none 0 0)))], none⟩]
noncomputable abbrev r95_1 : List RO := [Ya 3 0, ⟨.l 4, .calls .fn, [(.con (.fn (.func 125) [] [])), (.con (.lit (.slice none 0 0))), .l 3], none⟩, Yb 1 4]
theorem pe95 {n m : Nat} : (E95 n m).M = M := rfl
theorem ie95 {n m : Nat} {hp : Hp} {a0 : D} : St.init (E95 n m) [a0] hp = ⟨[a0, .u0], [], hp⟩ := rfl
noncomputable def c95 : RC := (.seq (.reg r95_0) (.seq (.reg r95_1) .ret))
noncomputable def q95 : List RR := [(.slot (.v 1))]
theorem k95 : FnOk M 95 1 Tryz.f95 E95 c95 q95 := fnOk Tryz.func95
noncomputable def E125 (n m : Nat) : Cfg := ⟨M, [0, 1, 2, 4, 5, 6, 7], 13, n, m, []⟩
noncomputable abbrev r125_0 : List RO := [Yl 2 0, ⟨.v 3, .mv, [(.con (.lit (.slice none 0 0)))], none⟩]
noncomputable abbrev r125_1 : List RO := [⟨.v 5, .mv, [.v 1], none⟩]
noncomputable abbrev r125_2 : List RO := [⟨.v 4, .mv, [.v 6], none⟩]
noncomputable abbrev r125_3 : List RO := [Ye 8 2, Ya 9 4, ⟨.l 10, .bsl 1, [.l 9], none⟩, ⟨.l 11, .app 1 16 9, [.l 8, .l 10], none⟩, Yj 1 2 11]
noncomputable abbrev r125_4 : List RO := [Ye 12 2, Yb 3 12]
theorem pe125 {n m : Nat} : (E125 n m).M = M := rfl
theorem ie125 {n m : Nat} {hp : Hp} {a0 a1 : D} : St.init (E125 n m) [a0, a1] hp = ⟨[a0, a1, .u0, .u0, .u0, .u0, .u0], [], hp⟩ := rfl
noncomputable def c125 : RC := (.seq (.reg r125_0) (.seq (.seq (.reg r125_1) (.block 0 (.rangeF (.v 5) [(.v 6)] (.reg r125_2) (.block 1 (.reg r125_3))))) (.seq (.reg r125_4) .ret)))
noncomputable def q125 : List RR := [(.slot (.v 3))]
theorem z125 {n m : Nat} : zAe (E125 n m) (Tryz.f125.body.getD .skip) = some c125 := by kernel_rfl
theorem zr125 {n m : Nat} : resRs (E125 n m) Tryz.f125.results.toList = some q125 := by kernel_rfl
noncomputable def E97 (n m : Nat) : Cfg := ⟨M, [0, 1, 4, 5, 6, 7, 8, 14], 16, n, m, []⟩
noncomputable abbrev r97_0 : List RO := [⟨.v 3, .ld false 1, [.v 1], none⟩, ⟨.v 4, .lenL, [.v 3], none⟩, Ys 5 0]
noncomputable abbrev r97_1 : List RO := [⟨.v 6, .bin .lss, [.v 5, .v 4], none⟩]
noncomputable abbrev r97_2 : List RO := [⟨.l 9, .ixaS 1, [.v 3, .v 5], none⟩, Yd 10 9, Yb 2 10]
noncomputable abbrev r97_3 : List RO := [Ya 11 0, Ya 12 2, ⟨.l 13, .calls .fn, [.l 11, .l 12], none⟩, ⟨.v 7, .un .not, [.l 13], none⟩]
noncomputable abbrev r97_4 : List RO := [Yw 15 .add 5 1, Yb 5 15]
theorem pe97 {n m : Nat} : (E97 n m).M = M := rfl
theorem ie97 {n m : Nat} {hp : Hp} {a0 a1 : D} : St.init (E97 n m) [a0, a1] hp = ⟨[a0, a1, .u0, .u0, .u0, .u0, .u0, .u0], [], hp⟩ := rfl
noncomputable def c97 : RC := (.seq (.reg r97_0) (.block 0 (.loop (.seq (.reg r97_1) (.seq (.cond (.v 6) .skip (.exit 0)) (.seq (.block 1 (.seq (.reg r97_2) (.seq (.reg r97_3) (.cond (.v 7) .ret .skip)))) (.reg r97_4)))))))
theorem z97 {n m : Nat} : zAe (E97 n m) (Tryz.f97.body.getD .skip) = some c97 := by kernel_rfl
noncomputable def E49 (n m : Nat) : Cfg := ⟨M, [0, 1, 2], 4, n, m, []⟩
noncomputable def C49 : Cfg := E49 0 0
noncomputable abbrev r49_0 : List RO := [Yl 1 0, ⟨.v 2, .mv, [(.con (.lit .nilFunc))], none⟩]
noncomputable abbrev r49_1 : List RO := [⟨.l 3, (.mkF (.func 97) 0), [.v 1], none⟩, Yb 2 3]
theorem P49 : C49.M = M := rfl
theorem i49 {a0 : D} : St.init C49 [a0] ⟨[], []⟩ = ⟨[a0, .u0, .u0], [], ⟨[], []⟩⟩ := rfl
noncomputable def c49 : RC := (.seq (.reg r49_0) (.seq (.reg r49_1) .ret))
noncomputable def q49 : List RR := [(.slot (.v 2))]
theorem k49 : FnOk M 49 1 Tryz.f49 E49 c49 q49 := fnOk Tryz.func49
noncomputable def E55 (n m : Nat) : Cfg := ⟨M, [0, 1, 2], 4, n, m, []⟩
noncomputable abbrev r55_0 : List RO := [Yl 1 0, ⟨.v 2, .mv, [(.con (.lit .nilFunc))], none⟩]
noncomputable abbrev r55_1 : List RO := [⟨.l 3, (.mkF (.func 105) 0), [.v 1], none⟩, Yb 2 3]
theorem pe55 {n m : Nat} : (E55 n m).M = M := rfl
theorem ie55 {n m : Nat} {hp : Hp} {a0 : D} : St.init (E55 n m) [a0] hp = ⟨[a0, .u0, .u0], [], hp⟩ := rfl
noncomputable def c55 : RC := (.seq (.reg r55_0) (.seq (.reg r55_1) .ret))
noncomputable def q55 : List RR := [(.slot (.v 2))]
theorem k55 : FnOk M 55 1 Tryz.f55 E55 c55 q55 := fnOk Tryz.func55
noncomputable def E14 (n m : Nat) : Cfg := ⟨M, [0, 1, 2, 6, 7, 8, 9, 10, 13, 22, 33, 49, 58], 67, n, m, []⟩
noncomputable abbrev r14_0 : List RO := [Ys 3 0]
noncomputable abbrev r14_1 : List RO := [Ya 11 0, ⟨.l 12, .eqN false .ptr, [.l 11, (.con (.lit (.pointer none)))], none⟩, Yb 7 12]
noncomputable abbrev r14_2 : List RO := [Ys 3 1]
noncomputable abbrev r14_3 : List RO := [Ya 14 0, Yn 15 14, Yi 16 5 15, Yd 17 16, Yb 8 17]
noncomputable abbrev r14_4 : List RO := [Ys 3 5]
noncomputable abbrev r14_5 : List RO := [Ya 18 1, Ya 19 2, Yu 20 46 18 19, Yb 4 20]
noncomputable abbrev r14_6 : List RO := [Ya 21 4, Yz 9 .neq 21 0]
noncomputable abbrev r14_7 : List RO := [Ya 23 4, Yb 3 23]
noncomputable abbrev r14_8 : List RO := [Ya 24 2, Yt 25 49 24, Yt 26 48 25, Yt 27 47 26, Yb 2 27]
noncomputable abbrev r14_9 : List RO := [Ya 28 1, ⟨.l 29, .lenM, [.l 28], none⟩, Ya 30 2, ⟨.l 31, .lenL, [.l 30], none⟩, Yx 32 .add 29 31, Yz 10 .eql 32 0]
noncomputable abbrev r14_10 : List RO := [Ys 3 0]
noncomputable abbrev r14_11 : List RO := [Ya 34 1, Ya 35 2, Yu 36 50 34 35, Yb 5 36]
noncomputable abbrev r14_12 : List (RO × Bool) := [(Ya 37 5, true), (Yt 38 51 37, true), (Ya 39 0, true), (Yn 40 39, true), (Yi 41 1 40, true), (Yd 42 41, true), (Ya 43 0, true), (Yn 44 43, true), (Yi 45 2 44, true), (Yi 46 1 45, true), (Yd 47 46, true), (Yx 48 .sub 42 47, true)]
noncomputable abbrev r14_13 : List RO := [Yy 11 .gtr 38 48]
noncomputable abbrev r14_14 : List RO := [Ys 3 6]
noncomputable abbrev r14_15 : List RO := [Ya 50 0, Ya 51 0, Yn 52 51, Yi 53 2 52, Yg 54 2 53, Ya 55 5, ⟨.l 56, .calls .fn, [(.con (.fn (.func 52) [] [])), .l 50, .l 54, .l 55], none⟩, Yb 6 56]
noncomputable abbrev r14_16 : List RO := [Ya 57 6, Yz 12 .neq 57 0]
noncomputable abbrev r14_17 : List RO := [Ya 59 6, Yb 3 59]
noncomputable abbrev r14_18 : List RO := [Ya 60 0, Yn 61 60, Yi 62 4 61, Yd 63 62, Ya 64 1, Ya 65 2, ⟨.l 66, .calls .fn, [(.con (.fn (.func 53) [] [])), .l 63, .l 64, .l 65], none⟩]
noncomputable abbrev r14_19 : List RO := [Ys 3 0]
theorem pe14 {n m : Nat} : (E14 n m).M = M := rfl
theorem ie14 {n m : Nat} {hp : Hp} {a0 a1 a2 : D} : St.init (E14 n m) [a0, a1, a2] hp = ⟨[a0, a1, a2, .u0, .u0, .u0, .u0, .u0, .u0, .u0, .u0, .u0, .u0], [], hp⟩ := rfl
noncomputable def c14 : RC := (.seq (.reg r14_0) (.seq (.block 0 (.seq (.reg r14_1) (.cond (.v 7) (.seq (.reg r14_2) .ret) (.seq (.reg r14_3) (.cond (.v 8) (.seq (.reg r14_4) .ret) .skip))))) (.seq (.seq (.reg r14_5) (.seq (.reg r14_6) (.cond (.v 9) (.seq (.reg r14_7) .ret) .skip))) (.seq (.reg r14_8) (.seq (.seq (.reg r14_9) (.cond (.v 10) (.seq (.reg r14_10) .ret) .skip)) (.seq (.reg r14_11) (.seq (.seq (.regD r14_12 r14_13) (.cond (.v 11) (.seq (.reg r14_14) .ret) .skip)) (.seq (.seq (.reg r14_15) (.seq (.reg r14_16) (.cond (.v 12) (.seq (.reg r14_17) .ret) .skip))) (.seq (.reg r14_18) (.seq (.reg r14_19) .ret))))))))))
noncomputable def q14 : List RR := [(.slot (.v 3))]
theorem k14 : FnOk M 14 3 Tryz.f14 E14 c14 q14 := fnOk Tryz.func14
noncomputable def E56 (n m : Nat) : Cfg := ⟨M, [0, 1, 2, 6], 22, n, m, []⟩
noncomputable def C56 : Cfg := E56 0 0
noncomputable abbrev r56_0 : List RO := [Ys 3 0]
noncomputable abbrev r56_1 : List (RO × Bool) := [(Ya 7 0, true), (Ya 8 0, true), (Ya 9 1, true), (Ya 10 2, true), (⟨.l 11, .calls .fn, [(.con (.fn (.func 85) [] [])), .l 8, .l 9, .l 10], none⟩, true), (⟨.l 12, .calls .fn, [(.con (.fn (.func 43) [] []))], none⟩, true), (⟨.l 13, .bsl 1, [.l 12], none⟩, true), (Ya 14 0, true), (Yn 15 14, true), (Yi 16 1 15, true), (Yd 17 16, true), (Ya 18 2, true), (Yx 19 .sub 17 18, true), (Yu 20 106 13 19, false)]
noncomputable abbrev r56_2 : List RO := [⟨.l 21, .calls .fn, [(.con (.fn (.func 90) [] [])), .l 7, .l 11, .l 20], none⟩, Yb 3 21]
theorem P56 : C56.M = M := rfl
theorem pe56 {n m : Nat} : (E56 n m).M = M := rfl
theorem ie56 {n m : Nat} {hp : Hp} {a0 a1 a2 : D} : St.init (E56 n m) [a0, a1, a2] hp = ⟨[a0, a1, a2, .u0], [], hp⟩ := rfl
noncomputable def c56 : RC := (.seq (.reg r56_0) (.seq (.regD r56_1 r56_2) .ret))
noncomputable def q56 : List RR := [(.slot (.v 3))]
theorem k56 : FnOk M 56 3 Tryz.f56 E56 c56 q56 := fnOk Tryz.func56
noncomputable def E106 (n m : Nat) : Cfg := ⟨M, [0, 1, 4, 5, 6, 7, 8, 10, 26, 37], 48, n, m, []⟩
noncomputable def C106 : Cfg := E106 0 0
noncomputable abbrev r106_0 : List RO := [⟨.v 2, .mv, [(.con (.lit (.slice none 0 0)))], none⟩]
noncomputable abbrev r106_1 : List RO := [Ya 9 1, Yz 7 .lss 9 0]
noncomputable abbrev r106_2 : List RO := [⟨.l 11, .mkI 9, [(.con (.str [99, 97, 110, 110, 111, 116, 32, 98, 101, 32, 110, 101, 103, 97, 116, 105, 118, 101]))], none⟩, ⟨.none, .calls .pan, [.l 11], none⟩]
noncomputable abbrev r106_3 : List RO := [Ya 13 0, ⟨.l 14, .lenL, [.l 13], none⟩, ⟨.l 15, .cvI .u64, [.l 14], none⟩, Ya 16 1, ⟨.l 17, .cvI .u64, [.l 16], none⟩, Yu 18 132 15 17, Yc 12 18, Ym 19 0 12, Ym 20 1 12, Yb 3 19, Yb 4 20]
noncomputable abbrev r106_4 : List RO := [Ya 21 3, ⟨.l 22, .bin .gtr, [.l 21, (.con (.int .u64 0))], none⟩, Yc 23 22, Za 24 4 23 false, ⟨.l 25, .bin .gtr, [.l 24, (.con (.int .u64 9223372036854775807))], (some (.l 23, false))⟩, Yr 8 23 25]
noncomputable abbrev r106_5 : List RO := [⟨.l 27, .mkI 9, [(.con (.str [116, 104, 101, 32, 114, 101, 115, 117, 108, 116, 32, 111, 102, 32, 40, 108, 101, 110, 40, 120, 41, 32, 42, 32, 99, 111, 117, 110, 116, 41, 32, 111, 118, 101, 114, 102, 108, 111, 119, 115]))], none⟩, ⟨.none, .calls .pan, [.l 27], none⟩]
noncomputable abbrev r106_6 : List RO := [Ya 28 4, ⟨.l 29, .cvI .i64, [.l 28], none⟩, ⟨.l 30, (.mks 1 16 [(.str [])]), [.l 29, .l 29], none⟩, Yb 5 30]
noncomputable abbrev r106_7 : List RO := [Ya 31 5, Ya 32 0, ⟨.l 33, .cpy 1, [.l 31, .l 32], none⟩, Yb 6 33]
noncomputable abbrev r106_8 : List RO := [Ya 34 6, Ya 35 5, ⟨.l 36, .lenL, [.l 35], none⟩, Yy 9 .lss 34 36]
noncomputable abbrev r106_9 : List (RO × Bool) := [(Ya 38 6, true), (Ya 39 5, true), (Ya 40 6, true), (⟨.l 41, .slcL 1 true false, [.l 39, .l 40], none⟩, true), (Ya 42 5, true), (Ya 43 6, true), (⟨.l 44, .slcL 1 false true, [.l 42, .l 43], none⟩, true), (⟨.l 45, .cpy 1, [.l 41, .l 44], none⟩, false)]
noncomputable abbrev r106_10 : List RO := [Yx 46 .add 38 45, Yb 6 46]
noncomputable abbrev r106_11 : List RO := [Ya 47 5, Yb 2 47]
theorem P106 : C106.M = M := rfl
theorem i106 {a0 a1 : D} : St.init C106 [a0, a1] ⟨[], []⟩ = ⟨[a0, a1, .u0, .u0, .u0, .u0, .u0, .u0, .u0, .u0], [], ⟨[], []⟩⟩ := rfl
noncomputable def c106 : RC := (.seq (.reg r106_0) (.seq (.seq (.reg r106_1) (.cond (.v 7) (.reg r106_2) .skip)) (.seq (.reg r106_3) (.seq (.seq (.reg r106_4) (.cond (.v 8) (.reg r106_5) .skip)) (.seq (.reg r106_6) (.seq (.reg r106_7) (.seq (.block 0 (.loop (.seq (.seq (.reg r106_8) (.cond (.v 9) .skip (.exit 0))) (.block 1 (.regD r106_9 r106_10))))) (.seq (.reg r106_11) .ret))))))))
noncomputable def q106 : List RR := [(.slot (.v 2))]
theorem k106 : FnOk M 106 2 Tryz.f106 E106 c106 q106 := fnOk Tryz.func106
noncomputable def E21 (n m : Nat) : Cfg := ⟨M, [0, 2, 3, 4, 5, 6, 9, 19, 31, 44, 49, 52], 60, n, m, []⟩
noncomputable def C21 : Cfg := E21 0 0
noncomputable abbrev r21_0 : List RO := [Ys 1 0]
noncomputable abbrev r21_1 : List RO := [Ya 7 0, ⟨.l 8, .eqN false .ptr, [.l 7, (.con (.lit (.pointer none)))], none⟩, Yb 5 8]
noncomputable abbrev r21_2 : List RO := [Ys 1 1]
noncomputable abbrev r21_3 : List RO := [Ya 10 0, Yn 11 10, Yi 12 5 11, Yd 13 12, Yb 6 13]
noncomputable abbrev r21_4 : List RO := [Ys 1 5]
noncomputable abbrev r21_5 : List RO := [⟨.v 2, .mv, [(.con (.str []))], none⟩]
noncomputable abbrev r21_6 : List RO := [Ya 14 0, Yn 15 14, Yi 16 4 15, Yd 17 16, ⟨.l 18, .lenM, [.l 17], none⟩, Yz 7 .gtr 18 0]
noncomputable abbrev r21_7 : List RO := [Ya 20 0, Yn 21 20, Yi 22 4 21, Yd 23 22, ⟨.l 24, .calls .fn, [(.con (.fn (.func 50) [] [])), .l 23, (.con (.lit (.slice none 0 0)))], none⟩, Yb 2 24]
noncomputable abbrev r21_8 : List (RO × Bool) := [(Ya 25 2, true), (Yt 26 51 25, true), (Ya 27 0, true), (Yn 28 27, true), (Yi 29 1 28, true), (Yd 30 29, true)]
noncomputable abbrev r21_9 : List RO := [Yy 8 .gtr 26 30]
noncomputable abbrev r21_10 : List RO := [Ys 1 6]
noncomputable abbrev r21_11 : List RO := [Ya 32 0, Yn 33 32, Yi 34 2 33, Yi 35 0 34, Yd 36 35, Yb 3 36]
noncomputable abbrev r21_12 : List RO := [Ya 37 0, Ya 38 3, ⟨.l 39, .bin .sub, [.con (.int .i64 1), .l 38], none⟩, ⟨.l 40, (.bld [(.int .i64 0), (.int .i64 0)] [(0, 1)]), [.l 39], none⟩, Ya 41 2, ⟨.l 42, .calls .fn, [(.con (.fn (.func 52) [] [])), .l 37, .l 40, .l 41], none⟩, Yb 4 42]
noncomputable abbrev r21_13 : List RO := [Ya 43 4, Yz 9 .eql 43 0]
noncomputable abbrev r21_14 : List RO := [Ya 45 0, Ya 46 3, ⟨.l 47, .calls .fn, [(.con (.fn (.func 56) [] [])), .l 45, .l 46, .con (.int .i64 0)], none⟩, Yb 4 47]
noncomputable abbrev r21_15 : List RO := [Ya 48 4, Yz 10 .neq 48 0]
noncomputable abbrev r21_16 : List RO := [Ya 50 4, Yb 1 50]
noncomputable abbrev r21_17 : List RO := [Ya 51 3, Yz 11 .eql 51 1]
noncomputable abbrev r21_18 : List RO := [Ya 53 0, Ya 54 0, Yn 55 54, Yi 56 2 55, Yi 57 1 56, Yd 58 57, ⟨.l 59, .calls .fn, [(.con (.fn (.func 56) [] [])), .l 53, .con (.int .i64 0), .l 58], none⟩, Yb 1 59]
theorem pe21 {n m : Nat} : (E21 n m).M = M := rfl
theorem i21 {a0 : D} : St.init C21 [a0] ⟨[], []⟩ = ⟨[a0, .u0, .u0, .u0, .u0, .u0, .u0, .u0, .u0, .u0, .u0, .u0], [], ⟨[], []⟩⟩ := rfl
theorem ie21 {n m : Nat} {hp : Hp} {a0 : D} : St.init (E21 n m) [a0] hp = ⟨[a0, .u0, .u0, .u0, .u0, .u0, .u0, .u0, .u0, .u0, .u0, .u0], [], hp⟩ := rfl
noncomputable def c21 : RC := (.seq (.reg r21_0) (.seq (.block 0 (.seq (.reg r21_1) (.cond (.v 5) (.seq (.reg r21_2) .ret) (.seq (.reg r21_3) (.cond (.v 6) (.seq (.reg r21_4) .ret) .skip))))) (.seq (.reg r21_5) (.seq (.seq (.reg r21_6) (.cond (.v 7) (.reg r21_7) .skip)) (.seq (.seq (.regD r21_8 r21_9) (.cond (.v 8) (.seq (.reg r21_10) .ret) .skip)) (.block 1 (.loop (.block 2 (.seq (.reg r21_11) (.seq (.reg r21_12) (.seq (.seq (.reg r21_13) (.cond (.v 9) (.reg r21_14) .skip)) (.seq (.seq (.reg r21_15) (.cond (.v 10) (.seq (.reg r21_16) .ret) .skip)) (.seq (.reg r21_17) (.cond (.v 11) (.seq (.reg r21_18) .ret) .skip))))))))))))))
noncomputable def q21 : List RR := [(.slot (.v 1))]
theorem z21 {n m : Nat} : zAe (E21 n m) (Tryz.f21.body.getD .skip) = some c21 := by kernel_rfl
theorem k21 : FnOk M 21 1 Tryz.f21 E21 c21 q21 := fnOk Tryz.func21
noncomputable def E44 (n m : Nat) : Cfg := ⟨M, [0, 2, 3, 4, 5, 6, 7, 9, 14, 15, 16, 29, 38, 39, 40, 41], 55, n, m, []⟩
noncomputable abbrev r44_0 : List RO := [⟨.v 1, .mv, [.con (.bool false)], none⟩]
noncomputable abbrev r44_1 : List RO := [⟨.v 2, (.newT 138 [(.lit (.pointer none)), (.lit (.slice none 0 0))]), [], none⟩]
noncomputable abbrev r44_2 : List RO := [Ya 10 0, Yn 11 10, Yi 12 2 11, Yi 13 1 12, ⟨.v 8, .ld false 1, [.l 13], none⟩, Ys 9 0]
noncomputable abbrev r44_3 : List RO := [⟨.v 10, .bin .lss, [.v 9, .v 8], none⟩]
noncomputable abbrev r44_4 : List RO := [Ya 17 9, Yb 3 17]
noncomputable abbrev r44_5 : List RO := [Ya 18 0, Ya 19 0, Ya 20 0, Yn 21 20, Yi 22 2 21, Yi 23 0 22, Yd 24 23, Ya 25 3, ⟨.l 26, .calls .fn, [(.con (.fn (.func 85) [] [])), .l 19, .l 24, .l 25], none⟩, Yu 27 84 18 26, Yb 4 27]
noncomputable abbrev r44_6 : List RO := [Ya 28 4, ⟨.v 11, .bin .eql, [.l 28, (.con (.str []))], none⟩]
noncomputable abbrev r44_7 : List RO := [⟨.v 1, .mv, [.con (.bool false)], none⟩]
noncomputable abbrev r44_8 : List RO := [Ya 30 4, ⟨.l 31, .calls .fn, [(.con (.fn (.func 86) [] [])), .v 2, .l 30], none⟩]
noncomputable abbrev r44_9 : List RO := [Yw 32 .add 9 1, Yb 9 32]
noncomputable abbrev r44_10 : List RO := [⟨.l 34, .calls .fn, [(.con (.fn (.func 88) [] [])), .v 2], none⟩, Yt 35 87 34, Yc 33 35, Ym 36 0 33, Ym 37 1 33, Yb 5 36, Yb 6 37]
noncomputable abbrev r44_11 : List RO := [⟨.v 12, .mv, [.v 5], none⟩, ⟨.v 13, .lenL, [.v 12], none⟩, Ys 14 0]
noncomputable abbrev r44_12 : List RO := [⟨.v 15, .bin .lss, [.v 14, .v 13], none⟩]
noncomputable abbrev r44_13 : List RO := [⟨.l 42, .ixaS 1, [.v 12, .v 14], none⟩, Yd 43 42, Yb 7 43]
noncomputable abbrev r44_14 : List RO := [Ya 44 6, Yc 45 44, Za 46 0 45 true, Zn 47 46 45 true, Zi 48 4 47 45 true, Zd 49 48 45 true, Za 50 7 45 true, ⟨.l 51, .calls .fn, [(.con (.fn (.func 89) [] [])), .l 49, .l 50], (some (.l 45, true))⟩, Yo 52 45 51, Yb 6 52]
noncomputable abbrev r44_15 : List RO := [Yw 53 .add 14 1, Yb 14 53]
noncomputable abbrev r44_16 : List RO := [Ya 54 6, Yb 1 54]
theorem pe44 {n m : Nat} : (E44 n m).M = M := rfl
theorem ie44 {n m : Nat} {hp : Hp} {a0 : D} : St.init (E44 n m) [a0] hp = ⟨[a0, .u0, .u0, .u0, .u0, .u0, .u0, .u0, .u0, .u0, .u0, .u0, .u0, .u0, .u0, .u0], [], hp⟩ := rfl
noncomputable def c44 : RC := (.seq (.reg r44_0) (.seq (.reg r44_1) (.seq (.seq (.reg r44_2) (.block 0 (.loop (.seq (.reg r44_3) (.seq (.cond (.v 10) .skip (.exit 0)) (.seq (.block 1 (.seq (.reg r44_4) (.seq (.reg r44_5) (.seq (.seq (.reg r44_6) (.cond (.v 11) (.seq (.reg r44_7) .ret) .skip)) (.reg r44_8))))) (.reg r44_9))))))) (.seq (.reg r44_10) (.seq (.seq (.reg r44_11) (.block 2 (.loop (.seq (.reg r44_12) (.seq (.cond (.v 15) .skip (.exit 2)) (.seq (.block 3 (.seq (.reg r44_13) (.reg r44_14))) (.reg r44_15))))))) (.seq (.reg r44_16) .ret))))))
noncomputable def q44 : List RR := [(.slot (.v 1))]
theorem k44 : FnOk M 44 1 Tryz.f44 E44 c44 q44 := fnOk Tryz.func44
noncomputable def E12 (n m : Nat) : Cfg := ⟨M, [0, 2, 3, 4, 5, 6, 7, 8, 9, 12, 13, 15, 17, 29, 32, 46, 58, 75, 76, 77, 78, 79, 87], 91, n, m, []⟩
noncomputable abbrev r12_0 : List RO := [⟨.v 1, .mv, [(.con (.lit (.pointer none)))], none⟩, Ys 2 0]
noncomputable abbrev r12_1 : List RO := [Ya 14 0, ⟨.v 11, .eqN false .ptr, [.l 14, (.con (.lit (.pointer none)))], none⟩]
noncomputable abbrev r12_2 : List RO := [⟨.v 1, .mv, [(.con (.lit (.pointer none)))], none⟩, Ys 2 1]
noncomputable abbrev r12_3 : List RO := [Ys 3 0]
noncomputable abbrev r12_4 : List RO := [Ys 4 0]
noncomputable abbrev r12_5 : List RO := [Ya 16 4, Yz 12 .eql 16 0]
noncomputable abbrev r12_6 : List RO := [Ya 21 0, Ya 22 3, Yu 23 41 21 22, Yc 20 23, Ym 24 0 20, Ym 25 1 20, Yb 4 25]
noncomputable abbrev r12_7 : List RO := [Ya 18 3, Yv 19 .add 18 1, Yb 3 19]
noncomputable abbrev r12_8 : List RO := [Ya 26 3, Yv 27 .sub 26 1, Yb 3 27]
noncomputable abbrev r12_9 : List RO := [Ya 28 4, Yz 13 .eql 28 18]
noncomputable abbrev r12_10 : List RO := [Ya 30 4, ⟨.v 1, .mv, [(.con (.lit (.pointer none)))], none⟩, Yb 2 30]
noncomputable abbrev r12_11 : List RO := [Ya 31 3, Yz 14 .lss 31 4]
noncomputable abbrev r12_12 : List RO := [⟨.v 1, .mv, [(.con (.lit (.pointer none)))], none⟩, Ys 2 1]
noncomputable abbrev r12_13 : List RO := [Ya 33 0, Ya 34 3, Yv 35 .sub 34 2, Yv 36 .quo 35 2, ⟨.l 37, .newM, [], none⟩, ⟨.l 38, (.bld [(.lit (.pointer none)), (.int .i64 0), (.int .i64 0), (.int .i64 0), (.lit (.map none)), (.bool false)] [(0, 1), (1, 1), (4, 1)]), [.l 33, .l 36, .l 37], none⟩, ⟨.l 39, .box, [.l 38], none⟩, Yb 5 39]
noncomputable abbrev r12_14 : List RO := [Ya 41 5, ⟨.l 42, .calls .fn, [(.con (.fn (.func 42) [] [])), .l 41, .con (.int .i64 1)], none⟩, Yc 40 42, Ym 43 0 40, Ym 44 1 40, ⟨.v 6, (.newb [(.int .i64 0), (.int .i64 0)]), [], none⟩, Yj 2 6 43, Yb 7 44]
noncomputable abbrev r12_15 : List RO := [Ya 45 7, ⟨.v 15, .un .not, [.l 45], none⟩]
noncomputable abbrev r12_16 : List RO := [Ya 48 5, ⟨.l 49, .calls .fn, [(.con (.fn (.func 42) [] [])), .l 48, .con (.int .i64 0)], none⟩, Yc 47 49, Ym 50 0 47, Ym 51 1 47, Yj 2 6 50, Yb 7 51]
noncomputable abbrev r12_17 : List RO := [Ya 53 0, ⟨.l 54, .calls .fn, [(.con (.fn (.func 41) [] [])), .l 53, .con (.int .i64 0)], none⟩, Yc 52 54, Ym 55 0 52, Ym 56 1 52, Yb 8 55, Yc 10 56]
noncomputable abbrev r12_18 : List RO := [Ya 57 7, ⟨.v 16, .un .not, [.l 57], none⟩]
noncomputable abbrev r12_19 : List RO := [⟨.l 59, (.bld [(.int .i64 0), (.int .i64 0)] []), [], none⟩, Yj 2 6 59]
noncomputable abbrev r12_20 : List RO := [Ya 60 5, Yf 61 2 6, Yn 62 60, Yi 63 2 62, Yk 2 63 61]
noncomputable abbrev r12_21 : List RO := [Ya 64 7, ⟨.l 65, .un .not, [.l 64], none⟩, Yc 66 65, Za 67 8 66 true, ⟨.l 68, .calls .fn, [(.con (.fn (.func 43) [] []))], (some (.l 66, true))⟩, ⟨.l 69, .bin .neq, [.l 67, .l 68], (some (.l 66, true))⟩, Yo 70 66 69, Yc 71 70, Za 72 5 71 false, ⟨.l 73, .calls .fn, [(.con (.fn (.func 44) [] [])), .l 72], (some (.l 71, false))⟩, ⟨.l 74, .un .not, [.l 73], (some (.l 71, false))⟩, Yr 17 71 74]
noncomputable abbrev r12_22 : List RO := [⟨.v 1, .mv, [(.con (.lit (.pointer none)))], none⟩, Ys 2 19]
noncomputable abbrev r12_23 : List RO := [⟨.v 18, .bsl 1, [.con (.int .i64 1), .con (.int .i64 0)], none⟩, ⟨.v 19, .lenL, [.v 18], none⟩, Ys 20 0]
noncomputable abbrev r12_24 : List RO := [⟨.v 21, .bin .lss, [.v 20, .v 19], none⟩]
noncomputable abbrev r12_25 : List RO := [⟨.l 80, .ixaS 1, [.v 18, .v 20], none⟩, Yd 81 80, Yb 9 81]
noncomputable abbrev r12_26 : List RO := [Ya 82 5, Ya 83 9, Ya 84 7, ⟨.l 85, .calls .fn, [(.con (.fn (.func 45) [] [])), .l 82, .l 83, .l 84], none⟩, Yb 10 85]
noncomputable abbrev r12_27 : List RO := [Ya 86 10, Yz 22 .neq 86 0]
noncomputable abbrev r12_28 : List RO := [Ya 88 10, ⟨.v 1, .mv, [(.con (.lit (.pointer none)))], none⟩, Yb 2 88]
noncomputable abbrev r12_29 : List RO := [Yw 89 .add 20 1, Yb 20 89]
noncomputable abbrev r12_30 : List RO := [Ya 90 5, Yb 1 90, Ys 2 0]
theorem pe12 {n m : Nat} : (E12 n m).M = M := rfl
theorem ie12 {n m : Nat} {hp : Hp} {a0 : D} : St.init (E12 n m) [a0] hp = ⟨[a0, .u0, .u0, .u0, .u0, .u0, .u0, .u0, .u0, .u0, .u0, .u0, .u0, .u0, .u0, .u0, .u0, .u0, .u0, .u0, .u0, .u0, .u0], [], hp⟩ := rfl
noncomputable def c12 : RC := (.seq (.reg r12_0) (.seq (.seq (.reg r12_1) (.cond (.v 11) (.seq (.reg r12_2) .ret) .skip)) (.seq (.reg r12_3) (.seq (.reg r12_4) (.seq (.block 0 (.loop (.seq (.seq (.reg r12_5) (.cond (.v 12) .skip (.exit 0))) (.seq (.block 1 (.reg r12_6)) (.reg r12_7))))) (.seq (.seq (.reg r12_8) (.seq (.reg r12_9) (.cond (.v 13) (.seq (.reg r12_10) .ret) .skip))) (.seq (.seq (.reg r12_11) (.cond (.v 14) (.seq (.reg r12_12) .ret) .skip)) (.seq (.reg r12_13) (.seq (.reg r12_14) (.seq (.seq (.reg r12_15) (.cond (.v 15) (.reg r12_16) .skip)) (.seq (.reg r12_17) (.seq (.seq (.reg r12_18) (.cond (.v 16) (.reg r12_19) .skip)) (.seq (.seq (.reg r12_20) (.seq (.reg r12_21) (.cond (.v 17) (.seq (.reg r12_22) .ret) .skip))) (.seq (.seq (.reg r12_23) (.block 2 (.loop (.seq (.reg r12_24) (.seq (.cond (.v 21) .skip (.exit 2)) (.seq (.block 3 (.seq (.reg r12_25) (.seq (.reg r12_26) (.seq (.reg r12_27) (.cond (.v 22) (.seq (.reg r12_28) .ret) .skip))))) (.reg r12_29))))))) (.seq (.reg r12_30) .ret)))))))))))))))
noncomputable def q12 : List RR := [(.slot (.v 1)), (.slot (.v 2))]
theorem k12 : FnOk M 12 1 Tryz.f12 E12 c12 q12 := fnOk Tryz.func12
end Go.Proofs.YtkobjnpmjngklaaGreatDoor
end
section
set_option maxRecDepth 100000
namespace Go.Proofs.YtkobjnpmjngklaaGreatDoor
open Go GoV
noncomputable def E10 (n m : Nat) : Cfg := ⟨M, [0, 1, 2, 3, 4, 5, 7, 8, 9, 10, 11, 12, 13, 14, 15, 16, 17, 18, 19, 20, 21], 142, n, m, []⟩
noncomputable def C10 : Cfg := E10 0 0
noncomputable abbrev r10_0 : List RO := [⟨.v 0, .mv, [.con (.bool false)], none⟩]
noncomputable abbrev r10_1 : List RO := [⟨.l 22, .calls .fn, [(.con (.fn (.func 13) [] [])), .con (.int .i64 20)], none⟩, Yb 1 22]
noncomputable abbrev r10_2 : List RO := [Ya 24 1, Yt 25 12 24, Yc 23 25, Ym 26 0 23, Ym 27 1 23, Yb 2 26, Yb 3 27]
noncomputable abbrev r10_3 : List RO := [Ya 28 2, ⟨.l 29, .newM, [], none⟩, ⟨.none, .mpu .str, [.l 29, (.con (.str [97])), (.con (.str [49]))], none⟩, ⟨.none, .mpu .str, [.l 29, (.con (.str [98])), (.con (.str [50]))], none⟩, Yc 30 29, ⟨.l 31, .calls .fn, [(.con (.fn (.func 14) [] [])), .l 28, .l 30, (.con (.lit (.slice none 0 0)))], none⟩, Yb 4 31]
noncomputable abbrev r10_4 : List RO := [Ya 32 2, ⟨.l 33, .bsl 1, [(.con (.str [97]))], none⟩, ⟨.l 34, .calls .fn, [(.con (.fn (.func 14) [] [])), .l 32, (.con (.lit (.map none))), .l 33], none⟩, Yb 5 34]
noncomputable abbrev r10_5 : List RO := [Ya 36 2, ⟨.l 37, .calls .fn, [(.con (.fn (.func 24) [] [])), .l 36, (.con (.str [97]))], none⟩, Yc 35 37, Ym 38 0 35, Ym 39 1 35, Yc 6 38, Yb 6 39]
noncomputable abbrev r10_6 : List RO := [Ya 41 2, ⟨.l 42, .calls .fn, [(.con (.fn (.func 24) [] [])), .l 41, (.con (.str [98]))], none⟩, Yc 40 42, Ym 43 0 40, Ym 44 1 40, Yb 7 43, Yb 8 44]
noncomputable abbrev r10_7 : List RO := [Ya 45 2, ⟨.l 46, (.mks 1 1 [(.int .u8 0)]), [.con (.int .i64 20001), .con (.int .i64 20001)], none⟩, ⟨.l 47, .b2s, [.l 46], none⟩, ⟨.l 48, .calls .fn, [(.con (.fn (.func 23) [] [])), (.con (.str [99])), .l 47], none⟩, ⟨.l 49, .calls .fn, [(.con (.fn (.func 14) [] [])), .l 45, .l 48, (.con (.lit (.slice none 0 0)))], none⟩, Yb 9 49]
noncomputable abbrev r10_8 : List RO := [Ya 50 2, ⟨.l 51, (.mks 1 1 [(.int .u8 0)]), [.con (.int .i64 500), .con (.int .i64 500)], none⟩, ⟨.l 52, .b2s, [.l 51], none⟩, ⟨.l 53, .calls .fn, [(.con (.fn (.func 23) [] [])), (.con (.str [99])), .l 52], none⟩, ⟨.l 54, .calls .fn, [(.con (.fn (.func 14) [] [])), .l 50, .l 53, (.con (.lit (.slice none 0 0)))], none⟩, Yb 10 54]
noncomputable abbrev r10_9 : List RO := [Ya 55 2, Yt 56 21 55, Yb 11 56]
noncomputable abbrev r10_10 : List RO := [Ya 57 1, Yt 58 22 57, Yb 12 58]
noncomputable abbrev r10_11 : List RO := [Ya 60 1, Yt 61 12 60, Yc 59 61, Ym 62 0 59, Ym 63 1 59, Yb 13 62, Yb 14 63]
noncomputable abbrev r10_12 : List RO := [⟨.l 64, .calls .fn, [(.con (.fn (.func 13) [] [])), .con (.int .i64 20)], none⟩, Yb 15 64]
noncomputable abbrev r10_13 : List RO := [Ya 66 15, Yt 67 12 66, Yc 65 67, Ym 68 0 65, Ym 69 1 65, Yb 16 68, Yb 17 69]
noncomputable abbrev r10_14 : List RO := [Ya 70 16, ⟨.l 71, .calls .fn, [(.con (.fn (.func 23) [] [])), (.con (.str [98])), (.con (.str [50]))], none⟩, ⟨.l 72, .calls .fn, [(.con (.fn (.func 14) [] [])), .l 70, .l 71, (.con (.lit (.slice none 0 0)))], none⟩, Yb 18 72]
noncomputable abbrev r10_15 : List RO := [Ya 73 16, Yt 74 21 73, Yb 19 74]
noncomputable abbrev r10_16 : List RO := [Ya 75 3, Yv 76 .eql 75 0, Yc 77 76, Za 78 4 77 true, ⟨.l 79, .bin .eql, [.l 78, .con (.int .i64 0)], (some (.l 77, true))⟩, Yo 80 77 79, Yc 81 80, Za 82 5 81 true, ⟨.l 83, .bin .eql, [.l 82, .con (.int .i64 0)], (some (.l 81, true))⟩, Yo 84 81 83, Yc 85 84, Za 86 6 85 true, ⟨.l 87, .un .not, [.l 86], (some (.l 85, true))⟩, Yo 88 85 87, Yc 89 88, Za 90 8 89 true, Yo 91 89 90, Yc 92 91, Za 93 7 92 true, ⟨.l 94, .bin .eql, [.l 93, (.con (.str [50]))], (some (.l 92, true))⟩, Yo 95 92 94, Yc 96 95, Za 97 9 96 true, ⟨.l 98, .bin .eql, [.l 97, .con (.int .i64 7)], (some (.l 96, true))⟩, Yo 99 96 98, Yc 100 99, Za 101 10 100 true, ⟨.l 102, .bin .eql, [.l 101, .con (.int .i64 6)], (some (.l 100, true))⟩, Yo 103 100 102, Yc 104 103, Za 105 11 104 true, ⟨.l 106, .bin .eql, [.l 105, .con (.int .i64 0)], (some (.l 104, true))⟩, Yo 107 104 106, Yc 108 107, Za 109 14 108 true, ⟨.l 110, .bin .eql, [.l 109, .con (.int .i64 0)], (some (.l 108, true))⟩, Yo 111 108 110, Yc 112 111, Za 113 13 112 true, ⟨.l 114, .calls .fn, [(.con (.fn (.func 19) [] [])), .l 113], (some (.l 112, true))⟩, ⟨.l 115, .bsl 1, [(.con (.str [98]))], (some (.l 112, true))⟩, ⟨.l 116, .calls .fn, [(.con (.fn (.func 17) [] [])), .l 114, .l 115], (some (.l 112, true))⟩, Yo 117 112 116, Yb 20 117]
noncomputable abbrev r10_17 : List RO := [Ya 118 20, Yc 119 118, Za 120 17 119 true, ⟨.l 121, .bin .eql, [.l 120, .con (.int .i64 0)], (some (.l 119, true))⟩, Yo 122 119 121, Yc 123 122, Za 124 18 123 true, ⟨.l 125, .bin .eql, [.l 124, .con (.int .i64 0)], (some (.l 123, true))⟩, Yo 126 123 125, Yc 127 126, Za 128 19 127 true, ⟨.l 129, .bin .eql, [.l 128, .con (.int .i64 0)], (some (.l 127, true))⟩, Yo 130 127 129, Yc 131 130, Za 132 12 131 true, Za 133 15 131 true, ⟨.l 134, .calls .fn, [(.con (.fn (.func 22) [] [])), .l 133], (some (.l 131, true))⟩, ⟨.l 135, .bin .eql, [.l 132, .l 134], (some (.l 131, true))⟩, Yo 136 131 135, Yc 137 136, Za 138 12 137 true, ⟨.l 139, .lenS, [.l 138], (some (.l 137, true))⟩, ⟨.l 140, .bin .eql, [.l 139, .con (.int .i64 1280)], (some (.l 137, true))⟩, Yo 141 137 140, Yb 0 141]
theorem P10 : C10.M = M := rfl
theorem pe10 {n m : Nat} : (E10 n m).M = M := rfl
theorem i10 : St.init C10 [] ⟨[], []⟩ = ⟨[.u0, .u0, .u0, .u0, .u0, .u0, .u0, .u0, .u0, .u0, .u0, .u0, .u0, .u0, .u0, .u0, .u0, .u0, .u0, .u0, .u0], [], ⟨[], []⟩⟩ := rfl
noncomputable def c10 : RC := (.seq (.reg r10_0) (.seq (.reg r10_1) (.seq (.reg r10_2) (.seq (.reg r10_3) (.seq (.reg r10_4) (.seq (.reg r10_5) (.seq (.reg r10_6) (.seq (.reg r10_7) (.seq (.reg r10_8) (.seq (.reg r10_9) (.seq (.reg r10_10) (.seq (.reg r10_11) (.seq (.reg r10_12) (.seq (.reg r10_13) (.seq (.reg r10_14) (.seq (.reg r10_15) (.seq (.reg r10_16) (.seq (.reg r10_17) .ret))))))))))))))))))
noncomputable def q10 : List RR := [(.slot (.v 0))]
theorem k10 : FnOk M 10 0 Tryz.f10 E10 c10 q10 := fnOk Tryz.func10
noncomputable def E11 (n m : Nat) : Cfg := ⟨M, [0, 2, 3, 4, 5, 9, 27, 35, 59, 67, 79], 83, n, m, []⟩
noncomputable def C11 : Cfg := E11 0 0
noncomputable abbrev r11_0 : List RO := [⟨.v 1, .mv, [.con (.bool false)], none⟩]
noncomputable abbrev r11_1 : List RO := [Ys 2 0]
noncomputable abbrev r11_2 : List RO := [Ya 6 2, Ya 7 0, ⟨.l 8, .lenL, [.l 7], none⟩, Yy 5 .lss 6 8]
noncomputable abbrev r11_3 : List RO := [Ya 12 0, Ya 13 2, ⟨.l 14, .ixaS 6, [.l 12, .l 13], none⟩, Yi 15 1 14, Yd 16 15, ⟨.l 17, .lenL, [.l 16], none⟩, Yv 18 .gtr 17 6, Yc 19 18, Za 20 0 19 false, Za 21 2 19 false, ⟨.l 22, .ixaS 6, [.l 20, .l 21], (some (.l 19, false))⟩, Zi 23 2 22 19 false, Zd 24 23 19 false, ⟨.l 25, .lenL, [.l 24], (some (.l 19, false))⟩, ⟨.l 26, .bin .gtr, [.l 25, .con (.int .i64 6)], (some (.l 19, false))⟩, Yr 6 19 26]
noncomputable abbrev r11_4 : List RO := [⟨.v 1, .mv, [.con (.bool false)], none⟩]
noncomputable abbrev r11_5 : List RO := [Ys 3 0]
noncomputable abbrev r11_6 : List RO := [Ya 28 3, Ya 29 0, Ya 30 2, ⟨.l 31, .ixaS 6, [.l 29, .l 30], none⟩, Yi 32 1 31, Yd 33 32, ⟨.l 34, .lenL, [.l 33], none⟩, Yy 7 .lss 28 34]
noncomputable abbrev r11_7 : List (RO × Bool) := [(Ya 38 0, true), (Ya 39 2, true), (⟨.l 40, .ixaS 6, [.l 38, .l 39], none⟩, true), (Yi 41 1 40, true), (Yd 42 41, true), (Ya 43 3, true), (⟨.l 44, .ixaS 2, [.l 42, .l 43], none⟩, true), (⟨.l 45, .ixaA 2 1, [.l 44, .con (.int .i64 0)], none⟩, true), (Yd 46 45, true), (⟨.l 47, .lenS, [.l 46], none⟩, true), (Ya 48 0, true), (Ya 49 2, true), (⟨.l 50, .ixaS 6, [.l 48, .l 49], none⟩, true), (Yi 51 1 50, true), (Yd 52 51, true), (Ya 53 3, true), (⟨.l 54, .ixaS 2, [.l 52, .l 53], none⟩, true), (⟨.l 55, .ixaA 2 1, [.l 54, .con (.int .i64 1)], none⟩, true), (Yd 56 55, true), (⟨.l 57, .lenS, [.l 56], none⟩, true)]
noncomputable abbrev r11_8 : List RO := [Yx 58 .add 47 57, Yz 8 .gtr 58 600]
noncomputable abbrev r11_9 : List RO := [⟨.v 1, .mv, [.con (.bool false)], none⟩]
noncomputable abbrev r11_10 : List RO := [Ya 36 3, Yv 37 .add 36 1, Yb 3 37]
noncomputable abbrev r11_11 : List RO := [Ys 4 0]
noncomputable abbrev r11_12 : List RO := [Ya 60 4, Ya 61 0, Ya 62 2, ⟨.l 63, .ixaS 6, [.l 61, .l 62], none⟩, Yi 64 2 63, Yd 65 64, ⟨.l 66, .lenL, [.l 65], none⟩, Yy 9 .lss 60 66]
noncomputable abbrev r11_13 : List RO := [Ya 70 0, Ya 71 2, ⟨.l 72, .ixaS 6, [.l 70, .l 71], none⟩, Yi 73 2 72, Yd 74 73, Ya 75 4, ⟨.l 76, .ixaS 1, [.l 74, .l 75], none⟩, Yd 77 76, ⟨.l 78, .lenS, [.l 77], none⟩, Yz 10 .gtr 78 600]
noncomputable abbrev r11_14 : List RO := [⟨.v 1, .mv, [.con (.bool false)], none⟩]
noncomputable abbrev r11_15 : List RO := [Ya 68 4, Yv 69 .add 68 1, Yb 4 69]
noncomputable abbrev r11_16 : List RO := [Ya 10 2, Yv 11 .add 10 1, Yb 2 11]
noncomputable abbrev r11_17 : List RO := [Ya 80 0, ⟨.l 81, .lenL, [.l 80], none⟩, Yv 82 .leq 81 12, Yb 1 82]
theorem P11 : C11.M = M := rfl
theorem i11 {a0 : D} : St.init C11 [a0] ⟨[], []⟩ = ⟨[a0, .u0, .u0, .u0, .u0, .u0, .u0, .u0, .u0, .u0, .u0], [], ⟨[], []⟩⟩ := rfl
noncomputable def c11 : RC := (.seq (.reg r11_0) (.seq (.seq (.reg r11_1) (.block 0 (.loop (.seq (.seq (.reg r11_2) (.cond (.v 5) .skip (.exit 0))) (.seq (.block 1 (.seq (.seq (.reg r11_3) (.cond (.v 6) (.seq (.reg r11_4) .ret) .skip)) (.seq (.seq (.reg r11_5) (.block 2 (.loop (.seq (.seq (.reg r11_6) (.cond (.v 7) .skip (.exit 2))) (.seq (.block 3 (.seq (.regD r11_7 r11_8) (.cond (.v 8) (.seq (.reg r11_9) .ret) .skip))) (.reg r11_10)))))) (.seq (.reg r11_11) (.block 4 (.loop (.seq (.seq (.reg r11_12) (.cond (.v 9) .skip (.exit 4))) (.seq (.block 5 (.seq (.reg r11_13) (.cond (.v 10) (.seq (.reg r11_14) .ret) .skip))) (.reg r11_15))))))))) (.reg r11_16)))))) (.seq (.reg r11_17) .ret)))
noncomputable def q11 : List RR := [(.slot (.v 1))]
theorem k11 : FnOk M 11 1 Tryz.f11 E11 c11 q11 := fnOk Tryz.func11
noncomputable def E15 (n m : Nat) : Cfg := ⟨M, [0, 2, 3, 4, 9], 24, n, m, []⟩
noncomputable abbrev r15_0 : List RO := [⟨.v 1, .mv, [(.con (.lit (.map none)))], none⟩]
noncomputable abbrev r15_1 : List RO := [⟨.l 5, .newM, [], none⟩, Yb 2 5]
noncomputable abbrev r15_2 : List RO := [Ys 3 0]
noncomputable abbrev r15_3 : List RO := [Ya 6 3, Ya 7 0, ⟨.l 8, .lenL, [.l 7], none⟩, Yy 4 .lss 6 8]
noncomputable abbrev r15_4 : List (RO × Bool) := [(Ya 12 2, true), (Ya 13 0, true), (Ya 14 3, true), (⟨.l 15, .ixaS 2, [.l 13, .l 14], none⟩, true), (⟨.l 16, .ixaA 2 1, [.l 15, .con (.int .i64 0)], none⟩, true), (Yd 17 16, true), (Ya 18 0, true), (Ya 19 3, true), (⟨.l 20, .ixaS 2, [.l 18, .l 19], none⟩, true), (⟨.l 21, .ixaA 2 1, [.l 20, .con (.int .i64 1)], none⟩, true), (Yd 22 21, true)]
noncomputable abbrev r15_5 : List RO := [⟨.none, .mpu .str, [.l 12, .l 17, .l 22], none⟩]
noncomputable abbrev r15_6 : List RO := [Ya 10 3, Yv 11 .add 10 1, Yb 3 11]
noncomputable abbrev r15_7 : List RO := [Ya 23 2, Yb 1 23]
theorem pe15 {n m : Nat} : (E15 n m).M = M := rfl
theorem ie15 {n m : Nat} {hp : Hp} {a0 : D} : St.init (E15 n m) [a0] hp = ⟨[a0, .u0, .u0, .u0, .u0], [], hp⟩ := rfl
noncomputable def c15 : RC := (.seq (.reg r15_0) (.seq (.reg r15_1) (.seq (.seq (.reg r15_2) (.block 0 (.loop (.seq (.seq (.reg r15_3) (.cond (.v 4) .skip (.exit 0))) (.seq (.block 1 (.regD r15_4 r15_5)) (.reg r15_6)))))) (.seq (.reg r15_7) .ret))))
noncomputable def q15 : List RR := [(.slot (.v 1))]
theorem k15 : FnOk M 15 1 Tryz.f15 E15 c15 q15 := fnOk Tryz.func15
noncomputable def E18 (n m : Nat) : Cfg := ⟨M, [0, 2, 3, 4, 5, 6, 7, 13, 26], 37, n, m, []⟩
noncomputable abbrev r18_0 : List RO := [⟨.v 1, .mv, [(.con (.lit (.slice none 0 0)))], none⟩]
noncomputable abbrev r18_1 : List RO := [Ya 8 0, Yt 9 19 8, Yb 2 9]
noncomputable abbrev r18_2 : List RO := [⟨.v 3, .mv, [(.con (.lit (.slice none 0 0)))], none⟩]
noncomputable abbrev r18_3 : List RO := [Ys 4 0]
noncomputable abbrev r18_4 : List RO := [Ya 10 4, Ya 11 2, ⟨.l 12, .lenL, [.l 11], none⟩, Yy 7 .lss 10 12]
noncomputable abbrev r18_5 : List RO := [Ya 17 0, Ya 18 2, Ya 19 4, ⟨.l 20, .ixaS 1, [.l 18, .l 19], none⟩, Yd 21 20, Yu 22 24 17 21, Yc 16 22, Ym 23 0 16, Ym 24 1 16, Yb 5 23, Yb 6 24]
noncomputable abbrev r18_6 : List RO := [Ya 25 6, ⟨.v 8, .un .not, [.l 25], none⟩]
noncomputable abbrev r18_7 : List RO := [⟨.l 27, .bsl 1, [(.con (.str [97, 32, 107, 101, 121, 32, 119, 105, 116, 104, 111, 117, 116, 32, 97, 32, 118, 97, 108, 117, 101]))], none⟩, Yb 1 27]
noncomputable abbrev r18_8 : List RO := [Ya 28 3, Ya 29 2, Ya 30 4, ⟨.l 31, .ixaS 1, [.l 29, .l 30], none⟩, Yd 32 31, Ya 33 5, ⟨.l 34, .bsl 1, [.l 32, .l 33], none⟩, ⟨.l 35, .app 1 16 9, [.l 28, .l 34], none⟩, Yb 3 35]
noncomputable abbrev r18_9 : List RO := [Ya 14 4, Yv 15 .add 14 1, Yb 4 15]
noncomputable abbrev r18_10 : List RO := [Ya 36 3, Yb 1 36]
theorem pe18 {n m : Nat} : (E18 n m).M = M := rfl
theorem ie18 {n m : Nat} {hp : Hp} {a0 : D} : St.init (E18 n m) [a0] hp = ⟨[a0, .u0, .u0, .u0, .u0, .u0, .u0, .u0, .u0], [], hp⟩ := rfl
noncomputable def c18 : RC := (.seq (.reg r18_0) (.seq (.reg r18_1) (.seq (.reg r18_2) (.seq (.seq (.reg r18_3) (.block 0 (.loop (.seq (.seq (.reg r18_4) (.cond (.v 7) .skip (.exit 0))) (.seq (.block 1 (.seq (.reg r18_5) (.seq (.seq (.reg r18_6) (.cond (.v 8) (.seq (.reg r18_7) .ret) .skip)) (.reg r18_8)))) (.reg r18_9)))))) (.seq (.reg r18_10) .ret)))))
noncomputable def q18 : List RR := [(.slot (.v 1))]
theorem k18 : FnOk M 18 1 Tryz.f18 E18 c18 q18 := fnOk Tryz.func18
noncomputable def E20 (n m : Nat) : Cfg := ⟨M, [0, 1, 4, 5, 6, 7, 8, 9, 10, 11, 20, 24, 32, 51], 60, n, m, []⟩
noncomputable def C20 : Cfg := E20 0 0
noncomputable abbrev r20_0 : List RO := [⟨.v 2, .mv, [(.con (.str []))], none⟩, ⟨.v 3, .mv, [(.con (.lit (.slice none 0 0)))], none⟩, ⟨.v 4, .mv, [.con (.bool false)], none⟩]
noncomputable abbrev r20_1 : List RO := [Ya 12 0, Yt 13 13 12, Yb 5 13]
noncomputable abbrev r20_2 : List RO := [Ya 15 5, Yt 16 12 15, Yc 14 16, Ym 17 0 14, Ym 18 1 14, Yb 6 17, Yb 7 18]
noncomputable abbrev r20_3 : List RO := [Ya 19 7, Yz 10 .neq 19 0]
noncomputable abbrev r20_4 : List RO := [⟨.v 2, .mv, [(.con (.str []))], none⟩, ⟨.v 3, .mv, [(.con (.lit (.slice none 0 0)))], none⟩, ⟨.v 4, .mv, [.con (.bool false)], none⟩]
noncomputable abbrev r20_5 : List RO := [Ys 8 0]
noncomputable abbrev r20_6 : List RO := [Ya 21 8, Ya 22 1, ⟨.l 23, .lenL, [.l 22], none⟩, Yy 11 .lss 21 23]
noncomputable abbrev r20_7 : List RO := [Ya 27 1, Ya 28 8, ⟨.l 29, .ixaS 6, [.l 27, .l 28], none⟩, Yi 30 0 29, Yd 31 30, Yz 12 .eql 31 1]
noncomputable abbrev r20_8 : List RO := [Ya 33 6, Yt 34 21 33]
noncomputable abbrev r20_9 : List (RO × Bool) := [(Ya 35 6, true), (Ya 36 1, true), (Ya 37 8, true), (⟨.l 38, .ixaS 6, [.l 36, .l 37], none⟩, true), (Yi 39 1 38, true), (Yd 40 39, true), (Yt 41 15 40, true), (Ya 42 1, true), (Ya 43 8, true), (⟨.l 44, .ixaS 6, [.l 42, .l 43], none⟩, true), (Yi 45 2 44, true), (Yd 46 45, true)]
noncomputable abbrev r20_10 : List RO := [⟨.l 47, .calls .fn, [(.con (.fn (.func 14) [] [])), .l 35, .l 41, .l 46], none⟩]
noncomputable abbrev r20_11 : List RO := [Ya 25 8, Yv 26 .add 25 1, Yb 8 26]
noncomputable abbrev r20_12 : List RO := [Ya 48 6, Yt 49 21 48, Yb 9 49]
noncomputable abbrev r20_13 : List RO := [Ya 50 9, Yz 13 .neq 50 0]
noncomputable abbrev r20_14 : List RO := [Ya 52 6, Yt 53 18 52, Ya 54 9, Yv 55 .eql 54 6, ⟨.v 2, .mv, [(.con (.str []))], none⟩, Yb 3 53, Yb 4 55]
noncomputable abbrev r20_15 : List RO := [Ya 56 5, Yt 57 22 56, Ya 58 6, Yt 59 18 58, Yb 2 57, Yb 3 59, ⟨.v 4, .mv, [.con (.bool true)], none⟩]
theorem P20 : C20.M = M := rfl
theorem i20 {a0 a1 : D} : St.init C20 [a0, a1] ⟨[], []⟩ = ⟨[a0, a1, .u0, .u0, .u0, .u0, .u0, .u0, .u0, .u0, .u0, .u0, .u0, .u0], [], ⟨[], []⟩⟩ := rfl
noncomputable def c20 : RC := (.seq (.reg r20_0) (.seq (.reg r20_1) (.seq (.reg r20_2) (.seq (.seq (.reg r20_3) (.cond (.v 10) (.seq (.reg r20_4) .ret) .skip)) (.seq (.seq (.reg r20_5) (.block 0 (.loop (.seq (.seq (.reg r20_6) (.cond (.v 11) .skip (.exit 0))) (.seq (.block 1 (.seq (.reg r20_7) (.cond (.v 12) (.reg r20_8) (.regD r20_9 r20_10)))) (.reg r20_11)))))) (.seq (.reg r20_12) (.seq (.seq (.reg r20_13) (.cond (.v 13) (.seq (.reg r20_14) .ret) .skip)) (.seq (.reg r20_15) .ret))))))))
noncomputable def q20 : List RR := [(.slot (.v 2)), (.slot (.v 3)), (.slot (.v 4))]
theorem z20 {n m : Nat} : zAe (E20 n m) (Tryz.f20.body.getD .skip) = some c20 := by kernel_rfl
theorem k20 : FnOk M 20 2 Tryz.f20 E20 c20 q20 := fnOk Tryz.func20
noncomputable def E23 (n m : Nat) : Cfg := ⟨M, [0, 1, 4], 9, n, m, []⟩
noncomputable abbrev r23_0 : List RO := [⟨.v 2, .mv, [(.con (.lit (.map none)))], none⟩]
noncomputable abbrev r23_1 : List RO := [⟨.l 5, .newM, [], none⟩, Ya 6 0, Ya 7 1, ⟨.none, .mpu .str, [.l 5, .l 6, .l 7], none⟩, Yc 8 5, Yb 2 8]
theorem pe23 {n m : Nat} : (E23 n m).M = M := rfl
theorem ie23 {n m : Nat} {hp : Hp} {a0 a1 : D} : St.init (E23 n m) [a0, a1] hp = ⟨[a0, a1, .u0], [], hp⟩ := rfl
noncomputable def c23 : RC := (.seq (.reg r23_0) (.seq (.reg r23_1) .ret))
noncomputable def q23 : List RR := [(.slot (.v 2))]
theorem z23 {n m : Nat} : zAe (E23 n m) (Tryz.f23.body.getD .skip) = some c23 := by kernel_rfl
theorem k23 : FnOk M 23 2 Tryz.f23 E23 c23 q23 := fnOk Tryz.func23
noncomputable def E4 (n m : Nat) : Cfg := ⟨M, [0, 1, 2, 6, 7, 8, 9, 10, 11, 12, 13, 14, 15, 16, 17, 18, 19, 20, 21, 30, 55, 68, 105], 126, n, m, []⟩
noncomputable def C4 : Cfg := E4 0 0
noncomputable abbrev r4_0 : List RO := [⟨.v 3, .mv, [.con (.bool false)], none⟩]
noncomputable abbrev r4_1 : List RO := [⟨.l 22, .calls .fn, [(.con (.fn (.func 10) [] []))], none⟩, Yb 4 22]
noncomputable abbrev r4_2 : List RO := [Ya 23 1, Yt 24 11 23, ⟨.l 25, .un .not, [.l 24], none⟩, Yc 26 25, Za 27 2 26 false, ⟨.l 28, .calls .fn, [(.con (.fn (.func 11) [] [])), .l 27], (some (.l 26, false))⟩, ⟨.l 29, .un .not, [.l 28], (some (.l 26, false))⟩, Yr 19 26 29]
noncomputable abbrev r4_3 : List RO := [Ya 31 4, Yb 3 31]
noncomputable abbrev r4_4 : List RO := [Ya 32 0, ⟨.l 33, .cvI .i64, [.l 32], none⟩, Yv 34 .rem 33 100, ⟨.l 35, .bin .add, [.con (.int .i64 4), .l 34], none⟩, Yb 5 35]
noncomputable abbrev r4_5 : List RO := [Ya 37 5, Ya 38 1, Yu 39 20 37 38, Yc 36 39, Ym 40 0 36, Ym 41 1 36, Ym 42 2 36, Yb 6 40, Yb 7 41, Yb 8 42]
noncomputable abbrev r4_6 : List RO := [Ya 44 5, Ya 45 2, Yu 46 20 44 45, Yc 43 46, Ym 47 0 43, Ym 48 1 43, Ym 49 2 43, Yb 9 47, Yb 10 48, Yb 11 49]
noncomputable abbrev r4_7 : List RO := [Ya 50 8, ⟨.l 51, .un .not, [.l 50], none⟩, Yc 52 51, Za 53 11 52 false, ⟨.l 54, .un .not, [.l 53], (some (.l 52, false))⟩, Yr 20 52 54]
noncomputable abbrev r4_8 : List RO := [⟨.v 3, .mv, [.con (.bool false)], none⟩]
noncomputable abbrev r4_9 : List RO := [Ya 56 5, Yt 57 13 56, Yb 12 57]
noncomputable abbrev r4_10 : List RO := [Ya 59 12, Yt 60 12 59, Yc 58 60, Ym 61 0 58, Ym 62 1 58, Yb 13 61, Yb 14 62]
noncomputable abbrev r4_11 : List RO := [⟨.l 63, .newM, [], none⟩, Yb 15 63]
noncomputable abbrev r4_12 : List RO := [Ys 16 0]
noncomputable abbrev r4_13 : List RO := [Ya 64 16, Yv 65 .add 64 1, Ya 66 7, ⟨.l 67, .lenL, [.l 66], none⟩, Yy 21 .lss 65 67]
noncomputable abbrev r4_14 : List (RO × Bool) := [(Ya 71 15, true), (Ya 72 7, true), (Ya 73 16, true), (⟨.l 74, .ixaS 1, [.l 72, .l 73], none⟩, true), (Yd 75 74, true), (Ya 76 7, true), (Ya 77 16, true), (Yv 78 .add 77 1, true), (⟨.l 79, .ixaS 1, [.l 76, .l 78], none⟩, true), (Yd 80 79, true)]
noncomputable abbrev r4_15 : List RO := [⟨.none, .mpu .str, [.l 71, .l 75, .l 80], none⟩]
noncomputable abbrev r4_16 : List RO := [Ya 69 16, Yv 70 .add 69 2, Yb 16 70]
noncomputable abbrev r4_17 : List RO := [Ya 81 13, Ya 82 15, ⟨.l 83, .calls .fn, [(.con (.fn (.func 14) [] [])), .l 81, .l 82, (.con (.lit (.slice none 0 0)))], none⟩, Yb 17 83]
noncomputable abbrev r4_18 : List RO := [Ya 84 13, Yt 85 21 84, Yb 18 85]
noncomputable abbrev r4_19 : List RO := [Ya 86 6, ⟨.l 87, .bin .neq, [.l 86, (.con (.str []))], none⟩, Yc 88 87, Za 89 14 88 true, ⟨.l 90, .bin .eql, [.l 89, .con (.int .i64 0)], (some (.l 88, true))⟩, Yo 91 88 90, Yc 92 91, Za 93 17 92 true, ⟨.l 94, .bin .eql, [.l 93, .con (.int .i64 0)], (some (.l 92, true))⟩, Yo 95 92 94, Yc 96 95, Za 97 18 96 true, ⟨.l 98, .bin .eql, [.l 97, .con (.int .i64 0)], (some (.l 96, true))⟩, Yo 99 96 98, Yc 100 99, Za 101 12 100 true, ⟨.l 102, .calls .fn, [(.con (.fn (.func 22) [] [])), .l 101], (some (.l 100, true))⟩, Za 103 6 100 true, ⟨.l 104, .bin .neq, [.l 102, .l 103], (some (.l 100, true))⟩, Yp 22 100 104]
noncomputable abbrev r4_20 : List RO := [⟨.v 3, .mv, [.con (.bool false)], none⟩]
noncomputable abbrev r4_21 : List RO := [Ya 106 4, Yc 107 106, Za 108 6 107 true, ⟨.l 109, .bin .eql, [.l 108, (.con (.str []))], (some (.l 107, true))⟩, Zc 110 109 107 true, Za 111 9 110 false, ⟨.l 112, .bin .eql, [.l 111, (.con (.str []))], (some (.l 110, false))⟩, ⟨.l 113, .pick, [.l 110, .con (.bool true), .l 112], (some (.l 107, true))⟩, Zc 114 113 107 true, Za 115 7 114 false, Za 116 10 114 false, ⟨.l 117, .calls .fn, [(.con (.fn (.func 17) [] [])), .l 115, .l 116], (some (.l 114, false))⟩, ⟨.l 118, .un .not, [.l 117], (some (.l 114, false))⟩, ⟨.l 119, .pick, [.l 114, .con (.bool true), .l 118], (some (.l 107, true))⟩, Zc 120 119 107 true, Za 121 6 120 false, Za 122 9 120 false, ⟨.l 123, .bin .eql, [.l 121, .l 122], (some (.l 120, false))⟩, ⟨.l 124, .pick, [.l 120, .con (.bool true), .l 123], (some (.l 107, true))⟩, Yo 125 107 124, Yb 3 125]
theorem P4 : C4.M = M := rfl
theorem i4 {a0 a1 a2 : D} : St.init C4 [a0, a1, a2] ⟨[], []⟩ = ⟨[a0, a1, a2, .u0, .u0, .u0, .u0, .u0, .u0, .u0, .u0, .u0, .u0, .u0, .u0, .u0, .u0, .u0, .u0, .u0, .u0, .u0, .u0], [], ⟨[], []⟩⟩ := rfl
noncomputable def c4 : RC := (.seq (.reg r4_0) (.seq (.reg r4_1) (.seq (.seq (.reg r4_2) (.cond (.v 19) (.seq (.reg r4_3) .ret) .skip)) (.seq (.reg r4_4) (.seq (.reg r4_5) (.seq (.reg r4_6) (.seq (.seq (.reg r4_7) (.cond (.v 20) (.seq (.reg r4_8) .ret) .skip)) (.seq (.reg r4_9) (.seq (.reg r4_10) (.seq (.reg r4_11) (.seq (.seq (.reg r4_12) (.block 0 (.loop (.seq (.seq (.reg r4_13) (.cond (.v 21) .skip (.exit 0))) (.seq (.block 1 (.regD r4_14 r4_15)) (.reg r4_16)))))) (.seq (.reg r4_17) (.seq (.reg r4_18) (.seq (.seq (.reg r4_19) (.cond (.v 22) (.seq (.reg r4_20) .ret) .skip)) (.seq (.reg r4_21) .ret)))))))))))))))
noncomputable def q4 : List RR := [(.slot (.v 3))]
theorem z4 {n m : Nat} : zAe (E4 n m) (Tryz.f4.body.getD .skip) = some c4 := by kernel_rfl
theorem k4 : FnOk M 4 3 Tryz.f4 E4 c4 q4 := fnOk Tryz.func4
end Go.Proofs.YtkobjnpmjngklaaGreatDoor
end
section
set_option maxRecDepth 100000
namespace Go.Proofs.YtkobjnpmjngklaaGreatDoor
open Go GoV
noncomputable def E92 (n m : Nat) : Cfg := ⟨M, [0, 1, 4], 9, n, m, []⟩
noncomputable def C92 : Cfg := E92 0 0
noncomputable abbrev r92_0 : List RO := [⟨.v 2, .mv, [.con (.bool false)], none⟩]
noncomputable abbrev r92_1 : List RO := [Ya 5 0, Ya 6 1, Yu 7 123 5 6, Yv 8 .geq 7 0, Yb 2 8]
theorem P92 : C92.M = M := rfl
theorem i92 {a0 a1 : D} : St.init C92 [a0, a1] ⟨[], []⟩ = ⟨[a0, a1, .u0], [], ⟨[], []⟩⟩ := rfl
noncomputable def c92 : RC := (.seq (.reg r92_0) (.seq (.reg r92_1) .ret))
noncomputable def q92 : List RR := [(.slot (.v 2))]
theorem k92 : FnOk M 92 2 Tryz.f92 E92 c92 q92 := fnOk Tryz.func92
noncomputable def E123 (n m : Nat) : Cfg := ⟨M, [0, 1, 4, 5, 7, 8, 9, 16], 19, n, m, []⟩
noncomputable def C123 : Cfg := E123 0 0
noncomputable abbrev r123_0 : List RO := [Ys 2 0]
noncomputable abbrev r123_1 : List RO := [Ya 6 0, ⟨.v 4, .lenL, [.l 6], none⟩, Ys 5 0]
noncomputable abbrev r123_2 : List RO := [⟨.v 6, .bin .lss, [.v 5, .v 4], none⟩]
noncomputable abbrev r123_3 : List RO := [Ya 10 5, Yb 3 10]
noncomputable abbrev r123_4 : List RO := [Ya 11 1, Ya 12 0, Ya 13 3, ⟨.l 14, .ixaS 1, [.l 12, .l 13], none⟩, Yd 15 14, Yy 7 .eql 11 15]
noncomputable abbrev r123_5 : List RO := [Ya 17 3, Yb 2 17]
noncomputable abbrev r123_6 : List RO := [Yw 18 .add 5 1, Yb 5 18]
noncomputable abbrev r123_7 : List RO := [⟨.v 2, .mv, [(.con (.int .i64 (-1)))], none⟩]
theorem P123 : C123.M = M := rfl
theorem i123 {a0 a1 : D} : St.init C123 [a0, a1] ⟨[], []⟩ = ⟨[a0, a1, .u0, .u0, .u0, .u0, .u0, .u0], [], ⟨[], []⟩⟩ := rfl
noncomputable def c123 : RC := (.seq (.reg r123_0) (.seq (.seq (.reg r123_1) (.block 0 (.loop (.seq (.reg r123_2) (.seq (.cond (.v 6) .skip (.exit 0)) (.seq (.block 1 (.seq (.reg r123_3) (.seq (.reg r123_4) (.cond (.v 7) (.seq (.reg r123_5) .ret) .skip)))) (.reg r123_6))))))) (.seq (.reg r123_7) .ret)))
noncomputable def q123 : List RR := [(.slot (.v 2))]
theorem k123 : FnOk M 123 2 Tryz.f123 E123 c123 q123 := fnOk Tryz.func123
noncomputable def E120 (n m : Nat) : Cfg := ⟨M, [0, 2, 4], 8, n, m, []⟩
noncomputable def C120 : Cfg := E120 0 0
noncomputable abbrev r120_0 : List RO := [⟨.v 1, .mv, [(.con (.lit (.slice none 0 0)))], none⟩]
noncomputable abbrev r120_1 : List RO := [Ya 3 0, ⟨.v 2, .eqN false .sl, [.l 3, (.con (.lit (.slice none 0 0)))], none⟩]
noncomputable abbrev r120_2 : List RO := [⟨.v 1, .mv, [(.con (.lit (.slice none 0 0)))], none⟩]
noncomputable abbrev r120_3 : List RO := [⟨.l 5, .bsl 1, [], none⟩, Ya 6 0, ⟨.l 7, .app 1 16 9, [.l 5, .l 6], none⟩, Yb 1 7]
theorem P120 : C120.M = M := rfl
theorem pe120 {n m : Nat} : (E120 n m).M = M := rfl
theorem i120 {a0 : D} : St.init C120 [a0] ⟨[], []⟩ = ⟨[a0, .u0, .u0], [], ⟨[], []⟩⟩ := rfl
theorem ie120 {n m : Nat} {hp : Hp} {a0 : D} : St.init (E120 n m) [a0] hp = ⟨[a0, .u0, .u0], [], hp⟩ := rfl
noncomputable def c120 : RC := (.seq (.reg r120_0) (.seq (.seq (.reg r120_1) (.cond (.v 2) (.seq (.reg r120_2) .ret) .skip)) (.seq (.reg r120_3) .ret)))
noncomputable def q120 : List RR := [(.slot (.v 1))]
theorem k120 : FnOk M 120 1 Tryz.f120 E120 c120 q120 := fnOk Tryz.func120
end Go.Proofs.YtkobjnpmjngklaaGreatDoor
end
section
set_option linter.unusedSimpArgs false
set_option linter.unusedVariables false
namespace Go.Proofs.YtkobjnpmjngklaaGreatDoor
open Go
abbrev W : Nat := 18446744073709551616
def xs (k y : Nat) : Nat := y ^^^ (y >>> k)
theorem xor_lt {a b : Nat} (ha : a < W) (hb : b < W) : a ^^^ b < W := by
 have := Nat.xor_lt_two_pow (n := 64) ha hb
 exact this
theorem shr_le (a k : Nat) : a >>> k ≤ a := by rw [Nat.shiftRight_eq_div_pow]; exact Nat.div_le_self _ _
theorem xs_lt {k y : Nat} (h : y < W) : xs k y < W := xor_lt h (Nat.lt_of_le_of_lt (shr_le y k) h)
theorem shr_zero {y k : Nat} (h : y < W) (hk : 64 ≤ k) : y >>> k = 0 := by
 rw [Nat.shiftRight_eq_div_pow]
 exact Nat.div_eq_of_lt (Nat.lt_of_lt_of_le h (Nat.pow_le_pow_right (by omega) hk : 2 ^ 64 ≤ 2 ^ k))
theorem zE6 (k y : Nat) : xs k (xs k y) = y ^^^ (y >>> (k + k)) := by
 unfold xs
 rw [Nat.shiftRight_xor_distrib, ← Nat.shiftRight_add, ← Nat.xor_assoc, Nat.xor_assoc y, Nat.xor_self, Nat.xor_zero]
theorem xs33_inj {a b : Nat} (ha : a < W) (hb : b < W) (h : xs 33 a = xs 33 b) : a = b := by
 have h1 := congrArg (xs 33) h
 rw [zE6, zE6, shr_zero ha (by omega), shr_zero hb (by omega), Nat.xor_zero, Nat.xor_zero] at h1
 exact h1
theorem xs27_inj {a b : Nat} (ha : a < W) (hb : b < W) (h : xs 27 a = xs 27 b) : a = b := by
 have h1 := congrArg (xs 27) h
 rw [zE6, zE6] at h1
 have h2 := congrArg (xs 54) h1
 have e : ∀ y : Nat, y ^^^ (y >>> (27 + 27)) = xs 54 y := fun _ => rfl
 rw [e, e, zE6, zE6, shr_zero ha (by omega), shr_zero hb (by omega), Nat.xor_zero, Nat.xor_zero] at h2
 exact h2
theorem mul_inj {c d a b : Nat} (hcd : c * d % W = 1) (ha : a < W) (hb : b < W) (h : a * c % W = b * c % W) : a = b := by
 have key : ∀ x : Nat, x < W → (x * c % W) * d % W = x := by
  intro x hx
  rw [Nat.mod_mul_mod, Nat.mul_assoc, Nat.mul_mod, hcd, Nat.mul_one, Nat.mod_mod, Nat.mod_eq_of_lt hx]
 rw [← key a ha, ← key b hb, h]
theorem mod_lt_W (x : Nat) : x % W < W := Nat.mod_lt _ (by decide)
def mulW (x c : Nat) : Nat := x * c % W
theorem zEd (x c : Nat) : mulW x c < W := mod_lt_W _
def mixN (x : Nat) : Nat := xs 27 (mulW (xs 33 (mulW x 6364136223846793005)) 2685821657736338717)
theorem zFv (x : Nat) : mixN x < W := xs_lt (zEd _ _)
theorem mixN_inj {a b : Nat} (ha : a < W) (hb : b < W) (h : mixN a = mixN b) : a = b := by
 unfold mixN at h
 have h1 := xs27_inj (zEd _ _) (zEd _ _) h
 have h2 := mul_inj (d := 6415128727920758069) (by decide) (xs_lt (zEd _ _)) (xs_lt (zEd _ _)) h1
 have h3 := xs33_inj (zEd _ _) (zEd _ _) h2
 exact mul_inj (d := 13877824140714322085) (by decide) ha hb h3
def val (l : List UInt8) : Nat := l.foldl (fun n b => 256 * n + b.toNat) 0
theorem val_app (l : List UInt8) (b : UInt8) : val (l ++ [b]) = 256 * val l + b.toNat := by simp [val]
theorem val_lt : ∀ (l : List UInt8), val l < 256 ^ l.length := by
 intro l
 have key : ∀ (l : List UInt8) (n k : Nat), n < 256 ^ k → l.foldl (fun n b => 256 * n + b.toNat) n < 256 ^ (k + l.length) := by
  intro l
  induction l with
  | nil => intro n k h; simpa using h
  | cons b l ih =>
    intro n k h
    have hb : b.toNat < 256 := UInt8.toNat_lt b
    have h2 : 256 * n + b.toNat < 256 ^ (k + 1) := by rw [Nat.pow_succ]; omega
    have := ih _ _ h2
    simp only [List.foldl_cons, List.length_cons]
    rwa [show k + (l.length + 1) = k + 1 + l.length by omega]
 have := key l 0 0 (by simp)
 simpa [val] using this
theorem val_inj : ∀ (n : Nat) (a b : List UInt8), a.length = n → b.length = n → val a = val b → a = b := by
 intro n
 induction n with
 | zero => intro a b ha hb _; rw [List.eq_nil_of_length_eq_zero ha, List.eq_nil_of_length_eq_zero hb]
 | succ n ih =>
   intro a b ha hb h
   rcases List.eq_nil_or_concat a with rfl | ⟨a', x, rfl⟩
   ·simp at ha
   rcases List.eq_nil_or_concat b with rfl | ⟨b', y, rfl⟩
   ·simp at hb
   simp only [List.concat_eq_append, List.length_append, List.length_cons, List.length_nil] at ha hb h ⊢
   rw [val_app, val_app] at h
   have hx : x.toNat < 256 := UInt8.toNat_lt x
   have hy : y.toNat < 256 := UInt8.toNat_lt y
   have e1 : x.toNat = y.toNat := by omega
   have e2 := ih a' b' (by omega) (by omega) (by omega)
   rw [e2, UInt8.toNat_inj.1 e1]
def blk (p : List UInt8) : Nat := val p * 256 ^ (8 - p.length)
theorem blk_lt {p : List UInt8} (h : p.length ≤ 8) : blk p < W := by
 have h1 := val_lt p
 have h2 : 256 ^ p.length * 256 ^ (8 - p.length) = W := by
  rw [← Nat.pow_add, show p.length + (8 - p.length) = 8 by omega]
 unfold blk
 rw [← h2]
 exact Nat.mul_lt_mul_of_pos_right h1 (Nat.pow_pos (by omega))
theorem blk_inj {a b : List UInt8} (h : a.length = b.length) (h8 : a.length ≤ 8) (e : blk a = blk b) : a = b := by
 unfold blk at e
 rw [h] at e
 exact val_inj _ a b h rfl (Nat.eq_of_mul_eq_mul_right (Nat.pow_pos (by omega)) e)
def run (s : Nat) (t : List UInt8) : Nat :=
 if 8 ≤ t.length then run (mixN (s ^^^ blk (t.take 8))) (t.drop 8) else mixN (s ^^^ blk t)
 termination_by t.length
 decreasing_by simp; omega
theorem zDf {s : Nat} {t : List UInt8} (h : 8 ≤ t.length) : run s t = run (mixN (s ^^^ blk (t.take 8))) (t.drop 8) := by
 rw [run, if_pos h]
theorem zCs {s : Nat} {t : List UInt8} (h : t.length < 8) : run s t = mixN (s ^^^ blk t) := by
 rw [run, if_neg (by omega)]
theorem run_lt : ∀ (n s : Nat) (t : List UInt8), t.length ≤ n → run s t < W := by
 intro n
 induction n using Nat.strongRecOn with
 | _ n ih =>
   intro s t h
   by_cases hl : 8 ≤ t.length
   ·rw [zDf hl]
    exact ih (t.drop 8).length (by simp; omega) _ _ (Nat.le_refl _)
   ·rw [zCs (by omega)]; exact zFv _
theorem xor_cancel {s a b : Nat} (h : s ^^^ a = s ^^^ b) : a = b := by
 have := congrArg (s ^^^ ·) h
 simpa [← Nat.xor_assoc] using this
theorem xor_cancel' {s a b : Nat} (h : a ^^^ s = b ^^^ s) : a = b := by
 rw [Nat.xor_comm a, Nat.xor_comm b] at h; exact xor_cancel h
theorem run_inj : ∀ (n : Nat) (s s' : Nat) (t : List UInt8), t.length ≤ n → s < W → s' < W → run s t = run s' t → s = s' := by
 intro n
 induction n using Nat.strongRecOn with
 | _ n ih =>
   intro s s' t h hs hs' e
   have hx : ∀ s p, s < W → p.length ≤ 8 → s ^^^ blk p < W := fun s p h1 h2 => xor_lt h1 (blk_lt h2)
   by_cases hl : 8 ≤ t.length
   ·rw [zDf hl, zDf hl] at e
    have h8 : (t.take 8).length ≤ 8 := by simp; omega
    have := ih (t.drop 8).length (by simp; omega) _ _ _ (Nat.le_refl _) (zFv _) (zFv _) e
    exact xor_cancel' (mixN_inj (hx _ _ hs h8) (hx _ _ hs' h8) this)
   ·rw [zCs (by omega), zCs (by omega)] at e
    exact xor_cancel' (mixN_inj (hx _ _ hs (by omega)) (hx _ _ hs' (by omega)) e)
theorem run_piece {s : Nat} (hs : s < W) {a b r : List UInt8} (h : a.length = b.length) (h8 : a.length ≤ 8) : run s (a ++ r) = run s (b ++ r) ↔ a = b := by
 constructor
 ·intro e
  by_cases hl : 8 ≤ (a ++ r).length
  ·have hlb : 8 ≤ (b ++ r).length := by rw [List.length_append] at hl ⊢; omega
   rw [zDf (t := a ++ r) hl, zDf (t := b ++ r) hlb] at e
   have hd : (a ++ r).drop 8 = (b ++ r).drop 8 := by
    rw [List.drop_append, List.drop_append, List.drop_eq_nil_of_le h8, List.drop_eq_nil_of_le (show b.length ≤ 8 by omega), h]
   rw [hd] at e
   have ha8 : ((a ++ r).take 8).length = 8 := by rw [List.length_take]; omega
   have hb8 : ((b ++ r).take 8).length = 8 := by rw [List.length_take]; omega
   have e2 := run_inj _ _ _ _ (Nat.le_refl _) (zFv _) (zFv _) e
   have e3 := mixN_inj (xor_lt hs (blk_lt (by omega))) (xor_lt hs (blk_lt (by omega))) e2
   have e4 := blk_inj (by omega) (by omega) (xor_cancel e3)
   have e5 := congrArg (List.take a.length) e4
   rw [List.take_take, List.take_take, Nat.min_eq_left h8, List.take_left, h, List.take_left] at e5
   exact e5
  ·have hlb : (b ++ r).length < 8 := by rw [List.length_append] at hl ⊢; omega
   rw [zCs (t := a ++ r) (by omega), zCs (t := b ++ r) hlb] at e
   have e3 := mixN_inj (xor_lt hs (blk_lt (by omega))) (xor_lt hs (blk_lt (by omega))) e
   have e4 := blk_inj (by simp [h]) (by omega) (xor_cancel e3)
   exact List.append_cancel_right e4
 ·rintro rfl; rfl
def runP (s : Nat) : Nat → List UInt8 → Nat
 | 0, _ => s
 | m + 1, t => runP (mixN (s ^^^ blk (t.take 8))) m (t.drop 8)
theorem runP_lt : ∀ (m s : Nat) (t : List UInt8), s < W → runP s m t < W
 | 0, s, t, h => h
 | m + 1, s, t, h => runP_lt m _ _ (zFv _)
theorem run_app : ∀ (m s : Nat) (p u : List UInt8), p.length = 8 * m → run s (p ++ u) = run (runP s m p) u
 | 0, s, p, u, h => by
   have : p = [] := List.eq_nil_of_length_eq_zero (by omega)
   subst this; rfl
 | m + 1, s, p, u, h => by
   rw [zDf (by simp; omega), runP]
   have e1 : (p ++ u).take 8 = p.take 8 := by rw [List.take_append_of_le_length (by omega)]
   have e2 : (p ++ u).drop 8 = p.drop 8 ++ u := by rw [List.drop_append_of_le_length (by omega)]
   rw [e1, e2, run_app m _ _ _ (by simp; omega)]
def stt (t : List UInt8) : Nat := run (7046029254386353131 ^^^ t.length) t
theorem stt_lt (t : List UInt8) : stt t < W := run_lt _ _ _ (Nat.le_refl _)
def hexd (v : Nat) : UInt8 := if v < 10 then UInt8.ofNat (48 + v) else UInt8.ofNat (87 + v)
theorem hexd_toNat {v : Nat} (h : v < 16) : (hexd v).toNat = if v < 10 then 48 + v else 87 + v := by
 unfold hexd; split <;> rw [UInt8.toNat_ofNat'] <;> omega
theorem hexd_inj {a b : Nat} (ha : a < 16) (hb : b < 16) (h : hexd a = hexd b) : a = b := by
 have := congrArg UInt8.toNat h
 rw [hexd_toNat ha, hexd_toNat hb] at this
 split at this <;> split at this <;> omega
def hex16 (s : Nat) : List UInt8 := (List.range 16).map fun i => hexd (s / 16 ^ (15 - i) % 16)
theorem hex16_len (s : Nat) : (hex16 s).length = 16 := by simp [hex16]
theorem digits_eq : ∀ (k a b : Nat), (∀ i, i < k → a / 16 ^ i % 16 = b / 16 ^ i % 16) → a % 16 ^ k = b % 16 ^ k
 | 0, a, b, _ => by simp [Nat.mod_one]
 | k + 1, a, b, h => by
   have h0 := h 0 (by omega)
   simp only [Nat.pow_zero, Nat.div_one] at h0
   have ih := digits_eq k (a / 16) (b / 16) fun i hi => by
    have := h (i + 1) (by omega)
    rwa [Nat.pow_succ, Nat.mul_comm, ← Nat.div_div_eq_div_mul, ← Nat.div_div_eq_div_mul] at this
   have e : ∀ x : Nat, x % 16 ^ (k + 1) = 16 * (x / 16 % 16 ^ k) + x % 16 := by
    intro x
    rw [Nat.pow_succ, Nat.mul_comm, Nat.mod_mul]; omega
   rw [e a, e b, ih, h0]
theorem hex16_inj {a b : Nat} (ha : a < W) (hb : b < W) (h : hex16 a = hex16 b) : a = b := by
 have hd : ∀ i, i < 16 → a / 16 ^ i % 16 = b / 16 ^ i % 16 := by
  intro i hi
  have h1 := congrArg (fun l => l[15 - i]?) h
  simp only [hex16, List.getElem?_map, List.getElem?_range (show 15 - i < 16 by omega), Option.map_some, Option.some.injEq] at h1
  rw [show 15 - (15 - i) = i by omega] at h1
  exact hexd_inj (Nat.mod_lt _ (by omega)) (Nat.mod_lt _ (by omega)) h1
 have := digits_eq 16 a b hd
 have e : (16 : Nat) ^ 16 = W := by decide
 rwa [e, Nat.mod_eq_of_lt ha, Nat.mod_eq_of_lt hb] at this
def sumN (t : List UInt8) : List UInt8 := hex16 (stt t)
theorem sumN_iff {a b : List UInt8} : sumN a = sumN b ↔ stt a = stt b :=
 ⟨fun h => hex16_inj (stt_lt a) (stt_lt b) h, fun h => by unfold sumN; rw [h]⟩
theorem len_lt {t : List UInt8} (h : t.length < 65536) : 7046029254386353131 ^^^ t.length < W := xor_lt (by decide) (by show t.length < 18446744073709551616; omega)
theorem sum_block {p a b r : List UInt8} (m : Nat) (hp : p.length = 8 * m) (h : a.length = b.length) (h8 : a.length ≤ 8) (hl : (p ++ a ++ r).length < 65536) : sumN (p ++ a ++ r) = sumN (p ++ b ++ r) ↔ a = b := by
 rw [sumN_iff]
 unfold stt
 have hle : (p ++ b ++ r).length = (p ++ a ++ r).length := by simp [h]
 rw [hle, List.append_assoc, List.append_assoc, run_app m _ _ _ hp, run_app m _ _ _ hp]
 exact run_piece (runP_lt _ _ _ (by rw [← List.append_assoc]; exact len_lt hl)) h h8
end Go.Proofs.YtkobjnpmjngklaaGreatDoor
end
section
set_option linter.unusedSimpArgs false
set_option linter.unusedVariables false
namespace Go.Proofs.YtkobjnpmjngklaaGreatDoor
open Go
abbrev Tx := List UInt8
def zr (n : Nat) : Tx := List.replicate n 0
@[simp] theorem zr_len (n : Nat) : (zr n).length = n := by simp [zr]
def itF : Nat → Nat → Tx
 | 0, _ => []
 | f + 1, n => if n < 10 then [UInt8.ofNat (48 + n)] else itF f (n / 10) ++ [UInt8.ofNat (48 + n % 10)]
def itK (n : Nat) : Tx := itF (n + 1) n
theorem itF_eq : ∀ (f n : Nat), n < f → Lib.decDigits n = itF f n
 | 0, n, h => by omega
 | f + 1, n, h => by
   rw [Lib.decDigits, itF]
   split
   ·rfl
   ·rw [itF_eq f (n / 10) (by omega)]
theorem itoa_K (n : Nat) : Lib.itoa (n : Int) = itK n := by
 unfold Lib.itoa itK
 rw [if_neg (by omega)]
 exact itF_eq _ _ (by simp)
theorem itF_pos (f n : Nat) (h : 0 < f) : 0 < (itF f n).length := by
 cases f with
 | zero => omega
 | succ f => rw [itF]; split <;> simp
theorem itF_le : ∀ (f n w : Nat), n < 10 ^ (w + 1) → (itF f n).length ≤ w + 1
 | 0, n, w, h => by simp [itF]
 | f + 1, n, w, h => by
   rw [itF]
   split
   ·simp
   ·rename_i h1
    cases w with
    | zero => simp at h; omega
    | succ w =>
      have := itF_le f (n / 10) w (by rw [Nat.pow_succ] at h; omega)
      simp; omega
theorem itK_le {n w : Nat} (h : n < 10 ^ w) (hw : 0 < w) : (itK n).length ≤ w := by
 cases w with
 | zero => omega
 | succ w => exact itF_le _ _ _ h
theorem itK_pos (n : Nat) : 0 < (itK n).length := itF_pos _ _ (by omega)
def dgW (n w : Nat) : Tx := List.replicate (w - (itK n).length) 48 ++ itK n
theorem zCh {n w : Nat} (h : n < 10 ^ w) (hw : 0 < w) : (dgW n w).length = w := by
 have := itK_le h hw
 simp [dgW]; omega
def atK (s : Tx) : Option Nat := match Lib.atoiAll s with
 | .ok v => if v < 0 then none else some v.toNat
 | .«syntax» => none
 | .range => none
def smF : Nat → Nat → Tx → Nat
 | 0, s, t => mixN (s ^^^ blk t)
 | f + 1, s, t => if 8 ≤ t.length then smF f (mixN (s ^^^ blk (t.take 8))) (t.drop 8) else mixN (s ^^^ blk t)
theorem smF_eq : ∀ (f s : Nat) (t : Tx), t.length ≤ 8 * f + 7 → run s t = smF f s t
 | 0, s, t, h => by rw [zCs (by omega)]; rfl
 | f + 1, s, t, h => by
   rw [smF]
   split
   ·rename_i h8
    rw [zDf h8, smF_eq f _ _ (by simp; omega)]
   ·rw [zCs (by omega)]
def smK (t : Tx) : Tx := hex16 (smF (t.length / 8) (7046029254386353131 ^^^ t.length) t)
theorem smK_eq (t : Tx) : sumN t = smK t := by
 unfold sumN smK stt
 rw [smF_eq (t.length / 8) _ _ (by omega)]
@[simp] theorem smK_len (t : Tx) : (smK t).length = 16 := by simp [smK, hex16]
def sealT (place : Nat) (c : Tx) : Tx := smK (dgW place 8 ++ (c ++ zr (48 - c.length))) ++ (c ++ zr (48 - c.length))
theorem sealT_len {place : Nat} {c : Tx} (h : c.length ≤ 48) : (sealT place c).length = 64 := by
 simp [sealT]; omega
def headT (place area count : Nat) : Tx := sealT place (dgW area 1 ++ dgW count 7)
theorem zC7 {place area count : Nat} (ha : area < 10) (hc : count < 10000000) : (headT place area count).length = 64 := by
 refine sealT_len ?_
 have h1 := zCh (n := area) (w := 1) (by simpa using ha) (by omega)
 have h2 := zCh (n := count) (w := 7) (by simpa using hc) (by omega)
 simp [h1, h2]
abbrev Sx := List Tx
def putS (S : Sx) (i : Nat) (l : Sx) : Sx := S.take i ++ (l ++ S.drop (i + l.length))
abbrev secAt (S : Sx) (i : Nat) : Tx := S.getD i []
structure SxOk (S : Sx) (n : Nat) : Prop where
 len : S.length = n
 s64 : ∀ t ∈ S, t.length = 64
theorem zGe {S : Sx} {i : Nat} {l : Sx} (h : i + l.length ≤ S.length) : (putS S i l).length = S.length := by
 simp [putS]; omega
theorem zB1 {S : Sx} {n i : Nat} {l : Sx} (hS : SxOk S n) (h : i + l.length ≤ n) (hl : ∀ t ∈ l, t.length = 64) : SxOk (putS S i l) n := by
 refine ⟨by rw [zGe (by rw [hS.len]; exact h)]; exact hS.len, fun t ht => ?_⟩
 rcases List.mem_append.1 ht with q | q
 ·exact hS.s64 t (List.mem_of_mem_take q)
 ·rcases List.mem_append.1 q with q | q
  ·exact hl t q
  ·exact hS.s64 t (List.mem_of_mem_drop q)
theorem putS_get {S : Sx} {i : Nat} {l : Sx} (h : i + l.length ≤ S.length) (j : Nat) : (putS S i l)[j]? = if i ≤ j ∧ j < i + l.length then l[j - i]? else S[j]? := by
 unfold putS
 have h1 : (S.take i).length = i := by simp; omega
 by_cases hj : j < i
 ·rw [List.getElem?_append_left (by omega), List.getElem?_take, if_pos hj, if_neg (by omega)]
 ·rw [List.getElem?_append_right (by omega), h1]
  by_cases hk : j < i + l.length
  ·rw [List.getElem?_append_left (by omega), if_pos (by omega)]
  ·rw [List.getElem?_append_right (by omega), if_neg (by omega), List.getElem?_drop]
   congr 1; omega
theorem putS_nil (S : Sx) (i : Nat) : putS S i [] = S := by simp [putS]
theorem flat_len {S : Sx} (h : ∀ t ∈ S, t.length = 64) : S.flatten.length = 64 * S.length := by
 induction S with
 | nil => rfl
 | cons x S ih =>
   have := ih fun t ht => h t (by simp [ht])
   have := h x (by simp)
   simp only [List.flatten_cons, List.length_append, List.length_cons]; omega
theorem flat_drop : ∀ {S : Sx} (i : Nat), (∀ t ∈ S, t.length = 64) → S.flatten.drop (64 * i) = (S.drop i).flatten
 | _, 0, _ => by simp
 | [], i + 1, _ => by simp
 | x :: S, i + 1, h => by
   have h1 := h x (by simp)
   rw [List.flatten_cons, List.drop_succ_cons, ← flat_drop i fun t ht => h t (by simp [ht]), show 64 * (i + 1) = x.length + 64 * i by omega, List.drop_append]
   rw [List.drop_of_length_le (by omega)]
   simp
theorem flat_take : ∀ {S : Sx} (i : Nat), (∀ t ∈ S, t.length = 64) → S.flatten.take (64 * i) = (S.take i).flatten
 | _, 0, _ => by simp
 | [], i + 1, _ => by simp
 | x :: S, i + 1, h => by
   have h1 := h x (by simp)
   rw [List.flatten_cons, List.take_succ_cons, List.flatten_cons, ← flat_take i fun t ht => h t (by simp [ht]), show 64 * (i + 1) = x.length + 64 * i by omega, List.take_append]
   rw [List.take_of_length_le (by omega)]
   simp
theorem flat_sec {S : Sx} {i : Nat} (h : ∀ t ∈ S, t.length = 64) (hi : i < S.length) : (S.flatten.drop (64 * i)).take 64 = secAt S i := by
 rw [flat_drop i h, List.drop_eq_getElem_cons hi, List.flatten_cons, List.take_append_of_le_length (by rw [h _ (List.getElem_mem hi)]; omega), List.take_of_length_le (by rw [h _ (List.getElem_mem hi)]; omega)]
 simp [secAt, hi]
theorem flat_put {S : Sx} {i : Nat} {x : Tx} (h : ∀ t ∈ S, t.length = 64) : (putS S i [x]).flatten = S.flatten.take (64 * i) ++ (x ++ S.flatten.drop (64 * i + 64)) := by
 rw [flat_take i h, show 64 * i + 64 = 64 * (i + 1) by omega, flat_drop _ h]
 simp [putS]
theorem sec_len {S : Sx} {n i : Nat} (h : SxOk S n) (hi : i < n) : (secAt S i).length = 64 := by
 have : i < S.length := by rw [h.len]; exact hi
 rw [secAt, List.getD_eq_getElem?_getD, List.getElem?_eq_getElem this]
 exact h.s64 _ (List.getElem_mem this)
def newS (n : Nat) : Sx := List.replicate n (zr 64)
theorem zEc (n : Nat) : SxOk (newS n) n := ⟨by simp [newS], fun t ht => by rw [List.eq_of_mem_replicate ht]; simp⟩
theorem newS_flat : ∀ n : Nat, (newS n).flatten = zr (64 * n)
 | 0 => rfl
 | n + 1 => by
   have := newS_flat n
   unfold newS at this ⊢
   rw [List.replicate_succ, List.flatten_cons, this, zr, zr, zr, List.replicate_append_replicate]
   congr 1; omega
end Go.Proofs.YtkobjnpmjngklaaGreatDoor
end
section
set_option linter.unusedSimpArgs false
set_option linter.unusedVariables false
namespace Go.Proofs.YtkobjnpmjngklaaGreatDoor
open Go
abbrev KV := List (Tx × Tx)
def insK (k v : Tx) : KV → KV
 | [] => [(k, v)]
 | p :: r => if p.1 = k then (k, v) :: r else if Op.bytesLess k p.1 then (k, v) :: p :: r else p :: insK k v r
def delK (k : Tx) : KV → KV
 | [] => []
 | p :: r => if p.1 = k then r else p :: delK k r
def getK (k : Tx) : KV → Option Tx
 | [] => none
 | p :: r => if p.1 = k then some p.2 else getK k r
def ofL (l : KV) : KV := l.foldl (fun m p => insK p.1 p.2 m) []
def zA9 (m put : KV) (drop : List Tx) : KV := drop.foldl (fun m k => delK k m) (put.foldl (fun m p => insK p.1 p.2 m) m)
def insT (k : Tx) : List Tx → List Tx
 | [] => [k]
 | x :: r => if x = k then x :: r else if Op.bytesLess k x then k :: x :: r else x :: insT k r
def setT (l : List Tx) : List Tx := l.foldl (fun m k => insT k m) []
def zEr (s : Tx) : Tx := itK s.length ++ 58 :: s
def joinK (l : List Tx) : Tx := (l.map zEr).flatten
def textK (put : KV) (drop : List Tx) : Tx :=
 joinK [joinK (itK put.length :: (put.map fun p => [p.1, p.2]).flatten ++ itK drop.length :: drop)]
def cutK : Tx → Option (Tx × Tx)
 | [] => none
 | c :: r => if c = 58 then some ([], r) else (cutK r).map fun p => (c :: p.1, p.2)
def zCx : Nat → Tx → Option (List Tx)
 | 0, t => if t = [] then some [] else none
 | f + 1, t => if t = [] then some [] else
   match cutK t with
   | none => none
   | some (s, r) => match atK s with
     | none => none
     | some n => if n ≤ r.length ∧ itK n = s then (zCx f (r.drop n)).map fun l => r.take n :: l else none
def zCe (t : Tx) : Option (List Tx) := zCx t.length t
def keyK (k : Tx) : Bool := decide (k ≠ [] ∧ k.length ≤ 200)
def zAr (put : KV) (drop : List Tx) : Int :=
 if put.all (fun p => keyK p.1 && !drop.contains p.1) && drop.all keyK then (if put.any (fun p => decide (20000 < p.2.length)) then 7 else 0) else 1
def zBj : List Tx → KV
 | a :: b :: r => (a, b) :: zBj r
 | _ => []
def zAo (m : KV) (c : Tx) : Option KV :=
 match zCe c with
 | none => none
 | some [] => none
 | some (a :: l) =>
   match atK a with
   | none => none
   | some n =>
     if n ≤ (l.length + 1) / 2 ∧ 2 * n + 1 ≤ l.length then
      let put := ofL (zBj (l.take (2 * n)))
      let drop := l.drop (2 * n + 1)
      if put.length + drop.length ≠ 0 ∧ zAr put drop = 0 ∧ textK put drop = joinK [c] ∧ setT drop = drop then some (zA9 m put drop) else none
     else none
structure Sto where
 size : Nat
 area : Nat
 count : Nat
 kv : KV
def plc (size area i : Nat) : Nat := 2 + area * size + i
def posK (size place : Nat) (t : Tx) : Option (Nat × Nat) :=
 match atK ((t.take 24).drop 16) with
 | none => none
 | some n => if n / 10000000 < 2 ∧ n % 10000000 ≤ size ∧ headT place (n / 10000000) (n % 10000000) = t then some (n / 10000000, n % 10000000) else none
def pieK (place : Nat) (t : Tx) : Tx :=
 match atK ((t.take 18).drop 16) with
 | none => []
 | some n => if 1 ≤ n ∧ n ≤ 46 ∧ sealT place (dgW n 2 ++ (t.take (18 + n)).drop 18) = t then (t.take (18 + n)).drop 18 else []
def chF : Nat → Tx → List Tx
 | 0, _ => []
 | f + 1, t => if t = [] then [] else t.take 46 :: chF f (t.drop 46)
def chK (t : Tx) : List Tx := chF t.length t
def cntK (t : Tx) : Nat := (t.length + 45) / 46
def secK : Nat → List Tx → List Tx
 | _, [] => []
 | i, x :: l => sealT i (dgW x.length 2 ++ x) :: secK (i + 1) l
abbrev Wr := List (Nat × Sx)
def goW (S : Sx) (l : Wr) : Sx := l.foldl (fun S g => putS S g.1 g.2) S
def setW (a c : Nat) : Wr := [(1, [headT 1 a c]), (0, [headT 0 a c])]
def addW (size a c : Nat) (t : Tx) : Wr := (plc size a c, secK (plc size a c) (chK t)) :: setW a (c + (chK t).length)
def clrW (size a i : Nat) : Wr := [(plc size a i, List.replicate (size - i) (zr 64))]
def zBc (size a : Nat) (t : Tx) : Wr := addW size (1 - a) 0 t ++ clrW size a 0
def compW (size a : Nat) (t : Tx) : Wr := (if a = 1 then zBc size 1 t else zBc size a t ++ zBc size 1 t) ++ clrW size 0 (chK t).length
def zAj (S : Sx) (s : Sto) (put : KV) (drop : List Tx) : Sx × Sto × Int :=
 if zAr put drop ≠ 0 then (S, s, zAr put drop) else
 if put.length + (setT drop).length = 0 then (S, s, 0) else
 if s.size - s.count < cntK (textK put (setT drop)) then (S, s, 6) else
 (goW S (addW s.size s.area s.count (textK put (setT drop))), { s with count := s.count + (chK (textK put (setT drop))).length, kv := zA9 s.kv put (setT drop) }, 0)
def zAn (m : KV) : Tx := if m = [] then [] else textK m []
def zAw (S : Sx) (s : Sto) : Sx × Sto × Int :=
 if s.size < cntK (zAn s.kv) then (S, s, 6) else
 (goW S (compW s.size s.area (zAn s.kv)), { s with area := 0, count := (chK (zAn s.kv)).length }, 0)
def logK (S : Sx) (size area : Nat) : Nat → Option Tx
 | 0 => some []
 | n + 1 => match logK S size area n with
   | none => none
   | some l => if pieK (plc size area n) (secAt S (plc size area n)) = [] then none else some (l ++ pieK (plc size area n) (secAt S (plc size area n)))
def loadK (S : Sx) (size area count : Nat) : Option KV :=
 match logK S size area count with
 | none => none
 | some l => match zCe l with
   | none => none
   | some cs => cs.foldlM zAo []
def zCi (S : Sx) (size : Nat) : Option (Nat × Nat) :=
 match posK size 1 (secAt S 1) with
 | some p => some p
 | none => posK size 0 (secAt S 0)
def wantK (place : Nat) (h : Option (Nat × Nat)) : Tx := match h with
 | none => zr 64
 | some p => headT place p.1 p.2
def restW (S : Sx) (place : Nat) (h : Option (Nat × Nat)) : Wr :=
 if secAt S place = wantK place h then [] else (place, [zr 64]) :: match h with
 | none => []
 | some p => [(place, [headT place p.1 p.2])]
end Go.Proofs.YtkobjnpmjngklaaGreatDoor
end
section
set_option maxRecDepth 100000
set_option linter.unusedSimpArgs false
set_option linter.unusedVariables false
namespace Go.Proofs.YtkobjnpmjngklaaGreatDoor
open Go GoV
abbrev lt (a b : Tx) : Bool := Op.bytesLess a b
theorem lt_irr : ∀ a : Tx, lt a a = false
 | [] => rfl
 | a :: x => by
   have h : ¬ a < a := UInt8.lt_irrefl a
   simp [lt, Op.bytesLess, h]
   exact lt_irr x
theorem lt_trans : ∀ {a b c : Tx}, lt a b = true → lt b c = true → lt a c = true
 | _, [], _, h, _ => by simp [lt, Op.bytesLess] at h
 | _, _ :: _, [], _, h => by simp [lt, Op.bytesLess] at h
 | [], _ :: _, _ :: _, _, _ => by simp [lt, Op.bytesLess]
 | a :: x, b :: y, c :: z, h, g => by
   simp only [lt, Op.bytesLess, Bool.or_eq_true, Bool.and_eq_true, decide_eq_true_eq, beq_iff_eq] at h g ⊢
   rcases h with h | ⟨rfl, h⟩ <;> rcases g with g | ⟨rfl, g⟩
   ·exact .inl (UInt8.lt_trans h g)
   ·exact .inl h
   ·exact .inl g
   ·exact .inr ⟨rfl, lt_trans h g⟩
theorem lt_tri : ∀ {a b : Tx}, lt a b = false → lt b a = false → a = b
 | [], [], _, _ => rfl
 | [], _ :: _, h, _ => by simp [lt, Op.bytesLess] at h
 | _ :: _, [], _, h => by simp [lt, Op.bytesLess] at h
 | a :: x, b :: y, h, g => by
   simp only [lt, Op.bytesLess, Bool.or_eq_false_iff, Bool.and_eq_false_iff, decide_eq_false_iff_not, beq_eq_false_iff_ne] at h g
   have e : a = b := by
    have h1 := h.1; have h2 := g.1
    exact UInt8.le_antisymm (UInt8.not_lt.1 h2) (UInt8.not_lt.1 h1)
   subst e
   rw [lt_tri (h.2.resolve_left (by simp)) (g.2.resolve_left (by simp))]
theorem lt_ne {a b : Tx} (h : lt a b = true) : a ≠ b := fun e => by subst e; rw [lt_irr] at h; cases h
theorem lt_asym {a b : Tx} (h : lt a b = true) : lt b a = false := by
 cases e : lt b a with
 | false => rfl
 | true => have := lt_trans h e; rw [lt_irr] at this; cases this
def So : List Tx → Prop
 | [] => True
 | a :: r => (∀ b ∈ r, lt a b = true) ∧ So r
abbrev ks (m : KV) : List Tx := m.map (·.1)
theorem zCy : ∀ {l : List Tx}, So l → l.Nodup
 | [], _ => by simp
 | a :: r, h => by
   rw [List.nodup_cons]
   exact ⟨fun hm => lt_ne (h.1 a hm) rfl, zCy h.2⟩
theorem so_ext : ∀ {l m : List Tx}, So l → So m → (∀ a, a ∈ l ↔ a ∈ m) → l = m
 | [], [], _, _, _ => rfl
 | [], b :: m, _, _, h => by have := (h b).2 (by simp); simp at this
 | a :: l, [], _, _, h => by have := (h a).1 (by simp); simp at this
 | a :: l, b :: m, h1, h2, h => by
   have e : a = b := by
    have ha := (h a).1 (by simp)
    have hb := (h b).2 (by simp)
    rcases List.mem_cons.1 ha with q | q
    ·exact q
    ·rcases List.mem_cons.1 hb with r | r
     ·exact r.symm
     ·have s1 := h2.1 a q
      have s2 := h1.1 b r
      rw [lt_asym s1] at s2; cases s2
   subst e
   rw [so_ext h1.2 h2.2 fun c => ?_]
   have := h c
   simp only [List.mem_cons] at this
   constructor
   ·intro hc
    rcases this.1 (.inr hc) with q | q
    ·subst q; exact absurd rfl (lt_ne (h1.1 c hc))
    ·exact q
   ·intro hc
    rcases this.2 (.inr hc) with q | q
    ·subst q; exact absurd rfl (lt_ne (h2.1 c hc))
    ·exact q
theorem so_kv : ∀ {l m : KV}, So (ks l) → So (ks m) → (∀ p, p ∈ l ↔ p ∈ m) → l = m
 | [], [], _, _, _ => rfl
 | [], b :: m, _, _, h => by have := (h b).2 (by simp); simp at this
 | a :: l, [], _, _, h => by have := (h a).1 (by simp); simp at this
 | a :: l, b :: m, h1, h2, h => by
   have k1 : ∀ p ∈ l, lt a.1 p.1 = true := fun p hp => h1.1 p.1 (List.mem_map_of_mem hp)
   have k2 : ∀ p ∈ m, lt b.1 p.1 = true := fun p hp => h2.1 p.1 (List.mem_map_of_mem hp)
   have e : a = b := by
    rcases List.mem_cons.1 ((h a).1 (by simp)) with q | q
    ·exact q
    ·rcases List.mem_cons.1 ((h b).2 (by simp)) with r | r
     ·exact r.symm
     ·have s1 := k2 a q
      have s2 := k1 b r
      rw [lt_asym s1] at s2; cases s2
   subst e
   rw [so_kv h1.2 h2.2 fun c => ?_]
   have := h c
   simp only [List.mem_cons] at this
   constructor
   ·intro hc
    rcases this.1 (.inr hc) with q | q
    ·subst q; exact absurd rfl (lt_ne (k1 c hc))
    ·exact q
   ·intro hc
    rcases this.2 (.inr hc) with q | q
    ·subst q; exact absurd rfl (lt_ne (k2 c hc))
    ·exact q
theorem zC6 {k v : Tx} : ∀ {m : KV}, So (ks m) → ∀ p, p ∈ insK k v m ↔ p = (k, v) ∨ (p.1 ≠ k ∧ p ∈ m)
 | [], _, p => by simp [insK]
 | q :: r, h, p => by
   have hq : ∀ x ∈ r, lt q.1 x.1 = true := fun x hx => h.1 x.1 (List.mem_map_of_mem hx)
   rw [insK]
   split
   ·rename_i e
    simp only [List.mem_cons]
    constructor
    ·rintro (h1 | h1)
     ·exact .inl h1
     ·exact .inr ⟨fun e2 => lt_ne (hq p h1) (e.trans e2.symm), .inr h1⟩
    ·rintro (h1 | ⟨h1, h2 | h2⟩)
     ·exact .inl h1
     ·subst h2; exact absurd e h1
     ·exact .inr h2
   ·rename_i e
    split
    ·rename_i e2
     simp only [List.mem_cons]
     constructor
     ·rintro (h1 | h1 | h1)
      ·exact .inl h1
      ·subst h1; exact .inr ⟨e, .inl rfl⟩
      ·exact .inr ⟨fun e3 => lt_ne (lt_trans e2 (hq p h1)) e3.symm, .inr h1⟩
     ·rintro (h1 | ⟨h1, h2⟩)
      ·exact .inl h1
      ·exact .inr h2
    ·simp only [List.mem_cons, zC6 h.2 p]
     constructor
     ·rintro (h1 | h1 | ⟨h1, h2⟩)
      ·subst h1; exact .inr ⟨e, .inl rfl⟩
      ·exact .inl h1
      ·exact .inr ⟨h1, .inr h2⟩
     ·rintro (h1 | ⟨h1, h2 | h2⟩)
      ·exact .inr (.inl h1)
      ·exact .inl h2
      ·exact .inr (.inr ⟨h1, h2⟩)
theorem ins_so {k v : Tx} : ∀ {m : KV}, So (ks m) → So (ks (insK k v m))
 | [], _ => ⟨by simp, trivial⟩
 | q :: r, h => by
   rw [insK]
   split
   ·rename_i e; subst e; exact h
   ·rename_i e
    split
    ·rename_i e2
     refine ⟨fun b hb => ?_, h⟩
     rcases List.mem_cons.1 hb with q | q
     ·subst q; exact e2
     ·exact lt_trans e2 (h.1 b q)
    ·rename_i e2
     refine ⟨fun b hb => ?_, ins_so h.2⟩
     obtain ⟨p, hp, rfl⟩ := List.mem_map.1 hb
     rcases (zC6 h.2 p).1 hp with h1 | ⟨h1, h2⟩
     ·subst h1
      cases f : lt q.1 k with
      | true => rfl
      | false => exact absurd (lt_tri f (by simpa using e2)) e
     ·exact h.1 p.1 (List.mem_map_of_mem h2)
theorem del_mem {k : Tx} : ∀ {m : KV}, So (ks m) → ∀ p, p ∈ delK k m ↔ p.1 ≠ k ∧ p ∈ m
 | [], _, p => by simp [delK]
 | q :: r, h, p => by
   have hq : ∀ x ∈ r, lt q.1 x.1 = true := fun x hx => h.1 x.1 (List.mem_map_of_mem hx)
   rw [delK]
   split
   ·rename_i e
    simp only [List.mem_cons]
    constructor
    ·intro h1; exact ⟨fun e2 => lt_ne (hq p h1) (e.trans e2.symm), .inr h1⟩
    ·rintro ⟨h1, h2 | h2⟩
     ·subst h2; exact absurd e h1
     ·exact h2
   ·rename_i e
    simp only [List.mem_cons, del_mem h.2 p]
    constructor
    ·rintro (h1 | ⟨h1, h2⟩)
     ·subst h1; exact ⟨e, .inl rfl⟩
     ·exact ⟨h1, .inr h2⟩
    ·rintro ⟨h1, h2 | h2⟩
     ·exact .inl h2
     ·exact .inr ⟨h1, h2⟩
theorem del_so {k : Tx} : ∀ {m : KV}, So (ks m) → So (ks (delK k m))
 | [], _ => trivial
 | q :: r, h => by
   rw [delK]
   split
   ·exact h.2
   ·refine ⟨fun b hb => ?_, del_so h.2⟩
    obtain ⟨p, hp, rfl⟩ := List.mem_map.1 hb
    exact h.1 p.1 (List.mem_map_of_mem ((del_mem h.2 p).1 hp).2)
theorem get_mem {k v : Tx} : ∀ {m : KV}, So (ks m) → (getK k m = some v ↔ (k, v) ∈ m)
 | [], _ => by simp [getK]
 | q :: r, h => by
   have hq : ∀ x ∈ r, lt q.1 x.1 = true := fun x hx => h.1 x.1 (List.mem_map_of_mem hx)
   rw [getK]
   split
   ·rename_i e
    simp only [Option.some.injEq, List.mem_cons]
    constructor
    ·intro h1; subst h1; subst e; exact .inl rfl
    ·rintro (h1 | h1)
     ·rw [← h1]
     ·exact absurd e (lt_ne (hq _ h1))
   ·rename_i e
    rw [get_mem h.2, List.mem_cons]
    constructor
    ·exact .inr
    ·rintro (h1 | h1)
     ·rw [← h1] at e; exact absurd rfl e
     ·exact h1
theorem get_none {k : Tx} : ∀ {m : KV}, getK k m = none ↔ k ∉ ks m
 | [] => by simp [getK]
 | q :: r => by
   rw [getK]
   split
   ·rename_i e; simp [e]
   ·rename_i e
    rw [get_none]
    simp only [List.map_cons, List.mem_cons, not_or]
    exact ⟨fun h => ⟨fun e2 => e e2.symm, h⟩, fun h => h.2⟩
theorem insT_mem {k : Tx} : ∀ {l : List Tx} {x : Tx}, x ∈ insT k l ↔ x = k ∨ x ∈ l
 | [], x => by simp [insT]
 | q :: r, x => by
   rw [insT]
   split
   ·rename_i e; subst e; simp
   ·split
    ·simp
    ·simp only [List.mem_cons, insT_mem]
     constructor
     iterate 2
      ·rintro (h | h | h)
       ·exact .inr (.inl h)
       ·exact .inl h
       ·exact .inr (.inr h)
theorem insT_so {k : Tx} : ∀ {l : List Tx}, So l → So (insT k l)
 | [], _ => ⟨by simp, trivial⟩
 | q :: r, h => by
   rw [insT]
   split
   ·exact h
   ·rename_i e
    split
    ·rename_i e2
     refine ⟨fun b hb => ?_, h⟩
     rcases List.mem_cons.1 hb with q | q
     ·subst q; exact e2
     ·exact lt_trans e2 (h.1 b q)
    ·rename_i e2
     refine ⟨fun b hb => ?_, insT_so h.2⟩
     rcases insT_mem.1 hb with h1 | h1
     ·subst h1
      cases f : lt q b with
      | true => rfl
      | false => exact absurd (lt_tri f (by simpa using e2)) e
     ·exact h.1 b h1
theorem foldT_ok : ∀ (l m : List Tx), So m → So (l.foldl (fun m k => insT k m) m) ∧ ∀ x, x ∈ l.foldl (fun m k => insT k m) m ↔ x ∈ l ∨ x ∈ m
 | [], m, h => ⟨h, by simp⟩
 | a :: l, m, h => by
   obtain ⟨h1, h2⟩ := foldT_ok l (insT a m) (insT_so h)
   refine ⟨h1, fun x => ?_⟩
   rw [List.foldl_cons, h2, insT_mem, List.mem_cons]
   constructor
   ·rintro (q | q | q)
    ·exact .inl (.inr q)
    ·exact .inl (.inl q)
    ·exact .inr q
   ·rintro ((q | q) | q)
    ·exact .inr (.inl q)
    ·exact .inl q
    ·exact .inr (.inr q)
theorem setT_so (l : List Tx) : So (setT l) := (foldT_ok l [] trivial).1
theorem setT_mem {l : List Tx} {x : Tx} : x ∈ setT l ↔ x ∈ l := by rw [setT, (foldT_ok l [] trivial).2]; simp
theorem setT_id {l : List Tx} (h : So l) : setT l = l := so_ext (setT_so l) h fun a => setT_mem
theorem zDk : ∀ (l m : KV), So (ks m) → So (ks (l.foldl (fun m p => insK p.1 p.2 m) m))
 | [], m, h => h
 | a :: l, m, h => zDk l _ (ins_so h)
theorem zFk (l : KV) : So (ks (ofL l)) := zDk l [] trivial
theorem foldD_so : ∀ (l : List Tx) (m : KV), So (ks m) → So (ks (l.foldl (fun m k => delK k m) m))
 | [], m, h => h
 | a :: l, m, h => foldD_so l _ (del_so h)
theorem apply_so {m put : KV} {drop : List Tx} (h : So (ks m)) : So (ks (zA9 m put drop)) := foldD_so _ _ (zDk _ _ h)
abbrev Tri := Tx × Tx × Nat
def entT (l : List Tri) : List (D × D × Nat) := l.map fun t => (.str t.1, .str t.2.1, t.2.2)
theorem zDq (l : List Tri) : ((entT l).all fun e => keyOk .str e.1) = true := by
 induction l with
 | nil => rfl
 | cons t l ih => simp only [entT, List.map_cons, List.all_cons, keyOk, Bool.true_and]; exact ih
theorem zAl (β τ : Nat → Option Nat) (l : List Tri) : pairs β τ (entT l) = entT l := by
 induction l with
 | nil => rfl
 | cons t l ih => simp only [entT, List.map_cons, pairs, D.rn]; congr 1
theorem entT_born (l : List Tri) : (entT l).map (·.2.2) = l.map (·.2.2) := by simp [entT]
theorem entT_len (l : List Tri) : (entT l).length = l.length := by simp [entT]
theorem entT_mem {l : List Tri} {e : D × D × Nat} (h : e ∈ entT l) : ∃ t ∈ l, e = (.str t.1, .str t.2.1, t.2.2) := by
 simp only [entT, List.mem_map] at h
 obtain ⟨t, h1, h2⟩ := h
 exact ⟨t, h1, h2.symm⟩
theorem zGn {l : List Tri} {t : Tri} (h : t ∈ l) : (.str t.1, .str t.2.1, t.2.2) ∈ entT l := by
 simp only [entT, List.mem_map]; exact ⟨t, h, rfl⟩
theorem keq_str (a b : Tx) : keq (.str a) (.str b) = (a == b) := rfl
theorem entT_none {k : Tx} : ∀ {l : List Tri} {i : Nat}, (∀ t ∈ l, t.1 ≠ k) → findM (.str k) (entT l) i = none
 | [], i, _ => rfl
 | t :: l, i, h => by
   have h1 : (k == t.1) = false := by
    have := h t (by simp)
    simp [Ne.symm this]
   simp only [entT, List.map_cons, findM, keq_str, h1, Bool.false_eq_true, if_false]
   exact entT_none (l := l) (i := i + 1) fun x hx => h x (by simp [hx])
theorem entT_find {t : Tri} : ∀ {l : List Tri} {i : Nat}, (l.map (·.1)).Nodup → t ∈ l → ∃ j, findM (.str t.1) (entT l) i = some (i + j, .str t.2.1) ∧ l[j]? = some t
 | [], i, _, h => by simp at h
 | u :: l, i, hn, h => by
   simp only [List.map_cons, List.nodup_cons] at hn
   by_cases e : u.1 = t.1
   ·have e2 : u = t := by
     rcases List.mem_cons.1 h with q | q
     ·exact q.symm
     ·exact absurd (by rw [e]; exact List.mem_map_of_mem q) hn.1
    subst e2
    exact ⟨0, by simp [entT, findM, keq_str], rfl⟩
   ·have ht : t ∈ l := by
     rcases List.mem_cons.1 h with q | q
     ·subst q; exact absurd rfl e
     ·exact q
    have h1 : (t.1 == u.1) = false := by simp [Ne.symm e]
    obtain ⟨j, h2, h3⟩ := entT_find (i := i + 1) hn.2 ht
    refine ⟨j + 1, ?_, by simpa using h3⟩
    simp only [entT, List.map_cons, findM, keq_str, h1, Bool.false_eq_true, if_false]
    rw [show i + (j + 1) = i + 1 + j by omega]
    exact h2
theorem entT_del' {k : Tx} : ∀ (l : List Tri) (i : Nat), (l.map (·.1)).Nodup → (∀ t ∈ l, t.1 ≠ k) ∧ findM (.str k) (entT l) i = none ∨
 ∃ j v, findM (.str k) (entT l) i = some (i + j, v) ∧ (entT l).eraseIdx j = entT (l.filter fun t => !(t.1 == k))
 | [], i, _ => .inl ⟨by simp, rfl⟩
 | t :: l, i, h => by
   simp only [List.map_cons, List.nodup_cons] at h
   by_cases e : t.1 = k
   ·refine .inr ⟨0, .str t.2.1, ?_, ?_⟩
    ·have h1 : (k == t.1) = true := by simp [e]
     simp [entT, findM, keq_str, h1]
    ·have h2 : (t.1 == k) = true := by simp [e]
     have h3 : l.filter (fun t => !(t.1 == k)) = l := by
      rw [List.filter_eq_self]
      intro x hx
      have : x.1 ≠ k := fun q => h.1 (by rw [e, ← q]; exact List.mem_map_of_mem hx)
      simp [this]
     rw [List.filter_cons_of_neg (by simp [h2]), h3]
     simp [entT]
   ·have h1 : (k == t.1) = false := by simp [Ne.symm e]
    rcases entT_del' l (i + 1) h.2 with ⟨q1, q2⟩ | ⟨j, v, q1, q2⟩
    ·left
     refine ⟨fun x hx => ?_, ?_⟩
     ·rcases List.mem_cons.1 hx with rfl | hx
      ·exact e
      ·exact q1 x hx
     ·simp only [entT, List.map_cons, findM, keq_str, h1, Bool.false_eq_true, if_false]
      exact q2
    ·right
     refine ⟨j + 1, v, ?_, ?_⟩
     ·simp only [entT, List.map_cons, findM, keq_str, h1, Bool.false_eq_true, if_false]
      rw [show i + (j + 1) = i + 1 + j by omega]
      exact q1
     ·rw [List.filter_cons_of_pos (by simp [e])]
      simp only [entT, List.map_cons, List.eraseIdx_cons_succ] at q2 ⊢
      rw [q2]
theorem entT_del {k : Tx} {l : List Tri} {c : Nat} (h : (l.map (·.1)).Nodup) : delM (entT l) c (.str k) = .map (entT (l.filter fun t => !(t.1 == k))) c := by
 unfold delM
 rcases entT_del' (k := k) l 0 h with ⟨q1, q2⟩ | ⟨j, v, q1, q2⟩
 ·rw [q2]
  simp only
  congr 2
  rw [eq_comm, List.filter_eq_self]
  intro x hx
  simp [q1 x hx]
 ·rw [q1]
  simp only [Nat.zero_add]
  rw [q2]
theorem zBl {α β : Type} (f : α → β) : ∀ {l : List α}, (l.map f).Nodup → l.Nodup
 | [], _ => by simp
 | x :: l, h => by
   simp only [List.map_cons, List.nodup_cons] at h ⊢
   exact ⟨fun hx => h.1 (List.mem_map_of_mem hx), zBl f h.2⟩
theorem born_inj {R : List Tri} (hB : (R.map (·.2.2)).Nodup) {t u : Tri} (ht : t ∈ R) (hu : u ∈ R) (e : t.2.2 = u.2.2) : t = u := by
 obtain ⟨a, ha, rfl⟩ := List.getElem_of_mem ht
 obtain ⟨b, hb, rfl⟩ := List.getElem_of_mem hu
 have h1 : (R.map (·.2.2))[a]'(by simpa using ha) = (R.map (·.2.2))[b]'(by simpa using hb) := by simpa using e
 have := (List.getElem_inj hB).1 h1
 subst this; rfl
theorem key_inj {R : List Tri} (hB : (R.map (·.1)).Nodup) {t u : Tri} (ht : t ∈ R) (hu : u ∈ R) (e : t.1 = u.1) : t = u := by
 obtain ⟨a, ha, rfl⟩ := List.getElem_of_mem ht
 obtain ⟨b, hb, rfl⟩ := List.getElem_of_mem hu
 have h1 : (R.map (·.1))[a]'(by simpa using ha) = (R.map (·.1))[b]'(by simpa using hb) := by simpa using e
 have := (List.getElem_inj hB).1 h1
 subst this; rfl
theorem vis_perm {R V : List Tri} (hB : (R.map (·.2.2)).Nodup) (hV : (V.map (·.2.2)).Nodup) (hs : ∀ t ∈ V, t ∈ R) (ha : ∀ t ∈ R, t.2.2 ∈ V.map (·.2.2)) : V.Perm R := by
 rw [List.perm_ext_iff_of_nodup (zBl _ hV) (zBl _ hB)]
 intro t
 refine ⟨hs t, fun ht => ?_⟩
 obtain ⟨u, hu, e⟩ := List.mem_map.1 (ha t ht)
 have := born_inj hB (hs u hu) ht e
 subst this; exact hu
theorem vis_len {R V : List Tri} (hB : (R.map (·.2.2)).Nodup) (hV : (V.map (·.2.2)).Nodup) (hs : ∀ t ∈ V, t ∈ R) : V.length ≤ R.length := by
 have h2 : V.Nodup := zBl _ hV
 clear hV
 induction V generalizing R with
 | nil => simp
 | cons t V ih =>
   simp only [List.nodup_cons] at h2
   have ht := hs t (by simp)
   have h3 : ((R.erase t).map (·.2.2)).Nodup := List.Sublist.nodup (List.erase_sublist.map _) hB
   have hR : R.Nodup := zBl _ hB
   have := ih h3 (fun u hu => (List.Nodup.mem_erase_iff hR).2 ⟨fun e => by subst e; exact h2.1 hu, hs u (by simp [hu])⟩) h2.2
   rw [List.length_erase_of_mem ht] at this
   have hpos : 0 < R.length := List.length_pos_of_mem ht
   simp; omega
abbrev prT (t : Tri) : Tx × Tx := (t.1, t.2.1)
structure MpOk (l : List Tri) (c : Nat) (m : KV) : Prop where
 nd : (l.map (·.1)).Nodup
 bn : (l.map (·.2.2)).Nodup
 lt : ∀ t ∈ l, t.2.2 < c
 mem : ∀ p, p ∈ l.map prT ↔ p ∈ m
 so : So (ks m)
theorem mp_nil : MpOk [] 0 [] := ⟨by simp, by simp, by simp, by simp, trivial⟩
theorem MpOk.len {l : List Tri} {c : Nat} {m : KV} (h : MpOk l c m) : l.length = m.length := by
 have h1 : (l.map prT).Nodup := zBl Prod.fst (by rw [List.map_map]; exact h.nd)
 have h2 : m.Nodup := zBl Prod.fst (zCy h.so)
 have := ((List.perm_ext_iff_of_nodup h1 h2).2 h.mem).length_eq
 simpa using this
theorem MpOk.some {l : List Tri} {c : Nat} {m : KV} {k v : Tx} (h : MpOk l c m) (hg : getK k m = some v) : ∃ i, findM (.str k) (entT l) 0 = some (i, .str v) := by
 obtain ⟨t, ht, e⟩ := List.mem_map.1 ((h.mem (k, v)).2 ((get_mem h.so).1 hg))
 obtain ⟨j, h1, _⟩ := entT_find (i := 0) h.nd ht
 simp only [prT, Prod.mk.injEq] at e
 rw [e.1, e.2] at h1
 exact ⟨_, h1⟩
theorem MpOk.none {l : List Tri} {c : Nat} {m : KV} {k : Tx} (h : MpOk l c m) (hg : getK k m = none) : findM (.str k) (entT l) 0 = none := by
 refine entT_none fun t ht e => get_none.1 hg ?_
 have := (h.mem (prT t)).1 (List.mem_map_of_mem ht)
 exact List.mem_map.2 ⟨_, this, e⟩
theorem MpOk.put {l : List Tri} {c : Nat} {m : KV} (h : MpOk l c m) (k v : Tx) : ∃ l' c', putM (entT l) c (.str k) (.str v) = .map (entT l') c' ∧ MpOk l' c' (insK k v m) := by
 by_cases hk : ∃ t ∈ l, t.1 = k
 ·obtain ⟨t, ht, rfl⟩ := hk
  obtain ⟨j, h1, h2⟩ := entT_find (i := 0) h.nd ht
  have hj := zAd h2
  have hjt : l[j] = t := by rw [List.getElem?_eq_getElem hj] at h2; exact Option.some.inj h2
  have hset : ∀ {β : Type} (f : Tri → β), (l.set j (t.1, v, t.2.2)).map f = (l.map f).set j (f (t.1, v, t.2.2)) := fun f => List.map_set ..
  have hid : ∀ {β : Type} (f : Tri → β), f (t.1, v, t.2.2) = f t → (l.set j (t.1, v, t.2.2)).map f = l.map f := fun f hf => by
   rw [hset, hf]
   apply List.ext_getElem? fun i => ?_
   rw [List.getElem?_set]
   split
   ·rename_i e; subst e; simp [hj, hjt]
   ·rfl
  refine ⟨l.set j (t.1, v, t.2.2), c, ?_, ?_, ?_, ?_, fun p => ?_, ins_so h.so⟩
  ·unfold putM
   rw [h1]
   simp only [Nat.zero_add]
   congr 1
   apply List.ext_getElem? fun i => ?_
   simp only [entT, List.getElem?_modify, List.getElem?_map, List.getElem?_set]
   by_cases e : j = i
   ·subst e; simp [hj, hjt]
   ·simp [e]
  ·rw [hid (·.1) rfl]; exact h.nd
  ·rw [hid (·.2.2) rfl]; exact h.bn
  ·intro u hu
   have : u.2.2 ∈ l.map (·.2.2) := by rw [← hid (·.2.2) rfl]; exact List.mem_map_of_mem hu
   obtain ⟨w, hw, e⟩ := List.mem_map.1 this
   rw [← e]; exact h.lt w hw
  ·rw [zC6 h.so]
   constructor
   ·intro hp
    obtain ⟨u, hu, rfl⟩ := List.mem_map.1 hp
    obtain ⟨i, hi, e⟩ := List.getElem_of_mem hu
    rw [List.getElem_set] at e
    split at e
    ·left; rw [← e]
    ·rename_i hne
     right
     have hi' : i < l.length := by simpa using hi
     have hul : u ∈ l := by rw [← e]; exact List.getElem_mem hi'
     refine ⟨fun q => ?_, (h.mem _).1 (List.mem_map_of_mem hul)⟩
     have q2 := key_inj h.nd hul ht q
     have q3 : l[i]? = l[j]? := by rw [h2, List.getElem?_eq_getElem hi', e, q2]
     exact hne ((List.getElem?_inj hj (zBl _ h.nd)).1 q3.symm)
   ·rintro (hp | ⟨hne, hp⟩)
    ·subst hp
     exact List.mem_map.2 ⟨(t.1, v, t.2.2), List.mem_set hj _, rfl⟩
    ·obtain ⟨u, hu, rfl⟩ := List.mem_map.1 ((h.mem p).2 hp)
     obtain ⟨i, hi, e⟩ := List.getElem_of_mem hu
     have : i ≠ j := fun q => by
      subst q
      have := List.getElem?_eq_getElem hi
      rw [h2, e] at this
      cases this; exact hne rfl
     refine List.mem_map.2 ⟨u, ?_, rfl⟩
     have hi2 : i < (l.set j (t.1, v, t.2.2)).length := by simpa using hi
     have : (l.set j (t.1, v, t.2.2))[i] = u := by rw [List.getElem_set, if_neg (fun q => this q.symm)]; exact e
     rw [← this]; exact List.getElem_mem hi2
 ·have hk' : ∀ t ∈ l, t.1 ≠ k := fun t ht e => hk ⟨t, ht, e⟩
  refine ⟨l ++ [(k, v, c)], c + 1, ?_, ?_, ?_, ?_, fun p => ?_, ins_so h.so⟩
  ·unfold putM
   rw [entT_none hk']
   simp [entT]
  ·rw [List.map_append, List.nodup_append]
   refine ⟨h.nd, by simp, fun a ha b hb e => ?_⟩
   simp at hb; subst hb; subst e
   obtain ⟨t, ht, e⟩ := List.mem_map.1 ha
   exact hk' t ht e
  ·rw [List.map_append, List.nodup_append]
   refine ⟨h.bn, by simp, fun a ha b hb e => ?_⟩
   simp at hb; subst hb; subst e
   obtain ⟨t, ht, e⟩ := List.mem_map.1 ha
   exact absurd (h.lt t ht) (by omega)
  ·intro t ht
   rcases List.mem_append.1 ht with q | q
   ·have := h.lt t q; omega
   ·simp at q; subst q; exact Nat.lt_succ_self c
  ·rw [zC6 h.so, List.map_append, List.mem_append, h.mem]
   constructor
   ·rintro (q | q)
    ·refine .inr ⟨fun e => ?_, q⟩
     obtain ⟨t, ht, e2⟩ := List.mem_map.1 ((h.mem p).2 q)
     exact hk' t ht (by rw [← e, ← e2])
    ·simp at q; exact .inl q
   ·rintro (q | ⟨_, q⟩)
    ·subst q; right; simp
    ·exact .inl q
theorem MpOk.del {l : List Tri} {c : Nat} {m : KV} (h : MpOk l c m) (k : Tx) : ∃ l', delM (entT l) c (.str k) = .map (entT l') c ∧ MpOk l' c (delK k m) := by
 refine ⟨_, entT_del h.nd, List.Sublist.nodup (List.filter_sublist.map _) h.nd, List.Sublist.nodup (List.filter_sublist.map _) h.bn, fun t ht => h.lt t (List.mem_filter.1 ht).1, fun p => ?_, del_so h.so⟩
 rw [del_mem h.so, ← h.mem]
 simp only [List.mem_map, List.mem_filter, Bool.not_eq_true', beq_eq_false_iff_ne]
 constructor
 ·rintro ⟨t, ⟨h1, h2⟩, rfl⟩; exact ⟨h2, t, h1, rfl⟩
 ·rintro ⟨h1, t, h2, rfl⟩; exact ⟨t, ⟨h2, h1⟩, rfl⟩
end Go.Proofs.YtkobjnpmjngklaaGreatDoor
end
section
set_option maxRecDepth 100000
set_option linter.unusedSimpArgs false
set_option linter.unusedVariables false
namespace Go.Proofs.YtkobjnpmjngklaaGreatDoor
open Go
def digs (l : Tx) : Prop := ∀ c ∈ l, 48 ≤ c.toNat ∧ c.toNat ≤ 57
def dval (a : Nat) (l : Tx) : Nat := l.foldl (fun a c => a * 10 + (c.toNat - 48)) a
theorem dval_ge : ∀ (l : Tx) (a : Nat), a ≤ dval a l
 | [], a => Nat.le_refl _
 | c :: r, a => by
   have := dval_ge r (a * 10 + (c.toNat - 48))
   simp only [dval, List.foldl_cons] at this ⊢
   omega
theorem parse_digs : ∀ (l : Tx) (a : Nat), digs l → dval a l < 18446744073709551616 → Lib.parseUint10 a l = .ok (dval a l)
 | [], a, _, _ => rfl
 | c :: r, a, h, hv => by
   have hc := h c (by simp)
   have h1 := dval_ge r (a * 10 + (c.toNat - 48))
   have e : dval a (c :: r) = dval (a * 10 + (c.toNat - 48)) r := rfl
   rw [e] at hv ⊢
   rw [Lib.parseUint10, if_pos hc, if_neg (by omega), if_neg (by omega)]
   exact parse_digs r _ (fun x hx => h x (by simp [hx])) hv
theorem atK_digs {l : Tx} (h : digs l) (h0 : l ≠ []) (hv : dval 0 l < 9223372036854775808) : atK l = some (dval 0 l) := by
 cases l with
 | nil => exact absurd rfl h0
 | cons c r =>
   have hc := h c (by simp)
   unfold atK Lib.atoiAll
   have e1 : ¬ c.toNat = 43 := by omega
   have e2 : ¬ c.toNat = 45 := by omega
   simp only [e1, e2, false_or, if_false, Lib.parseMag]
   rw [if_neg (by simp), parse_digs _ _ h (by omega)]
   simp only [not_false_iff, true_and, false_and, if_false]
   rw [if_neg (by omega)]
   show (if ((dval 0 (c :: r) : Nat) : Int) < 0 then none else some ((dval 0 (c :: r) : Nat) : Int).toNat) = _
   rw [if_neg (by omega), Int.toNat_natCast]
theorem dval_app (a : Nat) (l m : Tx) : dval a (l ++ m) = dval (dval a l) m := by simp [dval]
theorem dg_nat {k : Nat} (h : k < 10) : (UInt8.ofNat (48 + k)).toNat = 48 + k := by
 simp [UInt8.toNat_ofNat']; omega
theorem itF_dv : ∀ (f n : Nat), n < f → dval 0 (itF f n) = n ∧ digs (itF f n)
 | 0, n, h => by omega
 | f + 1, n, h => by
   rw [itF]
   split
   ·rename_i h1
    refine ⟨?_, fun c hc => ?_⟩
    ·simp only [dval, List.foldl_cons, List.foldl_nil, dg_nat h1]; omega
    ·rw [List.mem_singleton] at hc; subst hc; rw [dg_nat h1]; omega
   ·rename_i h1
    obtain ⟨h2, h3⟩ := itF_dv f (n / 10) (by omega)
    have hm : n % 10 < 10 := Nat.mod_lt _ (by omega)
    refine ⟨?_, fun c hc => ?_⟩
    ·rw [dval_app, h2]
     simp only [dval, List.foldl_cons, List.foldl_nil, dg_nat hm]
     omega
    ·rcases List.mem_append.1 hc with q | q
     ·exact h3 c q
     ·rw [List.mem_singleton] at q; subst q; rw [dg_nat hm]; omega
theorem itK_dv (n : Nat) : dval 0 (itK n) = n ∧ digs (itK n) := itF_dv _ _ (by omega)
theorem itK_ne (n : Nat) : itK n ≠ [] := fun e => by have := itK_pos n; rw [e] at this; simp at this
theorem atK_itK {n : Nat} (h : n < 9223372036854775808) : atK (itK n) = some n := by
 obtain ⟨h1, h2⟩ := itK_dv n
 have := atK_digs h2 (itK_ne n) (by rw [h1]; exact h)
 rw [this, h1]
theorem dval_zeros : ∀ k : Nat, dval 0 (List.replicate k 48) = 0
 | 0 => rfl
 | k + 1 => by
   have := dval_zeros k
   simp only [dval, List.replicate_succ, List.foldl_cons] at this ⊢
   exact this
theorem dgW_dv (n w : Nat) : dval 0 (dgW n w) = n ∧ digs (dgW n w) := by
 obtain ⟨h1, h2⟩ := itK_dv n
 refine ⟨by rw [dgW, dval_app, dval_zeros, h1], fun c hc => ?_⟩
 rcases List.mem_append.1 hc with q | q
 ·rw [List.eq_of_mem_replicate q]; decide
 ·exact h2 c q
theorem dval_mul : ∀ (l : Tx) (a : Nat), dval a l = a * 10 ^ l.length + dval 0 l
 | [], a => by simp [dval]
 | c :: r, a => by
   have e : ∀ b, dval b (c :: r) = dval (b * 10 + (c.toNat - 48)) r := fun _ => rfl
   rw [e, e, dval_mul r (a * 10 + _), dval_mul r (0 * 10 + _), List.length_cons, Nat.pow_succ, Nat.add_mul, Nat.zero_mul, Nat.zero_add, Nat.mul_assoc, Nat.mul_comm 10, Nat.add_assoc]
theorem dg_pl {p : Nat} (h : p < 100000000) : (dgW p 8).length = 8 := zCh (by simpa using h) (by omega)
theorem zGa {place : Nat} {c : Tx} : (sealT place c).drop 16 = c ++ zr (48 - c.length) := by
 rw [sealT, List.drop_append_of_le_length (by simp), List.drop_of_length_le (by simp)]; simp
theorem posK_head {size place a c : Nat} (ha : a < 2) (hc : c ≤ size) (hs : size < 10000000) : posK size place (headT place a c) = some (a, c) := by
 have l1 := zCh (n := a) (w := 1) (by simp; omega) (by omega)
 have l2 := zCh (n := c) (w := 7) (by simp; omega) (by omega)
 have e : ((headT place a c).take 24).drop 16 = dgW a 1 ++ dgW c 7 := by
  rw [List.drop_take, headT, zGa, List.take_append_of_le_length (by simp [l1, l2]), List.take_of_length_le (by simp [l1, l2])]
 have ev : dval 0 (dgW a 1 ++ dgW c 7) = a * 10000000 + c := by
  rw [dval_app, dval_mul, l2, (dgW_dv a 1).1, (dgW_dv c 7).1]
 have hd : digs (dgW a 1 ++ dgW c 7) := fun x hx => by
  rcases List.mem_append.1 hx with q | q
  ·exact (dgW_dv a 1).2 x q
  ·exact (dgW_dv c 7).2 x q
 unfold posK
 rw [e, atK_digs hd (fun q => by have := congrArg List.length q; simp [l1, l2] at this) (by rw [ev]; omega), ev]
 have e1 : (a * 10000000 + c) / 10000000 = a := by omega
 have e2 : (a * 10000000 + c) % 10000000 = c := by omega
 simp only [e1, e2]
 rw [if_pos ⟨ha, hc, trivial⟩]
theorem posK_some {size place : Nat} {t : Tx} {p : Nat × Nat} (h : posK size place t = some p) : headT place p.1 p.2 = t ∧ p.1 < 2 ∧ p.2 ≤ size := by
 unfold posK at h
 split at h
 ·cases h
 ·split at h
  ·rename_i h1
   simp only [Option.some.injEq] at h
   subst h
   exact ⟨h1.2.2, h1.1, h1.2.1⟩
  ·cases h
theorem pieK_seal {place : Nat} {x : Tx} (h1 : 1 ≤ x.length) (h2 : x.length ≤ 46) : pieK place (sealT place (dgW x.length 2 ++ x)) = x := by
 have l1 := zCh (n := x.length) (w := 2) (by simp; omega) (by omega)
 have e : ((sealT place (dgW x.length 2 ++ x)).take 18).drop 16 = dgW x.length 2 := by
  rw [List.drop_take, zGa, List.append_assoc, List.take_append_of_le_length (by simp [l1]), List.take_of_length_le (by simp [l1])]
 have e2 : ((sealT place (dgW x.length 2 ++ x)).take (18 + x.length)).drop 18 = x := by
  rw [List.drop_take, show 18 = 16 + 2 from rfl, ← List.drop_drop, zGa, List.append_assoc, List.drop_append_of_le_length (by simp [l1]), List.drop_of_length_le (by simp [l1])]
  rw [List.nil_append, List.take_append_of_le_length (by omega), List.take_of_length_le (by omega)]
 unfold pieK
 rw [e, atK_digs (dgW_dv _ _).2 (fun q => by have := congrArg List.length q; simp [l1] at this) (by rw [(dgW_dv _ _).1]; omega), (dgW_dv _ _).1]
 simp only [e2]
 rw [if_pos ⟨h1, h2, trivial⟩]
theorem pieK_some {place : Nat} {t : Tx} (h : pieK place t ≠ []) : 1 ≤ (pieK place t).length ∧ (pieK place t).length ≤ 46 := by
 revert h
 unfold pieK
 split
 ·intro h; exact absurd rfl h
 ·split
  ·rename_i n h1 h2
   intro h
   have : ((t.take (18 + n)).drop 18).length ≤ n := by simp; omega
   exact ⟨List.length_pos_iff.2 h, by omega⟩
  ·intro h; exact absurd rfl h
theorem chF_cat : ∀ (f : Nat) (t : Tx), t.length ≤ f → (chF f t).flatten = t
 | 0, t, h => by simp at h; subst h; rfl
 | f + 1, t, h => by
   rw [chF]
   split
   ·rename_i e; rw [e]; rfl
   ·rename_i e
    have : 0 < t.length := List.length_pos_iff.2 e
    rw [List.flatten_cons, chF_cat f _ (by simp; omega)]
    exact List.take_append_drop _ _
theorem chF_len : ∀ (f : Nat) (t : Tx), t.length ≤ f → (chF f t).length = cntK t
 | 0, t, h => by simp at h; subst h; rfl
 | f + 1, t, h => by
   rw [chF]
   split
   ·rename_i e; rw [e]; rfl
   ·rename_i e
    have : 0 < t.length := List.length_pos_iff.2 e
    rw [List.length_cons, chF_len f _ (by simp; omega)]
    unfold cntK
    simp only [List.length_drop]
    omega
theorem chF_el : ∀ (f : Nat) (t : Tx), ∀ x ∈ chF f t, 1 ≤ x.length ∧ x.length ≤ 46
 | 0, t, x, h => by simp [chF] at h
 | f + 1, t, x, h => by
   rw [chF] at h
   split at h
   ·simp at h
   ·rename_i e
    have : 0 < t.length := List.length_pos_iff.2 e
    rcases List.mem_cons.1 h with q | q
    ·subst q; simp; omega
    ·exact chF_el f _ x q
theorem chK_cat (t : Tx) : (chK t).flatten = t := chF_cat _ _ (Nat.le_refl _)
theorem zA0 (t : Tx) : (chK t).length = cntK t := chF_len _ _ (Nat.le_refl _)
theorem chK_el {t x : Tx} (h : x ∈ chK t) : 1 ≤ x.length ∧ x.length ≤ 46 := chF_el _ _ x h
theorem chF_any : ∀ (f g : Nat) (t : Tx), t.length ≤ f → t.length ≤ g → chF f t = chF g t
 | 0, 0, t, _, _ => rfl
 | 0, g + 1, t, h, _ => by simp at h; subst h; rfl
 | f + 1, 0, t, _, h => by simp at h; subst h; rfl
 | f + 1, g + 1, t, h1, h2 => by
   rw [chF, chF]
   split
   ·rfl
   ·rename_i e
    have : 0 < t.length := List.length_pos_iff.2 e
    rw [chF_any f g _ (by simp; omega) (by simp; omega)]
theorem chK_step {t : Tx} (h : t ≠ []) : chK t = t.take 46 :: chK (t.drop 46) := by
 have hp : 0 < t.length := List.length_pos_iff.2 h
 have : chK t = chF (t.length - 1 + 1) t := by rw [chK]; congr 1; omega
 rw [this, chF, if_neg h, chK]
 congr 1
 exact chF_any _ _ _ (by simp; omega) (by simp)
theorem zCo : ∀ (l : List Tx) (i : Nat), (secK i l).length = l.length
 | [], _ => rfl
 | x :: l, i => by simp [secK, zCo l]
theorem secK_get : ∀ (l : List Tx) (i j : Nat) (hj : j < l.length), (secK i l)[j]? = some (sealT (i + j) (dgW l[j].length 2 ++ l[j]))
 | [], _, j, h => by simp at h
 | x :: l, i, 0, _ => rfl
 | x :: l, i, j + 1, h => by
   have := secK_get l (i + 1) j (by simpa using h)
   simp only [secK, List.getElem?_cons_succ, List.getElem_cons_succ]
   rw [this, show i + 1 + j = i + (j + 1) by omega]
theorem secK_app : ∀ (l : List Tx) (i : Nat) (x : Tx), secK i (l ++ [x]) = secK i l ++ [sealT (i + l.length) (dgW x.length 2 ++ x)]
 | [], i, x => rfl
 | y :: l, i, x => by
   simp only [List.cons_append, secK, secK_app l, List.length_cons]
   congr 4; omega
theorem zFo : ∀ (l : List Tx) (i : Nat), (∀ x ∈ l, x.length ≤ 46) → ∀ t ∈ secK i l, t.length = 64
 | [], i, _, t, h => by simp [secK] at h
 | x :: l, i, hx, t, h => by
   rcases List.mem_cons.1 h with q | q
   ·subst q
    have h1 := hx x (by simp)
    have := zCh (n := x.length) (w := 2) (by simp; omega) (by omega)
    exact sealT_len (by simp [this]; omega)
   ·exact zFo l _ (fun y hy => hx y (by simp [hy])) t q
theorem cutK_app : ∀ (s r : Tx), (58 : UInt8) ∉ s → cutK (s ++ 58 :: r) = some (s, r)
 | [], r, _ => by simp [cutK]
 | c :: s, r, h => by
   simp only [List.mem_cons, not_or] at h
   rw [List.cons_append, cutK, if_neg (fun e => h.1 e.symm), cutK_app s r h.2]
   rfl
theorem zEz : ∀ {t s r : Tx}, cutK t = some (s, r) → t = s ++ 58 :: r
 | [], s, r, h => by simp [cutK] at h
 | c :: t, s, r, h => by
   rw [cutK] at h
   split at h
   ·rename_i e
    simp only [Option.some.injEq, Prod.mk.injEq] at h
    rw [← h.1, ← h.2, e]; rfl
   ·cases q : cutK t with
    | none => rw [q] at h; cases h
    | some p =>
      rw [q] at h
      simp only [Option.map_some, Option.some.injEq, Prod.mk.injEq] at h
      rw [zEz (t := t) (s := p.1) (r := p.2) q, ← h.1, h.2]; rfl
theorem it_no (n : Nat) : (58 : UInt8) ∉ itK n := fun h => by have := (itK_dv n).2 _ h; revert this; decide
theorem zB5 (s : Tx) (l : List Tx) : joinK (s :: l) = itK s.length ++ 58 :: (s ++ joinK l) := by simp [joinK, zEr]
theorem split_join : ∀ (l : List Tx) (f : Nat), (∀ s ∈ l, s.length < 9223372036854775808) → (joinK l).length ≤ f → zCx f (joinK l) = some l
 | [], 0, _, _ => rfl
 | [], f + 1, _, _ => rfl
 | s :: l, 0, _, h => by rw [zB5] at h; simp at h
 | s :: l, f + 1, hs, h => by
   rw [zB5] at h ⊢
   have hp := itK_pos s.length
   rw [zCx, if_neg (by simp), cutK_app _ _ (it_no _)]
   simp only [atK_itK (hs s (by simp)), true_and]
   rw [if_pos ⟨by simp, trivial⟩]
   have e1 : (s ++ joinK l).drop s.length = joinK l := by simp
   have e2 : (s ++ joinK l).take s.length = s := by simp
   rw [e1, e2, split_join l f (fun x hx => hs x (by simp [hx])) (by simp at h ⊢; omega)]
   rfl
theorem splitK_join {l : List Tx} (h : ∀ s ∈ l, s.length < 9223372036854775808) : zCe (joinK l) = some l := split_join l _ h (Nat.le_refl _)
theorem split_some : ∀ (f : Nat) {t : Tx} {l : List Tx}, zCx f t = some l → joinK l = t
 | 0, t, l, h => by
   rw [zCx] at h
   split at h
   ·rename_i e; simp only [Option.some.injEq] at h; subst h; subst e; rfl
   ·cases h
 | f + 1, t, l, h => by
   rw [zCx] at h
   split at h
   ·rename_i e; simp only [Option.some.injEq] at h; subst h; subst e; rfl
   ·split at h
    ·cases h
    ·rename_i s r hc
     split at h
     ·cases h
     ·rename_i n hn
      split at h
      ·rename_i h1
       cases q : zCx f (r.drop n) with
       | none => rw [q] at h; cases h
       | some l' =>
         rw [q] at h
         simp only [Option.map_some, Option.some.injEq] at h
         subst h
         rw [zB5, split_some f q, List.take_append_drop, List.length_take, Nat.min_eq_left h1.1, h1.2, ← zEz hc]
      ·cases h
theorem splitK_some {t : Tx} {l : List Tx} (h : zCe t = some l) : joinK l = t := split_some _ h
theorem joinK_app (a b : List Tx) : joinK (a ++ b) = joinK a ++ joinK b := by simp [joinK]
theorem split_le : ∀ (f : Nat) {t : Tx} {l : List Tx}, zCx f t = some l → l.length ≤ t.length ∧ ∀ s ∈ l, s.length ≤ t.length := fun f t l h => by
 have := split_some f h
 subst this
 clear h
 induction l with
 | nil => simp
 | cons s l ih =>
   rw [zB5]
   simp only [List.length_cons, List.length_append]
   refine ⟨by omega, fun x hx => ?_⟩
   rcases List.mem_cons.1 hx with q | q
   ·subst q; omega
   ·have := ih.2 x q; omega
end Go.Proofs.YtkobjnpmjngklaaGreatDoor
end
section
set_option maxRecDepth 100000
set_option linter.unusedSimpArgs false
set_option linter.unusedVariables false
namespace Go.Proofs.YtkobjnpmjngklaaGreatDoor
open Go
theorem zEw : ∀ (put m : KV), (ks put).Nodup → So (ks m) → ∀ p, p ∈ put.foldl (fun m p => insK p.1 p.2 m) m ↔ p ∈ put ∨ (p.1 ∉ ks put ∧ p ∈ m)
 | [], m, _, _, p => by simp
 | a :: l, m, hn, h, p => by
   simp only [ks, List.map_cons, List.nodup_cons] at hn
   rw [List.foldl_cons, zEw l _ hn.2 (ins_so h), zC6 h]
   simp only [List.mem_cons, List.map_cons, not_or]
   constructor
   ·rintro (q | ⟨q1, q2 | q2⟩)
    ·exact .inl (.inr q)
    ·exact .inl (.inl q2)
    ·exact .inr ⟨⟨q2.1, q1⟩, q2.2⟩
   ·rintro ((q | q) | ⟨⟨q1, q2⟩, q3⟩)
    ·subst q; exact .inr ⟨hn.1, .inl rfl⟩
    ·exact .inl q
    ·exact .inr ⟨q2, .inr ⟨q1, q3⟩⟩
theorem foldD_mem : ∀ (l : List Tx) (m : KV), So (ks m) → ∀ p, p ∈ l.foldl (fun m k => delK k m) m ↔ p.1 ∉ l ∧ p ∈ m
 | [], m, _, p => by simp
 | a :: l, m, h, p => by
   rw [List.foldl_cons, foldD_mem l _ (del_so h), del_mem h]
   simp only [List.mem_cons, not_or]
   constructor
   ·rintro ⟨q1, q2, q3⟩; exact ⟨⟨q2, q1⟩, q3⟩
   ·rintro ⟨⟨q2, q1⟩, q3⟩; exact ⟨q1, q2, q3⟩
theorem zE5 {m put : KV} {drop : List Tx} (h : So (ks m)) (hp : (ks put).Nodup) (p : Tx × Tx) : p ∈ zA9 m put drop ↔ p.1 ∉ drop ∧ (p ∈ put ∨ (p.1 ∉ ks put ∧ p ∈ m)) := by
 rw [zA9, foldD_mem _ _ (zDk _ _ h), zEw _ _ hp h]
theorem apply_set {m put : KV} {drop : List Tx} (h : So (ks m)) (hp : (ks put).Nodup) : zA9 m put (setT drop) = zA9 m put drop := by
 refine so_kv (apply_so h) (apply_so h) fun p => ?_
 rw [zE5 h hp, zE5 h hp, setT_mem]
theorem ofL_id {m : KV} (h : So (ks m)) : ofL m = m := by
 refine so_kv (zFk m) h fun p => ?_
 rw [ofL, zEw m [] (zCy h) trivial]; simp
theorem apply_nil {m : KV} (h : So (ks m)) : zA9 [] m [] = m := ofL_id h
def zAq (m : KV) : List Tx := (m.map fun p => [p.1, p.2]).flatten
theorem zBb : ∀ m : KV, (zAq m).length = 2 * m.length
 | [] => rfl
 | p :: m => by
   have := zBb m
   simp only [zAq, List.map_cons, List.flatten_cons, List.length_append, List.length_cons, List.length_nil] at this ⊢
   omega
theorem zFd : ∀ m : KV, zBj (zAq m) = m
 | [] => rfl
 | p :: m => by
   have := zFd m
   simp only [zAq, List.map_cons, List.flatten_cons, List.cons_append, List.nil_append, zBj] at this ⊢
   rw [this]
theorem flat_inj {a b : KV} (h : zAq a = zAq b) : a = b := by rw [← zFd a, h, zFd]
theorem flatKV_app (a b : KV) : zAq (a ++ b) = zAq a ++ zAq b := by simp [zAq]
theorem flatKV_mem {m : KV} {x : Tx} (h : x ∈ zAq m) : ∃ p ∈ m, x = p.1 ∨ x = p.2 := by
 simp only [zAq, List.mem_flatten, List.mem_map] at h
 obtain ⟨l, ⟨p, hp, rfl⟩, hx⟩ := h
 exact ⟨p, hp, by simpa using hx⟩
def listK (put : KV) (drop : List Tx) : List Tx := itK put.length :: zAq put ++ itK drop.length :: drop
theorem zD2 (put : KV) (drop : List Tx) : textK put drop = joinK [joinK (listK put drop)] := rfl
theorem wrong_ok {put : KV} {drop : List Tx} (h : zAr put drop = 0) : (∀ p ∈ put, p.1 ≠ [] ∧ p.1.length ≤ 200 ∧ p.1 ∉ drop ∧ p.2.length ≤ 20000) ∧ ∀ k ∈ drop, k ≠ [] ∧ k.length ≤ 200 := by
 unfold zAr at h
 split at h
 ·rename_i h1
  simp only [Bool.and_eq_true, List.all_eq_true, Bool.not_eq_true', keyK, decide_eq_true_eq] at h1
  split at h
  ·cases h
  ·rename_i h2
   simp only [Bool.not_eq_true, List.any_eq_false, decide_eq_true_eq] at h2
   refine ⟨fun p hp => ?_, fun k hk => h1.2 k hk⟩
   have := h1.1 p hp
   exact ⟨this.1.1, this.1.2, by simpa using this.2, by have := h2 p hp; omega⟩
 ·cases h
theorem wrong_of {put : KV} {drop : List Tx} (h : ∀ p ∈ put, p.1 ≠ [] ∧ p.1.length ≤ 200 ∧ p.1 ∉ drop ∧ p.2.length ≤ 20000) (hd : ∀ k ∈ drop, k ≠ [] ∧ k.length ≤ 200) : zAr put drop = 0 := by
 unfold zAr
 rw [if_pos, if_neg]
 ·simp only [Bool.not_eq_true, List.any_eq_false, decide_eq_true_eq]
  intro p hp
  have := (h p hp).2.2.2
  omega
 ·simp only [Bool.and_eq_true, List.all_eq_true, Bool.not_eq_true', keyK, decide_eq_true_eq]
  exact ⟨fun p hp => ⟨⟨(h p hp).1, (h p hp).2.1⟩, by simpa using (h p hp).2.2.1⟩, fun k hk => hd k hk⟩
theorem listK_small {put : KV} {drop : List Tx} (hw : zAr put drop = 0) (h1 : put.length ≤ 1000000) (h2 : drop.length ≤ 1000000) : ∀ s ∈ listK put drop, s.length ≤ 20000 := by
 obtain ⟨w1, w2⟩ := wrong_ok hw
 intro s hs
 have hi : ∀ n : Nat, n ≤ 1000000 → (itK n).length ≤ 20000 := fun n hn => Nat.le_trans (itK_le (n := n) (w := 7) (by omega) (by omega)) (by omega)
 simp only [listK, List.cons_append, List.mem_cons, List.mem_append] at hs
 rcases hs with q | q | q | q
 ·subst q; exact hi _ h1
 ·obtain ⟨p, hp, e⟩ := flatKV_mem q
  have := w1 p hp
  rcases e with e | e <;> subst e <;> omega
 ·subst q; exact hi _ h2
 ·have := w2 s q; omega
theorem replay_text {m put : KV} {drop : List Tx} (hp : So (ks put)) (hd : So drop) (hw : zAr put drop = 0) (h0 : put.length + drop.length ≠ 0) (h1 : put.length ≤ 1000000) (h2 : drop.length ≤ 1000000) :
 zAo m (joinK (listK put drop)) = some (zA9 m put drop) := by
 have hs := listK_small hw h1 h2
 unfold zAo
 rw [splitK_join (fun s hq => by have := hs s hq; omega)]
 show (match atK (itK put.length) with | none => none | some n => _) = _
 rw [atK_itK (by omega)]
 have hl := zBb put
 have e1 : (zAq put ++ itK drop.length :: drop).take (2 * put.length) = zAq put := by
  rw [List.take_append_of_le_length (by omega), List.take_of_length_le (by omega)]
 have e2 : (zAq put ++ itK drop.length :: drop).drop (2 * put.length + 1) = drop := by
  rw [← hl, List.drop_append]
  rw [List.drop_of_length_le (by omega)]
  simp
 simp only [List.nil_append, List.append_eq, e1, e2, zFd, ofL_id hp]
 rw [if_pos (by simp [hl]; omega), if_pos ⟨h0, hw, rfl, setT_id hd⟩]
theorem joinK_le {B : Nat} (hB : B < 10 ^ 18) : ∀ l : List Tx, (∀ s ∈ l, s.length ≤ B) → (joinK l).length ≤ l.length * (B + 19)
 | [], _ => by simp [joinK]
 | s :: l, h => by
   have := joinK_le hB l fun x hx => h x (by simp [hx])
   have h1 := h s (by simp)
   have h2 := itK_le (n := s.length) (w := 18) (by omega) (by omega)
   rw [zB5]
   simp only [List.length_append, List.length_cons, Nat.succ_mul]
   omega
theorem goW_ok {n : Nat} : ∀ (l : Wr) {S : Sx}, SxOk S n → (∀ g ∈ l, g.1 + g.2.length ≤ n ∧ ∀ t ∈ g.2, t.length = 64) → SxOk (goW S l) n
 | [], S, h, _ => h
 | g :: l, S, h, hl => by
   have := hl g (by simp)
   exact goW_ok l (zB1 h this.1 this.2) fun x hx => hl x (by simp [hx])
theorem zEv (S : Sx) (a b : Wr) : goW S (a ++ b) = goW (goW S a) b := by simp [goW]
end Go.Proofs.YtkobjnpmjngklaaGreatDoor
end
section
set_option maxRecDepth 100000
set_option linter.unusedSimpArgs false
set_option linter.unusedVariables false
namespace Go.Proofs.YtkobjnpmjngklaaGreatDoor
open Go
def padT (c : Tx) : Tx := c ++ zr (48 - c.length)
theorem padT_len {c : Tx} (h : c.length ≤ 48) : (padT c).length = 48 := by simp [padT]; omega
theorem zF9 (place : Nat) (c : Tx) : sealT place c = smK (dgW place 8 ++ padT c) ++ padT c := rfl
theorem seal_take (place : Nat) (c : Tx) : (sealT place c).take 16 = smK (dgW place 8 ++ padT c) := by
 rw [zF9, List.take_append_of_le_length (by simp), List.take_of_length_le (by simp)]
theorem zEn (place : Nat) (c : Tx) : (sealT place c).drop 16 = padT c := zGa
theorem split3 (m : Nat) (X : Tx) : X = X.take (8 * m) ++ (X.drop (8 * m)).take 8 ++ X.drop (8 * m + 8) := by
 rw [List.append_assoc, show X.drop (8 * m + 8) = (X.drop (8 * m)).drop 8 by rw [List.drop_drop], List.take_append_drop, List.take_append_drop]
theorem block_eq {d X Y : Tx} (m : Nat) (hd : d.length = 8) (hX : X.length = 48) (hY : Y.length = 48) (hm : m < 6) (h : smK (d ++ X) = smK (d ++ Y)) (h1 : X.take (8 * m) = Y.take (8 * m)) (h2 : X.drop (8 * m + 8) = Y.drop (8 * m + 8)) : X = Y := by
 have e1 := split3 m X
 have e2 := split3 m Y
 rw [← h1, ← h2] at e2
 have l1 : ((X.drop (8 * m)).take 8).length = 8 := by simp [hX]; omega
 have l2 : ((Y.drop (8 * m)).take 8).length = 8 := by simp [hY]; omega
 rw [← smK_eq, ← smK_eq, e1, e2] at h
 have a1 : ∀ B : Tx, d ++ (X.take (8 * m) ++ B ++ X.drop (8 * m + 8)) = (d ++ X.take (8 * m)) ++ B ++ X.drop (8 * m + 8) := fun B => by simp
 rw [a1, a1] at h
 have := (sum_block (m + 1) (by simp [hd, hX]; omega) (by rw [l1, l2]) (by omega) (by simp [hd, hX]; omega)).1 h
 rw [e1, e2, this]
theorem seal_torn {place k : Nat} {c o c' : Tx} (hp : place < 100000000) (hc : c.length ≤ 48) (hc' : c'.length ≤ 48) (hk : 16 < k) (ho : o.length = 64) (hz : ∀ j, 24 ≤ j → o[j]? = (sealT place c)[j]?) (h : sealT place c' = (sealT place c).take k ++ o.drop k) : sealT place c' = sealT place c := by
 have hd := dg_pl hp
 suffices hx : padT c' = padT c by rw [zF9, zF9, hx]
 have hl := sealT_len (place := place) hc
 have hget : ∀ j : Nat, ¬ (16 ≤ j ∧ j < 24) → (sealT place c')[j]? = (sealT place c)[j]? := fun j hj => by
  rw [h]
  by_cases hjk : j < k
  ·by_cases h64 : k ≤ 64
   ·rw [List.getElem?_append_left (by simp; omega), List.getElem?_take, if_pos hjk]
   ·rw [List.drop_of_length_le (by omega), List.append_nil, List.getElem?_take, if_pos hjk]
  ·rw [← hz j (by omega)]
   by_cases h64 : k ≤ 64
   ·rw [List.getElem?_append_right (by simp; omega), List.getElem?_drop]
    congr 1; simp; omega
   ·rw [List.drop_of_length_le (by omega), List.append_nil, List.getElem?_take, if_neg hjk, List.getElem?_eq_none (by omega)]
 have ht : smK (dgW place 8 ++ padT c') = smK (dgW place 8 ++ padT c) := by
  rw [← seal_take, ← seal_take]
  refine List.ext_getElem? fun j => ?_
  rw [List.getElem?_take, List.getElem?_take]
  split
  ·exact hget j (by omega)
  ·rfl
 have hpad : ∀ j : Nat, ¬ j < 8 → (padT c')[j]? = (padT c)[j]? := fun j hj => by
  have := hget (16 + j) (by omega)
  rw [← zEn place c', ← zEn place c, List.getElem?_drop, List.getElem?_drop]; exact this
 refine block_eq 0 hd (padT_len hc') (padT_len hc) (by omega) ht (by simp) ?_
 refine List.ext_getElem? fun j => ?_
 rw [List.getElem?_drop, List.getElem?_drop]
 exact hpad _ (by omega)
end Go.Proofs.YtkobjnpmjngklaaGreatDoor
end
section
set_option linter.unusedSimpArgs false
set_option linter.unusedVariables false
namespace Go.Proofs.YtkobjnpmjngklaaGreatDoor
open Go GoV
abbrev bys (l : List UInt8) : List D := l.map fun b => .int .u8 b.toNat
theorem zEi (l : List UInt8) : (bys l).length = l.length := List.length_map _
theorem bys_elems : ∀ l : List UInt8, zAh 1 (bys l) = true
 | [] => rfl
 | b :: l => by simp [zAh, D.iV, D.cells, bys_elems l]
theorem bys_chunk : ∀ l : List UInt8, chunk 1 l.length (bys l) = bys l
 | [] => rfl
 | b :: l => by
   have := bys_chunk l
   simpa [chunk, bys] using this
theorem zGu : ∀ l : List UInt8, bytesOf (bys l) = some l
 | [] => rfl
 | b :: l => by
   have : b.toNat < 256 := UInt8.toNat_lt b
   simp only [bys, List.map_cons, bytesOf]
   rw [show bytesOf (List.map (fun b => D.int .u8 b.toNat) l) = some l from zGu l]
   simp
theorem bys_flat : ∀ l : List UInt8, flatD (bys l) = bys l
 | [] => rfl
 | b :: l => by simp [flatD, D.cells, bys_flat l]
theorem bys_get {l : List UInt8} {i : Nat} (h : i < l.length) : (bys l).getD i .u0 = .int .u8 ((l.getD i 0).toNat : Nat) := by
 simp [bys, List.getD, h]
theorem bys_set (l : List UInt8) (i : Nat) (b : UInt8) : (bys l).set i (.int .u8 (b.toNat : Nat)) = bys (l.set i b) := by simp [bys, List.map_set]
theorem zAi (f g : Nat → Option Nat) : ∀ l : List UInt8, D.rnL f g (bys l) = bys l
 | [] => rfl
 | b :: l => by simp [D.rnL, D.rn, zAi f g l]
theorem bys_drop (l : List UInt8) (n : Nat) : (bys l).drop n = bys (l.drop n) := (List.map_drop).symm
theorem chunk_bys : ∀ (n : Nat) (l : List UInt8), n ≤ l.length → chunk 1 n (bys l) = bys (l.take n)
 | 0, l, _ => by simp [chunk]
 | n + 1, [], h => by simp at h
 | n + 1, b :: l, h => by
   have := chunk_bys n l (by simpa using h)
   simpa [chunk, bys] using this
theorem rC (β τ : Nat → Option Nat) (cs : List D) : Blk.rn β τ (.cells cs) = .cells (D.rnL β τ cs) := rfl
theorem rM (β τ : Nat → Option Nat) (es : List (D × D × Nat)) (c : Nat) : Blk.rn β τ (.map es c) = .map (pairs β τ es) c := rfl
theorem elems_sec {hp : Hp} {b off len cap : Nat} {F : List UInt8} (hB : hp.H[b]? = some (.cells (bys F))) (h1 : off + len ≤ F.length) (h2 : len ≤ cap) : zA4 hp 1 (.sl b 1 off len cap) = some (bys ((F.drop off).take len)) := by
 simp only [zA4, hB, true_and, h2, if_true, Nat.mul_one, zEi, h1]
 rw [bys_drop, chunk_bys _ _ (by simp; omega)]
theorem setL_bys : ∀ (x F : List UInt8) (off : Nat), off + x.length ≤ F.length → setL (bys F) off (bys x) = bys (F.take off ++ (x ++ F.drop (off + x.length)))
 | [], F, off, _ => by simp [setL]
 | b :: x, F, off, h => by
   simp only [List.length_cons] at h
   show setL ((bys F).set off (.int .u8 b.toNat)) (off + 1) (bys x) = _
   rw [bys_set, setL_bys x _ _ (by simp; omega)]
   congr 1
   rw [List.take_set, List.drop_set_of_lt (by omega)]
   have : F.take (off + 1) = F.take off ++ [F[off]] := by rw [List.take_succ_eq_append_getElem (by omega)]
   rw [this, List.set_append_right _ _ (by simp; omega)]
   have e : off - (F.take off).length = 0 := by simp; omega
   rw [e]
   simp only [List.set_cons_zero, List.append_assoc, List.cons_append, List.nil_append, List.length_cons]
   congr 4; omega
theorem zF2 : ∀ n : Nat, zeros [.int .u8 0] n = bys (zr n)
 | 0 => rfl
 | n + 1 => by
   have := zF2 n
   simp only [zeros, this]
   rfl
end Go.Proofs.YtkobjnpmjngklaaGreatDoor
end
section
set_option linter.unusedSimpArgs false
set_option linter.unusedVariables false
namespace Go.Proofs.YtkobjnpmjngklaaGreatDoor
open Go GoV
def strs (l : List Tx) : List D := l.map D.str
theorem zAk (l : List Tx) : (strs l).length = l.length := List.length_map _
theorem flat_strs (l : List Tx) : flatD (strs l) = strs l := by
 induction l with
 | nil => rfl
 | cons x l ih => simp only [strs, List.map_cons, flatD, D.cells] at ih ⊢; rw [ih]; rfl
theorem zBk (l : List Tx) : zAh 1 (strs l) = true := by
 induction l with
 | nil => rfl
 | cons x l ih => simp only [strs, List.map_cons, zAh] at ih ⊢; rw [ih]; rfl
theorem zD9 (β τ : Nat → Option Nat) : ∀ l : List Tx, D.rnL β τ (strs l) = strs l
 | [] => rfl
 | x :: l => by
   have := zD9 β τ l
   simp only [strs, List.map_cons, D.rnL, D.rn] at this ⊢
   rw [this]
theorem zAv : ∀ l : List Tx, D.cL (strs l) = true
 | [] => rfl
 | x :: l => by
   have := zAv l
   simp only [strs, List.map_cons, D.cL, D.closed, Bool.true_and] at this ⊢
   exact this
theorem zA3 : ∀ l : List Tx, D.erL (strs l) = strs l
 | [] => rfl
 | x :: l => by
   have := zA3 l
   simp only [strs, List.map_cons, D.erL, D.er] at this ⊢
   rw [this]
theorem zBt {l : List Tx} {i : Nat} (h : i < l.length) : (strs l).getD i .u0 = .str l[i] := by
 rw [strs, List.getD_eq_getElem?_getD, List.getElem?_map, List.getElem?_eq_getElem h]; rfl
theorem strs_take (l : List Tx) (n : Nat) : (strs l).take n = strs (l.take n) := (List.map_take).symm
theorem strs_drop (l : List Tx) (n : Nat) : (strs l).drop n = strs (l.drop n) := (List.map_drop).symm
theorem chunk_strs : ∀ (n : Nat) (l : List Tx), n ≤ l.length → chunk 1 n (strs l) = strs (l.take n)
 | 0, l, _ => by simp [chunk, strs]
 | n + 1, [], h => by simp at h
 | n + 1, b :: l, h => by
   have := chunk_strs n l (by simpa using h)
   simpa [chunk, strs] using this
theorem setL_strs : ∀ (x F : List Tx) (off : Nat), off + x.length ≤ F.length → setL (strs F) off (strs x) = strs (F.take off ++ (x ++ F.drop (off + x.length)))
 | [], F, off, _ => by simp [setL, strs]
 | b :: x, F, off, h => by
   simp only [List.length_cons] at h
   show setL ((strs F).set off (.str b)) (off + 1) (strs x) = _
   have e : (strs F).set off (.str b) = strs (F.set off b) := by simp [strs, List.map_set]
   rw [e, setL_strs x _ _ (by simp; omega)]
   congr 1
   rw [List.take_set, List.drop_set_of_lt (by omega)]
   have : F.take (off + 1) = F.take off ++ [F[off]] := by rw [List.take_succ_eq_append_getElem (by omega)]
   rw [this, List.set_append_right _ _ (by simp; omega)]
   have e : off - (F.take off).length = 0 := by simp; omega
   rw [e]
   simp only [List.set_cons_zero, List.append_assoc, List.cons_append, List.nil_append, List.length_cons]
   congr 4; omega
end Go.Proofs.YtkobjnpmjngklaaGreatDoor
end
section
set_option maxRecDepth 100000
set_option linter.unusedSimpArgs false
set_option linter.unusedVariables false
namespace Go.Proofs.YtkobjnpmjngklaaGreatDoor
open Go GoV
theorem tab_ok (w : World) (h : M.amb w []) : Lib.TabIs Tryz.prog w "internal/strconv.uint64pow10" .u64 Lib.pow10Tab :=
 tabIs_var (P := Tryz.prog) (r := []) h (by kernel_rfl) (List.mem_cons.2 (.inl rfl))
theorem itoa_p (n : Int) (h0 : -9223372036854775808 ≤ n) (h1 : n ≤ 9223372036854775807) : Pur M 98 [.int .i64 n] (.str (Lib.itoa n)) := by
 refine pur_ext (vs := [.int .i64 n]) (v := .string ⟨(Lib.itoa n).toArray⟩) ⟨Tryz.f98, Tryz.func98, rfl, rfl⟩ (fun w I xs h => ?_) (fun w I => ?_) (fun w hA => ?_)
 ·obtain ⟨x, xs', rfl, g1, g2⟩ := h.inv
  simp only [Rel] at g1
  rw [g2.inv_nil, g1]
 ·simp [Rel]
 ·refine (Tryz.strconv_Itoa n h0 h1 w (tab_ok w hA)).mono fun e w' h => ?_
  obtain ⟨rfl, k, os, rfl⟩ := h
  exact ⟨rfl, below_grow k os⟩
theorem mul_p (x y : Nat) (hx : x < W) (hy : y < W) : ∃ hi : Int, Pur M 166 [.int .u64 x, .int .u64 y] (.tup [.int .u64 hi, .int .u64 (mulW x y : Nat)]) := by
 refine ⟨((x * y / W : Nat) : Int), pur_ext (vs := [.int .u64 x, .int .u64 y]) (v := .tuple #[.int .u64 ((x * y / W : Nat) : Int), .int .u64 (mulW x y : Nat)]) ⟨Tryz.f166, Tryz.func166, rfl, rfl⟩ (fun w I xs h => ?_) (fun w I => ?_) (fun w hA => ?_)⟩
 ·obtain ⟨x, xs', rfl, g1, g2⟩ := h.inv
  obtain ⟨x2, xs2, rfl, g3, g4⟩ := g2.inv
  simp only [Rel] at g1 g3
  rw [g4.inv_nil, g1, g3]
 ·simp only [Rel]
  exact ⟨_, rfl, by simp [RelL, Rel]⟩
 ·refine (Tryz.bits_Mul64 x y hx hy w).mono fun e w' h' => ?_
  obtain ⟨rfl, rfl⟩ := h'
  exact ⟨rfl, ⟨rfl, rfl, rfl, Nat.le_refl _, fun _ _ => rfl⟩⟩
theorem shr_word (y k : Nat) (hk : k ≤ 64) : Int.fdiv (y : Int) (2 ^ min k 64) = ((y >>> k : Nat) : Int) := by
 have e : min k 64 = k := Nat.min_eq_left hk
 have e2 : (2 : Int) ^ k = ((2 ^ k : Nat) : Int) := by rw [Int.natCast_pow]; rfl
 rw [e, e2, Int.fdiv_eq_ediv_of_nonneg _ (Int.natCast_nonneg _), Nat.shiftRight_eq_div_pow]
 exact (Int.natCast_ediv y (2 ^ k)).symm
theorem mix_p (x : Nat) (hx : x < W) : Pur M 163 [.int .u64 x] (.int .u64 (mixN x : Nat)) := by
 refine k163.ok (C := C163) rfl rfl ?_
 rw [i163]
 unfold c163
 obtain ⟨h1, m1⟩ := mul_p x 6364136223846793005 hx (by decide)
 have hy := zEd x 6364136223846793005
 unfold mixN
 generalize mulW x 6364136223846793005 = y at *
 have hz := xs_lt (k := 33) hy
 obtain ⟨h2, m2⟩ := mul_p (xs 33 y) 2685821657736338717 hz (by decide)
 have e1 := shr_word y 33 (by omega)
 have e2 := bits_xor_u64_nat y (y >>> 33) hy (Nat.lt_of_le_of_lt (shr_le y 33) hy)
 have e3 : y ^^^ y >>> 33 = xs 33 y := rfl
 rw [e3] at e2
 have hu := zEd (xs 33 y) 2685821657736338717
 generalize mulW (xs 33 y) 2685821657736338717 = u at *
 have e4 := shr_word u 27 (by omega)
 have e5 := bits_xor_u64_nat u (u >>> 27) hu (Nat.lt_of_le_of_lt (shr_le u 27) hu)
 have e6 : u ^^^ u >>> 27 = xs 27 u := rfl
 rw [e6] at e5
 generalize xs 33 y = z at *
 have q1 : ((6364136223846793005 : Nat) : Int) = 6364136223846793005 := rfl
 have q2 : ((2685821657736338717 : Nat) : Int) = 2685821657736338717 := rfl
 rw [q1] at m1
 rw [q2] at m2
 generalize y >>> 33 = y' at *
 generalize u >>> 27 = u' at *
 generalize xs 27 u = r at *
 have wQ := tw; repeat' (first | with_reducible (apply swq; constructor) | simp only [go_sem, seval, P163, q163, bitsV, e1, e2, e4, e5] | ((with_reducible refine zAc (m1) ?he ?hc ?_); (case he | hc => exact sc wQ)) | ((with_reducible refine zAc (m2) ?he ?hc ?_); (case he | hc => exact sc wQ)) | with_reducible intro _)
 all_goals first
  | omega
  | (simp [D.closed, D.er]; done)
def dgs (i : Nat) : List UInt8 := (List.range 16).map fun j => if j < i then hexd j else 0
theorem dgs_step {i : Nat} (h : i < 16) : (dgs i).set i (hexd i) = dgs (i + 1) := by
 have : i = 0 ∨ i = 1 ∨ i = 2 ∨ i = 3 ∨ i = 4 ∨ i = 5 ∨ i = 6 ∨ i = 7 ∨ i = 8 ∨ i = 9 ∨ i = 10 ∨ i = 11 ∨ i = 12 ∨ i = 13 ∨ i = 14 ∨ i = 15 := by omega
 rcases this with h | h | h | h | h | h | h | h | h | h | h | h | h | h | h | h <;> subst h <;> decide
theorem dgs_len (i : Nat) : (dgs i).length = 16 := by simp [dgs]
set_option maxHeartbeats 1000000 in
theorem digits_p : Pur M 164 [] (.agg (bys (dgs 16))) := by
 refine k164.ok (C := C164) rfl rfl ?_
 rw [i164]
 unfold c164
 repeat' (first | with_reducible (apply swq; constructor) | simp only [go_sem, seval, P164, q164] | with_reducible intro _)
 refine zAs [0, 1, 3] (fun i : Nat => ⟨[.ptr 0 0, .ptr 1 0, .u0, .int .i64 i, .u0, .u0], [], ⟨[.cells (bys (dgs 0)), .cells (bys (dgs i))], []⟩⟩)
  (fun i => i ≤ 16) (fun i => 16 - i) 0 (by omega) ?_ ?_
 ·simp [keepE, St.keep]
  rfl
 ·intro i hi
  have hl : (bys (dgs i)).length = 16 := by rw [zEi, dgs_len]
  by_cases hlt : i < 16
  ·have hst := dgs_step hlt
   have hset : ∀ v : Int, v = ((hexd i).toNat : Nat) → (bys (dgs i)).set i (.int .u8 v) = bys (dgs (i + 1)) := fun v hv => by rw [hv, bys_set, hst]
   have hx := hexd_toNat hlt
   by_cases h10 : i < 10
   ·rw [if_pos h10] at hx
    have w1 : IntKind.u8.wrap (48 + (i : Int)) = ((hexd i).toNat : Nat) := by rw [wu8 (by omega) (by omega), hx]; omega
    have h2 := hset _ rfl
    have wQ := @hl; repeat' (first | with_reducible (apply swq; constructor) | simp only [go_sem, seval, P164, q164, Nat.mul_one, w1, h2] | simp (disch := omega) only [wA] | with_reducible (apply cdA; constructor) | ((with_reducible refine And.intro ?hw ?_); (case hw => exact sw wQ)) | with_reducible intro _)
    all_goals try omega
    refine ⟨i + 1, by omega, by omega, ?_⟩
    simp [keepE, St.keep]
    exact hset _ (by omega)
   ·rw [if_neg h10] at hx
    have w1 : IntKind.u8.wrap (97 + (i : Int) - 10) = ((hexd i).toNat : Nat) := by rw [wu8 (by omega) (by omega), hx]; omega
    have w2 : IntKind.u8.wrap (48 + (i : Int)) = 48 + (i : Int) := wu8 (by omega) (by omega)
    have h2 := hset _ rfl
    have wQ := And.intro @hl @List.length_set.{0}; repeat' (first | with_reducible (apply swq; constructor) | simp only [go_sem, seval, P164, q164, Nat.mul_one, w1, w2, List.set_set, h2] | simp (disch := omega) only [wA] | with_reducible (apply cdA; constructor) | ((with_reducible refine And.intro ?hw ?_); (case hw => exact sw wQ)) | with_reducible intro _)
    all_goals try omega
    refine ⟨i + 1, by omega, by omega, ?_⟩
    simp [keepE, St.keep]
    exact hset _ (by omega)
  ·have e : i = 16 := by omega
   subst e
   have wQ := @hl; repeat' (first | with_reducible (apply swq; constructor) | simp only [go_sem, seval, P164, q164] | simp (disch := omega) only [wA] | with_reducible (apply cdA; constructor) | ((with_reducible refine And.intro ?hw ?_); (case hw => exact sw wQ)) | with_reducible intro _)
   all_goals first
    | omega
    | skip
   all_goals (
    have e : setL (bys (dgs 0)) 0 (List.take 16 (bys (dgs 16))) = bys (dgs 16) := rfl
    rw [e]
    rfl)
end Go.Proofs.YtkobjnpmjngklaaGreatDoor
end
section
set_option maxRecDepth 100000
set_option linter.unusedSimpArgs false
set_option linter.unusedVariables false
namespace Go.Proofs.YtkobjnpmjngklaaGreatDoor
open Go GoV
def pad (p : List UInt8) : List UInt8 := p ++ List.replicate (8 - p.length) 0
theorem pad_len {p : List UInt8} (h : p.length ≤ 8) : (pad p).length = 8 := by simp [pad]; omega
theorem val_pad (p : List UInt8) : val (pad p) = blk p := by
 have key : ∀ k, val (p ++ List.replicate k 0) = val p * 256 ^ k := by
  intro k
  induction k with
  | zero => simp
  | succ k ih =>
    rw [List.replicate_succ', ← List.append_assoc, val_app, ih, Nat.pow_succ]
    simp [Nat.mul_comm, Nat.mul_left_comm, Nat.mul_assoc]
 exact key _
theorem setL_take : ∀ (ys l : List D) (k : Nat), setL (l ++ List.replicate (ys.length + k) (D.int .u8 0)) l.length ys = l ++ ys ++ List.replicate k (D.int .u8 0)
 | [], l, k => by simp [setL]
 | y :: ys, l, k => by
   have e : (l ++ List.replicate ((y :: ys).length + k) (D.int .u8 0)).set l.length y = (l ++ [y]) ++ List.replicate (ys.length + k) (D.int .u8 0) := by
    rw [show (y :: ys).length + k = (ys.length + k) + 1 by simp; omega, List.replicate_succ]
    simp
   rw [setL, e]
   have := setL_take ys (l ++ [y]) k
   simpa using this
theorem cpy_pad {p : List UInt8} (h : p.length ≤ 8) : setL [D.int .u8 0, D.int .u8 0, D.int .u8 0, D.int .u8 0, D.int .u8 0, D.int .u8 0, D.int .u8 0, D.int .u8 0] 0 (flatD (List.take 8 (List.map (fun b => D.int .u8 (b.toNat : Nat)) p))) = bys (pad p) := by
 have e : (List.map (fun b => D.int .u8 (b.toNat : Nat)) p).take 8 = bys p := List.take_of_length_le (by simpa using h)
 rw [e, bys_flat]
 have h1 := setL_take (bys p) [] (8 - p.length)
 rw [zEi, show p.length + (8 - p.length) = 8 by omega] at h1
 simp only [List.nil_append, List.length_nil] at h1
 have h2 : List.replicate 8 (D.int .u8 0) = [D.int .u8 0, D.int .u8 0, D.int .u8 0, D.int .u8 0, D.int .u8 0, D.int .u8 0, D.int .u8 0, D.int .u8 0] := rfl
 rw [← h2, h1]
 simp [pad, bys]
set_option maxHeartbeats 2000000 in
theorem take_e (s : Nat) (p : List UInt8) (hs : s < W) (hp : p.length ≤ 8) : Eff M 162 [.str p, .ptr 0 0] ⟨[.cells [.int .u64 s]], []⟩ (fun d hp' => d = .tup [] ∧ hp' = ⟨[.cells [.int .u64 (mixN (s ^^^ blk p) : Nat)]], []⟩) := by
 refine k162.oe 1 0 rfl rfl rfl ?_
 rw [ie162]
 unfold c162
 have hcp := cpy_pad hp
 have hpl := pad_len hp
 have hK := bys_elems p
 have hlen : (bys p).length = p.length := zEi p
 have wQ := tw; repeat' (first | with_reducible (apply swq; constructor) | simp only [go_sem, seval, pe162, q162] | ((with_reducible apply s_saFF)) | ((with_reducible apply s_cpy); (case h1 | he => rfl); (case h2 | h3 | hK => exact sd wQ)) | with_reducible intro _)
 have e0 : setL [D.int .u8 0, D.int .u8 0, D.int .u8 0, D.int .u8 0, D.int .u8 0, D.int .u8 0, D.int .u8 0, D.int .u8 0] 0 (flatD ((bys p).take 8)) = bys (pad p) := hcp
 rw [e0]
 repeat' (first | with_reducible (apply swq; constructor) | simp only [go_sem, seval, pe162, q162] | with_reducible intro _)
 refine zAs [0, 1, 2, 3, 5] (fun i : Nat => ⟨[.str p, .ptr 0 0, .ptr 1 0, .int .u64 (val ((pad p).take i) : Nat), .u0, .int .i64 i, .u0], [], ⟨[.cells [.int .u64 s], .cells (bys (pad p))], []⟩⟩)
  (fun i => i ≤ 8) (fun i => 8 - i) 0 (by omega) ?_ ?_
 ·simp [keepE, St.keep, val]
 ·intro i hi
  have hbl : (bys (pad p)).length = 8 := by rw [zEi, hpl]
  by_cases hlt : i < 8
  ·have hg := bys_get (l := pad p) (i := i) (by omega)
   have hst : val ((pad p).take (i + 1)) = 256 * val ((pad p).take i) + ((pad p).getD i 0).toNat := by
    rw [List.take_succ_eq_append_getElem (by omega), val_app]
    congr 2
    simp [List.getD, hpl, hlt]
   have hb : ((pad p).getD i 0).toNat < 256 := UInt8.toNat_lt _
   have hv : val ((pad p).take i) < 72057594037927936 := by
    have h1 := val_lt ((pad p).take i)
    have h2 : ((pad p).take i).length ≤ 7 := by simp; omega
    have h3 : 256 ^ ((pad p).take i).length ≤ 256 ^ 7 := Nat.pow_le_pow_right (by omega) h2
    exact Nat.lt_of_lt_of_le h1 h3
   generalize val ((pad p).take i) = v at *
   generalize ((pad p).getD i 0).toNat = b at *
   have e1 : IntKind.u64.wrap ((v : Int) * 2 ^ min 8 64) = ((256 * v : Nat) : Int) := by
    have : ((v : Int) * 2 ^ min 8 64) = 256 * v := by
     show (v : Int) * 256 = 256 * v
     omega
    rw [this, wu64 (by omega) (by omega)]; omega
   have e2 := bits_or_u64_nat (256 * v) b (by omega) (by omega)
   have e3 : 256 * v ||| b = 256 * v + b := (Nat.two_pow_add_eq_or_of_lt (i := 8) (by simpa using hb) v).symm
   rw [e3, ← hst] at e2
   have e4 : IntKind.u64.wrap (b : Int) = b := wu64 (by omega) (by omega)
   have wQ := @hbl; repeat' (first | with_reducible (apply swq; constructor) | simp only [go_sem, seval, pe162, q162, Nat.mul_one, hg, bitsV, e1, e4, e2] | simp (disch := omega) only [wA] | with_reducible (apply cdA; constructor) | ((with_reducible refine And.intro ?hw ?_); (case hw => exact sw wQ)) | with_reducible intro _)
   all_goals try omega
   refine ⟨i + 1, by omega, by omega, ?_⟩
   simp [keepE, St.keep]
  ·have e : i = 8 := by omega
   subst e
   have ht : (pad p).take 8 = pad p := List.take_of_length_le (by omega)
   rw [ht, val_pad]
   have hblk := blk_lt hp
   have e2 := bits_xor_u64_nat s (blk p) hs hblk
   have hm := mix_p (s ^^^ blk p) (xor_lt hs hblk)
   generalize s ^^^ blk p = z at *
   generalize blk p = q at *
   have wQ := @hbl; repeat' (first | with_reducible (apply swq; constructor) | simp only [go_sem, seval, pe162, q162, bitsV, e2] | simp (disch := omega) only [wA] | ((with_reducible refine zAc (hm) ?he ?hc ?_); (case he | hc => exact sc wQ)) | with_reducible (apply cdA; constructor) | ((with_reducible refine And.intro ?hw ?_); (case hw => exact sw wQ)) | with_reducible intro _)
   all_goals try omega
   refine ⟨_, zD1 1 0 (Nat.le_refl _) (Nat.le_refl _), ?_⟩
   simp [St.gc, Hp.cut, D.rnL, D.rn, cutF, Blk.rn, Blk.rnL, Tv.rnL, setL]
def hexP (s i : Nat) : List UInt8 := (List.range 16).map fun j => if j < i then hexd (s / 16 ^ (15 - j) % 16) else 0
theorem hexP_len (s i : Nat) : (hexP s i).length = 16 := by simp [hexP]
theorem hexP_end (s : Nat) : hexP s 16 = hex16 s := by
 unfold hexP hex16
 refine List.map_congr_left fun j hj => ?_
 rw [if_pos (by simpa using hj)]
theorem hexP_step {s i : Nat} (h : i < 16) : (hexP s i).set i (hexd (s / 16 ^ (15 - i) % 16)) = hexP s (i + 1) := by
 refine List.ext_getElem (by simp [hexP]) fun j h1 h2 => ?_
 have hj : j < 16 := by simpa [hexP] using h2
 rw [List.getElem_set]
 simp only [hexP, List.getElem_map, List.getElem_range]
 by_cases e : i = j
 ·subst e; rw [if_pos rfl, if_pos (by omega)]
 ·rw [if_neg e]
  by_cases q : j < i
  ·rw [if_pos q, if_pos (by omega)]
  ·rw [if_neg q, if_neg (by omega)]
theorem dgs_get {v : Nat} (h : v < 16) : (bys (dgs 16)).getD v .u0 = .int .u8 ((hexd v).toNat : Nat) := by
 rw [bys_get (by rw [dgs_len]; exact h)]
 congr 3
 have hj : v < (dgs 16).length := by rw [dgs_len]; exact h
 have : (dgs 16).getD v 0 = (dgs 16)[v] := by simp [List.getD, hj]
 rw [this]
 simp [dgs, h]
theorem nib (s i : Nat) (h : i < 16) : (s >>> (60 - 4 * i)) &&& 15 = s / 16 ^ (15 - i) % 16 := by
 have e : (16 : Nat) ^ (15 - i) = 2 ^ (60 - 4 * i) := by
  rw [show (16 : Nat) = 2 ^ 4 by decide, ← Nat.pow_mul, show 4 * (15 - i) = 60 - 4 * i by omega]
 rw [e, Nat.shiftRight_eq_div_pow]
 exact Nat.and_two_pow_sub_one_eq_mod _ 4
set_option maxHeartbeats 4000000 in
theorem sum_p (t : List UInt8) (ht : t.length < 65536) : Pur M 131 [.str t] (.str (sumN t)) := by
 refine k131.ok (C := C131) rfl rfl ?_
 rw [i131]
 unfold c131
 have hl := len_lt ht
 have e0 : IntKind.u64.wrap (t.length : Int) = t.length := wu64 (by omega) (by omega)
 have e1 := bits_xor_u64_nat 7046029254386353131 t.length (by decide) (by omega)
 have e2 : ((7046029254386353131 : Nat) : Int) = 7046029254386353131 := rfl
 rw [e2] at e1
 have hR : run (7046029254386353131 ^^^ t.length) t = stt t := rfl
 have hRlt := stt_lt t
 unfold sumN
 generalize stt t = R at *
 generalize hS : 7046029254386353131 ^^^ t.length = S at *
 repeat' (first | with_reducible (apply swq; constructor) | simp only [go_sem, seval, P131, q131, bitsV, e0, e1] | with_reducible intro _)
 all_goals try omega
 refine zAs [0, 2, 3] (fun p : Nat × List UInt8 => ⟨[.str p.2, .u0, .ptr 0 0, .fn (.func 162) [] [.ptr 0 0], .u0, .u0, .u0, .u0, .u0, .u0], [], ⟨[.cells [.int .u64 p.1]], []⟩⟩)
  (fun p => p.1 < W ∧ p.2.length ≤ t.length ∧ run p.1 p.2 = R) (fun p => p.2.length) (S, t) ⟨hl, Nat.le_refl _, hR⟩ ?_ ?_
 ·simp [keepE, St.keep]
 ·rintro ⟨s, u⟩ ⟨g1, g2, g3⟩
  simp only at g1 g2 g3 ⊢
  by_cases h8 : 8 ≤ u.length
  ·have c1 := take_e s (u.take 8) g1 (by simp; omega)
   have e8 : (8 : Int).toNat = 8 := rfl
   have wQ := tw; repeat' (first | with_reducible (apply swq; constructor) | simp only [go_sem, seval, P131, q131, e8] | simp (disch := omega) only [wA] | ((with_reducible refine o_eff [0] [] (c1) ?hs ?he ?hh ?_); (case hs => exact so); (case he | hh => exact sh wQ); rintro _ _ ⟨rfl, rfl⟩) | with_reducible (apply cdA; constructor) | ((with_reducible refine And.intro ?hw ?_); (case hw => exact sw wQ)) | with_reducible intro _)
   all_goals try omega
   refine ⟨(mixN (s ^^^ blk (u.take 8)), u.drop 8), ⟨zFv _, by simp only [List.length_drop]; omega, by rw [← g3, zDf h8]⟩, by simp only [List.length_drop]; omega, ?_⟩
   simp [keepE, St.keep]
  ·have c1 := take_e s u g1 (by omega)
   rw [zCs (by omega)] at g3
   rw [g3] at c1
   have c2 := digits_p
   have wQ := tw; repeat' (first | with_reducible (apply swq; constructor) | simp only [go_sem, seval, P131, q131] | simp (disch := omega) only [wA] | ((with_reducible refine o_eff [0] [] (c1) ?hs ?he ?hh ?_); (case hs => exact so); (case he | hh => exact sh wQ); rintro _ _ ⟨rfl, rfl⟩) | ((with_reducible refine zAc (c2) ?he ?hc ?_); (case he | hc => exact sc wQ)) | with_reducible (apply cdA; constructor) | ((with_reducible refine And.intro ?hw ?_); (case hw => exact sw wQ)) | with_reducible intro _)
   all_goals try omega
   refine zAs [2, 4, 5, 8] (fun i : Nat => ⟨[.u0, .u0, .ptr 0 0, .u0, .ptr 1 0, .ptr 2 0, .u0, .u0, .int .i64 i, .u0], [], ⟨[.cells [.int .u64 R], .cells (bys (dgs 16)), .cells (bys (hexP R i))], []⟩⟩)
    (fun i => i ≤ 16) (fun i => 16 - i) 0 (by omega) ?_ ?_
   ·simp [keepE, St.keep]
    exact ⟨rfl, rfl⟩
   ·intro i hi
    have l1 : (bys (dgs 16)).length = 16 := by rw [zEi, dgs_len]
    have l2 : (bys (hexP R i)).length = 16 := by rw [zEi, hexP_len]
    by_cases hlt : i < 16
    ·have hd := dgs_get (v := R / 16 ^ (15 - i) % 16) (Nat.mod_lt _ (by omega))
     have hst := hexP_step (s := R) hlt
     have hset : (bys (hexP R i)).set i (.int .u8 ((hexd (R / 16 ^ (15 - i) % 16)).toNat : Nat)) = bys (hexP R (i + 1)) := by rw [bys_set, hst]
     have q1 : ((60 : Int) - 4 * (i : Int)).toNat = 60 - 4 * i := by omega
     have q2 := shr_word R (60 - 4 * i) (by omega)
     have q3 := bits_and_u64_nat (R >>> (60 - 4 * i)) 15 (Nat.lt_of_le_of_lt (shr_le R _) hRlt) (by decide)
     rw [nib R i hlt] at q3
     have q4 : ((15 : Nat) : Int) = 15 := rfl
     rw [q4] at q3
     have hv : R / 16 ^ (15 - i) % 16 < 16 := Nat.mod_lt _ (by omega)
     generalize R / 16 ^ (15 - i) % 16 = v at *
     have wQ := And.intro @l1 @l2; repeat' (first | with_reducible (apply swq; constructor) | simp only [go_sem, seval, P131, q131, Nat.mul_one, bitsV, q1, q2, q3, hd, hset] | simp (disch := omega) only [wA] | ((with_reducible apply s_saFF)) | ((with_reducible apply s_b2s); (case he | hb => rfl); (case hn => exact sd wQ)) | with_reducible (apply cdA; constructor) | ((with_reducible refine And.intro ?hw ?_); (case hw => exact sw wQ)) | with_reducible intro _)
     all_goals try omega
     refine ⟨i + 1, by omega, by omega, ?_⟩
     simp [keepE, St.keep]
    ·have e : i = 16 := by omega
     subst e
     rw [hexP_end]
     have hch := bys_chunk (hex16 R)
     rw [hex16_len] at hch
     have wQ := And.intro @l1 @l2; repeat' (first | with_reducible (apply swq; constructor) | simp only [go_sem, seval, P131, q131] | simp (disch := omega) only [wA] | ((with_reducible apply s_saFF)) | ((with_reducible apply s_b2s); (case he | hb => rfl); (case hn => exact sd wQ)) | with_reducible (apply cdA; constructor) | ((with_reducible refine And.intro ?hw ?_); (case hw => exact sw wQ)) | with_reducible intro _)
     all_goals try omega
     congr 1
     simp only [UInt8.ofNat_toNat]
     rfl
end Go.Proofs.YtkobjnpmjngklaaGreatDoor
end
section
set_option maxRecDepth 100000
set_option linter.unusedSimpArgs false
set_option linter.unusedVariables false
namespace Go.Proofs.YtkobjnpmjngklaaGreatDoor
open Go GoV Go.RowKit
def lays240_ren : Go.Shelf.Ren := ⟨fun | 240 => 116 | 276 => 143 | n => n, fun | 0 => 0 | 4 => 4 | 9 => 9 | 20 => 20 | 70 => 136 | 72 => 138 | 37 => 50 | 5 => 5 | 164 => 179 | n => n, fun | n => n⟩
theorem lays240 : Go.Proofs.Lays.n240 Tryz.prog lays240_ren := {
 mixed := by kernel_rfl
 f240 := Tryz.func116.trans (congrArg some (by kernel_rfl))
 f276 := Tryz.func143.trans (congrArg some (by kernel_rfl))
 t0 := Tryz.underlying0
 a0 := Tryz.isAgg0
 z0 := Tryz.sizeOf0
 v0 := Tryz.zeroValue0
 t4 := Tryz.underlying4
 a4 := Tryz.isAgg4
 z4 := Tryz.sizeOf4
 v4 := Tryz.zeroValue4
 t9 := Tryz.underlying9
 a9 := Tryz.isAgg9
 z9 := Tryz.sizeOf9
 v9 := Tryz.zeroValue9
 t20 := Tryz.underlying20
 a20 := Tryz.isAgg20
 z20 := Tryz.sizeOf20
 v20 := Tryz.zeroValue20
 t70 := Tryz.underlying136
 a70 := Tryz.isAgg136
 z70 := Tryz.sizeOf136
 v70 := Tryz.zeroValue136
 t72 := Tryz.underlying138
 a72 := Tryz.isAgg138
 z72 := Tryz.sizeOf138
 v72 := Tryz.zeroValue138
 t164 := Tryz.underlying179
 a164 := Tryz.isAgg179
 z164 := Tryz.sizeOf179
 v164 := Tryz.zeroValue179 }
theorem x72 : Builder.X72 Tryz.prog lays240_ren := {
 sizeBuilder := by kernel_rfl
 liesBuilder := by kernel_rfl }
theorem wstr_e {p : D} (hp : p = .lit (.pointer none) ∨ p = .ptr 0 0) (bs s : List UInt8) (n : Nat) (hn : bs.length = n) (hr : n + s.length ≤ 140737488355328) :
 Eff M 86 [.ptr 0 0, .str s] ⟨[.tcells 138 [p, .gs 0 n]], [.byt 5 bs]⟩ (fun d hp' => d = .tup [.int .i64 s.length, .lit .nilIface] ∧ hp' = ⟨[.tcells 138 [.ptr 0 0, .gs 0 (n + s.length)]], [.byt 5 (bs ++ s)]⟩) := by
 refine k86.oe 1 1 rfl rfl rfl ?_
 rw [ie86]
 unfold c86
 have c1 : Eff M 116 [.ptr 0 0] ⟨[.tcells 138 [p, .gs 0 n]], [.byt 5 bs]⟩ (fun d hp' => d = .tup [] ∧ hp' = ⟨[.tcells 138 [.ptr 0 0, .gs 0 n]], [.byt 5 bs]⟩) :=
  copyCheck_e (M := M) lays240 x72 ⟨Tryz.f116, Tryz.func116, rfl, rfl⟩ hp
 rcases hp with rfl | rfl
 iterate 2
  ·have wQ := tw; repeat' (first | with_reducible (apply swq; constructor) | simp only [go_sem, seval, pe86, q86] | ((with_reducible refine o_eff [0] [0] (c1) ?hs ?he ?hh ?_); (case hs => exact so); (case he | hh => exact sh wQ); rintro _ _ ⟨rfl, rfl⟩) | ((with_reducible apply s_appS); (case hV => rfl); (case hr | hl => exact sd wQ)) | with_reducible intro _)
   all_goals try omega
   exact ⟨_, zAa, rfl, rfl⟩
theorem str_e {p : D} {bs : List UInt8} (hl : bs.length ≤ 140737488355328) : Eff M 88 [.ptr 0 0] ⟨[.tcells 138 [p, .gs 0 bs.length]], [.byt 5 bs]⟩ (fun d hp' => d = .str bs ∧ hp' = ⟨[.tcells 138 [p, .gs 0 bs.length]], [.per 1 (bs.length + 1)]⟩) :=
 string_e (M := M) (ρ := Tryz.lays169_ren) Tryz.lays169 Tryz.Builder_Extra_169 ⟨Tryz.f88, Tryz.func88, rfl, rfl⟩ hl
def atv (s : List UInt8) : Int := match Lib.atoiAll s with
 | .ok v => v
 | .«syntax» => 0
 | .range => Lib.atoiSat s
def atE (s : List UInt8) : D := match Lib.atoiAll s with
 | .ok _ => .lit .nilIface
 | .«syntax» => .iface 176 .u0
 | .range => .iface 176 .u0
theorem atoi_p (s : List UInt8) (hs : s.length ≤ 1000000000) : Pur M 82 [.str s] (.tup [.int .i64 (atv s), atE s]) := by
 have hsz : (⟨s.toArray⟩ : ByteArray).size = s.length := by simp [ByteArray.size]
 refine pur_extM (vs := [.string ⟨s.toArray⟩]) ⟨Tryz.f82, Tryz.func82, rfl, rfl⟩ (fun w g xs h => ?_) (fun w hA => ?_)
 ·obtain ⟨x, xs', rfl, g1, g2⟩ := h.inv
  simp only [Rel] at g1
  rw [g2.inv_nil, g1]
 ·have same : ∀ {w' : World} {d : D} {n : Int}, Below w.heap.size w w' → ∀ y : Value, (∀ w g, Rel w g d y) → Below w.heap.size w w' ∧ ∀ I : Nat → Nat → Prop, ∃ I' : Nat → Nat → Prop, (∀ b o, I b o → I' b o) ∧ (∀ b o, I' b o → I b o ∨ (w.heap.size ≤ b ∧ b < w'.heap.size)) ∧ Rel w' ⟨[], [], I'⟩ (.tup [.int .i64 n, d]) (.tuple #[.int .i64 n, y]) := by
   intro w' d n hb y hy
   refine ⟨hb, fun I => ⟨I, fun _ _ h => h, fun _ _ h => .inl h, ?_⟩⟩
   unfold Rel
   exact ⟨_, rfl, RelL.cons (by simp [Rel]) (RelL.one (hy _ _))⟩
  cases hc : Lib.atoiAll s with
  | ok v =>
    have e : atv s = v := by unfold atv; rw [hc]
    have e2 : atE s = .lit .nilIface := by unfold atE; rw [hc]
    rw [e, e2]
    refine (Tryz.strconv_Atoi_ok ⟨s.toArray⟩ (by rw [hsz]; omega) v hc w).mono fun e w' hh => ?_
    obtain ⟨rfl, hw⟩ := hh
    have hb : Below w.heap.size w w' := by
     rcases hw with rfl | ⟨t, rfl⟩
     ·exact Below.refl _ _
     ·exact Lib.bytesWorld_below w 5 t
    exact ⟨_, rfl, same hb _ fun w g => by simp [Rel, Value.oneCell']⟩
  | «syntax» =>
    have e : atv s = 0 := by unfold atv; rw [hc]
    have e2 : atE s = .iface 176 .u0 := by unfold atE; rw [hc]
    rw [e, e2]
    obtain ⟨v, hv, hm⟩ := zF1 (g := 0) (p := fun v => v = .nilIface ∨ ∃ te pe, v = .iface te pe) hA (List.mem_cons.2 (.inr (List.mem_cons.2 (.inr (List.mem_cons.2 (.inl rfl))))))
    refine (Tryz.strconv_Atoi_syntax ⟨s.toArray⟩ (by rw [hsz]; omega) hc v w hm hv).mono fun e w' hh => ?_
    obtain ⟨N, rfl, _, _, hb⟩ := hh
    exact ⟨_, rfl, same hb _ fun w g => by simp [Rel]⟩
  | range =>
    have e : atv s = Lib.atoiSat s := by unfold atv; rw [hc]
    have e2 : atE s = .iface 176 .u0 := by unfold atE; rw [hc]
    rw [e, e2]
    obtain ⟨v, hv, hm⟩ := zF1 (g := 1) (p := fun v => v = .nilIface ∨ ∃ te pe, v = .iface te pe) hA (List.mem_cons.2 (.inr (List.mem_cons.2 (.inr (List.mem_cons.2 (.inr (List.mem_cons.2 (.inl rfl))))))))
    refine (Tryz.strconv_Atoi_range ⟨s.toArray⟩ (by rw [hsz]; omega) hc v w hm hv).mono fun e w' hh => ?_
    obtain ⟨N, rfl, _, _, hb⟩ := hh
    exact ⟨_, rfl, same hb _ fun w g => by simp [Rel]⟩
theorem atK_some {s : Tx} {n : Nat} (h : atK s = some n) : atv s = n ∧ atE s = .lit .nilIface := by
 unfold atK at h
 unfold atv atE
 cases hc : Lib.atoiAll s with
 | ok v =>
   rw [hc] at h
   simp only at h ⊢
   split at h
   ·cases h
   ·simp only [Option.some.injEq] at h; exact ⟨by omega, trivial⟩
 | «syntax» => rw [hc] at h; cases h
 | range => rw [hc] at h; cases h
theorem atK_none {s : Tx} (h : atK s = none) : atE s = .iface 176 .u0 ∨ (atE s = .lit .nilIface ∧ atv s < 0) := by
 unfold atK at h
 unfold atv atE
 cases hc : Lib.atoiAll s with
 | ok v =>
   rw [hc] at h
   simp only at h ⊢
   split at h
   ·rename_i hv; exact .inr ⟨trivial, hv⟩
   ·cases h
 | «syntax» => exact .inl rfl
 | range => exact .inl rfl
theorem atK_bd {s : Tx} {n : Nat} (h : atK s = some n) : n < 9223372036854775808 := by
 unfold atK at h
 cases hc : Lib.atoiAll s with
 | ok v =>
   rw [hc] at h
   simp only at h
   split at h
   ·cases h
   ·simp only [Option.some.injEq] at h
    unfold Lib.atoiAll at hc
    split at hc
    ·cases hc
    ·simp only at hc
     split at hc
     iterate 2
      ·cases hc
     ·split at hc
      ·cases hc
      ·split at hc
       ·cases hc
       ·rename_i h1 h2
        simp only [Lib.NumEnd.ok.injEq] at hc
        split at hc <;> omega
 | «syntax» => rw [hc] at h; cases h
 | range => rw [hc] at h; cases h
def cutR (s : Tx) : Tx × Tx × Bool := match cutK s with
 | some (a, b) => (a, b, true)
 | none => (s, [], false)
theorem index_cut : ∀ s : Tx, Lib.cut s [58] = cutR s
 | [] => rfl
 | c :: r => by
   have ih := index_cut r
   unfold cutR at ih ⊢
   by_cases hc : c = 58
   ·subst hc; simp [Lib.cut, Lib.index, List.isPrefixOf, cutK]
   ·have hb : ((58 : UInt8) == c) = false := by simpa using fun e => hc e.symm
    have hx : Lib.index (c :: r) [58] = if Lib.index r [58] == -1 then -1 else Lib.index r [58] + 1 := by
     rw [Lib.index]; simp [List.isPrefixOf, hb]
    rw [cutK, if_neg hc]
    unfold Lib.cut at ih ⊢
    rw [hx]
    by_cases hi : 0 ≤ Lib.index r [58]
    ·have e1 : (Lib.index r [58] == -1) = false := by rw [beq_eq_false_iff_ne]; omega
     rw [if_pos hi] at ih
     have e2 : (Lib.index r [58] + 1).toNat = (Lib.index r [58]).toNat + 1 := by omega
     rw [e1]
     simp only [Bool.false_eq_true, if_false]
     rw [if_pos (by omega), e2]
     cases hk : cutK r with
     | none => rw [hk] at ih; simp at ih
     | some p =>
       obtain ⟨a, b⟩ := p
       rw [hk] at ih
       simp only [Prod.mk.injEq] at ih
       simp only [Option.map_some, List.take_succ_cons]
       have e3 : ∀ n : Nat, List.drop (n + 1 + ([58] : Tx).length) (c :: r) = List.drop (n + ([58] : Tx).length) r := fun n => rfl
       rw [ih.1, e3, ih.2.1]
    ·rw [if_neg hi] at ih
     have e1 : (if Lib.index r [58] == -1 then (-1 : Int) else Lib.index r [58] + 1) < 0 ∨ Lib.index r [58] = -1 := by
      rcases Lib.index_spec r [58] with ⟨h1, _⟩ | ⟨i, h1, _⟩
      ·exact .inr h1
      ·omega
     have e2 : Lib.index r [58] = -1 := by
      rcases Lib.index_spec r [58] with ⟨h1, _⟩ | ⟨i, h1, _⟩
      ·exact h1
      ·omega
     rw [e2]
     simp only [BEq.rfl, if_true]
     rw [if_neg (by omega)]
     cases hk : cutK r with
     | none => rfl
     | some p => rw [hk] at ih; simp at ih
theorem cut_p (s : Tx) (hs : s.length ≤ 1000000000) : Pur M 117 [.str s, .str [58]] (match cutK s with
 | some (a, b) => .tup [.str a, .str b, .bool true]
 | none => .tup [.str s, .str [], .bool false]) := by
 have hsz : (⟨s.toArray⟩ : ByteArray).size = s.length := by simp [ByteArray.size]
 refine pur_ext (vs := [.string ⟨s.toArray⟩, .string ⟨#[58]⟩]) (v := .tuple #[.string ⟨(Lib.cut s [58]).1.toArray⟩, .string ⟨(Lib.cut s [58]).2.1.toArray⟩, .bool (Lib.cut s [58]).2.2]) ⟨Tryz.f117, Tryz.func117, rfl, rfl⟩ (fun w g xs h => ?_) (fun w g => ?_) (fun w hA => ?_)
 ·obtain ⟨x, xs', rfl, g1, g2⟩ := h.inv
  obtain ⟨x2, xs2, rfl, g3, g4⟩ := g2.inv
  simp only [Rel] at g1 g3
  rw [g4.inv_nil, g1, g3]
 ·rw [index_cut]
  unfold cutR
  cases cutK s with
  | none => simp only [Rel]; exact ⟨_, rfl, by simp [RelL, Rel]⟩
  | some p => simp only [Rel]; exact ⟨_, rfl, by simp [RelL, Rel]⟩
 ·obtain ⟨v, ⟨m, hv⟩, hm⟩ := zF1 (g := 2) (p := fun v => ∃ m, v = .int .i64 m) hA (List.mem_cons.2 (.inr (List.mem_cons.2 (.inl rfl))))
  subst hv
  refine (Tryz.strings_Cut ⟨s.toArray⟩ ⟨#[58]⟩ m w (by rw [hsz]; omega) hm).mono fun e w' hh => ?_
  obtain ⟨rfl, n, rfl⟩ := hh
  refine ⟨rfl, ?_⟩
  have := below_grow (w := w) n #[]
  rwa [Go.Sort.grow_empty] at this
theorem rep_eq (b : UInt8) : ∀ n : Nat, Lib.repeatL [b] n = List.replicate n b
 | 0 => rfl
 | n + 1 => by simp [Lib.repeatL, rep_eq b n, List.replicate_succ]
theorem rep_p (b : UInt8) (n : Nat) (hn : n ≤ 1000000) : Pur M 130 [.str [b], .int .i64 n] (.str (List.replicate n b)) := by
 refine pur_ext (vs := [.string ⟨#[b]⟩, .int .i64 n]) (v := .string ⟨(Lib.repeatL [b] n).toArray⟩) ⟨Tryz.f130, Tryz.func130, rfl, rfl⟩ (fun w g xs h => ?_) (fun w g => ?_) (fun w hA => ?_)
 ·obtain ⟨x, xs', rfl, g1, g2⟩ := h.inv
  obtain ⟨x2, xs2, rfl, g3, g4⟩ := g2.inv
  simp only [Rel] at g1 g3
  rw [g4.inv_nil, g1, g3]
 ·rw [rep_eq]; simp [Rel]
 ·exact (Tryz.strings_Repeat ⟨#[b]⟩ n w (by omega) (by simp [ByteArray.size]; omega)).mono fun e w' hh => hh
end Go.Proofs.YtkobjnpmjngklaaGreatDoor
end
section
set_option maxRecDepth 100000
set_option linter.unusedSimpArgs false
set_option linter.unusedVariables false
namespace Go.Proofs.YtkobjnpmjngklaaGreatDoor
open Go GoV
def pendD (p : Nat × Tx) : D := .agg [.int .i64 (64 * (p.1 : Int)), .int .i64 (64 * (p.1 : Int) + 64), .str p.2]
def queD : List (Nat × Tx) → D
 | [] => .lit (.slice none 0 0)
 | p :: q => .slice ((p :: q).map pendD) (.tok 0)
def tkq : List (Nat × Tx) → List Tv
 | [] => []
 | p :: q => [.per 3 (q.length + 1)]
def dkB (i n : Nat) (q : List (Nat × Tx)) (off : Bool) : Blk := .cells [.sl i 1 0 (64 * n) (64 * n), queD q, .bool off, .lit (.pointer none)]
def byB (S : Sx) : Blk := .cells (bys S.flatten)
theorem zAu {M : Mod} {f : FuncId} {args : List D} {hp hp2 : Hp} {d1 : D} (n m : Nat) (hn : hp.H.length ≤ n) (hm : hp.tk.length ≤ m) (h : Eff M f args hp fun d h => d.rn (cutF n) (cutF m) = d1 ∧ h.cut n m = hp2) : Eff M f args hp fun d h => d = d1 ∧ h = hp2 := by
 refine ⟨h.1, fun w g xs hA hh hr => Calls.mono (h.2 w g xs hA hh hr) fun e w' ⟨v, d, hp', g', e1, ⟨e2, e3⟩, h1, h2⟩ => ?_⟩
 exact ⟨v, _, _, g'.cut n m, e1, ⟨e2, e3⟩, h1.cut n m (by rw [← hh.len]; exact hn) (by rw [← hh.lent]; exact hm), Rel.rn _ (Ren.cut g' n m) h2⟩
theorem place_p (n : Nat) (hn : n ≤ 8000) (q : List (Nat × Tx)) (off : Bool) (S : Sx) (i : Int) :
 Eff M 59 [.ptr 0 0, .int .i64 i] ⟨[dkB 1 n q off, byB S], tkq q⟩ fun d hp => d = (if 0 ≤ i ∧ i < n then .tup [.agg [.int .i64 (64 * i), .int .i64 (64 * i + 64)], .bool true] else .tup [.agg [.int .i64 0, .int .i64 0], .bool false]) ∧ hp = ⟨[dkB 1 n q off, byB S], tkq q⟩ := by
 have hB := fun β τ => zAi β τ S.flatten
 have e1 : (((64 * n : Nat) : Int).tdiv 64) = n := by rw [Int.tdiv_eq_ediv_of_nonneg (by omega)]; omega
 cases q with
 | nil =>
   refine zAu 2 0 (Nat.le_refl 2) (Nat.le_refl 0) (k59.oe 2 0 rfl rfl rfl ?_)
   rw [ie59]
   unfold c59
   unfold dkB byB at *
   simp only [queD, tkq] at *
   generalize bys S.flatten = B at *
   repeat' (first | with_reducible (apply swq; constructor) | simp only [go_sem, seval, P59, pe59, q59, e1] | simp (disch := omega) only [wA] | (with_reducible first | (apply cdA; constructor) | (apply gdA; constructor)) | with_reducible intro _)
   iterate 2
    ·refine ⟨_, zAa, ?_⟩
     rw [if_neg (by omega)]
     simp [RcS, RcB, Hp.cut, Hp.back, putAt, bakF, Blk.rnL, rC, hB, Tv.rnL, Tv.rn, D.rnL, D.rn, cutF, Own.rn]
   ·refine ⟨_, zAa, ?_⟩
    rw [if_pos (by omega)]
    simp [RcS, RcB, Hp.cut, Hp.back, putAt, bakF, Blk.rnL, rC, hB, Tv.rnL, Tv.rn, D.rnL, D.rn, cutF, Own.rn]
    omega
 | cons p q =>
   refine zAu 2 1 (Nat.le_refl 2) (Nat.le_refl 1) (k59.oe 2 1 rfl rfl rfl ?_)
   rw [ie59]
   unfold c59
   unfold dkB byB at *
   simp only [queD, tkq] at *
   generalize bys S.flatten = B at *
   repeat' (first | with_reducible (apply swq; constructor) | simp only [go_sem, seval, P59, pe59, q59, e1] | simp (disch := omega) only [wA] | (with_reducible first | (apply cdA; constructor) | (apply gdA; constructor)) | with_reducible intro _)
   iterate 2
    ·refine ⟨_, zAa, ?_⟩
     rw [if_neg (by omega)]
     simp [RcS, RcB, Hp.cut, Hp.back, putAt, bakF, Blk.rnL, rC, hB, Tv.rnL, Tv.rn, D.rnL, D.rn, cutF, Own.rn]
   ·refine ⟨_, zAa, ?_⟩
    rw [if_pos (by omega)]
    simp [RcS, RcB, Hp.cut, Hp.back, putAt, bakF, Blk.rnL, rC, hB, Tv.rnL, Tv.rn, D.rnL, D.rn, cutF, Own.rn]
    omega
def atD (n : Nat) (off : Bool) (i : Int) : D := if off = true then .tup [.agg [.int .i64 0, .int .i64 0], .int .i64 18] else
 if 0 ≤ i ∧ i < n then .tup [.agg [.int .i64 (64 * i), .int .i64 (64 * i + 64)], .int .i64 0] else .tup [.agg [.int .i64 0, .int .i64 0], .int .i64 1]
theorem at_p (n : Nat) (hn : n ≤ 8000) (q : List (Nat × Tx)) (off : Bool) (S : Sx) (i : Int) :
 Eff M 81 [.ptr 0 0, .int .i64 i] ⟨[dkB 1 n q off, byB S], tkq q⟩ fun d hp => d = atD n off i ∧ hp = ⟨[dkB 1 n q off, byB S], tkq q⟩ := by
 have hB := fun β τ => zAi β τ S.flatten
 have c1 := place_p n hn q off S i
 unfold atD
 cases q with
 | nil =>
   refine zAu 2 0 (Nat.le_refl 2) (Nat.le_refl 0) (k81.oe 2 0 rfl rfl rfl ?_)
   rw [ie81]
   unfold c81
   unfold dkB byB at *
   simp only [queD, tkq] at *
   generalize bys S.flatten = B at *
   cases off
   ·by_cases hi : 0 ≤ i ∧ i < n
    ·rw [if_pos hi] at c1
     have wQ := @hB; repeat' (first | with_reducible (apply swq; constructor) | simp only [go_sem, seval, P81, pe81, q81] | ((with_reducible refine o_eff [0, 1] [] (c1) ?hs ?he ?hh ?_); (case hs => exact so); (case he | hh => exact sh wQ); rintro _ _ ⟨rfl, rfl⟩) | with_reducible intro _)
     all_goals try omega
     refine ⟨_, zAa, ?_⟩
     simp [RcS, RcB, Hp.cut, Hp.back, putAt, bakF, Blk.rnL, rC, hB, Tv.rnL, Tv.rn, D.rnL, D.rn, cutF, Own.rn, hi]
    ·rw [if_neg hi] at c1
     have wQ := @hB; repeat' (first | with_reducible (apply swq; constructor) | simp only [go_sem, seval, P81, pe81, q81] | ((with_reducible refine o_eff [0, 1] [] (c1) ?hs ?he ?hh ?_); (case hs => exact so); (case he | hh => exact sh wQ); rintro _ _ ⟨rfl, rfl⟩) | with_reducible intro _)
     all_goals try omega
     refine ⟨_, zAa, ?_⟩
     simp [RcS, RcB, Hp.cut, Hp.back, putAt, bakF, Blk.rnL, rC, hB, Tv.rnL, Tv.rn, D.rnL, D.rn, cutF, Own.rn, hi]
   ·repeat' (first | with_reducible (apply swq; constructor) | simp only [go_sem, seval, P81, pe81, q81] | with_reducible intro _)
    all_goals try omega
    refine ⟨_, zAa, ?_⟩
    simp [RcS, RcB, Hp.cut, Hp.back, putAt, bakF, Blk.rnL, rC, hB, Tv.rnL, Tv.rn, D.rnL, D.rn, cutF, Own.rn]
 | cons p q =>
   refine zAu 2 1 (Nat.le_refl 2) (Nat.le_refl 1) (k81.oe 2 1 rfl rfl rfl ?_)
   rw [ie81]
   unfold c81
   unfold dkB byB at *
   simp only [queD, tkq] at *
   generalize bys S.flatten = B at *
   cases off
   ·by_cases hi : 0 ≤ i ∧ i < n
    ·rw [if_pos hi] at c1
     have wQ := @hB; repeat' (first | with_reducible (apply swq; constructor) | simp only [go_sem, seval, P81, pe81, q81] | ((with_reducible refine o_eff [0, 1] [0] (c1) ?hs ?he ?hh ?_); (case hs => exact so); (case he | hh => exact sh wQ); rintro _ _ ⟨rfl, rfl⟩) | with_reducible intro _)
     all_goals try omega
     refine ⟨_, zAa, ?_⟩
     simp [RcS, RcB, Hp.cut, Hp.back, putAt, bakF, Blk.rnL, rC, hB, Tv.rnL, Tv.rn, D.rnL, D.rn, cutF, Own.rn, hi]
    ·rw [if_neg hi] at c1
     have wQ := @hB; repeat' (first | with_reducible (apply swq; constructor) | simp only [go_sem, seval, P81, pe81, q81] | ((with_reducible refine o_eff [0, 1] [0] (c1) ?hs ?he ?hh ?_); (case hs => exact so); (case he | hh => exact sh wQ); rintro _ _ ⟨rfl, rfl⟩) | with_reducible intro _)
     all_goals try omega
     refine ⟨_, zAa, ?_⟩
     simp [RcS, RcB, Hp.cut, Hp.back, putAt, bakF, Blk.rnL, rC, hB, Tv.rnL, Tv.rn, D.rnL, D.rn, cutF, Own.rn, hi]
   ·repeat' (first | with_reducible (apply swq; constructor) | simp only [go_sem, seval, P81, pe81, q81] | with_reducible intro _)
    all_goals try omega
    refine ⟨_, zAa, ?_⟩
    simp [RcS, RcB, Hp.cut, Hp.back, putAt, bakF, Blk.rnL, rC, hB, Tv.rnL, Tv.rn, D.rnL, D.rn, cutF, Own.rn]
theorem read_p (n : Nat) (hn : n ≤ 8000) (S : Sx) (hS : SxOk S n) (i : Nat) (hi : i < n) :
 Eff M 41 [.ptr 0 0, .int .i64 i] ⟨[dkB 1 n [] false, byB S], []⟩ fun d hp => d = .tup [.str (secAt S i), .int .i64 0] ∧ hp = ⟨[dkB 1 n [] false, byB S], []⟩ := by
 refine zAu 2 0 (Nat.le_refl 2) (Nat.le_refl 0) (k41.oe 2 0 rfl rfl rfl ?_)
 rw [ie41]
 unfold c41
 have c1 := at_p n hn [] false S i
 have hB := fun β τ => zAi β τ S.flatten
 have hi2 : (0 : Int) ≤ i ∧ (i : Int) < n := by omega
 unfold atD at c1
 rw [if_neg (by simp), if_pos hi2] at c1
 unfold dkB byB at *
 simp only [queD, tkq] at *
 have hl : S.flatten.length = 64 * n := by rw [flat_len hS.s64, hS.len]
 have hE : ∀ (H : List Blk) (tk : List Tv) (Q : Blk), zA4 ⟨Q :: .cells (bys S.flatten) :: H, tk⟩ 1 (.sl 1 1 (64 * i) 64 (64 * n - 64 * i)) = some (bys (secAt S i)) := fun H tk Q => by
  rw [elems_sec (F := S.flatten) rfl (by omega) (by omega), flat_sec hS.s64 (by rw [hS.len]; exact hi)]
 have hb := zGu (secAt S i)
 have q1 : (64 * (i : Int)).toNat = 64 * i := by omega
 have q2 : (64 * (i : Int) + 64).toNat - 64 * i = 64 := by omega
 generalize bys S.flatten = Y at *
 have wQ := @hB; repeat' (first | with_reducible (apply swq; constructor) | simp only [go_sem, seval, P41, pe41, q41] | simp (disch := omega) only [wA] | ((with_reducible refine o_eff [0, 1] [] (c1) ?hs ?he ?hh ?_); (case hs => exact so); (case he | hh => exact sh wQ); rintro _ _ ⟨rfl, rfl⟩) | with_reducible intro _)
 all_goals try omega
 refine zAs (C := E41 2 0) [0, 2, 4, 6] (fun _ : Unit => ⟨[.ptr 0 0, .u0, .str [], .u0, .ptr 2 0, .u0, .int .i64 (-1), .u0, .u0, .u0], [], ⟨[.cells [.sl 1 1 0 (64 * n) (64 * n), .lit (.slice none 0 0), .bool false, .lit (.pointer none)], .cells Y, .cells [.int .i64 (64 * i), .int .i64 (64 * i + 64)]], []⟩⟩) (fun _ => True) (fun _ => 0) () trivial ?_ ?_
 ·simp [keepE, St.keep, Hp.back, putAt, Blk.rnL, rC, hB, Tv.rnL, Tv.rn, D.rnL, D.rn, bakF]
 ·intro _ _
  have wQ := tw; repeat' (first | with_reducible (apply swq; constructor) | simp only [go_sem, seval, P41, pe41, q41, q1, q2, Nat.mul_one] | ((with_reducible apply s_smTT); (case h0 | h1 | h2 | hc => exact sd wQ)) | with_reducible intro _)
  all_goals try omega
  refine s_b2s rfl (hE _ _ _) hb ?_
  repeat' (first | with_reducible (apply swq; constructor) | simp only [go_sem, seval, P41, pe41, q41] | with_reducible intro _)
  refine ⟨_, zAa, ?_⟩
  simp [Hp.cut, Blk.rnL, rC, hB, Tv.rnL, Tv.rn, D.rnL, D.rn, cutF]
theorem count_p (n : Nat) (p : Nat × Tx) (q : List (Nat × Tx)) (S : Sx) : Eff M 147 [.ptr 0 0] ⟨[dkB 1 n (p :: q) false, byB S], tkq (p :: q)⟩ fun d hp => d = .int .i64 0 ∧ hp = ⟨[dkB 1 n (p :: q) false, byB S], tkq (p :: q)⟩ := by
 refine k147.oe 2 1 rfl rfl rfl ?_
 rw [ie147]
 unfold c147 dkB
 repeat' (first | with_reducible (apply swq; constructor) | simp only [go_sem, seval, P147, pe147, q147] | with_reducible intro _)
 exact ⟨_, zAa, rfl, rfl⟩
theorem count_0 (n : Nat) (S : Sx) : Eff M 147 [.ptr 0 0] ⟨[dkB 1 n [] false, byB S], []⟩ fun d hp => d = .int .i64 0 ∧ hp = ⟨[dkB 1 n [] false, byB S], []⟩ := by
 refine k147.oe 2 0 rfl rfl rfl ?_
 rw [ie147]
 unfold c147 dkB
 repeat' (first | with_reducible (apply swq; constructor) | simp only [go_sem, seval, P147, pe147, q147] | with_reducible intro _)
 exact ⟨_, zAa, rfl, rfl⟩
theorem wr1_0 (n : Nat) (hn : n ≤ 8000) (S : Sx) (i : Nat) (hi : i < n) (x : Tx) (hx : x.length = 64) :
 Eff M 121 [.ptr 0 0, .int .i64 i, .str x] ⟨[dkB 1 n [] false, byB S], []⟩ fun d hp => d = .int .i64 0 ∧ hp = ⟨[dkB 1 n [(i, x)] false, byB S], [.per 3 1]⟩ := by
 refine zAu 2 1 (Nat.le_refl 2) (Nat.zero_le 1) (k121.oe 2 0 rfl rfl rfl ?_)
 rw [ie121]
 unfold c121
 have c1 := at_p n hn [] false S i
 have c2 := count_p n (i, x) [] S
 have hB := fun β τ => zAi β τ S.flatten
 have hi2 : (0 : Int) ≤ i ∧ (i : Int) < n := by omega
 unfold atD at c1
 rw [if_neg (by simp), if_pos hi2] at c1
 unfold dkB byB at *
 generalize bys S.flatten = Y at *
 simp only [queD, tkq, List.map_cons, List.map_nil, pendD, List.length_nil, Nat.zero_add] at *
 have wQ := @hB; repeat' (first | with_reducible (apply swq; constructor) | simp only [go_sem, seval, P121, pe121, q121, hx] | ((with_reducible refine o_eff [0, 1] [] (c1) ?hs ?he ?hh ?_); (case hs => exact so); (case he | hh => exact sh wQ); rintro _ _ ⟨rfl, rfl⟩) | ((with_reducible refine o_eff [0, 1] [0] (c2) ?hs ?he ?hh ?_); (case hs => exact so); (case he | hh => exact sh wQ); rintro _ _ ⟨rfl, rfl⟩) | ((with_reducible apply s_app0T); (case he => rfl); (case hK | hc | hr => exact sd wQ)) | ((with_reducible apply t_bsl); (case he | hl | hc => exact sd wQ)) | with_reducible (apply cdA; constructor) | with_reducible intro _)
 all_goals try omega
 refine ⟨_, zAa, ?_⟩
 simp [Hp.cut, Hp.back, putAt, bakF, Blk.rnL, rC, hB, Tv.rnL, Tv.rn, D.rnL, D.rn, cutF, Own.rn]
theorem wr1_p (n : Nat) (hn : n ≤ 8000) (p : Nat × Tx) (q : List (Nat × Tx)) (hq : q.length ≤ 100000) (S : Sx) (i : Nat) (hi : i < n) (x : Tx) (hx : x.length = 64) :
 Eff M 121 [.ptr 0 0, .int .i64 i, .str x] ⟨[dkB 1 n (p :: q) false, byB S], [.per 3 (q.length + 1)]⟩ fun d hp => d = .int .i64 0 ∧ hp = ⟨[dkB 1 n (p :: q ++ [(i, x)]) false, byB S], [.per 3 (q.length + 2)]⟩ := by
 refine zAu 2 1 (Nat.le_refl 2) (Nat.le_refl 1) (k121.oe 2 1 rfl rfl rfl ?_)
 rw [ie121]
 unfold c121
 have c1 := at_p n hn (p :: q) false S i
 have c2 := count_p n p (q ++ [(i, x)]) S
 have hB := fun β τ => zAi β τ S.flatten
 have hi2 : (0 : Int) ≤ i ∧ (i : Int) < n := by omega
 unfold atD at c1
 rw [if_neg (by simp), if_pos hi2] at c1
 unfold dkB byB at *
 generalize bys S.flatten = Y at *
 have e1 : (p :: (q ++ [(i, x)])).map pendD = (p :: q).map pendD ++ [pendD (i, x)] := by simp
 have e2 : q.length + 1 = ((p :: q).map pendD).length := by simp
 have e3 : q.length + 2 = ((p :: q).map pendD).length + 1 := by simp
 simp only [queD, tkq, List.cons_append, e1, List.length_append, List.length_singleton] at c1 c2 ⊢
 rw [e2] at c1 c2
 rw [e2, e3]
 have hk : ((p :: q).map pendD).length ≤ 100001 := by rw [← e2]; omega
 clear e1 e2 e3
 generalize (p :: q).map pendD = K at *
 simp only [pendD] at *
 have wQ := @hB; repeat' (first | with_reducible (apply swq; constructor) | simp only [go_sem, seval, P121, pe121, q121, hx] | ((with_reducible refine o_eff [0, 1] [0] (c1) ?hs ?he ?hh ?_); (case hs => exact so); (case he | hh => exact sh wQ); rintro _ _ ⟨rfl, rfl⟩) | ((with_reducible refine o_eff [0, 1] [0] (c2) ?hs ?he ?hh ?_); (case hs => exact so); (case he | hh => exact sh wQ); rintro _ _ ⟨rfl, rfl⟩) | ((with_reducible apply s_appT); (case he => rfl); (case hK | hc | hr | hV => exact sd wQ)) | ((with_reducible apply t_bsl); (case he | hl | hc => exact sd wQ)) | with_reducible (apply cdA; constructor) | with_reducible intro _)
 all_goals try omega
 refine ⟨_, zAa, ?_⟩
 simp [Hp.cut, Hp.back, putAt, bakF, Blk.rnL, rC, hB, Tv.rnL, Tv.rn, D.rnL, D.rn, cutF, Own.rn]
end Go.Proofs.YtkobjnpmjngklaaGreatDoor
end
section
set_option maxRecDepth 100000
set_option linter.unusedSimpArgs false
set_option linter.unusedVariables false
namespace Go.Proofs.YtkobjnpmjngklaaGreatDoor
open Go GoV
def zBn (S : Sx) (q : List (Nat × Tx)) : Sx := q.foldl (fun S p => putS S p.1 [p.2]) S
def qOf : Nat → Sx → List (Nat × Tx)
 | _, [] => []
 | i, x :: l => (i, x) :: qOf (i + 1) l
theorem qOf_len : ∀ (l : Sx) (i : Nat), (qOf i l).length = l.length
 | [], _ => rfl
 | x :: l, i => by simp [qOf, qOf_len l]
theorem qOf_app : ∀ (l : Sx) (i : Nat) (x : Tx), qOf i (l ++ [x]) = qOf i l ++ [(i + l.length, x)]
 | [], i, x => rfl
 | y :: l, i, x => by
   simp only [List.cons_append, qOf, qOf_app l, List.length_cons]
   rw [show i + 1 + l.length = i + (l.length + 1) by omega]
theorem settle_qOf : ∀ (l : Sx) (S : Sx) (i : Nat), i + l.length ≤ S.length → zBn S (qOf i l) = putS S i l
 | [], S, i, _ => by simp [qOf, zBn, putS_nil]
 | x :: l, S, i, h => by
   simp only [List.length_cons] at h
   have h1 := settle_qOf l (putS S i [x]) (i + 1) (by rw [zGe (by simp; omega)]; omega)
   simp only [zBn, qOf, List.foldl_cons] at h1 ⊢
   rw [h1]
   refine List.ext_getElem? fun j => ?_
   rw [putS_get (by rw [zGe (by simp; omega)]; omega), putS_get (by simp; omega), putS_get (by simp; omega)]
   simp only [List.length_cons, List.length_nil]
   by_cases e : j = i
   ·subst e
    rw [if_neg (by omega), if_pos (by omega), if_pos (by omega)]
    simp
   ·by_cases e2 : i + 1 ≤ j ∧ j < i + 1 + l.length
    ·rw [if_pos e2, if_pos (by omega)]
     have : j - i = (j - (i + 1)) + 1 := by omega
     rw [this, List.getElem?_cons_succ]
    ·rw [if_neg e2, if_neg (by omega), if_neg (by omega)]
def tornT (o x : Tx) : Tx := x ++ o.drop x.length
theorem torn_all {o x : Tx} (ho : o.length = 64) (hx : x.length = 64) : tornT o x = x := by rw [tornT, List.drop_of_length_le (by omega), List.append_nil]
theorem flat_torn {S : Sx} {n i : Nat} {x : Tx} (hS : SxOk S n) (hi : i < n) (hx : x.length ≤ 64) : (putS S i [tornT (secAt S i) x]).flatten = S.flatten.take (64 * i) ++ (x ++ S.flatten.drop (64 * i + x.length)) := by
 rw [flat_put hS.s64, tornT, List.append_assoc]
 congr 2
 have hiS : i < S.length := by rw [hS.len]; exact hi
 have hsl := sec_len hS hi
 have e1 : S.flatten.drop (64 * i) = secAt S i ++ S.flatten.drop (64 * i + 64) := by
  have := flat_sec hS.s64 hiS
  rw [← this, ← List.drop_drop, List.take_append_drop]
 rw [show 64 * i + x.length = 64 * i + x.length from rfl, ← List.drop_drop (i := x.length) (j := 64 * i), e1, List.drop_append_of_le_length (by omega)]
section
variable {P : Mod} {dst : Dst} {rq : List (RO × Bool)} {K : St → Prop} {s : St}
theorem t_smTT {n : Nat} {k k' : IntKind} {a b : Int} {bk off len cap : Nat} (h0 : 0 ≤ a) (h1 : a ≤ b) (h2 : b ≤ len) (hc : len ≤ cap) (h : opsQ P rq K (s.put dst (.sl bk n (off + a.toNat * n) (b.toNat - a.toNat) (cap - a.toNat)))) : OpQ P (.slcL n true true) [.sl bk n off len cap, .int k a, .int k' b] dst rq K s := by
 simp only [OpQ, zAf, zAb, Bool.false_eq_true, if_false, opWp]
 exact ⟨a, b, ⟨rfl, rfl⟩, h0, h1, by simpa [dlen] using h2, trivial, hc, by trivial, h⟩
end
theorem set_p (n : Nat) (hn : n ≤ 8000) (p : Nat × Tx) (q : List (Nat × Tx)) (off : Bool) (S : Sx) (hS : SxOk S n) (i : Nat) (hi : i < n) (x : Tx) (hx : x.length ≤ 64) :
 Eff M 61 [.ptr 0 0, .agg [.int .i64 (64 * (i : Int)), .int .i64 (64 * (i : Int) + 64)], .str x] ⟨[dkB 1 n (p :: q) off, byB S], tkq (p :: q)⟩ fun d hp => d = .tup [] ∧ hp = ⟨[dkB 1 n (p :: q) off, byB (putS S i [tornT (secAt S i) x])], tkq (p :: q)⟩ := by
 refine zAu 2 1 (Nat.le_refl 2) (Nat.le_refl 1) (k61.oe 2 1 rfl rfl rfl ?_)
 rw [ie61]
 unfold c61
 have hl : S.flatten.length = 64 * n := by rw [flat_len hS.s64, hS.len]
 have hs : setL (bys S.flatten) (64 * i) (flatD ((x.map fun b => D.int .u8 b.toNat).take 64)) = bys (putS S i [tornT (secAt S i) x]).flatten := by
  have e : (x.map fun b => D.int .u8 b.toNat) = bys x := rfl
  rw [e, List.take_of_length_le (by rw [zEi]; exact hx), bys_flat, setL_bys _ _ _ (by omega), flat_torn hS hi hx]
 have hK : zAh 1 (x.map fun b => D.int .u8 b.toNat) = true := bys_elems x
 have hY := zEi S.flatten
 rw [hl] at hY
 have hB := fun β τ => zAi β τ (putS S i [tornT (secAt S i) x]).flatten
 unfold dkB byB at *
 simp only [queD, tkq] at *
 generalize bys S.flatten = Y at *
 generalize bys (putS S i [tornT (secAt S i) x]).flatten = Z at *
 have q1 : (64 * (i : Int)).toNat = 64 * i := by omega
 have q2 : (64 * (i : Int) + 64).toNat - 64 * i = 64 := by omega
 repeat' (first | with_reducible (apply swq; constructor) | simp only [go_sem, seval, P61, pe61, q61] | with_reducible intro _)
 refine t_smTT (by omega) (by omega) (by omega) (by omega) ?_
 rw [q1, q2]
 have wQ := And.intro @hK @hY; repeat' (first | with_reducible (apply swq; constructor) | simp only [go_sem, seval, P61, pe61, q61, Nat.mul_one, Nat.zero_add, Nat.sub_zero, hs] | ((with_reducible apply s_cpy); (case h1 | he => rfl); (case h2 | h3 | hK => exact sd wQ)) | with_reducible intro _)
 all_goals try omega
 refine ⟨_, zAa, ?_⟩
 simp [Hp.cut, Blk.rnL, rC, hB, Tv.rnL, Tv.rn, D.rnL, D.rn, cutF, Own.rn]
theorem settle_ok {n : Nat} : ∀ (q : List (Nat × Tx)) {S : Sx}, SxOk S n → (∀ r ∈ q, r.1 < n ∧ r.2.length = 64) → SxOk (zBn S q) n
 | [], S, h, _ => h
 | r :: q, S, h, hq => by
   have := hq r (by simp)
   exact settle_ok q (zB1 h (by simp; omega) (by simpa using this.2)) fun x hx => hq x (by simp [hx])
theorem settle_step {S : Sx} {L : List (Nat × Tx)} {j : Nat} (h : j < L.length) : zBn S (L.take (j + 1)) = putS (zBn S (L.take j)) L[j].1 [L[j].2] := by
 rw [List.take_succ_eq_append_getElem h]; simp [zBn, -List.take_append_getElem]
theorem settle_p (n : Nat) (hn : n ≤ 8000) (p : Nat × Tx) (q : List (Nat × Tx)) (hlen : q.length ≤ 100000) (off : Bool) (S : Sx) (hS : SxOk S n) (hq : ∀ r ∈ p :: q, r.1 < n ∧ r.2.length = 64) :
 Eff M 60 [.ptr 0 0, .slice ((p :: q).map pendD) (.tok 0)] ⟨[dkB 1 n (p :: q) off, byB S], tkq (p :: q)⟩ fun d hp => d = .tup [] ∧ hp = ⟨[dkB 1 n (p :: q) off, byB (zBn S (p :: q))], tkq (p :: q)⟩ := by
 refine zAu 2 1 (Nat.le_refl 2) (Nat.le_refl 1) (k60.oe 2 1 rfl rfl rfl ?_)
 rw [ie60]
 unfold c60
 have hset : ∀ (j : Nat) (h : j < (p :: q).length), Eff M 61 [.ptr 0 0, .agg [.int .i64 (64 * ((p :: q)[j].1 : Int)), .int .i64 (64 * ((p :: q)[j].1 : Int) + 64)], .str (p :: q)[j].2] ⟨[dkB 1 n (p :: q) off, byB (zBn S ((p :: q).take j))], tkq (p :: q)⟩ fun d hp => d = .tup [] ∧ hp = ⟨[dkB 1 n (p :: q) off, byB (zBn S ((p :: q).take (j + 1)))], tkq (p :: q)⟩ := fun j h => by
  have hm := hq _ (List.getElem_mem h)
  have hSj := settle_ok ((p :: q).take j) hS fun r hr => hq r (List.mem_of_mem_take hr)
  have := set_p n hn p q off _ hSj (p :: q)[j].1 hm.1 (p :: q)[j].2 (by omega)
  rw [torn_all (sec_len hSj hm.1) hm.2, ← settle_step h] at this
  exact this
 have hget : ∀ (j : Nat) (h : j < (p :: q).length), ((p :: q).map pendD).getD j .u0 = pendD (p :: q)[j] := fun j h => by rw [List.getD_eq_getElem?_getD, List.getElem?_map, List.getElem?_eq_getElem h]; rfl
 have hB := fun T β τ => zAi β τ (zBn S T).flatten
 have hall : zBn S ((p :: q).take (p :: q).length) = zBn S (p :: q) := by rw [List.take_length]
 have hS0 : S = zBn S ((p :: q).take 0) := rfl
 have hkl : ((p :: q).map pendD).length = (p :: q).length := List.length_map _
 have hll : (p :: q).length ≤ 100001 := by simp; omega
 rw [show byB S = byB (zBn S ((p :: q).take 0)) from rfl]
 rw [← hall]
 unfold dkB byB at *
 simp only [queD, tkq] at *
 rw [show q.length + 1 = (p :: q).length from rfl] at *
 generalize p :: q = L at *
 generalize hK : L.map pendD = K at *
 have hY : ∃ Y : Nat → List D, ∀ j, Y j = bys (zBn S (L.take j)).flatten := ⟨_, fun _ => rfl⟩
 obtain ⟨Y, hY⟩ := hY
 have hB : ∀ j β τ, D.rnL β τ (Y j) = Y j := fun j β τ => by rw [hY]; exact hB _ _ _
 simp only [← hY] at *
 repeat' (first | with_reducible (apply swq; constructor) | simp only [go_sem, seval, P60, pe60, q60] | with_reducible intro _)
 refine zE8 (C := E60 2 1) [0, 3, 4, 5] 2 1 (Nat.le_refl 2) (Nat.le_refl 1) (fun j : Nat => ⟨[.ptr 0 0, .u0, .u0, .slice K (.tok 0), .int .i64 K.length, .int .i64 j, .u0], [], ⟨[.cells [.sl 1 1 0 (64 * n) (64 * n), .slice K (.tok 0), .bool off, .lit (.pointer none)], .cells (Y j)], [.per 3 L.length]⟩⟩)
  (fun j => j ≤ L.length) (fun j => L.length - j) 0 (Nat.zero_le _) ?_ ?_
 ·simp [keepE, St.keepG, St.keep, St.gc, RcS, RcB, Hp.cut, Hp.back, putAt, bakF, Blk.rnL, rC, rM, Tv.rnL, Tv.rn, D.rnL, D.rn, cutF, Own.rn, hB]
 ·intro j hj
  by_cases hlt : j < L.length
  ·have c1 := hset j hlt
   have g1 := hget j hlt
   unfold pendD at g1
   generalize L[j].1 = i1 at *
   generalize L[j].2 = x1 at *
   have hB1 := hB j
   have hB2 := hB (j + 1)
   have wQ := And.intro @hB1 @hB2; repeat' (first | with_reducible (apply swq; constructor) | simp only [go_sem, seval, P60, pe60, q60, g1] | simp (disch := omega) only [wA] | ((with_reducible refine o_eff [0, 1] [0] (c1) ?hs ?he ?hh ?_); (case hs => exact so); (case he | hh => exact sh wQ); rintro _ _ ⟨rfl, rfl⟩) | with_reducible (apply cdA; constructor) | ((with_reducible refine And.intro ?hw ?_); (case hw => exact sw wQ)) | with_reducible intro _)
   all_goals try omega
   exact ⟨j + 1, by omega, by omega, by simp [keepE, St.keepG, St.keep, St.gc, RcS, RcB, Hp.cut, Hp.back, putAt, bakF, Blk.rnL, rC, rM, Tv.rnL, Tv.rn, D.rnL, D.rn, cutF, Own.rn, hB2]⟩
  ·have e : j = L.length := by omega
   subst e
   have wQ := tw; repeat' (first | with_reducible (apply swq; constructor) | simp only [go_sem, seval, P60, pe60, q60] | simp (disch := omega) only [wA] | with_reducible (apply cdA; constructor) | ((with_reducible refine And.intro ?hw ?_); (case hw => exact sw wQ)) | with_reducible intro _)
   all_goals try omega
   (refine ⟨_, zAa, ?_⟩; simp [RcS, RcB, Hp.cut, Hp.back, putAt, bakF, Blk.rnL, rC, rM, Tv.rnL, Tv.rn, D.rnL, D.rn, cutF, Own.rn, hB])
theorem settle_0 (n : Nat) (S : Sx) : Eff M 60 [.ptr 0 0, .lit (.slice none 0 0)] ⟨[dkB 1 n [] false, byB S], []⟩ fun d hp => d = .tup [] ∧ hp = ⟨[dkB 1 n [] false, byB S], []⟩ := by
 refine k60.oe 2 0 rfl rfl rfl ?_
 rw [ie60]
 unfold c60
 have hB := fun β τ => zAi β τ S.flatten
 unfold dkB byB at *
 simp only [queD] at *
 generalize bys S.flatten = Y at *
 repeat' (first | with_reducible (apply swq; constructor) | simp only [go_sem, seval, P60, pe60, q60] | with_reducible intro _)
 refine zAs (C := E60 2 0) [0, 4, 5] (fun _ : Unit => ⟨[.ptr 0 0, .u0, .u0, .u0, .int .i64 0, .int .i64 0, .u0], [], ⟨[.cells [.sl 1 1 0 (64 * n) (64 * n), .lit (.slice none 0 0), .bool false, .lit (.pointer none)], .cells Y], []⟩⟩) (fun _ => True) (fun _ => 0) () trivial ?_ ?_
 ·simp [keepE, St.keepG, St.keep, St.gc, RcS, RcB, Hp.cut, Hp.back, putAt, bakF, Blk.rnL, rC, rM, Tv.rnL, Tv.rn, D.rnL, D.rn, cutF, Own.rn, hB]
 ·intro _ _
  repeat' (first | with_reducible (apply swq; constructor) | simp only [go_sem, seval, P60, pe60, q60] | with_reducible intro _)
  exact ⟨_, zAa, rfl⟩
theorem sync_0 (n : Nat) (S : Sx) : Eff M 122 [.ptr 0 0] ⟨[dkB 1 n [] false, byB S], []⟩ fun d hp => d = .int .i64 0 ∧ hp = ⟨[dkB 1 n [] false, byB S], []⟩ := by
 refine k122.oe 2 0 rfl rfl rfl ?_
 rw [ie122]
 unfold c122
 have c1 := count_0 n S
 have c2 := settle_0 n S
 have hB := fun β τ => zAi β τ S.flatten
 unfold dkB byB at *
 simp only [queD] at *
 generalize bys S.flatten = Y at *
 have wQ := @hB; repeat' (first | with_reducible (apply swq; constructor) | simp only [go_sem, seval, P122, pe122, q122] | ((with_reducible refine o_eff [0, 1] [] (c1) ?hs ?he ?hh ?_); (case hs => exact so); (case he | hh => exact sh wQ); rintro _ _ ⟨rfl, rfl⟩) | ((with_reducible refine o_eff [0, 1] [] (c2) ?hs ?he ?hh ?_); (case hs => exact so); (case he | hh => exact sh wQ); rintro _ _ ⟨rfl, rfl⟩) | with_reducible intro _)
 exact ⟨_, zAa, rfl, by simp [RcS, RcB, Hp.cut, Hp.back, putAt, bakF, Blk.rnL, rC, rM, Tv.rnL, Tv.rn, D.rnL, D.rn, cutF, Own.rn, hB]⟩
theorem sync_p (n : Nat) (hn : n ≤ 8000) (p : Nat × Tx) (q : List (Nat × Tx)) (hlen : q.length ≤ 100000) (S : Sx) (hS : SxOk S n) (hq : ∀ r ∈ p :: q, r.1 < n ∧ r.2.length = 64) :
 Eff M 122 [.ptr 0 0] ⟨[dkB 1 n (p :: q) false, byB S], tkq (p :: q)⟩ fun d hp => d = .int .i64 0 ∧ hp = ⟨[dkB 1 n [] false, byB (zBn S (p :: q))], tkq (p :: q)⟩ := by
 refine k122.oe 2 1 rfl rfl rfl ?_
 rw [ie122]
 unfold c122
 have c1 := count_p n p q S
 have c2 := settle_p n hn p q hlen false S hS hq
 have hB := fun β τ => zAi β τ S.flatten
 have hB2 := fun β τ => zAi β τ (zBn S (p :: q)).flatten
 unfold dkB byB at *
 simp only [queD, tkq] at *
 generalize bys S.flatten = Y at *
 generalize bys (zBn S (p :: q)).flatten = Z at *
 generalize (p :: q).map pendD = K at *
 have wQ := And.intro @hB @hB2; repeat' (first | with_reducible (apply swq; constructor) | simp only [go_sem, seval, P122, pe122, q122] | ((with_reducible refine o_eff [0, 1] [0] (c1) ?hs ?he ?hh ?_); (case hs => exact so); (case he | hh => exact sh wQ); rintro _ _ ⟨rfl, rfl⟩) | ((with_reducible refine o_eff [0, 1] [0] (c2) ?hs ?he ?hh ?_); (case hs => exact so); (case he | hh => exact sh wQ); rintro _ _ ⟨rfl, rfl⟩) | with_reducible intro _)
 exact ⟨_, zAa, rfl, by simp [RcS, RcB, Hp.cut, Hp.back, putAt, bakF, Blk.rnL, rC, rM, Tv.rnL, Tv.rn, D.rnL, D.rn, cutF, Own.rn, hB2]⟩
theorem new_p (n : Nat) (h0 : 1 ≤ n) (hn : n ≤ 8000) : Eff M 13 [.int .i64 n] ⟨[], []⟩ fun d hp => d = .ptr 0 0 ∧ hp = ⟨[dkB 1 n [] false, byB (newS n)], []⟩ := by
 refine k13.oe 0 0 rfl rfl rfl ?_
 rw [ie13]
 unfold c13
 have hz : bys (newS n).flatten = zeros [.int .u8 0] (64 * n) := by rw [newS_flat, zF2]
 have q1 : ((n : Int) * 64).toNat = 64 * n := by omega
 have hB : ∀ β τ, D.rnL β τ (zeros [.int .u8 0] (64 * n)) = zeros [.int .u8 0] (64 * n) := fun β τ => by rw [← hz, zAi]
 unfold dkB byB
 simp only [queD, hz]
 generalize hZ : zeros [D.int .u8 0] (64 * n) = Z at *
 have wQ := tw; repeat' (first | with_reducible (apply swq; constructor) | simp only [go_sem, seval, P13, pe13, q13, q1, hZ] | simp (disch := omega) only [wA] | ((with_reducible apply s_mks); (case h0 | h1 | h2 => exact sd wQ)) | (with_reducible first | (apply cdA; constructor) | (apply gdA; constructor)) | with_reducible intro _)
 all_goals try omega
 refine ⟨_, zF4 [1, 0] [] ⟨by simp, by simp, by simp, by simp⟩ rfl rfl, ?_⟩
 simp [St.sel, Hp.sel, posF, idx, Blk.rnL, rC, hB, Tv.rnL, D.rnL, D.rn]
theorem raw_p (n : Nat) (hn : n ≤ 8000) (S : Sx) (hS : SxOk S n) : Eff M 22 [.ptr 0 0] ⟨[dkB 1 n [] false, byB S], []⟩ fun d hp => d = .str S.flatten ∧ hp = ⟨[dkB 1 n [] false, byB S], []⟩ := by
 refine k22.oe 2 0 rfl rfl rfl ?_
 rw [ie22]
 unfold c22
 have hl : S.flatten.length = 64 * n := by rw [flat_len hS.s64, hS.len]
 have hE : ∀ (H : List Blk) (tk : List Tv) (Q : Blk), zA4 ⟨Q :: .cells (bys S.flatten) :: H, tk⟩ 1 (.sl 1 1 0 (64 * n) (64 * n)) = some (bys S.flatten) := fun H tk Q => by
  rw [elems_sec (F := S.flatten) rfl (by omega) (by omega), List.drop_zero, List.take_of_length_le (by omega)]
 have hb := zGu S.flatten
 unfold dkB byB at *
 simp only [queD] at *
 generalize bys S.flatten = Y at *
 repeat' (first | with_reducible (apply swq; constructor) | simp only [go_sem, seval, P22, pe22, q22] | with_reducible intro _)
 refine s_b2s rfl (hE _ _ _) hb ?_
 repeat' (first | with_reducible (apply swq; constructor) | simp only [go_sem, seval, P22, pe22, q22] | with_reducible intro _)
 exact ⟨_, zAa, rfl, rfl⟩
end Go.Proofs.YtkobjnpmjngklaaGreatDoor
end
section
set_option maxRecDepth 100000
set_option linter.unusedSimpArgs false
set_option linter.unusedVariables false
namespace Go.Proofs.YtkobjnpmjngklaaGreatDoor
open Go GoV
theorem itK_p (n : Nat) (h : n ≤ 9223372036854775807) : Pur M 98 [.int .i64 n] (.str (itK n)) := by
 have := itoa_p n (by omega) (by omega)
 rwa [itoa_K] at this
theorem zGq (n w : Nat) (h : n ≤ 9223372036854775807) (hw : w ≤ 8) : Pur M 102 [.int .i64 n, .int .i64 w] (.str (dgW n w)) := by
 refine k102.ok (C := C102) rfl rfl ?_
 rw [i102]
 unfold c102
 have c1 := itK_p n h
 have c2 := rep_p 48 (w - (itK n).length) (by omega)
 have hl : (itK n).length ≤ 19 := itK_le (by omega) (by omega)
 have e1 : (if (w : Int) - ((itK n).length : Nat) > 0 then (w : Int) - ((itK n).length : Nat) else 0) = ((w - (itK n).length : Nat) : Int) := by split <;> omega
 unfold dgW
 generalize itK n = t at *
 generalize w - t.length = z at *
 have wQ := tw; repeat' (first | with_reducible (apply swq; constructor) | simp only [go_sem, seval, P102, q102, e1] | simp (disch := omega) only [wA] | ((with_reducible refine zAc (c1) ?he ?hc ?_); (case he | hc => exact sc wQ)) | ((with_reducible refine zAc (c2) ?he ?hc ?_); (case he | hc => exact sc wQ)) | ((with_reducible refine And.intro ?hw ?_); (case hw => exact sw wQ)) | with_reducible intro _)
 all_goals first | omega | (simp_all [D.closed, D.er, D.cL, D.erL]; done) | (simp_all [D.closed, D.er, D.cL, D.erL] <;> omega)
theorem blank_p : Pur M 43 [] (.str (zr 64)) := by
 refine k43.ok (C := C43) rfl rfl ?_
 rw [i43]
 unfold c43
 have wQ := tw; repeat' (first | with_reducible (apply swq; constructor) | simp only [go_sem, seval, P43, q43] | ((with_reducible apply s_mks); (case h0 | h1 | h2 => exact sd wQ)) | ((with_reducible apply s_b2s); (case he | hb => rfl); (case hn => exact sd wQ)) | with_reducible intro _)
 all_goals first | rfl | omega
theorem sealed_p (p : Nat) (c : Tx) (hp : p < 100000000) (hc : c.length ≤ 48) : Pur M 101 [.int .i64 p, .str c] (.str (sealT p c)) := by
 refine k101.ok (C := C101) rfl rfl ?_
 rw [i101]
 unfold c101
 have c1 := rep_p 0 (48 - c.length) (by omega)
 have c2 : Pur M 102 [.int .i64 p, .int .i64 8] (.str (dgW p 8)) := zGq p 8 (by omega) (by omega)
 have h8 := dg_pl hp
 have c3 := sum_p (dgW p 8 ++ (c ++ zr (48 - c.length))) (by simp [h8]; omega)
 rw [smK_eq] at c3
 have e1 : (48 : Int) - (c.length : Nat) = ((48 - c.length : Nat) : Int) := by omega
 unfold sealT
 unfold zr at *
 have hzl : (List.replicate (48 - c.length) (0 : UInt8)).length = 48 - c.length := List.length_replicate ..
 generalize hz : List.replicate (48 - c.length) (0 : UInt8) = z at *
 generalize dgW p 8 = g at *
 have hk := smK_len (g ++ (c ++ z))
 generalize smK (g ++ (c ++ z)) = k at *
 have wQ := tw; repeat' (first | with_reducible (apply swq; constructor) | simp only [go_sem, seval, P101, q101, e1] | simp (disch := omega) only [wA] | ((with_reducible refine zAc (c1) ?he ?hc ?_); (case he | hc => exact sc wQ)) | ((with_reducible refine zAc (c2) ?he ?hc ?_); (case he | hc => exact sc wQ)) | ((with_reducible refine zAc (c3) ?he ?hc ?_); (case he | hc => exact sc wQ)) | ((with_reducible refine And.intro ?hw ?_); (case hw => exact sw wQ)) | with_reducible intro _)
 all_goals first | omega | (simp_all [D.closed, D.er, D.cL, D.erL]; done) | (simp_all [D.closed, D.er, D.cL, D.erL] <;> omega)
theorem head_k (p a c : Nat) (hp : p < 100000000) (ha : a < 10) (hc : c < 10000000) : Pur M 83 [.int .i64 p, .agg [.int .i64 a, .int .i64 c]] (.str (headT p a c)) := by
 refine k83.ok (C := C83) rfl rfl ?_
 rw [i83]
 unfold c83
 have c1 : Pur M 102 [.int .i64 a, .int .i64 1] (.str (dgW a 1)) := zGq a 1 (by omega) (by omega)
 have c2 : Pur M 102 [.int .i64 c, .int .i64 7] (.str (dgW c 7)) := zGq c 7 (by omega) (by omega)
 have h1 := zCh (n := a) (w := 1) (by simpa using ha) (by omega)
 have h2 := zCh (n := c) (w := 7) (by simpa using hc) (by omega)
 have c3 := sealed_p p (dgW a 1 ++ dgW c 7) hp (by simp [h1, h2])
 unfold headT
 generalize dgW a 1 = g at *
 generalize dgW c 7 = g2 at *
 have wQ := tw; repeat' (first | with_reducible (apply swq; constructor) | simp only [go_sem, seval, P83, q83] | ((with_reducible refine zDi (c1) ?he ?hc ?_); (case he | hc => exact sc wQ)) | ((with_reducible refine c_call (c2) ?he ?hc ?_); (case he | hc => exact sc wQ)) | ((with_reducible refine zAc (c3) ?he ?hc ?_); (case he | hc => exact sc wQ)) | ((with_reducible refine And.intro ?hw ?_); (case hw => exact sw wQ)) | with_reducible intro _)
 all_goals first | omega | (simp_all [D.closed, D.er, D.cL, D.erL]; done) | (simp_all [D.closed, D.er, D.cL, D.erL] <;> omega)
theorem cnt_p (t : Tx) (h : t.length ≤ 1000000000000000) : Pur M 51 [.str t] (.int .i64 (cntK t : Nat)) := by
 refine k51.ok (C := C51) rfl rfl ?_
 rw [i51]
 unfold c51
 have e1 : ((t.length : Nat) : Int) + 46 - 1 = ((t.length + 45 : Nat) : Int) := by omega
 have e2 : (((t.length + 45 : Nat) : Int)).tdiv 46 = ((cntK t : Nat) : Int) := by rw [Int.tdiv_eq_ediv_of_nonneg (by omega)]; unfold cntK; omega
 have hz : cntK t ≤ 1000000000000000 := by unfold cntK; omega
 generalize cntK t = z at *
 repeat' (first | with_reducible (apply swq; constructor) | simp only [go_sem, seval, P51, q51, e1, e2] | simp (disch := omega) only [wA] | with_reducible intro _)
 all_goals first | omega | (simp_all [D.closed, D.er, D.cL, D.erL]; done) | (simp_all [D.closed, D.er, D.cL, D.erL] <;> omega)
def stB (s : Sto) : Blk := .cells [.ptr 2 0, .int .i64 s.size, .int .i64 s.area, .int .i64 s.count, .mp 1, .bool false]
def hpS (n : Nat) (S : Sx) (s : Sto) (l : List Tri) (c : Nat) : Hp := ⟨[stB s, .map (entT l) c, dkB 3 n [] false, byB S], []⟩
structure StOk (n : Nat) (s : Sto) : Prop where
 n4 : 4 ≤ n
 n8 : n ≤ 8000
 sz : s.size = (n - 2) / 2
 ar : s.area < 2
 ct : s.count ≤ s.size
theorem place_s (n : Nat) (S : Sx) (s : Sto) (l : List Tri) (c a i : Nat) (hs : s.size ≤ 4000) (ha : a < 2) (hi : i ≤ 1000000) : Eff M 85 [.ptr 0 0, .int .i64 a, .int .i64 i] (hpS n S s l c) fun d hp => d = .int .i64 (plc s.size a i : Nat) ∧ hp = hpS n S s l c := by
 refine k85.oe 4 0 rfl rfl rfl ?_
 rw [ie85]
 unfold c85
 have e1 : (a : Int) * (s.size : Nat) = ((a * s.size : Nat) : Int) := by rw [Int.natCast_mul]
 have e3 : a * s.size ≤ 4000 := by
  have : a = 0 ∨ a = 1 := by omega
  rcases this with h | h <;> subst h <;> omega
 have e2 : (2 : Int) + ((a * s.size : Nat) : Int) + (i : Int) = ((plc s.size a i : Nat) : Int) := by unfold plc; omega
 unfold hpS stB dkB byB
 generalize bys S.flatten = Y at *
 generalize entT l = E at *
 generalize a * s.size = m at *
 generalize plc s.size a i = z at *
 repeat' (first | with_reducible (apply swq; constructor) | simp only [go_sem, seval, P85, pe85, q85, e1, e2] | simp (disch := omega) only [wA] | with_reducible intro _)
 all_goals try omega
 exact ⟨_, zAa, rfl, rfl⟩
end Go.Proofs.YtkobjnpmjngklaaGreatDoor
end
section
set_option maxRecDepth 100000
set_option linter.unusedSimpArgs false
set_option linter.unusedVariables false
namespace Go.Proofs.YtkobjnpmjngklaaGreatDoor
open Go GoV
theorem qOf_take {L : Sx} {j i : Nat} (h : j < L.length) : qOf i (L.take (j + 1)) = qOf i (L.take j) ++ [(i + j, L[j])] := by
 rw [List.take_succ_eq_append_getElem h, qOf_app, List.length_take, Nat.min_eq_left (by omega)]
theorem qOf_mem : ∀ {l : Sx} {i : Nat} {r : Nat × Tx}, r ∈ qOf i l → i ≤ r.1 ∧ r.1 < i + l.length ∧ r.2 ∈ l
 | [], i, r, h => by simp [qOf] at h
 | x :: l, i, r, h => by
   rcases List.mem_cons.1 h with q | q
   ·subst q; simp
   ·have := qOf_mem q
    simp only [List.length_cons, List.mem_cons]
    exact ⟨by omega, by omega, .inr this.2.2⟩
theorem write_s (n : Nat) (hn : n ≤ 8000) (S : Sx) (hS : SxOk S n) (s : Sto) (l : List Tri) (c : Nat) (i : Nat) (L : Sx) (hi : i + L.length ≤ n) (hL : ∀ x ∈ L, x.length = 64) :
 Eff M 90 [.ptr 0 0, .int .i64 i, .slice (strs L) .no] (hpS n S s l c) fun d hp => d = .int .i64 0 ∧ hp = hpS n (putS S i L) s l c := by
 refine zAu 4 0 (Nat.le_refl 4) (Nat.le_refl 0) (k90.oe 4 0 rfl rfl rfl ?_)
 rw [ie90]
 unfold c90
 have hB := fun β τ => zAi β τ S.flatten
 have hB2 := fun β τ => zAi β τ (putS S i L).flatten
 have hE := fun β τ => zAl β τ l
 have hsl := zAk L
 have w0 : ∀ (h : 0 < L.length), Eff M 121 [.ptr 0 0, .int .i64 i, .str L[0]] ⟨[dkB 1 n [] false, byB S], []⟩ fun d hp => d = .int .i64 0 ∧ hp = ⟨[dkB 1 n [(i, L[0])] false, byB S], [.per 3 1]⟩ := fun h => wr1_0 n hn S i (by omega) _ (hL _ (List.getElem_mem h))
 have w1 : ∀ (j : Nat) (h : j < L.length) (p : Nat × Tx) (q : List (Nat × Tx)), qOf i (L.take j) = p :: q → Eff M 121 [.ptr 0 0, .int .i64 (i + j : Nat), .str L[j]] ⟨[dkB 1 n (p :: q) false, byB S], [.per 3 (q.length + 1)]⟩ fun d hp => d = .int .i64 0 ∧ hp = ⟨[dkB 1 n (p :: q ++ [(i + j, L[j])]) false, byB S], [.per 3 (q.length + 2)]⟩ := fun j h p q e => wr1_p n hn p q (by
  have := congrArg List.length e
  rw [qOf_len] at this
  simp at this; omega) S _ (by omega) _ (hL _ (List.getElem_mem h))
 have s0 := sync_0 n S
 have s1 : ∀ (p : Nat × Tx) (q : List (Nat × Tx)), qOf i L = p :: q → Eff M 122 [.ptr 0 0] ⟨[dkB 1 n (p :: q) false, byB S], tkq (p :: q)⟩ fun d hp => d = .int .i64 0 ∧ hp = ⟨[dkB 1 n [] false, byB (putS S i L)], tkq (p :: q)⟩ := fun p q e => by
  have hlen := congrArg List.length e
  rw [qOf_len] at hlen
  have := sync_p n hn p q (by simp at hlen; omega) S hS (fun r hr => by
   rw [← e] at hr
   have := qOf_mem hr
   exact ⟨by omega, hL _ this.2.2⟩)
  rwa [← e, settle_qOf L S i (by rw [hS.len]; exact hi), e] at this
 have hget : ∀ (j : Nat) (h : j < L.length), (strs L).getD j .u0 = .str L[j] := fun j h => zBt h
 unfold hpS stB dkB byB at *
 generalize hY : bys S.flatten = Y at *
 generalize hZ : bys (putS S i L).flatten = Z at *
 generalize entT l = E at *
 generalize strs L = K at *
 simp only [queD] at s0
 repeat' (first | with_reducible (apply swq; constructor) | simp only [go_sem, seval, P90, pe90, q90] | with_reducible intro _)
 refine zE8 (C := E90 4 0) [0, 1, 2, 4, 5] 4 1 (Nat.le_refl 4) (Nat.zero_le 1) (fun j : Nat => ⟨[.ptr 0 0, .int .i64 i, .slice K .no, .u0, .int .i64 0, .int .i64 j, .u0, .u0], [],
  ⟨[.cells [.ptr 2 0, .int .i64 s.size, .int .i64 s.area, .int .i64 s.count, .mp 1, .bool false], .map E c, .cells [.sl 3 1 0 (64 * n) (64 * n), queD (qOf i (L.take j)), .bool false, .lit (.pointer none)], .cells Y], tkq (qOf i (L.take j))⟩⟩)
  (fun j => j ≤ L.length) (fun j => L.length - j) 0 (Nat.zero_le _) ?_ ?_
 ·simp [keepE, St.keepG, St.keep, St.gc, RcS, RcB, Hp.cut, Hp.back, putAt, bakF, Blk.rnL, rC, rM, Tv.rnL, Tv.rn, D.rnL, D.rn, cutF, Own.rn, hB, hE, qOf, queD, tkq]
 ·intro j hj
  by_cases hlt : j < L.length
  ·have g1 := hget j hlt
   have q1 := qOf_take (i := i) hlt
   by_cases h0 : j = 0
   ·subst h0
    have c1 := w0 hlt
    simp only [List.take_zero, qOf, List.nil_append, Nat.zero_add, Nat.add_zero] at q1 ⊢
    simp only [queD, tkq, List.map_cons, List.map_nil] at c1 ⊢
    generalize L[0] = x at *
    have wQ := And.intro @hB @hE; repeat' (first | with_reducible (apply swq; constructor) | simp only [go_sem, seval, P90, pe90, q90, g1] | simp (disch := omega) only [wA] | ((with_reducible refine o_eff [2, 3] [] (c1) ?hs ?he ?hh ?_); (case hs => exact so); (case he | hh => exact sh wQ); rintro _ _ ⟨rfl, rfl⟩) | (with_reducible (apply gdA; constructor)) | ((with_reducible refine And.intro ?hw ?_); (case hw => exact sw wQ)) | with_reducible intro _)
    all_goals try omega
    exact ⟨1, by omega, by omega, by simp [keepE, St.keepG, St.keep, St.gc, RcS, RcB, Hp.cut, Hp.back, putAt, bakF, Blk.rnL, rC, rM, Tv.rnL, Tv.rn, D.rnL, D.rn, cutF, Own.rn, hB, hE, q1]⟩
   ·have hll : (qOf i (L.take j)).length = j := by rw [qOf_len, List.length_take, Nat.min_eq_left hj]
    cases hq : qOf i (L.take j) with
    | nil => rw [hq] at hll; exact absurd hll.symm h0
    | cons p q =>
      have c1 := w1 j hlt p q hq
      rw [hq] at q1 hll
      have q2 : q.length + 1 = j := by simpa using hll
      have q3 : ((i + j : Nat) : Int) = (i : Int) + j := by omega
      rw [q3] at c1
      simp only [queD, tkq, List.map_cons, List.cons_append, List.map_append, List.map_nil] at c1 ⊢
      generalize L[j] = x at *
      have wQ := And.intro @hB @hE; repeat' (first | with_reducible (apply swq; constructor) | simp only [go_sem, seval, P90, pe90, q90, g1] | simp (disch := omega) only [wA] | ((with_reducible refine o_eff [2, 3] [0] (c1) ?hs ?he ?hh ?_); (case hs => exact so); (case he | hh => exact sh wQ); rintro _ _ ⟨rfl, rfl⟩) | (with_reducible (apply gdA; constructor)) | ((with_reducible refine And.intro ?hw ?_); (case hw => exact sw wQ)) | with_reducible intro _)
      all_goals try omega
      exact ⟨j + 1, by omega, by omega, by simp [keepE, St.keepG, St.keep, St.gc, RcS, RcB, Hp.cut, Hp.back, putAt, bakF, Blk.rnL, rC, rM, Tv.rnL, Tv.rn, D.rnL, D.rn, cutF, Own.rn, hB, hE, q1]⟩
  ·have e : j = L.length := by omega
   subst e
   rw [List.take_length]
   cases hq : qOf i L with
   | nil =>
     have hL0 : L = [] := by
      have := congrArg List.length hq
      rw [qOf_len] at this
      exact List.eq_nil_of_length_eq_zero (by simpa using this)
     have hYZ : Y = Z := by rw [← hY, ← hZ, hL0, putS_nil]
     simp only [queD, tkq]
     have wQ := And.intro @hB @hE; repeat' (first | with_reducible (apply swq; constructor) | simp only [go_sem, seval, P90, pe90, q90] | simp (disch := omega) only [wA] | ((with_reducible refine o_eff [2, 3] [] (s0) ?hs ?he ?hh ?_); (case hs => exact so); (case he | hh => exact sh wQ); rintro _ _ ⟨rfl, rfl⟩) | (with_reducible (apply gdA; constructor)) | ((with_reducible refine And.intro ?hw ?_); (case hw => exact sw wQ)) | with_reducible intro _)
     all_goals try omega
     (refine ⟨_, zAa, ?_⟩; simp [RcS, RcB, Hp.cut, Hp.back, putAt, bakF, Blk.rnL, rC, rM, Tv.rnL, Tv.rn, D.rnL, D.rn, cutF, Own.rn, hB, hE, hYZ, hB2])
   | cons p q =>
     have c1 := s1 p q hq
     simp only [queD, tkq] at c1 ⊢
     have wQ := And.intro @hB @hE; repeat' (first | with_reducible (apply swq; constructor) | simp only [go_sem, seval, P90, pe90, q90] | simp (disch := omega) only [wA] | ((with_reducible refine o_eff [2, 3] [0] (c1) ?hs ?he ?hh ?_); (case hs => exact so); (case he | hh => exact sh wQ); rintro _ _ ⟨rfl, rfl⟩) | (with_reducible (apply gdA; constructor)) | ((with_reducible refine And.intro ?hw ?_); (case hw => exact sw wQ)) | with_reducible intro _)
     all_goals try omega
     (refine ⟨_, zAa, ?_⟩; simp [RcS, RcB, Hp.cut, Hp.back, putAt, bakF, Blk.rnL, rC, rM, Tv.rnL, Tv.rn, D.rnL, D.rn, cutF, Own.rn, hB, hE, hB2])
theorem rel_last {w : World} {g : Gh} {d d' : D} (hd : ∀ x, Rel w g d x → Rel w g d' x) : ∀ (a : List D) {xs : List Value}, RelL w g (a ++ [d]) xs → RelL w g (a ++ [d']) xs
 | [], xs, h => by
   simp only [List.nil_append, RelL] at h ⊢
   obtain ⟨y, ys, h1, h2, h3⟩ := h
   exact ⟨y, ys, h1, hd y h2, h3⟩
 | b :: a, xs, h => by
   simp only [List.cons_append, RelL] at h ⊢
   obtain ⟨y, ys, h1, h2, h3⟩ := h
   exact ⟨y, ys, h1, h2, rel_last hd a h3⟩
theorem eff_full {M : Mod} {f : FuncId} {a es : List D} {hp : Hp} {R : D → Hp → Prop} (h : Eff M f (a ++ [.slice es .no]) hp R) : Eff M f (a ++ [.slice es .full]) hp R :=
 ⟨h.1, fun w g xs hA hh hr => h.2 w g xs hA hh (rel_last (fun x hx => by
  simp only [Rel] at hx ⊢
  obtain ⟨b, cap, k, ys, h1, h2, h3, h4, h5, h6⟩ := hx
  exact ⟨b, cap, k, ys, h1, h2, h3, h4, h5, trivial⟩) a hr)⟩
theorem write_f (n : Nat) (hn : n ≤ 8000) (S : Sx) (hS : SxOk S n) (s : Sto) (l : List Tri) (c : Nat) (i : Nat) (L : Sx) (hi : i + L.length ≤ n) (hL : ∀ x ∈ L, x.length = 64) :
 Eff M 90 [.ptr 0 0, .int .i64 i, .slice (strs L) .full] (hpS n S s l c) fun d hp => d = .int .i64 0 ∧ hp = hpS n (putS S i L) s l c :=
 eff_full (a := [.ptr 0 0, .int .i64 i]) (write_s n hn S hS s l c i L hi hL)
end Go.Proofs.YtkobjnpmjngklaaGreatDoor
end
section
set_option maxRecDepth 100000
set_option linter.unusedSimpArgs false
set_option linter.unusedVariables false
namespace Go.Proofs.YtkobjnpmjngklaaGreatDoor
open Go GoV
theorem head_64 {p a c : Nat} (ha : a < 10) (hc : c < 10000000) : (headT p a c).length = 64 := zC7 ha hc
theorem set_s (n : Nat) (hn : n ≤ 8000) (h4 : 4 ≤ n) (S : Sx) (hS : SxOk S n) (s : Sto) (l : List Tri) (c a d : Nat) (ha : a < 2) (hd : d ≤ 8000) :
 Eff M 103 [.ptr 0 0, .agg [.int .i64 a, .int .i64 d]] (hpS n S s l c) fun v hp => v = .int .i64 0 ∧ hp = hpS n (goW S (setW a d)) { s with area := a, count := d } l c := by
 refine zAu 4 0 (Nat.le_refl 4) (Nat.le_refl 0) (k103.oe 4 0 rfl rfl rfl ?_)
 rw [ie103]
 unfold c103
 have k1 : Pur M 83 [.int .i64 1, .agg [.int .i64 a, .int .i64 d]] (.str (headT 1 a d)) := head_k 1 a d (by omega) (by omega) (by omega)
 have k0 : Pur M 83 [.int .i64 0, .agg [.int .i64 a, .int .i64 d]] (.str (headT 0 a d)) := head_k 0 a d (by omega) (by omega) (by omega)
 have hl1 := head_64 (p := 1) (a := a) (c := d) (by omega) (by omega)
 have hl0 := head_64 (p := 0) (a := a) (c := d) (by omega) (by omega)
 have hS1 := zB1 (i := 1) (l := [headT 1 a d]) hS (by simp; omega) (by simpa using hl1)
 have w1 := write_f n hn S hS s l c 1 [headT 1 a d] (by simp; omega) (by simpa using hl1)
 have w0 := write_f n hn _ hS1 s l c 0 [headT 0 a d] (by simp; omega) (by simpa using hl0)
 have hB := fun β τ => zAi β τ S.flatten
 have hB1 := fun β τ => zAi β τ (putS S 1 [headT 1 a d]).flatten
 have hB2 := fun β τ => zAi β τ (putS (putS S 1 [headT 1 a d]) 0 [headT 0 a d]).flatten
 have hE := fun β τ => zAl β τ l
 have e : goW S (setW a d) = putS (putS S 1 [headT 1 a d]) 0 [headT 0 a d] := rfl
 rw [e]
 unfold hpS stB dkB byB at *
 simp only [queD, strs, List.map_cons, List.map_nil] at *
 obtain ⟨Y, hY⟩ : ∃ Y : Nat → List D, Y 0 = bys S.flatten ∧ Y 1 = bys (putS S 1 [headT 1 a d]).flatten ∧ Y 2 = bys (putS (putS S 1 [headT 1 a d]) 0 [headT 0 a d]).flatten := ⟨fun | 0 => _ | 1 => _ | _ => _, rfl, rfl, rfl⟩
 rw [← hY.1, ← hY.2.1] at w1
 rw [← hY.2.1, ← hY.2.2] at w0
 rw [← hY.1] at hB ⊢
 rw [← hY.2.1] at hB1
 rw [← hY.2.2] at hB2 ⊢
 clear hY e
 generalize entT l = E at *
 generalize headT 1 a d = t1 at *
 generalize headT 0 a d = t0 at *
 have w1 : Eff M 90 [.ptr 0 0, .int .i64 1, .slice [.str t1] .full] _ _ := w1
 have w0 : Eff M 90 [.ptr 0 0, .int .i64 0, .slice [.str t0] .full] _ _ := w0
 have wQ := tw; repeat' (first | with_reducible (apply swq; constructor) | simp only [go_sem, seval, P103, pe103, q103] | ((with_reducible apply s_bsl); (case he | hl | hc => exact sd wQ)) | with_reducible intro _)
 refine zE8 (C := E103 4 0) [0, 2, 6, 7, 8] 5 0 (by decide) (Nat.le_refl 0) (fun j : Nat => ⟨[.ptr 0 0, .u0, .ptr 4 0, .u0, .u0, .u0, .slice [.int .i64 1, .int .i64 0] .full, .int .i64 2, .int .i64 j, .u0, .u0], [],
  ⟨[.cells [.ptr 2 0, .int .i64 s.size, .int .i64 s.area, .int .i64 s.count, .mp 1, .bool false], .map E c, .cells [.sl 3 1 0 (64 * n) (64 * n), .lit (.slice none 0 0), .bool false, .lit (.pointer none)], .cells (Y j), .cells [.int .i64 a, .int .i64 d]], []⟩⟩)
  (fun j => j ≤ 2) (fun j => 2 - j) 0 (Nat.zero_le _) ?_ ?_
 ·simp [keepE, St.keepG, St.keep, St.gc, RcS, RcB, Hp.cut, Hp.back, putAt, bakF, Blk.rnL, rC, rM, Tv.rnL, Tv.rn, D.rnL, D.rn, cutF, Own.rn, hB, hE]
 ·intro j hj
  by_cases h0 : j = 0
  ·subst h0
   have wQ := And.intro @hB @hE; repeat' (first | with_reducible (apply swq; constructor) | simp only [go_sem, seval, P103, pe103, q103] | simp (disch := omega) only [wA] | ((with_reducible refine zAc (k1) ?he ?hc ?_); (case he | hc => exact sc wQ)) | ((with_reducible refine o_eff [0, 1, 2, 3] [] (w1) ?hs ?he ?hh ?_); (case hs => exact so); (case he | hh => exact sh wQ); rintro _ _ ⟨rfl, rfl⟩) | ((with_reducible apply s_bsl); (case he | hl | hc => exact sd wQ)) | with_reducible (apply cdA; constructor) | ((with_reducible refine And.intro ?hw ?_); (case hw => exact sw wQ)) | with_reducible intro _)
   all_goals try omega
   exact ⟨1, by omega, by omega, by simp [keepE, St.keepG, St.keep, St.gc, RcS, RcB, Hp.cut, Hp.back, putAt, bakF, Blk.rnL, rC, rM, Tv.rnL, Tv.rn, D.rnL, D.rn, cutF, Own.rn, hB1, hE]⟩
  ·by_cases h1 : j = 1
   ·subst h1
    have wQ := And.intro @hB1 @hE; repeat' (first | with_reducible (apply swq; constructor) | simp only [go_sem, seval, P103, pe103, q103] | simp (disch := omega) only [wA] | ((with_reducible refine zAc (k0) ?he ?hc ?_); (case he | hc => exact sc wQ)) | ((with_reducible refine o_eff [0, 1, 2, 3] [] (w0) ?hs ?he ?hh ?_); (case hs => exact so); (case he | hh => exact sh wQ); rintro _ _ ⟨rfl, rfl⟩) | ((with_reducible apply s_bsl); (case he | hl | hc => exact sd wQ)) | with_reducible (apply cdA; constructor) | ((with_reducible refine And.intro ?hw ?_); (case hw => exact sw wQ)) | with_reducible intro _)
    all_goals try omega
    exact ⟨2, by omega, by omega, by simp [keepE, St.keepG, St.keep, St.gc, RcS, RcB, Hp.cut, Hp.back, putAt, bakF, Blk.rnL, rC, rM, Tv.rnL, Tv.rn, D.rnL, D.rn, cutF, Own.rn, hB2, hE]⟩
   ·have h2 : j = 2 := by omega
    subst h2
    have wQ := tw; repeat' (first | with_reducible (apply swq; constructor) | simp only [go_sem, seval, P103, pe103, q103] | simp (disch := omega) only [wA] | with_reducible (apply cdA; constructor) | ((with_reducible refine And.intro ?hw ?_); (case hw => exact sw wQ)) | with_reducible intro _)
    all_goals try omega
    (refine ⟨_, zAa, ?_⟩; simp [RcS, RcB, Hp.cut, Hp.back, putAt, bakF, Blk.rnL, rC, rM, Tv.rnL, Tv.rn, D.rnL, D.rn, cutF, Own.rn, hB2, hE])
theorem restW_t (S : Sx) (pl a d : Nat) : goW S (restW S pl (some (a, d))) = if secAt S pl = headT pl a d then S else putS (putS S pl [zr 64]) pl [headT pl a d] := by
 unfold restW wantK
 simp only
 split <;> rfl
theorem restW_f (S : Sx) (pl : Nat) : goW S (restW S pl none) = if secAt S pl = zr 64 then S else putS S pl [zr 64] := by
 unfold restW wantK
 simp only
 split <;> rfl
theorem restore_t (n : Nat) (hn : n ≤ 8000) (S : Sx) (hS : SxOk S n) (s : Sto) (hs : s.area < 2 ∧ s.count ≤ 8000) (l : List Tri) (c pl : Nat) (hp : pl < n) :
 Eff M 45 [.ptr 0 0, .int .i64 pl, .bool true] (hpS n S s l c) fun v hp => v = .int .i64 0 ∧ hp = hpS n (goW S (restW S pl (some (s.area, s.count)))) s l c := by
 refine zAu 4 0 (Nat.le_refl 4) (Nat.le_refl 0) (k45.oe 4 0 rfl rfl rfl ?_)
 rw [ie45]
 unfold c45
 rw [restW_t]
 have k1 := head_k pl s.area s.count (by omega) (by omega) (by omega)
 have k2 := blank_p
 have hl1 := head_64 (p := pl) (a := s.area) (c := s.count) (by omega) (by omega)
 have hz : (zr 64).length = 64 := zr_len 64
 have hS1 := zB1 (i := pl) (l := [zr 64]) hS (by simp; omega) (by simp)
 have r1 := read_p n hn S hS pl hp
 have w1 := write_f n hn S hS s l c pl [zr 64] (by simp; omega) (by simp)
 have w0 := write_f n hn _ hS1 s l c pl [headT pl s.area s.count] (by simp; omega) (by simpa using hl1)
 have hB := fun β τ => zAi β τ S.flatten
 have hB1 := fun β τ => zAi β τ (putS S pl [zr 64]).flatten
 have hB2 := fun β τ => zAi β τ (putS (putS S pl [zr 64]) pl [headT pl s.area s.count]).flatten
 have hE := fun β τ => zAl β τ l
 unfold hpS stB dkB byB at *
 simp only [queD, strs, List.map_cons, List.map_nil] at *
 generalize hh : headT pl s.area s.count = t at *
 generalize zr 64 = z at *
 generalize secAt S pl = o at *
 by_cases ho : o = t
 ·subst ho
  rw [if_pos rfl]
  generalize bys S.flatten = Y at *
  generalize entT l = E at *
  have hob : (o == o) = true := by simp
  have wQ := And.intro @hB @hE; repeat' (first | with_reducible (apply swq; constructor) | simp only [go_sem, seval, P45, pe45, q45, hob] | ((with_reducible refine zAc (k1) ?he ?hc ?_); (case he | hc => exact sc wQ)) | ((with_reducible refine zAc (k2) ?he ?hc ?_); (case he | hc => exact sc wQ)) | ((with_reducible refine o_eff [2, 3] [] (r1) ?hs ?he ?hh ?_); (case hs => exact so); (case he | hh => exact sh wQ); rintro _ _ ⟨rfl, rfl⟩) | with_reducible intro _)
  all_goals try omega
  (refine ⟨_, zAa, ?_⟩; simp [RcS, RcB, Hp.cut, Hp.back, putAt, bakF, Blk.rnL, rC, rM, Tv.rnL, Tv.rn, D.rnL, D.rn, cutF, Own.rn, hB, hE])
 ·rw [if_neg ho]
  have hob : (o == t) = false := by simpa using ho
  generalize bys S.flatten = Y at *
  generalize bys (putS S pl [z]).flatten = Y1 at *
  generalize bys (putS (putS S pl [z]) pl [t]).flatten = Y2 at *
  generalize entT l = E at *
  have wQ := And.intro @hB (And.intro @hB1 (And.intro @hB2 @hE)); repeat' (first | with_reducible (apply swq; constructor) | simp only [go_sem, seval, P45, pe45, q45, hob] | ((with_reducible refine zAc (k1) ?he ?hc ?_); (case he | hc => exact sc wQ)) | ((with_reducible refine zAc (k2) ?he ?hc ?_); (case he | hc => exact sc wQ)) | ((with_reducible refine o_eff [2, 3] [] (r1) ?hs ?he ?hh ?_); (case hs => exact so); (case he | hh => exact sh wQ); rintro _ _ ⟨rfl, rfl⟩) | ((with_reducible refine o_eff [0, 1, 2, 3] [] (w1) ?hs ?he ?hh ?_); (case hs => exact so); (case he | hh => exact sh wQ); rintro _ _ ⟨rfl, rfl⟩) | ((with_reducible refine o_eff [0, 1, 2, 3] [] (w0) ?hs ?he ?hh ?_); (case hs => exact so); (case he | hh => exact sh wQ); rintro _ _ ⟨rfl, rfl⟩) | ((with_reducible apply s_bsl); (case he | hl | hc => exact sd wQ)) | with_reducible intro _)
  all_goals try omega
  (refine ⟨_, zAa, ?_⟩; simp [RcS, RcB, Hp.cut, Hp.back, putAt, bakF, Blk.rnL, rC, rM, Tv.rnL, Tv.rn, D.rnL, D.rn, cutF, Own.rn, hB2, hE])
theorem restore_f (n : Nat) (hn : n ≤ 8000) (S : Sx) (hS : SxOk S n) (s : Sto) (l : List Tri) (c pl : Nat) (hp : pl < n) :
 Eff M 45 [.ptr 0 0, .int .i64 pl, .bool false] (hpS n S s l c) fun v hp => v = .int .i64 0 ∧ hp = hpS n (goW S (restW S pl none)) s l c := by
 refine zAu 4 0 (Nat.le_refl 4) (Nat.le_refl 0) (k45.oe 4 0 rfl rfl rfl ?_)
 rw [ie45]
 unfold c45
 rw [restW_f]
 have k2 := blank_p
 have hz : (zr 64).length = 64 := zr_len 64
 have r1 := read_p n hn S hS pl hp
 have w1 := write_f n hn S hS s l c pl [zr 64] (by simp; omega) (by simp)
 have hB := fun β τ => zAi β τ S.flatten
 have hB1 := fun β τ => zAi β τ (putS S pl [zr 64]).flatten
 have hE := fun β τ => zAl β τ l
 unfold hpS stB dkB byB at *
 simp only [queD, strs, List.map_cons, List.map_nil] at *
 generalize zr 64 = z at *
 generalize secAt S pl = o at *
 by_cases ho : o = z
 ·subst ho
  rw [if_pos rfl]
  generalize bys S.flatten = Y at *
  generalize entT l = E at *
  have hob : (o == o) = true := by simp
  have wQ := And.intro @hB @hE; repeat' (first | with_reducible (apply swq; constructor) | simp only [go_sem, seval, P45, pe45, q45, hob] | ((with_reducible refine zAc (k2) ?he ?hc ?_); (case he | hc => exact sc wQ)) | ((with_reducible refine o_eff [2, 3] [] (r1) ?hs ?he ?hh ?_); (case hs => exact so); (case he | hh => exact sh wQ); rintro _ _ ⟨rfl, rfl⟩) | with_reducible intro _)
  all_goals try omega
  (refine ⟨_, zAa, ?_⟩; simp [RcS, RcB, Hp.cut, Hp.back, putAt, bakF, Blk.rnL, rC, rM, Tv.rnL, Tv.rn, D.rnL, D.rn, cutF, Own.rn, hB, hE])
 ·rw [if_neg ho]
  have hob : (o == z) = false := by simpa using ho
  generalize bys S.flatten = Y at *
  generalize bys (putS S pl [z]).flatten = Y1 at *
  generalize entT l = E at *
  have wQ := And.intro @hB (And.intro @hB1 @hE); repeat' (first | with_reducible (apply swq; constructor) | simp only [go_sem, seval, P45, pe45, q45, hob] | ((with_reducible refine zAc (k2) ?he ?hc ?_); (case he | hc => exact sc wQ)) | ((with_reducible refine o_eff [2, 3] [] (r1) ?hs ?he ?hh ?_); (case hs => exact so); (case he | hh => exact sh wQ); rintro _ _ ⟨rfl, rfl⟩) | ((with_reducible refine o_eff [0, 1, 2, 3] [] (w1) ?hs ?he ?hh ?_); (case hs => exact so); (case he | hh => exact sh wQ); rintro _ _ ⟨rfl, rfl⟩) | ((with_reducible apply s_bsl); (case he | hl | hc => exact sd wQ)) | with_reducible intro _)
  all_goals try omega
  (refine ⟨_, zAa, ?_⟩; simp [RcS, RcB, Hp.cut, Hp.back, putAt, bakF, Blk.rnL, rC, rM, Tv.rnL, Tv.rn, D.rnL, D.rn, cutF, Own.rn, hB1, hE])
end Go.Proofs.YtkobjnpmjngklaaGreatDoor
end