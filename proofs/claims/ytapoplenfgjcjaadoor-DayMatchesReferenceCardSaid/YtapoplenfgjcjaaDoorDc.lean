/- The resolved code of the functions that the claim reaches, printed by a program, and the facts that tie it to the translation. -/
import Derived.Test.YtapoplenfgjcjaaDoorProg
import Derived.Test.YtapoplenfgjcjaaDoorDa
import Derived.KernelRfl
import Derived.Lib.ItoaNum
set_option maxRecDepth 100000
namespace Go.Proofs.YtapoplenfgjcjaaDoor
open Go GoV

/- 16 bogie.day.Parse · 1 arguments · kept slots [0, 2, 3, 4, 5, 6, 7, 8, 9, 21, 48, 58] -/
noncomputable def E16 (n m : Nat) : Cfg := ⟨M, [0, 2, 3, 4, 5, 6, 7, 8, 9, 21, 48, 58], 60, n, m⟩
noncomputable def C16 : Cfg := E16 0 0
@[reducible] noncomputable def r16_0 : List RO := [
  ⟨(.var 1), .mv, [(.con (.int .i64 0))], none⟩,
  ⟨(.var 2), .mv, [(.con (.int .i64 0))], none⟩]
@[reducible] noncomputable def r16_1 : List RO := [
  ⟨(.var 3), (.newb [(.int .i64 0), (.int .i64 0), (.int .i64 0)]), [], none⟩]
@[reducible] noncomputable def r16_2 : List RO := [
  ⟨(.loc 11), .mv, [(.var 0)], none⟩,
  ⟨(.loc 12), .call, [(.con (.fn (.func 30) [] [])), (.loc 11), (.con (.str [45]))], none⟩,
  ⟨(.var 4), .mv, [(.loc 12)], none⟩]
@[reducible] noncomputable def r16_3 : List RO := [
  ⟨(.var 5), .mv, [(.con (.int .i64 0))], none⟩]
@[reducible] noncomputable def r16_4 : List RO := [
  ⟨(.loc 13), .mv, [(.var 5)], none⟩,
  ⟨(.loc 14), .mv, [(.var 4)], none⟩,
  ⟨(.loc 15), .lenL, [(.loc 14)], none⟩,
  ⟨(.loc 16), (.bin .lss), [(.loc 13), (.loc 15)], none⟩,
  ⟨(.loc 17), .mv, [(.loc 16)], none⟩,
  ⟨(.loc 18), .mv, [(.var 4)], (some ((.loc 17), true))⟩,
  ⟨(.loc 19), .lenL, [(.loc 18)], (some ((.loc 17), true))⟩,
  ⟨(.loc 20), (.bin .eql), [(.loc 19), (.con (.int .i64 3))], (some ((.loc 17), true))⟩,
  ⟨(.var 9), .pick, [(.loc 17), (.loc 20), (.con (.bool false))], none⟩]
@[reducible] noncomputable def r16_5 : List RO := [
  ⟨(.loc 25), .mv, [(.var 5)], none⟩,
  ⟨(.loc 26), .mv, [(.var 4)], none⟩,
  ⟨(.loc 27), .mv, [(.var 5)], none⟩,
  ⟨(.loc 28), (.ixaS 1), [(.loc 26), (.loc 27)], none⟩,
  ⟨(.loc 29), (.ld false 1), [(.loc 28)], none⟩,
  ⟨(.loc 30), .call, [(.con (.fn (.func 31) [] [])), (.loc 29)], none⟩,
  ⟨(.loc 24), .mv, [(.loc 30)], none⟩,
  ⟨(.loc 31), (.ext 0), [(.loc 24)], none⟩,
  ⟨(.loc 32), (.ext 1), [(.loc 24)], none⟩,
  ⟨(.loc 33), (.ixaA 3 1), [(.var 3), (.loc 25)], none⟩,
  ⟨.none, (.st 1), [(.loc 33), (.loc 31)], none⟩]
@[reducible] noncomputable def r16_6 : List RO := [
  ⟨(.loc 22), .mv, [(.var 5)], none⟩,
  ⟨(.loc 23), (.bin .add), [(.loc 22), (.con (.int .i64 1))], none⟩,
  ⟨(.var 5), .mv, [(.loc 23)], none⟩]
@[reducible] noncomputable def r16_7 : List RO := [
  ⟨(.loc 34), (.ixaA 3 1), [(.var 3), (.con (.int .i64 0))], none⟩,
  ⟨(.loc 35), (.ld false 1), [(.loc 34)], none⟩,
  ⟨(.loc 36), (.ixaA 3 1), [(.var 3), (.con (.int .i64 1))], none⟩,
  ⟨(.loc 37), (.ld false 1), [(.loc 36)], none⟩,
  ⟨(.loc 38), (.ixaA 3 1), [(.var 3), (.con (.int .i64 2))], none⟩,
  ⟨(.loc 39), (.ld false 1), [(.loc 38)], none⟩,
  ⟨(.loc 40), (.bld [(.int .i64 0), (.int .i64 0), (.int .i64 0)] [(0, 1), (1, 1), (2, 1)]), [(.loc 35), (.loc 37), (.loc 39)], none⟩,
  ⟨(.var 6), (.newb [(.int .i64 0), (.int .i64 0), (.int .i64 0)]), [], none⟩,
  ⟨.none, (.st 3), [(.var 6), (.loc 40)], none⟩]
@[reducible] noncomputable def r16_8 : List RO := [
  ⟨(.loc 41), (.ld true 3), [(.var 6)], none⟩,
  ⟨(.loc 42), .call, [(.con (.fn (.func 20) [] [])), (.loc 41)], none⟩,
  ⟨(.loc 43), (.un .not), [(.loc 42)], none⟩,
  ⟨(.loc 44), .mv, [(.loc 43)], none⟩,
  ⟨(.loc 45), (.ld true 3), [(.var 6)], (some ((.loc 44), false))⟩,
  ⟨(.loc 46), .call, [(.con (.fn (.func 21) [] [])), (.loc 45)], (some ((.loc 44), false))⟩,
  ⟨(.loc 47), (.un .not), [(.loc 46)], (some ((.loc 44), false))⟩,
  ⟨(.var 10), .pick, [(.loc 44), (.con (.bool true)), (.loc 47)], none⟩]
@[reducible] noncomputable def r16_9 : List RO := [
  ⟨(.var 1), .mv, [(.con (.int .i64 0))], none⟩,
  ⟨(.var 2), .mv, [(.con (.int .i64 8))], none⟩]
@[reducible] noncomputable def r16_10 : List RO := [
  ⟨(.loc 49), (.ld true 3), [(.var 6)], none⟩,
  ⟨(.loc 50), .call, [(.con (.fn (.func 22) [] [])), (.loc 49)], none⟩,
  ⟨(.var 7), .mv, [(.loc 50)], none⟩]
@[reducible] noncomputable def r16_11 : List RO := [
  ⟨(.loc 52), .mv, [(.var 7)], none⟩,
  ⟨(.loc 53), .call, [(.con (.fn (.func 14) [] [])), (.loc 52)], none⟩,
  ⟨(.loc 51), .mv, [(.loc 53)], none⟩,
  ⟨(.loc 54), (.ext 0), [(.loc 51)], none⟩,
  ⟨(.loc 55), (.ext 1), [(.loc 51)], none⟩,
  ⟨(.var 8), .mv, [(.loc 54)], none⟩,
  ⟨(.loc 10), .mv, [(.loc 55)], none⟩]
@[reducible] noncomputable def r16_12 : List RO := [
  ⟨(.loc 56), .mv, [(.var 8)], none⟩,
  ⟨(.loc 57), .mv, [(.var 0)], none⟩,
  ⟨(.var 11), (.bin .neq), [(.loc 56), (.loc 57)], none⟩]
@[reducible] noncomputable def r16_13 : List RO := [
  ⟨(.var 1), .mv, [(.con (.int .i64 0))], none⟩,
  ⟨(.var 2), .mv, [(.con (.int .i64 8))], none⟩]
@[reducible] noncomputable def r16_14 : List RO := [
  ⟨(.loc 59), .mv, [(.var 7)], none⟩,
  ⟨(.var 1), .mv, [(.loc 59)], none⟩,
  ⟨(.var 2), .mv, [(.con (.int .i64 0))], none⟩]
theorem P16 : C16.M = M := by unfold C16 E16; rfl
theorem pe16 {n m : Nat} : (E16 n m).M = M := by unfold E16; rfl
theorem i16 {a0 : D} : St.init C16 [a0] ⟨[], []⟩ = ⟨[a0, .undef, .undef, .undef, .undef, .undef, .undef, .undef, .undef, .undef, .undef, .undef], [], ⟨[], []⟩⟩ := by unfold C16 E16; rfl
theorem ie16 {n m : Nat} {hp : Hp} {a0 : D} : St.init (E16 n m) [a0] hp = ⟨[a0, .undef, .undef, .undef, .undef, .undef, .undef, .undef, .undef, .undef, .undef, .undef], [], hp⟩ := by unfold E16; rfl
noncomputable def c16 : RC := (.seq (.reg r16_0) (.seq (.reg r16_1) (.seq (.reg r16_2) (.seq (.seq (.reg r16_3) (.block 0 (.loop (.seq (.seq (.reg r16_4) (.cond (.var 9) .skip (.exit 0))) (.seq (.block 1 (.reg r16_5)) (.reg r16_6)))))) (.seq (.reg r16_7) (.seq (.seq (.reg r16_8) (.cond (.var 10) (.seq (.reg r16_9) .ret) .skip)) (.seq (.reg r16_10) (.seq (.seq (.reg r16_11) (.seq (.reg r16_12) (.cond (.var 11) (.seq (.reg r16_13) .ret) .skip))) (.seq (.reg r16_14) .ret)))))))))
noncomputable def q16 : List RR := [(.slot (.var 1)), (.slot (.var 2))]
theorem z16 {n m : Nat} : resCode (E16 n m) (Tryd.f16.body.getD .skip) = some c16 := by kernel_rfl
theorem zr16 {n m : Nat} : resRs (E16 n m) Tryd.f16.results.toList = some q16 := by kernel_rfl
theorem oe16 {args : List D} {hp : Hp} {R : D → Hp → Prop} (n m : Nat) (hl : args.length = 1) (hn : n = hp.H.length) (hm : m = hp.tk.length) (h : SWp (E16 n m) c16 (fun e s => (match e with | .exit _ => False | _ => True) ∧ ∃ s1, Weak (E16 n m) s s1 ∧ rrsWp q16 s1 fun ds => R (oneOrTup ds) s1.hp) (St.init (E16 n m) args hp)) : Eff M 16 args hp R :=
  eff_of_body (C := E16 n m) (fn := Tryd.f16) Tryd.func16 (by kernel_rfl) (by kernel_rfl) (rc := c16) z16 (rs := q16) zr16 (by kernel_rfl) (by rw [hl]; rfl) (by rw [hl]; exact (by decide : 1 ≤ 60)) hn hm h
theorem ow16 {args : List D} {d : D} (hl : args.length = 1) (h : SWp C16 c16 (fun e s => (match e with | .exit _ => False | _ => True) ∧ ∃ s1, Weak C16 s s1 ∧ rrsWp q16 s1 fun ds => D.closed (oneOrTup ds) = true ∧ (oneOrTup ds).er = d) (St.init C16 args ⟨[], []⟩)) : Pur M 16 args d :=
  pur_of_bodyW (C := C16) (fn := Tryd.f16) Tryd.func16 (by kernel_rfl) (by kernel_rfl) (rc := c16) z16 (rs := q16) zr16 (by kernel_rfl) (by rw [hl]; rfl) (by rw [hl]; decide) rfl rfl h
theorem ok16 {args : List D} {d : D} (hl : args.length = 1) (h : SWp C16 c16 (fun e s => (match e with | .exit _ => False | _ => True) ∧ rrsWp q16 s fun ds => D.closed (oneOrTup ds) = true ∧ (oneOrTup ds).er = d) (St.init C16 args ⟨[], []⟩)) : Pur M 16 args d :=
  pur_of_body (C := C16) (fn := Tryd.f16) Tryd.func16 (by kernel_rfl) (by kernel_rfl) (rc := c16) z16 (rs := q16) zr16 (by kernel_rfl) (by rw [hl]; rfl) (by rw [hl]; decide) rfl rfl h

/- 6 bogie.bogielaw06.DayMatchesReference · 6 arguments · kept slots [0, 1, 2, 3, 4, 5, 12, 13, 14, 15, 16, 17, 18, 19, 20, 21, 22, 23, 24, 25, 26, 27, 28, 29, 30, 31, 32, 33, 34, 35, 39] -/
noncomputable def E6 (n m : Nat) : Cfg := ⟨M, [0, 1, 2, 3, 4, 5, 12, 13, 14, 15, 16, 17, 18, 19, 20, 21, 22, 23, 24, 25, 26, 27, 28, 29, 30, 31, 32, 33, 34, 35, 39], 153, n, m⟩
noncomputable def C6 : Cfg := E6 0 0
@[reducible] noncomputable def r6_0 : List RO := [
  ⟨(.var 6), .mv, [(.con (.bool false))], none⟩]
@[reducible] noncomputable def r6_1 : List RO := [
  ⟨(.loc 36), .call, [(.con (.fn (.func 8) [] []))], none⟩,
  ⟨(.var 7), .mv, [(.loc 36)], none⟩]
@[reducible] noncomputable def r6_2 : List RO := [
  ⟨(.loc 37), .mv, [(.var 5)], none⟩,
  ⟨(.loc 38), .lenS, [(.loc 37)], none⟩,
  ⟨(.var 30), (.bin .gtr), [(.loc 38), (.con (.int .i64 100))], none⟩]
@[reducible] noncomputable def r6_3 : List RO := [
  ⟨(.loc 40), .mv, [(.var 7)], none⟩,
  ⟨(.var 6), .mv, [(.loc 40)], none⟩]
@[reducible] noncomputable def r6_4 : List RO := [
  ⟨(.loc 42), .mv, [(.var 0)], none⟩,
  ⟨(.loc 43), .call, [(.con (.fn (.func 9) [] [])), (.loc 42)], none⟩,
  ⟨(.loc 41), .mv, [(.loc 43)], none⟩,
  ⟨(.loc 44), (.ext 0), [(.loc 41)], none⟩,
  ⟨(.loc 45), (.ext 1), [(.loc 41)], none⟩,
  ⟨(.var 8), (.newb [(.int .i64 0), (.int .i64 0), (.int .i64 0)]), [], none⟩,
  ⟨.none, (.st 3), [(.var 8), (.loc 44)], none⟩,
  ⟨(.var 9), .mv, [(.loc 45)], none⟩]
@[reducible] noncomputable def r6_5 : List RO := [
  ⟨(.loc 47), .mv, [(.var 0)], none⟩,
  ⟨(.loc 48), .call, [(.con (.fn (.func 12) [] [])), (.loc 47)], none⟩,
  ⟨(.loc 46), .mv, [(.loc 48)], none⟩,
  ⟨(.loc 49), (.ext 0), [(.loc 46)], none⟩,
  ⟨(.loc 50), (.ext 1), [(.loc 46)], none⟩,
  ⟨(.loc 51), (.ext 2), [(.loc 46)], none⟩,
  ⟨(.loc 52), (.ext 3), [(.loc 46)], none⟩,
  ⟨(.var 10), .mv, [(.loc 49)], none⟩,
  ⟨(.var 11), .mv, [(.loc 50)], none⟩,
  ⟨(.var 12), .mv, [(.loc 51)], none⟩,
  ⟨(.var 13), .mv, [(.loc 52)], none⟩]
@[reducible] noncomputable def r6_6 : List RO := [
  ⟨(.loc 54), .mv, [(.var 1)], none⟩,
  ⟨(.loc 55), .mv, [(.var 2)], none⟩,
  ⟨(.loc 56), .mv, [(.var 3)], none⟩,
  ⟨(.loc 57), .call, [(.con (.fn (.func 10) [] [])), (.loc 54), (.loc 55), (.loc 56)], none⟩,
  ⟨(.loc 53), .mv, [(.loc 57)], none⟩,
  ⟨(.loc 58), (.ext 0), [(.loc 53)], none⟩,
  ⟨(.loc 59), (.ext 1), [(.loc 53)], none⟩,
  ⟨(.var 14), .mv, [(.loc 58)], none⟩,
  ⟨(.var 15), .mv, [(.loc 59)], none⟩]
@[reducible] noncomputable def r6_7 : List RO := [
  ⟨(.loc 61), .mv, [(.var 1)], none⟩,
  ⟨(.loc 62), .mv, [(.var 2)], none⟩,
  ⟨(.loc 63), .mv, [(.var 3)], none⟩,
  ⟨(.loc 64), .call, [(.con (.fn (.func 13) [] [])), (.loc 61), (.loc 62), (.loc 63)], none⟩,
  ⟨(.loc 60), .mv, [(.loc 64)], none⟩,
  ⟨(.loc 65), (.ext 0), [(.loc 60)], none⟩,
  ⟨(.loc 66), (.ext 1), [(.loc 60)], none⟩,
  ⟨(.var 16), .mv, [(.loc 65)], none⟩,
  ⟨(.var 17), .mv, [(.loc 66)], none⟩]
@[reducible] noncomputable def r6_8 : List RO := [
  ⟨(.loc 68), .mv, [(.var 0)], none⟩,
  ⟨(.loc 69), .call, [(.con (.fn (.func 14) [] [])), (.loc 68)], none⟩,
  ⟨(.loc 67), .mv, [(.loc 69)], none⟩,
  ⟨(.loc 70), (.ext 0), [(.loc 67)], none⟩,
  ⟨(.loc 71), (.ext 1), [(.loc 67)], none⟩,
  ⟨(.var 18), .mv, [(.loc 70)], none⟩,
  ⟨(.var 19), .mv, [(.loc 71)], none⟩]
@[reducible] noncomputable def r6_9 : List RO := [
  ⟨(.loc 73), .mv, [(.var 0)], none⟩,
  ⟨(.loc 74), .call, [(.con (.fn (.func 15) [] [])), (.loc 73)], none⟩,
  ⟨(.loc 72), .mv, [(.loc 74)], none⟩,
  ⟨(.loc 75), (.ext 0), [(.loc 72)], none⟩,
  ⟨(.loc 76), (.ext 1), [(.loc 72)], none⟩,
  ⟨(.var 20), .mv, [(.loc 75)], none⟩,
  ⟨(.var 21), .mv, [(.loc 76)], none⟩]
@[reducible] noncomputable def r6_10 : List RO := [
  ⟨(.loc 78), .mv, [(.var 5)], none⟩,
  ⟨(.loc 79), .call, [(.con (.fn (.func 16) [] [])), (.loc 78)], none⟩,
  ⟨(.loc 77), .mv, [(.loc 79)], none⟩,
  ⟨(.loc 80), (.ext 0), [(.loc 77)], none⟩,
  ⟨(.loc 81), (.ext 1), [(.loc 77)], none⟩,
  ⟨(.var 22), .mv, [(.loc 80)], none⟩,
  ⟨(.var 23), .mv, [(.loc 81)], none⟩]
@[reducible] noncomputable def r6_11 : List RO := [
  ⟨(.loc 83), .mv, [(.var 5)], none⟩,
  ⟨(.loc 84), .call, [(.con (.fn (.func 17) [] [])), (.loc 83)], none⟩,
  ⟨(.loc 82), .mv, [(.loc 84)], none⟩,
  ⟨(.loc 85), (.ext 0), [(.loc 82)], none⟩,
  ⟨(.loc 86), (.ext 1), [(.loc 82)], none⟩,
  ⟨(.var 24), .mv, [(.loc 85)], none⟩,
  ⟨(.var 25), .mv, [(.loc 86)], none⟩]
@[reducible] noncomputable def r6_12 : List RO := [
  ⟨(.loc 88), .mv, [(.var 0)], none⟩,
  ⟨(.loc 89), .mv, [(.var 4)], none⟩,
  ⟨(.loc 90), .call, [(.con (.fn (.func 11) [] [])), (.loc 88), (.loc 89)], none⟩,
  ⟨(.loc 87), .mv, [(.loc 90)], none⟩,
  ⟨(.loc 91), (.ext 0), [(.loc 87)], none⟩,
  ⟨(.loc 92), (.ext 1), [(.loc 87)], none⟩,
  ⟨(.var 26), .mv, [(.loc 91)], none⟩,
  ⟨(.var 27), .mv, [(.loc 92)], none⟩]
@[reducible] noncomputable def r6_13 : List RO := [
  ⟨(.loc 94), .mv, [(.var 0)], none⟩,
  ⟨(.loc 95), .mv, [(.var 4)], none⟩,
  ⟨(.loc 96), .call, [(.con (.fn (.func 18) [] [])), (.loc 94), (.loc 95)], none⟩,
  ⟨(.loc 93), .mv, [(.loc 96)], none⟩,
  ⟨(.loc 97), (.ext 0), [(.loc 93)], none⟩,
  ⟨(.loc 98), (.ext 1), [(.loc 93)], none⟩,
  ⟨(.var 28), .mv, [(.loc 97)], none⟩,
  ⟨(.var 29), .mv, [(.loc 98)], none⟩]
@[reducible] noncomputable def r6_14 : List RO := [
  ⟨(.loc 99), .mv, [(.var 7)], none⟩,
  ⟨(.loc 100), .mv, [(.loc 99)], none⟩,
  ⟨(.loc 101), (.ld true 3), [(.var 8)], (some ((.loc 100), true))⟩,
  ⟨(.loc 102), .mv, [(.var 10)], (some ((.loc 100), true))⟩,
  ⟨(.loc 103), .mv, [(.var 11)], (some ((.loc 100), true))⟩,
  ⟨(.loc 104), .mv, [(.var 12)], (some ((.loc 100), true))⟩,
  ⟨(.loc 105), (.bld [(.int .i64 0), (.int .i64 0), (.int .i64 0)] [(0, 1), (1, 1), (2, 1)]), [(.loc 102), (.loc 103), (.loc 104)], (some ((.loc 100), true))⟩,
  ⟨(.loc 106), (.eqA false [.int, .int, .int]), [(.loc 101), (.loc 105)], (some ((.loc 100), true))⟩,
  ⟨(.loc 107), .pick, [(.loc 100), (.loc 106), (.con (.bool false))], none⟩,
  ⟨(.loc 108), .mv, [(.loc 107)], none⟩,
  ⟨(.loc 109), .mv, [(.var 9)], (some ((.loc 108), true))⟩,
  ⟨(.loc 110), .mv, [(.var 13)], (some ((.loc 108), true))⟩,
  ⟨(.loc 111), (.bin .eql), [(.loc 109), (.loc 110)], (some ((.loc 108), true))⟩,
  ⟨(.loc 112), .pick, [(.loc 108), (.loc 111), (.con (.bool false))], none⟩,
  ⟨(.loc 113), .mv, [(.loc 112)], none⟩,
  ⟨(.loc 114), .mv, [(.var 14)], (some ((.loc 113), true))⟩,
  ⟨(.loc 115), .mv, [(.var 16)], (some ((.loc 113), true))⟩,
  ⟨(.loc 116), (.bin .eql), [(.loc 114), (.loc 115)], (some ((.loc 113), true))⟩,
  ⟨(.loc 117), .pick, [(.loc 113), (.loc 116), (.con (.bool false))], none⟩,
  ⟨(.loc 118), .mv, [(.loc 117)], none⟩,
  ⟨(.loc 119), .mv, [(.var 15)], (some ((.loc 118), true))⟩,
  ⟨(.loc 120), .mv, [(.var 17)], (some ((.loc 118), true))⟩,
  ⟨(.loc 121), (.bin .eql), [(.loc 119), (.loc 120)], (some ((.loc 118), true))⟩,
  ⟨(.loc 122), .pick, [(.loc 118), (.loc 121), (.con (.bool false))], none⟩,
  ⟨(.loc 123), .mv, [(.loc 122)], none⟩,
  ⟨(.loc 124), .mv, [(.var 18)], (some ((.loc 123), true))⟩,
  ⟨(.loc 125), .mv, [(.var 20)], (some ((.loc 123), true))⟩,
  ⟨(.loc 126), (.bin .eql), [(.loc 124), (.loc 125)], (some ((.loc 123), true))⟩,
  ⟨(.loc 127), .pick, [(.loc 123), (.loc 126), (.con (.bool false))], none⟩,
  ⟨(.loc 128), .mv, [(.loc 127)], none⟩,
  ⟨(.loc 129), .mv, [(.var 19)], (some ((.loc 128), true))⟩,
  ⟨(.loc 130), .mv, [(.var 21)], (some ((.loc 128), true))⟩,
  ⟨(.loc 131), (.bin .eql), [(.loc 129), (.loc 130)], (some ((.loc 128), true))⟩,
  ⟨(.loc 132), .pick, [(.loc 128), (.loc 131), (.con (.bool false))], none⟩,
  ⟨(.loc 133), .mv, [(.loc 132)], none⟩,
  ⟨(.loc 134), .mv, [(.var 22)], (some ((.loc 133), true))⟩,
  ⟨(.loc 135), .mv, [(.var 24)], (some ((.loc 133), true))⟩,
  ⟨(.loc 136), (.bin .eql), [(.loc 134), (.loc 135)], (some ((.loc 133), true))⟩,
  ⟨(.loc 137), .pick, [(.loc 133), (.loc 136), (.con (.bool false))], none⟩,
  ⟨(.loc 138), .mv, [(.loc 137)], none⟩,
  ⟨(.loc 139), .mv, [(.var 23)], (some ((.loc 138), true))⟩,
  ⟨(.loc 140), .mv, [(.var 25)], (some ((.loc 138), true))⟩,
  ⟨(.loc 141), (.bin .eql), [(.loc 139), (.loc 140)], (some ((.loc 138), true))⟩,
  ⟨(.loc 142), .pick, [(.loc 138), (.loc 141), (.con (.bool false))], none⟩,
  ⟨(.loc 143), .mv, [(.loc 142)], none⟩,
  ⟨(.loc 144), .mv, [(.var 26)], (some ((.loc 143), true))⟩,
  ⟨(.loc 145), .mv, [(.var 28)], (some ((.loc 143), true))⟩,
  ⟨(.loc 146), (.bin .eql), [(.loc 144), (.loc 145)], (some ((.loc 143), true))⟩,
  ⟨(.loc 147), .pick, [(.loc 143), (.loc 146), (.con (.bool false))], none⟩,
  ⟨(.loc 148), .mv, [(.loc 147)], none⟩,
  ⟨(.loc 149), .mv, [(.var 27)], (some ((.loc 148), true))⟩,
  ⟨(.loc 150), .mv, [(.var 29)], (some ((.loc 148), true))⟩,
  ⟨(.loc 151), (.bin .eql), [(.loc 149), (.loc 150)], (some ((.loc 148), true))⟩,
  ⟨(.loc 152), .pick, [(.loc 148), (.loc 151), (.con (.bool false))], none⟩,
  ⟨(.var 6), .mv, [(.loc 152)], none⟩]
theorem P6 : C6.M = M := by unfold C6 E6; rfl
theorem pe6 {n m : Nat} : (E6 n m).M = M := by unfold E6; rfl
theorem i6 {a0 a1 a2 a3 a4 a5 : D} : St.init C6 [a0, a1, a2, a3, a4, a5] ⟨[], []⟩ = ⟨[a0, a1, a2, a3, a4, a5, .undef, .undef, .undef, .undef, .undef, .undef, .undef, .undef, .undef, .undef, .undef, .undef, .undef, .undef, .undef, .undef, .undef, .undef, .undef, .undef, .undef, .undef, .undef, .undef, .undef], [], ⟨[], []⟩⟩ := by unfold C6 E6; rfl
theorem ie6 {n m : Nat} {hp : Hp} {a0 a1 a2 a3 a4 a5 : D} : St.init (E6 n m) [a0, a1, a2, a3, a4, a5] hp = ⟨[a0, a1, a2, a3, a4, a5, .undef, .undef, .undef, .undef, .undef, .undef, .undef, .undef, .undef, .undef, .undef, .undef, .undef, .undef, .undef, .undef, .undef, .undef, .undef, .undef, .undef, .undef, .undef, .undef, .undef], [], hp⟩ := by unfold E6; rfl
noncomputable def c6 : RC := (.seq (.reg r6_0) (.seq (.reg r6_1) (.seq (.seq (.reg r6_2) (.cond (.var 30) (.seq (.reg r6_3) .ret) .skip)) (.seq (.reg r6_4) (.seq (.reg r6_5) (.seq (.reg r6_6) (.seq (.reg r6_7) (.seq (.reg r6_8) (.seq (.reg r6_9) (.seq (.reg r6_10) (.seq (.reg r6_11) (.seq (.reg r6_12) (.seq (.reg r6_13) (.seq (.reg r6_14) .ret))))))))))))))
noncomputable def q6 : List RR := [(.slot (.var 6))]
theorem z6 {n m : Nat} : resCode (E6 n m) (Tryd.f6.body.getD .skip) = some c6 := by kernel_rfl
theorem zr6 {n m : Nat} : resRs (E6 n m) Tryd.f6.results.toList = some q6 := by kernel_rfl
theorem oe6 {args : List D} {hp : Hp} {R : D → Hp → Prop} (n m : Nat) (hl : args.length = 6) (hn : n = hp.H.length) (hm : m = hp.tk.length) (h : SWp (E6 n m) c6 (fun e s => (match e with | .exit _ => False | _ => True) ∧ ∃ s1, Weak (E6 n m) s s1 ∧ rrsWp q6 s1 fun ds => R (oneOrTup ds) s1.hp) (St.init (E6 n m) args hp)) : Eff M 6 args hp R :=
  eff_of_body (C := E6 n m) (fn := Tryd.f6) Tryd.func6 (by kernel_rfl) (by kernel_rfl) (rc := c6) z6 (rs := q6) zr6 (by kernel_rfl) (by rw [hl]; rfl) (by rw [hl]; exact (by decide : 6 ≤ 153)) hn hm h
theorem ow6 {args : List D} {d : D} (hl : args.length = 6) (h : SWp C6 c6 (fun e s => (match e with | .exit _ => False | _ => True) ∧ ∃ s1, Weak C6 s s1 ∧ rrsWp q6 s1 fun ds => D.closed (oneOrTup ds) = true ∧ (oneOrTup ds).er = d) (St.init C6 args ⟨[], []⟩)) : Pur M 6 args d :=
  pur_of_bodyW (C := C6) (fn := Tryd.f6) Tryd.func6 (by kernel_rfl) (by kernel_rfl) (rc := c6) z6 (rs := q6) zr6 (by kernel_rfl) (by rw [hl]; rfl) (by rw [hl]; decide) rfl rfl h
theorem ok6 {args : List D} {d : D} (hl : args.length = 6) (h : SWp C6 c6 (fun e s => (match e with | .exit _ => False | _ => True) ∧ rrsWp q6 s fun ds => D.closed (oneOrTup ds) = true ∧ (oneOrTup ds).er = d) (St.init C6 args ⟨[], []⟩)) : Pur M 6 args d :=
  pur_of_body (C := C6) (fn := Tryd.f6) Tryd.func6 (by kernel_rfl) (by kernel_rfl) (rc := c6) z6 (rs := q6) zr6 (by kernel_rfl) (by rw [hl]; rfl) (by rw [hl]; decide) rfl rfl h

/- 7 bogie.bogielaw06.DayOrder · 3 arguments · kept slots [0, 1, 2, 6, 7, 8, 9, 10, 11, 12, 13, 14, 15, 16, 17, 21, 34, 59, 66] -/
noncomputable def E7 (n m : Nat) : Cfg := ⟨M, [0, 1, 2, 6, 7, 8, 9, 10, 11, 12, 13, 14, 15, 16, 17, 21, 34, 59, 66], 91, n, m⟩
noncomputable def C7 : Cfg := E7 0 0
@[reducible] noncomputable def r7_0 : List RO := [
  ⟨(.var 3), .mv, [(.con (.bool false))], none⟩]
@[reducible] noncomputable def r7_1 : List RO := [
  ⟨(.loc 18), .call, [(.con (.fn (.func 8) [] []))], none⟩,
  ⟨(.var 4), .mv, [(.loc 18)], none⟩]
@[reducible] noncomputable def r7_2 : List RO := [
  ⟨(.loc 19), .mv, [(.var 2)], none⟩,
  ⟨(.loc 20), .lenS, [(.loc 19)], none⟩,
  ⟨(.var 15), (.bin .gtr), [(.loc 20), (.con (.int .i64 100))], none⟩]
@[reducible] noncomputable def r7_3 : List RO := [
  ⟨(.loc 22), .mv, [(.var 4)], none⟩,
  ⟨(.var 3), .mv, [(.loc 22)], none⟩]
@[reducible] noncomputable def r7_4 : List RO := [
  ⟨(.loc 24), .mv, [(.var 0)], none⟩,
  ⟨(.loc 25), .call, [(.con (.fn (.func 14) [] [])), (.loc 24)], none⟩,
  ⟨(.loc 23), .mv, [(.loc 25)], none⟩,
  ⟨(.loc 26), (.ext 0), [(.loc 23)], none⟩,
  ⟨(.loc 27), (.ext 1), [(.loc 23)], none⟩,
  ⟨(.var 5), .mv, [(.loc 26)], none⟩,
  ⟨(.var 6), .mv, [(.loc 27)], none⟩]
@[reducible] noncomputable def r7_5 : List RO := [
  ⟨(.loc 29), .mv, [(.var 1)], none⟩,
  ⟨(.loc 30), .call, [(.con (.fn (.func 14) [] [])), (.loc 29)], none⟩,
  ⟨(.loc 28), .mv, [(.loc 30)], none⟩,
  ⟨(.loc 31), (.ext 0), [(.loc 28)], none⟩,
  ⟨(.loc 32), (.ext 1), [(.loc 28)], none⟩,
  ⟨(.var 7), .mv, [(.loc 31)], none⟩,
  ⟨(.var 8), .mv, [(.loc 32)], none⟩]
@[reducible] noncomputable def r7_6 : List RO := [
  ⟨(.loc 33), .mv, [(.var 6)], none⟩,
  ⟨(.var 16), (.bin .eql), [(.loc 33), (.con (.int .i64 0))], none⟩]
@[reducible] noncomputable def r7_7 : List RO := [
  ⟨(.loc 36), .mv, [(.var 5)], none⟩,
  ⟨(.loc 37), .call, [(.con (.fn (.func 16) [] [])), (.loc 36)], none⟩,
  ⟨(.loc 35), .mv, [(.loc 37)], none⟩,
  ⟨(.loc 38), (.ext 0), [(.loc 35)], none⟩,
  ⟨(.loc 39), (.ext 1), [(.loc 35)], none⟩,
  ⟨(.var 9), .mv, [(.loc 38)], none⟩,
  ⟨(.var 10), .mv, [(.loc 39)], none⟩]
@[reducible] noncomputable def r7_8 : List RO := [
  ⟨(.loc 40), .mv, [(.var 10)], none⟩,
  ⟨(.loc 41), (.bin .neq), [(.loc 40), (.con (.int .i64 0))], none⟩,
  ⟨(.loc 42), .mv, [(.loc 41)], none⟩,
  ⟨(.loc 43), .mv, [(.var 9)], (some ((.loc 42), false))⟩,
  ⟨(.loc 44), .mv, [(.var 0)], (some ((.loc 42), false))⟩,
  ⟨(.loc 45), (.bin .neq), [(.loc 43), (.loc 44)], (some ((.loc 42), false))⟩,
  ⟨(.loc 46), .pick, [(.loc 42), (.con (.bool true)), (.loc 45)], none⟩,
  ⟨(.loc 47), .mv, [(.loc 46)], none⟩,
  ⟨(.loc 48), .mv, [(.var 8)], (some ((.loc 47), false))⟩,
  ⟨(.loc 49), (.bin .eql), [(.loc 48), (.con (.int .i64 0))], (some ((.loc 47), false))⟩,
  ⟨(.loc 50), .mv, [(.loc 49)], (some ((.loc 47), false))⟩,
  ⟨(.loc 51), .mv, [(.var 0)], (some ((.loc 50), true))⟩,
  ⟨(.loc 52), .mv, [(.var 1)], (some ((.loc 50), true))⟩,
  ⟨(.loc 53), (.bin .lss), [(.loc 51), (.loc 52)], (some ((.loc 50), true))⟩,
  ⟨(.loc 54), .mv, [(.var 5)], (some ((.loc 50), true))⟩,
  ⟨(.loc 55), .mv, [(.var 7)], (some ((.loc 50), true))⟩,
  ⟨(.loc 56), (.bin .lss), [(.loc 54), (.loc 55)], (some ((.loc 50), true))⟩,
  ⟨(.loc 57), (.eqB true), [(.loc 53), (.loc 56)], (some ((.loc 50), true))⟩,
  ⟨(.loc 58), .pick, [(.loc 50), (.loc 57), (.con (.bool false))], (some ((.loc 47), false))⟩,
  ⟨(.var 17), .pick, [(.loc 47), (.con (.bool true)), (.loc 58)], none⟩]
@[reducible] noncomputable def r7_9 : List RO := [
  ⟨(.var 3), .mv, [(.con (.bool false))], none⟩]
@[reducible] noncomputable def r7_10 : List RO := [
  ⟨(.loc 61), .mv, [(.var 2)], none⟩,
  ⟨(.loc 62), .call, [(.con (.fn (.func 16) [] [])), (.loc 61)], none⟩,
  ⟨(.loc 60), .mv, [(.loc 62)], none⟩,
  ⟨(.loc 63), (.ext 0), [(.loc 60)], none⟩,
  ⟨(.loc 64), (.ext 1), [(.loc 60)], none⟩,
  ⟨(.var 11), .mv, [(.loc 63)], none⟩,
  ⟨(.var 12), .mv, [(.loc 64)], none⟩]
@[reducible] noncomputable def r7_11 : List RO := [
  ⟨(.loc 65), .mv, [(.var 12)], none⟩,
  ⟨(.var 18), (.bin .neq), [(.loc 65), (.con (.int .i64 0))], none⟩]
@[reducible] noncomputable def r7_12 : List RO := [
  ⟨(.loc 67), .mv, [(.var 4)], none⟩,
  ⟨(.loc 68), .mv, [(.loc 67)], none⟩,
  ⟨(.loc 69), .mv, [(.var 11)], (some ((.loc 68), true))⟩,
  ⟨(.loc 70), (.bin .eql), [(.loc 69), (.con (.int .i64 0))], (some ((.loc 68), true))⟩,
  ⟨(.loc 71), .pick, [(.loc 68), (.loc 70), (.con (.bool false))], none⟩,
  ⟨(.loc 72), .mv, [(.loc 71)], none⟩,
  ⟨(.loc 73), .mv, [(.var 12)], (some ((.loc 72), true))⟩,
  ⟨(.loc 74), (.bin .eql), [(.loc 73), (.con (.int .i64 8))], (some ((.loc 72), true))⟩,
  ⟨(.loc 75), .pick, [(.loc 72), (.loc 74), (.con (.bool false))], none⟩,
  ⟨(.var 3), .mv, [(.loc 75)], none⟩]
@[reducible] noncomputable def r7_13 : List RO := [
  ⟨(.loc 77), .mv, [(.var 11)], none⟩,
  ⟨(.loc 78), .call, [(.con (.fn (.func 14) [] [])), (.loc 77)], none⟩,
  ⟨(.loc 76), .mv, [(.loc 78)], none⟩,
  ⟨(.loc 79), (.ext 0), [(.loc 76)], none⟩,
  ⟨(.loc 80), (.ext 1), [(.loc 76)], none⟩,
  ⟨(.var 13), .mv, [(.loc 79)], none⟩,
  ⟨(.var 14), .mv, [(.loc 80)], none⟩]
@[reducible] noncomputable def r7_14 : List RO := [
  ⟨(.loc 81), .mv, [(.var 4)], none⟩,
  ⟨(.loc 82), .mv, [(.loc 81)], none⟩,
  ⟨(.loc 83), .mv, [(.var 14)], (some ((.loc 82), true))⟩,
  ⟨(.loc 84), (.bin .eql), [(.loc 83), (.con (.int .i64 0))], (some ((.loc 82), true))⟩,
  ⟨(.loc 85), .pick, [(.loc 82), (.loc 84), (.con (.bool false))], none⟩,
  ⟨(.loc 86), .mv, [(.loc 85)], none⟩,
  ⟨(.loc 87), .mv, [(.var 13)], (some ((.loc 86), true))⟩,
  ⟨(.loc 88), .mv, [(.var 2)], (some ((.loc 86), true))⟩,
  ⟨(.loc 89), (.bin .eql), [(.loc 87), (.loc 88)], (some ((.loc 86), true))⟩,
  ⟨(.loc 90), .pick, [(.loc 86), (.loc 89), (.con (.bool false))], none⟩,
  ⟨(.var 3), .mv, [(.loc 90)], none⟩]
theorem P7 : C7.M = M := by unfold C7 E7; rfl
theorem pe7 {n m : Nat} : (E7 n m).M = M := by unfold E7; rfl
theorem i7 {a0 a1 a2 : D} : St.init C7 [a0, a1, a2] ⟨[], []⟩ = ⟨[a0, a1, a2, .undef, .undef, .undef, .undef, .undef, .undef, .undef, .undef, .undef, .undef, .undef, .undef, .undef, .undef, .undef, .undef], [], ⟨[], []⟩⟩ := by unfold C7 E7; rfl
theorem ie7 {n m : Nat} {hp : Hp} {a0 a1 a2 : D} : St.init (E7 n m) [a0, a1, a2] hp = ⟨[a0, a1, a2, .undef, .undef, .undef, .undef, .undef, .undef, .undef, .undef, .undef, .undef, .undef, .undef, .undef, .undef, .undef, .undef], [], hp⟩ := by unfold E7; rfl
noncomputable def c7 : RC := (.seq (.reg r7_0) (.seq (.reg r7_1) (.seq (.seq (.reg r7_2) (.cond (.var 15) (.seq (.reg r7_3) .ret) .skip)) (.seq (.reg r7_4) (.seq (.reg r7_5) (.seq (.seq (.reg r7_6) (.cond (.var 16) (.seq (.reg r7_7) (.seq (.reg r7_8) (.cond (.var 17) (.seq (.reg r7_9) .ret) .skip))) .skip)) (.seq (.reg r7_10) (.seq (.seq (.reg r7_11) (.cond (.var 18) (.seq (.reg r7_12) .ret) .skip)) (.seq (.reg r7_13) (.seq (.reg r7_14) .ret))))))))))
noncomputable def q7 : List RR := [(.slot (.var 3))]
theorem z7 {n m : Nat} : resCode (E7 n m) (Tryd.f7.body.getD .skip) = some c7 := by kernel_rfl
theorem zr7 {n m : Nat} : resRs (E7 n m) Tryd.f7.results.toList = some q7 := by kernel_rfl
theorem oe7 {args : List D} {hp : Hp} {R : D → Hp → Prop} (n m : Nat) (hl : args.length = 3) (hn : n = hp.H.length) (hm : m = hp.tk.length) (h : SWp (E7 n m) c7 (fun e s => (match e with | .exit _ => False | _ => True) ∧ ∃ s1, Weak (E7 n m) s s1 ∧ rrsWp q7 s1 fun ds => R (oneOrTup ds) s1.hp) (St.init (E7 n m) args hp)) : Eff M 7 args hp R :=
  eff_of_body (C := E7 n m) (fn := Tryd.f7) Tryd.func7 (by kernel_rfl) (by kernel_rfl) (rc := c7) z7 (rs := q7) zr7 (by kernel_rfl) (by rw [hl]; rfl) (by rw [hl]; exact (by decide : 3 ≤ 91)) hn hm h
theorem ow7 {args : List D} {d : D} (hl : args.length = 3) (h : SWp C7 c7 (fun e s => (match e with | .exit _ => False | _ => True) ∧ ∃ s1, Weak C7 s s1 ∧ rrsWp q7 s1 fun ds => D.closed (oneOrTup ds) = true ∧ (oneOrTup ds).er = d) (St.init C7 args ⟨[], []⟩)) : Pur M 7 args d :=
  pur_of_bodyW (C := C7) (fn := Tryd.f7) Tryd.func7 (by kernel_rfl) (by kernel_rfl) (rc := c7) z7 (rs := q7) zr7 (by kernel_rfl) (by rw [hl]; rfl) (by rw [hl]; decide) rfl rfl h
theorem ok7 {args : List D} {d : D} (hl : args.length = 3) (h : SWp C7 c7 (fun e s => (match e with | .exit _ => False | _ => True) ∧ rrsWp q7 s fun ds => D.closed (oneOrTup ds) = true ∧ (oneOrTup ds).er = d) (St.init C7 args ⟨[], []⟩)) : Pur M 7 args d :=
  pur_of_body (C := C7) (fn := Tryd.f7) Tryd.func7 (by kernel_rfl) (by kernel_rfl) (rc := c7) z7 (rs := q7) zr7 (by kernel_rfl) (by rw [hl]; rfl) (by rw [hl]; decide) rfl rfl h
end Go.Proofs.YtapoplenfgjcjaaDoor
