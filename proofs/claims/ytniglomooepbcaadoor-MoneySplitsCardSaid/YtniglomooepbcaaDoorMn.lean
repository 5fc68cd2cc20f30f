/- The resolved code of the functions that the claim reaches, printed by a program, and the facts that tie it to the translation. -/
import Derived.Test.YtniglomooepbcaaDoorProg
import Derived.Test.YtniglomooepbcaaDoorMa
import Derived.KernelRfl
import Derived.Lib.ItoaNum
set_option maxRecDepth 100000
namespace Go.Proofs.YtniglomooepbcaaDoor
open Go GoV

/- 3 bogie.bogielaw03.MoneyMatchesReference · 4 arguments · kept slots [0, 1, 2, 3, 8, 9, 10, 11, 12, 13, 14, 15, 16, 17, 18, 19, 20, 21, 22, 23, 24, 25, 34] -/
noncomputable def E3 (n m : Nat) : Cfg := ⟨M, [0, 1, 2, 3, 8, 9, 10, 11, 12, 13, 14, 15, 16, 17, 18, 19, 20, 21, 22, 23, 24, 25, 34], 121, n, m⟩
noncomputable def C3 : Cfg := E3 0 0
@[reducible] noncomputable def r3_0 : List RO := [
  ⟨(.var 4), .mv, [(.con (.bool false))], none⟩]
@[reducible] noncomputable def r3_1 : List RO := [
  ⟨(.loc 26), .call, [(.con (.fn (.func 8) [] []))], none⟩,
  ⟨(.var 5), .mv, [(.loc 26)], none⟩]
@[reducible] noncomputable def r3_2 : List RO := [
  ⟨(.loc 27), .mv, [(.var 1)], none⟩,
  ⟨(.loc 28), .lenL, [(.loc 27)], none⟩,
  ⟨(.loc 29), (.bin .gtr), [(.loc 28), (.con (.int .i64 40))], none⟩,
  ⟨(.loc 30), .mv, [(.loc 29)], none⟩,
  ⟨(.loc 31), .mv, [(.var 3)], (some ((.loc 30), false))⟩,
  ⟨(.loc 32), .lenS, [(.loc 31)], (some ((.loc 30), false))⟩,
  ⟨(.loc 33), (.bin .gtr), [(.loc 32), (.con (.int .i64 100))], (some ((.loc 30), false))⟩,
  ⟨(.var 22), .pick, [(.loc 30), (.con (.bool true)), (.loc 33)], none⟩]
@[reducible] noncomputable def r3_3 : List RO := [
  ⟨(.loc 35), .mv, [(.var 5)], none⟩,
  ⟨(.var 4), .mv, [(.loc 35)], none⟩]
@[reducible] noncomputable def r3_4 : List RO := [
  ⟨(.loc 37), .mv, [(.var 0)], none⟩,
  ⟨(.loc 38), .mv, [(.var 1)], none⟩,
  ⟨(.loc 39), .call, [(.con (.fn (.func 9) [] [])), (.loc 37), (.loc 38)], none⟩,
  ⟨(.loc 36), .mv, [(.loc 39)], none⟩,
  ⟨(.loc 40), (.ext 0), [(.loc 36)], none⟩,
  ⟨(.loc 41), (.ext 1), [(.loc 36)], none⟩,
  ⟨(.var 6), .mv, [(.loc 40)], none⟩,
  ⟨(.var 7), .mv, [(.loc 41)], none⟩]
@[reducible] noncomputable def r3_5 : List RO := [
  ⟨(.loc 43), .mv, [(.var 0)], none⟩,
  ⟨(.loc 44), .mv, [(.var 1)], none⟩,
  ⟨(.loc 45), .call, [(.con (.fn (.func 10) [] [])), (.loc 43), (.loc 44)], none⟩,
  ⟨(.loc 42), .mv, [(.loc 45)], none⟩,
  ⟨(.loc 46), (.ext 0), [(.loc 42)], none⟩,
  ⟨(.loc 47), (.ext 1), [(.loc 42)], none⟩,
  ⟨(.var 8), .mv, [(.loc 46)], none⟩,
  ⟨(.var 9), .mv, [(.loc 47)], none⟩]
@[reducible] noncomputable def r3_6 : List RO := [
  ⟨(.loc 49), .mv, [(.var 0)], none⟩,
  ⟨(.loc 50), .mv, [(.var 2)], none⟩,
  ⟨(.loc 51), .call, [(.con (.fn (.func 11) [] [])), (.loc 49), (.loc 50)], none⟩,
  ⟨(.loc 48), .mv, [(.loc 51)], none⟩,
  ⟨(.loc 52), (.ext 0), [(.loc 48)], none⟩,
  ⟨(.loc 53), (.ext 1), [(.loc 48)], none⟩,
  ⟨(.var 10), .mv, [(.loc 52)], none⟩,
  ⟨(.var 11), .mv, [(.loc 53)], none⟩]
@[reducible] noncomputable def r3_7 : List RO := [
  ⟨(.loc 55), .mv, [(.var 0)], none⟩,
  ⟨(.loc 56), .mv, [(.var 2)], none⟩,
  ⟨(.loc 57), .call, [(.con (.fn (.func 12) [] [])), (.loc 55), (.loc 56)], none⟩,
  ⟨(.loc 54), .mv, [(.loc 57)], none⟩,
  ⟨(.loc 58), (.ext 0), [(.loc 54)], none⟩,
  ⟨(.loc 59), (.ext 1), [(.loc 54)], none⟩,
  ⟨(.var 12), .mv, [(.loc 58)], none⟩,
  ⟨(.var 13), .mv, [(.loc 59)], none⟩]
@[reducible] noncomputable def r3_8 : List RO := [
  ⟨(.loc 61), .mv, [(.var 0)], none⟩,
  ⟨(.loc 62), .call, [(.con (.fn (.func 13) [] [])), (.loc 61)], none⟩,
  ⟨(.loc 60), .mv, [(.loc 62)], none⟩,
  ⟨(.loc 63), (.ext 0), [(.loc 60)], none⟩,
  ⟨(.loc 64), (.ext 1), [(.loc 60)], none⟩,
  ⟨(.var 14), .mv, [(.loc 63)], none⟩,
  ⟨(.var 15), .mv, [(.loc 64)], none⟩]
@[reducible] noncomputable def r3_9 : List RO := [
  ⟨(.loc 66), .mv, [(.var 0)], none⟩,
  ⟨(.loc 67), .call, [(.con (.fn (.func 14) [] [])), (.loc 66)], none⟩,
  ⟨(.loc 65), .mv, [(.loc 67)], none⟩,
  ⟨(.loc 68), (.ext 0), [(.loc 65)], none⟩,
  ⟨(.loc 69), (.ext 1), [(.loc 65)], none⟩,
  ⟨(.var 16), .mv, [(.loc 68)], none⟩,
  ⟨(.var 17), .mv, [(.loc 69)], none⟩]
@[reducible] noncomputable def r3_10 : List RO := [
  ⟨(.loc 71), .mv, [(.var 3)], none⟩,
  ⟨(.loc 72), .call, [(.con (.fn (.func 15) [] [])), (.loc 71)], none⟩,
  ⟨(.loc 70), .mv, [(.loc 72)], none⟩,
  ⟨(.loc 73), (.ext 0), [(.loc 70)], none⟩,
  ⟨(.loc 74), (.ext 1), [(.loc 70)], none⟩,
  ⟨(.var 18), .mv, [(.loc 73)], none⟩,
  ⟨(.var 19), .mv, [(.loc 74)], none⟩]
@[reducible] noncomputable def r3_11 : List RO := [
  ⟨(.loc 76), .mv, [(.var 3)], none⟩,
  ⟨(.loc 77), .call, [(.con (.fn (.func 16) [] [])), (.loc 76)], none⟩,
  ⟨(.loc 75), .mv, [(.loc 77)], none⟩,
  ⟨(.loc 78), (.ext 0), [(.loc 75)], none⟩,
  ⟨(.loc 79), (.ext 1), [(.loc 75)], none⟩,
  ⟨(.var 20), .mv, [(.loc 78)], none⟩,
  ⟨(.var 21), .mv, [(.loc 79)], none⟩]
@[reducible] noncomputable def r3_12 : List RO := [
  ⟨(.loc 80), .mv, [(.var 5)], none⟩,
  ⟨(.loc 81), .mv, [(.loc 80)], none⟩,
  ⟨(.loc 82), .mv, [(.var 6)], (some ((.loc 81), true))⟩,
  ⟨(.loc 83), .mv, [(.var 8)], (some ((.loc 81), true))⟩,
  ⟨(.loc 84), .call, [(.con (.fn (.func 17) [] [])), (.loc 82), (.loc 83)], (some ((.loc 81), true))⟩,
  ⟨(.loc 85), .pick, [(.loc 81), (.loc 84), (.con (.bool false))], none⟩,
  ⟨(.loc 86), .mv, [(.loc 85)], none⟩,
  ⟨(.loc 87), .mv, [(.var 7)], (some ((.loc 86), true))⟩,
  ⟨(.loc 88), .mv, [(.var 9)], (some ((.loc 86), true))⟩,
  ⟨(.loc 89), (.bin .eql), [(.loc 87), (.loc 88)], (some ((.loc 86), true))⟩,
  ⟨(.loc 90), .pick, [(.loc 86), (.loc 89), (.con (.bool false))], none⟩,
  ⟨(.loc 91), .mv, [(.loc 90)], none⟩,
  ⟨(.loc 92), .mv, [(.var 10)], (some ((.loc 91), true))⟩,
  ⟨(.loc 93), .mv, [(.var 12)], (some ((.loc 91), true))⟩,
  ⟨(.loc 94), (.bin .eql), [(.loc 92), (.loc 93)], (some ((.loc 91), true))⟩,
  ⟨(.loc 95), .pick, [(.loc 91), (.loc 94), (.con (.bool false))], none⟩,
  ⟨(.loc 96), .mv, [(.loc 95)], none⟩,
  ⟨(.loc 97), .mv, [(.var 11)], (some ((.loc 96), true))⟩,
  ⟨(.loc 98), .mv, [(.var 13)], (some ((.loc 96), true))⟩,
  ⟨(.loc 99), (.bin .eql), [(.loc 97), (.loc 98)], (some ((.loc 96), true))⟩,
  ⟨(.loc 100), .pick, [(.loc 96), (.loc 99), (.con (.bool false))], none⟩,
  ⟨(.loc 101), .mv, [(.loc 100)], none⟩,
  ⟨(.loc 102), .mv, [(.var 14)], (some ((.loc 101), true))⟩,
  ⟨(.loc 103), .mv, [(.var 16)], (some ((.loc 101), true))⟩,
  ⟨(.loc 104), (.bin .eql), [(.loc 102), (.loc 103)], (some ((.loc 101), true))⟩,
  ⟨(.loc 105), .pick, [(.loc 101), (.loc 104), (.con (.bool false))], none⟩,
  ⟨(.loc 106), .mv, [(.loc 105)], none⟩,
  ⟨(.loc 107), .mv, [(.var 15)], (some ((.loc 106), true))⟩,
  ⟨(.loc 108), .mv, [(.var 17)], (some ((.loc 106), true))⟩,
  ⟨(.loc 109), (.bin .eql), [(.loc 107), (.loc 108)], (some ((.loc 106), true))⟩,
  ⟨(.loc 110), .pick, [(.loc 106), (.loc 109), (.con (.bool false))], none⟩,
  ⟨(.loc 111), .mv, [(.loc 110)], none⟩,
  ⟨(.loc 112), .mv, [(.var 18)], (some ((.loc 111), true))⟩,
  ⟨(.loc 113), .mv, [(.var 20)], (some ((.loc 111), true))⟩,
  ⟨(.loc 114), (.bin .eql), [(.loc 112), (.loc 113)], (some ((.loc 111), true))⟩,
  ⟨(.loc 115), .pick, [(.loc 111), (.loc 114), (.con (.bool false))], none⟩,
  ⟨(.loc 116), .mv, [(.loc 115)], none⟩,
  ⟨(.loc 117), .mv, [(.var 19)], (some ((.loc 116), true))⟩,
  ⟨(.loc 118), .mv, [(.var 21)], (some ((.loc 116), true))⟩,
  ⟨(.loc 119), (.bin .eql), [(.loc 117), (.loc 118)], (some ((.loc 116), true))⟩,
  ⟨(.loc 120), .pick, [(.loc 116), (.loc 119), (.con (.bool false))], none⟩,
  ⟨(.var 4), .mv, [(.loc 120)], none⟩]
theorem P3 : C3.M = M := by unfold C3 E3; rfl
theorem pe3 {n m : Nat} : (E3 n m).M = M := by unfold E3; rfl
theorem i3 {a0 a1 a2 a3 : D} : St.init C3 [a0, a1, a2, a3] ⟨[], []⟩ = ⟨[a0, a1, a2, a3, .undef, .undef, .undef, .undef, .undef, .undef, .undef, .undef, .undef, .undef, .undef, .undef, .undef, .undef, .undef, .undef, .undef, .undef, .undef], [], ⟨[], []⟩⟩ := by unfold C3 E3; rfl
theorem ie3 {n m : Nat} {hp : Hp} {a0 a1 a2 a3 : D} : St.init (E3 n m) [a0, a1, a2, a3] hp = ⟨[a0, a1, a2, a3, .undef, .undef, .undef, .undef, .undef, .undef, .undef, .undef, .undef, .undef, .undef, .undef, .undef, .undef, .undef, .undef, .undef, .undef, .undef], [], hp⟩ := by unfold E3; rfl
noncomputable def c3 : RC := (.seq (.reg r3_0) (.seq (.reg r3_1) (.seq (.seq (.reg r3_2) (.cond (.var 22) (.seq (.reg r3_3) .ret) .skip)) (.seq (.reg r3_4) (.seq (.reg r3_5) (.seq (.reg r3_6) (.seq (.reg r3_7) (.seq (.reg r3_8) (.seq (.reg r3_9) (.seq (.reg r3_10) (.seq (.reg r3_11) (.seq (.reg r3_12) .ret))))))))))))
noncomputable def q3 : List RR := [(.slot (.var 4))]
theorem z3 {n m : Nat} : resCode (E3 n m) (Tryd.f3.body.getD .skip) = some c3 := by kernel_rfl
theorem zr3 {n m : Nat} : resRs (E3 n m) Tryd.f3.results.toList = some q3 := by kernel_rfl
theorem oe3 {args : List D} {hp : Hp} {R : D → Hp → Prop} (n m : Nat) (hl : args.length = 4) (hn : n = hp.H.length) (hm : m = hp.tk.length) (h : SWp (E3 n m) c3 (fun e s => (match e with | .exit _ => False | _ => True) ∧ ∃ s1, Weak (E3 n m) s s1 ∧ rrsWp q3 s1 fun ds => R (oneOrTup ds) s1.hp) (St.init (E3 n m) args hp)) : Eff M 3 args hp R :=
  eff_of_body (C := E3 n m) (fn := Tryd.f3) Tryd.func3 (by kernel_rfl) (by kernel_rfl) (rc := c3) z3 (rs := q3) zr3 (by kernel_rfl) (by rw [hl]; rfl) (by rw [hl]; exact (by decide : 4 ≤ 121)) hn hm h
theorem ow3 {args : List D} {d : D} (hl : args.length = 4) (h : SWp C3 c3 (fun e s => (match e with | .exit _ => False | _ => True) ∧ ∃ s1, Weak C3 s s1 ∧ rrsWp q3 s1 fun ds => D.closed (oneOrTup ds) = true ∧ (oneOrTup ds).er = d) (St.init C3 args ⟨[], []⟩)) : Pur M 3 args d :=
  pur_of_bodyW (C := C3) (fn := Tryd.f3) Tryd.func3 (by kernel_rfl) (by kernel_rfl) (rc := c3) z3 (rs := q3) zr3 (by kernel_rfl) (by rw [hl]; rfl) (by rw [hl]; decide) rfl rfl h
theorem ok3 {args : List D} {d : D} (hl : args.length = 4) (h : SWp C3 c3 (fun e s => (match e with | .exit _ => False | _ => True) ∧ rrsWp q3 s fun ds => D.closed (oneOrTup ds) = true ∧ (oneOrTup ds).er = d) (St.init C3 args ⟨[], []⟩)) : Pur M 3 args d :=
  pur_of_body (C := C3) (fn := Tryd.f3) Tryd.func3 (by kernel_rfl) (by kernel_rfl) (rc := c3) z3 (rs := q3) zr3 (by kernel_rfl) (by rw [hl]; rfl) (by rw [hl]; decide) rfl rfl h

/- 4 bogie.bogielaw03.MoneySplits · 2 arguments · kept slots [0, 1, 4, 5, 6, 7, 8, 9, 10, 11, 15, 26, 59, 63, 84, 86, 108, 111, 189] -/
noncomputable def E4 (n m : Nat) : Cfg := ⟨M, [0, 1, 4, 5, 6, 7, 8, 9, 10, 11, 15, 26, 59, 63, 84, 86, 108, 111, 189], 191, n, m⟩
noncomputable def C4 : Cfg := E4 0 0
@[reducible] noncomputable def r4_0 : List RO := [
  ⟨(.var 2), .mv, [(.con (.bool false))], none⟩]
@[reducible] noncomputable def r4_1 : List RO := [
  ⟨(.loc 12), .call, [(.con (.fn (.func 8) [] []))], none⟩,
  ⟨(.var 3), .mv, [(.loc 12)], none⟩]
@[reducible] noncomputable def r4_2 : List RO := [
  ⟨(.loc 13), .mv, [(.var 1)], none⟩,
  ⟨(.loc 14), .lenL, [(.loc 13)], none⟩,
  ⟨(.var 10), (.bin .gtr), [(.loc 14), (.con (.int .i64 16))], none⟩]
@[reducible] noncomputable def r4_3 : List RO := [
  ⟨(.loc 16), .mv, [(.var 3)], none⟩,
  ⟨(.var 2), .mv, [(.loc 16)], none⟩]
@[reducible] noncomputable def r4_4 : List RO := [
  ⟨(.loc 18), .mv, [(.var 0)], none⟩,
  ⟨(.loc 19), .mv, [(.var 1)], none⟩,
  ⟨(.loc 20), .call, [(.con (.fn (.func 9) [] [])), (.loc 18), (.loc 19)], none⟩,
  ⟨(.loc 17), .mv, [(.loc 20)], none⟩,
  ⟨(.loc 21), (.ext 0), [(.loc 17)], none⟩,
  ⟨(.loc 22), (.ext 1), [(.loc 17)], none⟩,
  ⟨(.var 4), .mv, [(.loc 21)], none⟩,
  ⟨(.var 5), .mv, [(.loc 22)], none⟩]
@[reducible] noncomputable def r4_5 : List RO := [
  ⟨(.loc 23), .mv, [(.var 1)], none⟩,
  ⟨(.loc 24), .call, [(.con (.fn (.func 18) [] [])), (.loc 23)], none⟩,
  ⟨(.var 6), .mv, [(.loc 24)], none⟩]
@[reducible] noncomputable def r4_6 : List RO := [
  ⟨(.loc 25), .mv, [(.var 5)], none⟩,
  ⟨(.var 11), (.bin .neq), [(.loc 25), (.con (.int .i64 0))], none⟩]
@[reducible] noncomputable def r4_7 : List RO := [
  ⟨(.loc 27), .mv, [(.var 3)], none⟩,
  ⟨(.loc 28), .mv, [(.loc 27)], none⟩,
  ⟨(.loc 29), .mv, [(.var 4)], (some ((.loc 28), true))⟩,
  ⟨(.loc 30), .lenL, [(.loc 29)], (some ((.loc 28), true))⟩,
  ⟨(.loc 31), (.bin .eql), [(.loc 30), (.con (.int .i64 0))], (some ((.loc 28), true))⟩,
  ⟨(.loc 32), .pick, [(.loc 28), (.loc 31), (.con (.bool false))], none⟩,
  ⟨(.loc 33), .mv, [(.loc 32)], none⟩,
  ⟨(.loc 34), .mv, [(.var 5)], (some ((.loc 33), true))⟩,
  ⟨(.loc 35), (.bin .eql), [(.loc 34), (.con (.int .i64 1))], (some ((.loc 33), true))⟩,
  ⟨(.loc 36), .pick, [(.loc 33), (.loc 35), (.con (.bool false))], none⟩,
  ⟨(.loc 37), .mv, [(.loc 36)], none⟩,
  ⟨(.loc 38), .mv, [(.var 6)], (some ((.loc 37), true))⟩,
  ⟨(.loc 39), (.bin .lss), [(.loc 38), (.con (.int .i64 0))], (some ((.loc 37), true))⟩,
  ⟨(.loc 40), .mv, [(.loc 39)], (some ((.loc 37), true))⟩,
  ⟨(.loc 41), .mv, [(.var 0)], (some ((.loc 40), false))⟩,
  ⟨(.loc 42), (.bin .lss), [(.loc 41), (.con (.int .i64 0))], (some ((.loc 40), false))⟩,
  ⟨(.loc 43), .pick, [(.loc 40), (.con (.bool true)), (.loc 42)], (some ((.loc 37), true))⟩,
  ⟨(.loc 44), .mv, [(.loc 43)], (some ((.loc 37), true))⟩,
  ⟨(.loc 45), .mv, [(.var 0)], (some ((.loc 44), false))⟩,
  ⟨(.loc 46), (.bin .gtr), [(.loc 45), (.con (.int .i64 1000000000000))], (some ((.loc 44), false))⟩,
  ⟨(.loc 47), .pick, [(.loc 44), (.con (.bool true)), (.loc 46)], (some ((.loc 37), true))⟩,
  ⟨(.loc 48), .pick, [(.loc 37), (.loc 47), (.con (.bool false))], none⟩,
  ⟨(.var 2), .mv, [(.loc 48)], none⟩]
@[reducible] noncomputable def r4_8 : List RO := [
  ⟨(.loc 49), .mv, [(.var 4)], none⟩,
  ⟨(.loc 50), .lenL, [(.loc 49)], none⟩,
  ⟨(.loc 51), .mv, [(.var 1)], none⟩,
  ⟨(.loc 52), .lenL, [(.loc 51)], none⟩,
  ⟨(.loc 53), (.bin .neq), [(.loc 50), (.loc 52)], none⟩,
  ⟨(.loc 54), .mv, [(.loc 53)], none⟩,
  ⟨(.loc 55), .mv, [(.var 4)], (some ((.loc 54), false))⟩,
  ⟨(.loc 56), .call, [(.con (.fn (.func 19) [] [])), (.loc 55)], (some ((.loc 54), false))⟩,
  ⟨(.loc 57), .mv, [(.var 0)], (some ((.loc 54), false))⟩,
  ⟨(.loc 58), (.bin .neq), [(.loc 56), (.loc 57)], (some ((.loc 54), false))⟩,
  ⟨(.var 12), .pick, [(.loc 54), (.con (.bool true)), (.loc 58)], none⟩]
@[reducible] noncomputable def r4_9 : List RO := [
  ⟨(.var 2), .mv, [(.con (.bool false))], none⟩]
@[reducible] noncomputable def r4_10 : List RO := [
  ⟨(.var 7), .mv, [(.con (.int .i64 0))], none⟩]
@[reducible] noncomputable def r4_11 : List RO := [
  ⟨(.loc 60), .mv, [(.var 7)], none⟩,
  ⟨(.loc 61), .mv, [(.var 4)], none⟩,
  ⟨(.loc 62), .lenL, [(.loc 61)], none⟩,
  ⟨(.var 13), (.bin .lss), [(.loc 60), (.loc 62)], none⟩]
@[reducible] noncomputable def r4_12 : List RO := [
  ⟨(.loc 66), .mv, [(.var 1)], none⟩,
  ⟨(.loc 67), .mv, [(.var 7)], none⟩,
  ⟨(.loc 68), (.ixaS 1), [(.loc 66), (.loc 67)], none⟩,
  ⟨(.loc 69), (.ld false 1), [(.loc 68)], none⟩,
  ⟨(.loc 70), (.bin .eql), [(.loc 69), (.con (.int .i64 0))], none⟩,
  ⟨(.loc 71), .mv, [(.loc 70)], none⟩,
  ⟨(.loc 72), .mv, [(.var 4)], (some ((.loc 71), true))⟩,
  ⟨(.loc 73), .mv, [(.var 7)], (some ((.loc 71), true))⟩,
  ⟨(.loc 74), (.ixaS 1), [(.loc 72), (.loc 73)], (some ((.loc 71), true))⟩,
  ⟨(.loc 75), (.ld false 1), [(.loc 74)], (some ((.loc 71), true))⟩,
  ⟨(.loc 76), (.bin .neq), [(.loc 75), (.con (.int .i64 0))], (some ((.loc 71), true))⟩,
  ⟨(.loc 77), .pick, [(.loc 71), (.loc 76), (.con (.bool false))], none⟩,
  ⟨(.loc 78), .mv, [(.loc 77)], none⟩,
  ⟨(.loc 79), .mv, [(.var 4)], (some ((.loc 78), false))⟩,
  ⟨(.loc 80), .mv, [(.var 7)], (some ((.loc 78), false))⟩,
  ⟨(.loc 81), (.ixaS 1), [(.loc 79), (.loc 80)], (some ((.loc 78), false))⟩,
  ⟨(.loc 82), (.ld false 1), [(.loc 81)], (some ((.loc 78), false))⟩,
  ⟨(.loc 83), (.bin .lss), [(.loc 82), (.con (.int .i64 0))], (some ((.loc 78), false))⟩,
  ⟨(.var 14), .pick, [(.loc 78), (.con (.bool true)), (.loc 83)], none⟩]
@[reducible] noncomputable def r4_13 : List RO := [
  ⟨(.var 2), .mv, [(.con (.bool false))], none⟩]
@[reducible] noncomputable def r4_14 : List RO := [
  ⟨(.loc 85), .mv, [(.var 0)], none⟩,
  ⟨(.var 15), (.bin .leq), [(.loc 85), (.con (.int .i64 1000000000))], none⟩]
@[reducible] noncomputable def r4_15 : List (RO × Bool) := [
  (⟨(.loc 87), .mv, [(.var 4)], none⟩, true),
  (⟨(.loc 88), .mv, [(.var 7)], none⟩, true),
  (⟨(.loc 89), (.ixaS 1), [(.loc 87), (.loc 88)], none⟩, true),
  (⟨(.loc 90), (.ld false 1), [(.loc 89)], none⟩, true),
  (⟨(.loc 91), .mv, [(.var 6)], none⟩, true),
  (⟨(.loc 92), (.bin .mul), [(.loc 90), (.loc 91)], none⟩, true),
  (⟨(.loc 93), .mv, [(.var 0)], none⟩, true),
  (⟨(.loc 94), .mv, [(.var 1)], none⟩, true),
  (⟨(.loc 95), .mv, [(.var 7)], none⟩, true),
  (⟨(.loc 96), (.ixaS 1), [(.loc 94), (.loc 95)], none⟩, true),
  (⟨(.loc 97), (.ld false 1), [(.loc 96)], none⟩, true),
  (⟨(.loc 98), (.bin .mul), [(.loc 93), (.loc 97)], none⟩, true)]
@[reducible] noncomputable def r4_16 : List RO := [
  ⟨(.loc 99), (.bin .sub), [(.loc 92), (.loc 98)], none⟩,
  ⟨(.var 8), .mv, [(.loc 99)], none⟩]
@[reducible] noncomputable def r4_17 : List RO := [
  ⟨(.loc 100), .mv, [(.var 8)], none⟩,
  ⟨(.loc 101), .mv, [(.var 6)], none⟩,
  ⟨(.loc 102), (.bin .geq), [(.loc 100), (.loc 101)], none⟩,
  ⟨(.loc 103), .mv, [(.loc 102)], none⟩,
  ⟨(.loc 104), .mv, [(.var 8)], (some ((.loc 103), false))⟩,
  ⟨(.loc 105), .mv, [(.var 6)], (some ((.loc 103), false))⟩,
  ⟨(.loc 106), (.bin .sub), [(.con (.int .i64 0)), (.loc 105)], (some ((.loc 103), false))⟩,
  ⟨(.loc 107), (.bin .leq), [(.loc 104), (.loc 106)], (some ((.loc 103), false))⟩,
  ⟨(.var 16), .pick, [(.loc 103), (.con (.bool true)), (.loc 107)], none⟩]
@[reducible] noncomputable def r4_18 : List RO := [
  ⟨(.var 2), .mv, [(.con (.bool false))], none⟩]
@[reducible] noncomputable def r4_19 : List RO := [
  ⟨(.var 9), .mv, [(.con (.int .i64 0))], none⟩]
@[reducible] noncomputable def r4_20 : List RO := [
  ⟨(.loc 109), .mv, [(.var 9)], none⟩,
  ⟨(.loc 110), .mv, [(.var 7)], none⟩,
  ⟨(.var 17), (.bin .lss), [(.loc 109), (.loc 110)], none⟩]
@[reducible] noncomputable def r4_21 : List (RO × Bool) := [
  (⟨(.loc 114), .mv, [(.var 1)], none⟩, true),
  (⟨(.loc 115), .mv, [(.var 9)], none⟩, true),
  (⟨(.loc 116), (.ixaS 1), [(.loc 114), (.loc 115)], none⟩, true),
  (⟨(.loc 117), (.ld false 1), [(.loc 116)], none⟩, true),
  (⟨(.loc 118), .mv, [(.var 1)], none⟩, true),
  (⟨(.loc 119), .mv, [(.var 7)], none⟩, true),
  (⟨(.loc 120), (.ixaS 1), [(.loc 118), (.loc 119)], none⟩, true),
  (⟨(.loc 121), (.ld false 1), [(.loc 120)], none⟩, true),
  (⟨(.loc 122), (.bin .gtr), [(.loc 117), (.loc 121)], none⟩, true),
  (⟨(.loc 123), .mv, [(.loc 122)], none⟩, true),
  (⟨(.loc 124), .mv, [(.var 4)], (some ((.loc 123), true))⟩, true),
  (⟨(.loc 125), .mv, [(.var 9)], (some ((.loc 123), true))⟩, true),
  (⟨(.loc 126), (.ixaS 1), [(.loc 124), (.loc 125)], (some ((.loc 123), true))⟩, true),
  (⟨(.loc 127), (.ld false 1), [(.loc 126)], (some ((.loc 123), true))⟩, true),
  (⟨(.loc 128), .mv, [(.var 4)], (some ((.loc 123), true))⟩, true),
  (⟨(.loc 129), .mv, [(.var 7)], (some ((.loc 123), true))⟩, true),
  (⟨(.loc 130), (.ixaS 1), [(.loc 128), (.loc 129)], (some ((.loc 123), true))⟩, true),
  (⟨(.loc 131), (.ld false 1), [(.loc 130)], (some ((.loc 123), true))⟩, true),
  (⟨(.loc 132), (.bin .lss), [(.loc 127), (.loc 131)], (some ((.loc 123), true))⟩, true),
  (⟨(.loc 133), .pick, [(.loc 123), (.loc 132), (.con (.bool false))], none⟩, true),
  (⟨(.loc 134), .mv, [(.loc 133)], none⟩, true),
  (⟨(.loc 135), .mv, [(.var 1)], (some ((.loc 134), false))⟩, true),
  (⟨(.loc 136), .mv, [(.var 9)], (some ((.loc 134), false))⟩, true),
  (⟨(.loc 137), (.ixaS 1), [(.loc 135), (.loc 136)], (some ((.loc 134), false))⟩, true),
  (⟨(.loc 138), (.ld false 1), [(.loc 137)], (some ((.loc 134), false))⟩, true),
  (⟨(.loc 139), .mv, [(.var 1)], (some ((.loc 134), false))⟩, true),
  (⟨(.loc 140), .mv, [(.var 7)], (some ((.loc 134), false))⟩, true),
  (⟨(.loc 141), (.ixaS 1), [(.loc 139), (.loc 140)], (some ((.loc 134), false))⟩, true),
  (⟨(.loc 142), (.ld false 1), [(.loc 141)], (some ((.loc 134), false))⟩, true),
  (⟨(.loc 143), (.bin .lss), [(.loc 138), (.loc 142)], (some ((.loc 134), false))⟩, true),
  (⟨(.loc 144), .mv, [(.loc 143)], (some ((.loc 134), false))⟩, true),
  (⟨(.loc 145), .mv, [(.var 4)], (some ((.loc 144), true))⟩, true),
  (⟨(.loc 146), .mv, [(.var 9)], (some ((.loc 144), true))⟩, true),
  (⟨(.loc 147), (.ixaS 1), [(.loc 145), (.loc 146)], (some ((.loc 144), true))⟩, true),
  (⟨(.loc 148), (.ld false 1), [(.loc 147)], (some ((.loc 144), true))⟩, true),
  (⟨(.loc 149), .mv, [(.var 4)], (some ((.loc 144), true))⟩, true),
  (⟨(.loc 150), .mv, [(.var 7)], (some ((.loc 144), true))⟩, true),
  (⟨(.loc 151), (.ixaS 1), [(.loc 149), (.loc 150)], (some ((.loc 144), true))⟩, true),
  (⟨(.loc 152), (.ld false 1), [(.loc 151)], (some ((.loc 144), true))⟩, true),
  (⟨(.loc 153), (.bin .gtr), [(.loc 148), (.loc 152)], (some ((.loc 144), true))⟩, true),
  (⟨(.loc 154), .pick, [(.loc 144), (.loc 153), (.con (.bool false))], (some ((.loc 134), false))⟩, true),
  (⟨(.loc 155), .pick, [(.loc 134), (.con (.bool true)), (.loc 154)], none⟩, true),
  (⟨(.loc 156), .mv, [(.loc 155)], none⟩, true),
  (⟨(.loc 157), .mv, [(.var 1)], (some ((.loc 156), false))⟩, true),
  (⟨(.loc 158), .mv, [(.var 9)], (some ((.loc 156), false))⟩, true),
  (⟨(.loc 159), (.ixaS 1), [(.loc 157), (.loc 158)], (some ((.loc 156), false))⟩, true),
  (⟨(.loc 160), (.ld false 1), [(.loc 159)], (some ((.loc 156), false))⟩, true),
  (⟨(.loc 161), .mv, [(.var 1)], (some ((.loc 156), false))⟩, true),
  (⟨(.loc 162), .mv, [(.var 7)], (some ((.loc 156), false))⟩, true),
  (⟨(.loc 163), (.ixaS 1), [(.loc 161), (.loc 162)], (some ((.loc 156), false))⟩, true),
  (⟨(.loc 164), (.ld false 1), [(.loc 163)], (some ((.loc 156), false))⟩, true),
  (⟨(.loc 165), (.bin .eql), [(.loc 160), (.loc 164)], (some ((.loc 156), false))⟩, true),
  (⟨(.loc 166), .mv, [(.loc 165)], (some ((.loc 156), false))⟩, true),
  (⟨(.loc 167), .mv, [(.var 4)], (some ((.loc 166), true))⟩, true),
  (⟨(.loc 168), .mv, [(.var 9)], (some ((.loc 166), true))⟩, true),
  (⟨(.loc 169), (.ixaS 1), [(.loc 167), (.loc 168)], (some ((.loc 166), true))⟩, true),
  (⟨(.loc 170), (.ld false 1), [(.loc 169)], (some ((.loc 166), true))⟩, true),
  (⟨(.loc 171), .mv, [(.var 4)], (some ((.loc 166), true))⟩, true),
  (⟨(.loc 172), .mv, [(.var 7)], (some ((.loc 166), true))⟩, true),
  (⟨(.loc 173), (.ixaS 1), [(.loc 171), (.loc 172)], (some ((.loc 166), true))⟩, true),
  (⟨(.loc 174), (.ld false 1), [(.loc 173)], (some ((.loc 166), true))⟩, true),
  (⟨(.loc 175), (.bin .lss), [(.loc 170), (.loc 174)], (some ((.loc 166), true))⟩, true),
  (⟨(.loc 176), .mv, [(.loc 175)], (some ((.loc 166), true))⟩, true),
  (⟨(.loc 177), .mv, [(.var 4)], (some ((.loc 176), false))⟩, true),
  (⟨(.loc 178), .mv, [(.var 9)], (some ((.loc 176), false))⟩, true),
  (⟨(.loc 179), (.ixaS 1), [(.loc 177), (.loc 178)], (some ((.loc 176), false))⟩, true),
  (⟨(.loc 180), (.ld false 1), [(.loc 179)], (some ((.loc 176), false))⟩, true),
  (⟨(.loc 181), .mv, [(.var 4)], (some ((.loc 176), false))⟩, true),
  (⟨(.loc 182), .mv, [(.var 7)], (some ((.loc 176), false))⟩, true),
  (⟨(.loc 183), (.ixaS 1), [(.loc 181), (.loc 182)], (some ((.loc 176), false))⟩, true),
  (⟨(.loc 184), (.ld false 1), [(.loc 183)], (some ((.loc 176), false))⟩, true),
  (⟨(.loc 185), (.bin .add), [(.loc 184), (.con (.int .i64 1))], (some ((.loc 176), false))⟩, true)]
@[reducible] noncomputable def r4_22 : List RO := [
  ⟨(.loc 186), (.bin .gtr), [(.loc 180), (.loc 185)], (some ((.loc 176), false))⟩,
  ⟨(.loc 187), .pick, [(.loc 176), (.con (.bool true)), (.loc 186)], (some ((.loc 166), true))⟩,
  ⟨(.loc 188), .pick, [(.loc 166), (.loc 187), (.con (.bool false))], (some ((.loc 156), false))⟩,
  ⟨(.var 18), .pick, [(.loc 156), (.con (.bool true)), (.loc 188)], none⟩]
@[reducible] noncomputable def r4_23 : List RO := [
  ⟨(.var 2), .mv, [(.con (.bool false))], none⟩]
@[reducible] noncomputable def r4_24 : List RO := [
  ⟨(.loc 112), .mv, [(.var 9)], none⟩,
  ⟨(.loc 113), (.bin .add), [(.loc 112), (.con (.int .i64 1))], none⟩,
  ⟨(.var 9), .mv, [(.loc 113)], none⟩]
@[reducible] noncomputable def r4_25 : List RO := [
  ⟨(.loc 64), .mv, [(.var 7)], none⟩,
  ⟨(.loc 65), (.bin .add), [(.loc 64), (.con (.int .i64 1))], none⟩,
  ⟨(.var 7), .mv, [(.loc 65)], none⟩]
@[reducible] noncomputable def r4_26 : List RO := [
  ⟨(.loc 190), .mv, [(.var 3)], none⟩,
  ⟨(.var 2), .mv, [(.loc 190)], none⟩]
theorem P4 : C4.M = M := by unfold C4 E4; rfl
theorem pe4 {n m : Nat} : (E4 n m).M = M := by unfold E4; rfl
theorem i4 {a0 a1 : D} : St.init C4 [a0, a1] ⟨[], []⟩ = ⟨[a0, a1, .undef, .undef, .undef, .undef, .undef, .undef, .undef, .undef, .undef, .undef, .undef, .undef, .undef, .undef, .undef, .undef, .undef], [], ⟨[], []⟩⟩ := by unfold C4 E4; rfl
theorem ie4 {n m : Nat} {hp : Hp} {a0 a1 : D} : St.init (E4 n m) [a0, a1] hp = ⟨[a0, a1, .undef, .undef, .undef, .undef, .undef, .undef, .undef, .undef, .undef, .undef, .undef, .undef, .undef, .undef, .undef, .undef, .undef], [], hp⟩ := by unfold E4; rfl
noncomputable def c4 : RC := (.seq (.reg r4_0) (.seq (.reg r4_1) (.seq (.seq (.reg r4_2) (.cond (.var 10) (.seq (.reg r4_3) .ret) .skip)) (.seq (.reg r4_4) (.seq (.reg r4_5) (.seq (.seq (.reg r4_6) (.cond (.var 11) (.seq (.reg r4_7) .ret) .skip)) (.seq (.seq (.reg r4_8) (.cond (.var 12) (.seq (.reg r4_9) .ret) .skip)) (.seq (.seq (.reg r4_10) (.block 0 (.loop (.seq (.seq (.reg r4_11) (.cond (.var 13) .skip (.exit 0))) (.seq (.block 1 (.seq (.seq (.reg r4_12) (.cond (.var 14) (.seq (.reg r4_13) .ret) .skip)) (.seq (.seq (.reg r4_14) (.cond (.var 15) (.seq (.regD r4_15 r4_16) (.seq (.reg r4_17) (.cond (.var 16) (.seq (.reg r4_18) .ret) .skip))) .skip)) (.seq (.reg r4_19) (.block 2 (.loop (.seq (.seq (.reg r4_20) (.cond (.var 17) .skip (.exit 2))) (.seq (.block 3 (.seq (.regD r4_21 r4_22) (.cond (.var 18) (.seq (.reg r4_23) .ret) .skip))) (.reg r4_24))))))))) (.reg r4_25)))))) (.seq (.reg r4_26) .ret)))))))))
noncomputable def q4 : List RR := [(.slot (.var 2))]
theorem z4 {n m : Nat} : resCode (E4 n m) (Tryd.f4.body.getD .skip) = some c4 := by kernel_rfl
theorem zr4 {n m : Nat} : resRs (E4 n m) Tryd.f4.results.toList = some q4 := by kernel_rfl
theorem oe4 {args : List D} {hp : Hp} {R : D → Hp → Prop} (n m : Nat) (hl : args.length = 2) (hn : n = hp.H.length) (hm : m = hp.tk.length) (h : SWp (E4 n m) c4 (fun e s => (match e with | .exit _ => False | _ => True) ∧ ∃ s1, Weak (E4 n m) s s1 ∧ rrsWp q4 s1 fun ds => R (oneOrTup ds) s1.hp) (St.init (E4 n m) args hp)) : Eff M 4 args hp R :=
  eff_of_body (C := E4 n m) (fn := Tryd.f4) Tryd.func4 (by kernel_rfl) (by kernel_rfl) (rc := c4) z4 (rs := q4) zr4 (by kernel_rfl) (by rw [hl]; rfl) (by rw [hl]; exact (by decide : 2 ≤ 191)) hn hm h
theorem ow4 {args : List D} {d : D} (hl : args.length = 2) (h : SWp C4 c4 (fun e s => (match e with | .exit _ => False | _ => True) ∧ ∃ s1, Weak C4 s s1 ∧ rrsWp q4 s1 fun ds => D.closed (oneOrTup ds) = true ∧ (oneOrTup ds).er = d) (St.init C4 args ⟨[], []⟩)) : Pur M 4 args d :=
  pur_of_bodyW (C := C4) (fn := Tryd.f4) Tryd.func4 (by kernel_rfl) (by kernel_rfl) (rc := c4) z4 (rs := q4) zr4 (by kernel_rfl) (by rw [hl]; rfl) (by rw [hl]; decide) rfl rfl h
theorem ok4 {args : List D} {d : D} (hl : args.length = 2) (h : SWp C4 c4 (fun e s => (match e with | .exit _ => False | _ => True) ∧ rrsWp q4 s fun ds => D.closed (oneOrTup ds) = true ∧ (oneOrTup ds).er = d) (St.init C4 args ⟨[], []⟩)) : Pur M 4 args d :=
  pur_of_body (C := C4) (fn := Tryd.f4) Tryd.func4 (by kernel_rfl) (by kernel_rfl) (rc := c4) z4 (rs := q4) zr4 (by kernel_rfl) (by rw [hl]; rfl) (by rw [hl]; decide) rfl rfl h

/- 5 bogie.bogielaw03.MoneyScales · 3 arguments · kept slots [0, 1, 2, 6, 7, 8, 9, 10, 11, 12, 13, 14, 18, 27, 43] -/
noncomputable def E5 (n m : Nat) : Cfg := ⟨M, [0, 1, 2, 6, 7, 8, 9, 10, 11, 12, 13, 14, 18, 27, 43], 77, n, m⟩
noncomputable def C5 : Cfg := E5 0 0
@[reducible] noncomputable def r5_0 : List RO := [
  ⟨(.var 3), .mv, [(.con (.bool false))], none⟩]
@[reducible] noncomputable def r5_1 : List RO := [
  ⟨(.loc 15), .call, [(.con (.fn (.func 8) [] []))], none⟩,
  ⟨(.var 4), .mv, [(.loc 15)], none⟩]
@[reducible] noncomputable def r5_2 : List RO := [
  ⟨(.loc 16), .mv, [(.var 1)], none⟩,
  ⟨(.loc 17), .lenL, [(.loc 16)], none⟩,
  ⟨(.var 12), (.bin .gtr), [(.loc 17), (.con (.int .i64 16))], none⟩]
@[reducible] noncomputable def r5_3 : List RO := [
  ⟨(.loc 19), .mv, [(.var 4)], none⟩,
  ⟨(.var 3), .mv, [(.loc 19)], none⟩]
@[reducible] noncomputable def r5_4 : List RO := [
  ⟨(.loc 20), .mv, [(.var 2)], none⟩,
  ⟨(.loc 21), (.cvI .i64), [(.loc 20)], none⟩,
  ⟨(.loc 22), (.bin .rem), [(.loc 21), (.con (.int .i64 9))], none⟩,
  ⟨(.loc 23), (.bin .add), [(.con (.int .i64 1)), (.loc 22)], none⟩,
  ⟨(.var 5), .mv, [(.loc 23)], none⟩]
@[reducible] noncomputable def r5_5 : List RO := [
  ⟨(.var 6), .mv, [(.con (.lit (.slice none 0 0)))], none⟩]
@[reducible] noncomputable def r5_6 : List RO := [
  ⟨(.var 7), .mv, [(.con (.int .i64 0))], none⟩]
@[reducible] noncomputable def r5_7 : List RO := [
  ⟨(.loc 24), .mv, [(.var 7)], none⟩,
  ⟨(.loc 25), .mv, [(.var 1)], none⟩,
  ⟨(.loc 26), .lenL, [(.loc 25)], none⟩,
  ⟨(.var 13), (.bin .lss), [(.loc 24), (.loc 26)], none⟩]
@[reducible] noncomputable def r5_8 : List (RO × Bool) := [
  (⟨(.loc 30), .mv, [(.var 1)], none⟩, true),
  (⟨(.loc 31), .mv, [(.var 7)], none⟩, true),
  (⟨(.loc 32), (.ixaS 1), [(.loc 30), (.loc 31)], none⟩, true),
  (⟨(.loc 33), (.ld false 1), [(.loc 32)], none⟩, true),
  (⟨(.loc 34), (.bin .lss), [(.loc 33), (.con (.int .i64 0))], none⟩, true),
  (⟨(.loc 35), .mv, [(.loc 34)], none⟩, true),
  (⟨(.loc 36), .mv, [(.var 1)], (some ((.loc 35), false))⟩, true),
  (⟨(.loc 37), .mv, [(.var 7)], (some ((.loc 35), false))⟩, true),
  (⟨(.loc 38), (.ixaS 1), [(.loc 36), (.loc 37)], (some ((.loc 35), false))⟩, true),
  (⟨(.loc 39), (.ld false 1), [(.loc 38)], (some ((.loc 35), false))⟩, true),
  (⟨(.loc 40), .mv, [(.var 5)], (some ((.loc 35), false))⟩, true),
  (⟨(.loc 41), (.bin .quo), [(.con (.int .i64 9999999)), (.loc 40)], (some ((.loc 35), false))⟩, true)]
@[reducible] noncomputable def r5_9 : List RO := [
  ⟨(.loc 42), (.bin .gtr), [(.loc 39), (.loc 41)], (some ((.loc 35), false))⟩,
  ⟨(.var 14), .pick, [(.loc 35), (.con (.bool true)), (.loc 42)], none⟩]
@[reducible] noncomputable def r5_10 : List RO := [
  ⟨(.loc 44), .mv, [(.var 4)], none⟩,
  ⟨(.var 3), .mv, [(.loc 44)], none⟩]
@[reducible] noncomputable def r5_11 : List RO := [
  ⟨(.loc 45), .mv, [(.var 6)], none⟩,
  ⟨(.loc 46), .mv, [(.var 5)], none⟩,
  ⟨(.loc 47), .mv, [(.var 1)], none⟩,
  ⟨(.loc 48), .mv, [(.var 7)], none⟩,
  ⟨(.loc 49), (.ixaS 1), [(.loc 47), (.loc 48)], none⟩,
  ⟨(.loc 50), (.ld false 1), [(.loc 49)], none⟩,
  ⟨(.loc 51), (.bin .mul), [(.loc 46), (.loc 50)], none⟩,
  ⟨(.loc 52), (.bsl 1), [(.loc 51)], none⟩,
  ⟨(.loc 53), (.app 1 8), [(.loc 45), (.loc 52)], none⟩,
  ⟨(.var 6), .mv, [(.loc 53)], none⟩]
@[reducible] noncomputable def r5_12 : List RO := [
  ⟨(.loc 28), .mv, [(.var 7)], none⟩,
  ⟨(.loc 29), (.bin .add), [(.loc 28), (.con (.int .i64 1))], none⟩,
  ⟨(.var 7), .mv, [(.loc 29)], none⟩]
@[reducible] noncomputable def r5_13 : List RO := [
  ⟨(.loc 55), .mv, [(.var 0)], none⟩,
  ⟨(.loc 56), .mv, [(.var 1)], none⟩,
  ⟨(.loc 57), .call, [(.con (.fn (.func 9) [] [])), (.loc 55), (.loc 56)], none⟩,
  ⟨(.loc 54), .mv, [(.loc 57)], none⟩,
  ⟨(.loc 58), (.ext 0), [(.loc 54)], none⟩,
  ⟨(.loc 59), (.ext 1), [(.loc 54)], none⟩,
  ⟨(.var 8), .mv, [(.loc 58)], none⟩,
  ⟨(.var 9), .mv, [(.loc 59)], none⟩]
@[reducible] noncomputable def r5_14 : List RO := [
  ⟨(.loc 61), .mv, [(.var 0)], none⟩,
  ⟨(.loc 62), .mv, [(.var 6)], none⟩,
  ⟨(.loc 63), .call, [(.con (.fn (.func 9) [] [])), (.loc 61), (.loc 62)], none⟩,
  ⟨(.loc 60), .mv, [(.loc 63)], none⟩,
  ⟨(.loc 64), (.ext 0), [(.loc 60)], none⟩,
  ⟨(.loc 65), (.ext 1), [(.loc 60)], none⟩,
  ⟨(.var 10), .mv, [(.loc 64)], none⟩,
  ⟨(.var 11), .mv, [(.loc 65)], none⟩]
@[reducible] noncomputable def r5_15 : List RO := [
  ⟨(.loc 66), .mv, [(.var 4)], none⟩,
  ⟨(.loc 67), .mv, [(.loc 66)], none⟩,
  ⟨(.loc 68), .mv, [(.var 9)], (some ((.loc 67), true))⟩,
  ⟨(.loc 69), .mv, [(.var 11)], (some ((.loc 67), true))⟩,
  ⟨(.loc 70), (.bin .eql), [(.loc 68), (.loc 69)], (some ((.loc 67), true))⟩,
  ⟨(.loc 71), .pick, [(.loc 67), (.loc 70), (.con (.bool false))], none⟩,
  ⟨(.loc 72), .mv, [(.loc 71)], none⟩,
  ⟨(.loc 73), .mv, [(.var 8)], (some ((.loc 72), true))⟩,
  ⟨(.loc 74), .mv, [(.var 10)], (some ((.loc 72), true))⟩,
  ⟨(.loc 75), .call, [(.con (.fn (.func 17) [] [])), (.loc 73), (.loc 74)], (some ((.loc 72), true))⟩,
  ⟨(.loc 76), .pick, [(.loc 72), (.loc 75), (.con (.bool false))], none⟩,
  ⟨(.var 3), .mv, [(.loc 76)], none⟩]
theorem P5 : C5.M = M := by unfold C5 E5; rfl
theorem pe5 {n m : Nat} : (E5 n m).M = M := by unfold E5; rfl
theorem i5 {a0 a1 a2 : D} : St.init C5 [a0, a1, a2] ⟨[], []⟩ = ⟨[a0, a1, a2, .undef, .undef, .undef, .undef, .undef, .undef, .undef, .undef, .undef, .undef, .undef, .undef], [], ⟨[], []⟩⟩ := by unfold C5 E5; rfl
theorem ie5 {n m : Nat} {hp : Hp} {a0 a1 a2 : D} : St.init (E5 n m) [a0, a1, a2] hp = ⟨[a0, a1, a2, .undef, .undef, .undef, .undef, .undef, .undef, .undef, .undef, .undef, .undef, .undef, .undef], [], hp⟩ := by unfold E5; rfl
noncomputable def c5 : RC := (.seq (.reg r5_0) (.seq (.reg r5_1) (.seq (.seq (.reg r5_2) (.cond (.var 12) (.seq (.reg r5_3) .ret) .skip)) (.seq (.reg r5_4) (.seq (.reg r5_5) (.seq (.seq (.reg r5_6) (.block 0 (.loop (.seq (.seq (.reg r5_7) (.cond (.var 13) .skip (.exit 0))) (.seq (.block 1 (.seq (.seq (.regD r5_8 r5_9) (.cond (.var 14) (.seq (.reg r5_10) .ret) .skip)) (.reg r5_11))) (.reg r5_12)))))) (.seq (.reg r5_13) (.seq (.reg r5_14) (.seq (.reg r5_15) .ret)))))))))
noncomputable def q5 : List RR := [(.slot (.var 3))]
theorem z5 {n m : Nat} : resCode (E5 n m) (Tryd.f5.body.getD .skip) = some c5 := by kernel_rfl
theorem zr5 {n m : Nat} : resRs (E5 n m) Tryd.f5.results.toList = some q5 := by kernel_rfl
theorem oe5 {args : List D} {hp : Hp} {R : D → Hp → Prop} (n m : Nat) (hl : args.length = 3) (hn : n = hp.H.length) (hm : m = hp.tk.length) (h : SWp (E5 n m) c5 (fun e s => (match e with | .exit _ => False | _ => True) ∧ ∃ s1, Weak (E5 n m) s s1 ∧ rrsWp q5 s1 fun ds => R (oneOrTup ds) s1.hp) (St.init (E5 n m) args hp)) : Eff M 5 args hp R :=
  eff_of_body (C := E5 n m) (fn := Tryd.f5) Tryd.func5 (by kernel_rfl) (by kernel_rfl) (rc := c5) z5 (rs := q5) zr5 (by kernel_rfl) (by rw [hl]; rfl) (by rw [hl]; exact (by decide : 3 ≤ 77)) hn hm h
theorem ow5 {args : List D} {d : D} (hl : args.length = 3) (h : SWp C5 c5 (fun e s => (match e with | .exit _ => False | _ => True) ∧ ∃ s1, Weak C5 s s1 ∧ rrsWp q5 s1 fun ds => D.closed (oneOrTup ds) = true ∧ (oneOrTup ds).er = d) (St.init C5 args ⟨[], []⟩)) : Pur M 5 args d :=
  pur_of_bodyW (C := C5) (fn := Tryd.f5) Tryd.func5 (by kernel_rfl) (by kernel_rfl) (rc := c5) z5 (rs := q5) zr5 (by kernel_rfl) (by rw [hl]; rfl) (by rw [hl]; decide) rfl rfl h
theorem ok5 {args : List D} {d : D} (hl : args.length = 3) (h : SWp C5 c5 (fun e s => (match e with | .exit _ => False | _ => True) ∧ rrsWp q5 s fun ds => D.closed (oneOrTup ds) = true ∧ (oneOrTup ds).er = d) (St.init C5 args ⟨[], []⟩)) : Pur M 5 args d :=
  pur_of_body (C := C5) (fn := Tryd.f5) Tryd.func5 (by kernel_rfl) (by kernel_rfl) (rc := c5) z5 (rs := q5) zr5 (by kernel_rfl) (by rw [hl]; rfl) (by rw [hl]; decide) rfl rfl h

/- 6 bogie.bogielaw03.MoneyPercents · 4 arguments · kept slots [0, 1, 2, 3, 8, 9, 10, 11, 12, 13, 14, 15, 16, 17, 18, 19, 20, 21, 22, 23, 48, 50, 125] -/
noncomputable def E6 (n m : Nat) : Cfg := ⟨M, [0, 1, 2, 3, 8, 9, 10, 11, 12, 13, 14, 15, 16, 17, 18, 19, 20, 21, 22, 23, 48, 50, 125], 187, n, m⟩
noncomputable def C6 : Cfg := E6 0 0
@[reducible] noncomputable def r6_0 : List RO := [
  ⟨(.var 4), .mv, [(.con (.bool false))], none⟩]
@[reducible] noncomputable def r6_1 : List RO := [
  ⟨(.loc 24), .call, [(.con (.fn (.func 8) [] []))], none⟩,
  ⟨(.var 5), .mv, [(.loc 24)], none⟩]
@[reducible] noncomputable def r6_2 : List RO := [
  ⟨(.loc 26), .mv, [(.var 0)], none⟩,
  ⟨(.loc 27), .mv, [(.var 2)], none⟩,
  ⟨(.loc 28), .call, [(.con (.fn (.func 11) [] [])), (.loc 26), (.loc 27)], none⟩,
  ⟨(.loc 25), .mv, [(.loc 28)], none⟩,
  ⟨(.loc 29), (.ext 0), [(.loc 25)], none⟩,
  ⟨(.loc 30), (.ext 1), [(.loc 25)], none⟩,
  ⟨(.var 6), .mv, [(.loc 29)], none⟩,
  ⟨(.var 7), .mv, [(.loc 30)], none⟩]
@[reducible] noncomputable def r6_3 : List RO := [
  ⟨(.loc 31), .mv, [(.var 0)], none⟩,
  ⟨(.loc 32), (.bin .geq), [(.loc 31), (.con (.int .i64 0))], none⟩,
  ⟨(.loc 33), .mv, [(.loc 32)], none⟩,
  ⟨(.loc 34), .mv, [(.var 0)], (some ((.loc 33), true))⟩,
  ⟨(.loc 35), (.bin .leq), [(.loc 34), (.con (.int .i64 1000000000000))], (some ((.loc 33), true))⟩,
  ⟨(.loc 36), .pick, [(.loc 33), (.loc 35), (.con (.bool false))], none⟩,
  ⟨(.loc 37), .mv, [(.loc 36)], none⟩,
  ⟨(.loc 38), .mv, [(.var 2)], (some ((.loc 37), true))⟩,
  ⟨(.loc 39), (.bin .geq), [(.loc 38), (.con (.int .i64 0))], (some ((.loc 37), true))⟩,
  ⟨(.loc 40), .pick, [(.loc 37), (.loc 39), (.con (.bool false))], none⟩,
  ⟨(.loc 41), .mv, [(.loc 40)], none⟩,
  ⟨(.loc 42), .mv, [(.var 2)], (some ((.loc 41), true))⟩,
  ⟨(.loc 43), (.bin .leq), [(.loc 42), (.con (.int .i64 100))], (some ((.loc 41), true))⟩,
  ⟨(.loc 44), .pick, [(.loc 41), (.loc 43), (.con (.bool false))], none⟩,
  ⟨(.var 8), .mv, [(.loc 44)], none⟩]
@[reducible] noncomputable def r6_4 : List RO := [
  ⟨(.loc 45), .mv, [(.var 7)], none⟩,
  ⟨(.loc 46), (.bin .eql), [(.loc 45), (.con (.int .i64 0))], none⟩,
  ⟨(.loc 47), .mv, [(.var 8)], none⟩,
  ⟨(.var 20), (.eqB true), [(.loc 46), (.loc 47)], none⟩]
@[reducible] noncomputable def r6_5 : List RO := [
  ⟨(.var 4), .mv, [(.con (.bool false))], none⟩]
@[reducible] noncomputable def r6_6 : List RO := [
  ⟨(.loc 49), .mv, [(.var 7)], none⟩,
  ⟨(.var 21), (.bin .neq), [(.loc 49), (.con (.int .i64 0))], none⟩]
@[reducible] noncomputable def r6_7 : List RO := [
  ⟨(.loc 51), .mv, [(.var 5)], none⟩,
  ⟨(.loc 52), .mv, [(.loc 51)], none⟩,
  ⟨(.loc 53), .mv, [(.var 7)], (some ((.loc 52), true))⟩,
  ⟨(.loc 54), (.bin .eql), [(.loc 53), (.con (.int .i64 1))], (some ((.loc 52), true))⟩,
  ⟨(.loc 55), .pick, [(.loc 52), (.loc 54), (.con (.bool false))], none⟩,
  ⟨(.loc 56), .mv, [(.loc 55)], none⟩,
  ⟨(.loc 57), .mv, [(.var 6)], (some ((.loc 56), true))⟩,
  ⟨(.loc 58), (.bin .eql), [(.loc 57), (.con (.int .i64 0))], (some ((.loc 56), true))⟩,
  ⟨(.loc 59), .pick, [(.loc 56), (.loc 58), (.con (.bool false))], none⟩,
  ⟨(.var 4), .mv, [(.loc 59)], none⟩]
@[reducible] noncomputable def r6_8 : List RO := [
  ⟨(.loc 60), .mv, [(.var 6)], none⟩,
  ⟨(.loc 61), (.bin .mul), [(.con (.int .i64 100)), (.loc 60)], none⟩,
  ⟨(.loc 62), .mv, [(.var 0)], none⟩,
  ⟨(.loc 63), .mv, [(.var 2)], none⟩,
  ⟨(.loc 64), (.bin .mul), [(.loc 62), (.loc 63)], none⟩,
  ⟨(.loc 65), (.bin .sub), [(.loc 61), (.loc 64)], none⟩,
  ⟨(.var 9), .mv, [(.loc 65)], none⟩]
@[reducible] noncomputable def r6_9 : List RO := [
  ⟨(.loc 67), .mv, [(.var 0)], none⟩,
  ⟨(.loc 68), .mv, [(.var 2)], none⟩,
  ⟨(.loc 69), (.bin .sub), [(.con (.int .i64 100)), (.loc 68)], none⟩,
  ⟨(.loc 70), .call, [(.con (.fn (.func 11) [] [])), (.loc 67), (.loc 69)], none⟩,
  ⟨(.loc 66), .mv, [(.loc 70)], none⟩,
  ⟨(.loc 71), (.ext 0), [(.loc 66)], none⟩,
  ⟨(.loc 72), (.ext 1), [(.loc 66)], none⟩,
  ⟨(.var 10), .mv, [(.loc 71)], none⟩,
  ⟨(.var 11), .mv, [(.loc 72)], none⟩]
@[reducible] noncomputable def r6_10 : List RO := [
  ⟨(.loc 74), .mv, [(.var 0)], none⟩,
  ⟨(.loc 75), .call, [(.con (.fn (.func 11) [] [])), (.loc 74), (.con (.int .i64 0))], none⟩,
  ⟨(.loc 73), .mv, [(.loc 75)], none⟩,
  ⟨(.loc 76), (.ext 0), [(.loc 73)], none⟩,
  ⟨(.loc 77), (.ext 1), [(.loc 73)], none⟩,
  ⟨(.var 12), .mv, [(.loc 76)], none⟩,
  ⟨(.var 13), .mv, [(.loc 77)], none⟩]
@[reducible] noncomputable def r6_11 : List RO := [
  ⟨(.loc 79), .mv, [(.var 0)], none⟩,
  ⟨(.loc 80), .call, [(.con (.fn (.func 11) [] [])), (.loc 79), (.con (.int .i64 100))], none⟩,
  ⟨(.loc 78), .mv, [(.loc 80)], none⟩,
  ⟨(.loc 81), (.ext 0), [(.loc 78)], none⟩,
  ⟨(.loc 82), (.ext 1), [(.loc 78)], none⟩,
  ⟨(.var 14), .mv, [(.loc 81)], none⟩,
  ⟨(.var 15), .mv, [(.loc 82)], none⟩]
@[reducible] noncomputable def r6_12 : List RO := [
  ⟨(.loc 83), .mv, [(.var 9)], none⟩,
  ⟨(.loc 84), (.bin .gtr), [(.loc 83), (.con (.int .i64 50))], none⟩,
  ⟨(.loc 85), .mv, [(.loc 84)], none⟩,
  ⟨(.loc 86), .mv, [(.var 9)], (some ((.loc 85), false))⟩,
  ⟨(.loc 87), (.bin .lss), [(.loc 86), (.con (.int .i64 (-50)))], (some ((.loc 85), false))⟩,
  ⟨(.loc 88), .pick, [(.loc 85), (.con (.bool true)), (.loc 87)], none⟩,
  ⟨(.loc 89), .mv, [(.loc 88)], none⟩,
  ⟨(.loc 90), .mv, [(.var 11)], (some ((.loc 89), false))⟩,
  ⟨(.loc 91), (.bin .neq), [(.loc 90), (.con (.int .i64 0))], (some ((.loc 89), false))⟩,
  ⟨(.loc 92), .pick, [(.loc 89), (.con (.bool true)), (.loc 91)], none⟩,
  ⟨(.loc 93), .mv, [(.loc 92)], none⟩,
  ⟨(.loc 94), .mv, [(.var 13)], (some ((.loc 93), false))⟩,
  ⟨(.loc 95), (.bin .neq), [(.loc 94), (.con (.int .i64 0))], (some ((.loc 93), false))⟩,
  ⟨(.loc 96), .pick, [(.loc 93), (.con (.bool true)), (.loc 95)], none⟩,
  ⟨(.loc 97), .mv, [(.loc 96)], none⟩,
  ⟨(.loc 98), .mv, [(.var 15)], (some ((.loc 97), false))⟩,
  ⟨(.loc 99), (.bin .neq), [(.loc 98), (.con (.int .i64 0))], (some ((.loc 97), false))⟩,
  ⟨(.loc 100), .pick, [(.loc 97), (.con (.bool true)), (.loc 99)], none⟩,
  ⟨(.loc 101), .mv, [(.loc 100)], none⟩,
  ⟨(.loc 102), .mv, [(.var 12)], (some ((.loc 101), false))⟩,
  ⟨(.loc 103), (.bin .neq), [(.loc 102), (.con (.int .i64 0))], (some ((.loc 101), false))⟩,
  ⟨(.loc 104), .pick, [(.loc 101), (.con (.bool true)), (.loc 103)], none⟩,
  ⟨(.loc 105), .mv, [(.loc 104)], none⟩,
  ⟨(.loc 106), .mv, [(.var 14)], (some ((.loc 105), false))⟩,
  ⟨(.loc 107), .mv, [(.var 0)], (some ((.loc 105), false))⟩,
  ⟨(.loc 108), (.bin .neq), [(.loc 106), (.loc 107)], (some ((.loc 105), false))⟩,
  ⟨(.loc 109), .pick, [(.loc 105), (.con (.bool true)), (.loc 108)], none⟩,
  ⟨(.loc 110), .mv, [(.loc 109)], none⟩,
  ⟨(.loc 111), .mv, [(.var 6)], (some ((.loc 110), false))⟩,
  ⟨(.loc 112), .mv, [(.var 10)], (some ((.loc 110), false))⟩,
  ⟨(.loc 113), (.bin .add), [(.loc 111), (.loc 112)], (some ((.loc 110), false))⟩,
  ⟨(.loc 114), .mv, [(.var 0)], (some ((.loc 110), false))⟩,
  ⟨(.loc 115), (.bin .add), [(.loc 114), (.con (.int .i64 1))], (some ((.loc 110), false))⟩,
  ⟨(.loc 116), (.bin .gtr), [(.loc 113), (.loc 115)], (some ((.loc 110), false))⟩,
  ⟨(.loc 117), .pick, [(.loc 110), (.con (.bool true)), (.loc 116)], none⟩,
  ⟨(.loc 118), .mv, [(.loc 117)], none⟩,
  ⟨(.loc 119), .mv, [(.var 6)], (some ((.loc 118), false))⟩,
  ⟨(.loc 120), .mv, [(.var 10)], (some ((.loc 118), false))⟩,
  ⟨(.loc 121), (.bin .add), [(.loc 119), (.loc 120)], (some ((.loc 118), false))⟩,
  ⟨(.loc 122), .mv, [(.var 0)], (some ((.loc 118), false))⟩,
  ⟨(.loc 123), (.bin .sub), [(.loc 122), (.con (.int .i64 1))], (some ((.loc 118), false))⟩,
  ⟨(.loc 124), (.bin .lss), [(.loc 121), (.loc 123)], (some ((.loc 118), false))⟩,
  ⟨(.var 22), .pick, [(.loc 118), (.con (.bool true)), (.loc 124)], none⟩]
@[reducible] noncomputable def r6_13 : List RO := [
  ⟨(.var 4), .mv, [(.con (.bool false))], none⟩]
@[reducible] noncomputable def r6_14 : List RO := [
  ⟨(.loc 127), .mv, [(.var 1)], none⟩,
  ⟨(.loc 128), .mv, [(.var 2)], none⟩,
  ⟨(.loc 129), .call, [(.con (.fn (.func 11) [] [])), (.loc 127), (.loc 128)], none⟩,
  ⟨(.loc 126), .mv, [(.loc 129)], none⟩,
  ⟨(.loc 130), (.ext 0), [(.loc 126)], none⟩,
  ⟨(.loc 131), (.ext 1), [(.loc 126)], none⟩,
  ⟨(.var 16), .mv, [(.loc 130)], none⟩,
  ⟨(.var 17), .mv, [(.loc 131)], none⟩]
@[reducible] noncomputable def r6_15 : List RO := [
  ⟨(.loc 133), .mv, [(.var 0)], none⟩,
  ⟨(.loc 134), .mv, [(.var 3)], none⟩,
  ⟨(.loc 135), .call, [(.con (.fn (.func 11) [] [])), (.loc 133), (.loc 134)], none⟩,
  ⟨(.loc 132), .mv, [(.loc 135)], none⟩,
  ⟨(.loc 136), (.ext 0), [(.loc 132)], none⟩,
  ⟨(.loc 137), (.ext 1), [(.loc 132)], none⟩,
  ⟨(.var 18), .mv, [(.loc 136)], none⟩,
  ⟨(.var 19), .mv, [(.loc 137)], none⟩]
@[reducible] noncomputable def r6_16 : List RO := [
  ⟨(.loc 138), .mv, [(.var 5)], none⟩,
  ⟨(.loc 139), .mv, [(.loc 138)], none⟩,
  ⟨(.loc 140), .mv, [(.var 17)], (some ((.loc 139), true))⟩,
  ⟨(.loc 141), (.bin .neq), [(.loc 140), (.con (.int .i64 0))], (some ((.loc 139), true))⟩,
  ⟨(.loc 142), .mv, [(.loc 141)], (some ((.loc 139), true))⟩,
  ⟨(.loc 143), .mv, [(.var 1)], (some ((.loc 142), false))⟩,
  ⟨(.loc 144), .mv, [(.var 0)], (some ((.loc 142), false))⟩,
  ⟨(.loc 145), (.bin .geq), [(.loc 143), (.loc 144)], (some ((.loc 142), false))⟩,
  ⟨(.loc 146), .mv, [(.loc 145)], (some ((.loc 142), false))⟩,
  ⟨(.loc 147), .mv, [(.var 16)], (some ((.loc 146), false))⟩,
  ⟨(.loc 148), .mv, [(.var 6)], (some ((.loc 146), false))⟩,
  ⟨(.loc 149), (.bin .leq), [(.loc 147), (.loc 148)], (some ((.loc 146), false))⟩,
  ⟨(.loc 150), .pick, [(.loc 146), (.con (.bool true)), (.loc 149)], (some ((.loc 142), false))⟩,
  ⟨(.loc 151), .mv, [(.loc 150)], (some ((.loc 142), false))⟩,
  ⟨(.loc 152), .mv, [(.var 1)], (some ((.loc 151), true))⟩,
  ⟨(.loc 153), .mv, [(.var 0)], (some ((.loc 151), true))⟩,
  ⟨(.loc 154), (.bin .leq), [(.loc 152), (.loc 153)], (some ((.loc 151), true))⟩,
  ⟨(.loc 155), .mv, [(.loc 154)], (some ((.loc 151), true))⟩,
  ⟨(.loc 156), .mv, [(.var 16)], (some ((.loc 155), false))⟩,
  ⟨(.loc 157), .mv, [(.var 6)], (some ((.loc 155), false))⟩,
  ⟨(.loc 158), (.bin .geq), [(.loc 156), (.loc 157)], (some ((.loc 155), false))⟩,
  ⟨(.loc 159), .pick, [(.loc 155), (.con (.bool true)), (.loc 158)], (some ((.loc 151), true))⟩,
  ⟨(.loc 160), .pick, [(.loc 151), (.loc 159), (.con (.bool false))], (some ((.loc 142), false))⟩,
  ⟨(.loc 161), .pick, [(.loc 142), (.con (.bool true)), (.loc 160)], (some ((.loc 139), true))⟩,
  ⟨(.loc 162), .pick, [(.loc 139), (.loc 161), (.con (.bool false))], none⟩,
  ⟨(.loc 163), .mv, [(.loc 162)], none⟩,
  ⟨(.loc 164), .mv, [(.var 19)], (some ((.loc 163), true))⟩,
  ⟨(.loc 165), (.bin .neq), [(.loc 164), (.con (.int .i64 0))], (some ((.loc 163), true))⟩,
  ⟨(.loc 166), .mv, [(.loc 165)], (some ((.loc 163), true))⟩,
  ⟨(.loc 167), .mv, [(.var 3)], (some ((.loc 166), false))⟩,
  ⟨(.loc 168), .mv, [(.var 2)], (some ((.loc 166), false))⟩,
  ⟨(.loc 169), (.bin .geq), [(.loc 167), (.loc 168)], (some ((.loc 166), false))⟩,
  ⟨(.loc 170), .mv, [(.loc 169)], (some ((.loc 166), false))⟩,
  ⟨(.loc 171), .mv, [(.var 18)], (some ((.loc 170), false))⟩,
  ⟨(.loc 172), .mv, [(.var 6)], (some ((.loc 170), false))⟩,
  ⟨(.loc 173), (.bin .leq), [(.loc 171), (.loc 172)], (some ((.loc 170), false))⟩,
  ⟨(.loc 174), .pick, [(.loc 170), (.con (.bool true)), (.loc 173)], (some ((.loc 166), false))⟩,
  ⟨(.loc 175), .mv, [(.loc 174)], (some ((.loc 166), false))⟩,
  ⟨(.loc 176), .mv, [(.var 3)], (some ((.loc 175), true))⟩,
  ⟨(.loc 177), .mv, [(.var 2)], (some ((.loc 175), true))⟩,
  ⟨(.loc 178), (.bin .leq), [(.loc 176), (.loc 177)], (some ((.loc 175), true))⟩,
  ⟨(.loc 179), .mv, [(.loc 178)], (some ((.loc 175), true))⟩,
  ⟨(.loc 180), .mv, [(.var 18)], (some ((.loc 179), false))⟩,
  ⟨(.loc 181), .mv, [(.var 6)], (some ((.loc 179), false))⟩,
  ⟨(.loc 182), (.bin .geq), [(.loc 180), (.loc 181)], (some ((.loc 179), false))⟩,
  ⟨(.loc 183), .pick, [(.loc 179), (.con (.bool true)), (.loc 182)], (some ((.loc 175), true))⟩,
  ⟨(.loc 184), .pick, [(.loc 175), (.loc 183), (.con (.bool false))], (some ((.loc 166), false))⟩,
  ⟨(.loc 185), .pick, [(.loc 166), (.con (.bool true)), (.loc 184)], (some ((.loc 163), true))⟩,
  ⟨(.loc 186), .pick, [(.loc 163), (.loc 185), (.con (.bool false))], none⟩,
  ⟨(.var 4), .mv, [(.loc 186)], none⟩]
theorem P6 : C6.M = M := by unfold C6 E6; rfl
theorem pe6 {n m : Nat} : (E6 n m).M = M := by unfold E6; rfl
theorem i6 {a0 a1 a2 a3 : D} : St.init C6 [a0, a1, a2, a3] ⟨[], []⟩ = ⟨[a0, a1, a2, a3, .undef, .undef, .undef, .undef, .undef, .undef, .undef, .undef, .undef, .undef, .undef, .undef, .undef, .undef, .undef, .undef, .undef, .undef, .undef], [], ⟨[], []⟩⟩ := by unfold C6 E6; rfl
theorem ie6 {n m : Nat} {hp : Hp} {a0 a1 a2 a3 : D} : St.init (E6 n m) [a0, a1, a2, a3] hp = ⟨[a0, a1, a2, a3, .undef, .undef, .undef, .undef, .undef, .undef, .undef, .undef, .undef, .undef, .undef, .undef, .undef, .undef, .undef, .undef, .undef, .undef, .undef], [], hp⟩ := by unfold E6; rfl
noncomputable def c6 : RC := (.seq (.reg r6_0) (.seq (.reg r6_1) (.seq (.reg r6_2) (.seq (.reg r6_3) (.seq (.seq (.reg r6_4) (.cond (.var 20) (.seq (.reg r6_5) .ret) .skip)) (.seq (.seq (.reg r6_6) (.cond (.var 21) (.seq (.reg r6_7) .ret) .skip)) (.seq (.reg r6_8) (.seq (.reg r6_9) (.seq (.reg r6_10) (.seq (.reg r6_11) (.seq (.seq (.reg r6_12) (.cond (.var 22) (.seq (.reg r6_13) .ret) .skip)) (.seq (.reg r6_14) (.seq (.reg r6_15) (.seq (.reg r6_16) .ret))))))))))))))
noncomputable def q6 : List RR := [(.slot (.var 4))]
theorem z6 {n m : Nat} : resCode (E6 n m) (Tryd.f6.body.getD .skip) = some c6 := by kernel_rfl
theorem zr6 {n m : Nat} : resRs (E6 n m) Tryd.f6.results.toList = some q6 := by kernel_rfl
theorem oe6 {args : List D} {hp : Hp} {R : D → Hp → Prop} (n m : Nat) (hl : args.length = 4) (hn : n = hp.H.length) (hm : m = hp.tk.length) (h : SWp (E6 n m) c6 (fun e s => (match e with | .exit _ => False | _ => True) ∧ ∃ s1, Weak (E6 n m) s s1 ∧ rrsWp q6 s1 fun ds => R (oneOrTup ds) s1.hp) (St.init (E6 n m) args hp)) : Eff M 6 args hp R :=
  eff_of_body (C := E6 n m) (fn := Tryd.f6) Tryd.func6 (by kernel_rfl) (by kernel_rfl) (rc := c6) z6 (rs := q6) zr6 (by kernel_rfl) (by rw [hl]; rfl) (by rw [hl]; exact (by decide : 4 ≤ 187)) hn hm h
theorem ow6 {args : List D} {d : D} (hl : args.length = 4) (h : SWp C6 c6 (fun e s => (match e with | .exit _ => False | _ => True) ∧ ∃ s1, Weak C6 s s1 ∧ rrsWp q6 s1 fun ds => D.closed (oneOrTup ds) = true ∧ (oneOrTup ds).er = d) (St.init C6 args ⟨[], []⟩)) : Pur M 6 args d :=
  pur_of_bodyW (C := C6) (fn := Tryd.f6) Tryd.func6 (by kernel_rfl) (by kernel_rfl) (rc := c6) z6 (rs := q6) zr6 (by kernel_rfl) (by rw [hl]; rfl) (by rw [hl]; decide) rfl rfl h
theorem ok6 {args : List D} {d : D} (hl : args.length = 4) (h : SWp C6 c6 (fun e s => (match e with | .exit _ => False | _ => True) ∧ rrsWp q6 s fun ds => D.closed (oneOrTup ds) = true ∧ (oneOrTup ds).er = d) (St.init C6 args ⟨[], []⟩)) : Pur M 6 args d :=
  pur_of_body (C := C6) (fn := Tryd.f6) Tryd.func6 (by kernel_rfl) (by kernel_rfl) (rc := c6) z6 (rs := q6) zr6 (by kernel_rfl) (by rw [hl]; rfl) (by rw [hl]; decide) rfl rfl h

/- 7 bogie.bogielaw03.MoneyTexts · 2 arguments · kept slots [0, 1, 4, 5, 6, 7, 8, 9, 10, 11, 12, 13, 17, 25, 42, 49] -/
noncomputable def E7 (n m : Nat) : Cfg := ⟨M, [0, 1, 4, 5, 6, 7, 8, 9, 10, 11, 12, 13, 17, 25, 42, 49], 93, n, m⟩
noncomputable def C7 : Cfg := E7 0 0
@[reducible] noncomputable def r7_0 : List RO := [
  ⟨(.var 2), .mv, [(.con (.bool false))], none⟩]
@[reducible] noncomputable def r7_1 : List RO := [
  ⟨(.loc 14), .call, [(.con (.fn (.func 8) [] []))], none⟩,
  ⟨(.var 3), .mv, [(.loc 14)], none⟩]
@[reducible] noncomputable def r7_2 : List RO := [
  ⟨(.loc 15), .mv, [(.var 1)], none⟩,
  ⟨(.loc 16), .lenS, [(.loc 15)], none⟩,
  ⟨(.var 12), (.bin .gtr), [(.loc 16), (.con (.int .i64 100))], none⟩]
@[reducible] noncomputable def r7_3 : List RO := [
  ⟨(.loc 18), .mv, [(.var 3)], none⟩,
  ⟨(.var 2), .mv, [(.loc 18)], none⟩]
@[reducible] noncomputable def r7_4 : List RO := [
  ⟨(.loc 20), .mv, [(.var 0)], none⟩,
  ⟨(.loc 21), .call, [(.con (.fn (.func 13) [] [])), (.loc 20)], none⟩,
  ⟨(.loc 19), .mv, [(.loc 21)], none⟩,
  ⟨(.loc 22), (.ext 0), [(.loc 19)], none⟩,
  ⟨(.loc 23), (.ext 1), [(.loc 19)], none⟩,
  ⟨(.var 4), .mv, [(.loc 22)], none⟩,
  ⟨(.var 5), .mv, [(.loc 23)], none⟩]
@[reducible] noncomputable def r7_5 : List RO := [
  ⟨(.loc 24), .mv, [(.var 5)], none⟩,
  ⟨(.var 13), (.bin .eql), [(.loc 24), (.con (.int .i64 0))], none⟩]
@[reducible] noncomputable def r7_6 : List RO := [
  ⟨(.loc 27), .mv, [(.var 4)], none⟩,
  ⟨(.loc 28), .call, [(.con (.fn (.func 15) [] [])), (.loc 27)], none⟩,
  ⟨(.loc 26), .mv, [(.loc 28)], none⟩,
  ⟨(.loc 29), (.ext 0), [(.loc 26)], none⟩,
  ⟨(.loc 30), (.ext 1), [(.loc 26)], none⟩,
  ⟨(.var 6), .mv, [(.loc 29)], none⟩,
  ⟨(.var 7), .mv, [(.loc 30)], none⟩]
@[reducible] noncomputable def r7_7 : List RO := [
  ⟨(.loc 31), .mv, [(.var 7)], none⟩,
  ⟨(.loc 32), (.bin .neq), [(.loc 31), (.con (.int .i64 0))], none⟩,
  ⟨(.loc 33), .mv, [(.loc 32)], none⟩,
  ⟨(.loc 34), .mv, [(.var 6)], (some ((.loc 33), false))⟩,
  ⟨(.loc 35), .mv, [(.var 0)], (some ((.loc 33), false))⟩,
  ⟨(.loc 36), (.bin .neq), [(.loc 34), (.loc 35)], (some ((.loc 33), false))⟩,
  ⟨(.loc 37), .pick, [(.loc 33), (.con (.bool true)), (.loc 36)], none⟩,
  ⟨(.loc 38), .mv, [(.loc 37)], none⟩,
  ⟨(.loc 39), .mv, [(.var 4)], (some ((.loc 38), false))⟩,
  ⟨(.loc 40), .lenS, [(.loc 39)], (some ((.loc 38), false))⟩,
  ⟨(.loc 41), (.bin .lss), [(.loc 40), (.con (.int .i64 4))], (some ((.loc 38), false))⟩,
  ⟨(.var 14), .pick, [(.loc 38), (.con (.bool true)), (.loc 41)], none⟩]
@[reducible] noncomputable def r7_8 : List RO := [
  ⟨(.var 2), .mv, [(.con (.bool false))], none⟩]
@[reducible] noncomputable def r7_9 : List RO := [
  ⟨(.loc 44), .mv, [(.var 1)], none⟩,
  ⟨(.loc 45), .call, [(.con (.fn (.func 15) [] [])), (.loc 44)], none⟩,
  ⟨(.loc 43), .mv, [(.loc 45)], none⟩,
  ⟨(.loc 46), (.ext 0), [(.loc 43)], none⟩,
  ⟨(.loc 47), (.ext 1), [(.loc 43)], none⟩,
  ⟨(.var 8), .mv, [(.loc 46)], none⟩,
  ⟨(.var 9), .mv, [(.loc 47)], none⟩]
@[reducible] noncomputable def r7_10 : List RO := [
  ⟨(.loc 48), .mv, [(.var 9)], none⟩,
  ⟨(.var 15), (.bin .neq), [(.loc 48), (.con (.int .i64 0))], none⟩]
@[reducible] noncomputable def r7_11 : List RO := [
  ⟨(.loc 50), .mv, [(.var 3)], none⟩,
  ⟨(.loc 51), .mv, [(.loc 50)], none⟩,
  ⟨(.loc 52), .mv, [(.var 8)], (some ((.loc 51), true))⟩,
  ⟨(.loc 53), (.bin .eql), [(.loc 52), (.con (.int .i64 0))], (some ((.loc 51), true))⟩,
  ⟨(.loc 54), .pick, [(.loc 51), (.loc 53), (.con (.bool false))], none⟩,
  ⟨(.loc 55), .mv, [(.loc 54)], none⟩,
  ⟨(.loc 56), .mv, [(.var 9)], (some ((.loc 55), true))⟩,
  ⟨(.loc 57), (.bin .eql), [(.loc 56), (.con (.int .i64 8))], (some ((.loc 55), true))⟩,
  ⟨(.loc 58), .pick, [(.loc 55), (.loc 57), (.con (.bool false))], none⟩,
  ⟨(.loc 59), .mv, [(.loc 58)], none⟩,
  ⟨(.loc 60), .mv, [(.var 5)], (some ((.loc 59), true))⟩,
  ⟨(.loc 61), (.bin .eql), [(.loc 60), (.con (.int .i64 0))], (some ((.loc 59), true))⟩,
  ⟨(.loc 62), .mv, [(.var 0)], (some ((.loc 59), true))⟩,
  ⟨(.loc 63), (.bin .geq), [(.loc 62), (.con (.int .i64 0))], (some ((.loc 59), true))⟩,
  ⟨(.loc 64), .mv, [(.loc 63)], (some ((.loc 59), true))⟩,
  ⟨(.loc 65), .mv, [(.var 0)], (some ((.loc 64), true))⟩,
  ⟨(.loc 66), (.bin .leq), [(.loc 65), (.con (.int .i64 1000000000000))], (some ((.loc 64), true))⟩,
  ⟨(.loc 67), .pick, [(.loc 64), (.loc 66), (.con (.bool false))], (some ((.loc 59), true))⟩,
  ⟨(.loc 68), (.eqB false), [(.loc 61), (.loc 67)], (some ((.loc 59), true))⟩,
  ⟨(.loc 69), .pick, [(.loc 59), (.loc 68), (.con (.bool false))], none⟩,
  ⟨(.var 2), .mv, [(.loc 69)], none⟩]
@[reducible] noncomputable def r7_12 : List RO := [
  ⟨(.loc 71), .mv, [(.var 8)], none⟩,
  ⟨(.loc 72), .call, [(.con (.fn (.func 13) [] [])), (.loc 71)], none⟩,
  ⟨(.loc 70), .mv, [(.loc 72)], none⟩,
  ⟨(.loc 73), (.ext 0), [(.loc 70)], none⟩,
  ⟨(.loc 74), (.ext 1), [(.loc 70)], none⟩,
  ⟨(.var 10), .mv, [(.loc 73)], none⟩,
  ⟨(.var 11), .mv, [(.loc 74)], none⟩]
@[reducible] noncomputable def r7_13 : List RO := [
  ⟨(.loc 75), .mv, [(.var 3)], none⟩,
  ⟨(.loc 76), .mv, [(.loc 75)], none⟩,
  ⟨(.loc 77), .mv, [(.var 11)], (some ((.loc 76), true))⟩,
  ⟨(.loc 78), (.bin .eql), [(.loc 77), (.con (.int .i64 0))], (some ((.loc 76), true))⟩,
  ⟨(.loc 79), .pick, [(.loc 76), (.loc 78), (.con (.bool false))], none⟩,
  ⟨(.loc 80), .mv, [(.loc 79)], none⟩,
  ⟨(.loc 81), .mv, [(.var 10)], (some ((.loc 80), true))⟩,
  ⟨(.loc 82), .mv, [(.var 1)], (some ((.loc 80), true))⟩,
  ⟨(.loc 83), (.bin .eql), [(.loc 81), (.loc 82)], (some ((.loc 80), true))⟩,
  ⟨(.loc 84), .pick, [(.loc 80), (.loc 83), (.con (.bool false))], none⟩,
  ⟨(.loc 85), .mv, [(.loc 84)], none⟩,
  ⟨(.loc 86), .mv, [(.var 8)], (some ((.loc 85), true))⟩,
  ⟨(.loc 87), (.bin .geq), [(.loc 86), (.con (.int .i64 0))], (some ((.loc 85), true))⟩,
  ⟨(.loc 88), .pick, [(.loc 85), (.loc 87), (.con (.bool false))], none⟩,
  ⟨(.loc 89), .mv, [(.loc 88)], none⟩,
  ⟨(.loc 90), .mv, [(.var 8)], (some ((.loc 89), true))⟩,
  ⟨(.loc 91), (.bin .leq), [(.loc 90), (.con (.int .i64 1000000000000))], (some ((.loc 89), true))⟩,
  ⟨(.loc 92), .pick, [(.loc 89), (.loc 91), (.con (.bool false))], none⟩,
  ⟨(.var 2), .mv, [(.loc 92)], none⟩]
theorem P7 : C7.M = M := by unfold C7 E7; rfl
theorem pe7 {n m : Nat} : (E7 n m).M = M := by unfold E7; rfl
theorem i7 {a0 a1 : D} : St.init C7 [a0, a1] ⟨[], []⟩ = ⟨[a0, a1, .undef, .undef, .undef, .undef, .undef, .undef, .undef, .undef, .undef, .undef, .undef, .undef, .undef, .undef], [], ⟨[], []⟩⟩ := by unfold C7 E7; rfl
theorem ie7 {n m : Nat} {hp : Hp} {a0 a1 : D} : St.init (E7 n m) [a0, a1] hp = ⟨[a0, a1, .undef, .undef, .undef, .undef, .undef, .undef, .undef, .undef, .undef, .undef, .undef, .undef, .undef, .undef], [], hp⟩ := by unfold E7; rfl
noncomputable def c7 : RC := (.seq (.reg r7_0) (.seq (.reg r7_1) (.seq (.seq (.reg r7_2) (.cond (.var 12) (.seq (.reg r7_3) .ret) .skip)) (.seq (.reg r7_4) (.seq (.seq (.reg r7_5) (.cond (.var 13) (.seq (.reg r7_6) (.seq (.reg r7_7) (.cond (.var 14) (.seq (.reg r7_8) .ret) .skip))) .skip)) (.seq (.reg r7_9) (.seq (.seq (.reg r7_10) (.cond (.var 15) (.seq (.reg r7_11) .ret) .skip)) (.seq (.reg r7_12) (.seq (.reg r7_13) .ret)))))))))
noncomputable def q7 : List RR := [(.slot (.var 2))]
theorem z7 {n m : Nat} : resCode (E7 n m) (Tryd.f7.body.getD .skip) = some c7 := by kernel_rfl
theorem zr7 {n m : Nat} : resRs (E7 n m) Tryd.f7.results.toList = some q7 := by kernel_rfl
theorem oe7 {args : List D} {hp : Hp} {R : D → Hp → Prop} (n m : Nat) (hl : args.length = 2) (hn : n = hp.H.length) (hm : m = hp.tk.length) (h : SWp (E7 n m) c7 (fun e s => (match e with | .exit _ => False | _ => True) ∧ ∃ s1, Weak (E7 n m) s s1 ∧ rrsWp q7 s1 fun ds => R (oneOrTup ds) s1.hp) (St.init (E7 n m) args hp)) : Eff M 7 args hp R :=
  eff_of_body (C := E7 n m) (fn := Tryd.f7) Tryd.func7 (by kernel_rfl) (by kernel_rfl) (rc := c7) z7 (rs := q7) zr7 (by kernel_rfl) (by rw [hl]; rfl) (by rw [hl]; exact (by decide : 2 ≤ 93)) hn hm h
theorem ow7 {args : List D} {d : D} (hl : args.length = 2) (h : SWp C7 c7 (fun e s => (match e with | .exit _ => False | _ => True) ∧ ∃ s1, Weak C7 s s1 ∧ rrsWp q7 s1 fun ds => D.closed (oneOrTup ds) = true ∧ (oneOrTup ds).er = d) (St.init C7 args ⟨[], []⟩)) : Pur M 7 args d :=
  pur_of_bodyW (C := C7) (fn := Tryd.f7) Tryd.func7 (by kernel_rfl) (by kernel_rfl) (rc := c7) z7 (rs := q7) zr7 (by kernel_rfl) (by rw [hl]; rfl) (by rw [hl]; decide) rfl rfl h
theorem ok7 {args : List D} {d : D} (hl : args.length = 2) (h : SWp C7 c7 (fun e s => (match e with | .exit _ => False | _ => True) ∧ rrsWp q7 s fun ds => D.closed (oneOrTup ds) = true ∧ (oneOrTup ds).er = d) (St.init C7 args ⟨[], []⟩)) : Pur M 7 args d :=
  pur_of_body (C := C7) (fn := Tryd.f7) Tryd.func7 (by kernel_rfl) (by kernel_rfl) (rc := c7) z7 (rs := q7) zr7 (by kernel_rfl) (by rw [hl]; rfl) (by rw [hl]; decide) rfl rfl h
end Go.Proofs.YtniglomooepbcaaDoor
