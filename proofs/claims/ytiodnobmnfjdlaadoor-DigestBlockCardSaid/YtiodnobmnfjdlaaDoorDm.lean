/- The resolved code of the functions that the claim reaches, printed by a program, and the facts that tie it to the translation. -/
import Derived.Test.YtiodnobmnfjdlaaDoorProg
import Derived.Test.YtiodnobmnfjdlaaDoorDb
import Derived.KernelRfl
import Derived.Lib.ItoaNum
set_option maxRecDepth 100000
namespace Go.Proofs.YtiodnobmnfjdlaaDoor
open Go GoV

/- 3 bogie.bogielaw01.DigestMatchesReference · 2 arguments · kept slots [0, 1, 4, 5, 14] -/
noncomputable def E3 (n m : Nat) : Cfg := ⟨M, [0, 1, 4, 5, 14], 38, n, m⟩
noncomputable def C3 : Cfg := E3 0 0
@[reducible] noncomputable def r3_0 : List RO := [
  ⟨(.var 2), .mv, [(.con (.bool false))], none⟩]
@[reducible] noncomputable def r3_1 : List RO := [
  ⟨(.loc 6), .call, [(.con (.fn (.func 8) [] []))], none⟩,
  ⟨(.var 3), .mv, [(.loc 6)], none⟩]
@[reducible] noncomputable def r3_2 : List RO := [
  ⟨(.loc 7), .mv, [(.var 0)], none⟩,
  ⟨(.loc 8), .lenS, [(.loc 7)], none⟩,
  ⟨(.loc 9), (.bin .gtr), [(.loc 8), (.con (.int .i64 2000))], none⟩,
  ⟨(.loc 10), .mv, [(.loc 9)], none⟩,
  ⟨(.loc 11), .mv, [(.var 1)], (some ((.loc 10), false))⟩,
  ⟨(.loc 12), .call, [(.con (.fn (.func 9) [] [])), (.loc 11), (.con (.int .i64 200))], (some ((.loc 10), false))⟩,
  ⟨(.loc 13), (.un .not), [(.loc 12)], (some ((.loc 10), false))⟩,
  ⟨(.var 4), .pick, [(.loc 10), (.con (.bool true)), (.loc 13)], none⟩]
@[reducible] noncomputable def r3_3 : List RO := [
  ⟨(.loc 15), .mv, [(.var 3)], none⟩,
  ⟨(.var 2), .mv, [(.loc 15)], none⟩]
@[reducible] noncomputable def r3_4 : List RO := [
  ⟨(.loc 16), .mv, [(.var 3)], none⟩,
  ⟨(.loc 17), .mv, [(.loc 16)], none⟩,
  ⟨(.loc 18), .mv, [(.var 0)], (some ((.loc 17), true))⟩,
  ⟨(.loc 19), .call, [(.con (.fn (.func 10) [] [])), (.loc 18)], (some ((.loc 17), true))⟩,
  ⟨(.loc 20), .mv, [(.var 0)], (some ((.loc 17), true))⟩,
  ⟨(.loc 21), .call, [(.con (.fn (.func 11) [] [])), (.loc 20)], (some ((.loc 17), true))⟩,
  ⟨(.loc 22), (.bin .eql), [(.loc 19), (.loc 21)], (some ((.loc 17), true))⟩,
  ⟨(.loc 23), .pick, [(.loc 17), (.loc 22), (.con (.bool false))], none⟩,
  ⟨(.loc 24), .mv, [(.loc 23)], none⟩,
  ⟨(.loc 25), .mv, [(.var 1)], (some ((.loc 24), true))⟩,
  ⟨(.loc 26), .call, [(.con (.fn (.func 12) [] [])), (.loc 25)], (some ((.loc 24), true))⟩,
  ⟨(.loc 27), .mv, [(.var 1)], (some ((.loc 24), true))⟩,
  ⟨(.loc 28), .call, [(.con (.fn (.func 13) [] [])), (.loc 27)], (some ((.loc 24), true))⟩,
  ⟨(.loc 29), (.bin .eql), [(.loc 26), (.loc 28)], (some ((.loc 24), true))⟩,
  ⟨(.loc 30), .pick, [(.loc 24), (.loc 29), (.con (.bool false))], none⟩,
  ⟨(.loc 31), .mv, [(.loc 30)], none⟩,
  ⟨(.loc 32), .mv, [(.var 0)], (some ((.loc 31), true))⟩,
  ⟨(.loc 33), .call, [(.con (.fn (.func 14) [] [])), (.loc 32)], (some ((.loc 31), true))⟩,
  ⟨(.loc 34), .mv, [(.var 0)], (some ((.loc 31), true))⟩,
  ⟨(.loc 35), .call, [(.con (.fn (.func 15) [] [])), (.loc 34)], (some ((.loc 31), true))⟩,
  ⟨(.loc 36), (.eqB false), [(.loc 33), (.loc 35)], (some ((.loc 31), true))⟩,
  ⟨(.loc 37), .pick, [(.loc 31), (.loc 36), (.con (.bool false))], none⟩,
  ⟨(.var 2), .mv, [(.loc 37)], none⟩]
theorem P3 : C3.M = M := by unfold C3 E3; rfl
theorem pe3 {n m : Nat} : (E3 n m).M = M := by unfold E3; rfl
theorem i3 {a0 a1 : D} : St.init C3 [a0, a1] ⟨[], []⟩ = ⟨[a0, a1, .undef, .undef, .undef], [], ⟨[], []⟩⟩ := by unfold C3 E3; rfl
theorem ie3 {n m : Nat} {hp : Hp} {a0 a1 : D} : St.init (E3 n m) [a0, a1] hp = ⟨[a0, a1, .undef, .undef, .undef], [], hp⟩ := by unfold E3; rfl
noncomputable def c3 : RC := (.seq (.reg r3_0) (.seq (.reg r3_1) (.seq (.seq (.reg r3_2) (.cond (.var 4) (.seq (.reg r3_3) .ret) .skip)) (.seq (.reg r3_4) .ret))))
noncomputable def q3 : List RR := [(.slot (.var 2))]
theorem z3 {n m : Nat} : resCode (E3 n m) (Tryd.f3.body.getD .skip) = some c3 := by kernel_rfl
theorem zr3 {n m : Nat} : resRs (E3 n m) Tryd.f3.results.toList = some q3 := by kernel_rfl
theorem oe3 {args : List D} {hp : Hp} {R : D → Hp → Prop} (n m : Nat) (hl : args.length = 2) (hn : n = hp.H.length) (hm : m = hp.tk.length) (h : SWp (E3 n m) c3 (fun e s => (match e with | .exit _ => False | _ => True) ∧ ∃ s1, Weak (E3 n m) s s1 ∧ rrsWp q3 s1 fun ds => R (oneOrTup ds) s1.hp) (St.init (E3 n m) args hp)) : Eff M 3 args hp R :=
  eff_of_body (C := E3 n m) (fn := Tryd.f3) Tryd.func3 (by kernel_rfl) (by kernel_rfl) (rc := c3) z3 (rs := q3) zr3 (by kernel_rfl) (by rw [hl]; rfl) (by rw [hl]; exact (by decide : 2 ≤ 38)) hn hm h
theorem ow3 {args : List D} {d : D} (hl : args.length = 2) (h : SWp C3 c3 (fun e s => (match e with | .exit _ => False | _ => True) ∧ ∃ s1, Weak C3 s s1 ∧ rrsWp q3 s1 fun ds => D.closed (oneOrTup ds) = true ∧ (oneOrTup ds).er = d) (St.init C3 args ⟨[], []⟩)) : Pur M 3 args d :=
  pur_of_bodyW (C := C3) (fn := Tryd.f3) Tryd.func3 (by kernel_rfl) (by kernel_rfl) (rc := c3) z3 (rs := q3) zr3 (by kernel_rfl) (by rw [hl]; rfl) (by rw [hl]; decide) rfl rfl h
theorem ok3 {args : List D} {d : D} (hl : args.length = 2) (h : SWp C3 c3 (fun e s => (match e with | .exit _ => False | _ => True) ∧ rrsWp q3 s fun ds => D.closed (oneOrTup ds) = true ∧ (oneOrTup ds).er = d) (St.init C3 args ⟨[], []⟩)) : Pur M 3 args d :=
  pur_of_body (C := C3) (fn := Tryd.f3) Tryd.func3 (by kernel_rfl) (by kernel_rfl) (rc := c3) z3 (rs := q3) zr3 (by kernel_rfl) (by rw [hl]; rfl) (by rw [hl]; decide) rfl rfl h

/- 4 bogie.bogielaw01.DigestForm · 3 arguments · kept slots [0, 1, 2, 6, 7, 8, 9, 18, 24] -/
noncomputable def E4 (n m : Nat) : Cfg := ⟨M, [0, 1, 2, 6, 7, 8, 9, 18, 24], 63, n, m⟩
noncomputable def C4 : Cfg := E4 0 0
@[reducible] noncomputable def r4_0 : List RO := [
  ⟨(.var 3), .mv, [(.con (.bool false))], none⟩]
@[reducible] noncomputable def r4_1 : List RO := [
  ⟨(.loc 10), .call, [(.con (.fn (.func 8) [] []))], none⟩,
  ⟨(.var 4), .mv, [(.loc 10)], none⟩]
@[reducible] noncomputable def r4_2 : List RO := [
  ⟨(.loc 11), .mv, [(.var 0)], none⟩,
  ⟨(.loc 12), .lenS, [(.loc 11)], none⟩,
  ⟨(.loc 13), (.bin .gtr), [(.loc 12), (.con (.int .i64 2000))], none⟩,
  ⟨(.loc 14), .mv, [(.loc 13)], none⟩,
  ⟨(.loc 15), .mv, [(.var 1)], (some ((.loc 14), false))⟩,
  ⟨(.loc 16), .call, [(.con (.fn (.func 9) [] [])), (.loc 15), (.con (.int .i64 200))], (some ((.loc 14), false))⟩,
  ⟨(.loc 17), (.un .not), [(.loc 16)], (some ((.loc 14), false))⟩,
  ⟨(.var 7), .pick, [(.loc 14), (.con (.bool true)), (.loc 17)], none⟩]
@[reducible] noncomputable def r4_3 : List RO := [
  ⟨(.loc 19), .mv, [(.var 4)], none⟩,
  ⟨(.var 3), .mv, [(.loc 19)], none⟩]
@[reducible] noncomputable def r4_4 : List RO := [
  ⟨(.loc 20), .mv, [(.var 0)], none⟩,
  ⟨(.loc 21), .call, [(.con (.fn (.func 10) [] [])), (.loc 20)], none⟩,
  ⟨(.var 5), .mv, [(.loc 21)], none⟩]
@[reducible] noncomputable def r4_5 : List RO := [
  ⟨(.loc 22), .mv, [(.var 5)], none⟩,
  ⟨(.loc 23), .lenS, [(.loc 22)], none⟩,
  ⟨(.var 8), (.bin .neq), [(.loc 23), (.con (.int .i64 16))], none⟩]
@[reducible] noncomputable def r4_6 : List RO := [
  ⟨(.var 3), .mv, [(.con (.bool false))], none⟩]
@[reducible] noncomputable def r4_7 : List RO := [
  ⟨(.loc 25), .mv, [(.var 2)], none⟩,
  ⟨(.loc 26), (.cvI .i64), [(.loc 25)], none⟩,
  ⟨(.loc 27), (.bin .rem), [(.loc 26), (.con (.int .i64 16))], none⟩,
  ⟨(.var 6), .mv, [(.loc 27)], none⟩]
@[reducible] noncomputable def r4_8 : List (RO × Bool) := [
  (⟨(.loc 28), .mv, [(.var 4)], none⟩, true),
  (⟨(.loc 29), .mv, [(.loc 28)], none⟩, true),
  (⟨(.loc 30), .mv, [(.var 5)], (some ((.loc 29), true))⟩, true),
  (⟨(.loc 31), .call, [(.con (.fn (.func 14) [] [])), (.loc 30)], (some ((.loc 29), true))⟩, false),
  (⟨(.loc 32), .pick, [(.loc 29), (.loc 31), (.con (.bool false))], none⟩, true),
  (⟨(.loc 33), .mv, [(.loc 32)], none⟩, true),
  (⟨(.loc 34), .mv, [(.var 1)], (some ((.loc 33), true))⟩, true),
  (⟨(.loc 35), .call, [(.con (.fn (.func 12) [] [])), (.loc 34)], (some ((.loc 33), true))⟩, false),
  (⟨(.loc 36), .call, [(.con (.fn (.func 14) [] [])), (.loc 35)], (some ((.loc 33), true))⟩, false),
  (⟨(.loc 37), .pick, [(.loc 33), (.loc 36), (.con (.bool false))], none⟩, true),
  (⟨(.loc 38), .mv, [(.loc 37)], none⟩, true),
  (⟨(.loc 39), .mv, [(.var 5)], (some ((.loc 38), true))⟩, true),
  (⟨(.loc 40), (.bin .add), [(.loc 39), (.con (.str [48]))], (some ((.loc 38), true))⟩, true),
  (⟨(.loc 41), .call, [(.con (.fn (.func 14) [] [])), (.loc 40)], (some ((.loc 38), true))⟩, false),
  (⟨(.loc 42), (.un .not), [(.loc 41)], (some ((.loc 38), true))⟩, true),
  (⟨(.loc 43), .pick, [(.loc 38), (.loc 42), (.con (.bool false))], none⟩, true),
  (⟨(.loc 44), .mv, [(.loc 43)], none⟩, true),
  (⟨(.loc 45), .mv, [(.var 5)], (some ((.loc 44), true))⟩, true),
  (⟨(.loc 46), (.slcS true false), [(.loc 45), (.con (.int .i64 1))], (some ((.loc 44), true))⟩, true),
  (⟨(.loc 47), .call, [(.con (.fn (.func 14) [] [])), (.loc 46)], (some ((.loc 44), true))⟩, false),
  (⟨(.loc 48), (.un .not), [(.loc 47)], (some ((.loc 44), true))⟩, true),
  (⟨(.loc 49), .pick, [(.loc 44), (.loc 48), (.con (.bool false))], none⟩, true),
  (⟨(.loc 50), .mv, [(.loc 49)], none⟩, true),
  (⟨(.loc 51), .mv, [(.var 5)], (some ((.loc 50), true))⟩, true),
  (⟨(.loc 52), .mv, [(.var 6)], (some ((.loc 50), true))⟩, true),
  (⟨(.loc 53), (.slcS false true), [(.loc 51), (.loc 52)], (some ((.loc 50), true))⟩, true),
  (⟨(.loc 54), (.bin .add), [(.loc 53), (.con (.str [65]))], (some ((.loc 50), true))⟩, true),
  (⟨(.loc 55), .mv, [(.var 5)], (some ((.loc 50), true))⟩, true),
  (⟨(.loc 56), .mv, [(.var 6)], (some ((.loc 50), true))⟩, true),
  (⟨(.loc 57), (.bin .add), [(.loc 56), (.con (.int .i64 1))], (some ((.loc 50), true))⟩, true),
  (⟨(.loc 58), (.slcS true false), [(.loc 55), (.loc 57)], (some ((.loc 50), true))⟩, true)]
@[reducible] noncomputable def r4_9 : List RO := [
  ⟨(.loc 59), (.bin .add), [(.loc 54), (.loc 58)], (some ((.loc 50), true))⟩,
  ⟨(.loc 60), .call, [(.con (.fn (.func 14) [] [])), (.loc 59)], (some ((.loc 50), true))⟩,
  ⟨(.loc 61), (.un .not), [(.loc 60)], (some ((.loc 50), true))⟩,
  ⟨(.loc 62), .pick, [(.loc 50), (.loc 61), (.con (.bool false))], none⟩,
  ⟨(.var 3), .mv, [(.loc 62)], none⟩]
theorem P4 : C4.M = M := by unfold C4 E4; rfl
theorem pe4 {n m : Nat} : (E4 n m).M = M := by unfold E4; rfl
theorem i4 {a0 a1 a2 : D} : St.init C4 [a0, a1, a2] ⟨[], []⟩ = ⟨[a0, a1, a2, .undef, .undef, .undef, .undef, .undef, .undef], [], ⟨[], []⟩⟩ := by unfold C4 E4; rfl
theorem ie4 {n m : Nat} {hp : Hp} {a0 a1 a2 : D} : St.init (E4 n m) [a0, a1, a2] hp = ⟨[a0, a1, a2, .undef, .undef, .undef, .undef, .undef, .undef], [], hp⟩ := by unfold E4; rfl
noncomputable def c4 : RC := (.seq (.reg r4_0) (.seq (.reg r4_1) (.seq (.seq (.reg r4_2) (.cond (.var 7) (.seq (.reg r4_3) .ret) .skip)) (.seq (.reg r4_4) (.seq (.seq (.reg r4_5) (.cond (.var 8) (.seq (.reg r4_6) .ret) .skip)) (.seq (.reg r4_7) (.seq (.regD r4_8 r4_9) .ret)))))))
noncomputable def q4 : List RR := [(.slot (.var 3))]
theorem z4 {n m : Nat} : resCode (E4 n m) (Tryd.f4.body.getD .skip) = some c4 := by kernel_rfl
theorem zr4 {n m : Nat} : resRs (E4 n m) Tryd.f4.results.toList = some q4 := by kernel_rfl
theorem oe4 {args : List D} {hp : Hp} {R : D → Hp → Prop} (n m : Nat) (hl : args.length = 3) (hn : n = hp.H.length) (hm : m = hp.tk.length) (h : SWp (E4 n m) c4 (fun e s => (match e with | .exit _ => False | _ => True) ∧ ∃ s1, Weak (E4 n m) s s1 ∧ rrsWp q4 s1 fun ds => R (oneOrTup ds) s1.hp) (St.init (E4 n m) args hp)) : Eff M 4 args hp R :=
  eff_of_body (C := E4 n m) (fn := Tryd.f4) Tryd.func4 (by kernel_rfl) (by kernel_rfl) (rc := c4) z4 (rs := q4) zr4 (by kernel_rfl) (by rw [hl]; rfl) (by rw [hl]; exact (by decide : 3 ≤ 63)) hn hm h
theorem ow4 {args : List D} {d : D} (hl : args.length = 3) (h : SWp C4 c4 (fun e s => (match e with | .exit _ => False | _ => True) ∧ ∃ s1, Weak C4 s s1 ∧ rrsWp q4 s1 fun ds => D.closed (oneOrTup ds) = true ∧ (oneOrTup ds).er = d) (St.init C4 args ⟨[], []⟩)) : Pur M 4 args d :=
  pur_of_bodyW (C := C4) (fn := Tryd.f4) Tryd.func4 (by kernel_rfl) (by kernel_rfl) (rc := c4) z4 (rs := q4) zr4 (by kernel_rfl) (by rw [hl]; rfl) (by rw [hl]; decide) rfl rfl h
theorem ok4 {args : List D} {d : D} (hl : args.length = 3) (h : SWp C4 c4 (fun e s => (match e with | .exit _ => False | _ => True) ∧ rrsWp q4 s fun ds => D.closed (oneOrTup ds) = true ∧ (oneOrTup ds).er = d) (St.init C4 args ⟨[], []⟩)) : Pur M 4 args d :=
  pur_of_body (C := C4) (fn := Tryd.f4) Tryd.func4 (by kernel_rfl) (by kernel_rfl) (rc := c4) z4 (rs := q4) zr4 (by kernel_rfl) (by rw [hl]; rfl) (by rw [hl]; decide) rfl rfl h

/- 5 bogie.bogielaw01.DigestShort · 2 arguments · kept slots [0, 1, 4, 5] -/
noncomputable def E5 (n m : Nat) : Cfg := ⟨M, [0, 1, 4, 5], 29, n, m⟩
noncomputable def C5 : Cfg := E5 0 0
@[reducible] noncomputable def r5_0 : List RO := [
  ⟨(.var 2), .mv, [(.con (.bool false))], none⟩]
@[reducible] noncomputable def r5_1 : List RO := [
  ⟨(.loc 6), .call, [(.con (.fn (.func 8) [] []))], none⟩,
  ⟨(.var 3), .mv, [(.loc 6)], none⟩]
@[reducible] noncomputable def r5_2 : List RO := [
  ⟨(.loc 7), .mv, [(.var 0)], none⟩,
  ⟨(.loc 8), .mv, [(.var 0)], none⟩,
  ⟨(.loc 9), .lenS, [(.loc 8)], none⟩,
  ⟨(.loc 10), .minI, [(.loc 9), (.con (.int .i64 7))], none⟩,
  ⟨(.loc 11), (.slcS false true), [(.loc 7), (.loc 10)], none⟩,
  ⟨(.var 0), .mv, [(.loc 11)], none⟩]
@[reducible] noncomputable def r5_3 : List RO := [
  ⟨(.loc 12), .mv, [(.var 1)], none⟩,
  ⟨(.loc 13), .mv, [(.var 1)], none⟩,
  ⟨(.loc 14), .lenS, [(.loc 13)], none⟩,
  ⟨(.loc 15), .minI, [(.loc 14), (.con (.int .i64 7))], none⟩,
  ⟨(.loc 16), (.slcS false true), [(.loc 12), (.loc 15)], none⟩,
  ⟨(.var 1), .mv, [(.loc 16)], none⟩]
@[reducible] noncomputable def r5_4 : List RO := [
  ⟨(.loc 17), .mv, [(.var 3)], none⟩,
  ⟨(.loc 18), .mv, [(.loc 17)], none⟩,
  ⟨(.loc 19), .mv, [(.var 0)], (some ((.loc 18), true))⟩,
  ⟨(.loc 20), .call, [(.con (.fn (.func 10) [] [])), (.loc 19)], (some ((.loc 18), true))⟩,
  ⟨(.loc 21), .mv, [(.var 1)], (some ((.loc 18), true))⟩,
  ⟨(.loc 22), .call, [(.con (.fn (.func 10) [] [])), (.loc 21)], (some ((.loc 18), true))⟩,
  ⟨(.loc 23), (.bin .eql), [(.loc 20), (.loc 22)], (some ((.loc 18), true))⟩,
  ⟨(.loc 24), .mv, [(.var 0)], (some ((.loc 18), true))⟩,
  ⟨(.loc 25), .mv, [(.var 1)], (some ((.loc 18), true))⟩,
  ⟨(.loc 26), (.bin .eql), [(.loc 24), (.loc 25)], (some ((.loc 18), true))⟩,
  ⟨(.loc 27), (.eqB false), [(.loc 23), (.loc 26)], (some ((.loc 18), true))⟩,
  ⟨(.loc 28), .pick, [(.loc 18), (.loc 27), (.con (.bool false))], none⟩,
  ⟨(.var 2), .mv, [(.loc 28)], none⟩]
theorem P5 : C5.M = M := by unfold C5 E5; rfl
theorem pe5 {n m : Nat} : (E5 n m).M = M := by unfold E5; rfl
theorem i5 {a0 a1 : D} : St.init C5 [a0, a1] ⟨[], []⟩ = ⟨[a0, a1, .undef, .undef], [], ⟨[], []⟩⟩ := by unfold C5 E5; rfl
theorem ie5 {n m : Nat} {hp : Hp} {a0 a1 : D} : St.init (E5 n m) [a0, a1] hp = ⟨[a0, a1, .undef, .undef], [], hp⟩ := by unfold E5; rfl
noncomputable def c5 : RC := (.seq (.reg r5_0) (.seq (.reg r5_1) (.seq (.reg r5_2) (.seq (.reg r5_3) (.seq (.reg r5_4) .ret)))))
noncomputable def q5 : List RR := [(.slot (.var 2))]
theorem z5 {n m : Nat} : resCode (E5 n m) (Tryd.f5.body.getD .skip) = some c5 := by kernel_rfl
theorem zr5 {n m : Nat} : resRs (E5 n m) Tryd.f5.results.toList = some q5 := by kernel_rfl
theorem oe5 {args : List D} {hp : Hp} {R : D → Hp → Prop} (n m : Nat) (hl : args.length = 2) (hn : n = hp.H.length) (hm : m = hp.tk.length) (h : SWp (E5 n m) c5 (fun e s => (match e with | .exit _ => False | _ => True) ∧ ∃ s1, Weak (E5 n m) s s1 ∧ rrsWp q5 s1 fun ds => R (oneOrTup ds) s1.hp) (St.init (E5 n m) args hp)) : Eff M 5 args hp R :=
  eff_of_body (C := E5 n m) (fn := Tryd.f5) Tryd.func5 (by kernel_rfl) (by kernel_rfl) (rc := c5) z5 (rs := q5) zr5 (by kernel_rfl) (by rw [hl]; rfl) (by rw [hl]; exact (by decide : 2 ≤ 29)) hn hm h
theorem ow5 {args : List D} {d : D} (hl : args.length = 2) (h : SWp C5 c5 (fun e s => (match e with | .exit _ => False | _ => True) ∧ ∃ s1, Weak C5 s s1 ∧ rrsWp q5 s1 fun ds => D.closed (oneOrTup ds) = true ∧ (oneOrTup ds).er = d) (St.init C5 args ⟨[], []⟩)) : Pur M 5 args d :=
  pur_of_bodyW (C := C5) (fn := Tryd.f5) Tryd.func5 (by kernel_rfl) (by kernel_rfl) (rc := c5) z5 (rs := q5) zr5 (by kernel_rfl) (by rw [hl]; rfl) (by rw [hl]; decide) rfl rfl h
theorem ok5 {args : List D} {d : D} (hl : args.length = 2) (h : SWp C5 c5 (fun e s => (match e with | .exit _ => False | _ => True) ∧ rrsWp q5 s fun ds => D.closed (oneOrTup ds) = true ∧ (oneOrTup ds).er = d) (St.init C5 args ⟨[], []⟩)) : Pur M 5 args d :=
  pur_of_body (C := C5) (fn := Tryd.f5) Tryd.func5 (by kernel_rfl) (by kernel_rfl) (rc := c5) z5 (rs := q5) zr5 (by kernel_rfl) (by rw [hl]; rfl) (by rw [hl]; decide) rfl rfl h

/- 6 bogie.bogielaw01.DigestBlock · 4 arguments · kept slots [0, 1, 2, 3, 8, 9, 10, 11, 12, 36] -/
noncomputable def E6 (n m : Nat) : Cfg := ⟨M, [0, 1, 2, 3, 8, 9, 10, 11, 12, 36], 70, n, m⟩
noncomputable def C6 : Cfg := E6 0 0
@[reducible] noncomputable def r6_0 : List RO := [
  ⟨(.var 4), .mv, [(.con (.bool false))], none⟩]
@[reducible] noncomputable def r6_1 : List RO := [
  ⟨(.loc 13), .call, [(.con (.fn (.func 8) [] []))], none⟩,
  ⟨(.var 5), .mv, [(.loc 13)], none⟩]
@[reducible] noncomputable def r6_2 : List RO := [
  ⟨(.loc 14), .mv, [(.var 2)], none⟩,
  ⟨(.loc 15), .lenS, [(.loc 14)], none⟩,
  ⟨(.loc 16), .mv, [(.var 3)], none⟩,
  ⟨(.loc 17), .lenS, [(.loc 16)], none⟩,
  ⟨(.loc 18), .minI, [(.loc 15), (.loc 17), (.con (.int .i64 8))], none⟩,
  ⟨(.var 6), .mv, [(.loc 18)], none⟩]
@[reducible] noncomputable def r6_3 : List RO := [
  ⟨(.loc 19), .mv, [(.var 2)], none⟩,
  ⟨(.loc 20), .mv, [(.var 6)], none⟩,
  ⟨(.loc 21), (.slcS false true), [(.loc 19), (.loc 20)], none⟩,
  ⟨(.var 2), .mv, [(.loc 21)], none⟩]
@[reducible] noncomputable def r6_4 : List RO := [
  ⟨(.loc 22), .mv, [(.var 3)], none⟩,
  ⟨(.loc 23), .mv, [(.var 6)], none⟩,
  ⟨(.loc 24), (.slcS false true), [(.loc 22), (.loc 23)], none⟩,
  ⟨(.var 3), .mv, [(.loc 24)], none⟩]
@[reducible] noncomputable def r6_5 : List RO := [
  ⟨(.loc 25), .mv, [(.var 1)], none⟩,
  ⟨(.loc 26), (.cvI .i64), [(.loc 25)], none⟩,
  ⟨(.loc 27), (.bin .mul), [(.con (.int .i64 8)), (.loc 26)], none⟩,
  ⟨(.var 7), .mv, [(.loc 27)], none⟩]
@[reducible] noncomputable def r6_6 : List RO := [
  ⟨(.loc 28), .mv, [(.var 0)], none⟩,
  ⟨(.loc 29), .lenS, [(.loc 28)], none⟩,
  ⟨(.loc 30), (.bin .gtr), [(.loc 29), (.con (.int .i64 2000))], none⟩,
  ⟨(.loc 31), .mv, [(.loc 30)], none⟩,
  ⟨(.loc 32), .mv, [(.var 7)], (some ((.loc 31), false))⟩,
  ⟨(.loc 33), .mv, [(.var 0)], (some ((.loc 31), false))⟩,
  ⟨(.loc 34), .lenS, [(.loc 33)], (some ((.loc 31), false))⟩,
  ⟨(.loc 35), (.bin .gtr), [(.loc 32), (.loc 34)], (some ((.loc 31), false))⟩,
  ⟨(.var 9), .pick, [(.loc 31), (.con (.bool true)), (.loc 35)], none⟩]
@[reducible] noncomputable def r6_7 : List RO := [
  ⟨(.loc 37), .mv, [(.var 5)], none⟩,
  ⟨(.var 4), .mv, [(.loc 37)], none⟩]
@[reducible] noncomputable def r6_8 : List RO := [
  ⟨(.loc 38), .mv, [(.var 0)], none⟩,
  ⟨(.loc 39), .mv, [(.var 7)], none⟩,
  ⟨(.loc 40), .mv, [(.var 6)], none⟩,
  ⟨(.loc 41), (.bin .add), [(.loc 39), (.loc 40)], none⟩,
  ⟨(.loc 42), .mv, [(.var 0)], none⟩,
  ⟨(.loc 43), .lenS, [(.loc 42)], none⟩,
  ⟨(.loc 44), .minI, [(.loc 41), (.loc 43)], none⟩,
  ⟨(.loc 45), (.slcS true false), [(.loc 38), (.loc 44)], none⟩,
  ⟨(.var 8), .mv, [(.loc 45)], none⟩]
@[reducible] noncomputable def r6_9 : List (RO × Bool) := [
  (⟨(.loc 46), .mv, [(.var 5)], none⟩, true),
  (⟨(.loc 47), .mv, [(.loc 46)], none⟩, true),
  (⟨(.loc 48), .mv, [(.var 0)], (some ((.loc 47), true))⟩, true),
  (⟨(.loc 49), .mv, [(.var 7)], (some ((.loc 47), true))⟩, true),
  (⟨(.loc 50), (.slcS false true), [(.loc 48), (.loc 49)], (some ((.loc 47), true))⟩, true),
  (⟨(.loc 51), .mv, [(.var 2)], (some ((.loc 47), true))⟩, true),
  (⟨(.loc 52), (.bin .add), [(.loc 50), (.loc 51)], (some ((.loc 47), true))⟩, true),
  (⟨(.loc 53), .mv, [(.var 8)], (some ((.loc 47), true))⟩, true),
  (⟨(.loc 54), (.bin .add), [(.loc 52), (.loc 53)], (some ((.loc 47), true))⟩, true),
  (⟨(.loc 55), .call, [(.con (.fn (.func 10) [] [])), (.loc 54)], (some ((.loc 47), true))⟩, false),
  (⟨(.loc 56), .mv, [(.var 0)], (some ((.loc 47), true))⟩, true),
  (⟨(.loc 57), .mv, [(.var 7)], (some ((.loc 47), true))⟩, true),
  (⟨(.loc 58), (.slcS false true), [(.loc 56), (.loc 57)], (some ((.loc 47), true))⟩, true),
  (⟨(.loc 59), .mv, [(.var 3)], (some ((.loc 47), true))⟩, true),
  (⟨(.loc 60), (.bin .add), [(.loc 58), (.loc 59)], (some ((.loc 47), true))⟩, true),
  (⟨(.loc 61), .mv, [(.var 8)], (some ((.loc 47), true))⟩, true),
  (⟨(.loc 62), (.bin .add), [(.loc 60), (.loc 61)], (some ((.loc 47), true))⟩, true),
  (⟨(.loc 63), .call, [(.con (.fn (.func 10) [] [])), (.loc 62)], (some ((.loc 47), true))⟩, false),
  (⟨(.loc 64), (.bin .eql), [(.loc 55), (.loc 63)], (some ((.loc 47), true))⟩, true),
  (⟨(.loc 65), .mv, [(.var 2)], (some ((.loc 47), true))⟩, true),
  (⟨(.loc 66), .mv, [(.var 3)], (some ((.loc 47), true))⟩, true),
  (⟨(.loc 67), (.bin .eql), [(.loc 65), (.loc 66)], (some ((.loc 47), true))⟩, true)]
@[reducible] noncomputable def r6_10 : List RO := [
  ⟨(.loc 68), (.eqB false), [(.loc 64), (.loc 67)], (some ((.loc 47), true))⟩,
  ⟨(.loc 69), .pick, [(.loc 47), (.loc 68), (.con (.bool false))], none⟩,
  ⟨(.var 4), .mv, [(.loc 69)], none⟩]
theorem P6 : C6.M = M := by unfold C6 E6; rfl
theorem pe6 {n m : Nat} : (E6 n m).M = M := by unfold E6; rfl
theorem i6 {a0 a1 a2 a3 : D} : St.init C6 [a0, a1, a2, a3] ⟨[], []⟩ = ⟨[a0, a1, a2, a3, .undef, .undef, .undef, .undef, .undef, .undef], [], ⟨[], []⟩⟩ := by unfold C6 E6; rfl
theorem ie6 {n m : Nat} {hp : Hp} {a0 a1 a2 a3 : D} : St.init (E6 n m) [a0, a1, a2, a3] hp = ⟨[a0, a1, a2, a3, .undef, .undef, .undef, .undef, .undef, .undef], [], hp⟩ := by unfold E6; rfl
noncomputable def c6 : RC := (.seq (.reg r6_0) (.seq (.reg r6_1) (.seq (.reg r6_2) (.seq (.reg r6_3) (.seq (.reg r6_4) (.seq (.reg r6_5) (.seq (.seq (.reg r6_6) (.cond (.var 9) (.seq (.reg r6_7) .ret) .skip)) (.seq (.reg r6_8) (.seq (.regD r6_9 r6_10) .ret)))))))))
noncomputable def q6 : List RR := [(.slot (.var 4))]
theorem z6 {n m : Nat} : resCode (E6 n m) (Tryd.f6.body.getD .skip) = some c6 := by kernel_rfl
theorem zr6 {n m : Nat} : resRs (E6 n m) Tryd.f6.results.toList = some q6 := by kernel_rfl
theorem oe6 {args : List D} {hp : Hp} {R : D → Hp → Prop} (n m : Nat) (hl : args.length = 4) (hn : n = hp.H.length) (hm : m = hp.tk.length) (h : SWp (E6 n m) c6 (fun e s => (match e with | .exit _ => False | _ => True) ∧ ∃ s1, Weak (E6 n m) s s1 ∧ rrsWp q6 s1 fun ds => R (oneOrTup ds) s1.hp) (St.init (E6 n m) args hp)) : Eff M 6 args hp R :=
  eff_of_body (C := E6 n m) (fn := Tryd.f6) Tryd.func6 (by kernel_rfl) (by kernel_rfl) (rc := c6) z6 (rs := q6) zr6 (by kernel_rfl) (by rw [hl]; rfl) (by rw [hl]; exact (by decide : 4 ≤ 70)) hn hm h
theorem ow6 {args : List D} {d : D} (hl : args.length = 4) (h : SWp C6 c6 (fun e s => (match e with | .exit _ => False | _ => True) ∧ ∃ s1, Weak C6 s s1 ∧ rrsWp q6 s1 fun ds => D.closed (oneOrTup ds) = true ∧ (oneOrTup ds).er = d) (St.init C6 args ⟨[], []⟩)) : Pur M 6 args d :=
  pur_of_bodyW (C := C6) (fn := Tryd.f6) Tryd.func6 (by kernel_rfl) (by kernel_rfl) (rc := c6) z6 (rs := q6) zr6 (by kernel_rfl) (by rw [hl]; rfl) (by rw [hl]; decide) rfl rfl h
theorem ok6 {args : List D} {d : D} (hl : args.length = 4) (h : SWp C6 c6 (fun e s => (match e with | .exit _ => False | _ => True) ∧ rrsWp q6 s fun ds => D.closed (oneOrTup ds) = true ∧ (oneOrTup ds).er = d) (St.init C6 args ⟨[], []⟩)) : Pur M 6 args d :=
  pur_of_body (C := C6) (fn := Tryd.f6) Tryd.func6 (by kernel_rfl) (by kernel_rfl) (rc := c6) z6 (rs := q6) zr6 (by kernel_rfl) (by rw [hl]; rfl) (by rw [hl]; decide) rfl rfl h

/- 7 bogie.bogielaw01.DigestLists · 4 arguments · kept slots [0, 1, 2, 3, 8, 9, 10, 11, 12, 21, 40, 59] -/
noncomputable def E7 (n m : Nat) : Cfg := ⟨M, [0, 1, 2, 3, 8, 9, 10, 11, 12, 21, 40, 59], 92, n, m⟩
noncomputable def C7 : Cfg := E7 0 0
@[reducible] noncomputable def r7_0 : List RO := [
  ⟨(.var 4), .mv, [(.con (.bool false))], none⟩]
@[reducible] noncomputable def r7_1 : List RO := [
  ⟨(.loc 13), .call, [(.con (.fn (.func 8) [] []))], none⟩,
  ⟨(.var 5), .mv, [(.loc 13)], none⟩]
@[reducible] noncomputable def r7_2 : List RO := [
  ⟨(.loc 14), .mv, [(.var 0)], none⟩,
  ⟨(.loc 15), .call, [(.con (.fn (.func 9) [] [])), (.loc 14), (.con (.int .i64 200))], none⟩,
  ⟨(.loc 16), (.un .not), [(.loc 15)], none⟩,
  ⟨(.loc 17), .mv, [(.loc 16)], none⟩,
  ⟨(.loc 18), .mv, [(.var 1)], (some ((.loc 17), false))⟩,
  ⟨(.loc 19), .call, [(.con (.fn (.func 9) [] [])), (.loc 18), (.con (.int .i64 200))], (some ((.loc 17), false))⟩,
  ⟨(.loc 20), (.un .not), [(.loc 19)], (some ((.loc 17), false))⟩,
  ⟨(.var 9), .pick, [(.loc 17), (.con (.bool true)), (.loc 20)], none⟩]
@[reducible] noncomputable def r7_3 : List RO := [
  ⟨(.loc 22), .mv, [(.var 5)], none⟩,
  ⟨(.var 4), .mv, [(.loc 22)], none⟩]
@[reducible] noncomputable def r7_4 : List RO := [
  ⟨(.loc 23), .mv, [(.var 0)], none⟩,
  ⟨(.loc 24), .call, [(.con (.fn (.func 16) [] [])), (.loc 23)], none⟩,
  ⟨(.var 6), .mv, [(.loc 24)], none⟩]
@[reducible] noncomputable def r7_5 : List RO := [
  ⟨(.loc 25), .mv, [(.var 1)], none⟩,
  ⟨(.loc 26), .call, [(.con (.fn (.func 16) [] [])), (.loc 25)], none⟩,
  ⟨(.var 7), .mv, [(.loc 26)], none⟩]
@[reducible] noncomputable def r7_6 : List RO := [
  ⟨(.loc 27), .mv, [(.var 0)], none⟩,
  ⟨(.loc 28), .call, [(.con (.fn (.func 12) [] [])), (.loc 27)], none⟩,
  ⟨(.loc 29), .mv, [(.var 6)], none⟩,
  ⟨(.loc 30), .call, [(.con (.fn (.func 10) [] [])), (.loc 29)], none⟩,
  ⟨(.loc 31), (.bin .neq), [(.loc 28), (.loc 30)], none⟩,
  ⟨(.loc 32), .mv, [(.loc 31)], none⟩,
  ⟨(.loc 33), .mv, [(.var 6)], (some ((.loc 32), false))⟩,
  ⟨(.loc 34), .mv, [(.var 7)], (some ((.loc 32), false))⟩,
  ⟨(.loc 35), (.bin .eql), [(.loc 33), (.loc 34)], (some ((.loc 32), false))⟩,
  ⟨(.loc 36), .mv, [(.var 0)], (some ((.loc 32), false))⟩,
  ⟨(.loc 37), .mv, [(.var 1)], (some ((.loc 32), false))⟩,
  ⟨(.loc 38), .call, [(.con (.fn (.func 17) [] [])), (.loc 36), (.loc 37)], (some ((.loc 32), false))⟩,
  ⟨(.loc 39), (.eqB true), [(.loc 35), (.loc 38)], (some ((.loc 32), false))⟩,
  ⟨(.var 10), .pick, [(.loc 32), (.con (.bool true)), (.loc 39)], none⟩]
@[reducible] noncomputable def r7_7 : List RO := [
  ⟨(.var 4), .mv, [(.con (.bool false))], none⟩]
@[reducible] noncomputable def r7_8 : List RO := [
  ⟨(.loc 41), .mv, [(.var 6)], none⟩,
  ⟨(.loc 42), .lenS, [(.loc 41)], none⟩,
  ⟨(.loc 43), (.bin .leq), [(.loc 42), (.con (.int .i64 7))], none⟩,
  ⟨(.loc 44), .mv, [(.loc 43)], none⟩,
  ⟨(.loc 45), .mv, [(.var 7)], (some ((.loc 44), true))⟩,
  ⟨(.loc 46), .lenS, [(.loc 45)], (some ((.loc 44), true))⟩,
  ⟨(.loc 47), (.bin .leq), [(.loc 46), (.con (.int .i64 7))], (some ((.loc 44), true))⟩,
  ⟨(.loc 48), .pick, [(.loc 44), (.loc 47), (.con (.bool false))], none⟩,
  ⟨(.loc 49), .mv, [(.loc 48)], none⟩,
  ⟨(.loc 50), .mv, [(.var 0)], (some ((.loc 49), true))⟩,
  ⟨(.loc 51), .call, [(.con (.fn (.func 12) [] [])), (.loc 50)], (some ((.loc 49), true))⟩,
  ⟨(.loc 52), .mv, [(.var 1)], (some ((.loc 49), true))⟩,
  ⟨(.loc 53), .call, [(.con (.fn (.func 12) [] [])), (.loc 52)], (some ((.loc 49), true))⟩,
  ⟨(.loc 54), (.bin .eql), [(.loc 51), (.loc 53)], (some ((.loc 49), true))⟩,
  ⟨(.loc 55), .mv, [(.var 0)], (some ((.loc 49), true))⟩,
  ⟨(.loc 56), .mv, [(.var 1)], (some ((.loc 49), true))⟩,
  ⟨(.loc 57), .call, [(.con (.fn (.func 17) [] [])), (.loc 55), (.loc 56)], (some ((.loc 49), true))⟩,
  ⟨(.loc 58), (.eqB true), [(.loc 54), (.loc 57)], (some ((.loc 49), true))⟩,
  ⟨(.var 11), .pick, [(.loc 49), (.loc 58), (.con (.bool false))], none⟩]
@[reducible] noncomputable def r7_9 : List RO := [
  ⟨(.var 4), .mv, [(.con (.bool false))], none⟩]
@[reducible] noncomputable def r7_10 : List RO := [
  ⟨(.loc 60), .mv, [(.var 2)], none⟩,
  ⟨(.loc 61), .lenS, [(.loc 60)], none⟩,
  ⟨(.loc 62), .mv, [(.var 3)], none⟩,
  ⟨(.loc 63), .lenS, [(.loc 62)], none⟩,
  ⟨(.loc 64), .minI, [(.loc 61), (.loc 63), (.con (.int .i64 9))], none⟩,
  ⟨(.var 8), .mv, [(.loc 64)], none⟩]
@[reducible] noncomputable def r7_11 : List RO := [
  ⟨(.loc 65), .mv, [(.var 2)], none⟩,
  ⟨(.loc 66), .mv, [(.var 8)], none⟩,
  ⟨(.loc 67), (.slcS false true), [(.loc 65), (.loc 66)], none⟩,
  ⟨(.var 2), .mv, [(.loc 67)], none⟩]
@[reducible] noncomputable def r7_12 : List (RO × Bool) := [
  (⟨(.loc 68), .mv, [(.var 2)], none⟩, true),
  (⟨(.loc 69), .mv, [(.var 8)], none⟩, true),
  (⟨(.loc 70), .minI, [(.loc 69), (.con (.int .i64 6))], none⟩, true),
  (⟨(.loc 71), (.slcS false true), [(.loc 68), (.loc 70)], none⟩, true),
  (⟨(.loc 72), .mv, [(.var 3)], none⟩, true),
  (⟨(.loc 73), .mv, [(.var 8)], none⟩, true),
  (⟨(.loc 74), .minI, [(.loc 73), (.con (.int .i64 6))], none⟩, true),
  (⟨(.loc 75), .mv, [(.var 8)], none⟩, true),
  (⟨(.loc 76), (.slcS true true), [(.loc 72), (.loc 74), (.loc 75)], none⟩, true)]
@[reducible] noncomputable def r7_13 : List RO := [
  ⟨(.loc 77), (.bin .add), [(.loc 71), (.loc 76)], none⟩,
  ⟨(.var 3), .mv, [(.loc 77)], none⟩]
@[reducible] noncomputable def r7_14 : List RO := [
  ⟨(.loc 78), .mv, [(.var 5)], none⟩,
  ⟨(.loc 79), .mv, [(.loc 78)], none⟩,
  ⟨(.loc 80), .mv, [(.var 2)], (some ((.loc 79), true))⟩,
  ⟨(.loc 81), (.bsl 1), [(.loc 80)], (some ((.loc 79), true))⟩,
  ⟨(.loc 82), .call, [(.con (.fn (.func 12) [] [])), (.loc 81)], (some ((.loc 79), true))⟩,
  ⟨(.loc 83), .mv, [(.var 3)], (some ((.loc 79), true))⟩,
  ⟨(.loc 84), (.bsl 1), [(.loc 83)], (some ((.loc 79), true))⟩,
  ⟨(.loc 85), .call, [(.con (.fn (.func 12) [] [])), (.loc 84)], (some ((.loc 79), true))⟩,
  ⟨(.loc 86), (.bin .eql), [(.loc 82), (.loc 85)], (some ((.loc 79), true))⟩,
  ⟨(.loc 87), .mv, [(.var 2)], (some ((.loc 79), true))⟩,
  ⟨(.loc 88), .mv, [(.var 3)], (some ((.loc 79), true))⟩,
  ⟨(.loc 89), (.bin .eql), [(.loc 87), (.loc 88)], (some ((.loc 79), true))⟩,
  ⟨(.loc 90), (.eqB false), [(.loc 86), (.loc 89)], (some ((.loc 79), true))⟩,
  ⟨(.loc 91), .pick, [(.loc 79), (.loc 90), (.con (.bool false))], none⟩,
  ⟨(.var 4), .mv, [(.loc 91)], none⟩]
theorem P7 : C7.M = M := by unfold C7 E7; rfl
theorem pe7 {n m : Nat} : (E7 n m).M = M := by unfold E7; rfl
theorem i7 {a0 a1 a2 a3 : D} : St.init C7 [a0, a1, a2, a3] ⟨[], []⟩ = ⟨[a0, a1, a2, a3, .undef, .undef, .undef, .undef, .undef, .undef, .undef, .undef], [], ⟨[], []⟩⟩ := by unfold C7 E7; rfl
theorem ie7 {n m : Nat} {hp : Hp} {a0 a1 a2 a3 : D} : St.init (E7 n m) [a0, a1, a2, a3] hp = ⟨[a0, a1, a2, a3, .undef, .undef, .undef, .undef, .undef, .undef, .undef, .undef], [], hp⟩ := by unfold E7; rfl
noncomputable def c7 : RC := (.seq (.reg r7_0) (.seq (.reg r7_1) (.seq (.seq (.reg r7_2) (.cond (.var 9) (.seq (.reg r7_3) .ret) .skip)) (.seq (.reg r7_4) (.seq (.reg r7_5) (.seq (.seq (.reg r7_6) (.cond (.var 10) (.seq (.reg r7_7) .ret) .skip)) (.seq (.seq (.reg r7_8) (.cond (.var 11) (.seq (.reg r7_9) .ret) .skip)) (.seq (.reg r7_10) (.seq (.reg r7_11) (.seq (.regD r7_12 r7_13) (.seq (.reg r7_14) .ret)))))))))))
noncomputable def q7 : List RR := [(.slot (.var 4))]
theorem z7 {n m : Nat} : resCode (E7 n m) (Tryd.f7.body.getD .skip) = some c7 := by kernel_rfl
theorem zr7 {n m : Nat} : resRs (E7 n m) Tryd.f7.results.toList = some q7 := by kernel_rfl
theorem oe7 {args : List D} {hp : Hp} {R : D → Hp → Prop} (n m : Nat) (hl : args.length = 4) (hn : n = hp.H.length) (hm : m = hp.tk.length) (h : SWp (E7 n m) c7 (fun e s => (match e with | .exit _ => False | _ => True) ∧ ∃ s1, Weak (E7 n m) s s1 ∧ rrsWp q7 s1 fun ds => R (oneOrTup ds) s1.hp) (St.init (E7 n m) args hp)) : Eff M 7 args hp R :=
  eff_of_body (C := E7 n m) (fn := Tryd.f7) Tryd.func7 (by kernel_rfl) (by kernel_rfl) (rc := c7) z7 (rs := q7) zr7 (by kernel_rfl) (by rw [hl]; rfl) (by rw [hl]; exact (by decide : 4 ≤ 92)) hn hm h
theorem ow7 {args : List D} {d : D} (hl : args.length = 4) (h : SWp C7 c7 (fun e s => (match e with | .exit _ => False | _ => True) ∧ ∃ s1, Weak C7 s s1 ∧ rrsWp q7 s1 fun ds => D.closed (oneOrTup ds) = true ∧ (oneOrTup ds).er = d) (St.init C7 args ⟨[], []⟩)) : Pur M 7 args d :=
  pur_of_bodyW (C := C7) (fn := Tryd.f7) Tryd.func7 (by kernel_rfl) (by kernel_rfl) (rc := c7) z7 (rs := q7) zr7 (by kernel_rfl) (by rw [hl]; rfl) (by rw [hl]; decide) rfl rfl h
theorem ok7 {args : List D} {d : D} (hl : args.length = 4) (h : SWp C7 c7 (fun e s => (match e with | .exit _ => False | _ => True) ∧ rrsWp q7 s fun ds => D.closed (oneOrTup ds) = true ∧ (oneOrTup ds).er = d) (St.init C7 args ⟨[], []⟩)) : Pur M 7 args d :=
  pur_of_body (C := C7) (fn := Tryd.f7) Tryd.func7 (by kernel_rfl) (by kernel_rfl) (rc := c7) z7 (rs := q7) zr7 (by kernel_rfl) (by rw [hl]; rfl) (by rw [hl]; decide) rfl rfl h

/- 8 bogie.bogielaw01.head · 0 arguments · kept slots [0, 1] -/
noncomputable def E8 (n m : Nat) : Cfg := ⟨M, [0, 1], 28, n, m⟩
noncomputable def C8 : Cfg := E8 0 0
@[reducible] noncomputable def r8_0 : List RO := [
  ⟨(.var 0), .mv, [(.con (.bool false))], none⟩]
@[reducible] noncomputable def r8_1 : List RO := [
  ⟨(.loc 2), .call, [(.con (.fn (.func 14) [] [])), (.con (.str [48, 49, 50, 51, 52, 53, 54, 55, 56, 57, 97, 98, 99, 100, 101, 102]))], none⟩,
  ⟨(.loc 3), .mv, [(.loc 2)], none⟩,
  ⟨(.loc 4), .call, [(.con (.fn (.func 14) [] [])), (.con (.str [48, 49, 50, 51, 52, 53, 54, 55, 56, 57, 97, 98, 99, 100, 101, 70]))], (some ((.loc 3), true))⟩,
  ⟨(.loc 5), (.un .not), [(.loc 4)], (some ((.loc 3), true))⟩,
  ⟨(.loc 6), .pick, [(.loc 3), (.loc 5), (.con (.bool false))], none⟩,
  ⟨(.loc 7), .mv, [(.loc 6)], none⟩,
  ⟨(.loc 8), .call, [(.con (.fn (.func 14) [] [])), (.con (.str []))], (some ((.loc 7), true))⟩,
  ⟨(.loc 9), (.un .not), [(.loc 8)], (some ((.loc 7), true))⟩,
  ⟨(.loc 10), .pick, [(.loc 7), (.loc 9), (.con (.bool false))], none⟩,
  ⟨(.var 1), .mv, [(.loc 10)], none⟩]
@[reducible] noncomputable def r8_2 : List RO := [
  ⟨(.loc 11), .mv, [(.var 1)], none⟩,
  ⟨(.loc 12), .mv, [(.loc 11)], none⟩,
  ⟨(.loc 13), (.bsl 1), [(.con (.str [97])), (.con (.str [98, 99]))], (some ((.loc 12), true))⟩,
  ⟨(.loc 14), .call, [(.con (.fn (.func 12) [] [])), (.loc 13)], (some ((.loc 12), true))⟩,
  ⟨(.loc 15), .call, [(.con (.fn (.func 10) [] [])), (.con (.str [49, 58, 97, 50, 58, 98, 99]))], (some ((.loc 12), true))⟩,
  ⟨(.loc 16), (.bin .eql), [(.loc 14), (.loc 15)], (some ((.loc 12), true))⟩,
  ⟨(.loc 17), .pick, [(.loc 12), (.loc 16), (.con (.bool false))], none⟩,
  ⟨(.loc 18), .mv, [(.loc 17)], none⟩,
  ⟨(.loc 19), .call, [(.con (.fn (.func 10) [] [])), (.con (.str []))], (some ((.loc 18), true))⟩,
  ⟨(.loc 20), .call, [(.con (.fn (.func 10) [] [])), (.con (.str [0]))], (some ((.loc 18), true))⟩,
  ⟨(.loc 21), (.bin .neq), [(.loc 19), (.loc 20)], (some ((.loc 18), true))⟩,
  ⟨(.loc 22), .pick, [(.loc 18), (.loc 21), (.con (.bool false))], none⟩,
  ⟨(.loc 23), .mv, [(.loc 22)], none⟩,
  ⟨(.loc 24), .call, [(.con (.fn (.func 10) [] [])), (.con (.str [1]))], (some ((.loc 23), true))⟩,
  ⟨(.loc 25), .call, [(.con (.fn (.func 10) [] [])), (.con (.str []))], (some ((.loc 23), true))⟩,
  ⟨(.loc 26), (.bin .neq), [(.loc 24), (.loc 25)], (some ((.loc 23), true))⟩,
  ⟨(.loc 27), .pick, [(.loc 23), (.loc 26), (.con (.bool false))], none⟩,
  ⟨(.var 0), .mv, [(.loc 27)], none⟩]
theorem P8 : C8.M = M := by unfold C8 E8; rfl
theorem pe8 {n m : Nat} : (E8 n m).M = M := by unfold E8; rfl
theorem i8 : St.init C8 [] ⟨[], []⟩ = ⟨[.undef, .undef], [], ⟨[], []⟩⟩ := by unfold C8 E8; rfl
theorem ie8 {n m : Nat} {hp : Hp} : St.init (E8 n m) [] hp = ⟨[.undef, .undef], [], hp⟩ := by unfold E8; rfl
noncomputable def c8 : RC := (.seq (.reg r8_0) (.seq (.reg r8_1) (.seq (.reg r8_2) .ret)))
noncomputable def q8 : List RR := [(.slot (.var 0))]
theorem z8 {n m : Nat} : resCode (E8 n m) (Tryd.f8.body.getD .skip) = some c8 := by kernel_rfl
theorem zr8 {n m : Nat} : resRs (E8 n m) Tryd.f8.results.toList = some q8 := by kernel_rfl
theorem oe8 {args : List D} {hp : Hp} {R : D → Hp → Prop} (n m : Nat) (hl : args.length = 0) (hn : n = hp.H.length) (hm : m = hp.tk.length) (h : SWp (E8 n m) c8 (fun e s => (match e with | .exit _ => False | _ => True) ∧ ∃ s1, Weak (E8 n m) s s1 ∧ rrsWp q8 s1 fun ds => R (oneOrTup ds) s1.hp) (St.init (E8 n m) args hp)) : Eff M 8 args hp R :=
  eff_of_body (C := E8 n m) (fn := Tryd.f8) Tryd.func8 (by kernel_rfl) (by kernel_rfl) (rc := c8) z8 (rs := q8) zr8 (by kernel_rfl) (by rw [hl]; rfl) (by rw [hl]; exact (by decide : 0 ≤ 28)) hn hm h
theorem ow8 {args : List D} {d : D} (hl : args.length = 0) (h : SWp C8 c8 (fun e s => (match e with | .exit _ => False | _ => True) ∧ ∃ s1, Weak C8 s s1 ∧ rrsWp q8 s1 fun ds => D.closed (oneOrTup ds) = true ∧ (oneOrTup ds).er = d) (St.init C8 args ⟨[], []⟩)) : Pur M 8 args d :=
  pur_of_bodyW (C := C8) (fn := Tryd.f8) Tryd.func8 (by kernel_rfl) (by kernel_rfl) (rc := c8) z8 (rs := q8) zr8 (by kernel_rfl) (by rw [hl]; rfl) (by rw [hl]; decide) rfl rfl h
theorem ok8 {args : List D} {d : D} (hl : args.length = 0) (h : SWp C8 c8 (fun e s => (match e with | .exit _ => False | _ => True) ∧ rrsWp q8 s fun ds => D.closed (oneOrTup ds) = true ∧ (oneOrTup ds).er = d) (St.init C8 args ⟨[], []⟩)) : Pur M 8 args d :=
  pur_of_body (C := C8) (fn := Tryd.f8) Tryd.func8 (by kernel_rfl) (by kernel_rfl) (rc := c8) z8 (rs := q8) zr8 (by kernel_rfl) (by rw [hl]; rfl) (by rw [hl]; decide) rfl rfl h
end Go.Proofs.YtiodnobmnfjdlaaDoor
