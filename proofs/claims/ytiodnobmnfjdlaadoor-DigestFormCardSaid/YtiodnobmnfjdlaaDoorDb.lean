/- The resolved code of the functions that the claim reaches, printed by a program, and the facts that tie it to the translation. -/
import Derived.Test.YtiodnobmnfjdlaaDoorProg
import Derived.Test.YtiodnobmnfjdlaaDoorDa
import Derived.KernelRfl
import Derived.Lib.ItoaNum
set_option maxRecDepth 100000
namespace Go.Proofs.YtiodnobmnfjdlaaDoor
open Go GoV

/- 9 bogie.bogieref01.Few · 2 arguments · kept slots [0, 1, 4, 5, 9, 18] -/
noncomputable def E9 (n m : Nat) : Cfg := ⟨M, [0, 1, 4, 5, 9, 18], 22, n, m⟩
noncomputable def C9 : Cfg := E9 0 0
@[reducible] noncomputable def r9_0 : List RO := [
  ⟨(.var 2), .mv, [(.con (.bool false))], none⟩]
@[reducible] noncomputable def r9_1 : List RO := [
  ⟨(.var 3), .mv, [(.con (.int .i64 0))], none⟩]
@[reducible] noncomputable def r9_2 : List RO := [
  ⟨(.loc 6), .mv, [(.var 3)], none⟩,
  ⟨(.loc 7), .mv, [(.var 0)], none⟩,
  ⟨(.loc 8), .lenL, [(.loc 7)], none⟩,
  ⟨(.var 4), (.bin .lss), [(.loc 6), (.loc 8)], none⟩]
@[reducible] noncomputable def r9_3 : List RO := [
  ⟨(.loc 12), .mv, [(.var 0)], none⟩,
  ⟨(.loc 13), .mv, [(.var 3)], none⟩,
  ⟨(.loc 14), (.ixaS 1), [(.loc 12), (.loc 13)], none⟩,
  ⟨(.loc 15), (.ld false 1), [(.loc 14)], none⟩,
  ⟨(.loc 16), .lenS, [(.loc 15)], none⟩,
  ⟨(.loc 17), .mv, [(.var 1)], none⟩,
  ⟨(.var 5), (.bin .gtr), [(.loc 16), (.loc 17)], none⟩]
@[reducible] noncomputable def r9_4 : List RO := [
  ⟨(.var 2), .mv, [(.con (.bool false))], none⟩]
@[reducible] noncomputable def r9_5 : List RO := [
  ⟨(.loc 10), .mv, [(.var 3)], none⟩,
  ⟨(.loc 11), (.bin .add), [(.loc 10), (.con (.int .i64 1))], none⟩,
  ⟨(.var 3), .mv, [(.loc 11)], none⟩]
@[reducible] noncomputable def r9_6 : List RO := [
  ⟨(.loc 19), .mv, [(.var 0)], none⟩,
  ⟨(.loc 20), .lenL, [(.loc 19)], none⟩,
  ⟨(.loc 21), (.bin .leq), [(.loc 20), (.con (.int .i64 30))], none⟩,
  ⟨(.var 2), .mv, [(.loc 21)], none⟩]
theorem P9 : C9.M = M := by unfold C9 E9; rfl
theorem pe9 {n m : Nat} : (E9 n m).M = M := by unfold E9; rfl
theorem i9 {a0 a1 : D} : St.init C9 [a0, a1] ⟨[], []⟩ = ⟨[a0, a1, .undef, .undef, .undef, .undef], [], ⟨[], []⟩⟩ := by unfold C9 E9; rfl
theorem ie9 {n m : Nat} {hp : Hp} {a0 a1 : D} : St.init (E9 n m) [a0, a1] hp = ⟨[a0, a1, .undef, .undef, .undef, .undef], [], hp⟩ := by unfold E9; rfl
noncomputable def c9 : RC := (.seq (.reg r9_0) (.seq (.seq (.reg r9_1) (.block 0 (.loop (.seq (.seq (.reg r9_2) (.cond (.var 4) .skip (.exit 0))) (.seq (.block 1 (.seq (.reg r9_3) (.cond (.var 5) (.seq (.reg r9_4) .ret) .skip))) (.reg r9_5)))))) (.seq (.reg r9_6) .ret)))
noncomputable def q9 : List RR := [(.slot (.var 2))]
theorem z9 {n m : Nat} : resCode (E9 n m) (Tryd.f9.body.getD .skip) = some c9 := by kernel_rfl
theorem zr9 {n m : Nat} : resRs (E9 n m) Tryd.f9.results.toList = some q9 := by kernel_rfl
theorem oe9 {args : List D} {hp : Hp} {R : D → Hp → Prop} (n m : Nat) (hl : args.length = 2) (hn : n = hp.H.length) (hm : m = hp.tk.length) (h : SWp (E9 n m) c9 (fun e s => (match e with | .exit _ => False | _ => True) ∧ ∃ s1, Weak (E9 n m) s s1 ∧ rrsWp q9 s1 fun ds => R (oneOrTup ds) s1.hp) (St.init (E9 n m) args hp)) : Eff M 9 args hp R :=
  eff_of_body (C := E9 n m) (fn := Tryd.f9) Tryd.func9 (by kernel_rfl) (by kernel_rfl) (rc := c9) z9 (rs := q9) zr9 (by kernel_rfl) (by rw [hl]; rfl) (by rw [hl]; exact (by decide : 2 ≤ 22)) hn hm h
theorem ow9 {args : List D} {d : D} (hl : args.length = 2) (h : SWp C9 c9 (fun e s => (match e with | .exit _ => False | _ => True) ∧ ∃ s1, Weak C9 s s1 ∧ rrsWp q9 s1 fun ds => D.closed (oneOrTup ds) = true ∧ (oneOrTup ds).er = d) (St.init C9 args ⟨[], []⟩)) : Pur M 9 args d :=
  pur_of_bodyW (C := C9) (fn := Tryd.f9) Tryd.func9 (by kernel_rfl) (by kernel_rfl) (rc := c9) z9 (rs := q9) zr9 (by kernel_rfl) (by rw [hl]; rfl) (by rw [hl]; decide) rfl rfl h
theorem ok9 {args : List D} {d : D} (hl : args.length = 2) (h : SWp C9 c9 (fun e s => (match e with | .exit _ => False | _ => True) ∧ rrsWp q9 s fun ds => D.closed (oneOrTup ds) = true ∧ (oneOrTup ds).er = d) (St.init C9 args ⟨[], []⟩)) : Pur M 9 args d :=
  pur_of_body (C := C9) (fn := Tryd.f9) Tryd.func9 (by kernel_rfl) (by kernel_rfl) (rc := c9) z9 (rs := q9) zr9 (by kernel_rfl) (by rw [hl]; rfl) (by rw [hl]; decide) rfl rfl h

/- 21 bogie.bogieref01.mix · 1 arguments · kept slots [0, 2] -/
noncomputable def E21 (n m : Nat) : Cfg := ⟨M, [0, 2], 15, n, m⟩
noncomputable def C21 : Cfg := E21 0 0
@[reducible] noncomputable def r21_0 : List RO := [
  ⟨(.var 1), .mv, [(.con (.int .u64 0))], none⟩]
@[reducible] noncomputable def r21_1 : List RO := [
  ⟨(.loc 3), .mv, [(.var 0)], none⟩,
  ⟨(.loc 4), (.bin .mul), [(.loc 3), (.con (.int .u64 6364136223846793005))], none⟩,
  ⟨(.var 0), .mv, [(.loc 4)], none⟩]
@[reducible] noncomputable def r21_2 : List RO := [
  ⟨(.loc 5), .mv, [(.var 0)], none⟩,
  ⟨(.loc 6), .mv, [(.var 0)], none⟩,
  ⟨(.loc 7), (.bin .shr), [(.loc 6), (.con (.int .u64 33))], none⟩,
  ⟨(.loc 8), (.bin .xor), [(.loc 5), (.loc 7)], none⟩,
  ⟨(.var 0), .mv, [(.loc 8)], none⟩]
@[reducible] noncomputable def r21_3 : List RO := [
  ⟨(.loc 9), .mv, [(.var 0)], none⟩,
  ⟨(.loc 10), (.bin .mul), [(.loc 9), (.con (.int .u64 2685821657736338717))], none⟩,
  ⟨(.var 0), .mv, [(.loc 10)], none⟩]
@[reducible] noncomputable def r21_4 : List RO := [
  ⟨(.loc 11), .mv, [(.var 0)], none⟩,
  ⟨(.loc 12), .mv, [(.var 0)], none⟩,
  ⟨(.loc 13), (.bin .shr), [(.loc 12), (.con (.int .u64 27))], none⟩,
  ⟨(.loc 14), (.bin .xor), [(.loc 11), (.loc 13)], none⟩,
  ⟨(.var 1), .mv, [(.loc 14)], none⟩]
theorem P21 : C21.M = M := by unfold C21 E21; rfl
theorem pe21 {n m : Nat} : (E21 n m).M = M := by unfold E21; rfl
theorem i21 {a0 : D} : St.init C21 [a0] ⟨[], []⟩ = ⟨[a0, .undef], [], ⟨[], []⟩⟩ := by unfold C21 E21; rfl
theorem ie21 {n m : Nat} {hp : Hp} {a0 : D} : St.init (E21 n m) [a0] hp = ⟨[a0, .undef], [], hp⟩ := by unfold E21; rfl
noncomputable def c21 : RC := (.seq (.reg r21_0) (.seq (.reg r21_1) (.seq (.reg r21_2) (.seq (.reg r21_3) (.seq (.reg r21_4) .ret)))))
noncomputable def q21 : List RR := [(.slot (.var 1))]
theorem z21 {n m : Nat} : resCode (E21 n m) (Tryd.f21.body.getD .skip) = some c21 := by kernel_rfl
theorem zr21 {n m : Nat} : resRs (E21 n m) Tryd.f21.results.toList = some q21 := by kernel_rfl
theorem oe21 {args : List D} {hp : Hp} {R : D → Hp → Prop} (n m : Nat) (hl : args.length = 1) (hn : n = hp.H.length) (hm : m = hp.tk.length) (h : SWp (E21 n m) c21 (fun e s => (match e with | .exit _ => False | _ => True) ∧ ∃ s1, Weak (E21 n m) s s1 ∧ rrsWp q21 s1 fun ds => R (oneOrTup ds) s1.hp) (St.init (E21 n m) args hp)) : Eff M 21 args hp R :=
  eff_of_body (C := E21 n m) (fn := Tryd.f21) Tryd.func21 (by kernel_rfl) (by kernel_rfl) (rc := c21) z21 (rs := q21) zr21 (by kernel_rfl) (by rw [hl]; rfl) (by rw [hl]; exact (by decide : 1 ≤ 15)) hn hm h
theorem ow21 {args : List D} {d : D} (hl : args.length = 1) (h : SWp C21 c21 (fun e s => (match e with | .exit _ => False | _ => True) ∧ ∃ s1, Weak C21 s s1 ∧ rrsWp q21 s1 fun ds => D.closed (oneOrTup ds) = true ∧ (oneOrTup ds).er = d) (St.init C21 args ⟨[], []⟩)) : Pur M 21 args d :=
  pur_of_bodyW (C := C21) (fn := Tryd.f21) Tryd.func21 (by kernel_rfl) (by kernel_rfl) (rc := c21) z21 (rs := q21) zr21 (by kernel_rfl) (by rw [hl]; rfl) (by rw [hl]; decide) rfl rfl h
theorem ok21 {args : List D} {d : D} (hl : args.length = 1) (h : SWp C21 c21 (fun e s => (match e with | .exit _ => False | _ => True) ∧ rrsWp q21 s fun ds => D.closed (oneOrTup ds) = true ∧ (oneOrTup ds).er = d) (St.init C21 args ⟨[], []⟩)) : Pur M 21 args d :=
  pur_of_body (C := C21) (fn := Tryd.f21) Tryd.func21 (by kernel_rfl) (by kernel_rfl) (rc := c21) z21 (rs := q21) zr21 (by kernel_rfl) (by rw [hl]; rfl) (by rw [hl]; decide) rfl rfl h

/- 11 bogie.bogieref01.Sum · 1 arguments · kept slots [0, 2, 3, 4, 5, 6, 7, 8, 16, 23, 31, 43] -/
noncomputable def E11 (n m : Nat) : Cfg := ⟨M, [0, 2, 3, 4, 5, 6, 7, 8, 16, 23, 31, 43], 57, n, m⟩
noncomputable def C11 : Cfg := E11 0 0
@[reducible] noncomputable def r11_0 : List RO := [
  ⟨(.var 1), .mv, [(.con (.str []))], none⟩]
@[reducible] noncomputable def r11_1 : List RO := [
  ⟨(.loc 9), .mv, [(.var 0)], none⟩,
  ⟨(.loc 10), .lenS, [(.loc 9)], none⟩,
  ⟨(.loc 11), (.cvI .u64), [(.loc 10)], none⟩,
  ⟨(.loc 12), (.bin .xor), [(.con (.int .u64 7046029254386353131)), (.loc 11)], none⟩,
  ⟨(.var 2), .mv, [(.loc 12)], none⟩]
@[reducible] noncomputable def r11_2 : List RO := [
  ⟨(.var 3), .mv, [(.con (.int .i64 0))], none⟩]
@[reducible] noncomputable def r11_3 : List RO := [
  ⟨(.loc 13), .mv, [(.var 3)], none⟩,
  ⟨(.loc 14), .mv, [(.var 0)], none⟩,
  ⟨(.loc 15), .lenS, [(.loc 14)], none⟩,
  ⟨(.var 8), (.bin .leq), [(.loc 13), (.loc 15)], none⟩]
@[reducible] noncomputable def r11_4 : List RO := [
  ⟨(.var 4), .mv, [(.con (.int .u64 0))], none⟩]
@[reducible] noncomputable def r11_5 : List RO := [
  ⟨(.loc 19), .mv, [(.var 3)], none⟩,
  ⟨(.var 5), .mv, [(.loc 19)], none⟩]
@[reducible] noncomputable def r11_6 : List RO := [
  ⟨(.loc 20), .mv, [(.var 5)], none⟩,
  ⟨(.loc 21), .mv, [(.var 3)], none⟩,
  ⟨(.loc 22), (.bin .add), [(.loc 21), (.con (.int .i64 8))], none⟩,
  ⟨(.var 9), (.bin .lss), [(.loc 20), (.loc 22)], none⟩]
@[reducible] noncomputable def r11_7 : List RO := [
  ⟨(.loc 26), .mv, [(.var 4)], none⟩,
  ⟨(.loc 27), (.bin .mul), [(.loc 26), (.con (.int .u64 256))], none⟩,
  ⟨(.var 4), .mv, [(.loc 27)], none⟩]
@[reducible] noncomputable def r11_8 : List RO := [
  ⟨(.loc 28), .mv, [(.var 5)], none⟩,
  ⟨(.loc 29), .mv, [(.var 0)], none⟩,
  ⟨(.loc 30), .lenS, [(.loc 29)], none⟩,
  ⟨(.var 10), (.bin .lss), [(.loc 28), (.loc 30)], none⟩]
@[reducible] noncomputable def r11_9 : List RO := [
  ⟨(.loc 32), .mv, [(.var 4)], none⟩,
  ⟨(.loc 33), .mv, [(.var 0)], none⟩,
  ⟨(.loc 34), .mv, [(.var 5)], none⟩,
  ⟨(.loc 35), .ixvS, [(.loc 33), (.loc 34)], none⟩,
  ⟨(.loc 36), (.cvI .u64), [(.loc 35)], none⟩,
  ⟨(.loc 37), (.bin .add), [(.loc 32), (.loc 36)], none⟩,
  ⟨(.var 4), .mv, [(.loc 37)], none⟩]
@[reducible] noncomputable def r11_10 : List RO := [
  ⟨(.loc 24), .mv, [(.var 5)], none⟩,
  ⟨(.loc 25), (.bin .add), [(.loc 24), (.con (.int .i64 1))], none⟩,
  ⟨(.var 5), .mv, [(.loc 25)], none⟩]
@[reducible] noncomputable def r11_11 : List RO := [
  ⟨(.loc 38), .mv, [(.var 2)], none⟩,
  ⟨(.loc 39), .mv, [(.var 4)], none⟩,
  ⟨(.loc 40), (.bin .xor), [(.loc 38), (.loc 39)], none⟩,
  ⟨(.loc 41), .call, [(.con (.fn (.func 21) [] [])), (.loc 40)], none⟩,
  ⟨(.var 2), .mv, [(.loc 41)], none⟩]
@[reducible] noncomputable def r11_12 : List RO := [
  ⟨(.loc 17), .mv, [(.var 3)], none⟩,
  ⟨(.loc 18), (.bin .add), [(.loc 17), (.con (.int .i64 8))], none⟩,
  ⟨(.var 3), .mv, [(.loc 18)], none⟩]
@[reducible] noncomputable def r11_13 : List RO := [
  ⟨(.var 6), .mv, [(.con (.str []))], none⟩]
@[reducible] noncomputable def r11_14 : List RO := [
  ⟨(.var 7), .mv, [(.con (.int .i64 0))], none⟩]
@[reducible] noncomputable def r11_15 : List RO := [
  ⟨(.loc 42), .mv, [(.var 7)], none⟩,
  ⟨(.var 11), (.bin .lss), [(.loc 42), (.con (.int .i64 16))], none⟩]
@[reducible] noncomputable def r11_16 : List RO := [
  ⟨(.loc 46), .mv, [(.var 2)], none⟩,
  ⟨(.loc 47), (.bin .rem), [(.loc 46), (.con (.int .u64 16))], none⟩,
  ⟨(.loc 48), .mv, [(.var 2)], none⟩,
  ⟨(.loc 49), (.bin .rem), [(.loc 48), (.con (.int .u64 16))], none⟩,
  ⟨(.loc 50), (.bin .add), [(.loc 49), (.con (.int .u64 1))], none⟩,
  ⟨(.loc 51), (.slcS true true), [(.con (.str [48, 49, 50, 51, 52, 53, 54, 55, 56, 57, 97, 98, 99, 100, 101, 102])), (.loc 47), (.loc 50)], none⟩,
  ⟨(.loc 52), .mv, [(.var 6)], none⟩,
  ⟨(.loc 53), (.bin .add), [(.loc 51), (.loc 52)], none⟩,
  ⟨(.var 6), .mv, [(.loc 53)], none⟩]
@[reducible] noncomputable def r11_17 : List RO := [
  ⟨(.loc 54), .mv, [(.var 2)], none⟩,
  ⟨(.loc 55), (.bin .quo), [(.loc 54), (.con (.int .u64 16))], none⟩,
  ⟨(.var 2), .mv, [(.loc 55)], none⟩]
@[reducible] noncomputable def r11_18 : List RO := [
  ⟨(.loc 44), .mv, [(.var 7)], none⟩,
  ⟨(.loc 45), (.bin .add), [(.loc 44), (.con (.int .i64 1))], none⟩,
  ⟨(.var 7), .mv, [(.loc 45)], none⟩]
@[reducible] noncomputable def r11_19 : List RO := [
  ⟨(.loc 56), .mv, [(.var 6)], none⟩,
  ⟨(.var 1), .mv, [(.loc 56)], none⟩]
theorem P11 : C11.M = M := by unfold C11 E11; rfl
theorem pe11 {n m : Nat} : (E11 n m).M = M := by unfold E11; rfl
theorem i11 {a0 : D} : St.init C11 [a0] ⟨[], []⟩ = ⟨[a0, .undef, .undef, .undef, .undef, .undef, .undef, .undef, .undef, .undef, .undef, .undef], [], ⟨[], []⟩⟩ := by unfold C11 E11; rfl
theorem ie11 {n m : Nat} {hp : Hp} {a0 : D} : St.init (E11 n m) [a0] hp = ⟨[a0, .undef, .undef, .undef, .undef, .undef, .undef, .undef, .undef, .undef, .undef, .undef], [], hp⟩ := by unfold E11; rfl
noncomputable def c11 : RC := (.seq (.reg r11_0) (.seq (.reg r11_1) (.seq (.seq (.reg r11_2) (.block 0 (.loop (.seq (.seq (.reg r11_3) (.cond (.var 8) .skip (.exit 0))) (.seq (.block 1 (.seq (.reg r11_4) (.seq (.seq (.reg r11_5) (.block 2 (.loop (.seq (.seq (.reg r11_6) (.cond (.var 9) .skip (.exit 2))) (.seq (.block 3 (.seq (.reg r11_7) (.seq (.reg r11_8) (.cond (.var 10) (.reg r11_9) .skip)))) (.reg r11_10)))))) (.reg r11_11)))) (.reg r11_12)))))) (.seq (.reg r11_13) (.seq (.seq (.reg r11_14) (.block 4 (.loop (.seq (.seq (.reg r11_15) (.cond (.var 11) .skip (.exit 4))) (.seq (.block 5 (.seq (.reg r11_16) (.reg r11_17))) (.reg r11_18)))))) (.seq (.reg r11_19) .ret))))))
noncomputable def q11 : List RR := [(.slot (.var 1))]
theorem z11 {n m : Nat} : resCode (E11 n m) (Tryd.f11.body.getD .skip) = some c11 := by kernel_rfl
theorem zr11 {n m : Nat} : resRs (E11 n m) Tryd.f11.results.toList = some q11 := by kernel_rfl
theorem oe11 {args : List D} {hp : Hp} {R : D → Hp → Prop} (n m : Nat) (hl : args.length = 1) (hn : n = hp.H.length) (hm : m = hp.tk.length) (h : SWp (E11 n m) c11 (fun e s => (match e with | .exit _ => False | _ => True) ∧ ∃ s1, Weak (E11 n m) s s1 ∧ rrsWp q11 s1 fun ds => R (oneOrTup ds) s1.hp) (St.init (E11 n m) args hp)) : Eff M 11 args hp R :=
  eff_of_body (C := E11 n m) (fn := Tryd.f11) Tryd.func11 (by kernel_rfl) (by kernel_rfl) (rc := c11) z11 (rs := q11) zr11 (by kernel_rfl) (by rw [hl]; rfl) (by rw [hl]; exact (by decide : 1 ≤ 57)) hn hm h
theorem ow11 {args : List D} {d : D} (hl : args.length = 1) (h : SWp C11 c11 (fun e s => (match e with | .exit _ => False | _ => True) ∧ ∃ s1, Weak C11 s s1 ∧ rrsWp q11 s1 fun ds => D.closed (oneOrTup ds) = true ∧ (oneOrTup ds).er = d) (St.init C11 args ⟨[], []⟩)) : Pur M 11 args d :=
  pur_of_bodyW (C := C11) (fn := Tryd.f11) Tryd.func11 (by kernel_rfl) (by kernel_rfl) (rc := c11) z11 (rs := q11) zr11 (by kernel_rfl) (by rw [hl]; rfl) (by rw [hl]; decide) rfl rfl h
theorem ok11 {args : List D} {d : D} (hl : args.length = 1) (h : SWp C11 c11 (fun e s => (match e with | .exit _ => False | _ => True) ∧ rrsWp q11 s fun ds => D.closed (oneOrTup ds) = true ∧ (oneOrTup ds).er = d) (St.init C11 args ⟨[], []⟩)) : Pur M 11 args d :=
  pur_of_body (C := C11) (fn := Tryd.f11) Tryd.func11 (by kernel_rfl) (by kernel_rfl) (rc := c11) z11 (rs := q11) zr11 (by kernel_rfl) (by rw [hl]; rfl) (by rw [hl]; decide) rfl rfl h

/- 38 bogie.bogieref01.digits · 1 arguments · kept slots [0, 2, 3, 13] -/
noncomputable def E38 (n m : Nat) : Cfg := ⟨M, [0, 2, 3, 13], 25, n, m⟩
noncomputable def C38 : Cfg := E38 0 0
@[reducible] noncomputable def r38_0 : List RO := [
  ⟨(.var 1), .mv, [(.con (.str []))], none⟩]
@[reducible] noncomputable def r38_1 : List RO := [
  ⟨(.loc 4), .mv, [(.var 0)], none⟩,
  ⟨(.loc 5), (.bin .rem), [(.loc 4), (.con (.int .u64 10))], none⟩,
  ⟨(.loc 6), .mv, [(.var 0)], none⟩,
  ⟨(.loc 7), (.bin .rem), [(.loc 6), (.con (.int .u64 10))], none⟩,
  ⟨(.loc 8), (.bin .add), [(.loc 7), (.con (.int .u64 1))], none⟩,
  ⟨(.loc 9), (.slcS true true), [(.con (.str [48, 49, 50, 51, 52, 53, 54, 55, 56, 57])), (.loc 5), (.loc 8)], none⟩,
  ⟨(.var 2), .mv, [(.loc 9)], none⟩]
@[reducible] noncomputable def r38_2 : List RO := [
  ⟨(.loc 10), .mv, [(.var 0)], none⟩,
  ⟨(.loc 11), (.bin .quo), [(.loc 10), (.con (.int .u64 10))], none⟩,
  ⟨(.var 0), .mv, [(.loc 11)], none⟩]
@[reducible] noncomputable def r38_3 : List RO := [
  ⟨(.loc 12), .mv, [(.var 0)], none⟩,
  ⟨(.var 3), (.bin .gtr), [(.loc 12), (.con (.int .u64 0))], none⟩]
@[reducible] noncomputable def r38_4 : List RO := [
  ⟨(.loc 16), .mv, [(.var 0)], none⟩,
  ⟨(.loc 17), (.bin .rem), [(.loc 16), (.con (.int .u64 10))], none⟩,
  ⟨(.loc 18), .mv, [(.var 0)], none⟩,
  ⟨(.loc 19), (.bin .rem), [(.loc 18), (.con (.int .u64 10))], none⟩,
  ⟨(.loc 20), (.bin .add), [(.loc 19), (.con (.int .u64 1))], none⟩,
  ⟨(.loc 21), (.slcS true true), [(.con (.str [48, 49, 50, 51, 52, 53, 54, 55, 56, 57])), (.loc 17), (.loc 20)], none⟩,
  ⟨(.loc 22), .mv, [(.var 2)], none⟩,
  ⟨(.loc 23), (.bin .add), [(.loc 21), (.loc 22)], none⟩,
  ⟨(.var 2), .mv, [(.loc 23)], none⟩]
@[reducible] noncomputable def r38_5 : List RO := [
  ⟨(.loc 14), .mv, [(.var 0)], none⟩,
  ⟨(.loc 15), (.bin .quo), [(.loc 14), (.con (.int .u64 10))], none⟩,
  ⟨(.var 0), .mv, [(.loc 15)], none⟩]
@[reducible] noncomputable def r38_6 : List RO := [
  ⟨(.loc 24), .mv, [(.var 2)], none⟩,
  ⟨(.var 1), .mv, [(.loc 24)], none⟩]
theorem P38 : C38.M = M := by unfold C38 E38; rfl
theorem pe38 {n m : Nat} : (E38 n m).M = M := by unfold E38; rfl
theorem i38 {a0 : D} : St.init C38 [a0] ⟨[], []⟩ = ⟨[a0, .undef, .undef, .undef], [], ⟨[], []⟩⟩ := by unfold C38 E38; rfl
theorem ie38 {n m : Nat} {hp : Hp} {a0 : D} : St.init (E38 n m) [a0] hp = ⟨[a0, .undef, .undef, .undef], [], hp⟩ := by unfold E38; rfl
noncomputable def c38 : RC := (.seq (.reg r38_0) (.seq (.reg r38_1) (.seq (.seq (.reg r38_2) (.block 0 (.loop (.seq (.seq (.reg r38_3) (.cond (.var 3) .skip (.exit 0))) (.seq (.block 1 (.reg r38_4)) (.reg r38_5)))))) (.seq (.reg r38_6) .ret))))
noncomputable def q38 : List RR := [(.slot (.var 1))]
theorem z38 {n m : Nat} : resCode (E38 n m) (Tryd.f38.body.getD .skip) = some c38 := by kernel_rfl
theorem zr38 {n m : Nat} : resRs (E38 n m) Tryd.f38.results.toList = some q38 := by kernel_rfl
theorem oe38 {args : List D} {hp : Hp} {R : D → Hp → Prop} (n m : Nat) (hl : args.length = 1) (hn : n = hp.H.length) (hm : m = hp.tk.length) (h : SWp (E38 n m) c38 (fun e s => (match e with | .exit _ => False | _ => True) ∧ ∃ s1, Weak (E38 n m) s s1 ∧ rrsWp q38 s1 fun ds => R (oneOrTup ds) s1.hp) (St.init (E38 n m) args hp)) : Eff M 38 args hp R :=
  eff_of_body (C := E38 n m) (fn := Tryd.f38) Tryd.func38 (by kernel_rfl) (by kernel_rfl) (rc := c38) z38 (rs := q38) zr38 (by kernel_rfl) (by rw [hl]; rfl) (by rw [hl]; exact (by decide : 1 ≤ 25)) hn hm h
theorem ow38 {args : List D} {d : D} (hl : args.length = 1) (h : SWp C38 c38 (fun e s => (match e with | .exit _ => False | _ => True) ∧ ∃ s1, Weak C38 s s1 ∧ rrsWp q38 s1 fun ds => D.closed (oneOrTup ds) = true ∧ (oneOrTup ds).er = d) (St.init C38 args ⟨[], []⟩)) : Pur M 38 args d :=
  pur_of_bodyW (C := C38) (fn := Tryd.f38) Tryd.func38 (by kernel_rfl) (by kernel_rfl) (rc := c38) z38 (rs := q38) zr38 (by kernel_rfl) (by rw [hl]; rfl) (by rw [hl]; decide) rfl rfl h
theorem ok38 {args : List D} {d : D} (hl : args.length = 1) (h : SWp C38 c38 (fun e s => (match e with | .exit _ => False | _ => True) ∧ rrsWp q38 s fun ds => D.closed (oneOrTup ds) = true ∧ (oneOrTup ds).er = d) (St.init C38 args ⟨[], []⟩)) : Pur M 38 args d :=
  pur_of_body (C := C38) (fn := Tryd.f38) Tryd.func38 (by kernel_rfl) (by kernel_rfl) (rc := c38) z38 (rs := q38) zr38 (by kernel_rfl) (by rw [hl]; rfl) (by rw [hl]; decide) rfl rfl h

/- 27 bogie.bogieref01.Decimal · 1 arguments · kept slots [0, 2, 4] -/
noncomputable def E27 (n m : Nat) : Cfg := ⟨M, [0, 2, 4], 15, n, m⟩
noncomputable def C27 : Cfg := E27 0 0
@[reducible] noncomputable def r27_0 : List RO := [
  ⟨(.var 1), .mv, [(.con (.str []))], none⟩]
@[reducible] noncomputable def r27_1 : List RO := [
  ⟨(.loc 3), .mv, [(.var 0)], none⟩,
  ⟨(.var 2), (.bin .lss), [(.loc 3), (.con (.int .i64 0))], none⟩]
@[reducible] noncomputable def r27_2 : List RO := [
  ⟨(.loc 5), .mv, [(.var 0)], none⟩,
  ⟨(.loc 6), (.bin .add), [(.loc 5), (.con (.int .i64 1))], none⟩,
  ⟨(.loc 7), (.un .neg), [(.loc 6)], none⟩,
  ⟨(.loc 8), (.cvI .u64), [(.loc 7)], none⟩,
  ⟨(.loc 9), (.bin .add), [(.loc 8), (.con (.int .u64 1))], none⟩,
  ⟨(.loc 10), .call, [(.con (.fn (.func 38) [] [])), (.loc 9)], none⟩,
  ⟨(.loc 11), (.bin .add), [(.con (.str [45])), (.loc 10)], none⟩,
  ⟨(.var 1), .mv, [(.loc 11)], none⟩]
@[reducible] noncomputable def r27_3 : List RO := [
  ⟨(.loc 12), .mv, [(.var 0)], none⟩,
  ⟨(.loc 13), (.cvI .u64), [(.loc 12)], none⟩,
  ⟨(.loc 14), .call, [(.con (.fn (.func 38) [] [])), (.loc 13)], none⟩,
  ⟨(.var 1), .mv, [(.loc 14)], none⟩]
theorem P27 : C27.M = M := by unfold C27 E27; rfl
theorem pe27 {n m : Nat} : (E27 n m).M = M := by unfold E27; rfl
theorem i27 {a0 : D} : St.init C27 [a0] ⟨[], []⟩ = ⟨[a0, .undef, .undef], [], ⟨[], []⟩⟩ := by unfold C27 E27; rfl
theorem ie27 {n m : Nat} {hp : Hp} {a0 : D} : St.init (E27 n m) [a0] hp = ⟨[a0, .undef, .undef], [], hp⟩ := by unfold E27; rfl
noncomputable def c27 : RC := (.seq (.reg r27_0) (.seq (.seq (.reg r27_1) (.cond (.var 2) (.seq (.reg r27_2) .ret) .skip)) (.seq (.reg r27_3) .ret)))
noncomputable def q27 : List RR := [(.slot (.var 1))]
theorem z27 {n m : Nat} : resCode (E27 n m) (Tryd.f27.body.getD .skip) = some c27 := by kernel_rfl
theorem zr27 {n m : Nat} : resRs (E27 n m) Tryd.f27.results.toList = some q27 := by kernel_rfl
theorem oe27 {args : List D} {hp : Hp} {R : D → Hp → Prop} (n m : Nat) (hl : args.length = 1) (hn : n = hp.H.length) (hm : m = hp.tk.length) (h : SWp (E27 n m) c27 (fun e s => (match e with | .exit _ => False | _ => True) ∧ ∃ s1, Weak (E27 n m) s s1 ∧ rrsWp q27 s1 fun ds => R (oneOrTup ds) s1.hp) (St.init (E27 n m) args hp)) : Eff M 27 args hp R :=
  eff_of_body (C := E27 n m) (fn := Tryd.f27) Tryd.func27 (by kernel_rfl) (by kernel_rfl) (rc := c27) z27 (rs := q27) zr27 (by kernel_rfl) (by rw [hl]; rfl) (by rw [hl]; exact (by decide : 1 ≤ 15)) hn hm h
theorem ow27 {args : List D} {d : D} (hl : args.length = 1) (h : SWp C27 c27 (fun e s => (match e with | .exit _ => False | _ => True) ∧ ∃ s1, Weak C27 s s1 ∧ rrsWp q27 s1 fun ds => D.closed (oneOrTup ds) = true ∧ (oneOrTup ds).er = d) (St.init C27 args ⟨[], []⟩)) : Pur M 27 args d :=
  pur_of_bodyW (C := C27) (fn := Tryd.f27) Tryd.func27 (by kernel_rfl) (by kernel_rfl) (rc := c27) z27 (rs := q27) zr27 (by kernel_rfl) (by rw [hl]; rfl) (by rw [hl]; decide) rfl rfl h
theorem ok27 {args : List D} {d : D} (hl : args.length = 1) (h : SWp C27 c27 (fun e s => (match e with | .exit _ => False | _ => True) ∧ rrsWp q27 s fun ds => D.closed (oneOrTup ds) = true ∧ (oneOrTup ds).er = d) (St.init C27 args ⟨[], []⟩)) : Pur M 27 args d :=
  pur_of_body (C := C27) (fn := Tryd.f27) Tryd.func27 (by kernel_rfl) (by kernel_rfl) (rc := c27) z27 (rs := q27) zr27 (by kernel_rfl) (by rw [hl]; rfl) (by rw [hl]; decide) rfl rfl h

/- 16 bogie.bogieref01.Joined · 1 arguments · kept slots [0, 2, 3, 4, 5, 6, 10, 26] -/
noncomputable def E16 (n m : Nat) : Cfg := ⟨M, [0, 2, 3, 4, 5, 6, 10, 26], 48, n, m⟩
noncomputable def C16 : Cfg := E16 0 0
@[reducible] noncomputable def r16_0 : List RO := [
  ⟨(.var 1), .mv, [(.con (.str []))], none⟩]
@[reducible] noncomputable def r16_1 : List RO := [
  ⟨(.var 2), .mv, [(.con (.int .i64 0))], none⟩]
@[reducible] noncomputable def r16_2 : List RO := [
  ⟨(.var 3), .mv, [(.con (.int .i64 0))], none⟩]
@[reducible] noncomputable def r16_3 : List RO := [
  ⟨(.loc 7), .mv, [(.var 3)], none⟩,
  ⟨(.loc 8), .mv, [(.var 0)], none⟩,
  ⟨(.loc 9), .lenL, [(.loc 8)], none⟩,
  ⟨(.var 6), (.bin .lss), [(.loc 7), (.loc 9)], none⟩]
@[reducible] noncomputable def r16_4 : List RO := [
  ⟨(.loc 13), .mv, [(.var 2)], none⟩,
  ⟨(.loc 14), .mv, [(.var 0)], none⟩,
  ⟨(.loc 15), .mv, [(.var 3)], none⟩,
  ⟨(.loc 16), (.ixaS 1), [(.loc 14), (.loc 15)], none⟩,
  ⟨(.loc 17), (.ld false 1), [(.loc 16)], none⟩,
  ⟨(.loc 18), .lenS, [(.loc 17)], none⟩,
  ⟨(.loc 19), (.bin .add), [(.loc 18), (.con (.int .i64 21))], none⟩,
  ⟨(.loc 20), (.bin .add), [(.loc 13), (.loc 19)], none⟩,
  ⟨(.var 2), .mv, [(.loc 20)], none⟩]
@[reducible] noncomputable def r16_5 : List RO := [
  ⟨(.loc 11), .mv, [(.var 3)], none⟩,
  ⟨(.loc 12), (.bin .add), [(.loc 11), (.con (.int .i64 1))], none⟩,
  ⟨(.var 3), .mv, [(.loc 12)], none⟩]
@[reducible] noncomputable def r16_6 : List RO := [
  ⟨(.loc 21), .mv, [(.var 2)], none⟩,
  ⟨(.loc 22), (.mks 1 1 [(.int .u8 0)]), [(.con (.int .i64 0)), (.loc 21)], none⟩,
  ⟨(.var 4), .mv, [(.loc 22)], none⟩]
@[reducible] noncomputable def r16_7 : List RO := [
  ⟨(.var 5), .mv, [(.con (.int .i64 0))], none⟩]
@[reducible] noncomputable def r16_8 : List RO := [
  ⟨(.loc 23), .mv, [(.var 5)], none⟩,
  ⟨(.loc 24), .mv, [(.var 0)], none⟩,
  ⟨(.loc 25), .lenL, [(.loc 24)], none⟩,
  ⟨(.var 7), (.bin .lss), [(.loc 23), (.loc 25)], none⟩]
@[reducible] noncomputable def r16_9 : List RO := [
  ⟨(.loc 29), .mv, [(.var 4)], none⟩,
  ⟨(.loc 30), .mv, [(.var 0)], none⟩,
  ⟨(.loc 31), .mv, [(.var 5)], none⟩,
  ⟨(.loc 32), (.ixaS 1), [(.loc 30), (.loc 31)], none⟩,
  ⟨(.loc 33), (.ld false 1), [(.loc 32)], none⟩,
  ⟨(.loc 34), .lenS, [(.loc 33)], none⟩,
  ⟨(.loc 35), .call, [(.con (.fn (.func 27) [] [])), (.loc 34)], none⟩,
  ⟨(.loc 36), (.app 1 1 5), [(.loc 29), (.loc 35)], none⟩,
  ⟨(.var 4), .mv, [(.loc 36)], none⟩]
@[reducible] noncomputable def r16_10 : List RO := [
  ⟨(.loc 37), .mv, [(.var 4)], none⟩,
  ⟨(.loc 38), (.bsl 1), [(.con (.int .u8 58))], none⟩,
  ⟨(.loc 39), (.app 1 1 5), [(.loc 37), (.loc 38)], none⟩,
  ⟨(.var 4), .mv, [(.loc 39)], none⟩]
@[reducible] noncomputable def r16_11 : List RO := [
  ⟨(.loc 40), .mv, [(.var 4)], none⟩,
  ⟨(.loc 41), .mv, [(.var 0)], none⟩,
  ⟨(.loc 42), .mv, [(.var 5)], none⟩,
  ⟨(.loc 43), (.ixaS 1), [(.loc 41), (.loc 42)], none⟩,
  ⟨(.loc 44), (.ld false 1), [(.loc 43)], none⟩,
  ⟨(.loc 45), (.app 1 1 5), [(.loc 40), (.loc 44)], none⟩,
  ⟨(.var 4), .mv, [(.loc 45)], none⟩]
@[reducible] noncomputable def r16_12 : List RO := [
  ⟨(.loc 27), .mv, [(.var 5)], none⟩,
  ⟨(.loc 28), (.bin .add), [(.loc 27), (.con (.int .i64 1))], none⟩,
  ⟨(.var 5), .mv, [(.loc 28)], none⟩]
@[reducible] noncomputable def r16_13 : List RO := [
  ⟨(.loc 46), .mv, [(.var 4)], none⟩,
  ⟨(.loc 47), .b2s, [(.loc 46)], none⟩,
  ⟨(.var 1), .mv, [(.loc 47)], none⟩]
theorem P16 : C16.M = M := by unfold C16 E16; rfl
theorem pe16 {n m : Nat} : (E16 n m).M = M := by unfold E16; rfl
theorem i16 {a0 : D} : St.init C16 [a0] ⟨[], []⟩ = ⟨[a0, .undef, .undef, .undef, .undef, .undef, .undef, .undef], [], ⟨[], []⟩⟩ := by unfold C16 E16; rfl
theorem ie16 {n m : Nat} {hp : Hp} {a0 : D} : St.init (E16 n m) [a0] hp = ⟨[a0, .undef, .undef, .undef, .undef, .undef, .undef, .undef], [], hp⟩ := by unfold E16; rfl
noncomputable def c16 : RC := (.seq (.reg r16_0) (.seq (.reg r16_1) (.seq (.seq (.reg r16_2) (.block 0 (.loop (.seq (.seq (.reg r16_3) (.cond (.var 6) .skip (.exit 0))) (.seq (.block 1 (.reg r16_4)) (.reg r16_5)))))) (.seq (.reg r16_6) (.seq (.seq (.reg r16_7) (.block 2 (.loop (.seq (.seq (.reg r16_8) (.cond (.var 7) .skip (.exit 2))) (.seq (.block 3 (.seq (.reg r16_9) (.seq (.reg r16_10) (.reg r16_11)))) (.reg r16_12)))))) (.seq (.reg r16_13) .ret))))))
noncomputable def q16 : List RR := [(.slot (.var 1))]
theorem z16 {n m : Nat} : resCode (E16 n m) (Tryd.f16.body.getD .skip) = some c16 := by kernel_rfl
theorem zr16 {n m : Nat} : resRs (E16 n m) Tryd.f16.results.toList = some q16 := by kernel_rfl
theorem oe16 {args : List D} {hp : Hp} {R : D → Hp → Prop} (n m : Nat) (hl : args.length = 1) (hn : n = hp.H.length) (hm : m = hp.tk.length) (h : SWp (E16 n m) c16 (fun e s => (match e with | .exit _ => False | _ => True) ∧ ∃ s1, Weak (E16 n m) s s1 ∧ rrsWp q16 s1 fun ds => R (oneOrTup ds) s1.hp) (St.init (E16 n m) args hp)) : Eff M 16 args hp R :=
  eff_of_body (C := E16 n m) (fn := Tryd.f16) Tryd.func16 (by kernel_rfl) (by kernel_rfl) (rc := c16) z16 (rs := q16) zr16 (by kernel_rfl) (by rw [hl]; rfl) (by rw [hl]; exact (by decide : 1 ≤ 48)) hn hm h
theorem ow16 {args : List D} {d : D} (hl : args.length = 1) (h : SWp C16 c16 (fun e s => (match e with | .exit _ => False | _ => True) ∧ ∃ s1, Weak C16 s s1 ∧ rrsWp q16 s1 fun ds => D.closed (oneOrTup ds) = true ∧ (oneOrTup ds).er = d) (St.init C16 args ⟨[], []⟩)) : Pur M 16 args d :=
  pur_of_bodyW (C := C16) (fn := Tryd.f16) Tryd.func16 (by kernel_rfl) (by kernel_rfl) (rc := c16) z16 (rs := q16) zr16 (by kernel_rfl) (by rw [hl]; rfl) (by rw [hl]; decide) rfl rfl h
theorem ok16 {args : List D} {d : D} (hl : args.length = 1) (h : SWp C16 c16 (fun e s => (match e with | .exit _ => False | _ => True) ∧ rrsWp q16 s fun ds => D.closed (oneOrTup ds) = true ∧ (oneOrTup ds).er = d) (St.init C16 args ⟨[], []⟩)) : Pur M 16 args d :=
  pur_of_body (C := C16) (fn := Tryd.f16) Tryd.func16 (by kernel_rfl) (by kernel_rfl) (rc := c16) z16 (rs := q16) zr16 (by kernel_rfl) (by rw [hl]; rfl) (by rw [hl]; decide) rfl rfl h

/- 13 bogie.bogieref01.List · 1 arguments · kept slots [0, 2] -/
noncomputable def E13 (n m : Nat) : Cfg := ⟨M, [0, 2], 6, n, m⟩
noncomputable def C13 : Cfg := E13 0 0
@[reducible] noncomputable def r13_0 : List RO := [
  ⟨(.var 1), .mv, [(.con (.str []))], none⟩]
@[reducible] noncomputable def r13_1 : List RO := [
  ⟨(.loc 3), .mv, [(.var 0)], none⟩,
  ⟨(.loc 4), .call, [(.con (.fn (.func 16) [] [])), (.loc 3)], none⟩,
  ⟨(.loc 5), .call, [(.con (.fn (.func 11) [] [])), (.loc 4)], none⟩,
  ⟨(.var 1), .mv, [(.loc 5)], none⟩]
theorem P13 : C13.M = M := by unfold C13 E13; rfl
theorem pe13 {n m : Nat} : (E13 n m).M = M := by unfold E13; rfl
theorem i13 {a0 : D} : St.init C13 [a0] ⟨[], []⟩ = ⟨[a0, .undef], [], ⟨[], []⟩⟩ := by unfold C13 E13; rfl
theorem ie13 {n m : Nat} {hp : Hp} {a0 : D} : St.init (E13 n m) [a0] hp = ⟨[a0, .undef], [], hp⟩ := by unfold E13; rfl
noncomputable def c13 : RC := (.seq (.reg r13_0) (.seq (.reg r13_1) .ret))
noncomputable def q13 : List RR := [(.slot (.var 1))]
theorem z13 {n m : Nat} : resCode (E13 n m) (Tryd.f13.body.getD .skip) = some c13 := by kernel_rfl
theorem zr13 {n m : Nat} : resRs (E13 n m) Tryd.f13.results.toList = some q13 := by kernel_rfl
theorem oe13 {args : List D} {hp : Hp} {R : D → Hp → Prop} (n m : Nat) (hl : args.length = 1) (hn : n = hp.H.length) (hm : m = hp.tk.length) (h : SWp (E13 n m) c13 (fun e s => (match e with | .exit _ => False | _ => True) ∧ ∃ s1, Weak (E13 n m) s s1 ∧ rrsWp q13 s1 fun ds => R (oneOrTup ds) s1.hp) (St.init (E13 n m) args hp)) : Eff M 13 args hp R :=
  eff_of_body (C := E13 n m) (fn := Tryd.f13) Tryd.func13 (by kernel_rfl) (by kernel_rfl) (rc := c13) z13 (rs := q13) zr13 (by kernel_rfl) (by rw [hl]; rfl) (by rw [hl]; exact (by decide : 1 ≤ 6)) hn hm h
theorem ow13 {args : List D} {d : D} (hl : args.length = 1) (h : SWp C13 c13 (fun e s => (match e with | .exit _ => False | _ => True) ∧ ∃ s1, Weak C13 s s1 ∧ rrsWp q13 s1 fun ds => D.closed (oneOrTup ds) = true ∧ (oneOrTup ds).er = d) (St.init C13 args ⟨[], []⟩)) : Pur M 13 args d :=
  pur_of_bodyW (C := C13) (fn := Tryd.f13) Tryd.func13 (by kernel_rfl) (by kernel_rfl) (rc := c13) z13 (rs := q13) zr13 (by kernel_rfl) (by rw [hl]; rfl) (by rw [hl]; decide) rfl rfl h
theorem ok13 {args : List D} {d : D} (hl : args.length = 1) (h : SWp C13 c13 (fun e s => (match e with | .exit _ => False | _ => True) ∧ rrsWp q13 s fun ds => D.closed (oneOrTup ds) = true ∧ (oneOrTup ds).er = d) (St.init C13 args ⟨[], []⟩)) : Pur M 13 args d :=
  pur_of_body (C := C13) (fn := Tryd.f13) Tryd.func13 (by kernel_rfl) (by kernel_rfl) (rc := c13) z13 (rs := q13) zr13 (by kernel_rfl) (by rw [hl]; rfl) (by rw [hl]; decide) rfl rfl h

/- 26 bogie.bogieref01.Digit · 1 arguments · kept slots [0, 2, 8, 17] -/
noncomputable def E26 (n m : Nat) : Cfg := ⟨M, [0, 2, 8, 17], 22, n, m⟩
noncomputable def C26 : Cfg := E26 0 0
@[reducible] noncomputable def r26_0 : List RO := [
  ⟨(.var 1), .mv, [(.con (.int .i64 0))], none⟩]
@[reducible] noncomputable def r26_1 : List RO := [
  ⟨(.loc 3), .mv, [(.var 0)], none⟩,
  ⟨(.loc 4), (.bin .geq), [(.loc 3), (.con (.int .u8 48))], none⟩,
  ⟨(.loc 5), .mv, [(.loc 4)], none⟩,
  ⟨(.loc 6), .mv, [(.var 0)], (some ((.loc 5), true))⟩,
  ⟨(.loc 7), (.bin .leq), [(.loc 6), (.con (.int .u8 57))], (some ((.loc 5), true))⟩,
  ⟨(.var 2), .pick, [(.loc 5), (.loc 7), (.con (.bool false))], none⟩]
@[reducible] noncomputable def r26_2 : List RO := [
  ⟨(.loc 9), .mv, [(.var 0)], none⟩,
  ⟨(.loc 10), (.bin .sub), [(.loc 9), (.con (.int .u8 48))], none⟩,
  ⟨(.loc 11), (.cvI .i64), [(.loc 10)], none⟩,
  ⟨(.var 1), .mv, [(.loc 11)], none⟩]
@[reducible] noncomputable def r26_3 : List RO := [
  ⟨(.loc 12), .mv, [(.var 0)], none⟩,
  ⟨(.loc 13), (.bin .geq), [(.loc 12), (.con (.int .u8 97))], none⟩,
  ⟨(.loc 14), .mv, [(.loc 13)], none⟩,
  ⟨(.loc 15), .mv, [(.var 0)], (some ((.loc 14), true))⟩,
  ⟨(.loc 16), (.bin .leq), [(.loc 15), (.con (.int .u8 102))], (some ((.loc 14), true))⟩,
  ⟨(.var 3), .pick, [(.loc 14), (.loc 16), (.con (.bool false))], none⟩]
@[reducible] noncomputable def r26_4 : List RO := [
  ⟨(.loc 18), .mv, [(.var 0)], none⟩,
  ⟨(.loc 19), (.bin .sub), [(.loc 18), (.con (.int .u8 97))], none⟩,
  ⟨(.loc 20), (.cvI .i64), [(.loc 19)], none⟩,
  ⟨(.loc 21), (.bin .add), [(.loc 20), (.con (.int .i64 10))], none⟩,
  ⟨(.var 1), .mv, [(.loc 21)], none⟩]
@[reducible] noncomputable def r26_5 : List RO := [
  ⟨(.var 1), .mv, [(.con (.int .i64 (-1)))], none⟩]
theorem P26 : C26.M = M := by unfold C26 E26; rfl
theorem pe26 {n m : Nat} : (E26 n m).M = M := by unfold E26; rfl
theorem i26 {a0 : D} : St.init C26 [a0] ⟨[], []⟩ = ⟨[a0, .undef, .undef, .undef], [], ⟨[], []⟩⟩ := by unfold C26 E26; rfl
theorem ie26 {n m : Nat} {hp : Hp} {a0 : D} : St.init (E26 n m) [a0] hp = ⟨[a0, .undef, .undef, .undef], [], hp⟩ := by unfold E26; rfl
noncomputable def c26 : RC := (.seq (.reg r26_0) (.seq (.seq (.reg r26_1) (.cond (.var 2) (.seq (.reg r26_2) .ret) .skip)) (.seq (.seq (.reg r26_3) (.cond (.var 3) (.seq (.reg r26_4) .ret) .skip)) (.seq (.reg r26_5) .ret))))
noncomputable def q26 : List RR := [(.slot (.var 1))]
theorem z26 {n m : Nat} : resCode (E26 n m) (Tryd.f26.body.getD .skip) = some c26 := by kernel_rfl
theorem zr26 {n m : Nat} : resRs (E26 n m) Tryd.f26.results.toList = some q26 := by kernel_rfl
theorem oe26 {args : List D} {hp : Hp} {R : D → Hp → Prop} (n m : Nat) (hl : args.length = 1) (hn : n = hp.H.length) (hm : m = hp.tk.length) (h : SWp (E26 n m) c26 (fun e s => (match e with | .exit _ => False | _ => True) ∧ ∃ s1, Weak (E26 n m) s s1 ∧ rrsWp q26 s1 fun ds => R (oneOrTup ds) s1.hp) (St.init (E26 n m) args hp)) : Eff M 26 args hp R :=
  eff_of_body (C := E26 n m) (fn := Tryd.f26) Tryd.func26 (by kernel_rfl) (by kernel_rfl) (rc := c26) z26 (rs := q26) zr26 (by kernel_rfl) (by rw [hl]; rfl) (by rw [hl]; exact (by decide : 1 ≤ 22)) hn hm h
theorem ow26 {args : List D} {d : D} (hl : args.length = 1) (h : SWp C26 c26 (fun e s => (match e with | .exit _ => False | _ => True) ∧ ∃ s1, Weak C26 s s1 ∧ rrsWp q26 s1 fun ds => D.closed (oneOrTup ds) = true ∧ (oneOrTup ds).er = d) (St.init C26 args ⟨[], []⟩)) : Pur M 26 args d :=
  pur_of_bodyW (C := C26) (fn := Tryd.f26) Tryd.func26 (by kernel_rfl) (by kernel_rfl) (rc := c26) z26 (rs := q26) zr26 (by kernel_rfl) (by rw [hl]; rfl) (by rw [hl]; decide) rfl rfl h
theorem ok26 {args : List D} {d : D} (hl : args.length = 1) (h : SWp C26 c26 (fun e s => (match e with | .exit _ => False | _ => True) ∧ rrsWp q26 s fun ds => D.closed (oneOrTup ds) = true ∧ (oneOrTup ds).er = d) (St.init C26 args ⟨[], []⟩)) : Pur M 26 args d :=
  pur_of_body (C := C26) (fn := Tryd.f26) Tryd.func26 (by kernel_rfl) (by kernel_rfl) (rc := c26) z26 (rs := q26) zr26 (by kernel_rfl) (by rw [hl]; rfl) (by rw [hl]; decide) rfl rfl h

/- 15 bogie.bogieref01.Is · 1 arguments · kept slots [0, 2, 3, 11, 18] -/
noncomputable def E15 (n m : Nat) : Cfg := ⟨M, [0, 2, 3, 11, 18], 22, n, m⟩
noncomputable def C15 : Cfg := E15 0 0
@[reducible] noncomputable def r15_0 : List RO := [
  ⟨(.var 1), .mv, [(.con (.bool false))], none⟩]
@[reducible] noncomputable def r15_1 : List RO := [
  ⟨(.var 2), .mv, [(.con (.int .i64 0))], none⟩]
@[reducible] noncomputable def r15_2 : List RO := [
  ⟨(.loc 4), .mv, [(.var 2)], none⟩,
  ⟨(.loc 5), .mv, [(.var 0)], none⟩,
  ⟨(.loc 6), .lenS, [(.loc 5)], none⟩,
  ⟨(.loc 7), (.bin .lss), [(.loc 4), (.loc 6)], none⟩,
  ⟨(.loc 8), .mv, [(.loc 7)], none⟩,
  ⟨(.loc 9), .mv, [(.var 2)], (some ((.loc 8), true))⟩,
  ⟨(.loc 10), (.bin .lss), [(.loc 9), (.con (.int .i64 16))], (some ((.loc 8), true))⟩,
  ⟨(.var 3), .pick, [(.loc 8), (.loc 10), (.con (.bool false))], none⟩]
@[reducible] noncomputable def r15_3 : List RO := [
  ⟨(.loc 14), .mv, [(.var 0)], none⟩,
  ⟨(.loc 15), .mv, [(.var 2)], none⟩,
  ⟨(.loc 16), .ixvS, [(.loc 14), (.loc 15)], none⟩,
  ⟨(.loc 17), .call, [(.con (.fn (.func 26) [] [])), (.loc 16)], none⟩,
  ⟨(.var 4), (.bin .lss), [(.loc 17), (.con (.int .i64 0))], none⟩]
@[reducible] noncomputable def r15_4 : List RO := [
  ⟨(.var 1), .mv, [(.con (.bool false))], none⟩]
@[reducible] noncomputable def r15_5 : List RO := [
  ⟨(.loc 12), .mv, [(.var 2)], none⟩,
  ⟨(.loc 13), (.bin .add), [(.loc 12), (.con (.int .i64 1))], none⟩,
  ⟨(.var 2), .mv, [(.loc 13)], none⟩]
@[reducible] noncomputable def r15_6 : List RO := [
  ⟨(.loc 19), .mv, [(.var 0)], none⟩,
  ⟨(.loc 20), .lenS, [(.loc 19)], none⟩,
  ⟨(.loc 21), (.bin .eql), [(.loc 20), (.con (.int .i64 16))], none⟩,
  ⟨(.var 1), .mv, [(.loc 21)], none⟩]
theorem P15 : C15.M = M := by unfold C15 E15; rfl
theorem pe15 {n m : Nat} : (E15 n m).M = M := by unfold E15; rfl
theorem i15 {a0 : D} : St.init C15 [a0] ⟨[], []⟩ = ⟨[a0, .undef, .undef, .undef, .undef], [], ⟨[], []⟩⟩ := by unfold C15 E15; rfl
theorem ie15 {n m : Nat} {hp : Hp} {a0 : D} : St.init (E15 n m) [a0] hp = ⟨[a0, .undef, .undef, .undef, .undef], [], hp⟩ := by unfold E15; rfl
noncomputable def c15 : RC := (.seq (.reg r15_0) (.seq (.seq (.reg r15_1) (.block 0 (.loop (.seq (.seq (.reg r15_2) (.cond (.var 3) .skip (.exit 0))) (.seq (.block 1 (.seq (.reg r15_3) (.cond (.var 4) (.seq (.reg r15_4) .ret) .skip))) (.reg r15_5)))))) (.seq (.reg r15_6) .ret)))
noncomputable def q15 : List RR := [(.slot (.var 1))]
theorem z15 {n m : Nat} : resCode (E15 n m) (Tryd.f15.body.getD .skip) = some c15 := by kernel_rfl
theorem zr15 {n m : Nat} : resRs (E15 n m) Tryd.f15.results.toList = some q15 := by kernel_rfl
theorem oe15 {args : List D} {hp : Hp} {R : D → Hp → Prop} (n m : Nat) (hl : args.length = 1) (hn : n = hp.H.length) (hm : m = hp.tk.length) (h : SWp (E15 n m) c15 (fun e s => (match e with | .exit _ => False | _ => True) ∧ ∃ s1, Weak (E15 n m) s s1 ∧ rrsWp q15 s1 fun ds => R (oneOrTup ds) s1.hp) (St.init (E15 n m) args hp)) : Eff M 15 args hp R :=
  eff_of_body (C := E15 n m) (fn := Tryd.f15) Tryd.func15 (by kernel_rfl) (by kernel_rfl) (rc := c15) z15 (rs := q15) zr15 (by kernel_rfl) (by rw [hl]; rfl) (by rw [hl]; exact (by decide : 1 ≤ 22)) hn hm h
theorem ow15 {args : List D} {d : D} (hl : args.length = 1) (h : SWp C15 c15 (fun e s => (match e with | .exit _ => False | _ => True) ∧ ∃ s1, Weak C15 s s1 ∧ rrsWp q15 s1 fun ds => D.closed (oneOrTup ds) = true ∧ (oneOrTup ds).er = d) (St.init C15 args ⟨[], []⟩)) : Pur M 15 args d :=
  pur_of_bodyW (C := C15) (fn := Tryd.f15) Tryd.func15 (by kernel_rfl) (by kernel_rfl) (rc := c15) z15 (rs := q15) zr15 (by kernel_rfl) (by rw [hl]; rfl) (by rw [hl]; decide) rfl rfl h
theorem ok15 {args : List D} {d : D} (hl : args.length = 1) (h : SWp C15 c15 (fun e s => (match e with | .exit _ => False | _ => True) ∧ rrsWp q15 s fun ds => D.closed (oneOrTup ds) = true ∧ (oneOrTup ds).er = d) (St.init C15 args ⟨[], []⟩)) : Pur M 15 args d :=
  pur_of_body (C := C15) (fn := Tryd.f15) Tryd.func15 (by kernel_rfl) (by kernel_rfl) (rc := c15) z15 (rs := q15) zr15 (by kernel_rfl) (by rw [hl]; rfl) (by rw [hl]; decide) rfl rfl h

/- 17 bogie.bogieref01.Same · 2 arguments · kept slots [0, 1, 4, 5, 10, 14, 25] -/
noncomputable def E17 (n m : Nat) : Cfg := ⟨M, [0, 1, 4, 5, 10, 14, 25], 26, n, m⟩
noncomputable def C17 : Cfg := E17 0 0
@[reducible] noncomputable def r17_0 : List RO := [
  ⟨(.var 2), .mv, [(.con (.bool false))], none⟩]
@[reducible] noncomputable def r17_1 : List RO := [
  ⟨(.loc 6), .mv, [(.var 0)], none⟩,
  ⟨(.loc 7), .lenL, [(.loc 6)], none⟩,
  ⟨(.loc 8), .mv, [(.var 1)], none⟩,
  ⟨(.loc 9), .lenL, [(.loc 8)], none⟩,
  ⟨(.var 4), (.bin .neq), [(.loc 7), (.loc 9)], none⟩]
@[reducible] noncomputable def r17_2 : List RO := [
  ⟨(.var 2), .mv, [(.con (.bool false))], none⟩]
@[reducible] noncomputable def r17_3 : List RO := [
  ⟨(.var 3), .mv, [(.con (.int .i64 0))], none⟩]
@[reducible] noncomputable def r17_4 : List RO := [
  ⟨(.loc 11), .mv, [(.var 3)], none⟩,
  ⟨(.loc 12), .mv, [(.var 0)], none⟩,
  ⟨(.loc 13), .lenL, [(.loc 12)], none⟩,
  ⟨(.var 5), (.bin .lss), [(.loc 11), (.loc 13)], none⟩]
@[reducible] noncomputable def r17_5 : List (RO × Bool) := [
  (⟨(.loc 17), .mv, [(.var 0)], none⟩, true),
  (⟨(.loc 18), .mv, [(.var 3)], none⟩, true),
  (⟨(.loc 19), (.ixaS 1), [(.loc 17), (.loc 18)], none⟩, true),
  (⟨(.loc 20), (.ld false 1), [(.loc 19)], none⟩, true),
  (⟨(.loc 21), .mv, [(.var 1)], none⟩, true),
  (⟨(.loc 22), .mv, [(.var 3)], none⟩, true),
  (⟨(.loc 23), (.ixaS 1), [(.loc 21), (.loc 22)], none⟩, true),
  (⟨(.loc 24), (.ld false 1), [(.loc 23)], none⟩, true)]
@[reducible] noncomputable def r17_6 : List RO := [
  ⟨(.var 6), (.bin .neq), [(.loc 20), (.loc 24)], none⟩]
@[reducible] noncomputable def r17_7 : List RO := [
  ⟨(.var 2), .mv, [(.con (.bool false))], none⟩]
@[reducible] noncomputable def r17_8 : List RO := [
  ⟨(.loc 15), .mv, [(.var 3)], none⟩,
  ⟨(.loc 16), (.bin .add), [(.loc 15), (.con (.int .i64 1))], none⟩,
  ⟨(.var 3), .mv, [(.loc 16)], none⟩]
@[reducible] noncomputable def r17_9 : List RO := [
  ⟨(.var 2), .mv, [(.con (.bool true))], none⟩]
theorem P17 : C17.M = M := by unfold C17 E17; rfl
theorem pe17 {n m : Nat} : (E17 n m).M = M := by unfold E17; rfl
theorem i17 {a0 a1 : D} : St.init C17 [a0, a1] ⟨[], []⟩ = ⟨[a0, a1, .undef, .undef, .undef, .undef, .undef], [], ⟨[], []⟩⟩ := by unfold C17 E17; rfl
theorem ie17 {n m : Nat} {hp : Hp} {a0 a1 : D} : St.init (E17 n m) [a0, a1] hp = ⟨[a0, a1, .undef, .undef, .undef, .undef, .undef], [], hp⟩ := by unfold E17; rfl
noncomputable def c17 : RC := (.seq (.reg r17_0) (.seq (.seq (.reg r17_1) (.cond (.var 4) (.seq (.reg r17_2) .ret) .skip)) (.seq (.seq (.reg r17_3) (.block 0 (.loop (.seq (.seq (.reg r17_4) (.cond (.var 5) .skip (.exit 0))) (.seq (.block 1 (.seq (.regD r17_5 r17_6) (.cond (.var 6) (.seq (.reg r17_7) .ret) .skip))) (.reg r17_8)))))) (.seq (.reg r17_9) .ret))))
noncomputable def q17 : List RR := [(.slot (.var 2))]
theorem z17 {n m : Nat} : resCode (E17 n m) (Tryd.f17.body.getD .skip) = some c17 := by kernel_rfl
theorem zr17 {n m : Nat} : resRs (E17 n m) Tryd.f17.results.toList = some q17 := by kernel_rfl
theorem oe17 {args : List D} {hp : Hp} {R : D → Hp → Prop} (n m : Nat) (hl : args.length = 2) (hn : n = hp.H.length) (hm : m = hp.tk.length) (h : SWp (E17 n m) c17 (fun e s => (match e with | .exit _ => False | _ => True) ∧ ∃ s1, Weak (E17 n m) s s1 ∧ rrsWp q17 s1 fun ds => R (oneOrTup ds) s1.hp) (St.init (E17 n m) args hp)) : Eff M 17 args hp R :=
  eff_of_body (C := E17 n m) (fn := Tryd.f17) Tryd.func17 (by kernel_rfl) (by kernel_rfl) (rc := c17) z17 (rs := q17) zr17 (by kernel_rfl) (by rw [hl]; rfl) (by rw [hl]; exact (by decide : 2 ≤ 26)) hn hm h
theorem ow17 {args : List D} {d : D} (hl : args.length = 2) (h : SWp C17 c17 (fun e s => (match e with | .exit _ => False | _ => True) ∧ ∃ s1, Weak C17 s s1 ∧ rrsWp q17 s1 fun ds => D.closed (oneOrTup ds) = true ∧ (oneOrTup ds).er = d) (St.init C17 args ⟨[], []⟩)) : Pur M 17 args d :=
  pur_of_bodyW (C := C17) (fn := Tryd.f17) Tryd.func17 (by kernel_rfl) (by kernel_rfl) (rc := c17) z17 (rs := q17) zr17 (by kernel_rfl) (by rw [hl]; rfl) (by rw [hl]; decide) rfl rfl h
theorem ok17 {args : List D} {d : D} (hl : args.length = 2) (h : SWp C17 c17 (fun e s => (match e with | .exit _ => False | _ => True) ∧ rrsWp q17 s fun ds => D.closed (oneOrTup ds) = true ∧ (oneOrTup ds).er = d) (St.init C17 args ⟨[], []⟩)) : Pur M 17 args d :=
  pur_of_body (C := C17) (fn := Tryd.f17) Tryd.func17 (by kernel_rfl) (by kernel_rfl) (rc := c17) z17 (rs := q17) zr17 (by kernel_rfl) (by rw [hl]; rfl) (by rw [hl]; decide) rfl rfl h
end Go.Proofs.YtiodnobmnfjdlaaDoor
