/- The resolved code of the functions that the claim reaches, printed by a program, and the facts that tie it to the translation. -/
import Derived.Test.YtapoplenfgjcjaaDoorProg
import Derived.Test.YtapoplenfgjcjaaDoorDa
import Derived.KernelRfl
import Derived.Lib.ItoaNum
set_option maxRecDepth 100000
namespace Go.Proofs.YtapoplenfgjcjaaDoor
open Go GoV

/- 25 bogie.bogieref06.Is · 1 arguments · kept slots [0, 2] -/
noncomputable def E25 (n m : Nat) : Cfg := ⟨M, [0, 2], 9, n, m⟩
noncomputable def C25 : Cfg := E25 0 0
@[reducible] noncomputable def r25_0 : List RO := [
  ⟨(.var 1), .mv, [(.con (.bool false))], none⟩]
@[reducible] noncomputable def r25_1 : List RO := [
  ⟨(.loc 3), .mv, [(.var 0)], none⟩,
  ⟨(.loc 4), (.bin .geq), [(.loc 3), (.con (.int .i64 0))], none⟩,
  ⟨(.loc 5), .mv, [(.loc 4)], none⟩,
  ⟨(.loc 6), .mv, [(.var 0)], (some ((.loc 5), true))⟩,
  ⟨(.loc 7), (.bin .leq), [(.loc 6), (.con (.int .i64 40000))], (some ((.loc 5), true))⟩,
  ⟨(.loc 8), .pick, [(.loc 5), (.loc 7), (.con (.bool false))], none⟩,
  ⟨(.var 1), .mv, [(.loc 8)], none⟩]
theorem P25 : C25.M = M := by unfold C25 E25; rfl
theorem pe25 {n m : Nat} : (E25 n m).M = M := by unfold E25; rfl
theorem i25 {a0 : D} : St.init C25 [a0] ⟨[], []⟩ = ⟨[a0, .undef], [], ⟨[], []⟩⟩ := by unfold C25 E25; rfl
theorem ie25 {n m : Nat} {hp : Hp} {a0 : D} : St.init (E25 n m) [a0] hp = ⟨[a0, .undef], [], hp⟩ := by unfold E25; rfl
noncomputable def c25 : RC := (.seq (.reg r25_0) (.seq (.reg r25_1) .ret))
noncomputable def q25 : List RR := [(.slot (.var 1))]
theorem z25 {n m : Nat} : resCode (E25 n m) (Tryd.f25.body.getD .skip) = some c25 := by kernel_rfl
theorem zr25 {n m : Nat} : resRs (E25 n m) Tryd.f25.results.toList = some q25 := by kernel_rfl
theorem oe25 {args : List D} {hp : Hp} {R : D → Hp → Prop} (n m : Nat) (hl : args.length = 1) (hn : n = hp.H.length) (hm : m = hp.tk.length) (h : SWp (E25 n m) c25 (fun e s => (match e with | .exit _ => False | _ => True) ∧ ∃ s1, Weak (E25 n m) s s1 ∧ rrsWp q25 s1 fun ds => R (oneOrTup ds) s1.hp) (St.init (E25 n m) args hp)) : Eff M 25 args hp R :=
  eff_of_body (C := E25 n m) (fn := Tryd.f25) Tryd.func25 (by kernel_rfl) (by kernel_rfl) (rc := c25) z25 (rs := q25) zr25 (by kernel_rfl) (by rw [hl]; rfl) (by rw [hl]; exact (by decide : 1 ≤ 9)) hn hm h
theorem ow25 {args : List D} {d : D} (hl : args.length = 1) (h : SWp C25 c25 (fun e s => (match e with | .exit _ => False | _ => True) ∧ ∃ s1, Weak C25 s s1 ∧ rrsWp q25 s1 fun ds => D.closed (oneOrTup ds) = true ∧ (oneOrTup ds).er = d) (St.init C25 args ⟨[], []⟩)) : Pur M 25 args d :=
  pur_of_bodyW (C := C25) (fn := Tryd.f25) Tryd.func25 (by kernel_rfl) (by kernel_rfl) (rc := c25) z25 (rs := q25) zr25 (by kernel_rfl) (by rw [hl]; rfl) (by rw [hl]; decide) rfl rfl h
theorem ok25 {args : List D} {d : D} (hl : args.length = 1) (h : SWp C25 c25 (fun e s => (match e with | .exit _ => False | _ => True) ∧ rrsWp q25 s fun ds => D.closed (oneOrTup ds) = true ∧ (oneOrTup ds).er = d) (St.init C25 args ⟨[], []⟩)) : Pur M 25 args d :=
  pur_of_body (C := C25) (fn := Tryd.f25) Tryd.func25 (by kernel_rfl) (by kernel_rfl) (rc := c25) z25 (rs := q25) zr25 (by kernel_rfl) (by rw [hl]; rfl) (by rw [hl]; decide) rfl rfl h

/- 35 bogie.bogieref06.Leap · 1 arguments · kept slots [0, 2] -/
noncomputable def E35 (n m : Nat) : Cfg := ⟨M, [0, 2], 16, n, m⟩
noncomputable def C35 : Cfg := E35 0 0
@[reducible] noncomputable def r35_0 : List RO := [
  ⟨(.var 1), .mv, [(.con (.bool false))], none⟩]
@[reducible] noncomputable def r35_1 : List RO := [
  ⟨(.loc 3), .mv, [(.var 0)], none⟩,
  ⟨(.loc 4), (.bin .rem), [(.loc 3), (.con (.int .i64 4))], none⟩,
  ⟨(.loc 5), (.bin .eql), [(.loc 4), (.con (.int .i64 0))], none⟩,
  ⟨(.loc 6), .mv, [(.loc 5)], none⟩,
  ⟨(.loc 7), .mv, [(.var 0)], (some ((.loc 6), true))⟩,
  ⟨(.loc 8), (.bin .rem), [(.loc 7), (.con (.int .i64 100))], (some ((.loc 6), true))⟩,
  ⟨(.loc 9), (.bin .neq), [(.loc 8), (.con (.int .i64 0))], (some ((.loc 6), true))⟩,
  ⟨(.loc 10), .pick, [(.loc 6), (.loc 9), (.con (.bool false))], none⟩,
  ⟨(.loc 11), .mv, [(.loc 10)], none⟩,
  ⟨(.loc 12), .mv, [(.var 0)], (some ((.loc 11), false))⟩,
  ⟨(.loc 13), (.bin .rem), [(.loc 12), (.con (.int .i64 400))], (some ((.loc 11), false))⟩,
  ⟨(.loc 14), (.bin .eql), [(.loc 13), (.con (.int .i64 0))], (some ((.loc 11), false))⟩,
  ⟨(.loc 15), .pick, [(.loc 11), (.con (.bool true)), (.loc 14)], none⟩,
  ⟨(.var 1), .mv, [(.loc 15)], none⟩]
theorem P35 : C35.M = M := by unfold C35 E35; rfl
theorem pe35 {n m : Nat} : (E35 n m).M = M := by unfold E35; rfl
theorem i35 {a0 : D} : St.init C35 [a0] ⟨[], []⟩ = ⟨[a0, .undef], [], ⟨[], []⟩⟩ := by unfold C35 E35; rfl
theorem ie35 {n m : Nat} {hp : Hp} {a0 : D} : St.init (E35 n m) [a0] hp = ⟨[a0, .undef], [], hp⟩ := by unfold E35; rfl
noncomputable def c35 : RC := (.seq (.reg r35_0) (.seq (.reg r35_1) .ret))
noncomputable def q35 : List RR := [(.slot (.var 1))]
theorem z35 {n m : Nat} : resCode (E35 n m) (Tryd.f35.body.getD .skip) = some c35 := by kernel_rfl
theorem zr35 {n m : Nat} : resRs (E35 n m) Tryd.f35.results.toList = some q35 := by kernel_rfl
theorem oe35 {args : List D} {hp : Hp} {R : D → Hp → Prop} (n m : Nat) (hl : args.length = 1) (hn : n = hp.H.length) (hm : m = hp.tk.length) (h : SWp (E35 n m) c35 (fun e s => (match e with | .exit _ => False | _ => True) ∧ ∃ s1, Weak (E35 n m) s s1 ∧ rrsWp q35 s1 fun ds => R (oneOrTup ds) s1.hp) (St.init (E35 n m) args hp)) : Eff M 35 args hp R :=
  eff_of_body (C := E35 n m) (fn := Tryd.f35) Tryd.func35 (by kernel_rfl) (by kernel_rfl) (rc := c35) z35 (rs := q35) zr35 (by kernel_rfl) (by rw [hl]; rfl) (by rw [hl]; exact (by decide : 1 ≤ 16)) hn hm h
theorem ow35 {args : List D} {d : D} (hl : args.length = 1) (h : SWp C35 c35 (fun e s => (match e with | .exit _ => False | _ => True) ∧ ∃ s1, Weak C35 s s1 ∧ rrsWp q35 s1 fun ds => D.closed (oneOrTup ds) = true ∧ (oneOrTup ds).er = d) (St.init C35 args ⟨[], []⟩)) : Pur M 35 args d :=
  pur_of_bodyW (C := C35) (fn := Tryd.f35) Tryd.func35 (by kernel_rfl) (by kernel_rfl) (rc := c35) z35 (rs := q35) zr35 (by kernel_rfl) (by rw [hl]; rfl) (by rw [hl]; decide) rfl rfl h
theorem ok35 {args : List D} {d : D} (hl : args.length = 1) (h : SWp C35 c35 (fun e s => (match e with | .exit _ => False | _ => True) ∧ rrsWp q35 s fun ds => D.closed (oneOrTup ds) = true ∧ (oneOrTup ds).er = d) (St.init C35 args ⟨[], []⟩)) : Pur M 35 args d :=
  pur_of_body (C := C35) (fn := Tryd.f35) Tryd.func35 (by kernel_rfl) (by kernel_rfl) (rc := c35) z35 (rs := q35) zr35 (by kernel_rfl) (by rw [hl]; rfl) (by rw [hl]; decide) rfl rfl h

/- 26 bogie.bogieref06.Length · 2 arguments · kept slots [0, 1, 4, 10, 12, 26] -/
noncomputable def E26 (n m : Nat) : Cfg := ⟨M, [0, 1, 4, 10, 12, 26], 27, n, m⟩
noncomputable def C26 : Cfg := E26 0 0
@[reducible] noncomputable def r26_0 : List RO := [
  ⟨(.var 2), .mv, [(.con (.int .i64 0))], none⟩]
@[reducible] noncomputable def r26_1 : List RO := [
  ⟨(.loc 5), .mv, [(.var 1)], none⟩,
  ⟨(.loc 6), (.bin .eql), [(.loc 5), (.con (.int .i64 2))], none⟩,
  ⟨(.loc 7), .mv, [(.loc 6)], none⟩,
  ⟨(.loc 8), .mv, [(.var 0)], (some ((.loc 7), true))⟩,
  ⟨(.loc 9), .call, [(.con (.fn (.func 35) [] [])), (.loc 8)], (some ((.loc 7), true))⟩,
  ⟨(.var 3), .pick, [(.loc 7), (.loc 9), (.con (.bool false))], none⟩]
@[reducible] noncomputable def r26_2 : List RO := [
  ⟨(.var 2), .mv, [(.con (.int .i64 29))], none⟩]
@[reducible] noncomputable def r26_3 : List RO := [
  ⟨(.loc 11), .mv, [(.var 1)], none⟩,
  ⟨(.var 4), (.bin .eql), [(.loc 11), (.con (.int .i64 2))], none⟩]
@[reducible] noncomputable def r26_4 : List RO := [
  ⟨(.var 2), .mv, [(.con (.int .i64 28))], none⟩]
@[reducible] noncomputable def r26_5 : List RO := [
  ⟨(.loc 13), .mv, [(.var 1)], none⟩,
  ⟨(.loc 14), (.bin .eql), [(.loc 13), (.con (.int .i64 4))], none⟩,
  ⟨(.loc 15), .mv, [(.loc 14)], none⟩,
  ⟨(.loc 16), .mv, [(.var 1)], (some ((.loc 15), false))⟩,
  ⟨(.loc 17), (.bin .eql), [(.loc 16), (.con (.int .i64 6))], (some ((.loc 15), false))⟩,
  ⟨(.loc 18), .pick, [(.loc 15), (.con (.bool true)), (.loc 17)], none⟩,
  ⟨(.loc 19), .mv, [(.loc 18)], none⟩,
  ⟨(.loc 20), .mv, [(.var 1)], (some ((.loc 19), false))⟩,
  ⟨(.loc 21), (.bin .eql), [(.loc 20), (.con (.int .i64 9))], (some ((.loc 19), false))⟩,
  ⟨(.loc 22), .pick, [(.loc 19), (.con (.bool true)), (.loc 21)], none⟩,
  ⟨(.loc 23), .mv, [(.loc 22)], none⟩,
  ⟨(.loc 24), .mv, [(.var 1)], (some ((.loc 23), false))⟩,
  ⟨(.loc 25), (.bin .eql), [(.loc 24), (.con (.int .i64 11))], (some ((.loc 23), false))⟩,
  ⟨(.var 5), .pick, [(.loc 23), (.con (.bool true)), (.loc 25)], none⟩]
@[reducible] noncomputable def r26_6 : List RO := [
  ⟨(.var 2), .mv, [(.con (.int .i64 30))], none⟩]
@[reducible] noncomputable def r26_7 : List RO := [
  ⟨(.var 2), .mv, [(.con (.int .i64 31))], none⟩]
theorem P26 : C26.M = M := by unfold C26 E26; rfl
theorem pe26 {n m : Nat} : (E26 n m).M = M := by unfold E26; rfl
theorem i26 {a0 a1 : D} : St.init C26 [a0, a1] ⟨[], []⟩ = ⟨[a0, a1, .undef, .undef, .undef, .undef], [], ⟨[], []⟩⟩ := by unfold C26 E26; rfl
theorem ie26 {n m : Nat} {hp : Hp} {a0 a1 : D} : St.init (E26 n m) [a0, a1] hp = ⟨[a0, a1, .undef, .undef, .undef, .undef], [], hp⟩ := by unfold E26; rfl
noncomputable def c26 : RC := (.seq (.reg r26_0) (.seq (.seq (.reg r26_1) (.cond (.var 3) (.seq (.reg r26_2) .ret) .skip)) (.seq (.seq (.reg r26_3) (.cond (.var 4) (.seq (.reg r26_4) .ret) .skip)) (.seq (.seq (.reg r26_5) (.cond (.var 5) (.seq (.reg r26_6) .ret) .skip)) (.seq (.reg r26_7) .ret)))))
noncomputable def q26 : List RR := [(.slot (.var 2))]
theorem z26 {n m : Nat} : resCode (E26 n m) (Tryd.f26.body.getD .skip) = some c26 := by kernel_rfl
theorem zr26 {n m : Nat} : resRs (E26 n m) Tryd.f26.results.toList = some q26 := by kernel_rfl
theorem oe26 {args : List D} {hp : Hp} {R : D → Hp → Prop} (n m : Nat) (hl : args.length = 2) (hn : n = hp.H.length) (hm : m = hp.tk.length) (h : SWp (E26 n m) c26 (fun e s => (match e with | .exit _ => False | _ => True) ∧ ∃ s1, Weak (E26 n m) s s1 ∧ rrsWp q26 s1 fun ds => R (oneOrTup ds) s1.hp) (St.init (E26 n m) args hp)) : Eff M 26 args hp R :=
  eff_of_body (C := E26 n m) (fn := Tryd.f26) Tryd.func26 (by kernel_rfl) (by kernel_rfl) (rc := c26) z26 (rs := q26) zr26 (by kernel_rfl) (by rw [hl]; rfl) (by rw [hl]; exact (by decide : 2 ≤ 27)) hn hm h
theorem ow26 {args : List D} {d : D} (hl : args.length = 2) (h : SWp C26 c26 (fun e s => (match e with | .exit _ => False | _ => True) ∧ ∃ s1, Weak C26 s s1 ∧ rrsWp q26 s1 fun ds => D.closed (oneOrTup ds) = true ∧ (oneOrTup ds).er = d) (St.init C26 args ⟨[], []⟩)) : Pur M 26 args d :=
  pur_of_bodyW (C := C26) (fn := Tryd.f26) Tryd.func26 (by kernel_rfl) (by kernel_rfl) (rc := c26) z26 (rs := q26) zr26 (by kernel_rfl) (by rw [hl]; rfl) (by rw [hl]; decide) rfl rfl h
theorem ok26 {args : List D} {d : D} (hl : args.length = 2) (h : SWp C26 c26 (fun e s => (match e with | .exit _ => False | _ => True) ∧ rrsWp q26 s fun ds => D.closed (oneOrTup ds) = true ∧ (oneOrTup ds).er = d) (St.init C26 args ⟨[], []⟩)) : Pur M 26 args d :=
  pur_of_body (C := C26) (fn := Tryd.f26) Tryd.func26 (by kernel_rfl) (by kernel_rfl) (rc := c26) z26 (rs := q26) zr26 (by kernel_rfl) (by rw [hl]; rfl) (by rw [hl]; decide) rfl rfl h

/- 12 bogie.bogieref06.Date · 1 arguments · kept slots [0, 2, 3, 4, 5, 6, 7, 10, 15, 24] -/
noncomputable def E12 (n m : Nat) : Cfg := ⟨M, [0, 2, 3, 4, 5, 6, 7, 10, 15, 24], 31, n, m⟩
noncomputable def C12 : Cfg := E12 0 0
@[reducible] noncomputable def r12_0 : List RO := [
  ⟨(.var 1), .mv, [(.con (.int .i64 0))], none⟩,
  ⟨(.var 2), .mv, [(.con (.int .i64 0))], none⟩,
  ⟨(.var 3), .mv, [(.con (.int .i64 0))], none⟩,
  ⟨(.var 4), .mv, [(.con (.int .i64 0))], none⟩]
@[reducible] noncomputable def r12_1 : List RO := [
  ⟨(.loc 8), .mv, [(.var 0)], none⟩,
  ⟨(.loc 9), .call, [(.con (.fn (.func 25) [] [])), (.loc 8)], none⟩,
  ⟨(.var 7), (.un .not), [(.loc 9)], none⟩]
@[reducible] noncomputable def r12_2 : List RO := [
  ⟨(.var 1), .mv, [(.con (.int .i64 0))], none⟩,
  ⟨(.var 2), .mv, [(.con (.int .i64 0))], none⟩,
  ⟨(.var 3), .mv, [(.con (.int .i64 0))], none⟩,
  ⟨(.var 4), .mv, [(.con (.int .i64 13))], none⟩]
@[reducible] noncomputable def r12_3 : List RO := [
  ⟨(.var 5), .mv, [(.con (.int .i64 2000))], none⟩]
@[reducible] noncomputable def r12_4 : List RO := [
  ⟨(.var 6), .mv, [(.con (.int .i64 1))], none⟩]
@[reducible] noncomputable def r12_5 : List RO := [
  ⟨(.loc 11), .mv, [(.var 0)], none⟩,
  ⟨(.loc 12), .mv, [(.var 5)], none⟩,
  ⟨(.loc 13), .mv, [(.var 6)], none⟩,
  ⟨(.loc 14), .call, [(.con (.fn (.func 26) [] [])), (.loc 12), (.loc 13)], none⟩,
  ⟨(.var 8), (.bin .geq), [(.loc 11), (.loc 14)], none⟩]
@[reducible] noncomputable def r12_6 : List RO := [
  ⟨(.loc 16), .mv, [(.var 0)], none⟩,
  ⟨(.loc 17), .mv, [(.var 5)], none⟩,
  ⟨(.loc 18), .mv, [(.var 6)], none⟩,
  ⟨(.loc 19), .call, [(.con (.fn (.func 26) [] [])), (.loc 17), (.loc 18)], none⟩,
  ⟨(.loc 20), (.bin .sub), [(.loc 16), (.loc 19)], none⟩,
  ⟨(.var 0), .mv, [(.loc 20)], none⟩]
@[reducible] noncomputable def r12_7 : List RO := [
  ⟨(.loc 21), .mv, [(.var 6)], none⟩,
  ⟨(.loc 22), (.bin .add), [(.loc 21), (.con (.int .i64 1))], none⟩,
  ⟨(.var 6), .mv, [(.loc 22)], none⟩]
@[reducible] noncomputable def r12_8 : List RO := [
  ⟨(.loc 23), .mv, [(.var 6)], none⟩,
  ⟨(.var 9), (.bin .eql), [(.loc 23), (.con (.int .i64 13))], none⟩]
@[reducible] noncomputable def r12_9 : List RO := [
  ⟨(.loc 25), .mv, [(.var 5)], none⟩,
  ⟨(.loc 26), (.bin .add), [(.loc 25), (.con (.int .i64 1))], none⟩,
  ⟨(.var 5), .mv, [(.loc 26)], none⟩]
@[reducible] noncomputable def r12_10 : List RO := [
  ⟨(.var 6), .mv, [(.con (.int .i64 1))], none⟩]
@[reducible] noncomputable def r12_11 : List RO := [
  ⟨(.loc 27), .mv, [(.var 5)], none⟩,
  ⟨(.loc 28), .mv, [(.var 6)], none⟩,
  ⟨(.loc 29), .mv, [(.var 0)], none⟩,
  ⟨(.loc 30), (.bin .add), [(.loc 29), (.con (.int .i64 1))], none⟩,
  ⟨(.var 1), .mv, [(.loc 27)], none⟩,
  ⟨(.var 2), .mv, [(.loc 28)], none⟩,
  ⟨(.var 3), .mv, [(.loc 30)], none⟩,
  ⟨(.var 4), .mv, [(.con (.int .i64 0))], none⟩]
theorem P12 : C12.M = M := by unfold C12 E12; rfl
theorem pe12 {n m : Nat} : (E12 n m).M = M := by unfold E12; rfl
theorem i12 {a0 : D} : St.init C12 [a0] ⟨[], []⟩ = ⟨[a0, .undef, .undef, .undef, .undef, .undef, .undef, .undef, .undef, .undef], [], ⟨[], []⟩⟩ := by unfold C12 E12; rfl
theorem ie12 {n m : Nat} {hp : Hp} {a0 : D} : St.init (E12 n m) [a0] hp = ⟨[a0, .undef, .undef, .undef, .undef, .undef, .undef, .undef, .undef, .undef], [], hp⟩ := by unfold E12; rfl
noncomputable def c12 : RC := (.seq (.reg r12_0) (.seq (.seq (.reg r12_1) (.cond (.var 7) (.seq (.reg r12_2) .ret) .skip)) (.seq (.reg r12_3) (.seq (.reg r12_4) (.seq (.block 0 (.loop (.seq (.seq (.reg r12_5) (.cond (.var 8) .skip (.exit 0))) (.block 1 (.seq (.reg r12_6) (.seq (.reg r12_7) (.seq (.reg r12_8) (.cond (.var 9) (.seq (.reg r12_9) (.reg r12_10)) .skip)))))))) (.seq (.reg r12_11) .ret))))))
noncomputable def q12 : List RR := [(.slot (.var 1)), (.slot (.var 2)), (.slot (.var 3)), (.slot (.var 4))]
theorem z12 {n m : Nat} : resCode (E12 n m) (Tryd.f12.body.getD .skip) = some c12 := by kernel_rfl
theorem zr12 {n m : Nat} : resRs (E12 n m) Tryd.f12.results.toList = some q12 := by kernel_rfl
theorem oe12 {args : List D} {hp : Hp} {R : D → Hp → Prop} (n m : Nat) (hl : args.length = 1) (hn : n = hp.H.length) (hm : m = hp.tk.length) (h : SWp (E12 n m) c12 (fun e s => (match e with | .exit _ => False | _ => True) ∧ ∃ s1, Weak (E12 n m) s s1 ∧ rrsWp q12 s1 fun ds => R (oneOrTup ds) s1.hp) (St.init (E12 n m) args hp)) : Eff M 12 args hp R :=
  eff_of_body (C := E12 n m) (fn := Tryd.f12) Tryd.func12 (by kernel_rfl) (by kernel_rfl) (rc := c12) z12 (rs := q12) zr12 (by kernel_rfl) (by rw [hl]; rfl) (by rw [hl]; exact (by decide : 1 ≤ 31)) hn hm h
theorem ow12 {args : List D} {d : D} (hl : args.length = 1) (h : SWp C12 c12 (fun e s => (match e with | .exit _ => False | _ => True) ∧ ∃ s1, Weak C12 s s1 ∧ rrsWp q12 s1 fun ds => D.closed (oneOrTup ds) = true ∧ (oneOrTup ds).er = d) (St.init C12 args ⟨[], []⟩)) : Pur M 12 args d :=
  pur_of_bodyW (C := C12) (fn := Tryd.f12) Tryd.func12 (by kernel_rfl) (by kernel_rfl) (rc := c12) z12 (rs := q12) zr12 (by kernel_rfl) (by rw [hl]; rfl) (by rw [hl]; decide) rfl rfl h
theorem ok12 {args : List D} {d : D} (hl : args.length = 1) (h : SWp C12 c12 (fun e s => (match e with | .exit _ => False | _ => True) ∧ rrsWp q12 s fun ds => D.closed (oneOrTup ds) = true ∧ (oneOrTup ds).er = d) (St.init C12 args ⟨[], []⟩)) : Pur M 12 args d :=
  pur_of_body (C := C12) (fn := Tryd.f12) Tryd.func12 (by kernel_rfl) (by kernel_rfl) (rc := c12) z12 (rs := q12) zr12 (by kernel_rfl) (by rw [hl]; rfl) (by rw [hl]; decide) rfl rfl h

/- 13 bogie.bogieref06.Number · 3 arguments · kept slots [0, 1, 2, 6, 7, 8, 9, 10, 27, 33, 38, 42, 52, 60] -/
noncomputable def E13 (n m : Nat) : Cfg := ⟨M, [0, 1, 2, 6, 7, 8, 9, 10, 27, 33, 38, 42, 52, 60], 62, n, m⟩
noncomputable def C13 : Cfg := E13 0 0
@[reducible] noncomputable def r13_0 : List RO := [
  ⟨(.var 3), .mv, [(.con (.int .i64 0))], none⟩,
  ⟨(.var 4), .mv, [(.con (.int .i64 0))], none⟩]
@[reducible] noncomputable def r13_1 : List RO := [
  ⟨(.loc 11), .mv, [(.var 1)], none⟩,
  ⟨(.loc 12), (.bin .lss), [(.loc 11), (.con (.int .i64 1))], none⟩,
  ⟨(.loc 13), .mv, [(.loc 12)], none⟩,
  ⟨(.loc 14), .mv, [(.var 1)], (some ((.loc 13), false))⟩,
  ⟨(.loc 15), (.bin .gtr), [(.loc 14), (.con (.int .i64 12))], (some ((.loc 13), false))⟩,
  ⟨(.loc 16), .pick, [(.loc 13), (.con (.bool true)), (.loc 15)], none⟩,
  ⟨(.loc 17), .mv, [(.loc 16)], none⟩,
  ⟨(.loc 18), .mv, [(.var 2)], (some ((.loc 17), false))⟩,
  ⟨(.loc 19), (.bin .lss), [(.loc 18), (.con (.int .i64 1))], (some ((.loc 17), false))⟩,
  ⟨(.loc 20), .pick, [(.loc 17), (.con (.bool true)), (.loc 19)], none⟩,
  ⟨(.loc 21), .mv, [(.loc 20)], none⟩,
  ⟨(.loc 22), .mv, [(.var 2)], (some ((.loc 21), false))⟩,
  ⟨(.loc 23), .mv, [(.var 0)], (some ((.loc 21), false))⟩,
  ⟨(.loc 24), .mv, [(.var 1)], (some ((.loc 21), false))⟩,
  ⟨(.loc 25), .call, [(.con (.fn (.func 26) [] [])), (.loc 23), (.loc 24)], (some ((.loc 21), false))⟩,
  ⟨(.loc 26), (.bin .gtr), [(.loc 22), (.loc 25)], (some ((.loc 21), false))⟩,
  ⟨(.var 8), .pick, [(.loc 21), (.con (.bool true)), (.loc 26)], none⟩]
@[reducible] noncomputable def r13_2 : List RO := [
  ⟨(.var 3), .mv, [(.con (.int .i64 0))], none⟩,
  ⟨(.var 4), .mv, [(.con (.int .i64 1))], none⟩]
@[reducible] noncomputable def r13_3 : List RO := [
  ⟨(.loc 28), .mv, [(.var 0)], none⟩,
  ⟨(.loc 29), (.bin .lss), [(.loc 28), (.con (.int .i64 2000))], none⟩,
  ⟨(.loc 30), .mv, [(.loc 29)], none⟩,
  ⟨(.loc 31), .mv, [(.var 0)], (some ((.loc 30), false))⟩,
  ⟨(.loc 32), (.bin .gtr), [(.loc 31), (.con (.int .i64 2109))], (some ((.loc 30), false))⟩,
  ⟨(.var 9), .pick, [(.loc 30), (.con (.bool true)), (.loc 32)], none⟩]
@[reducible] noncomputable def r13_4 : List RO := [
  ⟨(.var 3), .mv, [(.con (.int .i64 0))], none⟩,
  ⟨(.var 4), .mv, [(.con (.int .i64 13))], none⟩]
@[reducible] noncomputable def r13_5 : List RO := [
  ⟨(.loc 34), .mv, [(.var 2)], none⟩,
  ⟨(.loc 35), (.bin .sub), [(.loc 34), (.con (.int .i64 1))], none⟩,
  ⟨(.var 5), .mv, [(.loc 35)], none⟩]
@[reducible] noncomputable def r13_6 : List RO := [
  ⟨(.var 6), .mv, [(.con (.int .i64 2000))], none⟩]
@[reducible] noncomputable def r13_7 : List RO := [
  ⟨(.loc 36), .mv, [(.var 6)], none⟩,
  ⟨(.loc 37), .mv, [(.var 0)], none⟩,
  ⟨(.var 10), (.bin .leq), [(.loc 36), (.loc 37)], none⟩]
@[reducible] noncomputable def r13_8 : List RO := [
  ⟨(.var 7), .mv, [(.con (.int .i64 1))], none⟩]
@[reducible] noncomputable def r13_9 : List RO := [
  ⟨(.loc 41), .mv, [(.var 7)], none⟩,
  ⟨(.var 11), (.bin .leq), [(.loc 41), (.con (.int .i64 12))], none⟩]
@[reducible] noncomputable def r13_10 : List RO := [
  ⟨(.loc 45), .mv, [(.var 6)], none⟩,
  ⟨(.loc 46), .mv, [(.var 0)], none⟩,
  ⟨(.loc 47), (.bin .lss), [(.loc 45), (.loc 46)], none⟩,
  ⟨(.loc 48), .mv, [(.loc 47)], none⟩,
  ⟨(.loc 49), .mv, [(.var 7)], (some ((.loc 48), false))⟩,
  ⟨(.loc 50), .mv, [(.var 1)], (some ((.loc 48), false))⟩,
  ⟨(.loc 51), (.bin .lss), [(.loc 49), (.loc 50)], (some ((.loc 48), false))⟩,
  ⟨(.var 12), .pick, [(.loc 48), (.con (.bool true)), (.loc 51)], none⟩]
@[reducible] noncomputable def r13_11 : List RO := [
  ⟨(.loc 53), .mv, [(.var 5)], none⟩,
  ⟨(.loc 54), .mv, [(.var 6)], none⟩,
  ⟨(.loc 55), .mv, [(.var 7)], none⟩,
  ⟨(.loc 56), .call, [(.con (.fn (.func 26) [] [])), (.loc 54), (.loc 55)], none⟩,
  ⟨(.loc 57), (.bin .add), [(.loc 53), (.loc 56)], none⟩,
  ⟨(.var 5), .mv, [(.loc 57)], none⟩]
@[reducible] noncomputable def r13_12 : List RO := [
  ⟨(.loc 43), .mv, [(.var 7)], none⟩,
  ⟨(.loc 44), (.bin .add), [(.loc 43), (.con (.int .i64 1))], none⟩,
  ⟨(.var 7), .mv, [(.loc 44)], none⟩]
@[reducible] noncomputable def r13_13 : List RO := [
  ⟨(.loc 39), .mv, [(.var 6)], none⟩,
  ⟨(.loc 40), (.bin .add), [(.loc 39), (.con (.int .i64 1))], none⟩,
  ⟨(.var 6), .mv, [(.loc 40)], none⟩]
@[reducible] noncomputable def r13_14 : List RO := [
  ⟨(.loc 58), .mv, [(.var 5)], none⟩,
  ⟨(.loc 59), .call, [(.con (.fn (.func 25) [] [])), (.loc 58)], none⟩,
  ⟨(.var 13), (.un .not), [(.loc 59)], none⟩]
@[reducible] noncomputable def r13_15 : List RO := [
  ⟨(.var 3), .mv, [(.con (.int .i64 0))], none⟩,
  ⟨(.var 4), .mv, [(.con (.int .i64 13))], none⟩]
@[reducible] noncomputable def r13_16 : List RO := [
  ⟨(.loc 61), .mv, [(.var 5)], none⟩,
  ⟨(.var 3), .mv, [(.loc 61)], none⟩,
  ⟨(.var 4), .mv, [(.con (.int .i64 0))], none⟩]
theorem P13 : C13.M = M := by unfold C13 E13; rfl
theorem pe13 {n m : Nat} : (E13 n m).M = M := by unfold E13; rfl
theorem i13 {a0 a1 a2 : D} : St.init C13 [a0, a1, a2] ⟨[], []⟩ = ⟨[a0, a1, a2, .undef, .undef, .undef, .undef, .undef, .undef, .undef, .undef, .undef, .undef, .undef], [], ⟨[], []⟩⟩ := by unfold C13 E13; rfl
theorem ie13 {n m : Nat} {hp : Hp} {a0 a1 a2 : D} : St.init (E13 n m) [a0, a1, a2] hp = ⟨[a0, a1, a2, .undef, .undef, .undef, .undef, .undef, .undef, .undef, .undef, .undef, .undef, .undef], [], hp⟩ := by unfold E13; rfl
noncomputable def c13 : RC := (.seq (.reg r13_0) (.seq (.seq (.reg r13_1) (.cond (.var 8) (.seq (.reg r13_2) .ret) .skip)) (.seq (.seq (.reg r13_3) (.cond (.var 9) (.seq (.reg r13_4) .ret) .skip)) (.seq (.reg r13_5) (.seq (.seq (.reg r13_6) (.block 0 (.loop (.seq (.seq (.reg r13_7) (.cond (.var 10) .skip (.exit 0))) (.seq (.block 1 (.seq (.reg r13_8) (.block 2 (.loop (.seq (.seq (.reg r13_9) (.cond (.var 11) .skip (.exit 2))) (.seq (.block 3 (.seq (.reg r13_10) (.cond (.var 12) (.reg r13_11) .skip))) (.reg r13_12))))))) (.reg r13_13)))))) (.seq (.seq (.reg r13_14) (.cond (.var 13) (.seq (.reg r13_15) .ret) .skip)) (.seq (.reg r13_16) .ret)))))))
noncomputable def q13 : List RR := [(.slot (.var 3)), (.slot (.var 4))]
theorem z13 {n m : Nat} : resCode (E13 n m) (Tryd.f13.body.getD .skip) = some c13 := by kernel_rfl
theorem zr13 {n m : Nat} : resRs (E13 n m) Tryd.f13.results.toList = some q13 := by kernel_rfl
theorem oe13 {args : List D} {hp : Hp} {R : D → Hp → Prop} (n m : Nat) (hl : args.length = 3) (hn : n = hp.H.length) (hm : m = hp.tk.length) (h : SWp (E13 n m) c13 (fun e s => (match e with | .exit _ => False | _ => True) ∧ ∃ s1, Weak (E13 n m) s s1 ∧ rrsWp q13 s1 fun ds => R (oneOrTup ds) s1.hp) (St.init (E13 n m) args hp)) : Eff M 13 args hp R :=
  eff_of_body (C := E13 n m) (fn := Tryd.f13) Tryd.func13 (by kernel_rfl) (by kernel_rfl) (rc := c13) z13 (rs := q13) zr13 (by kernel_rfl) (by rw [hl]; rfl) (by rw [hl]; exact (by decide : 3 ≤ 62)) hn hm h
theorem ow13 {args : List D} {d : D} (hl : args.length = 3) (h : SWp C13 c13 (fun e s => (match e with | .exit _ => False | _ => True) ∧ ∃ s1, Weak C13 s s1 ∧ rrsWp q13 s1 fun ds => D.closed (oneOrTup ds) = true ∧ (oneOrTup ds).er = d) (St.init C13 args ⟨[], []⟩)) : Pur M 13 args d :=
  pur_of_bodyW (C := C13) (fn := Tryd.f13) Tryd.func13 (by kernel_rfl) (by kernel_rfl) (rc := c13) z13 (rs := q13) zr13 (by kernel_rfl) (by rw [hl]; rfl) (by rw [hl]; decide) rfl rfl h
theorem ok13 {args : List D} {d : D} (hl : args.length = 3) (h : SWp C13 c13 (fun e s => (match e with | .exit _ => False | _ => True) ∧ rrsWp q13 s fun ds => D.closed (oneOrTup ds) = true ∧ (oneOrTup ds).er = d) (St.init C13 args ⟨[], []⟩)) : Pur M 13 args d :=
  pur_of_body (C := C13) (fn := Tryd.f13) Tryd.func13 (by kernel_rfl) (by kernel_rfl) (rc := c13) z13 (rs := q13) zr13 (by kernel_rfl) (by rw [hl]; rfl) (by rw [hl]; decide) rfl rfl h

/- 29 bogie.bogieref06.digits · 2 arguments · kept slots [0, 1, 4, 5, 6, 9] -/
noncomputable def E29 (n m : Nat) : Cfg := ⟨M, [0, 1, 4, 5, 6, 9], 23, n, m⟩
noncomputable def C29 : Cfg := E29 0 0
@[reducible] noncomputable def r29_0 : List RO := [
  ⟨(.var 2), .mv, [(.con (.str []))], none⟩]
@[reducible] noncomputable def r29_1 : List RO := [
  ⟨(.var 3), .mv, [(.con (.str []))], none⟩]
@[reducible] noncomputable def r29_2 : List RO := [
  ⟨(.var 4), .mv, [(.con (.int .i64 0))], none⟩]
@[reducible] noncomputable def r29_3 : List RO := [
  ⟨(.loc 7), .mv, [(.var 4)], none⟩,
  ⟨(.loc 8), .mv, [(.var 1)], none⟩,
  ⟨(.var 5), (.bin .lss), [(.loc 7), (.loc 8)], none⟩]
@[reducible] noncomputable def r29_4 : List RO := [
  ⟨(.loc 12), .mv, [(.var 0)], none⟩,
  ⟨(.loc 13), (.bin .rem), [(.loc 12), (.con (.int .i64 10))], none⟩,
  ⟨(.loc 14), .mv, [(.var 0)], none⟩,
  ⟨(.loc 15), (.bin .rem), [(.loc 14), (.con (.int .i64 10))], none⟩,
  ⟨(.loc 16), (.bin .add), [(.loc 15), (.con (.int .i64 1))], none⟩,
  ⟨(.loc 17), (.slcS true true), [(.con (.str [48, 49, 50, 51, 52, 53, 54, 55, 56, 57])), (.loc 13), (.loc 16)], none⟩,
  ⟨(.loc 18), .mv, [(.var 3)], none⟩,
  ⟨(.loc 19), (.bin .add), [(.loc 17), (.loc 18)], none⟩,
  ⟨(.var 3), .mv, [(.loc 19)], none⟩]
@[reducible] noncomputable def r29_5 : List RO := [
  ⟨(.loc 20), .mv, [(.var 0)], none⟩,
  ⟨(.loc 21), (.bin .quo), [(.loc 20), (.con (.int .i64 10))], none⟩,
  ⟨(.var 0), .mv, [(.loc 21)], none⟩]
@[reducible] noncomputable def r29_6 : List RO := [
  ⟨(.loc 10), .mv, [(.var 4)], none⟩,
  ⟨(.loc 11), (.bin .add), [(.loc 10), (.con (.int .i64 1))], none⟩,
  ⟨(.var 4), .mv, [(.loc 11)], none⟩]
@[reducible] noncomputable def r29_7 : List RO := [
  ⟨(.loc 22), .mv, [(.var 3)], none⟩,
  ⟨(.var 2), .mv, [(.loc 22)], none⟩]
theorem P29 : C29.M = M := by unfold C29 E29; rfl
theorem pe29 {n m : Nat} : (E29 n m).M = M := by unfold E29; rfl
theorem i29 {a0 a1 : D} : St.init C29 [a0, a1] ⟨[], []⟩ = ⟨[a0, a1, .undef, .undef, .undef, .undef], [], ⟨[], []⟩⟩ := by unfold C29 E29; rfl
theorem ie29 {n m : Nat} {hp : Hp} {a0 a1 : D} : St.init (E29 n m) [a0, a1] hp = ⟨[a0, a1, .undef, .undef, .undef, .undef], [], hp⟩ := by unfold E29; rfl
noncomputable def c29 : RC := (.seq (.reg r29_0) (.seq (.reg r29_1) (.seq (.seq (.reg r29_2) (.block 0 (.loop (.seq (.seq (.reg r29_3) (.cond (.var 5) .skip (.exit 0))) (.seq (.block 1 (.seq (.reg r29_4) (.reg r29_5))) (.reg r29_6)))))) (.seq (.reg r29_7) .ret))))
noncomputable def q29 : List RR := [(.slot (.var 2))]
theorem z29 {n m : Nat} : resCode (E29 n m) (Tryd.f29.body.getD .skip) = some c29 := by kernel_rfl
theorem zr29 {n m : Nat} : resRs (E29 n m) Tryd.f29.results.toList = some q29 := by kernel_rfl
theorem oe29 {args : List D} {hp : Hp} {R : D → Hp → Prop} (n m : Nat) (hl : args.length = 2) (hn : n = hp.H.length) (hm : m = hp.tk.length) (h : SWp (E29 n m) c29 (fun e s => (match e with | .exit _ => False | _ => True) ∧ ∃ s1, Weak (E29 n m) s s1 ∧ rrsWp q29 s1 fun ds => R (oneOrTup ds) s1.hp) (St.init (E29 n m) args hp)) : Eff M 29 args hp R :=
  eff_of_body (C := E29 n m) (fn := Tryd.f29) Tryd.func29 (by kernel_rfl) (by kernel_rfl) (rc := c29) z29 (rs := q29) zr29 (by kernel_rfl) (by rw [hl]; rfl) (by rw [hl]; exact (by decide : 2 ≤ 23)) hn hm h
theorem ow29 {args : List D} {d : D} (hl : args.length = 2) (h : SWp C29 c29 (fun e s => (match e with | .exit _ => False | _ => True) ∧ ∃ s1, Weak C29 s s1 ∧ rrsWp q29 s1 fun ds => D.closed (oneOrTup ds) = true ∧ (oneOrTup ds).er = d) (St.init C29 args ⟨[], []⟩)) : Pur M 29 args d :=
  pur_of_bodyW (C := C29) (fn := Tryd.f29) Tryd.func29 (by kernel_rfl) (by kernel_rfl) (rc := c29) z29 (rs := q29) zr29 (by kernel_rfl) (by rw [hl]; rfl) (by rw [hl]; decide) rfl rfl h
theorem ok29 {args : List D} {d : D} (hl : args.length = 2) (h : SWp C29 c29 (fun e s => (match e with | .exit _ => False | _ => True) ∧ rrsWp q29 s fun ds => D.closed (oneOrTup ds) = true ∧ (oneOrTup ds).er = d) (St.init C29 args ⟨[], []⟩)) : Pur M 29 args d :=
  pur_of_body (C := C29) (fn := Tryd.f29) Tryd.func29 (by kernel_rfl) (by kernel_rfl) (rc := c29) z29 (rs := q29) zr29 (by kernel_rfl) (by rw [hl]; rfl) (by rw [hl]; decide) rfl rfl h

/- 32 bogie.bogieref06.value · 1 arguments · kept slots [0, 2, 3, 4, 8, 22] -/
noncomputable def E32 (n m : Nat) : Cfg := ⟨M, [0, 2, 3, 4, 8, 22], 31, n, m⟩
noncomputable def C32 : Cfg := E32 0 0
@[reducible] noncomputable def r32_0 : List RO := [
  ⟨(.var 1), .mv, [(.con (.int .i64 0))], none⟩]
@[reducible] noncomputable def r32_1 : List RO := [
  ⟨(.var 2), .mv, [(.con (.int .i64 0))], none⟩]
@[reducible] noncomputable def r32_2 : List RO := [
  ⟨(.var 3), .mv, [(.con (.int .i64 0))], none⟩]
@[reducible] noncomputable def r32_3 : List RO := [
  ⟨(.loc 5), .mv, [(.var 3)], none⟩,
  ⟨(.loc 6), .mv, [(.var 0)], none⟩,
  ⟨(.loc 7), .lenS, [(.loc 6)], none⟩,
  ⟨(.var 4), (.bin .lss), [(.loc 5), (.loc 7)], none⟩]
@[reducible] noncomputable def r32_4 : List RO := [
  ⟨(.loc 11), .mv, [(.var 2)], none⟩,
  ⟨(.loc 12), (.bin .mul), [(.con (.int .i64 10)), (.loc 11)], none⟩,
  ⟨(.var 2), .mv, [(.loc 12)], none⟩]
@[reducible] noncomputable def r32_5 : List RO := [
  ⟨(.loc 13), .mv, [(.var 0)], none⟩,
  ⟨(.loc 14), .mv, [(.var 3)], none⟩,
  ⟨(.loc 15), .ixvS, [(.loc 13), (.loc 14)], none⟩,
  ⟨(.loc 16), (.bin .geq), [(.loc 15), (.con (.int .u8 48))], none⟩,
  ⟨(.loc 17), .mv, [(.loc 16)], none⟩,
  ⟨(.loc 18), .mv, [(.var 0)], (some ((.loc 17), true))⟩,
  ⟨(.loc 19), .mv, [(.var 3)], (some ((.loc 17), true))⟩,
  ⟨(.loc 20), .ixvS, [(.loc 18), (.loc 19)], (some ((.loc 17), true))⟩,
  ⟨(.loc 21), (.bin .leq), [(.loc 20), (.con (.int .u8 57))], (some ((.loc 17), true))⟩,
  ⟨(.var 5), .pick, [(.loc 17), (.loc 21), (.con (.bool false))], none⟩]
@[reducible] noncomputable def r32_6 : List RO := [
  ⟨(.loc 23), .mv, [(.var 2)], none⟩,
  ⟨(.loc 24), .mv, [(.var 0)], none⟩,
  ⟨(.loc 25), .mv, [(.var 3)], none⟩,
  ⟨(.loc 26), .ixvS, [(.loc 24), (.loc 25)], none⟩,
  ⟨(.loc 27), (.bin .sub), [(.loc 26), (.con (.int .u8 48))], none⟩,
  ⟨(.loc 28), (.cvI .i64), [(.loc 27)], none⟩,
  ⟨(.loc 29), (.bin .add), [(.loc 23), (.loc 28)], none⟩,
  ⟨(.var 2), .mv, [(.loc 29)], none⟩]
@[reducible] noncomputable def r32_7 : List RO := [
  ⟨(.loc 9), .mv, [(.var 3)], none⟩,
  ⟨(.loc 10), (.bin .add), [(.loc 9), (.con (.int .i64 1))], none⟩,
  ⟨(.var 3), .mv, [(.loc 10)], none⟩]
@[reducible] noncomputable def r32_8 : List RO := [
  ⟨(.loc 30), .mv, [(.var 2)], none⟩,
  ⟨(.var 1), .mv, [(.loc 30)], none⟩]
theorem P32 : C32.M = M := by unfold C32 E32; rfl
theorem pe32 {n m : Nat} : (E32 n m).M = M := by unfold E32; rfl
theorem i32 {a0 : D} : St.init C32 [a0] ⟨[], []⟩ = ⟨[a0, .undef, .undef, .undef, .undef, .undef], [], ⟨[], []⟩⟩ := by unfold C32 E32; rfl
theorem ie32 {n m : Nat} {hp : Hp} {a0 : D} : St.init (E32 n m) [a0] hp = ⟨[a0, .undef, .undef, .undef, .undef, .undef], [], hp⟩ := by unfold E32; rfl
noncomputable def c32 : RC := (.seq (.reg r32_0) (.seq (.reg r32_1) (.seq (.seq (.reg r32_2) (.block 0 (.loop (.seq (.seq (.reg r32_3) (.cond (.var 4) .skip (.exit 0))) (.seq (.block 1 (.seq (.reg r32_4) (.seq (.reg r32_5) (.cond (.var 5) (.reg r32_6) .skip)))) (.reg r32_7)))))) (.seq (.reg r32_8) .ret))))
noncomputable def q32 : List RR := [(.slot (.var 1))]
theorem z32 {n m : Nat} : resCode (E32 n m) (Tryd.f32.body.getD .skip) = some c32 := by kernel_rfl
theorem zr32 {n m : Nat} : resRs (E32 n m) Tryd.f32.results.toList = some q32 := by kernel_rfl
theorem oe32 {args : List D} {hp : Hp} {R : D → Hp → Prop} (n m : Nat) (hl : args.length = 1) (hn : n = hp.H.length) (hm : m = hp.tk.length) (h : SWp (E32 n m) c32 (fun e s => (match e with | .exit _ => False | _ => True) ∧ ∃ s1, Weak (E32 n m) s s1 ∧ rrsWp q32 s1 fun ds => R (oneOrTup ds) s1.hp) (St.init (E32 n m) args hp)) : Eff M 32 args hp R :=
  eff_of_body (C := E32 n m) (fn := Tryd.f32) Tryd.func32 (by kernel_rfl) (by kernel_rfl) (rc := c32) z32 (rs := q32) zr32 (by kernel_rfl) (by rw [hl]; rfl) (by rw [hl]; exact (by decide : 1 ≤ 31)) hn hm h
theorem ow32 {args : List D} {d : D} (hl : args.length = 1) (h : SWp C32 c32 (fun e s => (match e with | .exit _ => False | _ => True) ∧ ∃ s1, Weak C32 s s1 ∧ rrsWp q32 s1 fun ds => D.closed (oneOrTup ds) = true ∧ (oneOrTup ds).er = d) (St.init C32 args ⟨[], []⟩)) : Pur M 32 args d :=
  pur_of_bodyW (C := C32) (fn := Tryd.f32) Tryd.func32 (by kernel_rfl) (by kernel_rfl) (rc := c32) z32 (rs := q32) zr32 (by kernel_rfl) (by rw [hl]; rfl) (by rw [hl]; decide) rfl rfl h
theorem ok32 {args : List D} {d : D} (hl : args.length = 1) (h : SWp C32 c32 (fun e s => (match e with | .exit _ => False | _ => True) ∧ rrsWp q32 s fun ds => D.closed (oneOrTup ds) = true ∧ (oneOrTup ds).er = d) (St.init C32 args ⟨[], []⟩)) : Pur M 32 args d :=
  pur_of_body (C := C32) (fn := Tryd.f32) Tryd.func32 (by kernel_rfl) (by kernel_rfl) (rc := c32) z32 (rs := q32) zr32 (by kernel_rfl) (by rw [hl]; rfl) (by rw [hl]; decide) rfl rfl h

/- 15 bogie.bogieref06.Text · 1 arguments · kept slots [0, 2, 3, 4, 5, 6, 7, 16] -/
noncomputable def E15 (n m : Nat) : Cfg := ⟨M, [0, 2, 3, 4, 5, 6, 7, 16], 28, n, m⟩
noncomputable def C15 : Cfg := E15 0 0
@[reducible] noncomputable def r15_0 : List RO := [
  ⟨(.var 1), .mv, [(.con (.str []))], none⟩,
  ⟨(.var 2), .mv, [(.con (.int .i64 0))], none⟩]
@[reducible] noncomputable def r15_1 : List RO := [
  ⟨(.loc 9), .mv, [(.var 0)], none⟩,
  ⟨(.loc 10), .call, [(.con (.fn (.func 12) [] [])), (.loc 9)], none⟩,
  ⟨(.loc 8), .mv, [(.loc 10)], none⟩,
  ⟨(.loc 11), (.ext 0), [(.loc 8)], none⟩,
  ⟨(.loc 12), (.ext 1), [(.loc 8)], none⟩,
  ⟨(.loc 13), (.ext 2), [(.loc 8)], none⟩,
  ⟨(.loc 14), (.ext 3), [(.loc 8)], none⟩,
  ⟨(.var 3), .mv, [(.loc 11)], none⟩,
  ⟨(.var 4), .mv, [(.loc 12)], none⟩,
  ⟨(.var 5), .mv, [(.loc 13)], none⟩,
  ⟨(.var 6), .mv, [(.loc 14)], none⟩]
@[reducible] noncomputable def r15_2 : List RO := [
  ⟨(.loc 15), .mv, [(.var 6)], none⟩,
  ⟨(.var 7), (.bin .neq), [(.loc 15), (.con (.int .i64 0))], none⟩]
@[reducible] noncomputable def r15_3 : List RO := [
  ⟨(.loc 17), .mv, [(.var 6)], none⟩,
  ⟨(.var 1), .mv, [(.con (.str []))], none⟩,
  ⟨(.var 2), .mv, [(.loc 17)], none⟩]
@[reducible] noncomputable def r15_4 : List RO := [
  ⟨(.loc 18), .mv, [(.var 3)], none⟩,
  ⟨(.loc 19), .call, [(.con (.fn (.func 29) [] [])), (.loc 18), (.con (.int .i64 4))], none⟩,
  ⟨(.loc 20), (.bin .add), [(.loc 19), (.con (.str [45]))], none⟩,
  ⟨(.loc 21), .mv, [(.var 4)], none⟩,
  ⟨(.loc 22), .call, [(.con (.fn (.func 29) [] [])), (.loc 21), (.con (.int .i64 2))], none⟩,
  ⟨(.loc 23), (.bin .add), [(.loc 20), (.loc 22)], none⟩,
  ⟨(.loc 24), (.bin .add), [(.loc 23), (.con (.str [45]))], none⟩,
  ⟨(.loc 25), .mv, [(.var 5)], none⟩,
  ⟨(.loc 26), .call, [(.con (.fn (.func 29) [] [])), (.loc 25), (.con (.int .i64 2))], none⟩,
  ⟨(.loc 27), (.bin .add), [(.loc 24), (.loc 26)], none⟩,
  ⟨(.var 1), .mv, [(.loc 27)], none⟩,
  ⟨(.var 2), .mv, [(.con (.int .i64 0))], none⟩]
theorem P15 : C15.M = M := by unfold C15 E15; rfl
theorem pe15 {n m : Nat} : (E15 n m).M = M := by unfold E15; rfl
theorem i15 {a0 : D} : St.init C15 [a0] ⟨[], []⟩ = ⟨[a0, .undef, .undef, .undef, .undef, .undef, .undef, .undef], [], ⟨[], []⟩⟩ := by unfold C15 E15; rfl
theorem ie15 {n m : Nat} {hp : Hp} {a0 : D} : St.init (E15 n m) [a0] hp = ⟨[a0, .undef, .undef, .undef, .undef, .undef, .undef, .undef], [], hp⟩ := by unfold E15; rfl
noncomputable def c15 : RC := (.seq (.reg r15_0) (.seq (.reg r15_1) (.seq (.seq (.reg r15_2) (.cond (.var 7) (.seq (.reg r15_3) .ret) .skip)) (.seq (.reg r15_4) .ret))))
noncomputable def q15 : List RR := [(.slot (.var 1)), (.slot (.var 2))]
theorem z15 {n m : Nat} : resCode (E15 n m) (Tryd.f15.body.getD .skip) = some c15 := by kernel_rfl
theorem zr15 {n m : Nat} : resRs (E15 n m) Tryd.f15.results.toList = some q15 := by kernel_rfl
theorem oe15 {args : List D} {hp : Hp} {R : D → Hp → Prop} (n m : Nat) (hl : args.length = 1) (hn : n = hp.H.length) (hm : m = hp.tk.length) (h : SWp (E15 n m) c15 (fun e s => (match e with | .exit _ => False | _ => True) ∧ ∃ s1, Weak (E15 n m) s s1 ∧ rrsWp q15 s1 fun ds => R (oneOrTup ds) s1.hp) (St.init (E15 n m) args hp)) : Eff M 15 args hp R :=
  eff_of_body (C := E15 n m) (fn := Tryd.f15) Tryd.func15 (by kernel_rfl) (by kernel_rfl) (rc := c15) z15 (rs := q15) zr15 (by kernel_rfl) (by rw [hl]; rfl) (by rw [hl]; exact (by decide : 1 ≤ 28)) hn hm h
theorem ow15 {args : List D} {d : D} (hl : args.length = 1) (h : SWp C15 c15 (fun e s => (match e with | .exit _ => False | _ => True) ∧ ∃ s1, Weak C15 s s1 ∧ rrsWp q15 s1 fun ds => D.closed (oneOrTup ds) = true ∧ (oneOrTup ds).er = d) (St.init C15 args ⟨[], []⟩)) : Pur M 15 args d :=
  pur_of_bodyW (C := C15) (fn := Tryd.f15) Tryd.func15 (by kernel_rfl) (by kernel_rfl) (rc := c15) z15 (rs := q15) zr15 (by kernel_rfl) (by rw [hl]; rfl) (by rw [hl]; decide) rfl rfl h
theorem ok15 {args : List D} {d : D} (hl : args.length = 1) (h : SWp C15 c15 (fun e s => (match e with | .exit _ => False | _ => True) ∧ rrsWp q15 s fun ds => D.closed (oneOrTup ds) = true ∧ (oneOrTup ds).er = d) (St.init C15 args ⟨[], []⟩)) : Pur M 15 args d :=
  pur_of_body (C := C15) (fn := Tryd.f15) Tryd.func15 (by kernel_rfl) (by kernel_rfl) (rc := c15) z15 (rs := q15) zr15 (by kernel_rfl) (by rw [hl]; rfl) (by rw [hl]; decide) rfl rfl h

/- 17 bogie.bogieref06.Parse · 1 arguments · kept slots [0, 2, 3, 4, 5, 6, 7, 10, 25, 37] -/
noncomputable def E17 (n m : Nat) : Cfg := ⟨M, [0, 2, 3, 4, 5, 6, 7, 10, 25, 37], 39, n, m⟩
noncomputable def C17 : Cfg := E17 0 0
@[reducible] noncomputable def r17_0 : List RO := [
  ⟨(.var 1), .mv, [(.con (.int .i64 0))], none⟩,
  ⟨(.var 2), .mv, [(.con (.int .i64 0))], none⟩]
@[reducible] noncomputable def r17_1 : List RO := [
  ⟨(.loc 8), .mv, [(.var 0)], none⟩,
  ⟨(.loc 9), .lenS, [(.loc 8)], none⟩,
  ⟨(.var 7), (.bin .neq), [(.loc 9), (.con (.int .i64 10))], none⟩]
@[reducible] noncomputable def r17_2 : List RO := [
  ⟨(.var 1), .mv, [(.con (.int .i64 0))], none⟩,
  ⟨(.var 2), .mv, [(.con (.int .i64 8))], none⟩]
@[reducible] noncomputable def r17_3 : List (RO × Bool) := [
  (⟨(.loc 12), .mv, [(.var 0)], none⟩, true),
  (⟨(.loc 13), (.slcS false true), [(.loc 12), (.con (.int .i64 4))], none⟩, true),
  (⟨(.loc 14), .call, [(.con (.fn (.func 32) [] [])), (.loc 13)], none⟩, false),
  (⟨(.loc 15), .mv, [(.var 0)], none⟩, true),
  (⟨(.loc 16), (.slcS true true), [(.loc 15), (.con (.int .i64 5)), (.con (.int .i64 7))], none⟩, true),
  (⟨(.loc 17), .call, [(.con (.fn (.func 32) [] [])), (.loc 16)], none⟩, false),
  (⟨(.loc 18), .mv, [(.var 0)], none⟩, true),
  (⟨(.loc 19), (.slcS true false), [(.loc 18), (.con (.int .i64 8))], none⟩, true),
  (⟨(.loc 20), .call, [(.con (.fn (.func 32) [] [])), (.loc 19)], none⟩, false),
  (⟨(.loc 21), .call, [(.con (.fn (.func 13) [] [])), (.loc 14), (.loc 17), (.loc 20)], none⟩, false),
  (⟨(.loc 11), .mv, [(.loc 21)], none⟩, true),
  (⟨(.loc 22), (.ext 0), [(.loc 11)], none⟩, true),
  (⟨(.loc 23), (.ext 1), [(.loc 11)], none⟩, true),
  (⟨(.var 3), .mv, [(.loc 22)], none⟩, true)]
@[reducible] noncomputable def r17_4 : List RO := [
  ⟨(.var 4), .mv, [(.loc 23)], none⟩]
@[reducible] noncomputable def r17_5 : List RO := [
  ⟨(.loc 24), .mv, [(.var 4)], none⟩,
  ⟨(.var 8), (.bin .neq), [(.loc 24), (.con (.int .i64 0))], none⟩]
@[reducible] noncomputable def r17_6 : List RO := [
  ⟨(.var 1), .mv, [(.con (.int .i64 0))], none⟩,
  ⟨(.var 2), .mv, [(.con (.int .i64 8))], none⟩]
@[reducible] noncomputable def r17_7 : List RO := [
  ⟨(.loc 27), .mv, [(.var 3)], none⟩,
  ⟨(.loc 28), .call, [(.con (.fn (.func 15) [] [])), (.loc 27)], none⟩,
  ⟨(.loc 26), .mv, [(.loc 28)], none⟩,
  ⟨(.loc 29), (.ext 0), [(.loc 26)], none⟩,
  ⟨(.loc 30), (.ext 1), [(.loc 26)], none⟩,
  ⟨(.var 5), .mv, [(.loc 29)], none⟩,
  ⟨(.var 6), .mv, [(.loc 30)], none⟩]
@[reducible] noncomputable def r17_8 : List RO := [
  ⟨(.loc 31), .mv, [(.var 6)], none⟩,
  ⟨(.loc 32), (.bin .neq), [(.loc 31), (.con (.int .i64 0))], none⟩,
  ⟨(.loc 33), .mv, [(.loc 32)], none⟩,
  ⟨(.loc 34), .mv, [(.var 5)], (some ((.loc 33), false))⟩,
  ⟨(.loc 35), .mv, [(.var 0)], (some ((.loc 33), false))⟩,
  ⟨(.loc 36), (.bin .neq), [(.loc 34), (.loc 35)], (some ((.loc 33), false))⟩,
  ⟨(.var 9), .pick, [(.loc 33), (.con (.bool true)), (.loc 36)], none⟩]
@[reducible] noncomputable def r17_9 : List RO := [
  ⟨(.var 1), .mv, [(.con (.int .i64 0))], none⟩,
  ⟨(.var 2), .mv, [(.con (.int .i64 8))], none⟩]
@[reducible] noncomputable def r17_10 : List RO := [
  ⟨(.loc 38), .mv, [(.var 3)], none⟩,
  ⟨(.var 1), .mv, [(.loc 38)], none⟩,
  ⟨(.var 2), .mv, [(.con (.int .i64 0))], none⟩]
theorem P17 : C17.M = M := by unfold C17 E17; rfl
theorem pe17 {n m : Nat} : (E17 n m).M = M := by unfold E17; rfl
theorem i17 {a0 : D} : St.init C17 [a0] ⟨[], []⟩ = ⟨[a0, .undef, .undef, .undef, .undef, .undef, .undef, .undef, .undef, .undef], [], ⟨[], []⟩⟩ := by unfold C17 E17; rfl
theorem ie17 {n m : Nat} {hp : Hp} {a0 : D} : St.init (E17 n m) [a0] hp = ⟨[a0, .undef, .undef, .undef, .undef, .undef, .undef, .undef, .undef, .undef], [], hp⟩ := by unfold E17; rfl
noncomputable def c17 : RC := (.seq (.reg r17_0) (.seq (.seq (.reg r17_1) (.cond (.var 7) (.seq (.reg r17_2) .ret) .skip)) (.seq (.regD r17_3 r17_4) (.seq (.seq (.reg r17_5) (.cond (.var 8) (.seq (.reg r17_6) .ret) .skip)) (.seq (.reg r17_7) (.seq (.seq (.reg r17_8) (.cond (.var 9) (.seq (.reg r17_9) .ret) .skip)) (.seq (.reg r17_10) .ret)))))))
noncomputable def q17 : List RR := [(.slot (.var 1)), (.slot (.var 2))]
theorem z17 {n m : Nat} : resCode (E17 n m) (Tryd.f17.body.getD .skip) = some c17 := by kernel_rfl
theorem zr17 {n m : Nat} : resRs (E17 n m) Tryd.f17.results.toList = some q17 := by kernel_rfl
theorem oe17 {args : List D} {hp : Hp} {R : D → Hp → Prop} (n m : Nat) (hl : args.length = 1) (hn : n = hp.H.length) (hm : m = hp.tk.length) (h : SWp (E17 n m) c17 (fun e s => (match e with | .exit _ => False | _ => True) ∧ ∃ s1, Weak (E17 n m) s s1 ∧ rrsWp q17 s1 fun ds => R (oneOrTup ds) s1.hp) (St.init (E17 n m) args hp)) : Eff M 17 args hp R :=
  eff_of_body (C := E17 n m) (fn := Tryd.f17) Tryd.func17 (by kernel_rfl) (by kernel_rfl) (rc := c17) z17 (rs := q17) zr17 (by kernel_rfl) (by rw [hl]; rfl) (by rw [hl]; exact (by decide : 1 ≤ 39)) hn hm h
theorem ow17 {args : List D} {d : D} (hl : args.length = 1) (h : SWp C17 c17 (fun e s => (match e with | .exit _ => False | _ => True) ∧ ∃ s1, Weak C17 s s1 ∧ rrsWp q17 s1 fun ds => D.closed (oneOrTup ds) = true ∧ (oneOrTup ds).er = d) (St.init C17 args ⟨[], []⟩)) : Pur M 17 args d :=
  pur_of_bodyW (C := C17) (fn := Tryd.f17) Tryd.func17 (by kernel_rfl) (by kernel_rfl) (rc := c17) z17 (rs := q17) zr17 (by kernel_rfl) (by rw [hl]; rfl) (by rw [hl]; decide) rfl rfl h
theorem ok17 {args : List D} {d : D} (hl : args.length = 1) (h : SWp C17 c17 (fun e s => (match e with | .exit _ => False | _ => True) ∧ rrsWp q17 s fun ds => D.closed (oneOrTup ds) = true ∧ (oneOrTup ds).er = d) (St.init C17 args ⟨[], []⟩)) : Pur M 17 args d :=
  pur_of_body (C := C17) (fn := Tryd.f17) Tryd.func17 (by kernel_rfl) (by kernel_rfl) (rc := c17) z17 (rs := q17) zr17 (by kernel_rfl) (by rw [hl]; rfl) (by rw [hl]; decide) rfl rfl h

/- 18 bogie.bogieref06.Months · 2 arguments · kept slots [0, 1, 4, 5, 6, 7, 8, 9, 10, 27, 45] -/
noncomputable def E18 (n m : Nat) : Cfg := ⟨M, [0, 1, 4, 5, 6, 7, 8, 9, 10, 27, 45], 56, n, m⟩
noncomputable def C18 : Cfg := E18 0 0
@[reducible] noncomputable def r18_0 : List RO := [
  ⟨(.var 2), .mv, [(.con (.int .i64 0))], none⟩,
  ⟨(.var 3), .mv, [(.con (.int .i64 0))], none⟩]
@[reducible] noncomputable def r18_1 : List RO := [
  ⟨(.loc 12), .mv, [(.var 0)], none⟩,
  ⟨(.loc 13), .call, [(.con (.fn (.func 12) [] [])), (.loc 12)], none⟩,
  ⟨(.loc 11), .mv, [(.loc 13)], none⟩,
  ⟨(.loc 14), (.ext 0), [(.loc 11)], none⟩,
  ⟨(.loc 15), (.ext 1), [(.loc 11)], none⟩,
  ⟨(.loc 16), (.ext 2), [(.loc 11)], none⟩,
  ⟨(.loc 17), (.ext 3), [(.loc 11)], none⟩,
  ⟨(.var 4), .mv, [(.loc 14)], none⟩,
  ⟨(.var 5), .mv, [(.loc 15)], none⟩,
  ⟨(.var 6), .mv, [(.loc 16)], none⟩,
  ⟨(.var 7), .mv, [(.loc 17)], none⟩]
@[reducible] noncomputable def r18_2 : List RO := [
  ⟨(.loc 18), .mv, [(.var 7)], none⟩,
  ⟨(.loc 19), (.bin .neq), [(.loc 18), (.con (.int .i64 0))], none⟩,
  ⟨(.loc 20), .mv, [(.loc 19)], none⟩,
  ⟨(.loc 21), .mv, [(.var 1)], (some ((.loc 20), false))⟩,
  ⟨(.loc 22), (.bin .lss), [(.loc 21), (.con (.int .i64 (-12000)))], (some ((.loc 20), false))⟩,
  ⟨(.loc 23), .pick, [(.loc 20), (.con (.bool true)), (.loc 22)], none⟩,
  ⟨(.loc 24), .mv, [(.loc 23)], none⟩,
  ⟨(.loc 25), .mv, [(.var 1)], (some ((.loc 24), false))⟩,
  ⟨(.loc 26), (.bin .gtr), [(.loc 25), (.con (.int .i64 12000))], (some ((.loc 24), false))⟩,
  ⟨(.var 9), .pick, [(.loc 24), (.con (.bool true)), (.loc 26)], none⟩]
@[reducible] noncomputable def r18_3 : List RO := [
  ⟨(.var 2), .mv, [(.con (.int .i64 0))], none⟩,
  ⟨(.var 3), .mv, [(.con (.int .i64 13))], none⟩]
@[reducible] noncomputable def r18_4 : List RO := [
  ⟨(.loc 28), .mv, [(.var 4)], none⟩,
  ⟨(.loc 29), (.bin .mul), [(.con (.int .i64 12)), (.loc 28)], none⟩,
  ⟨(.loc 30), .mv, [(.var 5)], none⟩,
  ⟨(.loc 31), (.bin .add), [(.loc 29), (.loc 30)], none⟩,
  ⟨(.loc 32), (.bin .sub), [(.loc 31), (.con (.int .i64 1))], none⟩,
  ⟨(.loc 33), .mv, [(.var 1)], none⟩,
  ⟨(.loc 34), (.bin .add), [(.loc 32), (.loc 33)], none⟩,
  ⟨(.var 8), .mv, [(.loc 34)], none⟩]
@[reducible] noncomputable def r18_5 : List RO := [
  ⟨(.loc 35), .mv, [(.var 8)], none⟩,
  ⟨(.loc 36), (.bin .quo), [(.loc 35), (.con (.int .i64 12))], none⟩,
  ⟨(.var 4), .mv, [(.loc 36)], none⟩]
@[reducible] noncomputable def r18_6 : List RO := [
  ⟨(.loc 37), .mv, [(.var 8)], none⟩,
  ⟨(.loc 38), (.bin .rem), [(.loc 37), (.con (.int .i64 12))], none⟩,
  ⟨(.loc 39), (.bin .add), [(.loc 38), (.con (.int .i64 1))], none⟩,
  ⟨(.var 5), .mv, [(.loc 39)], none⟩]
@[reducible] noncomputable def r18_7 : List RO := [
  ⟨(.loc 40), .mv, [(.var 8)], none⟩,
  ⟨(.loc 41), (.bin .lss), [(.loc 40), (.con (.int .i64 24000))], none⟩,
  ⟨(.loc 42), .mv, [(.loc 41)], none⟩,
  ⟨(.loc 43), .mv, [(.var 4)], (some ((.loc 42), false))⟩,
  ⟨(.loc 44), (.bin .gtr), [(.loc 43), (.con (.int .i64 2109))], (some ((.loc 42), false))⟩,
  ⟨(.var 10), .pick, [(.loc 42), (.con (.bool true)), (.loc 44)], none⟩]
@[reducible] noncomputable def r18_8 : List RO := [
  ⟨(.var 2), .mv, [(.con (.int .i64 0))], none⟩,
  ⟨(.var 3), .mv, [(.con (.int .i64 13))], none⟩]
@[reducible] noncomputable def r18_9 : List RO := [
  ⟨(.loc 46), .mv, [(.var 4)], none⟩,
  ⟨(.loc 47), .mv, [(.var 5)], none⟩,
  ⟨(.loc 48), .mv, [(.var 6)], none⟩,
  ⟨(.loc 49), .mv, [(.var 4)], none⟩,
  ⟨(.loc 50), .mv, [(.var 5)], none⟩,
  ⟨(.loc 51), .call, [(.con (.fn (.func 26) [] [])), (.loc 49), (.loc 50)], none⟩,
  ⟨(.loc 52), .minI, [(.loc 48), (.loc 51)], none⟩,
  ⟨(.loc 53), .call, [(.con (.fn (.func 13) [] [])), (.loc 46), (.loc 47), (.loc 52)], none⟩,
  ⟨(.loc 54), (.ext 0), [(.loc 53)], none⟩,
  ⟨(.loc 55), (.ext 1), [(.loc 53)], none⟩,
  ⟨(.var 2), .mv, [(.loc 54)], none⟩,
  ⟨(.var 3), .mv, [(.loc 55)], none⟩]
theorem P18 : C18.M = M := by unfold C18 E18; rfl
theorem pe18 {n m : Nat} : (E18 n m).M = M := by unfold E18; rfl
theorem i18 {a0 a1 : D} : St.init C18 [a0, a1] ⟨[], []⟩ = ⟨[a0, a1, .undef, .undef, .undef, .undef, .undef, .undef, .undef, .undef, .undef], [], ⟨[], []⟩⟩ := by unfold C18 E18; rfl
theorem ie18 {n m : Nat} {hp : Hp} {a0 a1 : D} : St.init (E18 n m) [a0, a1] hp = ⟨[a0, a1, .undef, .undef, .undef, .undef, .undef, .undef, .undef, .undef, .undef], [], hp⟩ := by unfold E18; rfl
noncomputable def c18 : RC := (.seq (.reg r18_0) (.seq (.reg r18_1) (.seq (.seq (.reg r18_2) (.cond (.var 9) (.seq (.reg r18_3) .ret) .skip)) (.seq (.reg r18_4) (.seq (.reg r18_5) (.seq (.reg r18_6) (.seq (.seq (.reg r18_7) (.cond (.var 10) (.seq (.reg r18_8) .ret) .skip)) (.seq (.reg r18_9) .ret))))))))
noncomputable def q18 : List RR := [(.slot (.var 2)), (.slot (.var 3))]
theorem z18 {n m : Nat} : resCode (E18 n m) (Tryd.f18.body.getD .skip) = some c18 := by kernel_rfl
theorem zr18 {n m : Nat} : resRs (E18 n m) Tryd.f18.results.toList = some q18 := by kernel_rfl
theorem oe18 {args : List D} {hp : Hp} {R : D → Hp → Prop} (n m : Nat) (hl : args.length = 2) (hn : n = hp.H.length) (hm : m = hp.tk.length) (h : SWp (E18 n m) c18 (fun e s => (match e with | .exit _ => False | _ => True) ∧ ∃ s1, Weak (E18 n m) s s1 ∧ rrsWp q18 s1 fun ds => R (oneOrTup ds) s1.hp) (St.init (E18 n m) args hp)) : Eff M 18 args hp R :=
  eff_of_body (C := E18 n m) (fn := Tryd.f18) Tryd.func18 (by kernel_rfl) (by kernel_rfl) (rc := c18) z18 (rs := q18) zr18 (by kernel_rfl) (by rw [hl]; rfl) (by rw [hl]; exact (by decide : 2 ≤ 56)) hn hm h
theorem ow18 {args : List D} {d : D} (hl : args.length = 2) (h : SWp C18 c18 (fun e s => (match e with | .exit _ => False | _ => True) ∧ ∃ s1, Weak C18 s s1 ∧ rrsWp q18 s1 fun ds => D.closed (oneOrTup ds) = true ∧ (oneOrTup ds).er = d) (St.init C18 args ⟨[], []⟩)) : Pur M 18 args d :=
  pur_of_bodyW (C := C18) (fn := Tryd.f18) Tryd.func18 (by kernel_rfl) (by kernel_rfl) (rc := c18) z18 (rs := q18) zr18 (by kernel_rfl) (by rw [hl]; rfl) (by rw [hl]; decide) rfl rfl h
theorem ok18 {args : List D} {d : D} (hl : args.length = 2) (h : SWp C18 c18 (fun e s => (match e with | .exit _ => False | _ => True) ∧ rrsWp q18 s fun ds => D.closed (oneOrTup ds) = true ∧ (oneOrTup ds).er = d) (St.init C18 args ⟨[], []⟩)) : Pur M 18 args d :=
  pur_of_body (C := C18) (fn := Tryd.f18) Tryd.func18 (by kernel_rfl) (by kernel_rfl) (rc := c18) z18 (rs := q18) zr18 (by kernel_rfl) (by rw [hl]; rfl) (by rw [hl]; decide) rfl rfl h
end Go.Proofs.YtapoplenfgjcjaaDoor
