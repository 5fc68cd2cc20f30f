/- Own texts, merged by a program: the engine that walks the code, and what the functions that the law reaches compute. -/
import Derived.Test.YtofnggfpegcllaaQe3
import Derived.Test.YtofnggfpegcllaaProg
import Derived.KernelRfl
import Derived.Lib.ItoaNum
import Derived.Lib.SlicesCompact
import Derived.Sort.Walk0
import Derived.Test.YtofnggfpegcllaaShelf
import Derived.Test.YtofnggfpegcllaaShelfL
section
set_option maxRecDepth 100000
namespace Go.Proofs.Ytofnggfpegcllaa
open Go GoV
noncomputable def E26 (n m : Nat) : Cfg := ⟨M, [0, 2, 3, 4, 5, 6, 8, 9, 10, 13, 14, 15, 25, 26, 27, 28, 37], 49, n, m, []⟩
@[reducible] noncomputable def r26_0 : List RO := [
  ⟨.var 1, .mv, [(.con (.lit (.slice none 0 0)))], none⟩,
  ⟨.var 2, .mv, [(.con (.lit (.map none)))], none⟩]
@[reducible] noncomputable def r26_1 : List RO := [
  ⟨.var 3, .mv, [(.con (.lit (.slice none 0 0)))], none⟩]
@[reducible] noncomputable def r26_2 : List RO := [
  ⟨.loc 11, .newM, [], none⟩,
  ⟨.var 4, .mv, [.loc 11], none⟩]
@[reducible] noncomputable def r26_3 : List RO := [
  ⟨.loc 12, .mv, [.var 0], none⟩,
  ⟨.var 9, .lenL, [.loc 12], none⟩,
  ⟨.var 10, .mv, [.con (.int .i64 0)], none⟩]
@[reducible] noncomputable def r26_4 : List RO := [
  ⟨.var 11, .bin .lss, [.var 10, .var 9], none⟩]
@[reducible] noncomputable def r26_5 : List RO := [
  ⟨.loc 16, .mv, [.var 10], none⟩,
  ⟨.var 5, .mv, [.loc 16], none⟩]
@[reducible] noncomputable def r26_6 : List RO := [
  ⟨.loc 17, .mv, [.var 3], none⟩,
  ⟨.loc 18, .mv, [.var 5], none⟩,
  ⟨.loc 19, .bsl 1, [.loc 18], none⟩,
  ⟨.loc 20, .app 1 8 3, [.loc 17, .loc 19], none⟩,
  ⟨.var 3, .mv, [.loc 20], none⟩]
@[reducible] noncomputable def r26_7 : List RO := [
  ⟨.loc 21, .mv, [.var 0], none⟩,
  ⟨.loc 22, .mv, [.var 5], none⟩,
  ⟨.loc 23, .ixaS 2, [.loc 21, .loc 22], none⟩,
  ⟨.loc 24, .ld true 2, [.loc 23], none⟩,
  ⟨.var 12, .call, [(.con (.fn (.func 21) [] [])), .loc 24], none⟩,
  ⟨.var 13, .lenL, [.var 12], none⟩,
  ⟨.var 14, .mv, [.con (.int .i64 0)], none⟩]
@[reducible] noncomputable def r26_8 : List RO := [
  ⟨.var 15, .bin .lss, [.var 14, .var 13], none⟩]
@[reducible] noncomputable def r26_9 : List RO := [
  ⟨.loc 29, .ixaS 1, [.var 12, .var 14], none⟩,
  ⟨.loc 30, .ld false 1, [.loc 29], none⟩,
  ⟨.var 6, .mv, [.loc 30], none⟩]
@[reducible] noncomputable def r26_10 : List RO := [
  ⟨.loc 32, .mv, [.var 4], none⟩,
  ⟨.loc 33, .mv, [.var 6], none⟩,
  ⟨.loc 34, (.lkp .str true (.int .i64 0)), [.loc 32, .loc 33], none⟩,
  ⟨.loc 31, .mv, [.loc 34], none⟩,
  ⟨.loc 35, .ext 0, [.loc 31], none⟩,
  ⟨.loc 36, .ext 1, [.loc 31], none⟩,
  ⟨.var 7, .mv, [.loc 35], none⟩,
  ⟨.var 8, .mv, [.loc 36], none⟩]
@[reducible] noncomputable def r26_11 : List RO := [
  ⟨.var 16, .mv, [.var 8], none⟩]
@[reducible] noncomputable def r26_12 : List RO := [
  ⟨.loc 38, .mv, [.var 3], none⟩,
  ⟨.loc 39, .mv, [.var 7], none⟩,
  ⟨.loc 40, .mv, [.var 5], none⟩,
  ⟨.loc 41, .call, [(.con (.fn (.func 40) [] [])), .loc 38, .loc 39, .loc 40], none⟩]
@[reducible] noncomputable def r26_13 : List RO := [
  ⟨.loc 42, .mv, [.var 4], none⟩,
  ⟨.loc 43, .mv, [.var 6], none⟩,
  ⟨.loc 44, .mv, [.var 5], none⟩,
  ⟨.none, .mpu .str, [.loc 42, .loc 43, .loc 44], none⟩]
@[reducible] noncomputable def r26_14 : List RO := [
  ⟨.loc 45, .bin .add, [.var 14, .con (.int .i64 1)], none⟩,
  ⟨.var 14, .mv, [.loc 45], none⟩]
@[reducible] noncomputable def r26_15 : List RO := [
  ⟨.loc 46, .bin .add, [.var 10, .con (.int .i64 1)], none⟩,
  ⟨.var 10, .mv, [.loc 46], none⟩]
@[reducible] noncomputable def r26_16 : List RO := [
  ⟨.loc 47, .mv, [.var 3], none⟩,
  ⟨.loc 48, .mv, [.var 4], none⟩,
  ⟨.var 1, .mv, [.loc 47], none⟩,
  ⟨.var 2, .mv, [.loc 48], none⟩]
theorem pe26 {n m : Nat} : (E26 n m).M = M := by unfold E26; rfl
theorem ie26 {n m : Nat} {hp : Hp} {a0 : D} : St.init (E26 n m) [a0] hp = ⟨[a0, .undef, .undef, .undef, .undef, .undef, .undef, .undef, .undef, .undef, .undef, .undef, .undef, .undef, .undef, .undef, .undef], [], hp⟩ := by unfold E26; rfl
noncomputable def c26 : RC := (.seq (.reg r26_0) (.seq (.reg r26_1) (.seq (.reg r26_2) (.seq (.seq (.reg r26_3) (.block 0 (.loop (.seq (.reg r26_4) (.seq (.cond (.var 11) .skip (.exit 0)) (.seq (.block 1 (.seq (.reg r26_5) (.seq (.reg r26_6) (.seq (.reg r26_7) (.block 2 (.loop (.seq (.reg r26_8) (.seq (.cond (.var 15) .skip (.exit 2)) (.seq (.block 3 (.seq (.reg r26_9) (.seq (.reg r26_10) (.seq (.reg r26_11) (.cond (.var 16) (.reg r26_12) (.reg r26_13)))))) (.reg r26_14)))))))))) (.reg r26_15))))))) (.seq (.reg r26_16) .ret)))))
noncomputable def q26 : List RR := [(.slot (.var 1)), (.slot (.var 2))]
theorem z26 {n m : Nat} : resCode (E26 n m) (Try.f26.body.getD .skip) = some c26 := by kernel_rfl
theorem zr26 {n m : Nat} : resRs (E26 n m) Try.f26.results.toList = some q26 := by kernel_rfl
theorem oe26 {args : List D} {hp : Hp} {R : D → Hp → Prop} (n m : Nat) (hl : args.length = 1) (hn : n = hp.H.length) (hm : m = hp.tk.length) (h : SWp (E26 n m) c26 (fun e s => (match e with | .exit _ => False | _ => True) ∧ ∃ s1, Weak (E26 n m) s s1 ∧ rrsWp q26 s1 fun ds => R (oneOrTup ds) s1.hp) (St.init (E26 n m) args hp)) : Eff M 26 args hp R :=
  eff_of_body (C := E26 n m) (fn := Try.f26) Try.func26 (by kernel_rfl) (by kernel_rfl) (rc := c26) z26 (rs := q26) zr26 (by kernel_rfl) (by rw [hl]; rfl) (by rw [hl]; exact (by decide : 1 ≤ 49)) hn hm h
noncomputable def E27 (n m : Nat) : Cfg := ⟨M, [0, 1, 4, 10], 26, n, m, []⟩
@[reducible] noncomputable def r27_0 : List RO := [
  ⟨.var 2, .mv, [.con (.int .i64 0)], none⟩]
@[reducible] noncomputable def r27_1 : List RO := [
  ⟨.loc 5, .mv, [.var 0], none⟩,
  ⟨.loc 6, .mv, [.var 1], none⟩,
  ⟨.loc 7, .ixaS 1, [.loc 5, .loc 6], none⟩,
  ⟨.loc 8, .ld false 1, [.loc 7], none⟩,
  ⟨.loc 9, .mv, [.var 1], none⟩,
  ⟨.var 3, .bin .neq, [.loc 8, .loc 9], none⟩]
@[reducible] noncomputable def r27_2 : List RO := [
  ⟨.loc 11, .mv, [.var 0], none⟩,
  ⟨.loc 12, .mv, [.var 1], none⟩,
  ⟨.loc 13, .mv, [.var 0], none⟩,
  ⟨.loc 14, .mv, [.var 0], none⟩,
  ⟨.loc 15, .mv, [.var 1], none⟩,
  ⟨.loc 16, .ixaS 1, [.loc 14, .loc 15], none⟩,
  ⟨.loc 17, .ld false 1, [.loc 16], none⟩,
  ⟨.loc 18, .ixaS 1, [.loc 13, .loc 17], none⟩,
  ⟨.loc 19, .ld false 1, [.loc 18], none⟩,
  ⟨.loc 20, .ixaS 1, [.loc 11, .loc 12], none⟩,
  ⟨.none, .st 1, [.loc 20, .loc 19], none⟩]
@[reducible] noncomputable def r27_3 : List RO := [
  ⟨.loc 21, .mv, [.var 0], none⟩,
  ⟨.loc 22, .mv, [.var 1], none⟩,
  ⟨.loc 23, .ixaS 1, [.loc 21, .loc 22], none⟩,
  ⟨.loc 24, .ld false 1, [.loc 23], none⟩,
  ⟨.var 1, .mv, [.loc 24], none⟩]
@[reducible] noncomputable def r27_4 : List RO := [
  ⟨.loc 25, .mv, [.var 1], none⟩,
  ⟨.var 2, .mv, [.loc 25], none⟩]
theorem pe27 {n m : Nat} : (E27 n m).M = M := by unfold E27; rfl
theorem ie27 {n m : Nat} {hp : Hp} {a0 a1 : D} : St.init (E27 n m) [a0, a1] hp = ⟨[a0, a1, .undef, .undef], [], hp⟩ := by unfold E27; rfl
noncomputable def c27 : RC := (.seq (.reg r27_0) (.seq (.block 0 (.loop (.seq (.seq (.reg r27_1) (.cond (.var 3) .skip (.exit 0))) (.block 1 (.seq (.reg r27_2) (.reg r27_3)))))) (.seq (.reg r27_4) .ret)))
noncomputable def q27 : List RR := [(.slot (.var 2))]
theorem z27 {n m : Nat} : resCode (E27 n m) (Try.f27.body.getD .skip) = some c27 := by kernel_rfl
theorem zr27 {n m : Nat} : resRs (E27 n m) Try.f27.results.toList = some q27 := by kernel_rfl
theorem oe27 {args : List D} {hp : Hp} {R : D → Hp → Prop} (n m : Nat) (hl : args.length = 2) (hn : n = hp.H.length) (hm : m = hp.tk.length) (h : SWp (E27 n m) c27 (fun e s => (match e with | .exit _ => False | _ => True) ∧ ∃ s1, Weak (E27 n m) s s1 ∧ rrsWp q27 s1 fun ds => R (oneOrTup ds) s1.hp) (St.init (E27 n m) args hp)) : Eff M 27 args hp R :=
  eff_of_body (C := E27 n m) (fn := Try.f27) Try.func27 (by kernel_rfl) (by kernel_rfl) (rc := c27) z27 (rs := q27) zr27 (by kernel_rfl) (by rw [hl]; rfl) (by rw [hl]; exact (by decide : 2 ≤ 26)) hn hm h
noncomputable def E40 (n m : Nat) : Cfg := ⟨M, [0, 1, 2, 6, 7], 22, n, m, []⟩
@[reducible] noncomputable def r40_0 : List RO := [
  ⟨.loc 8, .mv, [.var 0], none⟩,
  ⟨.loc 9, .mv, [.var 1], none⟩,
  ⟨.loc 10, .call, [(.con (.fn (.func 27) [] [])), .loc 8, .loc 9], none⟩,
  ⟨.loc 11, .mv, [.var 0], none⟩,
  ⟨.loc 12, .mv, [.var 2], none⟩,
  ⟨.loc 13, .call, [(.con (.fn (.func 27) [] [])), .loc 11, .loc 12], none⟩,
  ⟨.var 3, .mv, [.loc 10], none⟩,
  ⟨.var 4, .mv, [.loc 13], none⟩]
@[reducible] noncomputable def r40_1 : List RO := [
  ⟨.loc 14, .mv, [.var 0], none⟩,
  ⟨.loc 15, .mv, [.var 3], none⟩,
  ⟨.loc 16, .mv, [.var 4], none⟩,
  ⟨.loc 17, .maxI, [.loc 15, .loc 16], none⟩,
  ⟨.loc 18, .mv, [.var 3], none⟩,
  ⟨.loc 19, .mv, [.var 4], none⟩,
  ⟨.loc 20, .minI, [.loc 18, .loc 19], none⟩,
  ⟨.loc 21, .ixaS 1, [.loc 14, .loc 17], none⟩,
  ⟨.none, .st 1, [.loc 21, .loc 20], none⟩]
theorem pe40 {n m : Nat} : (E40 n m).M = M := by unfold E40; rfl
theorem ie40 {n m : Nat} {hp : Hp} {a0 a1 a2 : D} : St.init (E40 n m) [a0, a1, a2] hp = ⟨[a0, a1, a2, .undef, .undef], [], hp⟩ := by unfold E40; rfl
noncomputable def c40 : RC := (.seq (.reg r40_0) (.reg r40_1))
noncomputable def q40 : List RR := []
theorem z40 {n m : Nat} : resCode (E40 n m) (Try.f40.body.getD .skip) = some c40 := by kernel_rfl
theorem zr40 {n m : Nat} : resRs (E40 n m) Try.f40.results.toList = some q40 := by kernel_rfl
theorem oe40 {args : List D} {hp : Hp} {R : D → Hp → Prop} (n m : Nat) (hl : args.length = 3) (hn : n = hp.H.length) (hm : m = hp.tk.length) (h : SWp (E40 n m) c40 (fun e s => (match e with | .exit _ => False | _ => True) ∧ ∃ s1, Weak (E40 n m) s s1 ∧ rrsWp q40 s1 fun ds => R (oneOrTup ds) s1.hp) (St.init (E40 n m) args hp)) : Eff M 40 args hp R :=
  eff_of_body (C := E40 n m) (fn := Try.f40) Try.func40 (by kernel_rfl) (by kernel_rfl) (rc := c40) z40 (rs := q40) zr40 (by kernel_rfl) (by rw [hl]; rfl) (by rw [hl]; exact (by decide : 3 ≤ 22)) hn hm h
noncomputable def E28 (n m : Nat) : Cfg := ⟨M, [0, 1, 2, 3, 6, 7, 15], 34, n, m, []⟩
@[reducible] noncomputable def r28_0 : List RO := [
  ⟨.loc 9, .ld false 1, [.var 2], none⟩,
  ⟨.loc 10, .mv, [.var 1], none⟩,
  ⟨.loc 11, (.lkp (.int .i64) true (.int .i64 0)), [.loc 9, .loc 10], none⟩,
  ⟨.loc 8, .mv, [.loc 11], none⟩,
  ⟨.loc 12, .ext 0, [.loc 8], none⟩,
  ⟨.loc 13, .ext 1, [.loc 8], none⟩,
  ⟨.var 4, .mv, [.loc 12], none⟩,
  ⟨.var 5, .mv, [.loc 13], none⟩]
@[reducible] noncomputable def r28_1 : List RO := [
  ⟨.loc 14, .mv, [.var 5], none⟩,
  ⟨.var 6, .un .not, [.loc 14], none⟩]
@[reducible] noncomputable def r28_2 : List RO := [
  ⟨.loc 16, .ld false 1, [.var 3], none⟩,
  ⟨.loc 17, .lenL, [.loc 16], none⟩,
  ⟨.var 4, .mv, [.loc 17], none⟩]
@[reducible] noncomputable def r28_3 : List RO := [
  ⟨.loc 18, .ld false 1, [.var 2], none⟩,
  ⟨.loc 19, .mv, [.var 1], none⟩,
  ⟨.loc 20, .mv, [.var 4], none⟩,
  ⟨.none, (.mpu (.int .i64)), [.loc 18, .loc 19, .loc 20], none⟩]
@[reducible] noncomputable def r28_4 : List RO := [
  ⟨.loc 21, .ld false 1, [.var 3], none⟩,
  ⟨.loc 22, .bsl 1, [(.con (.lit (.slice none 0 0)))], none⟩,
  ⟨.loc 23, .app 1 24 29, [.loc 21, .loc 22], none⟩,
  ⟨.none, .st 1, [.var 3, .loc 23], none⟩]
@[reducible] noncomputable def r28_5 : List (RO × Bool) := [
  (⟨.loc 24, .ld false 1, [.var 3], none⟩, true),
  (⟨.loc 25, .mv, [.var 4], none⟩, true),
  (⟨.loc 26, .ld false 1, [.var 3], none⟩, true),
  (⟨.loc 27, .mv, [.var 4], none⟩, true),
  (⟨.loc 28, .ixaS 1, [.loc 26, .loc 27], none⟩, true),
  (⟨.loc 29, .ld false 1, [.loc 28], none⟩, true),
  (⟨.loc 30, .mv, [.var 0], none⟩, true),
  (⟨.loc 31, .bsl 1, [.loc 30], none⟩, true),
  (⟨.loc 32, .app 1 8 3, [.loc 29, .loc 31], none⟩, true)]
@[reducible] noncomputable def r28_6 : List RO := [
  ⟨.loc 33, .ixaS 1, [.loc 24, .loc 25], none⟩,
  ⟨.none, .st 1, [.loc 33, .loc 32], none⟩]
theorem pe28 {n m : Nat} : (E28 n m).M = M := by unfold E28; rfl
theorem ie28 {n m : Nat} {hp : Hp} {a0 a1 a2 a3 : D} : St.init (E28 n m) [a0, a1, a2, a3] hp = ⟨[a0, a1, a2, a3, .undef, .undef, .undef], [], hp⟩ := by unfold E28; rfl
noncomputable def c28 : RC := (.seq (.reg r28_0) (.seq (.seq (.reg r28_1) (.cond (.var 6) (.seq (.reg r28_2) (.seq (.reg r28_3) (.reg r28_4))) .skip)) (.regD r28_5 r28_6)))
noncomputable def q28 : List RR := []
theorem z28 {n m : Nat} : resCode (E28 n m) (Try.f28.body.getD .skip) = some c28 := by kernel_rfl
theorem zr28 {n m : Nat} : resRs (E28 n m) Try.f28.results.toList = some q28 := by kernel_rfl
theorem oe28 {args : List D} {hp : Hp} {R : D → Hp → Prop} (n m : Nat) (hl : args.length = 4) (hn : n = hp.H.length) (hm : m = hp.tk.length) (h : SWp (E28 n m) c28 (fun e s => (match e with | .exit _ => False | _ => True) ∧ ∃ s1, Weak (E28 n m) s s1 ∧ rrsWp q28 s1 fun ds => R (oneOrTup ds) s1.hp) (St.init (E28 n m) args hp)) : Eff M 28 args hp R :=
  eff_of_body (C := E28 n m) (fn := Try.f28) Try.func28 (by kernel_rfl) (by kernel_rfl) (rc := c28) z28 (rs := q28) zr28 (by kernel_rfl) (by rw [hl]; rfl) (by rw [hl]; exact (by decide : 4 ≤ 34)) hn hm h
noncomputable def E13 (n m : Nat) : Cfg := ⟨M, [0, 2, 3, 5, 6, 7, 8, 9, 20, 21, 22], 32, n, m, []⟩
noncomputable def C13 : Cfg := E13 0 0
@[reducible] noncomputable def r13_0 : List RO := [
  ⟨.var 1, .mv, [(.con (.lit (.slice none 0 0)))], none⟩]
@[reducible] noncomputable def r13_1 : List RO := [
  ⟨.loc 11, .mv, [.var 0], none⟩,
  ⟨.loc 12, .call, [(.con (.fn (.func 26) [] [])), .loc 11], none⟩,
  ⟨.loc 10, .mv, [.loc 12], none⟩,
  ⟨.loc 13, .ext 0, [.loc 10], none⟩,
  ⟨.loc 14, .ext 1, [.loc 10], none⟩,
  ⟨.var 2, .mv, [.loc 13], none⟩,
  ⟨.loc 4, .mv, [.loc 14], none⟩]
@[reducible] noncomputable def r13_2 : List RO := [
  ⟨.loc 15, .mv, [.var 2], none⟩,
  ⟨.loc 16, (.mkF (.func 27) 1), [.loc 15], none⟩,
  ⟨.var 3, .mv, [.loc 16], none⟩]
@[reducible] noncomputable def r13_3 : List RO := [
  ⟨.loc 17, .newM, [], none⟩,
  ⟨.var 4, (.newb [(.lit (.map none))]), [], none⟩,
  ⟨.none, .st 1, [.var 4, .loc 17], none⟩]
@[reducible] noncomputable def r13_4 : List RO := [
  ⟨.var 5, (.newb [(.lit (.slice none 0 0))]), [], none⟩]
@[reducible] noncomputable def r13_5 : List RO := [
  ⟨.loc 18, (.mkF (.func 28) 0), [.var 4, .var 5], none⟩,
  ⟨.var 6, .mv, [.loc 18], none⟩]
@[reducible] noncomputable def r13_6 : List RO := [
  ⟨.loc 19, .mv, [.var 2], none⟩,
  ⟨.var 8, .lenL, [.loc 19], none⟩,
  ⟨.var 9, .mv, [.con (.int .i64 0)], none⟩]
@[reducible] noncomputable def r13_7 : List RO := [
  ⟨.var 10, .bin .lss, [.var 9, .var 8], none⟩]
@[reducible] noncomputable def r13_8 : List RO := [
  ⟨.loc 23, .mv, [.var 9], none⟩,
  ⟨.var 7, .mv, [.loc 23], none⟩]
@[reducible] noncomputable def r13_9 : List RO := [
  ⟨.loc 24, .mv, [.var 6], none⟩,
  ⟨.loc 25, .mv, [.var 7], none⟩,
  ⟨.loc 26, .mv, [.var 3], none⟩,
  ⟨.loc 27, .mv, [.var 7], none⟩,
  ⟨.loc 28, .call, [.loc 26, .loc 27], none⟩,
  ⟨.loc 29, .call, [.loc 24, .loc 25, .loc 28], none⟩]
@[reducible] noncomputable def r13_10 : List RO := [
  ⟨.loc 30, .bin .add, [.var 9, .con (.int .i64 1)], none⟩,
  ⟨.var 9, .mv, [.loc 30], none⟩]
@[reducible] noncomputable def r13_11 : List RO := [
  ⟨.loc 31, .ld false 1, [.var 5], none⟩,
  ⟨.var 1, .mv, [.loc 31], none⟩]
theorem P13 : C13.M = M := by unfold C13 E13; rfl
theorem i13 {a0 : D} : St.init C13 [a0] ⟨[], []⟩ = ⟨[a0, .undef, .undef, .undef, .undef, .undef, .undef, .undef, .undef, .undef, .undef], [], ⟨[], []⟩⟩ := by unfold C13 E13; rfl
noncomputable def c13 : RC := (.seq (.reg r13_0) (.seq (.reg r13_1) (.seq (.reg r13_2) (.seq (.reg r13_3) (.seq (.reg r13_4) (.seq (.reg r13_5) (.seq (.seq (.reg r13_6) (.block 0 (.loop (.seq (.reg r13_7) (.seq (.cond (.var 10) .skip (.exit 0)) (.seq (.block 1 (.seq (.reg r13_8) (.reg r13_9))) (.reg r13_10))))))) (.seq (.reg r13_11) .ret))))))))
noncomputable def q13 : List RR := [(.slot (.var 1))]
theorem z13 {n m : Nat} : resCode (E13 n m) (Try.f13.body.getD .skip) = some c13 := by kernel_rfl
theorem zr13 {n m : Nat} : resRs (E13 n m) Try.f13.results.toList = some q13 := by kernel_rfl
theorem ow13 {args : List D} {d : D} (hl : args.length = 1) (h : SWp C13 c13 (fun e s => (match e with | .exit _ => False | _ => True) ∧ ∃ s1, Weak C13 s s1 ∧ rrsWp q13 s1 fun ds => D.closed (oneOrTup ds) = true ∧ (oneOrTup ds).er = d) (St.init C13 args ⟨[], []⟩)) : Pur M 13 args d :=
  pur_of_bodyW (C := C13) (fn := Try.f13) Try.func13 (by kernel_rfl) (by kernel_rfl) (rc := c13) z13 (rs := q13) zr13 (by kernel_rfl) (by rw [hl]; rfl) (by rw [hl]; decide) rfl rfl h
noncomputable def E16 (n m : Nat) : Cfg := ⟨M, [0, 1, 4, 5, 6, 7, 8, 9, 10, 23, 25, 26, 27, 35], 42, n, m, []⟩
noncomputable def C16 : Cfg := E16 0 0
@[reducible] noncomputable def r16_0 : List RO := [
  ⟨.var 2, .mv, [(.con (.lit (.slice none 0 0)))], none⟩]
@[reducible] noncomputable def r16_1 : List RO := [
  ⟨.loc 12, .mv, [.var 0], none⟩,
  ⟨.loc 13, .call, [(.con (.fn (.func 26) [] [])), .loc 12], none⟩,
  ⟨.loc 11, .mv, [.loc 13], none⟩,
  ⟨.loc 14, .ext 0, [.loc 11], none⟩,
  ⟨.loc 15, .ext 1, [.loc 11], none⟩,
  ⟨.var 3, .mv, [.loc 14], none⟩,
  ⟨.var 4, .mv, [.loc 15], none⟩]
@[reducible] noncomputable def r16_2 : List RO := [
  ⟨.loc 17, .mv, [.var 4], none⟩,
  ⟨.loc 18, .mv, [.var 1], none⟩,
  ⟨.loc 19, (.lkp .str true (.int .i64 0)), [.loc 17, .loc 18], none⟩,
  ⟨.loc 16, .mv, [.loc 19], none⟩,
  ⟨.loc 20, .ext 0, [.loc 16], none⟩,
  ⟨.loc 21, .ext 1, [.loc 16], none⟩,
  ⟨.var 5, .mv, [.loc 20], none⟩,
  ⟨.var 6, .mv, [.loc 21], none⟩]
@[reducible] noncomputable def r16_3 : List RO := [
  ⟨.loc 22, .mv, [.var 6], none⟩,
  ⟨.var 9, .un .not, [.loc 22], none⟩]
@[reducible] noncomputable def r16_4 : List RO := [
  ⟨.var 2, .mv, [(.con (.lit (.slice none 0 0)))], none⟩]
@[reducible] noncomputable def r16_5 : List RO := [
  ⟨.var 7, .mv, [(.con (.lit (.slice none 0 0)))], none⟩]
@[reducible] noncomputable def r16_6 : List RO := [
  ⟨.loc 24, .mv, [.var 3], none⟩,
  ⟨.var 10, .lenL, [.loc 24], none⟩,
  ⟨.var 11, .mv, [.con (.int .i64 0)], none⟩]
@[reducible] noncomputable def r16_7 : List RO := [
  ⟨.var 12, .bin .lss, [.var 11, .var 10], none⟩]
@[reducible] noncomputable def r16_8 : List RO := [
  ⟨.loc 28, .mv, [.var 11], none⟩,
  ⟨.var 8, .mv, [.loc 28], none⟩]
@[reducible] noncomputable def r16_9 : List RO := [
  ⟨.loc 29, .mv, [.var 3], none⟩,
  ⟨.loc 30, .mv, [.var 8], none⟩,
  ⟨.loc 31, .call, [(.con (.fn (.func 27) [] [])), .loc 29, .loc 30], none⟩,
  ⟨.loc 32, .mv, [.var 3], none⟩,
  ⟨.loc 33, .mv, [.var 5], none⟩,
  ⟨.loc 34, .call, [(.con (.fn (.func 27) [] [])), .loc 32, .loc 33], none⟩,
  ⟨.var 13, .bin .eql, [.loc 31, .loc 34], none⟩]
@[reducible] noncomputable def r16_10 : List RO := [
  ⟨.loc 36, .mv, [.var 7], none⟩,
  ⟨.loc 37, .mv, [.var 8], none⟩,
  ⟨.loc 38, .bsl 1, [.loc 37], none⟩,
  ⟨.loc 39, .app 1 8 3, [.loc 36, .loc 38], none⟩,
  ⟨.var 7, .mv, [.loc 39], none⟩]
@[reducible] noncomputable def r16_11 : List RO := [
  ⟨.loc 40, .bin .add, [.var 11, .con (.int .i64 1)], none⟩,
  ⟨.var 11, .mv, [.loc 40], none⟩]
@[reducible] noncomputable def r16_12 : List RO := [
  ⟨.loc 41, .mv, [.var 7], none⟩,
  ⟨.var 2, .mv, [.loc 41], none⟩]
theorem P16 : C16.M = M := by unfold C16 E16; rfl
theorem i16 {a0 a1 : D} : St.init C16 [a0, a1] ⟨[], []⟩ = ⟨[a0, a1, .undef, .undef, .undef, .undef, .undef, .undef, .undef, .undef, .undef, .undef, .undef, .undef], [], ⟨[], []⟩⟩ := by unfold C16 E16; rfl
noncomputable def c16 : RC := (.seq (.reg r16_0) (.seq (.reg r16_1) (.seq (.reg r16_2) (.seq (.seq (.reg r16_3) (.cond (.var 9) (.seq (.reg r16_4) .ret) .skip)) (.seq (.reg r16_5) (.seq (.seq (.reg r16_6) (.block 0 (.loop (.seq (.reg r16_7) (.seq (.cond (.var 12) .skip (.exit 0)) (.seq (.block 1 (.seq (.reg r16_8) (.seq (.reg r16_9) (.cond (.var 13) (.reg r16_10) .skip)))) (.reg r16_11))))))) (.seq (.reg r16_12) .ret)))))))
noncomputable def q16 : List RR := [(.slot (.var 2))]
theorem z16 {n m : Nat} : resCode (E16 n m) (Try.f16.body.getD .skip) = some c16 := by kernel_rfl
theorem zr16 {n m : Nat} : resRs (E16 n m) Try.f16.results.toList = some q16 := by kernel_rfl
theorem ow16 {args : List D} {d : D} (hl : args.length = 2) (h : SWp C16 c16 (fun e s => (match e with | .exit _ => False | _ => True) ∧ ∃ s1, Weak C16 s s1 ∧ rrsWp q16 s1 fun ds => D.closed (oneOrTup ds) = true ∧ (oneOrTup ds).er = d) (St.init C16 args ⟨[], []⟩)) : Pur M 16 args d :=
  pur_of_bodyW (C := C16) (fn := Try.f16) Try.func16 (by kernel_rfl) (by kernel_rfl) (rc := c16) z16 (rs := q16) zr16 (by kernel_rfl) (by rw [hl]; rfl) (by rw [hl]; decide) rfl rfl h
noncomputable def E18 (n m : Nat) : Cfg := ⟨M, [0, 2], 7, n, m, []⟩
noncomputable def C18 : Cfg := E18 0 0
@[reducible] noncomputable def r18_0 : List RO := [
  ⟨.var 1, .mv, [.con (.int .i64 0)], none⟩]
@[reducible] noncomputable def r18_1 : List RO := [
  ⟨.loc 3, .mv, [.var 0], none⟩,
  ⟨.loc 4, .call, [(.con (.fn (.func 32) [] [])), .loc 3], none⟩,
  ⟨.loc 5, .call, [(.con (.fn (.func 31) [] [])), .loc 4, (.con (.fn (.func 33) [] []))], none⟩,
  ⟨.loc 6, .lenL, [.loc 5], none⟩,
  ⟨.var 1, .mv, [.loc 6], none⟩]
theorem P18 : C18.M = M := by unfold C18 E18; rfl
theorem i18 {a0 : D} : St.init C18 [a0] ⟨[], []⟩ = ⟨[a0, .undef], [], ⟨[], []⟩⟩ := by unfold C18 E18; rfl
noncomputable def c18 : RC := (.seq (.reg r18_0) (.seq (.reg r18_1) .ret))
noncomputable def q18 : List RR := [(.slot (.var 1))]
theorem z18 {n m : Nat} : resCode (E18 n m) (Try.f18.body.getD .skip) = some c18 := by kernel_rfl
theorem zr18 {n m : Nat} : resRs (E18 n m) Try.f18.results.toList = some q18 := by kernel_rfl
theorem ow18 {args : List D} {d : D} (hl : args.length = 1) (h : SWp C18 c18 (fun e s => (match e with | .exit _ => False | _ => True) ∧ ∃ s1, Weak C18 s s1 ∧ rrsWp q18 s1 fun ds => D.closed (oneOrTup ds) = true ∧ (oneOrTup ds).er = d) (St.init C18 args ⟨[], []⟩)) : Pur M 18 args d :=
  pur_of_bodyW (C := C18) (fn := Try.f18) Try.func18 (by kernel_rfl) (by kernel_rfl) (rc := c18) z18 (rs := q18) zr18 (by kernel_rfl) (by rw [hl]; rfl) (by rw [hl]; decide) rfl rfl h
theorem ok18 {args : List D} {d : D} (hl : args.length = 1) (h : SWp C18 c18 (fun e s => (match e with | .exit _ => False | _ => True) ∧ rrsWp q18 s fun ds => D.closed (oneOrTup ds) = true ∧ (oneOrTup ds).er = d) (St.init C18 args ⟨[], []⟩)) : Pur M 18 args d :=
  pur_of_body (C := C18) (fn := Try.f18) Try.func18 (by kernel_rfl) (by kernel_rfl) (rc := c18) z18 (rs := q18) zr18 (by kernel_rfl) (by rw [hl]; rfl) (by rw [hl]; decide) rfl rfl h
noncomputable def E31 (n m : Nat) : Cfg := ⟨M, [0, 1, 4, 5, 6, 7, 12, 19, 29], 42, n, m, []⟩
noncomputable def C31 : Cfg := E31 0 0
@[reducible] noncomputable def r31_0 : List RO := [
  ⟨.var 2, .mv, [(.con (.lit (.slice none 0 0)))], none⟩]
@[reducible] noncomputable def r31_1 : List RO := [
  ⟨.loc 8, .mv, [.var 0], none⟩,
  ⟨.loc 9, .mv, [.var 1], none⟩,
  ⟨.loc 10, .call, [(.con (.fn (.func 44) [] [])), .loc 8, .loc 9], none⟩,
  ⟨.var 3, .mv, [.loc 10], none⟩]
@[reducible] noncomputable def r31_2 : List RO := [
  ⟨.loc 11, .mv, [.var 3], none⟩,
  ⟨.var 6, .bin .eql, [.loc 11, (.con (.int .i64 (-1)))], none⟩]
@[reducible] noncomputable def r31_3 : List RO := [
  ⟨.loc 13, .mv, [.var 0], none⟩,
  ⟨.var 2, .mv, [.loc 13], none⟩]
@[reducible] noncomputable def r31_4 : List RO := [
  ⟨.loc 14, .mv, [.var 3], none⟩,
  ⟨.loc 15, .bin .add, [.loc 14, .con (.int .i64 1)], none⟩,
  ⟨.var 4, .mv, [.loc 15], none⟩]
@[reducible] noncomputable def r31_5 : List RO := [
  ⟨.loc 16, .mv, [.var 4], none⟩,
  ⟨.loc 17, .mv, [.var 0], none⟩,
  ⟨.loc 18, .lenL, [.loc 17], none⟩,
  ⟨.var 7, .bin .lss, [.loc 16, .loc 18], none⟩]
@[reducible] noncomputable def r31_6 : List RO := [
  ⟨.loc 22, .mv, [.var 0], none⟩,
  ⟨.loc 23, .mv, [.var 4], none⟩,
  ⟨.loc 24, .ixaS 2, [.loc 22, .loc 23], none⟩,
  ⟨.loc 25, .ld true 2, [.loc 24], none⟩,
  ⟨.var 5, (.newb [(.lit (.slice none 0 0)), (.bool false)]), [], none⟩,
  ⟨.none, .st 2, [.var 5, .loc 25], none⟩]
@[reducible] noncomputable def r31_7 : List RO := [
  ⟨.loc 26, .mv, [.var 1], none⟩,
  ⟨.loc 27, .ld true 2, [.var 5], none⟩,
  ⟨.loc 28, .call, [.loc 26, .loc 27], none⟩,
  ⟨.var 8, .un .not, [.loc 28], none⟩]
@[reducible] noncomputable def r31_8 : List RO := [
  ⟨.loc 30, .mv, [.var 0], none⟩,
  ⟨.loc 31, .mv, [.var 3], none⟩,
  ⟨.loc 32, .ld true 2, [.var 5], none⟩,
  ⟨.loc 33, .ixaS 2, [.loc 30, .loc 31], none⟩,
  ⟨.none, .st 2, [.loc 33, .loc 32], none⟩]
@[reducible] noncomputable def r31_9 : List RO := [
  ⟨.loc 34, .mv, [.var 3], none⟩,
  ⟨.loc 35, .bin .add, [.loc 34, .con (.int .i64 1)], none⟩,
  ⟨.var 3, .mv, [.loc 35], none⟩]
@[reducible] noncomputable def r31_10 : List RO := [
  ⟨.loc 20, .mv, [.var 4], none⟩,
  ⟨.loc 21, .bin .add, [.loc 20, .con (.int .i64 1)], none⟩,
  ⟨.var 4, .mv, [.loc 21], none⟩]
@[reducible] noncomputable def r31_11 : List RO := [
  ⟨.loc 36, .mv, [.var 0], none⟩,
  ⟨.loc 37, .mv, [.var 3], none⟩,
  ⟨.loc 38, .slcL 2 true false, [.loc 36, .loc 37], none⟩,
  ⟨.none, (.clr 2 [(.lit (.slice none 0 0)), (.bool false)]), [.loc 38], none⟩]
@[reducible] noncomputable def r31_12 : List RO := [
  ⟨.loc 39, .mv, [.var 0], none⟩,
  ⟨.loc 40, .mv, [.var 3], none⟩,
  ⟨.loc 41, .slcL 2 false true, [.loc 39, .loc 40], none⟩,
  ⟨.var 2, .mv, [.loc 41], none⟩]
theorem P31 : C31.M = M := by unfold C31 E31; rfl
theorem pe31 {n m : Nat} : (E31 n m).M = M := by unfold E31; rfl
theorem i31 {a0 a1 : D} : St.init C31 [a0, a1] ⟨[], []⟩ = ⟨[a0, a1, .undef, .undef, .undef, .undef, .undef, .undef, .undef], [], ⟨[], []⟩⟩ := by unfold C31 E31; rfl
theorem ie31 {n m : Nat} {hp : Hp} {a0 a1 : D} : St.init (E31 n m) [a0, a1] hp = ⟨[a0, a1, .undef, .undef, .undef, .undef, .undef, .undef, .undef], [], hp⟩ := by unfold E31; rfl
noncomputable def c31 : RC := (.seq (.reg r31_0) (.seq (.reg r31_1) (.seq (.seq (.reg r31_2) (.cond (.var 6) (.seq (.reg r31_3) .ret) .skip)) (.seq (.seq (.reg r31_4) (.block 0 (.loop (.seq (.seq (.reg r31_5) (.cond (.var 7) .skip (.exit 0))) (.seq (.block 1 (.seq (.reg r31_6) (.seq (.reg r31_7) (.cond (.var 8) (.seq (.reg r31_8) (.reg r31_9)) .skip)))) (.reg r31_10)))))) (.seq (.reg r31_11) (.seq (.reg r31_12) .ret))))))
noncomputable def q31 : List RR := [(.slot (.var 2))]
theorem z31 {n m : Nat} : resCode (E31 n m) (Try.f31.body.getD .skip) = some c31 := by kernel_rfl
theorem zr31 {n m : Nat} : resRs (E31 n m) Try.f31.results.toList = some q31 := by kernel_rfl
theorem oe31 {args : List D} {hp : Hp} {R : D → Hp → Prop} (n m : Nat) (hl : args.length = 2) (hn : n = hp.H.length) (hm : m = hp.tk.length) (h : SWp (E31 n m) c31 (fun e s => (match e with | .exit _ => False | _ => True) ∧ ∃ s1, Weak (E31 n m) s s1 ∧ rrsWp q31 s1 fun ds => R (oneOrTup ds) s1.hp) (St.init (E31 n m) args hp)) : Eff M 31 args hp R :=
  eff_of_body (C := E31 n m) (fn := Try.f31) Try.func31 (by kernel_rfl) (by kernel_rfl) (rc := c31) z31 (rs := q31) zr31 (by kernel_rfl) (by rw [hl]; rfl) (by rw [hl]; exact (by decide : 2 ≤ 42)) hn hm h
theorem ok31 {args : List D} {d : D} (hl : args.length = 2) (h : SWp C31 c31 (fun e s => (match e with | .exit _ => False | _ => True) ∧ rrsWp q31 s fun ds => D.closed (oneOrTup ds) = true ∧ (oneOrTup ds).er = d) (St.init C31 args ⟨[], []⟩)) : Pur M 31 args d :=
  pur_of_body (C := C31) (fn := Try.f31) Try.func31 (by kernel_rfl) (by kernel_rfl) (rc := c31) z31 (rs := q31) zr31 (by kernel_rfl) (by rw [hl]; rfl) (by rw [hl]; decide) rfl rfl h
noncomputable def E44 (n m : Nat) : Cfg := ⟨M, [0, 1, 4, 5, 7, 8, 9, 16], 19, n, m, []⟩
noncomputable def C44 : Cfg := E44 0 0
@[reducible] noncomputable def r44_0 : List RO := [
  ⟨.var 2, .mv, [.con (.int .i64 0)], none⟩]
@[reducible] noncomputable def r44_1 : List RO := [
  ⟨.loc 6, .mv, [.var 0], none⟩,
  ⟨.var 4, .lenL, [.loc 6], none⟩,
  ⟨.var 5, .mv, [.con (.int .i64 0)], none⟩]
@[reducible] noncomputable def r44_2 : List RO := [
  ⟨.var 6, .bin .lss, [.var 5, .var 4], none⟩]
@[reducible] noncomputable def r44_3 : List RO := [
  ⟨.loc 10, .mv, [.var 5], none⟩,
  ⟨.var 3, .mv, [.loc 10], none⟩]
@[reducible] noncomputable def r44_4 : List RO := [
  ⟨.loc 11, .mv, [.var 1], none⟩,
  ⟨.loc 12, .mv, [.var 0], none⟩,
  ⟨.loc 13, .mv, [.var 3], none⟩,
  ⟨.loc 14, .ixaS 2, [.loc 12, .loc 13], none⟩,
  ⟨.loc 15, .ld true 2, [.loc 14], none⟩,
  ⟨.var 7, .call, [.loc 11, .loc 15], none⟩]
@[reducible] noncomputable def r44_5 : List RO := [
  ⟨.loc 17, .mv, [.var 3], none⟩,
  ⟨.var 2, .mv, [.loc 17], none⟩]
@[reducible] noncomputable def r44_6 : List RO := [
  ⟨.loc 18, .bin .add, [.var 5, .con (.int .i64 1)], none⟩,
  ⟨.var 5, .mv, [.loc 18], none⟩]
@[reducible] noncomputable def r44_7 : List RO := [
  ⟨.var 2, .mv, [(.con (.int .i64 (-1)))], none⟩]
theorem P44 : C44.M = M := by unfold C44 E44; rfl
theorem pe44 {n m : Nat} : (E44 n m).M = M := by unfold E44; rfl
theorem i44 {a0 a1 : D} : St.init C44 [a0, a1] ⟨[], []⟩ = ⟨[a0, a1, .undef, .undef, .undef, .undef, .undef, .undef], [], ⟨[], []⟩⟩ := by unfold C44 E44; rfl
theorem ie44 {n m : Nat} {hp : Hp} {a0 a1 : D} : St.init (E44 n m) [a0, a1] hp = ⟨[a0, a1, .undef, .undef, .undef, .undef, .undef, .undef], [], hp⟩ := by unfold E44; rfl
noncomputable def c44 : RC := (.seq (.reg r44_0) (.seq (.seq (.reg r44_1) (.block 0 (.loop (.seq (.reg r44_2) (.seq (.cond (.var 6) .skip (.exit 0)) (.seq (.block 1 (.seq (.reg r44_3) (.seq (.reg r44_4) (.cond (.var 7) (.seq (.reg r44_5) .ret) .skip)))) (.reg r44_6))))))) (.seq (.reg r44_7) .ret)))
noncomputable def q44 : List RR := [(.slot (.var 2))]
theorem z44 {n m : Nat} : resCode (E44 n m) (Try.f44.body.getD .skip) = some c44 := by kernel_rfl
theorem zr44 {n m : Nat} : resRs (E44 n m) Try.f44.results.toList = some q44 := by kernel_rfl
theorem oe44 {args : List D} {hp : Hp} {R : D → Hp → Prop} (n m : Nat) (hl : args.length = 2) (hn : n = hp.H.length) (hm : m = hp.tk.length) (h : SWp (E44 n m) c44 (fun e s => (match e with | .exit _ => False | _ => True) ∧ ∃ s1, Weak (E44 n m) s s1 ∧ rrsWp q44 s1 fun ds => R (oneOrTup ds) s1.hp) (St.init (E44 n m) args hp)) : Eff M 44 args hp R :=
  eff_of_body (C := E44 n m) (fn := Try.f44) Try.func44 (by kernel_rfl) (by kernel_rfl) (rc := c44) z44 (rs := q44) zr44 (by kernel_rfl) (by rw [hl]; rfl) (by rw [hl]; exact (by decide : 2 ≤ 19)) hn hm h
theorem ok44 {args : List D} {d : D} (hl : args.length = 2) (h : SWp C44 c44 (fun e s => (match e with | .exit _ => False | _ => True) ∧ rrsWp q44 s fun ds => D.closed (oneOrTup ds) = true ∧ (oneOrTup ds).er = d) (St.init C44 args ⟨[], []⟩)) : Pur M 44 args d :=
  pur_of_body (C := C44) (fn := Try.f44) Try.func44 (by kernel_rfl) (by kernel_rfl) (rc := c44) z44 (rs := q44) zr44 (by kernel_rfl) (by rw [hl]; rfl) (by rw [hl]; decide) rfl rfl h
noncomputable def E10 (n m : Nat) : Cfg := ⟨M, [0, 1, 2], 34, n, m, []⟩
noncomputable def C10 : Cfg := E10 0 0
@[reducible] noncomputable def r10_0 : List RO := [
  ⟨.var 0, .mv, [.con (.bool false)], none⟩]
@[reducible] noncomputable def r10_1 : List RO := [
  ⟨.loc 3, (.bld [(.int .i64 0), (.int .i64 0), (.str []), (.str []), (.str []), (.str []), (.str []), (.str []), (.int .i64 0), (.int .i64 0), (.int .i64 0), (.int .i64 0), (.int .i64 0), (.int .i64 0)] [(0, 1), (2, 1), (4, 1), (5, 1)]), [.con (.int .i64 2), (.con (.str [97])), (.con (.str [99])), (.con (.str [115]))], none⟩,
  ⟨.loc 4, .bsl 14, [.loc 3], none⟩,
  ⟨.loc 5, (.bld [(.lit (.slice none 0 0)), (.bool false)] [(0, 1), (1, 1)]), [.loc 4, .con (.bool true)], none⟩,
  ⟨.var 1, (.newb [(.lit (.slice none 0 0)), (.bool false)]), [], none⟩,
  ⟨.none, .st 2, [.var 1, .loc 5], none⟩]
@[reducible] noncomputable def r10_2 : List (RO × Bool) := [
  (⟨.loc 6, .call, [(.con (.fn (.func 24) [] [])), (.con (.str [97]))], none⟩, true),
  (⟨.loc 7, .call, [(.con (.fn (.func 24) [] [])), (.con (.str [98]))], none⟩, true),
  (⟨.loc 8, .ld true 2, [.var 1], none⟩, true),
  (⟨.loc 9, .call, [(.con (.fn (.func 24) [] [])), (.con (.str [99]))], none⟩, true)]
@[reducible] noncomputable def r10_3 : List RO := [
  ⟨.loc 10, .bsl 2, [.loc 6, .loc 7, .loc 8, .loc 9], none⟩,
  ⟨.var 2, .mv, [.loc 10], none⟩]
@[reducible] noncomputable def r10_4 : List RO := [
  ⟨.loc 11, .mv, [.var 2], none⟩,
  ⟨.loc 12, .call, [(.con (.fn (.func 13) [] [])), .loc 11], none⟩,
  ⟨.loc 13, .bsl 1, [.con (.int .i64 0), .con (.int .i64 2), .con (.int .i64 3)], none⟩,
  ⟨.loc 14, .bsl 1, [.con (.int .i64 1)], none⟩,
  ⟨.loc 15, .bsl 1, [.loc 13, .loc 14], none⟩,
  ⟨.loc 16, .call, [(.con (.fn (.func 12) [] [])), .loc 12, .loc 15], none⟩,
  ⟨.loc 17, .mv, [.loc 16], none⟩,
  ⟨.loc 18, .mv, [.var 2], (some (.loc 17, true))⟩,
  ⟨.loc 19, .call, [(.con (.fn (.func 16) [] [])), .loc 18, (.con (.str [99]))], (some (.loc 17, true))⟩,
  ⟨.loc 20, .bsl 1, [.con (.int .i64 0), .con (.int .i64 2), .con (.int .i64 3)], (some (.loc 17, true))⟩,
  ⟨.loc 21, .call, [(.con (.fn (.func 15) [] [])), .loc 19, .loc 20], (some (.loc 17, true))⟩,
  ⟨.loc 22, .pick, [.loc 17, .loc 21, .con (.bool false)], none⟩,
  ⟨.loc 23, .mv, [.loc 22], none⟩,
  ⟨.loc 24, .mv, [.var 2], (some (.loc 23, true))⟩,
  ⟨.loc 25, .call, [(.con (.fn (.func 16) [] [])), .loc 24, (.con (.str [120]))], (some (.loc 23, true))⟩,
  ⟨.loc 26, .lenL, [.loc 25], (some (.loc 23, true))⟩,
  ⟨.loc 27, .bin .eql, [.loc 26, .con (.int .i64 0)], (some (.loc 23, true))⟩,
  ⟨.loc 28, .pick, [.loc 23, .loc 27, .con (.bool false)], none⟩,
  ⟨.loc 29, .mv, [.loc 28], none⟩,
  ⟨.loc 30, .mv, [.var 2], (some (.loc 29, true))⟩,
  ⟨.loc 31, .call, [(.con (.fn (.func 18) [] [])), .loc 30], (some (.loc 29, true))⟩,
  ⟨.loc 32, .bin .eql, [.loc 31, .con (.int .i64 1)], (some (.loc 29, true))⟩,
  ⟨.loc 33, .pick, [.loc 29, .loc 32, .con (.bool false)], none⟩,
  ⟨.var 0, .mv, [.loc 33], none⟩]
theorem P10 : C10.M = M := by unfold C10 E10; rfl
theorem i10 : St.init C10 [] ⟨[], []⟩ = ⟨[.undef, .undef, .undef], [], ⟨[], []⟩⟩ := by unfold C10 E10; rfl
noncomputable def c10 : RC := (.seq (.reg r10_0) (.seq (.reg r10_1) (.seq (.regD r10_2 r10_3) (.seq (.reg r10_4) .ret))))
noncomputable def q10 : List RR := [(.slot (.var 0))]
theorem z10 {n m : Nat} : resCode (E10 n m) (Try.f10.body.getD .skip) = some c10 := by kernel_rfl
theorem zr10 {n m : Nat} : resRs (E10 n m) Try.f10.results.toList = some q10 := by kernel_rfl
theorem ok10 {args : List D} {d : D} (hl : args.length = 0) (h : SWp C10 c10 (fun e s => (match e with | .exit _ => False | _ => True) ∧ rrsWp q10 s fun ds => D.closed (oneOrTup ds) = true ∧ (oneOrTup ds).er = d) (St.init C10 args ⟨[], []⟩)) : Pur M 10 args d :=
  pur_of_body (C := C10) (fn := Try.f10) Try.func10 (by kernel_rfl) (by kernel_rfl) (rc := c10) z10 (rs := q10) zr10 (by kernel_rfl) (by rw [hl]; rfl) (by rw [hl]; decide) rfl rfl h
end Go.Proofs.Ytofnggfpegcllaa
end
section
set_option maxRecDepth 100000
namespace Go.Proofs.Ytofnggfpegcllaa
open Go GoV
noncomputable def E8 (n m : Nat) : Cfg := ⟨M, [0, 1, 3, 4, 5, 6, 7, 8, 9, 10, 11, 12, 13, 14, 15, 16, 17, 18, 28, 52, 58, 69, 77, 85, 103, 106, 143], 145, n, m, []⟩
noncomputable def C8 : Cfg := E8 0 0
@[reducible] noncomputable def r8_0 : List RO := [
  ⟨.var 2, .box, [.var 1], none⟩,
  ⟨.var 3, .mv, [.con (.bool false)], none⟩]
@[reducible] noncomputable def r8_1 : List RO := [
  ⟨.loc 19, .call, [(.con (.fn (.func 10) [] []))], none⟩,
  ⟨.var 4, .mv, [.loc 19], none⟩]
@[reducible] noncomputable def r8_2 : List (RO × Bool) := [
  (⟨.loc 20, .bsl 2, [], none⟩, true),
  (⟨.loc 21, .mv, [.var 0], none⟩, true),
  (⟨.loc 22, .app 2 32 40, [.loc 20, .loc 21], none⟩, true),
  (⟨.loc 23, .ld true 2, [.var 2], none⟩, true),
  (⟨.loc 24, .bsl 2, [.loc 23], none⟩, true)]
@[reducible] noncomputable def r8_3 : List RO := [
  ⟨.loc 25, .app 2 32 40, [.loc 22, .loc 24], none⟩,
  ⟨.var 5, .mv, [.loc 25], none⟩]
@[reducible] noncomputable def r8_4 : List RO := [
  ⟨.loc 26, .mv, [.var 5], none⟩,
  ⟨.loc 27, .call, [(.con (.fn (.func 11) [] [])), .loc 26], none⟩,
  ⟨.var 18, .un .not, [.loc 27], none⟩]
@[reducible] noncomputable def r8_5 : List RO := [
  ⟨.loc 29, .mv, [.var 4], none⟩,
  ⟨.var 3, .mv, [.loc 29], none⟩]
@[reducible] noncomputable def r8_6 : List RO := [
  ⟨.loc 30, .mv, [.var 0], none⟩,
  ⟨.loc 31, .lenL, [.loc 30], none⟩,
  ⟨.var 6, .mv, [.loc 31], none⟩]
@[reducible] noncomputable def r8_7 : List RO := [
  ⟨.loc 33, .mv, [.var 6], none⟩,
  ⟨.loc 34, .mv, [.var 0], none⟩,
  ⟨.loc 35, .call, [(.con (.fn (.func 13) [] [])), .loc 34], none⟩,
  ⟨.loc 36, .call, [(.con (.fn (.func 20) [] [])), .loc 33, .loc 35], none⟩,
  ⟨.loc 32, .mv, [.loc 36], none⟩,
  ⟨.loc 37, .ext 0, [.loc 32], none⟩,
  ⟨.loc 38, .ext 1, [.loc 32], none⟩,
  ⟨.var 7, .mv, [.loc 37], none⟩,
  ⟨.var 8, .mv, [.loc 38], none⟩]
@[reducible] noncomputable def r8_8 : List RO := [
  ⟨.loc 40, .mv, [.var 6], none⟩,
  ⟨.loc 41, .bin .add, [.loc 40, .con (.int .i64 1)], none⟩,
  ⟨.loc 42, .mv, [.var 5], none⟩,
  ⟨.loc 43, .call, [(.con (.fn (.func 13) [] [])), .loc 42], none⟩,
  ⟨.loc 44, .call, [(.con (.fn (.func 20) [] [])), .loc 41, .loc 43], none⟩,
  ⟨.loc 39, .mv, [.loc 44], none⟩,
  ⟨.loc 45, .ext 0, [.loc 39], none⟩,
  ⟨.loc 46, .ext 1, [.loc 39], none⟩,
  ⟨.var 9, .mv, [.loc 45], none⟩,
  ⟨.var 10, .mv, [.loc 46], none⟩]
@[reducible] noncomputable def r8_9 : List RO := [
  ⟨.loc 47, .mv, [.var 8], none⟩,
  ⟨.loc 48, .un .not, [.loc 47], none⟩,
  ⟨.loc 49, .mv, [.loc 48], none⟩,
  ⟨.loc 50, .mv, [.var 10], (some (.loc 49, false))⟩,
  ⟨.loc 51, .un .not, [.loc 50], (some (.loc 49, false))⟩,
  ⟨.var 19, .pick, [.loc 49, .con (.bool true), .loc 51], none⟩]
@[reducible] noncomputable def r8_10 : List RO := [
  ⟨.var 3, .mv, [.con (.bool false)], none⟩]
@[reducible] noncomputable def r8_11 : List RO := [
  ⟨.loc 53, .ld true 2, [.var 2], none⟩,
  ⟨.loc 54, .call, [(.con (.fn (.func 21) [] [])), .loc 53], none⟩,
  ⟨.var 11, .mv, [.loc 54], none⟩]
@[reducible] noncomputable def r8_12 : List RO := [
  ⟨.loc 55, .newM, [], none⟩,
  ⟨.var 12, .mv, [.loc 55], none⟩]
@[reducible] noncomputable def r8_13 : List RO := [
  ⟨.var 13, .mv, [.con (.int .i64 0)], none⟩]
@[reducible] noncomputable def r8_14 : List RO := [
  ⟨.loc 56, .mv, [.var 13], none⟩,
  ⟨.loc 57, .mv, [.var 6], none⟩,
  ⟨.var 20, .bin .lss, [.loc 56, .loc 57], none⟩]
@[reducible] noncomputable def r8_15 : List RO := [
  ⟨.loc 61, .mv, [.var 0], none⟩,
  ⟨.loc 62, .mv, [.var 13], none⟩,
  ⟨.loc 63, .ixaS 2, [.loc 61, .loc 62], none⟩,
  ⟨.loc 64, .ld true 2, [.loc 63], none⟩,
  ⟨.loc 65, .call, [(.con (.fn (.func 21) [] [])), .loc 64], none⟩,
  ⟨.var 14, .mv, [.loc 65], none⟩]
@[reducible] noncomputable def r8_16 : List RO := [
  ⟨.var 15, .mv, [.con (.int .i64 0)], none⟩]
@[reducible] noncomputable def r8_17 : List RO := [
  ⟨.loc 66, .mv, [.var 15], none⟩,
  ⟨.loc 67, .mv, [.var 14], none⟩,
  ⟨.loc 68, .lenL, [.loc 67], none⟩,
  ⟨.var 21, .bin .lss, [.loc 66, .loc 68], none⟩]
@[reducible] noncomputable def r8_18 : List RO := [
  ⟨.loc 72, .mv, [.var 11], none⟩,
  ⟨.loc 73, .mv, [.var 14], none⟩,
  ⟨.loc 74, .mv, [.var 15], none⟩,
  ⟨.loc 75, .ixaS 1, [.loc 73, .loc 74], none⟩,
  ⟨.loc 76, .ld false 1, [.loc 75], none⟩,
  ⟨.var 22, .call, [(.con (.fn (.func 22) [] [])), .loc 72, .loc 76], none⟩]
@[reducible] noncomputable def r8_19 : List RO := [
  ⟨.loc 78, .mv, [.var 12], none⟩,
  ⟨.loc 79, .mv, [.var 7], none⟩,
  ⟨.loc 80, .mv, [.var 13], none⟩,
  ⟨.loc 81, .ixaS 1, [.loc 79, .loc 80], none⟩,
  ⟨.loc 82, .ld false 1, [.loc 81], none⟩,
  ⟨.none, (.mpu (.int .i64)), [.loc 78, .loc 82, .con (.bool true)], none⟩]
@[reducible] noncomputable def r8_20 : List RO := [
  ⟨.loc 70, .mv, [.var 15], none⟩,
  ⟨.loc 71, .bin .add, [.loc 70, .con (.int .i64 1)], none⟩,
  ⟨.var 15, .mv, [.loc 71], none⟩]
@[reducible] noncomputable def r8_21 : List RO := [
  ⟨.loc 59, .mv, [.var 13], none⟩,
  ⟨.loc 60, .bin .add, [.loc 59, .con (.int .i64 1)], none⟩,
  ⟨.var 13, .mv, [.loc 60], none⟩]
@[reducible] noncomputable def r8_22 : List RO := [
  ⟨.var 16, .mv, [.con (.int .i64 0)], none⟩]
@[reducible] noncomputable def r8_23 : List RO := [
  ⟨.loc 83, .mv, [.var 16], none⟩,
  ⟨.loc 84, .mv, [.var 6], none⟩,
  ⟨.var 23, .bin .lss, [.loc 83, .loc 84], none⟩]
@[reducible] noncomputable def r8_24 : List (RO × Bool) := [
  (⟨.loc 88, .mv, [.var 9], none⟩, true),
  (⟨.loc 89, .mv, [.var 16], none⟩, true),
  (⟨.loc 90, .ixaS 1, [.loc 88, .loc 89], none⟩, true),
  (⟨.loc 91, .ld false 1, [.loc 90], none⟩, true),
  (⟨.loc 92, .mv, [.var 9], none⟩, true),
  (⟨.loc 93, .mv, [.var 6], none⟩, true),
  (⟨.loc 94, .ixaS 1, [.loc 92, .loc 93], none⟩, true),
  (⟨.loc 95, .ld false 1, [.loc 94], none⟩, true),
  (⟨.loc 96, .bin .eql, [.loc 91, .loc 95], none⟩, true),
  (⟨.loc 97, .mv, [.var 12], none⟩, true),
  (⟨.loc 98, .mv, [.var 7], none⟩, true),
  (⟨.loc 99, .mv, [.var 16], none⟩, true),
  (⟨.loc 100, .ixaS 1, [.loc 98, .loc 99], none⟩, true),
  (⟨.loc 101, .ld false 1, [.loc 100], none⟩, true),
  (⟨.loc 102, (.lkp (.int .i64) false (.bool false)), [.loc 97, .loc 101], none⟩, true)]
@[reducible] noncomputable def r8_25 : List RO := [
  ⟨.var 24, .eqB true, [.loc 96, .loc 102], none⟩]
@[reducible] noncomputable def r8_26 : List RO := [
  ⟨.var 3, .mv, [.con (.bool false)], none⟩]
@[reducible] noncomputable def r8_27 : List RO := [
  ⟨.var 17, .mv, [.con (.int .i64 0)], none⟩]
@[reducible] noncomputable def r8_28 : List RO := [
  ⟨.loc 104, .mv, [.var 17], none⟩,
  ⟨.loc 105, .mv, [.var 16], none⟩,
  ⟨.var 25, .bin .lss, [.loc 104, .loc 105], none⟩]
@[reducible] noncomputable def r8_29 : List (RO × Bool) := [
  (⟨.loc 109, .mv, [.var 9], none⟩, true),
  (⟨.loc 110, .mv, [.var 16], none⟩, true),
  (⟨.loc 111, .ixaS 1, [.loc 109, .loc 110], none⟩, true),
  (⟨.loc 112, .ld false 1, [.loc 111], none⟩, true),
  (⟨.loc 113, .mv, [.var 9], none⟩, true),
  (⟨.loc 114, .mv, [.var 17], none⟩, true),
  (⟨.loc 115, .ixaS 1, [.loc 113, .loc 114], none⟩, true),
  (⟨.loc 116, .ld false 1, [.loc 115], none⟩, true),
  (⟨.loc 117, .bin .eql, [.loc 112, .loc 116], none⟩, true),
  (⟨.loc 118, .mv, [.var 7], none⟩, true),
  (⟨.loc 119, .mv, [.var 16], none⟩, true),
  (⟨.loc 120, .ixaS 1, [.loc 118, .loc 119], none⟩, true),
  (⟨.loc 121, .ld false 1, [.loc 120], none⟩, true),
  (⟨.loc 122, .mv, [.var 7], none⟩, true),
  (⟨.loc 123, .mv, [.var 17], none⟩, true),
  (⟨.loc 124, .ixaS 1, [.loc 122, .loc 123], none⟩, true),
  (⟨.loc 125, .ld false 1, [.loc 124], none⟩, true),
  (⟨.loc 126, .bin .eql, [.loc 121, .loc 125], none⟩, true),
  (⟨.loc 127, .mv, [.loc 126], none⟩, true),
  (⟨.loc 128, .mv, [.var 12], (some (.loc 127, false))⟩, true),
  (⟨.loc 129, .mv, [.var 7], (some (.loc 127, false))⟩, true),
  (⟨.loc 130, .mv, [.var 16], (some (.loc 127, false))⟩, true),
  (⟨.loc 131, .ixaS 1, [.loc 129, .loc 130], (some (.loc 127, false))⟩, true),
  (⟨.loc 132, .ld false 1, [.loc 131], (some (.loc 127, false))⟩, true),
  (⟨.loc 133, (.lkp (.int .i64) false (.bool false)), [.loc 128, .loc 132], (some (.loc 127, false))⟩, true),
  (⟨.loc 134, .mv, [.loc 133], (some (.loc 127, false))⟩, true),
  (⟨.loc 135, .mv, [.var 12], (some (.loc 134, true))⟩, true),
  (⟨.loc 136, .mv, [.var 7], (some (.loc 134, true))⟩, true),
  (⟨.loc 137, .mv, [.var 17], (some (.loc 134, true))⟩, true),
  (⟨.loc 138, .ixaS 1, [.loc 136, .loc 137], (some (.loc 134, true))⟩, true),
  (⟨.loc 139, .ld false 1, [.loc 138], (some (.loc 134, true))⟩, true),
  (⟨.loc 140, (.lkp (.int .i64) false (.bool false)), [.loc 135, .loc 139], (some (.loc 134, true))⟩, true),
  (⟨.loc 141, .pick, [.loc 134, .loc 140, .con (.bool false)], (some (.loc 127, false))⟩, true),
  (⟨.loc 142, .pick, [.loc 127, .con (.bool true), .loc 141], none⟩, true)]
@[reducible] noncomputable def r8_30 : List RO := [
  ⟨.var 26, .eqB true, [.loc 117, .loc 142], none⟩]
@[reducible] noncomputable def r8_31 : List RO := [
  ⟨.var 3, .mv, [.con (.bool false)], none⟩]
@[reducible] noncomputable def r8_32 : List RO := [
  ⟨.loc 107, .mv, [.var 17], none⟩,
  ⟨.loc 108, .bin .add, [.loc 107, .con (.int .i64 1)], none⟩,
  ⟨.var 17, .mv, [.loc 108], none⟩]
@[reducible] noncomputable def r8_33 : List RO := [
  ⟨.loc 86, .mv, [.var 16], none⟩,
  ⟨.loc 87, .bin .add, [.loc 86, .con (.int .i64 1)], none⟩,
  ⟨.var 16, .mv, [.loc 87], none⟩]
@[reducible] noncomputable def r8_34 : List RO := [
  ⟨.loc 144, .mv, [.var 4], none⟩,
  ⟨.var 3, .mv, [.loc 144], none⟩]
theorem P8 : C8.M = M := by unfold C8 E8; rfl
theorem i8 {a0 a1 : D} : St.init C8 [a0, a1] ⟨[], []⟩ = ⟨[a0, a1, .undef, .undef, .undef, .undef, .undef, .undef, .undef, .undef, .undef, .undef, .undef, .undef, .undef, .undef, .undef, .undef, .undef, .undef, .undef, .undef, .undef, .undef, .undef, .undef, .undef], [], ⟨[], []⟩⟩ := by unfold C8 E8; rfl
noncomputable def c8 : RC := (.seq (.reg r8_0) (.seq (.reg r8_1) (.seq (.regD r8_2 r8_3) (.seq (.seq (.reg r8_4) (.cond (.var 18) (.seq (.reg r8_5) .ret) .skip)) (.seq (.reg r8_6) (.seq (.reg r8_7) (.seq (.reg r8_8) (.seq (.seq (.reg r8_9) (.cond (.var 19) (.seq (.reg r8_10) .ret) .skip)) (.seq (.reg r8_11) (.seq (.reg r8_12) (.seq (.seq (.reg r8_13) (.block 0 (.loop (.seq (.seq (.reg r8_14) (.cond (.var 20) .skip (.exit 0))) (.seq (.block 1 (.seq (.reg r8_15) (.seq (.reg r8_16) (.block 2 (.loop (.seq (.seq (.reg r8_17) (.cond (.var 21) .skip (.exit 2))) (.seq (.block 3 (.seq (.reg r8_18) (.cond (.var 22) (.reg r8_19) .skip))) (.reg r8_20)))))))) (.reg r8_21)))))) (.seq (.seq (.reg r8_22) (.block 4 (.loop (.seq (.seq (.reg r8_23) (.cond (.var 23) .skip (.exit 4))) (.seq (.block 5 (.seq (.seq (.regD r8_24 r8_25) (.cond (.var 24) (.seq (.reg r8_26) .ret) .skip)) (.seq (.reg r8_27) (.block 6 (.loop (.seq (.seq (.reg r8_28) (.cond (.var 25) .skip (.exit 6))) (.seq (.block 7 (.seq (.regD r8_29 r8_30) (.cond (.var 26) (.seq (.reg r8_31) .ret) .skip))) (.reg r8_32)))))))) (.reg r8_33)))))) (.seq (.reg r8_34) .ret)))))))))))))
noncomputable def q8 : List RR := [(.slot (.var 3))]
theorem z8 {n m : Nat} : resCode (E8 n m) (Try.f8.body.getD .skip) = some c8 := by kernel_rfl
theorem zr8 {n m : Nat} : resRs (E8 n m) Try.f8.results.toList = some q8 := by kernel_rfl
theorem ow8 {args : List D} {d : D} (hl : args.length = 2) (h : SWp C8 c8 (fun e s => (match e with | .exit _ => False | _ => True) ∧ ∃ s1, Weak C8 s s1 ∧ rrsWp q8 s1 fun ds => D.closed (oneOrTup ds) = true ∧ (oneOrTup ds).er = d) (St.init C8 args ⟨[], []⟩)) : Pur M 8 args d :=
  pur_of_bodyW (C := C8) (fn := Try.f8) Try.func8 (by kernel_rfl) (by kernel_rfl) (rc := c8) z8 (rs := q8) zr8 (by kernel_rfl) (by rw [hl]; rfl) (by rw [hl]; decide) rfl rfl h
end Go.Proofs.Ytofnggfpegcllaa
end
section
set_option linter.unusedVariables false
set_option linter.unusedSimpArgs false
namespace Go.Proofs.Ytofnggfpegcllaa
abbrev Nm := List UInt8
abbrev lb (L : List Nat) (i : Nat) : Nat := L.getD i 0
def sh (R : List (List Nm)) (i k : Nat) : Prop := ∃ s, s ∈ R.getD i [] ∧ s ∈ R.getD k []
inductive Cn (R : List (List Nm)) : Nat → Nat → Prop
  | refl (i) : Cn R i i
  | base {i k} : sh R i k → Cn R i k
  | symm {i k} : Cn R i k → Cn R k i
  | trans {i j k} : Cn R i j → Cn R j k → Cn R i k

def relab (hi lo : Nat) (L : List Nat) : List Nat := L.map fun x => if x = hi then lo else x
def joinL (L : List Nat) (a b : Nat) : List Nat := relab (max (lb L a) (lb L b)) (min (lb L a) (lb L b)) L
def Lo (L : List Nat) : Prop := ∀ i, i < L.length → lb L i ≤ i ∧ lb L (lb L i) = lb L i
theorem lb_lt {L : List Nat} {i : Nat} (h : i < L.length) : lb L i = L[i] := by simp [lb, List.getD, h]
theorem relab_len {hi lo : Nat} {L : List Nat} : (relab hi lo L).length = L.length := by simp [relab]
theorem joinL_len {L : List Nat} {a b : Nat} : (joinL L a b).length = L.length := relab_len
theorem lb_relab {hi lo : Nat} {L : List Nat} {i : Nat} (h : i < L.length) : lb (relab hi lo L) i = if lb L i = hi then lo else lb L i := by
  rw [lb_lt (by rw [relab_len]; exact h), lb_lt h]
  simp [relab]
theorem lb_joinL {L : List Nat} {a b i : Nat} (h : i < L.length) : lb (joinL L a b) i = if lb L i = max (lb L a) (lb L b) then min (lb L a) (lb L b) else lb L i := lb_relab h
theorem lo_join {L : List Nat} (h : Lo L) {a b : Nat} (ha : a < L.length) (hb : b < L.length) : Lo (joinL L a b) := by
  intro i hi
  rw [joinL_len] at hi
  obtain ⟨h1, h2⟩ := h i hi
  obtain ⟨a1, a2⟩ := h a ha
  obtain ⟨b1, b2⟩ := h b hb
  have hm : lb L (min (lb L a) (lb L b)) = min (lb L a) (lb L b) := by
    rcases Nat.le_total (lb L a) (lb L b) with q | q
    · rw [Nat.min_eq_left q]; exact a2
    · rw [Nat.min_eq_right q]; exact b2
  have hml : min (lb L a) (lb L b) < L.length := by omega
  rw [lb_joinL hi]
  by_cases e : lb L i = max (lb L a) (lb L b)
  · rw [if_pos e]
    refine ⟨by omega, ?_⟩
    rw [lb_joinL hml, hm]
    split <;> omega
  · rw [if_neg e]
    refine ⟨h1, ?_⟩
    rw [lb_joinL (by omega), h2, if_neg e]
theorem join_keeps {L : List Nat} {a b i k : Nat} (hi : i < L.length) (hk : k < L.length) (h : lb L i = lb L k) : lb (joinL L a b) i = lb (joinL L a b) k := by
  rw [lb_joinL hi, lb_joinL hk, h]
theorem join_does {L : List Nat} {a b : Nat} (ha : a < L.length) (hb : b < L.length) : lb (joinL L a b) a = lb (joinL L a b) b := by
  rw [lb_joinL ha, lb_joinL hb]
  split <;> split <;> omega
theorem join_only {L : List Nat} {a b i k : Nat} (hi : i < L.length) (hk : k < L.length) (h : lb (joinL L a b) i = lb (joinL L a b) k) :
    lb L i = lb L k ∨ (lb L i = lb L a ∧ lb L k = lb L b) ∨ (lb L i = lb L b ∧ lb L k = lb L a) := by
  rw [lb_joinL hi, lb_joinL hk] at h
  by_cases e : lb L i = max (lb L a) (lb L b) <;> by_cases f : lb L k = max (lb L a) (lb L b)
  · omega
  · rw [if_pos e, if_neg f] at h; omega
  · rw [if_neg e, if_pos f] at h; omega
  · rw [if_neg e, if_neg f] at h; exact .inl h

def look (F : List (Nm × Nat)) (s : Nm) : Option Nat := (F.find? fun p => p.1 == s).map (·.2)
def nameStep (i : Nat) (st : List Nat × List (Nm × Nat)) (s : Nm) : List Nat × List (Nm × Nat) :=
  match look st.2 s with
  | some k => (joinL st.1 k i, st.2)
  | none => (st.1, st.2 ++ [(s, i)])
def lnk (R : List (List Nm)) : Nat → List Nat × List (Nm × Nat)
  | 0 => ([], [])
  | k + 1 => (R.getD k []).foldl (nameStep k) ((lnk R k).1 ++ [k], (lnk R k).2)
def labs (R : List (List Nm)) : List Nat := (lnk R R.length).1
structure Inv (R : List (List Nm)) (k : Nat) (N : List Nm) (st : List Nat × List (Nm × Nat)) (n : Nat) : Prop where
  len : st.1.length = n
  lo : Lo st.1
  sound : ∀ i j, i < n → j < n → lb st.1 i = lb st.1 j → Cn R i j
  first : ∀ s i, look st.2 s = some i → i < n ∧ s ∈ R.getD i []
  has : ∀ j s, j < n → (j < k ∧ s ∈ R.getD j [] ∨ j = k ∧ s ∈ N) → ∃ i, look st.2 s = some i ∧ lb st.1 i = lb st.1 j
theorem look_new {F : List (Nm × Nat)} {s : Nm} {i : Nat} (h : look F s = none) (t : Nm) : look (F ++ [(s, i)]) t = if t = s then some i else look F t := by
  unfold look at *
  rw [List.find?_append]
  by_cases e : t = s
  · subst e
    rw [if_pos rfl]
    have : F.find? (fun p => p.1 == t) = none := by simpa using h
    rw [this]; simp
  · rw [if_neg e]
    cases hf : F.find? (fun p => p.1 == t) with
    | some p => simp
    | none => simp [Ne.symm e]
theorem inv_name {R : List (List Nm)} {k : Nat} {N : List Nm} {st : List Nat × List (Nm × Nat)} {s : Nm} (h : Inv R k N st (k + 1)) (hs : s ∈ R.getD k []) : Inv R k (N ++ [s]) (nameStep k st s) (k + 1) := by
  unfold nameStep
  cases hl : look st.2 s with
  | some f =>
    obtain ⟨hf, hfs⟩ := h.first s f hl
    have hlen := h.len
    refine ⟨by simp only [joinL_len]; exact hlen, lo_join h.lo (by omega) (by omega), fun i j hi hj e => ?_, h.first, fun j t hj ht => ?_⟩
    · have hfk : Cn R f k := .base ⟨s, hfs, hs⟩
      rcases join_only (by omega) (by omega) e with q | ⟨q1, q2⟩ | ⟨q1, q2⟩
      · exact h.sound i j hi hj q
      · exact ((h.sound i f hi hf q1).trans hfk).trans (h.sound j k hj (by omega) q2).symm
      · exact ((h.sound i k hi (by omega) q1).trans hfk.symm).trans (h.sound j f hj hf q2).symm
    · rcases ht with ht | ⟨rfl, ht⟩
      · obtain ⟨i, e1, e2⟩ := h.has j t hj (.inl ht)
        exact ⟨i, e1, join_keeps (by have := (h.first t i e1).1; omega) (by omega) e2⟩
      · rcases List.mem_append.1 ht with q | q
        · obtain ⟨i, e1, e2⟩ := h.has j t hj (.inr ⟨rfl, q⟩)
          exact ⟨i, e1, join_keeps (by have := (h.first t i e1).1; omega) (by omega) e2⟩
        · rw [List.mem_singleton.1 q]
          exact ⟨f, hl, join_does (by omega) (by omega)⟩
  | none =>
    have hnew := look_new (i := k) hl
    refine ⟨h.len, h.lo, h.sound, fun t i e => ?_, fun j t hj ht => ?_⟩
    · rw [hnew] at e
      split at e
      · rename_i q; cases e; subst q; exact ⟨by omega, hs⟩
      · exact h.first t i e
    · rw [hnew]
      have old : ∀ t, t = s → (j < k ∧ t ∈ R.getD j [] ∨ j = k ∧ t ∈ N) → False := fun t e q => by
        subst e
        obtain ⟨i, e1, _⟩ := h.has j t hj q
        rw [hl] at e1; cases e1
      have keep : (j < k ∧ t ∈ R.getD j [] ∨ j = k ∧ t ∈ N) → ∃ i, (if t = s then some k else look st.2 t) = some i ∧ lb st.1 i = lb st.1 j := fun q => by
        rw [if_neg fun e => old t e q]
        exact h.has j t hj q
      rcases ht with ht | ⟨rfl, ht⟩
      · exact keep (.inl ht)
      · rcases List.mem_append.1 ht with q | q
        · exact keep (.inr ⟨rfl, q⟩)
        · rw [List.mem_singleton.1 q, if_pos rfl]
          exact ⟨j, rfl, rfl⟩
theorem inv_names {R : List (List Nm)} {k : Nat} : ∀ (M N : List Nm) (st : List Nat × List (Nm × Nat)), Inv R k N st (k + 1) → (∀ s ∈ M, s ∈ R.getD k []) → Inv R k (N ++ M) (M.foldl (nameStep k) st) (k + 1)
  | [], N, st, h, _ => by simpa using h
  | s :: M, N, st, h, hs => by
    have := inv_names M (N ++ [s]) (nameStep k st s) (inv_name h (hs s (by simp))) fun t ht => hs t (by simp [ht])
    simpa using this
theorem inv_push {R : List (List Nm)} {k : Nat} {st : List Nat × List (Nm × Nat)} (h : Inv R k [] st k) : Inv R k [] (st.1 ++ [k], st.2) (k + 1) := by
  have hlen := h.len
  have hkeep : ∀ i, i < k → lb (st.1 ++ [k]) i = lb st.1 i := fun i hi => by simp [lb, List.getD, List.getElem?_append, hlen, hi]
  have hk : lb (st.1 ++ [k]) k = k := by simp [lb, List.getD, List.getElem?_append, hlen]
  refine ⟨by simp [hlen], fun i hi => ?_, fun i j hi hj e => ?_, fun s i e => ?_, fun j s hj ht => ?_⟩
  · simp [hlen] at hi
    by_cases e : i = k
    · subst e; rw [hk, hk]; exact ⟨Nat.le_refl _, rfl⟩
    · have := h.lo i (by omega)
      rw [hkeep i (by omega), hkeep _ (by omega)]; exact this
  · simp only at e
    by_cases e1 : i = k <;> by_cases e2 : j = k
    · subst e1; subst e2; exact .refl _
    · subst e1; rw [hk, hkeep j (by omega)] at e
      have := (h.lo j (by omega)).1; omega
    · subst e2; rw [hk, hkeep i (by omega)] at e
      have := (h.lo i (by omega)).1; omega
    · rw [hkeep i (by omega), hkeep j (by omega)] at e
      exact h.sound i j (by omega) (by omega) e
  · have := h.first s i e
    exact ⟨by omega, this.2⟩
  · rcases ht with ⟨q1, q2⟩ | ⟨_, q⟩
    · obtain ⟨i, e1, e2⟩ := h.has j s q1 (.inl ⟨q1, q2⟩)
      have := (h.first s i e1).1
      exact ⟨i, e1, by simp only; rw [hkeep i this, hkeep j q1]; exact e2⟩
    · cases q
theorem inv_lnk (R : List (List Nm)) : ∀ k, Inv R k [] (lnk R k) k
  | 0 => ⟨rfl, fun i hi => by simp [lnk] at hi, fun i j hi => by omega, fun s i e => by simp [lnk, look] at e, fun j s hj => by omega⟩
  | k + 1 => by
    have h1 := inv_names (R.getD k []) [] _ (inv_push (inv_lnk R k)) fun s hs => hs
    refine ⟨h1.len, h1.lo, h1.sound, h1.first, fun j s hj ht => ?_⟩
    rcases ht with ⟨q1, q2⟩ | ⟨_, q⟩
    · refine h1.has j s hj ?_
      by_cases e : j = k
      · subst e; exact .inr ⟨rfl, by simpa using q2⟩
      · exact .inl ⟨by omega, q2⟩
    · cases q
theorem sh_lt {R : List (List Nm)} {i k : Nat} (h : sh R i k) : i < R.length ∧ k < R.length := by
  obtain ⟨s, h1, h2⟩ := h
  constructor
  · rcases Nat.lt_or_ge i R.length with q | q
    · exact q
    · simp [List.getD, List.getElem?_eq_none q] at h1
  · rcases Nat.lt_or_ge k R.length with q | q
    · exact q
    · simp [List.getD, List.getElem?_eq_none q] at h2
theorem complete {R : List (List Nm)} {L : List Nat} (h : ∀ i k, sh R i k → lb L i = lb L k) {i k : Nat} (hc : Cn R i k) : lb L i = lb L k := by
  induction hc with
  | refl => rfl
  | base q => exact h _ _ q
  | symm _ ih => exact ih.symm
  | trans _ _ ih1 ih2 => exact ih1.trans ih2
theorem labs_len (R : List (List Nm)) : (labs R).length = R.length := (inv_lnk R R.length).len
theorem labs_lo (R : List (List Nm)) : Lo (labs R) := (inv_lnk R R.length).lo
theorem labs_iff (R : List (List Nm)) {i k : Nat} (hi : i < R.length) (hk : k < R.length) : lb (labs R) i = lb (labs R) k ↔ Cn R i k := by
  have h := inv_lnk R R.length
  refine ⟨h.sound i k hi hk, complete fun i k q => ?_⟩
  obtain ⟨h1, h2⟩ := sh_lt q
  obtain ⟨s, q1, q2⟩ := q
  obtain ⟨a, e1, e2⟩ := h.has i s h1 (.inl ⟨h1, q1⟩)
  obtain ⟨b, f1, f2⟩ := h.has k s h2 (.inl ⟨h2, q2⟩)
  rw [e1] at f1; cases f1
  exact e2.symm.trans f2

def compsL (L : List Nat) : List (List Nat) := ((List.range L.length).filter fun i => lb L i == i).map fun r => (List.range L.length).filter fun i => lb L i == r
def comps (R : List (List Nm)) : List (List Nat) := compsL (labs R)
def ofP (R : List (List Nm)) (s : Nm) : List Nat :=
  match look (lnk R R.length).2 s with
  | none => []
  | some k => (List.range R.length).filter fun i => lb (labs R) i == lb (labs R) k
end Go.Proofs.Ytofnggfpegcllaa
end
section
set_option linter.unusedVariables false
set_option linter.unusedSimpArgs false
namespace Go.Proofs.Ytofnggfpegcllaa

def roots (L : List Nat) : List Nat := (List.range L.length).filter fun i => lb L i == i
def mem (L : List Nat) (r : Nat) : List Nat := (List.range L.length).filter fun i => lb L i == r
theorem compsL_def (L : List Nat) : compsL L = (roots L).map (mem L) := rfl
def cno (L : List Nat) (i : Nat) : Nat := (roots L).idxOf (lb L i)
theorem range_incr (n : Nat) : (List.range n).Pairwise (· < ·) := List.pairwise_lt_range
theorem mem_incr (L : List Nat) (r : Nat) : (mem L r).Pairwise (· < ·) := (range_incr _).filter _
theorem roots_incr (L : List Nat) : (roots L).Pairwise (· < ·) := (range_incr _).filter _
theorem mem_mem {L : List Nat} {r i : Nat} : i ∈ mem L r ↔ i < L.length ∧ lb L i = r := by simp [mem]
theorem mem_roots {L : List Nat} {i : Nat} : i ∈ roots L ↔ i < L.length ∧ lb L i = i := by simp [roots]
theorem root_in {L : List Nat} (h : Lo L) {i : Nat} (hi : i < L.length) : lb L i ∈ roots L := by
  have := h i hi
  exact mem_roots.2 ⟨by omega, this.2⟩
theorem cno_lt {L : List Nat} (h : Lo L) {i : Nat} (hi : i < L.length) : cno L i < (roots L).length := List.idxOf_lt_length_iff.2 (root_in h hi)
theorem cno_get {L : List Nat} (h : Lo L) {i : Nat} (hi : i < L.length) : (roots L)[cno L i]'(cno_lt h hi) = lb L i := List.getElem_idxOf _
theorem cno_iff {L : List Nat} (h : Lo L) {i k : Nat} (hi : i < L.length) (hk : k < L.length) : cno L i = cno L k ↔ lb L i = lb L k := by
  constructor
  · intro e
    rw [← cno_get h hi, ← cno_get h hk]
    simp only [e]
  · intro e; unfold cno; rw [e]
theorem incr_get {l : List Nat} (h : l.Pairwise (· < ·)) {i j : Nat} (hj : j < l.length) (hij : i < j) : l[i]'(by omega) < l[j] := List.pairwise_iff_getElem.1 h i j (by omega) hj hij
theorem incr_inj {l : List Nat} (h : l.Pairwise (· < ·)) {i j : Nat} (hi : i < l.length) (hj : j < l.length) (e : l[i] = l[j]) : i = j := by
  rcases Nat.lt_trichotomy i j with q | q | q
  · have := incr_get h hj q; omega
  · exact q
  · have := incr_get h hi q; omega
theorem cno_of {L : List Nat} (h : Lo L) {i c : Nat} (hi : i < L.length) (hc : c < (roots L).length) : cno L i = c ↔ lb L i = (roots L)[c] := by
  rw [← cno_get h hi]
  constructor
  · intro e; simp only [e]
  · intro e; exact incr_inj (roots_incr L) (cno_lt h hi) hc e
theorem mem_head {L : List Nat} (h : Lo L) {r : Nat} (hr : r ∈ roots L) : ∃ hl : 0 < (mem L r).length, (mem L r)[0] = r := by
  obtain ⟨h1, h2⟩ := mem_roots.1 hr
  obtain ⟨k, hk, e⟩ := List.mem_iff_getElem.1 (mem_mem.2 ⟨h1, h2⟩ : r ∈ mem L r)
  refine ⟨by omega, ?_⟩
  rcases Nat.eq_zero_or_pos k with q | q
  · subst q; exact e
  · have h3 := incr_get (mem_incr L r) hk q
    obtain ⟨h4, h5⟩ := mem_mem.1 (List.getElem_mem (l := mem L r) (n := 0) (by omega))
    have := (h _ h4).1
    omega
def outP (L : List Nat) (i k x : Nat) : Bool := decide (cno L x < i) || (decide (cno L x = i) && ((mem L ((roots L).getD i 0)).take k).contains x)
def outTo (L : List Nat) (i k : Nat) : List Nat := (List.range L.length).map fun x => if outP L i k x then cno L x + 1 else 0
def cntTo (L : List Nat) (i k : Nat) : Nat := (List.range L.length).countP (outP L i k)
def atL (L : List Nat) : List Nat := (List.range L.length).map fun x => cno L x + 1
theorem countP_one {p : Nat → Bool} {x : Nat} (hp : p x = false) : ∀ {l : List Nat}, l.Nodup → l.countP (fun y => p y || y == x) = l.countP p + if x ∈ l then 1 else 0
  | [], _ => by simp
  | y :: l, h => by
    rw [List.nodup_cons] at h
    rw [List.countP_cons, List.countP_cons, countP_one hp h.2]
    by_cases e : y = x
    · subst e
      simp [hp, h.1]
    · have e2 : x ≠ y := Ne.symm e
      have e3 : (y == x) = false := by simpa using e
      simp only [e3, Bool.or_false, List.mem_cons, e2, false_or]
      omega
theorem out_step {L : List Nat} (h : Lo L) {i k : Nat} (hi : i < (roots L).length) (hk : k < (mem L (roots L)[i]).length) (x : Nat) (hx : x < L.length) :
    outP L i (k + 1) x = (outP L i k x || x == (mem L (roots L)[i])[k]) := by
  have hg : (roots L).getD i 0 = (roots L)[i] := by simp [List.getD, hi]
  have hc : ((mem L (roots L)[i]).take (k + 1)).contains x = (((mem L (roots L)[i]).take k).contains x || x == (mem L (roots L)[i])[k]) := by
    rw [Bool.eq_iff_iff]
    simp only [List.contains_iff_mem, Bool.or_eq_true, beq_iff_eq, List.take_succ_eq_append_getElem hk, List.mem_append, List.mem_singleton]
  unfold outP
  rw [hg, hc]
  have hcn : cno L (mem L (roots L)[i])[k] = i := by
    obtain ⟨h1, h2⟩ := mem_mem.1 (List.getElem_mem hk)
    exact (cno_of h h1 hi).2 h2
  by_cases e : x = (mem L (roots L)[i])[k]
  · rw [e, hcn]; simp
  · have e2 : (x == (mem L (roots L)[i])[k]) = false := by simpa using e
    rw [e2, Bool.or_false, Bool.or_false]
theorem out_fresh {L : List Nat} (h : Lo L) {i k : Nat} (hi : i < (roots L).length) (hk : k < (mem L (roots L)[i]).length) : outP L i k (mem L (roots L)[i])[k] = false := by
  have hg : (roots L).getD i 0 = (roots L)[i] := by simp [List.getD, hi]
  have hcn : cno L (mem L (roots L)[i])[k] = i := by
    obtain ⟨h1, h2⟩ := mem_mem.1 (List.getElem_mem hk)
    exact (cno_of h h1 hi).2 h2
  unfold outP
  rw [hg, hcn]
  simp only [Nat.lt_irrefl, decide_false, Bool.false_or, decide_true, Bool.true_and]
  cases e : ((mem L (roots L)[i]).take k).contains (mem L (roots L)[i])[k] with
  | false => rfl
  | true =>
    rw [List.contains_iff_mem] at e
    obtain ⟨j, hj, e⟩ := List.mem_iff_getElem.1 e
    rw [List.getElem_take] at e
    have := incr_inj (mem_incr _ _) (by simp at hj; omega) hk e
    simp at hj; omega
theorem out_row {L : List Nat} (h : Lo L) {i : Nat} (hi : i < (roots L).length) (x : Nat) (hx : x < L.length) : outP L i (mem L (roots L)[i]).length x = outP L (i + 1) 0 x := by
  have hg : (roots L).getD i 0 = (roots L)[i] := by simp [List.getD, hi]
  unfold outP
  rw [hg, List.take_length]
  have e : ((mem L (roots L)[i]).contains x) = decide (cno L x = i) := by
    rw [Bool.eq_iff_iff, List.contains_iff_mem, decide_eq_true_eq, cno_of h hx hi, mem_mem]
    exact ⟨fun q => q.2, fun q => ⟨hx, q⟩⟩
  rw [e]
  simp only [List.take_zero, List.contains_nil, Bool.and_false, Bool.or_false]
  by_cases q : cno L x = i
  · rw [q]; simp
  · rw [Bool.eq_iff_iff]
    simp [q]; omega
theorem outTo_len {L : List Nat} {i k : Nat} : (outTo L i k).length = L.length := by simp [outTo]
theorem outTo_step {L : List Nat} (h : Lo L) {i k : Nat} (hi : i < (roots L).length) (hk : k < (mem L (roots L)[i]).length) : outTo L i (k + 1) = (outTo L i k).set (mem L (roots L)[i])[k] (i + 1) := by
  refine List.ext_getElem (by simp [outTo]) fun x h1 h2 => ?_
  have hx : x < L.length := by simpa [outTo] using h1
  have hcn : cno L (mem L (roots L)[i])[k] = i := by
    obtain ⟨h1, h2⟩ := mem_mem.1 (List.getElem_mem hk)
    exact (cno_of h h1 hi).2 h2
  rw [List.getElem_set]
  simp only [outTo, List.getElem_map, List.getElem_range]
  rw [out_step h hi hk x hx]
  by_cases e : (mem L (roots L)[i])[k] = x
  · rw [if_pos e, ← e, hcn]; simp
  · rw [if_neg e]
    have : (x == (mem L (roots L)[i])[k]) = false := by simpa using Ne.symm e
    rw [this, Bool.or_false]
theorem outTo_fresh {L : List Nat} (h : Lo L) {i k : Nat} (hi : i < (roots L).length) (hk : k < (mem L (roots L)[i]).length) : (outTo L i k).getD (mem L (roots L)[i])[k] 0 = 0 := by
  have hx := (mem_mem.1 (List.getElem_mem hk)).1
  simp [outTo, List.getD, hx, out_fresh h hi hk]
theorem outTo_row {L : List Nat} (h : Lo L) {i : Nat} (hi : i < (roots L).length) : outTo L i (mem L (roots L)[i]).length = outTo L (i + 1) 0 := by
  unfold outTo
  refine List.map_congr_left fun x hx => ?_
  rw [out_row h hi x (by simpa using hx)]
theorem cnt_step {L : List Nat} (h : Lo L) {i k : Nat} (hi : i < (roots L).length) (hk : k < (mem L (roots L)[i]).length) : cntTo L i (k + 1) = cntTo L i k + 1 := by
  unfold cntTo
  have hx := (mem_mem.1 (List.getElem_mem hk)).1
  rw [List.countP_congr (q := fun y => outP L i k y || y == (mem L (roots L)[i])[k]) fun y hy => by rw [out_step h hi hk y (by simpa using hy)]]
  rw [countP_one (out_fresh h hi hk) List.nodup_range, if_pos (List.mem_range.2 hx)]
theorem cnt_row {L : List Nat} (h : Lo L) {i : Nat} (hi : i < (roots L).length) : cntTo L i (mem L (roots L)[i]).length = cntTo L (i + 1) 0 := by
  unfold cntTo
  exact List.countP_congr fun y hy => by rw [out_row h hi y (by simpa using hy)]
theorem out_zero {L : List Nat} (x : Nat) : outP L 0 0 x = false := by simp [outP]
theorem out_end {L : List Nat} (h : Lo L) {x : Nat} (hx : x < L.length) : outP L (roots L).length 0 x = true := by
  have := cno_lt h hx
  simp [outP, this]
theorem outTo_zero (L : List Nat) : outTo L 0 0 = List.replicate L.length 0 := by
  refine List.ext_getElem (by simp [outTo]) fun x h1 h2 => ?_
  simp [outTo, out_zero]
theorem outTo_end {L : List Nat} (h : Lo L) : outTo L (roots L).length 0 = atL L := by
  unfold outTo atL
  exact List.map_congr_left fun x hx => by rw [out_end h (by simpa using hx)]; rfl
theorem cnt_zero (L : List Nat) : cntTo L 0 0 = 0 := by
  unfold cntTo
  rw [List.countP_eq_zero]
  intro x _
  rw [out_zero]; simp
theorem cnt_end {L : List Nat} (h : Lo L) : cntTo L (roots L).length 0 = L.length := by
  unfold cntTo
  rw [List.countP_eq_length.2 fun x hx => out_end h (by simpa using hx), List.length_range]
theorem cnt_le {L : List Nat} {i k : Nat} : cntTo L i k ≤ L.length := by
  unfold cntTo
  exact Nat.le_trans List.countP_le_length (by simp)
end Go.Proofs.Ytofnggfpegcllaa
end
section
set_option linter.unusedVariables false
set_option linter.unusedSimpArgs false
namespace Go.Proofs.Ytofnggfpegcllaa

def com (a b : List Nm) : Bool := a.any fun s => b.contains s
structure Rf (R : List (List Nm)) (L : List Nat) : Prop where
  len : L.length = R.length
  lo : Lo L
  sound : ∀ i j, i < R.length → j < R.length → lb L i = lb L j → Cn R i j

theorem comps_len (L : List Nat) : (compsL L).length = (roots L).length := by simp [compsL_def]
theorem comps_get {L : List Nat} {i : Nat} (h : i < (roots L).length) : (compsL L)[i]'(by rw [comps_len]; exact h) = mem L (roots L)[i] := by simp [compsL_def]


theorem app_get {R : List (List Nm)} {x : List Nm} {i : Nat} (h : i < R.length) : (R ++ [x]).getD i [] = R.getD i [] := by simp [List.getD, List.getElem?_append, h]
theorem app_last {R : List (List Nm)} {x : List Nm} : (R ++ [x]).getD R.length [] = x := by simp [List.getD]
def Tch (R : List (List Nm)) (x : List Nm) (i : Nat) : Prop := ∃ j, j < R.length ∧ Cn R i j ∧ ∃ s, s ∈ R.getD j [] ∧ s ∈ x
theorem cn_up {R : List (List Nm)} {x : List Nm} {i k : Nat} (h : Cn R i k) : Cn (R ++ [x]) i k := by
  induction h with
  | refl => exact .refl _
  | base q =>
    obtain ⟨hi, hk⟩ := sh_lt q
    obtain ⟨s, a, b⟩ := q
    exact .base ⟨s, by rw [app_get hi]; exact a, by rw [app_get hk]; exact b⟩
  | symm _ ih => exact ih.symm
  | trans _ _ a b => exact a.trans b
theorem tch_up {R : List (List Nm)} {x : List Nm} {i : Nat} (h : Tch R x i) : Cn (R ++ [x]) i R.length := by
  obtain ⟨j, hj, h1, s, h2, h3⟩ := h
  exact (cn_up h1).trans (.base ⟨s, by rw [app_get hj]; exact h2, by rw [app_last]; exact h3⟩)
theorem tch_cn {R : List (List Nm)} {x : List Nm} {i k : Nat} (h : Cn R i k) (ht : Tch R x k) : Tch R x i := by
  obtain ⟨j, hj, h1, h2⟩ := ht
  exact ⟨j, hj, h.trans h1, h2⟩
def Up (R : List (List Nm)) (x : List Nm) (i k : Nat) : Prop :=
  i = k ∨ (i < R.length ∧ k < R.length ∧ (Cn R i k ∨ (Tch R x i ∧ Tch R x k))) ∨ (i < R.length ∧ k = R.length ∧ Tch R x i) ∨ (i = R.length ∧ k < R.length ∧ Tch R x k)
theorem cn_down {R : List (List Nm)} {x : List Nm} {i k : Nat} (h : Cn (R ++ [x]) i k) : Up R x i k := by
  induction h with
  | refl => exact .inl rfl
  | @base i k q =>
    obtain ⟨hi, hk⟩ := sh_lt q
    simp only [List.length_append, List.length_singleton] at hi hk
    obtain ⟨s, a, b⟩ := q
    by_cases e1 : i = R.length <;> by_cases e2 : k = R.length
    · exact .inl (by omega)
    · subst e1
      rw [app_last] at a
      rw [app_get (by omega)] at b
      exact .inr (.inr (.inr ⟨rfl, by omega, k, by omega, .refl _, s, b, a⟩))
    · subst e2
      rw [app_last] at b
      rw [app_get (by omega)] at a
      exact .inr (.inr (.inl ⟨by omega, rfl, i, by omega, .refl _, s, a, b⟩))
    · rw [app_get (by omega)] at a b
      exact .inr (.inl ⟨by omega, by omega, .inl (.base ⟨s, a, b⟩)⟩)
  | symm _ ih =>
    rcases ih with q | ⟨a, b, q⟩ | ⟨a, b, q⟩ | ⟨a, b, q⟩
    · exact .inl q.symm
    · rcases q with q | q
      · exact .inr (.inl ⟨b, a, .inl q.symm⟩)
      · exact .inr (.inl ⟨b, a, .inr ⟨q.2, q.1⟩⟩)
    · exact .inr (.inr (.inr ⟨b, a, q⟩))
    · exact .inr (.inr (.inl ⟨b, a, q⟩))
  | @trans i j k _ _ h1 h2 =>
    rcases h1 with q | ⟨a, b, q⟩ | ⟨a, b, q⟩ | ⟨a, b, q⟩
    · subst q; exact h2
    · rcases h2 with p | ⟨c, d, p⟩ | ⟨c, d, p⟩ | ⟨c, d, p⟩
      · subst p; exact .inr (.inl ⟨a, b, q⟩)
      · refine .inr (.inl ⟨a, d, ?_⟩)
        rcases q with q | q <;> rcases p with p | p
        · exact .inl (q.trans p)
        · exact .inr ⟨tch_cn q p.1, p.2⟩
        · exact .inr ⟨q.1, tch_cn p.symm q.2⟩
        · exact .inr ⟨q.1, p.2⟩
      · refine .inr (.inr (.inl ⟨a, d, ?_⟩))
        rcases q with q | q
        · exact tch_cn q p
        · exact q.1
      · omega
    · rcases h2 with p | ⟨c, d, p⟩ | ⟨c, d, p⟩ | ⟨c, d, p⟩
      · subst p; exact .inr (.inr (.inl ⟨a, b, q⟩))
      · omega
      · omega
      · exact .inr (.inl ⟨a, d, .inr ⟨q, p⟩⟩)
    · rcases h2 with p | ⟨c, d, p⟩ | ⟨c, d, p⟩ | ⟨c, d, p⟩
      · subst p; exact .inr (.inr (.inr ⟨a, b, q⟩))
      · refine .inr (.inr (.inr ⟨a, d, ?_⟩))
        rcases p with p | p
        · exact tch_cn p.symm q
        · exact p.2
      · exact .inl (by omega)
      · omega
theorem further_last {R : List (List Nm)} {x : List Nm} {i : Nat} (hi : i < R.length) : Cn (R ++ [x]) i R.length ↔ Tch R x i := by
  refine ⟨fun h => ?_, tch_up⟩
  rcases cn_down h with q | ⟨a, b, q⟩ | ⟨a, b, q⟩ | ⟨a, b, q⟩
  · omega
  · omega
  · exact q
  · omega
theorem further_two {R : List (List Nm)} {x : List Nm} {i k : Nat} (hi : i < R.length) (hk : k < R.length) : Cn (R ++ [x]) i k ↔ Cn R i k ∨ Tch R x i ∧ Tch R x k := by
  constructor
  · intro h
    rcases cn_down h with q | ⟨a, b, q⟩ | ⟨a, b, q⟩ | ⟨a, b, q⟩
    · subst q; exact .inl (.refl _)
    · exact q
    · omega
    · omega
  · rintro (q | ⟨q1, q2⟩)
    · exact cn_up q
    · exact (tch_up q1).trans (tch_up q2).symm
end Go.Proofs.Ytofnggfpegcllaa
end
section
set_option linter.unusedVariables false
set_option linter.unusedSimpArgs false
namespace Go.Proofs.Ytofnggfpegcllaa
structure Rd (N : Nat → List Nm) (n : Nat) (st : List Bool × List Nm) : Prop where
  len : st.1.length = n
  names : ∀ k, st.1.getD k false = true → ∀ s ∈ N k, s ∈ st.2
end Go.Proofs.Ytofnggfpegcllaa
end
section
set_option linter.unusedVariables false
set_option linter.unusedSimpArgs false
namespace Go.Proofs.Ytofnggfpegcllaa
end Go.Proofs.Ytofnggfpegcllaa
end
section
set_option linter.unusedVariables false
set_option linter.unusedSimpArgs false
namespace Go.Proofs.Ytofnggfpegcllaa
structure Fo (F L : List Nat) : Prop where
  len : F.length = L.length
  le : ∀ i, i < L.length → lb F i ≤ i
  same : ∀ i, i < L.length → lb L (lb F i) = lb L i
  root : ∀ i, i < L.length → lb F i = i → lb L i = i
theorem lb_set {F : List Nat} {i x j : Nat} (h : i < F.length) : lb (F.set i x) j = if j = i then x else lb F j := by
  simp only [lb, List.getD, List.getElem?_set]
  by_cases e : i = j
  · subst e; simp [h]
  · rw [if_neg e, if_neg (Ne.symm e)]
def halve (F : List Nat) (i : Nat) : List Nat := F.set i (lb F (lb F i))
def rootF : Nat → List Nat → Nat → List Nat × Nat
  | 0, F, i => (F, i)
  | n + 1, F, i => if lb F i = i then (F, i) else rootF n (halve F i) (lb F (lb F i))
theorem halve_len {F : List Nat} {i : Nat} : (halve F i).length = F.length := by simp [halve]
theorem fo_halve {F L : List Nat} (h : Fo F L) {i : Nat} (hi : i < L.length) : Fo (halve F i) L := by
  have hl := h.len
  have h1 := h.le i hi
  have h2 := h.le (lb F i) (by omega)
  refine ⟨by rw [halve_len]; exact hl, fun j hj => ?_, fun j hj => ?_, fun j hj => ?_⟩ <;> unfold halve <;> rw [lb_set (by omega)] <;> split
  · omega
  · exact h.le j hj
  · rename_i e; rw [h.same _ (by omega), h.same _ hi, e]
  · exact h.same j hj
  · rename_i e; intro q; subst e; exact h.root j hj (by omega)
  · exact h.root j hj
theorem rootF_len : ∀ {n : Nat} {F : List Nat} {i : Nat}, (rootF n F i).1.length = F.length
  | 0, F, i => rfl
  | n + 1, F, i => by
    rw [rootF]; split
    · rfl
    · rw [rootF_len, halve_len]
theorem rootF_spec {L : List Nat} (hL : Lo L) : ∀ (n : Nat) (F : List Nat) (i : Nat), Fo F L → i < L.length → i < n → Fo (rootF n F i).1 L ∧ (rootF n F i).2 = lb L i
  | 0, F, i, _, _, hn => by omega
  | n + 1, F, i, h, hi, hn => by
    rw [rootF]
    have h1 := h.le i hi
    have h2 := h.le (lb F i) (by omega)
    split
    · rename_i e; exact ⟨h, (h.root i hi e).symm⟩
    · rename_i e
      have := rootF_spec hL n (halve F i) (lb F (lb F i)) (fo_halve h hi) (by omega) (by omega)
      rw [h.same _ (by omega), h.same _ hi] at this
      exact this
theorem rootF_go {n : Nat} {F : List Nat} {i : Nat} (h : lb F i ≠ i) : rootF (n + 1) F i = rootF n (halve F i) (lb F (lb F i)) := by rw [rootF, if_neg h]
theorem rootF_end {n : Nat} {F : List Nat} {i : Nat} (h : lb F i = i) : rootF n F i = (F, i) := by
  cases n with
  | zero => rfl
  | succ n => rw [rootF, if_pos h]
theorem rootF_fuel {L : List Nat} (hL : Lo L) : ∀ (n m : Nat) (F : List Nat) (i : Nat), Fo F L → i < L.length → i < n → i < m → rootF n F i = rootF m F i
  | 0, m, F, i, _, _, hn, _ => by omega
  | n + 1, 0, F, i, _, _, _, hm => by omega
  | n + 1, m + 1, F, i, h, hi, hn, hm => by
    rw [rootF, rootF]
    have h1 := h.le i hi
    have h2 := h.le (lb F i) (by omega)
    split
    · rfl
    · rename_i e; exact rootF_fuel hL n m _ _ (fo_halve h hi) (by omega) (by omega) (by omega)
def rt (F : List Nat) (i : Nat) : List Nat × Nat := rootF (i + 1) F i
theorem rt_len {F : List Nat} {i : Nat} : (rt F i).1.length = F.length := rootF_len
theorem rt_fo {F L : List Nat} (hL : Lo L) (h : Fo F L) {i : Nat} (hi : i < L.length) : Fo (rt F i).1 L := (rootF_spec hL _ F i h hi (by omega)).1
theorem rt_root {F L : List Nat} (hL : Lo L) (h : Fo F L) {i : Nat} (hi : i < L.length) : (rt F i).2 = lb L i := (rootF_spec hL _ F i h hi (by omega)).2
theorem rt_end {F : List Nat} {i : Nat} (h : lb F i = i) : rt F i = (F, i) := rootF_end h
theorem rt_go {F L : List Nat} (hL : Lo L) (h : Fo F L) {i : Nat} (hi : i < L.length) (e : lb F i ≠ i) : rt F i = rt (halve F i) (lb F (lb F i)) := by
  have h1 := h.le i hi
  have h2 := h.le (lb F i) (by omega)
  unfold rt
  rw [rootF_go e]
  exact rootF_fuel hL _ _ _ _ (fo_halve h hi) (by omega) (by omega) (by omega)
def joinF (F : List Nat) (i k : Nat) : List Nat :=
  ((rt (rt F i).1 k).1).set (max (rt F i).2 (rt (rt F i).1 k).2) (min (rt F i).2 (rt (rt F i).1 k).2)
theorem fo_join {F L : List Nat} (hL : Lo L) (h : Fo F L) {i k : Nat} (hi : i < L.length) (hk : k < L.length) : Fo (joinF F i k) (joinL L i k) := by
  have f1 := rt_fo hL h hi
  have r1 := rt_root hL h hi
  have f2 := rt_fo hL f1 hk
  have r2 := rt_root hL f1 hk
  have hl2 := f2.len
  obtain ⟨a1, a2⟩ := hL i hi
  obtain ⟨b1, b2⟩ := hL k hk
  unfold joinF
  rw [r1, r2]
  generalize (rt (rt F i).1 k).1 = G at *
  have hmx : max (lb L i) (lb L k) < L.length := by omega
  have hmn : min (lb L i) (lb L k) < L.length := by omega
  have emx : lb L (max (lb L i) (lb L k)) = max (lb L i) (lb L k) := by
    rcases Nat.le_total (lb L i) (lb L k) with q | q
    · rw [Nat.max_eq_right q]; exact b2
    · rw [Nat.max_eq_left q]; exact a2
  have emn : lb L (min (lb L i) (lb L k)) = min (lb L i) (lb L k) := by
    rcases Nat.le_total (lb L i) (lb L k) with q | q
    · rw [Nat.min_eq_left q]; exact a2
    · rw [Nat.min_eq_right q]; exact b2
  refine ⟨by simp [joinL_len, hl2], fun j hj => ?_, fun j hj => ?_, fun j hj => ?_⟩ <;> rw [joinL_len] at hj <;> rw [lb_set (by omega)] <;> split
  · omega
  · exact f2.le j hj
  · rename_i e
    rw [lb_joinL hmn, lb_joinL hj, emn, e, emx, if_pos rfl]
    split <;> omega
  · have := f2.le j hj
    rw [lb_joinL (by omega), lb_joinL hj, f2.same j hj]
  · rename_i e
    intro q
    rw [lb_joinL hj, e, emx, if_pos rfl]; omega
  · rename_i e
    intro q
    have := f2.root j hj q
    rw [lb_joinL hj, this, if_neg e]
def nameF (i : Nat) (st : List Nat × List (Nm × Nat)) (s : Nm) : List Nat × List (Nm × Nat) :=
  match look st.2 s with
  | some k => (joinF st.1 k i, st.2)
  | none => (st.1, st.2 ++ [(s, i)])
def lnkF (R : List (List Nm)) : Nat → List Nat × List (Nm × Nat)
  | 0 => ([], [])
  | k + 1 => (R.getD k []).foldl (nameF k) ((lnkF R k).1 ++ [k], (lnkF R k).2)
structure FI (R : List (List Nm)) (k : Nat) (N : List Nm) (sf st : List Nat × List (Nm × Nat)) (n : Nat) : Prop where
  inv : Inv R k N st n
  fo : Fo sf.1 st.1
  snd : sf.2 = st.2
theorem fi_name {R : List (List Nm)} {k : Nat} {N : List Nm} {sf st : List Nat × List (Nm × Nat)} {s : Nm} (h : FI R k N sf st (k + 1)) (hs : s ∈ R.getD k []) : FI R k (N ++ [s]) (nameF k sf s) (nameStep k st s) (k + 1) := by
  refine ⟨inv_name h.inv hs, ?_, ?_⟩
  · unfold nameF nameStep
    rw [h.snd]
    cases e : look st.2 s with
    | some f =>
      have := h.inv.len
      have hf := (h.inv.first s f e).1
      exact fo_join h.inv.lo h.fo (by omega) (by omega)
    | none => exact h.fo
  · unfold nameF nameStep
    rw [h.snd]
    cases e : look st.2 s with
    | some f => rfl
    | none => rfl
theorem fi_names {R : List (List Nm)} {k : Nat} : ∀ (M N : List Nm) (sf st : List Nat × List (Nm × Nat)), FI R k N sf st (k + 1) → (∀ s ∈ M, s ∈ R.getD k []) → FI R k (N ++ M) (M.foldl (nameF k) sf) (M.foldl (nameStep k) st) (k + 1)
  | [], N, sf, st, h, _ => by simpa using h
  | s :: M, N, sf, st, h, hs => by
    have := fi_names M (N ++ [s]) _ _ (fi_name h (hs s (by simp))) fun t ht => hs t (by simp [ht])
    simpa using this
theorem fo_push {F L : List Nat} (h : Fo F L) (hL : Lo L) : Fo (F ++ [L.length]) (L ++ [L.length]) := by
  have hl := h.len
  have kF : ∀ i, i < L.length → lb (F ++ [L.length]) i = lb F i := fun i hi => by simp [lb, List.getD, List.getElem?_append, hl, hi]
  have kL : ∀ i, i < L.length → lb (L ++ [L.length]) i = lb L i := fun i hi => by simp [lb, List.getD, List.getElem?_append, hi]
  have eF : lb (F ++ [L.length]) L.length = L.length := by simp [lb, List.getD, List.getElem?_append, hl]
  have eL : lb (L ++ [L.length]) L.length = L.length := by simp [lb, List.getD, List.getElem?_append]
  refine ⟨by simp [hl], fun i hi => ?_, fun i hi => ?_, fun i hi => ?_⟩ <;> simp only [List.length_append, List.length_singleton] at hi <;> by_cases e : i = L.length
  · subst e; rw [eF]; exact Nat.le_refl _
  · rw [kF i (by omega)]; exact h.le i (by omega)
  · subst e; rw [eF]
  · have := h.le i (by omega)
    rw [kF i (by omega), kL _ (by omega), kL i (by omega)]; exact h.same i (by omega)
  · subst e; intro _; exact eL
  · rw [kF i (by omega), kL i (by omega)]; exact h.root i (by omega)
theorem fi_lnk (R : List (List Nm)) : ∀ k, FI R k [] (lnkF R k) (lnk R k) k
  | 0 => ⟨inv_lnk R 0, ⟨rfl, fun i hi => by simp [lnk] at hi, fun i hi => by simp [lnk] at hi, fun i hi => by simp [lnk] at hi⟩, rfl⟩
  | k + 1 => by
    have h := fi_lnk R k
    have hi := inv_lnk R (k + 1)
    have hlen := h.inv.len
    refine ⟨hi, ?_, ?_⟩
    all_goals
      have h0 : Inv R k [] ((lnk R k).1 ++ [k], (lnk R k).2) (k + 1) := by
        have hp := inv_push h.inv
        exact hp
      have := fi_names (R.getD k []) [] ((lnkF R k).1 ++ [k], (lnkF R k).2) ((lnk R k).1 ++ [k], (lnk R k).2) ⟨h0, by have := fo_push h.fo h.inv.lo; rw [hlen] at this; exact this, h.snd⟩ fun s hs => hs
    · exact this.fo
    · exact this.snd
def foF (R : List (List Nm)) : List Nat := (lnkF R R.length).1
theorem foF_fo (R : List (List Nm)) : Fo (foF R) (labs R) := (fi_lnk R R.length).fo
theorem lnkF_first (R : List (List Nm)) (k : Nat) : (lnkF R k).2 = (lnk R k).2 := (fi_lnk R k).snd

def outC (L : List Nat) (i : Nat) : List (List Nat) := ((List.range i).filter fun j => lb L j == j).map fun r => (List.range i).filter fun j => lb L j == r
def rtsC (L : List Nat) (i : Nat) : List Nat := (List.range i).filter fun j => lb L j == j
theorem outC_new {L : List Nat} (h : Lo L) {i : Nat} (hi : i < L.length) (e : lb L i = i) : outC L (i + 1) = outC L i ++ [[i]] := by
  unfold outC
  rw [List.range_succ, List.filter_append, List.map_append]
  have h1 : ([i].filter fun j => lb L j == j) = [i] := by rw [List.filter_cons, if_pos (by rw [beq_iff_eq]; exact e)]; rfl
  rw [h1]
  congr 1
  · refine List.map_congr_left fun r hr => ?_
    rw [List.filter_append]
    have hr2 : r < i := by have := (List.mem_filter.1 hr).1; simpa using this
    have : ([i].filter fun j => lb L j == r) = [] := by rw [List.filter_cons, if_neg (by rw [beq_iff_eq, e]; omega)]; rfl
    rw [this, List.append_nil]
  · simp only [List.map_cons, List.map_nil, List.filter_append]
    have h2 : ((List.range i).filter fun j => lb L j == i) = [] := by
      rw [List.filter_eq_nil_iff]
      intro j hj
      have hj2 : j < i := by simpa using hj
      have := (h j (by omega)).1
      rw [beq_iff_eq]; omega
    rw [h2, List.filter_cons, if_pos (by rw [beq_iff_eq]; exact e)]; rfl
theorem outC_old {L : List Nat} (h : Lo L) {i c : Nat} (hi : i < L.length) (e : lb L i ≠ i) (hc : c < (rtsC L i).length) (hr : (rtsC L i)[c] = lb L i) :
    outC L (i + 1) = (outC L i).set c ((outC L i).getD c [] ++ [i]) := by
  have hl : (outC L i).length = (rtsC L i).length := by simp [outC, rtsC]
  have h1 : rtsC L (i + 1) = rtsC L i := by
    unfold rtsC
    rw [List.range_succ, List.filter_append]
    have : ([i].filter fun j => lb L j == j) = [] := by rw [List.filter_cons, if_neg (by rw [beq_iff_eq]; exact e)]; rfl
    rw [this, List.append_nil]
  have hinc : (rtsC L i).Pairwise (· < ·) := (range_incr _).filter _
  refine List.ext_getElem (by simp only [List.length_set, hl]; simp only [outC, List.length_map]; exact congrArg List.length h1) fun j h2 h3 => ?_
  have hj : j < (rtsC L i).length := by simpa [hl] using h3
  rw [List.getElem_set]
  have get : ∀ k (hk : k < (rtsC L i).length), (outC L i)[k]'(by omega) = (List.range i).filter fun x => lb L x == (rtsC L i)[k] := fun k hk => by simp [outC, rtsC]
  have get1 : (outC L (i + 1))[j] = (List.range (i + 1)).filter fun x => lb L x == (rtsC L i)[j] := by
    have : (outC L (i + 1))[j] = (List.range (i + 1)).filter fun x => lb L x == (rtsC L (i + 1))[j]'(by rw [h1]; exact hj) := by simp [outC, rtsC]
    rw [this]; simp only [h1]
  rw [get1, List.range_succ, List.filter_append]
  by_cases q : c = j
  · subst q
    rw [if_pos rfl]
    have : (outC L i).getD c [] = (outC L i)[c]'(by omega) := by simp [List.getD, show c < (outC L i).length by omega]
    rw [this, get c hj, hr, List.filter_cons, if_pos (by rw [beq_iff_eq])]; rfl
  · rw [if_neg q, get j hj]
    have : ([i].filter fun x => lb L x == (rtsC L i)[j]) = [] := by
      simp only [List.filter_eq_nil_iff, List.mem_singleton, beq_iff_eq, forall_eq]
      intro e2
      exact q (incr_inj hinc hc hj (by rw [hr, e2]))
    rw [this, List.append_nil]
end Go.Proofs.Ytofnggfpegcllaa
end
section
set_option linter.unusedSimpArgs false
set_option linter.unusedVariables false
namespace Go.Proofs.Ytofnggfpegcllaa
open Go GoV
abbrev Tx := List UInt8
inductive X where
  | mk (op : Int) (name value : Tx) (n extra : Int) (kids : List X)
instance : Inhabited X := ⟨.mk 0 [] [] 0 0 []⟩
structure Pt where
  name : Tx
  kind : Tx
  into : Tx
  slot : Tx
  made : Int
  since : Int
  scr : Bool
  props : List (Tx × Tx)
  km : Int × Int
  cy : Int × Int
  dm : Int × Int
instance : Inhabited Pt := ⟨⟨[], [], [], [], 0, 0, false, [], (0, 0), (0, 0), (0, 0)⟩⟩
mutual
def X.nodes : X → Nat
  | .mk _ _ _ _ _ ks => 1 + X.nodesL ks
def X.nodesL : List X → Nat
  | [] => 0
  | k :: ks => k.nodes + X.nodesL ks
end

abbrev lt (a b : Tx) : Bool := Op.bytesLess a b
theorem lt_irr : ∀ a : Tx, lt a a = false
  | [] => rfl
  | a :: x => by
    have h : ¬ a < a := UInt8.lt_irrefl a
    simp [lt, Op.bytesLess, h]
    exact lt_irr x
theorem lt_trans : ∀ {a b c : Tx}, lt a b = true → lt b c = true → lt a c = true
  | _, [], _, h, _ => by simp [lt, Op.bytesLess] at h
  | _, _ :: _, [], _, h => by simp [lt, Op.bytesLess] at h
  | [], _ :: _, _ :: _, _, _ => by simp [lt, Op.bytesLess]
  | a :: x, b :: y, c :: z, h, g => by
    simp only [lt, Op.bytesLess, Bool.or_eq_true, Bool.and_eq_true, decide_eq_true_eq, beq_iff_eq] at h g ⊢
    rcases h with h | ⟨rfl, h⟩ <;> rcases g with g | ⟨rfl, g⟩
    · exact .inl (UInt8.lt_trans h g)
    · exact .inl h
    · exact .inl g
    · exact .inr ⟨rfl, lt_trans h g⟩
theorem lt_tri : ∀ {a b : Tx}, lt a b = false → lt b a = false → a = b
  | [], [], _, _ => rfl
  | [], _ :: _, h, _ => by simp [lt, Op.bytesLess] at h
  | _ :: _, [], _, h => by simp [lt, Op.bytesLess] at h
  | a :: x, b :: y, h, g => by
    simp only [lt, Op.bytesLess, Bool.or_eq_false_iff, Bool.and_eq_false_iff, decide_eq_false_iff_not, beq_eq_false_iff_ne] at h g
    have e : a = b := by
      have h1 := h.1; have h2 := g.1
      exact UInt8.le_antisymm (UInt8.not_lt.1 h2) (UInt8.not_lt.1 h1)
    subst e
    rw [lt_tri (h.2.resolve_left (by simp)) (g.2.resolve_left (by simp))]
def insB (x : Tx) : List Tx → List Tx
  | [] => [x]
  | y :: ys => if lt x y then x :: y :: ys else y :: insB x ys
def isort : List Tx → List Tx
  | [] => []
  | x :: xs => insB x (isort xs)

def getP (s : List Pt) (name : Tx) : Option Pt := s.find? fun p => p.name == name
def rootN (s : List Pt) : Nat → Tx → Tx
  | 0, _ => []
  | k + 1, part => match getP s part with
    | none => []
    | some p => if p.into = [] then part else rootN s k p.into
def root (s : List Pt) (part : Tx) : Tx := rootN s s.length part
def firsts (seen : List Tx) : List Pt → List Pt
  | [] => []
  | p :: ps => if seen.contains p.name then firsts seen ps else p :: firsts (seen ++ [p.name]) ps
def fitted (s : List Pt) (part : Tx) : List (Tx × Tx) := ((firsts [] s).filter fun p => !(p.into == []) && !(p.name == part)).map fun p => (p.name, p.into)
def bfs : Nat → List (Tx × Tx) → List Tx → List Tx
  | 0, _, _ => []
  | k + 1, rest, list =>
    if list = [] then [] else
      (rest.filter fun r => list.contains r.2).map (·.1) ++ bfs k (rest.filter fun r => !list.contains r.2) ((rest.filter fun r => list.contains r.2).map (·.1))
def insideF (s : List Pt) (part : Tx) : List Tx :=
  match getP s part with
  | none => []
  | some _ => isort (bfs ((fitted s part).length + 2) (fitted s part) [part])

def trN (a : Int) : Int := if a = 0 ∨ a = 2 then a else 1
def notT (a : Int) : Int := 2 - trN a
def andT (a b : Int) : Int := if trN b < trN a then trN b else trN a
def orT (a b : Int) : Int := if trN b > trN a then trN b else trN a
def valI (i : Int × Int) : Bool := decide (-1000000000000 ≤ i.1) && decide (i.1 ≤ i.2) && decide (i.2 ≤ 1000000000000)
def overT (i : Int × Int) (n : Int) : Int := if valI i = false ∨ i.2 ≤ n then 0 else if i.1 > n then 2 else 1
def kKm : Tx := [107, 109]
def kCy : Tx := [99, 121, 99, 108, 101, 115]
def kDm : Tx := [100, 97, 109, 97, 103, 101]
def kDays : Tx := [100, 97, 121, 115]
def kAge : Tx := [97, 103, 101]
def sinceF (day frm : Int) : Int × Int := if frm ≥ day then (0, 0) else
  (day - (if day - 1000000000000 > frm then day - 1000000000000 else frm), day - (if day - 1000000000000 > frm then day - 1000000000000 else frm))
def lifeV (p : Pt) (cur : Tx) (day : Int) : Option (Int × Int) :=
  if day < 0 ∨ day > 40000 then none
  else if cur = kKm then some p.km else if cur = kCy then some p.cy else if cur = kDm then some p.dm
  else if cur = kDays then some (sinceF day p.since) else if cur = kAge then some (sinceF day p.made) else none

def find0 (s : List Pt) (name : Tx) : Pt := (getP s name).getD default
def truthF (b : Bool) : Int := if b then 2 else 0
def kindsIn (s : List Pt) (part kind : Tx) : List Tx := (insideF s part).filter fun m => (find0 s m).kind == kind
def askN (s : List Pt) (day : Int) (op : Int) (name value : Tx) (n extra : Int) (ks : List (Tx → Int)) (part : Tx) : Int :=
  if op = 1 then 2
  else if op = 2 then notT (ks.headD (fun _ => 0) part)
  else if op = 3 then ks.foldl (fun a k => andT a (k part)) 2
  else if op = 4 then ks.foldl (fun a k => orT a (k part)) 0
  else if op = 5 then (match lifeV (find0 s part) name day with | none => 0 | some v => notT (overT v (n + extra)))
  else if op = 6 then (match lifeV (find0 s part) name day with | none => 0 | some v => overT v n)
  else if op = 7 then truthF ((find0 s part).props.contains (name, value))
  else if op = 8 then truthF ((find0 s part).props.any fun x => x.1 == name)
  else if op = 9 then truthF (s.any fun q => q.into == part && q.slot == name && q.kind == value)
  else if op = 10 then (kindsIn s part name).foldl (fun a m => andT a (ks.headD (fun _ => 0) m)) 2
  else if op = 11 then (kindsIn s part name).foldl (fun a m => orT a (ks.headD (fun _ => 0) m)) 0
  else truthF (decide (((kindsIn s part name).length : Int) ≥ n))
mutual
def ask (s : List Pt) (day : Int) : X → Tx → Int
  | .mk op name value n extra ks, part => askN s day op name value n extra (askL s day ks) part
def askL (s : List Pt) (day : Int) : List X → List (Tx → Int)
  | [] => []
  | k :: ks => ask s day k :: askL s day ks
end

def isLet (c : UInt8) : Bool := (decide (97 ≤ c) && decide (c ≤ 122)) || (decide (65 ≤ c) && decide (c ≤ 90))
def isDig (c : UInt8) : Bool := decide (48 ≤ c) && decide (c ≤ 57)
def nameOk (s : Tx) : Bool :=
  (match s with | [] => false | c :: r => isLet c && r.all fun c => isLet c || isDig c || c == 95) && decide (s.length ≤ 24)
def words : List Tx := [[116, 114, 117, 101], [110, 111, 116], [97, 110, 100], [111, 114], [108, 105, 109, 105, 116], [111, 118, 101, 114], [104, 97, 115], [115, 108, 111, 116], [97, 108, 108], [97, 110, 121], [97, 116]]
def numOk (n low : Int) : Bool := decide (n ≥ low) && decide (n ≤ 9999999)
def nodeOk (op : Int) (name value : Tx) (n extra : Int) (k : Nat) : Bool :=
  if op = 1 then k == 0 && name == [] && value == [] && n == 0 && extra == 0
  else if op = 2 then k == 1 && name == [] && value == [] && n == 0 && extra == 0
  else if op = 3 ∨ op = 4 then decide (1 < k) && name == [] && value == [] && n == 0 && extra == 0
  else if op = 5 then numOk n 0 && numOk extra 0 && nameOk name && k == 0 && value == []
  else if op = 6 then numOk n 0 && nameOk name && k == 0 && value == [] && extra == 0
  else if op = 7 then !(value == []) && decide (value.length ≤ 200) && !words.contains name && nameOk name && k == 0 && n == 0 && extra == 0
  else if op = 8 then nameOk name && k == 0 && value == [] && n == 0 && extra == 0
  else if op = 9 then nameOk value && nameOk name && k == 0 && n == 0 && extra == 0
  else if op = 10 ∨ op = 11 then nameOk name && k == 1 && value == [] && n == 0 && extra == 0
  else if op = 12 then numOk n 1 && nameOk name && k == 0 && value == [] && extra == 0
  else false
mutual
def well : X → Bool
  | .mk op name value n extra ks => nodeOk op name value n extra ks.length && wellL ks
def wellL : List X → Bool
  | [] => true
  | k :: ks => well k && wellL ks
end
end Go.Proofs.Ytofnggfpegcllaa
end
section
set_option linter.unusedVariables false
set_option linter.unusedSimpArgs false
namespace Go.Proofs.Ytofnggfpegcllaa
structure Iv where
  low : Int
  high : Int
deriving DecidableEq, Inhabited
structure Ev where
  op : Int
  day : Int
  part : Nm
  kind : Nm
  into : Nm
  slot : Nm
  key : Nm
  val : Nm
  km : Iv
  cy : Iv
  ld : Iv
deriving DecidableEq, Inhabited
structure Rp where
  opts : List Ev
  doubt : Bool
deriving Inhabited
def ivOk (i : Iv) : Bool := decide (0 ≤ i.low) && decide (i.low ≤ i.high) && decide (i.high ≤ 1000000)
def evRest (e : Ev) : Bool :=
  if e.op = 1 then nameOk e.kind && decide ({ e with kind := [] } = ⟨e.op, e.day, e.part, [], [], [], [], [], ⟨0, 0⟩, ⟨0, 0⟩, ⟨0, 0⟩⟩)
  else if e.op = 2 then (nameOk e.into && nameOk e.slot && !(e.into == e.part)) && decide ({ e with into := [], slot := [] } = ⟨e.op, e.day, e.part, [], [], [], [], [], ⟨0, 0⟩, ⟨0, 0⟩, ⟨0, 0⟩⟩)
  else if e.op = 4 then (ivOk e.km && ivOk e.cy && ivOk e.ld) && decide ({ e with km := ⟨0, 0⟩, cy := ⟨0, 0⟩, ld := ⟨0, 0⟩ } = ⟨e.op, e.day, e.part, [], [], [], [], [], ⟨0, 0⟩, ⟨0, 0⟩, ⟨0, 0⟩⟩)
  else if e.op = 6 then (nameOk e.key && decide (1 ≤ e.val.length) && decide (e.val.length ≤ 200)) && decide ({ e with key := [], val := [] } = ⟨e.op, e.day, e.part, [], [], [], [], [], ⟨0, 0⟩, ⟨0, 0⟩, ⟨0, 0⟩⟩)
  else decide (e = ⟨e.op, e.day, e.part, [], [], [], [], [], ⟨0, 0⟩, ⟨0, 0⟩, ⟨0, 0⟩⟩)
def evOk (e : Ev) : Bool := decide (1 ≤ e.op) && decide (e.op ≤ 7) && decide (0 ≤ e.day) && decide (e.day ≤ 40000) && nameOk e.part && evRest e
def dist : List Ev → Bool
  | [] => true
  | e :: l => !(l.contains e) && dist l
def repOk (r : Rp) : Bool := decide (1 ≤ r.opts.length) && decide (r.opts.length ≤ 4) && r.opts.all evOk && dist r.opts
def choices (r : Rp) : Nat := if repOk r then r.opts.length + (if r.doubt then 1 else 0) else 0
def evNames (e : Ev) : List Nm := if evOk e then (if e.op = 2 then [if lt e.part e.into then e.part else e.into, if lt e.part e.into then e.into else e.part] else [e.part]) else []
def putS : List Nm → Nm → List Nm
  | [], s => [s]
  | t :: l, s => if lt t s then t :: putS l s else if t == s then t :: l else s :: t :: l
def namesR (r : Rp) : List Nm := if repOk r then (r.opts.flatMap evNames).foldl putS [] else []
def doubtsR (l : List Rp) : Nat := l.countP fun r => decide (2 ≤ choices r)
theorem mem_putS {s t : Nm} : ∀ {l : List Nm}, t ∈ putS l s ↔ t ∈ l ∨ t = s
  | [] => by simp [putS]
  | u :: l => by
    unfold putS
    split
    · rw [List.mem_cons, mem_putS, List.mem_cons, or_assoc]
    · split
      · rename_i h
        rw [beq_iff_eq] at h
        subst h
        exact ⟨.inl, fun q => q.elim id fun e => e ▸ List.mem_cons_self⟩
      · rw [List.mem_cons]
        exact ⟨fun q => q.elim .inr .inl, fun q => q.elim .inr .inl⟩
theorem mem_puts {t : Nm} : ∀ {N l : List Nm}, t ∈ N.foldl putS l ↔ t ∈ l ∨ t ∈ N
  | [], l => by simp
  | s :: N, l => by rw [List.foldl_cons, mem_puts, mem_putS, List.mem_cons, or_assoc]
end Go.Proofs.Ytofnggfpegcllaa
end
section
set_option linter.unusedVariables false
set_option linter.unusedSimpArgs false
namespace Go.Proofs.Ytofnggfpegcllaa
open Go
def IncS (l : List Nm) : Prop := l.Pairwise fun a b => lt a b = true
theorem inc_putS {s : Nm} : ∀ {l : List Nm}, IncS l → IncS (putS l s)
  | [], _ => by simp [putS, IncS]
  | t :: l, h => by
    unfold IncS at h
    rw [List.pairwise_cons] at h
    have ih := inc_putS (s := s) h.2
    unfold putS
    split
    · rename_i hts
      unfold IncS
      rw [List.pairwise_cons]
      refine ⟨fun u hu => ?_, ih⟩
      rcases mem_putS.1 hu with q | q
      · exact h.1 u q
      · rw [q]; exact hts
    · split
      · unfold IncS; rw [List.pairwise_cons]; exact h
      · rename_i h1 h2
        have hst : lt s t = true := by
          cases e : lt s t with
          | true => rfl
          | false =>
            rw [Bool.not_eq_true] at h1
            exact absurd (lt_tri h1 e) (by simpa using h2)
        unfold IncS
        rw [List.pairwise_cons]
        refine ⟨fun u hu => ?_, by rw [List.pairwise_cons]; exact h⟩
        rcases List.mem_cons.1 hu with q | q
        · rw [q]; exact hst
        · exact lt_trans hst (h.1 u q)
theorem inc_puts : ∀ {N l : List Nm}, IncS l → IncS (N.foldl putS l)
  | [], l, h => h
  | s :: N, l, h => by rw [List.foldl_cons]; exact inc_puts (inc_putS h)
theorem incS_ext : ∀ {l m : List Nm}, IncS l → IncS m → (∀ t, t ∈ l ↔ t ∈ m) → l = m
  | [], [], _, _, _ => rfl
  | [], b :: m, _, _, h => absurd ((h b).2 (by simp)) (by simp)
  | a :: l, [], _, _, h => absurd ((h a).1 (by simp)) (by simp)
  | a :: l, b :: m, h1, h2, h => by
    unfold IncS at h1 h2
    rw [List.pairwise_cons] at h1 h2
    have nf : ∀ {x y : Nm}, lt x y = true → lt y x = true → False := fun p q => by
      have := lt_trans p q
      rw [lt_irr] at this; cases this
    have e : a = b := by
      rcases List.mem_cons.1 ((h a).1 (by simp)) with q | q
      · exact q
      · rcases List.mem_cons.1 ((h b).2 (by simp)) with p | p
        · exact p.symm
        · exact absurd (h2.1 a q) (fun r => nf r (h1.1 b p))
    subst e
    have nl : ∀ {x y : Nm}, lt x y = true → y ≠ x := fun p e => by subst e; rw [lt_irr] at p; cases p
    rw [incS_ext h1.2 h2.2 fun t => ?_]
    constructor
    · intro q
      rcases List.mem_cons.1 ((h t).1 (List.mem_cons_of_mem _ q)) with r | r
      · exact absurd r (nl (h1.1 t q))
      · exact r
    · intro q
      rcases List.mem_cons.1 ((h t).2 (List.mem_cons_of_mem _ q)) with r | r
      · exact absurd r (nl (h2.1 t q))
      · exact r
theorem compact_inc {zs : List Nm} (hS : ∀ i j (hj : j < zs.length) (hij : i < j), lt zs[j] (zs[i]'(by omega)) = false) : ∀ m, m ≤ zs.length →
    IncS (Lib.compactUpTo zs.toArray m) ∧ ∀ t, t ∈ Lib.compactUpTo zs.toArray m ↔ t ∈ zs.take m
  | 0, _ => by simp [Lib.compactUpTo, IncS]
  | m + 1, hm => by
    obtain ⟨h1, h2⟩ := compact_inc hS m (by omega)
    have hg : zs.toArray[m]! = zs[m] := by simp [show m < zs.length by omega]
    rw [Lib.compactUpTo_succ, hg, List.take_succ_eq_append_getElem (by omega)]
    have hle : ∀ t ∈ zs.take m, lt zs[m] t = false := fun t ht => by
      obtain ⟨i, hi, e⟩ := List.mem_take_iff_getElem.1 ht
      rw [← e]
      exact hS i m (by omega) (by omega)
    cases hk : Lib.keeps zs.toArray m
    · simp only [Bool.false_eq_true, if_false, List.append_nil]
      refine ⟨h1, fun t => ?_⟩
      rw [h2 t, List.mem_append, List.mem_singleton]
      have hpos : 0 < m := by
        rcases Nat.eq_zero_or_pos m with q | q
        · subst q; simp [Lib.keeps] at hk
        · exact q
      have hq : zs[m] = zs[m - 1] := by
        simp [Lib.keeps, show m < zs.length by omega, show m - 1 < zs.length by omega] at hk
        exact hk.2
      refine ⟨.inl, fun q => q.elim id fun e => ?_⟩
      rw [e, hq]
      exact List.mem_take_iff_getElem.2 ⟨m - 1, by omega, rfl⟩
    · simp only [if_true]
      refine ⟨?_, fun t => by rw [List.mem_append, List.mem_append, h2 t]⟩
      unfold IncS
      rw [List.pairwise_append]
      refine ⟨h1, by simp, fun t ht u hu => ?_⟩
      rw [List.mem_singleton.1 hu]
      have ht2 := (h2 t).1 ht
      cases e : lt t zs[m] with
      | true => rfl
      | false =>
        exfalso
        have e1 := lt_tri e (hle t ht2)
        obtain ⟨i, hi, e2⟩ := List.mem_take_iff_getElem.1 ht2
        have him : i < m := by omega
        have e3 : zs[m] ≠ zs[m - 1] := by
          simp [Lib.keeps, show m < zs.length by omega, show m - 1 < zs.length by omega] at hk
          rcases hk with q | q
          · omega
          · exact q
        by_cases e4 : i = m - 1
        · subst e4; exact e3 (by rw [e2, ← e1])
        · have a1 := hS i (m - 1) (by omega) (by omega)
          have a2 := hS (m - 1) m (by omega) (by omega)
          rw [e2, e1] at a1
          exact e3 (lt_tri a2 a1)
theorem sort_srt (N : List Nm) : ∀ i j (hj : j < (N.mergeSort fun x y => decide (x ≤ y)).length) (hij : i < j), lt (N.mergeSort fun x y => decide (x ≤ y))[j] ((N.mergeSort fun x y => decide (x ≤ y))[i]'(by omega)) = false := by
  have hd : ∀ x y : Nm, decide (x ≤ y) = !(lt y x) := fun x y => by
    rw [lt, Go.Proofs.bytesLess_eq, Bool.eq_iff_iff]
    simp [List.not_lt]
  have hp := List.pairwise_mergeSort (le := fun x y : Nm => decide (x ≤ y)) (fun a b c h1 h2 => by
    rw [hd] at h1 h2 ⊢
    simp only [Bool.not_eq_true'] at *
    cases e : lt c a with
    | false => rfl
    | true =>
      exfalso
      cases f : lt a b with
      | true =>
        have := lt_trans e f
        rw [h2] at this; cases this
      | false =>
        have := lt_tri f h1
        subst this
        rw [h2] at e; cases e) (fun a b => by
    rw [hd, hd]
    cases e : lt b a with
    | false => rfl
    | true =>
      cases f : lt a b with
      | false => rfl
      | true =>
        have := lt_trans e f
        rw [lt_irr] at this; cases this) N
  intro i j hj hij
  have := List.pairwise_iff_getElem.1 hp i j (by omega) hj hij
  rw [hd] at this
  simpa using this
theorem names_sorted (N : List Nm) : Lib.compact (N.mergeSort fun x y => decide (x ≤ y)) = N.foldl putS [] := by
  obtain ⟨h1, h2⟩ := compact_inc (sort_srt N) _ (Nat.le_refl _)
  refine incS_ext h1 (inc_puts (by simp [IncS])) fun t => ?_
  unfold Lib.compact
  rw [h2, List.take_length, List.mem_mergeSort, mem_puts]
  simp
end Go.Proofs.Ytofnggfpegcllaa
end
section
set_option linter.unusedSimpArgs false
set_option linter.unusedVariables false
namespace Go.Proofs.Ytofnggfpegcllaa
open Go GoV
def entG {α : Type} (kf vf : α → D) : List α → Nat → List (D × D × Nat)
  | [], _ => []
  | n :: K, b => (kf n, vf n, b) :: entG kf vf K (b + 1)
structure Key {α : Type} (kf : α → D) (kd : MK) : Prop where
  eq : ∀ a b, keq (kf a) (kf b) = true ↔ a = b
  ok : ∀ a, keyOk kd (kf a) = true
  rn : ∀ β τ a, (kf a).rn β τ = kf a
def upd {α β : Type} [DecidableEq α] (f : α → β) (n : α) (v : β) : α → β := fun m => if m = n then v else f m
section
variable {α : Type} {kf vf : α → D} {kd : MK}
theorem entG_app : ∀ (K : List α) (n : α) (b : Nat), entG kf vf (K ++ [n]) b = entG kf vf K b ++ [(kf n, vf n, b + K.length)]
  | [], n, b => rfl
  | x :: K, n, b => by simp [entG, entG_app K n]; omega
theorem entG_congr {wf : α → D} : ∀ {K : List α} {b : Nat}, (∀ n ∈ K, vf n = wf n) → entG kf vf K b = entG kf wf K b
  | [], _, _ => rfl
  | n :: K, b, h => by simp only [entG]; rw [h n (by simp), entG_congr fun m hm => h m (by simp [hm])]
theorem entG_ok (h : Key kf kd) : ∀ (K : List α) (b : Nat), ((entG kf vf K b).all fun e => keyOk kd e.1) = true
  | [], _ => rfl
  | n :: K, b => by
    simp only [entG, List.all_cons, h.ok, Bool.true_and]
    exact entG_ok h K (b + 1)
theorem entG_rn (h : Key kf kd) {β τ : Nat → Option Nat} (hv : ∀ a, (vf a).rn β τ = vf a) : ∀ (K : List α) (b : Nat), pairs β τ (entG kf vf K b) = entG kf vf K b
  | [], _ => rfl
  | n :: K, b => by simp [entG, pairs, h.rn, hv, entG_rn h hv K]
theorem entG_none (h : Key kf kd) {n : α} : ∀ {K : List α} {b i : Nat}, n ∉ K → findM (kf n) (entG kf vf K b) i = none
  | [], _, _, _ => rfl
  | x :: K, b, i, hn => by
    simp only [List.mem_cons, not_or] at hn
    have e : keq (kf n) (kf x) = false := by
      cases q : keq (kf n) (kf x) with
      | false => rfl
      | true => exact absurd ((h.eq n x).1 q) hn.1
    simp only [entG, findM, e]
    exact entG_none h hn.2
theorem entG_find [DecidableEq α] (h : Key kf kd) {n : α} : ∀ {K : List α} {b i : Nat}, n ∈ K → ∃ j, findM (kf n) (entG kf vf K b) i = some (i + j, vf n) ∧ K[j]? = some n ∧
    ∀ v, K.Nodup → ((entG kf vf K b).modify j fun e => (kf n, v, e.2.2)) = entG kf (upd vf n v) K b
  | [], _, _, hn => by simp at hn
  | x :: K, b, i, hn => by
    by_cases e : n = x
    · subst e
      have e1 : keq (kf n) (kf n) = true := (h.eq n n).2 rfl
      refine ⟨0, by simp only [entG, findM, e1]; rfl, rfl, fun v hd => ?_⟩
      rw [List.nodup_cons] at hd
      have hc : entG kf vf K (b + 1) = entG kf (upd vf n v) K (b + 1) := entG_congr fun m hm => by
        have : m ≠ n := fun q => hd.1 (q ▸ hm)
        rw [upd, if_neg this]
      show (kf n, v, b) :: entG kf vf K (b + 1) = (kf n, upd vf n v n, b) :: entG kf (upd vf n v) K (b + 1)
      rw [hc, upd, if_pos rfl]
    · have e1 : keq (kf n) (kf x) = false := by
        cases q : keq (kf n) (kf x) with
        | false => rfl
        | true => exact absurd ((h.eq n x).1 q) e
      obtain ⟨j, h1, h2, h3⟩ := entG_find h (K := K) (b := b + 1) (i := i + 1) (by simpa [e] using hn)
      refine ⟨j + 1, by simp only [entG, findM, e1]; rw [show i + (j + 1) = i + 1 + j by omega]; exact h1, by simpa using h2, fun v hd => ?_⟩
      rw [List.nodup_cons] at hd
      have := h3 v hd.2
      show (kf x, vf x, b) :: (entG kf vf K (b + 1)).modify j (fun e => (kf n, v, e.2.2)) = (kf x, upd vf n v x, b) :: entG kf (upd vf n v) K (b + 1)
      rw [this, upd, if_neg (fun q => e q.symm)]
theorem entG_some [DecidableEq α] (h : Key kf kd) {n : α} {K : List α} (hn : n ∈ K) : ∃ j, findM (kf n) (entG kf vf K 0) 0 = some (j, vf n) := by
  obtain ⟨j, h1, _⟩ := entG_find h (K := K) (b := 0) (i := 0) hn
  exact ⟨_, h1⟩
theorem entG_new [DecidableEq α] (h : Key kf kd) {K : List α} {n : α} (v : D) (hn : n ∉ K) : putM (entG kf vf K 0) K.length (kf n) v = .map (entG kf (upd vf n v) (K ++ [n]) 0) (K.length + 1) := by
  unfold putM
  rw [entG_none h hn]
  rw [entG_app]
  have hc : entG kf vf K 0 = entG kf (upd vf n v) K 0 := entG_congr fun m hm => by
    have : m ≠ n := fun q => hn (q ▸ hm)
    rw [upd, if_neg this]
  rw [hc, upd, if_pos rfl, Nat.zero_add]
theorem entG_put [DecidableEq α] (h : Key kf kd) {K : List α} {n : α} (v : D) (hn : n ∈ K) (hd : K.Nodup) : putM (entG kf vf K 0) K.length (kf n) v = .map (entG kf (upd vf n v) K 0) K.length := by
  unfold putM
  obtain ⟨j, h1, h2, h3⟩ := entG_find h (vf := vf) (K := K) (b := 0) (i := 0) hn
  rw [h1]
  simp only [Nat.zero_add]
  rw [h3 v hd]
end
theorem keyStr : Key D.str .str := ⟨fun a b => by simp [keq], fun _ => rfl, fun _ _ _ => rfl⟩
theorem keyInt : Key (fun n : Nat => D.int .i64 (n : Nat)) (.int .i64) := ⟨fun a b => by simp [keq] <;> omega, fun _ => rfl, fun _ _ _ => rfl⟩
end Go.Proofs.Ytofnggfpegcllaa
end
section
set_option maxRecDepth 100000
set_option linter.unusedSimpArgs false
set_option linter.unusedVariables false
namespace Go.Proofs.Ytofnggfpegcllaa
open Go GoV Go.RowKit
def strs (l : List Tx) : List D := l.map .str
theorem elemsK_map {α : Type} (f : α → D) (k : Nat) (h : ∀ x, (f x).isVal = true ∧ (f x).cells.length = k) : ∀ l : List α, elemsK k (l.map f) = true
  | [] => rfl
  | x :: l => by simp [elemsK, h x, elemsK_map f k h l]
theorem er_strs (l : List Tx) : D.erL (strs l) = strs l := by induction l with | nil => rfl | cons x l ih => simp_all [strs, D.erL, D.er]
theorem cl_strs (l : List Tx) : D.closedL (strs l) = true := by induction l with | nil => rfl | cons x l ih => simp_all [strs, D.closedL, D.closed]
end Go.Proofs.Ytofnggfpegcllaa
end
section
set_option maxRecDepth 100000
set_option linter.unusedSimpArgs false
set_option linter.unusedVariables false
namespace Go.Proofs.Ytofnggfpegcllaa
open Go GoV Go.RowKit
theorem index_p (s : Tx) (c : UInt8) : Pur M 77 [.str s, .int .u8 c.toNat] (.int .i64 (Lib.indexByte s c)) := by
  refine pur_ext (vs := [.string ⟨s.toArray⟩, .int .u8 c.toNat]) (v := .int .i64 (Lib.indexByte s c)) ⟨Try.f77, Try.func77, rfl, rfl⟩ (fun w I xs h => ?_) (fun w I => ?_) (fun w hA => ?_)
  · obtain ⟨x, xs', rfl, g1, g2⟩ := h.inv
    obtain ⟨y, ys', rfl, g3, g4⟩ := g2.inv
    simp only [Rel] at g1 g3
    rw [g4.inv_nil, g1, g3]
  · simp [Rel]
  · refine (Try.strings_IndexByte ⟨s.toArray⟩ c.toNat w).mono fun e w' hh => ?_
    obtain ⟨rfl, rfl⟩ := hh
    refine ⟨?_, Below.refl _ _⟩
    have : ((c.toNat : Int).toNat).toUInt8 = c := by simp
    rw [this]
def cls0 (c : Nat) : Int :=
  if (97 ≤ c ∧ c ≤ 122) ∨ (65 ≤ c ∧ c ≤ 90) then 3 else if 48 ≤ c ∧ c ≤ 57 then 4 else if Lib.indexByte [32, 9, 10] (UInt8.ofNat c) ≥ 0 then 1
  else if Lib.indexByte [59, 44, 46, 58, 40, 41, 123, 125, 91, 93, 61, 60, 62, 47, 43, 45, 42] (UInt8.ofNat c) ≥ 0 then 6 else 0
def tblN (i : Nat) : List D := (List.range 256).map fun c => .int .u8 (if c < i then cls0 c else 0)
def tbl : List D := (List.range 256).map fun c => .int .u8 (if c = 35 then 2 else if c = 95 then 5 else if c = 34 then 7 else cls0 c)
theorem tblN_len (i : Nat) : (tblN i).length = 256 := by simp [tblN]
theorem map_const {α : Type} (v : D) : ∀ l : List α, l.map (fun _ => v) = List.replicate l.length v
  | [] => rfl
  | x :: l => by rw [List.map_cons, map_const v l]; rfl
theorem tblN_zero : zl256 = tblN 0 := by
  unfold zl256 tblN
  have : (fun c : Nat => D.int .u8 (if c < 0 then cls0 c else 0)) = fun _ => D.int .u8 0 := by funext c; simp
  rw [this, map_const, List.length_range]
theorem zl_len : zl256.length = 256 := by rw [tblN_zero, tblN_len]
theorem tblN_set {i : Nat} (h : i < 256) {v : Int} (hv : v = cls0 i) : setL (tblN i) i [.int .u8 v] = tblN (i + 1) := by
  subst hv
  simp only [setL]
  apply List.ext_getElem?
  intro j
  rw [List.getElem?_set]
  by_cases hj : j < 256
  · by_cases e : i = j
    · subst e
      simp [tblN, h]
    · rw [if_neg e]
      simp only [tblN, List.getElem?_map, List.getElem?_range hj, Option.map_some]
      have : (j < i) ↔ (j < i + 1) := by omega
      simp [this]
  · have h1 : ∀ k, (tblN k)[j]? = none := fun k => List.getElem?_eq_none (by rw [tblN_len]; omega)
    rw [h1, h1]
    rw [if_neg (by omega)]
theorem tblN_skip {i : Nat} (h : i < 256) (hv : cls0 i = 0) : tblN i = tblN (i + 1) := by
  rw [← tblN_set h rfl, hv]
  simp only [setL]
  apply List.ext_getElem?
  intro j
  rw [List.getElem?_set]
  by_cases e : i = j
  · subst e; simp [tblN, h]
  · rw [if_neg e]
theorem tbl_eq : setL (setL (setL (tblN 256) 35 [.int .u8 2]) 95 [.int .u8 5]) 34 [.int .u8 7] = tbl := by
  simp only [setL]
  apply List.ext_getElem?
  intro j
  simp only [List.getElem?_set, List.length_set, tblN_len]
  by_cases hj : j < 256
  · simp only [tblN, tbl, List.getElem?_map, List.getElem?_range hj, Option.map_some, hj, if_true]
    by_cases h1 : j = 34
    · subst h1; simp
    · by_cases h2 : j = 95
      · subst h2; simp
      · by_cases h3 : j = 35
        · subst h3; simp
        · simp [h1, h2, h3, show ¬ 34 = j by omega, show ¬ 95 = j by omega, show ¬ 35 = j by omega]
  · have h1 : (tblN 256)[j]? = none := List.getElem?_eq_none (by rw [tblN_len]; omega)
    have h2 : tbl[j]? = none := List.getElem?_eq_none (by simp [tbl]; omega)
    rw [h1, h2]
    simp [show ¬ 34 = j by omega, show ¬ 95 = j by omega, show ¬ 35 = j by omega]
theorem u8n (n : Nat) (h : n < 256) : ((UInt8.ofNat n).toNat : Int) = n := by simp [UInt8.toNat_ofNat']; omega
theorem cls0_eq (i : Nat) : cls0 i = if (97 ≤ i ∧ i ≤ 122) ∨ (65 ≤ i ∧ i ≤ 90) then 3 else if 48 ≤ i ∧ i ≤ 57 then 4 else if Lib.indexByte [32, 9, 10] (UInt8.ofNat i) ≥ 0 then 1
        else if Lib.indexByte [59, 44, 46, 58, 40, 41, 123, 125, 91, 93, 61, 60, 62, 47, 43, 45, 42] (UInt8.ofNat i) ≥ 0 then 6 else 0 := rfl
theorem tbl_get {c : Nat} (h : c < 256) : tbl.getD c .undef = .int .u8 (if c = 35 then 2 else if c = 95 then 5 else if c = 34 then 7 else cls0 c) := by simp [tbl, List.getD, h]
theorem tbl_len : tbl.length = 256 := by simp [tbl]
theorem setL_app : ∀ (ds : List D) (cs : List D) (off : Nat), off + ds.length ≤ cs.length → setL cs off ds = cs.take off ++ ds ++ cs.drop (off + ds.length)
  | [], cs, off, h => by simp [setL]
  | d :: ds, cs, off, h => by
    simp only [List.length_cons] at h
    rw [setL, setL_app ds (cs.set off d) (off + 1) (by simp; omega)]
    have e1 : (cs.set off d).take (off + 1) = cs.take off ++ [d] := by
      rw [List.take_set, List.take_succ_eq_append_getElem (by omega), List.set_append_right _ _ (by simp; omega)]
      simp [Nat.min_eq_left (show off ≤ cs.length by omega)]
    have e2 : (cs.set off d).drop (off + 1 + ds.length) = cs.drop (off + (ds.length + 1)) := by
      rw [List.drop_set_of_lt (by omega)]; congr 1; omega
    rw [e1, e2]; simp
theorem setL_full {cs ds : List D} (h : ds.length = cs.length) : setL cs 0 ds = ds := by
  rw [setL_app ds cs 0 (by omega)]; simp [h]
theorem tbl_cl : D.closedL tbl = true ∧ D.erL tbl = tbl := by
  unfold tbl
  have : ∀ (f : Nat → Int) (l : List Nat), D.closedL (l.map fun c => D.int .u8 (f c)) = true ∧ D.erL (l.map fun c => D.int .u8 (f c)) = l.map fun c => D.int .u8 (f c) := by
    intro f l
    induction l with
    | nil => exact ⟨rfl, rfl⟩
    | cons x l ih => simp only [List.map_cons, D.closedL, D.erL, D.closed, D.er, ih.1, ih.2]; exact ⟨rfl, trivial⟩
  exact this _ _
attribute [irreducible] tblN tbl cls0
set_option maxHeartbeats 1000000 in
theorem classes_p : Pur M 61 [] (.agg tbl) := by
  refine ok61 rfl ?_
  rw [i61]
  unfold c61
  have hz := zl_len
  have ht := tbl_eq
  simp only [setL] at ht
  repeat' (first
    | with_reducible first | apply swp_seq | apply swp_reg | apply swp_regD | apply swp_block | apply swp_exit | apply swp_ret | apply swp_skip | apply swp_cd
    | simp only [go_sem, seval, P61, q61]
    | with_reducible first | apply cd_dec | apply cd_eq | apply cd_ne | apply cd_split | apply gd_dec | apply gd_eq | apply gd_ne | apply gd_split
    | ((with_reducible refine And.intro ?hw ?_); (case hw => first | omega | rfl | exact ⟨_, _, rfl⟩ | assumption | (simp only [lN] <;> omega)))
    | with_reducible intro _)
  refine swp_fam [0, 1, 4] (fun i : Nat => ⟨[.ptr 0 0, .ptr 1 0, .undef, .undef, .int .i64 i, .undef, .undef, .undef, .undef, .undef], [], ⟨[.cells zl256, .cells (tblN i)], []⟩⟩) (fun i => i ≤ 256) (fun i => 256 - i) 0 (by omega) ?_ ?_
  · simp [keepE, St.keep, tblN_zero]
  · intro i g1
    have hl := tblN_len i
    by_cases hi : i < 256
    · have hn := u8n i hi
      have x1 := index_p [32, 9, 10] (UInt8.ofNat i)
      have x2 := index_p [59, 44, 46, 58, 40, 41, 123, 125, 91, 93, 61, 60, 62, 47, 43, 45, 42] (UInt8.ofNat i)
      rw [hn] at x1 x2
      have hset := fun v => tblN_set (v := v) hi
      have hskip := tblN_skip hi
      have hc := cls0_eq i
      generalize Lib.indexByte [32, 9, 10] (UInt8.ofNat i) = y1 at *
      generalize Lib.indexByte [59, 44, 46, 58, 40, 41, 123, 125, 91, 93, 61, 60, 62, 47, 43, 45, 42] (UInt8.ofNat i) = y2 at *
      generalize cls0 i = ci at *
      have hcase : (i < 48) ∨ (48 ≤ i ∧ i < 58) ∨ (58 ≤ i ∧ i < 65) ∨ (65 ≤ i ∧ i < 91) ∨ (91 ≤ i ∧ i < 97) ∨ (97 ≤ i ∧ i < 123) ∨ (123 ≤ i) := by omega
      rcases hcase with hq | hq | hq | hq | hq | hq | hq
      · have t0 : decide (97 ≤ (i : Int)) = false := by simp; omega
        have t1 : decide ((i : Int) ≤ 122) = true := by simp; omega
        have t2 : decide (65 ≤ (i : Int)) = false := by simp; omega
        have t3 : decide ((i : Int) ≤ 90) = true := by simp; omega
        have t4 : decide (48 ≤ (i : Int)) = false := by simp; omega
        have t5 : decide ((i : Int) ≤ 57) = true := by simp; omega
        repeat' (first
    | with_reducible first | apply swp_seq | apply swp_reg | apply swp_regD | apply swp_block | apply swp_exit | apply swp_ret | apply swp_skip | apply swp_cd
    | simp only [go_sem, seval, P61, q61, hl, t0, t1, t2, t3, t4, t5]
    | simp (disch := omega) only [w64, w32, wu8, wu16, wu32, wu64]
    | ((with_reducible refine o_call (x1) ?he ?hc ?_); (case he | hc => first | rfl | (simp [D.erL, D.er, D.closedL, D.closed]; done)))
    | ((with_reducible refine o_call (x2) ?he ?hc ?_); (case he | hc => first | rfl | (simp [D.erL, D.er, D.closedL, D.closed]; done)))
    | with_reducible first | apply cd_dec | apply cd_eq | apply cd_ne | apply cd_split | apply gd_dec | apply gd_eq | apply gd_ne | apply gd_split
    | ((with_reducible refine And.intro ?hw ?_); (case hw => first | omega | rfl | exact ⟨_, _, rfl⟩ | assumption | (simp only [lN] <;> omega)))
    | with_reducible intro _)
        all_goals try omega
        all_goals refine ⟨i + 1, by omega, by omega, ?_⟩
        all_goals simp [St.keep, keepE]
        all_goals first
          | exact hset _ (by rw [hc]; repeat' split <;> first | rfl | omega)
          | exact hskip (by rw [hc]; repeat' split <;> first | rfl | omega)
      · have t0 : decide (97 ≤ (i : Int)) = false := by simp; omega
        have t1 : decide ((i : Int) ≤ 122) = true := by simp; omega
        have t2 : decide (65 ≤ (i : Int)) = false := by simp; omega
        have t3 : decide ((i : Int) ≤ 90) = true := by simp; omega
        have t4 : decide (48 ≤ (i : Int)) = true := by simp; omega
        have t5 : decide ((i : Int) ≤ 57) = true := by simp; omega
        repeat' (first
    | with_reducible first | apply swp_seq | apply swp_reg | apply swp_regD | apply swp_block | apply swp_exit | apply swp_ret | apply swp_skip | apply swp_cd
    | simp only [go_sem, seval, P61, q61, hl, t0, t1, t2, t3, t4, t5]
    | simp (disch := omega) only [w64, w32, wu8, wu16, wu32, wu64]
    | ((with_reducible refine o_call (x1) ?he ?hc ?_); (case he | hc => first | rfl | (simp [D.erL, D.er, D.closedL, D.closed]; done)))
    | ((with_reducible refine o_call (x2) ?he ?hc ?_); (case he | hc => first | rfl | (simp [D.erL, D.er, D.closedL, D.closed]; done)))
    | with_reducible first | apply cd_dec | apply cd_eq | apply cd_ne | apply cd_split | apply gd_dec | apply gd_eq | apply gd_ne | apply gd_split
    | ((with_reducible refine And.intro ?hw ?_); (case hw => first | omega | rfl | exact ⟨_, _, rfl⟩ | assumption | (simp only [lN] <;> omega)))
    | with_reducible intro _)
        all_goals try omega
        all_goals refine ⟨i + 1, by omega, by omega, ?_⟩
        all_goals simp [St.keep, keepE]
        all_goals first
          | exact hset _ (by rw [hc]; repeat' split <;> first | rfl | omega)
          | exact hskip (by rw [hc]; repeat' split <;> first | rfl | omega)
      · have t0 : decide (97 ≤ (i : Int)) = false := by simp; omega
        have t1 : decide ((i : Int) ≤ 122) = true := by simp; omega
        have t2 : decide (65 ≤ (i : Int)) = false := by simp; omega
        have t3 : decide ((i : Int) ≤ 90) = true := by simp; omega
        have t4 : decide (48 ≤ (i : Int)) = true := by simp; omega
        have t5 : decide ((i : Int) ≤ 57) = false := by simp; omega
        repeat' (first
    | with_reducible first | apply swp_seq | apply swp_reg | apply swp_regD | apply swp_block | apply swp_exit | apply swp_ret | apply swp_skip | apply swp_cd
    | simp only [go_sem, seval, P61, q61, hl, t0, t1, t2, t3, t4, t5]
    | simp (disch := omega) only [w64, w32, wu8, wu16, wu32, wu64]
    | ((with_reducible refine o_call (x1) ?he ?hc ?_); (case he | hc => first | rfl | (simp [D.erL, D.er, D.closedL, D.closed]; done)))
    | ((with_reducible refine o_call (x2) ?he ?hc ?_); (case he | hc => first | rfl | (simp [D.erL, D.er, D.closedL, D.closed]; done)))
    | with_reducible first | apply cd_dec | apply cd_eq | apply cd_ne | apply cd_split | apply gd_dec | apply gd_eq | apply gd_ne | apply gd_split
    | ((with_reducible refine And.intro ?hw ?_); (case hw => first | omega | rfl | exact ⟨_, _, rfl⟩ | assumption | (simp only [lN] <;> omega)))
    | with_reducible intro _)
        all_goals try omega
        all_goals refine ⟨i + 1, by omega, by omega, ?_⟩
        all_goals simp [St.keep, keepE]
        all_goals first
          | exact hset _ (by rw [hc]; repeat' split <;> first | rfl | omega)
          | exact hskip (by rw [hc]; repeat' split <;> first | rfl | omega)
      · have t0 : decide (97 ≤ (i : Int)) = false := by simp; omega
        have t1 : decide ((i : Int) ≤ 122) = true := by simp; omega
        have t2 : decide (65 ≤ (i : Int)) = true := by simp; omega
        have t3 : decide ((i : Int) ≤ 90) = true := by simp; omega
        have t4 : decide (48 ≤ (i : Int)) = true := by simp; omega
        have t5 : decide ((i : Int) ≤ 57) = false := by simp; omega
        repeat' (first
    | with_reducible first | apply swp_seq | apply swp_reg | apply swp_regD | apply swp_block | apply swp_exit | apply swp_ret | apply swp_skip | apply swp_cd
    | simp only [go_sem, seval, P61, q61, hl, t0, t1, t2, t3, t4, t5]
    | simp (disch := omega) only [w64, w32, wu8, wu16, wu32, wu64]
    | ((with_reducible refine o_call (x1) ?he ?hc ?_); (case he | hc => first | rfl | (simp [D.erL, D.er, D.closedL, D.closed]; done)))
    | ((with_reducible refine o_call (x2) ?he ?hc ?_); (case he | hc => first | rfl | (simp [D.erL, D.er, D.closedL, D.closed]; done)))
    | with_reducible first | apply cd_dec | apply cd_eq | apply cd_ne | apply cd_split | apply gd_dec | apply gd_eq | apply gd_ne | apply gd_split
    | ((with_reducible refine And.intro ?hw ?_); (case hw => first | omega | rfl | exact ⟨_, _, rfl⟩ | assumption | (simp only [lN] <;> omega)))
    | with_reducible intro _)
        all_goals try omega
        all_goals refine ⟨i + 1, by omega, by omega, ?_⟩
        all_goals simp [St.keep, keepE]
        all_goals first
          | exact hset _ (by rw [hc]; repeat' split <;> first | rfl | omega)
          | exact hskip (by rw [hc]; repeat' split <;> first | rfl | omega)
      · have t0 : decide (97 ≤ (i : Int)) = false := by simp; omega
        have t1 : decide ((i : Int) ≤ 122) = true := by simp; omega
        have t2 : decide (65 ≤ (i : Int)) = true := by simp; omega
        have t3 : decide ((i : Int) ≤ 90) = false := by simp; omega
        have t4 : decide (48 ≤ (i : Int)) = true := by simp; omega
        have t5 : decide ((i : Int) ≤ 57) = false := by simp; omega
        repeat' (first
    | with_reducible first | apply swp_seq | apply swp_reg | apply swp_regD | apply swp_block | apply swp_exit | apply swp_ret | apply swp_skip | apply swp_cd
    | simp only [go_sem, seval, P61, q61, hl, t0, t1, t2, t3, t4, t5]
    | simp (disch := omega) only [w64, w32, wu8, wu16, wu32, wu64]
    | ((with_reducible refine o_call (x1) ?he ?hc ?_); (case he | hc => first | rfl | (simp [D.erL, D.er, D.closedL, D.closed]; done)))
    | ((with_reducible refine o_call (x2) ?he ?hc ?_); (case he | hc => first | rfl | (simp [D.erL, D.er, D.closedL, D.closed]; done)))
    | with_reducible first | apply cd_dec | apply cd_eq | apply cd_ne | apply cd_split | apply gd_dec | apply gd_eq | apply gd_ne | apply gd_split
    | ((with_reducible refine And.intro ?hw ?_); (case hw => first | omega | rfl | exact ⟨_, _, rfl⟩ | assumption | (simp only [lN] <;> omega)))
    | with_reducible intro _)
        all_goals try omega
        all_goals refine ⟨i + 1, by omega, by omega, ?_⟩
        all_goals simp [St.keep, keepE]
        all_goals first
          | exact hset _ (by rw [hc]; repeat' split <;> first | rfl | omega)
          | exact hskip (by rw [hc]; repeat' split <;> first | rfl | omega)
      · have t0 : decide (97 ≤ (i : Int)) = true := by simp; omega
        have t1 : decide ((i : Int) ≤ 122) = true := by simp; omega
        have t2 : decide (65 ≤ (i : Int)) = true := by simp; omega
        have t3 : decide ((i : Int) ≤ 90) = false := by simp; omega
        have t4 : decide (48 ≤ (i : Int)) = true := by simp; omega
        have t5 : decide ((i : Int) ≤ 57) = false := by simp; omega
        repeat' (first
    | with_reducible first | apply swp_seq | apply swp_reg | apply swp_regD | apply swp_block | apply swp_exit | apply swp_ret | apply swp_skip | apply swp_cd
    | simp only [go_sem, seval, P61, q61, hl, t0, t1, t2, t3, t4, t5]
    | simp (disch := omega) only [w64, w32, wu8, wu16, wu32, wu64]
    | ((with_reducible refine o_call (x1) ?he ?hc ?_); (case he | hc => first | rfl | (simp [D.erL, D.er, D.closedL, D.closed]; done)))
    | ((with_reducible refine o_call (x2) ?he ?hc ?_); (case he | hc => first | rfl | (simp [D.erL, D.er, D.closedL, D.closed]; done)))
    | with_reducible first | apply cd_dec | apply cd_eq | apply cd_ne | apply cd_split | apply gd_dec | apply gd_eq | apply gd_ne | apply gd_split
    | ((with_reducible refine And.intro ?hw ?_); (case hw => first | omega | rfl | exact ⟨_, _, rfl⟩ | assumption | (simp only [lN] <;> omega)))
    | with_reducible intro _)
        all_goals try omega
        all_goals refine ⟨i + 1, by omega, by omega, ?_⟩
        all_goals simp [St.keep, keepE]
        all_goals first
          | exact hset _ (by rw [hc]; repeat' split <;> first | rfl | omega)
          | exact hskip (by rw [hc]; repeat' split <;> first | rfl | omega)
      · have t0 : decide (97 ≤ (i : Int)) = true := by simp; omega
        have t1 : decide ((i : Int) ≤ 122) = false := by simp; omega
        have t2 : decide (65 ≤ (i : Int)) = true := by simp; omega
        have t3 : decide ((i : Int) ≤ 90) = false := by simp; omega
        have t4 : decide (48 ≤ (i : Int)) = true := by simp; omega
        have t5 : decide ((i : Int) ≤ 57) = false := by simp; omega
        repeat' (first
    | with_reducible first | apply swp_seq | apply swp_reg | apply swp_regD | apply swp_block | apply swp_exit | apply swp_ret | apply swp_skip | apply swp_cd
    | simp only [go_sem, seval, P61, q61, hl, t0, t1, t2, t3, t4, t5]
    | simp (disch := omega) only [w64, w32, wu8, wu16, wu32, wu64]
    | ((with_reducible refine o_call (x1) ?he ?hc ?_); (case he | hc => first | rfl | (simp [D.erL, D.er, D.closedL, D.closed]; done)))
    | ((with_reducible refine o_call (x2) ?he ?hc ?_); (case he | hc => first | rfl | (simp [D.erL, D.er, D.closedL, D.closed]; done)))
    | with_reducible first | apply cd_dec | apply cd_eq | apply cd_ne | apply cd_split | apply gd_dec | apply gd_eq | apply gd_ne | apply gd_split
    | ((with_reducible refine And.intro ?hw ?_); (case hw => first | omega | rfl | exact ⟨_, _, rfl⟩ | assumption | (simp only [lN] <;> omega)))
    | with_reducible intro _)
        all_goals try omega
        all_goals refine ⟨i + 1, by omega, by omega, ?_⟩
        all_goals simp [St.keep, keepE]
        all_goals first
          | exact hset _ (by rw [hc]; repeat' split <;> first | rfl | omega)
          | exact hskip (by rw [hc]; repeat' split <;> first | rfl | omega)
    · obtain rfl : i = 256 := by omega
      generalize tblN 256 = T1 at *
      have hk := tbl_len
      have htk : tbl.take 256 = tbl := List.take_of_length_le (by omega)
      have hsf : setL zl256 0 tbl = tbl := setL_full (by omega)
      have hmin : min 256 tbl.length = 256 := by omega
      have hcl := tbl_cl
      repeat' (first
    | with_reducible first | apply swp_seq | apply swp_reg | apply swp_regD | apply swp_block | apply swp_exit | apply swp_ret | apply swp_skip | apply swp_cd
    | simp only [go_sem, seval, P61, q61, hl, List.length_set, hz, ht, htk, hsf, hmin, hk]
    | simp (disch := omega) only [w64, w32, wu8, wu16, wu32, wu64]
    | with_reducible first | apply cd_dec | apply cd_eq | apply cd_ne | apply cd_split | apply gd_dec | apply gd_eq | apply gd_ne | apply gd_split
    | ((with_reducible refine And.intro ?hw ?_); (case hw => first | omega | rfl | exact ⟨_, _, rfl⟩ | assumption | (simp only [lN, hl, List.length_set, hcl] <;> omega)))
    | with_reducible intro _)
      all_goals first | omega | skip
      all_goals simp [D.closed, D.er, D.closedL, D.erL, hl, hcl.1, hcl.2]
end Go.Proofs.Ytofnggfpegcllaa
end
section
set_option maxRecDepth 100000
set_option linter.unusedSimpArgs false
set_option linter.unusedVariables false
namespace Go.Proofs.Ytofnggfpegcllaa
open Go GoV Go.RowKit
def clsB (c : UInt8) : Int := if c.toNat = 35 then 2 else if c.toNat = 95 then 5 else if c.toNat = 34 then 7 else cls0 c.toNat
theorem clsB_get (c : UInt8) : tbl.getD c.toNat .undef = .int .u8 (clsB c) := tbl_get (UInt8.toNat_lt c)
theorem cls_cases (c : UInt8) : (clsB c = 3 ↔ isLet c = true) ∧ (clsB c = 4 ↔ isDig c = true) ∧ (clsB c = 5 ↔ (c == 95) = true) := by
  have hc : c.toNat < 256 := UInt8.toNat_lt c
  have e1 : ∀ k : Nat, k < 256 → ((UInt8.ofNat k ≤ c) ↔ k ≤ c.toNat) := fun k hk => by
    rw [UInt8.le_iff_toNat_le]; simp [UInt8.toNat_ofNat']; omega
  have e2 : ∀ k : Nat, k < 256 → ((c ≤ UInt8.ofNat k) ↔ c.toNat ≤ k) := fun k hk => by
    rw [UInt8.le_iff_toNat_le]; simp [UInt8.toNat_ofNat']; omega
  have l1 := e1 97 (by omega); have l2 := e2 122 (by omega); have l3 := e1 65 (by omega); have l4 := e2 90 (by omega); have l5 := e1 48 (by omega); have l6 := e2 57 (by omega)
  have l7 : (c == 95) = true ↔ c.toNat = 95 := by
    rw [beq_iff_eq]
    constructor
    · rintro rfl; rfl
    · intro h; exact UInt8.toNat_inj.1 h
  have a1 : isLet c = true ↔ (97 ≤ c.toNat ∧ c.toNat ≤ 122) ∨ (65 ≤ c.toNat ∧ c.toNat ≤ 90) := by
    simp only [isLet, Bool.or_eq_true, Bool.and_eq_true, decide_eq_true_eq]
    rw [show (97 : UInt8) = UInt8.ofNat 97 from rfl, show (122 : UInt8) = UInt8.ofNat 122 from rfl, show (65 : UInt8) = UInt8.ofNat 65 from rfl, show (90 : UInt8) = UInt8.ofNat 90 from rfl, l1, l2, l3, l4]
  have a2 : isDig c = true ↔ 48 ≤ c.toNat ∧ c.toNat ≤ 57 := by
    simp only [isDig, Bool.and_eq_true, decide_eq_true_eq]
    rw [show (48 : UInt8) = UInt8.ofNat 48 from rfl, show (57 : UInt8) = UInt8.ofNat 57 from rfl, l5, l6]
  rw [a1, a2, l7]
  unfold clsB
  rw [cls0_eq]
  refine ⟨?_, ?_, ?_⟩ <;> repeat' split
  all_goals omega
def nameB (c : UInt8) (first : Bool) : Bool := isLet c || (!first && (isDig c || c == 95))
theorem nameOk_cons (c : UInt8) (r : List UInt8) : nameOk (c :: r) = (isLet c && (r.all fun c => nameB c false) && decide ((c :: r).length ≤ 24)) := by
  simp only [nameOk]
  congr 2
  congr 1
  funext c
  simp [nameB, Bool.or_assoc]
def okTo (s : List UInt8) (i : Nat) : Prop := ∀ j, j < i → nameB (s.getD j 0) (j == 0) = true
theorem okTo_all (s : List UInt8) : okTo s s.length ↔ (s = [] ∨ (match s with | [] => false | c :: r => isLet c && r.all fun c => nameB c false) = true) := by
  cases s with
  | nil => simp [okTo]
  | cons c r =>
    simp only [okTo, List.length_cons, reduceCtorEq, false_or, Bool.and_eq_true, List.all_eq_true]
    constructor
    · intro h
      refine ⟨by have := h 0 (by omega); simpa [nameB] using this, fun x hx => ?_⟩
      obtain ⟨k, hk, rfl⟩ := List.getElem_of_mem hx
      have := h (k + 1) (by omega)
      simpa [List.getD, hk] using this
    · rintro ⟨h1, h2⟩ j hj
      cases j with
      | zero => simp [nameB, h1]
      | succ j =>
        have hj' : j < r.length := by omega
        have := h2 r[j] (List.getElem_mem hj')
        simpa [List.getD, hj'] using this
theorem nameOk_eq (s : List UInt8) (h : okTo s s.length) : nameOk s = (!(s == []) && decide (s.length ≤ 24)) := by
  cases s with
  | nil => rfl
  | cons c r =>
    rw [nameOk_cons]
    have := (okTo_all (c :: r)).1 h
    simp only [reduceCtorEq, false_or] at this
    rw [this]; simp
theorem nameOk_bad (s : List UInt8) {i : Nat} (hi : i < s.length) (h : nameB (s.getD i 0) (i == 0) = false) : nameOk s = false := by
  cases s with
  | nil => simp at hi
  | cons c r =>
    rw [nameOk_cons]
    cases e : (isLet c && r.all fun c => nameB c false) with
    | false => rfl
    | true =>
      have := (okTo_all (c :: r)).2 (.inr e) i hi
      rw [h] at this; cases this
set_option maxHeartbeats 1000000 in
theorem name_p (s : List UInt8) (hs : s.length ≤ 9223372036854775807) : Pur M 52 [.str s] (.bool (nameOk s)) := by
  refine ok52 rfl ?_
  rw [i52]
  unfold c52
  have c1 := classes_p
  have hk := tbl_len
  have htk : tbl.take 256 = tbl := List.take_of_length_le (by omega)
  have hz := zl_len
  have hsf : setL zl256 0 tbl = tbl := setL_full (by omega)
  have hmin : min 256 tbl.length = 256 := by omega
  repeat' (first
    | with_reducible first | apply swp_seq | apply swp_reg | apply swp_regD | apply swp_block | apply swp_exit | apply swp_ret | apply swp_skip | apply swp_cd
    | simp only [go_sem, seval, P52, q52, hz, hk, htk, hsf, hmin]
    | simp (disch := omega) only [w64, w32, wu8, wu16, wu32, wu64]
    | ((with_reducible refine o_call (c1) ?he ?hc ?_); (case he | hc => first | rfl | (simp [D.erL, D.er, D.closedL, D.closed]; done)))
    | with_reducible first | apply cd_dec | apply cd_eq | apply cd_ne | apply cd_split | apply gd_dec | apply gd_eq | apply gd_ne | apply gd_split
    | ((with_reducible refine And.intro ?hw ?_); (case hw => first | omega | rfl | exact ⟨_, _, rfl⟩ | assumption | (simp only [lN] <;> omega)))
    | with_reducible intro _)
  refine swp_fam [0, 1, 2, 5, 6] (fun i : Nat => ⟨[.str s, .bool false, .ptr 0 0, .undef, .undef, .int .i64 s.length, .int .i64 i, .undef, .undef], [], ⟨[.cells tbl], []⟩⟩) (fun i => i ≤ s.length ∧ okTo s i) (fun i => s.length - i) 0 ⟨by omega, fun j hj => by omega⟩ ?_ ?_
  · simp [keepE, St.keep]
  · rintro i ⟨g1, g2⟩
    by_cases hi : i < s.length
    · have hg := clsB_get (s.getD i 0)
      obtain ⟨k1, k2, k3⟩ := cls_cases (s.getD i 0)
      have hlt : (s.getD i 0).toNat < 256 := UInt8.toNat_lt _
      have hb : nameB (s.getD i 0) (i == 0) = (decide (clsB (s.getD i 0) = 3) || (!(i == 0) && (decide (clsB (s.getD i 0) = 4) || decide (clsB (s.getD i 0) = 5)))) := by
        unfold nameB
        congr 1
        · rw [Bool.eq_iff_iff, decide_eq_true_eq]; exact k1.symm
        · congr 1
          congr 1
          · rw [Bool.eq_iff_iff, decide_eq_true_eq]; exact k2.symm
          · rw [Bool.eq_iff_iff, decide_eq_true_eq]; exact k3.symm
      have hbad := nameOk_bad s hi
      have hstep : nameB (s.getD i 0) (i == 0) = true → okTo s (i + 1) := fun h j hj => by
        by_cases e : j = i
        · subst e; exact h
        · exact g2 j (by omega)
      rw [hb] at hbad hstep
      generalize clsB (s.getD i 0) = cl at *
      repeat' (first
    | with_reducible first | apply swp_seq | apply swp_reg | apply swp_regD | apply swp_block | apply swp_exit | apply swp_ret | apply swp_skip | apply swp_cd
    | simp only [go_sem, seval, P52, q52, Nat.mul_one, hk, hg]
    | simp (disch := omega) only [w64, w32, wu8, wu16, wu32, wu64]
    | with_reducible first | apply cd_dec | apply cd_eq | apply cd_ne | apply cd_split | apply gd_dec | apply gd_eq | apply gd_ne | apply gd_split
    | ((with_reducible refine And.intro ?hw ?_); (case hw => first | omega | rfl | exact ⟨_, _, rfl⟩ | assumption | (simp only [lN, hk, hlt] <;> omega)))
    | with_reducible intro _)
      all_goals try omega
      all_goals first
        | (refine ⟨i + 1, ⟨by omega, hstep (by simp only [Bool.or_eq_true, Bool.and_eq_true, decide_eq_true_eq, Bool.not_eq_true', beq_eq_false_iff_ne]; omega)⟩, by omega, ?_⟩; simp [St.keep, keepE])
        | (rw [hbad (by simp only [Bool.or_eq_false_iff, Bool.and_eq_false_iff, decide_eq_false_iff_not, Bool.not_eq_false', beq_iff_eq]; omega)])
        | skip
    · obtain rfl : i = s.length := by omega
      rw [nameOk_eq s g2]
      repeat' (first
    | with_reducible first | apply swp_seq | apply swp_reg | apply swp_regD | apply swp_block | apply swp_exit | apply swp_ret | apply swp_skip | apply swp_cd
    | simp only [go_sem, seval, P52, q52, hk]
    | simp (disch := omega) only [w64, w32, wu8, wu16, wu32, wu64]
    | with_reducible first | apply cd_dec | apply cd_eq | apply cd_ne | apply cd_split | apply gd_dec | apply gd_eq | apply gd_ne | apply gd_split
    | ((with_reducible refine And.intro ?hw ?_); (case hw => first | omega | rfl | exact ⟨_, _, rfl⟩ | assumption | (simp only [lN, hk] <;> omega)))
    | with_reducible intro _)
      all_goals try omega
      all_goals simp [D.closed, D.er, D.closedL, D.erL]
      all_goals clear g1 g2 hi hs
      all_goals rcases s with _ | ⟨c, r⟩
      all_goals first | (simp_all; done) | (simp; omega) | (simp only [List.isEmpty_cons, Bool.not_false, Bool.true_and]; exact decide_eq_decide.2 (by simp <;> omega))
end Go.Proofs.Ytofnggfpegcllaa
end
section
set_option maxRecDepth 100000
set_option linter.unusedSimpArgs false
set_option linter.unusedVariables false
namespace Go.Proofs.Ytofnggfpegcllaa
open Go GoV Go.RowKit
end Go.Proofs.Ytofnggfpegcllaa
end
section
set_option maxRecDepth 100000
set_option linter.unusedSimpArgs false
set_option linter.unusedVariables false
namespace Go.Proofs.Ytofnggfpegcllaa
open Go GoV Go.RowKit
@[reducible] def Ev.cells (e : Ev) : List D := [.int .i64 e.op, .int .i64 e.day, .str e.part, .str e.kind, .str e.into, .str e.slot, .str e.key, .str e.val, .int .i64 e.km.low, .int .i64 e.km.high, .int .i64 e.cy.low, .int .i64 e.cy.high, .int .i64 e.ld.low, .int .i64 e.ld.high]
def evD (e : Ev) : D := .agg e.cells
abbrev evsD (l : List Ev) : D := .slice (l.map evD) .no
def Ev.sh (e : Ev) : Bool := decide (e.part.length ≤ 300) && decide (e.kind.length ≤ 300) && decide (e.into.length ≤ 300) && decide (e.slot.length ≤ 300) && decide (e.key.length ≤ 300) && decide (e.val.length ≤ 300)
def wordL : List Nm := [[], [109, 97, 107, 101], [102, 105, 116], [114, 101, 109, 111, 118, 101], [114, 117, 110], [111, 118, 101, 114, 104, 97, 117, 108], [110, 111, 116, 101], [115, 99, 114, 97, 112]]
def wordT (op : Int) : Nm := if 0 ≤ op ∧ op < 8 then wordL.getD op.toNat [] else []
theorem wordT_nil (op : Int) : (wordT op == []) = !(decide (1 ≤ op) && decide (op ≤ 7)) := by
  unfold wordT
  split
  · rename_i h
    have : op = 0 ∨ op = 1 ∨ op = 2 ∨ op = 3 ∨ op = 4 ∨ op = 5 ∨ op = 6 ∨ op = 7 := by omega
    rcases this with h | h | h | h | h | h | h | h <;> subst h <;> rfl
  · rename_i h
    have : ¬ (1 ≤ op ∧ op ≤ 7) := by omega
    by_cases a : 1 ≤ op <;> by_cases b : op ≤ 7 <;> simp [a, b] <;> omega
theorem eword_p (op : Int) : Pur M 51 [.int .i64 op] (.str (wordT op)) := by
  refine ok51 rfl ?_
  rw [i51]
  unfold c51
  by_cases h : 0 ≤ op ∧ op < 8
  · have hw : wordT op = wordL.getD op.toNat [] := by unfold wordT; rw [if_pos h]
    have hg : ([D.str [], D.str [109, 97, 107, 101], D.str [102, 105, 116], D.str [114, 101, 109, 111, 118, 101], D.str [114, 117, 110], D.str [111, 118, 101, 114, 104, 97, 117, 108], D.str [110, 111, 116, 101], D.str [115, 99, 114, 97, 112]] : List D).getD op.toNat .undef = .str (wordL.getD op.toNat []) := by
      have : op = 0 ∨ op = 1 ∨ op = 2 ∨ op = 3 ∨ op = 4 ∨ op = 5 ∨ op = 6 ∨ op = 7 := by omega
      rcases this with h | h | h | h | h | h | h | h <;> subst h <;> rfl
    have t0 : decide (op < 0) = false := by simp; omega
    have t1 : decide (op ≥ 8) = false := by simp; omega
    rw [hw]
    repeat' (first
    | with_reducible first | apply swp_seq | apply swp_reg | apply swp_regD | apply swp_block | apply swp_exit | apply swp_ret | apply swp_skip | apply swp_cd
    | simp only [go_sem, seval, P51, q51, Nat.zero_add, Nat.mul_one, hg, t0, t1]
    | with_reducible first | apply cd_dec | apply cd_eq | apply cd_ne | apply cd_split | apply gd_dec | apply gd_eq | apply gd_ne | apply gd_split
    | ((with_reducible refine And.intro ?hw ?_); (case hw => first | omega | rfl | exact ⟨_, _, rfl⟩ | assumption | (simp only [lN] <;> omega)))
    | with_reducible intro _)
    all_goals first | omega | simp [D.closed, D.er]
  · have hw : wordT op = [] := by unfold wordT; rw [if_neg h]
    rw [hw]
    by_cases h0 : op < 0
    · have t0 : decide (op < 0) = true := by simp; omega
      repeat' (first
    | with_reducible first | apply swp_seq | apply swp_reg | apply swp_regD | apply swp_block | apply swp_exit | apply swp_ret | apply swp_skip | apply swp_cd
    | simp only [go_sem, seval, P51, q51, t0]
    | with_reducible first | apply cd_dec | apply cd_eq | apply cd_ne | apply cd_split | apply gd_dec | apply gd_eq | apply gd_ne | apply gd_split
    | ((with_reducible refine And.intro ?hw ?_); (case hw => first | omega | rfl | exact ⟨_, _, rfl⟩ | assumption | (simp only [lN] <;> omega)))
    | with_reducible intro _)
      all_goals first | omega | simp [D.closed, D.er]
    · have t0 : decide (op < 0) = false := by simp; omega
      have t1 : decide (op ≥ 8) = true := by simp; omega
      repeat' (first
    | with_reducible first | apply swp_seq | apply swp_reg | apply swp_regD | apply swp_block | apply swp_exit | apply swp_ret | apply swp_skip | apply swp_cd
    | simp only [go_sem, seval, P51, q51, t0, t1]
    | with_reducible first | apply cd_dec | apply cd_eq | apply cd_ne | apply cd_split | apply gd_dec | apply gd_eq | apply gd_ne | apply gd_split
    | ((with_reducible refine And.intro ?hw ?_); (case hw => first | omega | rfl | exact ⟨_, _, rfl⟩ | assumption | (simp only [lN] <;> omega)))
    | with_reducible intro _)
      all_goals first | omega | simp [D.closed, D.er]
theorem ivs_e (e : Ev) : Eff M 53 [.ptr 0 8] ⟨[.cells e.cells], []⟩ fun d hp => d = .agg [.ptr 0 8, .ptr 0 10, .ptr 0 12] ∧ hp = ⟨[.cells e.cells], []⟩ := by
  refine eff_cut 1 0 (hp1 := ⟨[.cells e.cells, .cells [.ptr 0 8, .ptr 0 10, .ptr 0 12]], []⟩) (d0 := .agg [.ptr 0 8, .ptr 0 10, .ptr 0 12]) (oe53 1 0 rfl rfl rfl ?_) (Nat.le_refl 1) (Nat.zero_le 0) (by simp [D.rn, D.rnL, cutF]) (by simp [Hp.cut, Blk.rnL, Blk.rn, Tv.rnL, D.rnL, D.rn])
  rw [ie53]
  unfold c53
  repeat' (first
    | with_reducible first | apply swp_seq | apply swp_reg | apply swp_regD | apply swp_block | apply swp_exit | apply swp_ret | apply swp_skip | apply swp_cd
    | simp only [go_sem, seval, pe53, q53]
    | with_reducible first | apply cd_dec | apply cd_eq | apply cd_ne | apply cd_split
    | ((with_reducible refine And.intro ?hw ?_); (case hw => first | omega | rfl | exact ⟨_, _, rfl⟩ | assumption | (simp only [lN] <;> omega)))
    | with_reducible intro _)
  refine ⟨_, weak_refl, ?_⟩
  repeat' (first
    | with_reducible first | apply swp_seq | apply swp_reg | apply swp_regD | apply swp_block | apply swp_exit | apply swp_ret | apply swp_skip | apply swp_cd
    | simp only [go_sem, seval, pe53, q53]
    | with_reducible first | apply cd_dec | apply cd_eq | apply cd_ne | apply cd_split
    | ((with_reducible refine And.intro ?hw ?_); (case hw => first | omega | rfl | exact ⟨_, _, rfl⟩ | assumption | (simp only [lN] <;> omega)))
    | with_reducible intro _)
  all_goals simp
theorem notName_p (s : Nm) (h : s.length ≤ 300) : Pur M 55 [.str s] (.bool (!(nameOk s))) := by
  refine ok55 rfl ?_
  rw [i55]
  unfold c55
  have c1 := name_p s (by omega)
  repeat' (first
    | with_reducible first | apply swp_seq | apply swp_reg | apply swp_regD | apply swp_block | apply swp_exit | apply swp_ret | apply swp_skip | apply swp_cd
    | simp only [go_sem, seval, P55, q55]
    | ((with_reducible refine o_call (c1) ?he ?hc ?_); (case he | hc => first | rfl | (simp [D.erL, D.er, D.closedL, D.closed]; done)))
    | with_reducible first | apply cd_dec | apply cd_eq | apply cd_ne | apply cd_split
    | ((with_reducible refine And.intro ?hw ?_); (case hw => first | omega | rfl | exact ⟨_, _, rfl⟩ | assumption | (simp only [lN] <;> omega)))
    | with_reducible intro _)
  all_goals simp [D.closed, D.er]
theorem first_of {α : Type} {p : α → Prop} [DecidablePred p] : ∀ (l : List α), (∃ i, ∃ h : i < l.length, p l[i] ∧ ∀ j (g : j < i), ¬ p l[j]) ∨ ∀ j (h : j < l.length), ¬ p l[j]
  | [] => .inr (by simp)
  | x :: l => by
    by_cases hx : p x
    · exact .inl ⟨0, by simp, hx, by simp⟩
    · rcases first_of (p := p) l with ⟨i, h, h1, h2⟩ | h
      · refine .inl ⟨i + 1, by simpa using h, by simpa using h1, fun j g => ?_⟩
        cases j with
        | zero => simpa using hx
        | succ j => simpa using h2 j (by omega)
      · refine .inr fun j hj => ?_
        cases j with
        | zero => simpa using hx
        | succ j => simpa using h j (by simpa using hj)
theorem indexN (l : List Nm) (hl : l.length < 1000) (hs : ∀ s ∈ l, s.length ≤ 300) (i : Nat) (hi : i < l.length) (he : nameOk l[i] = false) (hm : ∀ j (h : j < i), nameOk l[j] = true) :
    Pur M 62 [.slice (strs l) .no, .fn (.func 55) [] []] (.int .i64 i) := by
  refine ok62 rfl ?_
  rw [i62]
  unfold c62
  have hlen : (strs l).length = l.length := by simp [strs]
  repeat' (first
    | with_reducible first | apply swp_seq | apply swp_reg | apply swp_regD | apply swp_block | apply swp_exit | apply swp_ret | apply swp_skip | apply swp_cd
    | simp only [go_sem, seval, P62, q62, hlen]
    | simp (disch := omega) only [w64, w32, wu8, wu16, wu32, wu64]
    | with_reducible first | apply cd_dec | apply cd_eq | apply cd_ne | apply cd_split
    | ((with_reducible refine And.intro ?hw ?_); (case hw => first | omega | rfl | exact ⟨_, _, rfl⟩ | assumption | (simp only [lN, hlen] <;> omega)))
    | with_reducible intro _)
  refine swp_fam [0, 1, 2, 4, 5] (fun j : Nat => ⟨[.slice (strs l) .no, .fn (.func 55) [] [], .int .i64 0, .undef, .int .i64 l.length, .int .i64 j, .undef, .undef], [], ⟨[], []⟩⟩) (fun j => j ≤ i) (fun j => l.length - j) 0 (by omega) ?_ ?_
  · simp [keepE, St.keep]
  · intro j hj
    have hjl : j < l.length := by omega
    have hg : (strs l).getD j .undef = .str l[j] := by simp [strs, List.getD, hjl]
    have c1 := notName_p l[j] (hs _ (List.getElem_mem _))
    by_cases e : j = i
    · subst e
      rw [he] at c1
      repeat' (first
    | with_reducible first | apply swp_seq | apply swp_reg | apply swp_regD | apply swp_block | apply swp_exit | apply swp_ret | apply swp_skip | apply swp_cd
    | simp only [go_sem, seval, P62, q62, hlen, hg]
    | simp (disch := omega) only [w64, w32, wu8, wu16, wu32, wu64]
    | ((with_reducible refine o_call (c1) ?he ?hc ?_); (case he | hc => first | rfl | (simp [D.erL, D.er, D.closedL, D.closed, hlen, hg]; done)))
    | with_reducible first | apply cd_dec | apply cd_eq | apply cd_ne | apply cd_split
    | ((with_reducible refine And.intro ?hw ?_); (case hw => first | omega | rfl | exact ⟨_, _, rfl⟩ | assumption | (simp only [lN, hlen, hg] <;> omega)))
    | with_reducible intro _)
      all_goals try omega
      all_goals simp [D.closed, D.er, D.closedL, D.erL]
    · rw [hm j (by omega)] at c1
      repeat' (first
    | with_reducible first | apply swp_seq | apply swp_reg | apply swp_regD | apply swp_block | apply swp_exit | apply swp_ret | apply swp_skip | apply swp_cd
    | simp only [go_sem, seval, P62, q62, hlen, hg]
    | simp (disch := omega) only [w64, w32, wu8, wu16, wu32, wu64]
    | ((with_reducible refine o_call (c1) ?he ?hc ?_); (case he | hc => first | rfl | (simp [D.erL, D.er, D.closedL, D.closed, hlen, hg]; done)))
    | with_reducible first | apply cd_dec | apply cd_eq | apply cd_ne | apply cd_split
    | ((with_reducible refine And.intro ?hw ?_); (case hw => first | omega | rfl | exact ⟨_, _, rfl⟩ | assumption | (simp only [lN, hlen, hg] <;> omega)))
    | with_reducible intro _)
      all_goals try omega
      all_goals (refine ⟨j + 1, by omega, by omega, ?_⟩; simp [St.keep, keepE])
theorem indexNn (l : List Nm) (hl : l.length < 1000) (hs : ∀ s ∈ l, s.length ≤ 300) (hm : ∀ j (h : j < l.length), nameOk l[j] = true) :
    Pur M 62 [.slice (strs l) .no, .fn (.func 55) [] []] (.int .i64 (-1)) := by
  refine ok62 rfl ?_
  rw [i62]
  unfold c62
  have hlen : (strs l).length = l.length := by simp [strs]
  repeat' (first
    | with_reducible first | apply swp_seq | apply swp_reg | apply swp_regD | apply swp_block | apply swp_exit | apply swp_ret | apply swp_skip | apply swp_cd
    | simp only [go_sem, seval, P62, q62, hlen]
    | simp (disch := omega) only [w64, w32, wu8, wu16, wu32, wu64]
    | with_reducible first | apply cd_dec | apply cd_eq | apply cd_ne | apply cd_split
    | ((with_reducible refine And.intro ?hw ?_); (case hw => first | omega | rfl | exact ⟨_, _, rfl⟩ | assumption | (simp only [lN, hlen] <;> omega)))
    | with_reducible intro _)
  refine swp_fam [0, 1, 2, 4, 5] (fun j : Nat => ⟨[.slice (strs l) .no, .fn (.func 55) [] [], .int .i64 0, .undef, .int .i64 l.length, .int .i64 j, .undef, .undef], [], ⟨[], []⟩⟩) (fun j => j ≤ l.length) (fun j => l.length - j) 0 (by omega) ?_ ?_
  · simp [keepE, St.keep]
  · intro j hj
    by_cases hjl : j < l.length
    · have hg : (strs l).getD j .undef = .str l[j] := by simp [strs, List.getD, hjl]
      have c1 := notName_p l[j] (hs _ (List.getElem_mem _))
      rw [hm j (by omega)] at c1
      repeat' (first
    | with_reducible first | apply swp_seq | apply swp_reg | apply swp_regD | apply swp_block | apply swp_exit | apply swp_ret | apply swp_skip | apply swp_cd
    | simp only [go_sem, seval, P62, q62, hlen, hg]
    | simp (disch := omega) only [w64, w32, wu8, wu16, wu32, wu64]
    | ((with_reducible refine o_call (c1) ?he ?hc ?_); (case he | hc => first | rfl | (simp [D.erL, D.er, D.closedL, D.closed, hlen, hg]; done)))
    | with_reducible first | apply cd_dec | apply cd_eq | apply cd_ne | apply cd_split
    | ((with_reducible refine And.intro ?hw ?_); (case hw => first | omega | rfl | exact ⟨_, _, rfl⟩ | assumption | (simp only [lN, hlen, hg] <;> omega)))
    | with_reducible intro _)
      all_goals try omega
      all_goals (refine ⟨j + 1, by omega, by omega, ?_⟩; simp [St.keep, keepE])
    · repeat' (first
    | with_reducible first | apply swp_seq | apply swp_reg | apply swp_regD | apply swp_block | apply swp_exit | apply swp_ret | apply swp_skip | apply swp_cd
    | simp only [go_sem, seval, P62, q62, hlen]
    | simp (disch := omega) only [w64, w32, wu8, wu16, wu32, wu64]
    | with_reducible first | apply cd_dec | apply cd_eq | apply cd_ne | apply cd_split
    | ((with_reducible refine And.intro ?hw ?_); (case hw => first | omega | rfl | exact ⟨_, _, rfl⟩ | assumption | (simp only [lN, hlen] <;> omega)))
    | with_reducible intro _)
      all_goals try omega
      all_goals simp [D.closed, D.er, D.closedL, D.erL]
theorem containsN (l : List Nm) (hl : l.length < 1000) (hs : ∀ s ∈ l, s.length ≤ 300) : Pur M 54 [.slice (strs l) .no, .fn (.func 55) [] []] (.bool (!(l.all nameOk))) := by
  refine ok54 rfl ?_
  rw [i54]
  unfold c54
  rcases first_of (p := fun x => nameOk x = false) l with ⟨i, h, h1, h2⟩ | h
  · have c1 := indexN l hl hs i h h1 fun j g => by have := h2 j g; simpa using this
    have hc : l.all nameOk = false := by rw [List.all_eq_false]; exact ⟨l[i], List.getElem_mem h, by simp [h1]⟩
    rw [hc]
    repeat' (first
    | with_reducible first | apply swp_seq | apply swp_reg | apply swp_regD | apply swp_block | apply swp_exit | apply swp_ret | apply swp_skip | apply swp_cd
    | simp only [go_sem, seval, P54, q54]
    | simp (disch := omega) only [w64, w32, wu8, wu16, wu32, wu64]
    | ((with_reducible refine o_call (c1) ?he ?hc ?_); (case he | hc => first | rfl | (simp [D.erL, D.er, D.closedL, D.closed]; done)))
    | with_reducible first | apply cd_dec | apply cd_eq | apply cd_ne | apply cd_split
    | ((with_reducible refine And.intro ?hw ?_); (case hw => first | omega | rfl | exact ⟨_, _, rfl⟩ | assumption | (simp only [lN] <;> omega)))
    | with_reducible intro _)
    all_goals simp [D.closed, D.er, D.closedL, D.erL]
  · have c1 := indexNn l hl hs fun j g => by have := h j g; simpa using this
    have hc : l.all nameOk = true := by
      rw [List.all_eq_true]
      intro x hx
      obtain ⟨j, hj, rfl⟩ := List.getElem_of_mem hx
      have := h j hj; simpa using this
    rw [hc]
    repeat' (first
    | with_reducible first | apply swp_seq | apply swp_reg | apply swp_regD | apply swp_block | apply swp_exit | apply swp_ret | apply swp_skip | apply swp_cd
    | simp only [go_sem, seval, P54, q54]
    | simp (disch := omega) only [w64, w32, wu8, wu16, wu32, wu64]
    | ((with_reducible refine o_call (c1) ?he ?hc ?_); (case he | hc => first | rfl | (simp [D.erL, D.er, D.closedL, D.closed]; done)))
    | with_reducible first | apply cd_dec | apply cd_eq | apply cd_ne | apply cd_split
    | ((with_reducible refine And.intro ?hw ?_); (case hw => first | omega | rfl | exact ⟨_, _, rfl⟩ | assumption | (simp only [lN] <;> omega)))
    | with_reducible intro _)
    all_goals simp [D.closed, D.er, D.closedL, D.erL]
end Go.Proofs.Ytofnggfpegcllaa
end
section
set_option maxRecDepth 100000
set_option linter.unusedSimpArgs false
set_option linter.unusedVariables false
namespace Go.Proofs.Ytofnggfpegcllaa
open Go GoV Go.RowKit
theorem o_ixvF {P : Mod} {kk : IntKind} {i : Int} {len k : Nat} {cs : List D} {dst : Dst} {r : List RO} {K : St → Prop} {s : St} : OpS P (.ixvA false len k) [.agg cs, .int kk i] dst r K s = (0 ≤ i ∧ i < len ∧ len * k ≤ cs.length ∧ 0 < k ∧ opsWp P r K (s.put dst (cs.getD (i.toNat * k) .undef))) := by simp [OpS, OcWp, isCall, opWp]
theorem nc0 : ((0 : Nat) : Int) = 0 := rfl
theorem nc1 : ((1 : Nat) : Int) = 1 := rfl
theorem nc2 : ((2 : Nat) : Int) = 2 := rfl
theorem nc3 : ((3 : Nat) : Int) = 3 := rfl
def zerosB (e : Ev) : Bool := (e.km.low == 0 && (e.km.high == 0 && (e.cy.low == 0 && (e.cy.high == 0 && (e.ld.low == 0 && e.ld.high == 0)))))
theorem dec_ev {a b : Ev} : decide (a = b) = (a.op == b.op && (a.day == b.day && (a.part == b.part && (a.kind == b.kind && (a.into == b.into && (a.slot == b.slot && (a.key == b.key && (a.val == b.val &&
    (a.km.low == b.km.low && (a.km.high == b.km.high && (a.cy.low == b.cy.low && (a.cy.high == b.cy.high && (a.ld.low == b.ld.low && a.ld.high == b.ld.high))))))))))))) := by
  rw [Bool.eq_iff_iff]
  rcases a with ⟨_, _, _, _, _, _, _, _, ⟨_, _⟩, ⟨_, _⟩, ⟨_, _⟩⟩
  rcases b with ⟨_, _, _, _, _, _, _, _, ⟨_, _⟩, ⟨_, _⟩, ⟨_, _⟩⟩
  simp [and_assoc]
theorem rest1 {e : Ev} (h : e.op = 1) : evRest e = (nameOk e.kind && (e.into == [] && (e.slot == [] && (e.key == [] && (e.val == [] && zerosB e))))) := by
  unfold evRest zerosB; rw [if_pos h, dec_ev]; simp
theorem rest2 {e : Ev} (h : e.op = 2) : evRest e = ((nameOk e.into && nameOk e.slot && !(e.into == e.part)) && (e.kind == [] && (e.key == [] && (e.val == [] && zerosB e)))) := by
  unfold evRest zerosB; rw [if_neg (by omega), if_pos h, dec_ev]; simp
theorem rest4 {e : Ev} (h : e.op = 4) : evRest e = ((ivOk e.km && ivOk e.cy && ivOk e.ld) && (e.kind == [] && (e.into == [] && (e.slot == [] && (e.key == [] && e.val == []))))) := by
  unfold evRest; rw [if_neg (by omega), if_neg (by omega), if_pos h, dec_ev]; simp
theorem rest6 {e : Ev} (h : e.op = 6) : evRest e = ((nameOk e.key && decide (1 ≤ e.val.length) && decide (e.val.length ≤ 200)) && (e.kind == [] && (e.into == [] && (e.slot == [] && zerosB e)))) := by
  unfold evRest zerosB; rw [if_neg (by omega), if_neg (by omega), if_neg (by omega), if_pos h, dec_ev]; simp
theorem rest0 {e : Ev} (h1 : e.op ≠ 1) (h2 : e.op ≠ 2) (h4 : e.op ≠ 4) (h6 : e.op ≠ 6) : evRest e = (e.kind == [] && (e.into == [] && (e.slot == [] && (e.key == [] && (e.val == [] && zerosB e))))) := by
  unfold evRest zerosB; rw [if_neg h1, if_neg h2, if_neg h4, if_neg h6, dec_ev]; simp
theorem val_nil (s : List UInt8) : (s == []) = !decide (1 ≤ s.length) := by cases s <;> simp
theorem sh_all {e : Ev} (h : e.sh = true) : e.part.length ≤ 300 ∧ e.kind.length ≤ 300 ∧ e.into.length ≤ 300 ∧ e.slot.length ≤ 300 ∧ e.key.length ≤ 300 ∧ e.val.length ≤ 300 := by
  simp only [Ev.sh, Bool.and_eq_true, decide_eq_true_eq] at h
  obtain ⟨⟨⟨⟨⟨s1, s2⟩, s3⟩, s4⟩, s5⟩, s6⟩ := h
  exact ⟨s1, s2, s3, s4, s5, s6⟩
set_option maxHeartbeats 4000000 in
theorem evalid_p (e : Ev) (hs : e.sh = true) : Pur M 45 [evD e] (.bool (evOk e)) := by
  obtain ⟨s1, s2, s3, s4, s5, s6⟩ := sh_all hs
  have r1 := rest1 (e := e)
  have r2 := rest2 (e := e)
  have r4 := rest4 (e := e)
  have r6 := rest6 (e := e)
  have r0 := rest0 (e := e)
  have hok : evOk e = (decide (1 ≤ e.op) && decide (e.op ≤ 7) && decide (0 ≤ e.day) && decide (e.day ≤ 40000) && nameOk e.part && evRest e) := rfl
  have ci := ivs_e e
  unfold zerosB at r1 r2 r6 r0
  rw [hok]
  clear hok hs
  unfold evD
  unfold Ev.cells at *
  have c0 := eword_p e.op
  have c1 := name_p e.part (by omega)
  have hw := wordT_nil e.op
  generalize evRest e = rr at *
  generalize wordT e.op = wt at *
  have k1 := containsN [e.kind] (by simp) (by intro s hs; simp at hs; subst hs; exact s2)
  have k2 := containsN [e.into, e.slot] (by simp) (by intro s hs; simp at hs; rcases hs with rfl | rfl <;> assumption)
  have k6 := containsN [e.key] (by simp) (by intro s hs; simp at hs; subst hs; exact s5)
  have k0 := containsN [] (by simp) (by simp)
  have hv := val_nil e.val
  simp only [strs, List.map_cons, List.map_nil, List.all_cons, List.all_nil, Bool.and_true] at k0 k1 k2 k6
  generalize e.op = op at *
  generalize e.day = day at *
  generalize e.part = part at *
  generalize e.kind = kind at *
  generalize e.into = into at *
  generalize e.slot = slot at *
  generalize e.key = key at *
  generalize e.val = val at *
  refine ok45 rfl ?_
  rw [i45]
  unfold c45
  generalize nameOk part = np at *
  by_cases ho : 1 ≤ op ∧ op ≤ 7
  · have t0 : (wt == []) = false := by rw [hw]; simp [ho.1, ho.2]
    by_cases hd : 0 ≤ day ∧ day ≤ 40000
    · have t1 : decide (day < 0) = false := by simp; omega
      have t2 : decide (day > 40000) = false := by simp; omega
      have e1 : (decide (1 ≤ op) && decide (op ≤ 7) && decide (0 ≤ day) && decide (day ≤ 40000)) = true := by simp [ho.1, ho.2, hd.1, hd.2]
      rw [e1]
      cases np
      · repeat' (first
    | with_reducible first | apply swp_seq | apply swp_reg | apply swp_regD | apply swp_block | apply swp_exit | apply swp_ret | apply swp_skip | apply swp_cd
    | simp only [go_sem, seval, P45, q45, t0, t1, t2]
    | ((with_reducible refine o_call (c0) ?he ?hc ?_); (case he | hc => first | rfl | (simp [D.erL, D.er, D.closedL, D.closed]; done)))
    | ((with_reducible refine o_call (c1) ?he ?hc ?_); (case he | hc => first | rfl | (simp [D.erL, D.er, D.closedL, D.closed]; done)))
    | ((with_reducible apply s_bsl); (case he | hl | hc => first | rfl | assumption | omega | ((first | refine ⟨?_, ?_⟩ | skip) <;> first | omega | (simp only [lN] <;> omega)) | (simp [elemsK, D.isVal, D.cells, D.closedL, D.closed]; first | done | omega)))
    | with_reducible first | apply cd_dec | apply cd_eq | apply cd_ne | apply cd_split | apply gd_dec | apply gd_eq | apply gd_ne | apply gd_split | apply gq_dec | apply gq_eq | apply gq_ne | apply gq_split
    | ((with_reducible refine And.intro ?hw ?_); (case hw => first | omega | rfl | exact ⟨_, _, rfl⟩ | assumption | (simp only [lN] <;> omega)))
    | with_reducible intro _)
        all_goals simp [D.closed, D.er]
      · have ho7 : op = 1 ∨ op = 2 ∨ op = 3 ∨ op = 4 ∨ op = 5 ∨ op = 6 ∨ op = 7 := by omega
        simp only [Bool.true_and]
        rcases ho7 with rfl | rfl | rfl | rfl | rfl | rfl | rfl
        · rw [r1 rfl]
          generalize hb3 : (into == []) = b3 at *
          generalize hb4 : (slot == []) = b4 at *
          generalize hb5 : (key == []) = b5 at *
          generalize hb6 : (val == []) = b6 at *
          generalize hz : (e.km.low == 0 && (e.km.high == 0 && (e.cy.low == 0 && (e.cy.high == 0 && (e.ld.low == 0 && e.ld.high == 0))))) = z at *
          generalize nameOk kind = nk at *
          repeat' (first
    | with_reducible first | apply swp_seq | apply swp_reg | apply swp_regD | apply swp_block | apply swp_exit | apply swp_ret | apply swp_skip | apply swp_cd
    | simp only [go_sem, seval, P45, q45, t0, t1, t2, hb3, hb4, hb5, hb6, hz, beq_self_eq_true, Bool.true_and]
    | ((with_reducible refine o_call (c0) ?he ?hc ?_); (case he | hc => first | rfl | (simp [D.erL, D.er, D.closedL, D.closed]; done)))
    | ((with_reducible refine o_call (c1) ?he ?hc ?_); (case he | hc => first | rfl | (simp [D.erL, D.er, D.closedL, D.closed]; done)))
    | ((with_reducible refine o_call (k1) ?he ?hc ?_); (case he | hc => first | rfl | (simp [D.erL, D.er, D.closedL, D.closed]; done)))
    | ((with_reducible apply s_bsl); (case he | hl | hc => first | rfl | assumption | omega | ((first | refine ⟨?_, ?_⟩ | skip) <;> first | omega | (simp only [lN] <;> omega)) | (simp [elemsK, D.isVal, D.cells, D.closedL, D.closed]; first | done | omega)))
    | with_reducible first | apply cd_dec | apply cd_eq | apply cd_ne | apply cd_split | apply gd_dec | apply gd_eq | apply gd_ne | apply gd_split | apply gq_dec | apply gq_eq | apply gq_ne | apply gq_split
    | ((with_reducible refine And.intro ?hw ?_); (case hw => first | omega | rfl | exact ⟨_, _, rfl⟩ | assumption | (simp only [lN] <;> omega)))
    | with_reducible intro _)
          all_goals (rename_i hh; simp [D.closed, D.er, hh])
        · rw [r2 rfl]
          generalize hb3 : (kind == []) = b3 at *
          generalize hb5 : (key == []) = b5 at *
          generalize hb6 : (val == []) = b6 at *
          generalize hb7 : (into == part) = b7 at *
          generalize hz : (e.km.low == 0 && (e.km.high == 0 && (e.cy.low == 0 && (e.cy.high == 0 && (e.ld.low == 0 && e.ld.high == 0))))) = z at *
          generalize nameOk into = nk at *
          generalize nameOk slot = nl at *
          cases b7
          · repeat' (first
    | with_reducible first | apply swp_seq | apply swp_reg | apply swp_regD | apply swp_block | apply swp_exit | apply swp_ret | apply swp_skip | apply swp_cd
    | simp only [go_sem, seval, P45, q45, t0, t1, t2, hb3, hb5, hb6, hb7, hz, beq_self_eq_true, Bool.true_and]
    | ((with_reducible refine o_call (c0) ?he ?hc ?_); (case he | hc => first | rfl | (simp [D.erL, D.er, D.closedL, D.closed]; done)))
    | ((with_reducible refine o_call (c1) ?he ?hc ?_); (case he | hc => first | rfl | (simp [D.erL, D.er, D.closedL, D.closed]; done)))
    | ((with_reducible refine o_call (k2) ?he ?hc ?_); (case he | hc => first | rfl | (simp [D.erL, D.er, D.closedL, D.closed]; done)))
    | ((with_reducible apply s_bsl); (case he | hl | hc => first | rfl | assumption | omega | ((first | refine ⟨?_, ?_⟩ | skip) <;> first | omega | (simp only [lN] <;> omega)) | (simp [elemsK, D.isVal, D.cells, D.closedL, D.closed]; first | done | omega)))
    | with_reducible first | apply cd_dec | apply cd_eq | apply cd_ne | apply cd_split | apply gd_dec | apply gd_eq | apply gd_ne | apply gd_split | apply gq_dec | apply gq_eq | apply gq_ne | apply gq_split
    | ((with_reducible refine And.intro ?hw ?_); (case hw => first | omega | rfl | exact ⟨_, _, rfl⟩ | assumption | (simp only [lN] <;> omega)))
    | with_reducible intro _)
            all_goals (rename_i hh; simp [D.closed, D.er, hh])
          · repeat' (first
    | with_reducible first | apply swp_seq | apply swp_reg | apply swp_regD | apply swp_block | apply swp_exit | apply swp_ret | apply swp_skip | apply swp_cd
    | simp only [go_sem, seval, P45, q45, t0, t1, t2, hb3, hb5, hb6, hb7, hz, beq_self_eq_true, Bool.true_and]
    | ((with_reducible refine o_call (c0) ?he ?hc ?_); (case he | hc => first | rfl | (simp [D.erL, D.er, D.closedL, D.closed]; done)))
    | ((with_reducible refine o_call (c1) ?he ?hc ?_); (case he | hc => first | rfl | (simp [D.erL, D.er, D.closedL, D.closed]; done)))
    | ((with_reducible refine o_call (k2) ?he ?hc ?_); (case he | hc => first | rfl | (simp [D.erL, D.er, D.closedL, D.closed]; done)))
    | ((with_reducible apply s_bsl); (case he | hl | hc => first | rfl | assumption | omega | ((first | refine ⟨?_, ?_⟩ | skip) <;> first | omega | (simp only [lN] <;> omega)) | (simp [elemsK, D.isVal, D.cells, D.closedL, D.closed]; first | done | omega)))
    | with_reducible first | apply cd_dec | apply cd_eq | apply cd_ne | apply cd_split | apply gd_dec | apply gd_eq | apply gd_ne | apply gd_split | apply gq_dec | apply gq_eq | apply gq_ne | apply gq_split
    | ((with_reducible refine And.intro ?hw ?_); (case hw => first | omega | rfl | exact ⟨_, _, rfl⟩ | assumption | (simp only [lN] <;> omega)))
    | with_reducible intro _)
            all_goals simp [D.closed, D.er]
        · rw [r0 (by decide) (by decide) (by decide) (by decide)]
          generalize hb2 : (kind == []) = b2 at *
          generalize hb3 : (into == []) = b3 at *
          generalize hb4 : (slot == []) = b4 at *
          generalize hb5 : (key == []) = b5 at *
          generalize hb6 : (val == []) = b6 at *
          generalize hz : (e.km.low == 0 && (e.km.high == 0 && (e.cy.low == 0 && (e.cy.high == 0 && (e.ld.low == 0 && e.ld.high == 0))))) = z at *
          repeat' (first
    | with_reducible first | apply swp_seq | apply swp_reg | apply swp_regD | apply swp_block | apply swp_exit | apply swp_ret | apply swp_skip | apply swp_cd
    | simp only [go_sem, seval, P45, q45, t0, t1, t2, hb2, hb3, hb4, hb5, hb6, hz, beq_self_eq_true, Bool.true_and]
    | ((with_reducible refine o_call (c0) ?he ?hc ?_); (case he | hc => first | rfl | (simp [D.erL, D.er, D.closedL, D.closed]; done)))
    | ((with_reducible refine o_call (c1) ?he ?hc ?_); (case he | hc => first | rfl | (simp [D.erL, D.er, D.closedL, D.closed]; done)))
    | ((with_reducible refine o_call (k0) ?he ?hc ?_); (case he | hc => first | rfl | (simp [D.erL, D.er, D.closedL, D.closed]; done)))
    | ((with_reducible apply s_bsl); (case he | hl | hc => first | rfl | assumption | omega | ((first | refine ⟨?_, ?_⟩ | skip) <;> first | omega | (simp only [lN] <;> omega)) | (simp [elemsK, D.isVal, D.cells, D.closedL, D.closed]; first | done | omega)))
    | with_reducible first | apply cd_dec | apply cd_eq | apply cd_ne | apply cd_split | apply gd_dec | apply gd_eq | apply gd_ne | apply gd_split | apply gq_dec | apply gq_eq | apply gq_ne | apply gq_split
    | ((with_reducible refine And.intro ?hw ?_); (case hw => first | omega | rfl | exact ⟨_, _, rfl⟩ | assumption | (simp only [lN] <;> omega)))
    | with_reducible intro _)
          all_goals (rename_i hh; simp [D.closed, D.er, hh])
        · rw [r4 rfl]
          generalize hb2 : (kind == []) = b2 at *
          generalize hb3 : (into == []) = b3 at *
          generalize hb4 : (slot == []) = b4 at *
          generalize hb5 : (key == []) = b5 at *
          generalize hb6 : (val == []) = b6 at *
          clear r1 r2 r4 r6 r0
          rcases e with ⟨q0, q1, q2, q3, q4, q5, q6, q7, ⟨u1, u2⟩, ⟨u3, u4⟩, ⟨u5, u6⟩⟩
          simp only at ci ⊢
          repeat' (first
    | with_reducible first | apply swp_seq | apply swp_reg | apply swp_regD | apply swp_block | apply swp_exit | apply swp_ret | apply swp_skip | apply swp_cd
    | simp only [go_sem, seval, P45, q45, t0, t1, t2]
    | ((with_reducible refine o_call (c0) ?he ?hc ?_); (case he | hc => first | rfl | (simp [D.erL, D.er, D.closedL, D.closed, D.rnL, D.rn, posF, Hp.sel, Blk.rnL, Blk.rn, Tv.rnL, idx, Hp.back, putAt, bakF]; done)))
    | ((with_reducible refine o_call (c1) ?he ?hc ?_); (case he | hc => first | rfl | (simp [D.erL, D.er, D.closedL, D.closed, D.rnL, D.rn, posF, Hp.sel, Blk.rnL, Blk.rn, Tv.rnL, idx, Hp.back, putAt, bakF]; done)))
    | ((with_reducible refine o_eff [0] [] (ci) ?hs ?he ?hh ?_); (case hs => exact ⟨by simp, by simp, by simp, by simp⟩); (case he => first | rfl | (simp [go_sem, seval, D.rnL, D.rn, posF, Hp.sel, Blk.rnL, Blk.rn, Tv.rnL, idx, Hp.back, putAt, bakF]; done)); (case hh => first | rfl | (simp [go_sem, seval, D.rnL, D.rn, posF, Hp.sel, Blk.rnL, Blk.rn, Tv.rnL, idx, Hp.back, putAt, bakF]; done)); rintro _ _ ⟨rfl, rfl⟩)
    | ((with_reducible apply s_bsl); (case he | hl | hc => first | rfl | assumption | omega | ((first | refine ⟨?_, ?_⟩ | skip) <;> first | omega | (simp only [lN, D.rnL, D.rn, posF, Hp.sel, Blk.rnL, Blk.rn, Tv.rnL, idx, Hp.back, putAt, bakF] <;> omega)) | (simp [elemsK, D.isVal, D.cells, D.closedL, D.closed, D.rnL, D.rn, posF, Hp.sel, Blk.rnL, Blk.rn, Tv.rnL, idx, Hp.back, putAt, bakF]; first | done | omega)))
    | with_reducible first | apply cd_dec | apply cd_eq | apply cd_ne | apply cd_split | apply gd_dec | apply gd_eq | apply gd_ne | apply gd_split | apply gq_dec | apply gq_eq | apply gq_ne | apply gq_split
    | ((with_reducible refine And.intro ?hw ?_); (case hw => first | omega | rfl | exact ⟨_, _, rfl⟩ | assumption | (simp only [lN, D.rnL, D.rn, posF, Hp.sel, Blk.rnL, Blk.rn, Tv.rnL, idx, Hp.back, putAt, bakF] <;> omega)))
    | with_reducible intro _)
          refine swp_fam [1, 3, 4, 14, 15] (fun i : Nat => ⟨[.undef, .ptr 0 0, .undef, .slice [] .full, .ptr 1 0, .undef, .undef, .undef, .undef, .undef, .undef, .undef, .undef, .undef, .agg [.ptr 0 8, .ptr 0 10, .ptr 0 12], .int .i64 i, .undef, .undef], [], ⟨[.cells [.int .i64 4, .int .i64 day, .str part, .str kind, .str into, .str slot, .str key, .str val, .int .i64 u1, .int .i64 u2, .int .i64 u3, .int .i64 u4, .int .i64 u5, .int .i64 u6], .cells [.int .i64 0, .int .i64 0, .str [], .str kind, .str into, .str slot, .str key, .str val, .int .i64 u1, .int .i64 u2, .int .i64 u3, .int .i64 u4, .int .i64 u5, .int .i64 u6]], []⟩⟩)
            (fun i => i ≤ 3 ∧ (1 ≤ i → ivOk ⟨u1, u2⟩ = true) ∧ (2 ≤ i → ivOk ⟨u3, u4⟩ = true) ∧ (3 ≤ i → ivOk ⟨u5, u6⟩ = true)) (fun i => 3 - i) 0 ⟨by omega, by omega, by omega, by omega⟩ ?_ ?_
          · simp [keepE, St.keep]
          · rintro i ⟨h1, h2, h3, h4⟩
            have hi : i = 0 ∨ i = 1 ∨ i = 2 ∨ i = 3 := by omega
            have iok : ∀ a b : Int, ivOk ⟨a, b⟩ = (!(decide (a < 0)) && !(decide (a > b)) && !(decide (b > 1000000))) := fun a b => by
              unfold ivOk
              congr 1
              · congr 1 <;> (rw [Bool.eq_iff_iff]; simp <;> omega)
              · rw [Bool.eq_iff_iff]; simp <;> omega
            rcases hi with rfl | rfl | rfl | rfl
            · have k := iok u1 u2
              generalize hx1 : decide (u1 < 0) = x1 at *
              generalize hx2 : decide (u1 > u2) = x2 at *
              generalize hx3 : decide (u2 > 1000000) = x3 at *
              cases x1
              · cases x2
                · cases x3
                  · simp only [Bool.not_true, Bool.not_false, Bool.true_and, Bool.and_true, Bool.false_and, Bool.and_false] at k
                    repeat' (first
    | with_reducible first | apply swp_seq | apply swp_reg | apply swp_regD | apply swp_block | apply swp_exit | apply swp_ret | apply swp_skip | apply swp_cd
    | simp only [go_sem, seval, P45, q45, hx1, hx2, hx3, nc0, nc1, nc2, nc3, o_ixvF, Nat.mul_one]
    | simp (disch := omega) only [w64, w32, wu8, wu16, wu32, wu64]
    | ((with_reducible apply s_bsl); (case he | hl | hc => first | rfl | assumption | omega | ((first | refine ⟨?_, ?_⟩ | skip) <;> first | omega | (simp only [lN] <;> omega)) | (simp [elemsK, D.isVal, D.cells, D.closedL, D.closed]; first | done | omega)))
    | with_reducible first | apply cd_dec | apply cd_eq | apply cd_ne | apply cd_split | apply gd_dec | apply gd_eq | apply gd_ne | apply gd_split | apply gq_dec | apply gq_eq | apply gq_ne | apply gq_split
    | ((with_reducible refine And.intro ?hw ?_); (case hw => first | omega | rfl | exact ⟨_, _, rfl⟩ | assumption | (simp only [lN] <;> omega)))
    | with_reducible intro _)
                    all_goals first | omega | skip
                    refine ⟨1, ⟨by omega, fun _ => k, by omega, by omega⟩, by omega, ?_⟩
                    simp [keepE, St.keep]
                  · simp only [Bool.not_true, Bool.not_false, Bool.true_and, Bool.and_true, Bool.false_and, Bool.and_false] at k
                    rw [k]
                    repeat' (first
    | with_reducible first | apply swp_seq | apply swp_reg | apply swp_regD | apply swp_block | apply swp_exit | apply swp_ret | apply swp_skip | apply swp_cd
    | simp only [go_sem, seval, P45, q45, hx1, hx2, hx3, nc0, nc1, nc2, nc3, o_ixvF, Nat.mul_one]
    | simp (disch := omega) only [w64, w32, wu8, wu16, wu32, wu64]
    | ((with_reducible apply s_bsl); (case he | hl | hc => first | rfl | assumption | omega | ((first | refine ⟨?_, ?_⟩ | skip) <;> first | omega | (simp only [lN] <;> omega)) | (simp [elemsK, D.isVal, D.cells, D.closedL, D.closed]; first | done | omega)))
    | with_reducible first | apply cd_dec | apply cd_eq | apply cd_ne | apply cd_split | apply gd_dec | apply gd_eq | apply gd_ne | apply gd_split | apply gq_dec | apply gq_eq | apply gq_ne | apply gq_split
    | ((with_reducible refine And.intro ?hw ?_); (case hw => first | omega | rfl | exact ⟨_, _, rfl⟩ | assumption | (simp only [lN] <;> omega)))
    | with_reducible intro _)
                    all_goals first | omega | simp [D.closed, D.er]
                · simp only [Bool.not_true, Bool.not_false, Bool.true_and, Bool.and_true, Bool.false_and, Bool.and_false] at k
                  rw [k]
                  repeat' (first
    | with_reducible first | apply swp_seq | apply swp_reg | apply swp_regD | apply swp_block | apply swp_exit | apply swp_ret | apply swp_skip | apply swp_cd
    | simp only [go_sem, seval, P45, q45, hx1, hx2, nc0, nc1, nc2, nc3, o_ixvF, Nat.mul_one]
    | simp (disch := omega) only [w64, w32, wu8, wu16, wu32, wu64]
    | ((with_reducible apply s_bsl); (case he | hl | hc => first | rfl | assumption | omega | ((first | refine ⟨?_, ?_⟩ | skip) <;> first | omega | (simp only [lN] <;> omega)) | (simp [elemsK, D.isVal, D.cells, D.closedL, D.closed]; first | done | omega)))
    | with_reducible first | apply cd_dec | apply cd_eq | apply cd_ne | apply cd_split | apply gd_dec | apply gd_eq | apply gd_ne | apply gd_split | apply gq_dec | apply gq_eq | apply gq_ne | apply gq_split
    | ((with_reducible refine And.intro ?hw ?_); (case hw => first | omega | rfl | exact ⟨_, _, rfl⟩ | assumption | (simp only [lN] <;> omega)))
    | with_reducible intro _)
                  all_goals first | omega | simp [D.closed, D.er]
              · simp only [Bool.not_true, Bool.not_false, Bool.true_and, Bool.and_true, Bool.false_and, Bool.and_false] at k
                rw [k]
                repeat' (first
    | with_reducible first | apply swp_seq | apply swp_reg | apply swp_regD | apply swp_block | apply swp_exit | apply swp_ret | apply swp_skip | apply swp_cd
    | simp only [go_sem, seval, P45, q45, hx1, nc0, nc1, nc2, nc3, o_ixvF, Nat.mul_one]
    | simp (disch := omega) only [w64, w32, wu8, wu16, wu32, wu64]
    | ((with_reducible apply s_bsl); (case he | hl | hc => first | rfl | assumption | omega | ((first | refine ⟨?_, ?_⟩ | skip) <;> first | omega | (simp only [lN] <;> omega)) | (simp [elemsK, D.isVal, D.cells, D.closedL, D.closed]; first | done | omega)))
    | with_reducible first | apply cd_dec | apply cd_eq | apply cd_ne | apply cd_split | apply gd_dec | apply gd_eq | apply gd_ne | apply gd_split | apply gq_dec | apply gq_eq | apply gq_ne | apply gq_split
    | ((with_reducible refine And.intro ?hw ?_); (case hw => first | omega | rfl | exact ⟨_, _, rfl⟩ | assumption | (simp only [lN] <;> omega)))
    | with_reducible intro _)
                all_goals first | omega | simp [D.closed, D.er]
            · have k := iok u3 u4
              generalize hx1 : decide (u3 < 0) = x1 at *
              generalize hx2 : decide (u3 > u4) = x2 at *
              generalize hx3 : decide (u4 > 1000000) = x3 at *
              cases x1
              · cases x2
                · cases x3
                  · simp only [Bool.not_true, Bool.not_false, Bool.true_and, Bool.and_true, Bool.false_and, Bool.and_false] at k
                    repeat' (first
    | with_reducible first | apply swp_seq | apply swp_reg | apply swp_regD | apply swp_block | apply swp_exit | apply swp_ret | apply swp_skip | apply swp_cd
    | simp only [go_sem, seval, P45, q45, hx1, hx2, hx3, nc0, nc1, nc2, nc3, o_ixvF, Nat.mul_one]
    | simp (disch := omega) only [w64, w32, wu8, wu16, wu32, wu64]
    | ((with_reducible apply s_bsl); (case he | hl | hc => first | rfl | assumption | omega | ((first | refine ⟨?_, ?_⟩ | skip) <;> first | omega | (simp only [lN] <;> omega)) | (simp [elemsK, D.isVal, D.cells, D.closedL, D.closed]; first | done | omega)))
    | with_reducible first | apply cd_dec | apply cd_eq | apply cd_ne | apply cd_split | apply gd_dec | apply gd_eq | apply gd_ne | apply gd_split | apply gq_dec | apply gq_eq | apply gq_ne | apply gq_split
    | ((with_reducible refine And.intro ?hw ?_); (case hw => first | omega | rfl | exact ⟨_, _, rfl⟩ | assumption | (simp only [lN] <;> omega)))
    | with_reducible intro _)
                    all_goals first | omega | skip
                    refine ⟨2, ⟨by omega, fun _ => h2 (by omega), fun _ => k, by omega⟩, by omega, ?_⟩
                    simp [keepE, St.keep]
                  · simp only [Bool.not_true, Bool.not_false, Bool.true_and, Bool.and_true, Bool.false_and, Bool.and_false] at k
                    rw [k]
                    repeat' (first
    | with_reducible first | apply swp_seq | apply swp_reg | apply swp_regD | apply swp_block | apply swp_exit | apply swp_ret | apply swp_skip | apply swp_cd
    | simp only [go_sem, seval, P45, q45, hx1, hx2, hx3, nc0, nc1, nc2, nc3, o_ixvF, Nat.mul_one]
    | simp (disch := omega) only [w64, w32, wu8, wu16, wu32, wu64]
    | ((with_reducible apply s_bsl); (case he | hl | hc => first | rfl | assumption | omega | ((first | refine ⟨?_, ?_⟩ | skip) <;> first | omega | (simp only [lN] <;> omega)) | (simp [elemsK, D.isVal, D.cells, D.closedL, D.closed]; first | done | omega)))
    | with_reducible first | apply cd_dec | apply cd_eq | apply cd_ne | apply cd_split | apply gd_dec | apply gd_eq | apply gd_ne | apply gd_split | apply gq_dec | apply gq_eq | apply gq_ne | apply gq_split
    | ((with_reducible refine And.intro ?hw ?_); (case hw => first | omega | rfl | exact ⟨_, _, rfl⟩ | assumption | (simp only [lN] <;> omega)))
    | with_reducible intro _)
                    all_goals first | omega | simp [D.closed, D.er]
                · simp only [Bool.not_true, Bool.not_false, Bool.true_and, Bool.and_true, Bool.false_and, Bool.and_false] at k
                  rw [k]
                  repeat' (first
    | with_reducible first | apply swp_seq | apply swp_reg | apply swp_regD | apply swp_block | apply swp_exit | apply swp_ret | apply swp_skip | apply swp_cd
    | simp only [go_sem, seval, P45, q45, hx1, hx2, nc0, nc1, nc2, nc3, o_ixvF, Nat.mul_one]
    | simp (disch := omega) only [w64, w32, wu8, wu16, wu32, wu64]
    | ((with_reducible apply s_bsl); (case he | hl | hc => first | rfl | assumption | omega | ((first | refine ⟨?_, ?_⟩ | skip) <;> first | omega | (simp only [lN] <;> omega)) | (simp [elemsK, D.isVal, D.cells, D.closedL, D.closed]; first | done | omega)))
    | with_reducible first | apply cd_dec | apply cd_eq | apply cd_ne | apply cd_split | apply gd_dec | apply gd_eq | apply gd_ne | apply gd_split | apply gq_dec | apply gq_eq | apply gq_ne | apply gq_split
    | ((with_reducible refine And.intro ?hw ?_); (case hw => first | omega | rfl | exact ⟨_, _, rfl⟩ | assumption | (simp only [lN] <;> omega)))
    | with_reducible intro _)
                  all_goals first | omega | simp [D.closed, D.er]
              · simp only [Bool.not_true, Bool.not_false, Bool.true_and, Bool.and_true, Bool.false_and, Bool.and_false] at k
                rw [k]
                repeat' (first
    | with_reducible first | apply swp_seq | apply swp_reg | apply swp_regD | apply swp_block | apply swp_exit | apply swp_ret | apply swp_skip | apply swp_cd
    | simp only [go_sem, seval, P45, q45, hx1, nc0, nc1, nc2, nc3, o_ixvF, Nat.mul_one]
    | simp (disch := omega) only [w64, w32, wu8, wu16, wu32, wu64]
    | ((with_reducible apply s_bsl); (case he | hl | hc => first | rfl | assumption | omega | ((first | refine ⟨?_, ?_⟩ | skip) <;> first | omega | (simp only [lN] <;> omega)) | (simp [elemsK, D.isVal, D.cells, D.closedL, D.closed]; first | done | omega)))
    | with_reducible first | apply cd_dec | apply cd_eq | apply cd_ne | apply cd_split | apply gd_dec | apply gd_eq | apply gd_ne | apply gd_split | apply gq_dec | apply gq_eq | apply gq_ne | apply gq_split
    | ((with_reducible refine And.intro ?hw ?_); (case hw => first | omega | rfl | exact ⟨_, _, rfl⟩ | assumption | (simp only [lN] <;> omega)))
    | with_reducible intro _)
                all_goals first | omega | simp [D.closed, D.er]
            · have k := iok u5 u6
              generalize hx1 : decide (u5 < 0) = x1 at *
              generalize hx2 : decide (u5 > u6) = x2 at *
              generalize hx3 : decide (u6 > 1000000) = x3 at *
              cases x1
              · cases x2
                · cases x3
                  · simp only [Bool.not_true, Bool.not_false, Bool.true_and, Bool.and_true, Bool.false_and, Bool.and_false] at k
                    repeat' (first
    | with_reducible first | apply swp_seq | apply swp_reg | apply swp_regD | apply swp_block | apply swp_exit | apply swp_ret | apply swp_skip | apply swp_cd
    | simp only [go_sem, seval, P45, q45, hx1, hx2, hx3, nc0, nc1, nc2, nc3, o_ixvF, Nat.mul_one]
    | simp (disch := omega) only [w64, w32, wu8, wu16, wu32, wu64]
    | ((with_reducible apply s_bsl); (case he | hl | hc => first | rfl | assumption | omega | ((first | refine ⟨?_, ?_⟩ | skip) <;> first | omega | (simp only [lN] <;> omega)) | (simp [elemsK, D.isVal, D.cells, D.closedL, D.closed]; first | done | omega)))
    | with_reducible first | apply cd_dec | apply cd_eq | apply cd_ne | apply cd_split | apply gd_dec | apply gd_eq | apply gd_ne | apply gd_split | apply gq_dec | apply gq_eq | apply gq_ne | apply gq_split
    | ((with_reducible refine And.intro ?hw ?_); (case hw => first | omega | rfl | exact ⟨_, _, rfl⟩ | assumption | (simp only [lN] <;> omega)))
    | with_reducible intro _)
                    all_goals first | omega | skip
                    refine ⟨3, ⟨by omega, fun _ => h2 (by omega), fun _ => h3 (by omega), fun _ => k⟩, by omega, ?_⟩
                    simp [keepE, St.keep]
                  · simp only [Bool.not_true, Bool.not_false, Bool.true_and, Bool.and_true, Bool.false_and, Bool.and_false] at k
                    rw [k]
                    repeat' (first
    | with_reducible first | apply swp_seq | apply swp_reg | apply swp_regD | apply swp_block | apply swp_exit | apply swp_ret | apply swp_skip | apply swp_cd
    | simp only [go_sem, seval, P45, q45, hx1, hx2, hx3, nc0, nc1, nc2, nc3, o_ixvF, Nat.mul_one]
    | simp (disch := omega) only [w64, w32, wu8, wu16, wu32, wu64]
    | ((with_reducible apply s_bsl); (case he | hl | hc => first | rfl | assumption | omega | ((first | refine ⟨?_, ?_⟩ | skip) <;> first | omega | (simp only [lN] <;> omega)) | (simp [elemsK, D.isVal, D.cells, D.closedL, D.closed]; first | done | omega)))
    | with_reducible first | apply cd_dec | apply cd_eq | apply cd_ne | apply cd_split | apply gd_dec | apply gd_eq | apply gd_ne | apply gd_split | apply gq_dec | apply gq_eq | apply gq_ne | apply gq_split
    | ((with_reducible refine And.intro ?hw ?_); (case hw => first | omega | rfl | exact ⟨_, _, rfl⟩ | assumption | (simp only [lN] <;> omega)))
    | with_reducible intro _)
                    all_goals first | omega | simp [D.closed, D.er]
                · simp only [Bool.not_true, Bool.not_false, Bool.true_and, Bool.and_true, Bool.false_and, Bool.and_false] at k
                  rw [k]
                  repeat' (first
    | with_reducible first | apply swp_seq | apply swp_reg | apply swp_regD | apply swp_block | apply swp_exit | apply swp_ret | apply swp_skip | apply swp_cd
    | simp only [go_sem, seval, P45, q45, hx1, hx2, nc0, nc1, nc2, nc3, o_ixvF, Nat.mul_one]
    | simp (disch := omega) only [w64, w32, wu8, wu16, wu32, wu64]
    | ((with_reducible apply s_bsl); (case he | hl | hc => first | rfl | assumption | omega | ((first | refine ⟨?_, ?_⟩ | skip) <;> first | omega | (simp only [lN] <;> omega)) | (simp [elemsK, D.isVal, D.cells, D.closedL, D.closed]; first | done | omega)))
    | with_reducible first | apply cd_dec | apply cd_eq | apply cd_ne | apply cd_split | apply gd_dec | apply gd_eq | apply gd_ne | apply gd_split | apply gq_dec | apply gq_eq | apply gq_ne | apply gq_split
    | ((with_reducible refine And.intro ?hw ?_); (case hw => first | omega | rfl | exact ⟨_, _, rfl⟩ | assumption | (simp only [lN] <;> omega)))
    | with_reducible intro _)
                  all_goals first | omega | simp [D.closed, D.er]
              · simp only [Bool.not_true, Bool.not_false, Bool.true_and, Bool.and_true, Bool.false_and, Bool.and_false] at k
                rw [k]
                repeat' (first
    | with_reducible first | apply swp_seq | apply swp_reg | apply swp_regD | apply swp_block | apply swp_exit | apply swp_ret | apply swp_skip | apply swp_cd
    | simp only [go_sem, seval, P45, q45, hx1, nc0, nc1, nc2, nc3, o_ixvF, Nat.mul_one]
    | simp (disch := omega) only [w64, w32, wu8, wu16, wu32, wu64]
    | ((with_reducible apply s_bsl); (case he | hl | hc => first | rfl | assumption | omega | ((first | refine ⟨?_, ?_⟩ | skip) <;> first | omega | (simp only [lN] <;> omega)) | (simp [elemsK, D.isVal, D.cells, D.closedL, D.closed]; first | done | omega)))
    | with_reducible first | apply cd_dec | apply cd_eq | apply cd_ne | apply cd_split | apply gd_dec | apply gd_eq | apply gd_ne | apply gd_split | apply gq_dec | apply gq_eq | apply gq_ne | apply gq_split
    | ((with_reducible refine And.intro ?hw ?_); (case hw => first | omega | rfl | exact ⟨_, _, rfl⟩ | assumption | (simp only [lN] <;> omega)))
    | with_reducible intro _)
                all_goals first | omega | simp [D.closed, D.er]
            · rw [h2 (by omega), h3 (by omega), h4 (by omega)]
              repeat' (first
    | with_reducible first | apply swp_seq | apply swp_reg | apply swp_regD | apply swp_block | apply swp_exit | apply swp_ret | apply swp_skip | apply swp_cd
    | simp only [go_sem, seval, P45, q45, nc3, t0, t1, t2, hb2, hb3, hb4, hb5, hb6, beq_self_eq_true, Bool.true_and, Bool.and_true]
    | ((with_reducible refine o_call (c0) ?he ?hc ?_); (case he | hc => first | rfl | (simp [D.erL, D.er, D.closedL, D.closed]; done)))
    | ((with_reducible refine o_call (c1) ?he ?hc ?_); (case he | hc => first | rfl | (simp [D.erL, D.er, D.closedL, D.closed]; done)))
    | ((with_reducible refine o_call (k0) ?he ?hc ?_); (case he | hc => first | rfl | (simp [D.erL, D.er, D.closedL, D.closed]; done)))
    | ((with_reducible apply s_bsl); (case he | hl | hc => first | rfl | assumption | omega | ((first | refine ⟨?_, ?_⟩ | skip) <;> first | omega | (simp only [lN] <;> omega)) | (simp [elemsK, D.isVal, D.cells, D.closedL, D.closed]; first | done | omega)))
    | with_reducible first | apply cd_dec | apply cd_eq | apply cd_ne | apply cd_split | apply gd_dec | apply gd_eq | apply gd_ne | apply gd_split | apply gq_dec | apply gq_eq | apply gq_ne | apply gq_split
    | ((with_reducible refine And.intro ?hw ?_); (case hw => first | omega | rfl | exact ⟨_, _, rfl⟩ | assumption | (simp only [lN] <;> omega)))
    | with_reducible intro _)
              all_goals (rename_i hh; simp [D.closed, D.er, hh])
        · rw [r0 (by decide) (by decide) (by decide) (by decide)]
          generalize hb2 : (kind == []) = b2 at *
          generalize hb3 : (into == []) = b3 at *
          generalize hb4 : (slot == []) = b4 at *
          generalize hb5 : (key == []) = b5 at *
          generalize hb6 : (val == []) = b6 at *
          generalize hz : (e.km.low == 0 && (e.km.high == 0 && (e.cy.low == 0 && (e.cy.high == 0 && (e.ld.low == 0 && e.ld.high == 0))))) = z at *
          repeat' (first
    | with_reducible first | apply swp_seq | apply swp_reg | apply swp_regD | apply swp_block | apply swp_exit | apply swp_ret | apply swp_skip | apply swp_cd
    | simp only [go_sem, seval, P45, q45, t0, t1, t2, hb2, hb3, hb4, hb5, hb6, hz, beq_self_eq_true, Bool.true_and]
    | ((with_reducible refine o_call (c0) ?he ?hc ?_); (case he | hc => first | rfl | (simp [D.erL, D.er, D.closedL, D.closed]; done)))
    | ((with_reducible refine o_call (c1) ?he ?hc ?_); (case he | hc => first | rfl | (simp [D.erL, D.er, D.closedL, D.closed]; done)))
    | ((with_reducible refine o_call (k0) ?he ?hc ?_); (case he | hc => first | rfl | (simp [D.erL, D.er, D.closedL, D.closed]; done)))
    | ((with_reducible apply s_bsl); (case he | hl | hc => first | rfl | assumption | omega | ((first | refine ⟨?_, ?_⟩ | skip) <;> first | omega | (simp only [lN] <;> omega)) | (simp [elemsK, D.isVal, D.cells, D.closedL, D.closed]; first | done | omega)))
    | with_reducible first | apply cd_dec | apply cd_eq | apply cd_ne | apply cd_split | apply gd_dec | apply gd_eq | apply gd_ne | apply gd_split | apply gq_dec | apply gq_eq | apply gq_ne | apply gq_split
    | ((with_reducible refine And.intro ?hw ?_); (case hw => first | omega | rfl | exact ⟨_, _, rfl⟩ | assumption | (simp only [lN] <;> omega)))
    | with_reducible intro _)
          all_goals (rename_i hh; simp [D.closed, D.er, hh])
        · rw [r6 rfl]
          generalize hb2 : (kind == []) = b2 at *
          generalize hb3 : (into == []) = b3 at *
          generalize hb4 : (slot == []) = b4 at *
          generalize hz : (e.km.low == 0 && (e.km.high == 0 && (e.cy.low == 0 && (e.cy.high == 0 && (e.ld.low == 0 && e.ld.high == 0))))) = z at *
          generalize nameOk key = nk at *
          by_cases v1 : 1 ≤ val.length
          · rw [decide_eq_true v1] at hv ⊢
            by_cases v2 : val.length ≤ 200
            · have t3 : decide (((val.length : Nat) : Int) > 200) = false := by simp; omega
              rw [decide_eq_true v2]
              repeat' (first
    | with_reducible first | apply swp_seq | apply swp_reg | apply swp_regD | apply swp_block | apply swp_exit | apply swp_ret | apply swp_skip | apply swp_cd
    | simp only [go_sem, seval, P45, q45, t0, t1, t2, t3, hv, Bool.not_true, hb2, hb3, hb4, hz, beq_self_eq_true, Bool.true_and]
    | ((with_reducible refine o_call (c0) ?he ?hc ?_); (case he | hc => first | rfl | (simp [D.erL, D.er, D.closedL, D.closed]; done)))
    | ((with_reducible refine o_call (c1) ?he ?hc ?_); (case he | hc => first | rfl | (simp [D.erL, D.er, D.closedL, D.closed]; done)))
    | ((with_reducible refine o_call (k6) ?he ?hc ?_); (case he | hc => first | rfl | (simp [D.erL, D.er, D.closedL, D.closed]; done)))
    | ((with_reducible apply s_bsl); (case he | hl | hc => first | rfl | assumption | omega | ((first | refine ⟨?_, ?_⟩ | skip) <;> first | omega | (simp only [lN] <;> omega)) | (simp [elemsK, D.isVal, D.cells, D.closedL, D.closed]; first | done | omega)))
    | with_reducible first | apply cd_dec | apply cd_eq | apply cd_ne | apply cd_split | apply gd_dec | apply gd_eq | apply gd_ne | apply gd_split | apply gq_dec | apply gq_eq | apply gq_ne | apply gq_split
    | ((with_reducible refine And.intro ?hw ?_); (case hw => first | omega | rfl | exact ⟨_, _, rfl⟩ | assumption | (simp only [lN] <;> omega)))
    | with_reducible intro _)
              all_goals (rename_i hh; simp [D.closed, D.er, hh])
            · have t3 : decide (((val.length : Nat) : Int) > 200) = true := by simp; omega
              rw [decide_eq_false v2]
              repeat' (first
    | with_reducible first | apply swp_seq | apply swp_reg | apply swp_regD | apply swp_block | apply swp_exit | apply swp_ret | apply swp_skip | apply swp_cd
    | simp only [go_sem, seval, P45, q45, t0, t1, t2, t3, hv, Bool.not_true, hb2, hb3, hb4, hz, beq_self_eq_true, Bool.true_and]
    | ((with_reducible refine o_call (c0) ?he ?hc ?_); (case he | hc => first | rfl | (simp [D.erL, D.er, D.closedL, D.closed]; done)))
    | ((with_reducible refine o_call (c1) ?he ?hc ?_); (case he | hc => first | rfl | (simp [D.erL, D.er, D.closedL, D.closed]; done)))
    | ((with_reducible refine o_call (k6) ?he ?hc ?_); (case he | hc => first | rfl | (simp [D.erL, D.er, D.closedL, D.closed]; done)))
    | ((with_reducible apply s_bsl); (case he | hl | hc => first | rfl | assumption | omega | ((first | refine ⟨?_, ?_⟩ | skip) <;> first | omega | (simp only [lN] <;> omega)) | (simp [elemsK, D.isVal, D.cells, D.closedL, D.closed]; first | done | omega)))
    | with_reducible first | apply cd_dec | apply cd_eq | apply cd_ne | apply cd_split | apply gd_dec | apply gd_eq | apply gd_ne | apply gd_split | apply gq_dec | apply gq_eq | apply gq_ne | apply gq_split
    | ((with_reducible refine And.intro ?hw ?_); (case hw => first | omega | rfl | exact ⟨_, _, rfl⟩ | assumption | (simp only [lN] <;> omega)))
    | with_reducible intro _)
              all_goals simp [D.closed, D.er]
          · rw [decide_eq_false v1] at hv ⊢
            repeat' (first
    | with_reducible first | apply swp_seq | apply swp_reg | apply swp_regD | apply swp_block | apply swp_exit | apply swp_ret | apply swp_skip | apply swp_cd
    | simp only [go_sem, seval, P45, q45, t0, t1, t2, hv, Bool.not_false, hb2, hb3, hb4, hz, beq_self_eq_true, Bool.true_and]
    | ((with_reducible refine o_call (c0) ?he ?hc ?_); (case he | hc => first | rfl | (simp [D.erL, D.er, D.closedL, D.closed]; done)))
    | ((with_reducible refine o_call (c1) ?he ?hc ?_); (case he | hc => first | rfl | (simp [D.erL, D.er, D.closedL, D.closed]; done)))
    | ((with_reducible refine o_call (k6) ?he ?hc ?_); (case he | hc => first | rfl | (simp [D.erL, D.er, D.closedL, D.closed]; done)))
    | ((with_reducible apply s_bsl); (case he | hl | hc => first | rfl | assumption | omega | ((first | refine ⟨?_, ?_⟩ | skip) <;> first | omega | (simp only [lN] <;> omega)) | (simp [elemsK, D.isVal, D.cells, D.closedL, D.closed]; first | done | omega)))
    | with_reducible first | apply cd_dec | apply cd_eq | apply cd_ne | apply cd_split | apply gd_dec | apply gd_eq | apply gd_ne | apply gd_split | apply gq_dec | apply gq_eq | apply gq_ne | apply gq_split
    | ((with_reducible refine And.intro ?hw ?_); (case hw => first | omega | rfl | exact ⟨_, _, rfl⟩ | assumption | (simp only [lN] <;> omega)))
    | with_reducible intro _)
            all_goals simp [D.closed, D.er]
        · rw [r0 (by decide) (by decide) (by decide) (by decide)]
          generalize hb2 : (kind == []) = b2 at *
          generalize hb3 : (into == []) = b3 at *
          generalize hb4 : (slot == []) = b4 at *
          generalize hb5 : (key == []) = b5 at *
          generalize hb6 : (val == []) = b6 at *
          generalize hz : (e.km.low == 0 && (e.km.high == 0 && (e.cy.low == 0 && (e.cy.high == 0 && (e.ld.low == 0 && e.ld.high == 0))))) = z at *
          repeat' (first
    | with_reducible first | apply swp_seq | apply swp_reg | apply swp_regD | apply swp_block | apply swp_exit | apply swp_ret | apply swp_skip | apply swp_cd
    | simp only [go_sem, seval, P45, q45, t0, t1, t2, hb2, hb3, hb4, hb5, hb6, hz, beq_self_eq_true, Bool.true_and]
    | ((with_reducible refine o_call (c0) ?he ?hc ?_); (case he | hc => first | rfl | (simp [D.erL, D.er, D.closedL, D.closed]; done)))
    | ((with_reducible refine o_call (c1) ?he ?hc ?_); (case he | hc => first | rfl | (simp [D.erL, D.er, D.closedL, D.closed]; done)))
    | ((with_reducible refine o_call (k0) ?he ?hc ?_); (case he | hc => first | rfl | (simp [D.erL, D.er, D.closedL, D.closed]; done)))
    | ((with_reducible apply s_bsl); (case he | hl | hc => first | rfl | assumption | omega | ((first | refine ⟨?_, ?_⟩ | skip) <;> first | omega | (simp only [lN] <;> omega)) | (simp [elemsK, D.isVal, D.cells, D.closedL, D.closed]; first | done | omega)))
    | with_reducible first | apply cd_dec | apply cd_eq | apply cd_ne | apply cd_split | apply gd_dec | apply gd_eq | apply gd_ne | apply gd_split | apply gq_dec | apply gq_eq | apply gq_ne | apply gq_split
    | ((with_reducible refine And.intro ?hw ?_); (case hw => first | omega | rfl | exact ⟨_, _, rfl⟩ | assumption | (simp only [lN] <;> omega)))
    | with_reducible intro _)
          all_goals (rename_i hh; simp [D.closed, D.er, hh])
    · have e1 : (decide (1 ≤ op) && decide (op ≤ 7) && decide (0 ≤ day) && decide (day ≤ 40000)) = false := by
        rw [Bool.and_assoc]
        have : (decide (0 ≤ day) && decide (day ≤ 40000)) = false := by rw [Bool.eq_false_iff]; simp; omega
        rw [this, Bool.and_false]
      rw [e1]
      by_cases hd0 : day < 0
      · have t1 : decide (day < 0) = true := by simp; omega
        repeat' (first
    | with_reducible first | apply swp_seq | apply swp_reg | apply swp_regD | apply swp_block | apply swp_exit | apply swp_ret | apply swp_skip | apply swp_cd
    | simp only [go_sem, seval, P45, q45, t0, t1]
    | ((with_reducible refine o_call (c0) ?he ?hc ?_); (case he | hc => first | rfl | (simp [D.erL, D.er, D.closedL, D.closed]; done)))
    | ((with_reducible refine o_call (c1) ?he ?hc ?_); (case he | hc => first | rfl | (simp [D.erL, D.er, D.closedL, D.closed]; done)))
    | ((with_reducible apply s_bsl); (case he | hl | hc => first | rfl | assumption | omega | ((first | refine ⟨?_, ?_⟩ | skip) <;> first | omega | (simp only [lN] <;> omega)) | (simp [elemsK, D.isVal, D.cells, D.closedL, D.closed]; first | done | omega)))
    | with_reducible first | apply cd_dec | apply cd_eq | apply cd_ne | apply cd_split | apply gd_dec | apply gd_eq | apply gd_ne | apply gd_split | apply gq_dec | apply gq_eq | apply gq_ne | apply gq_split
    | ((with_reducible refine And.intro ?hw ?_); (case hw => first | omega | rfl | exact ⟨_, _, rfl⟩ | assumption | (simp only [lN] <;> omega)))
    | with_reducible intro _)
        all_goals simp [D.closed, D.er]
      · have t1 : decide (day < 0) = false := by simp; omega
        have t2 : decide (day > 40000) = true := by simp; omega
        repeat' (first
    | with_reducible first | apply swp_seq | apply swp_reg | apply swp_regD | apply swp_block | apply swp_exit | apply swp_ret | apply swp_skip | apply swp_cd
    | simp only [go_sem, seval, P45, q45, t0, t1, t2]
    | ((with_reducible refine o_call (c0) ?he ?hc ?_); (case he | hc => first | rfl | (simp [D.erL, D.er, D.closedL, D.closed]; done)))
    | ((with_reducible refine o_call (c1) ?he ?hc ?_); (case he | hc => first | rfl | (simp [D.erL, D.er, D.closedL, D.closed]; done)))
    | ((with_reducible apply s_bsl); (case he | hl | hc => first | rfl | assumption | omega | ((first | refine ⟨?_, ?_⟩ | skip) <;> first | omega | (simp only [lN] <;> omega)) | (simp [elemsK, D.isVal, D.cells, D.closedL, D.closed]; first | done | omega)))
    | with_reducible first | apply cd_dec | apply cd_eq | apply cd_ne | apply cd_split | apply gd_dec | apply gd_eq | apply gd_ne | apply gd_split | apply gq_dec | apply gq_eq | apply gq_ne | apply gq_split
    | ((with_reducible refine And.intro ?hw ?_); (case hw => first | omega | rfl | exact ⟨_, _, rfl⟩ | assumption | (simp only [lN] <;> omega)))
    | with_reducible intro _)
        all_goals simp [D.closed, D.er]
  · have t0 : (wt == []) = true := by
      rw [hw, Bool.not_eq_true', Bool.eq_false_iff]; simp; omega
    have e1 : (decide (1 ≤ op) && decide (op ≤ 7)) = false := by rw [Bool.eq_false_iff]; simp; omega
    rw [e1]
    repeat' (first
    | with_reducible first | apply swp_seq | apply swp_reg | apply swp_regD | apply swp_block | apply swp_exit | apply swp_ret | apply swp_skip | apply swp_cd
    | simp only [go_sem, seval, P45, q45, t0]
    | ((with_reducible refine o_call (c0) ?he ?hc ?_); (case he | hc => first | rfl | (simp [D.erL, D.er, D.closedL, D.closed]; done)))
    | ((with_reducible refine o_call (c1) ?he ?hc ?_); (case he | hc => first | rfl | (simp [D.erL, D.er, D.closedL, D.closed]; done)))
    | ((with_reducible apply s_bsl); (case he | hl | hc => first | rfl | assumption | omega | ((first | refine ⟨?_, ?_⟩ | skip) <;> first | omega | (simp only [lN] <;> omega)) | (simp [elemsK, D.isVal, D.cells, D.closedL, D.closed]; first | done | omega)))
    | with_reducible first | apply cd_dec | apply cd_eq | apply cd_ne | apply cd_split | apply gd_dec | apply gd_eq | apply gd_ne | apply gd_split | apply gq_dec | apply gq_eq | apply gq_ne | apply gq_split
    | ((with_reducible refine And.intro ?hw ?_); (case hw => first | omega | rfl | exact ⟨_, _, rfl⟩ | assumption | (simp only [lN] <;> omega)))
    | with_reducible intro _)
    all_goals simp [D.closed, D.er]
end Go.Proofs.Ytofnggfpegcllaa
end
section
set_option maxRecDepth 100000
set_option linter.unusedSimpArgs false
set_option linter.unusedVariables false
namespace Go.Proofs.Ytofnggfpegcllaa
open Go GoV Go.RowKit
def rpD (r : Rp) : D := .agg [.slice (r.opts.map evD) .no, .bool r.doubt]
theorem er_R (r : Rp) : (rpD r).er = rpD r := by simp [rpD, D.er, D.erL]
theorem cl_R (r : Rp) : D.closed (rpD r) = true := by simp [rpD, D.closed, D.closedL]
theorem erL_R : ∀ l : List Rp, D.erL (l.map rpD) = l.map rpD
  | [] => rfl
  | k :: ks => by simp [D.erL, er_R k, erL_R ks]
theorem closedL_R : ∀ l : List Rp, D.closedL (l.map rpD) = true
  | [] => rfl
  | k :: ks => by simp [D.closedL, cl_R k, closedL_R ks]
theorem R_isVal (r : Rp) : (rpD r).isVal = true ∧ (rpD r).cells.length = 2 := ⟨rfl, rfl⟩
abbrev rpsD (l : List Rp) : D := .slice (l.map rpD) .no
theorem sh_p (e : Ev) : Pur M 49 [evD e] (.bool e.sh) := by
  refine ok49 rfl ?_
  rw [i49]
  unfold c49
  unfold evD Ev.cells Ev.sh
  have d1 : ∀ s : List UInt8, decide (((s.length : Nat) : Int) ≤ 300) = decide (s.length ≤ 300) := fun s => decide_eq_decide.2 (by omega)
  have h1 := d1 e.part
  have h2 := d1 e.kind
  have h3 := d1 e.into
  have h4 := d1 e.slot
  have h5 := d1 e.key
  have h6 := d1 e.val
  generalize decide (e.part.length ≤ 300) = b1 at *
  generalize decide (e.kind.length ≤ 300) = b2 at *
  generalize decide (e.into.length ≤ 300) = b3 at *
  generalize decide (e.slot.length ≤ 300) = b4 at *
  generalize decide (e.key.length ≤ 300) = b5 at *
  generalize decide (e.val.length ≤ 300) = b6 at *
  cases b1 <;> cases b2 <;> cases b3 <;> cases b4 <;> cases b5 <;> skip
  all_goals (repeat' (first
    | with_reducible first | apply swp_seq | apply swp_reg | apply swp_regD | apply swp_block | apply swp_exit | apply swp_ret | apply swp_skip | apply swp_cd
    | simp only [go_sem, seval, P49, q49, h1, h2, h3, h4, h5, h6]
    | with_reducible first | apply cd_dec | apply cd_eq | apply cd_ne | apply cd_split | apply gd_dec | apply gd_eq | apply gd_ne | apply gd_split
    | ((with_reducible refine And.intro ?hw ?_); (case hw => first | omega | rfl | exact ⟨_, _, rfl⟩ | assumption | (simp only [lN] <;> omega)))
    | with_reducible intro _))
  all_goals simp [D.closed, D.er]
theorem ev_get {l : List Ev} {i : Nat} (h : i < l.length) : (l.map evD).getD i .undef = .agg l[i].cells := by simp [List.getD, h, evD]
def few9 (l : List Ev) (m : Nat) : Bool := decide (l.length ≤ m) && l.all Ev.sh
theorem few9_p (l : List Ev) (m : Nat) (hm : m < 1000000) : Pur M 39 [evsD l, .int .i64 (m : Nat)] (.bool (few9 l m)) := by
  refine ok39 rfl ?_
  rw [i39]
  unfold c39
  have hlen : (l.map evD).length = l.length := by simp
  repeat' (first
    | with_reducible first | apply swp_seq | apply swp_reg | apply swp_regD | apply swp_block | apply swp_exit | apply swp_ret | apply swp_skip | apply swp_cd
    | simp only [go_sem, seval, P39, q39, hlen]
    | simp (disch := omega) only [w64, w32, wu8, wu16, wu32, wu64]
    | with_reducible first | apply cd_dec | apply cd_eq | apply cd_ne | apply cd_split | apply gd_dec | apply gd_eq | apply gd_ne | apply gd_split
    | ((with_reducible refine And.intro ?hw ?_); (case hw => first | omega | rfl | exact ⟨_, _, rfl⟩ | assumption | (simp only [lN, hlen] <;> omega)))
    | with_reducible intro _)
  refine swp_fam [0, 1, 3] (fun i : Nat => ⟨[evsD l, .int .i64 (m : Nat), .undef, .int .i64 i, .undef, .undef], [], ⟨[], []⟩⟩) (fun i => i ≤ l.length ∧ i ≤ m + 1 ∧ (l.take i).all Ev.sh = true) (fun i => l.length - i) 0 ⟨by omega, by omega, by simp⟩ ?_ ?_
  · simp [keepE, St.keep]
  · rintro i ⟨h1, h2, h3⟩
    by_cases hi : i < l.length
    · have t0 : decide (((i : Nat) : Int) < l.length) = true := by simp; omega
      by_cases him : i ≤ m
      · have t1 : decide (((i : Nat) : Int) ≤ m) = true := by simp; omega
        have hg := ev_get hi
        have c1 := sh_p l[i]
        unfold evD at c1
        have e1 : l.take (i + 1) = l.take i ++ [l[i]] := by rw [List.take_succ_eq_append_getElem hi]
        cases hs : l[i].sh
        · rw [hs] at c1
          have hf : few9 l m = false := by
            unfold few9
            have : l.all Ev.sh = false := by rw [List.all_eq_false]; exact ⟨l[i], List.getElem_mem hi, by simp [hs]⟩
            rw [this, Bool.and_false]
          rw [hf]
          repeat' (first
    | with_reducible first | apply swp_seq | apply swp_reg | apply swp_regD | apply swp_block | apply swp_exit | apply swp_ret | apply swp_skip | apply swp_cd
    | simp only [go_sem, seval, P39, q39, hlen, t0, t1, hg]
    | simp (disch := omega) only [w64, w32, wu8, wu16, wu32, wu64]
    | ((with_reducible refine o_call (c1) ?he ?hc ?_); (case he | hc => first | rfl | (simp [D.erL, D.er, D.closedL, D.closed, hlen, hg]; done)))
    | with_reducible first | apply cd_dec | apply cd_eq | apply cd_ne | apply cd_split | apply gd_dec | apply gd_eq | apply gd_ne | apply gd_split
    | ((with_reducible refine And.intro ?hw ?_); (case hw => first | omega | rfl | exact ⟨_, _, rfl⟩ | assumption | (simp only [lN, hlen, hg] <;> omega)))
    | with_reducible intro _)
          all_goals first | omega | simp [D.closed, D.er]
        · rw [hs] at c1
          repeat' (first
    | with_reducible first | apply swp_seq | apply swp_reg | apply swp_regD | apply swp_block | apply swp_exit | apply swp_ret | apply swp_skip | apply swp_cd
    | simp only [go_sem, seval, P39, q39, hlen, t0, t1, hg]
    | simp (disch := omega) only [w64, w32, wu8, wu16, wu32, wu64]
    | ((with_reducible refine o_call (c1) ?he ?hc ?_); (case he | hc => first | rfl | (simp [D.erL, D.er, D.closedL, D.closed, hlen, hg]; done)))
    | with_reducible first | apply cd_dec | apply cd_eq | apply cd_ne | apply cd_split | apply gd_dec | apply gd_eq | apply gd_ne | apply gd_split
    | ((with_reducible refine And.intro ?hw ?_); (case hw => first | omega | rfl | exact ⟨_, _, rfl⟩ | assumption | (simp only [lN, hlen, hg] <;> omega)))
    | with_reducible intro _)
          all_goals first | omega | skip
          refine ⟨i + 1, ⟨by omega, by omega, by rw [e1, List.all_append, h3, List.all_cons, hs]; rfl⟩, by omega, ?_⟩
          simp [keepE, St.keep]
      · have t1 : decide (((i : Nat) : Int) ≤ m) = false := by simp; omega
        have t2 : decide (((l.length : Nat) : Int) ≤ m) = false := by simp; omega
        have hf : few9 l m = false := by unfold few9; rw [decide_eq_false (by omega), Bool.false_and]
        rw [hf]
        repeat' (first
    | with_reducible first | apply swp_seq | apply swp_reg | apply swp_regD | apply swp_block | apply swp_exit | apply swp_ret | apply swp_skip | apply swp_cd
    | simp only [go_sem, seval, P39, q39, hlen, t0, t1, t2]
    | simp (disch := omega) only [w64, w32, wu8, wu16, wu32, wu64]
    | with_reducible first | apply cd_dec | apply cd_eq | apply cd_ne | apply cd_split | apply gd_dec | apply gd_eq | apply gd_ne | apply gd_split
    | ((with_reducible refine And.intro ?hw ?_); (case hw => first | omega | rfl | exact ⟨_, _, rfl⟩ | assumption | (simp only [lN, hlen] <;> omega)))
    | with_reducible intro _)
        all_goals first | omega | simp [D.closed, D.er]
    · have t0 : decide (((i : Nat) : Int) < l.length) = false := by simp; omega
      have e1 : l.take i = l := List.take_of_length_le (by omega)
      rw [e1] at h3
      have t2 : decide (((l.length : Nat) : Int) ≤ m) = decide (l.length ≤ m) := decide_eq_decide.2 (by omega)
      have hf : few9 l m = decide (l.length ≤ m) := by unfold few9; rw [h3, Bool.and_true]
      rw [hf]
      generalize decide (l.length ≤ m) = b at *
      repeat' (first
    | with_reducible first | apply swp_seq | apply swp_reg | apply swp_regD | apply swp_block | apply swp_exit | apply swp_ret | apply swp_skip | apply swp_cd
    | simp only [go_sem, seval, P39, q39, hlen, t0, t2]
    | simp (disch := omega) only [w64, w32, wu8, wu16, wu32, wu64]
    | with_reducible first | apply cd_dec | apply cd_eq | apply cd_ne | apply cd_split | apply gd_dec | apply gd_eq | apply gd_ne | apply gd_split
    | ((with_reducible refine And.intro ?hw ?_); (case hw => first | omega | rfl | exact ⟨_, _, rfl⟩ | assumption | (simp only [lN, hlen] <;> omega)))
    | with_reducible intro _)
      all_goals first | omega | simp [D.closed, D.er]
theorem rp_get {l : List Rp} {i : Nat} (h : i < l.length) : (l.map rpD).getD i .undef = .agg [.slice (l[i].opts.map evD) .no, .bool l[i].doubt] := by simp [List.getD, h, rpD]
def few13 (l : List Rp) (m : Nat) : Bool := decide (l.length ≤ m) && l.all fun r => few9 r.opts 6
theorem few13_p (l : List Rp) (m : Nat) (hm : m < 1000000) : Pur M 25 [rpsD l, .int .i64 (m : Nat)] (.bool (few13 l m)) := by
  refine ok25 rfl ?_
  rw [i25]
  unfold c25
  have hlen : (l.map rpD).length = l.length := by simp
  repeat' (first
    | with_reducible first | apply swp_seq | apply swp_reg | apply swp_regD | apply swp_block | apply swp_exit | apply swp_ret | apply swp_skip | apply swp_cd
    | simp only [go_sem, seval, P25, q25, hlen]
    | simp (disch := omega) only [w64, w32, wu8, wu16, wu32, wu64]
    | with_reducible first | apply cd_dec | apply cd_eq | apply cd_ne | apply cd_split | apply gd_dec | apply gd_eq | apply gd_ne | apply gd_split
    | ((with_reducible refine And.intro ?hw ?_); (case hw => first | omega | rfl | exact ⟨_, _, rfl⟩ | assumption | (simp only [lN, hlen] <;> omega)))
    | with_reducible intro _)
  refine swp_fam [0, 1, 3] (fun i : Nat => ⟨[rpsD l, .int .i64 (m : Nat), .undef, .int .i64 i, .undef, .undef], [], ⟨[], []⟩⟩) (fun i => i ≤ l.length ∧ (l.take i).all (fun r => few9 r.opts 6) = true) (fun i => l.length - i) 0 ⟨by omega, by simp⟩ ?_ ?_
  · simp [keepE, St.keep]
  · rintro i ⟨h1, h3⟩
    by_cases hi : i < l.length
    · have t0 : decide (((i : Nat) : Int) < l.length) = true := by simp; omega
      by_cases him : l.length ≤ m
      · have t1 : decide (((l.length : Nat) : Int) ≤ m) = true := by simp; omega
        have hg := rp_get hi
        have c1 := few9_p l[i].opts 6 (by omega)
        have e1 : l.take (i + 1) = l.take i ++ [l[i]] := by rw [List.take_succ_eq_append_getElem hi]
        cases hs : few9 l[i].opts 6
        · rw [hs] at c1
          have hf : few13 l m = false := by
            unfold few13
            have : (l.all fun r => few9 r.opts 6) = false := by rw [List.all_eq_false]; exact ⟨l[i], List.getElem_mem hi, by simp [hs]⟩
            rw [this, Bool.and_false]
          rw [hf]
          repeat' (first
    | with_reducible first | apply swp_seq | apply swp_reg | apply swp_regD | apply swp_block | apply swp_exit | apply swp_ret | apply swp_skip | apply swp_cd
    | simp only [go_sem, seval, P25, q25, hlen, t0, t1, hg]
    | simp (disch := omega) only [w64, w32, wu8, wu16, wu32, wu64]
    | ((with_reducible refine o_call (c1) ?he ?hc ?_); (case he | hc => first | rfl | (simp [D.erL, D.er, D.closedL, D.closed, hlen, hg]; done)))
    | with_reducible first | apply cd_dec | apply cd_eq | apply cd_ne | apply cd_split | apply gd_dec | apply gd_eq | apply gd_ne | apply gd_split
    | ((with_reducible refine And.intro ?hw ?_); (case hw => first | omega | rfl | exact ⟨_, _, rfl⟩ | assumption | (simp only [lN, hlen, hg] <;> omega)))
    | with_reducible intro _)
          all_goals first | omega | simp [D.closed, D.er]
        · rw [hs] at c1
          repeat' (first
    | with_reducible first | apply swp_seq | apply swp_reg | apply swp_regD | apply swp_block | apply swp_exit | apply swp_ret | apply swp_skip | apply swp_cd
    | simp only [go_sem, seval, P25, q25, hlen, t0, t1, hg]
    | simp (disch := omega) only [w64, w32, wu8, wu16, wu32, wu64]
    | ((with_reducible refine o_call (c1) ?he ?hc ?_); (case he | hc => first | rfl | (simp [D.erL, D.er, D.closedL, D.closed, hlen, hg]; done)))
    | with_reducible first | apply cd_dec | apply cd_eq | apply cd_ne | apply cd_split | apply gd_dec | apply gd_eq | apply gd_ne | apply gd_split
    | ((with_reducible refine And.intro ?hw ?_); (case hw => first | omega | rfl | exact ⟨_, _, rfl⟩ | assumption | (simp only [lN, hlen, hg] <;> omega)))
    | with_reducible intro _)
          all_goals first | omega | skip
          refine ⟨i + 1, ⟨by omega, by rw [e1, List.all_append, h3, List.all_cons, hs]; rfl⟩, by omega, ?_⟩
          simp [keepE, St.keep]
      · have t1 : decide (((l.length : Nat) : Int) ≤ m) = false := by simp; omega
        have hf : few13 l m = false := by unfold few13; rw [decide_eq_false (by omega), Bool.false_and]
        rw [hf]
        repeat' (first
    | with_reducible first | apply swp_seq | apply swp_reg | apply swp_regD | apply swp_block | apply swp_exit | apply swp_ret | apply swp_skip | apply swp_cd
    | simp only [go_sem, seval, P25, q25, hlen, t0, t1]
    | simp (disch := omega) only [w64, w32, wu8, wu16, wu32, wu64]
    | with_reducible first | apply cd_dec | apply cd_eq | apply cd_ne | apply cd_split | apply gd_dec | apply gd_eq | apply gd_ne | apply gd_split
    | ((with_reducible refine And.intro ?hw ?_); (case hw => first | omega | rfl | exact ⟨_, _, rfl⟩ | assumption | (simp only [lN, hlen] <;> omega)))
    | with_reducible intro _)
        all_goals first | omega | simp [D.closed, D.er]
    · have t0 : decide (((i : Nat) : Int) < l.length) = false := by simp; omega
      have e1 : l.take i = l := List.take_of_length_le (by omega)
      rw [e1] at h3
      have t2 : decide (((l.length : Nat) : Int) ≤ m) = decide (l.length ≤ m) := decide_eq_decide.2 (by omega)
      have hf : few13 l m = decide (l.length ≤ m) := by unfold few13; rw [h3, Bool.and_true]
      rw [hf]
      generalize decide (l.length ≤ m) = b at *
      repeat' (first
    | with_reducible first | apply swp_seq | apply swp_reg | apply swp_regD | apply swp_block | apply swp_exit | apply swp_ret | apply swp_skip | apply swp_cd
    | simp only [go_sem, seval, P25, q25, hlen, t0, t2]
    | simp (disch := omega) only [w64, w32, wu8, wu16, wu32, wu64]
    | with_reducible first | apply cd_dec | apply cd_eq | apply cd_ne | apply cd_split | apply gd_dec | apply gd_eq | apply gd_ne | apply gd_split
    | ((with_reducible refine And.intro ?hw ?_); (case hw => first | omega | rfl | exact ⟨_, _, rfl⟩ | assumption | (simp only [lN, hlen] <;> omega)))
    | with_reducible intro _)
      all_goals first | omega | simp [D.closed, D.er]
end Go.Proofs.Ytofnggfpegcllaa
end
section
set_option maxRecDepth 100000
set_option linter.unusedSimpArgs false
set_option linter.unusedVariables false
namespace Go.Proofs.Ytofnggfpegcllaa
open Go GoV Go.RowKit
def evK : List EK := [.int, .int, .str, .str, .str, .str, .str, .str, .int, .int, .int, .int, .int, .int]
theorem keyEv : Key evD (.st evK) := by
  refine ⟨fun a b => ?_, fun _ => rfl, fun _ _ _ => rfl⟩
  have : keq (evD a) (evD b) = decide (a = b) := by
    rw [dec_ev]
    simp [evD, keq, keqL, keq1]
  rw [this, decide_eq_true_eq]
def goodN (l : List Ev) : Bool := l.all evOk && dist l
theorem dist_iff : ∀ l : List Ev, dist l = true ↔ l.Nodup
  | [] => by simp [dist]
  | e :: l => by simp [dist, dist_iff l, List.nodup_cons]
theorem good_snoc (l : List Ev) (e : Ev) : goodN (l ++ [e]) = true ↔ goodN l = true ∧ evOk e = true ∧ e ∉ l := by
  unfold goodN
  simp only [Bool.and_eq_true, dist_iff, List.all_append, List.all_cons, List.all_nil, Bool.and_true, List.nodup_append]
  constructor
  · rintro ⟨⟨h1, h2⟩, h3, h4, h5⟩
    exact ⟨⟨h1, h3⟩, h2, fun h => h5 e h e (by simp) rfl⟩
  · rintro ⟨⟨h1, h3⟩, h2, h5⟩
    exact ⟨⟨h1, h2⟩, h3, by simp, fun a ha b hb => by simp at hb; subst hb; exact fun q => h5 (q ▸ ha)⟩
theorem good_take {l : List Ev} (h : goodN l = true) (i : Nat) : goodN (l.take i) = true := by
  unfold goodN at *
  simp only [Bool.and_eq_true, dist_iff] at *
  exact ⟨List.all_eq_true.2 fun x hx => List.all_eq_true.1 h.1 x (List.mem_of_mem_take hx), h.2.sublist (List.take_sublist _ _)⟩
theorem repOk_eq (r : Rp) : repOk r = (decide (1 ≤ r.opts.length) && decide (r.opts.length ≤ 4) && goodN r.opts) := by unfold repOk goodN; rw [Bool.and_assoc]
theorem good_bad {l : List Ev} {i : Nat} (h : i < l.length) (hb : evOk l[i] = false ∨ l[i] ∈ l.take i) : goodN l = false := by
  cases e : goodN l with
  | false => rfl
  | true =>
    exfalso
    have := good_take e (i + 1)
    rw [List.take_succ_eq_append_getElem h, good_snoc] at this
    rcases hb with q | q
    · rw [q] at this; exact absurd this.2.1 (by simp)
    · exact this.2.2 q
set_option maxHeartbeats 1000000 in
theorem rvalid_p (r : Rp) (hs : ∀ e ∈ r.opts, e.sh = true) : Pur M 36 [rpD r] (.bool (repOk r)) := by
  rcases r with ⟨l, d⟩
  simp only at hs
  rw [repOk_eq]
  simp only
  unfold rpD
  simp only
  refine ok36 rfl ?_
  rw [i36]
  unfold c36
  have hlen : (l.map evD).length = l.length := by simp
  by_cases h0 : l.length = 0
  · have t0 : ((l.length : Int) == 0) = true := by rw [h0]; rfl
    rw [decide_eq_false (show ¬ 1 ≤ l.length by omega)]
    repeat' (first
    | with_reducible first | apply swp_seq | apply swp_reg | apply swp_regD | apply swp_block | apply swp_exit | apply swp_ret | apply swp_skip | apply swp_cd
    | simp only [go_sem, seval, P36, q36, hlen, t0, o_newM]
    | simp (disch := omega) only [w64, w32, wu8, wu16, wu32, wu64]
    | ((with_reducible apply s_mpu); (case h1 | hk => rfl); (case ha | hp => first | rfl | assumption | omega | ((first | refine ⟨?_, ?_⟩ | skip) <;> first | omega | (simp only [lN, hlen] <;> omega)) | (simp [elemsK, D.isVal, D.cells, D.closedL, D.closed, hlen]; first | done | omega)))
    | ((with_reducible apply s_lkpS); (case h1 | hk => rfl); (case ha | hf => first | rfl | assumption | omega | ((first | refine ⟨?_, ?_⟩ | skip) <;> first | omega | (simp only [lN, hlen] <;> omega)) | (simp [elemsK, D.isVal, D.cells, D.closedL, D.closed, hlen]; first | done | omega)))
    | ((with_reducible apply s_lkpN); (case h1 | hk => rfl); (case hf | ha => first | rfl | assumption | omega | ((first | refine ⟨?_, ?_⟩ | skip) <;> first | omega | (simp only [lN, hlen] <;> omega)) | (simp [elemsK, D.isVal, D.cells, D.closedL, D.closed, hlen]; first | done | omega)))
    | with_reducible first | apply cd_dec | apply cd_eq | apply cd_ne | apply cd_split | apply gd_dec | apply gd_eq | apply gd_ne | apply gd_split
    | ((with_reducible refine And.intro ?hw ?_); (case hw => first | omega | rfl | exact ⟨_, _, rfl⟩ | assumption | (simp only [lN, hlen] <;> omega)))
    | with_reducible intro _)
    all_goals first | omega | simp [D.closed, D.er]
  have t0 : ((l.length : Int) == 0) = false := by rw [beq_eq_false_iff_ne]; omega
  by_cases h4 : l.length ≤ 4
  · have t1 : decide ((l.length : Int) > 4) = false := by simp; omega
    rw [decide_eq_true (show 1 ≤ l.length by omega), decide_eq_true h4]
    repeat' (first
    | with_reducible first | apply swp_seq | apply swp_reg | apply swp_regD | apply swp_block | apply swp_exit | apply swp_ret | apply swp_skip | apply swp_cd
    | simp only [go_sem, seval, P36, q36, hlen, t0, t1, o_newM]
    | simp (disch := omega) only [w64, w32, wu8, wu16, wu32, wu64]
    | ((with_reducible apply s_mpu); (case h1 | hk => rfl); (case ha | hp => first | rfl | assumption | omega | ((first | refine ⟨?_, ?_⟩ | skip) <;> first | omega | (simp only [lN, hlen] <;> omega)) | (simp [elemsK, D.isVal, D.cells, D.closedL, D.closed, hlen]; first | done | omega)))
    | ((with_reducible apply s_lkpS); (case h1 | hk => rfl); (case ha | hf => first | rfl | assumption | omega | ((first | refine ⟨?_, ?_⟩ | skip) <;> first | omega | (simp only [lN, hlen] <;> omega)) | (simp [elemsK, D.isVal, D.cells, D.closedL, D.closed, hlen]; first | done | omega)))
    | ((with_reducible apply s_lkpN); (case h1 | hk => rfl); (case hf | ha => first | rfl | assumption | omega | ((first | refine ⟨?_, ?_⟩ | skip) <;> first | omega | (simp only [lN, hlen] <;> omega)) | (simp [elemsK, D.isVal, D.cells, D.closedL, D.closed, hlen]; first | done | omega)))
    | with_reducible first | apply cd_dec | apply cd_eq | apply cd_ne | apply cd_split | apply gd_dec | apply gd_eq | apply gd_ne | apply gd_split
    | ((with_reducible refine And.intro ?hw ?_); (case hw => first | omega | rfl | exact ⟨_, _, rfl⟩ | assumption | (simp only [lN, hlen] <;> omega)))
    | with_reducible intro _)
    refine swp_famG [1, 3, 6, 7, 8] 2 0 (Nat.zero_le 2) (Nat.zero_le 0) (fun i : Nat => ⟨[.undef, .ptr 0 0, .undef, .mp 1, .undef, .undef, evsD l, .int .i64 l.length, .int .i64 i, .undef, .undef], [], ⟨[.cells [evsD l, .bool d], .map (entG evD (fun _ => .bool true) (l.take i) 0) (l.take i).length], []⟩⟩)
      (fun i => i ≤ l.length ∧ goodN (l.take i) = true) (fun i => l.length - i) 0 ⟨by omega, rfl⟩ ?_ ?_
    · simp [keepE, St.keep, St.keepG, St.gc, Hp.cut, entG, D.rn, D.rnL, Blk.rnL, Blk.rn, Tv.rnL, pairs, cutF, Own.rn]
    · rintro i ⟨h1, h2⟩
      by_cases hi : i < l.length
      · have t2 : decide (((i : Nat) : Int) < l.length) = true := by simp; omega
        have hg := ev_get hi
        have hK : (l.take i).length = i := by simp; omega
        have hok := entG_ok (vf := fun _ => .bool true) keyEv (l.take i) 0
        have c1 := evalid_p l[i] (hs _ (List.getElem_mem _))
        have e1 : l.take (i + 1) = l.take i ++ [l[i]] := by rw [List.take_succ_eq_append_getElem hi]
        have hrn := fun β τ => entG_rn (vf := fun _ => .bool true) keyEv (β := β) (τ := τ) (fun _ => rfl)
        by_cases hm : l[i] ∈ l.take i
        · obtain ⟨j, hf⟩ := entG_some (vf := fun _ => .bool true) keyEv hm
          rw [good_bad hi (.inr hm)]
          rw [show evD l[i] = .agg l[i].cells from rfl] at hf
          unfold evK at hok
          generalize entG evD (fun _ => .bool true) (l.take i) 0 = E at *
          repeat' (first
    | with_reducible first | apply swp_seq | apply swp_reg | apply swp_regD | apply swp_block | apply swp_exit | apply swp_ret | apply swp_skip | apply swp_cd
    | simp only [go_sem, seval, P36, q36, Ev.cells, hlen, t2, hg, o_newM]
    | simp (disch := omega) only [w64, w32, wu8, wu16, wu32, wu64]
    | ((with_reducible refine o_call (c1) ?he ?hc ?_); (case he | hc => first | rfl | (simp [D.erL, D.er, D.closedL, D.closed, hlen, hg]; done)))
    | ((with_reducible apply s_mpu); (case h1 | hk => rfl); (case ha | hp => first | rfl | assumption | omega | ((first | refine ⟨?_, ?_⟩ | skip) <;> first | omega | (simp only [lN, hlen, hg] <;> omega)) | (simp [elemsK, D.isVal, D.cells, D.closedL, D.closed, hlen, hg]; first | done | omega)))
    | ((with_reducible apply s_lkpS); (case h1 | hk => rfl); (case ha | hf => first | rfl | assumption | omega | ((first | refine ⟨?_, ?_⟩ | skip) <;> first | omega | (simp only [lN, hlen, hg] <;> omega)) | (simp [elemsK, D.isVal, D.cells, D.closedL, D.closed, hlen, hg]; first | done | omega)))
    | ((with_reducible apply s_lkpN); (case h1 | hk => rfl); (case hf | ha => first | rfl | assumption | omega | ((first | refine ⟨?_, ?_⟩ | skip) <;> first | omega | (simp only [lN, hlen, hg] <;> omega)) | (simp [elemsK, D.isVal, D.cells, D.closedL, D.closed, hlen, hg]; first | done | omega)))
    | with_reducible first | apply cd_dec | apply cd_eq | apply cd_ne | apply cd_split | apply gd_dec | apply gd_eq | apply gd_ne | apply gd_split
    | ((with_reducible refine And.intro ?hw ?_); (case hw => first | omega | rfl | exact ⟨_, _, rfl⟩ | assumption | (simp only [lN, hlen, hg] <;> omega)))
    | with_reducible intro _)
          all_goals first | omega | simp [D.closed, D.er]
        · have hf := entG_none (vf := fun _ => .bool true) (b := 0) (i := 0) keyEv hm
          have hp := entG_new (vf := fun _ => .bool true) keyEv (.bool true) hm
          have hu : upd (fun _ : Ev => D.bool true) l[i] (.bool true) = fun _ => .bool true := by funext x; unfold upd; split <;> rfl
          rw [hu, ← e1, hK] at hp
          rw [show evD l[i] = .agg l[i].cells from rfl] at hf hp c1
          rw [hK]
          unfold evK at hok
          cases hv : evOk l[i]
          · rw [hv] at c1
            rw [good_bad hi (.inl hv)]
            generalize entG evD (fun _ => .bool true) (l.take i) 0 = E at *
            repeat' (first
    | with_reducible first | apply swp_seq | apply swp_reg | apply swp_regD | apply swp_block | apply swp_exit | apply swp_ret | apply swp_skip | apply swp_cd
    | simp only [go_sem, seval, P36, q36, Ev.cells, hlen, t2, hg, o_newM]
    | simp (disch := omega) only [w64, w32, wu8, wu16, wu32, wu64]
    | ((with_reducible refine o_call (c1) ?he ?hc ?_); (case he | hc => first | rfl | (simp [D.erL, D.er, D.closedL, D.closed, hlen, hg]; done)))
    | ((with_reducible apply s_mpu); (case h1 | hk => rfl); (case ha | hp => first | rfl | assumption | omega | ((first | refine ⟨?_, ?_⟩ | skip) <;> first | omega | (simp only [lN, hlen, hg] <;> omega)) | (simp [elemsK, D.isVal, D.cells, D.closedL, D.closed, hlen, hg]; first | done | omega)))
    | ((with_reducible apply s_lkpS); (case h1 | hk => rfl); (case ha | hf => first | rfl | assumption | omega | ((first | refine ⟨?_, ?_⟩ | skip) <;> first | omega | (simp only [lN, hlen, hg] <;> omega)) | (simp [elemsK, D.isVal, D.cells, D.closedL, D.closed, hlen, hg]; first | done | omega)))
    | ((with_reducible apply s_lkpN); (case h1 | hk => rfl); (case hf | ha => first | rfl | assumption | omega | ((first | refine ⟨?_, ?_⟩ | skip) <;> first | omega | (simp only [lN, hlen, hg] <;> omega)) | (simp [elemsK, D.isVal, D.cells, D.closedL, D.closed, hlen, hg]; first | done | omega)))
    | with_reducible first | apply cd_dec | apply cd_eq | apply cd_ne | apply cd_split | apply gd_dec | apply gd_eq | apply gd_ne | apply gd_split
    | ((with_reducible refine And.intro ?hw ?_); (case hw => first | omega | rfl | exact ⟨_, _, rfl⟩ | assumption | (simp only [lN, hlen, hg] <;> omega)))
    | with_reducible intro _)
            all_goals first | omega | simp [D.closed, D.er]
          · rw [hv] at c1
            simp only [Ev.cells] at hp
            repeat' (first
    | with_reducible first | apply swp_seq | apply swp_reg | apply swp_regD | apply swp_block | apply swp_exit | apply swp_ret | apply swp_skip | apply swp_cd
    | simp only [go_sem, seval, P36, q36, Ev.cells, hlen, t2, hg, o_newM]
    | simp (disch := omega) only [w64, w32, wu8, wu16, wu32, wu64]
    | ((with_reducible refine o_call (c1) ?he ?hc ?_); (case he | hc => first | rfl | (simp [D.erL, D.er, D.closedL, D.closed, hlen, hg]; done)))
    | ((with_reducible apply s_mpu); (case h1 | hk => rfl); (case ha | hp => first | rfl | assumption | omega | ((first | refine ⟨?_, ?_⟩ | skip) <;> first | omega | (simp only [lN, hlen, hg] <;> omega)) | (simp [elemsK, D.isVal, D.cells, D.closedL, D.closed, hlen, hg]; first | done | omega)))
    | ((with_reducible apply s_lkpS); (case h1 | hk => rfl); (case ha | hf => first | rfl | assumption | omega | ((first | refine ⟨?_, ?_⟩ | skip) <;> first | omega | (simp only [lN, hlen, hg] <;> omega)) | (simp [elemsK, D.isVal, D.cells, D.closedL, D.closed, hlen, hg]; first | done | omega)))
    | ((with_reducible apply s_lkpN); (case h1 | hk => rfl); (case hf | ha => first | rfl | assumption | omega | ((first | refine ⟨?_, ?_⟩ | skip) <;> first | omega | (simp only [lN, hlen, hg] <;> omega)) | (simp [elemsK, D.isVal, D.cells, D.closedL, D.closed, hlen, hg]; first | done | omega)))
    | with_reducible first | apply cd_dec | apply cd_eq | apply cd_ne | apply cd_split | apply gd_dec | apply gd_eq | apply gd_ne | apply gd_split
    | ((with_reducible refine And.intro ?hw ?_); (case hw => first | omega | rfl | exact ⟨_, _, rfl⟩ | assumption | (simp only [lN, hlen, hg] <;> omega)))
    | with_reducible intro _)
            all_goals first | omega | skip
            refine ⟨i + 1, ⟨by omega, by rw [e1, good_snoc]; exact ⟨h2, hv, hm⟩⟩, by omega, ?_⟩
            have hK1 : (l.take (i + 1)).length = i + 1 := by simp; omega
            simp [keepE, St.keep, St.keepG, St.gc, Hp.cut, D.rn, D.rnL, Blk.rnL, Blk.rn, Tv.rnL, cutF, Own.rn, hp, hrn, hK1]
      · have t2 : decide (((i : Nat) : Int) < l.length) = false := by simp; omega
        rw [List.take_of_length_le (by omega)] at h2
        rw [h2]
        repeat' (first
    | with_reducible first | apply swp_seq | apply swp_reg | apply swp_regD | apply swp_block | apply swp_exit | apply swp_ret | apply swp_skip | apply swp_cd
    | simp only [go_sem, seval, P36, q36, hlen, t2, o_newM]
    | simp (disch := omega) only [w64, w32, wu8, wu16, wu32, wu64]
    | ((with_reducible apply s_mpu); (case h1 | hk => rfl); (case ha | hp => first | rfl | assumption | omega | ((first | refine ⟨?_, ?_⟩ | skip) <;> first | omega | (simp only [lN, hlen] <;> omega)) | (simp [elemsK, D.isVal, D.cells, D.closedL, D.closed, hlen]; first | done | omega)))
    | ((with_reducible apply s_lkpS); (case h1 | hk => rfl); (case ha | hf => first | rfl | assumption | omega | ((first | refine ⟨?_, ?_⟩ | skip) <;> first | omega | (simp only [lN, hlen] <;> omega)) | (simp [elemsK, D.isVal, D.cells, D.closedL, D.closed, hlen]; first | done | omega)))
    | ((with_reducible apply s_lkpN); (case h1 | hk => rfl); (case hf | ha => first | rfl | assumption | omega | ((first | refine ⟨?_, ?_⟩ | skip) <;> first | omega | (simp only [lN, hlen] <;> omega)) | (simp [elemsK, D.isVal, D.cells, D.closedL, D.closed, hlen]; first | done | omega)))
    | with_reducible first | apply cd_dec | apply cd_eq | apply cd_ne | apply cd_split | apply gd_dec | apply gd_eq | apply gd_ne | apply gd_split
    | ((with_reducible refine And.intro ?hw ?_); (case hw => first | omega | rfl | exact ⟨_, _, rfl⟩ | assumption | (simp only [lN, hlen] <;> omega)))
    | with_reducible intro _)
        all_goals first | omega | simp [D.closed, D.er]
  · have t1 : decide ((l.length : Int) > 4) = true := by simp; omega
    rw [decide_eq_false h4]
    repeat' (first
    | with_reducible first | apply swp_seq | apply swp_reg | apply swp_regD | apply swp_block | apply swp_exit | apply swp_ret | apply swp_skip | apply swp_cd
    | simp only [go_sem, seval, P36, q36, hlen, t0, t1, o_newM]
    | simp (disch := omega) only [w64, w32, wu8, wu16, wu32, wu64]
    | ((with_reducible apply s_mpu); (case h1 | hk => rfl); (case ha | hp => first | rfl | assumption | omega | ((first | refine ⟨?_, ?_⟩ | skip) <;> first | omega | (simp only [lN, hlen] <;> omega)) | (simp [elemsK, D.isVal, D.cells, D.closedL, D.closed, hlen]; first | done | omega)))
    | ((with_reducible apply s_lkpS); (case h1 | hk => rfl); (case ha | hf => first | rfl | assumption | omega | ((first | refine ⟨?_, ?_⟩ | skip) <;> first | omega | (simp only [lN, hlen] <;> omega)) | (simp [elemsK, D.isVal, D.cells, D.closedL, D.closed, hlen]; first | done | omega)))
    | ((with_reducible apply s_lkpN); (case h1 | hk => rfl); (case hf | ha => first | rfl | assumption | omega | ((first | refine ⟨?_, ?_⟩ | skip) <;> first | omega | (simp only [lN, hlen] <;> omega)) | (simp [elemsK, D.isVal, D.cells, D.closedL, D.closed, hlen]; first | done | omega)))
    | with_reducible first | apply cd_dec | apply cd_eq | apply cd_ne | apply cd_split | apply gd_dec | apply gd_eq | apply gd_ne | apply gd_split
    | ((with_reducible refine And.intro ?hw ?_); (case hw => first | omega | rfl | exact ⟨_, _, rfl⟩ | assumption | (simp only [lN, hlen] <;> omega)))
    | with_reducible intro _)
    all_goals first | omega | simp [D.closed, D.er]
end Go.Proofs.Ytofnggfpegcllaa
end
section
set_option maxRecDepth 100000
set_option linter.unusedSimpArgs false
set_option linter.unusedVariables false
namespace Go.Proofs.Ytofnggfpegcllaa
open Go GoV Go.RowKit
theorem min_eq (a b : List UInt8) : (if Op.bytesLess a b || a == b then a else b) = if lt a b then a else b := by
  unfold lt
  cases h : Op.bytesLess a b
  · by_cases e : a = b
    · subst e; simp
    · simp [e]
  · simp
theorem enames_p (e : Ev) (hs : e.sh = true) (hv : evOk e = true) : Pur M 37 [evD e] (.slice (strs (evNames e)) .no) := by
  have c1 := evalid_p e hs
  rw [hv] at c1
  unfold evNames
  rw [if_pos hv]
  unfold evD at *
  have hm := min_eq e.part e.into
  refine ok37 rfl ?_
  rw [i37]
  unfold c37
  by_cases h2 : e.op = 2
  · have t0 : (e.op == 2) = true := by simp [h2]
    rw [if_pos h2]
    generalize (if lt e.part e.into then e.part else e.into) = mn at *
    generalize hx' : (if lt e.part e.into then e.into else e.part) = mx at *
    have hx : (if Op.bytesLess e.part e.into = true then e.into else e.part) = mx := hx'
    repeat' (first
    | with_reducible first | apply swp_seq | apply swp_reg | apply swp_regD | apply swp_block | apply swp_exit | apply swp_ret | apply swp_skip | apply swp_cd
    | simp only [go_sem, seval, P37, q37, Ev.cells, t0, hm, hx]
    | simp (disch := omega) only [w64, w32, wu8, wu16, wu32, wu64]
    | ((with_reducible refine o_call (c1) ?he ?hc ?_); (case he | hc => first | rfl | (simp [D.erL, D.er, D.closedL, D.closed]; done)))
    | ((with_reducible apply s_bsl); (case he | hl | hc => first | rfl | assumption | omega | ((first | refine ⟨?_, ?_⟩ | skip) <;> first | omega | (simp only [lN] <;> omega)) | (simp [elemsK, D.isVal, D.cells, D.closedL, D.closed]; first | done | omega)))
    | with_reducible first | apply cd_dec | apply cd_eq | apply cd_ne | apply cd_split
    | ((with_reducible refine And.intro ?hw ?_); (case hw => first | omega | rfl | exact ⟨_, _, rfl⟩ | assumption | (simp only [lN] <;> omega)))
    | with_reducible intro _)
    all_goals first | omega | simp [D.closed, D.er, D.closedL, D.erL, strs]
  · have t0 : (e.op == 2) = false := by simp [h2]
    rw [if_neg h2]
    repeat' (first
    | with_reducible first | apply swp_seq | apply swp_reg | apply swp_regD | apply swp_block | apply swp_exit | apply swp_ret | apply swp_skip | apply swp_cd
    | simp only [go_sem, seval, P37, q37, Ev.cells, t0]
    | simp (disch := omega) only [w64, w32, wu8, wu16, wu32, wu64]
    | ((with_reducible refine o_call (c1) ?he ?hc ?_); (case he | hc => first | rfl | (simp [D.erL, D.er, D.closedL, D.closed]; done)))
    | ((with_reducible apply s_bsl); (case he | hl | hc => first | rfl | assumption | omega | ((first | refine ⟨?_, ?_⟩ | skip) <;> first | omega | (simp only [lN] <;> omega)) | (simp [elemsK, D.isVal, D.cells, D.closedL, D.closed]; first | done | omega)))
    | with_reducible first | apply cd_dec | apply cd_eq | apply cd_ne | apply cd_split
    | ((with_reducible refine And.intro ?hw ?_); (case hw => first | omega | rfl | exact ⟨_, _, rfl⟩ | assumption | (simp only [lN] <;> omega)))
    | with_reducible intro _)
    all_goals first | omega | simp [D.closed, D.er, D.closedL, D.erL, strs]
theorem strs_len (L : List (List UInt8)) : (strs L).length = L.length := by simp [strs]
theorem strs_get {L : List (List UInt8)} {i : Nat} (h : i < L.length) : (strs L).getD i .undef = .str L[i] := by simp [strs, List.getD, h]
theorem elems_strs (L : List (List UInt8)) : elemsK 1 (strs L) = true := elemsK_map D.str 1 (fun _ => ⟨rfl, rfl⟩) L
theorem strs_app (a b : List (List UInt8)) : strs (a ++ b) = strs a ++ strs b := by simp [strs]
end Go.Proofs.Ytofnggfpegcllaa
end
section
set_option maxRecDepth 100000
set_option linter.unusedSimpArgs false
set_option linter.unusedVariables false
namespace Go.Proofs.Ytofnggfpegcllaa
open Go GoV Go.RowKit
end Go.Proofs.Ytofnggfpegcllaa
end
section
set_option maxRecDepth 100000
set_option linter.unusedSimpArgs false
set_option linter.unusedVariables false
namespace Go.Proofs.Ytofnggfpegcllaa
open Go GoV Go.RowKit
theorem choices_p (r : Rp) (hs : ∀ e ∈ r.opts, e.sh = true) : Pur M 34 [rpD r] (.int .i64 (choices r : Nat)) := by
  have c1 := rvalid_p r hs
  have h4 : repOk r = true → r.opts.length ≤ 4 := fun h => by rw [repOk_eq] at h; simp at h; exact h.1.2
  rcases r with ⟨l, d⟩
  unfold choices
  unfold rpD at *
  have hlen : (l.map evD).length = l.length := by simp
  refine ok34 rfl ?_
  rw [i34]
  unfold c34
  generalize repOk ⟨l, d⟩ = b at *
  simp only at c1 h4 ⊢
  cases b
  · repeat' (first
    | with_reducible first | apply swp_seq | apply swp_reg | apply swp_regD | apply swp_block | apply swp_exit | apply swp_ret | apply swp_skip | apply swp_cd
    | simp only [go_sem, seval, P34, q34, hlen]
    | simp (disch := omega) only [w64, w32, wu8, wu16, wu32, wu64]
    | ((with_reducible refine o_call (c1) ?he ?hc ?_); (case he | hc => first | rfl | (simp [D.erL, D.er, D.closedL, D.closed, hlen]; done)))
    | with_reducible first | apply cd_dec | apply cd_eq | apply cd_ne | apply cd_split
    | ((with_reducible refine And.intro ?hw ?_); (case hw => first | omega | rfl | exact ⟨_, _, rfl⟩ | assumption | (simp only [lN, hlen] <;> omega)))
    | with_reducible intro _)
    all_goals first | omega | simp [D.closed, D.er]
  · have := h4 rfl
    cases d
    · repeat' (first
    | with_reducible first | apply swp_seq | apply swp_reg | apply swp_regD | apply swp_block | apply swp_exit | apply swp_ret | apply swp_skip | apply swp_cd
    | simp only [go_sem, seval, P34, q34, hlen]
    | simp (disch := omega) only [w64, w32, wu8, wu16, wu32, wu64]
    | ((with_reducible refine o_call (c1) ?he ?hc ?_); (case he | hc => first | rfl | (simp [D.erL, D.er, D.closedL, D.closed, hlen]; done)))
    | with_reducible first | apply cd_dec | apply cd_eq | apply cd_ne | apply cd_split
    | ((with_reducible refine And.intro ?hw ?_); (case hw => first | omega | rfl | exact ⟨_, _, rfl⟩ | assumption | (simp only [lN, hlen] <;> omega)))
    | with_reducible intro _)
      all_goals first | omega | simp [D.closed, D.er]
    · repeat' (first
    | with_reducible first | apply swp_seq | apply swp_reg | apply swp_regD | apply swp_block | apply swp_exit | apply swp_ret | apply swp_skip | apply swp_cd
    | simp only [go_sem, seval, P34, q34, hlen]
    | simp (disch := omega) only [w64, w32, wu8, wu16, wu32, wu64]
    | ((with_reducible refine o_call (c1) ?he ?hc ?_); (case he | hc => first | rfl | (simp [D.erL, D.er, D.closedL, D.closed, hlen]; done)))
    | with_reducible first | apply cd_dec | apply cd_eq | apply cd_ne | apply cd_split
    | ((with_reducible refine And.intro ?hw ?_); (case hw => first | omega | rfl | exact ⟨_, _, rfl⟩ | assumption | (simp only [lN, hlen] <;> omega)))
    | with_reducible intro _)
      all_goals first | omega | simp [D.closed, D.er]
theorem evNames_len (e : Ev) : (evNames e).length ≤ 2 := by unfold evNames; split <;> (try split) <;> simp
theorem putS_len (s : Nm) : ∀ l : List Nm, (putS l s).length ≤ l.length + 1
  | [] => by simp [putS]
  | t :: l => by
    have := putS_len s l
    unfold putS
    split
    · simp; omega
    · split
      · simp
      · simp
theorem puts_len : ∀ (N l : List Nm), (N.foldl putS l).length ≤ l.length + N.length
  | [], l => by simp
  | s :: N, l => by
    have := puts_len N (putS l s)
    have := putS_len s l
    rw [List.foldl_cons, List.length_cons]; omega
theorem nnL_getD : ∀ (l : List D) (i : Nat), (D.nnL l).getD i .undef = (l.getD i .undef).nn
  | [], i => by simp [D.nnL, D.nn]
  | d :: l, 0 => by simp [D.nnL]
  | d :: l, i + 1 => by simpa [D.nnL] using nnL_getD l i
theorem weak_nn {C : Cfg} {s : St} : Weak C s { s with env := D.nnL s.env } := by
  intro w0 B a w h
  obtain ⟨G, g0, gb, g1, g2, g3, g4⟩ := h
  refine ⟨G, g0, gb, g1, g2, by simpa [nnL_length] using g3, fun t => ?_⟩
  have := g4 t
  unfold St.slot at *
  split
  · rename_i i hi
    rw [hi] at this
    simp only [nnL_getD]
    exact Rel.nn _ this
  · rename_i hi; rw [hi] at this; exact this
def atN (l : List Ev) (i : Nat) : List Nm := ((l.take i).flatMap evNames).foldl putS []
theorem atN_len {l : List Ev} (h : l.length ≤ 4) (i : Nat) : (atN l i).length ≤ 8 := by
  unfold atN
  have := puts_len ((l.take i).flatMap evNames) []
  have h2 : ((l.take i).flatMap evNames).length ≤ 2 * (l.take i).length := by
    generalize l.take i = m
    induction m with
    | nil => simp
    | cons e m ih => have := evNames_len e; simp only [List.flatMap_cons, List.length_append, List.length_cons]; omega
  have h3 : (l.take i).length ≤ 4 := by rw [List.length_take]; omega
  rw [List.length_nil] at this
  omega
theorem ok_len {r : Rp} (h : repOk r = true) : r.opts.length ≤ 4 ∧ 1 ≤ r.opts.length ∧ ∀ e ∈ r.opts, evOk e = true := by
  rw [repOk_eq] at h
  simp only [Bool.and_eq_true, decide_eq_true_eq, goodN] at h
  exact ⟨h.1.2, h.1.1, List.all_eq_true.1 h.2.1⟩
theorem namesR_at {r : Rp} (h : repOk r = true) : namesR r = atN r.opts r.opts.length := by unfold namesR atN; rw [if_pos h, List.take_length]
end Go.Proofs.Ytofnggfpegcllaa
end
section
set_option maxRecDepth 100000
set_option linter.unusedSimpArgs false
set_option linter.unusedVariables false
namespace Go.Proofs.Ytofnggfpegcllaa
open Go GoV Go.RowKit
def und (n : Nat) : List D := List.replicate n .undef
theorem und_len (n : Nat) : (und n).length = n := by simp [und]
theorem rnL_app (β τ : Nat → Option Nat) : ∀ (a b : List D), D.rnL β τ (a ++ b) = D.rnL β τ a ++ D.rnL β τ b
  | [], b => rfl
  | x :: a, b => by simp [D.rnL, rnL_app β τ a b]
theorem rnL_strs (β τ : Nat → Option Nat) : ∀ l : List (List UInt8), D.rnL β τ (strs l) = strs l
  | [] => rfl
  | x :: l => by
    have := rnL_strs β τ l
    simp only [strs, List.map_cons, D.rnL, D.rn] at this ⊢
    rw [this]
theorem rnL_und (β τ : Nat → Option Nat) : ∀ n : Nat, D.rnL β τ (und n) = und n
  | 0 => rfl
  | n + 1 => by
    have := rnL_und β τ n
    simp only [und, List.replicate_succ, D.rnL, D.rn] at this ⊢
    rw [this]
theorem rnL_su (β τ : Nat → Option Nat) (l : List (List UInt8)) (n : Nat) : D.rnL β τ (strs l ++ und n) = strs l ++ und n := by rw [rnL_app, rnL_strs, rnL_und]
theorem su_len (N : List (List UInt8)) (u : Nat) : (strs N ++ und u).length = N.length + u := by rw [List.length_append, strs_len, und_len]
theorem chunk_su : ∀ (K : List (List UInt8)) (r : List D), chunk 1 K.length (strs K ++ r) = strs K
  | [], r => rfl
  | x :: K, r => by
    have := chunk_su K r
    simp only [strs, List.map_cons, List.length_cons, chunk, List.cons_append, List.drop_succ_cons, List.drop_zero] at this ⊢
    rw [this]; rfl
theorem cl_und (n : Nat) : D.closedL (und n) = true := by
  unfold und
  induction n with
  | zero => rfl
  | succ n ih => simp [List.replicate_succ, D.closedL, D.closed, ih]
theorem closedL_app : ∀ (a b : List D), D.closedL a = true → D.closedL b = true → D.closedL (a ++ b) = true
  | [], b, _, h => h
  | x :: a, b, h1, h2 => by
    simp only [D.closedL, Bool.and_eq_true, List.cons_append] at h1 ⊢
    exact ⟨h1.1, closedL_app a b h1.2 h2⟩
theorem er_und (n : Nat) : D.erL (und n) = und n := by
  unfold und
  induction n with
  | zero => rfl
  | succ n ih => simp [List.replicate_succ, D.erL, D.er, ih]
theorem erL_app : ∀ (a b : List D), D.erL (a ++ b) = D.erL a ++ D.erL b
  | [], b => rfl
  | x :: a, b => by simp [D.erL, erL_app a b]
def srtS (L : List Nm) : List Nm := L.mergeSort fun x y => decide (x ≤ y)
theorem sort_e (L : List (List UInt8)) (rest : List D) (n cap : Nat) (hn : n = L.length) (hc : n + rest.length = cap) (hl : n ≤ 1000000) :
    Eff M 47 [.sl 0 1 0 n cap] ⟨[.cells (strs L ++ rest)], []⟩ fun d hp => d = .tup [] ∧ hp = ⟨[.cells (strs (srtS L) ++ rest)], []⟩ := by
  refine eff_row (M := M) ⟨Try.f47, Try.func47, rfl, rfl⟩ Go.Proofs.encStr D.str (fun w g x => by simp [Rel, Go.Proofs.encStr]) (fun w g x y h => by simpa [Rel, Go.Proofs.encStr] using h) (fun x => by simp [oneC, Value.oneCell', Go.Proofs.encStr])
    L (srtS L) rest n cap hn (List.length_mergeSort _) hc fun w blk off hH hb => ?_
  exact (Try.slices_Sort_string blk off cap L w hH hb (by omega)).mono fun e w' hh => hh
theorem compact_len (L : List Nm) : (Lib.compact L).length ≤ L.length := by
  unfold Lib.compact Lib.compactUpTo
  rw [List.length_map]
  refine Nat.le_trans (List.length_filter_le _ _) ?_
  simp
def compS (L : List Nm) : List Nm := Lib.compact L ++ List.replicate (L.length - (Lib.compact L).length) []
theorem compS_len (L : List Nm) : (compS L).length = L.length := by
  have := compact_len L
  unfold compS; simp; omega
theorem compact_e (L : List (List UInt8)) (rest : List D) (n cap : Nat) (hn : n = L.length) (hc : n + rest.length = cap) (hl : n ≤ 1000000) :
    Eff M 48 [.sl 0 1 0 n cap] ⟨[.cells (strs L ++ rest)], []⟩ fun d hp => d = .sl 0 1 0 (Lib.compact L).length cap ∧ hp = ⟨[.cells (strs (compS L) ++ rest)], []⟩ := by
  refine eff_rowS (M := M) ⟨Try.f48, Try.func48, rfl, rfl⟩ Go.Proofs.encStr D.str (fun w g x => by simp [Rel, Go.Proofs.encStr]) (fun w g x y h => by simpa [Rel, Go.Proofs.encStr] using h) (fun x => by simp [oneC, Value.oneCell', Go.Proofs.encStr])
    L (compS L) rest n cap _ hn (compS_len L) hc fun w blk off hH hb => ?_
  refine (Try.slices_Compact_string blk off cap L w hH (by omega) (by omega)).mono fun e w' hh => ?_
  obtain ⟨h1, q, h2⟩ := hh
  exact ⟨h1, q, #[], by rw [Go.Sort.grow_empty]; exact h2⟩
theorem grow_e (n : Nat) (h0 : 0 < n) (h1 : n ≤ 1000) : Eff M 56 [.lit (.slice none 0 0), .int .i64 (n : Nat)] ⟨[], []⟩ fun d hp => d = .gs 0 0 ∧ hp = ⟨[], [.chg 1 []]⟩ := by
  have hi : (Try.prog.info? 9).map (fun i => (i.zero, i.size, i.bytes)) = some (some (Go.Value.string ⟨#[]⟩), 1, 16) := by kernel_rfl
  obtain ⟨i0, hi0, hi1⟩ := Option.map_eq_some_iff.1 hi
  simp only [Prod.mk.injEq] at hi1
  obtain ⟨z0, z1, z2⟩ := hi1
  have hz : (Go.Value.string ⟨#[]⟩).cells = #[Go.Value.string ⟨#[]⟩] := rfl
  refine eff_growG (M := M) (cap := fun w => grownCap w n 0 9) (cells := fun w => Builtin.zeroCells (Go.Value.string ⟨#[]⟩).cells n ++ Builtin.zeroCells (Go.Value.string ⟨#[]⟩).cells (grownCap w n 0 9 - n)) (ty := 9) (k := 1) ⟨Try.f56, Try.func56, rfl, rfl⟩ (by omega) (fun w => ?_) (fun w y hy => ?_) fun w => ?_
  · have := grownCap_ge w n 0 9
    rw [Array.size_append, size_zeroCells, size_zeroCells, hz]
    simp; omega
  · rw [Array.toList_append, List.mem_append] at hy
    have h1 : ∀ y ∈ (Go.Value.string ⟨#[]⟩).cells.toList, oneC y := by rw [hz]; intro y hy; simp at hy; subst hy; simp [oneC, Value.oneCell']
    rcases hy with hy | hy
    · exact zeroCells_one h1 _ y hy
    · exact zeroCells_one h1 _ y hy
  · have := Any8.slices_Grow_grow Try.growG i0 (Go.Value.string ⟨#[]⟩) hi0 z0 (by omega) none 0 0 n [] w (Nat.le_refl 0) (by omega) (by rw [z2]; omega) (by omega) (by simp) (fun _ => rfl) (by simp)
    refine this.mono fun e w' hh => ?_
    obtain ⟨h2, h3⟩ := hh
    simp only [Nat.zero_add] at h2 h3
    refine ⟨h2, ?_⟩
    rw [h3]
    simp [Try.growG_ren]
end Go.Proofs.Ytofnggfpegcllaa
end
section
set_option maxRecDepth 100000
set_option linter.unusedSimpArgs false
set_option linter.unusedVariables false
namespace Go.Proofs.Ytofnggfpegcllaa
open Go GoV Go.RowKit
def listsD (L : List (List Nm)) : List D := L.map fun N => .slice (strs N) .no
theorem lists_len (L : List (List Nm)) : (listsD L).length = L.length := by simp [listsD]
theorem lists_get {L : List (List Nm)} {i : Nat} (h : i < L.length) : (listsD L).getD i .undef = .slice (strs L[i]) .no := by simp [listsD, List.getD, h]
theorem cl_lists (L : List (List Nm)) : D.closedL (listsD L) = true := by induction L with | nil => rfl | cons x l ih => simp_all [listsD, D.closedL, D.closed]
theorem er_lists (L : List (List Nm)) : D.erL (listsD L) = listsD L := by induction L with | nil => rfl | cons x l ih => simp_all [listsD, D.erL, D.er]
theorem flat_strs : ∀ L : List Nm, flatD (strs L) = strs L
  | [] => rfl
  | x :: L => by
    have := flat_strs L
    simp only [strs, List.map_cons, flatD, D.cells] at this ⊢
    rw [this]; rfl
theorem take_flat {L : List (List Nm)} {i : Nat} (h : i < L.length) : (L.take (i + 1)).flatten = (L.take i).flatten ++ L[i] := by
  rw [List.take_succ_eq_append_getElem h, List.flatten_append]; simp
theorem flat_le (L : List (List Nm)) (i : Nat) : (L.take i).flatten.length ≤ L.flatten.length := by
  have : L.flatten = (L.take i).flatten ++ (L.drop i).flatten := by rw [← List.flatten_append, List.take_append_drop]
  rw [this, List.length_append]; omega
theorem concat_e (L : List (List Nm)) (hl : L.length ≤ 100) (h0 : 0 < L.flatten.length) (h1 : L.flatten.length ≤ 1000) :
    Eff M 46 [.slice (listsD L) .no] ⟨[], []⟩ fun d hp => d = .gs 0 L.flatten.length ∧ hp = ⟨[], [.chg 1 (strs L.flatten)]⟩ := by
  have hlen := lists_len L
  have cg := grow_e L.flatten.length h0 h1
  refine oe46 0 0 rfl rfl rfl ?_
  rw [ie46]
  unfold c46
  repeat' (first
    | with_reducible first | apply swp_seq | apply swp_reg | apply swp_regD | apply swp_block | apply swp_exit | apply swp_ret | apply swp_skip | apply swp_cd
    | simp only [go_sem, seval, pe46, q46, hlen]
    | simp (disch := omega) only [w64, w32, wu8, wu16, wu32, wu64]
    | ((with_reducible apply s_appT); (case he => rfl); (case hK | hc | hr | hV => first | rfl | assumption | omega | ((first | refine ⟨?_, ?_⟩ | skip) <;> first | omega | (simp only [lN, hlen] <;> omega)) | (simp [elemsK, D.isVal, D.cells, D.closedL, D.closed, hlen]; first | done | omega)))
    | ((with_reducible apply s_appG); (case he => rfl); (case hV | hK | hr | hl => first | rfl | assumption | omega | ((first | refine ⟨?_, ?_⟩ | skip) <;> first | omega | (simp only [lN, hlen] <;> omega)) | (simp [elemsK, D.isVal, D.cells, D.closedL, D.closed, hlen]; first | done | omega)))
    | ((with_reducible apply s_app0); (case he => rfl); (case hK | hc | hr => first | rfl | assumption | omega | ((first | refine ⟨?_, ?_⟩ | skip) <;> first | omega | (simp only [lN, hlen] <;> omega)) | (simp [elemsK, D.isVal, D.cells, D.closedL, D.closed, hlen]; first | done | omega)))
    | ((with_reducible apply s_appF); (case he => rfl); (case hK | hc | hr | hx | hn => first | rfl | assumption | omega | ((first | refine ⟨?_, ?_⟩ | skip) <;> first | omega | (simp only [lN, hlen] <;> omega)) | (simp [elemsK, D.isVal, D.cells, D.closedL, D.closed, hlen]; first | done | omega)))
    | with_reducible first | apply cd_dec | apply cd_eq | apply cd_ne | apply cd_split
    | ((with_reducible refine And.intro ?hw ?_); (case hw => first | omega | rfl | exact ⟨_, _, rfl⟩ | assumption | (simp only [lN, hlen] <;> omega)))
    | with_reducible intro _)
  refine swp_fam [0, 2, 6, 7, 8] (fun i : Nat => ⟨[.slice (listsD L) .no, .undef, .int .i64 ((L.take i).flatten.length : Nat), .undef, .undef, .undef, .slice (listsD L) .no, .int .i64 L.length, .int .i64 i, .undef, .undef, .undef, .undef, .undef, .undef], [], ⟨[], []⟩⟩) (fun i => i ≤ L.length) (fun i => L.length - i) 0 (by omega) ?_ ?_
  · simp [keepE, St.keep]
  · intro i hi
    by_cases hil : i < L.length
    · have hg := lists_get hil
      have ht := take_flat hil
      have hle := flat_le L (i + 1)
      rw [ht, List.length_append] at hle
      have hsl := strs_len L[i]
      have t0 : decide (((i : Nat) : Int) < L.length) = true := by simp; omega
      have t1 : decide ((((L.take i).flatten.length : Nat) : Int) + (L[i].length : Nat) < 0) = false := by simp only [decide_eq_false_iff_not]; omega
      repeat' (first
    | with_reducible first | apply swp_seq | apply swp_reg | apply swp_regD | apply swp_block | apply swp_exit | apply swp_ret | apply swp_skip | apply swp_cd
    | simp only [go_sem, seval, pe46, q46, hlen, hg, hsl, t0, t1]
    | simp (disch := omega) only [w64, w32, wu8, wu16, wu32, wu64]
    | ((with_reducible apply s_appT); (case he => rfl); (case hK | hc | hr | hV => first | rfl | assumption | omega | ((first | refine ⟨?_, ?_⟩ | skip) <;> first | omega | (simp only [lN, hlen, hg, hsl] <;> omega)) | (simp [elemsK, D.isVal, D.cells, D.closedL, D.closed, hlen, hg, hsl]; first | done | omega)))
    | ((with_reducible apply s_appG); (case he => rfl); (case hV | hK | hr | hl => first | rfl | assumption | omega | ((first | refine ⟨?_, ?_⟩ | skip) <;> first | omega | (simp only [lN, hlen, hg, hsl] <;> omega)) | (simp [elemsK, D.isVal, D.cells, D.closedL, D.closed, hlen, hg, hsl]; first | done | omega)))
    | ((with_reducible apply s_app0); (case he => rfl); (case hK | hc | hr => first | rfl | assumption | omega | ((first | refine ⟨?_, ?_⟩ | skip) <;> first | omega | (simp only [lN, hlen, hg, hsl] <;> omega)) | (simp [elemsK, D.isVal, D.cells, D.closedL, D.closed, hlen, hg, hsl]; first | done | omega)))
    | ((with_reducible apply s_appF); (case he => rfl); (case hK | hc | hr | hx | hn => first | rfl | assumption | omega | ((first | refine ⟨?_, ?_⟩ | skip) <;> first | omega | (simp only [lN, hlen, hg, hsl] <;> omega)) | (simp [elemsK, D.isVal, D.cells, D.closedL, D.closed, hlen, hg, hsl]; first | done | omega)))
    | with_reducible first | apply cd_dec | apply cd_eq | apply cd_ne | apply cd_split
    | ((with_reducible refine And.intro ?hw ?_); (case hw => first | omega | rfl | exact ⟨_, _, rfl⟩ | assumption | (simp only [lN, hlen, hg, hsl] <;> omega)))
    | with_reducible intro _)
      all_goals first | omega | skip
      refine ⟨i + 1, by omega, by omega, ?_⟩
      simp [keepE, St.keep, ht]
    · have t0 : decide (((i : Nat) : Int) < L.length) = false := by simp; omega
      have : i = L.length := by omega
      subst this
      rw [List.take_length]
      repeat' (first
    | with_reducible first | apply swp_seq | apply swp_reg | apply swp_regD | apply swp_block | apply swp_exit | apply swp_ret | apply swp_skip | apply swp_cd
    | simp only [go_sem, seval, pe46, q46, hlen, t0]
    | simp (disch := omega) only [w64, w32, wu8, wu16, wu32, wu64]
    | ((with_reducible refine o_eff [] [] (cg) ?hs ?he ?hh ?_); (case hs => exact ⟨by simp, by simp, by simp, by simp⟩); (case he => first | rfl | (simp [go_sem, seval, hlen, Hp.back, putAt, bakF, Blk.rnL, Tv.rnL, Tv.rn, D.rnL, D.rn, Own.rn]; done)); (case hh => first | rfl | (simp [go_sem, seval, hlen, Hp.back, putAt, bakF, Blk.rnL, Tv.rnL, Tv.rn, D.rnL, D.rn, Own.rn]; done)); rintro _ _ ⟨rfl, rfl⟩)
    | ((with_reducible apply s_appT); (case he => rfl); (case hK | hc | hr | hV => first | rfl | assumption | omega | ((first | refine ⟨?_, ?_⟩ | skip) <;> first | omega | (simp only [lN, hlen, Hp.back, putAt, bakF, Blk.rnL, Tv.rnL, Tv.rn, D.rnL, D.rn, Own.rn] <;> omega)) | (simp [elemsK, D.isVal, D.cells, D.closedL, D.closed, hlen, Hp.back, putAt, bakF, Blk.rnL, Tv.rnL, Tv.rn, D.rnL, D.rn, Own.rn]; first | done | omega)))
    | ((with_reducible apply s_appG); (case he => rfl); (case hV | hK | hr | hl => first | rfl | assumption | omega | ((first | refine ⟨?_, ?_⟩ | skip) <;> first | omega | (simp only [lN, hlen, Hp.back, putAt, bakF, Blk.rnL, Tv.rnL, Tv.rn, D.rnL, D.rn, Own.rn] <;> omega)) | (simp [elemsK, D.isVal, D.cells, D.closedL, D.closed, hlen, Hp.back, putAt, bakF, Blk.rnL, Tv.rnL, Tv.rn, D.rnL, D.rn, Own.rn]; first | done | omega)))
    | ((with_reducible apply s_app0); (case he => rfl); (case hK | hc | hr => first | rfl | assumption | omega | ((first | refine ⟨?_, ?_⟩ | skip) <;> first | omega | (simp only [lN, hlen, Hp.back, putAt, bakF, Blk.rnL, Tv.rnL, Tv.rn, D.rnL, D.rn, Own.rn] <;> omega)) | (simp [elemsK, D.isVal, D.cells, D.closedL, D.closed, hlen, Hp.back, putAt, bakF, Blk.rnL, Tv.rnL, Tv.rn, D.rnL, D.rn, Own.rn]; first | done | omega)))
    | ((with_reducible apply s_appF); (case he => rfl); (case hK | hc | hr | hx | hn => first | rfl | assumption | omega | ((first | refine ⟨?_, ?_⟩ | skip) <;> first | omega | (simp only [lN, hlen, Hp.back, putAt, bakF, Blk.rnL, Tv.rnL, Tv.rn, D.rnL, D.rn, Own.rn] <;> omega)) | (simp [elemsK, D.isVal, D.cells, D.closedL, D.closed, hlen, Hp.back, putAt, bakF, Blk.rnL, Tv.rnL, Tv.rn, D.rnL, D.rn, Own.rn]; first | done | omega)))
    | with_reducible first | apply cd_dec | apply cd_eq | apply cd_ne | apply cd_split
    | ((with_reducible refine And.intro ?hw ?_); (case hw => first | omega | rfl | exact ⟨_, _, rfl⟩ | assumption | (simp only [lN, hlen, Hp.back, putAt, bakF, Blk.rnL, Tv.rnL, Tv.rn, D.rnL, D.rn, Own.rn] <;> omega)))
    | with_reducible intro _)
      all_goals first | omega | skip
      refine swp_fam [4, 11, 12, 13] (fun i : Nat => ⟨[.undef, .undef, .undef, .undef, .gs 0 (L.take i).flatten.length, .undef, .undef, .undef, .undef, .undef, .undef, .slice (listsD L) .no, .int .i64 L.length, .int .i64 i, .undef], [], ⟨[], [.chg 1 (strs (L.take i).flatten)]⟩⟩) (fun i => i ≤ L.length) (fun i => L.length - i) 0 (by omega) ?_ ?_
      · simp [keepE, St.keep, Hp.back, putAt, bakF, Blk.rnL, Tv.rnL, Tv.rn, D.rnL, strs]
      · intro i hi
        by_cases hil : i < L.length
        · have hg := lists_get hil
          have ht := take_flat hil
          have hle := flat_le L (i + 1)
          rw [ht, List.length_append] at hle
          have hsl := strs_len L[i]
          have hsl2 := strs_len (L.take i).flatten
          have hes := elems_strs L[i]
          have hfl := flat_strs L[i]
          have t0 : decide (((i : Nat) : Int) < L.length) = true := by simp; omega
          have happ : strs (L.take i).flatten ++ strs L[i] = strs ((L.take i).flatten ++ L[i]) := (strs_app _ _).symm
          repeat' (first
    | with_reducible first | apply swp_seq | apply swp_reg | apply swp_regD | apply swp_block | apply swp_exit | apply swp_ret | apply swp_skip | apply swp_cd
    | simp only [go_sem, seval, pe46, q46, hlen, hg, hsl, t0]
    | simp (disch := omega) only [w64, w32, wu8, wu16, wu32, wu64]
    | ((with_reducible apply s_appT); (case he => rfl); (case hK | hc | hr | hV => first | rfl | assumption | omega | ((first | refine ⟨?_, ?_⟩ | skip) <;> first | omega | (simp only [lN, hlen, hg, hsl, hsl2] <;> omega)) | (simp [elemsK, D.isVal, D.cells, D.closedL, D.closed, hlen, hg, hsl, hsl2]; first | done | omega)))
    | ((with_reducible apply s_appG); (case he => rfl); (case hV | hK | hr | hl => first | rfl | assumption | omega | ((first | refine ⟨?_, ?_⟩ | skip) <;> first | omega | (simp only [lN, hlen, hg, hsl, hsl2] <;> omega)) | (simp [elemsK, D.isVal, D.cells, D.closedL, D.closed, hlen, hg, hsl, hsl2]; first | done | omega)))
    | ((with_reducible apply s_app0G); (case he => rfl); (case hK | hr => first | rfl | assumption | omega | ((first | refine ⟨?_, ?_⟩ | skip) <;> first | omega | (simp only [lN, hlen, hg, hsl, hsl2] <;> omega)) | (simp [elemsK, D.isVal, D.cells, D.closedL, D.closed, hlen, hg, hsl, hsl2]; first | done | omega)))
    | with_reducible first | apply cd_dec | apply cd_eq | apply cd_ne | apply cd_split
    | ((with_reducible refine And.intro ?hw ?_); (case hw => first | omega | rfl | exact ⟨_, _, rfl⟩ | assumption | (simp only [lN, hlen, hg, hsl, hsl2] <;> omega)))
    | with_reducible intro _)
          all_goals first | omega | skip
          refine ⟨i + 1, by omega, by omega, ?_⟩
          simp [keepE, St.keep, ht, hfl, happ, hsl]
        · have t0 : decide (((i : Nat) : Int) < L.length) = false := by simp; omega
          have : i = L.length := by omega
          subst this
          rw [List.take_length]
          repeat' (first
    | with_reducible first | apply swp_seq | apply swp_reg | apply swp_regD | apply swp_block | apply swp_exit | apply swp_ret | apply swp_skip | apply swp_cd
    | simp only [go_sem, seval, pe46, q46, hlen, t0]
    | simp (disch := omega) only [w64, w32, wu8, wu16, wu32, wu64]
    | ((with_reducible apply s_appT); (case he => rfl); (case hK | hc | hr | hV => first | rfl | assumption | omega | ((first | refine ⟨?_, ?_⟩ | skip) <;> first | omega | (simp only [lN, hlen] <;> omega)) | (simp [elemsK, D.isVal, D.cells, D.closedL, D.closed, hlen]; first | done | omega)))
    | ((with_reducible apply s_appG); (case he => rfl); (case hV | hK | hr | hl => first | rfl | assumption | omega | ((first | refine ⟨?_, ?_⟩ | skip) <;> first | omega | (simp only [lN, hlen] <;> omega)) | (simp [elemsK, D.isVal, D.cells, D.closedL, D.closed, hlen]; first | done | omega)))
    | ((with_reducible apply s_app0); (case he => rfl); (case hK | hc | hr => first | rfl | assumption | omega | ((first | refine ⟨?_, ?_⟩ | skip) <;> first | omega | (simp only [lN, hlen] <;> omega)) | (simp [elemsK, D.isVal, D.cells, D.closedL, D.closed, hlen]; first | done | omega)))
    | ((with_reducible apply s_appF); (case he => rfl); (case hK | hc | hr | hx | hn => first | rfl | assumption | omega | ((first | refine ⟨?_, ?_⟩ | skip) <;> first | omega | (simp only [lN, hlen] <;> omega)) | (simp [elemsK, D.isVal, D.cells, D.closedL, D.closed, hlen]; first | done | omega)))
    | with_reducible first | apply cd_dec | apply cd_eq | apply cd_ne | apply cd_split
    | ((with_reducible refine And.intro ?hw ?_); (case hw => first | omega | rfl | exact ⟨_, _, rfl⟩ | assumption | (simp only [lN, hlen] <;> omega)))
    | with_reducible intro _)
          all_goals first | omega | skip
          exact ⟨_, weak_refl, rfl, rfl⟩
end Go.Proofs.Ytofnggfpegcllaa
end
section
set_option maxRecDepth 100000
set_option linter.unusedSimpArgs false
set_option linter.unusedVariables false
namespace Go.Proofs.Ytofnggfpegcllaa
open Go GoV Go.RowKit
theorem comp_srt (N : List Nm) : Lib.compact (srtS N) = N.foldl putS [] := names_sorted N
set_option maxHeartbeats 1000000 in
theorem joined_p (L : List (List Nm)) (hl : L.length ≤ 100) (h0 : 0 < L.flatten.length) (h1 : L.flatten.length ≤ 1000) :
    Pur M 38 [.slice (listsD L) .no] (.slice (strs (L.flatten.foldl putS [])) .no) := by
  have cc := concat_e L hl h0 h1
  have hcl := cl_lists L
  have her := er_lists L
  refine ow38 rfl ?_
  rw [i38]
  unfold c38
  generalize hrc : RC.seq (.reg r38_2) (.seq (.reg r38_3) .ret) = rc at *
  repeat' (first
    | with_reducible first | apply swp_seq | apply swp_reg | apply swp_regD | apply swp_block | apply swp_exit | apply swp_ret | apply swp_skip | apply swp_cd
    | simp only [go_sem, seval, P38, q38]
    | simp (disch := omega) only [w64, w32, wu8, wu16, wu32, wu64]
    | ((with_reducible refine o_eff [] [] (cc) ?hs ?he ?hh ?_); (case hs => exact ⟨by simp, by simp, by simp, by simp⟩); (case he => first | rfl | (simp [go_sem, seval, hcl, her, Hp.back, putAt, bakF, Blk.rnL, Tv.rnL, Tv.rn, D.rnL, D.rn, Own.rn]; done)); (case hh => first | rfl | (simp [go_sem, seval, hcl, her, Hp.back, putAt, bakF, Blk.rnL, Tv.rnL, Tv.rn, D.rnL, D.rn, Own.rn]; done)); rintro _ _ ⟨rfl, rfl⟩)
    | with_reducible first | apply cd_dec | apply cd_eq | apply cd_ne | apply cd_split
    | ((with_reducible refine And.intro ?hw ?_); (case hw => first | omega | rfl | exact ⟨_, _, rfl⟩ | assumption | (simp only [lN, hcl, her, Hp.back, putAt, bakF, Blk.rnL, Tv.rnL, Tv.rn, D.rnL, D.rn, Own.rn] <;> omega)))
    | with_reducible intro _)
  have hr0 := fun β τ => rnL_strs β τ L.flatten
  simp only [Hp.back, putAt, bakF, Blk.rnL, Tv.rnL, Tv.rn, hr0, D.rn, List.append_nil, List.nil_append]
  rw [← comp_srt]
  generalize L.flatten = F at *
  refine swp_sl 2 0 1 F.length (strs F) rfl (by simp [List.length_nil]) (by rw [strs_len, Nat.mul_one]) (by unfold C38 E38; rfl) h0 fun cap hc => ?_
  simp only [St.toSl, List.set_cons_zero, List.set_cons_succ, List.length_cons, List.length_nil, List.nil_append, List.cons_append, Nat.mul_one]
  have hu : List.replicate (cap - F.length) D.undef = und (cap - F.length) := rfl
  rw [hu]
  have c1 := sort_e F (und (cap - F.length)) F.length cap rfl (by rw [und_len]; omega) (by omega)
  have hsl : (srtS F).length = F.length := List.length_mergeSort _
  have c2 := compact_e (srtS F) (und (cap - F.length)) F.length cap hsl.symm (by rw [und_len]; omega) (by omega)
  have hr1 := fun β τ => rnL_su β τ F (cap - F.length)
  have hr2 := fun β τ => rnL_su β τ (srtS F) (cap - F.length)
  have hr3 := fun β τ => rnL_su β τ (compS (srtS F)) (cap - F.length)
  rw [← hrc]
  repeat' (first
    | with_reducible first | apply swp_seq | apply swp_reg | apply swp_regD | apply swp_block | apply swp_exit | apply swp_ret | apply swp_skip | apply swp_cd
    | simp only [go_sem, seval, P38, q38]
    | simp (disch := omega) only [w64, w32, wu8, wu16, wu32, wu64]
    | ((with_reducible refine o_eff [0] [] (c1) ?hs ?he ?hh ?_); (case hs => exact ⟨by simp, by simp, by simp, by simp⟩); (case he => first | rfl | (simp [go_sem, seval, D.rnL, D.rn, posF, Hp.sel, Blk.rnL, Blk.rn, Tv.rnL, idx, hr1, hr2, hr3, Hp.back, putAt, bakF]; done)); (case hh => first | rfl | (simp [go_sem, seval, D.rnL, D.rn, posF, Hp.sel, Blk.rnL, Blk.rn, Tv.rnL, idx, hr1, hr2, hr3, Hp.back, putAt, bakF]; done)); rintro _ _ ⟨rfl, rfl⟩)
    | ((with_reducible refine o_eff [0] [] (c2) ?hs ?he ?hh ?_); (case hs => exact ⟨by simp, by simp, by simp, by simp⟩); (case he => first | rfl | (simp [go_sem, seval, D.rnL, D.rn, posF, Hp.sel, Blk.rnL, Blk.rn, Tv.rnL, idx, hr1, hr2, hr3, Hp.back, putAt, bakF]; done)); (case hh => first | rfl | (simp [go_sem, seval, D.rnL, D.rn, posF, Hp.sel, Blk.rnL, Blk.rn, Tv.rnL, idx, hr1, hr2, hr3, Hp.back, putAt, bakF]; done)); rintro _ _ ⟨rfl, rfl⟩)
    | with_reducible first | apply cd_dec | apply cd_eq | apply cd_ne | apply cd_split
    | ((with_reducible refine And.intro ?hw ?_); (case hw => first | omega | rfl | exact ⟨_, _, rfl⟩ | assumption | (simp only [lN, D.rnL, D.rn, posF, Hp.sel, Blk.rnL, Blk.rn, Tv.rnL, idx, hr1, hr2, hr3, Hp.back, putAt, bakF] <;> omega)))
    | with_reducible intro _)
  have hcs := cl_strs (compS (srtS F))
  have hcc := closedL_app _ _ hcs (cl_und (cap - F.length))
  refine ⟨_, weak_trans (weak_keep [1]) (weak_frz 0 (strs (compS (srtS F)) ++ und (cap - F.length)) (by simp [Hp.back, putAt, bakF, Blk.rnL, Blk.rn, hr1, hr2, hr3]) (Nat.zero_le _) hcc), ?_⟩
  have hes := er_strs (compS (srtS F))
  have he2 : D.erL (strs (compS (srtS F)) ++ und (cap - F.length)) = strs (compS (srtS F)) ++ und (cap - F.length) := by rw [erL_app, hes, er_und]
  rw [he2]
  have hlen := compS_len (srtS F)
  have hkl := compact_len (srtS F)
  have hch : chunk 1 (Lib.compact (srtS F)).length (strs (compS (srtS F)) ++ und (cap - F.length)) = strs (Lib.compact (srtS F)) := by
    unfold compS; rw [strs_app, List.append_assoc]; exact chunk_su _ _
  have hel := elems_strs (Lib.compact (srtS F))
  have hll : (strs (compS (srtS F)) ++ und (cap - F.length)).length = cap := by rw [su_len]; omega
  have hck := cl_strs (Lib.compact (srtS F))
  have hek := er_strs (Lib.compact (srtS F))
  have hle : (Lib.compact (srtS F)).length ≤ cap := by omega
  generalize Lib.compact (srtS F) = C at *
  simp [St.frz, keepE, D.fz, hch, hel, hll, hle, D.closed, D.er, D.rn, bakF]
theorem names_all {l : List Ev} (h : ∀ e ∈ l, evOk e = true) : l.length ≤ (l.flatMap evNames).length ∧ (l.flatMap evNames).length ≤ 2 * l.length := by
  induction l with
  | nil => simp
  | cons e l ih =>
    have := ih fun x hx => h x (List.mem_cons_of_mem _ hx)
    have h2 := evNames_len e
    have h1 : 1 ≤ (evNames e).length := by unfold evNames; rw [if_pos (h e (by simp))]; split <;> simp
    simp only [List.flatMap_cons, List.length_append, List.length_cons]; omega
def lsAt (l : List Ev) (i : Nat) : List D := listsD ((l.take i).map evNames)
theorem lsAt_len {l : List Ev} {i : Nat} (h : i ≤ l.length) : (lsAt l i).length = i := by unfold lsAt; rw [lists_len, List.length_map, List.length_take]; omega
set_option maxHeartbeats 1000000 in
theorem names_p (r : Rp) (hs : ∀ e ∈ r.opts, e.sh = true) : Pur M 21 [rpD r] (.slice (strs (namesR r)) .no) := by
  have c1 := rvalid_p r hs
  cases hv : repOk r
  · rw [hv] at c1
    have e1 : namesR r = [] := by unfold namesR; rw [hv]; rfl
    rw [e1]
    refine pur_res (d := .lit (.slice none 0 0)) ?_ rfl
    unfold rpD at *
    refine ok21 rfl ?_
    rw [i21]
    unfold c21
    repeat' (first
    | with_reducible first | apply swp_seq | apply swp_reg | apply swp_regD | apply swp_block | apply swp_exit | apply swp_ret | apply swp_skip | apply swp_cd
    | simp only [go_sem, seval, P21, q21]
    | simp (disch := omega) only [w64, w32, wu8, wu16, wu32, wu64]
    | ((with_reducible refine o_call (c1) ?he ?hc ?_); (case he | hc => first | rfl | (simp [D.erL, D.er, D.closedL, D.closed]; done)))
    | ((with_reducible apply s_appT); (case he => rfl); (case hK | hc | hr | hV => first | rfl | assumption | omega | ((first | refine ⟨?_, ?_⟩ | skip) <;> first | omega | (simp only [lN] <;> omega)) | (simp [elemsK, D.isVal, D.cells, D.closedL, D.closed]; first | done | omega)))
    | ((with_reducible apply s_appG); (case he => rfl); (case hV | hK | hr | hl => first | rfl | assumption | omega | ((first | refine ⟨?_, ?_⟩ | skip) <;> first | omega | (simp only [lN] <;> omega)) | (simp [elemsK, D.isVal, D.cells, D.closedL, D.closed]; first | done | omega)))
    | ((with_reducible apply s_app0); (case he => rfl); (case hK | hc | hr => first | rfl | assumption | omega | ((first | refine ⟨?_, ?_⟩ | skip) <;> first | omega | (simp only [lN] <;> omega)) | (simp [elemsK, D.isVal, D.cells, D.closedL, D.closed]; first | done | omega)))
    | ((with_reducible apply s_appF); (case he => rfl); (case hK | hc | hr | hx | hn => first | rfl | assumption | omega | ((first | refine ⟨?_, ?_⟩ | skip) <;> first | omega | (simp only [lN] <;> omega)) | (simp [elemsK, D.isVal, D.cells, D.closedL, D.closed]; first | done | omega)))
    | ((with_reducible apply s_bsl); (case he | hl | hc => first | rfl | assumption | omega | ((first | refine ⟨?_, ?_⟩ | skip) <;> first | omega | (simp only [lN] <;> omega)) | (simp [elemsK, D.isVal, D.cells, D.closedL, D.closed]; first | done | omega)))
    | with_reducible first | apply cd_dec | apply cd_eq | apply cd_ne | apply cd_split
    | ((with_reducible refine And.intro ?hw ?_); (case hw => first | omega | rfl | exact ⟨_, _, rfl⟩ | assumption | (simp only [lN] <;> omega)))
    | with_reducible intro _)
    all_goals simp [D.closed, D.er]
  · rw [hv] at c1
    obtain ⟨h4, h1, hev⟩ := ok_len hv
    have hn : namesR r = (r.opts.flatMap evNames).foldl putS [] := by unfold namesR; rw [if_pos hv]
    rw [hn]
    rcases r with ⟨l, d⟩
    simp only at h4 h1 hs hev ⊢
    obtain ⟨na1, na2⟩ := names_all hev
    have hfm : (l.map evNames).flatten = l.flatMap evNames := rfl
    have cj := joined_p (l.map evNames) (by simp; omega) (by rw [hfm]; omega) (by rw [hfm]; omega)
    rw [hfm] at cj
    have hclj := cl_lists (l.map evNames)
    have herj := er_lists (l.map evNames)
    unfold rpD at *
    simp only at c1 ⊢
    have hlen : (l.map evD).length = l.length := by simp
    have hcs := cl_strs ((l.flatMap evNames).foldl putS [])
    have hes := er_strs ((l.flatMap evNames).foldl putS [])
    refine ow21 rfl ?_
    rw [i21]
    unfold c21
    repeat' (first
    | with_reducible first | apply swp_seq | apply swp_reg | apply swp_regD | apply swp_block | apply swp_exit | apply swp_ret | apply swp_skip | apply swp_cd
    | simp only [go_sem, seval, P21, q21]
    | simp (disch := omega) only [w64, w32, wu8, wu16, wu32, wu64]
    | ((with_reducible refine o_call (c1) ?he ?hc ?_); (case he | hc => first | rfl | (simp [D.erL, D.er, D.closedL, D.closed]; done)))
    | ((with_reducible apply s_appT); (case he => rfl); (case hK | hc | hr | hV => first | rfl | assumption | omega | ((first | refine ⟨?_, ?_⟩ | skip) <;> first | omega | (simp only [lN] <;> omega)) | (simp [elemsK, D.isVal, D.cells, D.closedL, D.closed]; first | done | omega)))
    | ((with_reducible apply s_appG); (case he => rfl); (case hV | hK | hr | hl => first | rfl | assumption | omega | ((first | refine ⟨?_, ?_⟩ | skip) <;> first | omega | (simp only [lN] <;> omega)) | (simp [elemsK, D.isVal, D.cells, D.closedL, D.closed]; first | done | omega)))
    | ((with_reducible apply s_app0); (case he => rfl); (case hK | hc | hr => first | rfl | assumption | omega | ((first | refine ⟨?_, ?_⟩ | skip) <;> first | omega | (simp only [lN] <;> omega)) | (simp [elemsK, D.isVal, D.cells, D.closedL, D.closed]; first | done | omega)))
    | ((with_reducible apply s_appF); (case he => rfl); (case hK | hc | hr | hx | hn => first | rfl | assumption | omega | ((first | refine ⟨?_, ?_⟩ | skip) <;> first | omega | (simp only [lN] <;> omega)) | (simp [elemsK, D.isVal, D.cells, D.closedL, D.closed]; first | done | omega)))
    | ((with_reducible apply s_bsl); (case he | hl | hc => first | rfl | assumption | omega | ((first | refine ⟨?_, ?_⟩ | skip) <;> first | omega | (simp only [lN] <;> omega)) | (simp [elemsK, D.isVal, D.cells, D.closedL, D.closed]; first | done | omega)))
    | with_reducible first | apply cd_dec | apply cd_eq | apply cd_ne | apply cd_split
    | ((with_reducible refine And.intro ?hw ?_); (case hw => first | omega | rfl | exact ⟨_, _, rfl⟩ | assumption | (simp only [lN] <;> omega)))
    | with_reducible intro _)
    refine swp_weak (weak_trans (weak_keep [1, 3, 6, 7, 8]) (weak_new 3 1 (by omega) false rfl)) ?_
    simp only [keepE]
    refine swp_famG [1, 3, 6, 7, 8] 1 1 (Nat.zero_le 1) (Nat.zero_le 1) (fun i : Nat => ⟨[.undef, .ptr 0 0, .undef, .slice (lsAt l i) (.tok 0), .undef, .undef, evsD l, .int .i64 l.length, .int .i64 i, .undef], [], ⟨[.cells [evsD l, .bool d]], [.per 1 i]⟩⟩)
      (fun i => i ≤ l.length) (fun i => l.length - i) 0 (by omega) ?_ ?_
    · simp [keepE, St.keep, St.keepG, St.gc, Hp.cut, D.rn, D.rnL, Blk.rnL, Blk.rn, Tv.rnL, Tv.rn, cutF, Own.rn, lsAt, listsD]
    · intro i hi
      by_cases hil : i < l.length
      · have t2 : decide (((i : Nat) : Int) < l.length) = true := by simp; omega
        have hg := ev_get hil
        have c2 := enames_p l[i] (hs _ (List.getElem_mem _)) (hev _ (List.getElem_mem _))
        rw [show evD l[i] = .agg l[i].cells from rfl] at c2
        have hc2 := cl_strs (evNames l[i])
        have he2 := er_strs (evNames l[i])
        have hll := lsAt_len (show i ≤ l.length by omega)
        have e4 : lsAt l (i + 1) = lsAt l i ++ [.slice (strs (evNames l[i])) .no] := by
          unfold lsAt
          rw [List.take_succ_eq_append_getElem hil, List.map_append]; simp [listsD, -List.map_take]
        repeat' (first
    | with_reducible first | apply swp_seq | apply swp_reg | apply swp_regD | apply swp_block | apply swp_exit | apply swp_ret | apply swp_skip | apply swp_cd
    | simp only [go_sem, seval, P21, q21, Ev.cells, hlen, t2, hg]
    | simp (disch := omega) only [w64, w32, wu8, wu16, wu32, wu64]
    | ((with_reducible refine o_call (c2) ?he ?hc ?_); (case he | hc => first | rfl | (simp [D.erL, D.er, D.closedL, D.closed, hlen, hg, hll]; done)))
    | ((with_reducible apply s_appT); (case he => rfl); (case hK | hc | hr | hV => first | rfl | assumption | omega | ((first | refine ⟨?_, ?_⟩ | skip) <;> first | omega | (simp only [lN, hlen, hg, hll] <;> omega)) | (simp [elemsK, D.isVal, D.cells, D.closedL, D.closed, hlen, hg, hll]; first | done | omega)))
    | ((with_reducible apply s_appG); (case he => rfl); (case hV | hK | hr | hl => first | rfl | assumption | omega | ((first | refine ⟨?_, ?_⟩ | skip) <;> first | omega | (simp only [lN, hlen, hg, hll] <;> omega)) | (simp [elemsK, D.isVal, D.cells, D.closedL, D.closed, hlen, hg, hll]; first | done | omega)))
    | ((with_reducible apply s_app0); (case he => rfl); (case hK | hc | hr => first | rfl | assumption | omega | ((first | refine ⟨?_, ?_⟩ | skip) <;> first | omega | (simp only [lN, hlen, hg, hll] <;> omega)) | (simp [elemsK, D.isVal, D.cells, D.closedL, D.closed, hlen, hg, hll]; first | done | omega)))
    | ((with_reducible apply s_appF); (case he => rfl); (case hK | hc | hr | hx | hn => first | rfl | assumption | omega | ((first | refine ⟨?_, ?_⟩ | skip) <;> first | omega | (simp only [lN, hlen, hg, hll] <;> omega)) | (simp [elemsK, D.isVal, D.cells, D.closedL, D.closed, hlen, hg, hll]; first | done | omega)))
    | ((with_reducible apply s_bsl); (case he | hl | hc => first | rfl | assumption | omega | ((first | refine ⟨?_, ?_⟩ | skip) <;> first | omega | (simp only [lN, hlen, hg, hll] <;> omega)) | (simp [elemsK, D.isVal, D.cells, D.closedL, D.closed, hlen, hg, hll]; first | done | omega)))
    | with_reducible first | apply cd_dec | apply cd_eq | apply cd_ne | apply cd_split
    | ((with_reducible refine And.intro ?hw ?_); (case hw => first | omega | rfl | exact ⟨_, _, rfl⟩ | assumption | (simp only [lN, hlen, hg, hll] <;> omega)))
    | with_reducible intro _)
        all_goals first | omega | skip
        refine ⟨i + 1, by omega, by omega, ?_⟩
        simp [keepE, St.keep, St.keepG, St.gc, Hp.cut, D.rn, D.rnL, Blk.rnL, Blk.rn, Tv.rnL, Tv.rn, cutF, Own.rn, e4, D.erL, D.er, hll]
      · have t2 : decide (((i : Nat) : Int) < l.length) = false := by simp; omega
        have : i = l.length := by omega
        subst this
        unfold lsAt
        rw [List.take_length]
        repeat' (first
    | with_reducible first | apply swp_seq | apply swp_reg | apply swp_regD | apply swp_block | apply swp_exit | apply swp_ret | apply swp_skip | apply swp_cd
    | simp only [go_sem, seval, P21, q21, hlen, t2]
    | simp (disch := omega) only [w64, w32, wu8, wu16, wu32, wu64]
    | ((with_reducible refine o_call (cj) ?he ?hc ?_); (case he | hc => first | rfl | (simp [D.erL, D.er, D.closedL, D.closed, hlen, hclj, herj]; done)))
    | ((with_reducible apply s_appT); (case he => rfl); (case hK | hc | hr | hV => first | rfl | assumption | omega | ((first | refine ⟨?_, ?_⟩ | skip) <;> first | omega | (simp only [lN, hlen, hclj, herj] <;> omega)) | (simp [elemsK, D.isVal, D.cells, D.closedL, D.closed, hlen, hclj, herj]; first | done | omega)))
    | ((with_reducible apply s_appG); (case he => rfl); (case hV | hK | hr | hl => first | rfl | assumption | omega | ((first | refine ⟨?_, ?_⟩ | skip) <;> first | omega | (simp only [lN, hlen, hclj, herj] <;> omega)) | (simp [elemsK, D.isVal, D.cells, D.closedL, D.closed, hlen, hclj, herj]; first | done | omega)))
    | ((with_reducible apply s_app0); (case he => rfl); (case hK | hc | hr => first | rfl | assumption | omega | ((first | refine ⟨?_, ?_⟩ | skip) <;> first | omega | (simp only [lN, hlen, hclj, herj] <;> omega)) | (simp [elemsK, D.isVal, D.cells, D.closedL, D.closed, hlen, hclj, herj]; first | done | omega)))
    | ((with_reducible apply s_appF); (case he => rfl); (case hK | hc | hr | hx | hn => first | rfl | assumption | omega | ((first | refine ⟨?_, ?_⟩ | skip) <;> first | omega | (simp only [lN, hlen, hclj, herj] <;> omega)) | (simp [elemsK, D.isVal, D.cells, D.closedL, D.closed, hlen, hclj, herj]; first | done | omega)))
    | ((with_reducible apply s_bsl); (case he | hl | hc => first | rfl | assumption | omega | ((first | refine ⟨?_, ?_⟩ | skip) <;> first | omega | (simp only [lN, hlen, hclj, herj] <;> omega)) | (simp [elemsK, D.isVal, D.cells, D.closedL, D.closed, hlen, hclj, herj]; first | done | omega)))
    | with_reducible first | apply cd_dec | apply cd_eq | apply cd_ne | apply cd_split
    | ((with_reducible refine And.intro ?hw ?_); (case hw => first | omega | rfl | exact ⟨_, _, rfl⟩ | assumption | (simp only [lN, hlen, hclj, herj] <;> omega)))
    | with_reducible intro _)
        all_goals first | omega | skip
        exact ⟨_, weak_refl, by simp [D.closed], by simp [D.er]⟩
end Go.Proofs.Ytofnggfpegcllaa
end
