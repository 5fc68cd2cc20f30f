/- The resolved code of the functions that the claim reaches, printed by a program, and the facts that tie it to the translation. -/
import Derived.Test.YtniglomooepbcaaDoorProg
import Derived.Test.YtniglomooepbcaaDoorEs
import Derived.KernelRfl
import Derived.Lib.ItoaNum
set_option maxRecDepth 100000
namespace Go.Proofs.YtniglomooepbcaaDoor
open Go GoV
/-- The program, and what is known of its variables: the table of the powers of ten. -/
noncomputable def M : Mod := tabMod Tryd.prog [(2, (Lib.pow10Tab.map (Value.int .u64 ·)).toArray)]

/- 20 bogie.money.between[int] · 3 arguments · kept slots [0, 1, 2, 6] -/
noncomputable def E20 (n m : Nat) : Cfg := ⟨M, [0, 1, 2, 6], 15, n, m⟩
noncomputable def C20 : Cfg := E20 0 0
@[reducible] noncomputable def r20_0 : List RO := [
  ⟨(.var 3), .mv, [(.con (.bool false))], none⟩]
@[reducible] noncomputable def r20_1 : List RO := [
  ⟨(.loc 7), .mv, [(.var 0)], none⟩,
  ⟨(.loc 8), .mv, [(.var 1)], none⟩,
  ⟨(.loc 9), (.bin .geq), [(.loc 7), (.loc 8)], none⟩,
  ⟨(.loc 10), .mv, [(.loc 9)], none⟩,
  ⟨(.loc 11), .mv, [(.var 0)], (some ((.loc 10), true))⟩,
  ⟨(.loc 12), .mv, [(.var 2)], (some ((.loc 10), true))⟩,
  ⟨(.loc 13), (.bin .leq), [(.loc 11), (.loc 12)], (some ((.loc 10), true))⟩,
  ⟨(.loc 14), .pick, [(.loc 10), (.loc 13), (.con (.bool false))], none⟩,
  ⟨(.var 3), .mv, [(.loc 14)], none⟩]
theorem P20 : C20.M = M := by unfold C20 E20; rfl
theorem pe20 {n m : Nat} : (E20 n m).M = M := by unfold E20; rfl
theorem i20 {a0 a1 a2 : D} : St.init C20 [a0, a1, a2] ⟨[], []⟩ = ⟨[a0, a1, a2, .undef], [], ⟨[], []⟩⟩ := by unfold C20 E20; rfl
theorem ie20 {n m : Nat} {hp : Hp} {a0 a1 a2 : D} : St.init (E20 n m) [a0, a1, a2] hp = ⟨[a0, a1, a2, .undef], [], hp⟩ := by unfold E20; rfl
noncomputable def c20 : RC := (.seq (.reg r20_0) (.seq (.reg r20_1) .ret))
noncomputable def q20 : List RR := [(.slot (.var 3))]
theorem z20 {n m : Nat} : resCode (E20 n m) (Tryd.f20.body.getD .skip) = some c20 := by kernel_rfl
theorem zr20 {n m : Nat} : resRs (E20 n m) Tryd.f20.results.toList = some q20 := by kernel_rfl
theorem oe20 {args : List D} {hp : Hp} {R : D → Hp → Prop} (n m : Nat) (hl : args.length = 3) (hn : n = hp.H.length) (hm : m = hp.tk.length) (h : SWp (E20 n m) c20 (fun e s => (match e with | .exit _ => False | _ => True) ∧ ∃ s1, Weak (E20 n m) s s1 ∧ rrsWp q20 s1 fun ds => R (oneOrTup ds) s1.hp) (St.init (E20 n m) args hp)) : Eff M 20 args hp R :=
  eff_of_body (C := E20 n m) (fn := Tryd.f20) Tryd.func20 (by kernel_rfl) (by kernel_rfl) (rc := c20) z20 (rs := q20) zr20 (by kernel_rfl) (by rw [hl]; rfl) (by rw [hl]; exact (by decide : 3 ≤ 15)) hn hm h
theorem ow20 {args : List D} {d : D} (hl : args.length = 3) (h : SWp C20 c20 (fun e s => (match e with | .exit _ => False | _ => True) ∧ ∃ s1, Weak C20 s s1 ∧ rrsWp q20 s1 fun ds => D.closed (oneOrTup ds) = true ∧ (oneOrTup ds).er = d) (St.init C20 args ⟨[], []⟩)) : Pur M 20 args d :=
  pur_of_bodyW (C := C20) (fn := Tryd.f20) Tryd.func20 (by kernel_rfl) (by kernel_rfl) (rc := c20) z20 (rs := q20) zr20 (by kernel_rfl) (by rw [hl]; rfl) (by rw [hl]; decide) rfl rfl h
theorem ok20 {args : List D} {d : D} (hl : args.length = 3) (h : SWp C20 c20 (fun e s => (match e with | .exit _ => False | _ => True) ∧ rrsWp q20 s fun ds => D.closed (oneOrTup ds) = true ∧ (oneOrTup ds).er = d) (St.init C20 args ⟨[], []⟩)) : Pur M 20 args d :=
  pur_of_body (C := C20) (fn := Tryd.f20) Tryd.func20 (by kernel_rfl) (by kernel_rfl) (rc := c20) z20 (rs := q20) zr20 (by kernel_rfl) (by rw [hl]; rfl) (by rw [hl]; decide) rfl rfl h

/- 30 bogie.money.between[rune] · 3 arguments · kept slots [0, 1, 2, 6] -/
noncomputable def E30 (n m : Nat) : Cfg := ⟨M, [0, 1, 2, 6], 15, n, m⟩
noncomputable def C30 : Cfg := E30 0 0
@[reducible] noncomputable def r30_0 : List RO := [
  ⟨(.var 3), .mv, [(.con (.bool false))], none⟩]
@[reducible] noncomputable def r30_1 : List RO := [
  ⟨(.loc 7), .mv, [(.var 0)], none⟩,
  ⟨(.loc 8), .mv, [(.var 1)], none⟩,
  ⟨(.loc 9), (.bin .geq), [(.loc 7), (.loc 8)], none⟩,
  ⟨(.loc 10), .mv, [(.loc 9)], none⟩,
  ⟨(.loc 11), .mv, [(.var 0)], (some ((.loc 10), true))⟩,
  ⟨(.loc 12), .mv, [(.var 2)], (some ((.loc 10), true))⟩,
  ⟨(.loc 13), (.bin .leq), [(.loc 11), (.loc 12)], (some ((.loc 10), true))⟩,
  ⟨(.loc 14), .pick, [(.loc 10), (.loc 13), (.con (.bool false))], none⟩,
  ⟨(.var 3), .mv, [(.loc 14)], none⟩]
theorem P30 : C30.M = M := by unfold C30 E30; rfl
theorem pe30 {n m : Nat} : (E30 n m).M = M := by unfold E30; rfl
theorem i30 {a0 a1 a2 : D} : St.init C30 [a0, a1, a2] ⟨[], []⟩ = ⟨[a0, a1, a2, .undef], [], ⟨[], []⟩⟩ := by unfold C30 E30; rfl
theorem ie30 {n m : Nat} {hp : Hp} {a0 a1 a2 : D} : St.init (E30 n m) [a0, a1, a2] hp = ⟨[a0, a1, a2, .undef], [], hp⟩ := by unfold E30; rfl
noncomputable def c30 : RC := (.seq (.reg r30_0) (.seq (.reg r30_1) .ret))
noncomputable def q30 : List RR := [(.slot (.var 3))]
theorem z30 {n m : Nat} : resCode (E30 n m) (Tryd.f30.body.getD .skip) = some c30 := by kernel_rfl
theorem zr30 {n m : Nat} : resRs (E30 n m) Tryd.f30.results.toList = some q30 := by kernel_rfl
theorem oe30 {args : List D} {hp : Hp} {R : D → Hp → Prop} (n m : Nat) (hl : args.length = 3) (hn : n = hp.H.length) (hm : m = hp.tk.length) (h : SWp (E30 n m) c30 (fun e s => (match e with | .exit _ => False | _ => True) ∧ ∃ s1, Weak (E30 n m) s s1 ∧ rrsWp q30 s1 fun ds => R (oneOrTup ds) s1.hp) (St.init (E30 n m) args hp)) : Eff M 30 args hp R :=
  eff_of_body (C := E30 n m) (fn := Tryd.f30) Tryd.func30 (by kernel_rfl) (by kernel_rfl) (rc := c30) z30 (rs := q30) zr30 (by kernel_rfl) (by rw [hl]; rfl) (by rw [hl]; exact (by decide : 3 ≤ 15)) hn hm h
theorem ow30 {args : List D} {d : D} (hl : args.length = 3) (h : SWp C30 c30 (fun e s => (match e with | .exit _ => False | _ => True) ∧ ∃ s1, Weak C30 s s1 ∧ rrsWp q30 s1 fun ds => D.closed (oneOrTup ds) = true ∧ (oneOrTup ds).er = d) (St.init C30 args ⟨[], []⟩)) : Pur M 30 args d :=
  pur_of_bodyW (C := C30) (fn := Tryd.f30) Tryd.func30 (by kernel_rfl) (by kernel_rfl) (rc := c30) z30 (rs := q30) zr30 (by kernel_rfl) (by rw [hl]; rfl) (by rw [hl]; decide) rfl rfl h
theorem ok30 {args : List D} {d : D} (hl : args.length = 3) (h : SWp C30 c30 (fun e s => (match e with | .exit _ => False | _ => True) ∧ rrsWp q30 s fun ds => D.closed (oneOrTup ds) = true ∧ (oneOrTup ds).er = d) (St.init C30 args ⟨[], []⟩)) : Pur M 30 args d :=
  pur_of_body (C := C30) (fn := Tryd.f30) Tryd.func30 (by kernel_rfl) (by kernel_rfl) (rc := c30) z30 (rs := q30) zr30 (by kernel_rfl) (by rw [hl]; rfl) (by rw [hl]; decide) rfl rfl h

/- 26 bogie.bogieref03.Is · 1 arguments · kept slots [0, 2] -/
noncomputable def E26 (n m : Nat) : Cfg := ⟨M, [0, 2], 9, n, m⟩
noncomputable def C26 : Cfg := E26 0 0
@[reducible] noncomputable def r26_0 : List RO := [
  ⟨(.var 1), .mv, [(.con (.bool false))], none⟩]
@[reducible] noncomputable def r26_1 : List RO := [
  ⟨(.loc 3), .mv, [(.var 0)], none⟩,
  ⟨(.loc 4), (.bin .geq), [(.loc 3), (.con (.int .i64 0))], none⟩,
  ⟨(.loc 5), .mv, [(.loc 4)], none⟩,
  ⟨(.loc 6), .mv, [(.var 0)], (some ((.loc 5), true))⟩,
  ⟨(.loc 7), (.bin .leq), [(.loc 6), (.con (.int .i64 1000000000000))], (some ((.loc 5), true))⟩,
  ⟨(.loc 8), .pick, [(.loc 5), (.loc 7), (.con (.bool false))], none⟩,
  ⟨(.var 1), .mv, [(.loc 8)], none⟩]
theorem P26 : C26.M = M := by unfold C26 E26; rfl
theorem pe26 {n m : Nat} : (E26 n m).M = M := by unfold E26; rfl
theorem i26 {a0 : D} : St.init C26 [a0] ⟨[], []⟩ = ⟨[a0, .undef], [], ⟨[], []⟩⟩ := by unfold C26 E26; rfl
theorem ie26 {n m : Nat} {hp : Hp} {a0 : D} : St.init (E26 n m) [a0] hp = ⟨[a0, .undef], [], hp⟩ := by unfold E26; rfl
noncomputable def c26 : RC := (.seq (.reg r26_0) (.seq (.reg r26_1) .ret))
noncomputable def q26 : List RR := [(.slot (.var 1))]
theorem z26 {n m : Nat} : resCode (E26 n m) (Tryd.f26.body.getD .skip) = some c26 := by kernel_rfl
theorem zr26 {n m : Nat} : resRs (E26 n m) Tryd.f26.results.toList = some q26 := by kernel_rfl
theorem oe26 {args : List D} {hp : Hp} {R : D → Hp → Prop} (n m : Nat) (hl : args.length = 1) (hn : n = hp.H.length) (hm : m = hp.tk.length) (h : SWp (E26 n m) c26 (fun e s => (match e with | .exit _ => False | _ => True) ∧ ∃ s1, Weak (E26 n m) s s1 ∧ rrsWp q26 s1 fun ds => R (oneOrTup ds) s1.hp) (St.init (E26 n m) args hp)) : Eff M 26 args hp R :=
  eff_of_body (C := E26 n m) (fn := Tryd.f26) Tryd.func26 (by kernel_rfl) (by kernel_rfl) (rc := c26) z26 (rs := q26) zr26 (by kernel_rfl) (by rw [hl]; rfl) (by rw [hl]; exact (by decide : 1 ≤ 9)) hn hm h
theorem ow26 {args : List D} {d : D} (hl : args.length = 1) (h : SWp C26 c26 (fun e s => (match e with | .exit _ => False | _ => True) ∧ ∃ s1, Weak C26 s s1 ∧ rrsWp q26 s1 fun ds => D.closed (oneOrTup ds) = true ∧ (oneOrTup ds).er = d) (St.init C26 args ⟨[], []⟩)) : Pur M 26 args d :=
  pur_of_bodyW (C := C26) (fn := Tryd.f26) Tryd.func26 (by kernel_rfl) (by kernel_rfl) (rc := c26) z26 (rs := q26) zr26 (by kernel_rfl) (by rw [hl]; rfl) (by rw [hl]; decide) rfl rfl h
theorem ok26 {args : List D} {d : D} (hl : args.length = 1) (h : SWp C26 c26 (fun e s => (match e with | .exit _ => False | _ => True) ∧ rrsWp q26 s fun ds => D.closed (oneOrTup ds) = true ∧ (oneOrTup ds).er = d) (St.init C26 args ⟨[], []⟩)) : Pur M 26 args d :=
  pur_of_body (C := C26) (fn := Tryd.f26) Tryd.func26 (by kernel_rfl) (by kernel_rfl) (rc := c26) z26 (rs := q26) zr26 (by kernel_rfl) (by rw [hl]; rfl) (by rw [hl]; decide) rfl rfl h

/- 18 bogie.bogieref03.Total · 1 arguments · kept slots [0, 2, 3, 4, 7, 11, 25, 33] -/
noncomputable def E18 (n m : Nat) : Cfg := ⟨M, [0, 2, 3, 4, 7, 11, 25, 33], 35, n, m⟩
noncomputable def C18 : Cfg := E18 0 0
@[reducible] noncomputable def r18_0 : List RO := [
  ⟨(.var 1), .mv, [(.con (.int .i64 0))], none⟩]
@[reducible] noncomputable def r18_1 : List RO := [
  ⟨(.var 2), .mv, [(.con (.int .i64 0))], none⟩]
@[reducible] noncomputable def r18_2 : List RO := [
  ⟨(.loc 5), .mv, [(.var 0)], none⟩,
  ⟨(.loc 6), .lenL, [(.loc 5)], none⟩,
  ⟨(.var 4), (.bin .gtr), [(.loc 6), (.con (.int .i64 16))], none⟩]
@[reducible] noncomputable def r18_3 : List RO := [
  ⟨(.var 1), .mv, [(.con (.int .i64 (-1)))], none⟩]
@[reducible] noncomputable def r18_4 : List RO := [
  ⟨(.var 3), .mv, [(.con (.int .i64 0))], none⟩]
@[reducible] noncomputable def r18_5 : List RO := [
  ⟨(.loc 8), .mv, [(.var 3)], none⟩,
  ⟨(.loc 9), .mv, [(.var 0)], none⟩,
  ⟨(.loc 10), .lenL, [(.loc 9)], none⟩,
  ⟨(.var 5), (.bin .lss), [(.loc 8), (.loc 10)], none⟩]
@[reducible] noncomputable def r18_6 : List RO := [
  ⟨(.loc 14), .mv, [(.var 0)], none⟩,
  ⟨(.loc 15), .mv, [(.var 3)], none⟩,
  ⟨(.loc 16), (.ixaS 1), [(.loc 14), (.loc 15)], none⟩,
  ⟨(.loc 17), (.ld false 1), [(.loc 16)], none⟩,
  ⟨(.loc 18), (.bin .lss), [(.loc 17), (.con (.int .i64 0))], none⟩,
  ⟨(.loc 19), .mv, [(.loc 18)], none⟩,
  ⟨(.loc 20), .mv, [(.var 0)], (some ((.loc 19), false))⟩,
  ⟨(.loc 21), .mv, [(.var 3)], (some ((.loc 19), false))⟩,
  ⟨(.loc 22), (.ixaS 1), [(.loc 20), (.loc 21)], (some ((.loc 19), false))⟩,
  ⟨(.loc 23), (.ld false 1), [(.loc 22)], (some ((.loc 19), false))⟩,
  ⟨(.loc 24), (.bin .gtr), [(.loc 23), (.con (.int .i64 9999999))], (some ((.loc 19), false))⟩,
  ⟨(.var 6), .pick, [(.loc 19), (.con (.bool true)), (.loc 24)], none⟩]
@[reducible] noncomputable def r18_7 : List RO := [
  ⟨(.var 1), .mv, [(.con (.int .i64 (-1)))], none⟩]
@[reducible] noncomputable def r18_8 : List RO := [
  ⟨(.loc 26), .mv, [(.var 2)], none⟩,
  ⟨(.loc 27), .mv, [(.var 0)], none⟩,
  ⟨(.loc 28), .mv, [(.var 3)], none⟩,
  ⟨(.loc 29), (.ixaS 1), [(.loc 27), (.loc 28)], none⟩,
  ⟨(.loc 30), (.ld false 1), [(.loc 29)], none⟩,
  ⟨(.loc 31), (.bin .add), [(.loc 26), (.loc 30)], none⟩,
  ⟨(.var 2), .mv, [(.loc 31)], none⟩]
@[reducible] noncomputable def r18_9 : List RO := [
  ⟨(.loc 12), .mv, [(.var 3)], none⟩,
  ⟨(.loc 13), (.bin .add), [(.loc 12), (.con (.int .i64 1))], none⟩,
  ⟨(.var 3), .mv, [(.loc 13)], none⟩]
@[reducible] noncomputable def r18_10 : List RO := [
  ⟨(.loc 32), .mv, [(.var 2)], none⟩,
  ⟨(.var 7), (.bin .eql), [(.loc 32), (.con (.int .i64 0))], none⟩]
@[reducible] noncomputable def r18_11 : List RO := [
  ⟨(.var 1), .mv, [(.con (.int .i64 (-1)))], none⟩]
@[reducible] noncomputable def r18_12 : List RO := [
  ⟨(.loc 34), .mv, [(.var 2)], none⟩,
  ⟨(.var 1), .mv, [(.loc 34)], none⟩]
theorem P18 : C18.M = M := by unfold C18 E18; rfl
theorem pe18 {n m : Nat} : (E18 n m).M = M := by unfold E18; rfl
theorem i18 {a0 : D} : St.init C18 [a0] ⟨[], []⟩ = ⟨[a0, .undef, .undef, .undef, .undef, .undef, .undef, .undef], [], ⟨[], []⟩⟩ := by unfold C18 E18; rfl
theorem ie18 {n m : Nat} {hp : Hp} {a0 : D} : St.init (E18 n m) [a0] hp = ⟨[a0, .undef, .undef, .undef, .undef, .undef, .undef, .undef], [], hp⟩ := by unfold E18; rfl
noncomputable def c18 : RC := (.seq (.reg r18_0) (.seq (.reg r18_1) (.seq (.seq (.reg r18_2) (.cond (.var 4) (.seq (.reg r18_3) .ret) .skip)) (.seq (.seq (.reg r18_4) (.block 0 (.loop (.seq (.seq (.reg r18_5) (.cond (.var 5) .skip (.exit 0))) (.seq (.block 1 (.seq (.seq (.reg r18_6) (.cond (.var 6) (.seq (.reg r18_7) .ret) .skip)) (.reg r18_8))) (.reg r18_9)))))) (.seq (.seq (.reg r18_10) (.cond (.var 7) (.seq (.reg r18_11) .ret) .skip)) (.seq (.reg r18_12) .ret))))))
noncomputable def q18 : List RR := [(.slot (.var 1))]
theorem z18 {n m : Nat} : resCode (E18 n m) (Tryd.f18.body.getD .skip) = some c18 := by kernel_rfl
theorem zr18 {n m : Nat} : resRs (E18 n m) Tryd.f18.results.toList = some q18 := by kernel_rfl
theorem oe18 {args : List D} {hp : Hp} {R : D → Hp → Prop} (n m : Nat) (hl : args.length = 1) (hn : n = hp.H.length) (hm : m = hp.tk.length) (h : SWp (E18 n m) c18 (fun e s => (match e with | .exit _ => False | _ => True) ∧ ∃ s1, Weak (E18 n m) s s1 ∧ rrsWp q18 s1 fun ds => R (oneOrTup ds) s1.hp) (St.init (E18 n m) args hp)) : Eff M 18 args hp R :=
  eff_of_body (C := E18 n m) (fn := Tryd.f18) Tryd.func18 (by kernel_rfl) (by kernel_rfl) (rc := c18) z18 (rs := q18) zr18 (by kernel_rfl) (by rw [hl]; rfl) (by rw [hl]; exact (by decide : 1 ≤ 35)) hn hm h
theorem ow18 {args : List D} {d : D} (hl : args.length = 1) (h : SWp C18 c18 (fun e s => (match e with | .exit _ => False | _ => True) ∧ ∃ s1, Weak C18 s s1 ∧ rrsWp q18 s1 fun ds => D.closed (oneOrTup ds) = true ∧ (oneOrTup ds).er = d) (St.init C18 args ⟨[], []⟩)) : Pur M 18 args d :=
  pur_of_bodyW (C := C18) (fn := Tryd.f18) Tryd.func18 (by kernel_rfl) (by kernel_rfl) (rc := c18) z18 (rs := q18) zr18 (by kernel_rfl) (by rw [hl]; rfl) (by rw [hl]; decide) rfl rfl h
theorem ok18 {args : List D} {d : D} (hl : args.length = 1) (h : SWp C18 c18 (fun e s => (match e with | .exit _ => False | _ => True) ∧ rrsWp q18 s fun ds => D.closed (oneOrTup ds) = true ∧ (oneOrTup ds).er = d) (St.init C18 args ⟨[], []⟩)) : Pur M 18 args d :=
  pur_of_body (C := C18) (fn := Tryd.f18) Tryd.func18 (by kernel_rfl) (by kernel_rfl) (rc := c18) z18 (rs := q18) zr18 (by kernel_rfl) (by rw [hl]; rfl) (by rw [hl]; decide) rfl rfl h

/- 19 bogie.bogieref03.Sum · 1 arguments · kept slots [0, 2, 3, 4, 8] -/
noncomputable def E19 (n m : Nat) : Cfg := ⟨M, [0, 2, 3, 4, 8], 18, n, m⟩
noncomputable def C19 : Cfg := E19 0 0
@[reducible] noncomputable def r19_0 : List RO := [
  ⟨(.var 1), .mv, [(.con (.int .i64 0))], none⟩]
@[reducible] noncomputable def r19_1 : List RO := [
  ⟨(.var 2), .mv, [(.con (.int .i64 0))], none⟩]
@[reducible] noncomputable def r19_2 : List RO := [
  ⟨(.var 3), .mv, [(.con (.int .i64 0))], none⟩]
@[reducible] noncomputable def r19_3 : List RO := [
  ⟨(.loc 5), .mv, [(.var 3)], none⟩,
  ⟨(.loc 6), .mv, [(.var 0)], none⟩,
  ⟨(.loc 7), .lenL, [(.loc 6)], none⟩,
  ⟨(.var 4), (.bin .lss), [(.loc 5), (.loc 7)], none⟩]
@[reducible] noncomputable def r19_4 : List RO := [
  ⟨(.loc 11), .mv, [(.var 2)], none⟩,
  ⟨(.loc 12), .mv, [(.var 0)], none⟩,
  ⟨(.loc 13), .mv, [(.var 3)], none⟩,
  ⟨(.loc 14), (.ixaS 1), [(.loc 12), (.loc 13)], none⟩,
  ⟨(.loc 15), (.ld false 1), [(.loc 14)], none⟩,
  ⟨(.loc 16), (.bin .add), [(.loc 11), (.loc 15)], none⟩,
  ⟨(.var 2), .mv, [(.loc 16)], none⟩]
@[reducible] noncomputable def r19_5 : List RO := [
  ⟨(.loc 9), .mv, [(.var 3)], none⟩,
  ⟨(.loc 10), (.bin .add), [(.loc 9), (.con (.int .i64 1))], none⟩,
  ⟨(.var 3), .mv, [(.loc 10)], none⟩]
@[reducible] noncomputable def r19_6 : List RO := [
  ⟨(.loc 17), .mv, [(.var 2)], none⟩,
  ⟨(.var 1), .mv, [(.loc 17)], none⟩]
theorem P19 : C19.M = M := by unfold C19 E19; rfl
theorem pe19 {n m : Nat} : (E19 n m).M = M := by unfold E19; rfl
theorem i19 {a0 : D} : St.init C19 [a0] ⟨[], []⟩ = ⟨[a0, .undef, .undef, .undef, .undef], [], ⟨[], []⟩⟩ := by unfold C19 E19; rfl
theorem ie19 {n m : Nat} {hp : Hp} {a0 : D} : St.init (E19 n m) [a0] hp = ⟨[a0, .undef, .undef, .undef, .undef], [], hp⟩ := by unfold E19; rfl
noncomputable def c19 : RC := (.seq (.reg r19_0) (.seq (.reg r19_1) (.seq (.seq (.reg r19_2) (.block 0 (.loop (.seq (.seq (.reg r19_3) (.cond (.var 4) .skip (.exit 0))) (.seq (.block 1 (.reg r19_4)) (.reg r19_5)))))) (.seq (.reg r19_6) .ret))))
noncomputable def q19 : List RR := [(.slot (.var 1))]
theorem z19 {n m : Nat} : resCode (E19 n m) (Tryd.f19.body.getD .skip) = some c19 := by kernel_rfl
theorem zr19 {n m : Nat} : resRs (E19 n m) Tryd.f19.results.toList = some q19 := by kernel_rfl
theorem oe19 {args : List D} {hp : Hp} {R : D → Hp → Prop} (n m : Nat) (hl : args.length = 1) (hn : n = hp.H.length) (hm : m = hp.tk.length) (h : SWp (E19 n m) c19 (fun e s => (match e with | .exit _ => False | _ => True) ∧ ∃ s1, Weak (E19 n m) s s1 ∧ rrsWp q19 s1 fun ds => R (oneOrTup ds) s1.hp) (St.init (E19 n m) args hp)) : Eff M 19 args hp R :=
  eff_of_body (C := E19 n m) (fn := Tryd.f19) Tryd.func19 (by kernel_rfl) (by kernel_rfl) (rc := c19) z19 (rs := q19) zr19 (by kernel_rfl) (by rw [hl]; rfl) (by rw [hl]; exact (by decide : 1 ≤ 18)) hn hm h
theorem ow19 {args : List D} {d : D} (hl : args.length = 1) (h : SWp C19 c19 (fun e s => (match e with | .exit _ => False | _ => True) ∧ ∃ s1, Weak C19 s s1 ∧ rrsWp q19 s1 fun ds => D.closed (oneOrTup ds) = true ∧ (oneOrTup ds).er = d) (St.init C19 args ⟨[], []⟩)) : Pur M 19 args d :=
  pur_of_bodyW (C := C19) (fn := Tryd.f19) Tryd.func19 (by kernel_rfl) (by kernel_rfl) (rc := c19) z19 (rs := q19) zr19 (by kernel_rfl) (by rw [hl]; rfl) (by rw [hl]; decide) rfl rfl h
theorem ok19 {args : List D} {d : D} (hl : args.length = 1) (h : SWp C19 c19 (fun e s => (match e with | .exit _ => False | _ => True) ∧ rrsWp q19 s fun ds => D.closed (oneOrTup ds) = true ∧ (oneOrTup ds).er = d) (St.init C19 args ⟨[], []⟩)) : Pur M 19 args d :=
  pur_of_body (C := C19) (fn := Tryd.f19) Tryd.func19 (by kernel_rfl) (by kernel_rfl) (rc := c19) z19 (rs := q19) zr19 (by kernel_rfl) (by rw [hl]; rfl) (by rw [hl]; decide) rfl rfl h

/- 17 bogie.bogieref03.Ints · 2 arguments · kept slots [0, 1, 4, 5, 10, 14, 25] -/
noncomputable def E17 (n m : Nat) : Cfg := ⟨M, [0, 1, 4, 5, 10, 14, 25], 26, n, m⟩
noncomputable def C17 : Cfg := E17 0 0
@[reducible] noncomputable def r17_0 : List RO := [
  ⟨(.var 2), .mv, [(.con (.bool false))], none⟩]
@[reducible] noncomputable def r17_1 : List RO := [
  ⟨(.loc 6), .mv, [(.var 0)], none⟩,
  ⟨(.loc 7), .lenL, [(.loc 6)], none⟩,
  ⟨(.loc 8), .mv, [(.var 1)], none⟩,
  ⟨(.loc 9), .lenL, [(.loc 8)], none⟩,
  ⟨(.var 4), (.bin .neq), [(.loc 7), (.loc 9)], none⟩]
@[reducible] noncomputable def r17_2 : List RO := [
  ⟨(.var 2), .mv, [(.con (.bool false))], none⟩]
@[reducible] noncomputable def r17_3 : List RO := [
  ⟨(.var 3), .mv, [(.con (.int .i64 0))], none⟩]
@[reducible] noncomputable def r17_4 : List RO := [
  ⟨(.loc 11), .mv, [(.var 3)], none⟩,
  ⟨(.loc 12), .mv, [(.var 0)], none⟩,
  ⟨(.loc 13), .lenL, [(.loc 12)], none⟩,
  ⟨(.var 5), (.bin .lss), [(.loc 11), (.loc 13)], none⟩]
@[reducible] noncomputable def r17_5 : List (RO × Bool) := [
  (⟨(.loc 17), .mv, [(.var 0)], none⟩, true),
  (⟨(.loc 18), .mv, [(.var 3)], none⟩, true),
  (⟨(.loc 19), (.ixaS 1), [(.loc 17), (.loc 18)], none⟩, true),
  (⟨(.loc 20), (.ld false 1), [(.loc 19)], none⟩, true),
  (⟨(.loc 21), .mv, [(.var 1)], none⟩, true),
  (⟨(.loc 22), .mv, [(.var 3)], none⟩, true),
  (⟨(.loc 23), (.ixaS 1), [(.loc 21), (.loc 22)], none⟩, true),
  (⟨(.loc 24), (.ld false 1), [(.loc 23)], none⟩, true)]
@[reducible] noncomputable def r17_6 : List RO := [
  ⟨(.var 6), (.bin .neq), [(.loc 20), (.loc 24)], none⟩]
@[reducible] noncomputable def r17_7 : List RO := [
  ⟨(.var 2), .mv, [(.con (.bool false))], none⟩]
@[reducible] noncomputable def r17_8 : List RO := [
  ⟨(.loc 15), .mv, [(.var 3)], none⟩,
  ⟨(.loc 16), (.bin .add), [(.loc 15), (.con (.int .i64 1))], none⟩,
  ⟨(.var 3), .mv, [(.loc 16)], none⟩]
@[reducible] noncomputable def r17_9 : List RO := [
  ⟨(.var 2), .mv, [(.con (.bool true))], none⟩]
theorem P17 : C17.M = M := by unfold C17 E17; rfl
theorem pe17 {n m : Nat} : (E17 n m).M = M := by unfold E17; rfl
theorem i17 {a0 a1 : D} : St.init C17 [a0, a1] ⟨[], []⟩ = ⟨[a0, a1, .undef, .undef, .undef, .undef, .undef], [], ⟨[], []⟩⟩ := by unfold C17 E17; rfl
theorem ie17 {n m : Nat} {hp : Hp} {a0 a1 : D} : St.init (E17 n m) [a0, a1] hp = ⟨[a0, a1, .undef, .undef, .undef, .undef, .undef], [], hp⟩ := by unfold E17; rfl
noncomputable def c17 : RC := (.seq (.reg r17_0) (.seq (.seq (.reg r17_1) (.cond (.var 4) (.seq (.reg r17_2) .ret) .skip)) (.seq (.seq (.reg r17_3) (.block 0 (.loop (.seq (.seq (.reg r17_4) (.cond (.var 5) .skip (.exit 0))) (.seq (.block 1 (.seq (.regD r17_5 r17_6) (.cond (.var 6) (.seq (.reg r17_7) .ret) .skip))) (.reg r17_8)))))) (.seq (.reg r17_9) .ret))))
noncomputable def q17 : List RR := [(.slot (.var 2))]
theorem z17 {n m : Nat} : resCode (E17 n m) (Tryd.f17.body.getD .skip) = some c17 := by kernel_rfl
theorem zr17 {n m : Nat} : resRs (E17 n m) Tryd.f17.results.toList = some q17 := by kernel_rfl
theorem oe17 {args : List D} {hp : Hp} {R : D → Hp → Prop} (n m : Nat) (hl : args.length = 2) (hn : n = hp.H.length) (hm : m = hp.tk.length) (h : SWp (E17 n m) c17 (fun e s => (match e with | .exit _ => False | _ => True) ∧ ∃ s1, Weak (E17 n m) s s1 ∧ rrsWp q17 s1 fun ds => R (oneOrTup ds) s1.hp) (St.init (E17 n m) args hp)) : Eff M 17 args hp R :=
  eff_of_body (C := E17 n m) (fn := Tryd.f17) Tryd.func17 (by kernel_rfl) (by kernel_rfl) (rc := c17) z17 (rs := q17) zr17 (by kernel_rfl) (by rw [hl]; rfl) (by rw [hl]; exact (by decide : 2 ≤ 26)) hn hm h
theorem ow17 {args : List D} {d : D} (hl : args.length = 2) (h : SWp C17 c17 (fun e s => (match e with | .exit _ => False | _ => True) ∧ ∃ s1, Weak C17 s s1 ∧ rrsWp q17 s1 fun ds => D.closed (oneOrTup ds) = true ∧ (oneOrTup ds).er = d) (St.init C17 args ⟨[], []⟩)) : Pur M 17 args d :=
  pur_of_bodyW (C := C17) (fn := Tryd.f17) Tryd.func17 (by kernel_rfl) (by kernel_rfl) (rc := c17) z17 (rs := q17) zr17 (by kernel_rfl) (by rw [hl]; rfl) (by rw [hl]; decide) rfl rfl h
theorem ok17 {args : List D} {d : D} (hl : args.length = 2) (h : SWp C17 c17 (fun e s => (match e with | .exit _ => False | _ => True) ∧ rrsWp q17 s fun ds => D.closed (oneOrTup ds) = true ∧ (oneOrTup ds).er = d) (St.init C17 args ⟨[], []⟩)) : Pur M 17 args d :=
  pur_of_body (C := C17) (fn := Tryd.f17) Tryd.func17 (by kernel_rfl) (by kernel_rfl) (rc := c17) z17 (rs := q17) zr17 (by kernel_rfl) (by rw [hl]; rfl) (by rw [hl]; decide) rfl rfl h

/- 27 bogie.bogieref03.parts · 3 arguments · kept slots [0, 1, 2, 6, 7, 8, 9, 10, 11, 12] -/
noncomputable def E27 (n m : Nat) : Cfg := ⟨M, [0, 1, 2, 6, 7, 8, 9, 10, 11, 12], 42, n, m⟩
noncomputable def C27 : Cfg := E27 0 0
@[reducible] noncomputable def r27_0 : List RO := [
  ⟨(.var 3), .mv, [(.con (.int .i64 0))], none⟩,
  ⟨(.var 4), .mv, [(.con (.int .i64 0))], none⟩]
@[reducible] noncomputable def r27_1 : List RO := [
  ⟨(.loc 13), .mv, [(.var 0)], none⟩,
  ⟨(.loc 14), (.bin .quo), [(.loc 13), (.con (.int .i64 1000000))], none⟩,
  ⟨(.var 5), .mv, [(.loc 14)], none⟩]
@[reducible] noncomputable def r27_2 : List RO := [
  ⟨(.loc 15), .mv, [(.var 0)], none⟩,
  ⟨(.loc 16), (.bin .rem), [(.loc 15), (.con (.int .i64 1000000))], none⟩,
  ⟨(.var 6), .mv, [(.loc 16)], none⟩]
@[reducible] noncomputable def r27_3 : List RO := [
  ⟨(.loc 17), .mv, [(.var 5)], none⟩,
  ⟨(.loc 18), .mv, [(.var 1)], none⟩,
  ⟨(.loc 19), (.bin .mul), [(.loc 17), (.loc 18)], none⟩,
  ⟨(.loc 20), .mv, [(.var 2)], none⟩,
  ⟨(.loc 21), (.bin .quo), [(.loc 19), (.loc 20)], none⟩,
  ⟨(.var 7), .mv, [(.loc 21)], none⟩]
@[reducible] noncomputable def r27_4 : List RO := [
  ⟨(.loc 22), .mv, [(.var 5)], none⟩,
  ⟨(.loc 23), .mv, [(.var 1)], none⟩,
  ⟨(.loc 24), (.bin .mul), [(.loc 22), (.loc 23)], none⟩,
  ⟨(.loc 25), .mv, [(.var 2)], none⟩,
  ⟨(.loc 26), (.bin .rem), [(.loc 24), (.loc 25)], none⟩,
  ⟨(.var 8), .mv, [(.loc 26)], none⟩]
@[reducible] noncomputable def r27_5 : List RO := [
  ⟨(.loc 27), .mv, [(.var 8)], none⟩,
  ⟨(.loc 28), (.bin .mul), [(.loc 27), (.con (.int .i64 1000000))], none⟩,
  ⟨(.loc 29), .mv, [(.var 6)], none⟩,
  ⟨(.loc 30), .mv, [(.var 1)], none⟩,
  ⟨(.loc 31), (.bin .mul), [(.loc 29), (.loc 30)], none⟩,
  ⟨(.loc 32), (.bin .add), [(.loc 28), (.loc 31)], none⟩,
  ⟨(.var 9), .mv, [(.loc 32)], none⟩]
@[reducible] noncomputable def r27_6 : List (RO × Bool) := [
  (⟨(.loc 33), .mv, [(.var 7)], none⟩, true),
  (⟨(.loc 34), (.bin .mul), [(.loc 33), (.con (.int .i64 1000000))], none⟩, true),
  (⟨(.loc 35), .mv, [(.var 9)], none⟩, true),
  (⟨(.loc 36), .mv, [(.var 2)], none⟩, true),
  (⟨(.loc 37), (.bin .quo), [(.loc 35), (.loc 36)], none⟩, true),
  (⟨(.loc 38), (.bin .add), [(.loc 34), (.loc 37)], none⟩, true),
  (⟨(.loc 39), .mv, [(.var 9)], none⟩, true),
  (⟨(.loc 40), .mv, [(.var 2)], none⟩, true),
  (⟨(.loc 41), (.bin .rem), [(.loc 39), (.loc 40)], none⟩, true),
  (⟨(.var 3), .mv, [(.loc 38)], none⟩, true)]
@[reducible] noncomputable def r27_7 : List RO := [
  ⟨(.var 4), .mv, [(.loc 41)], none⟩]
theorem P27 : C27.M = M := by unfold C27 E27; rfl
theorem pe27 {n m : Nat} : (E27 n m).M = M := by unfold E27; rfl
theorem i27 {a0 a1 a2 : D} : St.init C27 [a0, a1, a2] ⟨[], []⟩ = ⟨[a0, a1, a2, .undef, .undef, .undef, .undef, .undef, .undef, .undef], [], ⟨[], []⟩⟩ := by unfold C27 E27; rfl
theorem ie27 {n m : Nat} {hp : Hp} {a0 a1 a2 : D} : St.init (E27 n m) [a0, a1, a2] hp = ⟨[a0, a1, a2, .undef, .undef, .undef, .undef, .undef, .undef, .undef], [], hp⟩ := by unfold E27; rfl
noncomputable def c27 : RC := (.seq (.reg r27_0) (.seq (.reg r27_1) (.seq (.reg r27_2) (.seq (.reg r27_3) (.seq (.reg r27_4) (.seq (.reg r27_5) (.seq (.regD r27_6 r27_7) .ret)))))))
noncomputable def q27 : List RR := [(.slot (.var 3)), (.slot (.var 4))]
theorem z27 {n m : Nat} : resCode (E27 n m) (Tryd.f27.body.getD .skip) = some c27 := by kernel_rfl
theorem zr27 {n m : Nat} : resRs (E27 n m) Tryd.f27.results.toList = some q27 := by kernel_rfl
theorem oe27 {args : List D} {hp : Hp} {R : D → Hp → Prop} (n m : Nat) (hl : args.length = 3) (hn : n = hp.H.length) (hm : m = hp.tk.length) (h : SWp (E27 n m) c27 (fun e s => (match e with | .exit _ => False | _ => True) ∧ ∃ s1, Weak (E27 n m) s s1 ∧ rrsWp q27 s1 fun ds => R (oneOrTup ds) s1.hp) (St.init (E27 n m) args hp)) : Eff M 27 args hp R :=
  eff_of_body (C := E27 n m) (fn := Tryd.f27) Tryd.func27 (by kernel_rfl) (by kernel_rfl) (rc := c27) z27 (rs := q27) zr27 (by kernel_rfl) (by rw [hl]; rfl) (by rw [hl]; exact (by decide : 3 ≤ 42)) hn hm h
theorem ow27 {args : List D} {d : D} (hl : args.length = 3) (h : SWp C27 c27 (fun e s => (match e with | .exit _ => False | _ => True) ∧ ∃ s1, Weak C27 s s1 ∧ rrsWp q27 s1 fun ds => D.closed (oneOrTup ds) = true ∧ (oneOrTup ds).er = d) (St.init C27 args ⟨[], []⟩)) : Pur M 27 args d :=
  pur_of_bodyW (C := C27) (fn := Tryd.f27) Tryd.func27 (by kernel_rfl) (by kernel_rfl) (rc := c27) z27 (rs := q27) zr27 (by kernel_rfl) (by rw [hl]; rfl) (by rw [hl]; decide) rfl rfl h
theorem ok27 {args : List D} {d : D} (hl : args.length = 3) (h : SWp C27 c27 (fun e s => (match e with | .exit _ => False | _ => True) ∧ rrsWp q27 s fun ds => D.closed (oneOrTup ds) = true ∧ (oneOrTup ds).er = d) (St.init C27 args ⟨[], []⟩)) : Pur M 27 args d :=
  pur_of_body (C := C27) (fn := Tryd.f27) Tryd.func27 (by kernel_rfl) (by kernel_rfl) (rc := c27) z27 (rs := q27) zr27 (by kernel_rfl) (by rw [hl]; rfl) (by rw [hl]; decide) rfl rfl h

/- 11 bogie.money.Percent · 2 arguments · kept slots [0, 1, 4, 5, 6, 7, 15, 36] -/
noncomputable def E11 (n m : Nat) : Cfg := ⟨M, [0, 1, 4, 5, 6, 7, 15, 36], 40, n, m⟩
noncomputable def C11 : Cfg := E11 0 0
@[reducible] noncomputable def r11_0 : List RO := [
  ⟨(.var 2), .mv, [(.con (.int .i64 0))], none⟩,
  ⟨(.var 3), .mv, [(.con (.int .i64 0))], none⟩]
@[reducible] noncomputable def r11_1 : List RO := [
  ⟨(.loc 8), .mv, [(.var 0)], none⟩,
  ⟨(.loc 9), .call, [(.con (.fn (.func 20) [] [])), (.loc 8), (.con (.int .i64 0)), (.con (.int .i64 1000000000000))], none⟩,
  ⟨(.loc 10), (.un .not), [(.loc 9)], none⟩,
  ⟨(.loc 11), .mv, [(.loc 10)], none⟩,
  ⟨(.loc 12), .mv, [(.var 1)], (some ((.loc 11), false))⟩,
  ⟨(.loc 13), .call, [(.con (.fn (.func 20) [] [])), (.loc 12), (.con (.int .i64 0)), (.con (.int .i64 100))], (some ((.loc 11), false))⟩,
  ⟨(.loc 14), (.un .not), [(.loc 13)], (some ((.loc 11), false))⟩,
  ⟨(.var 6), .pick, [(.loc 11), (.con (.bool true)), (.loc 14)], none⟩]
@[reducible] noncomputable def r11_2 : List RO := [
  ⟨(.var 2), .mv, [(.con (.int .i64 0))], none⟩,
  ⟨(.var 3), .mv, [(.con (.int .i64 1))], none⟩]
@[reducible] noncomputable def r11_3 : List RO := [
  ⟨(.loc 16), .mv, [(.var 0)], none⟩,
  ⟨(.loc 17), .mv, [(.var 1)], none⟩,
  ⟨(.loc 18), (.bin .mul), [(.loc 16), (.loc 17)], none⟩,
  ⟨(.loc 19), (.bin .quo), [(.loc 18), (.con (.int .i64 100))], none⟩,
  ⟨(.loc 20), .mv, [(.var 0)], none⟩,
  ⟨(.loc 21), .mv, [(.var 1)], none⟩,
  ⟨(.loc 22), (.bin .mul), [(.loc 20), (.loc 21)], none⟩,
  ⟨(.loc 23), (.bin .rem), [(.loc 22), (.con (.int .i64 100))], none⟩,
  ⟨(.var 4), .mv, [(.loc 19)], none⟩,
  ⟨(.var 5), .mv, [(.loc 23)], none⟩]
@[reducible] noncomputable def r11_4 : List RO := [
  ⟨(.loc 24), .mv, [(.var 5)], none⟩,
  ⟨(.loc 25), (.bin .mul), [(.con (.int .i64 2)), (.loc 24)], none⟩,
  ⟨(.loc 26), (.bin .gtr), [(.loc 25), (.con (.int .i64 100))], none⟩,
  ⟨(.loc 27), .mv, [(.loc 26)], none⟩,
  ⟨(.loc 28), .mv, [(.var 5)], (some ((.loc 27), false))⟩,
  ⟨(.loc 29), (.bin .mul), [(.con (.int .i64 2)), (.loc 28)], (some ((.loc 27), false))⟩,
  ⟨(.loc 30), (.bin .eql), [(.loc 29), (.con (.int .i64 100))], (some ((.loc 27), false))⟩,
  ⟨(.loc 31), .mv, [(.loc 30)], (some ((.loc 27), false))⟩,
  ⟨(.loc 32), .mv, [(.var 4)], (some ((.loc 31), true))⟩,
  ⟨(.loc 33), (.bin .rem), [(.loc 32), (.con (.int .i64 2))], (some ((.loc 31), true))⟩,
  ⟨(.loc 34), (.bin .neq), [(.loc 33), (.con (.int .i64 0))], (some ((.loc 31), true))⟩,
  ⟨(.loc 35), .pick, [(.loc 31), (.loc 34), (.con (.bool false))], (some ((.loc 27), false))⟩,
  ⟨(.var 7), .pick, [(.loc 27), (.con (.bool true)), (.loc 35)], none⟩]
@[reducible] noncomputable def r11_5 : List RO := [
  ⟨(.loc 37), .mv, [(.var 4)], none⟩,
  ⟨(.loc 38), (.bin .add), [(.loc 37), (.con (.int .i64 1))], none⟩,
  ⟨(.var 4), .mv, [(.loc 38)], none⟩]
@[reducible] noncomputable def r11_6 : List RO := [
  ⟨(.loc 39), .mv, [(.var 4)], none⟩,
  ⟨(.var 2), .mv, [(.loc 39)], none⟩,
  ⟨(.var 3), .mv, [(.con (.int .i64 0))], none⟩]
theorem P11 : C11.M = M := by unfold C11 E11; rfl
theorem pe11 {n m : Nat} : (E11 n m).M = M := by unfold E11; rfl
theorem i11 {a0 a1 : D} : St.init C11 [a0, a1] ⟨[], []⟩ = ⟨[a0, a1, .undef, .undef, .undef, .undef, .undef, .undef], [], ⟨[], []⟩⟩ := by unfold C11 E11; rfl
theorem ie11 {n m : Nat} {hp : Hp} {a0 a1 : D} : St.init (E11 n m) [a0, a1] hp = ⟨[a0, a1, .undef, .undef, .undef, .undef, .undef, .undef], [], hp⟩ := by unfold E11; rfl
noncomputable def c11 : RC := (.seq (.reg r11_0) (.seq (.seq (.reg r11_1) (.cond (.var 6) (.seq (.reg r11_2) .ret) .skip)) (.seq (.reg r11_3) (.seq (.seq (.reg r11_4) (.cond (.var 7) (.reg r11_5) .skip)) (.seq (.reg r11_6) .ret)))))
noncomputable def q11 : List RR := [(.slot (.var 2)), (.slot (.var 3))]
theorem z11 {n m : Nat} : resCode (E11 n m) (Tryd.f11.body.getD .skip) = some c11 := by kernel_rfl
theorem zr11 {n m : Nat} : resRs (E11 n m) Tryd.f11.results.toList = some q11 := by kernel_rfl
theorem oe11 {args : List D} {hp : Hp} {R : D → Hp → Prop} (n m : Nat) (hl : args.length = 2) (hn : n = hp.H.length) (hm : m = hp.tk.length) (h : SWp (E11 n m) c11 (fun e s => (match e with | .exit _ => False | _ => True) ∧ ∃ s1, Weak (E11 n m) s s1 ∧ rrsWp q11 s1 fun ds => R (oneOrTup ds) s1.hp) (St.init (E11 n m) args hp)) : Eff M 11 args hp R :=
  eff_of_body (C := E11 n m) (fn := Tryd.f11) Tryd.func11 (by kernel_rfl) (by kernel_rfl) (rc := c11) z11 (rs := q11) zr11 (by kernel_rfl) (by rw [hl]; rfl) (by rw [hl]; exact (by decide : 2 ≤ 40)) hn hm h
theorem ow11 {args : List D} {d : D} (hl : args.length = 2) (h : SWp C11 c11 (fun e s => (match e with | .exit _ => False | _ => True) ∧ ∃ s1, Weak C11 s s1 ∧ rrsWp q11 s1 fun ds => D.closed (oneOrTup ds) = true ∧ (oneOrTup ds).er = d) (St.init C11 args ⟨[], []⟩)) : Pur M 11 args d :=
  pur_of_bodyW (C := C11) (fn := Tryd.f11) Tryd.func11 (by kernel_rfl) (by kernel_rfl) (rc := c11) z11 (rs := q11) zr11 (by kernel_rfl) (by rw [hl]; rfl) (by rw [hl]; decide) rfl rfl h
theorem ok11 {args : List D} {d : D} (hl : args.length = 2) (h : SWp C11 c11 (fun e s => (match e with | .exit _ => False | _ => True) ∧ rrsWp q11 s fun ds => D.closed (oneOrTup ds) = true ∧ (oneOrTup ds).er = d) (St.init C11 args ⟨[], []⟩)) : Pur M 11 args d :=
  pur_of_body (C := C11) (fn := Tryd.f11) Tryd.func11 (by kernel_rfl) (by kernel_rfl) (rc := c11) z11 (rs := q11) zr11 (by kernel_rfl) (by rw [hl]; rfl) (by rw [hl]; decide) rfl rfl h

/- 12 bogie.bogieref03.Percent · 2 arguments · kept slots [0, 1, 4, 5, 6, 7, 8, 19, 37] -/
noncomputable def E12 (n m : Nat) : Cfg := ⟨M, [0, 1, 4, 5, 6, 7, 8, 19, 37], 41, n, m⟩
noncomputable def C12 : Cfg := E12 0 0
@[reducible] noncomputable def r12_0 : List RO := [
  ⟨(.var 2), .mv, [(.con (.int .i64 0))], none⟩,
  ⟨(.var 3), .mv, [(.con (.int .i64 0))], none⟩]
@[reducible] noncomputable def r12_1 : List RO := [
  ⟨(.loc 9), .mv, [(.var 0)], none⟩,
  ⟨(.loc 10), .call, [(.con (.fn (.func 26) [] [])), (.loc 9)], none⟩,
  ⟨(.loc 11), (.un .not), [(.loc 10)], none⟩,
  ⟨(.loc 12), .mv, [(.loc 11)], none⟩,
  ⟨(.loc 13), .mv, [(.var 1)], (some ((.loc 12), false))⟩,
  ⟨(.loc 14), (.bin .lss), [(.loc 13), (.con (.int .i64 0))], (some ((.loc 12), false))⟩,
  ⟨(.loc 15), .pick, [(.loc 12), (.con (.bool true)), (.loc 14)], none⟩,
  ⟨(.loc 16), .mv, [(.loc 15)], none⟩,
  ⟨(.loc 17), .mv, [(.var 1)], (some ((.loc 16), false))⟩,
  ⟨(.loc 18), (.bin .gtr), [(.loc 17), (.con (.int .i64 100))], (some ((.loc 16), false))⟩,
  ⟨(.var 7), .pick, [(.loc 16), (.con (.bool true)), (.loc 18)], none⟩]
@[reducible] noncomputable def r12_2 : List RO := [
  ⟨(.var 2), .mv, [(.con (.int .i64 0))], none⟩,
  ⟨(.var 3), .mv, [(.con (.int .i64 1))], none⟩]
@[reducible] noncomputable def r12_3 : List RO := [
  ⟨(.loc 20), .mv, [(.var 0)], none⟩,
  ⟨(.loc 21), .mv, [(.var 1)], none⟩,
  ⟨(.loc 22), (.bin .mul), [(.loc 20), (.loc 21)], none⟩,
  ⟨(.var 4), .mv, [(.loc 22)], none⟩]
@[reducible] noncomputable def r12_4 : List RO := [
  ⟨(.loc 23), .mv, [(.var 4)], none⟩,
  ⟨(.loc 24), (.bin .quo), [(.loc 23), (.con (.int .i64 100))], none⟩,
  ⟨(.var 5), .mv, [(.loc 24)], none⟩]
@[reducible] noncomputable def r12_5 : List RO := [
  ⟨(.loc 25), .mv, [(.var 4)], none⟩,
  ⟨(.loc 26), (.bin .rem), [(.loc 25), (.con (.int .i64 100))], none⟩,
  ⟨(.var 6), .mv, [(.loc 26)], none⟩]
@[reducible] noncomputable def r12_6 : List RO := [
  ⟨(.loc 27), .mv, [(.var 6)], none⟩,
  ⟨(.loc 28), (.bin .gtr), [(.loc 27), (.con (.int .i64 50))], none⟩,
  ⟨(.loc 29), .mv, [(.loc 28)], none⟩,
  ⟨(.loc 30), .mv, [(.var 6)], (some ((.loc 29), false))⟩,
  ⟨(.loc 31), (.bin .eql), [(.loc 30), (.con (.int .i64 50))], (some ((.loc 29), false))⟩,
  ⟨(.loc 32), .mv, [(.loc 31)], (some ((.loc 29), false))⟩,
  ⟨(.loc 33), .mv, [(.var 5)], (some ((.loc 32), true))⟩,
  ⟨(.loc 34), (.bin .rem), [(.loc 33), (.con (.int .i64 2))], (some ((.loc 32), true))⟩,
  ⟨(.loc 35), (.bin .eql), [(.loc 34), (.con (.int .i64 1))], (some ((.loc 32), true))⟩,
  ⟨(.loc 36), .pick, [(.loc 32), (.loc 35), (.con (.bool false))], (some ((.loc 29), false))⟩,
  ⟨(.var 8), .pick, [(.loc 29), (.con (.bool true)), (.loc 36)], none⟩]
@[reducible] noncomputable def r12_7 : List RO := [
  ⟨(.loc 38), .mv, [(.var 5)], none⟩,
  ⟨(.loc 39), (.bin .add), [(.loc 38), (.con (.int .i64 1))], none⟩,
  ⟨(.var 5), .mv, [(.loc 39)], none⟩]
@[reducible] noncomputable def r12_8 : List RO := [
  ⟨(.loc 40), .mv, [(.var 5)], none⟩,
  ⟨(.var 2), .mv, [(.loc 40)], none⟩,
  ⟨(.var 3), .mv, [(.con (.int .i64 0))], none⟩]
theorem P12 : C12.M = M := by unfold C12 E12; rfl
theorem pe12 {n m : Nat} : (E12 n m).M = M := by unfold E12; rfl
theorem i12 {a0 a1 : D} : St.init C12 [a0, a1] ⟨[], []⟩ = ⟨[a0, a1, .undef, .undef, .undef, .undef, .undef, .undef, .undef], [], ⟨[], []⟩⟩ := by unfold C12 E12; rfl
theorem ie12 {n m : Nat} {hp : Hp} {a0 a1 : D} : St.init (E12 n m) [a0, a1] hp = ⟨[a0, a1, .undef, .undef, .undef, .undef, .undef, .undef, .undef], [], hp⟩ := by unfold E12; rfl
noncomputable def c12 : RC := (.seq (.reg r12_0) (.seq (.seq (.reg r12_1) (.cond (.var 7) (.seq (.reg r12_2) .ret) .skip)) (.seq (.reg r12_3) (.seq (.reg r12_4) (.seq (.reg r12_5) (.seq (.seq (.reg r12_6) (.cond (.var 8) (.reg r12_7) .skip)) (.seq (.reg r12_8) .ret)))))))
noncomputable def q12 : List RR := [(.slot (.var 2)), (.slot (.var 3))]
theorem z12 {n m : Nat} : resCode (E12 n m) (Tryd.f12.body.getD .skip) = some c12 := by kernel_rfl
theorem zr12 {n m : Nat} : resRs (E12 n m) Tryd.f12.results.toList = some q12 := by kernel_rfl
theorem oe12 {args : List D} {hp : Hp} {R : D → Hp → Prop} (n m : Nat) (hl : args.length = 2) (hn : n = hp.H.length) (hm : m = hp.tk.length) (h : SWp (E12 n m) c12 (fun e s => (match e with | .exit _ => False | _ => True) ∧ ∃ s1, Weak (E12 n m) s s1 ∧ rrsWp q12 s1 fun ds => R (oneOrTup ds) s1.hp) (St.init (E12 n m) args hp)) : Eff M 12 args hp R :=
  eff_of_body (C := E12 n m) (fn := Tryd.f12) Tryd.func12 (by kernel_rfl) (by kernel_rfl) (rc := c12) z12 (rs := q12) zr12 (by kernel_rfl) (by rw [hl]; rfl) (by rw [hl]; exact (by decide : 2 ≤ 41)) hn hm h
theorem ow12 {args : List D} {d : D} (hl : args.length = 2) (h : SWp C12 c12 (fun e s => (match e with | .exit _ => False | _ => True) ∧ ∃ s1, Weak C12 s s1 ∧ rrsWp q12 s1 fun ds => D.closed (oneOrTup ds) = true ∧ (oneOrTup ds).er = d) (St.init C12 args ⟨[], []⟩)) : Pur M 12 args d :=
  pur_of_bodyW (C := C12) (fn := Tryd.f12) Tryd.func12 (by kernel_rfl) (by kernel_rfl) (rc := c12) z12 (rs := q12) zr12 (by kernel_rfl) (by rw [hl]; rfl) (by rw [hl]; decide) rfl rfl h
theorem ok12 {args : List D} {d : D} (hl : args.length = 2) (h : SWp C12 c12 (fun e s => (match e with | .exit _ => False | _ => True) ∧ rrsWp q12 s fun ds => D.closed (oneOrTup ds) = true ∧ (oneOrTup ds).er = d) (St.init C12 args ⟨[], []⟩)) : Pur M 12 args d :=
  pur_of_body (C := C12) (fn := Tryd.f12) Tryd.func12 (by kernel_rfl) (by kernel_rfl) (rc := c12) z12 (rs := q12) zr12 (by kernel_rfl) (by rw [hl]; rfl) (by rw [hl]; decide) rfl rfl h

/- 29 bogie.bogieref03.decimal · 1 arguments · kept slots [0, 2, 3, 5] -/
noncomputable def E29 (n m : Nat) : Cfg := ⟨M, [0, 2, 3, 5], 22, n, m⟩
noncomputable def C29 : Cfg := E29 0 0
@[reducible] noncomputable def r29_0 : List RO := [
  ⟨(.var 1), .mv, [(.con (.str []))], none⟩]
@[reducible] noncomputable def r29_1 : List RO := [
  ⟨(.var 2), .mv, [(.con (.str []))], none⟩]
@[reducible] noncomputable def r29_2 : List RO := [
  ⟨(.loc 4), .mv, [(.var 0)], none⟩,
  ⟨(.var 3), (.bin .gtr), [(.loc 4), (.con (.int .i64 9))], none⟩]
@[reducible] noncomputable def r29_3 : List RO := [
  ⟨(.loc 6), .mv, [(.var 0)], none⟩,
  ⟨(.loc 7), (.bin .rem), [(.loc 6), (.con (.int .i64 10))], none⟩,
  ⟨(.loc 8), .mv, [(.var 0)], none⟩,
  ⟨(.loc 9), (.bin .rem), [(.loc 8), (.con (.int .i64 10))], none⟩,
  ⟨(.loc 10), (.bin .add), [(.loc 9), (.con (.int .i64 1))], none⟩,
  ⟨(.loc 11), (.slcS true true), [(.con (.str [48, 49, 50, 51, 52, 53, 54, 55, 56, 57])), (.loc 7), (.loc 10)], none⟩,
  ⟨(.loc 12), .mv, [(.var 2)], none⟩,
  ⟨(.loc 13), (.bin .add), [(.loc 11), (.loc 12)], none⟩,
  ⟨(.var 2), .mv, [(.loc 13)], none⟩]
@[reducible] noncomputable def r29_4 : List RO := [
  ⟨(.loc 14), .mv, [(.var 0)], none⟩,
  ⟨(.loc 15), (.bin .quo), [(.loc 14), (.con (.int .i64 10))], none⟩,
  ⟨(.var 0), .mv, [(.loc 15)], none⟩]
@[reducible] noncomputable def r29_5 : List RO := [
  ⟨(.loc 16), .mv, [(.var 0)], none⟩,
  ⟨(.loc 17), .mv, [(.var 0)], none⟩,
  ⟨(.loc 18), (.bin .add), [(.loc 17), (.con (.int .i64 1))], none⟩,
  ⟨(.loc 19), (.slcS true true), [(.con (.str [48, 49, 50, 51, 52, 53, 54, 55, 56, 57])), (.loc 16), (.loc 18)], none⟩,
  ⟨(.loc 20), .mv, [(.var 2)], none⟩,
  ⟨(.loc 21), (.bin .add), [(.loc 19), (.loc 20)], none⟩,
  ⟨(.var 1), .mv, [(.loc 21)], none⟩]
theorem P29 : C29.M = M := by unfold C29 E29; rfl
theorem pe29 {n m : Nat} : (E29 n m).M = M := by unfold E29; rfl
theorem i29 {a0 : D} : St.init C29 [a0] ⟨[], []⟩ = ⟨[a0, .undef, .undef, .undef], [], ⟨[], []⟩⟩ := by unfold C29 E29; rfl
theorem ie29 {n m : Nat} {hp : Hp} {a0 : D} : St.init (E29 n m) [a0] hp = ⟨[a0, .undef, .undef, .undef], [], hp⟩ := by unfold E29; rfl
noncomputable def c29 : RC := (.seq (.reg r29_0) (.seq (.reg r29_1) (.seq (.block 0 (.loop (.seq (.seq (.reg r29_2) (.cond (.var 3) .skip (.exit 0))) (.block 1 (.seq (.reg r29_3) (.reg r29_4)))))) (.seq (.reg r29_5) .ret))))
noncomputable def q29 : List RR := [(.slot (.var 1))]
theorem z29 {n m : Nat} : resCode (E29 n m) (Tryd.f29.body.getD .skip) = some c29 := by kernel_rfl
theorem zr29 {n m : Nat} : resRs (E29 n m) Tryd.f29.results.toList = some q29 := by kernel_rfl
theorem oe29 {args : List D} {hp : Hp} {R : D → Hp → Prop} (n m : Nat) (hl : args.length = 1) (hn : n = hp.H.length) (hm : m = hp.tk.length) (h : SWp (E29 n m) c29 (fun e s => (match e with | .exit _ => False | _ => True) ∧ ∃ s1, Weak (E29 n m) s s1 ∧ rrsWp q29 s1 fun ds => R (oneOrTup ds) s1.hp) (St.init (E29 n m) args hp)) : Eff M 29 args hp R :=
  eff_of_body (C := E29 n m) (fn := Tryd.f29) Tryd.func29 (by kernel_rfl) (by kernel_rfl) (rc := c29) z29 (rs := q29) zr29 (by kernel_rfl) (by rw [hl]; rfl) (by rw [hl]; exact (by decide : 1 ≤ 22)) hn hm h
theorem ow29 {args : List D} {d : D} (hl : args.length = 1) (h : SWp C29 c29 (fun e s => (match e with | .exit _ => False | _ => True) ∧ ∃ s1, Weak C29 s s1 ∧ rrsWp q29 s1 fun ds => D.closed (oneOrTup ds) = true ∧ (oneOrTup ds).er = d) (St.init C29 args ⟨[], []⟩)) : Pur M 29 args d :=
  pur_of_bodyW (C := C29) (fn := Tryd.f29) Tryd.func29 (by kernel_rfl) (by kernel_rfl) (rc := c29) z29 (rs := q29) zr29 (by kernel_rfl) (by rw [hl]; rfl) (by rw [hl]; decide) rfl rfl h
theorem ok29 {args : List D} {d : D} (hl : args.length = 1) (h : SWp C29 c29 (fun e s => (match e with | .exit _ => False | _ => True) ∧ rrsWp q29 s fun ds => D.closed (oneOrTup ds) = true ∧ (oneOrTup ds).er = d) (St.init C29 args ⟨[], []⟩)) : Pur M 29 args d :=
  pur_of_body (C := C29) (fn := Tryd.f29) Tryd.func29 (by kernel_rfl) (by kernel_rfl) (rc := c29) z29 (rs := q29) zr29 (by kernel_rfl) (by rw [hl]; rfl) (by rw [hl]; decide) rfl rfl h

/- 14 bogie.bogieref03.Text · 1 arguments · kept slots [0, 2, 3, 6] -/
noncomputable def E14 (n m : Nat) : Cfg := ⟨M, [0, 2, 3, 6], 20, n, m⟩
noncomputable def C14 : Cfg := E14 0 0
@[reducible] noncomputable def r14_0 : List RO := [
  ⟨(.var 1), .mv, [(.con (.str []))], none⟩,
  ⟨(.var 2), .mv, [(.con (.int .i64 0))], none⟩]
@[reducible] noncomputable def r14_1 : List RO := [
  ⟨(.loc 4), .mv, [(.var 0)], none⟩,
  ⟨(.loc 5), .call, [(.con (.fn (.func 26) [] [])), (.loc 4)], none⟩,
  ⟨(.var 3), (.un .not), [(.loc 5)], none⟩]
@[reducible] noncomputable def r14_2 : List RO := [
  ⟨(.var 1), .mv, [(.con (.str []))], none⟩,
  ⟨(.var 2), .mv, [(.con (.int .i64 1))], none⟩]
@[reducible] noncomputable def r14_3 : List RO := [
  ⟨(.loc 7), .mv, [(.var 0)], none⟩,
  ⟨(.loc 8), (.bin .quo), [(.loc 7), (.con (.int .i64 100))], none⟩,
  ⟨(.loc 9), .call, [(.con (.fn (.func 29) [] [])), (.loc 8)], none⟩,
  ⟨(.loc 10), (.bin .add), [(.loc 9), (.con (.str [46]))], none⟩,
  ⟨(.loc 11), .mv, [(.var 0)], none⟩,
  ⟨(.loc 12), (.bin .quo), [(.loc 11), (.con (.int .i64 10))], none⟩,
  ⟨(.loc 13), (.bin .rem), [(.loc 12), (.con (.int .i64 10))], none⟩,
  ⟨(.loc 14), .call, [(.con (.fn (.func 29) [] [])), (.loc 13)], none⟩,
  ⟨(.loc 15), (.bin .add), [(.loc 10), (.loc 14)], none⟩,
  ⟨(.loc 16), .mv, [(.var 0)], none⟩,
  ⟨(.loc 17), (.bin .rem), [(.loc 16), (.con (.int .i64 10))], none⟩,
  ⟨(.loc 18), .call, [(.con (.fn (.func 29) [] [])), (.loc 17)], none⟩,
  ⟨(.loc 19), (.bin .add), [(.loc 15), (.loc 18)], none⟩,
  ⟨(.var 1), .mv, [(.loc 19)], none⟩,
  ⟨(.var 2), .mv, [(.con (.int .i64 0))], none⟩]
theorem P14 : C14.M = M := by unfold C14 E14; rfl
theorem pe14 {n m : Nat} : (E14 n m).M = M := by unfold E14; rfl
theorem i14 {a0 : D} : St.init C14 [a0] ⟨[], []⟩ = ⟨[a0, .undef, .undef, .undef], [], ⟨[], []⟩⟩ := by unfold C14 E14; rfl
theorem ie14 {n m : Nat} {hp : Hp} {a0 : D} : St.init (E14 n m) [a0] hp = ⟨[a0, .undef, .undef, .undef], [], hp⟩ := by unfold E14; rfl
noncomputable def c14 : RC := (.seq (.reg r14_0) (.seq (.seq (.reg r14_1) (.cond (.var 3) (.seq (.reg r14_2) .ret) .skip)) (.seq (.reg r14_3) .ret)))
noncomputable def q14 : List RR := [(.slot (.var 1)), (.slot (.var 2))]
theorem z14 {n m : Nat} : resCode (E14 n m) (Tryd.f14.body.getD .skip) = some c14 := by kernel_rfl
theorem zr14 {n m : Nat} : resRs (E14 n m) Tryd.f14.results.toList = some q14 := by kernel_rfl
theorem oe14 {args : List D} {hp : Hp} {R : D → Hp → Prop} (n m : Nat) (hl : args.length = 1) (hn : n = hp.H.length) (hm : m = hp.tk.length) (h : SWp (E14 n m) c14 (fun e s => (match e with | .exit _ => False | _ => True) ∧ ∃ s1, Weak (E14 n m) s s1 ∧ rrsWp q14 s1 fun ds => R (oneOrTup ds) s1.hp) (St.init (E14 n m) args hp)) : Eff M 14 args hp R :=
  eff_of_body (C := E14 n m) (fn := Tryd.f14) Tryd.func14 (by kernel_rfl) (by kernel_rfl) (rc := c14) z14 (rs := q14) zr14 (by kernel_rfl) (by rw [hl]; rfl) (by rw [hl]; exact (by decide : 1 ≤ 20)) hn hm h
theorem ow14 {args : List D} {d : D} (hl : args.length = 1) (h : SWp C14 c14 (fun e s => (match e with | .exit _ => False | _ => True) ∧ ∃ s1, Weak C14 s s1 ∧ rrsWp q14 s1 fun ds => D.closed (oneOrTup ds) = true ∧ (oneOrTup ds).er = d) (St.init C14 args ⟨[], []⟩)) : Pur M 14 args d :=
  pur_of_bodyW (C := C14) (fn := Tryd.f14) Tryd.func14 (by kernel_rfl) (by kernel_rfl) (rc := c14) z14 (rs := q14) zr14 (by kernel_rfl) (by rw [hl]; rfl) (by rw [hl]; decide) rfl rfl h
theorem ok14 {args : List D} {d : D} (hl : args.length = 1) (h : SWp C14 c14 (fun e s => (match e with | .exit _ => False | _ => True) ∧ rrsWp q14 s fun ds => D.closed (oneOrTup ds) = true ∧ (oneOrTup ds).er = d) (St.init C14 args ⟨[], []⟩)) : Pur M 14 args d :=
  pur_of_body (C := C14) (fn := Tryd.f14) Tryd.func14 (by kernel_rfl) (by kernel_rfl) (rc := c14) z14 (rs := q14) zr14 (by kernel_rfl) (by rw [hl]; rfl) (by rw [hl]; decide) rfl rfl h

/- 16 bogie.bogieref03.Parse · 1 arguments · kept slots [0, 2, 3, 4, 5, 6, 7, 15, 27, 47] -/
noncomputable def E16 (n m : Nat) : Cfg := ⟨M, [0, 2, 3, 4, 5, 6, 7, 15, 27, 47], 49, n, m⟩
noncomputable def C16 : Cfg := E16 0 0
@[reducible] noncomputable def r16_0 : List RO := [
  ⟨(.var 1), .mv, [(.con (.int .i64 0))], none⟩,
  ⟨(.var 2), .mv, [(.con (.int .i64 0))], none⟩]
@[reducible] noncomputable def r16_1 : List RO := [
  ⟨(.var 3), .mv, [(.con (.int .i64 0))], none⟩]
@[reducible] noncomputable def r16_2 : List RO := [
  ⟨(.var 4), .mv, [(.con (.int .i64 0))], none⟩]
@[reducible] noncomputable def r16_3 : List RO := [
  ⟨(.loc 8), .mv, [(.var 4)], none⟩,
  ⟨(.loc 9), .mv, [(.var 0)], none⟩,
  ⟨(.loc 10), .lenS, [(.loc 9)], none⟩,
  ⟨(.loc 11), (.bin .lss), [(.loc 8), (.loc 10)], none⟩,
  ⟨(.loc 12), .mv, [(.loc 11)], none⟩,
  ⟨(.loc 13), .mv, [(.var 4)], (some ((.loc 12), true))⟩,
  ⟨(.loc 14), (.bin .lss), [(.loc 13), (.con (.int .i64 16))], (some ((.loc 12), true))⟩,
  ⟨(.var 7), .pick, [(.loc 12), (.loc 14), (.con (.bool false))], none⟩]
@[reducible] noncomputable def r16_4 : List RO := [
  ⟨(.loc 18), .mv, [(.var 0)], none⟩,
  ⟨(.loc 19), .mv, [(.var 4)], none⟩,
  ⟨(.loc 20), .ixvS, [(.loc 18), (.loc 19)], none⟩,
  ⟨(.loc 21), (.bin .geq), [(.loc 20), (.con (.int .u8 48))], none⟩,
  ⟨(.loc 22), .mv, [(.loc 21)], none⟩,
  ⟨(.loc 23), .mv, [(.var 0)], (some ((.loc 22), true))⟩,
  ⟨(.loc 24), .mv, [(.var 4)], (some ((.loc 22), true))⟩,
  ⟨(.loc 25), .ixvS, [(.loc 23), (.loc 24)], (some ((.loc 22), true))⟩,
  ⟨(.loc 26), (.bin .leq), [(.loc 25), (.con (.int .u8 57))], (some ((.loc 22), true))⟩,
  ⟨(.var 8), .pick, [(.loc 22), (.loc 26), (.con (.bool false))], none⟩]
@[reducible] noncomputable def r16_5 : List RO := [
  ⟨(.loc 28), .mv, [(.var 3)], none⟩,
  ⟨(.loc 29), (.bin .mul), [(.con (.int .i64 10)), (.loc 28)], none⟩,
  ⟨(.loc 30), .mv, [(.var 0)], none⟩,
  ⟨(.loc 31), .mv, [(.var 4)], none⟩,
  ⟨(.loc 32), .ixvS, [(.loc 30), (.loc 31)], none⟩,
  ⟨(.loc 33), (.bin .sub), [(.loc 32), (.con (.int .u8 48))], none⟩,
  ⟨(.loc 34), (.cvI .i64), [(.loc 33)], none⟩,
  ⟨(.loc 35), (.bin .add), [(.loc 29), (.loc 34)], none⟩,
  ⟨(.var 3), .mv, [(.loc 35)], none⟩]
@[reducible] noncomputable def r16_6 : List RO := [
  ⟨(.loc 16), .mv, [(.var 4)], none⟩,
  ⟨(.loc 17), (.bin .add), [(.loc 16), (.con (.int .i64 1))], none⟩,
  ⟨(.var 4), .mv, [(.loc 17)], none⟩]
@[reducible] noncomputable def r16_7 : List RO := [
  ⟨(.loc 37), .mv, [(.var 3)], none⟩,
  ⟨(.loc 38), .call, [(.con (.fn (.func 14) [] [])), (.loc 37)], none⟩,
  ⟨(.loc 36), .mv, [(.loc 38)], none⟩,
  ⟨(.loc 39), (.ext 0), [(.loc 36)], none⟩,
  ⟨(.loc 40), (.ext 1), [(.loc 36)], none⟩,
  ⟨(.var 5), .mv, [(.loc 39)], none⟩,
  ⟨(.var 6), .mv, [(.loc 40)], none⟩]
@[reducible] noncomputable def r16_8 : List RO := [
  ⟨(.loc 41), .mv, [(.var 6)], none⟩,
  ⟨(.loc 42), (.bin .neq), [(.loc 41), (.con (.int .i64 0))], none⟩,
  ⟨(.loc 43), .mv, [(.loc 42)], none⟩,
  ⟨(.loc 44), .mv, [(.var 5)], (some ((.loc 43), false))⟩,
  ⟨(.loc 45), .mv, [(.var 0)], (some ((.loc 43), false))⟩,
  ⟨(.loc 46), (.bin .neq), [(.loc 44), (.loc 45)], (some ((.loc 43), false))⟩,
  ⟨(.var 9), .pick, [(.loc 43), (.con (.bool true)), (.loc 46)], none⟩]
@[reducible] noncomputable def r16_9 : List RO := [
  ⟨(.var 1), .mv, [(.con (.int .i64 0))], none⟩,
  ⟨(.var 2), .mv, [(.con (.int .i64 8))], none⟩]
@[reducible] noncomputable def r16_10 : List RO := [
  ⟨(.loc 48), .mv, [(.var 3)], none⟩,
  ⟨(.var 1), .mv, [(.loc 48)], none⟩,
  ⟨(.var 2), .mv, [(.con (.int .i64 0))], none⟩]
theorem P16 : C16.M = M := by unfold C16 E16; rfl
theorem pe16 {n m : Nat} : (E16 n m).M = M := by unfold E16; rfl
theorem i16 {a0 : D} : St.init C16 [a0] ⟨[], []⟩ = ⟨[a0, .undef, .undef, .undef, .undef, .undef, .undef, .undef, .undef, .undef], [], ⟨[], []⟩⟩ := by unfold C16 E16; rfl
theorem ie16 {n m : Nat} {hp : Hp} {a0 : D} : St.init (E16 n m) [a0] hp = ⟨[a0, .undef, .undef, .undef, .undef, .undef, .undef, .undef, .undef, .undef], [], hp⟩ := by unfold E16; rfl
noncomputable def c16 : RC := (.seq (.reg r16_0) (.seq (.reg r16_1) (.seq (.seq (.reg r16_2) (.block 0 (.loop (.seq (.seq (.reg r16_3) (.cond (.var 7) .skip (.exit 0))) (.seq (.block 1 (.seq (.reg r16_4) (.cond (.var 8) (.reg r16_5) .skip))) (.reg r16_6)))))) (.seq (.reg r16_7) (.seq (.seq (.reg r16_8) (.cond (.var 9) (.seq (.reg r16_9) .ret) .skip)) (.seq (.reg r16_10) .ret))))))
noncomputable def q16 : List RR := [(.slot (.var 1)), (.slot (.var 2))]
theorem z16 {n m : Nat} : resCode (E16 n m) (Tryd.f16.body.getD .skip) = some c16 := by kernel_rfl
theorem zr16 {n m : Nat} : resRs (E16 n m) Tryd.f16.results.toList = some q16 := by kernel_rfl
theorem oe16 {args : List D} {hp : Hp} {R : D → Hp → Prop} (n m : Nat) (hl : args.length = 1) (hn : n = hp.H.length) (hm : m = hp.tk.length) (h : SWp (E16 n m) c16 (fun e s => (match e with | .exit _ => False | _ => True) ∧ ∃ s1, Weak (E16 n m) s s1 ∧ rrsWp q16 s1 fun ds => R (oneOrTup ds) s1.hp) (St.init (E16 n m) args hp)) : Eff M 16 args hp R :=
  eff_of_body (C := E16 n m) (fn := Tryd.f16) Tryd.func16 (by kernel_rfl) (by kernel_rfl) (rc := c16) z16 (rs := q16) zr16 (by kernel_rfl) (by rw [hl]; rfl) (by rw [hl]; exact (by decide : 1 ≤ 49)) hn hm h
theorem ow16 {args : List D} {d : D} (hl : args.length = 1) (h : SWp C16 c16 (fun e s => (match e with | .exit _ => False | _ => True) ∧ ∃ s1, Weak C16 s s1 ∧ rrsWp q16 s1 fun ds => D.closed (oneOrTup ds) = true ∧ (oneOrTup ds).er = d) (St.init C16 args ⟨[], []⟩)) : Pur M 16 args d :=
  pur_of_bodyW (C := C16) (fn := Tryd.f16) Tryd.func16 (by kernel_rfl) (by kernel_rfl) (rc := c16) z16 (rs := q16) zr16 (by kernel_rfl) (by rw [hl]; rfl) (by rw [hl]; decide) rfl rfl h
theorem ok16 {args : List D} {d : D} (hl : args.length = 1) (h : SWp C16 c16 (fun e s => (match e with | .exit _ => False | _ => True) ∧ rrsWp q16 s fun ds => D.closed (oneOrTup ds) = true ∧ (oneOrTup ds).er = d) (St.init C16 args ⟨[], []⟩)) : Pur M 16 args d :=
  pur_of_body (C := C16) (fn := Tryd.f16) Tryd.func16 (by kernel_rfl) (by kernel_rfl) (rc := c16) z16 (rs := q16) zr16 (by kernel_rfl) (by rw [hl]; rfl) (by rw [hl]; decide) rfl rfl h

/- 13 bogie.money.Text · 1 arguments · kept slots [0, 2, 3, 4, 7] -/
noncomputable def E13 (n m : Nat) : Cfg := ⟨M, [0, 2, 3, 4, 7], 19, n, m⟩
noncomputable def C13 : Cfg := E13 0 0
@[reducible] noncomputable def r13_0 : List RO := [
  ⟨(.var 1), .mv, [(.con (.str []))], none⟩,
  ⟨(.var 2), .mv, [(.con (.int .i64 0))], none⟩]
@[reducible] noncomputable def r13_1 : List RO := [
  ⟨(.loc 5), .mv, [(.var 0)], none⟩,
  ⟨(.loc 6), .call, [(.con (.fn (.func 20) [] [])), (.loc 5), (.con (.int .i64 0)), (.con (.int .i64 1000000000000))], none⟩,
  ⟨(.var 4), (.un .not), [(.loc 6)], none⟩]
@[reducible] noncomputable def r13_2 : List RO := [
  ⟨(.var 1), .mv, [(.con (.str []))], none⟩,
  ⟨(.var 2), .mv, [(.con (.int .i64 1))], none⟩]
@[reducible] noncomputable def r13_3 : List RO := [
  ⟨(.loc 8), .mv, [(.var 0)], none⟩,
  ⟨(.loc 9), (.bin .rem), [(.loc 8), (.con (.int .i64 100))], none⟩,
  ⟨(.loc 10), (.bin .add), [(.con (.int .i64 100)), (.loc 9)], none⟩,
  ⟨(.loc 11), .call, [(.con (.fn (.func 28) [] [])), (.loc 10)], none⟩,
  ⟨(.var 3), .mv, [(.loc 11)], none⟩]
@[reducible] noncomputable def r13_4 : List (RO × Bool) := [
  (⟨(.loc 12), .mv, [(.var 0)], none⟩, true),
  (⟨(.loc 13), (.bin .quo), [(.loc 12), (.con (.int .i64 100))], none⟩, true),
  (⟨(.loc 14), .call, [(.con (.fn (.func 28) [] [])), (.loc 13)], none⟩, false),
  (⟨(.loc 15), (.bin .add), [(.loc 14), (.con (.str [46]))], none⟩, true),
  (⟨(.loc 16), .mv, [(.var 3)], none⟩, true),
  (⟨(.loc 17), (.slcS true false), [(.loc 16), (.con (.int .i64 1))], none⟩, true)]
@[reducible] noncomputable def r13_5 : List RO := [
  ⟨(.loc 18), (.bin .add), [(.loc 15), (.loc 17)], none⟩,
  ⟨(.var 1), .mv, [(.loc 18)], none⟩,
  ⟨(.var 2), .mv, [(.con (.int .i64 0))], none⟩]
theorem P13 : C13.M = M := by unfold C13 E13; rfl
theorem pe13 {n m : Nat} : (E13 n m).M = M := by unfold E13; rfl
theorem i13 {a0 : D} : St.init C13 [a0] ⟨[], []⟩ = ⟨[a0, .undef, .undef, .undef, .undef], [], ⟨[], []⟩⟩ := by unfold C13 E13; rfl
theorem ie13 {n m : Nat} {hp : Hp} {a0 : D} : St.init (E13 n m) [a0] hp = ⟨[a0, .undef, .undef, .undef, .undef], [], hp⟩ := by unfold E13; rfl
noncomputable def c13 : RC := (.seq (.reg r13_0) (.seq (.seq (.reg r13_1) (.cond (.var 4) (.seq (.reg r13_2) .ret) .skip)) (.seq (.reg r13_3) (.seq (.regD r13_4 r13_5) .ret))))
noncomputable def q13 : List RR := [(.slot (.var 1)), (.slot (.var 2))]
theorem z13 {n m : Nat} : resCode (E13 n m) (Tryd.f13.body.getD .skip) = some c13 := by kernel_rfl
theorem zr13 {n m : Nat} : resRs (E13 n m) Tryd.f13.results.toList = some q13 := by kernel_rfl
theorem oe13 {args : List D} {hp : Hp} {R : D → Hp → Prop} (n m : Nat) (hl : args.length = 1) (hn : n = hp.H.length) (hm : m = hp.tk.length) (h : SWp (E13 n m) c13 (fun e s => (match e with | .exit _ => False | _ => True) ∧ ∃ s1, Weak (E13 n m) s s1 ∧ rrsWp q13 s1 fun ds => R (oneOrTup ds) s1.hp) (St.init (E13 n m) args hp)) : Eff M 13 args hp R :=
  eff_of_body (C := E13 n m) (fn := Tryd.f13) Tryd.func13 (by kernel_rfl) (by kernel_rfl) (rc := c13) z13 (rs := q13) zr13 (by kernel_rfl) (by rw [hl]; rfl) (by rw [hl]; exact (by decide : 1 ≤ 19)) hn hm h
theorem ow13 {args : List D} {d : D} (hl : args.length = 1) (h : SWp C13 c13 (fun e s => (match e with | .exit _ => False | _ => True) ∧ ∃ s1, Weak C13 s s1 ∧ rrsWp q13 s1 fun ds => D.closed (oneOrTup ds) = true ∧ (oneOrTup ds).er = d) (St.init C13 args ⟨[], []⟩)) : Pur M 13 args d :=
  pur_of_bodyW (C := C13) (fn := Tryd.f13) Tryd.func13 (by kernel_rfl) (by kernel_rfl) (rc := c13) z13 (rs := q13) zr13 (by kernel_rfl) (by rw [hl]; rfl) (by rw [hl]; decide) rfl rfl h
theorem ok13 {args : List D} {d : D} (hl : args.length = 1) (h : SWp C13 c13 (fun e s => (match e with | .exit _ => False | _ => True) ∧ rrsWp q13 s fun ds => D.closed (oneOrTup ds) = true ∧ (oneOrTup ds).er = d) (St.init C13 args ⟨[], []⟩)) : Pur M 13 args d :=
  pur_of_body (C := C13) (fn := Tryd.f13) Tryd.func13 (by kernel_rfl) (by kernel_rfl) (rc := c13) z13 (rs := q13) zr13 (by kernel_rfl) (by rw [hl]; rfl) (by rw [hl]; decide) rfl rfl h

/- 15 bogie.money.Parse · 1 arguments · kept slots [0, 2, 3, 4, 6, 7, 8, 10, 11, 12, 19, 37] -/
noncomputable def E15 (n m : Nat) : Cfg := ⟨M, [0, 2, 3, 4, 6, 7, 8, 10, 11, 12, 19, 37], 39, n, m⟩
noncomputable def C15 : Cfg := E15 0 0
@[reducible] noncomputable def r15_0 : List RO := [
  ⟨(.var 1), .mv, [(.con (.int .i64 0))], none⟩,
  ⟨(.var 2), .mv, [(.con (.int .i64 0))], none⟩]
@[reducible] noncomputable def r15_1 : List RO := [
  ⟨(.var 3), .mv, [(.con (.int .i64 0))], none⟩]
@[reducible] noncomputable def r15_2 : List RO := [
  ⟨(.loc 9), .mv, [(.var 0)], none⟩,
  ⟨(.var 7), .rngS, [(.loc 9)], none⟩]
@[reducible] noncomputable def r15_3 : List RO := [
  ⟨(.var 8), .nxtS, [(.var 7)], none⟩,
  ⟨(.var 9), (.ext 0), [(.var 8)], none⟩]
@[reducible] noncomputable def r15_4 : List RO := [
  ⟨(.loc 13), (.ext 2), [(.var 8)], none⟩,
  ⟨(.var 4), .mv, [(.loc 13)], none⟩]
@[reducible] noncomputable def r15_5 : List RO := [
  ⟨(.loc 14), .mv, [(.var 4)], none⟩,
  ⟨(.loc 15), .call, [(.con (.fn (.func 30) [] [])), (.loc 14), (.con (.int .i32 48)), (.con (.int .i32 57))], none⟩,
  ⟨(.loc 16), .mv, [(.loc 15)], none⟩,
  ⟨(.loc 17), .mv, [(.var 3)], (some ((.loc 16), true))⟩,
  ⟨(.loc 18), (.bin .leq), [(.loc 17), (.con (.int .i64 1000000000000))], (some ((.loc 16), true))⟩,
  ⟨(.var 10), .pick, [(.loc 16), (.loc 18), (.con (.bool false))], none⟩]
@[reducible] noncomputable def r15_6 : List RO := [
  ⟨(.loc 20), .mv, [(.var 3)], none⟩,
  ⟨(.loc 21), (.bin .mul), [(.con (.int .i64 10)), (.loc 20)], none⟩,
  ⟨(.loc 22), .mv, [(.var 4)], none⟩,
  ⟨(.loc 23), (.bin .sub), [(.loc 22), (.con (.int .i32 48))], none⟩,
  ⟨(.loc 24), (.cvI .i64), [(.loc 23)], none⟩,
  ⟨(.loc 25), (.bin .add), [(.loc 21), (.loc 24)], none⟩,
  ⟨(.var 3), .mv, [(.loc 25)], none⟩]
@[reducible] noncomputable def r15_7 : List RO := [
  ⟨(.loc 27), .mv, [(.var 3)], none⟩,
  ⟨(.loc 28), .call, [(.con (.fn (.func 13) [] [])), (.loc 27)], none⟩,
  ⟨(.loc 26), .mv, [(.loc 28)], none⟩,
  ⟨(.loc 29), (.ext 0), [(.loc 26)], none⟩,
  ⟨(.loc 30), (.ext 1), [(.loc 26)], none⟩,
  ⟨(.var 5), .mv, [(.loc 29)], none⟩,
  ⟨(.var 6), .mv, [(.loc 30)], none⟩]
@[reducible] noncomputable def r15_8 : List RO := [
  ⟨(.loc 31), .mv, [(.var 6)], none⟩,
  ⟨(.loc 32), (.bin .neq), [(.loc 31), (.con (.int .i64 0))], none⟩,
  ⟨(.loc 33), .mv, [(.loc 32)], none⟩,
  ⟨(.loc 34), .mv, [(.var 5)], (some ((.loc 33), false))⟩,
  ⟨(.loc 35), .mv, [(.var 0)], (some ((.loc 33), false))⟩,
  ⟨(.loc 36), (.bin .neq), [(.loc 34), (.loc 35)], (some ((.loc 33), false))⟩,
  ⟨(.var 11), .pick, [(.loc 33), (.con (.bool true)), (.loc 36)], none⟩]
@[reducible] noncomputable def r15_9 : List RO := [
  ⟨(.var 1), .mv, [(.con (.int .i64 0))], none⟩,
  ⟨(.var 2), .mv, [(.con (.int .i64 8))], none⟩]
@[reducible] noncomputable def r15_10 : List RO := [
  ⟨(.loc 38), .mv, [(.var 3)], none⟩,
  ⟨(.var 1), .mv, [(.loc 38)], none⟩,
  ⟨(.var 2), .mv, [(.con (.int .i64 0))], none⟩]
theorem P15 : C15.M = M := by unfold C15 E15; rfl
theorem pe15 {n m : Nat} : (E15 n m).M = M := by unfold E15; rfl
theorem i15 {a0 : D} : St.init C15 [a0] ⟨[], []⟩ = ⟨[a0, .undef, .undef, .undef, .undef, .undef, .undef, .undef, .undef, .undef, .undef, .undef], [], ⟨[], []⟩⟩ := by unfold C15 E15; rfl
theorem ie15 {n m : Nat} {hp : Hp} {a0 : D} : St.init (E15 n m) [a0] hp = ⟨[a0, .undef, .undef, .undef, .undef, .undef, .undef, .undef, .undef, .undef, .undef, .undef], [], hp⟩ := by unfold E15; rfl
noncomputable def c15 : RC := (.seq (.reg r15_0) (.seq (.reg r15_1) (.seq (.seq (.reg r15_2) (.block 0 (.loop (.seq (.reg r15_3) (.seq (.cond (.var 9) .skip (.exit 0)) (.block 1 (.seq (.reg r15_4) (.seq (.reg r15_5) (.cond (.var 10) (.reg r15_6) .skip))))))))) (.seq (.seq (.reg r15_7) (.seq (.reg r15_8) (.cond (.var 11) (.seq (.reg r15_9) .ret) .skip))) (.seq (.reg r15_10) .ret)))))
noncomputable def q15 : List RR := [(.slot (.var 1)), (.slot (.var 2))]
theorem z15 {n m : Nat} : resCode (E15 n m) (Tryd.f15.body.getD .skip) = some c15 := by kernel_rfl
theorem zr15 {n m : Nat} : resRs (E15 n m) Tryd.f15.results.toList = some q15 := by kernel_rfl
theorem oe15 {args : List D} {hp : Hp} {R : D → Hp → Prop} (n m : Nat) (hl : args.length = 1) (hn : n = hp.H.length) (hm : m = hp.tk.length) (h : SWp (E15 n m) c15 (fun e s => (match e with | .exit _ => False | _ => True) ∧ ∃ s1, Weak (E15 n m) s s1 ∧ rrsWp q15 s1 fun ds => R (oneOrTup ds) s1.hp) (St.init (E15 n m) args hp)) : Eff M 15 args hp R :=
  eff_of_body (C := E15 n m) (fn := Tryd.f15) Tryd.func15 (by kernel_rfl) (by kernel_rfl) (rc := c15) z15 (rs := q15) zr15 (by kernel_rfl) (by rw [hl]; rfl) (by rw [hl]; exact (by decide : 1 ≤ 39)) hn hm h
theorem ow15 {args : List D} {d : D} (hl : args.length = 1) (h : SWp C15 c15 (fun e s => (match e with | .exit _ => False | _ => True) ∧ ∃ s1, Weak C15 s s1 ∧ rrsWp q15 s1 fun ds => D.closed (oneOrTup ds) = true ∧ (oneOrTup ds).er = d) (St.init C15 args ⟨[], []⟩)) : Pur M 15 args d :=
  pur_of_bodyW (C := C15) (fn := Tryd.f15) Tryd.func15 (by kernel_rfl) (by kernel_rfl) (rc := c15) z15 (rs := q15) zr15 (by kernel_rfl) (by rw [hl]; rfl) (by rw [hl]; decide) rfl rfl h
theorem ok15 {args : List D} {d : D} (hl : args.length = 1) (h : SWp C15 c15 (fun e s => (match e with | .exit _ => False | _ => True) ∧ rrsWp q15 s fun ds => D.closed (oneOrTup ds) = true ∧ (oneOrTup ds).er = d) (St.init C15 args ⟨[], []⟩)) : Pur M 15 args d :=
  pur_of_body (C := C15) (fn := Tryd.f15) Tryd.func15 (by kernel_rfl) (by kernel_rfl) (rc := c15) z15 (rs := q15) zr15 (by kernel_rfl) (by rw [hl]; rfl) (by rw [hl]; decide) rfl rfl h

/- 22 math.bits.Div64 · 3 arguments · kept slots [0, 1, 2, 6, 7, 8, 9, 10, 11, 12, 13, 14, 15, 16, 17, 18, 20, 24, 27, 78, 85, 113, 120] -/
noncomputable def E22 (n m : Nat) : Cfg := ⟨M, [0, 1, 2, 6, 7, 8, 9, 10, 11, 12, 13, 14, 15, 16, 17, 18, 20, 24, 27, 78, 85, 113, 120], 135, n, m⟩
noncomputable def C22 : Cfg := E22 0 0
@[reducible] noncomputable def r22_0 : List RO := [
  ⟨(.var 3), .mv, [(.con (.int .u64 0))], none⟩,
  ⟨(.var 4), .mv, [(.con (.int .u64 0))], none⟩]
@[reducible] noncomputable def r22_1 : List RO := [
  ⟨(.loc 19), .mv, [(.var 2)], none⟩,
  ⟨(.var 16), (.bin .eql), [(.loc 19), (.con (.int .u64 0))], none⟩]
@[reducible] noncomputable def r22_2 : List RO := [
  ⟨(.loc 22), .mv, [(.var 2)], none⟩,
  ⟨(.loc 23), .mv, [(.var 0)], none⟩,
  ⟨(.var 17), (.bin .leq), [(.loc 22), (.loc 23)], none⟩]
@[reducible] noncomputable def r22_3 : List RO := [
  ⟨(.loc 26), .mv, [(.var 0)], none⟩,
  ⟨(.var 18), (.bin .eql), [(.loc 26), (.con (.int .u64 0))], none⟩]
@[reducible] noncomputable def r22_4 : List (RO × Bool) := [
  (⟨(.loc 28), .mv, [(.var 1)], none⟩, true),
  (⟨(.loc 29), .mv, [(.var 2)], none⟩, true),
  (⟨(.loc 30), (.bin .quo), [(.loc 28), (.loc 29)], none⟩, true),
  (⟨(.loc 31), .mv, [(.var 1)], none⟩, true),
  (⟨(.loc 32), .mv, [(.var 2)], none⟩, true),
  (⟨(.loc 33), (.bin .rem), [(.loc 31), (.loc 32)], none⟩, true),
  (⟨(.var 3), .mv, [(.loc 30)], none⟩, true)]
@[reducible] noncomputable def r22_5 : List RO := [
  ⟨(.var 4), .mv, [(.loc 33)], none⟩]
@[reducible] noncomputable def r22_6 : List RO := [
  ⟨(.loc 34), .mv, [(.var 2)], none⟩,
  ⟨(.loc 35), .call, [(.con (.fn (.func 31) [] [])), (.loc 34)], none⟩,
  ⟨(.loc 36), (.cvI .u64), [(.loc 35)], none⟩,
  ⟨(.var 5), .mv, [(.loc 36)], none⟩]
@[reducible] noncomputable def r22_7 : List RO := [
  ⟨(.loc 37), .mv, [(.var 2)], none⟩,
  ⟨(.loc 38), .mv, [(.var 5)], none⟩,
  ⟨(.loc 39), (.bin .shl), [(.loc 37), (.loc 38)], none⟩,
  ⟨(.var 2), .mv, [(.loc 39)], none⟩]
@[reducible] noncomputable def r22_8 : List RO := [
  ⟨(.loc 40), .mv, [(.var 2)], none⟩,
  ⟨(.loc 41), (.bin .shr), [(.loc 40), (.con (.int .u64 32))], none⟩,
  ⟨(.var 6), .mv, [(.loc 41)], none⟩]
@[reducible] noncomputable def r22_9 : List RO := [
  ⟨(.loc 42), .mv, [(.var 2)], none⟩,
  ⟨(.loc 43), (.bin .and), [(.loc 42), (.con (.int .u64 4294967295))], none⟩,
  ⟨(.var 7), .mv, [(.loc 43)], none⟩]
@[reducible] noncomputable def r22_10 : List RO := [
  ⟨(.loc 44), .mv, [(.var 0)], none⟩,
  ⟨(.loc 45), .mv, [(.var 5)], none⟩,
  ⟨(.loc 46), (.bin .shl), [(.loc 44), (.loc 45)], none⟩,
  ⟨(.loc 47), .mv, [(.var 1)], none⟩,
  ⟨(.loc 48), .mv, [(.var 5)], none⟩,
  ⟨(.loc 49), (.bin .sub), [(.con (.int .u64 64)), (.loc 48)], none⟩,
  ⟨(.loc 50), (.bin .shr), [(.loc 47), (.loc 49)], none⟩,
  ⟨(.loc 51), (.bin .or), [(.loc 46), (.loc 50)], none⟩,
  ⟨(.var 8), .mv, [(.loc 51)], none⟩]
@[reducible] noncomputable def r22_11 : List RO := [
  ⟨(.loc 52), .mv, [(.var 1)], none⟩,
  ⟨(.loc 53), .mv, [(.var 5)], none⟩,
  ⟨(.loc 54), (.bin .shl), [(.loc 52), (.loc 53)], none⟩,
  ⟨(.var 9), .mv, [(.loc 54)], none⟩]
@[reducible] noncomputable def r22_12 : List RO := [
  ⟨(.loc 55), .mv, [(.var 9)], none⟩,
  ⟨(.loc 56), (.bin .shr), [(.loc 55), (.con (.int .u64 32))], none⟩,
  ⟨(.var 10), .mv, [(.loc 56)], none⟩]
@[reducible] noncomputable def r22_13 : List RO := [
  ⟨(.loc 57), .mv, [(.var 9)], none⟩,
  ⟨(.loc 58), (.bin .and), [(.loc 57), (.con (.int .u64 4294967295))], none⟩,
  ⟨(.var 11), .mv, [(.loc 58)], none⟩]
@[reducible] noncomputable def r22_14 : List RO := [
  ⟨(.loc 59), .mv, [(.var 8)], none⟩,
  ⟨(.loc 60), .mv, [(.var 6)], none⟩,
  ⟨(.loc 61), (.bin .quo), [(.loc 59), (.loc 60)], none⟩,
  ⟨(.var 12), .mv, [(.loc 61)], none⟩]
@[reducible] noncomputable def r22_15 : List RO := [
  ⟨(.loc 62), .mv, [(.var 8)], none⟩,
  ⟨(.loc 63), .mv, [(.var 12)], none⟩,
  ⟨(.loc 64), .mv, [(.var 6)], none⟩,
  ⟨(.loc 65), (.bin .mul), [(.loc 63), (.loc 64)], none⟩,
  ⟨(.loc 66), (.bin .sub), [(.loc 62), (.loc 65)], none⟩,
  ⟨(.var 13), .mv, [(.loc 66)], none⟩]
@[reducible] noncomputable def r22_16 : List RO := [
  ⟨(.loc 67), .mv, [(.var 12)], none⟩,
  ⟨(.loc 68), (.bin .geq), [(.loc 67), (.con (.int .u64 4294967296))], none⟩,
  ⟨(.loc 69), .mv, [(.loc 68)], none⟩,
  ⟨(.loc 70), .mv, [(.var 12)], (some ((.loc 69), false))⟩,
  ⟨(.loc 71), .mv, [(.var 7)], (some ((.loc 69), false))⟩,
  ⟨(.loc 72), (.bin .mul), [(.loc 70), (.loc 71)], (some ((.loc 69), false))⟩,
  ⟨(.loc 73), .mv, [(.var 13)], (some ((.loc 69), false))⟩,
  ⟨(.loc 74), (.bin .mul), [(.con (.int .u64 4294967296)), (.loc 73)], (some ((.loc 69), false))⟩,
  ⟨(.loc 75), .mv, [(.var 10)], (some ((.loc 69), false))⟩,
  ⟨(.loc 76), (.bin .add), [(.loc 74), (.loc 75)], (some ((.loc 69), false))⟩,
  ⟨(.loc 77), (.bin .gtr), [(.loc 72), (.loc 76)], (some ((.loc 69), false))⟩,
  ⟨(.var 19), .pick, [(.loc 69), (.con (.bool true)), (.loc 77)], none⟩]
@[reducible] noncomputable def r22_17 : List RO := [
  ⟨(.loc 79), .mv, [(.var 12)], none⟩,
  ⟨(.loc 80), (.bin .sub), [(.loc 79), (.con (.int .u64 1))], none⟩,
  ⟨(.var 12), .mv, [(.loc 80)], none⟩]
@[reducible] noncomputable def r22_18 : List RO := [
  ⟨(.loc 81), .mv, [(.var 13)], none⟩,
  ⟨(.loc 82), .mv, [(.var 6)], none⟩,
  ⟨(.loc 83), (.bin .add), [(.loc 81), (.loc 82)], none⟩,
  ⟨(.var 13), .mv, [(.loc 83)], none⟩]
@[reducible] noncomputable def r22_19 : List RO := [
  ⟨(.loc 84), .mv, [(.var 13)], none⟩,
  ⟨(.var 20), (.bin .geq), [(.loc 84), (.con (.int .u64 4294967296))], none⟩]
@[reducible] noncomputable def r22_20 : List RO := [
  ⟨(.loc 86), .mv, [(.var 8)], none⟩,
  ⟨(.loc 87), (.bin .mul), [(.loc 86), (.con (.int .u64 4294967296))], none⟩,
  ⟨(.loc 88), .mv, [(.var 10)], none⟩,
  ⟨(.loc 89), (.bin .add), [(.loc 87), (.loc 88)], none⟩,
  ⟨(.loc 90), .mv, [(.var 12)], none⟩,
  ⟨(.loc 91), .mv, [(.var 2)], none⟩,
  ⟨(.loc 92), (.bin .mul), [(.loc 90), (.loc 91)], none⟩,
  ⟨(.loc 93), (.bin .sub), [(.loc 89), (.loc 92)], none⟩,
  ⟨(.var 14), .mv, [(.loc 93)], none⟩]
@[reducible] noncomputable def r22_21 : List RO := [
  ⟨(.loc 94), .mv, [(.var 14)], none⟩,
  ⟨(.loc 95), .mv, [(.var 6)], none⟩,
  ⟨(.loc 96), (.bin .quo), [(.loc 94), (.loc 95)], none⟩,
  ⟨(.var 15), .mv, [(.loc 96)], none⟩]
@[reducible] noncomputable def r22_22 : List RO := [
  ⟨(.loc 97), .mv, [(.var 14)], none⟩,
  ⟨(.loc 98), .mv, [(.var 15)], none⟩,
  ⟨(.loc 99), .mv, [(.var 6)], none⟩,
  ⟨(.loc 100), (.bin .mul), [(.loc 98), (.loc 99)], none⟩,
  ⟨(.loc 101), (.bin .sub), [(.loc 97), (.loc 100)], none⟩,
  ⟨(.var 13), .mv, [(.loc 101)], none⟩]
@[reducible] noncomputable def r22_23 : List RO := [
  ⟨(.loc 102), .mv, [(.var 15)], none⟩,
  ⟨(.loc 103), (.bin .geq), [(.loc 102), (.con (.int .u64 4294967296))], none⟩,
  ⟨(.loc 104), .mv, [(.loc 103)], none⟩,
  ⟨(.loc 105), .mv, [(.var 15)], (some ((.loc 104), false))⟩,
  ⟨(.loc 106), .mv, [(.var 7)], (some ((.loc 104), false))⟩,
  ⟨(.loc 107), (.bin .mul), [(.loc 105), (.loc 106)], (some ((.loc 104), false))⟩,
  ⟨(.loc 108), .mv, [(.var 13)], (some ((.loc 104), false))⟩,
  ⟨(.loc 109), (.bin .mul), [(.con (.int .u64 4294967296)), (.loc 108)], (some ((.loc 104), false))⟩,
  ⟨(.loc 110), .mv, [(.var 11)], (some ((.loc 104), false))⟩,
  ⟨(.loc 111), (.bin .add), [(.loc 109), (.loc 110)], (some ((.loc 104), false))⟩,
  ⟨(.loc 112), (.bin .gtr), [(.loc 107), (.loc 111)], (some ((.loc 104), false))⟩,
  ⟨(.var 21), .pick, [(.loc 104), (.con (.bool true)), (.loc 112)], none⟩]
@[reducible] noncomputable def r22_24 : List RO := [
  ⟨(.loc 114), .mv, [(.var 15)], none⟩,
  ⟨(.loc 115), (.bin .sub), [(.loc 114), (.con (.int .u64 1))], none⟩,
  ⟨(.var 15), .mv, [(.loc 115)], none⟩]
@[reducible] noncomputable def r22_25 : List RO := [
  ⟨(.loc 116), .mv, [(.var 13)], none⟩,
  ⟨(.loc 117), .mv, [(.var 6)], none⟩,
  ⟨(.loc 118), (.bin .add), [(.loc 116), (.loc 117)], none⟩,
  ⟨(.var 13), .mv, [(.loc 118)], none⟩]
@[reducible] noncomputable def r22_26 : List RO := [
  ⟨(.loc 119), .mv, [(.var 13)], none⟩,
  ⟨(.var 22), (.bin .geq), [(.loc 119), (.con (.int .u64 4294967296))], none⟩]
@[reducible] noncomputable def r22_27 : List RO := [
  ⟨(.loc 121), .mv, [(.var 12)], none⟩,
  ⟨(.loc 122), (.bin .mul), [(.loc 121), (.con (.int .u64 4294967296))], none⟩,
  ⟨(.loc 123), .mv, [(.var 15)], none⟩,
  ⟨(.loc 124), (.bin .add), [(.loc 122), (.loc 123)], none⟩,
  ⟨(.loc 125), .mv, [(.var 14)], none⟩,
  ⟨(.loc 126), (.bin .mul), [(.loc 125), (.con (.int .u64 4294967296))], none⟩,
  ⟨(.loc 127), .mv, [(.var 11)], none⟩,
  ⟨(.loc 128), (.bin .add), [(.loc 126), (.loc 127)], none⟩,
  ⟨(.loc 129), .mv, [(.var 15)], none⟩,
  ⟨(.loc 130), .mv, [(.var 2)], none⟩,
  ⟨(.loc 131), (.bin .mul), [(.loc 129), (.loc 130)], none⟩,
  ⟨(.loc 132), (.bin .sub), [(.loc 128), (.loc 131)], none⟩,
  ⟨(.loc 133), .mv, [(.var 5)], none⟩,
  ⟨(.loc 134), (.bin .shr), [(.loc 132), (.loc 133)], none⟩,
  ⟨(.var 3), .mv, [(.loc 124)], none⟩,
  ⟨(.var 4), .mv, [(.loc 134)], none⟩]
theorem P22 : C22.M = M := by unfold C22 E22; rfl
theorem pe22 {n m : Nat} : (E22 n m).M = M := by unfold E22; rfl
theorem i22 {a0 a1 a2 : D} : St.init C22 [a0, a1, a2] ⟨[], []⟩ = ⟨[a0, a1, a2, .undef, .undef, .undef, .undef, .undef, .undef, .undef, .undef, .undef, .undef, .undef, .undef, .undef, .undef, .undef, .undef, .undef, .undef, .undef, .undef], [], ⟨[], []⟩⟩ := by unfold C22 E22; rfl
theorem ie22 {n m : Nat} {hp : Hp} {a0 a1 a2 : D} : St.init (E22 n m) [a0, a1, a2] hp = ⟨[a0, a1, a2, .undef, .undef, .undef, .undef, .undef, .undef, .undef, .undef, .undef, .undef, .undef, .undef, .undef, .undef, .undef, .undef, .undef, .undef, .undef, .undef], [], hp⟩ := by unfold E22; rfl
noncomputable def c22 : RC := (.seq (.reg r22_0) (.seq (.seq (.reg r22_1) (.cond (.var 16) .bad .skip)) (.seq (.seq (.reg r22_2) (.cond (.var 17) .bad .skip)) (.seq (.seq (.reg r22_3) (.cond (.var 18) (.seq (.regD r22_4 r22_5) .ret) .skip)) (.seq (.reg r22_6) (.seq (.reg r22_7) (.seq (.reg r22_8) (.seq (.reg r22_9) (.seq (.reg r22_10) (.seq (.reg r22_11) (.seq (.reg r22_12) (.seq (.reg r22_13) (.seq (.reg r22_14) (.seq (.reg r22_15) (.seq (.block 0 (.loop (.seq (.seq (.reg r22_16) (.cond (.var 19) .skip (.exit 0))) (.block 1 (.seq (.reg r22_17) (.seq (.reg r22_18) (.seq (.reg r22_19) (.cond (.var 20) (.exit 0) .skip)))))))) (.seq (.reg r22_20) (.seq (.reg r22_21) (.seq (.reg r22_22) (.seq (.block 2 (.loop (.seq (.seq (.reg r22_23) (.cond (.var 21) .skip (.exit 2))) (.block 3 (.seq (.reg r22_24) (.seq (.reg r22_25) (.seq (.reg r22_26) (.cond (.var 22) (.exit 2) .skip)))))))) (.seq (.reg r22_27) .ret))))))))))))))))))))
noncomputable def q22 : List RR := [(.slot (.var 3)), (.slot (.var 4))]
theorem z22 {n m : Nat} : resCode (E22 n m) (Tryd.f22.body.getD .skip) = some c22 := by kernel_rfl
theorem zr22 {n m : Nat} : resRs (E22 n m) Tryd.f22.results.toList = some q22 := by kernel_rfl
theorem oe22 {args : List D} {hp : Hp} {R : D → Hp → Prop} (n m : Nat) (hl : args.length = 3) (hn : n = hp.H.length) (hm : m = hp.tk.length) (h : SWp (E22 n m) c22 (fun e s => (match e with | .exit _ => False | _ => True) ∧ ∃ s1, Weak (E22 n m) s s1 ∧ rrsWp q22 s1 fun ds => R (oneOrTup ds) s1.hp) (St.init (E22 n m) args hp)) : Eff M 22 args hp R :=
  eff_of_body (C := E22 n m) (fn := Tryd.f22) Tryd.func22 (by kernel_rfl) (by kernel_rfl) (rc := c22) z22 (rs := q22) zr22 (by kernel_rfl) (by rw [hl]; rfl) (by rw [hl]; exact (by decide : 3 ≤ 135)) hn hm h
theorem ow22 {args : List D} {d : D} (hl : args.length = 3) (h : SWp C22 c22 (fun e s => (match e with | .exit _ => False | _ => True) ∧ ∃ s1, Weak C22 s s1 ∧ rrsWp q22 s1 fun ds => D.closed (oneOrTup ds) = true ∧ (oneOrTup ds).er = d) (St.init C22 args ⟨[], []⟩)) : Pur M 22 args d :=
  pur_of_bodyW (C := C22) (fn := Tryd.f22) Tryd.func22 (by kernel_rfl) (by kernel_rfl) (rc := c22) z22 (rs := q22) zr22 (by kernel_rfl) (by rw [hl]; rfl) (by rw [hl]; decide) rfl rfl h
theorem ok22 {args : List D} {d : D} (hl : args.length = 3) (h : SWp C22 c22 (fun e s => (match e with | .exit _ => False | _ => True) ∧ rrsWp q22 s fun ds => D.closed (oneOrTup ds) = true ∧ (oneOrTup ds).er = d) (St.init C22 args ⟨[], []⟩)) : Pur M 22 args d :=
  pur_of_body (C := C22) (fn := Tryd.f22) Tryd.func22 (by kernel_rfl) (by kernel_rfl) (rc := c22) z22 (rs := q22) zr22 (by kernel_rfl) (by rw [hl]; rfl) (by rw [hl]; decide) rfl rfl h

/- 25 cmp.Compare[uint64] · 2 arguments · kept slots [0, 1, 4, 5, 6, 11, 12, 13, 16, 19] -/
noncomputable def E25 (n m : Nat) : Cfg := ⟨M, [0, 1, 4, 5, 6, 11, 12, 13, 16, 19], 20, n, m⟩
noncomputable def C25 : Cfg := E25 0 0
@[reducible] noncomputable def r25_0 : List RO := [
  ⟨(.var 2), .mv, [(.con (.int .i64 0))], none⟩]
@[reducible] noncomputable def r25_1 : List RO := [
  ⟨(.loc 7), .mv, [(.var 0)], none⟩,
  ⟨(.loc 8), .call, [(.con (.fn (.func 33) [] [])), (.loc 7)], none⟩,
  ⟨(.var 3), .mv, [(.loc 8)], none⟩]
@[reducible] noncomputable def r25_2 : List RO := [
  ⟨(.loc 9), .mv, [(.var 1)], none⟩,
  ⟨(.loc 10), .call, [(.con (.fn (.func 33) [] [])), (.loc 9)], none⟩,
  ⟨(.var 4), .mv, [(.loc 10)], none⟩]
@[reducible] noncomputable def r25_3 : List RO := [
  ⟨(.var 5), .mv, [(.var 3)], none⟩]
@[reducible] noncomputable def r25_4 : List RO := [
  ⟨(.var 6), .mv, [(.var 4)], none⟩]
@[reducible] noncomputable def r25_5 : List RO := [
  ⟨(.var 2), .mv, [(.con (.int .i64 0))], none⟩]
@[reducible] noncomputable def r25_6 : List RO := [
  ⟨(.var 2), .mv, [(.con (.int .i64 (-1)))], none⟩]
@[reducible] noncomputable def r25_7 : List RO := [
  ⟨(.var 7), .mv, [(.var 4)], none⟩]
@[reducible] noncomputable def r25_8 : List RO := [
  ⟨(.var 2), .mv, [(.con (.int .i64 1))], none⟩]
@[reducible] noncomputable def r25_9 : List RO := [
  ⟨(.loc 14), .mv, [(.var 0)], none⟩,
  ⟨(.loc 15), .mv, [(.var 1)], none⟩,
  ⟨(.var 8), (.bin .lss), [(.loc 14), (.loc 15)], none⟩]
@[reducible] noncomputable def r25_10 : List RO := [
  ⟨(.var 2), .mv, [(.con (.int .i64 (-1)))], none⟩]
@[reducible] noncomputable def r25_11 : List RO := [
  ⟨(.loc 17), .mv, [(.var 0)], none⟩,
  ⟨(.loc 18), .mv, [(.var 1)], none⟩,
  ⟨(.var 9), (.bin .gtr), [(.loc 17), (.loc 18)], none⟩]
@[reducible] noncomputable def r25_12 : List RO := [
  ⟨(.var 2), .mv, [(.con (.int .i64 1))], none⟩]
@[reducible] noncomputable def r25_13 : List RO := [
  ⟨(.var 2), .mv, [(.con (.int .i64 0))], none⟩]
theorem P25 : C25.M = M := by unfold C25 E25; rfl
theorem pe25 {n m : Nat} : (E25 n m).M = M := by unfold E25; rfl
theorem i25 {a0 a1 : D} : St.init C25 [a0, a1] ⟨[], []⟩ = ⟨[a0, a1, .undef, .undef, .undef, .undef, .undef, .undef, .undef, .undef], [], ⟨[], []⟩⟩ := by unfold C25 E25; rfl
theorem ie25 {n m : Nat} {hp : Hp} {a0 a1 : D} : St.init (E25 n m) [a0, a1] hp = ⟨[a0, a1, .undef, .undef, .undef, .undef, .undef, .undef, .undef, .undef], [], hp⟩ := by unfold E25; rfl
noncomputable def c25 : RC := (.seq (.reg r25_0) (.seq (.reg r25_1) (.seq (.reg r25_2) (.seq (.seq (.reg r25_3) (.cond (.var 5) (.seq (.seq (.reg r25_4) (.cond (.var 6) (.seq (.reg r25_5) .ret) .skip)) (.seq (.reg r25_6) .ret)) .skip)) (.seq (.seq (.reg r25_7) (.cond (.var 7) (.seq (.reg r25_8) .ret) .skip)) (.seq (.seq (.reg r25_9) (.cond (.var 8) (.seq (.reg r25_10) .ret) .skip)) (.seq (.seq (.reg r25_11) (.cond (.var 9) (.seq (.reg r25_12) .ret) .skip)) (.seq (.reg r25_13) .ret))))))))
noncomputable def q25 : List RR := [(.slot (.var 2))]
theorem z25 {n m : Nat} : resCode (E25 n m) (Tryd.f25.body.getD .skip) = some c25 := by kernel_rfl
theorem zr25 {n m : Nat} : resRs (E25 n m) Tryd.f25.results.toList = some q25 := by kernel_rfl
theorem oe25 {args : List D} {hp : Hp} {R : D → Hp → Prop} (n m : Nat) (hl : args.length = 2) (hn : n = hp.H.length) (hm : m = hp.tk.length) (h : SWp (E25 n m) c25 (fun e s => (match e with | .exit _ => False | _ => True) ∧ ∃ s1, Weak (E25 n m) s s1 ∧ rrsWp q25 s1 fun ds => R (oneOrTup ds) s1.hp) (St.init (E25 n m) args hp)) : Eff M 25 args hp R :=
  eff_of_body (C := E25 n m) (fn := Tryd.f25) Tryd.func25 (by kernel_rfl) (by kernel_rfl) (rc := c25) z25 (rs := q25) zr25 (by kernel_rfl) (by rw [hl]; rfl) (by rw [hl]; exact (by decide : 2 ≤ 20)) hn hm h
theorem ow25 {args : List D} {d : D} (hl : args.length = 2) (h : SWp C25 c25 (fun e s => (match e with | .exit _ => False | _ => True) ∧ ∃ s1, Weak C25 s s1 ∧ rrsWp q25 s1 fun ds => D.closed (oneOrTup ds) = true ∧ (oneOrTup ds).er = d) (St.init C25 args ⟨[], []⟩)) : Pur M 25 args d :=
  pur_of_bodyW (C := C25) (fn := Tryd.f25) Tryd.func25 (by kernel_rfl) (by kernel_rfl) (rc := c25) z25 (rs := q25) zr25 (by kernel_rfl) (by rw [hl]; rfl) (by rw [hl]; decide) rfl rfl h
theorem ok25 {args : List D} {d : D} (hl : args.length = 2) (h : SWp C25 c25 (fun e s => (match e with | .exit _ => False | _ => True) ∧ rrsWp q25 s fun ds => D.closed (oneOrTup ds) = true ∧ (oneOrTup ds).er = d) (St.init C25 args ⟨[], []⟩)) : Pur M 25 args d :=
  pur_of_body (C := C25) (fn := Tryd.f25) Tryd.func25 (by kernel_rfl) (by kernel_rfl) (rc := c25) z25 (rs := q25) zr25 (by kernel_rfl) (by rw [hl]; rfl) (by rw [hl]; decide) rfl rfl h

/- 33 cmp.isNaN[uint64] · 1 arguments · kept slots [0, 2] -/
noncomputable def E33 (n m : Nat) : Cfg := ⟨M, [0, 2], 6, n, m⟩
noncomputable def C33 : Cfg := E33 0 0
@[reducible] noncomputable def r33_0 : List RO := [
  ⟨(.var 1), .mv, [(.con (.bool false))], none⟩]
@[reducible] noncomputable def r33_1 : List RO := [
  ⟨(.loc 3), .mv, [(.var 0)], none⟩,
  ⟨(.loc 4), .mv, [(.var 0)], none⟩,
  ⟨(.loc 5), (.bin .neq), [(.loc 3), (.loc 4)], none⟩,
  ⟨(.var 1), .mv, [(.loc 5)], none⟩]
theorem P33 : C33.M = M := by unfold C33 E33; rfl
theorem pe33 {n m : Nat} : (E33 n m).M = M := by unfold E33; rfl
theorem i33 {a0 : D} : St.init C33 [a0] ⟨[], []⟩ = ⟨[a0, .undef], [], ⟨[], []⟩⟩ := by unfold C33 E33; rfl
theorem ie33 {n m : Nat} {hp : Hp} {a0 : D} : St.init (E33 n m) [a0] hp = ⟨[a0, .undef], [], hp⟩ := by unfold E33; rfl
noncomputable def c33 : RC := (.seq (.reg r33_0) (.seq (.reg r33_1) .ret))
noncomputable def q33 : List RR := [(.slot (.var 1))]
theorem z33 {n m : Nat} : resCode (E33 n m) (Tryd.f33.body.getD .skip) = some c33 := by kernel_rfl
theorem zr33 {n m : Nat} : resRs (E33 n m) Tryd.f33.results.toList = some q33 := by kernel_rfl
theorem oe33 {args : List D} {hp : Hp} {R : D → Hp → Prop} (n m : Nat) (hl : args.length = 1) (hn : n = hp.H.length) (hm : m = hp.tk.length) (h : SWp (E33 n m) c33 (fun e s => (match e with | .exit _ => False | _ => True) ∧ ∃ s1, Weak (E33 n m) s s1 ∧ rrsWp q33 s1 fun ds => R (oneOrTup ds) s1.hp) (St.init (E33 n m) args hp)) : Eff M 33 args hp R :=
  eff_of_body (C := E33 n m) (fn := Tryd.f33) Tryd.func33 (by kernel_rfl) (by kernel_rfl) (rc := c33) z33 (rs := q33) zr33 (by kernel_rfl) (by rw [hl]; rfl) (by rw [hl]; exact (by decide : 1 ≤ 6)) hn hm h
theorem ow33 {args : List D} {d : D} (hl : args.length = 1) (h : SWp C33 c33 (fun e s => (match e with | .exit _ => False | _ => True) ∧ ∃ s1, Weak C33 s s1 ∧ rrsWp q33 s1 fun ds => D.closed (oneOrTup ds) = true ∧ (oneOrTup ds).er = d) (St.init C33 args ⟨[], []⟩)) : Pur M 33 args d :=
  pur_of_bodyW (C := C33) (fn := Tryd.f33) Tryd.func33 (by kernel_rfl) (by kernel_rfl) (rc := c33) z33 (rs := q33) zr33 (by kernel_rfl) (by rw [hl]; rfl) (by rw [hl]; decide) rfl rfl h
theorem ok33 {args : List D} {d : D} (hl : args.length = 1) (h : SWp C33 c33 (fun e s => (match e with | .exit _ => False | _ => True) ∧ rrsWp q33 s fun ds => D.closed (oneOrTup ds) = true ∧ (oneOrTup ds).er = d) (St.init C33 args ⟨[], []⟩)) : Pur M 33 args d :=
  pur_of_body (C := C33) (fn := Tryd.f33) Tryd.func33 (by kernel_rfl) (by kernel_rfl) (rc := c33) z33 (rs := q33) zr33 (by kernel_rfl) (by rw [hl]; rfl) (by rw [hl]; decide) rfl rfl h

/- 24 bogie.money.Split$1 · 2 arguments · kept slots [0, 1, 2, 3, 4] -/
noncomputable def E24 (n m : Nat) : Cfg := ⟨M, [0, 1, 2, 3, 4], 10, n, m⟩
noncomputable def C24 : Cfg := E24 0 0
@[reducible] noncomputable def r24_0 : List RO := [
  ⟨(.var 2), .box, [(.var 0)], none⟩,
  ⟨(.var 3), .box, [(.var 1)], none⟩,
  ⟨(.var 4), .mv, [(.con (.int .i64 0))], none⟩]
@[reducible] noncomputable def r24_1 : List RO := [
  ⟨(.loc 5), (.fld 2), [(.var 3)], none⟩,
  ⟨(.loc 6), (.ld false 1), [(.loc 5)], none⟩,
  ⟨(.loc 7), (.fld 2), [(.var 2)], none⟩,
  ⟨(.loc 8), (.ld false 1), [(.loc 7)], none⟩,
  ⟨(.loc 9), .call, [(.con (.fn (.func 25) [] [])), (.loc 6), (.loc 8)], none⟩,
  ⟨(.var 4), .mv, [(.loc 9)], none⟩]
theorem P24 : C24.M = M := by unfold C24 E24; rfl
theorem pe24 {n m : Nat} : (E24 n m).M = M := by unfold E24; rfl
theorem i24 {a0 a1 : D} : St.init C24 [a0, a1] ⟨[], []⟩ = ⟨[a0, a1, .undef, .undef, .undef], [], ⟨[], []⟩⟩ := by unfold C24 E24; rfl
theorem ie24 {n m : Nat} {hp : Hp} {a0 a1 : D} : St.init (E24 n m) [a0, a1] hp = ⟨[a0, a1, .undef, .undef, .undef], [], hp⟩ := by unfold E24; rfl
noncomputable def c24 : RC := (.seq (.reg r24_0) (.seq (.reg r24_1) .ret))
noncomputable def q24 : List RR := [(.slot (.var 4))]
theorem z24 {n m : Nat} : resCode (E24 n m) (Tryd.f24.body.getD .skip) = some c24 := by kernel_rfl
theorem zr24 {n m : Nat} : resRs (E24 n m) Tryd.f24.results.toList = some q24 := by kernel_rfl
theorem oe24 {args : List D} {hp : Hp} {R : D → Hp → Prop} (n m : Nat) (hl : args.length = 2) (hn : n = hp.H.length) (hm : m = hp.tk.length) (h : SWp (E24 n m) c24 (fun e s => (match e with | .exit _ => False | _ => True) ∧ ∃ s1, Weak (E24 n m) s s1 ∧ rrsWp q24 s1 fun ds => R (oneOrTup ds) s1.hp) (St.init (E24 n m) args hp)) : Eff M 24 args hp R :=
  eff_of_body (C := E24 n m) (fn := Tryd.f24) Tryd.func24 (by kernel_rfl) (by kernel_rfl) (rc := c24) z24 (rs := q24) zr24 (by kernel_rfl) (by rw [hl]; rfl) (by rw [hl]; exact (by decide : 2 ≤ 10)) hn hm h
theorem ow24 {args : List D} {d : D} (hl : args.length = 2) (h : SWp C24 c24 (fun e s => (match e with | .exit _ => False | _ => True) ∧ ∃ s1, Weak C24 s s1 ∧ rrsWp q24 s1 fun ds => D.closed (oneOrTup ds) = true ∧ (oneOrTup ds).er = d) (St.init C24 args ⟨[], []⟩)) : Pur M 24 args d :=
  pur_of_bodyW (C := C24) (fn := Tryd.f24) Tryd.func24 (by kernel_rfl) (by kernel_rfl) (rc := c24) z24 (rs := q24) zr24 (by kernel_rfl) (by rw [hl]; rfl) (by rw [hl]; decide) rfl rfl h
theorem ok24 {args : List D} {d : D} (hl : args.length = 2) (h : SWp C24 c24 (fun e s => (match e with | .exit _ => False | _ => True) ∧ rrsWp q24 s fun ds => D.closed (oneOrTup ds) = true ∧ (oneOrTup ds).er = d) (St.init C24 args ⟨[], []⟩)) : Pur M 24 args d :=
  pur_of_body (C := C24) (fn := Tryd.f24) Tryd.func24 (by kernel_rfl) (by kernel_rfl) (rc := c24) z24 (rs := q24) zr24 (by kernel_rfl) (by rw [hl]; rfl) (by rw [hl]; decide) rfl rfl h

/- 36 slices.insertionSortCmpFunc[bogie.money.share] · 4 arguments · kept slots [0, 1, 2, 3, 8, 9, 14, 34] -/
noncomputable def E36 (n m : Nat) : Cfg := ⟨M, [0, 1, 2, 3, 8, 9, 14, 34], 53, n, m⟩
noncomputable def C36 : Cfg := E36 0 0
@[reducible] noncomputable def r36_0 : List RO := [
  ⟨(.loc 10), .mv, [(.var 1)], none⟩,
  ⟨(.loc 11), (.bin .add), [(.loc 10), (.con (.int .i64 1))], none⟩,
  ⟨(.var 4), .mv, [(.loc 11)], none⟩]
@[reducible] noncomputable def r36_1 : List RO := [
  ⟨(.loc 12), .mv, [(.var 4)], none⟩,
  ⟨(.loc 13), .mv, [(.var 2)], none⟩,
  ⟨(.var 6), (.bin .lss), [(.loc 12), (.loc 13)], none⟩]
@[reducible] noncomputable def r36_2 : List RO := [
  ⟨(.loc 17), .mv, [(.var 4)], none⟩,
  ⟨(.var 5), .mv, [(.loc 17)], none⟩]
@[reducible] noncomputable def r36_3 : List (RO × Bool) := [
  (⟨(.loc 18), .mv, [(.var 5)], none⟩, true),
  (⟨(.loc 19), .mv, [(.var 1)], none⟩, true),
  (⟨(.loc 20), (.bin .gtr), [(.loc 18), (.loc 19)], none⟩, true),
  (⟨(.loc 21), .mv, [(.loc 20)], none⟩, true),
  (⟨(.loc 22), .mv, [(.var 3)], (some ((.loc 21), true))⟩, true),
  (⟨(.loc 23), .mv, [(.var 0)], (some ((.loc 21), true))⟩, true),
  (⟨(.loc 24), .mv, [(.var 5)], (some ((.loc 21), true))⟩, true),
  (⟨(.loc 25), (.ixaS 3), [(.loc 23), (.loc 24)], (some ((.loc 21), true))⟩, true),
  (⟨(.loc 26), (.ld true 3), [(.loc 25)], (some ((.loc 21), true))⟩, true),
  (⟨(.loc 27), .mv, [(.var 0)], (some ((.loc 21), true))⟩, true),
  (⟨(.loc 28), .mv, [(.var 5)], (some ((.loc 21), true))⟩, true),
  (⟨(.loc 29), (.bin .sub), [(.loc 28), (.con (.int .i64 1))], (some ((.loc 21), true))⟩, true),
  (⟨(.loc 30), (.ixaS 3), [(.loc 27), (.loc 29)], (some ((.loc 21), true))⟩, true),
  (⟨(.loc 31), (.ld true 3), [(.loc 30)], (some ((.loc 21), true))⟩, true)]
@[reducible] noncomputable def r36_4 : List RO := [
  ⟨(.loc 32), .call, [(.loc 22), (.loc 26), (.loc 31)], (some ((.loc 21), true))⟩,
  ⟨(.loc 33), (.bin .lss), [(.loc 32), (.con (.int .i64 0))], (some ((.loc 21), true))⟩,
  ⟨(.var 7), .pick, [(.loc 21), (.loc 33), (.con (.bool false))], none⟩]
@[reducible] noncomputable def r36_5 : List (RO × Bool) := [
  (⟨(.loc 37), .mv, [(.var 0)], none⟩, true),
  (⟨(.loc 38), .mv, [(.var 5)], none⟩, true),
  (⟨(.loc 39), .mv, [(.var 0)], none⟩, true),
  (⟨(.loc 40), .mv, [(.var 5)], none⟩, true),
  (⟨(.loc 41), (.bin .sub), [(.loc 40), (.con (.int .i64 1))], none⟩, true),
  (⟨(.loc 42), .mv, [(.var 0)], none⟩, true),
  (⟨(.loc 43), .mv, [(.var 5)], none⟩, true),
  (⟨(.loc 44), (.bin .sub), [(.loc 43), (.con (.int .i64 1))], none⟩, true),
  (⟨(.loc 45), (.ixaS 3), [(.loc 42), (.loc 44)], none⟩, true),
  (⟨(.loc 46), (.ld true 3), [(.loc 45)], none⟩, true),
  (⟨(.loc 47), .mv, [(.var 0)], none⟩, true),
  (⟨(.loc 48), .mv, [(.var 5)], none⟩, true),
  (⟨(.loc 49), (.ixaS 3), [(.loc 47), (.loc 48)], none⟩, true),
  (⟨(.loc 50), (.ld true 3), [(.loc 49)], none⟩, true),
  (⟨(.loc 51), (.ixaS 3), [(.loc 37), (.loc 38)], none⟩, true),
  (⟨.none, (.st 3), [(.loc 51), (.loc 46)], none⟩, false)]
@[reducible] noncomputable def r36_6 : List RO := [
  ⟨(.loc 52), (.ixaS 3), [(.loc 39), (.loc 41)], none⟩,
  ⟨.none, (.st 3), [(.loc 52), (.loc 50)], none⟩]
@[reducible] noncomputable def r36_7 : List RO := [
  ⟨(.loc 35), .mv, [(.var 5)], none⟩,
  ⟨(.loc 36), (.bin .sub), [(.loc 35), (.con (.int .i64 1))], none⟩,
  ⟨(.var 5), .mv, [(.loc 36)], none⟩]
@[reducible] noncomputable def r36_8 : List RO := [
  ⟨(.loc 15), .mv, [(.var 4)], none⟩,
  ⟨(.loc 16), (.bin .add), [(.loc 15), (.con (.int .i64 1))], none⟩,
  ⟨(.var 4), .mv, [(.loc 16)], none⟩]
theorem P36 : C36.M = M := by unfold C36 E36; rfl
theorem pe36 {n m : Nat} : (E36 n m).M = M := by unfold E36; rfl
theorem i36 {a0 a1 a2 a3 : D} : St.init C36 [a0, a1, a2, a3] ⟨[], []⟩ = ⟨[a0, a1, a2, a3, .undef, .undef, .undef, .undef], [], ⟨[], []⟩⟩ := by unfold C36 E36; rfl
theorem ie36 {n m : Nat} {hp : Hp} {a0 a1 a2 a3 : D} : St.init (E36 n m) [a0, a1, a2, a3] hp = ⟨[a0, a1, a2, a3, .undef, .undef, .undef, .undef], [], hp⟩ := by unfold E36; rfl
noncomputable def c36 : RC := (.seq (.reg r36_0) (.block 0 (.loop (.seq (.seq (.reg r36_1) (.cond (.var 6) .skip (.exit 0))) (.seq (.block 1 (.seq (.reg r36_2) (.block 2 (.loop (.seq (.seq (.regD r36_3 r36_4) (.cond (.var 7) .skip (.exit 2))) (.seq (.block 3 (.regD r36_5 r36_6)) (.reg r36_7))))))) (.reg r36_8))))))
noncomputable def q36 : List RR := []
theorem z36 {n m : Nat} : resCode (E36 n m) (Tryd.f36.body.getD .skip) = some c36 := by kernel_rfl
theorem zr36 {n m : Nat} : resRs (E36 n m) Tryd.f36.results.toList = some q36 := by kernel_rfl
theorem oe36 {args : List D} {hp : Hp} {R : D → Hp → Prop} (n m : Nat) (hl : args.length = 4) (hn : n = hp.H.length) (hm : m = hp.tk.length) (h : SWp (E36 n m) c36 (fun e s => (match e with | .exit _ => False | _ => True) ∧ ∃ s1, Weak (E36 n m) s s1 ∧ rrsWp q36 s1 fun ds => R (oneOrTup ds) s1.hp) (St.init (E36 n m) args hp)) : Eff M 36 args hp R :=
  eff_of_body (C := E36 n m) (fn := Tryd.f36) Tryd.func36 (by kernel_rfl) (by kernel_rfl) (rc := c36) z36 (rs := q36) zr36 (by kernel_rfl) (by rw [hl]; rfl) (by rw [hl]; exact (by decide : 4 ≤ 53)) hn hm h
theorem ow36 {args : List D} {d : D} (hl : args.length = 4) (h : SWp C36 c36 (fun e s => (match e with | .exit _ => False | _ => True) ∧ ∃ s1, Weak C36 s s1 ∧ rrsWp q36 s1 fun ds => D.closed (oneOrTup ds) = true ∧ (oneOrTup ds).er = d) (St.init C36 args ⟨[], []⟩)) : Pur M 36 args d :=
  pur_of_bodyW (C := C36) (fn := Tryd.f36) Tryd.func36 (by kernel_rfl) (by kernel_rfl) (rc := c36) z36 (rs := q36) zr36 (by kernel_rfl) (by rw [hl]; rfl) (by rw [hl]; decide) rfl rfl h
theorem ok36 {args : List D} {d : D} (hl : args.length = 4) (h : SWp C36 c36 (fun e s => (match e with | .exit _ => False | _ => True) ∧ rrsWp q36 s fun ds => D.closed (oneOrTup ds) = true ∧ (oneOrTup ds).er = d) (St.init C36 args ⟨[], []⟩)) : Pur M 36 args d :=
  pur_of_body (C := C36) (fn := Tryd.f36) Tryd.func36 (by kernel_rfl) (by kernel_rfl) (rc := c36) z36 (rs := q36) zr36 (by kernel_rfl) (by rw [hl]; rfl) (by rw [hl]; decide) rfl rfl h

/- 32 slices.stableCmpFunc[bogie.money.share] · 3 arguments · kept slots [0, 1, 2, 6, 7, 8, 9, 13, 30, 35, 54] -/
noncomputable def E32 (n m : Nat) : Cfg := ⟨M, [0, 1, 2, 6, 7, 8, 9, 13, 30, 35, 54], 63, n, m⟩
noncomputable def C32 : Cfg := E32 0 0
@[reducible] noncomputable def r32_0 : List RO := [
  ⟨(.var 3), .mv, [(.con (.int .i64 20))], none⟩]
@[reducible] noncomputable def r32_1 : List RO := [
  ⟨(.loc 10), .mv, [(.var 3)], none⟩,
  ⟨(.var 4), .mv, [(.con (.int .i64 0))], none⟩,
  ⟨(.var 5), .mv, [(.loc 10)], none⟩]
@[reducible] noncomputable def r32_2 : List RO := [
  ⟨(.loc 11), .mv, [(.var 5)], none⟩,
  ⟨(.loc 12), .mv, [(.var 1)], none⟩,
  ⟨(.var 7), (.bin .leq), [(.loc 11), (.loc 12)], none⟩]
@[reducible] noncomputable def r32_3 : List RO := [
  ⟨(.loc 14), .mv, [(.var 0)], none⟩,
  ⟨(.loc 15), .mv, [(.var 4)], none⟩,
  ⟨(.loc 16), .mv, [(.var 5)], none⟩,
  ⟨(.loc 17), .mv, [(.var 2)], none⟩,
  ⟨(.loc 18), .call, [(.con (.fn (.func 36) [] [])), (.loc 14), (.loc 15), (.loc 16), (.loc 17)], none⟩]
@[reducible] noncomputable def r32_4 : List RO := [
  ⟨(.loc 19), .mv, [(.var 5)], none⟩,
  ⟨(.var 4), .mv, [(.loc 19)], none⟩]
@[reducible] noncomputable def r32_5 : List RO := [
  ⟨(.loc 20), .mv, [(.var 5)], none⟩,
  ⟨(.loc 21), .mv, [(.var 3)], none⟩,
  ⟨(.loc 22), (.bin .add), [(.loc 20), (.loc 21)], none⟩,
  ⟨(.var 5), .mv, [(.loc 22)], none⟩]
@[reducible] noncomputable def r32_6 : List RO := [
  ⟨(.loc 23), .mv, [(.var 0)], none⟩,
  ⟨(.loc 24), .mv, [(.var 4)], none⟩,
  ⟨(.loc 25), .mv, [(.var 1)], none⟩,
  ⟨(.loc 26), .mv, [(.var 2)], none⟩,
  ⟨(.loc 27), .call, [(.con (.fn (.func 36) [] [])), (.loc 23), (.loc 24), (.loc 25), (.loc 26)], none⟩]
@[reducible] noncomputable def r32_7 : List RO := [
  ⟨(.loc 28), .mv, [(.var 3)], none⟩,
  ⟨(.loc 29), .mv, [(.var 1)], none⟩,
  ⟨(.var 8), (.bin .lss), [(.loc 28), (.loc 29)], none⟩]
@[reducible] noncomputable def r32_8 : List RO := [
  ⟨(.loc 31), .mv, [(.var 3)], none⟩,
  ⟨(.loc 32), (.bin .mul), [(.con (.int .i64 2)), (.loc 31)], none⟩,
  ⟨(.var 4), .mv, [(.con (.int .i64 0))], none⟩,
  ⟨(.var 5), .mv, [(.loc 32)], none⟩]
@[reducible] noncomputable def r32_9 : List RO := [
  ⟨(.loc 33), .mv, [(.var 5)], none⟩,
  ⟨(.loc 34), .mv, [(.var 1)], none⟩,
  ⟨(.var 9), (.bin .leq), [(.loc 33), (.loc 34)], none⟩]
@[reducible] noncomputable def r32_10 : List RO := [
  ⟨(.loc 36), .mv, [(.var 0)], none⟩,
  ⟨(.loc 37), .mv, [(.var 4)], none⟩,
  ⟨(.loc 38), .mv, [(.var 4)], none⟩,
  ⟨(.loc 39), .mv, [(.var 3)], none⟩,
  ⟨(.loc 40), (.bin .add), [(.loc 38), (.loc 39)], none⟩,
  ⟨(.loc 41), .mv, [(.var 5)], none⟩,
  ⟨(.loc 42), .mv, [(.var 2)], none⟩,
  ⟨(.loc 43), .call, [(.con (.fn (.func 37) [] [])), (.loc 36), (.loc 37), (.loc 40), (.loc 41), (.loc 42)], none⟩]
@[reducible] noncomputable def r32_11 : List RO := [
  ⟨(.loc 44), .mv, [(.var 5)], none⟩,
  ⟨(.var 4), .mv, [(.loc 44)], none⟩]
@[reducible] noncomputable def r32_12 : List RO := [
  ⟨(.loc 45), .mv, [(.var 5)], none⟩,
  ⟨(.loc 46), .mv, [(.var 3)], none⟩,
  ⟨(.loc 47), (.bin .mul), [(.con (.int .i64 2)), (.loc 46)], none⟩,
  ⟨(.loc 48), (.bin .add), [(.loc 45), (.loc 47)], none⟩,
  ⟨(.var 5), .mv, [(.loc 48)], none⟩]
@[reducible] noncomputable def r32_13 : List RO := [
  ⟨(.loc 49), .mv, [(.var 4)], none⟩,
  ⟨(.loc 50), .mv, [(.var 3)], none⟩,
  ⟨(.loc 51), (.bin .add), [(.loc 49), (.loc 50)], none⟩,
  ⟨(.var 6), .mv, [(.loc 51)], none⟩]
@[reducible] noncomputable def r32_14 : List RO := [
  ⟨(.loc 52), .mv, [(.var 6)], none⟩,
  ⟨(.loc 53), .mv, [(.var 1)], none⟩,
  ⟨(.var 10), (.bin .lss), [(.loc 52), (.loc 53)], none⟩]
@[reducible] noncomputable def r32_15 : List RO := [
  ⟨(.loc 55), .mv, [(.var 0)], none⟩,
  ⟨(.loc 56), .mv, [(.var 4)], none⟩,
  ⟨(.loc 57), .mv, [(.var 6)], none⟩,
  ⟨(.loc 58), .mv, [(.var 1)], none⟩,
  ⟨(.loc 59), .mv, [(.var 2)], none⟩,
  ⟨(.loc 60), .call, [(.con (.fn (.func 37) [] [])), (.loc 55), (.loc 56), (.loc 57), (.loc 58), (.loc 59)], none⟩]
@[reducible] noncomputable def r32_16 : List RO := [
  ⟨(.loc 61), .mv, [(.var 3)], none⟩,
  ⟨(.loc 62), (.bin .mul), [(.loc 61), (.con (.int .i64 2))], none⟩,
  ⟨(.var 3), .mv, [(.loc 62)], none⟩]
theorem P32 : C32.M = M := by unfold C32 E32; rfl
theorem pe32 {n m : Nat} : (E32 n m).M = M := by unfold E32; rfl
theorem i32 {a0 a1 a2 : D} : St.init C32 [a0, a1, a2] ⟨[], []⟩ = ⟨[a0, a1, a2, .undef, .undef, .undef, .undef, .undef, .undef, .undef, .undef], [], ⟨[], []⟩⟩ := by unfold C32 E32; rfl
theorem ie32 {n m : Nat} {hp : Hp} {a0 a1 a2 : D} : St.init (E32 n m) [a0, a1, a2] hp = ⟨[a0, a1, a2, .undef, .undef, .undef, .undef, .undef, .undef, .undef, .undef], [], hp⟩ := by unfold E32; rfl
noncomputable def c32 : RC := (.seq (.reg r32_0) (.seq (.reg r32_1) (.seq (.block 0 (.loop (.seq (.seq (.reg r32_2) (.cond (.var 7) .skip (.exit 0))) (.block 1 (.seq (.reg r32_3) (.seq (.reg r32_4) (.reg r32_5))))))) (.seq (.reg r32_6) (.block 2 (.loop (.seq (.seq (.reg r32_7) (.cond (.var 8) .skip (.exit 2))) (.block 3 (.seq (.reg r32_8) (.seq (.block 4 (.loop (.seq (.seq (.reg r32_9) (.cond (.var 9) .skip (.exit 4))) (.block 5 (.seq (.reg r32_10) (.seq (.reg r32_11) (.reg r32_12))))))) (.seq (.seq (.reg r32_13) (.seq (.reg r32_14) (.cond (.var 10) (.reg r32_15) .skip))) (.reg r32_16))))))))))))
noncomputable def q32 : List RR := []
theorem z32 {n m : Nat} : resCode (E32 n m) (Tryd.f32.body.getD .skip) = some c32 := by kernel_rfl
theorem zr32 {n m : Nat} : resRs (E32 n m) Tryd.f32.results.toList = some q32 := by kernel_rfl
theorem oe32 {args : List D} {hp : Hp} {R : D → Hp → Prop} (n m : Nat) (hl : args.length = 3) (hn : n = hp.H.length) (hm : m = hp.tk.length) (h : SWp (E32 n m) c32 (fun e s => (match e with | .exit _ => False | _ => True) ∧ ∃ s1, Weak (E32 n m) s s1 ∧ rrsWp q32 s1 fun ds => R (oneOrTup ds) s1.hp) (St.init (E32 n m) args hp)) : Eff M 32 args hp R :=
  eff_of_body (C := E32 n m) (fn := Tryd.f32) Tryd.func32 (by kernel_rfl) (by kernel_rfl) (rc := c32) z32 (rs := q32) zr32 (by kernel_rfl) (by rw [hl]; rfl) (by rw [hl]; exact (by decide : 3 ≤ 63)) hn hm h
theorem ow32 {args : List D} {d : D} (hl : args.length = 3) (h : SWp C32 c32 (fun e s => (match e with | .exit _ => False | _ => True) ∧ ∃ s1, Weak C32 s s1 ∧ rrsWp q32 s1 fun ds => D.closed (oneOrTup ds) = true ∧ (oneOrTup ds).er = d) (St.init C32 args ⟨[], []⟩)) : Pur M 32 args d :=
  pur_of_bodyW (C := C32) (fn := Tryd.f32) Tryd.func32 (by kernel_rfl) (by kernel_rfl) (rc := c32) z32 (rs := q32) zr32 (by kernel_rfl) (by rw [hl]; rfl) (by rw [hl]; decide) rfl rfl h
theorem ok32 {args : List D} {d : D} (hl : args.length = 3) (h : SWp C32 c32 (fun e s => (match e with | .exit _ => False | _ => True) ∧ rrsWp q32 s fun ds => D.closed (oneOrTup ds) = true ∧ (oneOrTup ds).er = d) (St.init C32 args ⟨[], []⟩)) : Pur M 32 args d :=
  pur_of_body (C := C32) (fn := Tryd.f32) Tryd.func32 (by kernel_rfl) (by kernel_rfl) (rc := c32) z32 (rs := q32) zr32 (by kernel_rfl) (by rw [hl]; rfl) (by rw [hl]; decide) rfl rfl h

/- 23 slices.SortStableFunc[[]bogie.money.share,bogie.money.share] · 2 arguments · kept slots [0, 1] -/
noncomputable def E23 (n m : Nat) : Cfg := ⟨M, [0, 1], 9, n, m⟩
noncomputable def C23 : Cfg := E23 0 0
@[reducible] noncomputable def r23_0 : List RO := [
  ⟨(.loc 4), .mv, [(.var 0)], none⟩,
  ⟨(.loc 5), .mv, [(.var 0)], none⟩,
  ⟨(.loc 6), .lenL, [(.loc 5)], none⟩,
  ⟨(.loc 7), .mv, [(.var 1)], none⟩,
  ⟨(.loc 8), .call, [(.con (.fn (.func 32) [] [])), (.loc 4), (.loc 6), (.loc 7)], none⟩]
theorem P23 : C23.M = M := by unfold C23 E23; rfl
theorem pe23 {n m : Nat} : (E23 n m).M = M := by unfold E23; rfl
theorem i23 {a0 a1 : D} : St.init C23 [a0, a1] ⟨[], []⟩ = ⟨[a0, a1], [], ⟨[], []⟩⟩ := by unfold C23 E23; rfl
theorem ie23 {n m : Nat} {hp : Hp} {a0 a1 : D} : St.init (E23 n m) [a0, a1] hp = ⟨[a0, a1], [], hp⟩ := by unfold E23; rfl
noncomputable def c23 : RC := (.reg r23_0)
noncomputable def q23 : List RR := []
theorem z23 {n m : Nat} : resCode (E23 n m) (Tryd.f23.body.getD .skip) = some c23 := by kernel_rfl
theorem zr23 {n m : Nat} : resRs (E23 n m) Tryd.f23.results.toList = some q23 := by kernel_rfl
theorem oe23 {args : List D} {hp : Hp} {R : D → Hp → Prop} (n m : Nat) (hl : args.length = 2) (hn : n = hp.H.length) (hm : m = hp.tk.length) (h : SWp (E23 n m) c23 (fun e s => (match e with | .exit _ => False | _ => True) ∧ ∃ s1, Weak (E23 n m) s s1 ∧ rrsWp q23 s1 fun ds => R (oneOrTup ds) s1.hp) (St.init (E23 n m) args hp)) : Eff M 23 args hp R :=
  eff_of_body (C := E23 n m) (fn := Tryd.f23) Tryd.func23 (by kernel_rfl) (by kernel_rfl) (rc := c23) z23 (rs := q23) zr23 (by kernel_rfl) (by rw [hl]; rfl) (by rw [hl]; exact (by decide : 2 ≤ 9)) hn hm h
theorem ow23 {args : List D} {d : D} (hl : args.length = 2) (h : SWp C23 c23 (fun e s => (match e with | .exit _ => False | _ => True) ∧ ∃ s1, Weak C23 s s1 ∧ rrsWp q23 s1 fun ds => D.closed (oneOrTup ds) = true ∧ (oneOrTup ds).er = d) (St.init C23 args ⟨[], []⟩)) : Pur M 23 args d :=
  pur_of_bodyW (C := C23) (fn := Tryd.f23) Tryd.func23 (by kernel_rfl) (by kernel_rfl) (rc := c23) z23 (rs := q23) zr23 (by kernel_rfl) (by rw [hl]; rfl) (by rw [hl]; decide) rfl rfl h
theorem ok23 {args : List D} {d : D} (hl : args.length = 2) (h : SWp C23 c23 (fun e s => (match e with | .exit _ => False | _ => True) ∧ rrsWp q23 s fun ds => D.closed (oneOrTup ds) = true ∧ (oneOrTup ds).er = d) (St.init C23 args ⟨[], []⟩)) : Pur M 23 args d :=
  pur_of_body (C := C23) (fn := Tryd.f23) Tryd.func23 (by kernel_rfl) (by kernel_rfl) (rc := c23) z23 (rs := q23) zr23 (by kernel_rfl) (by rw [hl]; rfl) (by rw [hl]; decide) rfl rfl h

/- 9 bogie.money.Split · 2 arguments · kept slots [0, 1, 4, 5, 6, 8, 9, 10, 11, 12, 13, 14, 15, 16, 17, 18, 19, 20, 21, 22, 23, 28, 44, 46, 47, 48, 49, 87, 88, 89, 90, 102] -/
noncomputable def E9 (n m : Nat) : Cfg := ⟨M, [0, 1, 4, 5, 6, 8, 9, 10, 11, 12, 13, 14, 15, 16, 17, 18, 19, 20, 21, 22, 23, 28, 44, 46, 47, 48, 49, 87, 88, 89, 90, 102], 112, n, m⟩
noncomputable def C9 : Cfg := E9 0 0
@[reducible] noncomputable def r9_0 : List RO := [
  ⟨(.var 2), .mv, [(.con (.lit (.slice none 0 0)))], none⟩,
  ⟨(.var 3), .mv, [(.con (.int .i64 0))], none⟩]
@[reducible] noncomputable def r9_1 : List RO := [
  ⟨(.var 4), .mv, [(.con (.int .i64 0))], none⟩]
@[reducible] noncomputable def r9_2 : List RO := [
  ⟨(.var 17), .mv, [(.var 1)], none⟩,
  ⟨(.var 18), .lenL, [(.var 17)], none⟩,
  ⟨(.var 19), .mv, [(.con (.int .i64 0))], none⟩]
@[reducible] noncomputable def r9_3 : List RO := [
  ⟨(.var 20), (.bin .lss), [(.var 19), (.var 18)], none⟩]
@[reducible] noncomputable def r9_4 : List RO := [
  ⟨(.loc 24), (.ixaS 1), [(.var 17), (.var 19)], none⟩,
  ⟨(.loc 25), (.ld false 1), [(.loc 24)], none⟩,
  ⟨(.var 5), .mv, [(.loc 25)], none⟩]
@[reducible] noncomputable def r9_5 : List RO := [
  ⟨(.loc 26), .mv, [(.var 5)], none⟩,
  ⟨(.loc 27), .call, [(.con (.fn (.func 20) [] [])), (.loc 26), (.con (.int .i64 0)), (.con (.int .i64 9999999))], none⟩,
  ⟨(.var 21), (.un .not), [(.loc 27)], none⟩]
@[reducible] noncomputable def r9_6 : List RO := [
  ⟨(.var 2), .mv, [(.con (.lit (.slice none 0 0)))], none⟩,
  ⟨(.var 3), .mv, [(.con (.int .i64 1))], none⟩]
@[reducible] noncomputable def r9_7 : List RO := [
  ⟨(.loc 29), .mv, [(.var 4)], none⟩,
  ⟨(.loc 30), .mv, [(.var 5)], none⟩,
  ⟨(.loc 31), (.bin .add), [(.loc 29), (.loc 30)], none⟩,
  ⟨(.var 4), .mv, [(.loc 31)], none⟩]
@[reducible] noncomputable def r9_8 : List RO := [
  ⟨(.loc 32), (.bin .add), [(.var 19), (.con (.int .i64 1))], none⟩,
  ⟨(.var 19), .mv, [(.loc 32)], none⟩]
@[reducible] noncomputable def r9_9 : List RO := [
  ⟨(.loc 33), .mv, [(.var 0)], none⟩,
  ⟨(.loc 34), .call, [(.con (.fn (.func 20) [] [])), (.loc 33), (.con (.int .i64 0)), (.con (.int .i64 1000000000000))], none⟩,
  ⟨(.loc 35), (.un .not), [(.loc 34)], none⟩,
  ⟨(.loc 36), .mv, [(.loc 35)], none⟩,
  ⟨(.loc 37), .mv, [(.var 1)], (some ((.loc 36), false))⟩,
  ⟨(.loc 38), .lenL, [(.loc 37)], (some ((.loc 36), false))⟩,
  ⟨(.loc 39), (.bin .gtr), [(.loc 38), (.con (.int .i64 16))], (some ((.loc 36), false))⟩,
  ⟨(.loc 40), .pick, [(.loc 36), (.con (.bool true)), (.loc 39)], none⟩,
  ⟨(.loc 41), .mv, [(.loc 40)], none⟩,
  ⟨(.loc 42), .mv, [(.var 4)], (some ((.loc 41), false))⟩,
  ⟨(.loc 43), (.bin .eql), [(.loc 42), (.con (.int .i64 0))], (some ((.loc 41), false))⟩,
  ⟨(.var 22), .pick, [(.loc 41), (.con (.bool true)), (.loc 43)], none⟩]
@[reducible] noncomputable def r9_10 : List RO := [
  ⟨(.var 2), .mv, [(.con (.lit (.slice none 0 0)))], none⟩,
  ⟨(.var 3), .mv, [(.con (.int .i64 1))], none⟩]
@[reducible] noncomputable def r9_11 : List RO := [
  ⟨(.loc 45), .mv, [(.var 0)], none⟩,
  ⟨(.var 6), .mv, [(.loc 45)], none⟩]
@[reducible] noncomputable def r9_12 : List RO := [
  ⟨(.var 7), .mv, [(.con (.lit (.slice none 0 0)))], none⟩]
@[reducible] noncomputable def r9_13 : List RO := [
  ⟨(.var 23), .mv, [(.var 1)], none⟩,
  ⟨(.var 24), .lenL, [(.var 23)], none⟩,
  ⟨(.var 25), .mv, [(.con (.int .i64 0))], none⟩]
@[reducible] noncomputable def r9_14 : List RO := [
  ⟨(.var 26), (.bin .lss), [(.var 25), (.var 24)], none⟩]
@[reducible] noncomputable def r9_15 : List RO := [
  ⟨(.loc 50), .mv, [(.var 25)], none⟩,
  ⟨(.loc 51), (.ixaS 1), [(.var 23), (.var 25)], none⟩,
  ⟨(.loc 52), (.ld false 1), [(.loc 51)], none⟩,
  ⟨(.var 8), .mv, [(.loc 50)], none⟩,
  ⟨(.var 9), .mv, [(.loc 52)], none⟩]
@[reducible] noncomputable def r9_16 : List RO := [
  ⟨(.loc 54), .mv, [(.var 0)], none⟩,
  ⟨(.loc 55), (.cvI .u64), [(.loc 54)], none⟩,
  ⟨(.loc 56), .mv, [(.var 9)], none⟩,
  ⟨(.loc 57), (.cvI .u64), [(.loc 56)], none⟩,
  ⟨(.loc 58), .call, [(.con (.fn (.func 21) [] [])), (.loc 55), (.loc 57)], none⟩,
  ⟨(.loc 53), .mv, [(.loc 58)], none⟩,
  ⟨(.loc 59), (.ext 0), [(.loc 53)], none⟩,
  ⟨(.loc 60), (.ext 1), [(.loc 53)], none⟩,
  ⟨(.var 10), .mv, [(.loc 59)], none⟩,
  ⟨(.var 11), .mv, [(.loc 60)], none⟩]
@[reducible] noncomputable def r9_17 : List RO := [
  ⟨(.loc 62), .mv, [(.var 10)], none⟩,
  ⟨(.loc 63), .mv, [(.var 11)], none⟩,
  ⟨(.loc 64), .mv, [(.var 4)], none⟩,
  ⟨(.loc 65), (.cvI .u64), [(.loc 64)], none⟩,
  ⟨(.loc 66), .call, [(.con (.fn (.func 22) [] [])), (.loc 62), (.loc 63), (.loc 65)], none⟩,
  ⟨(.loc 61), .mv, [(.loc 66)], none⟩,
  ⟨(.loc 67), (.ext 0), [(.loc 61)], none⟩,
  ⟨(.loc 68), (.ext 1), [(.loc 61)], none⟩,
  ⟨(.var 12), .mv, [(.loc 67)], none⟩,
  ⟨(.var 13), .mv, [(.loc 68)], none⟩]
@[reducible] noncomputable def r9_18 : List RO := [
  ⟨(.loc 69), .mv, [(.var 7)], none⟩,
  ⟨(.loc 70), .mv, [(.var 8)], none⟩,
  ⟨(.loc 71), .mv, [(.var 12)], none⟩,
  ⟨(.loc 72), (.cvI .i64), [(.loc 71)], none⟩,
  ⟨(.loc 73), .mv, [(.var 13)], none⟩,
  ⟨(.loc 74), (.bld [(.int .i64 0), (.int .i64 0), (.int .u64 0)] [(0, 1), (1, 1), (2, 1)]), [(.loc 70), (.loc 72), (.loc 73)], none⟩,
  ⟨(.loc 75), (.bsl 3), [(.loc 74)], none⟩,
  ⟨(.loc 76), (.app 3 24), [(.loc 69), (.loc 75)], none⟩,
  ⟨(.var 7), .mv, [(.loc 76)], none⟩]
@[reducible] noncomputable def r9_19 : List RO := [
  ⟨(.loc 77), .mv, [(.var 6)], none⟩,
  ⟨(.loc 78), .mv, [(.var 12)], none⟩,
  ⟨(.loc 79), (.cvI .i64), [(.loc 78)], none⟩,
  ⟨(.loc 80), (.bin .sub), [(.loc 77), (.loc 79)], none⟩,
  ⟨(.var 6), .mv, [(.loc 80)], none⟩]
@[reducible] noncomputable def r9_20 : List RO := [
  ⟨(.loc 81), (.bin .add), [(.var 25), (.con (.int .i64 1))], none⟩,
  ⟨(.var 25), .mv, [(.loc 81)], none⟩]
@[reducible] noncomputable def r9_21 : List RO := [
  ⟨(.loc 82), .mv, [(.var 7)], none⟩,
  ⟨(.loc 83), .call, [(.con (.fn (.func 23) [] [])), (.loc 82), (.con (.fn (.func 24) [] []))], none⟩]
@[reducible] noncomputable def r9_22 : List RO := [
  ⟨(.loc 84), .mv, [(.var 7)], none⟩,
  ⟨(.loc 85), .lenL, [(.loc 84)], none⟩,
  ⟨(.loc 86), (.mks 1 8 [(.int .i64 0)]), [(.loc 85), (.loc 85)], none⟩,
  ⟨(.var 14), .mv, [(.loc 86)], none⟩]
@[reducible] noncomputable def r9_23 : List RO := [
  ⟨(.var 27), .mv, [(.var 7)], none⟩,
  ⟨(.var 28), .lenL, [(.var 27)], none⟩,
  ⟨(.var 29), .mv, [(.con (.int .i64 0))], none⟩]
@[reducible] noncomputable def r9_24 : List RO := [
  ⟨(.var 30), (.bin .lss), [(.var 29), (.var 28)], none⟩]
@[reducible] noncomputable def r9_25 : List RO := [
  ⟨(.loc 91), .mv, [(.var 29)], none⟩,
  ⟨(.loc 92), (.ixaS 3), [(.var 27), (.var 29)], none⟩,
  ⟨(.loc 93), (.ld true 3), [(.loc 92)], none⟩,
  ⟨(.var 16), (.newb [(.int .i64 0), (.int .i64 0), (.int .u64 0)]), [], none⟩,
  ⟨(.var 15), .mv, [(.loc 91)], none⟩,
  ⟨.none, (.st 3), [(.var 16), (.loc 93)], none⟩]
@[reducible] noncomputable def r9_26 : List RO := [
  ⟨(.loc 94), .mv, [(.var 14)], none⟩,
  ⟨(.loc 95), (.fld 0), [(.var 16)], none⟩,
  ⟨(.loc 96), (.ld false 1), [(.loc 95)], none⟩,
  ⟨(.loc 97), (.fld 1), [(.var 16)], none⟩,
  ⟨(.loc 98), (.ld false 1), [(.loc 97)], none⟩,
  ⟨(.loc 99), (.ixaS 1), [(.loc 94), (.loc 96)], none⟩,
  ⟨.none, (.st 1), [(.loc 99), (.loc 98)], none⟩]
@[reducible] noncomputable def r9_27 : List RO := [
  ⟨(.loc 100), .mv, [(.var 15)], none⟩,
  ⟨(.loc 101), .mv, [(.var 6)], none⟩,
  ⟨(.var 31), (.bin .lss), [(.loc 100), (.loc 101)], none⟩]
@[reducible] noncomputable def r9_28 : List RO := [
  ⟨(.loc 103), .mv, [(.var 14)], none⟩,
  ⟨(.loc 104), (.fld 0), [(.var 16)], none⟩,
  ⟨(.loc 105), (.ld false 1), [(.loc 104)], none⟩,
  ⟨(.loc 106), (.ixaS 1), [(.loc 103), (.loc 105)], none⟩,
  ⟨(.loc 107), (.ld false 1), [(.loc 106)], none⟩,
  ⟨(.loc 108), (.bin .add), [(.loc 107), (.con (.int .i64 1))], none⟩,
  ⟨(.loc 109), (.ixaS 1), [(.loc 103), (.loc 105)], none⟩,
  ⟨.none, (.st 1), [(.loc 109), (.loc 108)], none⟩]
@[reducible] noncomputable def r9_29 : List RO := [
  ⟨(.loc 110), (.bin .add), [(.var 29), (.con (.int .i64 1))], none⟩,
  ⟨(.var 29), .mv, [(.loc 110)], none⟩]
@[reducible] noncomputable def r9_30 : List RO := [
  ⟨(.loc 111), .mv, [(.var 14)], none⟩,
  ⟨(.var 2), .mv, [(.loc 111)], none⟩,
  ⟨(.var 3), .mv, [(.con (.int .i64 0))], none⟩]
theorem P9 : C9.M = M := by unfold C9 E9; rfl
theorem pe9 {n m : Nat} : (E9 n m).M = M := by unfold E9; rfl
theorem i9 {a0 a1 : D} : St.init C9 [a0, a1] ⟨[], []⟩ = ⟨[a0, a1, .undef, .undef, .undef, .undef, .undef, .undef, .undef, .undef, .undef, .undef, .undef, .undef, .undef, .undef, .undef, .undef, .undef, .undef, .undef, .undef, .undef, .undef, .undef, .undef, .undef, .undef, .undef, .undef, .undef, .undef], [], ⟨[], []⟩⟩ := by unfold C9 E9; rfl
theorem ie9 {n m : Nat} {hp : Hp} {a0 a1 : D} : St.init (E9 n m) [a0, a1] hp = ⟨[a0, a1, .undef, .undef, .undef, .undef, .undef, .undef, .undef, .undef, .undef, .undef, .undef, .undef, .undef, .undef, .undef, .undef, .undef, .undef, .undef, .undef, .undef, .undef, .undef, .undef, .undef, .undef, .undef, .undef, .undef, .undef], [], hp⟩ := by unfold E9; rfl
noncomputable def c9 : RC := (.seq (.reg r9_0) (.seq (.reg r9_1) (.seq (.seq (.reg r9_2) (.block 0 (.loop (.seq (.reg r9_3) (.seq (.cond (.var 20) .skip (.exit 0)) (.seq (.block 1 (.seq (.reg r9_4) (.seq (.seq (.reg r9_5) (.cond (.var 21) (.seq (.reg r9_6) .ret) .skip)) (.reg r9_7)))) (.reg r9_8))))))) (.seq (.seq (.reg r9_9) (.cond (.var 22) (.seq (.reg r9_10) .ret) .skip)) (.seq (.reg r9_11) (.seq (.reg r9_12) (.seq (.seq (.reg r9_13) (.block 2 (.loop (.seq (.reg r9_14) (.seq (.cond (.var 26) .skip (.exit 2)) (.seq (.block 3 (.seq (.reg r9_15) (.seq (.reg r9_16) (.seq (.reg r9_17) (.seq (.reg r9_18) (.reg r9_19)))))) (.reg r9_20))))))) (.seq (.reg r9_21) (.seq (.reg r9_22) (.seq (.seq (.reg r9_23) (.block 4 (.loop (.seq (.reg r9_24) (.seq (.cond (.var 30) .skip (.exit 4)) (.seq (.block 5 (.seq (.reg r9_25) (.seq (.reg r9_26) (.seq (.reg r9_27) (.cond (.var 31) (.reg r9_28) .skip))))) (.reg r9_29))))))) (.seq (.reg r9_30) .ret)))))))))))
noncomputable def q9 : List RR := [(.slot (.var 2)), (.slot (.var 3))]
theorem z9 {n m : Nat} : resCode (E9 n m) (Tryd.f9.body.getD .skip) = some c9 := by kernel_rfl
theorem zr9 {n m : Nat} : resRs (E9 n m) Tryd.f9.results.toList = some q9 := by kernel_rfl
theorem oe9 {args : List D} {hp : Hp} {R : D → Hp → Prop} (n m : Nat) (hl : args.length = 2) (hn : n = hp.H.length) (hm : m = hp.tk.length) (h : SWp (E9 n m) c9 (fun e s => (match e with | .exit _ => False | _ => True) ∧ ∃ s1, Weak (E9 n m) s s1 ∧ rrsWp q9 s1 fun ds => R (oneOrTup ds) s1.hp) (St.init (E9 n m) args hp)) : Eff M 9 args hp R :=
  eff_of_body (C := E9 n m) (fn := Tryd.f9) Tryd.func9 (by kernel_rfl) (by kernel_rfl) (rc := c9) z9 (rs := q9) zr9 (by kernel_rfl) (by rw [hl]; rfl) (by rw [hl]; exact (by decide : 2 ≤ 112)) hn hm h
theorem ow9 {args : List D} {d : D} (hl : args.length = 2) (h : SWp C9 c9 (fun e s => (match e with | .exit _ => False | _ => True) ∧ ∃ s1, Weak C9 s s1 ∧ rrsWp q9 s1 fun ds => D.closed (oneOrTup ds) = true ∧ (oneOrTup ds).er = d) (St.init C9 args ⟨[], []⟩)) : Pur M 9 args d :=
  pur_of_bodyW (C := C9) (fn := Tryd.f9) Tryd.func9 (by kernel_rfl) (by kernel_rfl) (rc := c9) z9 (rs := q9) zr9 (by kernel_rfl) (by rw [hl]; rfl) (by rw [hl]; decide) rfl rfl h
theorem ok9 {args : List D} {d : D} (hl : args.length = 2) (h : SWp C9 c9 (fun e s => (match e with | .exit _ => False | _ => True) ∧ rrsWp q9 s fun ds => D.closed (oneOrTup ds) = true ∧ (oneOrTup ds).er = d) (St.init C9 args ⟨[], []⟩)) : Pur M 9 args d :=
  pur_of_body (C := C9) (fn := Tryd.f9) Tryd.func9 (by kernel_rfl) (by kernel_rfl) (rc := c9) z9 (rs := q9) zr9 (by kernel_rfl) (by rw [hl]; rfl) (by rw [hl]; decide) rfl rfl h

/- 10 bogie.bogieref03.Split · 2 arguments · kept slots [0, 1, 4, 5, 6, 7, 8, 9, 10, 11, 12, 13, 14, 23, 28, 53, 57, 68] -/
noncomputable def E10 (n m : Nat) : Cfg := ⟨M, [0, 1, 4, 5, 6, 7, 8, 9, 10, 11, 12, 13, 14, 23, 28, 53, 57, 68], 82, n, m⟩
noncomputable def C10 : Cfg := E10 0 0
@[reducible] noncomputable def r10_0 : List RO := [
  ⟨(.var 2), .mv, [(.con (.lit (.slice none 0 0)))], none⟩,
  ⟨(.var 3), .mv, [(.con (.int .i64 0))], none⟩]
@[reducible] noncomputable def r10_1 : List RO := [
  ⟨(.loc 15), .mv, [(.var 1)], none⟩,
  ⟨(.loc 16), .call, [(.con (.fn (.func 18) [] [])), (.loc 15)], none⟩,
  ⟨(.var 4), .mv, [(.loc 16)], none⟩]
@[reducible] noncomputable def r10_2 : List RO := [
  ⟨(.loc 17), .mv, [(.var 0)], none⟩,
  ⟨(.loc 18), .call, [(.con (.fn (.func 26) [] [])), (.loc 17)], none⟩,
  ⟨(.loc 19), (.un .not), [(.loc 18)], none⟩,
  ⟨(.loc 20), .mv, [(.loc 19)], none⟩,
  ⟨(.loc 21), .mv, [(.var 4)], (some ((.loc 20), false))⟩,
  ⟨(.loc 22), (.bin .lss), [(.loc 21), (.con (.int .i64 0))], (some ((.loc 20), false))⟩,
  ⟨(.var 13), .pick, [(.loc 20), (.con (.bool true)), (.loc 22)], none⟩]
@[reducible] noncomputable def r10_3 : List RO := [
  ⟨(.var 2), .mv, [(.con (.lit (.slice none 0 0)))], none⟩,
  ⟨(.var 3), .mv, [(.con (.int .i64 1))], none⟩]
@[reducible] noncomputable def r10_4 : List RO := [
  ⟨(.var 5), .mv, [(.con (.lit (.slice none 0 0)))], none⟩]
@[reducible] noncomputable def r10_5 : List RO := [
  ⟨(.var 6), .mv, [(.con (.lit (.slice none 0 0)))], none⟩]
@[reducible] noncomputable def r10_6 : List RO := [
  ⟨(.loc 24), .mv, [(.var 0)], none⟩,
  ⟨(.var 7), .mv, [(.loc 24)], none⟩]
@[reducible] noncomputable def r10_7 : List RO := [
  ⟨(.var 8), .mv, [(.con (.int .i64 0))], none⟩]
@[reducible] noncomputable def r10_8 : List RO := [
  ⟨(.loc 25), .mv, [(.var 8)], none⟩,
  ⟨(.loc 26), .mv, [(.var 1)], none⟩,
  ⟨(.loc 27), .lenL, [(.loc 26)], none⟩,
  ⟨(.var 14), (.bin .lss), [(.loc 25), (.loc 27)], none⟩]
@[reducible] noncomputable def r10_9 : List RO := [
  ⟨(.loc 32), .mv, [(.var 0)], none⟩,
  ⟨(.loc 33), .mv, [(.var 1)], none⟩,
  ⟨(.loc 34), .mv, [(.var 8)], none⟩,
  ⟨(.loc 35), (.ixaS 1), [(.loc 33), (.loc 34)], none⟩,
  ⟨(.loc 36), (.ld false 1), [(.loc 35)], none⟩,
  ⟨(.loc 37), .mv, [(.var 4)], none⟩,
  ⟨(.loc 38), .call, [(.con (.fn (.func 27) [] [])), (.loc 32), (.loc 36), (.loc 37)], none⟩,
  ⟨(.loc 31), .mv, [(.loc 38)], none⟩,
  ⟨(.loc 39), (.ext 0), [(.loc 31)], none⟩,
  ⟨(.loc 40), (.ext 1), [(.loc 31)], none⟩,
  ⟨(.var 9), .mv, [(.loc 39)], none⟩,
  ⟨(.var 10), .mv, [(.loc 40)], none⟩]
@[reducible] noncomputable def r10_10 : List RO := [
  ⟨(.loc 41), .mv, [(.var 5)], none⟩,
  ⟨(.loc 42), .mv, [(.var 9)], none⟩,
  ⟨(.loc 43), (.bsl 1), [(.loc 42)], none⟩,
  ⟨(.loc 44), (.app 1 8), [(.loc 41), (.loc 43)], none⟩,
  ⟨(.var 5), .mv, [(.loc 44)], none⟩]
@[reducible] noncomputable def r10_11 : List RO := [
  ⟨(.loc 45), .mv, [(.var 6)], none⟩,
  ⟨(.loc 46), .mv, [(.var 10)], none⟩,
  ⟨(.loc 47), (.bsl 1), [(.loc 46)], none⟩,
  ⟨(.loc 48), (.app 1 8), [(.loc 45), (.loc 47)], none⟩,
  ⟨(.var 6), .mv, [(.loc 48)], none⟩]
@[reducible] noncomputable def r10_12 : List RO := [
  ⟨(.loc 49), .mv, [(.var 7)], none⟩,
  ⟨(.loc 50), .mv, [(.var 9)], none⟩,
  ⟨(.loc 51), (.bin .sub), [(.loc 49), (.loc 50)], none⟩,
  ⟨(.var 7), .mv, [(.loc 51)], none⟩]
@[reducible] noncomputable def r10_13 : List RO := [
  ⟨(.loc 29), .mv, [(.var 8)], none⟩,
  ⟨(.loc 30), (.bin .add), [(.loc 29), (.con (.int .i64 1))], none⟩,
  ⟨(.var 8), .mv, [(.loc 30)], none⟩]
@[reducible] noncomputable def r10_14 : List RO := [
  ⟨(.loc 52), .mv, [(.var 7)], none⟩,
  ⟨(.var 15), (.bin .gtr), [(.loc 52), (.con (.int .i64 0))], none⟩]
@[reducible] noncomputable def r10_15 : List RO := [
  ⟨(.var 11), .mv, [(.con (.int .i64 0))], none⟩]
@[reducible] noncomputable def r10_16 : List RO := [
  ⟨(.var 12), .mv, [(.con (.int .i64 0))], none⟩]
@[reducible] noncomputable def r10_17 : List RO := [
  ⟨(.loc 54), .mv, [(.var 12)], none⟩,
  ⟨(.loc 55), .mv, [(.var 6)], none⟩,
  ⟨(.loc 56), .lenL, [(.loc 55)], none⟩,
  ⟨(.var 16), (.bin .lss), [(.loc 54), (.loc 56)], none⟩]
@[reducible] noncomputable def r10_18 : List (RO × Bool) := [
  (⟨(.loc 60), .mv, [(.var 6)], none⟩, true),
  (⟨(.loc 61), .mv, [(.var 12)], none⟩, true),
  (⟨(.loc 62), (.ixaS 1), [(.loc 60), (.loc 61)], none⟩, true),
  (⟨(.loc 63), (.ld false 1), [(.loc 62)], none⟩, true),
  (⟨(.loc 64), .mv, [(.var 6)], none⟩, true),
  (⟨(.loc 65), .mv, [(.var 11)], none⟩, true),
  (⟨(.loc 66), (.ixaS 1), [(.loc 64), (.loc 65)], none⟩, true),
  (⟨(.loc 67), (.ld false 1), [(.loc 66)], none⟩, true)]
@[reducible] noncomputable def r10_19 : List RO := [
  ⟨(.var 17), (.bin .gtr), [(.loc 63), (.loc 67)], none⟩]
@[reducible] noncomputable def r10_20 : List RO := [
  ⟨(.loc 69), .mv, [(.var 12)], none⟩,
  ⟨(.var 11), .mv, [(.loc 69)], none⟩]
@[reducible] noncomputable def r10_21 : List RO := [
  ⟨(.loc 58), .mv, [(.var 12)], none⟩,
  ⟨(.loc 59), (.bin .add), [(.loc 58), (.con (.int .i64 1))], none⟩,
  ⟨(.var 12), .mv, [(.loc 59)], none⟩]
@[reducible] noncomputable def r10_22 : List RO := [
  ⟨(.loc 70), .mv, [(.var 5)], none⟩,
  ⟨(.loc 71), .mv, [(.var 11)], none⟩,
  ⟨(.loc 72), (.ixaS 1), [(.loc 70), (.loc 71)], none⟩,
  ⟨(.loc 73), (.ld false 1), [(.loc 72)], none⟩,
  ⟨(.loc 74), (.bin .add), [(.loc 73), (.con (.int .i64 1))], none⟩,
  ⟨(.loc 75), (.ixaS 1), [(.loc 70), (.loc 71)], none⟩,
  ⟨.none, (.st 1), [(.loc 75), (.loc 74)], none⟩]
@[reducible] noncomputable def r10_23 : List RO := [
  ⟨(.loc 76), .mv, [(.var 6)], none⟩,
  ⟨(.loc 77), .mv, [(.var 11)], none⟩,
  ⟨(.loc 78), (.ixaS 1), [(.loc 76), (.loc 77)], none⟩,
  ⟨.none, (.st 1), [(.loc 78), (.con (.int .i64 (-1)))], none⟩]
@[reducible] noncomputable def r10_24 : List RO := [
  ⟨(.loc 79), .mv, [(.var 7)], none⟩,
  ⟨(.loc 80), (.bin .sub), [(.loc 79), (.con (.int .i64 1))], none⟩,
  ⟨(.var 7), .mv, [(.loc 80)], none⟩]
@[reducible] noncomputable def r10_25 : List RO := [
  ⟨(.loc 81), .mv, [(.var 5)], none⟩,
  ⟨(.var 2), .mv, [(.loc 81)], none⟩,
  ⟨(.var 3), .mv, [(.con (.int .i64 0))], none⟩]
theorem P10 : C10.M = M := by unfold C10 E10; rfl
theorem pe10 {n m : Nat} : (E10 n m).M = M := by unfold E10; rfl
theorem i10 {a0 a1 : D} : St.init C10 [a0, a1] ⟨[], []⟩ = ⟨[a0, a1, .undef, .undef, .undef, .undef, .undef, .undef, .undef, .undef, .undef, .undef, .undef, .undef, .undef, .undef, .undef, .undef], [], ⟨[], []⟩⟩ := by unfold C10 E10; rfl
theorem ie10 {n m : Nat} {hp : Hp} {a0 a1 : D} : St.init (E10 n m) [a0, a1] hp = ⟨[a0, a1, .undef, .undef, .undef, .undef, .undef, .undef, .undef, .undef, .undef, .undef, .undef, .undef, .undef, .undef, .undef, .undef], [], hp⟩ := by unfold E10; rfl
noncomputable def c10 : RC := (.seq (.reg r10_0) (.seq (.reg r10_1) (.seq (.seq (.reg r10_2) (.cond (.var 13) (.seq (.reg r10_3) .ret) .skip)) (.seq (.reg r10_4) (.seq (.reg r10_5) (.seq (.reg r10_6) (.seq (.seq (.reg r10_7) (.block 0 (.loop (.seq (.seq (.reg r10_8) (.cond (.var 14) .skip (.exit 0))) (.seq (.block 1 (.seq (.reg r10_9) (.seq (.reg r10_10) (.seq (.reg r10_11) (.reg r10_12))))) (.reg r10_13)))))) (.seq (.block 2 (.loop (.seq (.seq (.reg r10_14) (.cond (.var 15) .skip (.exit 2))) (.block 3 (.seq (.reg r10_15) (.seq (.seq (.reg r10_16) (.block 4 (.loop (.seq (.seq (.reg r10_17) (.cond (.var 16) .skip (.exit 4))) (.seq (.block 5 (.seq (.regD r10_18 r10_19) (.cond (.var 17) (.reg r10_20) .skip))) (.reg r10_21)))))) (.seq (.reg r10_22) (.seq (.reg r10_23) (.reg r10_24))))))))) (.seq (.reg r10_25) .ret)))))))))
noncomputable def q10 : List RR := [(.slot (.var 2)), (.slot (.var 3))]
theorem z10 {n m : Nat} : resCode (E10 n m) (Tryd.f10.body.getD .skip) = some c10 := by kernel_rfl
theorem zr10 {n m : Nat} : resRs (E10 n m) Tryd.f10.results.toList = some q10 := by kernel_rfl
theorem oe10 {args : List D} {hp : Hp} {R : D → Hp → Prop} (n m : Nat) (hl : args.length = 2) (hn : n = hp.H.length) (hm : m = hp.tk.length) (h : SWp (E10 n m) c10 (fun e s => (match e with | .exit _ => False | _ => True) ∧ ∃ s1, Weak (E10 n m) s s1 ∧ rrsWp q10 s1 fun ds => R (oneOrTup ds) s1.hp) (St.init (E10 n m) args hp)) : Eff M 10 args hp R :=
  eff_of_body (C := E10 n m) (fn := Tryd.f10) Tryd.func10 (by kernel_rfl) (by kernel_rfl) (rc := c10) z10 (rs := q10) zr10 (by kernel_rfl) (by rw [hl]; rfl) (by rw [hl]; exact (by decide : 2 ≤ 82)) hn hm h
theorem ow10 {args : List D} {d : D} (hl : args.length = 2) (h : SWp C10 c10 (fun e s => (match e with | .exit _ => False | _ => True) ∧ ∃ s1, Weak C10 s s1 ∧ rrsWp q10 s1 fun ds => D.closed (oneOrTup ds) = true ∧ (oneOrTup ds).er = d) (St.init C10 args ⟨[], []⟩)) : Pur M 10 args d :=
  pur_of_bodyW (C := C10) (fn := Tryd.f10) Tryd.func10 (by kernel_rfl) (by kernel_rfl) (rc := c10) z10 (rs := q10) zr10 (by kernel_rfl) (by rw [hl]; rfl) (by rw [hl]; decide) rfl rfl h
theorem ok10 {args : List D} {d : D} (hl : args.length = 2) (h : SWp C10 c10 (fun e s => (match e with | .exit _ => False | _ => True) ∧ rrsWp q10 s fun ds => D.closed (oneOrTup ds) = true ∧ (oneOrTup ds).er = d) (St.init C10 args ⟨[], []⟩)) : Pur M 10 args d :=
  pur_of_body (C := C10) (fn := Tryd.f10) Tryd.func10 (by kernel_rfl) (by kernel_rfl) (rc := c10) z10 (rs := q10) zr10 (by kernel_rfl) (by rw [hl]; rfl) (by rw [hl]; decide) rfl rfl h

/- 8 bogie.bogielaw03.head · 0 arguments · kept slots [0, 1, 2, 3, 4, 5, 6, 7, 8, 9, 10, 11, 12, 13, 14, 16, 18, 19] -/
noncomputable def E8 (n m : Nat) : Cfg := ⟨M, [0, 1, 2, 3, 4, 5, 6, 7, 8, 9, 10, 11, 12, 13, 14, 16, 18, 19], 123, n, m⟩
noncomputable def C8 : Cfg := E8 0 0
@[reducible] noncomputable def r8_0 : List RO := [
  ⟨(.var 0), .mv, [(.con (.bool false))], none⟩]
@[reducible] noncomputable def r8_1 : List RO := [
  ⟨(.loc 21), (.bsl 1), [(.con (.int .i64 1)), (.con (.int .i64 1)), (.con (.int .i64 1))], none⟩,
  ⟨(.loc 22), .call, [(.con (.fn (.func 9) [] [])), (.con (.int .i64 100)), (.loc 21)], none⟩,
  ⟨(.loc 20), .mv, [(.loc 22)], none⟩,
  ⟨(.loc 23), (.ext 0), [(.loc 20)], none⟩,
  ⟨(.loc 24), (.ext 1), [(.loc 20)], none⟩,
  ⟨(.var 1), .mv, [(.loc 23)], none⟩,
  ⟨(.var 2), .mv, [(.loc 24)], none⟩]
@[reducible] noncomputable def r8_2 : List RO := [
  ⟨(.loc 26), (.bsl 1), [(.con (.int .i64 3)), (.con (.int .i64 0)), (.con (.int .i64 1))], none⟩,
  ⟨(.loc 27), .call, [(.con (.fn (.func 9) [] [])), (.con (.int .i64 5)), (.loc 26)], none⟩,
  ⟨(.loc 25), .mv, [(.loc 27)], none⟩,
  ⟨(.loc 28), (.ext 0), [(.loc 25)], none⟩,
  ⟨(.loc 29), (.ext 1), [(.loc 25)], none⟩,
  ⟨(.var 3), .mv, [(.loc 28)], none⟩,
  ⟨(.var 4), .mv, [(.loc 29)], none⟩]
@[reducible] noncomputable def r8_3 : List RO := [
  ⟨(.loc 31), .call, [(.con (.fn (.func 11) [] [])), (.con (.int .i64 50)), (.con (.int .i64 1))], none⟩,
  ⟨(.loc 30), .mv, [(.loc 31)], none⟩,
  ⟨(.loc 32), (.ext 0), [(.loc 30)], none⟩,
  ⟨(.loc 33), (.ext 1), [(.loc 30)], none⟩,
  ⟨(.var 5), .mv, [(.loc 32)], none⟩,
  ⟨(.var 6), .mv, [(.loc 33)], none⟩]
@[reducible] noncomputable def r8_4 : List RO := [
  ⟨(.loc 35), .call, [(.con (.fn (.func 11) [] [])), (.con (.int .i64 150)), (.con (.int .i64 1))], none⟩,
  ⟨(.loc 34), .mv, [(.loc 35)], none⟩,
  ⟨(.loc 36), (.ext 0), [(.loc 34)], none⟩,
  ⟨(.loc 37), (.ext 1), [(.loc 34)], none⟩,
  ⟨(.var 7), .mv, [(.loc 36)], none⟩,
  ⟨(.var 8), .mv, [(.loc 37)], none⟩]
@[reducible] noncomputable def r8_5 : List RO := [
  ⟨(.loc 39), .call, [(.con (.fn (.func 11) [] [])), (.con (.int .i64 51)), (.con (.int .i64 1))], none⟩,
  ⟨(.loc 38), .mv, [(.loc 39)], none⟩,
  ⟨(.loc 40), (.ext 0), [(.loc 38)], none⟩,
  ⟨(.loc 41), (.ext 1), [(.loc 38)], none⟩,
  ⟨(.var 9), .mv, [(.loc 40)], none⟩,
  ⟨(.var 10), .mv, [(.loc 41)], none⟩]
@[reducible] noncomputable def r8_6 : List RO := [
  ⟨(.loc 43), .call, [(.con (.fn (.func 13) [] [])), (.con (.int .i64 5))], none⟩,
  ⟨(.loc 42), .mv, [(.loc 43)], none⟩,
  ⟨(.loc 44), (.ext 0), [(.loc 42)], none⟩,
  ⟨(.loc 45), (.ext 1), [(.loc 42)], none⟩,
  ⟨(.var 11), .mv, [(.loc 44)], none⟩,
  ⟨(.var 12), .mv, [(.loc 45)], none⟩]
@[reducible] noncomputable def r8_7 : List RO := [
  ⟨(.loc 47), .call, [(.con (.fn (.func 13) [] [])), (.con (.int .i64 123456))], none⟩,
  ⟨(.loc 46), .mv, [(.loc 47)], none⟩,
  ⟨(.loc 48), (.ext 0), [(.loc 46)], none⟩,
  ⟨(.loc 49), (.ext 1), [(.loc 46)], none⟩,
  ⟨(.var 13), .mv, [(.loc 48)], none⟩,
  ⟨(.var 14), .mv, [(.loc 49)], none⟩]
@[reducible] noncomputable def r8_8 : List RO := [
  ⟨(.loc 51), .call, [(.con (.fn (.func 15) [] [])), (.con (.str [48, 49, 46, 48, 48]))], none⟩,
  ⟨(.loc 50), .mv, [(.loc 51)], none⟩,
  ⟨(.loc 52), (.ext 0), [(.loc 50)], none⟩,
  ⟨(.loc 53), (.ext 1), [(.loc 50)], none⟩,
  ⟨(.loc 15), .mv, [(.loc 52)], none⟩,
  ⟨(.var 15), .mv, [(.loc 53)], none⟩]
@[reducible] noncomputable def r8_9 : List RO := [
  ⟨(.loc 55), .call, [(.con (.fn (.func 15) [] [])), (.con (.str [49, 46, 53]))], none⟩,
  ⟨(.loc 54), .mv, [(.loc 55)], none⟩,
  ⟨(.loc 56), (.ext 0), [(.loc 54)], none⟩,
  ⟨(.loc 57), (.ext 1), [(.loc 54)], none⟩,
  ⟨(.loc 17), .mv, [(.loc 56)], none⟩,
  ⟨(.var 16), .mv, [(.loc 57)], none⟩]
@[reducible] noncomputable def r8_10 : List RO := [
  ⟨(.loc 58), .mv, [(.var 2)], none⟩,
  ⟨(.loc 59), (.bin .eql), [(.loc 58), (.con (.int .i64 0))], none⟩,
  ⟨(.loc 60), .mv, [(.loc 59)], none⟩,
  ⟨(.loc 61), .mv, [(.var 1)], (some ((.loc 60), true))⟩,
  ⟨(.loc 62), (.bsl 1), [(.con (.int .i64 34)), (.con (.int .i64 33)), (.con (.int .i64 33))], (some ((.loc 60), true))⟩,
  ⟨(.loc 63), .call, [(.con (.fn (.func 17) [] [])), (.loc 61), (.loc 62)], (some ((.loc 60), true))⟩,
  ⟨(.loc 64), .pick, [(.loc 60), (.loc 63), (.con (.bool false))], none⟩,
  ⟨(.loc 65), .mv, [(.loc 64)], none⟩,
  ⟨(.loc 66), .mv, [(.var 4)], (some ((.loc 65), true))⟩,
  ⟨(.loc 67), (.bin .eql), [(.loc 66), (.con (.int .i64 0))], (some ((.loc 65), true))⟩,
  ⟨(.loc 68), .pick, [(.loc 65), (.loc 67), (.con (.bool false))], none⟩,
  ⟨(.loc 69), .mv, [(.loc 68)], none⟩,
  ⟨(.loc 70), .mv, [(.var 3)], (some ((.loc 69), true))⟩,
  ⟨(.loc 71), (.bsl 1), [(.con (.int .i64 4)), (.con (.int .i64 0)), (.con (.int .i64 1))], (some ((.loc 69), true))⟩,
  ⟨(.loc 72), .call, [(.con (.fn (.func 17) [] [])), (.loc 70), (.loc 71)], (some ((.loc 69), true))⟩,
  ⟨(.loc 73), .pick, [(.loc 69), (.loc 72), (.con (.bool false))], none⟩,
  ⟨(.loc 74), .mv, [(.loc 73)], none⟩,
  ⟨(.loc 75), .mv, [(.var 6)], (some ((.loc 74), true))⟩,
  ⟨(.loc 76), (.bin .eql), [(.loc 75), (.con (.int .i64 0))], (some ((.loc 74), true))⟩,
  ⟨(.loc 77), .pick, [(.loc 74), (.loc 76), (.con (.bool false))], none⟩,
  ⟨(.loc 78), .mv, [(.loc 77)], none⟩,
  ⟨(.loc 79), .mv, [(.var 5)], (some ((.loc 78), true))⟩,
  ⟨(.loc 80), (.bin .eql), [(.loc 79), (.con (.int .i64 0))], (some ((.loc 78), true))⟩,
  ⟨(.loc 81), .pick, [(.loc 78), (.loc 80), (.con (.bool false))], none⟩,
  ⟨(.loc 82), .mv, [(.loc 81)], none⟩,
  ⟨(.loc 83), .mv, [(.var 8)], (some ((.loc 82), true))⟩,
  ⟨(.loc 84), (.bin .eql), [(.loc 83), (.con (.int .i64 0))], (some ((.loc 82), true))⟩,
  ⟨(.loc 85), .pick, [(.loc 82), (.loc 84), (.con (.bool false))], none⟩,
  ⟨(.loc 86), .mv, [(.loc 85)], none⟩,
  ⟨(.loc 87), .mv, [(.var 7)], (some ((.loc 86), true))⟩,
  ⟨(.loc 88), (.bin .eql), [(.loc 87), (.con (.int .i64 2))], (some ((.loc 86), true))⟩,
  ⟨(.loc 89), .pick, [(.loc 86), (.loc 88), (.con (.bool false))], none⟩,
  ⟨(.loc 90), .mv, [(.loc 89)], none⟩,
  ⟨(.loc 91), .mv, [(.var 10)], (some ((.loc 90), true))⟩,
  ⟨(.loc 92), (.bin .eql), [(.loc 91), (.con (.int .i64 0))], (some ((.loc 90), true))⟩,
  ⟨(.loc 93), .pick, [(.loc 90), (.loc 92), (.con (.bool false))], none⟩,
  ⟨(.loc 94), .mv, [(.loc 93)], none⟩,
  ⟨(.loc 95), .mv, [(.var 9)], (some ((.loc 94), true))⟩,
  ⟨(.loc 96), (.bin .eql), [(.loc 95), (.con (.int .i64 1))], (some ((.loc 94), true))⟩,
  ⟨(.loc 97), .pick, [(.loc 94), (.loc 96), (.con (.bool false))], none⟩,
  ⟨(.var 17), .mv, [(.loc 97)], none⟩]
@[reducible] noncomputable def r8_11 : List RO := [
  ⟨(.loc 98), .mv, [(.var 17)], none⟩,
  ⟨(.loc 99), .mv, [(.loc 98)], none⟩,
  ⟨(.loc 100), .mv, [(.var 12)], (some ((.loc 99), true))⟩,
  ⟨(.loc 101), (.bin .eql), [(.loc 100), (.con (.int .i64 0))], (some ((.loc 99), true))⟩,
  ⟨(.loc 102), .pick, [(.loc 99), (.loc 101), (.con (.bool false))], none⟩,
  ⟨(.loc 103), .mv, [(.loc 102)], none⟩,
  ⟨(.loc 104), .mv, [(.var 11)], (some ((.loc 103), true))⟩,
  ⟨(.loc 105), (.bin .eql), [(.loc 104), (.con (.str [48, 46, 48, 53]))], (some ((.loc 103), true))⟩,
  ⟨(.loc 106), .pick, [(.loc 103), (.loc 105), (.con (.bool false))], none⟩,
  ⟨(.loc 107), .mv, [(.loc 106)], none⟩,
  ⟨(.loc 108), .mv, [(.var 14)], (some ((.loc 107), true))⟩,
  ⟨(.loc 109), (.bin .eql), [(.loc 108), (.con (.int .i64 0))], (some ((.loc 107), true))⟩,
  ⟨(.loc 110), .pick, [(.loc 107), (.loc 109), (.con (.bool false))], none⟩,
  ⟨(.loc 111), .mv, [(.loc 110)], none⟩,
  ⟨(.loc 112), .mv, [(.var 13)], (some ((.loc 111), true))⟩,
  ⟨(.loc 113), (.bin .eql), [(.loc 112), (.con (.str [49, 50, 51, 52, 46, 53, 54]))], (some ((.loc 111), true))⟩,
  ⟨(.loc 114), .pick, [(.loc 111), (.loc 113), (.con (.bool false))], none⟩,
  ⟨(.loc 115), .mv, [(.loc 114)], none⟩,
  ⟨(.loc 116), .mv, [(.var 15)], (some ((.loc 115), true))⟩,
  ⟨(.loc 117), (.bin .eql), [(.loc 116), (.con (.int .i64 8))], (some ((.loc 115), true))⟩,
  ⟨(.loc 118), .pick, [(.loc 115), (.loc 117), (.con (.bool false))], none⟩,
  ⟨(.loc 119), .mv, [(.loc 118)], none⟩,
  ⟨(.loc 120), .mv, [(.var 16)], (some ((.loc 119), true))⟩,
  ⟨(.loc 121), (.bin .eql), [(.loc 120), (.con (.int .i64 8))], (some ((.loc 119), true))⟩,
  ⟨(.loc 122), .pick, [(.loc 119), (.loc 121), (.con (.bool false))], none⟩,
  ⟨(.var 0), .mv, [(.loc 122)], none⟩]
theorem P8 : C8.M = M := by unfold C8 E8; rfl
theorem pe8 {n m : Nat} : (E8 n m).M = M := by unfold E8; rfl
theorem i8 : St.init C8 [] ⟨[], []⟩ = ⟨[.undef, .undef, .undef, .undef, .undef, .undef, .undef, .undef, .undef, .undef, .undef, .undef, .undef, .undef, .undef, .undef, .undef, .undef], [], ⟨[], []⟩⟩ := by unfold C8 E8; rfl
theorem ie8 {n m : Nat} {hp : Hp} : St.init (E8 n m) [] hp = ⟨[.undef, .undef, .undef, .undef, .undef, .undef, .undef, .undef, .undef, .undef, .undef, .undef, .undef, .undef, .undef, .undef, .undef, .undef], [], hp⟩ := by unfold E8; rfl
noncomputable def c8 : RC := (.seq (.reg r8_0) (.seq (.reg r8_1) (.seq (.reg r8_2) (.seq (.reg r8_3) (.seq (.reg r8_4) (.seq (.reg r8_5) (.seq (.reg r8_6) (.seq (.reg r8_7) (.seq (.reg r8_8) (.seq (.reg r8_9) (.seq (.reg r8_10) (.seq (.reg r8_11) .ret))))))))))))
noncomputable def q8 : List RR := [(.slot (.var 0))]
theorem z8 {n m : Nat} : resCode (E8 n m) (Tryd.f8.body.getD .skip) = some c8 := by kernel_rfl
theorem zr8 {n m : Nat} : resRs (E8 n m) Tryd.f8.results.toList = some q8 := by kernel_rfl
theorem oe8 {args : List D} {hp : Hp} {R : D → Hp → Prop} (n m : Nat) (hl : args.length = 0) (hn : n = hp.H.length) (hm : m = hp.tk.length) (h : SWp (E8 n m) c8 (fun e s => (match e with | .exit _ => False | _ => True) ∧ ∃ s1, Weak (E8 n m) s s1 ∧ rrsWp q8 s1 fun ds => R (oneOrTup ds) s1.hp) (St.init (E8 n m) args hp)) : Eff M 8 args hp R :=
  eff_of_body (C := E8 n m) (fn := Tryd.f8) Tryd.func8 (by kernel_rfl) (by kernel_rfl) (rc := c8) z8 (rs := q8) zr8 (by kernel_rfl) (by rw [hl]; rfl) (by rw [hl]; exact (by decide : 0 ≤ 123)) hn hm h
theorem ow8 {args : List D} {d : D} (hl : args.length = 0) (h : SWp C8 c8 (fun e s => (match e with | .exit _ => False | _ => True) ∧ ∃ s1, Weak C8 s s1 ∧ rrsWp q8 s1 fun ds => D.closed (oneOrTup ds) = true ∧ (oneOrTup ds).er = d) (St.init C8 args ⟨[], []⟩)) : Pur M 8 args d :=
  pur_of_bodyW (C := C8) (fn := Tryd.f8) Tryd.func8 (by kernel_rfl) (by kernel_rfl) (rc := c8) z8 (rs := q8) zr8 (by kernel_rfl) (by rw [hl]; rfl) (by rw [hl]; decide) rfl rfl h
theorem ok8 {args : List D} {d : D} (hl : args.length = 0) (h : SWp C8 c8 (fun e s => (match e with | .exit _ => False | _ => True) ∧ rrsWp q8 s fun ds => D.closed (oneOrTup ds) = true ∧ (oneOrTup ds).er = d) (St.init C8 args ⟨[], []⟩)) : Pur M 8 args d :=
  pur_of_body (C := C8) (fn := Tryd.f8) Tryd.func8 (by kernel_rfl) (by kernel_rfl) (rc := c8) z8 (rs := q8) zr8 (by kernel_rfl) (by rw [hl]; rfl) (by rw [hl]; decide) rfl rfl h
end Go.Proofs.YtniglomooepbcaaDoor
