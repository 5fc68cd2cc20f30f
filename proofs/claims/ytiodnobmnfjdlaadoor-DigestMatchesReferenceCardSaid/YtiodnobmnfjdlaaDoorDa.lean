/- The resolved code of the functions that the claim reaches, printed by a program, and the facts that tie it to the translation. -/
import Derived.Test.YtiodnobmnfjdlaaDoorProg
import Derived.Test.YtiodnobmnfjdlaaDoorEs
import Derived.KernelRfl
import Derived.Lib.ItoaNum
set_option maxRecDepth 100000
namespace Go.Proofs.YtiodnobmnfjdlaaDoor
open Go GoV
/-- The program, and what is known of its variables: the table of the powers of ten. -/
noncomputable def M : Mod := varMod Tryd.prog [(0, fun cs => cs = (Lib.pow10Tab.map (Value.int .u64 ·)).toArray)]

/- 19 bogie.digest.mix · 1 arguments · kept slots [0, 2] -/
noncomputable def E19 (n m : Nat) : Cfg := ⟨M, [0, 2], 21, n, m⟩
noncomputable def C19 : Cfg := E19 0 0
@[reducible] noncomputable def r19_0 : List RO := [
  ⟨(.var 1), .mv, [(.con (.int .u64 0))], none⟩]
@[reducible] noncomputable def r19_1 : List RO := [
  ⟨(.loc 4), .mv, [(.var 0)], none⟩,
  ⟨(.loc 5), .call, [(.con (.fn (.func 28) [] [])), (.loc 4), (.con (.int .u64 6364136223846793005))], none⟩,
  ⟨(.loc 3), .mv, [(.loc 5)], none⟩,
  ⟨(.loc 6), (.ext 0), [(.loc 3)], none⟩,
  ⟨(.loc 7), (.ext 1), [(.loc 3)], none⟩,
  ⟨(.var 0), .mv, [(.loc 7)], none⟩]
@[reducible] noncomputable def r19_2 : List RO := [
  ⟨(.loc 8), .mv, [(.var 0)], none⟩,
  ⟨(.loc 9), .mv, [(.var 0)], none⟩,
  ⟨(.loc 10), (.bin .shr), [(.loc 9), (.con (.int .u64 33))], none⟩,
  ⟨(.loc 11), (.bin .xor), [(.loc 8), (.loc 10)], none⟩,
  ⟨(.var 0), .mv, [(.loc 11)], none⟩]
@[reducible] noncomputable def r19_3 : List RO := [
  ⟨(.loc 13), .mv, [(.var 0)], none⟩,
  ⟨(.loc 14), .call, [(.con (.fn (.func 28) [] [])), (.loc 13), (.con (.int .u64 2685821657736338717))], none⟩,
  ⟨(.loc 12), .mv, [(.loc 14)], none⟩,
  ⟨(.loc 15), (.ext 0), [(.loc 12)], none⟩,
  ⟨(.loc 16), (.ext 1), [(.loc 12)], none⟩,
  ⟨(.var 0), .mv, [(.loc 16)], none⟩]
@[reducible] noncomputable def r19_4 : List RO := [
  ⟨(.loc 17), .mv, [(.var 0)], none⟩,
  ⟨(.loc 18), .mv, [(.var 0)], none⟩,
  ⟨(.loc 19), (.bin .shr), [(.loc 18), (.con (.int .u64 27))], none⟩,
  ⟨(.loc 20), (.bin .xor), [(.loc 17), (.loc 19)], none⟩,
  ⟨(.var 1), .mv, [(.loc 20)], none⟩]
theorem P19 : C19.M = M := by unfold C19 E19; rfl
theorem pe19 {n m : Nat} : (E19 n m).M = M := by unfold E19; rfl
theorem i19 {a0 : D} : St.init C19 [a0] ⟨[], []⟩ = ⟨[a0, .undef], [], ⟨[], []⟩⟩ := by unfold C19 E19; rfl
theorem ie19 {n m : Nat} {hp : Hp} {a0 : D} : St.init (E19 n m) [a0] hp = ⟨[a0, .undef], [], hp⟩ := by unfold E19; rfl
noncomputable def c19 : RC := (.seq (.reg r19_0) (.seq (.reg r19_1) (.seq (.reg r19_2) (.seq (.reg r19_3) (.seq (.reg r19_4) .ret)))))
noncomputable def q19 : List RR := [(.slot (.var 1))]
theorem z19 {n m : Nat} : resCode (E19 n m) (Tryd.f19.body.getD .skip) = some c19 := by kernel_rfl
theorem zr19 {n m : Nat} : resRs (E19 n m) Tryd.f19.results.toList = some q19 := by kernel_rfl
theorem oe19 {args : List D} {hp : Hp} {R : D → Hp → Prop} (n m : Nat) (hl : args.length = 1) (hn : n = hp.H.length) (hm : m = hp.tk.length) (h : SWp (E19 n m) c19 (fun e s => (match e with | .exit _ => False | _ => True) ∧ ∃ s1, Weak (E19 n m) s s1 ∧ rrsWp q19 s1 fun ds => R (oneOrTup ds) s1.hp) (St.init (E19 n m) args hp)) : Eff M 19 args hp R :=
  eff_of_body (C := E19 n m) (fn := Tryd.f19) Tryd.func19 (by kernel_rfl) (by kernel_rfl) (rc := c19) z19 (rs := q19) zr19 (by kernel_rfl) (by rw [hl]; rfl) (by rw [hl]; exact (by decide : 1 ≤ 21)) hn hm h
theorem ow19 {args : List D} {d : D} (hl : args.length = 1) (h : SWp C19 c19 (fun e s => (match e with | .exit _ => False | _ => True) ∧ ∃ s1, Weak C19 s s1 ∧ rrsWp q19 s1 fun ds => D.closed (oneOrTup ds) = true ∧ (oneOrTup ds).er = d) (St.init C19 args ⟨[], []⟩)) : Pur M 19 args d :=
  pur_of_bodyW (C := C19) (fn := Tryd.f19) Tryd.func19 (by kernel_rfl) (by kernel_rfl) (rc := c19) z19 (rs := q19) zr19 (by kernel_rfl) (by rw [hl]; rfl) (by rw [hl]; decide) rfl rfl h
theorem ok19 {args : List D} {d : D} (hl : args.length = 1) (h : SWp C19 c19 (fun e s => (match e with | .exit _ => False | _ => True) ∧ rrsWp q19 s fun ds => D.closed (oneOrTup ds) = true ∧ (oneOrTup ds).er = d) (St.init C19 args ⟨[], []⟩)) : Pur M 19 args d :=
  pur_of_body (C := C19) (fn := Tryd.f19) Tryd.func19 (by kernel_rfl) (by kernel_rfl) (rc := c19) z19 (rs := q19) zr19 (by kernel_rfl) (by rw [hl]; rfl) (by rw [hl]; decide) rfl rfl h

/- 20 bogie.digest.digits · 0 arguments · kept slots [0, 1, 2, 3, 4, 12] -/
noncomputable def E20 (n m : Nat) : Cfg := ⟨M, [0, 1, 2, 3, 4, 12], 21, n, m⟩
noncomputable def C20 : Cfg := E20 0 0
@[reducible] noncomputable def r20_0 : List RO := [
  ⟨(.var 0), (.newb [(.int .u8 0), (.int .u8 0), (.int .u8 0), (.int .u8 0), (.int .u8 0), (.int .u8 0), (.int .u8 0), (.int .u8 0), (.int .u8 0), (.int .u8 0), (.int .u8 0), (.int .u8 0), (.int .u8 0), (.int .u8 0), (.int .u8 0), (.int .u8 0)]), [], none⟩]
@[reducible] noncomputable def r20_1 : List RO := [
  ⟨(.var 1), (.newb [(.int .u8 0), (.int .u8 0), (.int .u8 0), (.int .u8 0), (.int .u8 0), (.int .u8 0), (.int .u8 0), (.int .u8 0), (.int .u8 0), (.int .u8 0), (.int .u8 0), (.int .u8 0), (.int .u8 0), (.int .u8 0), (.int .u8 0), (.int .u8 0)]), [], none⟩]
@[reducible] noncomputable def r20_2 : List RO := [
  ⟨(.var 3), .mv, [(.con (.int .i64 0))], none⟩]
@[reducible] noncomputable def r20_3 : List RO := [
  ⟨(.var 4), (.bin .lss), [(.var 3), (.con (.int .i64 16))], none⟩]
@[reducible] noncomputable def r20_4 : List RO := [
  ⟨(.loc 5), .mv, [(.var 3)], none⟩,
  ⟨(.var 2), .mv, [(.loc 5)], none⟩]
@[reducible] noncomputable def r20_5 : List RO := [
  ⟨(.loc 6), .mv, [(.var 2)], none⟩,
  ⟨(.loc 7), .mv, [(.var 2)], none⟩,
  ⟨(.loc 8), (.bin .add), [(.con (.int .i64 48)), (.loc 7)], none⟩,
  ⟨(.loc 9), (.cvI .u8), [(.loc 8)], none⟩,
  ⟨(.loc 10), (.ixaA 16 1), [(.var 1), (.loc 6)], none⟩,
  ⟨.none, (.st 1), [(.loc 10), (.loc 9)], none⟩]
@[reducible] noncomputable def r20_6 : List RO := [
  ⟨(.loc 11), .mv, [(.var 2)], none⟩,
  ⟨(.var 5), (.bin .geq), [(.loc 11), (.con (.int .i64 10))], none⟩]
@[reducible] noncomputable def r20_7 : List RO := [
  ⟨(.loc 13), .mv, [(.var 2)], none⟩,
  ⟨(.loc 14), .mv, [(.var 2)], none⟩,
  ⟨(.loc 15), (.bin .add), [(.con (.int .i64 97)), (.loc 14)], none⟩,
  ⟨(.loc 16), (.bin .sub), [(.loc 15), (.con (.int .i64 10))], none⟩,
  ⟨(.loc 17), (.cvI .u8), [(.loc 16)], none⟩,
  ⟨(.loc 18), (.ixaA 16 1), [(.var 1), (.loc 13)], none⟩,
  ⟨.none, (.st 1), [(.loc 18), (.loc 17)], none⟩]
@[reducible] noncomputable def r20_8 : List RO := [
  ⟨(.loc 19), (.bin .add), [(.var 3), (.con (.int .i64 1))], none⟩,
  ⟨(.var 3), .mv, [(.loc 19)], none⟩]
@[reducible] noncomputable def r20_9 : List RO := [
  ⟨(.loc 20), (.ld true 16), [(.var 1)], none⟩,
  ⟨.none, (.st 16), [(.var 0), (.loc 20)], none⟩]
theorem P20 : C20.M = M := by unfold C20 E20; rfl
theorem pe20 {n m : Nat} : (E20 n m).M = M := by unfold E20; rfl
theorem i20 : St.init C20 [] ⟨[], []⟩ = ⟨[.undef, .undef, .undef, .undef, .undef, .undef], [], ⟨[], []⟩⟩ := by unfold C20 E20; rfl
theorem ie20 {n m : Nat} {hp : Hp} : St.init (E20 n m) [] hp = ⟨[.undef, .undef, .undef, .undef, .undef, .undef], [], hp⟩ := by unfold E20; rfl
noncomputable def c20 : RC := (.seq (.reg r20_0) (.seq (.reg r20_1) (.seq (.seq (.reg r20_2) (.block 0 (.loop (.seq (.reg r20_3) (.seq (.cond (.var 4) .skip (.exit 0)) (.seq (.block 1 (.seq (.reg r20_4) (.seq (.reg r20_5) (.seq (.reg r20_6) (.cond (.var 5) (.reg r20_7) .skip))))) (.reg r20_8))))))) (.seq (.reg r20_9) .ret))))
noncomputable def q20 : List RR := [(.cell (.var 0) true 16)]
theorem z20 {n m : Nat} : resCode (E20 n m) (Tryd.f20.body.getD .skip) = some c20 := by kernel_rfl
theorem zr20 {n m : Nat} : resRs (E20 n m) Tryd.f20.results.toList = some q20 := by kernel_rfl
theorem oe20 {args : List D} {hp : Hp} {R : D → Hp → Prop} (n m : Nat) (hl : args.length = 0) (hn : n = hp.H.length) (hm : m = hp.tk.length) (h : SWp (E20 n m) c20 (fun e s => (match e with | .exit _ => False | _ => True) ∧ ∃ s1, Weak (E20 n m) s s1 ∧ rrsWp q20 s1 fun ds => R (oneOrTup ds) s1.hp) (St.init (E20 n m) args hp)) : Eff M 20 args hp R :=
  eff_of_body (C := E20 n m) (fn := Tryd.f20) Tryd.func20 (by kernel_rfl) (by kernel_rfl) (rc := c20) z20 (rs := q20) zr20 (by kernel_rfl) (by rw [hl]; rfl) (by rw [hl]; exact (by decide : 0 ≤ 21)) hn hm h
theorem ow20 {args : List D} {d : D} (hl : args.length = 0) (h : SWp C20 c20 (fun e s => (match e with | .exit _ => False | _ => True) ∧ ∃ s1, Weak C20 s s1 ∧ rrsWp q20 s1 fun ds => D.closed (oneOrTup ds) = true ∧ (oneOrTup ds).er = d) (St.init C20 args ⟨[], []⟩)) : Pur M 20 args d :=
  pur_of_bodyW (C := C20) (fn := Tryd.f20) Tryd.func20 (by kernel_rfl) (by kernel_rfl) (rc := c20) z20 (rs := q20) zr20 (by kernel_rfl) (by rw [hl]; rfl) (by rw [hl]; decide) rfl rfl h
theorem ok20 {args : List D} {d : D} (hl : args.length = 0) (h : SWp C20 c20 (fun e s => (match e with | .exit _ => False | _ => True) ∧ rrsWp q20 s fun ds => D.closed (oneOrTup ds) = true ∧ (oneOrTup ds).er = d) (St.init C20 args ⟨[], []⟩)) : Pur M 20 args d :=
  pur_of_body (C := C20) (fn := Tryd.f20) Tryd.func20 (by kernel_rfl) (by kernel_rfl) (rc := c20) z20 (rs := q20) zr20 (by kernel_rfl) (by rw [hl]; rfl) (by rw [hl]; decide) rfl rfl h

/- 18 bogie.digest.Sum$1 · 2 arguments · kept slots [0, 1, 3, 4, 5, 9, 10] -/
noncomputable def E18 (n m : Nat) : Cfg := ⟨M, [0, 1, 3, 4, 5, 9, 10], 24, n, m⟩
noncomputable def C18 : Cfg := E18 0 0
@[reducible] noncomputable def r18_0 : List RO := [
  ⟨(.var 2), (.newb [(.int .u8 0), (.int .u8 0), (.int .u8 0), (.int .u8 0), (.int .u8 0), (.int .u8 0), (.int .u8 0), (.int .u8 0)]), [], none⟩]
@[reducible] noncomputable def r18_1 : List RO := [
  ⟨(.loc 6), (.slcA 8 1 false false), [(.var 2)], none⟩,
  ⟨(.loc 7), .mv, [(.var 0)], none⟩,
  ⟨(.loc 8), (.cpy 1), [(.loc 6), (.loc 7)], none⟩]
@[reducible] noncomputable def r18_2 : List RO := [
  ⟨(.var 3), .mv, [(.con (.int .u64 0))], none⟩]
@[reducible] noncomputable def r18_3 : List RO := [
  ⟨(.var 5), .mv, [(.con (.int .i64 0))], none⟩]
@[reducible] noncomputable def r18_4 : List RO := [
  ⟨(.var 6), (.bin .lss), [(.var 5), (.con (.int .i64 8))], none⟩]
@[reducible] noncomputable def r18_5 : List RO := [
  ⟨(.loc 11), .mv, [(.var 5)], none⟩,
  ⟨(.var 4), .mv, [(.loc 11)], none⟩]
@[reducible] noncomputable def r18_6 : List RO := [
  ⟨(.loc 12), .mv, [(.var 3)], none⟩,
  ⟨(.loc 13), (.bin .shl), [(.loc 12), (.con (.int .u64 8))], none⟩,
  ⟨(.loc 14), .mv, [(.var 4)], none⟩,
  ⟨(.loc 15), (.ixaA 8 1), [(.var 2), (.loc 14)], none⟩,
  ⟨(.loc 16), (.ld false 1), [(.loc 15)], none⟩,
  ⟨(.loc 17), (.cvI .u64), [(.loc 16)], none⟩,
  ⟨(.loc 18), (.bin .or), [(.loc 13), (.loc 17)], none⟩,
  ⟨(.var 3), .mv, [(.loc 18)], none⟩]
@[reducible] noncomputable def r18_7 : List RO := [
  ⟨(.loc 19), (.bin .add), [(.var 5), (.con (.int .i64 1))], none⟩,
  ⟨(.var 5), .mv, [(.loc 19)], none⟩]
@[reducible] noncomputable def r18_8 : List RO := [
  ⟨(.loc 20), (.ld false 1), [(.var 1)], none⟩,
  ⟨(.loc 21), .mv, [(.var 3)], none⟩,
  ⟨(.loc 22), (.bin .xor), [(.loc 20), (.loc 21)], none⟩,
  ⟨(.loc 23), .call, [(.con (.fn (.func 19) [] [])), (.loc 22)], none⟩,
  ⟨.none, (.st 1), [(.var 1), (.loc 23)], none⟩]
theorem P18 : C18.M = M := by unfold C18 E18; rfl
theorem pe18 {n m : Nat} : (E18 n m).M = M := by unfold E18; rfl
theorem i18 {a0 a1 : D} : St.init C18 [a0, a1] ⟨[], []⟩ = ⟨[a0, a1, .undef, .undef, .undef, .undef, .undef], [], ⟨[], []⟩⟩ := by unfold C18 E18; rfl
theorem ie18 {n m : Nat} {hp : Hp} {a0 a1 : D} : St.init (E18 n m) [a0, a1] hp = ⟨[a0, a1, .undef, .undef, .undef, .undef, .undef], [], hp⟩ := by unfold E18; rfl
noncomputable def c18 : RC := (.seq (.reg r18_0) (.seq (.reg r18_1) (.seq (.reg r18_2) (.seq (.seq (.reg r18_3) (.block 0 (.loop (.seq (.reg r18_4) (.seq (.cond (.var 6) .skip (.exit 0)) (.seq (.block 1 (.seq (.reg r18_5) (.reg r18_6))) (.reg r18_7))))))) (.reg r18_8)))))
noncomputable def q18 : List RR := []
theorem z18 {n m : Nat} : resCode (E18 n m) (Tryd.f18.body.getD .skip) = some c18 := by kernel_rfl
theorem zr18 {n m : Nat} : resRs (E18 n m) Tryd.f18.results.toList = some q18 := by kernel_rfl
theorem oe18 {args : List D} {hp : Hp} {R : D → Hp → Prop} (n m : Nat) (hl : args.length = 2) (hn : n = hp.H.length) (hm : m = hp.tk.length) (h : SWp (E18 n m) c18 (fun e s => (match e with | .exit _ => False | _ => True) ∧ ∃ s1, Weak (E18 n m) s s1 ∧ rrsWp q18 s1 fun ds => R (oneOrTup ds) s1.hp) (St.init (E18 n m) args hp)) : Eff M 18 args hp R :=
  eff_of_body (C := E18 n m) (fn := Tryd.f18) Tryd.func18 (by kernel_rfl) (by kernel_rfl) (rc := c18) z18 (rs := q18) zr18 (by kernel_rfl) (by rw [hl]; rfl) (by rw [hl]; exact (by decide : 2 ≤ 24)) hn hm h
theorem ow18 {args : List D} {d : D} (hl : args.length = 2) (h : SWp C18 c18 (fun e s => (match e with | .exit _ => False | _ => True) ∧ ∃ s1, Weak C18 s s1 ∧ rrsWp q18 s1 fun ds => D.closed (oneOrTup ds) = true ∧ (oneOrTup ds).er = d) (St.init C18 args ⟨[], []⟩)) : Pur M 18 args d :=
  pur_of_bodyW (C := C18) (fn := Tryd.f18) Tryd.func18 (by kernel_rfl) (by kernel_rfl) (rc := c18) z18 (rs := q18) zr18 (by kernel_rfl) (by rw [hl]; rfl) (by rw [hl]; decide) rfl rfl h
theorem ok18 {args : List D} {d : D} (hl : args.length = 2) (h : SWp C18 c18 (fun e s => (match e with | .exit _ => False | _ => True) ∧ rrsWp q18 s fun ds => D.closed (oneOrTup ds) = true ∧ (oneOrTup ds).er = d) (St.init C18 args ⟨[], []⟩)) : Pur M 18 args d :=
  pur_of_body (C := C18) (fn := Tryd.f18) Tryd.func18 (by kernel_rfl) (by kernel_rfl) (rc := c18) z18 (rs := q18) zr18 (by kernel_rfl) (by rw [hl]; rfl) (by rw [hl]; decide) rfl rfl h

/- 10 bogie.digest.Sum · 1 arguments · kept slots [0, 2, 3, 4, 5, 6, 7, 15, 26, 27] -/
noncomputable def E10 (n m : Nat) : Cfg := ⟨M, [0, 2, 3, 4, 5, 6, 7, 15, 26, 27], 42, n, m⟩
noncomputable def C10 : Cfg := E10 0 0
@[reducible] noncomputable def r10_0 : List RO := [
  ⟨(.var 1), .mv, [(.con (.str []))], none⟩]
@[reducible] noncomputable def r10_1 : List RO := [
  ⟨(.loc 8), .mv, [(.var 0)], none⟩,
  ⟨(.loc 9), .lenS, [(.loc 8)], none⟩,
  ⟨(.loc 10), (.cvI .u64), [(.loc 9)], none⟩,
  ⟨(.loc 11), (.bin .xor), [(.con (.int .u64 7046029254386353131)), (.loc 10)], none⟩,
  ⟨(.var 2), (.newb [(.int .u64 0)]), [], none⟩,
  ⟨.none, (.st 1), [(.var 2), (.loc 11)], none⟩]
@[reducible] noncomputable def r10_2 : List RO := [
  ⟨(.loc 12), (.mkF (.func 18) 0), [(.var 2)], none⟩,
  ⟨(.var 3), .mv, [(.loc 12)], none⟩]
@[reducible] noncomputable def r10_3 : List RO := [
  ⟨(.loc 13), .mv, [(.var 0)], none⟩,
  ⟨(.loc 14), .lenS, [(.loc 13)], none⟩,
  ⟨(.var 7), (.bin .geq), [(.loc 14), (.con (.int .i64 8))], none⟩]
@[reducible] noncomputable def r10_4 : List RO := [
  ⟨(.loc 18), .mv, [(.var 3)], none⟩,
  ⟨(.loc 19), .mv, [(.var 0)], none⟩,
  ⟨(.loc 20), (.slcS false true), [(.loc 19), (.con (.int .i64 8))], none⟩,
  ⟨(.loc 21), .call, [(.loc 18), (.loc 20)], none⟩]
@[reducible] noncomputable def r10_5 : List RO := [
  ⟨(.loc 16), .mv, [(.var 0)], none⟩,
  ⟨(.loc 17), (.slcS true false), [(.loc 16), (.con (.int .i64 8))], none⟩,
  ⟨(.var 0), .mv, [(.loc 17)], none⟩]
@[reducible] noncomputable def r10_6 : List RO := [
  ⟨(.loc 22), .mv, [(.var 3)], none⟩,
  ⟨(.loc 23), .mv, [(.var 0)], none⟩,
  ⟨(.loc 24), .call, [(.loc 22), (.loc 23)], none⟩]
@[reducible] noncomputable def r10_7 : List RO := [
  ⟨(.loc 25), .call, [(.con (.fn (.func 20) [] []))], none⟩,
  ⟨(.var 4), (.newb [(.int .u8 0), (.int .u8 0), (.int .u8 0), (.int .u8 0), (.int .u8 0), (.int .u8 0), (.int .u8 0), (.int .u8 0), (.int .u8 0), (.int .u8 0), (.int .u8 0), (.int .u8 0), (.int .u8 0), (.int .u8 0), (.int .u8 0), (.int .u8 0)]), [], none⟩,
  ⟨.none, (.st 16), [(.var 4), (.loc 25)], none⟩]
@[reducible] noncomputable def r10_8 : List RO := [
  ⟨(.var 5), (.newb [(.int .u8 0), (.int .u8 0), (.int .u8 0), (.int .u8 0), (.int .u8 0), (.int .u8 0), (.int .u8 0), (.int .u8 0), (.int .u8 0), (.int .u8 0), (.int .u8 0), (.int .u8 0), (.int .u8 0), (.int .u8 0), (.int .u8 0), (.int .u8 0)]), [], none⟩]
@[reducible] noncomputable def r10_9 : List RO := [
  ⟨(.var 8), .mv, [(.con (.int .i64 0))], none⟩]
@[reducible] noncomputable def r10_10 : List RO := [
  ⟨(.var 9), (.bin .lss), [(.var 8), (.con (.int .i64 16))], none⟩]
@[reducible] noncomputable def r10_11 : List RO := [
  ⟨(.loc 28), .mv, [(.var 8)], none⟩,
  ⟨(.var 6), .mv, [(.loc 28)], none⟩]
@[reducible] noncomputable def r10_12 : List RO := [
  ⟨(.loc 29), .mv, [(.var 6)], none⟩,
  ⟨(.loc 30), (.ld false 1), [(.var 2)], none⟩,
  ⟨(.loc 31), .mv, [(.var 6)], none⟩,
  ⟨(.loc 32), (.bin .mul), [(.con (.int .i64 4)), (.loc 31)], none⟩,
  ⟨(.loc 33), (.bin .sub), [(.con (.int .i64 60)), (.loc 32)], none⟩,
  ⟨(.loc 34), (.bin .shr), [(.loc 30), (.loc 33)], none⟩,
  ⟨(.loc 35), (.bin .and), [(.loc 34), (.con (.int .u64 15))], none⟩,
  ⟨(.loc 36), (.ixaA 16 1), [(.var 4), (.loc 35)], none⟩,
  ⟨(.loc 37), (.ld false 1), [(.loc 36)], none⟩,
  ⟨(.loc 38), (.ixaA 16 1), [(.var 5), (.loc 29)], none⟩,
  ⟨.none, (.st 1), [(.loc 38), (.loc 37)], none⟩]
@[reducible] noncomputable def r10_13 : List RO := [
  ⟨(.loc 39), (.bin .add), [(.var 8), (.con (.int .i64 1))], none⟩,
  ⟨(.var 8), .mv, [(.loc 39)], none⟩]
@[reducible] noncomputable def r10_14 : List RO := [
  ⟨(.loc 40), (.slcA 16 1 false false), [(.var 5)], none⟩,
  ⟨(.loc 41), .b2s, [(.loc 40)], none⟩,
  ⟨(.var 1), .mv, [(.loc 41)], none⟩]
theorem P10 : C10.M = M := by unfold C10 E10; rfl
theorem pe10 {n m : Nat} : (E10 n m).M = M := by unfold E10; rfl
theorem i10 {a0 : D} : St.init C10 [a0] ⟨[], []⟩ = ⟨[a0, .undef, .undef, .undef, .undef, .undef, .undef, .undef, .undef, .undef], [], ⟨[], []⟩⟩ := by unfold C10 E10; rfl
theorem ie10 {n m : Nat} {hp : Hp} {a0 : D} : St.init (E10 n m) [a0] hp = ⟨[a0, .undef, .undef, .undef, .undef, .undef, .undef, .undef, .undef, .undef], [], hp⟩ := by unfold E10; rfl
noncomputable def c10 : RC := (.seq (.reg r10_0) (.seq (.reg r10_1) (.seq (.reg r10_2) (.seq (.block 0 (.loop (.seq (.seq (.reg r10_3) (.cond (.var 7) .skip (.exit 0))) (.seq (.block 1 (.reg r10_4)) (.reg r10_5))))) (.seq (.reg r10_6) (.seq (.reg r10_7) (.seq (.reg r10_8) (.seq (.seq (.reg r10_9) (.block 2 (.loop (.seq (.reg r10_10) (.seq (.cond (.var 9) .skip (.exit 2)) (.seq (.block 3 (.seq (.reg r10_11) (.reg r10_12))) (.reg r10_13))))))) (.seq (.reg r10_14) .ret)))))))))
noncomputable def q10 : List RR := [(.slot (.var 1))]
theorem z10 {n m : Nat} : resCode (E10 n m) (Tryd.f10.body.getD .skip) = some c10 := by kernel_rfl
theorem zr10 {n m : Nat} : resRs (E10 n m) Tryd.f10.results.toList = some q10 := by kernel_rfl
theorem oe10 {args : List D} {hp : Hp} {R : D → Hp → Prop} (n m : Nat) (hl : args.length = 1) (hn : n = hp.H.length) (hm : m = hp.tk.length) (h : SWp (E10 n m) c10 (fun e s => (match e with | .exit _ => False | _ => True) ∧ ∃ s1, Weak (E10 n m) s s1 ∧ rrsWp q10 s1 fun ds => R (oneOrTup ds) s1.hp) (St.init (E10 n m) args hp)) : Eff M 10 args hp R :=
  eff_of_body (C := E10 n m) (fn := Tryd.f10) Tryd.func10 (by kernel_rfl) (by kernel_rfl) (rc := c10) z10 (rs := q10) zr10 (by kernel_rfl) (by rw [hl]; rfl) (by rw [hl]; exact (by decide : 1 ≤ 42)) hn hm h
theorem ow10 {args : List D} {d : D} (hl : args.length = 1) (h : SWp C10 c10 (fun e s => (match e with | .exit _ => False | _ => True) ∧ ∃ s1, Weak C10 s s1 ∧ rrsWp q10 s1 fun ds => D.closed (oneOrTup ds) = true ∧ (oneOrTup ds).er = d) (St.init C10 args ⟨[], []⟩)) : Pur M 10 args d :=
  pur_of_bodyW (C := C10) (fn := Tryd.f10) Tryd.func10 (by kernel_rfl) (by kernel_rfl) (rc := c10) z10 (rs := q10) zr10 (by kernel_rfl) (by rw [hl]; rfl) (by rw [hl]; decide) rfl rfl h
theorem ok10 {args : List D} {d : D} (hl : args.length = 1) (h : SWp C10 c10 (fun e s => (match e with | .exit _ => False | _ => True) ∧ rrsWp q10 s fun ds => D.closed (oneOrTup ds) = true ∧ (oneOrTup ds).er = d) (St.init C10 args ⟨[], []⟩)) : Pur M 10 args d :=
  pur_of_body (C := C10) (fn := Tryd.f10) Tryd.func10 (by kernel_rfl) (by kernel_rfl) (rc := c10) z10 (rs := q10) zr10 (by kernel_rfl) (by rw [hl]; rfl) (by rw [hl]; decide) rfl rfl h

/- 22 (*strings.Builder).WriteString · 2 arguments · kept slots [0, 1, 4, 5] -/
noncomputable def E22 (n m : Nat) : Cfg := ⟨M, [0, 1, 4, 5], 19, n, m⟩
noncomputable def C22 : Cfg := E22 0 0
@[reducible] noncomputable def r22_0 : List RO := [
  ⟨(.var 2), .mv, [(.con (.int .i64 0))], none⟩,
  ⟨(.var 3), .mv, [(.con (.lit .nilIface))], none⟩]
@[reducible] noncomputable def r22_1 : List RO := [
  ⟨(.loc 6), .mv, [(.var 0)], none⟩,
  ⟨(.loc 7), .call, [(.con (.fn (.func 29) [] [])), (.loc 6)], none⟩]
@[reducible] noncomputable def r22_2 : List RO := [
  ⟨(.loc 8), .mv, [(.var 0)], none⟩,
  ⟨(.loc 9), .mv, [(.var 0)], none⟩,
  ⟨(.loc 10), .nck, [(.loc 9)], none⟩,
  ⟨(.loc 11), (.fld 1), [(.loc 10)], none⟩,
  ⟨(.loc 12), (.ld false 1), [(.loc 11)], none⟩,
  ⟨(.loc 13), .mv, [(.var 1)], none⟩,
  ⟨(.loc 14), (.app 1 1 5), [(.loc 12), (.loc 13)], none⟩,
  ⟨(.loc 15), .nck, [(.loc 8)], none⟩,
  ⟨(.loc 16), (.fld 1), [(.loc 15)], none⟩,
  ⟨.none, (.st 1), [(.loc 16), (.loc 14)], none⟩]
@[reducible] noncomputable def r22_3 : List RO := [
  ⟨(.loc 17), .mv, [(.var 1)], none⟩,
  ⟨(.loc 18), .lenS, [(.loc 17)], none⟩,
  ⟨(.var 2), .mv, [(.loc 18)], none⟩,
  ⟨(.var 3), .mv, [(.con (.lit .nilIface))], none⟩]
theorem P22 : C22.M = M := by unfold C22 E22; rfl
theorem pe22 {n m : Nat} : (E22 n m).M = M := by unfold E22; rfl
theorem i22 {a0 a1 : D} : St.init C22 [a0, a1] ⟨[], []⟩ = ⟨[a0, a1, .undef, .undef], [], ⟨[], []⟩⟩ := by unfold C22 E22; rfl
theorem ie22 {n m : Nat} {hp : Hp} {a0 a1 : D} : St.init (E22 n m) [a0, a1] hp = ⟨[a0, a1, .undef, .undef], [], hp⟩ := by unfold E22; rfl
noncomputable def c22 : RC := (.seq (.reg r22_0) (.seq (.reg r22_1) (.seq (.reg r22_2) (.seq (.reg r22_3) .ret))))
noncomputable def q22 : List RR := [(.slot (.var 2)), (.slot (.var 3))]
theorem z22 {n m : Nat} : resCode (E22 n m) (Tryd.f22.body.getD .skip) = some c22 := by kernel_rfl
theorem zr22 {n m : Nat} : resRs (E22 n m) Tryd.f22.results.toList = some q22 := by kernel_rfl
theorem oe22 {args : List D} {hp : Hp} {R : D → Hp → Prop} (n m : Nat) (hl : args.length = 2) (hn : n = hp.H.length) (hm : m = hp.tk.length) (h : SWp (E22 n m) c22 (fun e s => (match e with | .exit _ => False | _ => True) ∧ ∃ s1, Weak (E22 n m) s s1 ∧ rrsWp q22 s1 fun ds => R (oneOrTup ds) s1.hp) (St.init (E22 n m) args hp)) : Eff M 22 args hp R :=
  eff_of_body (C := E22 n m) (fn := Tryd.f22) Tryd.func22 (by kernel_rfl) (by kernel_rfl) (rc := c22) z22 (rs := q22) zr22 (by kernel_rfl) (by rw [hl]; rfl) (by rw [hl]; exact (by decide : 2 ≤ 19)) hn hm h
theorem ow22 {args : List D} {d : D} (hl : args.length = 2) (h : SWp C22 c22 (fun e s => (match e with | .exit _ => False | _ => True) ∧ ∃ s1, Weak C22 s s1 ∧ rrsWp q22 s1 fun ds => D.closed (oneOrTup ds) = true ∧ (oneOrTup ds).er = d) (St.init C22 args ⟨[], []⟩)) : Pur M 22 args d :=
  pur_of_bodyW (C := C22) (fn := Tryd.f22) Tryd.func22 (by kernel_rfl) (by kernel_rfl) (rc := c22) z22 (rs := q22) zr22 (by kernel_rfl) (by rw [hl]; rfl) (by rw [hl]; decide) rfl rfl h
theorem ok22 {args : List D} {d : D} (hl : args.length = 2) (h : SWp C22 c22 (fun e s => (match e with | .exit _ => False | _ => True) ∧ rrsWp q22 s fun ds => D.closed (oneOrTup ds) = true ∧ (oneOrTup ds).er = d) (St.init C22 args ⟨[], []⟩)) : Pur M 22 args d :=
  pur_of_body (C := C22) (fn := Tryd.f22) Tryd.func22 (by kernel_rfl) (by kernel_rfl) (rc := c22) z22 (rs := q22) zr22 (by kernel_rfl) (by rw [hl]; rfl) (by rw [hl]; decide) rfl rfl h

/- 12 bogie.digest.List · 1 arguments · kept slots [0, 2, 3, 5, 6, 7, 8, 9] -/
noncomputable def E12 (n m : Nat) : Cfg := ⟨M, [0, 2, 3, 5, 6, 7, 8, 9], 22, n, m⟩
noncomputable def C12 : Cfg := E12 0 0
@[reducible] noncomputable def r12_0 : List RO := [
  ⟨(.var 1), .mv, [(.con (.str []))], none⟩]
@[reducible] noncomputable def r12_1 : List RO := [
  ⟨(.var 2), (.newT 44 [(.lit (.pointer none)), (.lit (.slice none 0 0))]), [], none⟩]
@[reducible] noncomputable def r12_2 : List RO := [
  ⟨(.var 4), .mv, [(.var 0)], none⟩,
  ⟨(.var 5), .lenL, [(.var 4)], none⟩,
  ⟨(.var 6), .mv, [(.con (.int .i64 0))], none⟩]
@[reducible] noncomputable def r12_3 : List RO := [
  ⟨(.var 7), (.bin .lss), [(.var 6), (.var 5)], none⟩]
@[reducible] noncomputable def r12_4 : List RO := [
  ⟨(.loc 10), (.ixaS 1), [(.var 4), (.var 6)], none⟩,
  ⟨(.loc 11), (.ld false 1), [(.loc 10)], none⟩,
  ⟨(.var 3), .mv, [(.loc 11)], none⟩]
@[reducible] noncomputable def r12_5 : List RO := [
  ⟨(.loc 12), .mv, [(.var 3)], none⟩,
  ⟨(.loc 13), .lenS, [(.loc 12)], none⟩,
  ⟨(.loc 14), .call, [(.con (.fn (.func 23) [] [])), (.loc 13)], none⟩,
  ⟨(.loc 15), (.bin .add), [(.loc 14), (.con (.str [58]))], none⟩,
  ⟨(.loc 16), .mv, [(.var 3)], none⟩,
  ⟨(.loc 17), (.bin .add), [(.loc 15), (.loc 16)], none⟩,
  ⟨(.loc 18), .call, [(.con (.fn (.func 22) [] [])), (.var 2), (.loc 17)], none⟩]
@[reducible] noncomputable def r12_6 : List RO := [
  ⟨(.loc 19), (.bin .add), [(.var 6), (.con (.int .i64 1))], none⟩,
  ⟨(.var 6), .mv, [(.loc 19)], none⟩]
@[reducible] noncomputable def r12_7 : List RO := [
  ⟨(.loc 20), .call, [(.con (.fn (.func 24) [] [])), (.var 2)], none⟩,
  ⟨(.loc 21), .call, [(.con (.fn (.func 10) [] [])), (.loc 20)], none⟩,
  ⟨(.var 1), .mv, [(.loc 21)], none⟩]
theorem P12 : C12.M = M := by unfold C12 E12; rfl
theorem pe12 {n m : Nat} : (E12 n m).M = M := by unfold E12; rfl
theorem i12 {a0 : D} : St.init C12 [a0] ⟨[], []⟩ = ⟨[a0, .undef, .undef, .undef, .undef, .undef, .undef, .undef], [], ⟨[], []⟩⟩ := by unfold C12 E12; rfl
theorem ie12 {n m : Nat} {hp : Hp} {a0 : D} : St.init (E12 n m) [a0] hp = ⟨[a0, .undef, .undef, .undef, .undef, .undef, .undef, .undef], [], hp⟩ := by unfold E12; rfl
noncomputable def c12 : RC := (.seq (.reg r12_0) (.seq (.reg r12_1) (.seq (.seq (.reg r12_2) (.block 0 (.loop (.seq (.reg r12_3) (.seq (.cond (.var 7) .skip (.exit 0)) (.seq (.block 1 (.seq (.reg r12_4) (.reg r12_5))) (.reg r12_6))))))) (.seq (.reg r12_7) .ret))))
noncomputable def q12 : List RR := [(.slot (.var 1))]
theorem z12 {n m : Nat} : resCode (E12 n m) (Tryd.f12.body.getD .skip) = some c12 := by kernel_rfl
theorem zr12 {n m : Nat} : resRs (E12 n m) Tryd.f12.results.toList = some q12 := by kernel_rfl
theorem oe12 {args : List D} {hp : Hp} {R : D → Hp → Prop} (n m : Nat) (hl : args.length = 1) (hn : n = hp.H.length) (hm : m = hp.tk.length) (h : SWp (E12 n m) c12 (fun e s => (match e with | .exit _ => False | _ => True) ∧ ∃ s1, Weak (E12 n m) s s1 ∧ rrsWp q12 s1 fun ds => R (oneOrTup ds) s1.hp) (St.init (E12 n m) args hp)) : Eff M 12 args hp R :=
  eff_of_body (C := E12 n m) (fn := Tryd.f12) Tryd.func12 (by kernel_rfl) (by kernel_rfl) (rc := c12) z12 (rs := q12) zr12 (by kernel_rfl) (by rw [hl]; rfl) (by rw [hl]; exact (by decide : 1 ≤ 22)) hn hm h
theorem ow12 {args : List D} {d : D} (hl : args.length = 1) (h : SWp C12 c12 (fun e s => (match e with | .exit _ => False | _ => True) ∧ ∃ s1, Weak C12 s s1 ∧ rrsWp q12 s1 fun ds => D.closed (oneOrTup ds) = true ∧ (oneOrTup ds).er = d) (St.init C12 args ⟨[], []⟩)) : Pur M 12 args d :=
  pur_of_bodyW (C := C12) (fn := Tryd.f12) Tryd.func12 (by kernel_rfl) (by kernel_rfl) (rc := c12) z12 (rs := q12) zr12 (by kernel_rfl) (by rw [hl]; rfl) (by rw [hl]; decide) rfl rfl h
theorem ok12 {args : List D} {d : D} (hl : args.length = 1) (h : SWp C12 c12 (fun e s => (match e with | .exit _ => False | _ => True) ∧ rrsWp q12 s fun ds => D.closed (oneOrTup ds) = true ∧ (oneOrTup ds).er = d) (St.init C12 args ⟨[], []⟩)) : Pur M 12 args d :=
  pur_of_body (C := C12) (fn := Tryd.f12) Tryd.func12 (by kernel_rfl) (by kernel_rfl) (rc := c12) z12 (rs := q12) zr12 (by kernel_rfl) (by rw [hl]; rfl) (by rw [hl]; decide) rfl rfl h

/- 41 (*strings.asciiSet).contains · 2 arguments · kept slots [0, 1, 4] -/
noncomputable def E41 (n m : Nat) : Cfg := ⟨M, [0, 1, 4], 10, n, m⟩
noncomputable def C41 : Cfg := E41 0 0
@[reducible] noncomputable def r41_0 : List RO := [
  ⟨(.var 2), .mv, [(.con (.bool false))], none⟩]
@[reducible] noncomputable def r41_1 : List RO := [
  ⟨(.loc 5), .mv, [(.var 0)], none⟩,
  ⟨(.loc 6), .mv, [(.var 1)], none⟩,
  ⟨(.loc 7), .nck, [(.loc 5)], none⟩,
  ⟨(.loc 8), (.ixaA 256 1), [(.loc 7), (.loc 6)], none⟩,
  ⟨(.loc 9), (.ld false 1), [(.loc 8)], none⟩,
  ⟨(.var 2), .mv, [(.loc 9)], none⟩]
theorem P41 : C41.M = M := by unfold C41 E41; rfl
theorem pe41 {n m : Nat} : (E41 n m).M = M := by unfold E41; rfl
theorem i41 {a0 a1 : D} : St.init C41 [a0, a1] ⟨[], []⟩ = ⟨[a0, a1, .undef], [], ⟨[], []⟩⟩ := by unfold C41 E41; rfl
theorem ie41 {n m : Nat} {hp : Hp} {a0 a1 : D} : St.init (E41 n m) [a0, a1] hp = ⟨[a0, a1, .undef], [], hp⟩ := by unfold E41; rfl
noncomputable def c41 : RC := (.seq (.reg r41_0) (.seq (.reg r41_1) .ret))
noncomputable def q41 : List RR := [(.slot (.var 2))]
theorem z41 {n m : Nat} : resCode (E41 n m) (Tryd.f41.body.getD .skip) = some c41 := by kernel_rfl
theorem zr41 {n m : Nat} : resRs (E41 n m) Tryd.f41.results.toList = some q41 := by kernel_rfl
theorem oe41 {args : List D} {hp : Hp} {R : D → Hp → Prop} (n m : Nat) (hl : args.length = 2) (hn : n = hp.H.length) (hm : m = hp.tk.length) (h : SWp (E41 n m) c41 (fun e s => (match e with | .exit _ => False | _ => True) ∧ ∃ s1, Weak (E41 n m) s s1 ∧ rrsWp q41 s1 fun ds => R (oneOrTup ds) s1.hp) (St.init (E41 n m) args hp)) : Eff M 41 args hp R :=
  eff_of_body (C := E41 n m) (fn := Tryd.f41) Tryd.func41 (by kernel_rfl) (by kernel_rfl) (rc := c41) z41 (rs := q41) zr41 (by kernel_rfl) (by rw [hl]; rfl) (by rw [hl]; exact (by decide : 2 ≤ 10)) hn hm h
theorem ow41 {args : List D} {d : D} (hl : args.length = 2) (h : SWp C41 c41 (fun e s => (match e with | .exit _ => False | _ => True) ∧ ∃ s1, Weak C41 s s1 ∧ rrsWp q41 s1 fun ds => D.closed (oneOrTup ds) = true ∧ (oneOrTup ds).er = d) (St.init C41 args ⟨[], []⟩)) : Pur M 41 args d :=
  pur_of_bodyW (C := C41) (fn := Tryd.f41) Tryd.func41 (by kernel_rfl) (by kernel_rfl) (rc := c41) z41 (rs := q41) zr41 (by kernel_rfl) (by rw [hl]; rfl) (by rw [hl]; decide) rfl rfl h
theorem ok41 {args : List D} {d : D} (hl : args.length = 2) (h : SWp C41 c41 (fun e s => (match e with | .exit _ => False | _ => True) ∧ rrsWp q41 s fun ds => D.closed (oneOrTup ds) = true ∧ (oneOrTup ds).er = d) (St.init C41 args ⟨[], []⟩)) : Pur M 41 args d :=
  pur_of_body (C := C41) (fn := Tryd.f41) Tryd.func41 (by kernel_rfl) (by kernel_rfl) (rc := c41) z41 (rs := q41) zr41 (by kernel_rfl) (by rw [hl]; rfl) (by rw [hl]; decide) rfl rfl h

/- 34 strings.trimLeftASCII · 2 arguments · kept slots [0, 1, 4, 7, 12] -/
noncomputable def E34 (n m : Nat) : Cfg := ⟨M, [0, 1, 4, 7, 12], 16, n, m⟩
noncomputable def C34 : Cfg := E34 0 0
@[reducible] noncomputable def r34_0 : List RO := [
  ⟨(.var 2), .mv, [(.con (.str []))], none⟩]
@[reducible] noncomputable def r34_1 : List RO := [
  ⟨(.loc 5), .mv, [(.var 0)], none⟩,
  ⟨(.loc 6), .lenS, [(.loc 5)], none⟩,
  ⟨(.var 3), (.bin .gtr), [(.loc 6), (.con (.int .i64 0))], none⟩]
@[reducible] noncomputable def r34_2 : List RO := [
  ⟨(.loc 8), .mv, [(.var 1)], none⟩,
  ⟨(.loc 9), .mv, [(.var 0)], none⟩,
  ⟨(.loc 10), .ixvS, [(.loc 9), (.con (.int .i64 0))], none⟩,
  ⟨(.loc 11), .call, [(.con (.fn (.func 41) [] [])), (.loc 8), (.loc 10)], none⟩,
  ⟨(.var 4), (.un .not), [(.loc 11)], none⟩]
@[reducible] noncomputable def r34_3 : List RO := [
  ⟨(.loc 13), .mv, [(.var 0)], none⟩,
  ⟨(.loc 14), (.slcS true false), [(.loc 13), (.con (.int .i64 1))], none⟩,
  ⟨(.var 0), .mv, [(.loc 14)], none⟩]
@[reducible] noncomputable def r34_4 : List RO := [
  ⟨(.loc 15), .mv, [(.var 0)], none⟩,
  ⟨(.var 2), .mv, [(.loc 15)], none⟩]
theorem P34 : C34.M = M := by unfold C34 E34; rfl
theorem pe34 {n m : Nat} : (E34 n m).M = M := by unfold E34; rfl
theorem i34 {a0 a1 : D} : St.init C34 [a0, a1] ⟨[], []⟩ = ⟨[a0, a1, .undef, .undef, .undef], [], ⟨[], []⟩⟩ := by unfold C34 E34; rfl
theorem ie34 {n m : Nat} {hp : Hp} {a0 a1 : D} : St.init (E34 n m) [a0, a1] hp = ⟨[a0, a1, .undef, .undef, .undef], [], hp⟩ := by unfold E34; rfl
noncomputable def c34 : RC := (.seq (.reg r34_0) (.seq (.block 0 (.loop (.seq (.seq (.reg r34_1) (.cond (.var 3) .skip (.exit 0))) (.block 1 (.seq (.seq (.reg r34_2) (.cond (.var 4) (.exit 0) .skip)) (.reg r34_3)))))) (.seq (.reg r34_4) .ret)))
noncomputable def q34 : List RR := [(.slot (.var 2))]
theorem z34 {n m : Nat} : resCode (E34 n m) (Tryd.f34.body.getD .skip) = some c34 := by kernel_rfl
theorem zr34 {n m : Nat} : resRs (E34 n m) Tryd.f34.results.toList = some q34 := by kernel_rfl
theorem oe34 {args : List D} {hp : Hp} {R : D → Hp → Prop} (n m : Nat) (hl : args.length = 2) (hn : n = hp.H.length) (hm : m = hp.tk.length) (h : SWp (E34 n m) c34 (fun e s => (match e with | .exit _ => False | _ => True) ∧ ∃ s1, Weak (E34 n m) s s1 ∧ rrsWp q34 s1 fun ds => R (oneOrTup ds) s1.hp) (St.init (E34 n m) args hp)) : Eff M 34 args hp R :=
  eff_of_body (C := E34 n m) (fn := Tryd.f34) Tryd.func34 (by kernel_rfl) (by kernel_rfl) (rc := c34) z34 (rs := q34) zr34 (by kernel_rfl) (by rw [hl]; rfl) (by rw [hl]; exact (by decide : 2 ≤ 16)) hn hm h
theorem ow34 {args : List D} {d : D} (hl : args.length = 2) (h : SWp C34 c34 (fun e s => (match e with | .exit _ => False | _ => True) ∧ ∃ s1, Weak C34 s s1 ∧ rrsWp q34 s1 fun ds => D.closed (oneOrTup ds) = true ∧ (oneOrTup ds).er = d) (St.init C34 args ⟨[], []⟩)) : Pur M 34 args d :=
  pur_of_bodyW (C := C34) (fn := Tryd.f34) Tryd.func34 (by kernel_rfl) (by kernel_rfl) (rc := c34) z34 (rs := q34) zr34 (by kernel_rfl) (by rw [hl]; rfl) (by rw [hl]; decide) rfl rfl h
theorem ok34 {args : List D} {d : D} (hl : args.length = 2) (h : SWp C34 c34 (fun e s => (match e with | .exit _ => False | _ => True) ∧ rrsWp q34 s fun ds => D.closed (oneOrTup ds) = true ∧ (oneOrTup ds).er = d) (St.init C34 args ⟨[], []⟩)) : Pur M 34 args d :=
  pur_of_body (C := C34) (fn := Tryd.f34) Tryd.func34 (by kernel_rfl) (by kernel_rfl) (rc := c34) z34 (rs := q34) zr34 (by kernel_rfl) (by rw [hl]; rfl) (by rw [hl]; decide) rfl rfl h

/- 35 strings.trimRightASCII · 2 arguments · kept slots [0, 1, 4, 7, 15] -/
noncomputable def E35 (n m : Nat) : Cfg := ⟨M, [0, 1, 4, 7, 15], 22, n, m⟩
noncomputable def C35 : Cfg := E35 0 0
@[reducible] noncomputable def r35_0 : List RO := [
  ⟨(.var 2), .mv, [(.con (.str []))], none⟩]
@[reducible] noncomputable def r35_1 : List RO := [
  ⟨(.loc 5), .mv, [(.var 0)], none⟩,
  ⟨(.loc 6), .lenS, [(.loc 5)], none⟩,
  ⟨(.var 3), (.bin .gtr), [(.loc 6), (.con (.int .i64 0))], none⟩]
@[reducible] noncomputable def r35_2 : List RO := [
  ⟨(.loc 8), .mv, [(.var 1)], none⟩,
  ⟨(.loc 9), .mv, [(.var 0)], none⟩,
  ⟨(.loc 10), .mv, [(.var 0)], none⟩,
  ⟨(.loc 11), .lenS, [(.loc 10)], none⟩,
  ⟨(.loc 12), (.bin .sub), [(.loc 11), (.con (.int .i64 1))], none⟩,
  ⟨(.loc 13), .ixvS, [(.loc 9), (.loc 12)], none⟩,
  ⟨(.loc 14), .call, [(.con (.fn (.func 41) [] [])), (.loc 8), (.loc 13)], none⟩,
  ⟨(.var 4), (.un .not), [(.loc 14)], none⟩]
@[reducible] noncomputable def r35_3 : List RO := [
  ⟨(.loc 16), .mv, [(.var 0)], none⟩,
  ⟨(.loc 17), .mv, [(.var 0)], none⟩,
  ⟨(.loc 18), .lenS, [(.loc 17)], none⟩,
  ⟨(.loc 19), (.bin .sub), [(.loc 18), (.con (.int .i64 1))], none⟩,
  ⟨(.loc 20), (.slcS false true), [(.loc 16), (.loc 19)], none⟩,
  ⟨(.var 0), .mv, [(.loc 20)], none⟩]
@[reducible] noncomputable def r35_4 : List RO := [
  ⟨(.loc 21), .mv, [(.var 0)], none⟩,
  ⟨(.var 2), .mv, [(.loc 21)], none⟩]
theorem P35 : C35.M = M := by unfold C35 E35; rfl
theorem pe35 {n m : Nat} : (E35 n m).M = M := by unfold E35; rfl
theorem i35 {a0 a1 : D} : St.init C35 [a0, a1] ⟨[], []⟩ = ⟨[a0, a1, .undef, .undef, .undef], [], ⟨[], []⟩⟩ := by unfold C35 E35; rfl
theorem ie35 {n m : Nat} {hp : Hp} {a0 a1 : D} : St.init (E35 n m) [a0, a1] hp = ⟨[a0, a1, .undef, .undef, .undef], [], hp⟩ := by unfold E35; rfl
noncomputable def c35 : RC := (.seq (.reg r35_0) (.seq (.block 0 (.loop (.seq (.seq (.reg r35_1) (.cond (.var 3) .skip (.exit 0))) (.block 1 (.seq (.seq (.reg r35_2) (.cond (.var 4) (.exit 0) .skip)) (.reg r35_3)))))) (.seq (.reg r35_4) .ret)))
noncomputable def q35 : List RR := [(.slot (.var 2))]
theorem z35 {n m : Nat} : resCode (E35 n m) (Tryd.f35.body.getD .skip) = some c35 := by kernel_rfl
theorem zr35 {n m : Nat} : resRs (E35 n m) Tryd.f35.results.toList = some q35 := by kernel_rfl
theorem oe35 {args : List D} {hp : Hp} {R : D → Hp → Prop} (n m : Nat) (hl : args.length = 2) (hn : n = hp.H.length) (hm : m = hp.tk.length) (h : SWp (E35 n m) c35 (fun e s => (match e with | .exit _ => False | _ => True) ∧ ∃ s1, Weak (E35 n m) s s1 ∧ rrsWp q35 s1 fun ds => R (oneOrTup ds) s1.hp) (St.init (E35 n m) args hp)) : Eff M 35 args hp R :=
  eff_of_body (C := E35 n m) (fn := Tryd.f35) Tryd.func35 (by kernel_rfl) (by kernel_rfl) (rc := c35) z35 (rs := q35) zr35 (by kernel_rfl) (by rw [hl]; rfl) (by rw [hl]; exact (by decide : 2 ≤ 22)) hn hm h
theorem ow35 {args : List D} {d : D} (hl : args.length = 2) (h : SWp C35 c35 (fun e s => (match e with | .exit _ => False | _ => True) ∧ ∃ s1, Weak C35 s s1 ∧ rrsWp q35 s1 fun ds => D.closed (oneOrTup ds) = true ∧ (oneOrTup ds).er = d) (St.init C35 args ⟨[], []⟩)) : Pur M 35 args d :=
  pur_of_bodyW (C := C35) (fn := Tryd.f35) Tryd.func35 (by kernel_rfl) (by kernel_rfl) (rc := c35) z35 (rs := q35) zr35 (by kernel_rfl) (by rw [hl]; rfl) (by rw [hl]; decide) rfl rfl h
theorem ok35 {args : List D} {d : D} (hl : args.length = 2) (h : SWp C35 c35 (fun e s => (match e with | .exit _ => False | _ => True) ∧ rrsWp q35 s fun ds => D.closed (oneOrTup ds) = true ∧ (oneOrTup ds).er = d) (St.init C35 args ⟨[], []⟩)) : Pur M 35 args d :=
  pur_of_body (C := C35) (fn := Tryd.f35) Tryd.func35 (by kernel_rfl) (by kernel_rfl) (rc := c35) z35 (rs := q35) zr35 (by kernel_rfl) (by rw [hl]; rfl) (by rw [hl]; decide) rfl rfl h

/- 25 strings.Trim · 2 arguments · kept slots [0, 1, 4, 5, 6, 12, 21, 34] -/
noncomputable def E25 (n m : Nat) : Cfg := ⟨M, [0, 1, 4, 5, 6, 12, 21, 34], 43, n, m⟩
noncomputable def C25 : Cfg := E25 0 0
@[reducible] noncomputable def r25_0 : List RO := [
  ⟨(.var 2), .mv, [(.con (.str []))], none⟩]
@[reducible] noncomputable def r25_1 : List RO := [
  ⟨(.loc 7), .mv, [(.var 0)], none⟩,
  ⟨(.loc 8), (.bin .eql), [(.loc 7), (.con (.str []))], none⟩,
  ⟨(.loc 9), .mv, [(.loc 8)], none⟩,
  ⟨(.loc 10), .mv, [(.var 1)], (some ((.loc 9), false))⟩,
  ⟨(.loc 11), (.bin .eql), [(.loc 10), (.con (.str []))], (some ((.loc 9), false))⟩,
  ⟨(.var 5), .pick, [(.loc 9), (.con (.bool true)), (.loc 11)], none⟩]
@[reducible] noncomputable def r25_2 : List RO := [
  ⟨(.loc 13), .mv, [(.var 0)], none⟩,
  ⟨(.var 2), .mv, [(.loc 13)], none⟩]
@[reducible] noncomputable def r25_3 : List RO := [
  ⟨(.loc 14), .mv, [(.var 1)], none⟩,
  ⟨(.loc 15), .lenS, [(.loc 14)], none⟩,
  ⟨(.loc 16), (.bin .eql), [(.loc 15), (.con (.int .i64 1))], none⟩,
  ⟨(.loc 17), .mv, [(.loc 16)], none⟩,
  ⟨(.loc 18), .mv, [(.var 1)], (some ((.loc 17), true))⟩,
  ⟨(.loc 19), .ixvS, [(.loc 18), (.con (.int .i64 0))], (some ((.loc 17), true))⟩,
  ⟨(.loc 20), (.bin .lss), [(.loc 19), (.con (.int .u8 128))], (some ((.loc 17), true))⟩,
  ⟨(.var 6), .pick, [(.loc 17), (.loc 20), (.con (.bool false))], none⟩]
@[reducible] noncomputable def r25_4 : List (RO × Bool) := [
  (⟨(.loc 22), .mv, [(.var 0)], none⟩, true),
  (⟨(.loc 23), .mv, [(.var 1)], none⟩, true),
  (⟨(.loc 24), .ixvS, [(.loc 23), (.con (.int .i64 0))], none⟩, true),
  (⟨(.loc 25), .call, [(.con (.fn (.func 32) [] [])), (.loc 22), (.loc 24)], none⟩, false),
  (⟨(.loc 26), .mv, [(.var 1)], none⟩, true),
  (⟨(.loc 27), .ixvS, [(.loc 26), (.con (.int .i64 0))], none⟩, true)]
@[reducible] noncomputable def r25_5 : List RO := [
  ⟨(.loc 28), .call, [(.con (.fn (.func 31) [] [])), (.loc 25), (.loc 27)], none⟩,
  ⟨(.var 2), .mv, [(.loc 28)], none⟩]
@[reducible] noncomputable def r25_6 : List RO := [
  ⟨(.loc 30), .mv, [(.var 1)], none⟩,
  ⟨(.loc 31), .call, [(.con (.fn (.func 33) [] [])), (.loc 30)], none⟩,
  ⟨(.loc 29), .mv, [(.loc 31)], none⟩,
  ⟨(.loc 32), (.ext 0), [(.loc 29)], none⟩,
  ⟨(.loc 33), (.ext 1), [(.loc 29)], none⟩,
  ⟨(.var 3), (.newb [(.bool false), (.bool false), (.bool false), (.bool false), (.bool false), (.bool false), (.bool false), (.bool false), (.bool false), (.bool false), (.bool false), (.bool false), (.bool false), (.bool false), (.bool false), (.bool false), (.bool false), (.bool false), (.bool false), (.bool false), (.bool false), (.bool false), (.bool false), (.bool false), (.bool false), (.bool false), (.bool false), (.bool false), (.bool false), (.bool false), (.bool false), (.bool false), (.bool false), (.bool false), (.bool false), (.bool false), (.bool false), (.bool false), (.bool false), (.bool false), (.bool false), (.bool false), (.bool false), (.bool false), (.bool false), (.bool false), (.bool false), (.bool false), (.bool false), (.bool false), (.bool false), (.bool false), (.bool false), (.bool false), (.bool false), (.bool false), (.bool false), (.bool false), (.bool false), (.bool false), (.bool false), (.bool false), (.bool false), (.bool false), (.bool false), (.bool false), (.bool false), (.bool false), (.bool false), (.bool false), (.bool false), (.bool false), (.bool false), (.bool false), (.bool false), (.bool false), (.bool false), (.bool false), (.bool false), (.bool false), (.bool false), (.bool false), (.bool false), (.bool false), (.bool false), (.bool false), (.bool false), (.bool false), (.bool false), (.bool false), (.bool false), (.bool false), (.bool false), (.bool false), (.bool false), (.bool false), (.bool false), (.bool false), (.bool false), (.bool false), (.bool false), (.bool false), (.bool false), (.bool false), (.bool false), (.bool false), (.bool false), (.bool false), (.bool false), (.bool false), (.bool false), (.bool false), (.bool false), (.bool false), (.bool false), (.bool false), (.bool false), (.bool false), (.bool false), (.bool false), (.bool false), (.bool false), (.bool false), (.bool false), (.bool false), (.bool false), (.bool false), (.bool false), (.bool false), (.bool false), (.bool false), (.bool false), (.bool false), (.bool false), (.bool false), (.bool false), (.bool false), (.bool false), (.bool false), (.bool false), (.bool false), (.bool false), (.bool false), (.bool false), (.bool false), (.bool false), (.bool false), (.bool false), (.bool false), (.bool false), (.bool false), (.bool false), (.bool false), (.bool false), (.bool false), (.bool false), (.bool false), (.bool false), (.bool false), (.bool false), (.bool false), (.bool false), (.bool false), (.bool false), (.bool false), (.bool false), (.bool false), (.bool false), (.bool false), (.bool false), (.bool false), (.bool false), (.bool false), (.bool false), (.bool false), (.bool false), (.bool false), (.bool false), (.bool false), (.bool false), (.bool false), (.bool false), (.bool false), (.bool false), (.bool false), (.bool false), (.bool false), (.bool false), (.bool false), (.bool false), (.bool false), (.bool false), (.bool false), (.bool false), (.bool false), (.bool false), (.bool false), (.bool false), (.bool false), (.bool false), (.bool false), (.bool false), (.bool false), (.bool false), (.bool false), (.bool false), (.bool false), (.bool false), (.bool false), (.bool false), (.bool false), (.bool false), (.bool false), (.bool false), (.bool false), (.bool false), (.bool false), (.bool false), (.bool false), (.bool false), (.bool false), (.bool false), (.bool false), (.bool false), (.bool false), (.bool false), (.bool false), (.bool false), (.bool false), (.bool false), (.bool false), (.bool false), (.bool false), (.bool false), (.bool false), (.bool false), (.bool false), (.bool false), (.bool false), (.bool false), (.bool false), (.bool false), (.bool false), (.bool false), (.bool false), (.bool false), (.bool false), (.bool false), (.bool false), (.bool false), (.bool false), (.bool false), (.bool false), (.bool false), (.bool false), (.bool false)]), [], none⟩,
  ⟨.none, (.st 256), [(.var 3), (.loc 32)], none⟩,
  ⟨(.var 4), .mv, [(.loc 33)], none⟩]
@[reducible] noncomputable def r25_7 : List RO := [
  ⟨(.var 7), .mv, [(.var 4)], none⟩]
@[reducible] noncomputable def r25_8 : List RO := [
  ⟨(.loc 35), .mv, [(.var 0)], none⟩,
  ⟨(.loc 36), .call, [(.con (.fn (.func 35) [] [])), (.loc 35), (.var 3)], none⟩,
  ⟨(.loc 37), .call, [(.con (.fn (.func 34) [] [])), (.loc 36), (.var 3)], none⟩,
  ⟨(.var 2), .mv, [(.loc 37)], none⟩]
@[reducible] noncomputable def r25_9 : List RO := [
  ⟨(.loc 38), .mv, [(.var 0)], none⟩,
  ⟨(.loc 39), .mv, [(.var 1)], none⟩,
  ⟨(.loc 40), .call, [(.con (.fn (.func 37) [] [])), (.loc 38), (.loc 39)], none⟩,
  ⟨(.loc 41), .mv, [(.var 1)], none⟩,
  ⟨(.loc 42), .call, [(.con (.fn (.func 36) [] [])), (.loc 40), (.loc 41)], none⟩,
  ⟨(.var 2), .mv, [(.loc 42)], none⟩]
theorem P25 : C25.M = M := by unfold C25 E25; rfl
theorem pe25 {n m : Nat} : (E25 n m).M = M := by unfold E25; rfl
theorem i25 {a0 a1 : D} : St.init C25 [a0, a1] ⟨[], []⟩ = ⟨[a0, a1, .undef, .undef, .undef, .undef, .undef, .undef], [], ⟨[], []⟩⟩ := by unfold C25 E25; rfl
theorem ie25 {n m : Nat} {hp : Hp} {a0 a1 : D} : St.init (E25 n m) [a0, a1] hp = ⟨[a0, a1, .undef, .undef, .undef, .undef, .undef, .undef], [], hp⟩ := by unfold E25; rfl
noncomputable def c25 : RC := (.seq (.reg r25_0) (.seq (.seq (.reg r25_1) (.cond (.var 5) (.seq (.reg r25_2) .ret) .skip)) (.seq (.seq (.reg r25_3) (.cond (.var 6) (.seq (.regD r25_4 r25_5) .ret) .skip)) (.seq (.seq (.reg r25_6) (.seq (.reg r25_7) (.cond (.var 7) (.seq (.reg r25_8) .ret) .skip))) (.seq (.reg r25_9) .ret)))))
noncomputable def q25 : List RR := [(.slot (.var 2))]
theorem z25 {n m : Nat} : resCode (E25 n m) (Tryd.f25.body.getD .skip) = some c25 := by kernel_rfl
theorem zr25 {n m : Nat} : resRs (E25 n m) Tryd.f25.results.toList = some q25 := by kernel_rfl
theorem oe25 {args : List D} {hp : Hp} {R : D → Hp → Prop} (n m : Nat) (hl : args.length = 2) (hn : n = hp.H.length) (hm : m = hp.tk.length) (h : SWp (E25 n m) c25 (fun e s => (match e with | .exit _ => False | _ => True) ∧ ∃ s1, Weak (E25 n m) s s1 ∧ rrsWp q25 s1 fun ds => R (oneOrTup ds) s1.hp) (St.init (E25 n m) args hp)) : Eff M 25 args hp R :=
  eff_of_body (C := E25 n m) (fn := Tryd.f25) Tryd.func25 (by kernel_rfl) (by kernel_rfl) (rc := c25) z25 (rs := q25) zr25 (by kernel_rfl) (by rw [hl]; rfl) (by rw [hl]; exact (by decide : 2 ≤ 43)) hn hm h
theorem ow25 {args : List D} {d : D} (hl : args.length = 2) (h : SWp C25 c25 (fun e s => (match e with | .exit _ => False | _ => True) ∧ ∃ s1, Weak C25 s s1 ∧ rrsWp q25 s1 fun ds => D.closed (oneOrTup ds) = true ∧ (oneOrTup ds).er = d) (St.init C25 args ⟨[], []⟩)) : Pur M 25 args d :=
  pur_of_bodyW (C := C25) (fn := Tryd.f25) Tryd.func25 (by kernel_rfl) (by kernel_rfl) (rc := c25) z25 (rs := q25) zr25 (by kernel_rfl) (by rw [hl]; rfl) (by rw [hl]; decide) rfl rfl h
theorem ok25 {args : List D} {d : D} (hl : args.length = 2) (h : SWp C25 c25 (fun e s => (match e with | .exit _ => False | _ => True) ∧ rrsWp q25 s fun ds => D.closed (oneOrTup ds) = true ∧ (oneOrTup ds).er = d) (St.init C25 args ⟨[], []⟩)) : Pur M 25 args d :=
  pur_of_body (C := C25) (fn := Tryd.f25) Tryd.func25 (by kernel_rfl) (by kernel_rfl) (rc := c25) z25 (rs := q25) zr25 (by kernel_rfl) (by rw [hl]; rfl) (by rw [hl]; decide) rfl rfl h

/- 14 bogie.digest.Is · 1 arguments · kept slots [0, 2] -/
noncomputable def E14 (n m : Nat) : Cfg := ⟨M, [0, 2], 11, n, m⟩
noncomputable def C14 : Cfg := E14 0 0
@[reducible] noncomputable def r14_0 : List RO := [
  ⟨(.var 1), .mv, [(.con (.bool false))], none⟩]
@[reducible] noncomputable def r14_1 : List RO := [
  ⟨(.loc 3), .mv, [(.var 0)], none⟩,
  ⟨(.loc 4), .lenS, [(.loc 3)], none⟩,
  ⟨(.loc 5), (.bin .eql), [(.loc 4), (.con (.int .i64 16))], none⟩,
  ⟨(.loc 6), .mv, [(.loc 5)], none⟩,
  ⟨(.loc 7), .mv, [(.var 0)], (some ((.loc 6), true))⟩,
  ⟨(.loc 8), .call, [(.con (.fn (.func 25) [] [])), (.loc 7), (.con (.str [48, 49, 50, 51, 52, 53, 54, 55, 56, 57, 97, 98, 99, 100, 101, 102]))], (some ((.loc 6), true))⟩,
  ⟨(.loc 9), (.bin .eql), [(.loc 8), (.con (.str []))], (some ((.loc 6), true))⟩,
  ⟨(.loc 10), .pick, [(.loc 6), (.loc 9), (.con (.bool false))], none⟩,
  ⟨(.var 1), .mv, [(.loc 10)], none⟩]
theorem P14 : C14.M = M := by unfold C14 E14; rfl
theorem pe14 {n m : Nat} : (E14 n m).M = M := by unfold E14; rfl
theorem i14 {a0 : D} : St.init C14 [a0] ⟨[], []⟩ = ⟨[a0, .undef], [], ⟨[], []⟩⟩ := by unfold C14 E14; rfl
theorem ie14 {n m : Nat} {hp : Hp} {a0 : D} : St.init (E14 n m) [a0] hp = ⟨[a0, .undef], [], hp⟩ := by unfold E14; rfl
noncomputable def c14 : RC := (.seq (.reg r14_0) (.seq (.reg r14_1) .ret))
noncomputable def q14 : List RR := [(.slot (.var 1))]
theorem z14 {n m : Nat} : resCode (E14 n m) (Tryd.f14.body.getD .skip) = some c14 := by kernel_rfl
theorem zr14 {n m : Nat} : resRs (E14 n m) Tryd.f14.results.toList = some q14 := by kernel_rfl
theorem oe14 {args : List D} {hp : Hp} {R : D → Hp → Prop} (n m : Nat) (hl : args.length = 1) (hn : n = hp.H.length) (hm : m = hp.tk.length) (h : SWp (E14 n m) c14 (fun e s => (match e with | .exit _ => False | _ => True) ∧ ∃ s1, Weak (E14 n m) s s1 ∧ rrsWp q14 s1 fun ds => R (oneOrTup ds) s1.hp) (St.init (E14 n m) args hp)) : Eff M 14 args hp R :=
  eff_of_body (C := E14 n m) (fn := Tryd.f14) Tryd.func14 (by kernel_rfl) (by kernel_rfl) (rc := c14) z14 (rs := q14) zr14 (by kernel_rfl) (by rw [hl]; rfl) (by rw [hl]; exact (by decide : 1 ≤ 11)) hn hm h
theorem ow14 {args : List D} {d : D} (hl : args.length = 1) (h : SWp C14 c14 (fun e s => (match e with | .exit _ => False | _ => True) ∧ ∃ s1, Weak C14 s s1 ∧ rrsWp q14 s1 fun ds => D.closed (oneOrTup ds) = true ∧ (oneOrTup ds).er = d) (St.init C14 args ⟨[], []⟩)) : Pur M 14 args d :=
  pur_of_bodyW (C := C14) (fn := Tryd.f14) Tryd.func14 (by kernel_rfl) (by kernel_rfl) (rc := c14) z14 (rs := q14) zr14 (by kernel_rfl) (by rw [hl]; rfl) (by rw [hl]; decide) rfl rfl h
theorem ok14 {args : List D} {d : D} (hl : args.length = 1) (h : SWp C14 c14 (fun e s => (match e with | .exit _ => False | _ => True) ∧ rrsWp q14 s fun ds => D.closed (oneOrTup ds) = true ∧ (oneOrTup ds).er = d) (St.init C14 args ⟨[], []⟩)) : Pur M 14 args d :=
  pur_of_body (C := C14) (fn := Tryd.f14) Tryd.func14 (by kernel_rfl) (by kernel_rfl) (rc := c14) z14 (rs := q14) zr14 (by kernel_rfl) (by rw [hl]; rfl) (by rw [hl]; decide) rfl rfl h
end Go.Proofs.YtiodnobmnfjdlaaDoor
