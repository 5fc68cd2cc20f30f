/- The resolved code of the functions that the claim reaches, printed by a program, and the facts that tie it to the translation. -/
import Derived.Test.YtapoplenfgjcjaaDoorProg
import Derived.Test.YtapoplenfgjcjaaDoorEs
import Derived.KernelRfl
import Derived.Lib.ItoaNum
set_option maxRecDepth 100000
namespace Go.Proofs.YtapoplenfgjcjaaDoor
open Go GoV
/-- The program, and what is known of its variables: the table of the powers of ten; one that holds a number; two that hold errors. -/
noncomputable def M : Mod := varMod Tryd.prog [(2, fun cs => cs = (Lib.pow10Tab.map (Value.int .u64 ·)).toArray), (3, fun cs => ∃ v, (∃ m, v = .int .i64 m) ∧ cs = #[v]),
  (0, fun cs => ∃ v, (v = .nilIface ∨ ∃ te pe, v = .iface te pe) ∧ cs = #[v]), (1, fun cs => ∃ v, (v = .nilIface ∨ ∃ te pe, v = .iface te pe) ∧ cs = #[v])]

/- 34 bogie.day.leap · 1 arguments · kept slots [0, 2] -/
noncomputable def E34 (n m : Nat) : Cfg := ⟨M, [0, 2], 16, n, m⟩
noncomputable def C34 : Cfg := E34 0 0
@[reducible] noncomputable def r34_0 : List RO := [
  ⟨(.var 1), .mv, [(.con (.bool false))], none⟩]
@[reducible] noncomputable def r34_1 : List RO := [
  ⟨(.loc 3), .mv, [(.var 0)], none⟩,
  ⟨(.loc 4), (.bin .rem), [(.loc 3), (.con (.int .i64 4))], none⟩,
  ⟨(.loc 5), (.bin .eql), [(.loc 4), (.con (.int .i64 0))], none⟩,
  ⟨(.loc 6), .mv, [(.loc 5)], none⟩,
  ⟨(.loc 7), .mv, [(.var 0)], (some ((.loc 6), true))⟩,
  ⟨(.loc 8), (.bin .rem), [(.loc 7), (.con (.int .i64 100))], (some ((.loc 6), true))⟩,
  ⟨(.loc 9), (.bin .neq), [(.loc 8), (.con (.int .i64 0))], (some ((.loc 6), true))⟩,
  ⟨(.loc 10), .mv, [(.loc 9)], (some ((.loc 6), true))⟩,
  ⟨(.loc 11), .mv, [(.var 0)], (some ((.loc 10), false))⟩,
  ⟨(.loc 12), (.bin .rem), [(.loc 11), (.con (.int .i64 400))], (some ((.loc 10), false))⟩,
  ⟨(.loc 13), (.bin .eql), [(.loc 12), (.con (.int .i64 0))], (some ((.loc 10), false))⟩,
  ⟨(.loc 14), .pick, [(.loc 10), (.con (.bool true)), (.loc 13)], (some ((.loc 6), true))⟩,
  ⟨(.loc 15), .pick, [(.loc 6), (.loc 14), (.con (.bool false))], none⟩,
  ⟨(.var 1), .mv, [(.loc 15)], none⟩]
theorem P34 : C34.M = M := by unfold C34 E34; rfl
theorem pe34 {n m : Nat} : (E34 n m).M = M := by unfold E34; rfl
theorem i34 {a0 : D} : St.init C34 [a0] ⟨[], []⟩ = ⟨[a0, .undef], [], ⟨[], []⟩⟩ := by unfold C34 E34; rfl
theorem ie34 {n m : Nat} {hp : Hp} {a0 : D} : St.init (E34 n m) [a0] hp = ⟨[a0, .undef], [], hp⟩ := by unfold E34; rfl
noncomputable def c34 : RC := (.seq (.reg r34_0) (.seq (.reg r34_1) .ret))
noncomputable def q34 : List RR := [(.slot (.var 1))]
theorem z34 {n m : Nat} : resCode (E34 n m) (Tryd.f34.body.getD .skip) = some c34 := by kernel_rfl
theorem zr34 {n m : Nat} : resRs (E34 n m) Tryd.f34.results.toList = some q34 := by kernel_rfl
theorem oe34 {args : List D} {hp : Hp} {R : D → Hp → Prop} (n m : Nat) (hl : args.length = 1) (hn : n = hp.H.length) (hm : m = hp.tk.length) (h : SWp (E34 n m) c34 (fun e s => (match e with | .exit _ => False | _ => True) ∧ ∃ s1, Weak (E34 n m) s s1 ∧ rrsWp q34 s1 fun ds => R (oneOrTup ds) s1.hp) (St.init (E34 n m) args hp)) : Eff M 34 args hp R :=
  eff_of_body (C := E34 n m) (fn := Tryd.f34) Tryd.func34 (by kernel_rfl) (by kernel_rfl) (rc := c34) z34 (rs := q34) zr34 (by kernel_rfl) (by rw [hl]; rfl) (by rw [hl]; exact (by decide : 1 ≤ 16)) hn hm h
theorem ow34 {args : List D} {d : D} (hl : args.length = 1) (h : SWp C34 c34 (fun e s => (match e with | .exit _ => False | _ => True) ∧ ∃ s1, Weak C34 s s1 ∧ rrsWp q34 s1 fun ds => D.closed (oneOrTup ds) = true ∧ (oneOrTup ds).er = d) (St.init C34 args ⟨[], []⟩)) : Pur M 34 args d :=
  pur_of_bodyW (C := C34) (fn := Tryd.f34) Tryd.func34 (by kernel_rfl) (by kernel_rfl) (rc := c34) z34 (rs := q34) zr34 (by kernel_rfl) (by rw [hl]; rfl) (by rw [hl]; decide) rfl rfl h
theorem ok34 {args : List D} {d : D} (hl : args.length = 1) (h : SWp C34 c34 (fun e s => (match e with | .exit _ => False | _ => True) ∧ rrsWp q34 s fun ds => D.closed (oneOrTup ds) = true ∧ (oneOrTup ds).er = d) (St.init C34 args ⟨[], []⟩)) : Pur M 34 args d :=
  pur_of_body (C := C34) (fn := Tryd.f34) Tryd.func34 (by kernel_rfl) (by kernel_rfl) (rc := c34) z34 (rs := q34) zr34 (by kernel_rfl) (by rw [hl]; rfl) (by rw [hl]; decide) rfl rfl h

/- 24 (bogie.day.date).length · 1 arguments · kept slots [0, 1, 2, 3, 12] -/
noncomputable def E24 (n m : Nat) : Cfg := ⟨M, [0, 1, 2, 3, 12], 18, n, m⟩
noncomputable def C24 : Cfg := E24 0 0
@[reducible] noncomputable def r24_0 : List RO := [
  ⟨(.var 1), .box, [(.var 0)], none⟩,
  ⟨(.var 2), .mv, [(.con (.int .i64 0))], none⟩]
@[reducible] noncomputable def r24_1 : List RO := [
  ⟨(.loc 4), (.bld [(.int .i64 0), (.int .i64 0), (.int .i64 0), (.int .i64 0), (.int .i64 0), (.int .i64 0), (.int .i64 0), (.int .i64 0), (.int .i64 0), (.int .i64 0), (.int .i64 0), (.int .i64 0)] [(0, 1), (1, 1), (2, 1), (3, 1), (4, 1), (5, 1), (6, 1), (7, 1), (8, 1), (9, 1), (10, 1), (11, 1)]), [(.con (.int .i64 31)), (.con (.int .i64 28)), (.con (.int .i64 31)), (.con (.int .i64 30)), (.con (.int .i64 31)), (.con (.int .i64 30)), (.con (.int .i64 31)), (.con (.int .i64 31)), (.con (.int .i64 30)), (.con (.int .i64 31)), (.con (.int .i64 30)), (.con (.int .i64 31))], none⟩,
  ⟨(.var 3), (.newb [(.int .i64 0), (.int .i64 0), (.int .i64 0), (.int .i64 0), (.int .i64 0), (.int .i64 0), (.int .i64 0), (.int .i64 0), (.int .i64 0), (.int .i64 0), (.int .i64 0), (.int .i64 0)]), [], none⟩,
  ⟨.none, (.st 12), [(.var 3), (.loc 4)], none⟩]
@[reducible] noncomputable def r24_2 : List RO := [
  ⟨(.loc 5), (.fld 1), [(.var 1)], none⟩,
  ⟨(.loc 6), (.ld false 1), [(.loc 5)], none⟩,
  ⟨(.loc 7), (.bin .eql), [(.loc 6), (.con (.int .i64 2))], none⟩,
  ⟨(.loc 8), .mv, [(.loc 7)], none⟩,
  ⟨(.loc 9), (.fld 0), [(.var 1)], (some ((.loc 8), true))⟩,
  ⟨(.loc 10), (.ld false 1), [(.loc 9)], (some ((.loc 8), true))⟩,
  ⟨(.loc 11), .call, [(.con (.fn (.func 34) [] [])), (.loc 10)], (some ((.loc 8), true))⟩,
  ⟨(.var 4), .pick, [(.loc 8), (.loc 11), (.con (.bool false))], none⟩]
@[reducible] noncomputable def r24_3 : List RO := [
  ⟨(.var 2), .mv, [(.con (.int .i64 29))], none⟩]
@[reducible] noncomputable def r24_4 : List RO := [
  ⟨(.loc 13), (.fld 1), [(.var 1)], none⟩,
  ⟨(.loc 14), (.ld false 1), [(.loc 13)], none⟩,
  ⟨(.loc 15), (.bin .sub), [(.loc 14), (.con (.int .i64 1))], none⟩,
  ⟨(.loc 16), (.ixaA 12 1), [(.var 3), (.loc 15)], none⟩,
  ⟨(.loc 17), (.ld false 1), [(.loc 16)], none⟩,
  ⟨(.var 2), .mv, [(.loc 17)], none⟩]
theorem P24 : C24.M = M := by unfold C24 E24; rfl
theorem pe24 {n m : Nat} : (E24 n m).M = M := by unfold E24; rfl
theorem i24 {a0 : D} : St.init C24 [a0] ⟨[], []⟩ = ⟨[a0, .undef, .undef, .undef, .undef], [], ⟨[], []⟩⟩ := by unfold C24 E24; rfl
theorem ie24 {n m : Nat} {hp : Hp} {a0 : D} : St.init (E24 n m) [a0] hp = ⟨[a0, .undef, .undef, .undef, .undef], [], hp⟩ := by unfold E24; rfl
noncomputable def c24 : RC := (.seq (.reg r24_0) (.seq (.reg r24_1) (.seq (.seq (.reg r24_2) (.cond (.var 4) (.seq (.reg r24_3) .ret) .skip)) (.seq (.reg r24_4) .ret))))
noncomputable def q24 : List RR := [(.slot (.var 2))]
theorem z24 {n m : Nat} : resCode (E24 n m) (Tryd.f24.body.getD .skip) = some c24 := by kernel_rfl
theorem zr24 {n m : Nat} : resRs (E24 n m) Tryd.f24.results.toList = some q24 := by kernel_rfl
theorem oe24 {args : List D} {hp : Hp} {R : D → Hp → Prop} (n m : Nat) (hl : args.length = 1) (hn : n = hp.H.length) (hm : m = hp.tk.length) (h : SWp (E24 n m) c24 (fun e s => (match e with | .exit _ => False | _ => True) ∧ ∃ s1, Weak (E24 n m) s s1 ∧ rrsWp q24 s1 fun ds => R (oneOrTup ds) s1.hp) (St.init (E24 n m) args hp)) : Eff M 24 args hp R :=
  eff_of_body (C := E24 n m) (fn := Tryd.f24) Tryd.func24 (by kernel_rfl) (by kernel_rfl) (rc := c24) z24 (rs := q24) zr24 (by kernel_rfl) (by rw [hl]; rfl) (by rw [hl]; exact (by decide : 1 ≤ 18)) hn hm h
theorem ow24 {args : List D} {d : D} (hl : args.length = 1) (h : SWp C24 c24 (fun e s => (match e with | .exit _ => False | _ => True) ∧ ∃ s1, Weak C24 s s1 ∧ rrsWp q24 s1 fun ds => D.closed (oneOrTup ds) = true ∧ (oneOrTup ds).er = d) (St.init C24 args ⟨[], []⟩)) : Pur M 24 args d :=
  pur_of_bodyW (C := C24) (fn := Tryd.f24) Tryd.func24 (by kernel_rfl) (by kernel_rfl) (rc := c24) z24 (rs := q24) zr24 (by kernel_rfl) (by rw [hl]; rfl) (by rw [hl]; decide) rfl rfl h
theorem ok24 {args : List D} {d : D} (hl : args.length = 1) (h : SWp C24 c24 (fun e s => (match e with | .exit _ => False | _ => True) ∧ rrsWp q24 s fun ds => D.closed (oneOrTup ds) = true ∧ (oneOrTup ds).er = d) (St.init C24 args ⟨[], []⟩)) : Pur M 24 args d :=
  pur_of_body (C := C24) (fn := Tryd.f24) Tryd.func24 (by kernel_rfl) (by kernel_rfl) (rc := c24) z24 (rs := q24) zr24 (by kernel_rfl) (by rw [hl]; rfl) (by rw [hl]; decide) rfl rfl h

/- 20 (bogie.day.date).valid · 1 arguments · kept slots [0, 1, 2] -/
noncomputable def E20 (n m : Nat) : Cfg := ⟨M, [0, 1, 2], 23, n, m⟩
noncomputable def C20 : Cfg := E20 0 0
@[reducible] noncomputable def r20_0 : List RO := [
  ⟨(.var 1), .box, [(.var 0)], none⟩,
  ⟨(.var 2), .mv, [(.con (.bool false))], none⟩]
@[reducible] noncomputable def r20_1 : List (RO × Bool) := [
  (⟨(.loc 3), (.fld 1), [(.var 1)], none⟩, true),
  (⟨(.loc 4), (.ld false 1), [(.loc 3)], none⟩, true),
  (⟨(.loc 5), (.bin .geq), [(.loc 4), (.con (.int .i64 1))], none⟩, true),
  (⟨(.loc 6), .mv, [(.loc 5)], none⟩, true),
  (⟨(.loc 7), (.fld 1), [(.var 1)], (some ((.loc 6), true))⟩, true),
  (⟨(.loc 8), (.ld false 1), [(.loc 7)], (some ((.loc 6), true))⟩, true),
  (⟨(.loc 9), (.bin .leq), [(.loc 8), (.con (.int .i64 12))], (some ((.loc 6), true))⟩, true),
  (⟨(.loc 10), .pick, [(.loc 6), (.loc 9), (.con (.bool false))], none⟩, true),
  (⟨(.loc 11), .mv, [(.loc 10)], none⟩, true),
  (⟨(.loc 12), (.fld 2), [(.var 1)], (some ((.loc 11), true))⟩, true),
  (⟨(.loc 13), (.ld false 1), [(.loc 12)], (some ((.loc 11), true))⟩, true),
  (⟨(.loc 14), (.bin .geq), [(.loc 13), (.con (.int .i64 1))], (some ((.loc 11), true))⟩, true),
  (⟨(.loc 15), .pick, [(.loc 11), (.loc 14), (.con (.bool false))], none⟩, true),
  (⟨(.loc 16), .mv, [(.loc 15)], none⟩, true),
  (⟨(.loc 17), (.fld 2), [(.var 1)], (some ((.loc 16), true))⟩, true),
  (⟨(.loc 18), (.ld false 1), [(.loc 17)], (some ((.loc 16), true))⟩, true),
  (⟨(.loc 19), (.ld true 3), [(.var 1)], (some ((.loc 16), true))⟩, true),
  (⟨(.loc 20), .call, [(.con (.fn (.func 24) [] [])), (.loc 19)], (some ((.loc 16), true))⟩, true)]
@[reducible] noncomputable def r20_2 : List RO := [
  ⟨(.loc 21), (.bin .leq), [(.loc 18), (.loc 20)], (some ((.loc 16), true))⟩,
  ⟨(.loc 22), .pick, [(.loc 16), (.loc 21), (.con (.bool false))], none⟩,
  ⟨(.var 2), .mv, [(.loc 22)], none⟩]
theorem P20 : C20.M = M := by unfold C20 E20; rfl
theorem pe20 {n m : Nat} : (E20 n m).M = M := by unfold E20; rfl
theorem i20 {a0 : D} : St.init C20 [a0] ⟨[], []⟩ = ⟨[a0, .undef, .undef], [], ⟨[], []⟩⟩ := by unfold C20 E20; rfl
theorem ie20 {n m : Nat} {hp : Hp} {a0 : D} : St.init (E20 n m) [a0] hp = ⟨[a0, .undef, .undef], [], hp⟩ := by unfold E20; rfl
noncomputable def c20 : RC := (.seq (.reg r20_0) (.seq (.regD r20_1 r20_2) .ret))
noncomputable def q20 : List RR := [(.slot (.var 2))]
theorem z20 {n m : Nat} : resCode (E20 n m) (Tryd.f20.body.getD .skip) = some c20 := by kernel_rfl
theorem zr20 {n m : Nat} : resRs (E20 n m) Tryd.f20.results.toList = some q20 := by kernel_rfl
theorem oe20 {args : List D} {hp : Hp} {R : D → Hp → Prop} (n m : Nat) (hl : args.length = 1) (hn : n = hp.H.length) (hm : m = hp.tk.length) (h : SWp (E20 n m) c20 (fun e s => (match e with | .exit _ => False | _ => True) ∧ ∃ s1, Weak (E20 n m) s s1 ∧ rrsWp q20 s1 fun ds => R (oneOrTup ds) s1.hp) (St.init (E20 n m) args hp)) : Eff M 20 args hp R :=
  eff_of_body (C := E20 n m) (fn := Tryd.f20) Tryd.func20 (by kernel_rfl) (by kernel_rfl) (rc := c20) z20 (rs := q20) zr20 (by kernel_rfl) (by rw [hl]; rfl) (by rw [hl]; exact (by decide : 1 ≤ 23)) hn hm h
theorem ow20 {args : List D} {d : D} (hl : args.length = 1) (h : SWp C20 c20 (fun e s => (match e with | .exit _ => False | _ => True) ∧ ∃ s1, Weak C20 s s1 ∧ rrsWp q20 s1 fun ds => D.closed (oneOrTup ds) = true ∧ (oneOrTup ds).er = d) (St.init C20 args ⟨[], []⟩)) : Pur M 20 args d :=
  pur_of_bodyW (C := C20) (fn := Tryd.f20) Tryd.func20 (by kernel_rfl) (by kernel_rfl) (rc := c20) z20 (rs := q20) zr20 (by kernel_rfl) (by rw [hl]; rfl) (by rw [hl]; decide) rfl rfl h
theorem ok20 {args : List D} {d : D} (hl : args.length = 1) (h : SWp C20 c20 (fun e s => (match e with | .exit _ => False | _ => True) ∧ rrsWp q20 s fun ds => D.closed (oneOrTup ds) = true ∧ (oneOrTup ds).er = d) (St.init C20 args ⟨[], []⟩)) : Pur M 20 args d :=
  pur_of_body (C := C20) (fn := Tryd.f20) Tryd.func20 (by kernel_rfl) (by kernel_rfl) (rc := c20) z20 (rs := q20) zr20 (by kernel_rfl) (by rw [hl]; rfl) (by rw [hl]; decide) rfl rfl h

/- 22 (bogie.day.date).number · 1 arguments · kept slots [0, 1, 2, 3, 4, 5, 20] -/
noncomputable def E22 (n m : Nat) : Cfg := ⟨M, [0, 1, 2, 3, 4, 5, 20], 31, n, m⟩
noncomputable def C22 : Cfg := E22 0 0
@[reducible] noncomputable def r22_0 : List RO := [
  ⟨(.var 1), .box, [(.var 0)], none⟩,
  ⟨(.var 2), .mv, [(.con (.int .i64 0))], none⟩]
@[reducible] noncomputable def r22_1 : List RO := [
  ⟨(.var 3), .mv, [(.con (.fn (.func 33) [] []))], none⟩]
@[reducible] noncomputable def r22_2 : List (RO × Bool) := [
  (⟨(.loc 6), .mv, [(.var 3)], none⟩, true),
  (⟨(.loc 7), (.fld 0), [(.var 1)], none⟩, true),
  (⟨(.loc 8), (.ld false 1), [(.loc 7)], none⟩, true),
  (⟨(.loc 9), .call, [(.loc 6), (.loc 8)], none⟩, true),
  (⟨(.loc 10), .mv, [(.var 3)], none⟩, true),
  (⟨(.loc 11), .call, [(.loc 10), (.con (.int .i64 2000))], none⟩, true),
  (⟨(.loc 12), (.bin .sub), [(.loc 9), (.loc 11)], none⟩, true),
  (⟨(.loc 13), (.fld 2), [(.var 1)], none⟩, true),
  (⟨(.loc 14), (.ld false 1), [(.loc 13)], none⟩, true)]
@[reducible] noncomputable def r22_3 : List RO := [
  ⟨(.loc 15), (.bin .add), [(.loc 12), (.loc 14)], none⟩,
  ⟨(.loc 16), (.bin .sub), [(.loc 15), (.con (.int .i64 1))], none⟩,
  ⟨(.var 4), .mv, [(.loc 16)], none⟩]
@[reducible] noncomputable def r22_4 : List RO := [
  ⟨(.var 5), .mv, [(.con (.int .i64 1))], none⟩]
@[reducible] noncomputable def r22_5 : List RO := [
  ⟨(.loc 17), .mv, [(.var 5)], none⟩,
  ⟨(.loc 18), (.fld 1), [(.var 1)], none⟩,
  ⟨(.loc 19), (.ld false 1), [(.loc 18)], none⟩,
  ⟨(.var 6), (.bin .lss), [(.loc 17), (.loc 19)], none⟩]
@[reducible] noncomputable def r22_6 : List RO := [
  ⟨(.loc 23), .mv, [(.var 4)], none⟩,
  ⟨(.loc 24), (.fld 0), [(.var 1)], none⟩,
  ⟨(.loc 25), (.ld false 1), [(.loc 24)], none⟩,
  ⟨(.loc 26), .mv, [(.var 5)], none⟩,
  ⟨(.loc 27), (.bld [(.int .i64 0), (.int .i64 0), (.int .i64 0)] [(0, 1), (1, 1), (2, 1)]), [(.loc 25), (.loc 26), (.con (.int .i64 1))], none⟩,
  ⟨(.loc 28), .call, [(.con (.fn (.func 24) [] [])), (.loc 27)], none⟩,
  ⟨(.loc 29), (.bin .add), [(.loc 23), (.loc 28)], none⟩,
  ⟨(.var 4), .mv, [(.loc 29)], none⟩]
@[reducible] noncomputable def r22_7 : List RO := [
  ⟨(.loc 21), .mv, [(.var 5)], none⟩,
  ⟨(.loc 22), (.bin .add), [(.loc 21), (.con (.int .i64 1))], none⟩,
  ⟨(.var 5), .mv, [(.loc 22)], none⟩]
@[reducible] noncomputable def r22_8 : List RO := [
  ⟨(.loc 30), .mv, [(.var 4)], none⟩,
  ⟨(.var 2), .mv, [(.loc 30)], none⟩]
theorem P22 : C22.M = M := by unfold C22 E22; rfl
theorem pe22 {n m : Nat} : (E22 n m).M = M := by unfold E22; rfl
theorem i22 {a0 : D} : St.init C22 [a0] ⟨[], []⟩ = ⟨[a0, .undef, .undef, .undef, .undef, .undef, .undef], [], ⟨[], []⟩⟩ := by unfold C22 E22; rfl
theorem ie22 {n m : Nat} {hp : Hp} {a0 : D} : St.init (E22 n m) [a0] hp = ⟨[a0, .undef, .undef, .undef, .undef, .undef, .undef], [], hp⟩ := by unfold E22; rfl
noncomputable def c22 : RC := (.seq (.reg r22_0) (.seq (.reg r22_1) (.seq (.regD r22_2 r22_3) (.seq (.seq (.reg r22_4) (.block 0 (.loop (.seq (.seq (.reg r22_5) (.cond (.var 6) .skip (.exit 0))) (.seq (.block 1 (.reg r22_6)) (.reg r22_7)))))) (.seq (.reg r22_8) .ret)))))
noncomputable def q22 : List RR := [(.slot (.var 2))]
theorem z22 {n m : Nat} : resCode (E22 n m) (Tryd.f22.body.getD .skip) = some c22 := by kernel_rfl
theorem zr22 {n m : Nat} : resRs (E22 n m) Tryd.f22.results.toList = some q22 := by kernel_rfl
theorem oe22 {args : List D} {hp : Hp} {R : D → Hp → Prop} (n m : Nat) (hl : args.length = 1) (hn : n = hp.H.length) (hm : m = hp.tk.length) (h : SWp (E22 n m) c22 (fun e s => (match e with | .exit _ => False | _ => True) ∧ ∃ s1, Weak (E22 n m) s s1 ∧ rrsWp q22 s1 fun ds => R (oneOrTup ds) s1.hp) (St.init (E22 n m) args hp)) : Eff M 22 args hp R :=
  eff_of_body (C := E22 n m) (fn := Tryd.f22) Tryd.func22 (by kernel_rfl) (by kernel_rfl) (rc := c22) z22 (rs := q22) zr22 (by kernel_rfl) (by rw [hl]; rfl) (by rw [hl]; exact (by decide : 1 ≤ 31)) hn hm h
theorem ow22 {args : List D} {d : D} (hl : args.length = 1) (h : SWp C22 c22 (fun e s => (match e with | .exit _ => False | _ => True) ∧ ∃ s1, Weak C22 s s1 ∧ rrsWp q22 s1 fun ds => D.closed (oneOrTup ds) = true ∧ (oneOrTup ds).er = d) (St.init C22 args ⟨[], []⟩)) : Pur M 22 args d :=
  pur_of_bodyW (C := C22) (fn := Tryd.f22) Tryd.func22 (by kernel_rfl) (by kernel_rfl) (rc := c22) z22 (rs := q22) zr22 (by kernel_rfl) (by rw [hl]; rfl) (by rw [hl]; decide) rfl rfl h
theorem ok22 {args : List D} {d : D} (hl : args.length = 1) (h : SWp C22 c22 (fun e s => (match e with | .exit _ => False | _ => True) ∧ rrsWp q22 s fun ds => D.closed (oneOrTup ds) = true ∧ (oneOrTup ds).er = d) (St.init C22 args ⟨[], []⟩)) : Pur M 22 args d :=
  pur_of_body (C := C22) (fn := Tryd.f22) Tryd.func22 (by kernel_rfl) (by kernel_rfl) (rc := c22) z22 (rs := q22) zr22 (by kernel_rfl) (by rw [hl]; rfl) (by rw [hl]; decide) rfl rfl h

/- 33 (bogie.day.date).number$1 · 1 arguments · kept slots [0, 2, 3] -/
noncomputable def E33 (n m : Nat) : Cfg := ⟨M, [0, 2, 3], 17, n, m⟩
noncomputable def C33 : Cfg := E33 0 0
@[reducible] noncomputable def r33_0 : List RO := [
  ⟨(.var 1), .mv, [(.con (.int .i64 0))], none⟩]
@[reducible] noncomputable def r33_1 : List RO := [
  ⟨(.loc 4), .mv, [(.var 0)], none⟩,
  ⟨(.loc 5), (.bin .sub), [(.loc 4), (.con (.int .i64 1))], none⟩,
  ⟨(.var 2), .mv, [(.loc 5)], none⟩]
@[reducible] noncomputable def r33_2 : List RO := [
  ⟨(.loc 6), .mv, [(.var 2)], none⟩,
  ⟨(.loc 7), (.bin .mul), [(.con (.int .i64 365)), (.loc 6)], none⟩,
  ⟨(.loc 8), .mv, [(.var 2)], none⟩,
  ⟨(.loc 9), (.bin .quo), [(.loc 8), (.con (.int .i64 4))], none⟩,
  ⟨(.loc 10), (.bin .add), [(.loc 7), (.loc 9)], none⟩,
  ⟨(.loc 11), .mv, [(.var 2)], none⟩,
  ⟨(.loc 12), (.bin .quo), [(.loc 11), (.con (.int .i64 100))], none⟩,
  ⟨(.loc 13), (.bin .sub), [(.loc 10), (.loc 12)], none⟩,
  ⟨(.loc 14), .mv, [(.var 2)], none⟩,
  ⟨(.loc 15), (.bin .quo), [(.loc 14), (.con (.int .i64 400))], none⟩,
  ⟨(.loc 16), (.bin .add), [(.loc 13), (.loc 15)], none⟩,
  ⟨(.var 1), .mv, [(.loc 16)], none⟩]
theorem P33 : C33.M = M := by unfold C33 E33; rfl
theorem pe33 {n m : Nat} : (E33 n m).M = M := by unfold E33; rfl
theorem i33 {a0 : D} : St.init C33 [a0] ⟨[], []⟩ = ⟨[a0, .undef, .undef], [], ⟨[], []⟩⟩ := by unfold C33 E33; rfl
theorem ie33 {n m : Nat} {hp : Hp} {a0 : D} : St.init (E33 n m) [a0] hp = ⟨[a0, .undef, .undef], [], hp⟩ := by unfold E33; rfl
noncomputable def c33 : RC := (.seq (.reg r33_0) (.seq (.reg r33_1) (.seq (.reg r33_2) .ret)))
noncomputable def q33 : List RR := [(.slot (.var 1))]
theorem z33 {n m : Nat} : resCode (E33 n m) (Tryd.f33.body.getD .skip) = some c33 := by kernel_rfl
theorem zr33 {n m : Nat} : resRs (E33 n m) Tryd.f33.results.toList = some q33 := by kernel_rfl
theorem oe33 {args : List D} {hp : Hp} {R : D → Hp → Prop} (n m : Nat) (hl : args.length = 1) (hn : n = hp.H.length) (hm : m = hp.tk.length) (h : SWp (E33 n m) c33 (fun e s => (match e with | .exit _ => False | _ => True) ∧ ∃ s1, Weak (E33 n m) s s1 ∧ rrsWp q33 s1 fun ds => R (oneOrTup ds) s1.hp) (St.init (E33 n m) args hp)) : Eff M 33 args hp R :=
  eff_of_body (C := E33 n m) (fn := Tryd.f33) Tryd.func33 (by kernel_rfl) (by kernel_rfl) (rc := c33) z33 (rs := q33) zr33 (by kernel_rfl) (by rw [hl]; rfl) (by rw [hl]; exact (by decide : 1 ≤ 17)) hn hm h
theorem ow33 {args : List D} {d : D} (hl : args.length = 1) (h : SWp C33 c33 (fun e s => (match e with | .exit _ => False | _ => True) ∧ ∃ s1, Weak C33 s s1 ∧ rrsWp q33 s1 fun ds => D.closed (oneOrTup ds) = true ∧ (oneOrTup ds).er = d) (St.init C33 args ⟨[], []⟩)) : Pur M 33 args d :=
  pur_of_bodyW (C := C33) (fn := Tryd.f33) Tryd.func33 (by kernel_rfl) (by kernel_rfl) (rc := c33) z33 (rs := q33) zr33 (by kernel_rfl) (by rw [hl]; rfl) (by rw [hl]; decide) rfl rfl h
theorem ok33 {args : List D} {d : D} (hl : args.length = 1) (h : SWp C33 c33 (fun e s => (match e with | .exit _ => False | _ => True) ∧ rrsWp q33 s fun ds => D.closed (oneOrTup ds) = true ∧ (oneOrTup ds).er = d) (St.init C33 args ⟨[], []⟩)) : Pur M 33 args d :=
  pur_of_body (C := C33) (fn := Tryd.f33) Tryd.func33 (by kernel_rfl) (by kernel_rfl) (rc := c33) z33 (rs := q33) zr33 (by kernel_rfl) (by rw [hl]; rfl) (by rw [hl]; decide) rfl rfl h

/- 21 (bogie.day.date).in · 1 arguments · kept slots [0, 1, 2] -/
noncomputable def E21 (n m : Nat) : Cfg := ⟨M, [0, 1, 2], 16, n, m⟩
noncomputable def C21 : Cfg := E21 0 0
@[reducible] noncomputable def r21_0 : List RO := [
  ⟨(.var 1), .box, [(.var 0)], none⟩,
  ⟨(.var 2), .mv, [(.con (.bool false))], none⟩]
@[reducible] noncomputable def r21_1 : List RO := [
  ⟨(.loc 3), (.fld 0), [(.var 1)], none⟩,
  ⟨(.loc 4), (.ld false 1), [(.loc 3)], none⟩,
  ⟨(.loc 5), (.bin .geq), [(.loc 4), (.con (.int .i64 2000))], none⟩,
  ⟨(.loc 6), .mv, [(.loc 5)], none⟩,
  ⟨(.loc 7), (.fld 0), [(.var 1)], (some ((.loc 6), true))⟩,
  ⟨(.loc 8), (.ld false 1), [(.loc 7)], (some ((.loc 6), true))⟩,
  ⟨(.loc 9), (.bin .leq), [(.loc 8), (.con (.int .i64 2109))], (some ((.loc 6), true))⟩,
  ⟨(.loc 10), .pick, [(.loc 6), (.loc 9), (.con (.bool false))], none⟩,
  ⟨(.loc 11), .mv, [(.loc 10)], none⟩,
  ⟨(.loc 12), (.ld true 3), [(.var 1)], (some ((.loc 11), true))⟩,
  ⟨(.loc 13), .call, [(.con (.fn (.func 22) [] [])), (.loc 12)], (some ((.loc 11), true))⟩,
  ⟨(.loc 14), (.bin .leq), [(.loc 13), (.con (.int .i64 40000))], (some ((.loc 11), true))⟩,
  ⟨(.loc 15), .pick, [(.loc 11), (.loc 14), (.con (.bool false))], none⟩,
  ⟨(.var 2), .mv, [(.loc 15)], none⟩]
theorem P21 : C21.M = M := by unfold C21 E21; rfl
theorem pe21 {n m : Nat} : (E21 n m).M = M := by unfold E21; rfl
theorem i21 {a0 : D} : St.init C21 [a0] ⟨[], []⟩ = ⟨[a0, .undef, .undef], [], ⟨[], []⟩⟩ := by unfold C21 E21; rfl
theorem ie21 {n m : Nat} {hp : Hp} {a0 : D} : St.init (E21 n m) [a0] hp = ⟨[a0, .undef, .undef], [], hp⟩ := by unfold E21; rfl
noncomputable def c21 : RC := (.seq (.reg r21_0) (.seq (.reg r21_1) .ret))
noncomputable def q21 : List RR := [(.slot (.var 2))]
theorem z21 {n m : Nat} : resCode (E21 n m) (Tryd.f21.body.getD .skip) = some c21 := by kernel_rfl
theorem zr21 {n m : Nat} : resRs (E21 n m) Tryd.f21.results.toList = some q21 := by kernel_rfl
theorem oe21 {args : List D} {hp : Hp} {R : D → Hp → Prop} (n m : Nat) (hl : args.length = 1) (hn : n = hp.H.length) (hm : m = hp.tk.length) (h : SWp (E21 n m) c21 (fun e s => (match e with | .exit _ => False | _ => True) ∧ ∃ s1, Weak (E21 n m) s s1 ∧ rrsWp q21 s1 fun ds => R (oneOrTup ds) s1.hp) (St.init (E21 n m) args hp)) : Eff M 21 args hp R :=
  eff_of_body (C := E21 n m) (fn := Tryd.f21) Tryd.func21 (by kernel_rfl) (by kernel_rfl) (rc := c21) z21 (rs := q21) zr21 (by kernel_rfl) (by rw [hl]; rfl) (by rw [hl]; exact (by decide : 1 ≤ 16)) hn hm h
theorem ow21 {args : List D} {d : D} (hl : args.length = 1) (h : SWp C21 c21 (fun e s => (match e with | .exit _ => False | _ => True) ∧ ∃ s1, Weak C21 s s1 ∧ rrsWp q21 s1 fun ds => D.closed (oneOrTup ds) = true ∧ (oneOrTup ds).er = d) (St.init C21 args ⟨[], []⟩)) : Pur M 21 args d :=
  pur_of_bodyW (C := C21) (fn := Tryd.f21) Tryd.func21 (by kernel_rfl) (by kernel_rfl) (rc := c21) z21 (rs := q21) zr21 (by kernel_rfl) (by rw [hl]; rfl) (by rw [hl]; decide) rfl rfl h
theorem ok21 {args : List D} {d : D} (hl : args.length = 1) (h : SWp C21 c21 (fun e s => (match e with | .exit _ => False | _ => True) ∧ rrsWp q21 s fun ds => D.closed (oneOrTup ds) = true ∧ (oneOrTup ds).er = d) (St.init C21 args ⟨[], []⟩)) : Pur M 21 args d :=
  pur_of_body (C := C21) (fn := Tryd.f21) Tryd.func21 (by kernel_rfl) (by kernel_rfl) (rc := c21) z21 (rs := q21) zr21 (by kernel_rfl) (by rw [hl]; rfl) (by rw [hl]; decide) rfl rfl h

/- 23 bogie.day.dateOf · 1 arguments · kept slots [0, 2, 3, 4, 10, 22, 34] -/
noncomputable def E23 (n m : Nat) : Cfg := ⟨M, [0, 2, 3, 4, 10, 22, 34], 49, n, m⟩
noncomputable def C23 : Cfg := E23 0 0
@[reducible] noncomputable def r23_0 : List RO := [
  ⟨(.var 1), (.newb [(.int .i64 0), (.int .i64 0), (.int .i64 0)]), [], none⟩,
  ⟨(.var 2), .mv, [(.con (.int .i64 0))], none⟩]
@[reducible] noncomputable def r23_1 : List RO := [
  ⟨(.loc 5), .mv, [(.var 0)], none⟩,
  ⟨(.loc 6), (.bin .lss), [(.loc 5), (.con (.int .i64 0))], none⟩,
  ⟨(.loc 7), .mv, [(.loc 6)], none⟩,
  ⟨(.loc 8), .mv, [(.var 0)], (some ((.loc 7), false))⟩,
  ⟨(.loc 9), (.bin .gtr), [(.loc 8), (.con (.int .i64 40000))], (some ((.loc 7), false))⟩,
  ⟨(.var 4), .pick, [(.loc 7), (.con (.bool true)), (.loc 9)], none⟩]
@[reducible] noncomputable def r23_2 : List RO := [
  ⟨(.loc 11), (.bld [(.int .i64 0), (.int .i64 0), (.int .i64 0)] []), [], none⟩,
  ⟨.none, (.st 3), [(.var 1), (.loc 11)], none⟩,
  ⟨(.var 2), .mv, [(.con (.int .i64 13))], none⟩]
@[reducible] noncomputable def r23_3 : List RO := [
  ⟨(.loc 12), .mv, [(.var 0)], none⟩,
  ⟨(.loc 13), (.bin .quo), [(.loc 12), (.con (.int .i64 366))], none⟩,
  ⟨(.loc 14), (.bin .add), [(.con (.int .i64 2000)), (.loc 13)], none⟩,
  ⟨(.loc 15), (.bld [(.int .i64 0), (.int .i64 0), (.int .i64 0)] [(0, 1), (1, 1), (2, 1)]), [(.loc 14), (.con (.int .i64 1)), (.con (.int .i64 1))], none⟩,
  ⟨(.var 3), (.newb [(.int .i64 0), (.int .i64 0), (.int .i64 0)]), [], none⟩,
  ⟨.none, (.st 3), [(.var 3), (.loc 15)], none⟩]
@[reducible] noncomputable def r23_4 : List RO := [
  ⟨(.loc 16), (.fld 0), [(.var 3)], none⟩,
  ⟨(.loc 17), (.ld false 1), [(.loc 16)], none⟩,
  ⟨(.loc 18), (.bin .add), [(.loc 17), (.con (.int .i64 1))], none⟩,
  ⟨(.loc 19), (.bld [(.int .i64 0), (.int .i64 0), (.int .i64 0)] [(0, 1), (1, 1), (2, 1)]), [(.loc 18), (.con (.int .i64 1)), (.con (.int .i64 1))], none⟩,
  ⟨(.loc 20), .call, [(.con (.fn (.func 22) [] [])), (.loc 19)], none⟩,
  ⟨(.loc 21), .mv, [(.var 0)], none⟩,
  ⟨(.var 5), (.bin .leq), [(.loc 20), (.loc 21)], none⟩]
@[reducible] noncomputable def r23_5 : List RO := [
  ⟨(.loc 23), (.fld 0), [(.var 3)], none⟩,
  ⟨(.loc 24), (.ld false 1), [(.loc 23)], none⟩,
  ⟨(.loc 25), (.bin .add), [(.loc 24), (.con (.int .i64 1))], none⟩,
  ⟨(.loc 26), (.fld 0), [(.var 3)], none⟩,
  ⟨.none, (.st 1), [(.loc 26), (.loc 25)], none⟩]
@[reducible] noncomputable def r23_6 : List RO := [
  ⟨(.loc 27), .mv, [(.var 0)], none⟩,
  ⟨(.loc 28), (.ld true 3), [(.var 3)], none⟩,
  ⟨(.loc 29), .call, [(.con (.fn (.func 22) [] [])), (.loc 28)], none⟩,
  ⟨(.loc 30), (.bin .sub), [(.loc 27), (.loc 29)], none⟩,
  ⟨(.var 0), .mv, [(.loc 30)], none⟩]
@[reducible] noncomputable def r23_7 : List RO := [
  ⟨(.loc 31), .mv, [(.var 0)], none⟩,
  ⟨(.loc 32), (.ld true 3), [(.var 3)], none⟩,
  ⟨(.loc 33), .call, [(.con (.fn (.func 24) [] [])), (.loc 32)], none⟩,
  ⟨(.var 6), (.bin .geq), [(.loc 31), (.loc 33)], none⟩]
@[reducible] noncomputable def r23_8 : List RO := [
  ⟨(.loc 39), .mv, [(.var 0)], none⟩,
  ⟨(.loc 40), (.ld true 3), [(.var 3)], none⟩,
  ⟨(.loc 41), .call, [(.con (.fn (.func 24) [] [])), (.loc 40)], none⟩,
  ⟨(.loc 42), (.bin .sub), [(.loc 39), (.loc 41)], none⟩,
  ⟨(.var 0), .mv, [(.loc 42)], none⟩]
@[reducible] noncomputable def r23_9 : List RO := [
  ⟨(.loc 35), (.fld 1), [(.var 3)], none⟩,
  ⟨(.loc 36), (.ld false 1), [(.loc 35)], none⟩,
  ⟨(.loc 37), (.bin .add), [(.loc 36), (.con (.int .i64 1))], none⟩,
  ⟨(.loc 38), (.fld 1), [(.var 3)], none⟩,
  ⟨.none, (.st 1), [(.loc 38), (.loc 37)], none⟩]
@[reducible] noncomputable def r23_10 : List RO := [
  ⟨(.loc 43), (.fld 2), [(.var 3)], none⟩,
  ⟨(.loc 44), (.ld false 1), [(.loc 43)], none⟩,
  ⟨(.loc 45), .mv, [(.var 0)], none⟩,
  ⟨(.loc 46), (.bin .add), [(.loc 44), (.loc 45)], none⟩,
  ⟨(.loc 47), (.fld 2), [(.var 3)], none⟩,
  ⟨.none, (.st 1), [(.loc 47), (.loc 46)], none⟩]
@[reducible] noncomputable def r23_11 : List RO := [
  ⟨(.loc 48), (.ld true 3), [(.var 3)], none⟩,
  ⟨.none, (.st 3), [(.var 1), (.loc 48)], none⟩,
  ⟨(.var 2), .mv, [(.con (.int .i64 0))], none⟩]
theorem P23 : C23.M = M := by unfold C23 E23; rfl
theorem pe23 {n m : Nat} : (E23 n m).M = M := by unfold E23; rfl
theorem i23 {a0 : D} : St.init C23 [a0] ⟨[], []⟩ = ⟨[a0, .undef, .undef, .undef, .undef, .undef, .undef], [], ⟨[], []⟩⟩ := by unfold C23 E23; rfl
theorem ie23 {n m : Nat} {hp : Hp} {a0 : D} : St.init (E23 n m) [a0] hp = ⟨[a0, .undef, .undef, .undef, .undef, .undef, .undef], [], hp⟩ := by unfold E23; rfl
noncomputable def c23 : RC := (.seq (.reg r23_0) (.seq (.seq (.reg r23_1) (.cond (.var 4) (.seq (.reg r23_2) .ret) .skip)) (.seq (.reg r23_3) (.seq (.block 0 (.loop (.seq (.seq (.reg r23_4) (.cond (.var 5) .skip (.exit 0))) (.block 1 (.reg r23_5))))) (.seq (.reg r23_6) (.seq (.block 2 (.loop (.seq (.seq (.reg r23_7) (.cond (.var 6) .skip (.exit 2))) (.seq (.block 3 (.reg r23_8)) (.reg r23_9))))) (.seq (.reg r23_10) (.seq (.reg r23_11) .ret))))))))
noncomputable def q23 : List RR := [(.cell (.var 1) true 3), (.slot (.var 2))]
theorem z23 {n m : Nat} : resCode (E23 n m) (Tryd.f23.body.getD .skip) = some c23 := by kernel_rfl
theorem zr23 {n m : Nat} : resRs (E23 n m) Tryd.f23.results.toList = some q23 := by kernel_rfl
theorem oe23 {args : List D} {hp : Hp} {R : D → Hp → Prop} (n m : Nat) (hl : args.length = 1) (hn : n = hp.H.length) (hm : m = hp.tk.length) (h : SWp (E23 n m) c23 (fun e s => (match e with | .exit _ => False | _ => True) ∧ ∃ s1, Weak (E23 n m) s s1 ∧ rrsWp q23 s1 fun ds => R (oneOrTup ds) s1.hp) (St.init (E23 n m) args hp)) : Eff M 23 args hp R :=
  eff_of_body (C := E23 n m) (fn := Tryd.f23) Tryd.func23 (by kernel_rfl) (by kernel_rfl) (rc := c23) z23 (rs := q23) zr23 (by kernel_rfl) (by rw [hl]; rfl) (by rw [hl]; exact (by decide : 1 ≤ 49)) hn hm h
theorem ow23 {args : List D} {d : D} (hl : args.length = 1) (h : SWp C23 c23 (fun e s => (match e with | .exit _ => False | _ => True) ∧ ∃ s1, Weak C23 s s1 ∧ rrsWp q23 s1 fun ds => D.closed (oneOrTup ds) = true ∧ (oneOrTup ds).er = d) (St.init C23 args ⟨[], []⟩)) : Pur M 23 args d :=
  pur_of_bodyW (C := C23) (fn := Tryd.f23) Tryd.func23 (by kernel_rfl) (by kernel_rfl) (rc := c23) z23 (rs := q23) zr23 (by kernel_rfl) (by rw [hl]; rfl) (by rw [hl]; decide) rfl rfl h
theorem ok23 {args : List D} {d : D} (hl : args.length = 1) (h : SWp C23 c23 (fun e s => (match e with | .exit _ => False | _ => True) ∧ rrsWp q23 s fun ds => D.closed (oneOrTup ds) = true ∧ (oneOrTup ds).er = d) (St.init C23 args ⟨[], []⟩)) : Pur M 23 args d :=
  pur_of_body (C := C23) (fn := Tryd.f23) Tryd.func23 (by kernel_rfl) (by kernel_rfl) (rc := c23) z23 (rs := q23) zr23 (by kernel_rfl) (by rw [hl]; rfl) (by rw [hl]; decide) rfl rfl h

/- 19 bogie.day.Date · 1 arguments · kept slots [0, 2, 3, 4, 5, 6, 7] -/
noncomputable def E19 (n m : Nat) : Cfg := ⟨M, [0, 2, 3, 4, 5, 6, 7], 20, n, m⟩
noncomputable def C19 : Cfg := E19 0 0
@[reducible] noncomputable def r19_0 : List RO := [
  ⟨(.var 1), .mv, [(.con (.int .i64 0))], none⟩,
  ⟨(.var 2), .mv, [(.con (.int .i64 0))], none⟩,
  ⟨(.var 3), .mv, [(.con (.int .i64 0))], none⟩,
  ⟨(.var 4), .mv, [(.con (.int .i64 0))], none⟩]
@[reducible] noncomputable def r19_1 : List RO := [
  ⟨(.loc 9), .mv, [(.var 0)], none⟩,
  ⟨(.loc 10), .call, [(.con (.fn (.func 23) [] [])), (.loc 9)], none⟩,
  ⟨(.loc 8), .mv, [(.loc 10)], none⟩,
  ⟨(.loc 11), (.ext 0), [(.loc 8)], none⟩,
  ⟨(.loc 12), (.ext 1), [(.loc 8)], none⟩,
  ⟨(.var 5), (.newb [(.int .i64 0), (.int .i64 0), (.int .i64 0)]), [], none⟩,
  ⟨.none, (.st 3), [(.var 5), (.loc 11)], none⟩,
  ⟨(.var 6), .mv, [(.loc 12)], none⟩]
@[reducible] noncomputable def r19_2 : List (RO × Bool) := [
  (⟨(.loc 13), (.fld 0), [(.var 5)], none⟩, true),
  (⟨(.loc 14), (.ld false 1), [(.loc 13)], none⟩, true),
  (⟨(.loc 15), (.fld 1), [(.var 5)], none⟩, true),
  (⟨(.loc 16), (.ld false 1), [(.loc 15)], none⟩, true),
  (⟨(.loc 17), (.fld 2), [(.var 5)], none⟩, true),
  (⟨(.loc 18), (.ld false 1), [(.loc 17)], none⟩, true),
  (⟨(.loc 19), .mv, [(.var 6)], none⟩, true),
  (⟨(.var 1), .mv, [(.loc 14)], none⟩, true),
  (⟨(.var 2), .mv, [(.loc 16)], none⟩, true),
  (⟨(.var 3), .mv, [(.loc 18)], none⟩, true)]
@[reducible] noncomputable def r19_3 : List RO := [
  ⟨(.var 4), .mv, [(.loc 19)], none⟩]
theorem P19 : C19.M = M := by unfold C19 E19; rfl
theorem pe19 {n m : Nat} : (E19 n m).M = M := by unfold E19; rfl
theorem i19 {a0 : D} : St.init C19 [a0] ⟨[], []⟩ = ⟨[a0, .undef, .undef, .undef, .undef, .undef, .undef], [], ⟨[], []⟩⟩ := by unfold C19 E19; rfl
theorem ie19 {n m : Nat} {hp : Hp} {a0 : D} : St.init (E19 n m) [a0] hp = ⟨[a0, .undef, .undef, .undef, .undef, .undef, .undef], [], hp⟩ := by unfold E19; rfl
noncomputable def c19 : RC := (.seq (.reg r19_0) (.seq (.reg r19_1) (.seq (.regD r19_2 r19_3) .ret)))
noncomputable def q19 : List RR := [(.slot (.var 1)), (.slot (.var 2)), (.slot (.var 3)), (.slot (.var 4))]
theorem z19 {n m : Nat} : resCode (E19 n m) (Tryd.f19.body.getD .skip) = some c19 := by kernel_rfl
theorem zr19 {n m : Nat} : resRs (E19 n m) Tryd.f19.results.toList = some q19 := by kernel_rfl
theorem oe19 {args : List D} {hp : Hp} {R : D → Hp → Prop} (n m : Nat) (hl : args.length = 1) (hn : n = hp.H.length) (hm : m = hp.tk.length) (h : SWp (E19 n m) c19 (fun e s => (match e with | .exit _ => False | _ => True) ∧ ∃ s1, Weak (E19 n m) s s1 ∧ rrsWp q19 s1 fun ds => R (oneOrTup ds) s1.hp) (St.init (E19 n m) args hp)) : Eff M 19 args hp R :=
  eff_of_body (C := E19 n m) (fn := Tryd.f19) Tryd.func19 (by kernel_rfl) (by kernel_rfl) (rc := c19) z19 (rs := q19) zr19 (by kernel_rfl) (by rw [hl]; rfl) (by rw [hl]; exact (by decide : 1 ≤ 20)) hn hm h
theorem ow19 {args : List D} {d : D} (hl : args.length = 1) (h : SWp C19 c19 (fun e s => (match e with | .exit _ => False | _ => True) ∧ ∃ s1, Weak C19 s s1 ∧ rrsWp q19 s1 fun ds => D.closed (oneOrTup ds) = true ∧ (oneOrTup ds).er = d) (St.init C19 args ⟨[], []⟩)) : Pur M 19 args d :=
  pur_of_bodyW (C := C19) (fn := Tryd.f19) Tryd.func19 (by kernel_rfl) (by kernel_rfl) (rc := c19) z19 (rs := q19) zr19 (by kernel_rfl) (by rw [hl]; rfl) (by rw [hl]; decide) rfl rfl h
theorem ok19 {args : List D} {d : D} (hl : args.length = 1) (h : SWp C19 c19 (fun e s => (match e with | .exit _ => False | _ => True) ∧ rrsWp q19 s fun ds => D.closed (oneOrTup ds) = true ∧ (oneOrTup ds).er = d) (St.init C19 args ⟨[], []⟩)) : Pur M 19 args d :=
  pur_of_body (C := C19) (fn := Tryd.f19) Tryd.func19 (by kernel_rfl) (by kernel_rfl) (rc := c19) z19 (rs := q19) zr19 (by kernel_rfl) (by rw [hl]; rfl) (by rw [hl]; decide) rfl rfl h

/- 10 bogie.day.Number · 3 arguments · kept slots [0, 1, 2, 6, 7, 8, 13, 17] -/
noncomputable def E10 (n m : Nat) : Cfg := ⟨M, [0, 1, 2, 6, 7, 8, 13, 17], 23, n, m⟩
noncomputable def C10 : Cfg := E10 0 0
@[reducible] noncomputable def r10_0 : List RO := [
  ⟨(.var 3), .mv, [(.con (.int .i64 0))], none⟩,
  ⟨(.var 4), .mv, [(.con (.int .i64 0))], none⟩]
@[reducible] noncomputable def r10_1 : List RO := [
  ⟨(.loc 9), .mv, [(.var 0)], none⟩,
  ⟨(.loc 10), .mv, [(.var 1)], none⟩,
  ⟨(.loc 11), .mv, [(.var 2)], none⟩,
  ⟨(.loc 12), (.bld [(.int .i64 0), (.int .i64 0), (.int .i64 0)] [(0, 1), (1, 1), (2, 1)]), [(.loc 9), (.loc 10), (.loc 11)], none⟩,
  ⟨(.var 5), (.newb [(.int .i64 0), (.int .i64 0), (.int .i64 0)]), [], none⟩,
  ⟨.none, (.st 3), [(.var 5), (.loc 12)], none⟩]
@[reducible] noncomputable def r10_2 : List RO := [
  ⟨(.loc 14), (.ld true 3), [(.var 5)], none⟩,
  ⟨(.loc 15), .call, [(.con (.fn (.func 20) [] [])), (.loc 14)], none⟩,
  ⟨(.loc 16), (.un .not), [(.loc 15)], none⟩,
  ⟨(.var 6), .mv, [(.loc 16)], none⟩]
@[reducible] noncomputable def r10_3 : List RO := [
  ⟨(.var 3), .mv, [(.con (.int .i64 0))], none⟩,
  ⟨(.var 4), .mv, [(.con (.int .i64 1))], none⟩]
@[reducible] noncomputable def r10_4 : List RO := [
  ⟨(.loc 18), (.ld true 3), [(.var 5)], none⟩,
  ⟨(.loc 19), .call, [(.con (.fn (.func 21) [] [])), (.loc 18)], none⟩,
  ⟨(.loc 20), (.un .not), [(.loc 19)], none⟩,
  ⟨(.var 7), .mv, [(.loc 20)], none⟩]
@[reducible] noncomputable def r10_5 : List RO := [
  ⟨(.var 3), .mv, [(.con (.int .i64 0))], none⟩,
  ⟨(.var 4), .mv, [(.con (.int .i64 13))], none⟩]
@[reducible] noncomputable def r10_6 : List RO := [
  ⟨(.loc 21), (.ld true 3), [(.var 5)], none⟩,
  ⟨(.loc 22), .call, [(.con (.fn (.func 22) [] [])), (.loc 21)], none⟩,
  ⟨(.var 3), .mv, [(.loc 22)], none⟩,
  ⟨(.var 4), .mv, [(.con (.int .i64 0))], none⟩]
theorem P10 : C10.M = M := by unfold C10 E10; rfl
theorem pe10 {n m : Nat} : (E10 n m).M = M := by unfold E10; rfl
theorem i10 {a0 a1 a2 : D} : St.init C10 [a0, a1, a2] ⟨[], []⟩ = ⟨[a0, a1, a2, .undef, .undef, .undef, .undef, .undef], [], ⟨[], []⟩⟩ := by unfold C10 E10; rfl
theorem ie10 {n m : Nat} {hp : Hp} {a0 a1 a2 : D} : St.init (E10 n m) [a0, a1, a2] hp = ⟨[a0, a1, a2, .undef, .undef, .undef, .undef, .undef], [], hp⟩ := by unfold E10; rfl
noncomputable def c10 : RC := (.seq (.reg r10_0) (.seq (.reg r10_1) (.seq (.block 0 (.seq (.reg r10_2) (.cond (.var 6) (.seq (.reg r10_3) .ret) (.seq (.reg r10_4) (.cond (.var 7) (.seq (.reg r10_5) .ret) .skip))))) (.seq (.reg r10_6) .ret))))
noncomputable def q10 : List RR := [(.slot (.var 3)), (.slot (.var 4))]
theorem z10 {n m : Nat} : resCode (E10 n m) (Tryd.f10.body.getD .skip) = some c10 := by kernel_rfl
theorem zr10 {n m : Nat} : resRs (E10 n m) Tryd.f10.results.toList = some q10 := by kernel_rfl
theorem oe10 {args : List D} {hp : Hp} {R : D → Hp → Prop} (n m : Nat) (hl : args.length = 3) (hn : n = hp.H.length) (hm : m = hp.tk.length) (h : SWp (E10 n m) c10 (fun e s => (match e with | .exit _ => False | _ => True) ∧ ∃ s1, Weak (E10 n m) s s1 ∧ rrsWp q10 s1 fun ds => R (oneOrTup ds) s1.hp) (St.init (E10 n m) args hp)) : Eff M 10 args hp R :=
  eff_of_body (C := E10 n m) (fn := Tryd.f10) Tryd.func10 (by kernel_rfl) (by kernel_rfl) (rc := c10) z10 (rs := q10) zr10 (by kernel_rfl) (by rw [hl]; rfl) (by rw [hl]; exact (by decide : 3 ≤ 23)) hn hm h
theorem ow10 {args : List D} {d : D} (hl : args.length = 3) (h : SWp C10 c10 (fun e s => (match e with | .exit _ => False | _ => True) ∧ ∃ s1, Weak C10 s s1 ∧ rrsWp q10 s1 fun ds => D.closed (oneOrTup ds) = true ∧ (oneOrTup ds).er = d) (St.init C10 args ⟨[], []⟩)) : Pur M 10 args d :=
  pur_of_bodyW (C := C10) (fn := Tryd.f10) Tryd.func10 (by kernel_rfl) (by kernel_rfl) (rc := c10) z10 (rs := q10) zr10 (by kernel_rfl) (by rw [hl]; rfl) (by rw [hl]; decide) rfl rfl h
theorem ok10 {args : List D} {d : D} (hl : args.length = 3) (h : SWp C10 c10 (fun e s => (match e with | .exit _ => False | _ => True) ∧ rrsWp q10 s fun ds => D.closed (oneOrTup ds) = true ∧ (oneOrTup ds).er = d) (St.init C10 args ⟨[], []⟩)) : Pur M 10 args d :=
  pur_of_body (C := C10) (fn := Tryd.f10) Tryd.func10 (by kernel_rfl) (by kernel_rfl) (rc := c10) z10 (rs := q10) zr10 (by kernel_rfl) (by rw [hl]; rfl) (by rw [hl]; decide) rfl rfl h

/- 11 bogie.day.Months · 2 arguments · kept slots [0, 1, 4, 5, 6, 7, 8, 9, 27, 38, 57] -/
noncomputable def E11 (n m : Nat) : Cfg := ⟨M, [0, 1, 4, 5, 6, 7, 8, 9, 27, 38, 57], 60, n, m⟩
noncomputable def C11 : Cfg := E11 0 0
@[reducible] noncomputable def r11_0 : List RO := [
  ⟨(.var 2), .mv, [(.con (.int .i64 0))], none⟩,
  ⟨(.var 3), .mv, [(.con (.int .i64 0))], none⟩]
@[reducible] noncomputable def r11_1 : List RO := [
  ⟨(.loc 11), .mv, [(.var 0)], none⟩,
  ⟨(.loc 12), .call, [(.con (.fn (.func 23) [] [])), (.loc 11)], none⟩,
  ⟨(.loc 10), .mv, [(.loc 12)], none⟩,
  ⟨(.loc 13), (.ext 0), [(.loc 10)], none⟩,
  ⟨(.loc 14), (.ext 1), [(.loc 10)], none⟩,
  ⟨(.var 4), (.newb [(.int .i64 0), (.int .i64 0), (.int .i64 0)]), [], none⟩,
  ⟨.none, (.st 3), [(.var 4), (.loc 13)], none⟩,
  ⟨(.var 5), .mv, [(.loc 14)], none⟩]
@[reducible] noncomputable def r11_2 : List RO := [
  ⟨(.loc 15), .mv, [(.var 5)], none⟩,
  ⟨(.loc 16), (.bin .neq), [(.loc 15), (.con (.int .i64 0))], none⟩,
  ⟨(.loc 17), .mv, [(.loc 16)], none⟩,
  ⟨(.loc 18), .mv, [(.var 1)], (some ((.loc 17), false))⟩,
  ⟨(.loc 19), .mv, [(.var 1)], (some ((.loc 17), false))⟩,
  ⟨(.loc 20), (.un .neg), [(.loc 19)], (some ((.loc 17), false))⟩,
  ⟨(.loc 21), .maxI, [(.loc 18), (.loc 20)], (some ((.loc 17), false))⟩,
  ⟨(.loc 22), (.bin .gtr), [(.loc 21), (.con (.int .i64 12000))], (some ((.loc 17), false))⟩,
  ⟨(.loc 23), .pick, [(.loc 17), (.con (.bool true)), (.loc 22)], none⟩,
  ⟨(.loc 24), .mv, [(.loc 23)], none⟩,
  ⟨(.loc 25), .mv, [(.var 1)], (some ((.loc 24), false))⟩,
  ⟨(.loc 26), (.bin .lss), [(.loc 25), (.con (.int .i64 (-12000)))], (some ((.loc 24), false))⟩,
  ⟨(.var 8), .pick, [(.loc 24), (.con (.bool true)), (.loc 26)], none⟩]
@[reducible] noncomputable def r11_3 : List RO := [
  ⟨(.var 2), .mv, [(.con (.int .i64 0))], none⟩,
  ⟨(.var 3), .mv, [(.con (.int .i64 13))], none⟩]
@[reducible] noncomputable def r11_4 : List RO := [
  ⟨(.loc 28), (.fld 0), [(.var 4)], none⟩,
  ⟨(.loc 29), (.ld false 1), [(.loc 28)], none⟩,
  ⟨(.loc 30), (.bin .mul), [(.con (.int .i64 12)), (.loc 29)], none⟩,
  ⟨(.loc 31), (.fld 1), [(.var 4)], none⟩,
  ⟨(.loc 32), (.ld false 1), [(.loc 31)], none⟩,
  ⟨(.loc 33), (.bin .add), [(.loc 30), (.loc 32)], none⟩,
  ⟨(.loc 34), (.bin .sub), [(.loc 33), (.con (.int .i64 1))], none⟩,
  ⟨(.loc 35), .mv, [(.var 1)], none⟩,
  ⟨(.loc 36), (.bin .add), [(.loc 34), (.loc 35)], none⟩,
  ⟨(.var 6), .mv, [(.loc 36)], none⟩]
@[reducible] noncomputable def r11_5 : List RO := [
  ⟨(.loc 37), .mv, [(.var 6)], none⟩,
  ⟨(.var 9), (.bin .lss), [(.loc 37), (.con (.int .i64 24000))], none⟩]
@[reducible] noncomputable def r11_6 : List RO := [
  ⟨(.var 2), .mv, [(.con (.int .i64 0))], none⟩,
  ⟨(.var 3), .mv, [(.con (.int .i64 13))], none⟩]
@[reducible] noncomputable def r11_7 : List RO := [
  ⟨(.loc 39), .mv, [(.var 6)], none⟩,
  ⟨(.loc 40), (.bin .quo), [(.loc 39), (.con (.int .i64 12))], none⟩,
  ⟨(.loc 41), .mv, [(.var 6)], none⟩,
  ⟨(.loc 42), (.bin .rem), [(.loc 41), (.con (.int .i64 12))], none⟩,
  ⟨(.loc 43), (.bin .add), [(.loc 42), (.con (.int .i64 1))], none⟩,
  ⟨(.loc 44), (.bld [(.int .i64 0), (.int .i64 0), (.int .i64 0)] [(0, 1), (1, 1), (2, 1)]), [(.loc 40), (.loc 43), (.con (.int .i64 1))], none⟩,
  ⟨(.var 7), (.newb [(.int .i64 0), (.int .i64 0), (.int .i64 0)]), [], none⟩,
  ⟨.none, (.st 3), [(.var 7), (.loc 44)], none⟩]
@[reducible] noncomputable def r11_8 : List (RO × Bool) := [
  (⟨(.loc 45), (.fld 2), [(.var 4)], none⟩, true),
  (⟨(.loc 46), (.ld false 1), [(.loc 45)], none⟩, true),
  (⟨(.loc 47), (.ld true 3), [(.var 7)], none⟩, true),
  (⟨(.loc 48), .call, [(.con (.fn (.func 24) [] [])), (.loc 47)], none⟩, true)]
@[reducible] noncomputable def r11_9 : List RO := [
  ⟨(.loc 49), .minI, [(.loc 46), (.loc 48)], none⟩,
  ⟨(.loc 50), (.fld 2), [(.var 7)], none⟩,
  ⟨.none, (.st 1), [(.loc 50), (.loc 49)], none⟩]
@[reducible] noncomputable def r11_10 : List RO := [
  ⟨(.loc 51), (.ld true 3), [(.var 7)], none⟩,
  ⟨(.loc 52), .call, [(.con (.fn (.func 21) [] [])), (.loc 51)], none⟩,
  ⟨(.loc 53), .mv, [(.loc 52)], none⟩,
  ⟨(.loc 54), (.ld true 3), [(.var 7)], (some ((.loc 53), true))⟩,
  ⟨(.loc 55), (.bld [(.int .i64 0), (.int .i64 0), (.int .i64 0)] []), [], (some ((.loc 53), true))⟩,
  ⟨(.loc 56), (.eqA true [.int, .int, .int]), [(.loc 54), (.loc 55)], (some ((.loc 53), true))⟩,
  ⟨(.var 10), .pick, [(.loc 53), (.loc 56), (.con (.bool false))], none⟩]
@[reducible] noncomputable def r11_11 : List RO := [
  ⟨(.loc 58), (.ld true 3), [(.var 7)], none⟩,
  ⟨(.loc 59), .call, [(.con (.fn (.func 22) [] [])), (.loc 58)], none⟩,
  ⟨(.var 2), .mv, [(.loc 59)], none⟩,
  ⟨(.var 3), .mv, [(.con (.int .i64 0))], none⟩]
@[reducible] noncomputable def r11_12 : List RO := [
  ⟨(.var 2), .mv, [(.con (.int .i64 0))], none⟩,
  ⟨(.var 3), .mv, [(.con (.int .i64 13))], none⟩]
theorem P11 : C11.M = M := by unfold C11 E11; rfl
theorem pe11 {n m : Nat} : (E11 n m).M = M := by unfold E11; rfl
theorem i11 {a0 a1 : D} : St.init C11 [a0, a1] ⟨[], []⟩ = ⟨[a0, a1, .undef, .undef, .undef, .undef, .undef, .undef, .undef, .undef, .undef], [], ⟨[], []⟩⟩ := by unfold C11 E11; rfl
theorem ie11 {n m : Nat} {hp : Hp} {a0 a1 : D} : St.init (E11 n m) [a0, a1] hp = ⟨[a0, a1, .undef, .undef, .undef, .undef, .undef, .undef, .undef, .undef, .undef], [], hp⟩ := by unfold E11; rfl
noncomputable def c11 : RC := (.seq (.reg r11_0) (.seq (.reg r11_1) (.seq (.seq (.reg r11_2) (.cond (.var 8) (.seq (.reg r11_3) .ret) .skip)) (.seq (.reg r11_4) (.seq (.seq (.reg r11_5) (.cond (.var 9) (.seq (.reg r11_6) .ret) .skip)) (.seq (.reg r11_7) (.seq (.regD r11_8 r11_9) (.seq (.seq (.reg r11_10) (.cond (.var 10) (.seq (.reg r11_11) .ret) .skip)) (.seq (.reg r11_12) .ret)))))))))
noncomputable def q11 : List RR := [(.slot (.var 2)), (.slot (.var 3))]
theorem z11 {n m : Nat} : resCode (E11 n m) (Tryd.f11.body.getD .skip) = some c11 := by kernel_rfl
theorem zr11 {n m : Nat} : resRs (E11 n m) Tryd.f11.results.toList = some q11 := by kernel_rfl
theorem oe11 {args : List D} {hp : Hp} {R : D → Hp → Prop} (n m : Nat) (hl : args.length = 2) (hn : n = hp.H.length) (hm : m = hp.tk.length) (h : SWp (E11 n m) c11 (fun e s => (match e with | .exit _ => False | _ => True) ∧ ∃ s1, Weak (E11 n m) s s1 ∧ rrsWp q11 s1 fun ds => R (oneOrTup ds) s1.hp) (St.init (E11 n m) args hp)) : Eff M 11 args hp R :=
  eff_of_body (C := E11 n m) (fn := Tryd.f11) Tryd.func11 (by kernel_rfl) (by kernel_rfl) (rc := c11) z11 (rs := q11) zr11 (by kernel_rfl) (by rw [hl]; rfl) (by rw [hl]; exact (by decide : 2 ≤ 60)) hn hm h
theorem ow11 {args : List D} {d : D} (hl : args.length = 2) (h : SWp C11 c11 (fun e s => (match e with | .exit _ => False | _ => True) ∧ ∃ s1, Weak C11 s s1 ∧ rrsWp q11 s1 fun ds => D.closed (oneOrTup ds) = true ∧ (oneOrTup ds).er = d) (St.init C11 args ⟨[], []⟩)) : Pur M 11 args d :=
  pur_of_bodyW (C := C11) (fn := Tryd.f11) Tryd.func11 (by kernel_rfl) (by kernel_rfl) (rc := c11) z11 (rs := q11) zr11 (by kernel_rfl) (by rw [hl]; rfl) (by rw [hl]; decide) rfl rfl h
theorem ok11 {args : List D} {d : D} (hl : args.length = 2) (h : SWp C11 c11 (fun e s => (match e with | .exit _ => False | _ => True) ∧ rrsWp q11 s fun ds => D.closed (oneOrTup ds) = true ∧ (oneOrTup ds).er = d) (St.init C11 args ⟨[], []⟩)) : Pur M 11 args d :=
  pur_of_body (C := C11) (fn := Tryd.f11) Tryd.func11 (by kernel_rfl) (by kernel_rfl) (rc := c11) z11 (rs := q11) zr11 (by kernel_rfl) (by rw [hl]; rfl) (by rw [hl]; decide) rfl rfl h

/- 9 bogie.bogielaw06.of · 1 arguments · kept slots [0, 2, 3, 4, 5, 6, 7] -/
noncomputable def E9 (n m : Nat) : Cfg := ⟨M, [0, 2, 3, 4, 5, 6, 7], 20, n, m⟩
noncomputable def C9 : Cfg := E9 0 0
@[reducible] noncomputable def r9_0 : List RO := [
  ⟨(.var 1), (.newb [(.int .i64 0), (.int .i64 0), (.int .i64 0)]), [], none⟩,
  ⟨(.var 2), .mv, [(.con (.int .i64 0))], none⟩]
@[reducible] noncomputable def r9_1 : List RO := [
  ⟨(.loc 9), .mv, [(.var 0)], none⟩,
  ⟨(.loc 10), .call, [(.con (.fn (.func 19) [] [])), (.loc 9)], none⟩,
  ⟨(.loc 8), .mv, [(.loc 10)], none⟩,
  ⟨(.loc 11), (.ext 0), [(.loc 8)], none⟩,
  ⟨(.loc 12), (.ext 1), [(.loc 8)], none⟩,
  ⟨(.loc 13), (.ext 2), [(.loc 8)], none⟩,
  ⟨(.loc 14), (.ext 3), [(.loc 8)], none⟩,
  ⟨(.var 3), .mv, [(.loc 11)], none⟩,
  ⟨(.var 4), .mv, [(.loc 12)], none⟩,
  ⟨(.var 5), .mv, [(.loc 13)], none⟩,
  ⟨(.var 6), .mv, [(.loc 14)], none⟩]
@[reducible] noncomputable def r9_2 : List RO := [
  ⟨(.loc 15), .mv, [(.var 3)], none⟩,
  ⟨(.loc 16), .mv, [(.var 4)], none⟩,
  ⟨(.loc 17), .mv, [(.var 5)], none⟩,
  ⟨(.loc 18), (.bld [(.int .i64 0), (.int .i64 0), (.int .i64 0)] [(0, 1), (1, 1), (2, 1)]), [(.loc 15), (.loc 16), (.loc 17)], none⟩,
  ⟨(.loc 19), .mv, [(.var 6)], none⟩,
  ⟨.none, (.st 3), [(.var 1), (.loc 18)], none⟩,
  ⟨(.var 2), .mv, [(.loc 19)], none⟩]
theorem P9 : C9.M = M := by unfold C9 E9; rfl
theorem pe9 {n m : Nat} : (E9 n m).M = M := by unfold E9; rfl
theorem i9 {a0 : D} : St.init C9 [a0] ⟨[], []⟩ = ⟨[a0, .undef, .undef, .undef, .undef, .undef, .undef], [], ⟨[], []⟩⟩ := by unfold C9 E9; rfl
theorem ie9 {n m : Nat} {hp : Hp} {a0 : D} : St.init (E9 n m) [a0] hp = ⟨[a0, .undef, .undef, .undef, .undef, .undef, .undef], [], hp⟩ := by unfold E9; rfl
noncomputable def c9 : RC := (.seq (.reg r9_0) (.seq (.reg r9_1) (.seq (.reg r9_2) .ret)))
noncomputable def q9 : List RR := [(.cell (.var 1) true 3), (.slot (.var 2))]
theorem z9 {n m : Nat} : resCode (E9 n m) (Tryd.f9.body.getD .skip) = some c9 := by kernel_rfl
theorem zr9 {n m : Nat} : resRs (E9 n m) Tryd.f9.results.toList = some q9 := by kernel_rfl
theorem oe9 {args : List D} {hp : Hp} {R : D → Hp → Prop} (n m : Nat) (hl : args.length = 1) (hn : n = hp.H.length) (hm : m = hp.tk.length) (h : SWp (E9 n m) c9 (fun e s => (match e with | .exit _ => False | _ => True) ∧ ∃ s1, Weak (E9 n m) s s1 ∧ rrsWp q9 s1 fun ds => R (oneOrTup ds) s1.hp) (St.init (E9 n m) args hp)) : Eff M 9 args hp R :=
  eff_of_body (C := E9 n m) (fn := Tryd.f9) Tryd.func9 (by kernel_rfl) (by kernel_rfl) (rc := c9) z9 (rs := q9) zr9 (by kernel_rfl) (by rw [hl]; rfl) (by rw [hl]; exact (by decide : 1 ≤ 20)) hn hm h
theorem ow9 {args : List D} {d : D} (hl : args.length = 1) (h : SWp C9 c9 (fun e s => (match e with | .exit _ => False | _ => True) ∧ ∃ s1, Weak C9 s s1 ∧ rrsWp q9 s1 fun ds => D.closed (oneOrTup ds) = true ∧ (oneOrTup ds).er = d) (St.init C9 args ⟨[], []⟩)) : Pur M 9 args d :=
  pur_of_bodyW (C := C9) (fn := Tryd.f9) Tryd.func9 (by kernel_rfl) (by kernel_rfl) (rc := c9) z9 (rs := q9) zr9 (by kernel_rfl) (by rw [hl]; rfl) (by rw [hl]; decide) rfl rfl h
theorem ok9 {args : List D} {d : D} (hl : args.length = 1) (h : SWp C9 c9 (fun e s => (match e with | .exit _ => False | _ => True) ∧ rrsWp q9 s fun ds => D.closed (oneOrTup ds) = true ∧ (oneOrTup ds).er = d) (St.init C9 args ⟨[], []⟩)) : Pur M 9 args d :=
  pur_of_body (C := C9) (fn := Tryd.f9) Tryd.func9 (by kernel_rfl) (by kernel_rfl) (rc := c9) z9 (rs := q9) zr9 (by kernel_rfl) (by rw [hl]; rfl) (by rw [hl]; decide) rfl rfl h

/- 8 bogie.bogielaw06.head · 0 arguments · kept slots [0, 1, 2, 3, 4, 5, 6, 8, 9, 10, 11, 12, 13] -/
noncomputable def E8 (n m : Nat) : Cfg := ⟨M, [0, 1, 2, 3, 4, 5, 6, 8, 9, 10, 11, 12, 13], 84, n, m⟩
noncomputable def C8 : Cfg := E8 0 0
@[reducible] noncomputable def r8_0 : List RO := [
  ⟨(.var 0), .mv, [(.con (.bool false))], none⟩]
@[reducible] noncomputable def r8_1 : List RO := [
  ⟨(.loc 15), .call, [(.con (.fn (.func 9) [] [])), (.con (.int .i64 0))], none⟩,
  ⟨(.loc 14), .mv, [(.loc 15)], none⟩,
  ⟨(.loc 16), (.ext 0), [(.loc 14)], none⟩,
  ⟨(.loc 17), (.ext 1), [(.loc 14)], none⟩,
  ⟨(.var 1), (.newb [(.int .i64 0), (.int .i64 0), (.int .i64 0)]), [], none⟩,
  ⟨.none, (.st 3), [(.var 1), (.loc 16)], none⟩,
  ⟨(.var 2), .mv, [(.loc 17)], none⟩]
@[reducible] noncomputable def r8_2 : List RO := [
  ⟨(.loc 19), .call, [(.con (.fn (.func 9) [] [])), (.con (.int .i64 59))], none⟩,
  ⟨(.loc 18), .mv, [(.loc 19)], none⟩,
  ⟨(.loc 20), (.ext 0), [(.loc 18)], none⟩,
  ⟨(.loc 21), (.ext 1), [(.loc 18)], none⟩,
  ⟨(.var 3), (.newb [(.int .i64 0), (.int .i64 0), (.int .i64 0)]), [], none⟩,
  ⟨.none, (.st 3), [(.var 3), (.loc 20)], none⟩,
  ⟨(.var 4), .mv, [(.loc 21)], none⟩]
@[reducible] noncomputable def r8_3 : List RO := [
  ⟨(.loc 23), .call, [(.con (.fn (.func 9) [] [])), (.con (.int .i64 40000))], none⟩,
  ⟨(.loc 22), .mv, [(.loc 23)], none⟩,
  ⟨(.loc 24), (.ext 0), [(.loc 22)], none⟩,
  ⟨(.loc 25), (.ext 1), [(.loc 22)], none⟩,
  ⟨(.var 5), (.newb [(.int .i64 0), (.int .i64 0), (.int .i64 0)]), [], none⟩,
  ⟨.none, (.st 3), [(.var 5), (.loc 24)], none⟩,
  ⟨(.var 6), .mv, [(.loc 25)], none⟩]
@[reducible] noncomputable def r8_4 : List RO := [
  ⟨(.loc 27), .call, [(.con (.fn (.func 10) [] [])), (.con (.int .i64 2100)), (.con (.int .i64 2)), (.con (.int .i64 29))], none⟩,
  ⟨(.loc 26), .mv, [(.loc 27)], none⟩,
  ⟨(.loc 28), (.ext 0), [(.loc 26)], none⟩,
  ⟨(.loc 29), (.ext 1), [(.loc 26)], none⟩,
  ⟨(.loc 7), .mv, [(.loc 28)], none⟩,
  ⟨(.var 7), .mv, [(.loc 29)], none⟩]
@[reducible] noncomputable def r8_5 : List RO := [
  ⟨(.loc 31), .call, [(.con (.fn (.func 14) [] [])), (.con (.int .i64 366))], none⟩,
  ⟨(.loc 30), .mv, [(.loc 31)], none⟩,
  ⟨(.loc 32), (.ext 0), [(.loc 30)], none⟩,
  ⟨(.loc 33), (.ext 1), [(.loc 30)], none⟩,
  ⟨(.var 8), .mv, [(.loc 32)], none⟩,
  ⟨(.var 9), .mv, [(.loc 33)], none⟩]
@[reducible] noncomputable def r8_6 : List RO := [
  ⟨(.loc 35), .call, [(.con (.fn (.func 11) [] [])), (.con (.int .i64 30)), (.con (.int .i64 1))], none⟩,
  ⟨(.loc 34), .mv, [(.loc 35)], none⟩,
  ⟨(.loc 36), (.ext 0), [(.loc 34)], none⟩,
  ⟨(.loc 37), (.ext 1), [(.loc 34)], none⟩,
  ⟨(.var 10), .mv, [(.loc 36)], none⟩,
  ⟨(.var 11), .mv, [(.loc 37)], none⟩]
@[reducible] noncomputable def r8_7 : List RO := [
  ⟨(.loc 38), .mv, [(.var 2)], none⟩,
  ⟨(.loc 39), (.bin .eql), [(.loc 38), (.con (.int .i64 0))], none⟩,
  ⟨(.loc 40), .mv, [(.loc 39)], none⟩,
  ⟨(.loc 41), (.ld true 3), [(.var 1)], (some ((.loc 40), true))⟩,
  ⟨(.loc 42), (.bld [(.int .i64 0), (.int .i64 0), (.int .i64 0)] [(0, 1), (1, 1), (2, 1)]), [(.con (.int .i64 2000)), (.con (.int .i64 1)), (.con (.int .i64 1))], (some ((.loc 40), true))⟩,
  ⟨(.loc 43), (.eqA false [.int, .int, .int]), [(.loc 41), (.loc 42)], (some ((.loc 40), true))⟩,
  ⟨(.loc 44), .pick, [(.loc 40), (.loc 43), (.con (.bool false))], none⟩,
  ⟨(.loc 45), .mv, [(.loc 44)], none⟩,
  ⟨(.loc 46), .mv, [(.var 4)], (some ((.loc 45), true))⟩,
  ⟨(.loc 47), (.bin .eql), [(.loc 46), (.con (.int .i64 0))], (some ((.loc 45), true))⟩,
  ⟨(.loc 48), .pick, [(.loc 45), (.loc 47), (.con (.bool false))], none⟩,
  ⟨(.loc 49), .mv, [(.loc 48)], none⟩,
  ⟨(.loc 50), (.ld true 3), [(.var 3)], (some ((.loc 49), true))⟩,
  ⟨(.loc 51), (.bld [(.int .i64 0), (.int .i64 0), (.int .i64 0)] [(0, 1), (1, 1), (2, 1)]), [(.con (.int .i64 2000)), (.con (.int .i64 2)), (.con (.int .i64 29))], (some ((.loc 49), true))⟩,
  ⟨(.loc 52), (.eqA false [.int, .int, .int]), [(.loc 50), (.loc 51)], (some ((.loc 49), true))⟩,
  ⟨(.loc 53), .pick, [(.loc 49), (.loc 52), (.con (.bool false))], none⟩,
  ⟨(.loc 54), .mv, [(.loc 53)], none⟩,
  ⟨(.loc 55), .mv, [(.var 6)], (some ((.loc 54), true))⟩,
  ⟨(.loc 56), (.bin .eql), [(.loc 55), (.con (.int .i64 0))], (some ((.loc 54), true))⟩,
  ⟨(.loc 57), .pick, [(.loc 54), (.loc 56), (.con (.bool false))], none⟩,
  ⟨(.loc 58), .mv, [(.loc 57)], none⟩,
  ⟨(.loc 59), (.ld true 3), [(.var 5)], (some ((.loc 58), true))⟩,
  ⟨(.loc 60), (.bld [(.int .i64 0), (.int .i64 0), (.int .i64 0)] [(0, 1), (1, 1), (2, 1)]), [(.con (.int .i64 2109)), (.con (.int .i64 7)), (.con (.int .i64 8))], (some ((.loc 58), true))⟩,
  ⟨(.loc 61), (.eqA false [.int, .int, .int]), [(.loc 59), (.loc 60)], (some ((.loc 58), true))⟩,
  ⟨(.loc 62), .pick, [(.loc 58), (.loc 61), (.con (.bool false))], none⟩,
  ⟨(.var 12), .mv, [(.loc 62)], none⟩]
@[reducible] noncomputable def r8_8 : List RO := [
  ⟨(.loc 63), .mv, [(.var 12)], none⟩,
  ⟨(.loc 64), .mv, [(.loc 63)], none⟩,
  ⟨(.loc 65), .mv, [(.var 7)], (some ((.loc 64), true))⟩,
  ⟨(.loc 66), (.bin .eql), [(.loc 65), (.con (.int .i64 1))], (some ((.loc 64), true))⟩,
  ⟨(.loc 67), .pick, [(.loc 64), (.loc 66), (.con (.bool false))], none⟩,
  ⟨(.loc 68), .mv, [(.loc 67)], none⟩,
  ⟨(.loc 69), .mv, [(.var 9)], (some ((.loc 68), true))⟩,
  ⟨(.loc 70), (.bin .eql), [(.loc 69), (.con (.int .i64 0))], (some ((.loc 68), true))⟩,
  ⟨(.loc 71), .pick, [(.loc 68), (.loc 70), (.con (.bool false))], none⟩,
  ⟨(.loc 72), .mv, [(.loc 71)], none⟩,
  ⟨(.loc 73), .mv, [(.var 8)], (some ((.loc 72), true))⟩,
  ⟨(.loc 74), (.bin .eql), [(.loc 73), (.con (.str [50, 48, 48, 49, 45, 48, 49, 45, 48, 49]))], (some ((.loc 72), true))⟩,
  ⟨(.loc 75), .pick, [(.loc 72), (.loc 74), (.con (.bool false))], none⟩,
  ⟨(.loc 76), .mv, [(.loc 75)], none⟩,
  ⟨(.loc 77), .mv, [(.var 11)], (some ((.loc 76), true))⟩,
  ⟨(.loc 78), (.bin .eql), [(.loc 77), (.con (.int .i64 0))], (some ((.loc 76), true))⟩,
  ⟨(.loc 79), .pick, [(.loc 76), (.loc 78), (.con (.bool false))], none⟩,
  ⟨(.loc 80), .mv, [(.loc 79)], none⟩,
  ⟨(.loc 81), .mv, [(.var 10)], (some ((.loc 80), true))⟩,
  ⟨(.loc 82), (.bin .eql), [(.loc 81), (.con (.int .i64 59))], (some ((.loc 80), true))⟩,
  ⟨(.loc 83), .pick, [(.loc 80), (.loc 82), (.con (.bool false))], none⟩,
  ⟨(.var 0), .mv, [(.loc 83)], none⟩]
theorem P8 : C8.M = M := by unfold C8 E8; rfl
theorem pe8 {n m : Nat} : (E8 n m).M = M := by unfold E8; rfl
theorem i8 : St.init C8 [] ⟨[], []⟩ = ⟨[.undef, .undef, .undef, .undef, .undef, .undef, .undef, .undef, .undef, .undef, .undef, .undef, .undef], [], ⟨[], []⟩⟩ := by unfold C8 E8; rfl
theorem ie8 {n m : Nat} {hp : Hp} : St.init (E8 n m) [] hp = ⟨[.undef, .undef, .undef, .undef, .undef, .undef, .undef, .undef, .undef, .undef, .undef, .undef, .undef], [], hp⟩ := by unfold E8; rfl
noncomputable def c8 : RC := (.seq (.reg r8_0) (.seq (.reg r8_1) (.seq (.reg r8_2) (.seq (.reg r8_3) (.seq (.reg r8_4) (.seq (.reg r8_5) (.seq (.reg r8_6) (.seq (.reg r8_7) (.seq (.reg r8_8) .ret)))))))))
noncomputable def q8 : List RR := [(.slot (.var 0))]
theorem z8 {n m : Nat} : resCode (E8 n m) (Tryd.f8.body.getD .skip) = some c8 := by kernel_rfl
theorem zr8 {n m : Nat} : resRs (E8 n m) Tryd.f8.results.toList = some q8 := by kernel_rfl
theorem oe8 {args : List D} {hp : Hp} {R : D → Hp → Prop} (n m : Nat) (hl : args.length = 0) (hn : n = hp.H.length) (hm : m = hp.tk.length) (h : SWp (E8 n m) c8 (fun e s => (match e with | .exit _ => False | _ => True) ∧ ∃ s1, Weak (E8 n m) s s1 ∧ rrsWp q8 s1 fun ds => R (oneOrTup ds) s1.hp) (St.init (E8 n m) args hp)) : Eff M 8 args hp R :=
  eff_of_body (C := E8 n m) (fn := Tryd.f8) Tryd.func8 (by kernel_rfl) (by kernel_rfl) (rc := c8) z8 (rs := q8) zr8 (by kernel_rfl) (by rw [hl]; rfl) (by rw [hl]; exact (by decide : 0 ≤ 84)) hn hm h
theorem ow8 {args : List D} {d : D} (hl : args.length = 0) (h : SWp C8 c8 (fun e s => (match e with | .exit _ => False | _ => True) ∧ ∃ s1, Weak C8 s s1 ∧ rrsWp q8 s1 fun ds => D.closed (oneOrTup ds) = true ∧ (oneOrTup ds).er = d) (St.init C8 args ⟨[], []⟩)) : Pur M 8 args d :=
  pur_of_bodyW (C := C8) (fn := Tryd.f8) Tryd.func8 (by kernel_rfl) (by kernel_rfl) (rc := c8) z8 (rs := q8) zr8 (by kernel_rfl) (by rw [hl]; rfl) (by rw [hl]; decide) rfl rfl h
theorem ok8 {args : List D} {d : D} (hl : args.length = 0) (h : SWp C8 c8 (fun e s => (match e with | .exit _ => False | _ => True) ∧ rrsWp q8 s fun ds => D.closed (oneOrTup ds) = true ∧ (oneOrTup ds).er = d) (St.init C8 args ⟨[], []⟩)) : Pur M 8 args d :=
  pur_of_body (C := C8) (fn := Tryd.f8) Tryd.func8 (by kernel_rfl) (by kernel_rfl) (rc := c8) z8 (rs := q8) zr8 (by kernel_rfl) (by rw [hl]; rfl) (by rw [hl]; decide) rfl rfl h

/- 3 bogie.bogielaw06.DayDates · 4 arguments · kept slots [0, 1, 2, 3, 8, 9, 10, 11, 12, 13, 14, 15, 16, 17, 32, 34, 71, 80] -/
noncomputable def E3 (n m : Nat) : Cfg := ⟨M, [0, 1, 2, 3, 8, 9, 10, 11, 12, 13, 14, 15, 16, 17, 32, 34, 71, 80], 113, n, m⟩
noncomputable def C3 : Cfg := E3 0 0
@[reducible] noncomputable def r3_0 : List RO := [
  ⟨(.var 4), .mv, [(.con (.bool false))], none⟩]
@[reducible] noncomputable def r3_1 : List RO := [
  ⟨(.loc 18), .call, [(.con (.fn (.func 8) [] []))], none⟩,
  ⟨(.var 5), .mv, [(.loc 18)], none⟩]
@[reducible] noncomputable def r3_2 : List RO := [
  ⟨(.loc 20), .mv, [(.var 0)], none⟩,
  ⟨(.loc 21), .call, [(.con (.fn (.func 9) [] [])), (.loc 20)], none⟩,
  ⟨(.loc 19), .mv, [(.loc 21)], none⟩,
  ⟨(.loc 22), (.ext 0), [(.loc 19)], none⟩,
  ⟨(.loc 23), (.ext 1), [(.loc 19)], none⟩,
  ⟨(.var 6), (.newb [(.int .i64 0), (.int .i64 0), (.int .i64 0)]), [], none⟩,
  ⟨.none, (.st 3), [(.var 6), (.loc 22)], none⟩,
  ⟨(.var 7), .mv, [(.loc 23)], none⟩]
@[reducible] noncomputable def r3_3 : List RO := [
  ⟨(.loc 24), .mv, [(.var 7)], none⟩,
  ⟨(.loc 25), (.bin .eql), [(.loc 24), (.con (.int .i64 0))], none⟩,
  ⟨(.loc 26), .mv, [(.var 0)], none⟩,
  ⟨(.loc 27), (.bin .geq), [(.loc 26), (.con (.int .i64 0))], none⟩,
  ⟨(.loc 28), .mv, [(.loc 27)], none⟩,
  ⟨(.loc 29), .mv, [(.var 0)], (some ((.loc 28), true))⟩,
  ⟨(.loc 30), (.bin .leq), [(.loc 29), (.con (.int .i64 40000))], (some ((.loc 28), true))⟩,
  ⟨(.loc 31), .pick, [(.loc 28), (.loc 30), (.con (.bool false))], none⟩,
  ⟨(.var 14), (.eqB true), [(.loc 25), (.loc 31)], none⟩]
@[reducible] noncomputable def r3_4 : List RO := [
  ⟨(.var 4), .mv, [(.con (.bool false))], none⟩]
@[reducible] noncomputable def r3_5 : List RO := [
  ⟨(.loc 33), .mv, [(.var 7)], none⟩,
  ⟨(.var 15), (.bin .eql), [(.loc 33), (.con (.int .i64 0))], none⟩]
@[reducible] noncomputable def r3_6 : List RO := [
  ⟨(.loc 36), (.fld 0), [(.var 6)], none⟩,
  ⟨(.loc 37), (.ld false 1), [(.loc 36)], none⟩,
  ⟨(.loc 38), (.fld 1), [(.var 6)], none⟩,
  ⟨(.loc 39), (.ld false 1), [(.loc 38)], none⟩,
  ⟨(.loc 40), (.fld 2), [(.var 6)], none⟩,
  ⟨(.loc 41), (.ld false 1), [(.loc 40)], none⟩,
  ⟨(.loc 42), .call, [(.con (.fn (.func 10) [] [])), (.loc 37), (.loc 39), (.loc 41)], none⟩,
  ⟨(.loc 35), .mv, [(.loc 42)], none⟩,
  ⟨(.loc 43), (.ext 0), [(.loc 35)], none⟩,
  ⟨(.loc 44), (.ext 1), [(.loc 35)], none⟩,
  ⟨(.var 8), .mv, [(.loc 43)], none⟩,
  ⟨(.var 9), .mv, [(.loc 44)], none⟩]
@[reducible] noncomputable def r3_7 : List RO := [
  ⟨(.loc 45), .mv, [(.var 9)], none⟩,
  ⟨(.loc 46), (.bin .neq), [(.loc 45), (.con (.int .i64 0))], none⟩,
  ⟨(.loc 47), .mv, [(.loc 46)], none⟩,
  ⟨(.loc 48), .mv, [(.var 8)], (some ((.loc 47), false))⟩,
  ⟨(.loc 49), .mv, [(.var 0)], (some ((.loc 47), false))⟩,
  ⟨(.loc 50), (.bin .neq), [(.loc 48), (.loc 49)], (some ((.loc 47), false))⟩,
  ⟨(.loc 51), .pick, [(.loc 47), (.con (.bool true)), (.loc 50)], none⟩,
  ⟨(.loc 52), .mv, [(.loc 51)], none⟩,
  ⟨(.loc 53), (.fld 1), [(.var 6)], (some ((.loc 52), false))⟩,
  ⟨(.loc 54), (.ld false 1), [(.loc 53)], (some ((.loc 52), false))⟩,
  ⟨(.loc 55), (.bin .lss), [(.loc 54), (.con (.int .i64 1))], (some ((.loc 52), false))⟩,
  ⟨(.loc 56), .pick, [(.loc 52), (.con (.bool true)), (.loc 55)], none⟩,
  ⟨(.loc 57), .mv, [(.loc 56)], none⟩,
  ⟨(.loc 58), (.fld 1), [(.var 6)], (some ((.loc 57), false))⟩,
  ⟨(.loc 59), (.ld false 1), [(.loc 58)], (some ((.loc 57), false))⟩,
  ⟨(.loc 60), (.bin .gtr), [(.loc 59), (.con (.int .i64 12))], (some ((.loc 57), false))⟩,
  ⟨(.loc 61), .pick, [(.loc 57), (.con (.bool true)), (.loc 60)], none⟩,
  ⟨(.loc 62), .mv, [(.loc 61)], none⟩,
  ⟨(.loc 63), (.fld 2), [(.var 6)], (some ((.loc 62), false))⟩,
  ⟨(.loc 64), (.ld false 1), [(.loc 63)], (some ((.loc 62), false))⟩,
  ⟨(.loc 65), (.bin .lss), [(.loc 64), (.con (.int .i64 1))], (some ((.loc 62), false))⟩,
  ⟨(.loc 66), .pick, [(.loc 62), (.con (.bool true)), (.loc 65)], none⟩,
  ⟨(.loc 67), .mv, [(.loc 66)], none⟩,
  ⟨(.loc 68), (.fld 2), [(.var 6)], (some ((.loc 67), false))⟩,
  ⟨(.loc 69), (.ld false 1), [(.loc 68)], (some ((.loc 67), false))⟩,
  ⟨(.loc 70), (.bin .gtr), [(.loc 69), (.con (.int .i64 31))], (some ((.loc 67), false))⟩,
  ⟨(.var 16), .pick, [(.loc 67), (.con (.bool true)), (.loc 70)], none⟩]
@[reducible] noncomputable def r3_8 : List RO := [
  ⟨(.var 4), .mv, [(.con (.bool false))], none⟩]
@[reducible] noncomputable def r3_9 : List RO := [
  ⟨(.loc 73), .mv, [(.var 1)], none⟩,
  ⟨(.loc 74), .mv, [(.var 2)], none⟩,
  ⟨(.loc 75), .mv, [(.var 3)], none⟩,
  ⟨(.loc 76), .call, [(.con (.fn (.func 10) [] [])), (.loc 73), (.loc 74), (.loc 75)], none⟩,
  ⟨(.loc 72), .mv, [(.loc 76)], none⟩,
  ⟨(.loc 77), (.ext 0), [(.loc 72)], none⟩,
  ⟨(.loc 78), (.ext 1), [(.loc 72)], none⟩,
  ⟨(.var 10), .mv, [(.loc 77)], none⟩,
  ⟨(.var 11), .mv, [(.loc 78)], none⟩]
@[reducible] noncomputable def r3_10 : List RO := [
  ⟨(.loc 79), .mv, [(.var 11)], none⟩,
  ⟨(.var 17), (.bin .neq), [(.loc 79), (.con (.int .i64 0))], none⟩]
@[reducible] noncomputable def r3_11 : List RO := [
  ⟨(.loc 81), .mv, [(.var 5)], none⟩,
  ⟨(.loc 82), .mv, [(.loc 81)], none⟩,
  ⟨(.loc 83), .mv, [(.var 10)], (some ((.loc 82), true))⟩,
  ⟨(.loc 84), (.bin .eql), [(.loc 83), (.con (.int .i64 0))], (some ((.loc 82), true))⟩,
  ⟨(.loc 85), .pick, [(.loc 82), (.loc 84), (.con (.bool false))], none⟩,
  ⟨(.loc 86), .mv, [(.loc 85)], none⟩,
  ⟨(.loc 87), .mv, [(.var 7)], (some ((.loc 86), true))⟩,
  ⟨(.loc 88), (.bin .eql), [(.loc 87), (.con (.int .i64 0))], (some ((.loc 86), true))⟩,
  ⟨(.loc 89), .mv, [(.loc 88)], (some ((.loc 86), true))⟩,
  ⟨(.loc 90), (.ld true 3), [(.var 6)], (some ((.loc 89), false))⟩,
  ⟨(.loc 91), (.bld [(.int .i64 0), (.int .i64 0), (.int .i64 0)] []), [], (some ((.loc 89), false))⟩,
  ⟨(.loc 92), (.eqA false [.int, .int, .int]), [(.loc 90), (.loc 91)], (some ((.loc 89), false))⟩,
  ⟨(.loc 93), .pick, [(.loc 89), (.con (.bool true)), (.loc 92)], (some ((.loc 86), true))⟩,
  ⟨(.loc 94), .pick, [(.loc 86), (.loc 93), (.con (.bool false))], none⟩,
  ⟨(.var 4), .mv, [(.loc 94)], none⟩]
@[reducible] noncomputable def r3_12 : List RO := [
  ⟨(.loc 96), .mv, [(.var 10)], none⟩,
  ⟨(.loc 97), .call, [(.con (.fn (.func 9) [] [])), (.loc 96)], none⟩,
  ⟨(.loc 95), .mv, [(.loc 97)], none⟩,
  ⟨(.loc 98), (.ext 0), [(.loc 95)], none⟩,
  ⟨(.loc 99), (.ext 1), [(.loc 95)], none⟩,
  ⟨(.var 12), (.newb [(.int .i64 0), (.int .i64 0), (.int .i64 0)]), [], none⟩,
  ⟨.none, (.st 3), [(.var 12), (.loc 98)], none⟩,
  ⟨(.var 13), .mv, [(.loc 99)], none⟩]
@[reducible] noncomputable def r3_13 : List RO := [
  ⟨(.loc 100), .mv, [(.var 5)], none⟩,
  ⟨(.loc 101), .mv, [(.loc 100)], none⟩,
  ⟨(.loc 102), .mv, [(.var 13)], (some ((.loc 101), true))⟩,
  ⟨(.loc 103), (.bin .eql), [(.loc 102), (.con (.int .i64 0))], (some ((.loc 101), true))⟩,
  ⟨(.loc 104), .pick, [(.loc 101), (.loc 103), (.con (.bool false))], none⟩,
  ⟨(.loc 105), .mv, [(.loc 104)], none⟩,
  ⟨(.loc 106), (.ld true 3), [(.var 12)], (some ((.loc 105), true))⟩,
  ⟨(.loc 107), .mv, [(.var 1)], (some ((.loc 105), true))⟩,
  ⟨(.loc 108), .mv, [(.var 2)], (some ((.loc 105), true))⟩,
  ⟨(.loc 109), .mv, [(.var 3)], (some ((.loc 105), true))⟩,
  ⟨(.loc 110), (.bld [(.int .i64 0), (.int .i64 0), (.int .i64 0)] [(0, 1), (1, 1), (2, 1)]), [(.loc 107), (.loc 108), (.loc 109)], (some ((.loc 105), true))⟩,
  ⟨(.loc 111), (.eqA false [.int, .int, .int]), [(.loc 106), (.loc 110)], (some ((.loc 105), true))⟩,
  ⟨(.loc 112), .pick, [(.loc 105), (.loc 111), (.con (.bool false))], none⟩,
  ⟨(.var 4), .mv, [(.loc 112)], none⟩]
theorem P3 : C3.M = M := by unfold C3 E3; rfl
theorem pe3 {n m : Nat} : (E3 n m).M = M := by unfold E3; rfl
theorem i3 {a0 a1 a2 a3 : D} : St.init C3 [a0, a1, a2, a3] ⟨[], []⟩ = ⟨[a0, a1, a2, a3, .undef, .undef, .undef, .undef, .undef, .undef, .undef, .undef, .undef, .undef, .undef, .undef, .undef, .undef], [], ⟨[], []⟩⟩ := by unfold C3 E3; rfl
theorem ie3 {n m : Nat} {hp : Hp} {a0 a1 a2 a3 : D} : St.init (E3 n m) [a0, a1, a2, a3] hp = ⟨[a0, a1, a2, a3, .undef, .undef, .undef, .undef, .undef, .undef, .undef, .undef, .undef, .undef, .undef, .undef, .undef, .undef], [], hp⟩ := by unfold E3; rfl
noncomputable def c3 : RC := (.seq (.reg r3_0) (.seq (.reg r3_1) (.seq (.reg r3_2) (.seq (.seq (.reg r3_3) (.cond (.var 14) (.seq (.reg r3_4) .ret) .skip)) (.seq (.seq (.reg r3_5) (.cond (.var 15) (.seq (.reg r3_6) (.seq (.reg r3_7) (.cond (.var 16) (.seq (.reg r3_8) .ret) .skip))) .skip)) (.seq (.reg r3_9) (.seq (.seq (.reg r3_10) (.cond (.var 17) (.seq (.reg r3_11) .ret) .skip)) (.seq (.reg r3_12) (.seq (.reg r3_13) .ret)))))))))
noncomputable def q3 : List RR := [(.slot (.var 4))]
theorem z3 {n m : Nat} : resCode (E3 n m) (Tryd.f3.body.getD .skip) = some c3 := by kernel_rfl
theorem zr3 {n m : Nat} : resRs (E3 n m) Tryd.f3.results.toList = some q3 := by kernel_rfl
theorem oe3 {args : List D} {hp : Hp} {R : D → Hp → Prop} (n m : Nat) (hl : args.length = 4) (hn : n = hp.H.length) (hm : m = hp.tk.length) (h : SWp (E3 n m) c3 (fun e s => (match e with | .exit _ => False | _ => True) ∧ ∃ s1, Weak (E3 n m) s s1 ∧ rrsWp q3 s1 fun ds => R (oneOrTup ds) s1.hp) (St.init (E3 n m) args hp)) : Eff M 3 args hp R :=
  eff_of_body (C := E3 n m) (fn := Tryd.f3) Tryd.func3 (by kernel_rfl) (by kernel_rfl) (rc := c3) z3 (rs := q3) zr3 (by kernel_rfl) (by rw [hl]; rfl) (by rw [hl]; exact (by decide : 4 ≤ 113)) hn hm h
theorem ow3 {args : List D} {d : D} (hl : args.length = 4) (h : SWp C3 c3 (fun e s => (match e with | .exit _ => False | _ => True) ∧ ∃ s1, Weak C3 s s1 ∧ rrsWp q3 s1 fun ds => D.closed (oneOrTup ds) = true ∧ (oneOrTup ds).er = d) (St.init C3 args ⟨[], []⟩)) : Pur M 3 args d :=
  pur_of_bodyW (C := C3) (fn := Tryd.f3) Tryd.func3 (by kernel_rfl) (by kernel_rfl) (rc := c3) z3 (rs := q3) zr3 (by kernel_rfl) (by rw [hl]; rfl) (by rw [hl]; decide) rfl rfl h
theorem ok3 {args : List D} {d : D} (hl : args.length = 4) (h : SWp C3 c3 (fun e s => (match e with | .exit _ => False | _ => True) ∧ rrsWp q3 s fun ds => D.closed (oneOrTup ds) = true ∧ (oneOrTup ds).er = d) (St.init C3 args ⟨[], []⟩)) : Pur M 3 args d :=
  pur_of_body (C := C3) (fn := Tryd.f3) Tryd.func3 (by kernel_rfl) (by kernel_rfl) (rc := c3) z3 (rs := q3) zr3 (by kernel_rfl) (by rw [hl]; rfl) (by rw [hl]; decide) rfl rfl h

/- 4 bogie.bogielaw06.DayNext · 1 arguments · kept slots [0, 2, 3, 4, 5, 6, 7, 8, 10, 12, 13, 34, 59, 85] -/
noncomputable def E4 (n m : Nat) : Cfg := ⟨M, [0, 2, 3, 4, 5, 6, 7, 8, 10, 12, 13, 34, 59, 85], 104, n, m⟩
noncomputable def C4 : Cfg := E4 0 0
@[reducible] noncomputable def r4_0 : List RO := [
  ⟨(.var 1), .mv, [(.con (.bool false))], none⟩]
@[reducible] noncomputable def r4_1 : List RO := [
  ⟨(.loc 14), .call, [(.con (.fn (.func 8) [] []))], none⟩,
  ⟨(.var 2), .mv, [(.loc 14)], none⟩]
@[reducible] noncomputable def r4_2 : List RO := [
  ⟨(.loc 15), .mv, [(.var 0)], none⟩,
  ⟨(.loc 16), (.cvI .i64), [(.loc 15)], none⟩,
  ⟨(.loc 17), (.bin .rem), [(.loc 16), (.con (.int .i64 40000))], none⟩,
  ⟨(.var 3), .mv, [(.loc 17)], none⟩]
@[reducible] noncomputable def r4_3 : List RO := [
  ⟨(.loc 19), .mv, [(.var 3)], none⟩,
  ⟨(.loc 20), .call, [(.con (.fn (.func 9) [] [])), (.loc 19)], none⟩,
  ⟨(.loc 18), .mv, [(.loc 20)], none⟩,
  ⟨(.loc 21), (.ext 0), [(.loc 18)], none⟩,
  ⟨(.loc 22), (.ext 1), [(.loc 18)], none⟩,
  ⟨(.var 4), (.newb [(.int .i64 0), (.int .i64 0), (.int .i64 0)]), [], none⟩,
  ⟨.none, (.st 3), [(.var 4), (.loc 21)], none⟩,
  ⟨(.var 5), .mv, [(.loc 22)], none⟩]
@[reducible] noncomputable def r4_4 : List RO := [
  ⟨(.loc 24), .mv, [(.var 3)], none⟩,
  ⟨(.loc 25), (.bin .add), [(.loc 24), (.con (.int .i64 1))], none⟩,
  ⟨(.loc 26), .call, [(.con (.fn (.func 9) [] [])), (.loc 25)], none⟩,
  ⟨(.loc 23), .mv, [(.loc 26)], none⟩,
  ⟨(.loc 27), (.ext 0), [(.loc 23)], none⟩,
  ⟨(.loc 28), (.ext 1), [(.loc 23)], none⟩,
  ⟨(.var 6), (.newb [(.int .i64 0), (.int .i64 0), (.int .i64 0)]), [], none⟩,
  ⟨.none, (.st 3), [(.var 6), (.loc 27)], none⟩,
  ⟨(.var 7), .mv, [(.loc 28)], none⟩]
@[reducible] noncomputable def r4_5 : List RO := [
  ⟨(.loc 29), .mv, [(.var 5)], none⟩,
  ⟨(.loc 30), (.bin .neq), [(.loc 29), (.con (.int .i64 0))], none⟩,
  ⟨(.loc 31), .mv, [(.loc 30)], none⟩,
  ⟨(.loc 32), .mv, [(.var 7)], (some ((.loc 31), false))⟩,
  ⟨(.loc 33), (.bin .neq), [(.loc 32), (.con (.int .i64 0))], (some ((.loc 31), false))⟩,
  ⟨(.var 11), .pick, [(.loc 31), (.con (.bool true)), (.loc 33)], none⟩]
@[reducible] noncomputable def r4_6 : List RO := [
  ⟨(.var 1), .mv, [(.con (.bool false))], none⟩]
@[reducible] noncomputable def r4_7 : List RO := [
  ⟨(.loc 36), (.fld 0), [(.var 4)], none⟩,
  ⟨(.loc 37), (.ld false 1), [(.loc 36)], none⟩,
  ⟨(.loc 38), (.fld 1), [(.var 4)], none⟩,
  ⟨(.loc 39), (.ld false 1), [(.loc 38)], none⟩,
  ⟨(.loc 40), (.fld 2), [(.var 4)], none⟩,
  ⟨(.loc 41), (.ld false 1), [(.loc 40)], none⟩,
  ⟨(.loc 42), (.bin .add), [(.loc 41), (.con (.int .i64 1))], none⟩,
  ⟨(.loc 43), .call, [(.con (.fn (.func 10) [] [])), (.loc 37), (.loc 39), (.loc 42)], none⟩,
  ⟨(.loc 35), .mv, [(.loc 43)], none⟩,
  ⟨(.loc 44), (.ext 0), [(.loc 35)], none⟩,
  ⟨(.loc 45), (.ext 1), [(.loc 35)], none⟩,
  ⟨(.loc 9), .mv, [(.loc 44)], none⟩,
  ⟨(.var 8), .mv, [(.loc 45)], none⟩]
@[reducible] noncomputable def r4_8 : List RO := [
  ⟨(.loc 47), (.fld 0), [(.var 4)], none⟩,
  ⟨(.loc 48), (.ld false 1), [(.loc 47)], none⟩,
  ⟨(.loc 49), (.bin .add), [(.loc 48), (.con (.int .i64 400))], none⟩,
  ⟨(.loc 50), (.fld 1), [(.var 4)], none⟩,
  ⟨(.loc 51), (.ld false 1), [(.loc 50)], none⟩,
  ⟨(.loc 52), (.fld 2), [(.var 4)], none⟩,
  ⟨(.loc 53), (.ld false 1), [(.loc 52)], none⟩,
  ⟨(.loc 54), (.bin .add), [(.loc 53), (.con (.int .i64 1))], none⟩,
  ⟨(.loc 55), .call, [(.con (.fn (.func 10) [] [])), (.loc 49), (.loc 51), (.loc 54)], none⟩,
  ⟨(.loc 46), .mv, [(.loc 55)], none⟩,
  ⟨(.loc 56), (.ext 0), [(.loc 46)], none⟩,
  ⟨(.loc 57), (.ext 1), [(.loc 46)], none⟩,
  ⟨(.loc 11), .mv, [(.loc 56)], none⟩,
  ⟨(.var 9), .mv, [(.loc 57)], none⟩]
@[reducible] noncomputable def r4_9 : List RO := [
  ⟨(.loc 58), .mv, [(.var 8)], none⟩,
  ⟨(.var 12), (.bin .eql), [(.loc 58), (.con (.int .i64 0))], none⟩]
@[reducible] noncomputable def r4_10 : List RO := [
  ⟨(.loc 60), .mv, [(.var 2)], none⟩,
  ⟨(.loc 61), .mv, [(.loc 60)], none⟩,
  ⟨(.loc 62), (.ld true 3), [(.var 6)], (some ((.loc 61), true))⟩,
  ⟨(.loc 63), (.fld 0), [(.var 4)], (some ((.loc 61), true))⟩,
  ⟨(.loc 64), (.ld false 1), [(.loc 63)], (some ((.loc 61), true))⟩,
  ⟨(.loc 65), (.fld 1), [(.var 4)], (some ((.loc 61), true))⟩,
  ⟨(.loc 66), (.ld false 1), [(.loc 65)], (some ((.loc 61), true))⟩,
  ⟨(.loc 67), (.fld 2), [(.var 4)], (some ((.loc 61), true))⟩,
  ⟨(.loc 68), (.ld false 1), [(.loc 67)], (some ((.loc 61), true))⟩,
  ⟨(.loc 69), (.bin .add), [(.loc 68), (.con (.int .i64 1))], (some ((.loc 61), true))⟩,
  ⟨(.loc 70), (.bld [(.int .i64 0), (.int .i64 0), (.int .i64 0)] [(0, 1), (1, 1), (2, 1)]), [(.loc 64), (.loc 66), (.loc 69)], (some ((.loc 61), true))⟩,
  ⟨(.loc 71), (.eqA false [.int, .int, .int]), [(.loc 62), (.loc 70)], (some ((.loc 61), true))⟩,
  ⟨(.loc 72), .pick, [(.loc 61), (.loc 71), (.con (.bool false))], none⟩,
  ⟨(.loc 73), .mv, [(.loc 72)], none⟩,
  ⟨(.loc 74), .mv, [(.var 9)], (some ((.loc 73), true))⟩,
  ⟨(.loc 75), (.bin .eql), [(.loc 74), (.con (.int .i64 13))], (some ((.loc 73), true))⟩,
  ⟨(.loc 76), .pick, [(.loc 73), (.loc 75), (.con (.bool false))], none⟩,
  ⟨(.var 1), .mv, [(.loc 76)], none⟩]
@[reducible] noncomputable def r4_11 : List RO := [
  ⟨(.loc 77), (.fld 0), [(.var 4)], none⟩,
  ⟨(.loc 78), (.ld false 1), [(.loc 77)], none⟩,
  ⟨(.loc 79), (.fld 1), [(.var 4)], none⟩,
  ⟨(.loc 80), (.ld false 1), [(.loc 79)], none⟩,
  ⟨(.loc 81), (.bin .add), [(.loc 80), (.con (.int .i64 1))], none⟩,
  ⟨(.loc 82), (.bld [(.int .i64 0), (.int .i64 0), (.int .i64 0)] [(0, 1), (1, 1), (2, 1)]), [(.loc 78), (.loc 81), (.con (.int .i64 1))], none⟩,
  ⟨(.var 10), (.newb [(.int .i64 0), (.int .i64 0), (.int .i64 0)]), [], none⟩,
  ⟨.none, (.st 3), [(.var 10), (.loc 82)], none⟩]
@[reducible] noncomputable def r4_12 : List RO := [
  ⟨(.loc 83), (.fld 1), [(.var 4)], none⟩,
  ⟨(.loc 84), (.ld false 1), [(.loc 83)], none⟩,
  ⟨(.var 13), (.bin .eql), [(.loc 84), (.con (.int .i64 12))], none⟩]
@[reducible] noncomputable def r4_13 : List RO := [
  ⟨(.loc 86), (.fld 0), [(.var 4)], none⟩,
  ⟨(.loc 87), (.ld false 1), [(.loc 86)], none⟩,
  ⟨(.loc 88), (.bin .add), [(.loc 87), (.con (.int .i64 1))], none⟩,
  ⟨(.loc 89), (.bld [(.int .i64 0), (.int .i64 0), (.int .i64 0)] [(0, 1), (1, 1), (2, 1)]), [(.loc 88), (.con (.int .i64 1)), (.con (.int .i64 1))], none⟩,
  ⟨.none, (.st 3), [(.var 10), (.loc 89)], none⟩]
@[reducible] noncomputable def r4_14 : List RO := [
  ⟨(.loc 90), .mv, [(.var 2)], none⟩,
  ⟨(.loc 91), .mv, [(.loc 90)], none⟩,
  ⟨(.loc 92), .mv, [(.var 8)], (some ((.loc 91), true))⟩,
  ⟨(.loc 93), (.bin .eql), [(.loc 92), (.con (.int .i64 1))], (some ((.loc 91), true))⟩,
  ⟨(.loc 94), .pick, [(.loc 91), (.loc 93), (.con (.bool false))], none⟩,
  ⟨(.loc 95), .mv, [(.loc 94)], none⟩,
  ⟨(.loc 96), .mv, [(.var 9)], (some ((.loc 95), true))⟩,
  ⟨(.loc 97), (.bin .eql), [(.loc 96), (.con (.int .i64 1))], (some ((.loc 95), true))⟩,
  ⟨(.loc 98), .pick, [(.loc 95), (.loc 97), (.con (.bool false))], none⟩,
  ⟨(.loc 99), .mv, [(.loc 98)], none⟩,
  ⟨(.loc 100), (.ld true 3), [(.var 6)], (some ((.loc 99), true))⟩,
  ⟨(.loc 101), (.ld true 3), [(.var 10)], (some ((.loc 99), true))⟩,
  ⟨(.loc 102), (.eqA false [.int, .int, .int]), [(.loc 100), (.loc 101)], (some ((.loc 99), true))⟩,
  ⟨(.loc 103), .pick, [(.loc 99), (.loc 102), (.con (.bool false))], none⟩,
  ⟨(.var 1), .mv, [(.loc 103)], none⟩]
theorem P4 : C4.M = M := by unfold C4 E4; rfl
theorem pe4 {n m : Nat} : (E4 n m).M = M := by unfold E4; rfl
theorem i4 {a0 : D} : St.init C4 [a0] ⟨[], []⟩ = ⟨[a0, .undef, .undef, .undef, .undef, .undef, .undef, .undef, .undef, .undef, .undef, .undef, .undef, .undef], [], ⟨[], []⟩⟩ := by unfold C4 E4; rfl
theorem ie4 {n m : Nat} {hp : Hp} {a0 : D} : St.init (E4 n m) [a0] hp = ⟨[a0, .undef, .undef, .undef, .undef, .undef, .undef, .undef, .undef, .undef, .undef, .undef, .undef, .undef], [], hp⟩ := by unfold E4; rfl
noncomputable def c4 : RC := (.seq (.reg r4_0) (.seq (.reg r4_1) (.seq (.reg r4_2) (.seq (.reg r4_3) (.seq (.reg r4_4) (.seq (.seq (.reg r4_5) (.cond (.var 11) (.seq (.reg r4_6) .ret) .skip)) (.seq (.reg r4_7) (.seq (.reg r4_8) (.seq (.seq (.reg r4_9) (.cond (.var 12) (.seq (.reg r4_10) .ret) .skip)) (.seq (.reg r4_11) (.seq (.seq (.reg r4_12) (.cond (.var 13) (.reg r4_13) .skip)) (.seq (.reg r4_14) .ret))))))))))))
noncomputable def q4 : List RR := [(.slot (.var 1))]
theorem z4 {n m : Nat} : resCode (E4 n m) (Tryd.f4.body.getD .skip) = some c4 := by kernel_rfl
theorem zr4 {n m : Nat} : resRs (E4 n m) Tryd.f4.results.toList = some q4 := by kernel_rfl
theorem oe4 {args : List D} {hp : Hp} {R : D → Hp → Prop} (n m : Nat) (hl : args.length = 1) (hn : n = hp.H.length) (hm : m = hp.tk.length) (h : SWp (E4 n m) c4 (fun e s => (match e with | .exit _ => False | _ => True) ∧ ∃ s1, Weak (E4 n m) s s1 ∧ rrsWp q4 s1 fun ds => R (oneOrTup ds) s1.hp) (St.init (E4 n m) args hp)) : Eff M 4 args hp R :=
  eff_of_body (C := E4 n m) (fn := Tryd.f4) Tryd.func4 (by kernel_rfl) (by kernel_rfl) (rc := c4) z4 (rs := q4) zr4 (by kernel_rfl) (by rw [hl]; rfl) (by rw [hl]; exact (by decide : 1 ≤ 104)) hn hm h
theorem ow4 {args : List D} {d : D} (hl : args.length = 1) (h : SWp C4 c4 (fun e s => (match e with | .exit _ => False | _ => True) ∧ ∃ s1, Weak C4 s s1 ∧ rrsWp q4 s1 fun ds => D.closed (oneOrTup ds) = true ∧ (oneOrTup ds).er = d) (St.init C4 args ⟨[], []⟩)) : Pur M 4 args d :=
  pur_of_bodyW (C := C4) (fn := Tryd.f4) Tryd.func4 (by kernel_rfl) (by kernel_rfl) (rc := c4) z4 (rs := q4) zr4 (by kernel_rfl) (by rw [hl]; rfl) (by rw [hl]; decide) rfl rfl h
theorem ok4 {args : List D} {d : D} (hl : args.length = 1) (h : SWp C4 c4 (fun e s => (match e with | .exit _ => False | _ => True) ∧ rrsWp q4 s fun ds => D.closed (oneOrTup ds) = true ∧ (oneOrTup ds).er = d) (St.init C4 args ⟨[], []⟩)) : Pur M 4 args d :=
  pur_of_body (C := C4) (fn := Tryd.f4) Tryd.func4 (by kernel_rfl) (by kernel_rfl) (rc := c4) z4 (rs := q4) zr4 (by kernel_rfl) (by rw [hl]; rfl) (by rw [hl]; decide) rfl rfl h

/- 5 bogie.bogielaw06.DayMonths · 2 arguments · kept slots [0, 1, 4, 5, 6, 7, 8, 9, 10, 11, 12, 13, 15, 16, 17, 47, 49, 98, 103, 116] -/
noncomputable def E5 (n m : Nat) : Cfg := ⟨M, [0, 1, 4, 5, 6, 7, 8, 9, 10, 11, 12, 13, 15, 16, 17, 47, 49, 98, 103, 116], 140, n, m⟩
noncomputable def C5 : Cfg := E5 0 0
@[reducible] noncomputable def r5_0 : List RO := [
  ⟨(.var 2), .mv, [(.con (.bool false))], none⟩]
@[reducible] noncomputable def r5_1 : List RO := [
  ⟨(.loc 18), .call, [(.con (.fn (.func 8) [] []))], none⟩,
  ⟨(.var 3), .mv, [(.loc 18)], none⟩]
@[reducible] noncomputable def r5_2 : List RO := [
  ⟨(.loc 20), .mv, [(.var 0)], none⟩,
  ⟨(.loc 21), .mv, [(.var 1)], none⟩,
  ⟨(.loc 22), .call, [(.con (.fn (.func 11) [] [])), (.loc 20), (.loc 21)], none⟩,
  ⟨(.loc 19), .mv, [(.loc 22)], none⟩,
  ⟨(.loc 23), (.ext 0), [(.loc 19)], none⟩,
  ⟨(.loc 24), (.ext 1), [(.loc 19)], none⟩,
  ⟨(.var 4), .mv, [(.loc 23)], none⟩,
  ⟨(.var 5), .mv, [(.loc 24)], none⟩]
@[reducible] noncomputable def r5_3 : List RO := [
  ⟨(.loc 26), .mv, [(.var 0)], none⟩,
  ⟨(.loc 27), .call, [(.con (.fn (.func 11) [] [])), (.loc 26), (.con (.int .i64 0))], none⟩,
  ⟨(.loc 25), .mv, [(.loc 27)], none⟩,
  ⟨(.loc 28), (.ext 0), [(.loc 25)], none⟩,
  ⟨(.loc 29), (.ext 1), [(.loc 25)], none⟩,
  ⟨(.var 6), .mv, [(.loc 28)], none⟩,
  ⟨(.var 7), .mv, [(.loc 29)], none⟩]
@[reducible] noncomputable def r5_4 : List RO := [
  ⟨(.loc 30), .mv, [(.var 7)], none⟩,
  ⟨(.loc 31), (.bin .eql), [(.loc 30), (.con (.int .i64 0))], none⟩,
  ⟨(.loc 32), .mv, [(.loc 31)], none⟩,
  ⟨(.loc 33), .mv, [(.var 6)], (some ((.loc 32), true))⟩,
  ⟨(.loc 34), .mv, [(.var 0)], (some ((.loc 32), true))⟩,
  ⟨(.loc 35), (.bin .neq), [(.loc 33), (.loc 34)], (some ((.loc 32), true))⟩,
  ⟨(.loc 36), .pick, [(.loc 32), (.loc 35), (.con (.bool false))], none⟩,
  ⟨(.loc 37), .mv, [(.loc 36)], none⟩,
  ⟨(.loc 38), .mv, [(.var 7)], (some ((.loc 37), false))⟩,
  ⟨(.loc 39), (.bin .eql), [(.loc 38), (.con (.int .i64 0))], (some ((.loc 37), false))⟩,
  ⟨(.loc 40), .mv, [(.var 0)], (some ((.loc 37), false))⟩,
  ⟨(.loc 41), (.bin .geq), [(.loc 40), (.con (.int .i64 0))], (some ((.loc 37), false))⟩,
  ⟨(.loc 42), .mv, [(.loc 41)], (some ((.loc 37), false))⟩,
  ⟨(.loc 43), .mv, [(.var 0)], (some ((.loc 42), true))⟩,
  ⟨(.loc 44), (.bin .leq), [(.loc 43), (.con (.int .i64 40000))], (some ((.loc 42), true))⟩,
  ⟨(.loc 45), .pick, [(.loc 42), (.loc 44), (.con (.bool false))], (some ((.loc 37), false))⟩,
  ⟨(.loc 46), (.eqB true), [(.loc 39), (.loc 45)], (some ((.loc 37), false))⟩,
  ⟨(.var 15), .pick, [(.loc 37), (.con (.bool true)), (.loc 46)], none⟩]
@[reducible] noncomputable def r5_5 : List RO := [
  ⟨(.var 2), .mv, [(.con (.bool false))], none⟩]
@[reducible] noncomputable def r5_6 : List RO := [
  ⟨(.loc 48), .mv, [(.var 5)], none⟩,
  ⟨(.var 16), (.bin .neq), [(.loc 48), (.con (.int .i64 0))], none⟩]
@[reducible] noncomputable def r5_7 : List RO := [
  ⟨(.loc 50), .mv, [(.var 3)], none⟩,
  ⟨(.loc 51), .mv, [(.loc 50)], none⟩,
  ⟨(.loc 52), .mv, [(.var 4)], (some ((.loc 51), true))⟩,
  ⟨(.loc 53), (.bin .eql), [(.loc 52), (.con (.int .i64 0))], (some ((.loc 51), true))⟩,
  ⟨(.loc 54), .pick, [(.loc 51), (.loc 53), (.con (.bool false))], none⟩,
  ⟨(.loc 55), .mv, [(.loc 54)], none⟩,
  ⟨(.loc 56), .mv, [(.var 5)], (some ((.loc 55), true))⟩,
  ⟨(.loc 57), (.bin .eql), [(.loc 56), (.con (.int .i64 13))], (some ((.loc 55), true))⟩,
  ⟨(.loc 58), .pick, [(.loc 55), (.loc 57), (.con (.bool false))], none⟩,
  ⟨(.var 2), .mv, [(.loc 58)], none⟩]
@[reducible] noncomputable def r5_8 : List RO := [
  ⟨(.loc 60), .mv, [(.var 0)], none⟩,
  ⟨(.loc 61), .call, [(.con (.fn (.func 9) [] [])), (.loc 60)], none⟩,
  ⟨(.loc 59), .mv, [(.loc 61)], none⟩,
  ⟨(.loc 62), (.ext 0), [(.loc 59)], none⟩,
  ⟨(.loc 63), (.ext 1), [(.loc 59)], none⟩,
  ⟨(.var 8), (.newb [(.int .i64 0), (.int .i64 0), (.int .i64 0)]), [], none⟩,
  ⟨.none, (.st 3), [(.var 8), (.loc 62)], none⟩,
  ⟨(.var 9), .mv, [(.loc 63)], none⟩]
@[reducible] noncomputable def r5_9 : List RO := [
  ⟨(.loc 65), .mv, [(.var 4)], none⟩,
  ⟨(.loc 66), .call, [(.con (.fn (.func 9) [] [])), (.loc 65)], none⟩,
  ⟨(.loc 64), .mv, [(.loc 66)], none⟩,
  ⟨(.loc 67), (.ext 0), [(.loc 64)], none⟩,
  ⟨(.loc 68), (.ext 1), [(.loc 64)], none⟩,
  ⟨(.var 10), (.newb [(.int .i64 0), (.int .i64 0), (.int .i64 0)]), [], none⟩,
  ⟨.none, (.st 3), [(.var 10), (.loc 67)], none⟩,
  ⟨(.var 11), .mv, [(.loc 68)], none⟩]
@[reducible] noncomputable def r5_10 : List RO := [
  ⟨(.loc 69), .mv, [(.var 9)], none⟩,
  ⟨(.loc 70), (.bin .neq), [(.loc 69), (.con (.int .i64 0))], none⟩,
  ⟨(.loc 71), .mv, [(.loc 70)], none⟩,
  ⟨(.loc 72), .mv, [(.var 11)], (some ((.loc 71), false))⟩,
  ⟨(.loc 73), (.bin .neq), [(.loc 72), (.con (.int .i64 0))], (some ((.loc 71), false))⟩,
  ⟨(.loc 74), .pick, [(.loc 71), (.con (.bool true)), (.loc 73)], none⟩,
  ⟨(.loc 75), .mv, [(.loc 74)], none⟩,
  ⟨(.loc 76), (.fld 0), [(.var 10)], (some ((.loc 75), false))⟩,
  ⟨(.loc 77), (.ld false 1), [(.loc 76)], (some ((.loc 75), false))⟩,
  ⟨(.loc 78), (.bin .mul), [(.con (.int .i64 12)), (.loc 77)], (some ((.loc 75), false))⟩,
  ⟨(.loc 79), (.fld 1), [(.var 10)], (some ((.loc 75), false))⟩,
  ⟨(.loc 80), (.ld false 1), [(.loc 79)], (some ((.loc 75), false))⟩,
  ⟨(.loc 81), (.bin .add), [(.loc 78), (.loc 80)], (some ((.loc 75), false))⟩,
  ⟨(.loc 82), (.fld 0), [(.var 8)], (some ((.loc 75), false))⟩,
  ⟨(.loc 83), (.ld false 1), [(.loc 82)], (some ((.loc 75), false))⟩,
  ⟨(.loc 84), (.bin .mul), [(.con (.int .i64 12)), (.loc 83)], (some ((.loc 75), false))⟩,
  ⟨(.loc 85), (.fld 1), [(.var 8)], (some ((.loc 75), false))⟩,
  ⟨(.loc 86), (.ld false 1), [(.loc 85)], (some ((.loc 75), false))⟩,
  ⟨(.loc 87), (.bin .add), [(.loc 84), (.loc 86)], (some ((.loc 75), false))⟩,
  ⟨(.loc 88), .mv, [(.var 1)], (some ((.loc 75), false))⟩,
  ⟨(.loc 89), (.bin .add), [(.loc 87), (.loc 88)], (some ((.loc 75), false))⟩,
  ⟨(.loc 90), (.bin .neq), [(.loc 81), (.loc 89)], (some ((.loc 75), false))⟩,
  ⟨(.loc 91), .pick, [(.loc 75), (.con (.bool true)), (.loc 90)], none⟩,
  ⟨(.loc 92), .mv, [(.loc 91)], none⟩,
  ⟨(.loc 93), (.fld 2), [(.var 10)], (some ((.loc 92), false))⟩,
  ⟨(.loc 94), (.ld false 1), [(.loc 93)], (some ((.loc 92), false))⟩,
  ⟨(.loc 95), (.fld 2), [(.var 8)], (some ((.loc 92), false))⟩,
  ⟨(.loc 96), (.ld false 1), [(.loc 95)], (some ((.loc 92), false))⟩,
  ⟨(.loc 97), (.bin .gtr), [(.loc 94), (.loc 96)], (some ((.loc 92), false))⟩,
  ⟨(.var 17), .pick, [(.loc 92), (.con (.bool true)), (.loc 97)], none⟩]
@[reducible] noncomputable def r5_11 : List RO := [
  ⟨(.var 2), .mv, [(.con (.bool false))], none⟩]
@[reducible] noncomputable def r5_12 : List RO := [
  ⟨(.loc 99), (.fld 2), [(.var 10)], none⟩,
  ⟨(.loc 100), (.ld false 1), [(.loc 99)], none⟩,
  ⟨(.loc 101), (.fld 2), [(.var 8)], none⟩,
  ⟨(.loc 102), (.ld false 1), [(.loc 101)], none⟩,
  ⟨(.var 18), (.bin .lss), [(.loc 100), (.loc 102)], none⟩]
@[reducible] noncomputable def r5_13 : List RO := [
  ⟨(.loc 105), (.fld 0), [(.var 10)], none⟩,
  ⟨(.loc 106), (.ld false 1), [(.loc 105)], none⟩,
  ⟨(.loc 107), (.fld 1), [(.var 10)], none⟩,
  ⟨(.loc 108), (.ld false 1), [(.loc 107)], none⟩,
  ⟨(.loc 109), (.fld 2), [(.var 10)], none⟩,
  ⟨(.loc 110), (.ld false 1), [(.loc 109)], none⟩,
  ⟨(.loc 111), (.bin .add), [(.loc 110), (.con (.int .i64 1))], none⟩,
  ⟨(.loc 112), .call, [(.con (.fn (.func 10) [] [])), (.loc 106), (.loc 108), (.loc 111)], none⟩,
  ⟨(.loc 104), .mv, [(.loc 112)], none⟩,
  ⟨(.loc 113), (.ext 0), [(.loc 104)], none⟩,
  ⟨(.loc 114), (.ext 1), [(.loc 104)], none⟩,
  ⟨(.loc 14), .mv, [(.loc 113)], none⟩,
  ⟨(.var 12), .mv, [(.loc 114)], none⟩]
@[reducible] noncomputable def r5_14 : List RO := [
  ⟨(.loc 115), .mv, [(.var 12)], none⟩,
  ⟨(.var 19), (.bin .neq), [(.loc 115), (.con (.int .i64 1))], none⟩]
@[reducible] noncomputable def r5_15 : List RO := [
  ⟨(.var 2), .mv, [(.con (.bool false))], none⟩]
@[reducible] noncomputable def r5_16 : List RO := [
  ⟨(.loc 118), .mv, [(.var 4)], none⟩,
  ⟨(.loc 119), .mv, [(.var 1)], none⟩,
  ⟨(.loc 120), (.bin .sub), [(.con (.int .i64 0)), (.loc 119)], none⟩,
  ⟨(.loc 121), .call, [(.con (.fn (.func 11) [] [])), (.loc 118), (.loc 120)], none⟩,
  ⟨(.loc 117), .mv, [(.loc 121)], none⟩,
  ⟨(.loc 122), (.ext 0), [(.loc 117)], none⟩,
  ⟨(.loc 123), (.ext 1), [(.loc 117)], none⟩,
  ⟨(.var 13), .mv, [(.loc 122)], none⟩,
  ⟨(.var 14), .mv, [(.loc 123)], none⟩]
@[reducible] noncomputable def r5_17 : List RO := [
  ⟨(.loc 124), .mv, [(.var 3)], none⟩,
  ⟨(.loc 125), .mv, [(.loc 124)], none⟩,
  ⟨(.loc 126), .mv, [(.var 14)], (some ((.loc 125), true))⟩,
  ⟨(.loc 127), (.bin .eql), [(.loc 126), (.con (.int .i64 0))], (some ((.loc 125), true))⟩,
  ⟨(.loc 128), .pick, [(.loc 125), (.loc 127), (.con (.bool false))], none⟩,
  ⟨(.loc 129), .mv, [(.loc 128)], none⟩,
  ⟨(.loc 130), .mv, [(.var 13)], (some ((.loc 129), true))⟩,
  ⟨(.loc 131), .mv, [(.var 0)], (some ((.loc 129), true))⟩,
  ⟨(.loc 132), (.bin .leq), [(.loc 130), (.loc 131)], (some ((.loc 129), true))⟩,
  ⟨(.loc 133), .pick, [(.loc 129), (.loc 132), (.con (.bool false))], none⟩,
  ⟨(.loc 134), .mv, [(.loc 133)], none⟩,
  ⟨(.loc 135), .mv, [(.var 13)], (some ((.loc 134), true))⟩,
  ⟨(.loc 136), .mv, [(.var 0)], (some ((.loc 134), true))⟩,
  ⟨(.loc 137), (.bin .sub), [(.loc 136), (.con (.int .i64 3))], (some ((.loc 134), true))⟩,
  ⟨(.loc 138), (.bin .geq), [(.loc 135), (.loc 137)], (some ((.loc 134), true))⟩,
  ⟨(.loc 139), .pick, [(.loc 134), (.loc 138), (.con (.bool false))], none⟩,
  ⟨(.var 2), .mv, [(.loc 139)], none⟩]
theorem P5 : C5.M = M := by unfold C5 E5; rfl
theorem pe5 {n m : Nat} : (E5 n m).M = M := by unfold E5; rfl
theorem i5 {a0 a1 : D} : St.init C5 [a0, a1] ⟨[], []⟩ = ⟨[a0, a1, .undef, .undef, .undef, .undef, .undef, .undef, .undef, .undef, .undef, .undef, .undef, .undef, .undef, .undef, .undef, .undef, .undef, .undef], [], ⟨[], []⟩⟩ := by unfold C5 E5; rfl
theorem ie5 {n m : Nat} {hp : Hp} {a0 a1 : D} : St.init (E5 n m) [a0, a1] hp = ⟨[a0, a1, .undef, .undef, .undef, .undef, .undef, .undef, .undef, .undef, .undef, .undef, .undef, .undef, .undef, .undef, .undef, .undef, .undef, .undef], [], hp⟩ := by unfold E5; rfl
noncomputable def c5 : RC := (.seq (.reg r5_0) (.seq (.reg r5_1) (.seq (.reg r5_2) (.seq (.reg r5_3) (.seq (.seq (.reg r5_4) (.cond (.var 15) (.seq (.reg r5_5) .ret) .skip)) (.seq (.seq (.reg r5_6) (.cond (.var 16) (.seq (.reg r5_7) .ret) .skip)) (.seq (.reg r5_8) (.seq (.reg r5_9) (.seq (.seq (.reg r5_10) (.cond (.var 17) (.seq (.reg r5_11) .ret) .skip)) (.seq (.seq (.reg r5_12) (.cond (.var 18) (.seq (.reg r5_13) (.seq (.reg r5_14) (.cond (.var 19) (.seq (.reg r5_15) .ret) .skip))) .skip)) (.seq (.reg r5_16) (.seq (.reg r5_17) .ret))))))))))))
noncomputable def q5 : List RR := [(.slot (.var 2))]
theorem z5 {n m : Nat} : resCode (E5 n m) (Tryd.f5.body.getD .skip) = some c5 := by kernel_rfl
theorem zr5 {n m : Nat} : resRs (E5 n m) Tryd.f5.results.toList = some q5 := by kernel_rfl
theorem oe5 {args : List D} {hp : Hp} {R : D → Hp → Prop} (n m : Nat) (hl : args.length = 2) (hn : n = hp.H.length) (hm : m = hp.tk.length) (h : SWp (E5 n m) c5 (fun e s => (match e with | .exit _ => False | _ => True) ∧ ∃ s1, Weak (E5 n m) s s1 ∧ rrsWp q5 s1 fun ds => R (oneOrTup ds) s1.hp) (St.init (E5 n m) args hp)) : Eff M 5 args hp R :=
  eff_of_body (C := E5 n m) (fn := Tryd.f5) Tryd.func5 (by kernel_rfl) (by kernel_rfl) (rc := c5) z5 (rs := q5) zr5 (by kernel_rfl) (by rw [hl]; rfl) (by rw [hl]; exact (by decide : 2 ≤ 140)) hn hm h
theorem ow5 {args : List D} {d : D} (hl : args.length = 2) (h : SWp C5 c5 (fun e s => (match e with | .exit _ => False | _ => True) ∧ ∃ s1, Weak C5 s s1 ∧ rrsWp q5 s1 fun ds => D.closed (oneOrTup ds) = true ∧ (oneOrTup ds).er = d) (St.init C5 args ⟨[], []⟩)) : Pur M 5 args d :=
  pur_of_bodyW (C := C5) (fn := Tryd.f5) Tryd.func5 (by kernel_rfl) (by kernel_rfl) (rc := c5) z5 (rs := q5) zr5 (by kernel_rfl) (by rw [hl]; rfl) (by rw [hl]; decide) rfl rfl h
theorem ok5 {args : List D} {d : D} (hl : args.length = 2) (h : SWp C5 c5 (fun e s => (match e with | .exit _ => False | _ => True) ∧ rrsWp q5 s fun ds => D.closed (oneOrTup ds) = true ∧ (oneOrTup ds).er = d) (St.init C5 args ⟨[], []⟩)) : Pur M 5 args d :=
  pur_of_body (C := C5) (fn := Tryd.f5) Tryd.func5 (by kernel_rfl) (by kernel_rfl) (rc := c5) z5 (rs := q5) zr5 (by kernel_rfl) (by rw [hl]; rfl) (by rw [hl]; decide) rfl rfl h

/- 14 bogie.day.Text · 1 arguments · kept slots [0, 2, 3, 4, 5, 6, 13] -/
noncomputable def E14 (n m : Nat) : Cfg := ⟨M, [0, 2, 3, 4, 5, 6, 13], 28, n, m⟩
noncomputable def C14 : Cfg := E14 0 0
@[reducible] noncomputable def r14_0 : List RO := [
  ⟨(.var 1), .mv, [(.con (.str []))], none⟩,
  ⟨(.var 2), .mv, [(.con (.int .i64 0))], none⟩]
@[reducible] noncomputable def r14_1 : List RO := [
  ⟨(.loc 8), .mv, [(.var 0)], none⟩,
  ⟨(.loc 9), .call, [(.con (.fn (.func 23) [] [])), (.loc 8)], none⟩,
  ⟨(.loc 7), .mv, [(.loc 9)], none⟩,
  ⟨(.loc 10), (.ext 0), [(.loc 7)], none⟩,
  ⟨(.loc 11), (.ext 1), [(.loc 7)], none⟩,
  ⟨(.var 3), (.newb [(.int .i64 0), (.int .i64 0), (.int .i64 0)]), [], none⟩,
  ⟨.none, (.st 3), [(.var 3), (.loc 10)], none⟩,
  ⟨(.var 4), .mv, [(.loc 11)], none⟩]
@[reducible] noncomputable def r14_2 : List RO := [
  ⟨(.loc 12), .mv, [(.var 4)], none⟩,
  ⟨(.var 6), (.bin .neq), [(.loc 12), (.con (.int .i64 0))], none⟩]
@[reducible] noncomputable def r14_3 : List RO := [
  ⟨(.loc 14), .mv, [(.var 4)], none⟩,
  ⟨(.var 1), .mv, [(.con (.str []))], none⟩,
  ⟨(.var 2), .mv, [(.loc 14)], none⟩]
@[reducible] noncomputable def r14_4 : List RO := [
  ⟨(.var 5), .mv, [(.con (.fn (.func 27) [] []))], none⟩]
@[reducible] noncomputable def r14_5 : List (RO × Bool) := [
  (⟨(.loc 15), (.fld 0), [(.var 3)], none⟩, true),
  (⟨(.loc 16), (.ld false 1), [(.loc 15)], none⟩, true),
  (⟨(.loc 17), .call, [(.con (.fn (.func 28) [] [])), (.loc 16)], none⟩, true),
  (⟨(.loc 18), .mv, [(.var 5)], none⟩, true),
  (⟨(.loc 19), (.fld 1), [(.var 3)], none⟩, true),
  (⟨(.loc 20), (.ld false 1), [(.loc 19)], none⟩, true),
  (⟨(.loc 21), .call, [(.loc 18), (.loc 20)], none⟩, true),
  (⟨(.loc 22), (.bin .add), [(.loc 17), (.loc 21)], none⟩, true),
  (⟨(.loc 23), .mv, [(.var 5)], none⟩, true),
  (⟨(.loc 24), (.fld 2), [(.var 3)], none⟩, true),
  (⟨(.loc 25), (.ld false 1), [(.loc 24)], none⟩, true),
  (⟨(.loc 26), .call, [(.loc 23), (.loc 25)], none⟩, false)]
@[reducible] noncomputable def r14_6 : List RO := [
  ⟨(.loc 27), (.bin .add), [(.loc 22), (.loc 26)], none⟩,
  ⟨(.var 1), .mv, [(.loc 27)], none⟩,
  ⟨(.var 2), .mv, [(.con (.int .i64 0))], none⟩]
theorem P14 : C14.M = M := by unfold C14 E14; rfl
theorem pe14 {n m : Nat} : (E14 n m).M = M := by unfold E14; rfl
theorem i14 {a0 : D} : St.init C14 [a0] ⟨[], []⟩ = ⟨[a0, .undef, .undef, .undef, .undef, .undef, .undef], [], ⟨[], []⟩⟩ := by unfold C14 E14; rfl
theorem ie14 {n m : Nat} {hp : Hp} {a0 : D} : St.init (E14 n m) [a0] hp = ⟨[a0, .undef, .undef, .undef, .undef, .undef, .undef], [], hp⟩ := by unfold E14; rfl
noncomputable def c14 : RC := (.seq (.reg r14_0) (.seq (.reg r14_1) (.seq (.seq (.reg r14_2) (.cond (.var 6) (.seq (.reg r14_3) .ret) .skip)) (.seq (.reg r14_4) (.seq (.regD r14_5 r14_6) .ret)))))
noncomputable def q14 : List RR := [(.slot (.var 1)), (.slot (.var 2))]
theorem z14 {n m : Nat} : resCode (E14 n m) (Tryd.f14.body.getD .skip) = some c14 := by kernel_rfl
theorem zr14 {n m : Nat} : resRs (E14 n m) Tryd.f14.results.toList = some q14 := by kernel_rfl
theorem oe14 {args : List D} {hp : Hp} {R : D → Hp → Prop} (n m : Nat) (hl : args.length = 1) (hn : n = hp.H.length) (hm : m = hp.tk.length) (h : SWp (E14 n m) c14 (fun e s => (match e with | .exit _ => False | _ => True) ∧ ∃ s1, Weak (E14 n m) s s1 ∧ rrsWp q14 s1 fun ds => R (oneOrTup ds) s1.hp) (St.init (E14 n m) args hp)) : Eff M 14 args hp R :=
  eff_of_body (C := E14 n m) (fn := Tryd.f14) Tryd.func14 (by kernel_rfl) (by kernel_rfl) (rc := c14) z14 (rs := q14) zr14 (by kernel_rfl) (by rw [hl]; rfl) (by rw [hl]; exact (by decide : 1 ≤ 28)) hn hm h
theorem ow14 {args : List D} {d : D} (hl : args.length = 1) (h : SWp C14 c14 (fun e s => (match e with | .exit _ => False | _ => True) ∧ ∃ s1, Weak C14 s s1 ∧ rrsWp q14 s1 fun ds => D.closed (oneOrTup ds) = true ∧ (oneOrTup ds).er = d) (St.init C14 args ⟨[], []⟩)) : Pur M 14 args d :=
  pur_of_bodyW (C := C14) (fn := Tryd.f14) Tryd.func14 (by kernel_rfl) (by kernel_rfl) (rc := c14) z14 (rs := q14) zr14 (by kernel_rfl) (by rw [hl]; rfl) (by rw [hl]; decide) rfl rfl h
theorem ok14 {args : List D} {d : D} (hl : args.length = 1) (h : SWp C14 c14 (fun e s => (match e with | .exit _ => False | _ => True) ∧ rrsWp q14 s fun ds => D.closed (oneOrTup ds) = true ∧ (oneOrTup ds).er = d) (St.init C14 args ⟨[], []⟩)) : Pur M 14 args d :=
  pur_of_body (C := C14) (fn := Tryd.f14) Tryd.func14 (by kernel_rfl) (by kernel_rfl) (rc := c14) z14 (rs := q14) zr14 (by kernel_rfl) (by rw [hl]; rfl) (by rw [hl]; decide) rfl rfl h

/- 27 bogie.day.Text$1 · 1 arguments · kept slots [0, 2] -/
noncomputable def E27 (n m : Nat) : Cfg := ⟨M, [0, 2], 8, n, m⟩
noncomputable def C27 : Cfg := E27 0 0
@[reducible] noncomputable def r27_0 : List RO := [
  ⟨(.var 1), .mv, [(.con (.str []))], none⟩]
@[reducible] noncomputable def r27_1 : List RO := [
  ⟨(.loc 3), .mv, [(.var 0)], none⟩,
  ⟨(.loc 4), (.bin .add), [(.con (.int .i64 100)), (.loc 3)], none⟩,
  ⟨(.loc 5), .call, [(.con (.fn (.func 28) [] [])), (.loc 4)], none⟩,
  ⟨(.loc 6), (.slcS true false), [(.loc 5), (.con (.int .i64 1))], none⟩,
  ⟨(.loc 7), (.bin .add), [(.con (.str [45])), (.loc 6)], none⟩,
  ⟨(.var 1), .mv, [(.loc 7)], none⟩]
theorem P27 : C27.M = M := by unfold C27 E27; rfl
theorem pe27 {n m : Nat} : (E27 n m).M = M := by unfold E27; rfl
theorem i27 {a0 : D} : St.init C27 [a0] ⟨[], []⟩ = ⟨[a0, .undef], [], ⟨[], []⟩⟩ := by unfold C27 E27; rfl
theorem ie27 {n m : Nat} {hp : Hp} {a0 : D} : St.init (E27 n m) [a0] hp = ⟨[a0, .undef], [], hp⟩ := by unfold E27; rfl
noncomputable def c27 : RC := (.seq (.reg r27_0) (.seq (.reg r27_1) .ret))
noncomputable def q27 : List RR := [(.slot (.var 1))]
theorem z27 {n m : Nat} : resCode (E27 n m) (Tryd.f27.body.getD .skip) = some c27 := by kernel_rfl
theorem zr27 {n m : Nat} : resRs (E27 n m) Tryd.f27.results.toList = some q27 := by kernel_rfl
theorem oe27 {args : List D} {hp : Hp} {R : D → Hp → Prop} (n m : Nat) (hl : args.length = 1) (hn : n = hp.H.length) (hm : m = hp.tk.length) (h : SWp (E27 n m) c27 (fun e s => (match e with | .exit _ => False | _ => True) ∧ ∃ s1, Weak (E27 n m) s s1 ∧ rrsWp q27 s1 fun ds => R (oneOrTup ds) s1.hp) (St.init (E27 n m) args hp)) : Eff M 27 args hp R :=
  eff_of_body (C := E27 n m) (fn := Tryd.f27) Tryd.func27 (by kernel_rfl) (by kernel_rfl) (rc := c27) z27 (rs := q27) zr27 (by kernel_rfl) (by rw [hl]; rfl) (by rw [hl]; exact (by decide : 1 ≤ 8)) hn hm h
theorem ow27 {args : List D} {d : D} (hl : args.length = 1) (h : SWp C27 c27 (fun e s => (match e with | .exit _ => False | _ => True) ∧ ∃ s1, Weak C27 s s1 ∧ rrsWp q27 s1 fun ds => D.closed (oneOrTup ds) = true ∧ (oneOrTup ds).er = d) (St.init C27 args ⟨[], []⟩)) : Pur M 27 args d :=
  pur_of_bodyW (C := C27) (fn := Tryd.f27) Tryd.func27 (by kernel_rfl) (by kernel_rfl) (rc := c27) z27 (rs := q27) zr27 (by kernel_rfl) (by rw [hl]; rfl) (by rw [hl]; decide) rfl rfl h
theorem ok27 {args : List D} {d : D} (hl : args.length = 1) (h : SWp C27 c27 (fun e s => (match e with | .exit _ => False | _ => True) ∧ rrsWp q27 s fun ds => D.closed (oneOrTup ds) = true ∧ (oneOrTup ds).er = d) (St.init C27 args ⟨[], []⟩)) : Pur M 27 args d :=
  pur_of_body (C := C27) (fn := Tryd.f27) Tryd.func27 (by kernel_rfl) (by kernel_rfl) (rc := c27) z27 (rs := q27) zr27 (by kernel_rfl) (by rw [hl]; rfl) (by rw [hl]; decide) rfl rfl h
end Go.Proofs.YtapoplenfgjcjaaDoor
