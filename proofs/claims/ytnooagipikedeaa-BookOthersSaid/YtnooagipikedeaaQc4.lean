/- Own texts, merged by a program: the engine that walks the code, and what the functions that the law reaches compute. -/
import Derived.Test.YtnooagipikedeaaQc3
import Derived.Test.YtnooagipikedeaaProg
import Derived.KernelRfl
import Derived.Lib.ItoaNum
import Derived.Sort.Walk0
import Derived.Test.YtnooagipikedeaaShelf
section
set_option maxRecDepth 100000
namespace Go.Proofs.Ytnooagipikedeaa
open Go GoV
/- 24 bogie.bogieref23.Deciding · 4 arguments · kept slots [0, 1, 2, 3, 8, 9, 10, 11, 15, 49, 61] -/
/- 13 bogie.bogieref23.InForce · 3 arguments · kept slots [0, 1, 2, 6, 7, 8, 9, 10, 14, 35, 54] -/
/- 16 bogie.bogieref23.Days · 2 arguments · kept slots [0, 1, 4, 5, 6, 7, 8, 9, 10, 11, 15, 22, 40, 65, 78] -/
/- 20 bogie.bogielaw23.amend · 5 arguments · kept slots [0, 1, 2, 3, 4, 10] -/
noncomputable def E20 (n m : Nat) : Cfg := ⟨M, [0, 1, 2, 3, 4, 10], 19, n, m, []⟩
noncomputable def C20 : Cfg := E20 0 0
@[reducible] noncomputable def r20_0 : List RO := [
  ⟨.var 5, (.newb [(.int .i64 0), (.int .i64 0), (.int .i64 0), (.bool false), (.str []), (.str []), (.int .i64 0), (.str []), (.str []), (.int .i64 0), (.int .i64 0), (.lit (.slice none 0 0))]), [], none⟩]
@[reducible] noncomputable def r20_1 : List RO := [
  ⟨.loc 11, .mv, [.var 0], none⟩,
  ⟨.loc 12, .mv, [.var 1], none⟩,
  ⟨.loc 13, .mv, [.var 2], none⟩,
  ⟨.loc 14, .mv, [.var 4], none⟩,
  ⟨.loc 15, .mv, [.var 3], none⟩,
  ⟨.loc 16, (.bld [(.int .i64 0), (.str []), (.str []), (.int .i64 0), (.int .i64 0), (.lit (.slice none 0 0))] [(0, 1), (1, 1), (3, 1)]), [.con (.int .i64 6), (.con (.str [107, 109])), .loc 15], none⟩,
  ⟨.loc 17, (.bld [(.str []), (.str []), (.int .i64 0), (.str []), (.str []), (.int .i64 0), (.int .i64 0), (.lit (.slice none 0 0))] [(0, 1), (1, 1), (2, 6)]), [(.con (.str [97])), (.con (.str [107])), .loc 16], none⟩,
  ⟨.loc 18, (.bld [(.int .i64 0), (.int .i64 0), (.int .i64 0), (.bool false), (.str []), (.str []), (.int .i64 0), (.str []), (.str []), (.int .i64 0), (.int .i64 0), (.lit (.slice none 0 0))] [(0, 1), (1, 1), (2, 1), (3, 1), (4, 8)]), [.loc 11, .loc 12, .loc 13, .loc 14, .loc 17], none⟩,
  ⟨.none, .st 12, [.var 5, .loc 18], none⟩]
theorem P20 : C20.M = M := by unfold C20 E20; rfl
theorem i20 {a0 a1 a2 a3 a4 : D} : St.init C20 [a0, a1, a2, a3, a4] ⟨[], []⟩ = ⟨[a0, a1, a2, a3, a4, .undef], [], ⟨[], []⟩⟩ := by unfold C20 E20; rfl
noncomputable def c20 : RC := (.seq (.reg r20_0) (.seq (.reg r20_1) .ret))
noncomputable def q20 : List RR := [(.cell (.var 5) true 12)]
theorem z20 {n m : Nat} : resCode (E20 n m) (Try.f20.body.getD .skip) = some c20 := by kernel_rfl
theorem zr20 {n m : Nat} : resRs (E20 n m) Try.f20.results.toList = some q20 := by kernel_rfl
theorem ok20 {args : List D} {d : D} (hl : args.length = 5) (h : SWp C20 c20 (fun e s => (match e with | .exit _ => False | _ => True) ∧ rrsWp q20 s fun ds => D.closed (oneOrTup ds) = true ∧ (oneOrTup ds).er = d) (St.init C20 args ⟨[], []⟩)) : Pur M 20 args d :=
  pur_of_body (C := C20) (fn := Try.f20) Try.func20 (by kernel_rfl) (by kernel_rfl) (rc := c20) z20 (rs := q20) zr20 (by kernel_rfl) (by rw [hl]; rfl) (by rw [hl]; decide) rfl rfl h
/- 9 bogie.bogielaw23.head · 0 arguments · kept slots [0, 1, 2, 3, 4, 27] -/
noncomputable def E9 (n m : Nat) : Cfg := ⟨M, [0, 1, 2, 3, 4, 27], 48, n, m, []⟩
noncomputable def C9 : Cfg := E9 0 0
@[reducible] noncomputable def r9_0 : List RO := [
  ⟨.var 0, .mv, [.con (.bool false)], none⟩]
@[reducible] noncomputable def r9_1 : List RO := [
  ⟨.loc 5, .call, [(.con (.fn (.func 20) [] [])), .con (.int .i64 1), .con (.int .i64 0), .con (.int .i64 99), .con (.int .i64 1), .con (.bool false)], none⟩,
  ⟨.loc 6, .call, [(.con (.fn (.func 20) [] [])), .con (.int .i64 2), .con (.int .i64 10), .con (.int .i64 19), .con (.int .i64 1), .con (.bool true)], none⟩,
  ⟨.loc 7, .call, [(.con (.fn (.func 20) [] [])), .con (.int .i64 3), .con (.int .i64 15), .con (.int .i64 30), .con (.int .i64 2), .con (.bool false)], none⟩,
  ⟨.loc 8, .bsl 12, [.loc 5, .loc 6, .loc 7], none⟩,
  ⟨.var 1, .mv, [.loc 8], none⟩]
@[reducible] noncomputable def r9_2 : List RO := [
  ⟨.loc 9, .mv, [.var 1], none⟩,
  ⟨.loc 10, .call, [(.con (.fn (.func 12) [] [])), .loc 9, .con (.int .i64 12), .con (.int .i64 1)], none⟩,
  ⟨.var 2, .mv, [.loc 10], none⟩]
@[reducible] noncomputable def r9_3 : List RO := [
  ⟨.loc 11, .mv, [.var 1], none⟩,
  ⟨.loc 12, .call, [(.con (.fn (.func 12) [] [])), .loc 11, .con (.int .i64 12), .con (.int .i64 2)], none⟩,
  ⟨.var 3, .mv, [.loc 12], none⟩]
@[reducible] noncomputable def r9_4 : List RO := [
  ⟨.loc 13, .mv, [.var 1], none⟩,
  ⟨.loc 14, .call, [(.con (.fn (.func 12) [] [])), .loc 13, .con (.int .i64 15), .con (.int .i64 3)], none⟩,
  ⟨.var 4, .mv, [.loc 14], none⟩]
@[reducible] noncomputable def r9_5 : List RO := [
  ⟨.loc 15, .mv, [.var 2], none⟩,
  ⟨.loc 16, .lenL, [.loc 15], none⟩,
  ⟨.loc 17, .bin .neq, [.loc 16, .con (.int .i64 1)], none⟩,
  ⟨.loc 18, .mv, [.loc 17], none⟩,
  ⟨.loc 19, .mv, [.var 3], (some (.loc 18, false))⟩,
  ⟨.loc 20, .lenL, [.loc 19], (some (.loc 18, false))⟩,
  ⟨.loc 21, .bin .neq, [.loc 20, .con (.int .i64 0)], (some (.loc 18, false))⟩,
  ⟨.loc 22, .pick, [.loc 18, .con (.bool true), .loc 21], none⟩,
  ⟨.loc 23, .mv, [.loc 22], none⟩,
  ⟨.loc 24, .mv, [.var 4], (some (.loc 23, false))⟩,
  ⟨.loc 25, .lenL, [.loc 24], (some (.loc 23, false))⟩,
  ⟨.loc 26, .bin .neq, [.loc 25, .con (.int .i64 1)], (some (.loc 23, false))⟩,
  ⟨.var 5, .pick, [.loc 23, .con (.bool true), .loc 26], none⟩]
@[reducible] noncomputable def r9_6 : List RO := [
  ⟨.var 0, .mv, [.con (.bool false)], none⟩]
@[reducible] noncomputable def r9_7 : List RO := [
  ⟨.loc 28, .mv, [.var 2], none⟩,
  ⟨.loc 29, .ixaS 8, [.loc 28, .con (.int .i64 0)], none⟩,
  ⟨.loc 30, .fld 2, [.loc 29], none⟩,
  ⟨.loc 31, .fld 3, [.loc 30], none⟩,
  ⟨.loc 32, .ld false 1, [.loc 31], none⟩,
  ⟨.loc 33, .bin .eql, [.loc 32, .con (.int .i64 1)], none⟩,
  ⟨.loc 34, .mv, [.loc 33], none⟩,
  ⟨.loc 35, .mv, [.var 4], (some (.loc 34, true))⟩,
  ⟨.loc 36, .ixaS 8, [.loc 35, .con (.int .i64 0)], (some (.loc 34, true))⟩,
  ⟨.loc 37, .fld 2, [.loc 36], (some (.loc 34, true))⟩,
  ⟨.loc 38, .fld 3, [.loc 37], (some (.loc 34, true))⟩,
  ⟨.loc 39, .ld false 1, [.loc 38], (some (.loc 34, true))⟩,
  ⟨.loc 40, .bin .eql, [.loc 39, .con (.int .i64 2)], (some (.loc 34, true))⟩,
  ⟨.loc 41, .pick, [.loc 34, .loc 40, .con (.bool false)], none⟩,
  ⟨.loc 42, .mv, [.loc 41], none⟩,
  ⟨.loc 43, .mv, [.var 1], (some (.loc 42, true))⟩,
  ⟨.loc 44, .call, [(.con (.fn (.func 15) [] [])), .loc 43, .con (.int .i64 3)], (some (.loc 42, true))⟩,
  ⟨.loc 45, .bsl 1, [.con (.int .i64 0), .con (.int .i64 10), .con (.int .i64 15), .con (.int .i64 31), .con (.int .i64 100)], (some (.loc 42, true))⟩,
  ⟨.loc 46, .call, [(.con (.fn (.func 14) [] [])), .loc 44, .loc 45], (some (.loc 42, true))⟩,
  ⟨.loc 47, .pick, [.loc 42, .loc 46, .con (.bool false)], none⟩,
  ⟨.var 0, .mv, [.loc 47], none⟩]
theorem P9 : C9.M = M := by unfold C9 E9; rfl
theorem i9 : St.init C9 [] ⟨[], []⟩ = ⟨[.undef, .undef, .undef, .undef, .undef, .undef], [], ⟨[], []⟩⟩ := by unfold C9 E9; rfl
noncomputable def c9 : RC := (.seq (.reg r9_0) (.seq (.reg r9_1) (.seq (.reg r9_2) (.seq (.reg r9_3) (.seq (.reg r9_4) (.seq (.seq (.reg r9_5) (.cond (.var 5) (.seq (.reg r9_6) .ret) .skip)) (.seq (.reg r9_7) .ret)))))))
noncomputable def q9 : List RR := [(.slot (.var 0))]
theorem z9 {n m : Nat} : resCode (E9 n m) (Try.f9.body.getD .skip) = some c9 := by kernel_rfl
theorem zr9 {n m : Nat} : resRs (E9 n m) Try.f9.results.toList = some q9 := by kernel_rfl
theorem ok9 {args : List D} {d : D} (hl : args.length = 0) (h : SWp C9 c9 (fun e s => (match e with | .exit _ => False | _ => True) ∧ rrsWp q9 s fun ds => D.closed (oneOrTup ds) = true ∧ (oneOrTup ds).er = d) (St.init C9 args ⟨[], []⟩)) : Pur M 9 args d :=
  pur_of_body (C := C9) (fn := Try.f9) Try.func9 (by kernel_rfl) (by kernel_rfl) (rc := c9) z9 (rs := q9) zr9 (by kernel_rfl) (by rw [hl]; rfl) (by rw [hl]; decide) rfl rfl h
/- 19 bogie.bogielaw23.without · 2 arguments · kept slots [0, 1, 4, 5, 6, 10, 19] -/
noncomputable def E19 (n m : Nat) : Cfg := ⟨M, [0, 1, 4, 5, 6, 10, 19], 28, n, m, []⟩
noncomputable def C19 : Cfg := E19 0 0
@[reducible] noncomputable def r19_0 : List RO := [
  ⟨.var 2, .mv, [(.con (.lit (.slice none 0 0)))], none⟩]
@[reducible] noncomputable def r19_1 : List RO := [
  ⟨.var 3, .mv, [(.con (.lit (.slice none 0 0)))], none⟩]
@[reducible] noncomputable def r19_2 : List RO := [
  ⟨.var 4, .mv, [.con (.int .i64 0)], none⟩]
@[reducible] noncomputable def r19_3 : List RO := [
  ⟨.loc 7, .mv, [.var 4], none⟩,
  ⟨.loc 8, .mv, [.var 0], none⟩,
  ⟨.loc 9, .lenL, [.loc 8], none⟩,
  ⟨.var 5, .bin .lss, [.loc 7, .loc 9], none⟩]
@[reducible] noncomputable def r19_4 : List RO := [
  ⟨.loc 13, .mv, [.var 0], none⟩,
  ⟨.loc 14, .mv, [.var 4], none⟩,
  ⟨.loc 15, .ixaS 8, [.loc 13, .loc 14], none⟩,
  ⟨.loc 16, .fld 0, [.loc 15], none⟩,
  ⟨.loc 17, .ld false 1, [.loc 16], none⟩,
  ⟨.loc 18, .mv, [.var 1], none⟩,
  ⟨.var 6, .bin .neq, [.loc 17, .loc 18], none⟩]
@[reducible] noncomputable def r19_5 : List RO := [
  ⟨.loc 20, .mv, [.var 3], none⟩,
  ⟨.loc 21, .mv, [.var 0], none⟩,
  ⟨.loc 22, .mv, [.var 4], none⟩,
  ⟨.loc 23, .ixaS 8, [.loc 21, .loc 22], none⟩,
  ⟨.loc 24, .ld true 8, [.loc 23], none⟩,
  ⟨.loc 25, .bsl 8, [.loc 24], none⟩,
  ⟨.loc 26, .app 8 112 36, [.loc 20, .loc 25], none⟩,
  ⟨.var 3, .mv, [.loc 26], none⟩]
@[reducible] noncomputable def r19_6 : List RO := [
  ⟨.loc 11, .mv, [.var 4], none⟩,
  ⟨.loc 12, .bin .add, [.loc 11, .con (.int .i64 1)], none⟩,
  ⟨.var 4, .mv, [.loc 12], none⟩]
@[reducible] noncomputable def r19_7 : List RO := [
  ⟨.loc 27, .mv, [.var 3], none⟩,
  ⟨.var 2, .mv, [.loc 27], none⟩]
theorem P19 : C19.M = M := by unfold C19 E19; rfl
theorem i19 {a0 a1 : D} : St.init C19 [a0, a1] ⟨[], []⟩ = ⟨[a0, a1, .undef, .undef, .undef, .undef, .undef], [], ⟨[], []⟩⟩ := by unfold C19 E19; rfl
noncomputable def c19 : RC := (.seq (.reg r19_0) (.seq (.reg r19_1) (.seq (.seq (.reg r19_2) (.block 0 (.loop (.seq (.seq (.reg r19_3) (.cond (.var 5) .skip (.exit 0))) (.seq (.block 1 (.seq (.reg r19_4) (.cond (.var 6) (.reg r19_5) .skip))) (.reg r19_6)))))) (.seq (.reg r19_7) .ret))))
noncomputable def q19 : List RR := [(.slot (.var 2))]
theorem z19 {n m : Nat} : resCode (E19 n m) (Try.f19.body.getD .skip) = some c19 := by kernel_rfl
theorem zr19 {n m : Nat} : resRs (E19 n m) Try.f19.results.toList = some q19 := by kernel_rfl
theorem ok19 {args : List D} {d : D} (hl : args.length = 2) (h : SWp C19 c19 (fun e s => (match e with | .exit _ => False | _ => True) ∧ rrsWp q19 s fun ds => D.closed (oneOrTup ds) = true ∧ (oneOrTup ds).er = d) (St.init C19 args ⟨[], []⟩)) : Pur M 19 args d :=
  pur_of_body (C := C19) (fn := Try.f19) Try.func19 (by kernel_rfl) (by kernel_rfl) (rc := c19) z19 (rs := q19) zr19 (by kernel_rfl) (by rw [hl]; rfl) (by rw [hl]; decide) rfl rfl h
/- 3 bogie.bogielaw23.BookMatchesReference · 3 arguments · kept slots [0, 1, 2, 6, 7, 11] -/
/- 4 bogie.bogielaw23.BookNames · 3 arguments · kept slots [0, 1, 2, 6, 7, 8, 9, 10, 11, 12, 16, 25, 43, 47, 98, 121] -/
/- 5 bogie.bogielaw23.BookDays · 3 arguments · kept slots [0, 1, 2, 6, 7, 8, 9, 10, 22, 30, 60, 85] -/
/- 6 bogie.bogielaw23.BookOrders · 3 arguments · kept slots [0, 1, 2, 6, 7, 8, 9, 10, 14, 20, 25, 38] -/
/- 7 bogie.bogielaw23.BookLater · 4 arguments · kept slots [0, 1, 2, 3, 5, 8, 9, 10, 11, 12, 13, 14, 15, 30, 35, 45, 70, 80, 91, 100] -/
noncomputable def E7 (n m : Nat) : Cfg := ⟨M, [0, 1, 2, 3, 5, 8, 9, 10, 11, 12, 13, 14, 15, 30, 35, 45, 70, 80, 91, 100], 108, n, m, []⟩
noncomputable def C7 : Cfg := E7 0 0
@[reducible] noncomputable def r7_0 : List RO := [
  ⟨.var 4, .box, [.var 1], none⟩,
  ⟨.var 5, .mv, [.con (.bool false)], none⟩]
@[reducible] noncomputable def r7_1 : List RO := [
  ⟨.loc 16, .call, [(.con (.fn (.func 9) [] []))], none⟩,
  ⟨.var 6, .mv, [.loc 16], none⟩]
@[reducible] noncomputable def r7_2 : List (RO × Bool) := [
  (⟨.loc 17, .bsl 12, [], none⟩, true),
  (⟨.loc 18, .mv, [.var 0], none⟩, true),
  (⟨.loc 19, .app 12 144 38, [.loc 17, .loc 18], none⟩, true),
  (⟨.loc 20, .ld true 12, [.var 4], none⟩, true),
  (⟨.loc 21, .bsl 12, [.loc 20], none⟩, true)]
@[reducible] noncomputable def r7_3 : List RO := [
  ⟨.loc 22, .app 12 144 38, [.loc 19, .loc 21], none⟩,
  ⟨.var 7, .mv, [.loc 22], none⟩]
@[reducible] noncomputable def r7_4 : List RO := [
  ⟨.loc 23, .mv, [.var 7], none⟩,
  ⟨.loc 24, .call, [(.con (.fn (.func 10) [] [])), .loc 23], none⟩,
  ⟨.loc 25, .un .not, [.loc 24], none⟩,
  ⟨.loc 26, .mv, [.loc 25], none⟩,
  ⟨.loc 27, .ld true 12, [.var 4], (some (.loc 26, false))⟩,
  ⟨.loc 28, .call, [(.con (.fn (.func 17) [] [])), .loc 27], (some (.loc 26, false))⟩,
  ⟨.loc 29, .un .not, [.loc 28], (some (.loc 26, false))⟩,
  ⟨.var 13, .pick, [.loc 26, .con (.bool true), .loc 29], none⟩]
@[reducible] noncomputable def r7_5 : List RO := [
  ⟨.loc 31, .mv, [.var 6], none⟩,
  ⟨.var 5, .mv, [.loc 31], none⟩]
@[reducible] noncomputable def r7_6 : List RO := [
  ⟨.var 8, .mv, [.con (.int .i64 0)], none⟩]
@[reducible] noncomputable def r7_7 : List RO := [
  ⟨.loc 32, .mv, [.var 8], none⟩,
  ⟨.loc 33, .mv, [.var 0], none⟩,
  ⟨.loc 34, .lenL, [.loc 33], none⟩,
  ⟨.var 14, .bin .lss, [.loc 32, .loc 34], none⟩]
@[reducible] noncomputable def r7_8 : List (RO × Bool) := [
  (⟨.loc 38, .mv, [.var 0], none⟩, true),
  (⟨.loc 39, .mv, [.var 8], none⟩, true),
  (⟨.loc 40, .ixaS 12, [.loc 38, .loc 39], none⟩, true),
  (⟨.loc 41, .fld 0, [.loc 40], none⟩, true),
  (⟨.loc 42, .ld false 1, [.loc 41], none⟩, true),
  (⟨.loc 43, .fld 0, [.var 4], none⟩, true),
  (⟨.loc 44, .ld false 1, [.loc 43], none⟩, true)]
@[reducible] noncomputable def r7_9 : List RO := [
  ⟨.var 15, .bin .gtr, [.loc 42, .loc 44], none⟩]
@[reducible] noncomputable def r7_10 : List RO := [
  ⟨.loc 46, .mv, [.var 6], none⟩,
  ⟨.var 5, .mv, [.loc 46], none⟩]
@[reducible] noncomputable def r7_11 : List RO := [
  ⟨.loc 36, .mv, [.var 8], none⟩,
  ⟨.loc 37, .bin .add, [.loc 36, .con (.int .i64 1)], none⟩,
  ⟨.var 8, .mv, [.loc 37], none⟩]
@[reducible] noncomputable def r7_12 : List RO := [
  ⟨.loc 47, .mv, [.var 0], none⟩,
  ⟨.loc 48, .mv, [.var 2], none⟩,
  ⟨.loc 49, .mv, [.var 3], none⟩,
  ⟨.loc 50, .call, [(.con (.fn (.func 12) [] [])), .loc 47, .loc 48, .loc 49], none⟩,
  ⟨.loc 51, .mv, [.var 7], none⟩,
  ⟨.loc 52, .mv, [.var 2], none⟩,
  ⟨.loc 53, .mv, [.var 3], none⟩,
  ⟨.loc 54, .call, [(.con (.fn (.func 12) [] [])), .loc 51, .loc 52, .loc 53], none⟩,
  ⟨.var 9, .mv, [.loc 50], none⟩,
  ⟨.var 10, .mv, [.loc 54], none⟩]
@[reducible] noncomputable def r7_13 : List RO := [
  ⟨.loc 55, .mv, [.var 3], none⟩,
  ⟨.loc 56, .fld 0, [.var 4], none⟩,
  ⟨.loc 57, .ld false 1, [.loc 56], none⟩,
  ⟨.loc 58, .bin .lss, [.loc 55, .loc 57], none⟩,
  ⟨.loc 59, .mv, [.loc 58], none⟩,
  ⟨.loc 60, .mv, [.var 2], (some (.loc 59, false))⟩,
  ⟨.loc 61, .fld 1, [.var 4], (some (.loc 59, false))⟩,
  ⟨.loc 62, .ld false 1, [.loc 61], (some (.loc 59, false))⟩,
  ⟨.loc 63, .bin .lss, [.loc 60, .loc 62], (some (.loc 59, false))⟩,
  ⟨.loc 64, .pick, [.loc 59, .con (.bool true), .loc 63], none⟩,
  ⟨.loc 65, .mv, [.loc 64], none⟩,
  ⟨.loc 66, .mv, [.var 2], (some (.loc 65, false))⟩,
  ⟨.loc 67, .fld 2, [.var 4], (some (.loc 65, false))⟩,
  ⟨.loc 68, .ld false 1, [.loc 67], (some (.loc 65, false))⟩,
  ⟨.loc 69, .bin .gtr, [.loc 66, .loc 68], (some (.loc 65, false))⟩,
  ⟨.var 16, .pick, [.loc 65, .con (.bool true), .loc 69], none⟩]
@[reducible] noncomputable def r7_14 : List RO := [
  ⟨.loc 71, .mv, [.var 6], none⟩,
  ⟨.loc 72, .mv, [.loc 71], none⟩,
  ⟨.loc 73, .mv, [.var 9], (some (.loc 72, true))⟩,
  ⟨.loc 74, .mv, [.var 10], (some (.loc 72, true))⟩,
  ⟨.loc 75, .call, [(.con (.fn (.func 11) [] [])), .loc 73, .loc 74], (some (.loc 72, true))⟩,
  ⟨.loc 76, .pick, [.loc 72, .loc 75, .con (.bool false)], none⟩,
  ⟨.var 5, .mv, [.loc 76], none⟩]
@[reducible] noncomputable def r7_15 : List RO := [
  ⟨.var 11, .mv, [.con (.bool false)], none⟩]
@[reducible] noncomputable def r7_16 : List RO := [
  ⟨.var 12, .mv, [.con (.int .i64 0)], none⟩]
@[reducible] noncomputable def r7_17 : List RO := [
  ⟨.loc 77, .mv, [.var 12], none⟩,
  ⟨.loc 78, .mv, [.var 10], none⟩,
  ⟨.loc 79, .lenL, [.loc 78], none⟩,
  ⟨.var 17, .bin .lss, [.loc 77, .loc 79], none⟩]
@[reducible] noncomputable def r7_18 : List (RO × Bool) := [
  (⟨.loc 83, .mv, [.var 10], none⟩, true),
  (⟨.loc 84, .mv, [.var 12], none⟩, true),
  (⟨.loc 85, .ixaS 8, [.loc 83, .loc 84], none⟩, true),
  (⟨.loc 86, .fld 0, [.loc 85], none⟩, true),
  (⟨.loc 87, .ld false 1, [.loc 86], none⟩, true),
  (⟨.loc 88, .fld 4, [.var 4], none⟩, true),
  (⟨.loc 89, .fld 0, [.loc 88], none⟩, true),
  (⟨.loc 90, .ld false 1, [.loc 89], none⟩, true)]
@[reducible] noncomputable def r7_19 : List RO := [
  ⟨.var 18, .bin .eql, [.loc 87, .loc 90], none⟩]
@[reducible] noncomputable def r7_20 : List (RO × Bool) := [
  (⟨.loc 92, .mv, [.var 10], none⟩, true),
  (⟨.loc 93, .mv, [.var 12], none⟩, true),
  (⟨.loc 94, .ixaS 8, [.loc 92, .loc 93], none⟩, true),
  (⟨.loc 95, .ld true 8, [.loc 94], none⟩, true),
  (⟨.loc 96, .fld 4, [.var 4], none⟩, true),
  (⟨.loc 97, .ld true 8, [.loc 96], none⟩, true)]
@[reducible] noncomputable def r7_21 : List RO := [
  ⟨.loc 98, .call, [(.con (.fn (.func 18) [] [])), .loc 95, .loc 97], none⟩,
  ⟨.var 11, .mv, [.loc 98], none⟩]
@[reducible] noncomputable def r7_22 : List RO := [
  ⟨.loc 99, .mv, [.var 11], none⟩,
  ⟨.var 19, .un .not, [.loc 99], none⟩]
@[reducible] noncomputable def r7_23 : List RO := [
  ⟨.var 5, .mv, [.con (.bool false)], none⟩]
@[reducible] noncomputable def r7_24 : List RO := [
  ⟨.loc 81, .mv, [.var 12], none⟩,
  ⟨.loc 82, .bin .add, [.loc 81, .con (.int .i64 1)], none⟩,
  ⟨.var 12, .mv, [.loc 82], none⟩]
@[reducible] noncomputable def r7_25 : List RO := [
  ⟨.loc 101, .mv, [.var 6], none⟩,
  ⟨.loc 102, .mv, [.loc 101], none⟩,
  ⟨.loc 103, .mv, [.var 11], (some (.loc 102, true))⟩,
  ⟨.loc 104, .fld 3, [.var 4], (some (.loc 102, true))⟩,
  ⟨.loc 105, .ld false 1, [.loc 104], (some (.loc 102, true))⟩,
  ⟨.loc 106, .eqB true, [.loc 103, .loc 105], (some (.loc 102, true))⟩,
  ⟨.loc 107, .pick, [.loc 102, .loc 106, .con (.bool false)], none⟩,
  ⟨.var 5, .mv, [.loc 107], none⟩]
theorem P7 : C7.M = M := by unfold C7 E7; rfl
theorem i7 {a0 a1 a2 a3 : D} : St.init C7 [a0, a1, a2, a3] ⟨[], []⟩ = ⟨[a0, a1, a2, a3, .undef, .undef, .undef, .undef, .undef, .undef, .undef, .undef, .undef, .undef, .undef, .undef, .undef, .undef, .undef, .undef], [], ⟨[], []⟩⟩ := by unfold C7 E7; rfl
noncomputable def c7 : RC := (.seq (.reg r7_0) (.seq (.reg r7_1) (.seq (.regD r7_2 r7_3) (.seq (.seq (.reg r7_4) (.cond (.var 13) (.seq (.reg r7_5) .ret) .skip)) (.seq (.seq (.reg r7_6) (.block 0 (.loop (.seq (.seq (.reg r7_7) (.cond (.var 14) .skip (.exit 0))) (.seq (.block 1 (.seq (.regD r7_8 r7_9) (.cond (.var 15) (.seq (.reg r7_10) .ret) .skip))) (.reg r7_11)))))) (.seq (.reg r7_12) (.seq (.seq (.reg r7_13) (.cond (.var 16) (.seq (.reg r7_14) .ret) .skip)) (.seq (.reg r7_15) (.seq (.seq (.reg r7_16) (.block 2 (.loop (.seq (.seq (.reg r7_17) (.cond (.var 17) .skip (.exit 2))) (.seq (.block 3 (.seq (.regD r7_18 r7_19) (.cond (.var 18) (.seq (.regD r7_20 r7_21) (.seq (.reg r7_22) (.cond (.var 19) (.seq (.reg r7_23) .ret) .skip))) .skip))) (.reg r7_24)))))) (.seq (.reg r7_25) .ret))))))))))
noncomputable def q7 : List RR := [(.slot (.var 5))]
theorem z7 {n m : Nat} : resCode (E7 n m) (Try.f7.body.getD .skip) = some c7 := by kernel_rfl
theorem zr7 {n m : Nat} : resRs (E7 n m) Try.f7.results.toList = some q7 := by kernel_rfl
theorem ok7 {args : List D} {d : D} (hl : args.length = 4) (h : SWp C7 c7 (fun e s => (match e with | .exit _ => False | _ => True) ∧ rrsWp q7 s fun ds => D.closed (oneOrTup ds) = true ∧ (oneOrTup ds).er = d) (St.init C7 args ⟨[], []⟩)) : Pur M 7 args d :=
  pur_of_body (C := C7) (fn := Try.f7) Try.func7 (by kernel_rfl) (by kernel_rfl) (rc := c7) z7 (rs := q7) zr7 (by kernel_rfl) (by rw [hl]; rfl) (by rw [hl]; decide) rfl rfl h
/- 8 bogie.bogielaw23.BookOthers · 5 arguments · kept slots [0, 1, 2, 3, 4, 6, 10, 11, 12, 13, 14, 15, 16, 39, 60] -/
noncomputable def E8 (n m : Nat) : Cfg := ⟨M, [0, 1, 2, 3, 4, 6, 10, 11, 12, 13, 14, 15, 16, 39, 60], 92, n, m, []⟩
noncomputable def C8 : Cfg := E8 0 0
@[reducible] noncomputable def r8_0 : List RO := [
  ⟨.var 5, .box, [.var 1], none⟩,
  ⟨.var 6, .mv, [.con (.bool false)], none⟩]
@[reducible] noncomputable def r8_1 : List RO := [
  ⟨.loc 17, .call, [(.con (.fn (.func 9) [] []))], none⟩,
  ⟨.var 7, .mv, [.loc 17], none⟩]
@[reducible] noncomputable def r8_2 : List RO := [
  ⟨.loc 18, .mv, [.var 2], none⟩,
  ⟨.loc 19, .cvI .i64, [.loc 18], none⟩,
  ⟨.loc 20, .mv, [.var 0], none⟩,
  ⟨.loc 21, .lenL, [.loc 20], none⟩,
  ⟨.loc 22, .bin .add, [.loc 21, .con (.int .i64 1)], none⟩,
  ⟨.loc 23, .bin .rem, [.loc 19, .loc 22], none⟩,
  ⟨.var 8, .mv, [.loc 23], none⟩]
@[reducible] noncomputable def r8_3 : List (RO × Bool) := [
  (⟨.loc 24, .bsl 12, [], none⟩, true),
  (⟨.loc 25, .mv, [.var 0], none⟩, true),
  (⟨.loc 26, .mv, [.var 8], none⟩, true),
  (⟨.loc 27, .slcL 12 false true, [.loc 25, .loc 26], none⟩, true),
  (⟨.loc 28, .app 12 144 38, [.loc 24, .loc 27], none⟩, true),
  (⟨.loc 29, .ld true 12, [.var 5], none⟩, true),
  (⟨.loc 30, .bsl 12, [.loc 29], none⟩, true)]
@[reducible] noncomputable def r8_4 : List RO := [
  ⟨.loc 31, .app 12 144 38, [.loc 28, .loc 30], none⟩,
  ⟨.var 9, .mv, [.loc 31], none⟩]
@[reducible] noncomputable def r8_5 : List RO := [
  ⟨.loc 32, .mv, [.var 9], none⟩,
  ⟨.loc 33, .mv, [.var 0], none⟩,
  ⟨.loc 34, .mv, [.var 8], none⟩,
  ⟨.loc 35, .slcL 12 true false, [.loc 33, .loc 34], none⟩,
  ⟨.loc 36, .app 12 144 38, [.loc 32, .loc 35], none⟩,
  ⟨.var 9, .mv, [.loc 36], none⟩]
@[reducible] noncomputable def r8_6 : List RO := [
  ⟨.loc 37, .mv, [.var 9], none⟩,
  ⟨.loc 38, .call, [(.con (.fn (.func 10) [] [])), .loc 37], none⟩,
  ⟨.var 13, .un .not, [.loc 38], none⟩]
@[reducible] noncomputable def r8_7 : List RO := [
  ⟨.loc 40, .mv, [.var 7], none⟩,
  ⟨.var 6, .mv, [.loc 40], none⟩]
@[reducible] noncomputable def r8_8 : List RO := [
  ⟨.loc 41, .mv, [.var 0], none⟩,
  ⟨.loc 42, .mv, [.var 3], none⟩,
  ⟨.loc 43, .mv, [.var 4], none⟩,
  ⟨.loc 44, .call, [(.con (.fn (.func 12) [] [])), .loc 41, .loc 42, .loc 43], none⟩,
  ⟨.loc 45, .mv, [.var 9], none⟩,
  ⟨.loc 46, .mv, [.var 3], none⟩,
  ⟨.loc 47, .mv, [.var 4], none⟩,
  ⟨.loc 48, .call, [(.con (.fn (.func 12) [] [])), .loc 45, .loc 46, .loc 47], none⟩,
  ⟨.var 10, .mv, [.loc 44], none⟩,
  ⟨.var 11, .mv, [.loc 48], none⟩]
@[reducible] noncomputable def r8_9 : List (RO × Bool) := [
  (⟨.loc 49, .mv, [.var 10], none⟩, true),
  (⟨.loc 50, .fld 4, [.var 5], none⟩, true),
  (⟨.loc 51, .fld 0, [.loc 50], none⟩, true),
  (⟨.loc 52, .ld false 1, [.loc 51], none⟩, true),
  (⟨.loc 53, .call, [(.con (.fn (.func 19) [] [])), .loc 49, .loc 52], none⟩, true),
  (⟨.loc 54, .mv, [.var 11], none⟩, true),
  (⟨.loc 55, .fld 4, [.var 5], none⟩, true),
  (⟨.loc 56, .fld 0, [.loc 55], none⟩, true),
  (⟨.loc 57, .ld false 1, [.loc 56], none⟩, true)]
@[reducible] noncomputable def r8_10 : List RO := [
  ⟨.loc 58, .call, [(.con (.fn (.func 19) [] [])), .loc 54, .loc 57], none⟩,
  ⟨.loc 59, .call, [(.con (.fn (.func 11) [] [])), .loc 53, .loc 58], none⟩,
  ⟨.var 14, .un .not, [.loc 59], none⟩]
@[reducible] noncomputable def r8_11 : List RO := [
  ⟨.var 6, .mv, [.con (.bool false)], none⟩]
@[reducible] noncomputable def r8_12 : List RO := [
  ⟨.loc 61, .mv, [.var 3], none⟩,
  ⟨.loc 62, .fld 1, [.var 5], none⟩,
  ⟨.loc 63, .ld false 1, [.loc 62], none⟩,
  ⟨.loc 64, .bin .lss, [.loc 61, .loc 63], none⟩,
  ⟨.loc 65, .mv, [.loc 64], none⟩,
  ⟨.loc 66, .mv, [.var 3], (some (.loc 65, false))⟩,
  ⟨.loc 67, .fld 2, [.var 5], (some (.loc 65, false))⟩,
  ⟨.loc 68, .ld false 1, [.loc 67], (some (.loc 65, false))⟩,
  ⟨.loc 69, .bin .gtr, [.loc 66, .loc 68], (some (.loc 65, false))⟩,
  ⟨.loc 70, .pick, [.loc 65, .con (.bool true), .loc 69], none⟩,
  ⟨.loc 71, .mv, [.loc 70], none⟩,
  ⟨.loc 72, .mv, [.var 4], (some (.loc 71, false))⟩,
  ⟨.loc 73, .fld 0, [.var 5], (some (.loc 71, false))⟩,
  ⟨.loc 74, .ld false 1, [.loc 73], (some (.loc 71, false))⟩,
  ⟨.loc 75, .bin .lss, [.loc 72, .loc 74], (some (.loc 71, false))⟩,
  ⟨.loc 76, .pick, [.loc 71, .con (.bool true), .loc 75], none⟩,
  ⟨.loc 77, .mv, [.loc 76], none⟩,
  ⟨.loc 78, .ld true 12, [.var 5], (some (.loc 77, false))⟩,
  ⟨.loc 79, .call, [(.con (.fn (.func 17) [] [])), .loc 78], (some (.loc 77, false))⟩,
  ⟨.loc 80, .un .not, [.loc 79], (some (.loc 77, false))⟩,
  ⟨.loc 81, .pick, [.loc 77, .con (.bool true), .loc 80], none⟩,
  ⟨.var 12, .mv, [.loc 81], none⟩]
@[reducible] noncomputable def r8_13 : List RO := [
  ⟨.loc 82, .mv, [.var 7], none⟩,
  ⟨.loc 83, .mv, [.loc 82], none⟩,
  ⟨.loc 84, .mv, [.var 12], (some (.loc 83, true))⟩,
  ⟨.loc 85, .un .not, [.loc 84], (some (.loc 83, true))⟩,
  ⟨.loc 86, .mv, [.loc 85], (some (.loc 83, true))⟩,
  ⟨.loc 87, .mv, [.var 10], (some (.loc 86, false))⟩,
  ⟨.loc 88, .mv, [.var 11], (some (.loc 86, false))⟩,
  ⟨.loc 89, .call, [(.con (.fn (.func 11) [] [])), .loc 87, .loc 88], (some (.loc 86, false))⟩,
  ⟨.loc 90, .pick, [.loc 86, .con (.bool true), .loc 89], (some (.loc 83, true))⟩,
  ⟨.loc 91, .pick, [.loc 83, .loc 90, .con (.bool false)], none⟩,
  ⟨.var 6, .mv, [.loc 91], none⟩]
theorem P8 : C8.M = M := by unfold C8 E8; rfl
theorem i8 {a0 a1 a2 a3 a4 : D} : St.init C8 [a0, a1, a2, a3, a4] ⟨[], []⟩ = ⟨[a0, a1, a2, a3, a4, .undef, .undef, .undef, .undef, .undef, .undef, .undef, .undef, .undef, .undef], [], ⟨[], []⟩⟩ := by unfold C8 E8; rfl
noncomputable def c8 : RC := (.seq (.reg r8_0) (.seq (.reg r8_1) (.seq (.reg r8_2) (.seq (.regD r8_3 r8_4) (.seq (.reg r8_5) (.seq (.seq (.reg r8_6) (.cond (.var 13) (.seq (.reg r8_7) .ret) .skip)) (.seq (.reg r8_8) (.seq (.seq (.regD r8_9 r8_10) (.cond (.var 14) (.seq (.reg r8_11) .ret) .skip)) (.seq (.reg r8_12) (.seq (.reg r8_13) .ret))))))))))
noncomputable def q8 : List RR := [(.slot (.var 6))]
theorem z8 {n m : Nat} : resCode (E8 n m) (Try.f8.body.getD .skip) = some c8 := by kernel_rfl
theorem zr8 {n m : Nat} : resRs (E8 n m) Try.f8.results.toList = some q8 := by kernel_rfl
theorem ok8 {args : List D} {d : D} (hl : args.length = 5) (h : SWp C8 c8 (fun e s => (match e with | .exit _ => False | _ => True) ∧ rrsWp q8 s fun ds => D.closed (oneOrTup ds) = true ∧ (oneOrTup ds).er = d) (St.init C8 args ⟨[], []⟩)) : Pur M 8 args d :=
  pur_of_body (C := C8) (fn := Try.f8) Try.func8 (by kernel_rfl) (by kernel_rfl) (rc := c8) z8 (rs := q8) zr8 (by kernel_rfl) (by rw [hl]; rfl) (by rw [hl]; decide) rfl rfl h
end Go.Proofs.Ytnooagipikedeaa
end
section
set_option linter.unusedSimpArgs false
set_option linter.unusedVariables false
namespace Go.Proofs.Ytnooagipikedeaa
open Go GoV
abbrev Tx := List UInt8
inductive X where
  | mk (op : Int) (name value : Tx) (n extra : Int) (kids : List X)
instance : Inhabited X := ⟨.mk 0 [] [] 0 0 []⟩
structure Pt where
  name : Tx
  kind : Tx
  into : Tx
  slot : Tx
  made : Int
  since : Int
  scr : Bool
  props : List (Tx × Tx)
  km : Int × Int
  cy : Int × Int
  dm : Int × Int
instance : Inhabited Pt := ⟨⟨[], [], [], [], 0, 0, false, [], (0, 0), (0, 0), (0, 0)⟩⟩
mutual
def X.nodes : X → Nat
  | .mk _ _ _ _ _ ks => 1 + X.nodesL ks
def X.nodesL : List X → Nat
  | [] => 0
  | k :: ks => k.nodes + X.nodesL ks
end
/-! ### Texts in order -/

abbrev lt (a b : Tx) : Bool := Op.bytesLess a b
theorem lt_irr : ∀ a : Tx, lt a a = false
  | [] => rfl
  | a :: x => by
    have h : ¬ a < a := UInt8.lt_irrefl a
    simp [lt, Op.bytesLess, h]
    exact lt_irr x
theorem lt_trans : ∀ {a b c : Tx}, lt a b = true → lt b c = true → lt a c = true
  | _, [], _, h, _ => by simp [lt, Op.bytesLess] at h
  | _, _ :: _, [], _, h => by simp [lt, Op.bytesLess] at h
  | [], _ :: _, _ :: _, _, _ => by simp [lt, Op.bytesLess]
  | a :: x, b :: y, c :: z, h, g => by
    simp only [lt, Op.bytesLess, Bool.or_eq_true, Bool.and_eq_true, decide_eq_true_eq, beq_iff_eq] at h g ⊢
    rcases h with h | ⟨rfl, h⟩ <;> rcases g with g | ⟨rfl, g⟩
    · exact .inl (UInt8.lt_trans h g)
    · exact .inl h
    · exact .inl g
    · exact .inr ⟨rfl, lt_trans h g⟩
theorem lt_tri : ∀ {a b : Tx}, lt a b = false → lt b a = false → a = b
  | [], [], _, _ => rfl
  | [], _ :: _, h, _ => by simp [lt, Op.bytesLess] at h
  | _ :: _, [], _, h => by simp [lt, Op.bytesLess] at h
  | a :: x, b :: y, h, g => by
    simp only [lt, Op.bytesLess, Bool.or_eq_false_iff, Bool.and_eq_false_iff, decide_eq_false_iff_not, beq_eq_false_iff_ne] at h g
    have e : a = b := by
      have h1 := h.1; have h2 := g.1
      exact UInt8.le_antisymm (UInt8.not_lt.1 h2) (UInt8.not_lt.1 h1)
    subst e
    rw [lt_tri (h.2.resolve_left (by simp)) (g.2.resolve_left (by simp))]
def insB (x : Tx) : List Tx → List Tx
  | [] => [x]
  | y :: ys => if lt x y then x :: y :: ys else y :: insB x ys
def isort : List Tx → List Tx
  | [] => []
  | x :: xs => insB x (isort xs)
/-! ### What is inside -/

def getP (s : List Pt) (name : Tx) : Option Pt := s.find? fun p => p.name == name
def firsts (seen : List Tx) : List Pt → List Pt
  | [] => []
  | p :: ps => if seen.contains p.name then firsts seen ps else p :: firsts (seen ++ [p.name]) ps
def fitted (s : List Pt) (part : Tx) : List (Tx × Tx) := ((firsts [] s).filter fun p => !(p.into == []) && !(p.name == part)).map fun p => (p.name, p.into)
def bfs : Nat → List (Tx × Tx) → List Tx → List Tx
  | 0, _, _ => []
  | k + 1, rest, list =>
    if list = [] then [] else
      (rest.filter fun r => list.contains r.2).map (·.1) ++ bfs k (rest.filter fun r => !list.contains r.2) ((rest.filter fun r => list.contains r.2).map (·.1))
def insideF (s : List Pt) (part : Tx) : List Tx :=
  match getP s part with
  | none => []
  | some _ => isort (bfs ((fitted s part).length + 2) (fitted s part) [part])
/-! ### Truth, intervals, lives -/

def trN (a : Int) : Int := if a = 0 ∨ a = 2 then a else 1
def notT (a : Int) : Int := 2 - trN a
def andT (a b : Int) : Int := if trN b < trN a then trN b else trN a
def orT (a b : Int) : Int := if trN b > trN a then trN b else trN a
def valI (i : Int × Int) : Bool := decide (-1000000000000 ≤ i.1) && decide (i.1 ≤ i.2) && decide (i.2 ≤ 1000000000000)
def overT (i : Int × Int) (n : Int) : Int := if valI i = false ∨ i.2 ≤ n then 0 else if i.1 > n then 2 else 1
def kKm : Tx := [107, 109]
def kCy : Tx := [99, 121, 99, 108, 101, 115]
def kDm : Tx := [100, 97, 109, 97, 103, 101]
def kDays : Tx := [100, 97, 121, 115]
def kAge : Tx := [97, 103, 101]
def sinceF (day frm : Int) : Int × Int := if frm ≥ day then (0, 0) else
  (day - (if day - 1000000000000 > frm then day - 1000000000000 else frm), day - (if day - 1000000000000 > frm then day - 1000000000000 else frm))
def lifeV (p : Pt) (cur : Tx) (day : Int) : Option (Int × Int) :=
  if day < 0 ∨ day > 40000 then none
  else if cur = kKm then some p.km else if cur = kCy then some p.cy else if cur = kDm then some p.dm
  else if cur = kDays then some (sinceF day p.since) else if cur = kAge then some (sinceF day p.made) else none
/-! ### What holds -/

def find0 (s : List Pt) (name : Tx) : Pt := (getP s name).getD default
def truthF (b : Bool) : Int := if b then 2 else 0
def kindsIn (s : List Pt) (part kind : Tx) : List Tx := (insideF s part).filter fun m => (find0 s m).kind == kind
def askN (s : List Pt) (day : Int) (op : Int) (name value : Tx) (n extra : Int) (ks : List (Tx → Int)) (part : Tx) : Int :=
  if op = 1 then 2
  else if op = 2 then notT (ks.headD (fun _ => 0) part)
  else if op = 3 then ks.foldl (fun a k => andT a (k part)) 2
  else if op = 4 then ks.foldl (fun a k => orT a (k part)) 0
  else if op = 5 then (match lifeV (find0 s part) name day with | none => 0 | some v => notT (overT v (n + extra)))
  else if op = 6 then (match lifeV (find0 s part) name day with | none => 0 | some v => overT v n)
  else if op = 7 then truthF ((find0 s part).props.contains (name, value))
  else if op = 8 then truthF ((find0 s part).props.any fun x => x.1 == name)
  else if op = 9 then truthF (s.any fun q => q.into == part && q.slot == name && q.kind == value)
  else if op = 10 then (kindsIn s part name).foldl (fun a m => andT a (ks.headD (fun _ => 0) m)) 2
  else if op = 11 then (kindsIn s part name).foldl (fun a m => orT a (ks.headD (fun _ => 0) m)) 0
  else truthF (decide (((kindsIn s part name).length : Int) ≥ n))
mutual
def ask (s : List Pt) (day : Int) : X → Tx → Int
  | .mk op name value n extra ks, part => askN s day op name value n extra (askL s day ks) part
def askL (s : List Pt) (day : Int) : List X → List (Tx → Int)
  | [] => []
  | k :: ks => ask s day k :: askL s day ks
end
/-! ### Validity -/

def isLet (c : UInt8) : Bool := (decide (97 ≤ c) && decide (c ≤ 122)) || (decide (65 ≤ c) && decide (c ≤ 90))
def isDig (c : UInt8) : Bool := decide (48 ≤ c) && decide (c ≤ 57)
def nameOk (s : Tx) : Bool :=
  (match s with | [] => false | c :: r => isLet c && r.all fun c => isLet c || isDig c || c == 95) && decide (s.length ≤ 24)
def words : List Tx := [[116, 114, 117, 101], [110, 111, 116], [97, 110, 100], [111, 114], [108, 105, 109, 105, 116], [111, 118, 101, 114], [104, 97, 115], [115, 108, 111, 116], [97, 108, 108], [97, 110, 121], [97, 116]]
def numOk (n low : Int) : Bool := decide (n ≥ low) && decide (n ≤ 9999999)
def nodeOk (op : Int) (name value : Tx) (n extra : Int) (k : Nat) : Bool :=
  if op = 1 then k == 0 && name == [] && value == [] && n == 0 && extra == 0
  else if op = 2 then k == 1 && name == [] && value == [] && n == 0 && extra == 0
  else if op = 3 ∨ op = 4 then decide (1 < k) && name == [] && value == [] && n == 0 && extra == 0
  else if op = 5 then numOk n 0 && numOk extra 0 && nameOk name && k == 0 && value == []
  else if op = 6 then numOk n 0 && nameOk name && k == 0 && value == [] && extra == 0
  else if op = 7 then !(value == []) && decide (value.length ≤ 200) && !words.contains name && nameOk name && k == 0 && n == 0 && extra == 0
  else if op = 8 then nameOk name && k == 0 && value == [] && n == 0 && extra == 0
  else if op = 9 then nameOk value && nameOk name && k == 0 && n == 0 && extra == 0
  else if op = 10 ∨ op = 11 then nameOk name && k == 1 && value == [] && n == 0 && extra == 0
  else if op = 12 then numOk n 1 && nameOk name && k == 0 && value == [] && extra == 0
  else false
mutual
def well : X → Bool
  | .mk op name value n extra ks => nodeOk op name value n extra ks.length && wellL ks
def wellL : List X → Bool
  | [] => true
  | k :: ks => well k && wellL ks
end
def validF (x : X) : Bool := decide (x.nodes ≤ 60) && well x
end Go.Proofs.Ytnooagipikedeaa
end
section
set_option linter.unusedSimpArgs false
set_option linter.unusedVariables false
namespace Go.Proofs.Ytnooagipikedeaa
open Go GoV
structure Rl where
  name : Tx
  kind : Tx
  cond : X
structure Am where
  clock : Int
  frm : Int
  to : Int
  void : Bool
  rule : Rl
instance : Inhabited Rl := ⟨⟨[], [], default⟩⟩
instance : Inhabited Am := ⟨⟨0, 0, 0, false, default⟩⟩
def ruleOk (r : Rl) : Bool := nameOk r.name && nameOk r.kind && validF r.cond
def amOk (a : Am) : Bool := decide (0 ≤ a.clock) && decide (a.clock ≤ 1000000) && decide (0 ≤ a.frm) && decide (a.frm ≤ a.to) && decide (a.to ≤ 40000) && ruleOk a.rule
def spk (day clock : Int) (a : Am) : Bool := amOk a && decide (a.clock ≤ clock) && decide (a.frm ≤ day) && decide (day ≤ a.to)
def nmd (n : Tx) (a : Am) : Bool := a.rule.name == n
def bstep (q : Am → Bool) (acc : Option Am) (a : Am) : Option Am :=
  if q a then (match acc with | none => some a | some b => if b.clock ≤ a.clock then some a else some b) else acc
def best (q : Am → Bool) (l : List Am) : Option Am := l.foldl (bstep q) none
def qd (day clock : Int) (n : Tx) (a : Am) : Bool := spk day clock a && nmd n a
def pick (l : List Am) (day clock : Int) (n : Tx) : Option Rl :=
  match best (qd day clock n) l with
  | none => none
  | some a => if a.void then none else some a.rule
/-! ### With places -/

def istep (q : Am → Bool) (acc : Option (Nat × Am)) (p : Nat × Am) : Option (Nat × Am) :=
  if q p.2 then (match acc with | none => some p | some b => if b.2.clock ≤ p.2.clock then some p else some b) else acc
def bestI (q : Am → Bool) (l : List (Nat × Am)) : Option (Nat × Am) := l.foldl (istep q) none
def num (l : List Am) : List (Nat × Am) := l.zipIdx.map fun p => (p.2, p.1)
theorem foldI (q : Am → Bool) : ∀ (l : List (Nat × Am)) (acc : Option (Nat × Am)), (l.foldl (istep q) acc).map (·.2) = (l.map (·.2)).foldl (bstep q) (acc.map (·.2))
  | [], acc => rfl
  | p :: l, acc => by
    simp only [List.foldl_cons, List.map_cons]
    rw [foldI q l]
    congr 1
    unfold istep bstep
    cases q p.2
    · simp
    · cases acc with
      | none => simp
      | some b => simp; split <;> rfl
theorem num_snd (l : List Am) : (num l).map (·.2) = l := by simp [num, List.map_map, Function.comp_def]
theorem bestI_snd (q : Am → Bool) (l : List Am) : (bestI q (num l)).map (·.2) = best q l := by rw [bestI, foldI, num_snd]; rfl
theorem num_app (l : List Am) (a : Am) : num (l ++ [a]) = num l ++ [(l.length, a)] := by simp [num, List.zipIdx_append]
theorem bestI_app (q : Am → Bool) (l : List (Nat × Am)) (p : Nat × Am) : bestI q (l ++ [p]) = istep q (bestI q l) p := by simp [bestI, List.foldl_append]
theorem best_app (q : Am → Bool) (l : List Am) (a : Am) : best q (l ++ [a]) = bstep q (best q l) a := by simp [best, List.foldl_append]
theorem num_mem {l : List Am} {p : Nat × Am} (h : p ∈ num l) : ∃ h : p.1 < l.length, l[p.1] = p.2 := by
  obtain ⟨q, hq, rfl⟩ := List.mem_map.1 h
  have := List.mem_zipIdx hq
  simp at this
  exact ⟨this.1, this.2.symm⟩
theorem fold_mem (q : Am → Bool) : ∀ (l : List (Nat × Am)) (acc : Option (Nat × Am)) (p : Nat × Am), l.foldl (istep q) acc = some p → (acc = some p) ∨ (p ∈ l ∧ q p.2 = true)
  | [], acc, p, h => .inl h
  | x :: l, acc, p, h => by
    rcases fold_mem q l _ p h with h1 | ⟨h1, h2⟩
    · unfold istep at h1
      by_cases hq : q x.2 = true
      · rw [if_pos hq] at h1
        cases acc with
        | none => simp at h1; subst h1; exact .inr ⟨by simp, hq⟩
        | some b =>
          simp only at h1
          split at h1
          · simp at h1; subst h1; exact .inr ⟨by simp, hq⟩
          · exact .inl h1
      · rw [if_neg hq] at h1; exact .inl h1
    · exact .inr ⟨by simp [h1], h2⟩
theorem bestI_some {q : Am → Bool} {l : List Am} {p : Nat × Am} (h : bestI q (num l) = some p) : q p.2 = true ∧ ∃ h : p.1 < l.length, l[p.1] = p.2 := by
  rcases fold_mem q _ _ _ h with h1 | ⟨h1, h2⟩
  · cases h1
  · exact ⟨h2, num_mem h1⟩
theorem best_some {q : Am → Bool} {l : List Am} {a : Am} (h : best q l = some a) : q a = true ∧ a ∈ l := by
  rw [← bestI_snd] at h
  obtain ⟨p, hp, rfl⟩ := Option.map_eq_some_iff.1 h
  obtain ⟨h1, h2, h3⟩ := bestI_some hp
  exact ⟨h1, h3 ▸ List.getElem_mem h2⟩
/-! ### The best one, by its place -/

theorem fold_none (q : Am → Bool) : ∀ (l : List Am) (acc : Option Am), l.foldl (bstep q) acc = none ↔ acc = none ∧ ∀ a ∈ l, q a = false
  | [], acc => by simp
  | x :: l, acc => by
    rw [List.foldl_cons, fold_none q l]
    constructor
    · rintro ⟨h1, h2⟩
      unfold bstep at h1
      cases hq : q x with
      | false => rw [hq] at h1; simp at h1; exact ⟨h1, by simpa [hq] using h2⟩
      | true =>
        rw [hq] at h1
        simp only [if_true] at h1
        split at h1
        · cases h1
        · split at h1 <;> cases h1
    · rintro ⟨rfl, h2⟩
      refine ⟨?_, fun a ha => h2 a (by simp [ha])⟩
      unfold bstep
      rw [h2 x (by simp)]; rfl
theorem best_none {q : Am → Bool} {l : List Am} : best q l = none ↔ ∀ a ∈ l, q a = false := by
  unfold best; rw [fold_none]; simp
theorem best_ins {q : Am → Bool} {l m : List Am} {x : Am} (h : q x = false) : best q (l ++ x :: m) = best q (l ++ m) := by
  unfold best
  rw [List.foldl_append, List.foldl_append, List.foldl_cons]
  congr 1
  unfold bstep
  rw [h]; rfl
/-! ### In force -/

structure TO {α : Type} (f : α → α → Bool) : Prop where
  irr : ∀ a, f a a = false
  tr : ∀ {a b c}, f a b = true → f b c = true → f a c = true
  tri : ∀ {a b}, f a b = false → f b a = false → a = b
theorem toT : TO lt := ⟨lt_irr, lt_trans, lt_tri⟩
abbrev ltI (a b : Int) : Bool := decide (a < b)
theorem toI : TO ltI := ⟨by simp [ltI], by simp [ltI]; intros; omega, by simp [ltI]; intros; omega⟩
def IncG {α : Type} (f : α → α → Bool) : List α → Prop
  | [] => True
  | a :: r => (∀ b ∈ r, f a b = true) ∧ IncG f r
abbrev Inc : List Tx → Prop := IncG lt
theorem incG_ext {α : Type} {f : α → α → Bool} (hf : TO f) : ∀ {l m : List α}, IncG f l → IncG f m → (∀ x, x ∈ l ↔ x ∈ m) → l = m
  | [], [], _, _, _ => rfl
  | [], b :: m, _, _, h => absurd ((h b).2 (by simp)) (by simp)
  | a :: l, [], _, _, h => absurd ((h a).1 (by simp)) (by simp)
  | a :: l, b :: m, h1, h2, h => by
    have e : a = b := by
      rcases List.mem_cons.1 ((h a).1 (by simp)) with q | q
      · exact q
      · rcases List.mem_cons.1 ((h b).2 (by simp)) with p | p
        · exact p.symm
        · have := hf.tr (h1.1 b p) (h2.1 a q)
          rw [hf.irr] at this; cases this
    subst e
    have hn : ∀ {l : List α}, (∀ b ∈ l, f a b = true) → a ∉ l := fun {l} g ha => by
      have := g a ha; rw [hf.irr] at this; cases this
    rw [incG_ext hf h1.2 h2.2 fun x => ?_]
    constructor
    · intro hx
      rcases List.mem_cons.1 ((h x).1 (by simp [hx])) with q | q
      · subst q; exact absurd hx (hn h1.1)
      · exact q
    · intro hx
      rcases List.mem_cons.1 ((h x).2 (by simp [hx])) with q | q
      · subst q; exact absurd hx (hn h2.1)
      · exact q
theorem inc_ext {l m : List Tx} : Inc l → Inc m → (∀ x, x ∈ l ↔ x ∈ m) → l = m := incG_ext toT
def IsForce (l : List Am) (day clock : Int) (R : List Rl) : Prop := Inc (R.map (·.name)) ∧ ∀ r, r ∈ R ↔ pick l day clock r.name = some r
theorem pick_name {l : List Am} {day clock : Int} {n : Tx} {r : Rl} (h : pick l day clock n = some r) : r.name = n := by
  unfold pick at h
  split at h
  · cases h
  · rename_i a ha
    split at h
    · cases h
    · simp at h
      obtain ⟨h1, _⟩ := best_some ha
      simp [qd, nmd] at h1
      rw [← h]; exact h1.2
theorem force_ext {f g : Tx → Option Rl} (hf : ∀ n r, f n = some r → r.name = n) {R S : List Rl} (h1 : Inc (R.map (·.name)) ∧ ∀ r, r ∈ R ↔ f r.name = some r) (h2 : Inc (S.map (·.name)) ∧ ∀ r, r ∈ S ↔ g r.name = some r) (h : ∀ n, f n = g n) : R = S := by
  have hn : R.map (·.name) = S.map (·.name) := inc_ext h1.1 h2.1 fun x => by
    constructor
    · intro hx
      obtain ⟨r, hr, rfl⟩ := List.mem_map.1 hx
      exact List.mem_map.2 ⟨r, (h2.2 r).2 (by rw [← h]; exact (h1.2 r).1 hr), rfl⟩
    · intro hx
      obtain ⟨r, hr, rfl⟩ := List.mem_map.1 hx
      exact List.mem_map.2 ⟨r, (h1.2 r).2 (by rw [h]; exact (h2.2 r).1 hr), rfl⟩
  have e1 : ∀ r ∈ R, f r.name = some r := fun r hr => (h1.2 r).1 hr
  have e2 : ∀ r ∈ S, f r.name = some r := fun r hr => by rw [h]; exact (h2.2 r).1 hr
  clear h1 h2 h
  induction R generalizing S with
  | nil => cases S with
    | nil => rfl
    | cons s S => simp at hn
  | cons r R ih =>
    cases S with
    | nil => simp at hn
    | cons s S =>
      simp only [List.map_cons, List.cons.injEq] at hn
      have h3 := e1 r (by simp)
      have h4 := e2 s (by simp)
      rw [hn.1, h4] at h3
      simp at h3
      rw [h3, ih hn.2 (fun x hx => e1 x (by simp [hx])) (fun x hx => e2 x (by simp [hx]))]
def names1 (day clock : Int) : List Am → List Tx
  | [] => []
  | a :: l => if spk day clock a then a.rule.name :: (names1 day clock l).filter (fun n => !(n == a.rule.name)) else names1 day clock l
theorem names1_mem {day clock : Int} {n : Tx} : ∀ {l : List Am}, n ∈ names1 day clock l ↔ ∃ a ∈ l, qd day clock n a = true
  | [] => by simp [names1]
  | a :: l => by
    unfold names1
    by_cases h : spk day clock a = true
    · rw [if_pos h]
      simp only [List.mem_cons, List.mem_filter, names1_mem (l := l)]
      by_cases e : n = a.rule.name
      · subst e
        simp only [true_or, true_iff]
        exact ⟨a, .inl rfl, by simp [qd, h, nmd]⟩
      · simp only [e, false_or]
        constructor
        · rintro ⟨⟨b, hb, hq⟩, _⟩; exact ⟨b, .inr hb, hq⟩
        · rintro ⟨b, hb | hb, hq⟩
          · subst hb; simp [qd, nmd] at hq; exact absurd hq.2.symm e
          · exact ⟨⟨b, hb, hq⟩, by simp [e]⟩
    · rw [if_neg h, names1_mem (l := l)]
      constructor
      · rintro ⟨b, hb, hq⟩; exact ⟨b, by simp [hb], hq⟩
      · rintro ⟨b, hb, hq⟩
        rcases List.mem_cons.1 hb with rfl | hb
        · simp [qd, h] at hq
        · exact ⟨b, hb, hq⟩
theorem names1_nodup {day clock : Int} : ∀ {l : List Am}, (names1 day clock l).Nodup
  | [] => by simp [names1]
  | a :: l => by
    unfold names1
    split
    · rw [List.nodup_cons]
      exact ⟨by simp [List.mem_filter], (names1_nodup (l := l)).filter _⟩
    · exact names1_nodup
/-! ### Sorting -/

theorem le_lt (a b : Tx) : (decide (a ≤ b)) = !(lt b a) := by
  unfold lt
  rw [Go.Proofs.bytesLess_eq]
  by_cases h : b < a
  · simp [h]
  · simp [h]
    exact List.not_lt.1 h
theorem merge_inc {α : Type} {f le : α → α → Bool} (hf : TO f) (hle : ∀ a b, le a b = !(f b a)) {l : List α} (h : l.Nodup) : IncG f (l.mergeSort le) := by
  have hp : (l.mergeSort le).Pairwise fun x y => le x y = true := List.pairwise_mergeSort (fun a b c h1 h2 => by
      rw [hle] at *
      simp only [Bool.not_eq_true'] at *
      cases e : f c a with
      | false => rfl
      | true =>
        cases e2 : f c b with
        | true => rw [e2] at h2; cases h2
        | false =>
          cases e3 : f b c with
          | true => have := hf.tr e3 e; rw [h1] at this; cases this
          | false => have := hf.tri e2 e3; subst this; rw [h1] at e; cases e)
    (fun a b => by
      rw [hle, hle]
      cases e : f b a with
      | false => rfl
      | true =>
        cases e2 : f a b with
        | false => rfl
        | true => have := hf.tr e e2; rw [hf.irr] at this; cases this) l
  have hn : (l.mergeSort le).Nodup := (List.mergeSort_perm l le).nodup_iff.2 h
  generalize l.mergeSort le = m at *
  induction m with
  | nil => trivial
  | cons a m ih =>
    rw [List.pairwise_cons] at hp
    rw [List.nodup_cons] at hn
    refine ⟨fun b hb => ?_, ih hp.2 hn.2⟩
    have h1 := hp.1 b hb
    rw [hle] at h1
    simp only [Bool.not_eq_true'] at h1
    cases e : f a b with
    | true => rfl
    | false => have := hf.tri e h1; subst this; exact absurd hb hn.1
def sorted (l : List Tx) : List Tx := l.mergeSort fun x y => decide (x ≤ y)
theorem sorted_perm (l : List Tx) : (sorted l).Perm l := List.mergeSort_perm _ _
theorem sorted_inc {l : List Tx} (h : l.Nodup) : Inc (sorted l) := merge_inc toT le_lt h
theorem sorted_eq {l m : List Tx} (h : l.Nodup) (hp : l.Perm m) : sorted l = sorted m :=
  inc_ext (sorted_inc h) (sorted_inc (hp.nodup_iff.1 h)) fun x => by
    rw [(sorted_perm l).mem_iff, (sorted_perm m).mem_iff, hp.mem_iff]
def sortedI (l : List Int) : List Int := l.mergeSort fun x y => decide (x ≤ y)
theorem sortedI_perm (l : List Int) : (sortedI l).Perm l := List.mergeSort_perm _ _
theorem sortedI_inc {l : List Int} (h : l.Nodup) : IncG ltI (sortedI l) := merge_inc toI (fun a b => by simp only [ltI]; rw [← decide_not]; rw [decide_eq_decide]; omega) h
def inForce (l : List Am) (day clock : Int) : List Rl := (sorted (names1 day clock l)).filterMap (pick l day clock)
theorem inc_filterMap {f : Tx → Option Rl} (hf : ∀ n r, f n = some r → r.name = n) : ∀ {l : List Tx}, Inc l → Inc ((l.filterMap f).map (·.name)) ∧ ∀ x ∈ (l.filterMap f).map (·.name), x ∈ l
  | [], _ => ⟨trivial, by simp⟩
  | a :: l, h => by
    obtain ⟨h1, h2⟩ := inc_filterMap hf h.2
    rw [List.filterMap_cons]
    cases e : f a with
    | none => exact ⟨h1, fun x hx => by simp [h2 x hx]⟩
    | some r =>
      have := hf a r e
      simp only [List.map_cons, this]
      exact ⟨⟨fun b hb => h.1 b (h2 b hb), h1⟩, fun x hx => by
        rcases List.mem_cons.1 hx with q | q
        · simp [q]
        · simp [h2 x q]⟩
theorem inForce_is (l : List Am) (day clock : Int) : IsForce l day clock (inForce l day clock) := by
  refine ⟨(inc_filterMap (fun _ _ h => pick_name h) (sorted_inc names1_nodup)).1, fun r => ?_⟩
  unfold inForce
  rw [List.mem_filterMap]
  constructor
  · rintro ⟨n, hn, hp⟩
    rw [pick_name hp]; exact hp
  · intro h
    refine ⟨r.name, ?_, h⟩
    rw [(sorted_perm _).mem_iff, names1_mem]
    unfold pick at h
    split at h
    · cases h
    · rename_i a ha
      obtain ⟨h1, h2⟩ := best_some ha
      exact ⟨a, h2, h1⟩
theorem inForce_congr {l m : List Am} {d d' c c' : Int} (h : ∀ n, pick l d c n = pick m d' c' n) : inForce l d c = inForce m d' c' :=
  force_ext (fun _ _ h => pick_name h) (inForce_is l d c) (inForce_is m d' c') h
/-! ### Equal conditions and rules -/

mutual
def sameX : X → X → Bool
  | .mk o n v m e ks, .mk o' n' v' m' e' ks' => o == o' && n == n' && v == v' && m == m' && e == e' && sameXL ks ks'
def sameXL : List X → List X → Bool
  | [], [] => true
  | k :: ks, k' :: ks' => sameX k k' && sameXL ks ks'
  | _, _ => false
end
mutual
theorem sameX_iff : ∀ a b : X, sameX a b = true ↔ a = b
  | .mk o n v m e ks, .mk o' n' v' m' e' ks' => by
    have := sameXL_iff ks ks'
    simp only [sameX, Bool.and_eq_true, beq_iff_eq, this, X.mk.injEq]
    constructor
    · rintro ⟨⟨⟨⟨⟨h1, h2⟩, h3⟩, h4⟩, h5⟩, h6⟩; exact ⟨h1, h2, h3, h4, h5, h6⟩
    · rintro ⟨h1, h2, h3, h4, h5, h6⟩; exact ⟨⟨⟨⟨⟨h1, h2⟩, h3⟩, h4⟩, h5⟩, h6⟩
theorem sameXL_iff : ∀ a b : List X, sameXL a b = true ↔ a = b
  | [], [] => by simp [sameXL]
  | [], _ :: _ => by simp [sameXL]
  | _ :: _, [] => by simp [sameXL]
  | k :: ks, k' :: ks' => by
    have h1 := sameX_iff k k'
    have h2 := sameXL_iff ks ks'
    simp [sameXL, h1, h2]
end
def sameR (a b : Rl) : Bool := a.name == b.name && a.kind == b.kind && sameX a.cond b.cond
theorem sameR_iff (a b : Rl) : sameR a b = true ↔ a = b := by
  obtain ⟨n, k, c⟩ := a; obtain ⟨n', k', c'⟩ := b
  simp only [sameR, Bool.and_eq_true, beq_iff_eq, sameX_iff, Rl.mk.injEq, and_assoc]
def allR : List Rl → List Rl → Bool
  | [], [] => true
  | a :: l, b :: m => sameR a b && allR l m
  | _, _ => false
theorem allR_iff : ∀ a b : List Rl, allR a b = true ↔ a = b
  | [], [] => by simp [allR]
  | [], _ :: _ => by simp [allR]
  | _ :: _, [] => by simp [allR]
  | a :: l, b :: m => by simp [allR, sameR_iff, allR_iff l m]
/-! ### The laws -/

def cand (l : List Am) : List Int := l.flatMap fun a => if amOk a then [a.frm, a.to + 1] else []
theorem cand_mem {l : List Am} {d : Int} : d ∈ cand l ↔ ∃ a ∈ l, amOk a = true ∧ (d = a.frm ∨ d = a.to + 1) := by
  unfold cand
  rw [List.mem_flatMap]
  constructor
  · rintro ⟨a, ha, h⟩
    by_cases e : amOk a = true
    · rw [if_pos e] at h; exact ⟨a, ha, e, by simpa using h⟩
    · rw [if_neg e] at h; simp at h
  · rintro ⟨a, ha, e, h⟩
    exact ⟨a, ha, by rw [if_pos e]; simpa using h⟩
def chg (l : List Am) (clock d : Int) : Bool := decide (d ≤ 40000) && !allR (inForce l d clock) (inForce l (d - 1) clock)
def once : List Int → List Int
  | [] => []
  | a :: l => a :: (once l).filter (fun n => !(n == a))
theorem once_mem {x : Int} : ∀ {l : List Int}, x ∈ once l ↔ x ∈ l
  | [] => by simp [once]
  | a :: l => by
    simp only [once, List.mem_cons, List.mem_filter, once_mem (l := l)]
    by_cases e : x = a
    · simp [e]
    · simp [e]
theorem once_nodup : ∀ {l : List Int}, (once l).Nodup
  | [] => by simp [once]
  | a :: l => by
    rw [once, List.nodup_cons]
    exact ⟨by simp [List.mem_filter], (once_nodup (l := l)).filter _⟩
theorem once_app (a : Int) : ∀ l : List Int, once (l ++ [a]) = if l.contains a then once l else once l ++ [a]
  | [] => by simp [once]
  | x :: l => by
    simp only [List.cons_append, once, once_app a l, List.contains_cons]
    by_cases e : a = x
    · subst e
      simp only [beq_self_eq_true, Bool.true_or, if_true]
      split
      · rfl
      · simp [List.filter_append]
    · have e1 : (a == x) = false := by simpa using e
      simp only [e1, Bool.false_or]
      split
      · rfl
      · simp [List.filter_append, e1]
def daysF (l : List Am) (clock : Int) : List Int := sortedI (once ((cand l).filter (chg l clock)))
def IsDays (l : List Am) (clock : Int) (D : List Int) : Prop := IncG ltI D ∧ ∀ d, d ∈ D ↔ d ∈ cand l ∧ chg l clock d = true
theorem days_is (l : List Am) (clock : Int) : IsDays l clock (daysF l clock) :=
  ⟨sortedI_inc once_nodup, fun d => by unfold daysF; rw [(sortedI_perm _).mem_iff, once_mem, List.mem_filter]⟩
theorem cand_range {l : List Am} {d : Int} (h : d ∈ cand l) : 0 ≤ d ∧ d ≤ 40001 := by
  obtain ⟨a, _, hv, h⟩ := cand_mem.1 h
  simp [amOk] at hv
  omega
/-! ### The reference -/

/-! ### The further laws -/

theorem later_same {l : List Am} {x : Am} {d c : Int} (h : spk d c x = false) (m : List Am) : inForce (l ++ x :: m) d c = inForce (l ++ m) d c :=
  inForce_congr fun n => by unfold pick; rw [best_ins (by simp [qd, h])]
theorem others_same {l m : List Am} {x : Am} {d c : Int} {n : Tx} (h : n ≠ x.rule.name) : pick (l ++ x :: m) d c n = pick (l ++ m) d c n := by
  unfold pick; rw [best_ins (by simp [qd, nmd, Ne.symm h])]
theorem later_pick {l : List Am} {x : Am} {d c : Int} (h : spk d c x = true) (hm : ∀ a ∈ l, a.clock ≤ x.clock) : pick (l ++ [x]) d c x.rule.name = if x.void then none else some x.rule := by
  unfold pick
  have e : best (qd d c x.rule.name) (l ++ [x]) = some x := by
    rw [best_app]
    unfold bstep
    rw [if_pos (by simp [qd, h, nmd])]
    split
    · rfl
    · rename_i b hb
      rw [if_pos (hm b (best_some hb).2)]
  rw [e]
def without (n : Tx) (R : List Rl) : List Rl := R.filter fun r => !(r.name == n)
theorem without_is {f : Tx → Option Rl} {R : List Rl} (n : Tx) (h : Inc (R.map (·.name)) ∧ ∀ r, r ∈ R ↔ f r.name = some r) :
    Inc ((without n R).map (·.name)) ∧ ∀ r, r ∈ without n R ↔ (if r.name = n then none else f r.name) = some r := by
  constructor
  · have : ∀ (R : List Rl), Inc (R.map (·.name)) → Inc ((R.filter fun r => !(r.name == n)).map (·.name)) := by
      intro R
      induction R with
      | nil => intro _; trivial
      | cons r R ih =>
        intro h
        rw [List.filter_cons]
        split
        · refine ⟨fun b hb => h.1 b ?_, ih h.2⟩
          obtain ⟨s, hs, rfl⟩ := List.mem_map.1 hb
          exact List.mem_map.2 ⟨s, (List.mem_filter.1 hs).1, rfl⟩
        · exact ih h.2
    exact this R h.1
  · intro r
    unfold without
    rw [List.mem_filter, h.2 r]
    by_cases e : r.name = n
    · simp [e]
    · simp [e]
theorem without_others {l m : List Am} {x : Am} {d c : Int} : without x.rule.name (inForce (l ++ x :: m) d c) = without x.rule.name (inForce (l ++ m) d c) :=
  force_ext (f := fun n => if n = x.rule.name then none else pick (l ++ x :: m) d c n) (g := fun n => if n = x.rule.name then none else pick (l ++ m) d c n) (fun n r h => by
    split at h
    · cases h
    · exact pick_name h) (without_is _ (inForce_is _ _ _)) (without_is _ (inForce_is _ _ _)) fun n => by
    by_cases e : n = x.rule.name
    · simp [e]
    · simp only [e, if_false]; exact others_same e
end Go.Proofs.Ytnooagipikedeaa
end
section
set_option linter.unusedSimpArgs false
set_option linter.unusedVariables false
namespace Go.Proofs.Ytnooagipikedeaa
open Go GoV
def entsAt (f : Tx → Int) : List Tx → Nat → List (D × D × Nat)
  | [], _ => []
  | n :: K, b => (.str n, .int .i64 (f n), b) :: entsAt f K (b + 1)
def ents (f : Tx → Int) (K : List Tx) : List (D × D × Nat) := entsAt f K 0
theorem entsAt_len (f : Tx → Int) : ∀ (K : List Tx) (b : Nat), (entsAt f K b).length = K.length
  | [], _ => rfl
  | n :: K, b => by simp [entsAt, entsAt_len f K]
theorem entsAt_app (f : Tx → Int) : ∀ (K : List Tx) (n : Tx) (b : Nat), entsAt f (K ++ [n]) b = entsAt f K b ++ [(.str n, .int .i64 (f n), b + K.length)]
  | [], n, b => rfl
  | x :: K, n, b => by simp [entsAt, entsAt_app f K n]; omega
theorem entsAt_congr {f g : Tx → Int} : ∀ {K : List Tx} {b : Nat}, (∀ n ∈ K, f n = g n) → entsAt f K b = entsAt g K b
  | [], _, _ => rfl
  | n :: K, b, h => by simp only [entsAt]; rw [h n (by simp), entsAt_congr fun m hm => h m (by simp [hm])]
theorem entsAt_ok (f : Tx → Int) : ∀ (K : List Tx) (b : Nat), ((entsAt f K b).all fun e => keyOk .str e.1) = true
  | [], _ => rfl
  | n :: K, b => by
    simp only [entsAt, List.all_cons, keyOk, Bool.true_and]
    exact entsAt_ok f K (b + 1)
theorem entsAt_born (f : Tx → Int) : ∀ (K : List Tx) (b : Nat), (entsAt f K b).map (·.2.2) = List.range' b K.length
  | [], _ => rfl
  | n :: K, b => by simp [entsAt, entsAt_born f K, List.range'_succ]
theorem entsAt_rn (f : Tx → Int) (β τ : Nat → Option Nat) : ∀ (K : List Tx) (b : Nat), pairs β τ (entsAt f K b) = entsAt f K b
  | [], _ => rfl
  | n :: K, b => by simp [entsAt, pairs, D.rn, entsAt_rn f β τ K]
theorem entsAt_none {f : Tx → Int} {n : Tx} : ∀ {K : List Tx} {b i : Nat}, n ∉ K → findM (.str n) (entsAt f K b) i = none
  | [], _, _, _ => rfl
  | x :: K, b, i, h => by
    simp only [List.mem_cons, not_or] at h
    have e : keq (.str n) (.str x) = false := by rw [keq]; simpa using h.1
    simp only [entsAt, findM, e]
    exact entsAt_none h.2
theorem entsAt_some {f : Tx → Int} {n : Tx} : ∀ {K : List Tx} {b i : Nat}, n ∈ K → ∃ j, findM (.str n) (entsAt f K b) i = some (i + j, .int .i64 (f n)) ∧ K[j]? = some n ∧ ∀ v, K.Nodup → ((entsAt f K b).modify j fun e => (.str n, .int .i64 v, e.2.2)) = entsAt (fun m => if m = n then v else f m) K b
  | [], _, _, h => by simp at h
  | x :: K, b, i, h => by
    by_cases e : n = x
    · subst e
      have e1 : keq (.str n) (.str n) = true := by rw [keq]; simp
      refine ⟨0, by simp only [entsAt, findM, e1]; rfl, rfl, fun v hn => ?_⟩
      rw [List.nodup_cons] at hn
      have hc : entsAt f K (b + 1) = entsAt (fun m => if m = n then v else f m) K (b + 1) := entsAt_congr fun m hm => by
        have : m ≠ n := fun q => hn.1 (q ▸ hm)
        rw [if_neg this]
      show (D.str n, D.int .i64 v, b) :: entsAt f K (b + 1) = (.str n, .int .i64 (if n = n then v else f n), b) :: entsAt (fun m => if m = n then v else f m) K (b + 1)
      rw [hc, if_pos rfl]
    · have e1 : keq (.str n) (.str x) = false := by rw [keq]; simpa using e
      obtain ⟨j, h1, h2, h3⟩ := entsAt_some (f := f) (K := K) (b := b + 1) (i := i + 1) (by simpa [e] using h)
      refine ⟨j + 1, by simp only [entsAt, findM, e1]; rw [show i + (j + 1) = i + 1 + j by omega]; exact h1, by simpa using h2, fun v hn => ?_⟩
      rw [List.nodup_cons] at hn
      have := h3 v hn.2
      show (D.str x, D.int .i64 (f x), b) :: (entsAt f K (b + 1)).modify j (fun e => (.str n, .int .i64 v, e.2.2)) = (.str x, .int .i64 (if x = n then v else f x), b) :: entsAt (fun m => if m = n then v else f m) K (b + 1)
      rw [this, if_neg (fun q => e q.symm)]
theorem ents_len (f : Tx → Int) (K : List Tx) : (ents f K).length = K.length := entsAt_len f K 0
theorem ents_ok (f : Tx → Int) (K : List Tx) : ((ents f K).all fun e => keyOk .str e.1) = true := entsAt_ok f K 0
theorem ents_rn (f : Tx → Int) (K : List Tx) (β τ : Nat → Option Nat) : pairs β τ (ents f K) = ents f K := entsAt_rn f β τ K 0
theorem ents_born (f : Tx → Int) (K : List Tx) : (ents f K).map (·.2.2) = List.range K.length := by unfold ents; rw [entsAt_born, List.range_eq_range']
theorem ents_none {f : Tx → Int} {K : List Tx} {n : Tx} (h : n ∉ K) : findM (.str n) (ents f K) 0 = none := entsAt_none h
theorem ents_some {f : Tx → Int} {K : List Tx} {n : Tx} (h : n ∈ K) : ∃ j, findM (.str n) (ents f K) 0 = some (j, .int .i64 (f n)) := by
  obtain ⟨j, h1, _⟩ := entsAt_some (f := f) (K := K) (b := 0) (i := 0) h
  exact ⟨_, h1⟩
theorem ents_new {f : Tx → Int} {K : List Tx} {n : Tx} (v : Int) (h : n ∉ K) : putM (ents f K) K.length (.str n) (.int .i64 v) = .map (ents (fun m => if m = n then v else f m) (K ++ [n])) (K.length + 1) := by
  unfold putM
  rw [ents_none h]
  unfold ents
  rw [entsAt_app]
  have hc : entsAt f K 0 = entsAt (fun m => if m = n then v else f m) K 0 := entsAt_congr fun m hm => by
    have : m ≠ n := fun q => h (q ▸ hm)
    rw [if_neg this]
  rw [hc, if_pos rfl, Nat.zero_add]
theorem ents_old {f : Tx → Int} {K : List Tx} {n : Tx} (v : Int) (h : n ∈ K) (hn : K.Nodup) : putM (ents f K) K.length (.str n) (.int .i64 v) = .map (ents (fun m => if m = n then v else f m) K) K.length := by
  unfold putM
  obtain ⟨j, h1, h2, h3⟩ := entsAt_some (f := f) (K := K) (b := 0) (i := 0) h
  unfold ents
  rw [h1]
  simp only [Nat.zero_add]
  rw [h3 v hn]
theorem ents_mem {f : Tx → Int} {K : List Tx} {e : D × D × Nat} (h : e ∈ ents f K) : ∃ j, ∃ hj : j < K.length, e = (.str K[j], .int .i64 (f K[j]), j) := by
  have : ∀ (K : List Tx) (b : Nat), e ∈ entsAt f K b → ∃ j, ∃ hj : j < K.length, e = (.str K[j], .int .i64 (f K[j]), b + j) := by
    intro K
    induction K with
    | nil => intro b h; simp [entsAt] at h
    | cons n K ih =>
      intro b h
      simp only [entsAt, List.mem_cons] at h
      rcases h with h | h
      · exact ⟨0, by simp, by simpa using h⟩
      · obtain ⟨j, hj, h1⟩ := ih (b + 1) h
        exact ⟨j + 1, by simp; omega, by rw [h1]; simp; omega⟩
  obtain ⟨j, hj, h1⟩ := this K 0 h
  exact ⟨j, hj, by rw [h1, Nat.zero_add]⟩
theorem ents_mem' {f : Tx → Int} {K : List Tx} {j : Nat} (hj : j < K.length) : (D.str K[j], D.int .i64 (f K[j]), j) ∈ ents f K := by
  have : ∀ (K : List Tx) (b j : Nat) (hj : j < K.length), (D.str K[j], D.int .i64 (f K[j]), b + j) ∈ entsAt f K b := by
    intro K
    induction K with
    | nil => intro b j hj; simp at hj
    | cons n K ih =>
      intro b j hj
      cases j with
      | zero => simp [entsAt]
      | succ j =>
        have := ih (b + 1) j (by simpa using hj)
        simp only [entsAt, List.mem_cons, List.getElem_cons_succ]
        right
        rw [show b + (j + 1) = b + 1 + j by omega]; exact this
  have := this K 0 j hj
  rwa [Nat.zero_add] at this
/-! ### The map of the deciding amendments -/

theorem names1_cons (day clock : Int) (a : Am) (l : List Am) : names1 day clock (a :: l) = if spk day clock a then a.rule.name :: (names1 day clock l).filter (fun n => !(n == a.rule.name)) else names1 day clock l := rfl
mutual
theorem names1_old {day clock : Int} {a : Am} : ∀ {l : List Am}, (spk day clock a = true → a.rule.name ∈ names1 day clock l) → names1 day clock (l ++ [a]) = names1 day clock l
  | [], h => by
    have : spk day clock a = false := by
      cases e : spk day clock a with
      | false => rfl
      | true => have := h e; simp [names1] at this
    simp [names1, this]
  | x :: l, h => by
    rw [List.cons_append, names1_cons, names1_cons]
    rw [names1_cons] at h
    by_cases hx : spk day clock x = true
    · rw [if_pos hx, if_pos hx]
      rw [if_pos hx] at h
      by_cases e : a.rule.name = x.rule.name
      · by_cases hm : spk day clock a = true → a.rule.name ∈ names1 day clock l
        · rw [names1_old hm]
        · have h2 : spk day clock a = true ∧ a.rule.name ∉ names1 day clock l := by
            refine ⟨?_, fun q => hm fun _ => q⟩
            cases e : spk day clock a with
            | true => rfl
            | false => exact absurd (fun q => by rw [e] at q; cases q) hm
          rw [names1_new h2.1 h2.2, List.filter_append]
          simp [e]
      · rw [names1_old fun q => by
          have := h q
          simp only [List.mem_cons, e, false_or, List.mem_filter] at this
          exact this.1]
    · rw [if_neg hx, if_neg hx]
      rw [if_neg hx] at h
      exact names1_old h
theorem names1_new {day clock : Int} {a : Am} : ∀ {l : List Am}, spk day clock a = true → a.rule.name ∉ names1 day clock l → names1 day clock (l ++ [a]) = names1 day clock l ++ [a.rule.name]
  | [], h, _ => by simp [names1, h]
  | x :: l, h, hn => by
    rw [List.cons_append, names1_cons, names1_cons]
    rw [names1_cons] at hn
    by_cases hx : spk day clock x = true
    · rw [if_pos hx, if_pos hx]
      rw [if_pos hx] at hn
      simp only [List.mem_cons, List.mem_filter, not_or, not_and] at hn
      have e : (a.rule.name == x.rule.name) = false := by simpa using hn.1
      rw [names1_new h fun q => by have := hn.2 q; rw [e] at this; exact this rfl, List.filter_append]
      simp [e]
    · rw [if_neg hx, if_neg hx]
      rw [if_neg hx] at hn
      exact names1_new h hn
end
def idxD (day clock : Int) (l : List Am) (n : Tx) : Nat := match bestI (qd day clock n) (num l) with | some p => p.1 | none => 0
def decE (day clock : Int) (l : List Am) : List (D × D × Nat) := ents (fun n => (idxD day clock l n : Nat)) (names1 day clock l)
theorem idx_app (day clock : Int) (l : List Am) (a : Am) (n : Tx) : bestI (qd day clock n) (num (l ++ [a])) = istep (qd day clock n) (bestI (qd day clock n) (num l)) (l.length, a) := by rw [num_app, bestI_app]
theorem idx_other {day clock : Int} {l : List Am} {a : Am} {n : Tx} (h : qd day clock n a = false) : idxD day clock (l ++ [a]) n = idxD day clock l n := by
  unfold idxD
  rw [idx_app]; unfold istep
  simp only [h]
  rfl
theorem idx_here {day clock : Int} {l : List Am} {a : Am} {n : Tx} (h : qd day clock n a = true) (hb : ∀ p, bestI (qd day clock n) (num l) = some p → p.2.clock ≤ a.clock) : idxD day clock (l ++ [a]) n = l.length := by
  unfold idxD
  rw [idx_app]; unfold istep
  simp only [h, if_true]
  cases e : bestI (qd day clock n) (num l) with
  | none => rfl
  | some b => simp only; rw [if_pos (hb b e)]
theorem idx_there {day clock : Int} {l : List Am} {a : Am} {n : Tx} {p : Nat × Am} (hb : bestI (qd day clock n) (num l) = some p) (h : ¬ p.2.clock ≤ a.clock) : idxD day clock (l ++ [a]) n = idxD day clock l n := by
  unfold idxD
  rw [idx_app, hb]; unfold istep
  simp only [if_neg h]
  cases qd day clock n a <;> rfl
theorem dec_skip {day clock : Int} {l : List Am} {a : Am} (h : spk day clock a = false) : decE day clock (l ++ [a]) = decE day clock l := by
  unfold decE
  rw [names1_old (fun q => by rw [h] at q; cases q)]
  exact entsAt_congr fun n _ => by rw [idx_other (by simp [qd, h])]
theorem dec_len (day clock : Int) (l : List Am) : (decE day clock l).length = (names1 day clock l).length := ents_len _ _
theorem dec_rn (day clock : Int) (l : List Am) (β τ : Nat → Option Nat) : pairs β τ (decE day clock l) = decE day clock l := ents_rn _ _ _ _
theorem dec_ok (day clock : Int) (l : List Am) : ((decE day clock l).all fun e => keyOk .str e.1) = true := ents_ok _ _
theorem dec_none {day clock : Int} {l : List Am} {n : Tx} (h : n ∉ names1 day clock l) : findM (.str n) (decE day clock l) 0 = none := ents_none h
theorem dec_some {day clock : Int} {l : List Am} {n : Tx} (h : n ∈ names1 day clock l) : ∃ j k a, findM (.str n) (decE day clock l) 0 = some (j, .int .i64 (k : Nat)) ∧ bestI (qd day clock n) (num l) = some (k, a) ∧ ∃ hk : k < l.length, l[k] = a := by
  obtain ⟨j, hj⟩ := ents_some (f := fun n => (idxD day clock l n : Nat)) h
  obtain ⟨a, ha, hq⟩ := names1_mem.1 h
  cases e : bestI (qd day clock n) (num l) with
  | none =>
    have : best (qd day clock n) l = none := by rw [← bestI_snd, e]; rfl
    have := best_none.1 this a ha
    rw [hq] at this; cases this
  | some p =>
    obtain ⟨_, h2⟩ := bestI_some e
    refine ⟨j, p.1, p.2, ?_, rfl, h2⟩
    rw [show decE day clock l = ents (fun n => (idxD day clock l n : Nat)) (names1 day clock l) from rfl, hj]
    simp only [idxD, e]
theorem dec_put {day clock : Int} {l : List Am} {a : Am} (h : spk day clock a = true) (hb : ∀ p, bestI (qd day clock a.rule.name) (num l) = some p → p.2.clock ≤ a.clock) :
    putM (decE day clock l) (decE day clock l).length (.str a.rule.name) (.int .i64 (l.length : Nat)) = .map (decE day clock (l ++ [a])) (decE day clock (l ++ [a])).length := by
  have hq : qd day clock a.rule.name a = true := by simp [qd, h, nmd]
  have hc : ∀ K, ents (fun m => if m = a.rule.name then ((l.length : Nat) : Int) else (idxD day clock l m : Nat)) K = ents (fun n => (idxD day clock (l ++ [a]) n : Nat)) K := fun K => entsAt_congr fun n _ => by
    by_cases e : n = a.rule.name
    · subst e; rw [if_pos rfl, idx_here hq hb]
    · rw [if_neg e, idx_other]
      simp [qd, nmd, Ne.symm e]
  rw [dec_len, dec_len]
  unfold decE
  by_cases hn : a.rule.name ∈ names1 day clock l
  · rw [ents_old _ hn names1_nodup, hc, names1_old (fun _ => hn)]
  · rw [ents_new _ hn, hc, names1_new h hn]; simp
theorem dec_keep {day clock : Int} {l : List Am} {a : Am} {p : Nat × Am} (hn : a.rule.name ∈ names1 day clock l) (hb : bestI (qd day clock a.rule.name) (num l) = some p) (hp : ¬ p.2.clock ≤ a.clock) : decE day clock (l ++ [a]) = decE day clock l := by
  unfold decE
  rw [names1_old (fun _ => hn)]
  exact entsAt_congr fun n _ => by
    by_cases e : n = a.rule.name
    · subst e; rw [idx_there hb hp]
    · rw [idx_other]
      simp [qd, nmd, Ne.symm e]
end Go.Proofs.Ytnooagipikedeaa
end
section
set_option maxRecDepth 100000
set_option linter.unusedSimpArgs false
set_option linter.unusedVariables false
namespace Go.Proofs.Ytnooagipikedeaa
open Go GoV
def strs (l : List Tx) : List D := l.map .str
def X.op : X → Int | .mk o _ _ _ _ _ => o
def X.nam : X → Tx | .mk _ o _ _ _ _ => o
def X.val : X → Tx | .mk _ _ o _ _ _ => o
def X.num : X → Int | .mk _ _ _ o _ _ => o
def X.ext : X → Int | .mk _ _ _ _ o _ => o
def X.kids : X → List X | .mk _ _ _ _ _ o => o
mutual
def X.d : X → D
  | .mk op name value n extra ks => .agg [.int .i64 op, .str name, .str value, .int .i64 n, .int .i64 extra, .slice (X.dL ks) .no]
def X.dL : List X → List D
  | [] => []
  | k :: ks => X.d k :: X.dL ks
end
theorem dL_map : ∀ ks : List X, X.dL ks = ks.map X.d
  | [] => rfl
  | k :: ks => by simp [X.dL, dL_map ks]
@[reducible] def X.cells (x : X) : List D := [.int .i64 x.op, .str x.nam, .str x.val, .int .i64 x.num, .int .i64 x.ext, .slice (x.kids.map X.d) .no]
theorem X.d_eq (x : X) : x.d = .agg x.cells := by
  cases x; simp [X.d, X.cells, X.op, X.nam, X.val, X.num, X.ext, X.kids, dL_map]
theorem nodes_pos : ∀ x : X, 0 < x.nodes
  | .mk _ _ _ _ _ _ => by simp only [X.nodes]; omega
theorem X.nodes_eq (x : X) : x.nodes = 1 + X.nodesL x.kids := by cases x; simp [X.nodes, X.kids]
theorem nodesL_mem : ∀ {ks : List X} {k : X}, k ∈ ks → k.nodes ≤ X.nodesL ks
  | [], _, h => by simp at h
  | k' :: ks, k, h => by
    simp only [X.nodesL]
    rcases List.mem_cons.1 h with rfl | h
    · omega
    · have := nodesL_mem h; omega
theorem kid_nodes {x k : X} (h : k ∈ x.kids) : k.nodes < x.nodes := by have := nodesL_mem h; rw [X.nodes_eq x]; omega
theorem nodesL_len : ∀ ks : List X, ks.length ≤ X.nodesL ks
  | [] => by simp
  | k :: ks => by have := nodesL_len ks; have := nodes_pos k; simp only [X.nodesL, List.length_cons]; omega
theorem kids_len (x : X) : x.kids.length < x.nodes := by have := nodesL_len x.kids; rw [X.nodes_eq x]; omega
theorem X.well_eq (x : X) : well x = (nodeOk x.op x.nam x.val x.num x.ext x.kids.length && wellL x.kids) := by cases x; rfl
theorem elemsK_map {α : Type} (f : α → D) (k : Nat) (h : ∀ x, (f x).isVal = true ∧ (f x).cells.length = k) : ∀ l : List α, elemsK k (l.map f) = true
  | [] => rfl
  | x :: l => by simp [elemsK, h x, elemsK_map f k h l]
theorem er_strs (l : List Tx) : D.erL (strs l) = strs l := by induction l with | nil => rfl | cons x l ih => simp_all [strs, D.erL, D.er]
theorem cl_strs (l : List Tx) : D.closedL (strs l) = true := by induction l with | nil => rfl | cons x l ih => simp_all [strs, D.closedL, D.closed]
theorem num_p (n low : Int) : Pur M 73 [.int .i64 n, .int .i64 low] (.bool (numOk n low)) := by
  refine ok73 rfl ?_
  rw [i73]
  unfold c73
  have e : numOk n low = (decide (n ≥ low) && decide (n ≤ 9999999)) := rfl
  rw [e]
  repeat' (first
    | with_reducible first | apply swp_seq | apply swp_reg | apply swp_regD | apply swp_block | apply swp_exit | apply swp_ret | apply swp_skip | apply swp_cd
    | simp only [go_sem, seval, P73, q73]
    | with_reducible first | apply cd_dec | apply cd_eq | apply cd_ne | apply cd_split | apply gd_dec | apply gd_eq | apply gd_ne | apply gd_split
    | ((with_reducible refine And.intro ?hw ?_); (case hw => first | omega | rfl | exact ⟨_, _, rfl⟩ | assumption | (simp only [lN] <;> omega)))
    | with_reducible intro _)
  all_goals first | omega | (simp_all [D.closed, D.er, D.closedL, D.erL]; done) | (simp_all [D.closed, D.er, D.closedL, D.erL] <;> omega)
mutual
theorem cl_X : ∀ x : X, D.closed x.d = true
  | .mk op name value n extra ks => by simp [X.d, D.closed, D.closedL]
theorem cl_XL : ∀ ks : List X, D.closedL (X.dL ks) = true
  | [] => rfl
  | k :: ks => by simp [X.dL, D.closedL, cl_X k, cl_XL ks]
end
theorem er_X (x : X) : x.d.er = x.d := by cases x; simp [X.d, D.er, D.erL]
theorem erL_X : ∀ ks : List X, D.erL (ks.map X.d) = ks.map X.d
  | [] => rfl
  | k :: ks => by simp [D.erL, er_X k, erL_X ks]
theorem closedL_X : ∀ ks : List X, D.closedL (ks.map X.d) = true
  | [] => rfl
  | k :: ks => by simp [D.closedL, cl_X k, closedL_X ks]
end Go.Proofs.Ytnooagipikedeaa
end
section
set_option maxRecDepth 100000
set_option linter.unusedSimpArgs false
set_option linter.unusedVariables false
namespace Go.Proofs.Ytnooagipikedeaa
open Go GoV Go.RowKit
theorem index_p (s : Tx) (c : UInt8) : Pur M 92 [.str s, .int .u8 c.toNat] (.int .i64 (Lib.indexByte s c)) := by
  refine pur_ext (vs := [.string ⟨s.toArray⟩, .int .u8 c.toNat]) (v := .int .i64 (Lib.indexByte s c)) ⟨Try.f92, Try.func92, rfl, rfl⟩ (fun w I xs h => ?_) (fun w I => ?_) (fun w hA => ?_)
  · obtain ⟨x, xs', rfl, g1, g2⟩ := h.inv
    obtain ⟨y, ys', rfl, g3, g4⟩ := g2.inv
    simp only [Rel] at g1 g3
    rw [g4.inv_nil, g1, g3]
  · simp [Rel]
  · refine (Try.strings_IndexByte ⟨s.toArray⟩ c.toNat w).mono fun e w' hh => ?_
    obtain ⟨rfl, rfl⟩ := hh
    refine ⟨?_, Below.refl _ _⟩
    have : ((c.toNat : Int).toNat).toUInt8 = c := by simp
    rw [this]
def cls0 (c : Nat) : Int :=
  if (97 ≤ c ∧ c ≤ 122) ∨ (65 ≤ c ∧ c ≤ 90) then 3 else if 48 ≤ c ∧ c ≤ 57 then 4 else if Lib.indexByte [32, 9, 10] (UInt8.ofNat c) ≥ 0 then 1
  else if Lib.indexByte [59, 44, 46, 58, 40, 41, 123, 125, 91, 93, 61, 60, 62, 47, 43, 45, 42] (UInt8.ofNat c) ≥ 0 then 6 else 0
def tblN (i : Nat) : List D := (List.range 256).map fun c => .int .u8 (if c < i then cls0 c else 0)
def tbl : List D := (List.range 256).map fun c => .int .u8 (if c = 35 then 2 else if c = 95 then 5 else if c = 34 then 7 else cls0 c)
theorem tblN_len (i : Nat) : (tblN i).length = 256 := by simp [tblN]
theorem map_const {α : Type} (v : D) : ∀ l : List α, l.map (fun _ => v) = List.replicate l.length v
  | [] => rfl
  | x :: l => by rw [List.map_cons, map_const v l]; rfl
theorem tblN_zero : zl256 = tblN 0 := by
  unfold zl256 tblN
  have : (fun c : Nat => D.int .u8 (if c < 0 then cls0 c else 0)) = fun _ => D.int .u8 0 := by funext c; simp
  rw [this, map_const, List.length_range]
theorem zl_len : zl256.length = 256 := by rw [tblN_zero, tblN_len]
theorem tblN_set {i : Nat} (h : i < 256) {v : Int} (hv : v = cls0 i) : setL (tblN i) i [.int .u8 v] = tblN (i + 1) := by
  subst hv
  simp only [setL]
  apply List.ext_getElem?
  intro j
  rw [List.getElem?_set]
  by_cases hj : j < 256
  · by_cases e : i = j
    · subst e
      simp [tblN, h]
    · rw [if_neg e]
      simp only [tblN, List.getElem?_map, List.getElem?_range hj, Option.map_some]
      have : (j < i) ↔ (j < i + 1) := by omega
      simp [this]
  · have h1 : ∀ k, (tblN k)[j]? = none := fun k => List.getElem?_eq_none (by rw [tblN_len]; omega)
    rw [h1, h1]
    rw [if_neg (by omega)]
theorem tblN_skip {i : Nat} (h : i < 256) (hv : cls0 i = 0) : tblN i = tblN (i + 1) := by
  rw [← tblN_set h rfl, hv]
  simp only [setL]
  apply List.ext_getElem?
  intro j
  rw [List.getElem?_set]
  by_cases e : i = j
  · subst e; simp [tblN, h]
  · rw [if_neg e]
theorem tbl_eq : setL (setL (setL (tblN 256) 35 [.int .u8 2]) 95 [.int .u8 5]) 34 [.int .u8 7] = tbl := by
  simp only [setL]
  apply List.ext_getElem?
  intro j
  simp only [List.getElem?_set, List.length_set, tblN_len]
  by_cases hj : j < 256
  · simp only [tblN, tbl, List.getElem?_map, List.getElem?_range hj, Option.map_some, hj, if_true]
    by_cases h1 : j = 34
    · subst h1; simp
    · by_cases h2 : j = 95
      · subst h2; simp
      · by_cases h3 : j = 35
        · subst h3; simp
        · simp [h1, h2, h3, show ¬ 34 = j by omega, show ¬ 95 = j by omega, show ¬ 35 = j by omega]
  · have h1 : (tblN 256)[j]? = none := List.getElem?_eq_none (by rw [tblN_len]; omega)
    have h2 : tbl[j]? = none := List.getElem?_eq_none (by simp [tbl]; omega)
    rw [h1, h2]
    simp [show ¬ 34 = j by omega, show ¬ 95 = j by omega, show ¬ 35 = j by omega]
theorem u8n (n : Nat) (h : n < 256) : ((UInt8.ofNat n).toNat : Int) = n := by simp [UInt8.toNat_ofNat']; omega
theorem cls0_eq (i : Nat) : cls0 i = if (97 ≤ i ∧ i ≤ 122) ∨ (65 ≤ i ∧ i ≤ 90) then 3 else if 48 ≤ i ∧ i ≤ 57 then 4 else if Lib.indexByte [32, 9, 10] (UInt8.ofNat i) ≥ 0 then 1
        else if Lib.indexByte [59, 44, 46, 58, 40, 41, 123, 125, 91, 93, 61, 60, 62, 47, 43, 45, 42] (UInt8.ofNat i) ≥ 0 then 6 else 0 := rfl
theorem tbl_get {c : Nat} (h : c < 256) : tbl.getD c .undef = .int .u8 (if c = 35 then 2 else if c = 95 then 5 else if c = 34 then 7 else cls0 c) := by simp [tbl, List.getD, h]
theorem tbl_len : tbl.length = 256 := by simp [tbl]
theorem setL_app : ∀ (ds : List D) (cs : List D) (off : Nat), off + ds.length ≤ cs.length → setL cs off ds = cs.take off ++ ds ++ cs.drop (off + ds.length)
  | [], cs, off, h => by simp [setL]
  | d :: ds, cs, off, h => by
    simp only [List.length_cons] at h
    rw [setL, setL_app ds (cs.set off d) (off + 1) (by simp; omega)]
    have e1 : (cs.set off d).take (off + 1) = cs.take off ++ [d] := by
      rw [List.take_set, List.take_succ_eq_append_getElem (by omega), List.set_append_right _ _ (by simp; omega)]
      simp [Nat.min_eq_left (show off ≤ cs.length by omega)]
    have e2 : (cs.set off d).drop (off + 1 + ds.length) = cs.drop (off + (ds.length + 1)) := by
      rw [List.drop_set_of_lt (by omega)]; congr 1; omega
    rw [e1, e2]; simp
theorem setL_full {cs ds : List D} (h : ds.length = cs.length) : setL cs 0 ds = ds := by
  rw [setL_app ds cs 0 (by omega)]; simp [h]
theorem tbl_cl : D.closedL tbl = true ∧ D.erL tbl = tbl := by
  unfold tbl
  have : ∀ (f : Nat → Int) (l : List Nat), D.closedL (l.map fun c => D.int .u8 (f c)) = true ∧ D.erL (l.map fun c => D.int .u8 (f c)) = l.map fun c => D.int .u8 (f c) := by
    intro f l
    induction l with
    | nil => exact ⟨rfl, rfl⟩
    | cons x l ih => simp only [List.map_cons, D.closedL, D.erL, D.closed, D.er, ih.1, ih.2]; exact ⟨rfl, trivial⟩
  exact this _ _
attribute [irreducible] tblN tbl cls0
set_option maxHeartbeats 1000000 in
theorem classes_p : Pur M 69 [] (.agg tbl) := by
  refine ok69 rfl ?_
  rw [i69]
  unfold c69
  have hz := zl_len
  have ht := tbl_eq
  simp only [setL] at ht
  repeat' (first
    | with_reducible first | apply swp_seq | apply swp_reg | apply swp_regD | apply swp_block | apply swp_exit | apply swp_ret | apply swp_skip | apply swp_cd
    | simp only [go_sem, seval, P69, q69]
    | with_reducible first | apply cd_dec | apply cd_eq | apply cd_ne | apply cd_split | apply gd_dec | apply gd_eq | apply gd_ne | apply gd_split
    | ((with_reducible refine And.intro ?hw ?_); (case hw => first | omega | rfl | exact ⟨_, _, rfl⟩ | assumption | (simp only [lN] <;> omega)))
    | with_reducible intro _)
  refine swp_fam [0, 1, 4] (fun i : Nat => ⟨[.ptr 0 0, .ptr 1 0, .undef, .undef, .int .i64 i, .undef, .undef, .undef, .undef, .undef], [], ⟨[.cells zl256, .cells (tblN i)], []⟩⟩) (fun i => i ≤ 256) (fun i => 256 - i) 0 (by omega) ?_ ?_
  · simp [keepE, St.keep, tblN_zero]
  · intro i g1
    have hl := tblN_len i
    by_cases hi : i < 256
    · have hn := u8n i hi
      have x1 := index_p [32, 9, 10] (UInt8.ofNat i)
      have x2 := index_p [59, 44, 46, 58, 40, 41, 123, 125, 91, 93, 61, 60, 62, 47, 43, 45, 42] (UInt8.ofNat i)
      rw [hn] at x1 x2
      have hset := fun v => tblN_set (v := v) hi
      have hskip := tblN_skip hi
      have hc := cls0_eq i
      generalize Lib.indexByte [32, 9, 10] (UInt8.ofNat i) = y1 at *
      generalize Lib.indexByte [59, 44, 46, 58, 40, 41, 123, 125, 91, 93, 61, 60, 62, 47, 43, 45, 42] (UInt8.ofNat i) = y2 at *
      generalize cls0 i = ci at *
      have hcase : (i < 48) ∨ (48 ≤ i ∧ i < 58) ∨ (58 ≤ i ∧ i < 65) ∨ (65 ≤ i ∧ i < 91) ∨ (91 ≤ i ∧ i < 97) ∨ (97 ≤ i ∧ i < 123) ∨ (123 ≤ i) := by omega
      rcases hcase with hq | hq | hq | hq | hq | hq | hq
      · have t0 : decide (97 ≤ (i : Int)) = false := by simp; omega
        have t1 : decide ((i : Int) ≤ 122) = true := by simp; omega
        have t2 : decide (65 ≤ (i : Int)) = false := by simp; omega
        have t3 : decide ((i : Int) ≤ 90) = true := by simp; omega
        have t4 : decide (48 ≤ (i : Int)) = false := by simp; omega
        have t5 : decide ((i : Int) ≤ 57) = true := by simp; omega
        repeat' (first
    | with_reducible first | apply swp_seq | apply swp_reg | apply swp_regD | apply swp_block | apply swp_exit | apply swp_ret | apply swp_skip | apply swp_cd
    | simp only [go_sem, seval, P69, q69, hl, t0, t1, t2, t3, t4, t5]
    | simp (disch := omega) only [w64, w32, wu8, wu16, wu32, wu64]
    | ((with_reducible refine o_call (x1) ?he ?hc ?_); (case he | hc => first | rfl | (simp [D.erL, D.er, D.closedL, D.closed]; done)))
    | ((with_reducible refine o_call (x2) ?he ?hc ?_); (case he | hc => first | rfl | (simp [D.erL, D.er, D.closedL, D.closed]; done)))
    | with_reducible first | apply cd_dec | apply cd_eq | apply cd_ne | apply cd_split | apply gd_dec | apply gd_eq | apply gd_ne | apply gd_split
    | ((with_reducible refine And.intro ?hw ?_); (case hw => first | omega | rfl | exact ⟨_, _, rfl⟩ | assumption | (simp only [lN] <;> omega)))
    | with_reducible intro _)
        all_goals try omega
        all_goals refine ⟨i + 1, by omega, by omega, ?_⟩
        all_goals simp [St.keep, keepE]
        all_goals first
          | exact hset _ (by rw [hc]; repeat' split <;> first | rfl | omega)
          | exact hskip (by rw [hc]; repeat' split <;> first | rfl | omega)
      · have t0 : decide (97 ≤ (i : Int)) = false := by simp; omega
        have t1 : decide ((i : Int) ≤ 122) = true := by simp; omega
        have t2 : decide (65 ≤ (i : Int)) = false := by simp; omega
        have t3 : decide ((i : Int) ≤ 90) = true := by simp; omega
        have t4 : decide (48 ≤ (i : Int)) = true := by simp; omega
        have t5 : decide ((i : Int) ≤ 57) = true := by simp; omega
        repeat' (first
    | with_reducible first | apply swp_seq | apply swp_reg | apply swp_regD | apply swp_block | apply swp_exit | apply swp_ret | apply swp_skip | apply swp_cd
    | simp only [go_sem, seval, P69, q69, hl, t0, t1, t2, t3, t4, t5]
    | simp (disch := omega) only [w64, w32, wu8, wu16, wu32, wu64]
    | ((with_reducible refine o_call (x1) ?he ?hc ?_); (case he | hc => first | rfl | (simp [D.erL, D.er, D.closedL, D.closed]; done)))
    | ((with_reducible refine o_call (x2) ?he ?hc ?_); (case he | hc => first | rfl | (simp [D.erL, D.er, D.closedL, D.closed]; done)))
    | with_reducible first | apply cd_dec | apply cd_eq | apply cd_ne | apply cd_split | apply gd_dec | apply gd_eq | apply gd_ne | apply gd_split
    | ((with_reducible refine And.intro ?hw ?_); (case hw => first | omega | rfl | exact ⟨_, _, rfl⟩ | assumption | (simp only [lN] <;> omega)))
    | with_reducible intro _)
        all_goals try omega
        all_goals refine ⟨i + 1, by omega, by omega, ?_⟩
        all_goals simp [St.keep, keepE]
        all_goals first
          | exact hset _ (by rw [hc]; repeat' split <;> first | rfl | omega)
          | exact hskip (by rw [hc]; repeat' split <;> first | rfl | omega)
      · have t0 : decide (97 ≤ (i : Int)) = false := by simp; omega
        have t1 : decide ((i : Int) ≤ 122) = true := by simp; omega
        have t2 : decide (65 ≤ (i : Int)) = false := by simp; omega
        have t3 : decide ((i : Int) ≤ 90) = true := by simp; omega
        have t4 : decide (48 ≤ (i : Int)) = true := by simp; omega
        have t5 : decide ((i : Int) ≤ 57) = false := by simp; omega
        repeat' (first
    | with_reducible first | apply swp_seq | apply swp_reg | apply swp_regD | apply swp_block | apply swp_exit | apply swp_ret | apply swp_skip | apply swp_cd
    | simp only [go_sem, seval, P69, q69, hl, t0, t1, t2, t3, t4, t5]
    | simp (disch := omega) only [w64, w32, wu8, wu16, wu32, wu64]
    | ((with_reducible refine o_call (x1) ?he ?hc ?_); (case he | hc => first | rfl | (simp [D.erL, D.er, D.closedL, D.closed]; done)))
    | ((with_reducible refine o_call (x2) ?he ?hc ?_); (case he | hc => first | rfl | (simp [D.erL, D.er, D.closedL, D.closed]; done)))
    | with_reducible first | apply cd_dec | apply cd_eq | apply cd_ne | apply cd_split | apply gd_dec | apply gd_eq | apply gd_ne | apply gd_split
    | ((with_reducible refine And.intro ?hw ?_); (case hw => first | omega | rfl | exact ⟨_, _, rfl⟩ | assumption | (simp only [lN] <;> omega)))
    | with_reducible intro _)
        all_goals try omega
        all_goals refine ⟨i + 1, by omega, by omega, ?_⟩
        all_goals simp [St.keep, keepE]
        all_goals first
          | exact hset _ (by rw [hc]; repeat' split <;> first | rfl | omega)
          | exact hskip (by rw [hc]; repeat' split <;> first | rfl | omega)
      · have t0 : decide (97 ≤ (i : Int)) = false := by simp; omega
        have t1 : decide ((i : Int) ≤ 122) = true := by simp; omega
        have t2 : decide (65 ≤ (i : Int)) = true := by simp; omega
        have t3 : decide ((i : Int) ≤ 90) = true := by simp; omega
        have t4 : decide (48 ≤ (i : Int)) = true := by simp; omega
        have t5 : decide ((i : Int) ≤ 57) = false := by simp; omega
        repeat' (first
    | with_reducible first | apply swp_seq | apply swp_reg | apply swp_regD | apply swp_block | apply swp_exit | apply swp_ret | apply swp_skip | apply swp_cd
    | simp only [go_sem, seval, P69, q69, hl, t0, t1, t2, t3, t4, t5]
    | simp (disch := omega) only [w64, w32, wu8, wu16, wu32, wu64]
    | ((with_reducible refine o_call (x1) ?he ?hc ?_); (case he | hc => first | rfl | (simp [D.erL, D.er, D.closedL, D.closed]; done)))
    | ((with_reducible refine o_call (x2) ?he ?hc ?_); (case he | hc => first | rfl | (simp [D.erL, D.er, D.closedL, D.closed]; done)))
    | with_reducible first | apply cd_dec | apply cd_eq | apply cd_ne | apply cd_split | apply gd_dec | apply gd_eq | apply gd_ne | apply gd_split
    | ((with_reducible refine And.intro ?hw ?_); (case hw => first | omega | rfl | exact ⟨_, _, rfl⟩ | assumption | (simp only [lN] <;> omega)))
    | with_reducible intro _)
        all_goals try omega
        all_goals refine ⟨i + 1, by omega, by omega, ?_⟩
        all_goals simp [St.keep, keepE]
        all_goals first
          | exact hset _ (by rw [hc]; repeat' split <;> first | rfl | omega)
          | exact hskip (by rw [hc]; repeat' split <;> first | rfl | omega)
      · have t0 : decide (97 ≤ (i : Int)) = false := by simp; omega
        have t1 : decide ((i : Int) ≤ 122) = true := by simp; omega
        have t2 : decide (65 ≤ (i : Int)) = true := by simp; omega
        have t3 : decide ((i : Int) ≤ 90) = false := by simp; omega
        have t4 : decide (48 ≤ (i : Int)) = true := by simp; omega
        have t5 : decide ((i : Int) ≤ 57) = false := by simp; omega
        repeat' (first
    | with_reducible first | apply swp_seq | apply swp_reg | apply swp_regD | apply swp_block | apply swp_exit | apply swp_ret | apply swp_skip | apply swp_cd
    | simp only [go_sem, seval, P69, q69, hl, t0, t1, t2, t3, t4, t5]
    | simp (disch := omega) only [w64, w32, wu8, wu16, wu32, wu64]
    | ((with_reducible refine o_call (x1) ?he ?hc ?_); (case he | hc => first | rfl | (simp [D.erL, D.er, D.closedL, D.closed]; done)))
    | ((with_reducible refine o_call (x2) ?he ?hc ?_); (case he | hc => first | rfl | (simp [D.erL, D.er, D.closedL, D.closed]; done)))
    | with_reducible first | apply cd_dec | apply cd_eq | apply cd_ne | apply cd_split | apply gd_dec | apply gd_eq | apply gd_ne | apply gd_split
    | ((with_reducible refine And.intro ?hw ?_); (case hw => first | omega | rfl | exact ⟨_, _, rfl⟩ | assumption | (simp only [lN] <;> omega)))
    | with_reducible intro _)
        all_goals try omega
        all_goals refine ⟨i + 1, by omega, by omega, ?_⟩
        all_goals simp [St.keep, keepE]
        all_goals first
          | exact hset _ (by rw [hc]; repeat' split <;> first | rfl | omega)
          | exact hskip (by rw [hc]; repeat' split <;> first | rfl | omega)
      · have t0 : decide (97 ≤ (i : Int)) = true := by simp; omega
        have t1 : decide ((i : Int) ≤ 122) = true := by simp; omega
        have t2 : decide (65 ≤ (i : Int)) = true := by simp; omega
        have t3 : decide ((i : Int) ≤ 90) = false := by simp; omega
        have t4 : decide (48 ≤ (i : Int)) = true := by simp; omega
        have t5 : decide ((i : Int) ≤ 57) = false := by simp; omega
        repeat' (first
    | with_reducible first | apply swp_seq | apply swp_reg | apply swp_regD | apply swp_block | apply swp_exit | apply swp_ret | apply swp_skip | apply swp_cd
    | simp only [go_sem, seval, P69, q69, hl, t0, t1, t2, t3, t4, t5]
    | simp (disch := omega) only [w64, w32, wu8, wu16, wu32, wu64]
    | ((with_reducible refine o_call (x1) ?he ?hc ?_); (case he | hc => first | rfl | (simp [D.erL, D.er, D.closedL, D.closed]; done)))
    | ((with_reducible refine o_call (x2) ?he ?hc ?_); (case he | hc => first | rfl | (simp [D.erL, D.er, D.closedL, D.closed]; done)))
    | with_reducible first | apply cd_dec | apply cd_eq | apply cd_ne | apply cd_split | apply gd_dec | apply gd_eq | apply gd_ne | apply gd_split
    | ((with_reducible refine And.intro ?hw ?_); (case hw => first | omega | rfl | exact ⟨_, _, rfl⟩ | assumption | (simp only [lN] <;> omega)))
    | with_reducible intro _)
        all_goals try omega
        all_goals refine ⟨i + 1, by omega, by omega, ?_⟩
        all_goals simp [St.keep, keepE]
        all_goals first
          | exact hset _ (by rw [hc]; repeat' split <;> first | rfl | omega)
          | exact hskip (by rw [hc]; repeat' split <;> first | rfl | omega)
      · have t0 : decide (97 ≤ (i : Int)) = true := by simp; omega
        have t1 : decide ((i : Int) ≤ 122) = false := by simp; omega
        have t2 : decide (65 ≤ (i : Int)) = true := by simp; omega
        have t3 : decide ((i : Int) ≤ 90) = false := by simp; omega
        have t4 : decide (48 ≤ (i : Int)) = true := by simp; omega
        have t5 : decide ((i : Int) ≤ 57) = false := by simp; omega
        repeat' (first
    | with_reducible first | apply swp_seq | apply swp_reg | apply swp_regD | apply swp_block | apply swp_exit | apply swp_ret | apply swp_skip | apply swp_cd
    | simp only [go_sem, seval, P69, q69, hl, t0, t1, t2, t3, t4, t5]
    | simp (disch := omega) only [w64, w32, wu8, wu16, wu32, wu64]
    | ((with_reducible refine o_call (x1) ?he ?hc ?_); (case he | hc => first | rfl | (simp [D.erL, D.er, D.closedL, D.closed]; done)))
    | ((with_reducible refine o_call (x2) ?he ?hc ?_); (case he | hc => first | rfl | (simp [D.erL, D.er, D.closedL, D.closed]; done)))
    | with_reducible first | apply cd_dec | apply cd_eq | apply cd_ne | apply cd_split | apply gd_dec | apply gd_eq | apply gd_ne | apply gd_split
    | ((with_reducible refine And.intro ?hw ?_); (case hw => first | omega | rfl | exact ⟨_, _, rfl⟩ | assumption | (simp only [lN] <;> omega)))
    | with_reducible intro _)
        all_goals try omega
        all_goals refine ⟨i + 1, by omega, by omega, ?_⟩
        all_goals simp [St.keep, keepE]
        all_goals first
          | exact hset _ (by rw [hc]; repeat' split <;> first | rfl | omega)
          | exact hskip (by rw [hc]; repeat' split <;> first | rfl | omega)
    · obtain rfl : i = 256 := by omega
      generalize tblN 256 = T1 at *
      have hk := tbl_len
      have htk : tbl.take 256 = tbl := List.take_of_length_le (by omega)
      have hsf : setL zl256 0 tbl = tbl := setL_full (by omega)
      have hmin : min 256 tbl.length = 256 := by omega
      have hcl := tbl_cl
      repeat' (first
    | with_reducible first | apply swp_seq | apply swp_reg | apply swp_regD | apply swp_block | apply swp_exit | apply swp_ret | apply swp_skip | apply swp_cd
    | simp only [go_sem, seval, P69, q69, hl, List.length_set, hz, ht, htk, hsf, hmin, hk]
    | simp (disch := omega) only [w64, w32, wu8, wu16, wu32, wu64]
    | with_reducible first | apply cd_dec | apply cd_eq | apply cd_ne | apply cd_split | apply gd_dec | apply gd_eq | apply gd_ne | apply gd_split
    | ((with_reducible refine And.intro ?hw ?_); (case hw => first | omega | rfl | exact ⟨_, _, rfl⟩ | assumption | (simp only [lN, hl, List.length_set, hcl] <;> omega)))
    | with_reducible intro _)
      all_goals first | omega | skip
      all_goals simp [D.closed, D.er, D.closedL, D.erL, hl, hcl.1, hcl.2]
end Go.Proofs.Ytnooagipikedeaa
end
section
set_option maxRecDepth 100000
set_option linter.unusedSimpArgs false
set_option linter.unusedVariables false
namespace Go.Proofs.Ytnooagipikedeaa
open Go GoV Go.RowKit
/-! ### Names -/
def clsB (c : UInt8) : Int := if c.toNat = 35 then 2 else if c.toNat = 95 then 5 else if c.toNat = 34 then 7 else cls0 c.toNat
theorem clsB_get (c : UInt8) : tbl.getD c.toNat .undef = .int .u8 (clsB c) := tbl_get (UInt8.toNat_lt c)
theorem cls_cases (c : UInt8) : (clsB c = 3 ↔ isLet c = true) ∧ (clsB c = 4 ↔ isDig c = true) ∧ (clsB c = 5 ↔ (c == 95) = true) := by
  have hc : c.toNat < 256 := UInt8.toNat_lt c
  have e1 : ∀ k : Nat, k < 256 → ((UInt8.ofNat k ≤ c) ↔ k ≤ c.toNat) := fun k hk => by
    rw [UInt8.le_iff_toNat_le]; simp [UInt8.toNat_ofNat']; omega
  have e2 : ∀ k : Nat, k < 256 → ((c ≤ UInt8.ofNat k) ↔ c.toNat ≤ k) := fun k hk => by
    rw [UInt8.le_iff_toNat_le]; simp [UInt8.toNat_ofNat']; omega
  have l1 := e1 97 (by omega); have l2 := e2 122 (by omega); have l3 := e1 65 (by omega); have l4 := e2 90 (by omega); have l5 := e1 48 (by omega); have l6 := e2 57 (by omega)
  have l7 : (c == 95) = true ↔ c.toNat = 95 := by
    rw [beq_iff_eq]
    constructor
    · rintro rfl; rfl
    · intro h; exact UInt8.toNat_inj.1 h
  have a1 : isLet c = true ↔ (97 ≤ c.toNat ∧ c.toNat ≤ 122) ∨ (65 ≤ c.toNat ∧ c.toNat ≤ 90) := by
    simp only [isLet, Bool.or_eq_true, Bool.and_eq_true, decide_eq_true_eq]
    rw [show (97 : UInt8) = UInt8.ofNat 97 from rfl, show (122 : UInt8) = UInt8.ofNat 122 from rfl, show (65 : UInt8) = UInt8.ofNat 65 from rfl, show (90 : UInt8) = UInt8.ofNat 90 from rfl, l1, l2, l3, l4]
  have a2 : isDig c = true ↔ 48 ≤ c.toNat ∧ c.toNat ≤ 57 := by
    simp only [isDig, Bool.and_eq_true, decide_eq_true_eq]
    rw [show (48 : UInt8) = UInt8.ofNat 48 from rfl, show (57 : UInt8) = UInt8.ofNat 57 from rfl, l5, l6]
  rw [a1, a2, l7]
  unfold clsB
  rw [cls0_eq]
  refine ⟨?_, ?_, ?_⟩ <;> repeat' split
  all_goals omega
def nameB (c : UInt8) (first : Bool) : Bool := isLet c || (!first && (isDig c || c == 95))
theorem nameOk_cons (c : UInt8) (r : List UInt8) : nameOk (c :: r) = (isLet c && (r.all fun c => nameB c false) && decide ((c :: r).length ≤ 24)) := by
  simp only [nameOk]
  congr 2
  congr 1
  funext c
  simp [nameB, Bool.or_assoc]
def okTo (s : List UInt8) (i : Nat) : Prop := ∀ j, j < i → nameB (s.getD j 0) (j == 0) = true
theorem okTo_all (s : List UInt8) : okTo s s.length ↔ (s = [] ∨ (match s with | [] => false | c :: r => isLet c && r.all fun c => nameB c false) = true) := by
  cases s with
  | nil => simp [okTo]
  | cons c r =>
    simp only [okTo, List.length_cons, reduceCtorEq, false_or, Bool.and_eq_true, List.all_eq_true]
    constructor
    · intro h
      refine ⟨by have := h 0 (by omega); simpa [nameB] using this, fun x hx => ?_⟩
      obtain ⟨k, hk, rfl⟩ := List.getElem_of_mem hx
      have := h (k + 1) (by omega)
      simpa [List.getD, hk] using this
    · rintro ⟨h1, h2⟩ j hj
      cases j with
      | zero => simp [nameB, h1]
      | succ j =>
        have hj' : j < r.length := by omega
        have := h2 r[j] (List.getElem_mem hj')
        simpa [List.getD, hj'] using this
theorem nameOk_eq (s : List UInt8) (h : okTo s s.length) : nameOk s = (!(s == []) && decide (s.length ≤ 24)) := by
  cases s with
  | nil => rfl
  | cons c r =>
    rw [nameOk_cons]
    have := (okTo_all (c :: r)).1 h
    simp only [reduceCtorEq, false_or] at this
    rw [this]; simp
theorem nameOk_bad (s : List UInt8) {i : Nat} (hi : i < s.length) (h : nameB (s.getD i 0) (i == 0) = false) : nameOk s = false := by
  cases s with
  | nil => simp at hi
  | cons c r =>
    rw [nameOk_cons]
    cases e : (isLet c && r.all fun c => nameB c false) with
    | false => rfl
    | true =>
      have := (okTo_all (c :: r)).2 (.inr e) i hi
      rw [h] at this; cases this
set_option maxHeartbeats 1000000 in
theorem name_p (s : List UInt8) (hs : s.length ≤ 9223372036854775807) : Pur M 47 [.str s] (.bool (nameOk s)) := by
  refine ok47 rfl ?_
  rw [i47]
  unfold c47
  have c1 := classes_p
  have hk := tbl_len
  have htk : tbl.take 256 = tbl := List.take_of_length_le (by omega)
  have hz := zl_len
  have hsf : setL zl256 0 tbl = tbl := setL_full (by omega)
  have hmin : min 256 tbl.length = 256 := by omega
  repeat' (first
    | with_reducible first | apply swp_seq | apply swp_reg | apply swp_regD | apply swp_block | apply swp_exit | apply swp_ret | apply swp_skip | apply swp_cd
    | simp only [go_sem, seval, P47, q47, hz, hk, htk, hsf, hmin]
    | simp (disch := omega) only [w64, w32, wu8, wu16, wu32, wu64]
    | ((with_reducible refine o_call (c1) ?he ?hc ?_); (case he | hc => first | rfl | (simp [D.erL, D.er, D.closedL, D.closed]; done)))
    | with_reducible first | apply cd_dec | apply cd_eq | apply cd_ne | apply cd_split | apply gd_dec | apply gd_eq | apply gd_ne | apply gd_split
    | ((with_reducible refine And.intro ?hw ?_); (case hw => first | omega | rfl | exact ⟨_, _, rfl⟩ | assumption | (simp only [lN] <;> omega)))
    | with_reducible intro _)
  refine swp_fam [0, 1, 2, 5, 6] (fun i : Nat => ⟨[.str s, .bool false, .ptr 0 0, .undef, .undef, .int .i64 s.length, .int .i64 i, .undef, .undef], [], ⟨[.cells tbl], []⟩⟩) (fun i => i ≤ s.length ∧ okTo s i) (fun i => s.length - i) 0 ⟨by omega, fun j hj => by omega⟩ ?_ ?_
  · simp [keepE, St.keep]
  · rintro i ⟨g1, g2⟩
    by_cases hi : i < s.length
    · have hg := clsB_get (s.getD i 0)
      obtain ⟨k1, k2, k3⟩ := cls_cases (s.getD i 0)
      have hlt : (s.getD i 0).toNat < 256 := UInt8.toNat_lt _
      have hb : nameB (s.getD i 0) (i == 0) = (decide (clsB (s.getD i 0) = 3) || (!(i == 0) && (decide (clsB (s.getD i 0) = 4) || decide (clsB (s.getD i 0) = 5)))) := by
        unfold nameB
        congr 1
        · rw [Bool.eq_iff_iff, decide_eq_true_eq]; exact k1.symm
        · congr 1
          congr 1
          · rw [Bool.eq_iff_iff, decide_eq_true_eq]; exact k2.symm
          · rw [Bool.eq_iff_iff, decide_eq_true_eq]; exact k3.symm
      have hbad := nameOk_bad s hi
      have hstep : nameB (s.getD i 0) (i == 0) = true → okTo s (i + 1) := fun h j hj => by
        by_cases e : j = i
        · subst e; exact h
        · exact g2 j (by omega)
      rw [hb] at hbad hstep
      generalize clsB (s.getD i 0) = cl at *
      repeat' (first
    | with_reducible first | apply swp_seq | apply swp_reg | apply swp_regD | apply swp_block | apply swp_exit | apply swp_ret | apply swp_skip | apply swp_cd
    | simp only [go_sem, seval, P47, q47, Nat.mul_one, hk, hg]
    | simp (disch := omega) only [w64, w32, wu8, wu16, wu32, wu64]
    | with_reducible first | apply cd_dec | apply cd_eq | apply cd_ne | apply cd_split | apply gd_dec | apply gd_eq | apply gd_ne | apply gd_split
    | ((with_reducible refine And.intro ?hw ?_); (case hw => first | omega | rfl | exact ⟨_, _, rfl⟩ | assumption | (simp only [lN, hk, hlt] <;> omega)))
    | with_reducible intro _)
      all_goals try omega
      all_goals first
        | (refine ⟨i + 1, ⟨by omega, hstep (by simp only [Bool.or_eq_true, Bool.and_eq_true, decide_eq_true_eq, Bool.not_eq_true', beq_eq_false_iff_ne]; omega)⟩, by omega, ?_⟩; simp [St.keep, keepE])
        | (rw [hbad (by simp only [Bool.or_eq_false_iff, Bool.and_eq_false_iff, decide_eq_false_iff_not, Bool.not_eq_false', beq_iff_eq]; omega)])
        | skip
    · obtain rfl : i = s.length := by omega
      rw [nameOk_eq s g2]
      repeat' (first
    | with_reducible first | apply swp_seq | apply swp_reg | apply swp_regD | apply swp_block | apply swp_exit | apply swp_ret | apply swp_skip | apply swp_cd
    | simp only [go_sem, seval, P47, q47, hk]
    | simp (disch := omega) only [w64, w32, wu8, wu16, wu32, wu64]
    | with_reducible first | apply cd_dec | apply cd_eq | apply cd_ne | apply cd_split | apply gd_dec | apply gd_eq | apply gd_ne | apply gd_split
    | ((with_reducible refine And.intro ?hw ?_); (case hw => first | omega | rfl | exact ⟨_, _, rfl⟩ | assumption | (simp only [lN, hk] <;> omega)))
    | with_reducible intro _)
      all_goals try omega
      all_goals simp [D.closed, D.er, D.closedL, D.erL]
      all_goals clear g1 g2 hi hs
      all_goals rcases s with _ | ⟨c, r⟩
      all_goals first | (simp_all; done) | (simp; omega) | (simp only [List.isEmpty_cons, Bool.not_false, Bool.true_and]; exact decide_eq_decide.2 (by simp <;> omega))
/-! ### Reserved words -/
theorem index76 (l : List (List UInt8)) (s : List UInt8) (hl : l.length < 4611686018427387904) (i : Nat) (hi : i < l.length) (he : l[i] = s) (hm : ∀ j (h : j < i), l[j] ≠ s) :
    Pur M 103 [.slice (strs l) .no, .str s] (.int .i64 i) := by
  refine ok103 rfl ?_
  rw [i103]
  unfold c103
  have hlen : (strs l).length = l.length := by simp [strs]
  repeat' (first
    | with_reducible first | apply swp_seq | apply swp_reg | apply swp_regD | apply swp_block | apply swp_exit | apply swp_ret | apply swp_skip | apply swp_cd
    | simp only [go_sem, seval, P103, q103, hlen]
    | simp (disch := omega) only [w64, w32, wu8, wu16, wu32, wu64]
    | with_reducible first | apply cd_dec | apply cd_eq | apply cd_ne | apply cd_split
    | ((with_reducible refine And.intro ?hw ?_); (case hw => first | omega | rfl | exact ⟨_, _, rfl⟩ | assumption | (simp only [lN, hlen] <;> omega)))
    | with_reducible intro _)
  refine swp_fam [0, 1, 2, 4, 5] (fun j : Nat => ⟨[.slice (strs l) .no, .str s, .int .i64 0, .undef, .int .i64 l.length, .int .i64 j, .undef, .undef], [], ⟨[], []⟩⟩) (fun j => j ≤ i) (fun j => l.length - j) 0 (by omega) ?_ ?_
  · simp [keepE, St.keep]
  · intro j hj
    have hjl : j < l.length := by omega
    have hg : (strs l).getD j .undef = .str l[j] := by simp [strs, List.getD, hjl]
    have hb : (s == l[j]) = decide (j = i) := by
      by_cases e : j = i
      · subst e; simp [he]
      · have := hm j (by omega)
        simp [e, Ne.symm this]
    repeat' (first
    | with_reducible first | apply swp_seq | apply swp_reg | apply swp_regD | apply swp_block | apply swp_exit | apply swp_ret | apply swp_skip | apply swp_cd
    | simp only [go_sem, seval, P103, q103, hlen, hg, hb]
    | simp (disch := omega) only [w64, w32, wu8, wu16, wu32, wu64]
    | with_reducible first | apply cd_dec | apply cd_eq | apply cd_ne | apply cd_split
    | ((with_reducible refine And.intro ?hw ?_); (case hw => first | omega | rfl | exact ⟨_, _, rfl⟩ | assumption | (simp only [lN, hlen, hg] <;> omega)))
    | with_reducible intro _)
    all_goals try omega
    all_goals first
      | (refine ⟨j + 1, by omega, by omega, ?_⟩; simp [St.keep, keepE])
      | (rename_i h; subst h; simp [D.closed, D.er, D.closedL, D.erL])
      | skip
theorem index76n (l : List (List UInt8)) (s : List UInt8) (hl : l.length < 4611686018427387904) (hm : ∀ j (h : j < l.length), l[j] ≠ s) :
    Pur M 103 [.slice (strs l) .no, .str s] (.int .i64 (-1)) := by
  refine ok103 rfl ?_
  rw [i103]
  unfold c103
  have hlen : (strs l).length = l.length := by simp [strs]
  repeat' (first
    | with_reducible first | apply swp_seq | apply swp_reg | apply swp_regD | apply swp_block | apply swp_exit | apply swp_ret | apply swp_skip | apply swp_cd
    | simp only [go_sem, seval, P103, q103, hlen]
    | simp (disch := omega) only [w64, w32, wu8, wu16, wu32, wu64]
    | with_reducible first | apply cd_dec | apply cd_eq | apply cd_ne | apply cd_split
    | ((with_reducible refine And.intro ?hw ?_); (case hw => first | omega | rfl | exact ⟨_, _, rfl⟩ | assumption | (simp only [lN, hlen] <;> omega)))
    | with_reducible intro _)
  refine swp_fam [0, 1, 2, 4, 5] (fun j : Nat => ⟨[.slice (strs l) .no, .str s, .int .i64 0, .undef, .int .i64 l.length, .int .i64 j, .undef, .undef], [], ⟨[], []⟩⟩) (fun j => j ≤ l.length) (fun j => l.length - j) 0 (by omega) ?_ ?_
  · simp [keepE, St.keep]
  · intro j hj
    by_cases hjl : j < l.length
    · have hg : (strs l).getD j .undef = .str l[j] := by simp [strs, List.getD, hjl]
      have hb : (s == l[j]) = false := by
        have := hm j hjl
        simp [Ne.symm this]
      repeat' (first
    | with_reducible first | apply swp_seq | apply swp_reg | apply swp_regD | apply swp_block | apply swp_exit | apply swp_ret | apply swp_skip | apply swp_cd
    | simp only [go_sem, seval, P103, q103, hlen, hg, hb]
    | simp (disch := omega) only [w64, w32, wu8, wu16, wu32, wu64]
    | with_reducible first | apply cd_dec | apply cd_eq | apply cd_ne | apply cd_split
    | ((with_reducible refine And.intro ?hw ?_); (case hw => first | omega | rfl | exact ⟨_, _, rfl⟩ | assumption | (simp only [lN, hlen, hg] <;> omega)))
    | with_reducible intro _)
      all_goals try omega
      all_goals first
        | (refine ⟨j + 1, by omega, by omega, ?_⟩; simp [St.keep, keepE])
        | skip
    · repeat' (first
    | with_reducible first | apply swp_seq | apply swp_reg | apply swp_regD | apply swp_block | apply swp_exit | apply swp_ret | apply swp_skip | apply swp_cd
    | simp only [go_sem, seval, P103, q103, hlen]
    | simp (disch := omega) only [w64, w32, wu8, wu16, wu32, wu64]
    | with_reducible first | apply cd_dec | apply cd_eq | apply cd_ne | apply cd_split
    | ((with_reducible refine And.intro ?hw ?_); (case hw => first | omega | rfl | exact ⟨_, _, rfl⟩ | assumption | (simp only [lN, hlen] <;> omega)))
    | with_reducible intro _)
      all_goals try omega
      all_goals simp [D.closed, D.er, D.closedL, D.erL]
theorem first_of {α : Type} {p : α → Prop} [DecidablePred p] : ∀ (l : List α), (∃ i, ∃ h : i < l.length, p l[i] ∧ ∀ j (g : j < i), ¬ p l[j]) ∨ ∀ j (h : j < l.length), ¬ p l[j]
  | [] => .inr (by simp)
  | x :: l => by
    by_cases hx : p x
    · exact .inl ⟨0, by simp, hx, by simp⟩
    · rcases first_of (p := p) l with ⟨i, h, h1, h2⟩ | h
      · refine .inl ⟨i + 1, by simpa using h, by simpa using h1, fun j g => ?_⟩
        cases j with
        | zero => simpa using hx
        | succ j => simpa using h2 j (by omega)
      · refine .inr fun j hj => ?_
        cases j with
        | zero => simpa using hx
        | succ j => simpa using h j (by simpa using hj)
theorem contains66 (l : List (List UInt8)) (s : List UInt8) (hl : l.length < 4611686018427387904) : Pur M 94 [.slice (strs l) .no, .str s] (.bool (l.contains s)) := by
  refine ok94 rfl ?_
  rw [i94]
  unfold c94
  rcases first_of (p := fun x => x = s) l with ⟨i, h, h1, h2⟩ | h
  · have c1 := index76 l s hl i h h1 h2
    have hc : l.contains s = true := by simp only [List.contains_iff_mem]; rw [← h1]; exact List.getElem_mem h
    rw [hc]
    repeat' (first
    | with_reducible first | apply swp_seq | apply swp_reg | apply swp_regD | apply swp_block | apply swp_exit | apply swp_ret | apply swp_skip | apply swp_cd
    | simp only [go_sem, seval, P94, q94]
    | simp (disch := omega) only [w64, w32, wu8, wu16, wu32, wu64]
    | ((with_reducible refine o_call (c1) ?he ?hc ?_); (case he | hc => first | rfl | (simp [D.erL, D.er, D.closedL, D.closed]; done)))
    | with_reducible first | apply cd_dec | apply cd_eq | apply cd_ne | apply cd_split
    | ((with_reducible refine And.intro ?hw ?_); (case hw => first | omega | rfl | exact ⟨_, _, rfl⟩ | assumption | (simp only [lN] <;> omega)))
    | with_reducible intro _)
    all_goals simp [D.closed, D.er, D.closedL, D.erL]
  · have c1 := index76n l s hl h
    have hc : l.contains s = false := by
      cases e : l.contains s with
      | false => rfl
      | true =>
        simp only [List.contains_iff_mem] at e
        obtain ⟨j, hj, rfl⟩ := List.getElem_of_mem e
        exact absurd rfl (h j hj)
    rw [hc]
    repeat' (first
    | with_reducible first | apply swp_seq | apply swp_reg | apply swp_regD | apply swp_block | apply swp_exit | apply swp_ret | apply swp_skip | apply swp_cd
    | simp only [go_sem, seval, P94, q94]
    | simp (disch := omega) only [w64, w32, wu8, wu16, wu32, wu64]
    | ((with_reducible refine o_call (c1) ?he ?hc ?_); (case he | hc => first | rfl | (simp [D.erL, D.er, D.closedL, D.closed]; done)))
    | with_reducible first | apply cd_dec | apply cd_eq | apply cd_ne | apply cd_split
    | ((with_reducible refine And.intro ?hw ?_); (case hw => first | omega | rfl | exact ⟨_, _, rfl⟩ | assumption | (simp only [lN] <;> omega)))
    | with_reducible intro _)
    all_goals simp [D.closed, D.er, D.closedL, D.erL]
theorem reserved_p (s : List UInt8) : Pur M 74 [.str s] (.bool (words.contains s)) := by
  refine ok74 rfl ?_
  rw [i74]
  unfold c74
  have c1 := contains66 words s (by decide)
  simp only [strs, words, List.map_cons, List.map_nil] at c1
  repeat' (first
    | with_reducible first | apply swp_seq | apply swp_reg | apply swp_regD | apply swp_block | apply swp_exit | apply swp_ret | apply swp_skip | apply swp_cd
    | simp only [go_sem, seval, P74, q74]
    | simp (disch := omega) only [w64, w32, wu8, wu16, wu32, wu64]
    | ((with_reducible refine o_call (c1) ?he ?hc ?_); (case he | hc => first | rfl | (simp [D.erL, D.er, D.closedL, D.closed]; done)))
    | ((with_reducible apply s_bsl); (case he | hl | hc => first | rfl | assumption | omega | ((first | refine ⟨?_, ?_⟩ | skip) <;> first | omega | (simp only [lN] <;> omega)) | (simp [elemsK, D.isVal, D.cells, D.closedL, D.closed]; first | done | omega)))
    | with_reducible first | apply cd_dec | apply cd_eq | apply cd_ne | apply cd_split
    | ((with_reducible refine And.intro ?hw ?_); (case hw => first | omega | rfl | exact ⟨_, _, rfl⟩ | assumption | (simp only [lN] <;> omega)))
    | with_reducible intro _)
  all_goals simp [D.closed, D.er, D.closedL, D.erL, words]
end Go.Proofs.Ytnooagipikedeaa
end
section
set_option maxRecDepth 100000
set_option linter.unusedSimpArgs false
set_option linter.unusedVariables false
namespace Go.Proofs.Ytnooagipikedeaa
open Go GoV Go.RowKit
theorem y_ng {M : Mod} {F : (Nat → Bool) → Hp} {i : Nat} {oc : OC} {args : List Opd} {dst : Dst} {q : Bool} {r : List (RO × Bool)} {K : St → Prop} {s : St} {g : Opd} {want : Bool} (hg : s.get g = .bool (!want)) (hF : Still F i) (h : opsF M F (i + 1) r K ((s.setO g (.bool (!want))).put dst .skip)) :
    opsF M F i ((⟨dst, oc, args, some (g, want)⟩, q) :: r) K s := by
  simp only [opsF, headF, hg]
  have hne : ¬ (!want) = want := by cases want <;> decide
  exact ⟨fun e => absurd e hne, fun _ => ⟨hF, h⟩⟩
def limHp (n ex : Int) (E : Nat → Bool) : Hp := ⟨[.gone, .cells [.int .i64 5, .str [], .str [], if E 15 then .int .i64 n else .int .i64 0, if E 17 then .int .i64 ex else .int .i64 0, .lit (.slice none 0 0)]], []⟩
theorem limHp_still (n ex : Int) (i : Nat) (h5 : i ≠ 15) (h7 : i ≠ 17) : Still (limHp n ex) i := fun E _ => by
  have q5 : (15 == i) = false := beq_false_of_ne (Ne.symm h5)
  have q7 : (17 == i) = false := beq_false_of_ne (Ne.symm h7)
  simp only [limHp, q5, q7, Bool.or_false]
set_option maxHeartbeats 1000000 in
theorem node_lim (nm vl : List UInt8) (n ex : Int) (K : List D) (hcl : D.closedL K = true) (her : D.erL K = K) (Q : Ex → St → Prop)
    (hQ : Q .normal ⟨[.undef, .ip [.int .i64 5, .str nm, .str vl, .int .i64 n, .int .i64 ex, .slice K .no], .bool false, .ptr 1 0, .bool (((K.length : Nat) : Int) == 0), .bool true, .fn (.func 73) [] [], .bool (numOk n 0 && numOk ex 0), .undef, .undef, .undef, .undef, .undef, .undef, .undef, .undef, .undef, .undef, .undef, .undef], [], limHp n ex fun k => decide (k < 18)⟩) :
    SWp C50 (.regD r50_16 r50_17) Q ⟨[.undef, .ip [.int .i64 5, .str nm, .str vl, .int .i64 n, .int .i64 ex, .slice K .no], .bool false, .ptr 1 0, .bool (((K.length : Nat) : Int) == 0), .bool true, .fn (.func 73) [] [], .bool true, .undef, .undef, .undef, .undef, .undef, .undef, .undef, .undef, .undef, .undef, .undef, .undef], [], limHp n ex fun _ => false⟩ := by
  have st := limHp_still n ex
  refine swp_regDF2 (limHp n ex) rfl ?_
  rw [P50]
  generalize hc : (((K.length : Nat) : Int) == 0) = kb at *
  refine y_q (ds := [.ip [.int .i64 5, .str nm, .str vl, .int .i64 n, .int .i64 ex, .slice K .no]]) (.ip [.int .i64 n, .int .i64 ex, .slice K .no]) rfl (st _ (by decide) (by decide)) (fun _ => by simp [OcWp, isCall, opWp]) ?_
  refine y_q (ds := [.ip [.int .i64 n, .int .i64 ex, .slice K .no]]) (.int .i64 n) rfl (st _ (by decide) (by decide)) (fun _ => by simp [OcWp, isCall, opWp]) ?_
  refine y_q (ds := [.ip [.int .i64 5, .str nm, .str vl, .int .i64 n, .int .i64 ex, .slice K .no]]) (.ip [.int .i64 ex, .slice K .no]) rfl (st _ (by decide) (by decide)) (fun _ => by simp [OcWp, isCall, opWp]) ?_
  refine y_q (ds := [.ip [.int .i64 ex, .slice K .no]]) (.int .i64 ex) rfl (st _ (by decide) (by decide)) (fun _ => by simp [OcWp, isCall, opWp]) ?_
  refine y_q (ds := [.fn (.func 73) [] []]) (.fn (.func 73) [] []) rfl (st _ (by decide) (by decide)) (fun _ => by simp [OcWp, isCall, opWp]) ?_
  refine y_q (ds := [.ip [.int .i64 5, .str nm, .str vl, .int .i64 n, .int .i64 ex, .slice K .no]]) (.ip [.int .i64 n, .int .i64 ex, .slice K .no]) rfl (st _ (by decide) (by decide)) (fun _ => by simp [OcWp, isCall, opWp]) ?_
  refine y_q (ds := [.ip [.int .i64 n, .int .i64 ex, .slice K .no]]) (.int .i64 n) rfl (st _ (by decide) (by decide)) (fun _ => by simp [OcWp, isCall, opWp]) ?_
  refine y_q (ds := [.fn (.func 73) [] [], .int .i64 n, .int .i64 0]) (.bool (numOk n 0)) rfl (st _ (by decide) (by decide)) (fun _ => by
    simp only [OcWp, isCall, if_true]; exact call_pur (by simp [D.closedL, D.closed]) (num_p n 0) ⟨rfl, rfl⟩) ?_
  refine y_q (ds := [.bool (numOk n 0)]) (.bool (numOk n 0)) rfl (st _ (by decide) (by decide)) (fun _ => by simp [OcWp, isCall, opWp]) ?_
  have e15 : ∀ E : Nat → Bool, E 15 = false → OcWp M (.st 1) [.ptr 1 3, .int .i64 n] (limHp n ex E) (fun d' hp' => d' = .skip ∧ hp' = limHp n ex (fun j => E j || j == 15)) := fun E hE => by
    simp [OcWp, isCall, opWp, limHp, hE, Blk.csq, D.isVal, D.cells, Blk.putc, setL]
  have e17 : ∀ E : Nat → Bool, E 17 = false → OcWp M (.st 1) [.ptr 1 4, .int .i64 ex] (limHp n ex E) (fun d' hp' => d' = .skip ∧ hp' = limHp n ex (fun j => E j || j == 17)) := fun E hE => by
    simp [OcWp, isCall, opWp, limHp, hE, Blk.csq, D.isVal, D.cells, Blk.putc, setL]
  cases hb : numOk n 0
  · rw [hb] at hQ
    refine y_ng rfl (st _ (by decide) (by decide)) ?_
    refine y_ng rfl (st _ (by decide) (by decide)) ?_
    refine y_ng rfl (st _ (by decide) (by decide)) ?_
    refine y_ng rfl (st _ (by decide) (by decide)) ?_
    refine y_q (ds := [.bool false, .skip, .bool false]) (.bool false) rfl (st _ (by decide) (by decide)) (fun _ => by simp [OcWp, isCall, opWp]) ?_
    refine y_q (ds := [.ptr 1 0]) (.ptr 1 3) rfl (st _ (by decide) (by decide)) (fun _ => by simp [OcWp, isCall, opWp]) ?_
    refine y_c (ds := [.ptr 1 3, .int .i64 n]) (d := .skip) rfl (fun E hE => e15 E hE) ?_
    refine y_q (ds := [.ptr 1 0]) (.ptr 1 4) rfl (st _ (by decide) (by decide)) (fun _ => by simp [OcWp, isCall, opWp]) ?_
    refine y_c (ds := [.ptr 1 4, .int .i64 ex]) (d := .skip) rfl (fun E hE => e17 E hE) ?_
    refine y_end rfl ?_
    repeat' (first
    | with_reducible first | apply swp_seq | apply swp_reg | apply swp_regD | apply swp_block | apply swp_exit | apply swp_ret | apply swp_skip | apply swp_cd
    | simp only [go_sem, seval, P50, q50]
    | with_reducible first | apply cd_dec | apply cd_eq | apply cd_ne | apply cd_split | apply gd_dec | apply gd_eq | apply gd_ne | apply gd_split | apply gq_dec | apply gq_eq | apply gq_ne | apply gq_split
    | ((with_reducible refine And.intro ?hw ?_); (case hw => first | omega | rfl | exact ⟨_, _, rfl⟩ | assumption | (simp only [lN] <;> omega)))
    | with_reducible intro _)
    exact hQ
  · rw [hb] at hQ
    refine y_qg (ds := [.fn (.func 73) [] []]) (.fn (.func 73) [] []) rfl rfl (st _ (by decide) (by decide)) (fun _ => by simp [OcWp, isCall, opWp]) ?_
    refine y_qg (ds := [.ip [.int .i64 5, .str nm, .str vl, .int .i64 n, .int .i64 ex, .slice K .no]]) (.ip [.int .i64 ex, .slice K .no]) rfl rfl (st _ (by decide) (by decide)) (fun _ => by simp [OcWp, isCall, opWp]) ?_
    refine y_qg (ds := [.ip [.int .i64 ex, .slice K .no]]) (.int .i64 ex) rfl rfl (st _ (by decide) (by decide)) (fun _ => by simp [OcWp, isCall, opWp]) ?_
    refine y_qg (ds := [.fn (.func 73) [] [], .int .i64 ex, .int .i64 0]) (.bool (numOk ex 0)) rfl rfl (st _ (by decide) (by decide)) (fun _ => by
      simp only [OcWp, isCall, if_true]; exact call_pur (by simp [D.closedL, D.closed]) (num_p ex 0) ⟨rfl, rfl⟩) ?_
    refine y_q (ds := [.bool true, .bool (numOk ex 0), .bool false]) (.bool (numOk ex 0)) rfl (st _ (by decide) (by decide)) (fun _ => by simp [OcWp, isCall, opWp]) ?_
    refine y_q (ds := [.ptr 1 0]) (.ptr 1 3) rfl (st _ (by decide) (by decide)) (fun _ => by simp [OcWp, isCall, opWp]) ?_
    refine y_c (ds := [.ptr 1 3, .int .i64 n]) (d := .skip) rfl (fun E hE => e15 E hE) ?_
    refine y_q (ds := [.ptr 1 0]) (.ptr 1 4) rfl (st _ (by decide) (by decide)) (fun _ => by simp [OcWp, isCall, opWp]) ?_
    refine y_c (ds := [.ptr 1 4, .int .i64 ex]) (d := .skip) rfl (fun E hE => e17 E hE) ?_
    refine y_end rfl ?_
    repeat' (first
    | with_reducible first | apply swp_seq | apply swp_reg | apply swp_regD | apply swp_block | apply swp_exit | apply swp_ret | apply swp_skip | apply swp_cd
    | simp only [go_sem, seval, P50, q50]
    | with_reducible first | apply cd_dec | apply cd_eq | apply cd_ne | apply cd_split | apply gd_dec | apply gd_eq | apply gd_ne | apply gd_split | apply gq_dec | apply gq_eq | apply gq_ne | apply gq_split
    | ((with_reducible refine And.intro ?hw ?_); (case hw => first | omega | rfl | exact ⟨_, _, rfl⟩ | assumption | (simp only [lN] <;> omega)))
    | with_reducible intro _)
    exact hQ
set_option maxHeartbeats 4000000 in
theorem node_p (x : X) (hn : x.nam.length ≤ 9223372036854775807) (hv : x.val.length ≤ 9223372036854775807) : Pur M 50 [x.d] (.bool (nodeOk x.op x.nam x.val x.num x.ext x.kids.length)) := by
  refine ok50 rfl ?_
  rw [i50]
  unfold c50
  have c1 := name_p x.nam hn
  have c2 := name_p x.val hv
  have c3 := reserved_p x.nam
  have c4 := num_p x.num 0
  have c5 := num_p x.num 1
  have hcl := closedL_X x.kids
  have her := erL_X x.kids
  have hl : (x.kids.map X.d).length = x.kids.length := by simp
  rw [X.d_eq]
  unfold X.cells
  obtain ⟨op, nm, vl, n, ex, ks⟩ := x
  simp only [X.op, X.nam, X.val, X.num, X.ext, X.kids] at *
  have hlim := node_lim nm vl n ex (ks.map X.d) hcl her
  rw [hl] at hlim
  generalize ks.map X.d = K at *
  generalize ks.length = kl at *
  obtain ⟨rc, hrc⟩ : ∃ rc, rc = RC.regD r50_16 r50_17 := ⟨_, rfl⟩
  rw [← hrc] at hlim ⊢
  by_cases h1 : op = 1
  · subst h1
    repeat' (first
    | with_reducible first | apply swp_seq | apply swp_reg | apply swp_regD | apply swp_block | apply swp_exit | apply swp_ret | apply swp_skip | apply swp_cd
    | simp only [go_sem, seval, P50, q50, hl, fillL]
    | ((with_reducible first | refine o_call (c1) ?he ?hc ?_ | refine p_call (c1) ?he ?hc ?_ | refine c_call (c1) ?he ?hc ?_); (case he | hc => first | rfl | (simp [D.erL, D.er, D.closedL, D.closed]; done)))
    | ((with_reducible first | refine o_call (c2) ?he ?hc ?_ | refine p_call (c2) ?he ?hc ?_ | refine c_call (c2) ?he ?hc ?_); (case he | hc => first | rfl | (simp [D.erL, D.er, D.closedL, D.closed]; done)))
    | ((with_reducible first | refine o_call (c3) ?he ?hc ?_ | refine p_call (c3) ?he ?hc ?_ | refine c_call (c3) ?he ?hc ?_); (case he | hc => first | rfl | (simp [D.erL, D.er, D.closedL, D.closed]; done)))
    | ((with_reducible first | refine o_call (c4) ?he ?hc ?_ | refine p_call (c4) ?he ?hc ?_ | refine c_call (c4) ?he ?hc ?_); (case he | hc => first | rfl | (simp [D.erL, D.er, D.closedL, D.closed]; done)))
    | ((with_reducible first | refine o_call (c5) ?he ?hc ?_ | refine p_call (c5) ?he ?hc ?_ | refine c_call (c5) ?he ?hc ?_); (case he | hc => first | rfl | (simp [D.erL, D.er, D.closedL, D.closed]; done)))
    | with_reducible first | apply cd_dec | apply cd_eq | apply cd_ne | apply cd_split | apply gd_dec | apply gd_eq | apply gd_ne | apply gd_split | apply gq_dec | apply gq_eq | apply gq_ne | apply gq_split
    | ((with_reducible refine And.intro ?hw ?_); (case hw => first | omega | rfl | exact ⟨_, _, rfl⟩ | assumption | (simp only [lN] <;> omega)))
    | with_reducible intro _)
    all_goals (congr 1; rw [Bool.eq_iff_iff]; simp only [nodeOk]; first | (simp_all; done) | (simp_all; omega) | (simp_all [eq_comm]; done) | (simp_all [eq_comm]; omega))
  by_cases h2 : op = 2
  · subst h2
    repeat' (first
    | with_reducible first | apply swp_seq | apply swp_reg | apply swp_regD | apply swp_block | apply swp_exit | apply swp_ret | apply swp_skip | apply swp_cd
    | simp only [go_sem, seval, P50, q50, hl, fillL]
    | ((with_reducible first | refine o_call (c1) ?he ?hc ?_ | refine p_call (c1) ?he ?hc ?_ | refine c_call (c1) ?he ?hc ?_); (case he | hc => first | rfl | (simp [D.erL, D.er, D.closedL, D.closed]; done)))
    | ((with_reducible first | refine o_call (c2) ?he ?hc ?_ | refine p_call (c2) ?he ?hc ?_ | refine c_call (c2) ?he ?hc ?_); (case he | hc => first | rfl | (simp [D.erL, D.er, D.closedL, D.closed]; done)))
    | ((with_reducible first | refine o_call (c3) ?he ?hc ?_ | refine p_call (c3) ?he ?hc ?_ | refine c_call (c3) ?he ?hc ?_); (case he | hc => first | rfl | (simp [D.erL, D.er, D.closedL, D.closed]; done)))
    | ((with_reducible first | refine o_call (c4) ?he ?hc ?_ | refine p_call (c4) ?he ?hc ?_ | refine c_call (c4) ?he ?hc ?_); (case he | hc => first | rfl | (simp [D.erL, D.er, D.closedL, D.closed]; done)))
    | ((with_reducible first | refine o_call (c5) ?he ?hc ?_ | refine p_call (c5) ?he ?hc ?_ | refine c_call (c5) ?he ?hc ?_); (case he | hc => first | rfl | (simp [D.erL, D.er, D.closedL, D.closed]; done)))
    | with_reducible first | apply cd_dec | apply cd_eq | apply cd_ne | apply cd_split | apply gd_dec | apply gd_eq | apply gd_ne | apply gd_split | apply gq_dec | apply gq_eq | apply gq_ne | apply gq_split
    | ((with_reducible refine And.intro ?hw ?_); (case hw => first | omega | rfl | exact ⟨_, _, rfl⟩ | assumption | (simp only [lN] <;> omega)))
    | with_reducible intro _)
    all_goals (congr 1; rw [Bool.eq_iff_iff]; simp only [nodeOk]; first | (simp_all; done) | (simp_all; omega) | (simp_all [eq_comm]; done) | (simp_all [eq_comm]; omega))
  by_cases h3 : op = 3
  · subst h3
    repeat' (first
    | with_reducible first | apply swp_seq | apply swp_reg | apply swp_regD | apply swp_block | apply swp_exit | apply swp_ret | apply swp_skip | apply swp_cd
    | simp only [go_sem, seval, P50, q50, hl, fillL]
    | ((with_reducible first | refine o_call (c1) ?he ?hc ?_ | refine p_call (c1) ?he ?hc ?_ | refine c_call (c1) ?he ?hc ?_); (case he | hc => first | rfl | (simp [D.erL, D.er, D.closedL, D.closed]; done)))
    | ((with_reducible first | refine o_call (c2) ?he ?hc ?_ | refine p_call (c2) ?he ?hc ?_ | refine c_call (c2) ?he ?hc ?_); (case he | hc => first | rfl | (simp [D.erL, D.er, D.closedL, D.closed]; done)))
    | ((with_reducible first | refine o_call (c3) ?he ?hc ?_ | refine p_call (c3) ?he ?hc ?_ | refine c_call (c3) ?he ?hc ?_); (case he | hc => first | rfl | (simp [D.erL, D.er, D.closedL, D.closed]; done)))
    | ((with_reducible first | refine o_call (c4) ?he ?hc ?_ | refine p_call (c4) ?he ?hc ?_ | refine c_call (c4) ?he ?hc ?_); (case he | hc => first | rfl | (simp [D.erL, D.er, D.closedL, D.closed]; done)))
    | ((with_reducible first | refine o_call (c5) ?he ?hc ?_ | refine p_call (c5) ?he ?hc ?_ | refine c_call (c5) ?he ?hc ?_); (case he | hc => first | rfl | (simp [D.erL, D.er, D.closedL, D.closed]; done)))
    | with_reducible first | apply cd_dec | apply cd_eq | apply cd_ne | apply cd_split | apply gd_dec | apply gd_eq | apply gd_ne | apply gd_split | apply gq_dec | apply gq_eq | apply gq_ne | apply gq_split
    | ((with_reducible refine And.intro ?hw ?_); (case hw => first | omega | rfl | exact ⟨_, _, rfl⟩ | assumption | (simp only [lN] <;> omega)))
    | with_reducible intro _)
    all_goals (congr 1; rw [Bool.eq_iff_iff]; simp only [nodeOk]; first | (simp_all; done) | (simp_all; omega) | (simp_all [eq_comm]; done) | (simp_all [eq_comm]; omega))
  by_cases h4 : op = 4
  · subst h4
    repeat' (first
    | with_reducible first | apply swp_seq | apply swp_reg | apply swp_regD | apply swp_block | apply swp_exit | apply swp_ret | apply swp_skip | apply swp_cd
    | simp only [go_sem, seval, P50, q50, hl, fillL]
    | ((with_reducible first | refine o_call (c1) ?he ?hc ?_ | refine p_call (c1) ?he ?hc ?_ | refine c_call (c1) ?he ?hc ?_); (case he | hc => first | rfl | (simp [D.erL, D.er, D.closedL, D.closed]; done)))
    | ((with_reducible first | refine o_call (c2) ?he ?hc ?_ | refine p_call (c2) ?he ?hc ?_ | refine c_call (c2) ?he ?hc ?_); (case he | hc => first | rfl | (simp [D.erL, D.er, D.closedL, D.closed]; done)))
    | ((with_reducible first | refine o_call (c3) ?he ?hc ?_ | refine p_call (c3) ?he ?hc ?_ | refine c_call (c3) ?he ?hc ?_); (case he | hc => first | rfl | (simp [D.erL, D.er, D.closedL, D.closed]; done)))
    | ((with_reducible first | refine o_call (c4) ?he ?hc ?_ | refine p_call (c4) ?he ?hc ?_ | refine c_call (c4) ?he ?hc ?_); (case he | hc => first | rfl | (simp [D.erL, D.er, D.closedL, D.closed]; done)))
    | ((with_reducible first | refine o_call (c5) ?he ?hc ?_ | refine p_call (c5) ?he ?hc ?_ | refine c_call (c5) ?he ?hc ?_); (case he | hc => first | rfl | (simp [D.erL, D.er, D.closedL, D.closed]; done)))
    | with_reducible first | apply cd_dec | apply cd_eq | apply cd_ne | apply cd_split | apply gd_dec | apply gd_eq | apply gd_ne | apply gd_split | apply gq_dec | apply gq_eq | apply gq_ne | apply gq_split
    | ((with_reducible refine And.intro ?hw ?_); (case hw => first | omega | rfl | exact ⟨_, _, rfl⟩ | assumption | (simp only [lN] <;> omega)))
    | with_reducible intro _)
    all_goals (congr 1; rw [Bool.eq_iff_iff]; simp only [nodeOk]; first | (simp_all; done) | (simp_all; omega) | (simp_all [eq_comm]; done) | (simp_all [eq_comm]; omega))
  by_cases h5 : op = 5
  · subst h5
    repeat' (first
    | with_reducible first | apply swp_seq | apply swp_reg | apply swp_regD | apply swp_block | apply swp_exit | apply swp_ret | apply swp_skip | apply swp_cd
    | simp only [go_sem, seval, P50, q50, hl, fillL]
    | ((with_reducible first | refine o_call (c1) ?he ?hc ?_ | refine p_call (c1) ?he ?hc ?_ | refine c_call (c1) ?he ?hc ?_); (case he | hc => first | rfl | (simp [D.erL, D.er, D.closedL, D.closed]; done)))
    | ((with_reducible first | refine o_call (c2) ?he ?hc ?_ | refine p_call (c2) ?he ?hc ?_ | refine c_call (c2) ?he ?hc ?_); (case he | hc => first | rfl | (simp [D.erL, D.er, D.closedL, D.closed]; done)))
    | ((with_reducible first | refine o_call (c3) ?he ?hc ?_ | refine p_call (c3) ?he ?hc ?_ | refine c_call (c3) ?he ?hc ?_); (case he | hc => first | rfl | (simp [D.erL, D.er, D.closedL, D.closed]; done)))
    | ((with_reducible first | refine o_call (c4) ?he ?hc ?_ | refine p_call (c4) ?he ?hc ?_ | refine c_call (c4) ?he ?hc ?_); (case he | hc => first | rfl | (simp [D.erL, D.er, D.closedL, D.closed]; done)))
    | ((with_reducible first | refine o_call (c5) ?he ?hc ?_ | refine p_call (c5) ?he ?hc ?_ | refine c_call (c5) ?he ?hc ?_); (case he | hc => first | rfl | (simp [D.erL, D.er, D.closedL, D.closed]; done)))
    | with_reducible first | apply cd_dec | apply cd_eq | apply cd_ne | apply cd_split | apply gd_dec | apply gd_eq | apply gd_ne | apply gd_split | apply gq_dec | apply gq_eq | apply gq_ne | apply gq_split
    | ((with_reducible refine And.intro ?hw ?_); (case hw => first | omega | rfl | exact ⟨_, _, rfl⟩ | assumption | (simp only [lN] <;> omega)))
    | with_reducible intro _)
    refine swp_weak (weak_trans (weak_keep [1, 2, 3, 4, 5, 6, 7]) (weak_frz 0 [.int .i64 5, .str nm, .str vl, .int .i64 n, .int .i64 ex, .slice K .no] rfl (Nat.le_refl 0) (by simp [D.closedL, D.closed, hcl]))) ?_
    simp only [St.frz, keepE, D.erL, D.er, her]
    simp [D.fz, D.fzL, Blk.mapD]
    refine hlim _ ?_
    simp only [limHp]
    simp only [show decide (15 < 18) = true from rfl, show decide (17 < 18) = true from rfl, if_true]
    have c6 := num_p ex 0
    repeat' (first
    | with_reducible first | apply swp_seq | apply swp_reg | apply swp_regD | apply swp_block | apply swp_exit | apply swp_ret | apply swp_skip | apply swp_cd
    | simp only [go_sem, seval, P50, q50, hl, fillL]
    | ((with_reducible first | refine o_call (c1) ?he ?hc ?_ | refine p_call (c1) ?he ?hc ?_ | refine c_call (c1) ?he ?hc ?_); (case he | hc => first | rfl | (simp [D.erL, D.er, D.closedL, D.closed]; done)))
    | ((with_reducible first | refine o_call (c2) ?he ?hc ?_ | refine p_call (c2) ?he ?hc ?_ | refine c_call (c2) ?he ?hc ?_); (case he | hc => first | rfl | (simp [D.erL, D.er, D.closedL, D.closed]; done)))
    | ((with_reducible first | refine o_call (c3) ?he ?hc ?_ | refine p_call (c3) ?he ?hc ?_ | refine c_call (c3) ?he ?hc ?_); (case he | hc => first | rfl | (simp [D.erL, D.er, D.closedL, D.closed]; done)))
    | ((with_reducible first | refine o_call (c4) ?he ?hc ?_ | refine p_call (c4) ?he ?hc ?_ | refine c_call (c4) ?he ?hc ?_); (case he | hc => first | rfl | (simp [D.erL, D.er, D.closedL, D.closed]; done)))
    | ((with_reducible first | refine o_call (c5) ?he ?hc ?_ | refine p_call (c5) ?he ?hc ?_ | refine c_call (c5) ?he ?hc ?_); (case he | hc => first | rfl | (simp [D.erL, D.er, D.closedL, D.closed]; done)))
    | with_reducible first | apply cd_dec | apply cd_eq | apply cd_ne | apply cd_split | apply gd_dec | apply gd_eq | apply gd_ne | apply gd_split | apply gq_dec | apply gq_eq | apply gq_ne | apply gq_split
    | ((with_reducible refine And.intro ?hw ?_); (case hw => first | omega | rfl | exact ⟨_, _, rfl⟩ | assumption | (simp only [lN] <;> omega)))
    | with_reducible intro _)
    all_goals try simp only [Option.getD_some, D.er]
    all_goals first | (simp [D.closed]; done) | (congr 1; rw [Bool.eq_iff_iff]; simp only [nodeOk]; first | (simp_all; done) | (simp_all; omega) | (simp_all [eq_comm]; done) | (simp_all [eq_comm]; omega))
  by_cases h6 : op = 6
  · subst h6
    repeat' (first
    | with_reducible first | apply swp_seq | apply swp_reg | apply swp_regD | apply swp_block | apply swp_exit | apply swp_ret | apply swp_skip | apply swp_cd
    | simp only [go_sem, seval, P50, q50, hl, fillL]
    | ((with_reducible first | refine o_call (c1) ?he ?hc ?_ | refine p_call (c1) ?he ?hc ?_ | refine c_call (c1) ?he ?hc ?_); (case he | hc => first | rfl | (simp [D.erL, D.er, D.closedL, D.closed]; done)))
    | ((with_reducible first | refine o_call (c2) ?he ?hc ?_ | refine p_call (c2) ?he ?hc ?_ | refine c_call (c2) ?he ?hc ?_); (case he | hc => first | rfl | (simp [D.erL, D.er, D.closedL, D.closed]; done)))
    | ((with_reducible first | refine o_call (c3) ?he ?hc ?_ | refine p_call (c3) ?he ?hc ?_ | refine c_call (c3) ?he ?hc ?_); (case he | hc => first | rfl | (simp [D.erL, D.er, D.closedL, D.closed]; done)))
    | ((with_reducible first | refine o_call (c4) ?he ?hc ?_ | refine p_call (c4) ?he ?hc ?_ | refine c_call (c4) ?he ?hc ?_); (case he | hc => first | rfl | (simp [D.erL, D.er, D.closedL, D.closed]; done)))
    | ((with_reducible first | refine o_call (c5) ?he ?hc ?_ | refine p_call (c5) ?he ?hc ?_ | refine c_call (c5) ?he ?hc ?_); (case he | hc => first | rfl | (simp [D.erL, D.er, D.closedL, D.closed]; done)))
    | with_reducible first | apply cd_dec | apply cd_eq | apply cd_ne | apply cd_split | apply gd_dec | apply gd_eq | apply gd_ne | apply gd_split | apply gq_dec | apply gq_eq | apply gq_ne | apply gq_split
    | ((with_reducible refine And.intro ?hw ?_); (case hw => first | omega | rfl | exact ⟨_, _, rfl⟩ | assumption | (simp only [lN] <;> omega)))
    | with_reducible intro _)
    all_goals (congr 1; rw [Bool.eq_iff_iff]; simp only [nodeOk]; first | (simp_all; done) | (simp_all; omega) | (simp_all [eq_comm]; done) | (simp_all [eq_comm]; omega))
  by_cases h7 : op = 7
  · subst h7
    repeat' (first
    | with_reducible first | apply swp_seq | apply swp_reg | apply swp_regD | apply swp_block | apply swp_exit | apply swp_ret | apply swp_skip | apply swp_cd
    | simp only [go_sem, seval, P50, q50, hl, fillL]
    | ((with_reducible first | refine o_call (c1) ?he ?hc ?_ | refine p_call (c1) ?he ?hc ?_ | refine c_call (c1) ?he ?hc ?_); (case he | hc => first | rfl | (simp [D.erL, D.er, D.closedL, D.closed]; done)))
    | ((with_reducible first | refine o_call (c2) ?he ?hc ?_ | refine p_call (c2) ?he ?hc ?_ | refine c_call (c2) ?he ?hc ?_); (case he | hc => first | rfl | (simp [D.erL, D.er, D.closedL, D.closed]; done)))
    | ((with_reducible first | refine o_call (c3) ?he ?hc ?_ | refine p_call (c3) ?he ?hc ?_ | refine c_call (c3) ?he ?hc ?_); (case he | hc => first | rfl | (simp [D.erL, D.er, D.closedL, D.closed]; done)))
    | ((with_reducible first | refine o_call (c4) ?he ?hc ?_ | refine p_call (c4) ?he ?hc ?_ | refine c_call (c4) ?he ?hc ?_); (case he | hc => first | rfl | (simp [D.erL, D.er, D.closedL, D.closed]; done)))
    | ((with_reducible first | refine o_call (c5) ?he ?hc ?_ | refine p_call (c5) ?he ?hc ?_ | refine c_call (c5) ?he ?hc ?_); (case he | hc => first | rfl | (simp [D.erL, D.er, D.closedL, D.closed]; done)))
    | with_reducible first | apply cd_dec | apply cd_eq | apply cd_ne | apply cd_split | apply gd_dec | apply gd_eq | apply gd_ne | apply gd_split | apply gq_dec | apply gq_eq | apply gq_ne | apply gq_split
    | ((with_reducible refine And.intro ?hw ?_); (case hw => first | omega | rfl | exact ⟨_, _, rfl⟩ | assumption | (simp only [lN] <;> omega)))
    | with_reducible intro _)
    all_goals (congr 1; rw [Bool.eq_iff_iff]; simp only [nodeOk]; first | (simp_all; done) | (simp_all; omega) | (simp_all [eq_comm]; done) | (simp_all [eq_comm]; omega))
  by_cases h8 : op = 8
  · subst h8
    repeat' (first
    | with_reducible first | apply swp_seq | apply swp_reg | apply swp_regD | apply swp_block | apply swp_exit | apply swp_ret | apply swp_skip | apply swp_cd
    | simp only [go_sem, seval, P50, q50, hl, fillL]
    | ((with_reducible first | refine o_call (c1) ?he ?hc ?_ | refine p_call (c1) ?he ?hc ?_ | refine c_call (c1) ?he ?hc ?_); (case he | hc => first | rfl | (simp [D.erL, D.er, D.closedL, D.closed]; done)))
    | ((with_reducible first | refine o_call (c2) ?he ?hc ?_ | refine p_call (c2) ?he ?hc ?_ | refine c_call (c2) ?he ?hc ?_); (case he | hc => first | rfl | (simp [D.erL, D.er, D.closedL, D.closed]; done)))
    | ((with_reducible first | refine o_call (c3) ?he ?hc ?_ | refine p_call (c3) ?he ?hc ?_ | refine c_call (c3) ?he ?hc ?_); (case he | hc => first | rfl | (simp [D.erL, D.er, D.closedL, D.closed]; done)))
    | ((with_reducible first | refine o_call (c4) ?he ?hc ?_ | refine p_call (c4) ?he ?hc ?_ | refine c_call (c4) ?he ?hc ?_); (case he | hc => first | rfl | (simp [D.erL, D.er, D.closedL, D.closed]; done)))
    | ((with_reducible first | refine o_call (c5) ?he ?hc ?_ | refine p_call (c5) ?he ?hc ?_ | refine c_call (c5) ?he ?hc ?_); (case he | hc => first | rfl | (simp [D.erL, D.er, D.closedL, D.closed]; done)))
    | with_reducible first | apply cd_dec | apply cd_eq | apply cd_ne | apply cd_split | apply gd_dec | apply gd_eq | apply gd_ne | apply gd_split | apply gq_dec | apply gq_eq | apply gq_ne | apply gq_split
    | ((with_reducible refine And.intro ?hw ?_); (case hw => first | omega | rfl | exact ⟨_, _, rfl⟩ | assumption | (simp only [lN] <;> omega)))
    | with_reducible intro _)
    all_goals (congr 1; rw [Bool.eq_iff_iff]; simp only [nodeOk]; first | (simp_all; done) | (simp_all; omega) | (simp_all [eq_comm]; done) | (simp_all [eq_comm]; omega))
  by_cases h9 : op = 9
  · subst h9
    repeat' (first
    | with_reducible first | apply swp_seq | apply swp_reg | apply swp_regD | apply swp_block | apply swp_exit | apply swp_ret | apply swp_skip | apply swp_cd
    | simp only [go_sem, seval, P50, q50, hl, fillL]
    | ((with_reducible first | refine o_call (c1) ?he ?hc ?_ | refine p_call (c1) ?he ?hc ?_ | refine c_call (c1) ?he ?hc ?_); (case he | hc => first | rfl | (simp [D.erL, D.er, D.closedL, D.closed]; done)))
    | ((with_reducible first | refine o_call (c2) ?he ?hc ?_ | refine p_call (c2) ?he ?hc ?_ | refine c_call (c2) ?he ?hc ?_); (case he | hc => first | rfl | (simp [D.erL, D.er, D.closedL, D.closed]; done)))
    | ((with_reducible first | refine o_call (c3) ?he ?hc ?_ | refine p_call (c3) ?he ?hc ?_ | refine c_call (c3) ?he ?hc ?_); (case he | hc => first | rfl | (simp [D.erL, D.er, D.closedL, D.closed]; done)))
    | ((with_reducible first | refine o_call (c4) ?he ?hc ?_ | refine p_call (c4) ?he ?hc ?_ | refine c_call (c4) ?he ?hc ?_); (case he | hc => first | rfl | (simp [D.erL, D.er, D.closedL, D.closed]; done)))
    | ((with_reducible first | refine o_call (c5) ?he ?hc ?_ | refine p_call (c5) ?he ?hc ?_ | refine c_call (c5) ?he ?hc ?_); (case he | hc => first | rfl | (simp [D.erL, D.er, D.closedL, D.closed]; done)))
    | with_reducible first | apply cd_dec | apply cd_eq | apply cd_ne | apply cd_split | apply gd_dec | apply gd_eq | apply gd_ne | apply gd_split | apply gq_dec | apply gq_eq | apply gq_ne | apply gq_split
    | ((with_reducible refine And.intro ?hw ?_); (case hw => first | omega | rfl | exact ⟨_, _, rfl⟩ | assumption | (simp only [lN] <;> omega)))
    | with_reducible intro _)
    all_goals (congr 1; rw [Bool.eq_iff_iff]; simp only [nodeOk]; first | (simp_all; done) | (simp_all; omega) | (simp_all [eq_comm]; done) | (simp_all [eq_comm]; omega))
  by_cases h10 : op = 10
  · subst h10
    repeat' (first
    | with_reducible first | apply swp_seq | apply swp_reg | apply swp_regD | apply swp_block | apply swp_exit | apply swp_ret | apply swp_skip | apply swp_cd
    | simp only [go_sem, seval, P50, q50, hl, fillL]
    | ((with_reducible first | refine o_call (c1) ?he ?hc ?_ | refine p_call (c1) ?he ?hc ?_ | refine c_call (c1) ?he ?hc ?_); (case he | hc => first | rfl | (simp [D.erL, D.er, D.closedL, D.closed]; done)))
    | ((with_reducible first | refine o_call (c2) ?he ?hc ?_ | refine p_call (c2) ?he ?hc ?_ | refine c_call (c2) ?he ?hc ?_); (case he | hc => first | rfl | (simp [D.erL, D.er, D.closedL, D.closed]; done)))
    | ((with_reducible first | refine o_call (c3) ?he ?hc ?_ | refine p_call (c3) ?he ?hc ?_ | refine c_call (c3) ?he ?hc ?_); (case he | hc => first | rfl | (simp [D.erL, D.er, D.closedL, D.closed]; done)))
    | ((with_reducible first | refine o_call (c4) ?he ?hc ?_ | refine p_call (c4) ?he ?hc ?_ | refine c_call (c4) ?he ?hc ?_); (case he | hc => first | rfl | (simp [D.erL, D.er, D.closedL, D.closed]; done)))
    | ((with_reducible first | refine o_call (c5) ?he ?hc ?_ | refine p_call (c5) ?he ?hc ?_ | refine c_call (c5) ?he ?hc ?_); (case he | hc => first | rfl | (simp [D.erL, D.er, D.closedL, D.closed]; done)))
    | with_reducible first | apply cd_dec | apply cd_eq | apply cd_ne | apply cd_split | apply gd_dec | apply gd_eq | apply gd_ne | apply gd_split | apply gq_dec | apply gq_eq | apply gq_ne | apply gq_split
    | ((with_reducible refine And.intro ?hw ?_); (case hw => first | omega | rfl | exact ⟨_, _, rfl⟩ | assumption | (simp only [lN] <;> omega)))
    | with_reducible intro _)
    all_goals (congr 1; rw [Bool.eq_iff_iff]; simp only [nodeOk]; first | (simp_all; done) | (simp_all; omega) | (simp_all [eq_comm]; done) | (simp_all [eq_comm]; omega))
  by_cases h11 : op = 11
  · subst h11
    repeat' (first
    | with_reducible first | apply swp_seq | apply swp_reg | apply swp_regD | apply swp_block | apply swp_exit | apply swp_ret | apply swp_skip | apply swp_cd
    | simp only [go_sem, seval, P50, q50, hl, fillL]
    | ((with_reducible first | refine o_call (c1) ?he ?hc ?_ | refine p_call (c1) ?he ?hc ?_ | refine c_call (c1) ?he ?hc ?_); (case he | hc => first | rfl | (simp [D.erL, D.er, D.closedL, D.closed]; done)))
    | ((with_reducible first | refine o_call (c2) ?he ?hc ?_ | refine p_call (c2) ?he ?hc ?_ | refine c_call (c2) ?he ?hc ?_); (case he | hc => first | rfl | (simp [D.erL, D.er, D.closedL, D.closed]; done)))
    | ((with_reducible first | refine o_call (c3) ?he ?hc ?_ | refine p_call (c3) ?he ?hc ?_ | refine c_call (c3) ?he ?hc ?_); (case he | hc => first | rfl | (simp [D.erL, D.er, D.closedL, D.closed]; done)))
    | ((with_reducible first | refine o_call (c4) ?he ?hc ?_ | refine p_call (c4) ?he ?hc ?_ | refine c_call (c4) ?he ?hc ?_); (case he | hc => first | rfl | (simp [D.erL, D.er, D.closedL, D.closed]; done)))
    | ((with_reducible first | refine o_call (c5) ?he ?hc ?_ | refine p_call (c5) ?he ?hc ?_ | refine c_call (c5) ?he ?hc ?_); (case he | hc => first | rfl | (simp [D.erL, D.er, D.closedL, D.closed]; done)))
    | with_reducible first | apply cd_dec | apply cd_eq | apply cd_ne | apply cd_split | apply gd_dec | apply gd_eq | apply gd_ne | apply gd_split | apply gq_dec | apply gq_eq | apply gq_ne | apply gq_split
    | ((with_reducible refine And.intro ?hw ?_); (case hw => first | omega | rfl | exact ⟨_, _, rfl⟩ | assumption | (simp only [lN] <;> omega)))
    | with_reducible intro _)
    all_goals (congr 1; rw [Bool.eq_iff_iff]; simp only [nodeOk]; first | (simp_all; done) | (simp_all; omega) | (simp_all [eq_comm]; done) | (simp_all [eq_comm]; omega))
  by_cases h12 : op = 12
  · subst h12
    repeat' (first
    | with_reducible first | apply swp_seq | apply swp_reg | apply swp_regD | apply swp_block | apply swp_exit | apply swp_ret | apply swp_skip | apply swp_cd
    | simp only [go_sem, seval, P50, q50, hl, fillL]
    | ((with_reducible first | refine o_call (c1) ?he ?hc ?_ | refine p_call (c1) ?he ?hc ?_ | refine c_call (c1) ?he ?hc ?_); (case he | hc => first | rfl | (simp [D.erL, D.er, D.closedL, D.closed]; done)))
    | ((with_reducible first | refine o_call (c2) ?he ?hc ?_ | refine p_call (c2) ?he ?hc ?_ | refine c_call (c2) ?he ?hc ?_); (case he | hc => first | rfl | (simp [D.erL, D.er, D.closedL, D.closed]; done)))
    | ((with_reducible first | refine o_call (c3) ?he ?hc ?_ | refine p_call (c3) ?he ?hc ?_ | refine c_call (c3) ?he ?hc ?_); (case he | hc => first | rfl | (simp [D.erL, D.er, D.closedL, D.closed]; done)))
    | ((with_reducible first | refine o_call (c4) ?he ?hc ?_ | refine p_call (c4) ?he ?hc ?_ | refine c_call (c4) ?he ?hc ?_); (case he | hc => first | rfl | (simp [D.erL, D.er, D.closedL, D.closed]; done)))
    | ((with_reducible first | refine o_call (c5) ?he ?hc ?_ | refine p_call (c5) ?he ?hc ?_ | refine c_call (c5) ?he ?hc ?_); (case he | hc => first | rfl | (simp [D.erL, D.er, D.closedL, D.closed]; done)))
    | with_reducible first | apply cd_dec | apply cd_eq | apply cd_ne | apply cd_split | apply gd_dec | apply gd_eq | apply gd_ne | apply gd_split | apply gq_dec | apply gq_eq | apply gq_ne | apply gq_split
    | ((with_reducible refine And.intro ?hw ?_); (case hw => first | omega | rfl | exact ⟨_, _, rfl⟩ | assumption | (simp only [lN] <;> omega)))
    | with_reducible intro _)
    all_goals (congr 1; rw [Bool.eq_iff_iff]; simp only [nodeOk]; first | (simp_all; done) | (simp_all; omega) | (simp_all [eq_comm]; done) | (simp_all [eq_comm]; omega))
  have n1 : (op == 1) = false := by simp [h1]
  have n2 : (op == 2) = false := by simp [h2]
  have n3 : (op == 3) = false := by simp [h3]
  have n4 : (op == 4) = false := by simp [h4]
  have n5 : (op == 5) = false := by simp [h5]
  have n6 : (op == 6) = false := by simp [h6]
  have n7 : (op == 7) = false := by simp [h7]
  have n8 : (op == 8) = false := by simp [h8]
  have n9 : (op == 9) = false := by simp [h9]
  have n10 : (op == 10) = false := by simp [h10]
  have n11 : (op == 11) = false := by simp [h11]
  have n12 : (op == 12) = false := by simp [h12]
  repeat' (first
    | with_reducible first | apply swp_seq | apply swp_reg | apply swp_regD | apply swp_block | apply swp_exit | apply swp_ret | apply swp_skip | apply swp_cd
    | simp only [go_sem, seval, P50, q50, hl, fillL, n1, n2, n3, n4, n5, n6, n7, n8, n9, n10, n11, n12]
    | ((with_reducible first | refine o_call (c1) ?he ?hc ?_ | refine p_call (c1) ?he ?hc ?_ | refine c_call (c1) ?he ?hc ?_); (case he | hc => first | rfl | (simp [D.erL, D.er, D.closedL, D.closed]; done)))
    | ((with_reducible first | refine o_call (c2) ?he ?hc ?_ | refine p_call (c2) ?he ?hc ?_ | refine c_call (c2) ?he ?hc ?_); (case he | hc => first | rfl | (simp [D.erL, D.er, D.closedL, D.closed]; done)))
    | ((with_reducible first | refine o_call (c3) ?he ?hc ?_ | refine p_call (c3) ?he ?hc ?_ | refine c_call (c3) ?he ?hc ?_); (case he | hc => first | rfl | (simp [D.erL, D.er, D.closedL, D.closed]; done)))
    | ((with_reducible first | refine o_call (c4) ?he ?hc ?_ | refine p_call (c4) ?he ?hc ?_ | refine c_call (c4) ?he ?hc ?_); (case he | hc => first | rfl | (simp [D.erL, D.er, D.closedL, D.closed]; done)))
    | ((with_reducible first | refine o_call (c5) ?he ?hc ?_ | refine p_call (c5) ?he ?hc ?_ | refine c_call (c5) ?he ?hc ?_); (case he | hc => first | rfl | (simp [D.erL, D.er, D.closedL, D.closed]; done)))
    | with_reducible first | apply cd_dec | apply cd_eq | apply cd_ne | apply cd_split | apply gd_dec | apply gd_eq | apply gd_ne | apply gd_split | apply gq_dec | apply gq_eq | apply gq_ne | apply gq_split
    | ((with_reducible refine And.intro ?hw ?_); (case hw => first | omega | rfl | exact ⟨_, _, rfl⟩ | assumption | (simp only [lN] <;> omega)))
    | with_reducible intro _)
  all_goals (simp [nodeOk, h1, h2, h3, h4, h5, h6, h7, h8, h9, h10, h11, h12, D.closed, D.er])
end Go.Proofs.Ytnooagipikedeaa
end
section
set_option maxRecDepth 100000
set_option linter.unusedSimpArgs false
set_option linter.unusedVariables false
namespace Go.Proofs.Ytnooagipikedeaa
open Go GoV Go.RowKit
def RowsK (k : Nat) (K : List D) : Prop := ∀ j (h : j < K.length), ∃ cs, K[j] = .agg cs ∧ cs.length = k
theorem rows_map {α : Type} {k : Nat} (f : α → D) (h : ∀ x, ∃ cs, f x = .agg cs ∧ cs.length = k) (l : List α) : RowsK k (l.map f) := fun j hj => by
  simp only [List.getElem_map]; exact h _
theorem rows_X (ks : List X) : RowsK 6 (ks.map X.d) := rows_map _ (fun x => ⟨_, X.d_eq x, rfl⟩) ks
/-! ### The first element of which a function says yes: whatever the function is -/

theorem if65 (K : List D) (hR : RowsK 6 K) (hl : K.length < 4611686018427387904) (f : FuncId) (a c : List D) (hpF : Nat → Hp) (nH nT : Nat) (hH : ∀ j, (hpF j).H.length = nH) (hT : ∀ j, (hpF j).tk.length = nT) (n : Nat) (hn : n ≤ K.length)
    (hf : ∀ j (h : j < n) (h' : j < K.length), Eff M f (a ++ [K[j]] ++ c) (hpF j) fun d hp => d = .bool false ∧ hp = hpF (j + 1)) (r : Int) (e : Nat)
    (hr : (n = K.length ∧ r = -1 ∧ e = n) ∨ (∃ h : n < K.length, r = n ∧ e = n + 1 ∧ Eff M f (a ++ [K[n]] ++ c) (hpF n) fun d hp => d = .bool true ∧ hp = hpF (n + 1))) :
    Eff M 93 [.slice K .no, .fn (.func f) a c] (hpF 0) fun d hp => d = .int .i64 r ∧ hp = hpF e := by
  refine oe93 nH nT rfl (hH 0).symm (hT 0).symm ?_
  rw [ie93]
  unfold c93
  repeat' (first
    | with_reducible first | apply swp_seq | apply swp_reg | apply swp_regD | apply swp_block | apply swp_exit | apply swp_ret | apply swp_skip | apply swp_cd
    | simp only [go_sem, seval, pe93, q93]
    | simp (disch := omega) only [w64, w32, wu8, wu16, wu32, wu64]
    | with_reducible first | apply cd_dec | apply cd_eq | apply cd_ne | apply cd_split
    | ((with_reducible refine And.intro ?hw ?_); (case hw => first | omega | rfl | exact ⟨_, _, rfl⟩ | assumption | (simp only [lN] <;> omega)))
    | with_reducible intro _)
  refine swp_fam [0, 1, 2, 4, 5] (fun j : Nat => ⟨[.slice K .no, .fn (.func f) a c, .int .i64 0, .undef, .int .i64 K.length, .int .i64 j, .undef, .undef], [], hpF j⟩) (fun j => j ≤ n) (fun j => n + 1 - j) 0 (by omega) ?_ ?_
  · simp [keepE, St.keep]
  · intro j hj
    by_cases hjn : j < n
    · have hjl : j < K.length := by omega
      obtain ⟨cs, e1, e2⟩ := hR j hjl
      have hg : K.getD j .undef = .agg cs := by simp [List.getD, hjl, e1]
      have htk : cs.take 6 = cs := List.take_of_length_le (by omega)
      have c1 := hf j hjn hjl
      rw [e1] at c1
      repeat' (first
    | with_reducible first | apply swp_seq | apply swp_reg | apply swp_regD | apply swp_block | apply swp_exit | apply swp_ret | apply swp_skip | apply swp_cd
    | simp only [go_sem, seval, pe93, q93, hg, htk, e2]
    | simp (disch := omega) only [w64, w32, wu8, wu16, wu32, wu64]
    | ((with_reducible refine o_same (c1) ?he ?hh ?_); (case he => first | rfl | (simp [go_sem, seval, hg, e2]; done)); (case hh => first | rfl | (simp [go_sem, seval, hg, e2]; done)))
    | with_reducible first | apply cd_dec | apply cd_eq | apply cd_ne | apply cd_split
    | ((with_reducible refine And.intro ?hw ?_); (case hw => first | omega | rfl | exact ⟨_, _, rfl⟩ | assumption | (simp only [lN, hg, e2] <;> omega)))
    | with_reducible intro _)
      all_goals try omega
      all_goals try (refine ⟨j + 1, by omega, by omega, ?_⟩; simp [St.keep, keepE])
    · obtain rfl : j = n := by omega
      rcases hr with ⟨h1, rfl, rfl⟩ | ⟨h1, rfl, rfl, c1⟩
      · repeat' (first
    | with_reducible first | apply swp_seq | apply swp_reg | apply swp_regD | apply swp_block | apply swp_exit | apply swp_ret | apply swp_skip | apply swp_cd
    | simp only [go_sem, seval, pe93, q93]
    | simp (disch := omega) only [w64, w32, wu8, wu16, wu32, wu64]
    | with_reducible first | apply cd_dec | apply cd_eq | apply cd_ne | apply cd_split
    | ((with_reducible refine And.intro ?hw ?_); (case hw => first | omega | rfl | exact ⟨_, _, rfl⟩ | assumption | (simp only [lN] <;> omega)))
    | with_reducible intro _)
        all_goals try omega
        all_goals exact ⟨_, weak_refl, by simp⟩
      · obtain ⟨cs, e1, e2⟩ := hR j h1
        have hg : K.getD j .undef = .agg cs := by simp [List.getD, h1, e1]
        have htk : cs.take 6 = cs := List.take_of_length_le (by omega)
        rw [e1] at c1
        repeat' (first
    | with_reducible first | apply swp_seq | apply swp_reg | apply swp_regD | apply swp_block | apply swp_exit | apply swp_ret | apply swp_skip | apply swp_cd
    | simp only [go_sem, seval, pe93, q93, hg, htk, e2]
    | simp (disch := omega) only [w64, w32, wu8, wu16, wu32, wu64]
    | ((with_reducible refine o_same (c1) ?he ?hh ?_); (case he => first | rfl | (simp [go_sem, seval, hg, e2]; done)); (case hh => first | rfl | (simp [go_sem, seval, hg, e2]; done)))
    | with_reducible first | apply cd_dec | apply cd_eq | apply cd_ne | apply cd_split
    | ((with_reducible refine And.intro ?hw ?_); (case hw => first | omega | rfl | exact ⟨_, _, rfl⟩ | assumption | (simp only [lN, hg, e2] <;> omega)))
    | with_reducible intro _)
        all_goals try omega
        all_goals exact ⟨_, weak_refl, by simp⟩
theorem cf52 (K : List D) (hR : RowsK 6 K) (hl : K.length < 4611686018427387904) (f : FuncId) (a c : List D) (hpF : Nat → Hp) (nH nT : Nat) (hH : ∀ j, (hpF j).H.length = nH) (hT : ∀ j, (hpF j).tk.length = nT) (n : Nat) (hn : n ≤ K.length)
    (hf : ∀ j (h : j < n) (h' : j < K.length), Eff M f (a ++ [K[j]] ++ c) (hpF j) fun d hp => d = .bool false ∧ hp = hpF (j + 1)) (r : Bool) (e : Nat)
    (hr : (n = K.length ∧ r = false ∧ e = n) ∨ (∃ h : n < K.length, r = true ∧ e = n + 1 ∧ Eff M f (a ++ [K[n]] ++ c) (hpF n) fun d hp => d = .bool true ∧ hp = hpF (n + 1))) :
    Eff M 71 [.slice K .no, .fn (.func f) a c] (hpF 0) fun d hp => d = .bool r ∧ hp = hpF e := by
  have c1 : Eff M 93 [.slice K .no, .fn (.func f) a c] (hpF 0) fun d hp => d = .int .i64 (if r then (n : Int) else -1) ∧ hp = hpF e :=
    if65 K hR hl f a c hpF nH nT hH hT n hn hf _ e (by
      rcases hr with ⟨h1, rfl, rfl⟩ | ⟨h1, rfl, rfl, h2⟩
      · exact .inl ⟨h1, by simp, rfl⟩
      · exact .inr ⟨h1, by simp, rfl, h2⟩)
  refine oe71 nH nT rfl (hH 0).symm (hT 0).symm ?_
  rw [ie71]
  unfold c71
  cases r
  · simp only [Bool.false_eq_true, if_false] at c1
    repeat' (first
    | with_reducible first | apply swp_seq | apply swp_reg | apply swp_regD | apply swp_block | apply swp_exit | apply swp_ret | apply swp_skip | apply swp_cd
    | simp only [go_sem, seval, pe71, q71]
    | simp (disch := omega) only [w64, w32, wu8, wu16, wu32, wu64]
    | ((with_reducible refine o_same (c1) ?he ?hh ?_); (case he => first | rfl | (simp [go_sem, seval]; done)); (case hh => first | rfl | (simp [go_sem, seval]; done)))
    | with_reducible first | apply cd_dec | apply cd_eq | apply cd_ne | apply cd_split
    | ((with_reducible refine And.intro ?hw ?_); (case hw => first | omega | rfl | exact ⟨_, _, rfl⟩ | assumption | (simp only [lN] <;> omega)))
    | with_reducible intro _)
    all_goals exact ⟨_, weak_refl, by simp⟩
  · simp only [if_true] at c1
    repeat' (first
    | with_reducible first | apply swp_seq | apply swp_reg | apply swp_regD | apply swp_block | apply swp_exit | apply swp_ret | apply swp_skip | apply swp_cd
    | simp only [go_sem, seval, pe71, q71]
    | simp (disch := omega) only [w64, w32, wu8, wu16, wu32, wu64]
    | ((with_reducible refine o_same (c1) ?he ?hh ?_); (case he => first | rfl | (simp [go_sem, seval]; done)); (case hh => first | rfl | (simp [go_sem, seval]; done)))
    | with_reducible first | apply cd_dec | apply cd_eq | apply cd_ne | apply cd_split
    | ((with_reducible refine And.intro ?hw ?_); (case hw => first | omega | rfl | exact ⟨_, _, rfl⟩ | assumption | (simp only [lN] <;> omega)))
    | with_reducible intro _)
    all_goals refine ⟨_, weak_refl, by simp⟩
/-! ### All nodes are valid -/

abbrev visB : Hp := ⟨[.cells [.fn (.func 50) [] []]], []⟩
mutual
def shortB : X → Bool
  | .mk _ nm vl _ _ ks => decide (nm.length ≤ 300) && decide (vl.length ≤ 300) && shortBL ks
def shortBL : List X → Bool
  | [] => true
  | k :: ks => shortB k && shortBL ks
end
theorem shortBL_mem : ∀ {ks : List X}, shortBL ks = true → ∀ k ∈ ks, shortB k = true
  | [], _, k, h => by simp at h
  | k' :: ks, h, k, hk => by
    simp only [shortBL, Bool.and_eq_true] at h
    rcases List.mem_cons.1 hk with rfl | hk
    · exact h.1
    · exact shortBL_mem h.2 k hk
def X.sm (x : X) : Prop := shortB x = true ∧ x.nodes ≤ 100
theorem X.sm_parts {x : X} (h : x.sm) : x.nam.length ≤ 300 ∧ x.val.length ≤ 300 ∧ (∀ k ∈ x.kids, k.sm) ∧ x.kids.length < 100 := by
  have h2 := kids_len x
  have h3 : ∀ k ∈ x.kids, k.nodes < x.nodes := fun k hk => kid_nodes hk
  obtain ⟨hs, hn⟩ := h
  cases x
  simp only [shortB, Bool.and_eq_true, decide_eq_true_eq, X.nam, X.val, X.kids] at *
  exact ⟨hs.1.1, hs.1.2, fun k hk => ⟨shortBL_mem hs.2 k hk, by have := h3 k hk; omega⟩, by omega⟩
theorem wellL_all : ∀ ks : List X, wellL ks = ks.all well
  | [] => rfl
  | k :: ks => by simp [wellL, wellL_all ks]
theorem w53 (x : X) (ih : Pur M 49 [x.d, .fn (.func 50) [] []] (.bool (well x))) : Eff M 72 [x.d, .ptr 0 0] visB fun d hp => d = .bool (!well x) ∧ hp = visB := by
  refine oe72 1 0 rfl rfl rfl ?_
  rw [ie72]
  unfold c72
  have hcl := cl_X x
  have her := er_X x
  rw [X.d_eq] at ih hcl her ⊢
  unfold visB
  repeat' (first
    | with_reducible first | apply swp_seq | apply swp_reg | apply swp_regD | apply swp_block | apply swp_exit | apply swp_ret | apply swp_skip | apply swp_cd
    | simp only [go_sem, seval, pe72, q72]
    | ((with_reducible refine o_call (ih) ?he ?hc ?_); (case he | hc => first | rfl | (simp [D.erL, D.er, D.closedL, D.closed, hcl, her]; done)))
    | with_reducible first | apply cd_dec | apply cd_eq | apply cd_ne | apply cd_split
    | ((with_reducible refine And.intro ?hw ?_); (case hw => first | omega | rfl | exact ⟨_, _, rfl⟩ | assumption | (simp only [lN, hcl, her] <;> omega)))
    | with_reducible intro _)
  refine ⟨_, weak_gc 1 0 (Nat.le_refl _) (Nat.le_refl _), ?_⟩
  simp [St.gc, Hp.cut, D.rnL, D.rn, cutF, Blk.rn, Blk.rnL, Tv.rnL]
theorem cfAll (ks : List X) (hk : ks.length < 100) (ih : ∀ k ∈ ks, Pur M 49 [k.d, .fn (.func 50) [] []] (.bool (well k))) :
    Eff M 71 [.slice (ks.map X.d) .no, .fn (.func 72) [] [.ptr 0 0]] visB fun d hp => d = .bool (!ks.all well) ∧ hp = visB := by
  have hl : (ks.map X.d).length = ks.length := by simp
  have e1 : ∀ j (h : j < ks.length), Eff M 72 ([] ++ [(ks.map X.d)[j]'(by rw [hl]; exact h)] ++ [.ptr 0 0]) visB fun d hp => d = .bool (!well ks[j]) ∧ hp = visB := fun j h => by
    simp only [List.getElem_map]
    exact w53 _ (ih _ (List.getElem_mem h))
  rcases first_of (p := fun k => well k = false) ks with ⟨i, h, h1, h2⟩ | h
  · have hr : (!ks.all well) = true := by
      simp only [Bool.not_eq_true', List.all_eq_false]
      exact ⟨ks[i], List.getElem_mem h, by simp [h1]⟩
    rw [hr]
    refine cf52 (ks.map X.d) (rows_X ks) (by omega) 72 [] [.ptr 0 0] (fun _ => visB) 1 0 (fun _ => rfl) (fun _ => rfl) i (by omega) (fun j hj hj' => ?_) true (i + 1) (.inr ⟨by omega, rfl, rfl, ?_⟩)
    · have := e1 j (by omega)
      rw [show well ks[j] = true by simpa using h2 j hj] at this
      exact this
    · have := e1 i h
      rw [h1] at this
      exact this
  · have hr : (!ks.all well) = false := by
      simp only [Bool.not_eq_false', List.all_eq_true]
      intro k hk
      obtain ⟨j, hj, rfl⟩ := List.getElem_of_mem hk
      simpa using h j hj
    rw [hr]
    refine cf52 (ks.map X.d) (rows_X ks) (by omega) 72 [] [.ptr 0 0] (fun _ => visB) 1 0 (fun _ => rfl) (fun _ => rfl) ks.length (by omega) (fun j hj hj' => ?_) false ks.length (.inl ⟨hl.symm, rfl, rfl⟩)
    have := e1 j hj
    rw [show well ks[j] = true by simpa using h j hj] at this
    exact this
theorem good_p : ∀ (k : Nat) (x : X), x.nodes ≤ k → x.sm → Pur M 49 [x.d, .fn (.func 50) [] []] (.bool (well x))
  | 0, x, hk, _ => by have := nodes_pos x; omega
  | k + 1, x, hk, hs => by
    obtain ⟨s1, s2, s3, s4⟩ := X.sm_parts hs
    have c1 := node_p x (by omega) (by omega)
    have c2 := cfAll x.kids s4 fun y hy => good_p k y (by have := kid_nodes hy; omega) (s3 y hy)
    rw [X.well_eq, wellL_all]
    refine ok49 rfl ?_
    rw [i49]
    unfold c49
    unfold visB at c2
    have hcl := closedL_X x.kids
    have her := erL_X x.kids
    rw [X.d_eq] at c1 ⊢
    generalize nodeOk x.op x.nam x.val x.num x.ext x.kids.length = b at *
    cases b
    · repeat' (first
    | with_reducible first | apply swp_seq | apply swp_reg | apply swp_regD | apply swp_block | apply swp_exit | apply swp_ret | apply swp_skip | apply swp_cd
    | simp only [go_sem, seval, P49, q49]
    | ((with_reducible refine o_call (c1) ?he ?hc ?_); (case he | hc => first | rfl | (simp [D.erL, D.er, D.closedL, D.closed, hcl, her]; done)))
    | with_reducible first | apply cd_dec | apply cd_eq | apply cd_ne | apply cd_split | apply gd_dec | apply gd_eq | apply gd_ne | apply gd_split
    | ((with_reducible refine And.intro ?hw ?_); (case hw => first | omega | rfl | exact ⟨_, _, rfl⟩ | assumption | (simp only [lN, hcl, her] <;> omega)))
    | with_reducible intro _)
      all_goals first | omega | (simp_all [D.closed, D.er, D.closedL, D.erL]; done) | (simp_all [D.closed, D.er, D.closedL, D.erL] <;> omega)
    · generalize x.kids.all well = b2 at *
      repeat' (first
    | with_reducible first | apply swp_seq | apply swp_reg | apply swp_regD | apply swp_block | apply swp_exit | apply swp_ret | apply swp_skip | apply swp_cd
    | simp only [go_sem, seval, P49, q49]
    | ((with_reducible refine o_call (c1) ?he ?hc ?_); (case he | hc => first | rfl | (simp [D.erL, D.er, D.closedL, D.closed, hcl, her, D.rnL, D.rn, posF, Hp.sel, Blk.rnL, Blk.rn, Tv.rnL, idx]; done)))
    | ((with_reducible refine o_eff [1] [] (c2) ?hs ?he ?hh ?_); (case hs => exact ⟨by simp, by simp, by simp, by simp⟩); (case he => first | rfl | (simp [go_sem, seval, hcl, her, D.rnL, D.rn, posF, Hp.sel, Blk.rnL, Blk.rn, Tv.rnL, idx]; done)); (case hh => first | rfl | (simp [go_sem, seval, hcl, her, D.rnL, D.rn, posF, Hp.sel, Blk.rnL, Blk.rn, Tv.rnL, idx]; done)); rintro _ _ ⟨rfl, rfl⟩)
    | with_reducible first | apply cd_dec | apply cd_eq | apply cd_ne | apply cd_split | apply gd_dec | apply gd_eq | apply gd_ne | apply gd_split
    | ((with_reducible refine And.intro ?hw ?_); (case hw => first | omega | rfl | exact ⟨_, _, rfl⟩ | assumption | (simp only [lN, hcl, her, D.rnL, D.rn, posF, Hp.sel, Blk.rnL, Blk.rn, Tv.rnL, idx] <;> omega)))
    | with_reducible intro _)
      all_goals first | omega | (simp_all [D.closed, D.er, D.closedL, D.erL]; done) | (simp_all [D.closed, D.er, D.closedL, D.erL] <;> omega)
end Go.Proofs.Ytnooagipikedeaa
end
section
set_option maxRecDepth 100000
set_option linter.unusedSimpArgs false
set_option linter.unusedVariables false
namespace Go.Proofs.Ytnooagipikedeaa
open Go GoV Go.RowKit
abbrev cnt1 (n : Nat) : Hp := ⟨[.cells [.int .i64 n]], []⟩
abbrev cnt2 (n : Nat) : Hp := ⟨[.cells [.int .i64 n], .cells [.fn (.func 70) [] [.ptr 0 0]]], []⟩
theorem sz51 (x : X) (n : Nat) (hn : n < 1000) : Eff M 70 [x.d, .ptr 0 0] (cnt1 n) fun d hp => d = .bool (decide (n + 1 ≤ 60)) ∧ hp = cnt1 (n + 1) := by
  refine oe70 1 0 rfl rfl rfl ?_
  rw [ie70]
  unfold c70
  unfold cnt1
  rw [X.d_eq]
  repeat' (first
    | with_reducible first | apply swp_seq | apply swp_reg | apply swp_regD | apply swp_block | apply swp_exit | apply swp_ret | apply swp_skip | apply swp_cd
    | simp only [go_sem, seval, pe70, q70]
    | simp (disch := omega) only [w64, w32, wu8, wu16, wu32, wu64]
    | with_reducible first | apply cd_dec | apply cd_eq | apply cd_ne | apply cd_split
    | ((with_reducible refine And.intro ?hw ?_); (case hw => first | omega | rfl | exact ⟨_, _, rfl⟩ | assumption | (simp only [lN] <;> omega)))
    | with_reducible intro _)
  all_goals try omega
  refine ⟨_, weak_gc 1 0 (Nat.le_refl _) (Nat.le_refl _), ?_⟩
  simp [St.gc, Hp.cut, D.rnL, D.rn, cutF, Blk.rn, Blk.rnL, Tv.rnL, setL]
  omega
theorem sz53 (x : X) (n : Nat) (ih : Eff M 49 [x.d, .fn (.func 70) [] [.ptr 0 0]] (cnt1 n) fun d hp => d = .bool (decide (n + x.nodes ≤ 60)) ∧ hp = cnt1 (min (n + x.nodes) 61)) :
    Eff M 72 [x.d, .ptr 1 0] (cnt2 n) fun d hp => d = .bool (!decide (n + x.nodes ≤ 60)) ∧ hp = cnt2 (min (n + x.nodes) 61) := by
  refine oe72 2 0 rfl rfl rfl ?_
  rw [ie72]
  unfold c72
  generalize x.nodes = m at *
  rw [X.d_eq] at ih ⊢
  unfold cnt2
  unfold cnt1 at ih
  repeat' (first
    | with_reducible first | apply swp_seq | apply swp_reg | apply swp_regD | apply swp_block | apply swp_exit | apply swp_ret | apply swp_skip | apply swp_cd
    | simp only [go_sem, seval, pe72, q72]
    | ((with_reducible refine o_eff [0] [] (ih) ?hs ?he ?hh ?_); (case hs => exact ⟨by simp, by simp, by simp, by simp⟩); (case he => first | rfl | (simp [go_sem, seval, D.rnL, D.rn, posF, Hp.sel, Blk.rnL, Blk.rn, Tv.rnL, idx]; done)); (case hh => first | rfl | (simp [go_sem, seval, D.rnL, D.rn, posF, Hp.sel, Blk.rnL, Blk.rn, Tv.rnL, idx]; done)); rintro _ _ ⟨rfl, rfl⟩)
    | with_reducible first | apply cd_dec | apply cd_eq | apply cd_ne | apply cd_split
    | ((with_reducible refine And.intro ?hw ?_); (case hw => first | omega | rfl | exact ⟨_, _, rfl⟩ | assumption | (simp only [lN, D.rnL, D.rn, posF, Hp.sel, Blk.rnL, Blk.rn, Tv.rnL, idx] <;> omega)))
    | with_reducible intro _)
  refine ⟨_, weak_gc 2 0 (Nat.le_refl _) (Nat.le_refl _), ?_⟩
  simp [St.gc, Hp.cut, Hp.back, putAt, bakF, D.rnL, D.rn, cutF, Blk.rn, Blk.rnL, Tv.rnL, setL]
theorem nodesL_take : ∀ (ks : List X) (j : Nat) (h : j < ks.length), X.nodesL (ks.take (j + 1)) = X.nodesL (ks.take j) + ks[j].nodes
  | k :: ks, 0, h => by simp [X.nodesL]
  | k :: ks, j + 1, h => by
    simp only [List.take_succ_cons, X.nodesL, List.getElem_cons_succ]
    rw [nodesL_take ks j (by simpa using h)]; omega
theorem nodesL_le (ks : List X) (j : Nat) : X.nodesL (ks.take j) ≤ X.nodesL ks := by
  induction ks generalizing j with
  | nil => simp
  | cons k ks ih =>
    cases j with
    | zero => simp [X.nodesL]
    | succ j => simp only [List.take_succ_cons, X.nodesL]; have := ih j; omega
theorem szAll (ks : List X) (n : Nat) (hn : n ≤ 60) (hk : ks.length < 100) (ih : ∀ k ∈ ks, ∀ n, n ≤ 60 → Eff M 49 [k.d, .fn (.func 70) [] [.ptr 0 0]] (cnt1 n) fun d hp => d = .bool (decide (n + k.nodes ≤ 60)) ∧ hp = cnt1 (min (n + k.nodes) 61)) :
    Eff M 71 [.slice (ks.map X.d) .no, .fn (.func 72) [] [.ptr 1 0]] (cnt2 n) fun d hp => d = .bool (!decide (n + X.nodesL ks ≤ 60)) ∧ hp = cnt2 (min (n + X.nodesL ks) 61) := by
  have hl : (ks.map X.d).length = ks.length := by simp
  have e1 : ∀ j (h : j < ks.length), n + X.nodesL (ks.take j) ≤ 60 → Eff M 72 ([] ++ [(ks.map X.d)[j]'(by rw [hl]; exact h)] ++ [.ptr 1 0]) (cnt2 (min (n + X.nodesL (ks.take j)) 61)) fun d hp => d = .bool (!decide (n + X.nodesL (ks.take (j + 1)) ≤ 60)) ∧ hp = cnt2 (min (n + X.nodesL (ks.take (j + 1))) 61) := fun j h h0 => by
    have := sz53 ks[j] (n + X.nodesL (ks.take j)) (ih _ (List.getElem_mem h) _ h0)
    rw [nodesL_take ks j h, ← Nat.add_assoc, Nat.min_eq_left (show n + X.nodesL (ks.take j) ≤ 61 by omega)]
    simp only [List.getElem_map]
    exact this
  have h0 : cnt2 n = cnt2 (min (n + X.nodesL (ks.take 0)) 61) := by simp [X.nodesL, Nat.min_eq_left (show n ≤ 61 by omega)]
  rw [h0]
  rcases first_of (p := fun j => ¬ n + X.nodesL (ks.take (j + 1)) ≤ 60) (List.range ks.length) with ⟨i, h, h1, h2⟩ | h
  · simp only [List.getElem_range, List.length_range] at h h1
    have h2' : ∀ j, j < i → n + X.nodesL (ks.take (j + 1)) ≤ 60 := fun j hj => by have := h2 j hj; simp only [List.getElem_range] at this; omega
    have hle := nodesL_le ks (i + 1)
    have hi : n + X.nodesL (ks.take i) ≤ 60 := by
      cases i with
      | zero => simpa [X.nodesL] using hn
      | succ i => exact h2' i (by omega)
    have hr : (!decide (n + X.nodesL ks ≤ 60)) = true := by simp; omega
    rw [hr, show min (n + X.nodesL ks) 61 = min (n + X.nodesL (ks.take (i + 1))) 61 by omega]
    refine cf52 (ks.map X.d) (rows_X ks) (by omega) 72 [] [.ptr 1 0] (fun j => cnt2 (min (n + X.nodesL (ks.take j)) 61)) 2 0 (fun _ => rfl) (fun _ => rfl) i (by omega) (fun j hj hj' => ?_) true (i + 1) (.inr ⟨by omega, rfl, rfl, ?_⟩)
    · have := e1 j (by omega) (by
        cases j with
        | zero => simpa [X.nodesL] using hn
        | succ j => exact h2' j (by omega))
      rw [show (!decide (n + X.nodesL (ks.take (j + 1)) ≤ 60)) = false by simp [h2' j hj]] at this
      exact this
    · have := e1 i h hi
      rw [show (!decide (n + X.nodesL (ks.take (i + 1)) ≤ 60)) = true by simp; omega] at this
      exact this
  · have h2' : ∀ j, j < ks.length → n + X.nodesL (ks.take (j + 1)) ≤ 60 := fun j hj => by have := h j (by simpa using hj); simp only [List.getElem_range] at this; omega
    have hle : n + X.nodesL ks ≤ 60 := by
      rcases Nat.eq_zero_or_pos ks.length with q | q
      · have := List.eq_nil_of_length_eq_zero q
        subst this; simpa [X.nodesL] using hn
      · have := h2' (ks.length - 1) (by omega)
        rwa [List.take_of_length_le (by omega)] at this
    have hr : (!decide (n + X.nodesL ks ≤ 60)) = false := by simp; omega
    rw [hr, show min (n + X.nodesL ks) 61 = min (n + X.nodesL (ks.take ks.length)) 61 by rw [List.take_length]]
    refine cf52 (ks.map X.d) (rows_X ks) (by omega) 72 [] [.ptr 1 0] (fun j => cnt2 (min (n + X.nodesL (ks.take j)) 61)) 2 0 (fun _ => rfl) (fun _ => rfl) ks.length (by omega) (fun j hj hj' => ?_) false ks.length (.inl ⟨hl.symm, rfl, rfl⟩)
    have := e1 j hj (by
      cases j with
      | zero => simpa [X.nodesL] using hn
      | succ j => exact h2' j (by omega))
    rw [show (!decide (n + X.nodesL (ks.take (j + 1)) ≤ 60)) = false by simp [h2' j hj]] at this
    exact this
theorem sz35 : ∀ (k : Nat) (x : X), x.nodes ≤ k → x.sm → ∀ n, n ≤ 60 → Eff M 49 [x.d, .fn (.func 70) [] [.ptr 0 0]] (cnt1 n) fun d hp => d = .bool (decide (n + x.nodes ≤ 60)) ∧ hp = cnt1 (min (n + x.nodes) 61)
  | 0, x, hk, _, _, _ => by have := nodes_pos x; omega
  | k + 1, x, hk, hs, n, hn => by
    obtain ⟨s1, s2, s3, s4⟩ := X.sm_parts hs
    have c1 := sz51 x n (by omega)
    have hN := X.nodes_eq x
    refine oe49 1 0 rfl rfl rfl ?_
    rw [ie49]
    unfold c49
    unfold cnt1 at c1 ⊢
    have hcl := closedL_X x.kids
    have her := erL_X x.kids
    rw [X.d_eq] at c1 ⊢
    by_cases h : n + 1 ≤ 60
    · have c2 := szAll x.kids (n + 1) h s4 fun y hy m hm => sz35 k y (by have := kid_nodes hy; omega) (s3 y hy) m hm
      rw [show n + 1 + X.nodesL x.kids = n + x.nodes by omega] at c2
      generalize x.nodes = m at *
      rw [decide_eq_true h] at c1
      unfold cnt2 at c2
      repeat' (first
    | with_reducible first | apply swp_seq | apply swp_reg | apply swp_regD | apply swp_block | apply swp_exit | apply swp_ret | apply swp_skip | apply swp_cd
    | simp only [go_sem, seval, pe49, q49]
    | ((with_reducible refine o_eff [0] [] (c1) ?hs ?he ?hh ?_); (case hs => exact ⟨by simp, by simp, by simp, by simp⟩); (case he => first | rfl | (simp [go_sem, seval, hcl, her, D.rnL, D.rn, posF, Hp.sel, Blk.rnL, Blk.rn, Tv.rnL, idx, Hp.back, putAt, bakF]; done)); (case hh => first | rfl | (simp [go_sem, seval, hcl, her, D.rnL, D.rn, posF, Hp.sel, Blk.rnL, Blk.rn, Tv.rnL, idx, Hp.back, putAt, bakF]; done)); rintro _ _ ⟨rfl, rfl⟩)
    | ((with_reducible refine o_eff [0, 2] [] (c2) ?hs ?he ?hh ?_); (case hs => exact ⟨by simp, by simp, by simp, by simp⟩); (case he => first | rfl | (simp [go_sem, seval, hcl, her, D.rnL, D.rn, posF, Hp.sel, Blk.rnL, Blk.rn, Tv.rnL, idx, Hp.back, putAt, bakF]; done)); (case hh => first | rfl | (simp [go_sem, seval, hcl, her, D.rnL, D.rn, posF, Hp.sel, Blk.rnL, Blk.rn, Tv.rnL, idx, Hp.back, putAt, bakF]; done)); rintro _ _ ⟨rfl, rfl⟩)
    | with_reducible first | apply cd_dec | apply cd_eq | apply cd_ne | apply cd_split | apply gd_dec | apply gd_eq | apply gd_ne | apply gd_split
    | ((with_reducible refine And.intro ?hw ?_); (case hw => first | omega | rfl | exact ⟨_, _, rfl⟩ | assumption | (simp only [lN, hcl, her, D.rnL, D.rn, posF, Hp.sel, Blk.rnL, Blk.rn, Tv.rnL, idx, Hp.back, putAt, bakF] <;> omega)))
    | with_reducible intro _)
      all_goals refine ⟨_, weak_gc 1 0 (Nat.le_refl _) (Nat.le_refl _), ?_⟩
      all_goals simp [St.gc, Hp.cut, Hp.back, putAt, bakF, D.rnL, D.rn, cutF, Blk.rn, Blk.rnL, Tv.rnL, setL]
    · rw [decide_eq_false h] at c1
      repeat' (first
    | with_reducible first | apply swp_seq | apply swp_reg | apply swp_regD | apply swp_block | apply swp_exit | apply swp_ret | apply swp_skip | apply swp_cd
    | simp only [go_sem, seval, pe49, q49]
    | ((with_reducible refine o_eff [0] [] (c1) ?hs ?he ?hh ?_); (case hs => exact ⟨by simp, by simp, by simp, by simp⟩); (case he => first | rfl | (simp [go_sem, seval, hcl, her, D.rnL, D.rn, posF, Hp.sel, Blk.rnL, Blk.rn, Tv.rnL, idx]; done)); (case hh => first | rfl | (simp [go_sem, seval, hcl, her, D.rnL, D.rn, posF, Hp.sel, Blk.rnL, Blk.rn, Tv.rnL, idx]; done)); rintro _ _ ⟨rfl, rfl⟩)
    | with_reducible first | apply cd_dec | apply cd_eq | apply cd_ne | apply cd_split | apply gd_dec | apply gd_eq | apply gd_ne | apply gd_split
    | ((with_reducible refine And.intro ?hw ?_); (case hw => first | omega | rfl | exact ⟨_, _, rfl⟩ | assumption | (simp only [lN, hcl, her, D.rnL, D.rn, posF, Hp.sel, Blk.rnL, Blk.rn, Tv.rnL, idx] <;> omega)))
    | with_reducible intro _)
      all_goals refine ⟨_, weak_gc 1 0 (Nat.le_refl _) (Nat.le_refl _), ?_⟩
      all_goals simp [St.gc, Hp.cut, Hp.back, putAt, bakF, D.rnL, D.rn, cutF, Blk.rn, Blk.rnL, Tv.rnL, setL]
      all_goals omega
theorem size_p (x : X) (hs : x.sm) : Pur M 48 [x.d] (.int .i64 (min x.nodes 61 : Nat)) := by
  refine ok48 rfl ?_
  rw [i48]
  unfold c48
  have c1 := sz35 x.nodes x (Nat.le_refl _) hs 0 (by omega)
  rw [Nat.zero_add] at c1
  generalize x.nodes = m at *
  unfold cnt1 at c1
  rw [X.d_eq] at c1 ⊢
  repeat' (first
    | with_reducible first | apply swp_seq | apply swp_reg | apply swp_regD | apply swp_block | apply swp_exit | apply swp_ret | apply swp_skip | apply swp_cd
    | simp only [go_sem, seval, P48, q48]
    | ((with_reducible refine o_eff [1] [] (c1) ?hs ?he ?hh ?_); (case hs => exact ⟨by simp, by simp, by simp, by simp⟩); (case he => first | rfl | (simp [go_sem, seval, D.rnL, D.rn, posF, Hp.sel, Blk.rnL, Blk.rn, Tv.rnL, idx]; done)); (case hh => first | rfl | (simp [go_sem, seval, D.rnL, D.rn, posF, Hp.sel, Blk.rnL, Blk.rn, Tv.rnL, idx]; done)); rintro _ _ ⟨rfl, rfl⟩)
    | with_reducible first | apply cd_dec | apply cd_eq | apply cd_ne | apply cd_split
    | ((with_reducible refine And.intro ?hw ?_); (case hw => first | omega | rfl | exact ⟨_, _, rfl⟩ | assumption | (simp only [lN, D.rnL, D.rn, posF, Hp.sel, Blk.rnL, Blk.rn, Tv.rnL, idx] <;> omega)))
    | with_reducible intro _)
  all_goals first | omega | (simp_all [D.closed, D.er, D.closedL, D.erL, Hp.back, putAt, bakF, D.rnL, D.rn, Blk.rn, Blk.rnL, Tv.rnL]; done) | (simp_all [D.closed, D.er, D.closedL, D.erL, Hp.back, putAt, bakF, D.rnL, D.rn, Blk.rn, Blk.rnL, Tv.rnL] <;> omega)
end Go.Proofs.Ytnooagipikedeaa
end
section
set_option maxRecDepth 100000
set_option linter.unusedSimpArgs false
set_option linter.unusedVariables false
namespace Go.Proofs.Ytnooagipikedeaa
open Go GoV Go.RowKit
theorem nodes_p : ∀ (k : Nat) (x : X), x.nodes ≤ k → ∀ m : Nat, m ≤ 1000 → Pur M 55 [x.d, .int .i64 m] (.int .i64 (min x.nodes (m + 1) : Nat))
  | 0, x, hk, _, _ => by have := nodes_pos x; omega
  | k + 1, x, hk, m, hm => by
    have ih : ∀ y ∈ x.kids, ∀ q : Nat, q ≤ 1000 → Pur M 55 [y.d, .int .i64 q] (.int .i64 (min y.nodes (q + 1) : Nat)) := fun y hy q hq => nodes_p k y (by have := kid_nodes hy; omega) q hq
    refine ok55 rfl ?_
    rw [i55]
    unfold c55
    have hN := X.nodes_eq x
    have hlen : (x.kids.map X.d).length = x.kids.length := by simp
    have hge : ∀ i, i ≤ x.kids.length → i ≤ X.nodesL (x.kids.take i) := fun i hi => by
      have := nodesL_len (x.kids.take i)
      rw [List.length_take] at this; omega
    rw [X.d_eq]
    repeat' (first
    | with_reducible first | apply swp_seq | apply swp_reg | apply swp_regD | apply swp_block | apply swp_exit | apply swp_ret | apply swp_skip | apply swp_cd
    | simp only [go_sem, seval, P55, q55, hlen]
    | with_reducible first | apply cd_dec | apply cd_eq | apply cd_ne | apply cd_split | apply gd_dec | apply gd_eq | apply gd_ne | apply gd_split
    | ((with_reducible refine And.intro ?hw ?_); (case hw => first | omega | rfl | exact ⟨_, _, rfl⟩ | assumption | (simp only [lN] <;> omega)))
    | with_reducible intro _)
    refine swp_fam [0, 1, 2, 3, 4, 5] (fun i : Nat => ⟨[.agg x.cells, .int .i64 m, .ptr 0 0, .int .i64 0, .int .i64 (min (1 + X.nodesL (x.kids.take i)) (m + 1) : Nat), .int .i64 i, .undef], [], ⟨[.cells x.cells], []⟩⟩) (fun i => i ≤ x.kids.length ∧ i ≤ m + 1) (fun i => m + 2 - i) 0 ⟨by omega, by omega⟩ ?_ ?_
    · simp [keepE, St.keep, X.nodesL]
      try omega
    · rintro i ⟨hi, him⟩
      by_cases hil : i < x.kids.length
      · by_cases hle : 1 + X.nodesL (x.kids.take i) ≤ m
        · have hmin : min (1 + X.nodesL (x.kids.take i)) (m + 1) = 1 + X.nodesL (x.kids.take i) := by omega
          have hst := nodesL_take x.kids i hil
          have hg : (x.kids.map X.d).getD i .undef = .agg (x.kids[i]).cells := by simp [List.getD, hil, X.d_eq]
          have c1 := ih _ (List.getElem_mem hil) (m - (1 + X.nodesL (x.kids.take i))) (by omega)
          have hck := closedL_X (x.kids[i]).kids
          have hek := erL_X (x.kids[i]).kids
          have hlei := hge i hi
          rw [X.d_eq] at c1
          rw [hmin]
          generalize X.nodesL (x.kids.take i) = z at *
          generalize hz0 : X.nodesL (x.kids.take (i + 1)) = z' at *
          have hsub : ((m : Int) - ((1 + z : Nat) : Int)) = ((m - (1 + z) : Nat) : Int) := by omega
          generalize hq : m - (1 + z) = q at *
          repeat' (first
    | with_reducible first | apply swp_seq | apply swp_reg | apply swp_regD | apply swp_block | apply swp_exit | apply swp_ret | apply swp_skip | apply swp_cd
    | simp only [go_sem, seval, P55, q55, hlen, hg, hsub]
    | simp (disch := omega) only [w64, w32, wu8, wu16, wu32, wu64]
    | ((with_reducible refine o_call (c1) ?he ?hc ?_); (case he | hc => first | rfl | (simp [D.erL, D.er, D.closedL, D.closed, hlen, hg, hck, hek]; done)))
    | with_reducible first | apply cd_dec | apply cd_eq | apply cd_ne | apply cd_split | apply gd_dec | apply gd_eq | apply gd_ne | apply gd_split
    | ((with_reducible refine And.intro ?hw ?_); (case hw => first | omega | rfl | exact ⟨_, _, rfl⟩ | assumption | (simp only [lN, hlen, hg, hck, hek] <;> omega)))
    | with_reducible intro _)
          all_goals try (exfalso; omega)
          refine ⟨i + 1, ⟨by omega, by omega⟩, by omega, ?_⟩
          simp [keepE, St.keep, hz0]
          try omega
        · have hle2 := nodesL_le x.kids i
          have hmin : min (1 + X.nodesL (x.kids.take i)) (m + 1) = m + 1 := by omega
          have hres : min x.nodes (m + 1) = m + 1 := by omega
          rw [hmin, hres]
          repeat' (first
    | with_reducible first | apply swp_seq | apply swp_reg | apply swp_regD | apply swp_block | apply swp_exit | apply swp_ret | apply swp_skip | apply swp_cd
    | simp only [go_sem, seval, P55, q55, hlen]
    | simp (disch := omega) only [w64, w32, wu8, wu16, wu32, wu64]
    | with_reducible first | apply cd_dec | apply cd_eq | apply cd_ne | apply cd_split | apply gd_dec | apply gd_eq | apply gd_ne | apply gd_split
    | ((with_reducible refine And.intro ?hw ?_); (case hw => first | omega | rfl | exact ⟨_, _, rfl⟩ | assumption | (simp only [lN, hlen] <;> omega)))
    | with_reducible intro _)
          all_goals try (exfalso; omega)
          all_goals simp [D.closed, D.er]
      · have hie : i = x.kids.length := by omega
        subst hie
        rw [List.take_length, ← hN]
        by_cases hle : x.nodes ≤ m
        · have hmin : min x.nodes (m + 1) = x.nodes := by omega
          rw [hmin]
          repeat' (first
    | with_reducible first | apply swp_seq | apply swp_reg | apply swp_regD | apply swp_block | apply swp_exit | apply swp_ret | apply swp_skip | apply swp_cd
    | simp only [go_sem, seval, P55, q55, hlen]
    | simp (disch := omega) only [w64, w32, wu8, wu16, wu32, wu64]
    | with_reducible first | apply cd_dec | apply cd_eq | apply cd_ne | apply cd_split | apply gd_dec | apply gd_eq | apply gd_ne | apply gd_split
    | ((with_reducible refine And.intro ?hw ?_); (case hw => first | omega | rfl | exact ⟨_, _, rfl⟩ | assumption | (simp only [lN, hlen] <;> omega)))
    | with_reducible intro _)
          all_goals try (exfalso; omega)
          all_goals simp [D.closed, D.er]
        · have hmin : min x.nodes (m + 1) = m + 1 := by omega
          rw [hmin]
          repeat' (first
    | with_reducible first | apply swp_seq | apply swp_reg | apply swp_regD | apply swp_block | apply swp_exit | apply swp_ret | apply swp_skip | apply swp_cd
    | simp only [go_sem, seval, P55, q55, hlen]
    | simp (disch := omega) only [w64, w32, wu8, wu16, wu32, wu64]
    | with_reducible first | apply cd_dec | apply cd_eq | apply cd_ne | apply cd_split | apply gd_dec | apply gd_eq | apply gd_ne | apply gd_split
    | ((with_reducible refine And.intro ?hw ?_); (case hw => first | omega | rfl | exact ⟨_, _, rfl⟩ | assumption | (simp only [lN, hlen] <;> omega)))
    | with_reducible intro _)
          all_goals try (exfalso; omega)
          all_goals simp [D.closed, D.er]
theorem shortBL_all : ∀ ks : List X, shortBL ks = ks.all shortB
  | [] => rfl
  | k :: ks => by simp [shortBL, shortBL_all ks]
theorem shortB_eq (x : X) : shortB x = (decide (x.nam.length ≤ 300) && decide (x.val.length ≤ 300) && x.kids.all shortB) := by
  cases x; simp only [shortB, X.nam, X.val, X.kids, shortBL_all] <;> rfl
theorem short_p : ∀ (k : Nat) (x : X), x.nodes ≤ k → k ≤ 1000 → Pur M 57 [x.d] (.bool (shortB x))
  | 0, x, hk, _ => by have := nodes_pos x; omega
  | k + 1, x, hk, hk2 => by
    have ih : ∀ y ∈ x.kids, Pur M 57 [y.d] (.bool (shortB y)) := fun y hy => short_p k y (by have := kid_nodes hy; omega) (by omega)
    have hkl := kids_len x
    refine ok57 rfl ?_
    rw [i57]
    unfold c57
    have hlen : (x.kids.map X.d).length = x.kids.length := by simp
    rw [X.d_eq, shortB_eq]
    by_cases h1 : x.nam.length ≤ 300
    · by_cases h2 : x.val.length ≤ 300
      · rw [decide_eq_true h1, decide_eq_true h2, Bool.true_and, Bool.true_and]
        repeat' (first
    | with_reducible first | apply swp_seq | apply swp_reg | apply swp_regD | apply swp_block | apply swp_exit | apply swp_ret | apply swp_skip | apply swp_cd
    | simp only [go_sem, seval, P57, q57, hlen]
    | simp (disch := omega) only [w64, w32, wu8, wu16, wu32, wu64]
    | with_reducible first | apply cd_dec | apply cd_eq | apply cd_ne | apply cd_split | apply gd_dec | apply gd_eq | apply gd_ne | apply gd_split
    | ((with_reducible refine And.intro ?hw ?_); (case hw => first | omega | rfl | exact ⟨_, _, rfl⟩ | assumption | (simp only [lN] <;> omega)))
    | with_reducible intro _)
        all_goals try (exfalso; omega)
        refine swp_fam [0, 1, 2, 3] (fun i : Nat => ⟨[.agg x.cells, .ptr 0 0, .bool false, .int .i64 i, .undef, .undef, .undef], [], ⟨[.cells x.cells], []⟩⟩) (fun i => i ≤ x.kids.length ∧ ∀ j (h : j < i) (h' : j < x.kids.length), shortB x.kids[j] = true) (fun i => x.kids.length - i) 0 ⟨by omega, fun j h => by omega⟩ ?_ ?_
        · simp [keepE, St.keep]
        · rintro i ⟨hi, hb⟩
          by_cases hil : i < x.kids.length
          · have hg : (x.kids.map X.d).getD i .undef = .agg (x.kids[i]).cells := by simp [List.getD, hil, X.d_eq]
            have c1 := ih _ (List.getElem_mem hil)
            have hck := closedL_X (x.kids[i]).kids
            have hek := erL_X (x.kids[i]).kids
            rw [X.d_eq] at c1
            cases hs : shortB x.kids[i]
            · rw [hs] at c1
              have hf : x.kids.all shortB = false := by rw [List.all_eq_false]; exact ⟨x.kids[i], List.getElem_mem hil, by simp [hs]⟩
              rw [hf]
              repeat' (first
    | with_reducible first | apply swp_seq | apply swp_reg | apply swp_regD | apply swp_block | apply swp_exit | apply swp_ret | apply swp_skip | apply swp_cd
    | simp only [go_sem, seval, P57, q57, hlen, hg]
    | simp (disch := omega) only [w64, w32, wu8, wu16, wu32, wu64]
    | ((with_reducible refine o_call (c1) ?he ?hc ?_); (case he | hc => first | rfl | (simp [D.erL, D.er, D.closedL, D.closed, hlen, hg, hck, hek]; done)))
    | with_reducible first | apply cd_dec | apply cd_eq | apply cd_ne | apply cd_split | apply gd_dec | apply gd_eq | apply gd_ne | apply gd_split
    | ((with_reducible refine And.intro ?hw ?_); (case hw => first | omega | rfl | exact ⟨_, _, rfl⟩ | assumption | (simp only [lN, hlen, hg, hck, hek] <;> omega)))
    | with_reducible intro _)
              all_goals try (exfalso; omega)
              all_goals simp [D.closed, D.er]
            · rw [hs] at c1
              repeat' (first
    | with_reducible first | apply swp_seq | apply swp_reg | apply swp_regD | apply swp_block | apply swp_exit | apply swp_ret | apply swp_skip | apply swp_cd
    | simp only [go_sem, seval, P57, q57, hlen, hg]
    | simp (disch := omega) only [w64, w32, wu8, wu16, wu32, wu64]
    | ((with_reducible refine o_call (c1) ?he ?hc ?_); (case he | hc => first | rfl | (simp [D.erL, D.er, D.closedL, D.closed, hlen, hg, hck, hek]; done)))
    | with_reducible first | apply cd_dec | apply cd_eq | apply cd_ne | apply cd_split | apply gd_dec | apply gd_eq | apply gd_ne | apply gd_split
    | ((with_reducible refine And.intro ?hw ?_); (case hw => first | omega | rfl | exact ⟨_, _, rfl⟩ | assumption | (simp only [lN, hlen, hg, hck, hek] <;> omega)))
    | with_reducible intro _)
              all_goals try (exfalso; omega)
              refine ⟨i + 1, ⟨by omega, fun j h h' => ?_⟩, by omega, ?_⟩
              · by_cases e : j = i
                · subst e; exact hs
                · exact hb j (by omega) h'
              · simp [keepE, St.keep]
          · have ht : x.kids.all shortB = true := by
              rw [List.all_eq_true]
              intro y hy
              obtain ⟨j, hj, rfl⟩ := List.getElem_of_mem hy
              exact hb j (by omega) hj
            rw [ht]
            repeat' (first
    | with_reducible first | apply swp_seq | apply swp_reg | apply swp_regD | apply swp_block | apply swp_exit | apply swp_ret | apply swp_skip | apply swp_cd
    | simp only [go_sem, seval, P57, q57, hlen]
    | simp (disch := omega) only [w64, w32, wu8, wu16, wu32, wu64]
    | with_reducible first | apply cd_dec | apply cd_eq | apply cd_ne | apply cd_split | apply gd_dec | apply gd_eq | apply gd_ne | apply gd_split
    | ((with_reducible refine And.intro ?hw ?_); (case hw => first | omega | rfl | exact ⟨_, _, rfl⟩ | assumption | (simp only [lN, hlen] <;> omega)))
    | with_reducible intro _)
            all_goals try (exfalso; omega)
            all_goals simp [D.closed, D.er]
      · rw [decide_eq_false h2, Bool.and_false, Bool.false_and]
        repeat' (first
    | with_reducible first | apply swp_seq | apply swp_reg | apply swp_regD | apply swp_block | apply swp_exit | apply swp_ret | apply swp_skip | apply swp_cd
    | simp only [go_sem, seval, P57, q57, hlen]
    | simp (disch := omega) only [w64, w32, wu8, wu16, wu32, wu64]
    | with_reducible first | apply cd_dec | apply cd_eq | apply cd_ne | apply cd_split | apply gd_dec | apply gd_eq | apply gd_ne | apply gd_split
    | ((with_reducible refine And.intro ?hw ?_); (case hw => first | omega | rfl | exact ⟨_, _, rfl⟩ | assumption | (simp only [lN] <;> omega)))
    | with_reducible intro _)
        all_goals try (exfalso; omega)
        all_goals simp [D.closed, D.er]
    · rw [decide_eq_false h1, Bool.false_and, Bool.false_and]
      repeat' (first
    | with_reducible first | apply swp_seq | apply swp_reg | apply swp_regD | apply swp_block | apply swp_exit | apply swp_ret | apply swp_skip | apply swp_cd
    | simp only [go_sem, seval, P57, q57, hlen]
    | simp (disch := omega) only [w64, w32, wu8, wu16, wu32, wu64]
    | with_reducible first | apply cd_dec | apply cd_eq | apply cd_ne | apply cd_split | apply gd_dec | apply gd_eq | apply gd_ne | apply gd_split
    | ((with_reducible refine And.intro ?hw ?_); (case hw => first | omega | rfl | exact ⟨_, _, rfl⟩ | assumption | (simp only [lN] <;> omega)))
    | with_reducible intro _)
      all_goals try (exfalso; omega)
      all_goals simp [D.closed, D.er]
theorem fewc_p (x : X) : Pur M 43 [x.d] (.bool (decide (x.nodes ≤ 80) && shortB x)) := by
  refine ok43 rfl ?_
  rw [i43]
  unfold c43
  have c1 := nodes_p x.nodes x (Nat.le_refl _) 80 (by omega)
  have hck := closedL_X x.kids
  have hek := erL_X x.kids
  by_cases h : x.nodes ≤ 80
  · have c2 := short_p x.nodes x (Nat.le_refl _) (by omega)
    rw [decide_eq_true h, Bool.true_and]
    rw [X.d_eq] at c1 c2 ⊢
    rw [show min x.nodes (80 + 1) = x.nodes by omega] at c1
    generalize x.nodes = q at *
    have hd : decide ((q : Int) ≤ 80) = true := decide_eq_true (by omega)
    repeat' (first
    | with_reducible first | apply swp_seq | apply swp_reg | apply swp_regD | apply swp_block | apply swp_exit | apply swp_ret | apply swp_skip | apply swp_cd
    | simp only [go_sem, seval, P43, q43, hd]
    | ((with_reducible refine o_call (c1) ?he ?hc ?_); (case he | hc => first | rfl | (simp [D.erL, D.er, D.closedL, D.closed, hck, hek]; done)))
    | ((with_reducible refine o_call (c2) ?he ?hc ?_); (case he | hc => first | rfl | (simp [D.erL, D.er, D.closedL, D.closed, hck, hek]; done)))
    | with_reducible first | apply cd_dec | apply cd_eq | apply cd_ne | apply cd_split | apply gd_dec | apply gd_eq | apply gd_ne | apply gd_split
    | ((with_reducible refine And.intro ?hw ?_); (case hw => first | omega | rfl | exact ⟨_, _, rfl⟩ | assumption | (simp only [lN, hck, hek] <;> omega)))
    | with_reducible intro _)
    all_goals first | omega | (simp_all [D.closed, D.er, D.closedL, D.erL]; done) | (simp_all [D.closed, D.er, D.closedL, D.erL] <;> omega)
  · rw [decide_eq_false h, Bool.false_and]
    rw [X.d_eq] at c1 ⊢
    rw [show min x.nodes (80 + 1) = 81 by omega] at c1
    repeat' (first
    | with_reducible first | apply swp_seq | apply swp_reg | apply swp_regD | apply swp_block | apply swp_exit | apply swp_ret | apply swp_skip | apply swp_cd
    | simp only [go_sem, seval, P43, q43]
    | ((with_reducible refine o_call (c1) ?he ?hc ?_); (case he | hc => first | rfl | (simp [D.erL, D.er, D.closedL, D.closed, hck, hek]; done)))
    | with_reducible first | apply cd_dec | apply cd_eq | apply cd_ne | apply cd_split | apply gd_dec | apply gd_eq | apply gd_ne | apply gd_split
    | ((with_reducible refine And.intro ?hw ?_); (case hw => first | omega | rfl | exact ⟨_, _, rfl⟩ | assumption | (simp only [lN, hck, hek] <;> omega)))
    | with_reducible intro _)
    all_goals first | omega | (simp_all [D.closed, D.er, D.closedL, D.erL]; done) | (simp_all [D.closed, D.er, D.closedL, D.erL] <;> omega)
end Go.Proofs.Ytnooagipikedeaa
end
section
set_option maxRecDepth 100000
set_option linter.unusedSimpArgs false
set_option linter.unusedVariables false
namespace Go.Proofs.Ytnooagipikedeaa
open Go GoV Go.RowKit
@[reducible] def Rl.cells (r : Rl) : List D := [.str r.name, .str r.kind, .int .i64 r.cond.op, .str r.cond.nam, .str r.cond.val, .int .i64 r.cond.num, .int .i64 r.cond.ext, .slice (r.cond.kids.map X.d) .no]
def rlD (r : Rl) : D := .agg r.cells
@[reducible] def Am.cells (a : Am) : List D := [.int .i64 a.clock, .int .i64 a.frm, .int .i64 a.to, .bool a.void, .str a.rule.name, .str a.rule.kind, .int .i64 a.rule.cond.op, .str a.rule.cond.nam, .str a.rule.cond.val, .int .i64 a.rule.cond.num, .int .i64 a.rule.cond.ext, .slice (a.rule.cond.kids.map X.d) .no]
def amD (a : Am) : D := .agg a.cells
abbrev rulesD (l : List Rl) : D := .slice (l.map rlD) .no
abbrev amsD (l : List Am) : D := .slice (l.map amD) .no
theorem er_R (r : Rl) : (rlD r).er = rlD r := by simp [rlD, D.er, D.erL]
theorem cl_R (r : Rl) : D.closed (rlD r) = true := by simp [rlD, D.closed, D.closedL]
theorem er_A (r : Am) : (amD r).er = amD r := by simp [amD, D.er, D.erL]
theorem cl_A (r : Am) : D.closed (amD r) = true := by simp [amD, D.closed, D.closedL]
theorem erL_R : ∀ l : List Rl, D.erL (l.map rlD) = l.map rlD
  | [] => rfl
  | k :: ks => by simp [D.erL, er_R k, erL_R ks]
theorem closedL_R : ∀ l : List Rl, D.closedL (l.map rlD) = true
  | [] => rfl
  | k :: ks => by simp [D.closedL, cl_R k, closedL_R ks]
theorem erL_A : ∀ l : List Am, D.erL (l.map amD) = l.map amD
  | [] => rfl
  | k :: ks => by simp [D.erL, er_A k, erL_A ks]
theorem closedL_A : ∀ l : List Am, D.closedL (l.map amD) = true
  | [] => rfl
  | k :: ks => by simp [D.closedL, cl_A k, closedL_A ks]
theorem A_isVal (r : Am) : (amD r).isVal = true ∧ (amD r).cells.length = 12 := ⟨rfl, rfl⟩
def Rl.sm (r : Rl) : Prop := r.name.length ≤ 9223372036854775807 ∧ r.kind.length ≤ 9223372036854775807 ∧ r.cond.sm
def Am.sm (a : Am) : Prop := a.rule.sm
theorem rvalid_p (r : Rl) (hs : r.sm) : Pur M 37 [rlD r] (.bool (ruleOk r)) := by
  refine ok37 rfl ?_
  rw [i37]
  unfold c37
  have c1 := name_p r.name hs.1
  have c2 := name_p r.kind hs.2.1
  have c3 := size_p r.cond hs.2.2
  have c4 := good_p r.cond.nodes r.cond (Nat.le_refl _) hs.2.2
  have hcl := closedL_X r.cond.kids
  have her := erL_X r.cond.kids
  unfold ruleOk validF rlD Rl.cells
  rw [X.d_eq] at c3 c4
  generalize well r.cond = b at *
  generalize nameOk r.name = b1 at *
  generalize nameOk r.kind = b2 at *
  have hm : ((min r.cond.nodes 61 : Nat) : Int) ≤ 60 ↔ r.cond.nodes ≤ 60 := by omega
  generalize min r.cond.nodes 61 = q at *
  generalize r.cond.nodes = m at *
  repeat' (first
    | with_reducible first | apply swp_seq | apply swp_reg | apply swp_regD | apply swp_block | apply swp_exit | apply swp_ret | apply swp_skip | apply swp_cd
    | simp only [go_sem, seval, P37, q37]
    | ((with_reducible refine o_call (c1) ?he ?hc ?_); (case he | hc => first | rfl | (simp [D.erL, D.er, D.closedL, D.closed, hcl, her]; done)))
    | ((with_reducible refine o_call (c2) ?he ?hc ?_); (case he | hc => first | rfl | (simp [D.erL, D.er, D.closedL, D.closed, hcl, her]; done)))
    | ((with_reducible refine o_call (c3) ?he ?hc ?_); (case he | hc => first | rfl | (simp [D.erL, D.er, D.closedL, D.closed, hcl, her]; done)))
    | ((with_reducible refine o_call (c4) ?he ?hc ?_); (case he | hc => first | rfl | (simp [D.erL, D.er, D.closedL, D.closed, hcl, her]; done)))
    | with_reducible first | apply cd_dec | apply cd_eq | apply cd_ne | apply cd_split | apply gd_dec | apply gd_eq | apply gd_ne | apply gd_split
    | ((with_reducible refine And.intro ?hw ?_); (case hw => first | omega | rfl | exact ⟨_, _, rfl⟩ | assumption | (simp only [lN, hcl, her] <;> omega)))
    | with_reducible intro _)
  all_goals first | omega | (simp_all [D.closed, D.er, D.closedL, D.erL, hm]; done) | (simp_all [D.closed, D.er, D.closedL, D.erL, hm] <;> omega)
theorem valid_p (a : Am) (hs : a.sm) : Pur M 28 [amD a] (.bool (amOk a)) := by
  refine ok28 rfl ?_
  rw [i28]
  unfold c28
  have c1 := rvalid_p a.rule hs
  have hcl := closedL_X a.rule.cond.kids
  have her := erL_X a.rule.cond.kids
  unfold rlD Rl.cells at c1
  unfold amOk amD Am.cells
  generalize ruleOk a.rule = b at *
  repeat' (first
    | with_reducible first | apply swp_seq | apply swp_reg | apply swp_regD | apply swp_block | apply swp_exit | apply swp_ret | apply swp_skip | apply swp_cd
    | simp only [go_sem, seval, P28, q28]
    | ((with_reducible refine o_call (c1) ?he ?hc ?_); (case he | hc => first | rfl | (simp [D.erL, D.er, D.closedL, D.closed, hcl, her]; done)))
    | with_reducible first | apply cd_dec | apply cd_eq | apply cd_ne | apply cd_split | apply gd_dec | apply gd_eq | apply gd_ne | apply gd_split
    | ((with_reducible refine And.intro ?hw ?_); (case hw => first | omega | rfl | exact ⟨_, _, rfl⟩ | assumption | (simp only [lN, hcl, her] <;> omega)))
    | with_reducible intro _)
  all_goals first | omega | (simp_all [D.closed, D.er, D.closedL, D.erL]; done) | (simp_all [D.closed, D.er, D.closedL, D.erL] <;> omega)
end Go.Proofs.Ytnooagipikedeaa
end
section
set_option maxRecDepth 100000
set_option linter.unusedSimpArgs false
set_option linter.unusedVariables false
namespace Go.Proofs.Ytnooagipikedeaa
open Go GoV Go.RowKit
theorem take_all {α : Type} {s : List α} {i : Nat} (h : ¬ i < s.length) : s.take i = s := List.take_of_length_le (by omega)
theorem amsD_get {s : List Am} {i : Nat} (h : i < s.length) : (s.map amD).getD i .undef = .agg (s[i]).cells := by simp [List.getD, h, amD]
set_option maxHeartbeats 2000000 in
theorem deciding_e (l : List Am) (hl : l.length < 1000000) (hs : ∀ a ∈ l, a.sm) (day clock : Int) :
    Eff M 22 [amsD l, .int .i64 day, .int .i64 clock] ⟨[], []⟩ fun d hp => d = .mp 0 ∧ hp = ⟨[.map (decE day clock l) (decE day clock l).length], []⟩ := by
  refine oe22 0 0 rfl rfl rfl ?_
  rw [ie22]
  unfold c22
  have hlen : (l.map amD).length = l.length := by simp
  repeat' (first
    | with_reducible first | apply swp_seq | apply swp_reg | apply swp_regD | apply swp_block | apply swp_exit | apply swp_ret | apply swp_skip | apply swp_cd
    | simp only [go_sem, seval, pe22, q22, o_newM]
    | ((with_reducible apply s_mpu); (case h1 | hk => rfl); (case ha | hp => first | rfl | assumption | omega | ((first | refine ⟨?_, ?_⟩ | skip) <;> first | omega | (simp only [lN] <;> omega)) | (simp [elemsK, D.isVal, D.cells, D.closedL, D.closed]; first | done | omega)))
    | ((with_reducible apply s_lkpS); (case h1 | hk => rfl); (case ha | hf => first | rfl | assumption | omega | ((first | refine ⟨?_, ?_⟩ | skip) <;> first | omega | (simp only [lN] <;> omega)) | (simp [elemsK, D.isVal, D.cells, D.closedL, D.closed]; first | done | omega)))
    | ((with_reducible apply s_lkpN); (case h1 | hk => rfl); (case hf | ha => first | rfl | assumption | omega | ((first | refine ⟨?_, ?_⟩ | skip) <;> first | omega | (simp only [lN] <;> omega)) | (simp [elemsK, D.isVal, D.cells, D.closedL, D.closed]; first | done | omega)))
    | with_reducible first | apply cd_dec | apply cd_eq | apply cd_ne | apply cd_split | apply gd_dec | apply gd_eq | apply gd_ne | apply gd_split | apply gq_dec | apply gq_eq | apply gq_ne | apply gq_split
    | ((with_reducible refine And.intro ?hw ?_); (case hw => first | omega | rfl | exact ⟨_, _, rfl⟩ | assumption | (simp only [lN] <;> omega)))
    | with_reducible intro _)
  refine swp_famG (C := E22 0 0) [0, 1, 2, 4, 9, 10, 11] 1 0 (Nat.zero_le 1) (Nat.le_refl 0) (fun i : Nat => ⟨[amsD l, .int .i64 day, .int .i64 clock, .undef, .mp 0, .undef, .undef, .undef, .undef, amsD l, .int .i64 l.length, .int .i64 i, .undef, .undef, .undef], [],
    ⟨[.map (decE day clock (l.take i)) (decE day clock (l.take i)).length], []⟩⟩) (fun i => i ≤ l.length) (fun i => l.length + 1 - i) 0 (by omega) ?_ ?_
  · simp [keepE, St.keepG, St.keep, St.gc, Hp.cut, D.rnL, D.rn, cutF, Blk.rn, Blk.rnL, Tv.rnL, Own.rn, pairs]
    exact ⟨rfl, rfl⟩
  · intro i hi
    by_cases hil : i < l.length
    · have hg : (l.map amD).getD i .undef = .agg (l[i]).cells := amsD_get hil
      have hst : l.take (i + 1) = l.take i ++ [l[i]] := by rw [List.take_succ_eq_append_getElem hil]
      have hti : (l.take i).length = i := by simp; omega
      have hok := dec_ok day clock (l.take i)
      have hE := fun β τ => dec_rn day clock (l.take i) β τ
      have hE' := fun β τ => dec_rn day clock (l.take (i + 1)) β τ
      have cv := valid_p (l[i]) (hs _ (List.getElem_mem hil))
      have hcl := closedL_X (l[i]).rule.cond.kids
      have her := erL_X (l[i]).rule.cond.kids
      unfold amD at cv
      rw [hst] at hE'
      have hst' := congrArg (decE day clock) hst
      by_cases hsp : spk day clock l[i] = true
      · have hv : amOk l[i] = true ∧ l[i].clock ≤ clock ∧ l[i].frm ≤ day ∧ day ≤ l[i].to := by
          simp only [spk, Bool.and_eq_true, decide_eq_true_eq] at hsp
          exact ⟨hsp.1.1.1, hsp.1.1.2, hsp.1.2, hsp.2⟩
        obtain ⟨hv0, hv1, hv2, hv3⟩ := hv
        have t1 : decide (l[i].clock > clock) = false := by simp; omega
        have t2 : decide (day < l[i].frm) = false := by simp; omega
        have t3 : decide (day > l[i].to) = false := by simp; omega
        rw [hv0] at cv
        by_cases hn : l[i].rule.name ∈ names1 day clock (l.take i)
        · obtain ⟨j, k, b, h1, h2, hk, h3⟩ := dec_some hn
          have hk' : k < l.length := by rw [hti] at hk; omega
          have hgk : (l.map amD).getD k .undef = .agg b.cells := by
            rw [amsD_get hk', ← h3]; simp
          by_cases hc : b.clock ≤ l[i].clock
          · have hput := dec_put (l := l.take i) (a := l[i]) hsp (fun p hp => by rw [h2] at hp; cases hp; exact hc)
            rw [hti] at hput
            have t4 : decide (b.clock ≤ l[i].clock) = true := by simpa using hc
            generalize decE day clock (l.take i ++ [l[i]]) = E' at *
            generalize decE day clock (l.take i) = E at *
            repeat' (first
    | with_reducible first | apply swp_seq | apply swp_reg | apply swp_regD | apply swp_block | apply swp_exit | apply swp_ret | apply swp_skip | apply swp_cd
    | simp only [go_sem, seval, pe22, q22, hlen, hg, hgk, t1, t2, t3, t4, o_newM]
    | simp (disch := omega) only [w64, w32, wu8, wu16, wu32, wu64]
    | ((with_reducible refine o_call (cv) ?he ?hc ?_); (case he | hc => first | rfl | (simp [D.erL, D.er, D.closedL, D.closed, hlen, hg, hok, h1, hput, hcl, her, hgk]; done)))
    | ((with_reducible apply s_mpu); (case h1 | hk => rfl); (case ha | hp => first | rfl | assumption | omega | ((first | refine ⟨?_, ?_⟩ | skip) <;> first | omega | (simp only [lN, hlen, hg, hok, h1, hput, hcl, her, hgk] <;> omega)) | (simp [elemsK, D.isVal, D.cells, D.closedL, D.closed, hlen, hg, hok, h1, hput, hcl, her, hgk]; first | done | omega)))
    | ((with_reducible apply s_lkpS); (case h1 | hk => rfl); (case ha | hf => first | rfl | assumption | omega | ((first | refine ⟨?_, ?_⟩ | skip) <;> first | omega | (simp only [lN, hlen, hg, hok, h1, hput, hcl, her, hgk] <;> omega)) | (simp [elemsK, D.isVal, D.cells, D.closedL, D.closed, hlen, hg, hok, h1, hput, hcl, her, hgk]; first | done | omega)))
    | ((with_reducible apply s_lkpN); (case h1 | hk => rfl); (case hf | ha => first | rfl | assumption | omega | ((first | refine ⟨?_, ?_⟩ | skip) <;> first | omega | (simp only [lN, hlen, hg, hok, h1, hput, hcl, her, hgk] <;> omega)) | (simp [elemsK, D.isVal, D.cells, D.closedL, D.closed, hlen, hg, hok, h1, hput, hcl, her, hgk]; first | done | omega)))
    | with_reducible first | apply cd_dec | apply cd_eq | apply cd_ne | apply cd_split | apply gd_dec | apply gd_eq | apply gd_ne | apply gd_split | apply gq_dec | apply gq_eq | apply gq_ne | apply gq_split
    | ((with_reducible refine And.intro ?hw ?_); (case hw => first | omega | rfl | exact ⟨_, _, rfl⟩ | assumption | (simp only [lN, hlen, hg, hok, h1, hput, hcl, her, hgk] <;> omega)))
    | with_reducible intro _)
            all_goals try omega
            all_goals try (refine ⟨i + 1, by omega, by omega, ?_⟩; simp [keepE, St.keepG, St.keep, St.gc, Hp.cut, D.rnL, D.rn, cutF, Blk.rn, Blk.rnL, Tv.rnL, Own.rn, pairs, hE, hE', hput, hst'])
          · have hkeep := dec_keep (l := l.take i) (a := l[i]) hn h2 hc
            have t4 : decide (b.clock ≤ l[i].clock) = false := by simpa using hc
            rw [hkeep] at hE' hst'
            generalize decE day clock (l.take i) = E at *
            repeat' (first
    | with_reducible first | apply swp_seq | apply swp_reg | apply swp_regD | apply swp_block | apply swp_exit | apply swp_ret | apply swp_skip | apply swp_cd
    | simp only [go_sem, seval, pe22, q22, hlen, hg, hgk, t1, t2, t3, t4, o_newM]
    | simp (disch := omega) only [w64, w32, wu8, wu16, wu32, wu64]
    | ((with_reducible refine o_call (cv) ?he ?hc ?_); (case he | hc => first | rfl | (simp [D.erL, D.er, D.closedL, D.closed, hlen, hg, hok, h1, hcl, her, hgk]; done)))
    | ((with_reducible apply s_mpu); (case h1 | hk => rfl); (case ha | hp => first | rfl | assumption | omega | ((first | refine ⟨?_, ?_⟩ | skip) <;> first | omega | (simp only [lN, hlen, hg, hok, h1, hcl, her, hgk] <;> omega)) | (simp [elemsK, D.isVal, D.cells, D.closedL, D.closed, hlen, hg, hok, h1, hcl, her, hgk]; first | done | omega)))
    | ((with_reducible apply s_lkpS); (case h1 | hk => rfl); (case ha | hf => first | rfl | assumption | omega | ((first | refine ⟨?_, ?_⟩ | skip) <;> first | omega | (simp only [lN, hlen, hg, hok, h1, hcl, her, hgk] <;> omega)) | (simp [elemsK, D.isVal, D.cells, D.closedL, D.closed, hlen, hg, hok, h1, hcl, her, hgk]; first | done | omega)))
    | ((with_reducible apply s_lkpN); (case h1 | hk => rfl); (case hf | ha => first | rfl | assumption | omega | ((first | refine ⟨?_, ?_⟩ | skip) <;> first | omega | (simp only [lN, hlen, hg, hok, h1, hcl, her, hgk] <;> omega)) | (simp [elemsK, D.isVal, D.cells, D.closedL, D.closed, hlen, hg, hok, h1, hcl, her, hgk]; first | done | omega)))
    | with_reducible first | apply cd_dec | apply cd_eq | apply cd_ne | apply cd_split | apply gd_dec | apply gd_eq | apply gd_ne | apply gd_split | apply gq_dec | apply gq_eq | apply gq_ne | apply gq_split
    | ((with_reducible refine And.intro ?hw ?_); (case hw => first | omega | rfl | exact ⟨_, _, rfl⟩ | assumption | (simp only [lN, hlen, hg, hok, h1, hcl, her, hgk] <;> omega)))
    | with_reducible intro _)
            all_goals try omega
            all_goals try (refine ⟨i + 1, by omega, by omega, ?_⟩; simp [keepE, St.keepG, St.keep, St.gc, Hp.cut, D.rnL, D.rn, cutF, Blk.rn, Blk.rnL, Tv.rnL, Own.rn, pairs, hE, hE', hst'])
        · have h1 := dec_none hn
          have hput := dec_put (l := l.take i) (a := l[i]) hsp (fun p hp => by
            obtain ⟨q1, q2, q3⟩ := bestI_some hp
            exact absurd (names1_mem.2 ⟨p.2, q3 ▸ List.getElem_mem q2, q1⟩) hn)
          rw [hti] at hput
          generalize decE day clock (l.take i ++ [l[i]]) = E' at *
          generalize decE day clock (l.take i) = E at *
          repeat' (first
    | with_reducible first | apply swp_seq | apply swp_reg | apply swp_regD | apply swp_block | apply swp_exit | apply swp_ret | apply swp_skip | apply swp_cd
    | simp only [go_sem, seval, pe22, q22, hlen, hg, t1, t2, t3, o_newM]
    | simp (disch := omega) only [w64, w32, wu8, wu16, wu32, wu64]
    | ((with_reducible refine o_call (cv) ?he ?hc ?_); (case he | hc => first | rfl | (simp [D.erL, D.er, D.closedL, D.closed, hlen, hg, hok, h1, hput, hcl, her]; done)))
    | ((with_reducible apply s_mpu); (case h1 | hk => rfl); (case ha | hp => first | rfl | assumption | omega | ((first | refine ⟨?_, ?_⟩ | skip) <;> first | omega | (simp only [lN, hlen, hg, hok, h1, hput, hcl, her] <;> omega)) | (simp [elemsK, D.isVal, D.cells, D.closedL, D.closed, hlen, hg, hok, h1, hput, hcl, her]; first | done | omega)))
    | ((with_reducible apply s_lkpS); (case h1 | hk => rfl); (case ha | hf => first | rfl | assumption | omega | ((first | refine ⟨?_, ?_⟩ | skip) <;> first | omega | (simp only [lN, hlen, hg, hok, h1, hput, hcl, her] <;> omega)) | (simp [elemsK, D.isVal, D.cells, D.closedL, D.closed, hlen, hg, hok, h1, hput, hcl, her]; first | done | omega)))
    | ((with_reducible apply s_lkpN); (case h1 | hk => rfl); (case hf | ha => first | rfl | assumption | omega | ((first | refine ⟨?_, ?_⟩ | skip) <;> first | omega | (simp only [lN, hlen, hg, hok, h1, hput, hcl, her] <;> omega)) | (simp [elemsK, D.isVal, D.cells, D.closedL, D.closed, hlen, hg, hok, h1, hput, hcl, her]; first | done | omega)))
    | with_reducible first | apply cd_dec | apply cd_eq | apply cd_ne | apply cd_split | apply gd_dec | apply gd_eq | apply gd_ne | apply gd_split | apply gq_dec | apply gq_eq | apply gq_ne | apply gq_split
    | ((with_reducible refine And.intro ?hw ?_); (case hw => first | omega | rfl | exact ⟨_, _, rfl⟩ | assumption | (simp only [lN, hlen, hg, hok, h1, hput, hcl, her] <;> omega)))
    | with_reducible intro _)
          all_goals try omega
          all_goals try (refine ⟨i + 1, by omega, by omega, ?_⟩; simp [keepE, St.keepG, St.keep, St.gc, Hp.cut, D.rnL, D.rn, cutF, Blk.rn, Blk.rnL, Tv.rnL, Own.rn, pairs, hE, hE', hput, hst'])
      · rw [Bool.not_eq_true] at hsp
        have hkeep := dec_skip (l := l.take i) hsp
        rw [hkeep] at hE' hst'
        generalize decE day clock (l.take i) = E at *
        have hv : amOk l[i] = true → ¬ l[i].clock > clock → ¬ day < l[i].frm → ¬ day > l[i].to → False := fun h1 h2 h3 h4 => by
          have : spk day clock l[i] = true := by
            simp only [spk, h1, Bool.true_and, Bool.and_eq_true, decide_eq_true_eq]; omega
          rw [hsp] at this; cases this
        have fin : ∀ {Q : Prop}, Q → Q := fun h => h
        cases hb : amOk l[i]
        · rw [hb] at cv
          repeat' (first
    | with_reducible first | apply swp_seq | apply swp_reg | apply swp_regD | apply swp_block | apply swp_exit | apply swp_ret | apply swp_skip | apply swp_cd
    | simp only [go_sem, seval, pe22, q22, hlen, hg, o_newM]
    | simp (disch := omega) only [w64, w32, wu8, wu16, wu32, wu64]
    | ((with_reducible refine o_call (cv) ?he ?hc ?_); (case he | hc => first | rfl | (simp [D.erL, D.er, D.closedL, D.closed, hlen, hg, hcl, her]; done)))
    | ((with_reducible apply s_mpu); (case h1 | hk => rfl); (case ha | hp => first | rfl | assumption | omega | ((first | refine ⟨?_, ?_⟩ | skip) <;> first | omega | (simp only [lN, hlen, hg, hcl, her] <;> omega)) | (simp [elemsK, D.isVal, D.cells, D.closedL, D.closed, hlen, hg, hcl, her]; first | done | omega)))
    | ((with_reducible apply s_lkpS); (case h1 | hk => rfl); (case ha | hf => first | rfl | assumption | omega | ((first | refine ⟨?_, ?_⟩ | skip) <;> first | omega | (simp only [lN, hlen, hg, hcl, her] <;> omega)) | (simp [elemsK, D.isVal, D.cells, D.closedL, D.closed, hlen, hg, hcl, her]; first | done | omega)))
    | ((with_reducible apply s_lkpN); (case h1 | hk => rfl); (case hf | ha => first | rfl | assumption | omega | ((first | refine ⟨?_, ?_⟩ | skip) <;> first | omega | (simp only [lN, hlen, hg, hcl, her] <;> omega)) | (simp [elemsK, D.isVal, D.cells, D.closedL, D.closed, hlen, hg, hcl, her]; first | done | omega)))
    | with_reducible first | apply cd_dec | apply cd_eq | apply cd_ne | apply cd_split | apply gd_dec | apply gd_eq | apply gd_ne | apply gd_split | apply gq_dec | apply gq_eq | apply gq_ne | apply gq_split
    | ((with_reducible refine And.intro ?hw ?_); (case hw => first | omega | rfl | exact ⟨_, _, rfl⟩ | assumption | (simp only [lN, hlen, hg, hcl, her] <;> omega)))
    | with_reducible intro _)
          all_goals try omega
          all_goals try (refine ⟨i + 1, by omega, by omega, ?_⟩; simp [keepE, St.keepG, St.keep, St.gc, Hp.cut, D.rnL, D.rn, cutF, Blk.rn, Blk.rnL, Tv.rnL, Own.rn, pairs, hE, hE', hst'])
        · rw [hb] at cv
          by_cases g1 : l[i].clock > clock
          · have t1 : decide (l[i].clock > clock) = true := by simpa using g1
            repeat' (first
    | with_reducible first | apply swp_seq | apply swp_reg | apply swp_regD | apply swp_block | apply swp_exit | apply swp_ret | apply swp_skip | apply swp_cd
    | simp only [go_sem, seval, pe22, q22, hlen, hg, t1, o_newM]
    | simp (disch := omega) only [w64, w32, wu8, wu16, wu32, wu64]
    | ((with_reducible refine o_call (cv) ?he ?hc ?_); (case he | hc => first | rfl | (simp [D.erL, D.er, D.closedL, D.closed, hlen, hg, hcl, her]; done)))
    | ((with_reducible apply s_mpu); (case h1 | hk => rfl); (case ha | hp => first | rfl | assumption | omega | ((first | refine ⟨?_, ?_⟩ | skip) <;> first | omega | (simp only [lN, hlen, hg, hcl, her] <;> omega)) | (simp [elemsK, D.isVal, D.cells, D.closedL, D.closed, hlen, hg, hcl, her]; first | done | omega)))
    | ((with_reducible apply s_lkpS); (case h1 | hk => rfl); (case ha | hf => first | rfl | assumption | omega | ((first | refine ⟨?_, ?_⟩ | skip) <;> first | omega | (simp only [lN, hlen, hg, hcl, her] <;> omega)) | (simp [elemsK, D.isVal, D.cells, D.closedL, D.closed, hlen, hg, hcl, her]; first | done | omega)))
    | ((with_reducible apply s_lkpN); (case h1 | hk => rfl); (case hf | ha => first | rfl | assumption | omega | ((first | refine ⟨?_, ?_⟩ | skip) <;> first | omega | (simp only [lN, hlen, hg, hcl, her] <;> omega)) | (simp [elemsK, D.isVal, D.cells, D.closedL, D.closed, hlen, hg, hcl, her]; first | done | omega)))
    | with_reducible first | apply cd_dec | apply cd_eq | apply cd_ne | apply cd_split | apply gd_dec | apply gd_eq | apply gd_ne | apply gd_split | apply gq_dec | apply gq_eq | apply gq_ne | apply gq_split
    | ((with_reducible refine And.intro ?hw ?_); (case hw => first | omega | rfl | exact ⟨_, _, rfl⟩ | assumption | (simp only [lN, hlen, hg, hcl, her] <;> omega)))
    | with_reducible intro _)
            all_goals try omega
            all_goals try (refine ⟨i + 1, by omega, by omega, ?_⟩; simp [keepE, St.keepG, St.keep, St.gc, Hp.cut, D.rnL, D.rn, cutF, Blk.rn, Blk.rnL, Tv.rnL, Own.rn, pairs, hE, hE', hst'])
          · have t1 : decide (l[i].clock > clock) = false := by simpa using g1
            by_cases g2 : day < l[i].frm
            · have t2 : decide (day < l[i].frm) = true := by simpa using g2
              repeat' (first
    | with_reducible first | apply swp_seq | apply swp_reg | apply swp_regD | apply swp_block | apply swp_exit | apply swp_ret | apply swp_skip | apply swp_cd
    | simp only [go_sem, seval, pe22, q22, hlen, hg, t1, t2, o_newM]
    | simp (disch := omega) only [w64, w32, wu8, wu16, wu32, wu64]
    | ((with_reducible refine o_call (cv) ?he ?hc ?_); (case he | hc => first | rfl | (simp [D.erL, D.er, D.closedL, D.closed, hlen, hg, hcl, her]; done)))
    | ((with_reducible apply s_mpu); (case h1 | hk => rfl); (case ha | hp => first | rfl | assumption | omega | ((first | refine ⟨?_, ?_⟩ | skip) <;> first | omega | (simp only [lN, hlen, hg, hcl, her] <;> omega)) | (simp [elemsK, D.isVal, D.cells, D.closedL, D.closed, hlen, hg, hcl, her]; first | done | omega)))
    | ((with_reducible apply s_lkpS); (case h1 | hk => rfl); (case ha | hf => first | rfl | assumption | omega | ((first | refine ⟨?_, ?_⟩ | skip) <;> first | omega | (simp only [lN, hlen, hg, hcl, her] <;> omega)) | (simp [elemsK, D.isVal, D.cells, D.closedL, D.closed, hlen, hg, hcl, her]; first | done | omega)))
    | ((with_reducible apply s_lkpN); (case h1 | hk => rfl); (case hf | ha => first | rfl | assumption | omega | ((first | refine ⟨?_, ?_⟩ | skip) <;> first | omega | (simp only [lN, hlen, hg, hcl, her] <;> omega)) | (simp [elemsK, D.isVal, D.cells, D.closedL, D.closed, hlen, hg, hcl, her]; first | done | omega)))
    | with_reducible first | apply cd_dec | apply cd_eq | apply cd_ne | apply cd_split | apply gd_dec | apply gd_eq | apply gd_ne | apply gd_split | apply gq_dec | apply gq_eq | apply gq_ne | apply gq_split
    | ((with_reducible refine And.intro ?hw ?_); (case hw => first | omega | rfl | exact ⟨_, _, rfl⟩ | assumption | (simp only [lN, hlen, hg, hcl, her] <;> omega)))
    | with_reducible intro _)
              all_goals try omega
              all_goals try (refine ⟨i + 1, by omega, by omega, ?_⟩; simp [keepE, St.keepG, St.keep, St.gc, Hp.cut, D.rnL, D.rn, cutF, Blk.rn, Blk.rnL, Tv.rnL, Own.rn, pairs, hE, hE', hst'])
            · have t2 : decide (day < l[i].frm) = false := by simpa using g2
              by_cases g3 : day > l[i].to
              · have t3 : decide (day > l[i].to) = true := by simpa using g3
                repeat' (first
    | with_reducible first | apply swp_seq | apply swp_reg | apply swp_regD | apply swp_block | apply swp_exit | apply swp_ret | apply swp_skip | apply swp_cd
    | simp only [go_sem, seval, pe22, q22, hlen, hg, t1, t2, t3, o_newM]
    | simp (disch := omega) only [w64, w32, wu8, wu16, wu32, wu64]
    | ((with_reducible refine o_call (cv) ?he ?hc ?_); (case he | hc => first | rfl | (simp [D.erL, D.er, D.closedL, D.closed, hlen, hg, hcl, her]; done)))
    | ((with_reducible apply s_mpu); (case h1 | hk => rfl); (case ha | hp => first | rfl | assumption | omega | ((first | refine ⟨?_, ?_⟩ | skip) <;> first | omega | (simp only [lN, hlen, hg, hcl, her] <;> omega)) | (simp [elemsK, D.isVal, D.cells, D.closedL, D.closed, hlen, hg, hcl, her]; first | done | omega)))
    | ((with_reducible apply s_lkpS); (case h1 | hk => rfl); (case ha | hf => first | rfl | assumption | omega | ((first | refine ⟨?_, ?_⟩ | skip) <;> first | omega | (simp only [lN, hlen, hg, hcl, her] <;> omega)) | (simp [elemsK, D.isVal, D.cells, D.closedL, D.closed, hlen, hg, hcl, her]; first | done | omega)))
    | ((with_reducible apply s_lkpN); (case h1 | hk => rfl); (case hf | ha => first | rfl | assumption | omega | ((first | refine ⟨?_, ?_⟩ | skip) <;> first | omega | (simp only [lN, hlen, hg, hcl, her] <;> omega)) | (simp [elemsK, D.isVal, D.cells, D.closedL, D.closed, hlen, hg, hcl, her]; first | done | omega)))
    | with_reducible first | apply cd_dec | apply cd_eq | apply cd_ne | apply cd_split | apply gd_dec | apply gd_eq | apply gd_ne | apply gd_split | apply gq_dec | apply gq_eq | apply gq_ne | apply gq_split
    | ((with_reducible refine And.intro ?hw ?_); (case hw => first | omega | rfl | exact ⟨_, _, rfl⟩ | assumption | (simp only [lN, hlen, hg, hcl, her] <;> omega)))
    | with_reducible intro _)
                all_goals try omega
                all_goals try (refine ⟨i + 1, by omega, by omega, ?_⟩; simp [keepE, St.keepG, St.keep, St.gc, Hp.cut, D.rnL, D.rn, cutF, Blk.rn, Blk.rnL, Tv.rnL, Own.rn, pairs, hE, hE', hst'])
              · exact (hv hb g1 g2 g3).elim
    · have hE := fun β τ => dec_rn day clock l β τ
      simp only [take_all hil]
      generalize decE day clock l = E at *
      repeat' (first
    | with_reducible first | apply swp_seq | apply swp_reg | apply swp_regD | apply swp_block | apply swp_exit | apply swp_ret | apply swp_skip | apply swp_cd
    | simp only [go_sem, seval, pe22, q22, hlen, o_newM]
    | simp (disch := omega) only [w64, w32, wu8, wu16, wu32, wu64]
    | ((with_reducible apply s_mpu); (case h1 | hk => rfl); (case ha | hp => first | rfl | assumption | omega | ((first | refine ⟨?_, ?_⟩ | skip) <;> first | omega | (simp only [lN, hlen] <;> omega)) | (simp [elemsK, D.isVal, D.cells, D.closedL, D.closed, hlen]; first | done | omega)))
    | ((with_reducible apply s_lkpS); (case h1 | hk => rfl); (case ha | hf => first | rfl | assumption | omega | ((first | refine ⟨?_, ?_⟩ | skip) <;> first | omega | (simp only [lN, hlen] <;> omega)) | (simp [elemsK, D.isVal, D.cells, D.closedL, D.closed, hlen]; first | done | omega)))
    | ((with_reducible apply s_lkpN); (case h1 | hk => rfl); (case hf | ha => first | rfl | assumption | omega | ((first | refine ⟨?_, ?_⟩ | skip) <;> first | omega | (simp only [lN, hlen] <;> omega)) | (simp [elemsK, D.isVal, D.cells, D.closedL, D.closed, hlen]; first | done | omega)))
    | with_reducible first | apply cd_dec | apply cd_eq | apply cd_ne | apply cd_split | apply gd_dec | apply gd_eq | apply gd_ne | apply gd_split | apply gq_dec | apply gq_eq | apply gq_ne | apply gq_split
    | ((with_reducible refine And.intro ?hw ?_); (case hw => first | omega | rfl | exact ⟨_, _, rfl⟩ | assumption | (simp only [lN, hlen] <;> omega)))
    | with_reducible intro _)
      all_goals try omega
      refine ⟨_, weak_refl, ?_⟩
      simp
end Go.Proofs.Ytnooagipikedeaa
end
section
set_option maxRecDepth 100000
set_option linter.unusedSimpArgs false
set_option linter.unusedVariables false
namespace Go.Proofs.Ytnooagipikedeaa
open Go GoV Go.RowKit
theorem strs_len (L : List (List UInt8)) : (strs L).length = L.length := by simp [strs]
theorem strings_e (L : List (List UInt8)) (rest : List D) (n cap : Nat) (hn : n = L.length) (hc : n + rest.length = cap) (hl : n ≤ 1000000) :
    Eff M 23 [.sl 0 1 0 n cap] ⟨[.cells (strs L ++ rest)], []⟩ fun d hp => d = .tup [] ∧ hp = ⟨[.cells (strs (sorted L) ++ rest)], []⟩ := by
  refine eff_row (M := M) ⟨Try.f23, Try.func23, rfl, rfl⟩ Go.Proofs.encStr D.str (fun w g x => by simp [Rel, Go.Proofs.encStr]) (fun w g x y h => by simpa [Rel, Go.Proofs.encStr] using h) (fun x => by simp [oneC, Value.oneCell', Go.Proofs.encStr])
    L (sorted L) rest n cap hn (sorted_perm L).length_eq hc fun w blk off hH hb => ?_
  exact (Try.sort_Strings blk off cap L w hH hb (by omega)).mono fun e w' hh => hh
theorem strings_nil : Pur M 23 [.slice [] .no] (.tup []) := by
  refine pur_any (v := .tuple #[]) ⟨Try.f23, Try.func23, rfl, rfl⟩ (fun w g => by simp [Rel, RelL]) fun w g xs h => ?_
  obtain ⟨x, xs', rfl, g1, g2⟩ := h.inv
  have := g2.inv_nil
  subst this
  simp only [Rel] at g1
  obtain ⟨a, cap, k, ys, hx, _⟩ := g1
  rcases hx with rfl | ⟨rfl, _⟩
  · exact Try.sort_Strings_none _ _ w
  · exact Try.sort_Strings_none _ _ w
def und (n : Nat) : List D := List.replicate n .undef
theorem und_len (n : Nat) : (und n).length = n := by simp [und]
theorem rnL_app (β τ : Nat → Option Nat) : ∀ (a b : List D), D.rnL β τ (a ++ b) = D.rnL β τ a ++ D.rnL β τ b
  | [], b => rfl
  | x :: a, b => by simp [D.rnL, rnL_app β τ a b]
theorem rnL_strs (β τ : Nat → Option Nat) : ∀ l : List (List UInt8), D.rnL β τ (strs l) = strs l
  | [] => rfl
  | x :: l => by
    have := rnL_strs β τ l
    simp only [strs, List.map_cons, D.rnL, D.rn] at this ⊢
    rw [this]
theorem rnL_und (β τ : Nat → Option Nat) : ∀ n : Nat, D.rnL β τ (und n) = und n
  | 0 => rfl
  | n + 1 => by
    have := rnL_und β τ n
    simp only [und, List.replicate_succ, D.rnL, D.rn] at this ⊢
    rw [this]
theorem rnL_su (β τ : Nat → Option Nat) (l : List (List UInt8)) (n : Nat) : D.rnL β τ (strs l ++ und n) = strs l ++ und n := by rw [rnL_app, rnL_strs, rnL_und]
/-! ### Visiting a map's entries -/

theorem nodup_len : ∀ (n : Nat) (l : List Nat), l.Nodup → (∀ i ∈ l, i < n) → l.length ≤ n
  | 0, l, _, h => by
    cases l with
    | nil => simp
    | cons x l => exact absurd (h x (by simp)) (by omega)
  | n + 1, l, hn, h => by
    by_cases hm : n ∈ l
    · have h1 := nodup_len n (l.erase n) (hn.erase n) (fun i hi => by
        have h2 : i ∈ l := List.mem_of_mem_erase hi
        have h3 : i ≠ n := fun e => by
          subst e
          exact (List.Nodup.not_mem_erase hn) hi
        have := h i h2
        omega)
      rw [List.length_erase_of_mem hm] at h1
      omega
    · have := nodup_len n l hn (fun i hi => by
        have h3 : i ≠ n := fun e => hm (e ▸ hi)
        have := h i hi
        omega)
      omega
theorem vis_perm {α : Type} [Inhabited α] {K : List α} {V : List Nat} (h1 : V.Nodup) (h2 : ∀ j ∈ V, j < K.length) (h3 : ∀ j, j < K.length → j ∈ V) : (V.map fun j => K.getD j default).Perm K := by
  have hp : V.Perm (List.range K.length) := (List.perm_ext_iff_of_nodup h1 List.nodup_range).2 fun j => by
    rw [List.mem_range]; exact ⟨h2 j, h3 j⟩
  have e : (List.range K.length).map (fun j => K.getD j default) = K := by
    apply List.ext_getElem?
    intro i
    by_cases hi : i < K.length
    · simp [hi, List.getD]
    · simp [hi, List.getElem?_eq_none (Nat.le_of_not_lt hi)]
  have := hp.map fun j => K.getD j default
  rw [e] at this; exact this
theorem pick_at {l : List Am} {day clock : Int} {n : Tx} (h : n ∈ names1 day clock l) : ∃ j k a, findM (.str n) (decE day clock l) 0 = some (j, .int .i64 (k : Nat)) ∧ (∃ hk : k < l.length, l[k] = a) ∧ pick l day clock n = if a.void then none else some a.rule := by
  obtain ⟨j, k, a, h1, h2, h3⟩ := dec_some h
  refine ⟨j, k, a, h1, h3, ?_⟩
  unfold pick
  rw [← bestI_snd, h2]; rfl
def outTo (l : List Am) (day clock : Int) (S : List Tx) (i : Nat) : List Rl := (S.take i).filterMap (pick l day clock)
theorem outTo_step {l : List Am} {day clock : Int} {S : List Tx} {i : Nat} (h : i < S.length) : outTo l day clock S (i + 1) = outTo l day clock S i ++ (match pick l day clock S[i] with | none => [] | some r => [r]) := by
  unfold outTo
  rw [List.take_succ_eq_append_getElem h, List.filterMap_append]
  congr 1
  cases hp : pick l day clock S[i] <;> simp [hp]
theorem outTo_len (l : List Am) (day clock : Int) (S : List Tx) (i : Nat) : (outTo l day clock S i).length ≤ i := by
  unfold outTo
  have := List.length_filterMap_le (pick l day clock) (S.take i)
  simp at this; omega
end Go.Proofs.Ytnooagipikedeaa
end
section
set_option maxRecDepth 100000
set_option linter.unusedSimpArgs false
set_option linter.unusedVariables false
namespace Go.Proofs.Ytnooagipikedeaa
open Go GoV Go.RowKit
theorem ents_fz (t k n : Nat) (cs : List D) (f : Tx → Int) : ∀ (K : List Tx) (b : Nat), (entsAt f K b).map (fun p => (D.fzt t k n cs p.1, D.fzt t k n cs p.2.1, p.2.2)) = entsAt f K b
  | [], _ => rfl
  | x :: K, b => by simp [entsAt, D.fzt]; exact ents_fz t k n cs f K (b + 1)
theorem dec_fz (t k n : Nat) (cs : List D) (day clock : Int) (l : List Am) : (decE day clock l).map (fun p => (D.fzt t k n cs p.1, D.fzt t k n cs p.2.1, p.2.2)) = decE day clock l := ents_fz t k n cs _ _ 0
theorem force_tail (l : List Am) (hl : l.length < 1000000) (day clock : Int) (Sx : List Tx) (hS : ∀ n ∈ Sx, n ∈ names1 day clock l) (hSl : Sx.length < 1000000) (nm : D) (B : Blk) (hB : B.rn (fun b => if b < 2 then some b else none) (fun _ => none) = B)
    (hnm : (∃ cap, nm = .sl 1 1 0 Sx.length cap ∧ Sx.length ≤ cap ∧ B = .cells (strs Sx ++ und (cap - Sx.length))) ∨ (nm = .slice [] .no ∧ Sx = [])) (X : D) :
    SWp C12 (.seq (.reg r12_8) (.seq (.seq (.reg r12_9) (.block 2 (.loop (.seq (.reg r12_10) (.seq (.cond (.var 15) .skip (.exit 2)) (.seq (.block 3 (.seq (.reg r12_11) (.seq (.reg r12_12) (.seq (.reg r12_13) (.cond (.var 16) (.reg r12_14) .skip))))) (.reg r12_15))))))) (.seq (.reg r12_16) .ret)))
      (fun e s => (match e with | .exit _ => False | _ => True) ∧ rrsWp q12 s fun ds => D.closed (oneOrTup ds) = true ∧ (oneOrTup ds).er = .slice ((outTo l day clock Sx Sx.length).map rlD) .no)
      ⟨[amsD l, .undef, .undef, .undef, .mp 0, nm, .undef, .undef, .undef, .undef, .undef, .undef, .undef, .undef, .undef, .undef, .undef], [], ⟨[.map (decE day clock l) (decE day clock l).length, B], []⟩⟩ := by
  have hlen : (l.map amD).length = l.length := by simp
  have hE := fun β τ => dec_rn day clock l β τ
  have hok := dec_ok day clock l
  rcases hnm with ⟨cap, rfl, hcap, rfl⟩ | ⟨rfl, rfl⟩
  · have hsl := strs_len Sx
    have hpk := fun n (h : n ∈ names1 day clock l) => pick_at h
    have hBc : (strs Sx ++ und (cap - Sx.length)).length = cap := by rw [List.length_append, hsl, und_len]; omega
    have hrn := fun β τ => rnL_su β τ Sx (cap - Sx.length)
    generalize decE day clock l = E at *
    repeat' (first
    | with_reducible first | apply swp_seq | apply swp_reg | apply swp_regD | apply swp_block | apply swp_exit | apply swp_ret | apply swp_skip | apply swp_cd
    | simp only [go_sem, seval, P12, q12]
    | ((with_reducible apply s_appT); (case he => rfl); (case hK | hc | hr | hV => first | rfl | assumption | omega | ((first | refine ⟨?_, ?_⟩ | skip) <;> first | omega | (simp only [lN] <;> omega)) | (simp [elemsK, D.isVal, D.cells, D.closedL, D.closed]; first | done | omega)))
    | ((with_reducible apply s_appG); (case he => rfl); (case hV | hK | hr | hl => first | rfl | assumption | omega | ((first | refine ⟨?_, ?_⟩ | skip) <;> first | omega | (simp only [lN] <;> omega)) | (simp [elemsK, D.isVal, D.cells, D.closedL, D.closed]; first | done | omega)))
    | ((with_reducible apply s_app0); (case he => rfl); (case hK | hc | hr => first | rfl | assumption | omega | ((first | refine ⟨?_, ?_⟩ | skip) <;> first | omega | (simp only [lN] <;> omega)) | (simp [elemsK, D.isVal, D.cells, D.closedL, D.closed]; first | done | omega)))
    | ((with_reducible apply s_appF); (case he => rfl); (case hK | hc | hr | hx | hn => first | rfl | assumption | omega | ((first | refine ⟨?_, ?_⟩ | skip) <;> first | omega | (simp only [lN] <;> omega)) | (simp [elemsK, D.isVal, D.cells, D.closedL, D.closed]; first | done | omega)))
    | ((with_reducible apply s_bsl); (case he | hl | hc => first | rfl | assumption | omega | ((first | refine ⟨?_, ?_⟩ | skip) <;> first | omega | (simp only [lN] <;> omega)) | (simp [elemsK, D.isVal, D.cells, D.closedL, D.closed]; first | done | omega)))
    | ((with_reducible apply s_lkpS); (case h1 | hk => rfl); (case ha | hf => first | rfl | assumption | omega | ((first | refine ⟨?_, ?_⟩ | skip) <;> first | omega | (simp only [lN] <;> omega)) | (simp [elemsK, D.isVal, D.cells, D.closedL, D.closed]; first | done | omega)))
    | ((with_reducible apply s_lkpN); (case h1 | hk => rfl); (case hf | ha => first | rfl | assumption | omega | ((first | refine ⟨?_, ?_⟩ | skip) <;> first | omega | (simp only [lN] <;> omega)) | (simp [elemsK, D.isVal, D.cells, D.closedL, D.closed]; first | done | omega)))
    | ((with_reducible apply s_rngM); (case h1 => rfl))
    | with_reducible first | apply cd_dec | apply cd_eq | apply cd_ne | apply cd_split
    | ((with_reducible refine And.intro ?hw ?_); (case hw => first | omega | rfl | exact ⟨_, _, rfl⟩ | assumption | (simp only [lN] <;> omega)))
    | with_reducible intro _)
    refine swp_weak (weak_trans (weak_keep [0, 4, 7, 12, 13, 14]) (weak_new 7 8 (by decide) false rfl)) ?_
    simp [keepE]
    refine swp_famG [0, 4, 7, 12, 13, 14] 2 1 (Nat.zero_le 2) (Nat.zero_le 1) (fun i : Nat => ⟨[amsD l, .undef, .undef, .undef, .mp 0, .undef, .undef, .slice ((outTo l day clock Sx i).map rlD) (.tok 0), .undef, .undef, .undef, .undef, .sl 1 1 0 Sx.length cap, .int .i64 Sx.length, .int .i64 i, .undef, .undef], [],
      ⟨[.map E E.length, .cells (strs Sx ++ und (cap - Sx.length))], [.per 8 (outTo l day clock Sx i).length]⟩⟩) (fun i => i ≤ Sx.length) (fun i => Sx.length + 1 - i) 0 (by omega) ?_ ?_
    · simp [keepE, St.keepG, St.keep, St.gc, Hp.cut, D.rnL, D.rn, cutF, Blk.rn, Blk.rnL, Tv.rnL, Tv.rn, Own.rn, pairs, hE, hrn, outTo]
    · intro i hi
      have hol := outTo_len l day clock Sx i
      by_cases hil : i < Sx.length
      · have hgn : (strs Sx ++ und (cap - Sx.length)).getD i .undef = .str Sx[i] := by
          rw [List.getD_eq_getElem?_getD, List.getElem?_append_left (by rw [hsl]; exact hil)]
          simp [strs, hil]
        obtain ⟨j, k, a, h1, ⟨hk, h2⟩, h3⟩ := hpk Sx[i] (hS _ (List.getElem_mem hil))
        have hgk : (l.map amD).getD k .undef = .agg a.cells := by rw [amsD_get hk, h2]
        have hst := outTo_step (l := l) (day := day) (clock := clock) hil
        have hol' := outTo_len l day clock Sx (i + 1)
        rw [h3] at hst
        have hcl := closedL_X a.rule.cond.kids
        have her := erL_X a.rule.cond.kids
        have hml : ((outTo l day clock Sx i).map rlD).length = (outTo l day clock Sx i).length := by simp
        by_cases hv : a.void = true
        · rw [if_pos hv] at hst
          simp only [List.append_nil] at hst
          rw [hst] at hol'
          have hgv : D.bool a.void = .bool true := by rw [hv]
          generalize outTo l day clock Sx i = O at *
          generalize hC : strs Sx ++ und (cap - Sx.length) = C at *
          repeat' (first
    | with_reducible first | apply swp_seq | apply swp_reg | apply swp_regD | apply swp_block | apply swp_exit | apply swp_ret | apply swp_skip | apply swp_cd
    | simp only [go_sem, seval, P12, q12, hlen, hgn, hgk, hv, Nat.mul_one, Nat.zero_add]
    | simp (disch := omega) only [w64, w32, wu8, wu16, wu32, wu64]
    | ((with_reducible apply s_appT); (case he => rfl); (case hK | hc | hr | hV => first | rfl | assumption | omega | ((first | refine ⟨?_, ?_⟩ | skip) <;> first | omega | (simp only [lN, hlen, hgn, hgk, hok, h1, hcl, her, hBc] <;> omega)) | (simp [elemsK, D.isVal, D.cells, D.closedL, D.closed, hlen, hgn, hgk, hok, h1, hcl, her, hBc]; first | done | omega)))
    | ((with_reducible apply s_appG); (case he => rfl); (case hV | hK | hr | hl => first | rfl | assumption | omega | ((first | refine ⟨?_, ?_⟩ | skip) <;> first | omega | (simp only [lN, hlen, hgn, hgk, hok, h1, hcl, her, hBc] <;> omega)) | (simp [elemsK, D.isVal, D.cells, D.closedL, D.closed, hlen, hgn, hgk, hok, h1, hcl, her, hBc]; first | done | omega)))
    | ((with_reducible apply s_app0); (case he => rfl); (case hK | hc | hr => first | rfl | assumption | omega | ((first | refine ⟨?_, ?_⟩ | skip) <;> first | omega | (simp only [lN, hlen, hgn, hgk, hok, h1, hcl, her, hBc] <;> omega)) | (simp [elemsK, D.isVal, D.cells, D.closedL, D.closed, hlen, hgn, hgk, hok, h1, hcl, her, hBc]; first | done | omega)))
    | ((with_reducible apply s_appF); (case he => rfl); (case hK | hc | hr | hx | hn => first | rfl | assumption | omega | ((first | refine ⟨?_, ?_⟩ | skip) <;> first | omega | (simp only [lN, hlen, hgn, hgk, hok, h1, hcl, her, hBc] <;> omega)) | (simp [elemsK, D.isVal, D.cells, D.closedL, D.closed, hlen, hgn, hgk, hok, h1, hcl, her, hBc]; first | done | omega)))
    | ((with_reducible apply s_bsl); (case he | hl | hc => first | rfl | assumption | omega | ((first | refine ⟨?_, ?_⟩ | skip) <;> first | omega | (simp only [lN, hlen, hgn, hgk, hok, h1, hcl, her, hBc] <;> omega)) | (simp [elemsK, D.isVal, D.cells, D.closedL, D.closed, hlen, hgn, hgk, hok, h1, hcl, her, hBc]; first | done | omega)))
    | ((with_reducible apply s_lkpS); (case h1 | hk => rfl); (case ha | hf => first | rfl | assumption | omega | ((first | refine ⟨?_, ?_⟩ | skip) <;> first | omega | (simp only [lN, hlen, hgn, hgk, hok, h1, hcl, her, hBc] <;> omega)) | (simp [elemsK, D.isVal, D.cells, D.closedL, D.closed, hlen, hgn, hgk, hok, h1, hcl, her, hBc]; first | done | omega)))
    | ((with_reducible apply s_lkpN); (case h1 | hk => rfl); (case hf | ha => first | rfl | assumption | omega | ((first | refine ⟨?_, ?_⟩ | skip) <;> first | omega | (simp only [lN, hlen, hgn, hgk, hok, h1, hcl, her, hBc] <;> omega)) | (simp [elemsK, D.isVal, D.cells, D.closedL, D.closed, hlen, hgn, hgk, hok, h1, hcl, her, hBc]; first | done | omega)))
    | ((with_reducible apply s_rngM); (case h1 => rfl))
    | with_reducible first | apply cd_dec | apply cd_eq | apply cd_ne | apply cd_split
    | ((with_reducible refine And.intro ?hw ?_); (case hw => first | omega | rfl | exact ⟨_, _, rfl⟩ | assumption | (simp only [lN, hlen, hgn, hgk, hok, h1, hcl, her, hBc] <;> omega)))
    | with_reducible intro _)
          all_goals try omega
          all_goals try (refine ⟨i + 1, by omega, by omega, ?_⟩; simp [keepE, St.keepG, St.keep, St.gc, Hp.cut, D.rnL, D.rn, cutF, Blk.rn, Blk.rnL, Tv.rnL, Tv.rn, Own.rn, pairs, hE, hrn, hst])
        · rw [if_neg hv] at hst
          simp only at hst
          have hv' : a.void = false := by simpa using hv
          have hmap : (outTo l day clock Sx (i + 1)).map rlD = (outTo l day clock Sx i).map rlD ++ [.agg a.rule.cells] := by rw [hst]; simp [rlD]
          have hlen' : (outTo l day clock Sx (i + 1)).length = (outTo l day clock Sx i).length + 1 := by rw [hst]; simp
          generalize outTo l day clock Sx i = O at *
          generalize hC : strs Sx ++ und (cap - Sx.length) = C at *
          repeat' (first
    | with_reducible first | apply swp_seq | apply swp_reg | apply swp_regD | apply swp_block | apply swp_exit | apply swp_ret | apply swp_skip | apply swp_cd
    | simp only [go_sem, seval, P12, q12, hlen, hgn, hgk, hv', Nat.mul_one, Nat.zero_add]
    | simp (disch := omega) only [w64, w32, wu8, wu16, wu32, wu64]
    | ((with_reducible apply s_appT); (case he => rfl); (case hK | hc | hr | hV => first | rfl | assumption | omega | ((first | refine ⟨?_, ?_⟩ | skip) <;> first | omega | (simp only [lN, hlen, hgn, hgk, hok, h1, hcl, her, hBc, hml, roomOk] <;> omega)) | (simp [elemsK, D.isVal, D.cells, D.closedL, D.closed, hlen, hgn, hgk, hok, h1, hcl, her, hBc, hml, roomOk]; first | done | omega)))
    | ((with_reducible apply s_appG); (case he => rfl); (case hV | hK | hr | hl => first | rfl | assumption | omega | ((first | refine ⟨?_, ?_⟩ | skip) <;> first | omega | (simp only [lN, hlen, hgn, hgk, hok, h1, hcl, her, hBc, hml, roomOk] <;> omega)) | (simp [elemsK, D.isVal, D.cells, D.closedL, D.closed, hlen, hgn, hgk, hok, h1, hcl, her, hBc, hml, roomOk]; first | done | omega)))
    | ((with_reducible apply s_app0); (case he => rfl); (case hK | hc | hr => first | rfl | assumption | omega | ((first | refine ⟨?_, ?_⟩ | skip) <;> first | omega | (simp only [lN, hlen, hgn, hgk, hok, h1, hcl, her, hBc, hml, roomOk] <;> omega)) | (simp [elemsK, D.isVal, D.cells, D.closedL, D.closed, hlen, hgn, hgk, hok, h1, hcl, her, hBc, hml, roomOk]; first | done | omega)))
    | ((with_reducible apply s_appF); (case he => rfl); (case hK | hc | hr | hx | hn => first | rfl | assumption | omega | ((first | refine ⟨?_, ?_⟩ | skip) <;> first | omega | (simp only [lN, hlen, hgn, hgk, hok, h1, hcl, her, hBc, hml, roomOk] <;> omega)) | (simp [elemsK, D.isVal, D.cells, D.closedL, D.closed, hlen, hgn, hgk, hok, h1, hcl, her, hBc, hml, roomOk]; first | done | omega)))
    | ((with_reducible apply s_bsl); (case he | hl | hc => first | rfl | assumption | omega | ((first | refine ⟨?_, ?_⟩ | skip) <;> first | omega | (simp only [lN, hlen, hgn, hgk, hok, h1, hcl, her, hBc, hml, roomOk] <;> omega)) | (simp [elemsK, D.isVal, D.cells, D.closedL, D.closed, hlen, hgn, hgk, hok, h1, hcl, her, hBc, hml, roomOk]; first | done | omega)))
    | ((with_reducible apply s_lkpS); (case h1 | hk => rfl); (case ha | hf => first | rfl | assumption | omega | ((first | refine ⟨?_, ?_⟩ | skip) <;> first | omega | (simp only [lN, hlen, hgn, hgk, hok, h1, hcl, her, hBc, hml, roomOk] <;> omega)) | (simp [elemsK, D.isVal, D.cells, D.closedL, D.closed, hlen, hgn, hgk, hok, h1, hcl, her, hBc, hml, roomOk]; first | done | omega)))
    | ((with_reducible apply s_lkpN); (case h1 | hk => rfl); (case hf | ha => first | rfl | assumption | omega | ((first | refine ⟨?_, ?_⟩ | skip) <;> first | omega | (simp only [lN, hlen, hgn, hgk, hok, h1, hcl, her, hBc, hml, roomOk] <;> omega)) | (simp [elemsK, D.isVal, D.cells, D.closedL, D.closed, hlen, hgn, hgk, hok, h1, hcl, her, hBc, hml, roomOk]; first | done | omega)))
    | ((with_reducible apply s_rngM); (case h1 => rfl))
    | with_reducible first | apply cd_dec | apply cd_eq | apply cd_ne | apply cd_split
    | ((with_reducible refine And.intro ?hw ?_); (case hw => first | omega | rfl | exact ⟨_, _, rfl⟩ | assumption | (simp only [lN, hlen, hgn, hgk, hok, h1, hcl, her, hBc, hml, roomOk] <;> omega)))
    | with_reducible intro _)
          all_goals try omega
          all_goals try (refine ⟨i + 1, by omega, by omega, ?_⟩; simp [keepE, St.keepG, St.keep, St.gc, Hp.cut, D.rnL, D.rn, cutF, Blk.rn, Blk.rnL, Tv.rnL, Tv.rn, Own.rn, pairs, hE, hrn, hmap, hlen'])
      · have hie : i = Sx.length := by omega
        subst hie
        have hclo := closedL_R (outTo l day clock Sx Sx.length)
        have hero := erL_R (outTo l day clock Sx Sx.length)
        generalize outTo l day clock Sx Sx.length = O at *
        repeat' (first
    | with_reducible first | apply swp_seq | apply swp_reg | apply swp_regD | apply swp_block | apply swp_exit | apply swp_ret | apply swp_skip | apply swp_cd
    | simp only [go_sem, seval, P12, q12]
    | simp (disch := omega) only [w64, w32, wu8, wu16, wu32, wu64]
    | ((with_reducible apply s_appT); (case he => rfl); (case hK | hc | hr | hV => first | rfl | assumption | omega | ((first | refine ⟨?_, ?_⟩ | skip) <;> first | omega | (simp only [lN] <;> omega)) | (simp [elemsK, D.isVal, D.cells, D.closedL, D.closed]; first | done | omega)))
    | ((with_reducible apply s_appG); (case he => rfl); (case hV | hK | hr | hl => first | rfl | assumption | omega | ((first | refine ⟨?_, ?_⟩ | skip) <;> first | omega | (simp only [lN] <;> omega)) | (simp [elemsK, D.isVal, D.cells, D.closedL, D.closed]; first | done | omega)))
    | ((with_reducible apply s_app0); (case he => rfl); (case hK | hc | hr => first | rfl | assumption | omega | ((first | refine ⟨?_, ?_⟩ | skip) <;> first | omega | (simp only [lN] <;> omega)) | (simp [elemsK, D.isVal, D.cells, D.closedL, D.closed]; first | done | omega)))
    | ((with_reducible apply s_appF); (case he => rfl); (case hK | hc | hr | hx | hn => first | rfl | assumption | omega | ((first | refine ⟨?_, ?_⟩ | skip) <;> first | omega | (simp only [lN] <;> omega)) | (simp [elemsK, D.isVal, D.cells, D.closedL, D.closed]; first | done | omega)))
    | ((with_reducible apply s_bsl); (case he | hl | hc => first | rfl | assumption | omega | ((first | refine ⟨?_, ?_⟩ | skip) <;> first | omega | (simp only [lN] <;> omega)) | (simp [elemsK, D.isVal, D.cells, D.closedL, D.closed]; first | done | omega)))
    | ((with_reducible apply s_lkpS); (case h1 | hk => rfl); (case ha | hf => first | rfl | assumption | omega | ((first | refine ⟨?_, ?_⟩ | skip) <;> first | omega | (simp only [lN] <;> omega)) | (simp [elemsK, D.isVal, D.cells, D.closedL, D.closed]; first | done | omega)))
    | ((with_reducible apply s_lkpN); (case h1 | hk => rfl); (case hf | ha => first | rfl | assumption | omega | ((first | refine ⟨?_, ?_⟩ | skip) <;> first | omega | (simp only [lN] <;> omega)) | (simp [elemsK, D.isVal, D.cells, D.closedL, D.closed]; first | done | omega)))
    | ((with_reducible apply s_rngM); (case h1 => rfl))
    | with_reducible first | apply cd_dec | apply cd_eq | apply cd_ne | apply cd_split
    | ((with_reducible refine And.intro ?hw ?_); (case hw => first | omega | rfl | exact ⟨_, _, rfl⟩ | assumption | (simp only [lN] <;> omega)))
    | with_reducible intro _)
        all_goals try omega
        all_goals simp [D.closed, D.er, hclo, hero]
  · generalize decE day clock l = E at *
    repeat' (first
    | with_reducible first | apply swp_seq | apply swp_reg | apply swp_regD | apply swp_block | apply swp_exit | apply swp_ret | apply swp_skip | apply swp_cd
    | simp only [go_sem, seval, P12, q12]
    | ((with_reducible apply s_appT); (case he => rfl); (case hK | hc | hr | hV => first | rfl | assumption | omega | ((first | refine ⟨?_, ?_⟩ | skip) <;> first | omega | (simp only [lN] <;> omega)) | (simp [elemsK, D.isVal, D.cells, D.closedL, D.closed]; first | done | omega)))
    | ((with_reducible apply s_appG); (case he => rfl); (case hV | hK | hr | hl => first | rfl | assumption | omega | ((first | refine ⟨?_, ?_⟩ | skip) <;> first | omega | (simp only [lN] <;> omega)) | (simp [elemsK, D.isVal, D.cells, D.closedL, D.closed]; first | done | omega)))
    | ((with_reducible apply s_app0); (case he => rfl); (case hK | hc | hr => first | rfl | assumption | omega | ((first | refine ⟨?_, ?_⟩ | skip) <;> first | omega | (simp only [lN] <;> omega)) | (simp [elemsK, D.isVal, D.cells, D.closedL, D.closed]; first | done | omega)))
    | ((with_reducible apply s_appF); (case he => rfl); (case hK | hc | hr | hx | hn => first | rfl | assumption | omega | ((first | refine ⟨?_, ?_⟩ | skip) <;> first | omega | (simp only [lN] <;> omega)) | (simp [elemsK, D.isVal, D.cells, D.closedL, D.closed]; first | done | omega)))
    | ((with_reducible apply s_bsl); (case he | hl | hc => first | rfl | assumption | omega | ((first | refine ⟨?_, ?_⟩ | skip) <;> first | omega | (simp only [lN] <;> omega)) | (simp [elemsK, D.isVal, D.cells, D.closedL, D.closed]; first | done | omega)))
    | ((with_reducible apply s_lkpS); (case h1 | hk => rfl); (case ha | hf => first | rfl | assumption | omega | ((first | refine ⟨?_, ?_⟩ | skip) <;> first | omega | (simp only [lN] <;> omega)) | (simp [elemsK, D.isVal, D.cells, D.closedL, D.closed]; first | done | omega)))
    | ((with_reducible apply s_lkpN); (case h1 | hk => rfl); (case hf | ha => first | rfl | assumption | omega | ((first | refine ⟨?_, ?_⟩ | skip) <;> first | omega | (simp only [lN] <;> omega)) | (simp [elemsK, D.isVal, D.cells, D.closedL, D.closed]; first | done | omega)))
    | ((with_reducible apply s_rngM); (case h1 => rfl))
    | with_reducible first | apply cd_dec | apply cd_eq | apply cd_ne | apply cd_split
    | ((with_reducible refine And.intro ?hw ?_); (case hw => first | omega | rfl | exact ⟨_, _, rfl⟩ | assumption | (simp only [lN] <;> omega)))
    | with_reducible intro _)
    refine swp_weak (weak_trans (weak_keep [0, 4, 7, 12, 13, 14]) (weak_new 7 8 (by decide) false rfl)) ?_
    simp [keepE]
    refine swp_fam [7, 12, 13, 14] (fun _ : Unit => ⟨[.undef, .undef, .undef, .undef, .undef, .undef, .undef, .slice [] (.tok 0), .undef, .undef, .undef, .undef, .slice [] .no, .int .i64 0, .int .i64 0, .undef, .undef], [],
      ⟨[.map E E.length, B], [.per 8 0]⟩⟩) (fun _ => True) (fun _ => 0) () trivial ?_ ?_
    · simp [keepE, St.keep]
    · intro _ _
      repeat' (first
    | with_reducible first | apply swp_seq | apply swp_reg | apply swp_regD | apply swp_block | apply swp_exit | apply swp_ret | apply swp_skip | apply swp_cd
    | simp only [go_sem, seval, P12, q12]
    | simp (disch := omega) only [w64, w32, wu8, wu16, wu32, wu64]
    | ((with_reducible apply s_appT); (case he => rfl); (case hK | hc | hr | hV => first | rfl | assumption | omega | ((first | refine ⟨?_, ?_⟩ | skip) <;> first | omega | (simp only [lN] <;> omega)) | (simp [elemsK, D.isVal, D.cells, D.closedL, D.closed]; first | done | omega)))
    | ((with_reducible apply s_appG); (case he => rfl); (case hV | hK | hr | hl => first | rfl | assumption | omega | ((first | refine ⟨?_, ?_⟩ | skip) <;> first | omega | (simp only [lN] <;> omega)) | (simp [elemsK, D.isVal, D.cells, D.closedL, D.closed]; first | done | omega)))
    | ((with_reducible apply s_app0); (case he => rfl); (case hK | hc | hr => first | rfl | assumption | omega | ((first | refine ⟨?_, ?_⟩ | skip) <;> first | omega | (simp only [lN] <;> omega)) | (simp [elemsK, D.isVal, D.cells, D.closedL, D.closed]; first | done | omega)))
    | ((with_reducible apply s_appF); (case he => rfl); (case hK | hc | hr | hx | hn => first | rfl | assumption | omega | ((first | refine ⟨?_, ?_⟩ | skip) <;> first | omega | (simp only [lN] <;> omega)) | (simp [elemsK, D.isVal, D.cells, D.closedL, D.closed]; first | done | omega)))
    | ((with_reducible apply s_bsl); (case he | hl | hc => first | rfl | assumption | omega | ((first | refine ⟨?_, ?_⟩ | skip) <;> first | omega | (simp only [lN] <;> omega)) | (simp [elemsK, D.isVal, D.cells, D.closedL, D.closed]; first | done | omega)))
    | ((with_reducible apply s_lkpS); (case h1 | hk => rfl); (case ha | hf => first | rfl | assumption | omega | ((first | refine ⟨?_, ?_⟩ | skip) <;> first | omega | (simp only [lN] <;> omega)) | (simp [elemsK, D.isVal, D.cells, D.closedL, D.closed]; first | done | omega)))
    | ((with_reducible apply s_lkpN); (case h1 | hk => rfl); (case hf | ha => first | rfl | assumption | omega | ((first | refine ⟨?_, ?_⟩ | skip) <;> first | omega | (simp only [lN] <;> omega)) | (simp [elemsK, D.isVal, D.cells, D.closedL, D.closed]; first | done | omega)))
    | ((with_reducible apply s_rngM); (case h1 => rfl))
    | with_reducible first | apply cd_dec | apply cd_eq | apply cd_ne | apply cd_split
    | ((with_reducible refine And.intro ?hw ?_); (case hw => first | omega | rfl | exact ⟨_, _, rfl⟩ | assumption | (simp only [lN] <;> omega)))
    | with_reducible intro _)
      all_goals simp [D.closed, D.er, D.erL, outTo]
set_option maxHeartbeats 2000000 in
theorem inForce_p (l : List Am) (hl : l.length < 1000000) (hs : ∀ a ∈ l, a.sm) (day clock : Int) : Pur M 12 [amsD l, .int .i64 day, .int .i64 clock] (rulesD (inForce l day clock)) := by
  refine ok12 rfl ?_
  rw [i12]
  unfold c12
  have hlen : (l.map amD).length = l.length := by simp
  have c1 := deciding_e l hl hs day clock
  have hE := fun β τ => dec_rn day clock l β τ
  have hF := fun t k n cs => dec_fz t k n cs day clock l
  have hK : (decE day clock l).length = (names1 day clock l).length := dec_len _ _ _
  have hM : ∀ e ∈ decE day clock l, ∃ j, ∃ h : j < (names1 day clock l).length, e = (.str ((names1 day clock l)[j]), .int .i64 (idxD day clock l (names1 day clock l)[j] : Nat), j) := fun e he => ents_mem he
  have hM' : ∀ j (h : j < (names1 day clock l).length), (D.str ((names1 day clock l)[j]), D.int .i64 (idxD day clock l (names1 day clock l)[j] : Nat), j) ∈ decE day clock l := fun j h => ents_mem' h
  have hBn : (decE day clock l).map (·.2.2) = List.range (names1 day clock l).length := ents_born _ _
  have htail := force_tail l hl day clock
  have hperm : ∀ V : List Nat, V.Nodup → (∀ j ∈ V, j < (names1 day clock l).length) → (∀ j, j < (names1 day clock l).length → j ∈ V) → sorted (V.map fun j => (names1 day clock l).getD j default) = sorted (names1 day clock l) := fun V h1 h2 h3 =>
    (sorted_eq names1_nodup (vis_perm h1 h2 h3).symm).symm
  have hfin : outTo l day clock (sorted (names1 day clock l)) (sorted (names1 day clock l)).length = inForce l day clock := by
    unfold outTo inForce; rw [List.take_length]
  have hsub : ∀ n ∈ sorted (names1 day clock l), n ∈ names1 day clock l := fun n hn => (sorted_perm _).mem_iff.1 hn
  have hKl : (names1 day clock l).length ≤ l.length := by
    have : ∀ l : List Am, (names1 day clock l).length ≤ l.length := by
      intro l
      induction l with
      | nil => simp [names1]
      | cons a l ih =>
        unfold names1
        split
        · have := List.length_filter_le (fun n => !(n == a.rule.name)) (names1 day clock l); simp; omega
        · simp; omega
    exact this l
  generalize hKd : names1 day clock l = K at *
  generalize hEd : decE day clock l = E at *
  obtain ⟨kf, hkf⟩ : ∃ kf : Nat → Tx, (fun j => K.getD j default) = kf := ⟨_, rfl⟩
  have hkj : ∀ j (h : j < K.length), kf j = K[j] := fun j h => by rw [← hkf]; simp [List.getD, h]
  rw [hkf] at hperm
  repeat' (first
    | with_reducible first | apply swp_seq | apply swp_reg | apply swp_regD | apply swp_block | apply swp_exit | apply swp_ret | apply swp_skip | apply swp_cd
    | simp only [go_sem, seval, P12, q12, hE]
    | ((with_reducible refine o_eff [] [] (c1) ?hs ?he ?hh ?_); (case hs => exact ⟨by simp, by simp, by simp, by simp⟩); (case he => first | rfl | (simp [go_sem, seval, D.rnL, D.rn, posF, Hp.sel, Blk.rnL, Blk.rn, Tv.rnL, idx, Hp.back, putAt, bakF, hE]; done)); (case hh => first | rfl | (simp [go_sem, seval, D.rnL, D.rn, posF, Hp.sel, Blk.rnL, Blk.rn, Tv.rnL, idx, Hp.back, putAt, bakF, hE]; done)); rintro _ _ ⟨rfl, rfl⟩)
    | ((with_reducible apply s_appT); (case he => rfl); (case hK | hc | hr | hV => first | rfl | assumption | omega | ((first | refine ⟨?_, ?_⟩ | skip) <;> first | omega | (simp only [lN, D.rnL, D.rn, posF, Hp.sel, Blk.rnL, Blk.rn, Tv.rnL, idx, Hp.back, putAt, bakF, hE] <;> omega)) | (simp [elemsK, D.isVal, D.cells, D.closedL, D.closed, D.rnL, D.rn, posF, Hp.sel, Blk.rnL, Blk.rn, Tv.rnL, idx, Hp.back, putAt, bakF, hE]; first | done | omega)))
    | ((with_reducible apply s_appG); (case he => rfl); (case hV | hK | hr | hl => first | rfl | assumption | omega | ((first | refine ⟨?_, ?_⟩ | skip) <;> first | omega | (simp only [lN, D.rnL, D.rn, posF, Hp.sel, Blk.rnL, Blk.rn, Tv.rnL, idx, Hp.back, putAt, bakF, hE] <;> omega)) | (simp [elemsK, D.isVal, D.cells, D.closedL, D.closed, D.rnL, D.rn, posF, Hp.sel, Blk.rnL, Blk.rn, Tv.rnL, idx, Hp.back, putAt, bakF, hE]; first | done | omega)))
    | ((with_reducible apply s_app0); (case he => rfl); (case hK | hc | hr => first | rfl | assumption | omega | ((first | refine ⟨?_, ?_⟩ | skip) <;> first | omega | (simp only [lN, D.rnL, D.rn, posF, Hp.sel, Blk.rnL, Blk.rn, Tv.rnL, idx, Hp.back, putAt, bakF, hE] <;> omega)) | (simp [elemsK, D.isVal, D.cells, D.closedL, D.closed, D.rnL, D.rn, posF, Hp.sel, Blk.rnL, Blk.rn, Tv.rnL, idx, Hp.back, putAt, bakF, hE]; first | done | omega)))
    | ((with_reducible apply s_appF); (case he => rfl); (case hK | hc | hr | hx | hn => first | rfl | assumption | omega | ((first | refine ⟨?_, ?_⟩ | skip) <;> first | omega | (simp only [lN, D.rnL, D.rn, posF, Hp.sel, Blk.rnL, Blk.rn, Tv.rnL, idx, Hp.back, putAt, bakF, hE] <;> omega)) | (simp [elemsK, D.isVal, D.cells, D.closedL, D.closed, D.rnL, D.rn, posF, Hp.sel, Blk.rnL, Blk.rn, Tv.rnL, idx, Hp.back, putAt, bakF, hE]; first | done | omega)))
    | ((with_reducible apply s_bsl); (case he | hl | hc => first | rfl | assumption | omega | ((first | refine ⟨?_, ?_⟩ | skip) <;> first | omega | (simp only [lN, D.rnL, D.rn, posF, Hp.sel, Blk.rnL, Blk.rn, Tv.rnL, idx, Hp.back, putAt, bakF, hE] <;> omega)) | (simp [elemsK, D.isVal, D.cells, D.closedL, D.closed, D.rnL, D.rn, posF, Hp.sel, Blk.rnL, Blk.rn, Tv.rnL, idx, Hp.back, putAt, bakF, hE]; first | done | omega)))
    | ((with_reducible apply s_lkpS); (case h1 | hk => rfl); (case ha | hf => first | rfl | assumption | omega | ((first | refine ⟨?_, ?_⟩ | skip) <;> first | omega | (simp only [lN, D.rnL, D.rn, posF, Hp.sel, Blk.rnL, Blk.rn, Tv.rnL, idx, Hp.back, putAt, bakF, hE] <;> omega)) | (simp [elemsK, D.isVal, D.cells, D.closedL, D.closed, D.rnL, D.rn, posF, Hp.sel, Blk.rnL, Blk.rn, Tv.rnL, idx, Hp.back, putAt, bakF, hE]; first | done | omega)))
    | ((with_reducible apply s_lkpN); (case h1 | hk => rfl); (case hf | ha => first | rfl | assumption | omega | ((first | refine ⟨?_, ?_⟩ | skip) <;> first | omega | (simp only [lN, D.rnL, D.rn, posF, Hp.sel, Blk.rnL, Blk.rn, Tv.rnL, idx, Hp.back, putAt, bakF, hE] <;> omega)) | (simp [elemsK, D.isVal, D.cells, D.closedL, D.closed, D.rnL, D.rn, posF, Hp.sel, Blk.rnL, Blk.rn, Tv.rnL, idx, Hp.back, putAt, bakF, hE]; first | done | omega)))
    | ((with_reducible apply s_rngM); (case h1 => rfl))
    | with_reducible first | apply cd_dec | apply cd_eq | apply cd_ne | apply cd_split
    | ((with_reducible refine And.intro ?hw ?_); (case hw => first | omega | rfl | exact ⟨_, _, rfl⟩ | assumption | (simp only [lN, D.rnL, D.rn, posF, Hp.sel, Blk.rnL, Blk.rn, Tv.rnL, idx, Hp.back, putAt, bakF, hE] <;> omega)))
    | with_reducible intro _)
  refine swp_weak (weak_trans (weak_keep [0, 4, 5, 10]) (weak_new 5 1 (by decide) true rfl)) ?_
  simp [keepE]
  refine swp_fam [0, 4, 5, 10] (fun V : List Nat => ⟨[amsD l, .undef, .undef, .undef, .mp 0, .gs 0 V.length, .undef, .undef, .undef, .undef, .ptr 1 0, .undef, .undef, .undef, .undef, .undef, .undef], [],
    ⟨[.map E E.length, .miter 0 E.length V E.length], [.chg 1 (strs (V.map kf))]⟩⟩)
    (fun V => V.Nodup ∧ ∀ j ∈ V, j < K.length) (fun V => K.length + 1 - V.length) [] ⟨by simp, by simp⟩ ?_ ?_
  · simp [keepE, St.keep, strs, hE]
  · rintro V ⟨g1, g2⟩
    have hVl := nodup_len K.length V g1 g2
    repeat' (first
    | with_reducible first | apply swp_seq | apply swp_reg | apply swp_regD | apply swp_block | apply swp_exit | apply swp_ret | apply swp_skip | apply swp_cd
    | simp only [go_sem, seval, P12, q12, hE]
    | ((with_reducible apply s_appT); (case he => rfl); (case hK | hc | hr | hV => first | rfl | assumption | omega | ((first | refine ⟨?_, ?_⟩ | skip) <;> first | omega | (simp only [lN] <;> omega)) | (simp [elemsK, D.isVal, D.cells, D.closedL, D.closed]; first | done | omega)))
    | ((with_reducible apply s_appG); (case he => rfl); (case hV | hK | hr | hl => first | rfl | assumption | omega | ((first | refine ⟨?_, ?_⟩ | skip) <;> first | omega | (simp only [lN] <;> omega)) | (simp [elemsK, D.isVal, D.cells, D.closedL, D.closed]; first | done | omega)))
    | ((with_reducible apply s_app0); (case he => rfl); (case hK | hc | hr => first | rfl | assumption | omega | ((first | refine ⟨?_, ?_⟩ | skip) <;> first | omega | (simp only [lN] <;> omega)) | (simp [elemsK, D.isVal, D.cells, D.closedL, D.closed]; first | done | omega)))
    | ((with_reducible apply s_appF); (case he => rfl); (case hK | hc | hr | hx | hn => first | rfl | assumption | omega | ((first | refine ⟨?_, ?_⟩ | skip) <;> first | omega | (simp only [lN] <;> omega)) | (simp [elemsK, D.isVal, D.cells, D.closedL, D.closed]; first | done | omega)))
    | ((with_reducible apply s_bsl); (case he | hl | hc => first | rfl | assumption | omega | ((first | refine ⟨?_, ?_⟩ | skip) <;> first | omega | (simp only [lN] <;> omega)) | (simp [elemsK, D.isVal, D.cells, D.closedL, D.closed]; first | done | omega)))
    | ((with_reducible apply s_lkpS); (case h1 | hk => rfl); (case ha | hf => first | rfl | assumption | omega | ((first | refine ⟨?_, ?_⟩ | skip) <;> first | omega | (simp only [lN] <;> omega)) | (simp [elemsK, D.isVal, D.cells, D.closedL, D.closed]; first | done | omega)))
    | ((with_reducible apply s_lkpN); (case h1 | hk => rfl); (case hf | ha => first | rfl | assumption | omega | ((first | refine ⟨?_, ?_⟩ | skip) <;> first | omega | (simp only [lN] <;> omega)) | (simp [elemsK, D.isVal, D.cells, D.closedL, D.closed]; first | done | omega)))
    | ((with_reducible apply s_rngM); (case h1 => rfl))
    | with_reducible first | apply cd_dec | apply cd_eq | apply cd_ne | apply cd_split
    | ((with_reducible refine And.intro ?hw ?_); (case hw => first | omega | rfl | exact ⟨_, _, rfl⟩ | assumption | (simp only [lN] <;> omega)))
    | with_reducible intro _)
    refine s_nxtM rfl rfl (fun e he => ?_) (Nat.le_refl _) (fun e he hn => ?_) (fun hall => ?_)
    · obtain ⟨j, hj, rfl⟩ := hM e he
      simp only; omega
    · obtain ⟨j, hj, rfl⟩ := hM e he
      simp only at hn ⊢
      have hnd : (E.map (·.2.2)).Nodup := by rw [hBn]; exact List.nodup_range
      have hmem := hM' j hj
      have g1' : (V ++ [j]).Nodup := by
        rw [List.nodup_append]
        exact ⟨g1, by simp, fun a ha b hb e => by simp at hb; subst hb; subst e; exact hn ha⟩
      have g2' : ∀ i ∈ V ++ [j], i < K.length := fun i hi => by
        rcases List.mem_append.1 hi with q | q
        · exact g2 i q
        · simp at q; subst q; exact hj
      have hVl' := nodup_len K.length _ g1' g2'
      have hsl := strs_len (V.map kf)
      rw [List.length_map] at hsl
      repeat' (first
    | with_reducible first | apply swp_seq | apply swp_reg | apply swp_regD | apply swp_block | apply swp_exit | apply swp_ret | apply swp_skip | apply swp_cd
    | simp only [go_sem, seval, P12, q12, hE]
    | ((with_reducible apply s_appT); (case he => rfl); (case hK | hc | hr | hV => first | rfl | assumption | omega | ((first | refine ⟨?_, ?_⟩ | skip) <;> first | omega | (simp only [lN] <;> omega)) | (simp [elemsK, D.isVal, D.cells, D.closedL, D.closed]; first | done | omega)))
    | ((with_reducible apply s_appG); (case he => rfl); (case hV | hK | hr | hl => first | rfl | assumption | omega | ((first | refine ⟨?_, ?_⟩ | skip) <;> first | omega | (simp only [lN] <;> omega)) | (simp [elemsK, D.isVal, D.cells, D.closedL, D.closed]; first | done | omega)))
    | ((with_reducible apply s_app0); (case he => rfl); (case hK | hc | hr => first | rfl | assumption | omega | ((first | refine ⟨?_, ?_⟩ | skip) <;> first | omega | (simp only [lN] <;> omega)) | (simp [elemsK, D.isVal, D.cells, D.closedL, D.closed]; first | done | omega)))
    | ((with_reducible apply s_appF); (case he => rfl); (case hK | hc | hr | hx | hn => first | rfl | assumption | omega | ((first | refine ⟨?_, ?_⟩ | skip) <;> first | omega | (simp only [lN] <;> omega)) | (simp [elemsK, D.isVal, D.cells, D.closedL, D.closed]; first | done | omega)))
    | ((with_reducible apply s_bsl); (case he | hl | hc => first | rfl | assumption | omega | ((first | refine ⟨?_, ?_⟩ | skip) <;> first | omega | (simp only [lN] <;> omega)) | (simp [elemsK, D.isVal, D.cells, D.closedL, D.closed]; first | done | omega)))
    | ((with_reducible apply s_lkpS); (case h1 | hk => rfl); (case ha | hf => first | rfl | assumption | omega | ((first | refine ⟨?_, ?_⟩ | skip) <;> first | omega | (simp only [lN] <;> omega)) | (simp [elemsK, D.isVal, D.cells, D.closedL, D.closed]; first | done | omega)))
    | ((with_reducible apply s_lkpN); (case h1 | hk => rfl); (case hf | ha => first | rfl | assumption | omega | ((first | refine ⟨?_, ?_⟩ | skip) <;> first | omega | (simp only [lN] <;> omega)) | (simp [elemsK, D.isVal, D.cells, D.closedL, D.closed]; first | done | omega)))
    | ((with_reducible apply s_rngM); (case h1 => rfl))
    | with_reducible first | apply cd_dec | apply cd_eq | apply cd_ne | apply cd_split
    | ((with_reducible refine And.intro ?hw ?_); (case hw => first | omega | rfl | exact ⟨_, _, rfl⟩ | assumption | (simp only [lN] <;> omega)))
    | with_reducible intro _)
      refine s_ent rfl rfl hnd hmem ?_
      have hstr : strs (V.map kf ++ [kf j]) = strs (V.map kf) ++ [.str K[j]] := by rw [hkj j hj]; simp [strs]
      generalize strs (V.map kf) = T at *
      repeat' (first
    | with_reducible first | apply swp_seq | apply swp_reg | apply swp_regD | apply swp_block | apply swp_exit | apply swp_ret | apply swp_skip | apply swp_cd
    | simp only [go_sem, seval, P12, q12, hE]
    | ((with_reducible apply s_appT); (case he => rfl); (case hK | hc | hr | hV => first | rfl | assumption | omega | ((first | refine ⟨?_, ?_⟩ | skip) <;> first | omega | (simp only [lN, hsl, roomOk] <;> omega)) | (simp [elemsK, D.isVal, D.cells, D.closedL, D.closed, hsl, roomOk]; first | done | omega)))
    | ((with_reducible apply s_appG); (case he => rfl); (case hV | hK | hr | hl => first | rfl | assumption | omega | ((first | refine ⟨?_, ?_⟩ | skip) <;> first | omega | (simp only [lN, hsl, roomOk] <;> omega)) | (simp [elemsK, D.isVal, D.cells, D.closedL, D.closed, hsl, roomOk]; first | done | omega)))
    | ((with_reducible apply s_app0); (case he => rfl); (case hK | hc | hr => first | rfl | assumption | omega | ((first | refine ⟨?_, ?_⟩ | skip) <;> first | omega | (simp only [lN, hsl, roomOk] <;> omega)) | (simp [elemsK, D.isVal, D.cells, D.closedL, D.closed, hsl, roomOk]; first | done | omega)))
    | ((with_reducible apply s_appF); (case he => rfl); (case hK | hc | hr | hx | hn => first | rfl | assumption | omega | ((first | refine ⟨?_, ?_⟩ | skip) <;> first | omega | (simp only [lN, hsl, roomOk] <;> omega)) | (simp [elemsK, D.isVal, D.cells, D.closedL, D.closed, hsl, roomOk]; first | done | omega)))
    | ((with_reducible apply s_bsl); (case he | hl | hc => first | rfl | assumption | omega | ((first | refine ⟨?_, ?_⟩ | skip) <;> first | omega | (simp only [lN, hsl, roomOk] <;> omega)) | (simp [elemsK, D.isVal, D.cells, D.closedL, D.closed, hsl, roomOk]; first | done | omega)))
    | ((with_reducible apply s_lkpS); (case h1 | hk => rfl); (case ha | hf => first | rfl | assumption | omega | ((first | refine ⟨?_, ?_⟩ | skip) <;> first | omega | (simp only [lN, hsl, roomOk] <;> omega)) | (simp [elemsK, D.isVal, D.cells, D.closedL, D.closed, hsl, roomOk]; first | done | omega)))
    | ((with_reducible apply s_lkpN); (case h1 | hk => rfl); (case hf | ha => first | rfl | assumption | omega | ((first | refine ⟨?_, ?_⟩ | skip) <;> first | omega | (simp only [lN, hsl, roomOk] <;> omega)) | (simp [elemsK, D.isVal, D.cells, D.closedL, D.closed, hsl, roomOk]; first | done | omega)))
    | ((with_reducible apply s_rngM); (case h1 => rfl))
    | with_reducible first | apply cd_dec | apply cd_eq | apply cd_ne | apply cd_split
    | ((with_reducible refine And.intro ?hw ?_); (case hw => first | omega | rfl | exact ⟨_, _, rfl⟩ | assumption | (simp only [lN, hsl, roomOk] <;> omega)))
    | with_reducible intro _)
      all_goals refine ⟨V ++ [j], ⟨g1', g2'⟩, by simp at hVl' ⊢; omega, ?_⟩
      all_goals simp [keepE, St.keep, hstr]
    · have hp := hperm V g1 g2 (fun j hj => hall _ (hM' j hj))
      have hVe : (V.map kf).length = V.length := by simp
      generalize (V.map kf) = N at *
      have hso := (sorted_perm N).length_eq
      have hrs := fun β τ => rnL_strs β τ N
      by_cases hz : V = []
      · subst hz
        have hN : N = [] := List.eq_nil_of_length_eq_zero (by simpa using hVe)
        subst hN
        have c2 := strings_nil
        have hsn : sorted ([] : List Tx) = [] := by simp [sorted]
        rw [hsn] at hp
        rw [← hp] at hfin
        have ht := htail [] (by simp) (by simp) (.slice [] .no) (.miter 0 E.length [] E.length) (by simp [Blk.rn]) (.inr ⟨rfl, rfl⟩) .undef
        rw [hfin] at ht
        generalize hT : (RC.seq (.reg r12_8) (.seq (.seq (.reg r12_9) (.block 2 (.loop (.seq (.reg r12_10) (.seq (.cond (.var 15) .skip (.exit 2)) (.seq (.block 3 (.seq (.reg r12_11) (.seq (.reg r12_12) (.seq (.reg r12_13) (.cond (.var 16) (.reg r12_14) .skip))))) (.reg r12_15))))))) (.seq (.reg r12_16) .ret))) = TL at *
        generalize hT0 : (RC.seq (.reg r12_7) TL) = T0 at *
        repeat' (first
    | with_reducible first | apply swp_seq | apply swp_reg | apply swp_regD | apply swp_block | apply swp_exit | apply swp_ret | apply swp_skip | apply swp_cd
    | simp only [go_sem, seval, P12, q12]
    | ((with_reducible apply s_appT); (case he => rfl); (case hK | hc | hr | hV => first | rfl | assumption | omega | ((first | refine ⟨?_, ?_⟩ | skip) <;> first | omega | (simp only [lN] <;> omega)) | (simp [elemsK, D.isVal, D.cells, D.closedL, D.closed]; first | done | omega)))
    | ((with_reducible apply s_appG); (case he => rfl); (case hV | hK | hr | hl => first | rfl | assumption | omega | ((first | refine ⟨?_, ?_⟩ | skip) <;> first | omega | (simp only [lN] <;> omega)) | (simp [elemsK, D.isVal, D.cells, D.closedL, D.closed]; first | done | omega)))
    | ((with_reducible apply s_app0); (case he => rfl); (case hK | hc | hr => first | rfl | assumption | omega | ((first | refine ⟨?_, ?_⟩ | skip) <;> first | omega | (simp only [lN] <;> omega)) | (simp [elemsK, D.isVal, D.cells, D.closedL, D.closed]; first | done | omega)))
    | ((with_reducible apply s_appF); (case he => rfl); (case hK | hc | hr | hx | hn => first | rfl | assumption | omega | ((first | refine ⟨?_, ?_⟩ | skip) <;> first | omega | (simp only [lN] <;> omega)) | (simp [elemsK, D.isVal, D.cells, D.closedL, D.closed]; first | done | omega)))
    | ((with_reducible apply s_bsl); (case he | hl | hc => first | rfl | assumption | omega | ((first | refine ⟨?_, ?_⟩ | skip) <;> first | omega | (simp only [lN] <;> omega)) | (simp [elemsK, D.isVal, D.cells, D.closedL, D.closed]; first | done | omega)))
    | ((with_reducible apply s_lkpS); (case h1 | hk => rfl); (case ha | hf => first | rfl | assumption | omega | ((first | refine ⟨?_, ?_⟩ | skip) <;> first | omega | (simp only [lN] <;> omega)) | (simp [elemsK, D.isVal, D.cells, D.closedL, D.closed]; first | done | omega)))
    | ((with_reducible apply s_lkpN); (case h1 | hk => rfl); (case hf | ha => first | rfl | assumption | omega | ((first | refine ⟨?_, ?_⟩ | skip) <;> first | omega | (simp only [lN] <;> omega)) | (simp [elemsK, D.isVal, D.cells, D.closedL, D.closed]; first | done | omega)))
    | ((with_reducible apply s_rngM); (case h1 => rfl))
    | with_reducible first | apply cd_dec | apply cd_eq | apply cd_ne | apply cd_split
    | ((with_reducible refine And.intro ?hw ?_); (case hw => first | omega | rfl | exact ⟨_, _, rfl⟩ | assumption | (simp only [lN] <;> omega)))
    | with_reducible intro _)
        subst hT0
        refine swp_weak (weak_keep [0, 4, 5]) ?_
        simp only [keepE]
        refine swp_weak (weak_frzT 0 1 0 [] rfl rfl (by unfold C12 E12; exact Nat.le_refl 0) rfl rfl) ?_
        simp [St.frzT, keepE, D.fzt, chunk, Blk.mapD, hF]
        repeat' (first
    | with_reducible first | apply swp_seq | apply swp_reg | apply swp_regD | apply swp_block | apply swp_exit | apply swp_ret | apply swp_skip | apply swp_cd
    | simp only [go_sem, seval, P12, q12]
    | ((with_reducible refine o_call (c2) ?he ?hc ?_); (case he | hc => first | rfl | (simp [D.erL, D.er, D.closedL, D.closed]; done)))
    | ((with_reducible apply s_appT); (case he => rfl); (case hK | hc | hr | hV => first | rfl | assumption | omega | ((first | refine ⟨?_, ?_⟩ | skip) <;> first | omega | (simp only [lN] <;> omega)) | (simp [elemsK, D.isVal, D.cells, D.closedL, D.closed]; first | done | omega)))
    | ((with_reducible apply s_appG); (case he => rfl); (case hV | hK | hr | hl => first | rfl | assumption | omega | ((first | refine ⟨?_, ?_⟩ | skip) <;> first | omega | (simp only [lN] <;> omega)) | (simp [elemsK, D.isVal, D.cells, D.closedL, D.closed]; first | done | omega)))
    | ((with_reducible apply s_app0); (case he => rfl); (case hK | hc | hr => first | rfl | assumption | omega | ((first | refine ⟨?_, ?_⟩ | skip) <;> first | omega | (simp only [lN] <;> omega)) | (simp [elemsK, D.isVal, D.cells, D.closedL, D.closed]; first | done | omega)))
    | ((with_reducible apply s_appF); (case he => rfl); (case hK | hc | hr | hx | hn => first | rfl | assumption | omega | ((first | refine ⟨?_, ?_⟩ | skip) <;> first | omega | (simp only [lN] <;> omega)) | (simp [elemsK, D.isVal, D.cells, D.closedL, D.closed]; first | done | omega)))
    | ((with_reducible apply s_bsl); (case he | hl | hc => first | rfl | assumption | omega | ((first | refine ⟨?_, ?_⟩ | skip) <;> first | omega | (simp only [lN] <;> omega)) | (simp [elemsK, D.isVal, D.cells, D.closedL, D.closed]; first | done | omega)))
    | ((with_reducible apply s_lkpS); (case h1 | hk => rfl); (case ha | hf => first | rfl | assumption | omega | ((first | refine ⟨?_, ?_⟩ | skip) <;> first | omega | (simp only [lN] <;> omega)) | (simp [elemsK, D.isVal, D.cells, D.closedL, D.closed]; first | done | omega)))
    | ((with_reducible apply s_lkpN); (case h1 | hk => rfl); (case hf | ha => first | rfl | assumption | omega | ((first | refine ⟨?_, ?_⟩ | skip) <;> first | omega | (simp only [lN] <;> omega)) | (simp [elemsK, D.isVal, D.cells, D.closedL, D.closed]; first | done | omega)))
    | ((with_reducible apply s_rngM); (case h1 => rfl))
    | with_reducible first | apply cd_dec | apply cd_eq | apply cd_ne | apply cd_split
    | ((with_reducible refine And.intro ?hw ?_); (case hw => first | omega | rfl | exact ⟨_, _, rfl⟩ | assumption | (simp only [lN] <;> omega)))
    | with_reducible intro _)
        refine swp_weak (weak_keep [0, 4, 5]) ?_
        simp only [keepE]
        refine swp_weak (weak_gc 2 0 (by unfold C12 E12; exact Nat.zero_le _) (by unfold C12 E12; exact Nat.le_refl 0)) ?_
        simp [St.gc, Hp.cut, D.rnL, D.rn, cutF, Blk.rn, Blk.rnL, Tv.rnL, Own.rn, pairs, hE]
        exact ht
      · have hVp : 0 < V.length := List.length_pos_iff.2 hz
        generalize hT : (RC.seq (.reg r12_8) (.seq (.seq (.reg r12_9) (.block 2 (.loop (.seq (.reg r12_10) (.seq (.cond (.var 15) .skip (.exit 2)) (.seq (.block 3 (.seq (.reg r12_11) (.seq (.reg r12_12) (.seq (.reg r12_13) (.cond (.var 16) (.reg r12_14) .skip))))) (.reg r12_15))))))) (.seq (.reg r12_16) .ret))) = TL at *
        generalize hT0 : (RC.seq (.reg r12_7) TL) = T0 at *
        repeat' (first
    | with_reducible first | apply swp_seq | apply swp_reg | apply swp_regD | apply swp_block | apply swp_exit | apply swp_ret | apply swp_skip | apply swp_cd
    | simp only [go_sem, seval, P12, q12]
    | ((with_reducible apply s_appT); (case he => rfl); (case hK | hc | hr | hV => first | rfl | assumption | omega | ((first | refine ⟨?_, ?_⟩ | skip) <;> first | omega | (simp only [lN] <;> omega)) | (simp [elemsK, D.isVal, D.cells, D.closedL, D.closed]; first | done | omega)))
    | ((with_reducible apply s_appG); (case he => rfl); (case hV | hK | hr | hl => first | rfl | assumption | omega | ((first | refine ⟨?_, ?_⟩ | skip) <;> first | omega | (simp only [lN] <;> omega)) | (simp [elemsK, D.isVal, D.cells, D.closedL, D.closed]; first | done | omega)))
    | ((with_reducible apply s_app0); (case he => rfl); (case hK | hc | hr => first | rfl | assumption | omega | ((first | refine ⟨?_, ?_⟩ | skip) <;> first | omega | (simp only [lN] <;> omega)) | (simp [elemsK, D.isVal, D.cells, D.closedL, D.closed]; first | done | omega)))
    | ((with_reducible apply s_appF); (case he => rfl); (case hK | hc | hr | hx | hn => first | rfl | assumption | omega | ((first | refine ⟨?_, ?_⟩ | skip) <;> first | omega | (simp only [lN] <;> omega)) | (simp [elemsK, D.isVal, D.cells, D.closedL, D.closed]; first | done | omega)))
    | ((with_reducible apply s_bsl); (case he | hl | hc => first | rfl | assumption | omega | ((first | refine ⟨?_, ?_⟩ | skip) <;> first | omega | (simp only [lN] <;> omega)) | (simp [elemsK, D.isVal, D.cells, D.closedL, D.closed]; first | done | omega)))
    | ((with_reducible apply s_lkpS); (case h1 | hk => rfl); (case ha | hf => first | rfl | assumption | omega | ((first | refine ⟨?_, ?_⟩ | skip) <;> first | omega | (simp only [lN] <;> omega)) | (simp [elemsK, D.isVal, D.cells, D.closedL, D.closed]; first | done | omega)))
    | ((with_reducible apply s_lkpN); (case h1 | hk => rfl); (case hf | ha => first | rfl | assumption | omega | ((first | refine ⟨?_, ?_⟩ | skip) <;> first | omega | (simp only [lN] <;> omega)) | (simp [elemsK, D.isVal, D.cells, D.closedL, D.closed]; first | done | omega)))
    | ((with_reducible apply s_rngM); (case h1 => rfl))
    | with_reducible first | apply cd_dec | apply cd_eq | apply cd_ne | apply cd_split
    | ((with_reducible refine And.intro ?hw ?_); (case hw => first | omega | rfl | exact ⟨_, _, rfl⟩ | assumption | (simp only [lN] <;> omega)))
    | with_reducible intro _)
        subst hT0
        refine swp_weak (weak_keep [0, 4, 5]) ?_
        simp only [keepE]
        refine swp_weak (weak_sel [0] [0] ⟨by simp, by simp, by simp, by simp⟩ (by unfold C12 E12; rfl) (by unfold C12 E12; rfl)) ?_
        simp [St.sel, Hp.sel, keepE, D.rnL, D.rn, posF, idx, Blk.rn, Blk.rnL, Tv.rnL, Tv.rn, Own.rn, pairs, hE, hrs]
        refine swp_sl 5 0 1 V.length (strs N) rfl rfl (by rw [strs_len, hVe, Nat.mul_one]) (by unfold C12 E12; rfl) hVp fun cap h1 => ?_
        simp only [St.toSl, List.set_cons_zero, List.set_cons_succ, List.length_cons, List.length_nil, List.nil_append, List.cons_append, Nat.mul_one]
        have hu : List.replicate (cap - V.length) D.undef = und (cap - V.length) := rfl
        rw [hu]
        have c2 := strings_e N (und (cap - V.length)) V.length cap hVe.symm (by rw [und_len]; omega) (by omega)
        have hr1 := fun β τ => rnL_su β τ N (cap - V.length)
        have hr2 := fun β τ => rnL_su β τ (sorted N) (cap - V.length)
        repeat' (first
    | with_reducible first | apply swp_seq | apply swp_reg | apply swp_regD | apply swp_block | apply swp_exit | apply swp_ret | apply swp_skip | apply swp_cd
    | simp only [go_sem, seval, P12, q12]
    | ((with_reducible refine o_eff [1] [] (c2) ?hs ?he ?hh ?_); (case hs => exact ⟨by simp, by simp, by simp, by simp⟩); (case he => first | rfl | (simp [go_sem, seval, D.rnL, D.rn, posF, Hp.sel, Blk.rnL, Blk.rn, Tv.rnL, idx, Hp.back, putAt, bakF, hr1, hr2]; done)); (case hh => first | rfl | (simp [go_sem, seval, D.rnL, D.rn, posF, Hp.sel, Blk.rnL, Blk.rn, Tv.rnL, idx, Hp.back, putAt, bakF, hr1, hr2]; done)); rintro _ _ ⟨rfl, rfl⟩)
    | ((with_reducible apply s_appT); (case he => rfl); (case hK | hc | hr | hV => first | rfl | assumption | omega | ((first | refine ⟨?_, ?_⟩ | skip) <;> first | omega | (simp only [lN, D.rnL, D.rn, posF, Hp.sel, Blk.rnL, Blk.rn, Tv.rnL, idx, Hp.back, putAt, bakF, hr1, hr2] <;> omega)) | (simp [elemsK, D.isVal, D.cells, D.closedL, D.closed, D.rnL, D.rn, posF, Hp.sel, Blk.rnL, Blk.rn, Tv.rnL, idx, Hp.back, putAt, bakF, hr1, hr2]; first | done | omega)))
    | ((with_reducible apply s_appG); (case he => rfl); (case hV | hK | hr | hl => first | rfl | assumption | omega | ((first | refine ⟨?_, ?_⟩ | skip) <;> first | omega | (simp only [lN, D.rnL, D.rn, posF, Hp.sel, Blk.rnL, Blk.rn, Tv.rnL, idx, Hp.back, putAt, bakF, hr1, hr2] <;> omega)) | (simp [elemsK, D.isVal, D.cells, D.closedL, D.closed, D.rnL, D.rn, posF, Hp.sel, Blk.rnL, Blk.rn, Tv.rnL, idx, Hp.back, putAt, bakF, hr1, hr2]; first | done | omega)))
    | ((with_reducible apply s_app0); (case he => rfl); (case hK | hc | hr => first | rfl | assumption | omega | ((first | refine ⟨?_, ?_⟩ | skip) <;> first | omega | (simp only [lN, D.rnL, D.rn, posF, Hp.sel, Blk.rnL, Blk.rn, Tv.rnL, idx, Hp.back, putAt, bakF, hr1, hr2] <;> omega)) | (simp [elemsK, D.isVal, D.cells, D.closedL, D.closed, D.rnL, D.rn, posF, Hp.sel, Blk.rnL, Blk.rn, Tv.rnL, idx, Hp.back, putAt, bakF, hr1, hr2]; first | done | omega)))
    | ((with_reducible apply s_appF); (case he => rfl); (case hK | hc | hr | hx | hn => first | rfl | assumption | omega | ((first | refine ⟨?_, ?_⟩ | skip) <;> first | omega | (simp only [lN, D.rnL, D.rn, posF, Hp.sel, Blk.rnL, Blk.rn, Tv.rnL, idx, Hp.back, putAt, bakF, hr1, hr2] <;> omega)) | (simp [elemsK, D.isVal, D.cells, D.closedL, D.closed, D.rnL, D.rn, posF, Hp.sel, Blk.rnL, Blk.rn, Tv.rnL, idx, Hp.back, putAt, bakF, hr1, hr2]; first | done | omega)))
    | ((with_reducible apply s_bsl); (case he | hl | hc => first | rfl | assumption | omega | ((first | refine ⟨?_, ?_⟩ | skip) <;> first | omega | (simp only [lN, D.rnL, D.rn, posF, Hp.sel, Blk.rnL, Blk.rn, Tv.rnL, idx, Hp.back, putAt, bakF, hr1, hr2] <;> omega)) | (simp [elemsK, D.isVal, D.cells, D.closedL, D.closed, D.rnL, D.rn, posF, Hp.sel, Blk.rnL, Blk.rn, Tv.rnL, idx, Hp.back, putAt, bakF, hr1, hr2]; first | done | omega)))
    | ((with_reducible apply s_lkpS); (case h1 | hk => rfl); (case ha | hf => first | rfl | assumption | omega | ((first | refine ⟨?_, ?_⟩ | skip) <;> first | omega | (simp only [lN, D.rnL, D.rn, posF, Hp.sel, Blk.rnL, Blk.rn, Tv.rnL, idx, Hp.back, putAt, bakF, hr1, hr2] <;> omega)) | (simp [elemsK, D.isVal, D.cells, D.closedL, D.closed, D.rnL, D.rn, posF, Hp.sel, Blk.rnL, Blk.rn, Tv.rnL, idx, Hp.back, putAt, bakF, hr1, hr2]; first | done | omega)))
    | ((with_reducible apply s_lkpN); (case h1 | hk => rfl); (case hf | ha => first | rfl | assumption | omega | ((first | refine ⟨?_, ?_⟩ | skip) <;> first | omega | (simp only [lN, D.rnL, D.rn, posF, Hp.sel, Blk.rnL, Blk.rn, Tv.rnL, idx, Hp.back, putAt, bakF, hr1, hr2] <;> omega)) | (simp [elemsK, D.isVal, D.cells, D.closedL, D.closed, D.rnL, D.rn, posF, Hp.sel, Blk.rnL, Blk.rn, Tv.rnL, idx, Hp.back, putAt, bakF, hr1, hr2]; first | done | omega)))
    | ((with_reducible apply s_rngM); (case h1 => rfl))
    | with_reducible first | apply cd_dec | apply cd_eq | apply cd_ne | apply cd_split
    | ((with_reducible refine And.intro ?hw ?_); (case hw => first | omega | rfl | exact ⟨_, _, rfl⟩ | assumption | (simp only [lN, D.rnL, D.rn, posF, Hp.sel, Blk.rnL, Blk.rn, Tv.rnL, idx, Hp.back, putAt, bakF, hr1, hr2] <;> omega)))
    | with_reducible intro _)
        have hVK : V.length = (sorted K).length := by rw [← hp, hso, hVe]
        rw [hp] at hr2
        have ht := htail (sorted K) hsub (by omega) (.sl 1 1 0 (sorted K).length cap) (.cells (strs (sorted K) ++ und (cap - (sorted K).length))) (by rw [hVK] at hr2; simp [Blk.rn, hr2]) (.inl ⟨cap, rfl, by omega, rfl⟩) .undef
        rw [hfin, ← hVK] at ht
        refine swp_weak (weak_keep [0, 4, 5]) ?_
        simp [keepE, Hp.back, putAt, bakF, D.rnL, D.rn, posF, idx, Blk.rn, Blk.rnL, Tv.rnL, Own.rn, pairs, hE, hp, hr2]
        refine swp_weak (weak_gc 2 0 (by unfold C12 E12; exact Nat.zero_le _) (by unfold C12 E12; exact Nat.le_refl 0)) ?_
        simp [St.gc, Hp.cut, D.rnL, D.rn, cutF, Blk.rn, Blk.rnL, Tv.rnL, Own.rn, pairs, hE, hr2]
        exact ht
end Go.Proofs.Ytnooagipikedeaa
end
