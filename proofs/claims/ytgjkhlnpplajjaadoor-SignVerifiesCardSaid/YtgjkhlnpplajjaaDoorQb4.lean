/- Own texts, merged by a program: the engine that walks the code, and what the functions that the law reaches compute. -/
import Derived.Test.YtgjkhlnpplajjaaDoorQb3
import Derived.Test.YtgjkhlnpplajjaaDoorProg
import Derived.KernelRfl
import Derived.Lib.ItoaNum
section
set_option maxRecDepth 100000
set_option linter.unusedSimpArgs false
set_option linter.unusedVariables false
namespace Go.Proofs.YtgjkhlnpplajjaaDoor
open Go GoV Go.RowKit
theorem closed_strs : ∀ l : List (List UInt8), D.closedL (strs l) = true
  | [] => rfl
  | a :: l => by simp only [strs, List.map_cons, D.closedL, D.closed, Bool.true_and]; exact closed_strs l
def outK (s : List UInt8) (N i : Nat) : List (List UInt8) := keys s i ++ List.replicate (N - i) []
theorem outK_len {s : List UInt8} {N i : Nat} (h : i ≤ N) : (outK s N i).length = N := by simp [outK, keys_len]; omega
theorem outK_end (s : List UInt8) (N : Nat) : outK s N N = keys s N := by simp [outK]
theorem outK_set {s : List UInt8} {N i : Nat} (h : i < N) : (strs (outK s N i)).set i (.str (key s i)) = strs (outK s N (i + 1)) := by
  have h1 : N - i = (N - (i + 1)) + 1 := by omega
  have h2 : (strs (keys s i)).length = i := by rw [strs_len, keys_len]
  unfold outK
  rw [h1, List.replicate_succ, strs_app, strs_app, List.set_append_right _ _ (by omega), h2, Nat.sub_self]
  have : strs (keys s (i + 1)) = strs (keys s i) ++ [.str (key s i)] := by simp [keys, List.range_succ]
  rw [this]
  simp
theorem zeros_strs : ∀ N : Nat, zeros [.str []] N = strs (List.replicate N [])
  | 0 => rfl
  | N + 1 => by simp [zeros, zeros_strs N, List.replicate_succ]
theorem chunk_strs : ∀ l : List (List UInt8), chunk 1 l.length (strs l) = strs l
  | [] => rfl
  | a :: l => by
    simp only [List.length_cons, strs, List.map_cons, chunk]
    have := chunk_strs l
    simp only [strs] at this
    simp [this]
theorem elems_strs : ∀ l : List (List UInt8), elemsK 1 (strs l) = true
  | [] => rfl
  | a :: l => by
    have := elems_strs l
    simp only [strs, List.map_cons, elemsK] at this ⊢
    simpa [D.isVal, D.cells] using this
theorem shl_one {h : Nat} (hh : h ≤ 40) : IntKind.i64.wrap (1 * 2 ^ (min h 64)) = ((2 ^ h : Nat) : Int) := by
  have h2 : 2 ^ h ≤ 2 ^ 40 := Nat.pow_le_pow_right (by omega) hh
  have h3 : (2 : Nat) ^ 40 = 1099511627776 := by decide
  rw [Nat.min_eq_left (by omega), Int.one_mul]
  have h4 : (2 : Int) ^ h = ((2 ^ h : Nat) : Int) := by simp
  rw [h4]
  generalize 2 ^ h = N at *
  rw [w64 (by omega) (by omega)]
set_option maxHeartbeats 1000000 in
theorem keys_p (s : List UInt8) (h : Nat) (hs : s.length ≤ 300) (hh : h ≤ 8) : Pur M 26 [.str s, .int .i64 (h : Nat)] (.slice (strs (keys s (2 ^ h))) .no) := by
  refine ow26 rfl ?_
  rw [i26]
  unfold c26
  have hw := shl_one (h := h) (by omega)
  have hp : 2 ^ h ≤ 2 ^ 8 := Nat.pow_le_pow_right (by omega) hh
  have h4 : (2 : Nat) ^ 8 = 256 := by decide
  rw [h4] at hp
  generalize 2 ^ h = N at *
  have hz := zeros_strs N
  repeat' (first
    | with_reducible first | apply swp_seq | apply swp_reg | apply swp_regD | apply swp_block | apply swp_exit | apply swp_ret | apply swp_skip | apply swp_cd
    | simp only [go_sem, Nat.reduceAdd, Nat.reduceSub, Nat.reduceMul, Nat.reduceEqDiff, Nat.reduceLeDiff, Nat.reduceLT, Int.reduceEq, Int.reduceNe, Int.reduceLT, Int.reduceLE, Int.reduceAdd, Int.reduceSub, Int.reduceMul, Int.reduceNeg, Int.reduceToNat, Int.reduceTDiv, Int.reduceTMod, Int.reduceBEq, Int.reduceBNe, decide_true, decide_false, reduceCtorEq, reduceIte, P26, q26, hw, hz]
    | simp (disch := omega) only [w64, w32, wu8, wu16, wu32, wu64]
    | ((with_reducible apply s_mks); (case h0 | h1 | h2 => first | rfl | assumption | omega | ((first | refine ⟨?_, ?_⟩ | skip) <;> first | omega | (simp only [lN1, lN2, lN3, lN4, lN5, lN6, lN7] <;> omega)) | (simp [elemsK, D.isVal, D.cells, D.closedL, D.closed]; first | done | omega)))
    | with_reducible first | apply cd_dec | apply cd_eq | apply cd_ne | apply cd_split
    | ((with_reducible refine And.intro ?hw ?_); (case hw => first | omega | rfl | exact ⟨_, _, rfl⟩ | assumption | (simp only [lN1, lN2, lN3, lN4, lN5, lN6, lN7] <;> omega)))
    | with_reducible intro _)
  all_goals try omega
  refine swp_fam [0, 1, 2, 3, 5, 6] (fun i : Nat => ⟨[.str s, .int .i64 (h : Nat), .lit (.slice none 0 0), .sl 0 1 0 N N, .undef, .int .i64 (N : Nat), .int .i64 (i : Nat), .undef], [], ⟨[.cells (strs (outK s N i))], []⟩⟩)
    (fun i => i ≤ N) (fun i => N - i) 0 (by omega) ?_ ?_
  · simp [keepE, St.keep, outK, keys]
  · intro i hi
    have hol := outK_len (s := s) hi
    have hsl : (strs (outK s N i)).length = N := by rw [strs_len, hol]
    by_cases hlt : i < N
    · have h1 := key_p s i hs (by omega)
      have hset := outK_set (s := s) hlt
      have t1 : ((i : Nat) : Int).toNat = i := Int.toNat_natCast i
      generalize hO : strs (outK s N i) = O at *
      generalize hO' : strs (outK s N (i + 1)) = O' at *
      generalize hk : key s i = kk at *
      repeat' (first
    | with_reducible first | apply swp_seq | apply swp_reg | apply swp_regD | apply swp_block | apply swp_exit | apply swp_ret | apply swp_skip | apply swp_cd
    | simp only [go_sem, Nat.reduceAdd, Nat.reduceSub, Nat.reduceMul, Nat.reduceEqDiff, Nat.reduceLeDiff, Nat.reduceLT, Int.reduceEq, Int.reduceNe, Int.reduceLT, Int.reduceLE, Int.reduceAdd, Int.reduceSub, Int.reduceMul, Int.reduceNeg, Int.reduceToNat, Int.reduceTDiv, Int.reduceTMod, Int.reduceBEq, Int.reduceBNe, decide_true, decide_false, reduceCtorEq, reduceIte, P26, q26, t1, hset]
    | simp (disch := omega) only [w64, w32, wu8, wu16, wu32, wu64]
    | ((with_reducible refine o_call (h1) ?he ?hc ?_); (case he | hc => first | rfl | (simp [D.erL, D.er, D.closedL, D.closed, hsl]; done)))
    | ((with_reducible apply s_mks); (case h0 | h1 | h2 => first | rfl | assumption | omega | ((first | refine ⟨?_, ?_⟩ | skip) <;> first | omega | (simp only [lN1, lN2, lN3, lN4, lN5, lN6, lN7, hsl] <;> omega)) | (simp [elemsK, D.isVal, D.cells, D.closedL, D.closed, hsl]; first | done | omega)))
    | with_reducible first | apply cd_dec | apply cd_eq | apply cd_ne | apply cd_split
    | ((with_reducible refine And.intro ?hw ?_); (case hw => first | omega | rfl | exact ⟨_, _, rfl⟩ | assumption | (simp only [lN1, lN2, lN3, lN4, lN5, lN6, lN7, hsl] <;> omega)))
    | with_reducible intro _)
      all_goals try omega
      refine ⟨i + 1, by omega, by omega, ?_⟩
      rw [hO']
      simp [keepE, St.keep, -List.map_set, t1, hset]
    · have e : i = N := by omega
      subst e
      rw [outK_end] at *
      have hch := chunk_strs (keys s i)
      rw [keys_len] at hch
      have hel := elems_strs (keys s i)
      have hcl := closed_strs (keys s i)
      have her := erL_strs (keys s i)
      generalize hO : strs (keys s i) = O at *
      repeat' (first
    | with_reducible first | apply swp_seq | apply swp_reg | apply swp_regD | apply swp_block | apply swp_exit | apply swp_ret | apply swp_skip | apply swp_cd
    | simp only [go_sem, Nat.reduceAdd, Nat.reduceSub, Nat.reduceMul, Nat.reduceEqDiff, Nat.reduceLeDiff, Nat.reduceLT, Int.reduceEq, Int.reduceNe, Int.reduceLT, Int.reduceLE, Int.reduceAdd, Int.reduceSub, Int.reduceMul, Int.reduceNeg, Int.reduceToNat, Int.reduceTDiv, Int.reduceTMod, Int.reduceBEq, Int.reduceBNe, decide_true, decide_false, reduceCtorEq, reduceIte, P26, q26]
    | simp (disch := omega) only [w64, w32, wu8, wu16, wu32, wu64]
    | ((with_reducible apply s_mks); (case h0 | h1 | h2 => first | rfl | assumption | omega | ((first | refine ⟨?_, ?_⟩ | skip) <;> first | omega | (simp only [lN1, lN2, lN3, lN4, lN5, lN6, lN7] <;> omega)) | (simp [elemsK, D.isVal, D.cells, D.closedL, D.closed]; first | done | omega)))
    | with_reducible first | apply cd_dec | apply cd_eq | apply cd_ne | apply cd_split
    | ((with_reducible refine And.intro ?hw ?_); (case hw => first | omega | rfl | exact ⟨_, _, rfl⟩ | assumption | (simp only [lN1, lN2, lN3, lN4, lN5, lN6, lN7] <;> omega)))
    | with_reducible intro _)
      all_goals try omega
      refine ⟨_, weak_trans (weak_keep [2, 3]) (weak_frz 0 O rfl (Nat.le_refl 0) hcl), ?_⟩
      rw [her]
      simp [St.frz, keepE, D.fz, hch, D.closed, D.er, hcl, her, hel, hsl]
end Go.Proofs.YtgjkhlnpplajjaaDoor
end
section
set_option maxRecDepth 100000
namespace Go.Proofs.YtgjkhlnpplajjaaDoor
open Go GoV
/- 27 bogie.sign.above · 1 arguments · kept slots [0, 2, 3, 4, 6, 7] -/
noncomputable def E27 (n m : Nat) : Cfg := ⟨M, [0, 2, 3, 4, 6, 7], 19, n, m, []⟩
noncomputable def C27 : Cfg := E27 0 0
@[reducible] noncomputable def r27_0 : List RO := [
  ⟨.var 1, .mv, [(.con (.lit (.slice none 0 0)))], none⟩]
@[reducible] noncomputable def r27_1 : List RO := [
  ⟨.var 2, (.newb [(.lit (.slice none 0 0))]), [], none⟩]
@[reducible] noncomputable def r27_2 : List RO := [
  ⟨.loc 5, .mv, [.var 0], none⟩,
  ⟨.var 4, .call, [(.con (.fn (.func 53) [] [])), .loc 5, .con (.int .i64 2)], none⟩]
@[reducible] noncomputable def r27_3 : List RO := [
  ⟨.var 3, .mv, [.var 5], none⟩]
@[reducible] noncomputable def r27_4 : List (RO × Bool) := [
  (⟨.loc 8, .ld false 1, [.var 2], none⟩, true),
  (⟨.loc 9, .mv, [.var 3], none⟩, true),
  (⟨.loc 10, .ixaS 1, [.loc 9, .con (.int .i64 0)], none⟩, true),
  (⟨.loc 11, .ld false 1, [.loc 10], none⟩, true),
  (⟨.loc 12, .mv, [.var 3], none⟩, true),
  (⟨.loc 13, .ixaS 1, [.loc 12, .con (.int .i64 1)], none⟩, true),
  (⟨.loc 14, .ld false 1, [.loc 13], none⟩, true),
  (⟨.loc 15, .call, [(.con (.fn (.func 42) [] [])), .loc 11, .loc 14, .con (.bool false)], none⟩, true),
  (⟨.loc 16, .bsl 1, [.loc 15], none⟩, true)]
@[reducible] noncomputable def r27_5 : List RO := [
  ⟨.loc 17, .app 1 16 9, [.loc 8, .loc 16], none⟩,
  ⟨.none, .st 1, [.var 2, .loc 17], none⟩]
@[reducible] noncomputable def r27_6 : List RO := [
  ⟨.loc 18, .ld false 1, [.var 2], none⟩,
  ⟨.var 1, .mv, [.loc 18], none⟩]
theorem P27 : C27.M = M := by unfold C27 E27; rfl
theorem i27 {a0 : D} : St.init C27 [a0] ⟨[], []⟩ = ⟨[a0, .undef, .undef, .undef, .undef, .undef], [], ⟨[], []⟩⟩ := by unfold C27 E27; rfl
noncomputable def c27 : RC := (.seq (.reg r27_0) (.seq (.reg r27_1) (.seq (.seq (.reg r27_2) (.block 0 (.rangeF (.var 4) [(.var 5)] (.reg r27_3) (.block 1 (.regD r27_4 r27_5))))) (.seq (.reg r27_6) .ret))))
noncomputable def q27 : List RR := [(.slot (.var 1))]
theorem z27 {n m : Nat} : resCode (E27 n m) (Tryd.f27.body.getD .skip) = some c27 := by kernel_rfl
theorem zr27 {n m : Nat} : resRs (E27 n m) Tryd.f27.results.toList = some q27 := by kernel_rfl
theorem oT27 {args : List D} {d : D} (hl : args.length = 1) (h : TWp C27 0 0 c27 (fun e n m s => (match e with | .exit _ => False | _ => True) ∧ ∃ s1, (∀ ds, Weak { C27 with n0 := n, m0 := m, dfs := ds } s s1) ∧ rrsWp q27 s1 fun ds => D.closed (oneOrTup ds) = true ∧ (oneOrTup ds).er = d) (St.init C27 args ⟨[], []⟩)) : Pur M 27 args d :=
  pur_of_bodyT (C := C27) (fn := Tryd.f27) Tryd.func27 (by kernel_rfl) (by kernel_rfl) (rc := c27) z27 (rs := q27) zr27 (by kernel_rfl) (by rw [hl]; rfl) (by rw [hl]; decide) rfl rfl h
/- 30 bogie.sign.digits · 1 arguments · kept slots [0, 1, 2] -/
noncomputable def E30 (n m : Nat) : Cfg := ⟨M, [0, 1, 2], 4, n, m, []⟩
noncomputable def C30 : Cfg := E30 0 0
@[reducible] noncomputable def r30_0 : List RO := [
  ⟨.var 1, .box, [.var 0], none⟩,
  ⟨.var 2, .mv, [(.con (.lit .nilFunc))], none⟩]
@[reducible] noncomputable def r30_1 : List RO := [
  ⟨.loc 3, (.mkF (.func 56) 0), [.var 1], none⟩,
  ⟨.var 2, .mv, [.loc 3], none⟩]
theorem P30 : C30.M = M := by unfold C30 E30; rfl
theorem i30 {a0 : D} : St.init C30 [a0] ⟨[], []⟩ = ⟨[a0, .undef, .undef], [], ⟨[], []⟩⟩ := by unfold C30 E30; rfl
noncomputable def c30 : RC := (.seq (.reg r30_0) (.seq (.reg r30_1) .ret))
noncomputable def q30 : List RR := [(.slot (.var 2))]
theorem z30 {n m : Nat} : resCode (E30 n m) (Tryd.f30.body.getD .skip) = some c30 := by kernel_rfl
theorem zr30 {n m : Nat} : resRs (E30 n m) Tryd.f30.results.toList = some q30 := by kernel_rfl
theorem ow30 {args : List D} {d : D} (hl : args.length = 1) (h : SWp C30 c30 (fun e s => (match e with | .exit _ => False | _ => True) ∧ ∃ s1, Weak C30 s s1 ∧ rrsWp q30 s1 fun ds => D.closed (oneOrTup ds) = true ∧ (oneOrTup ds).er = d) (St.init C30 args ⟨[], []⟩)) : Pur M 30 args d :=
  pur_of_bodyW (C := C30) (fn := Tryd.f30) Tryd.func30 (by kernel_rfl) (by kernel_rfl) (rc := c30) z30 (rs := q30) zr30 (by kernel_rfl) (by rw [hl]; rfl) (by rw [hl]; decide) rfl rfl h
/- 56 bogie.sign.digits$1 · 2 arguments · kept slots [0, 1, 3, 4, 5, 6, 10, 11, 12, 26, 31] -/
noncomputable def E56 (n m : Nat) : Cfg := ⟨M, [0, 1, 3, 4, 5, 6, 10, 11, 12, 26, 31], 36, n, m, []⟩
@[reducible] noncomputable def r56_0 : List RO := [
  ⟨.var 2, .mv, [.con (.int .i64 0)], none⟩]
@[reducible] noncomputable def r56_1 : List RO := [
  ⟨.loc 7, .ld false 1, [.var 1], none⟩,
  ⟨.loc 8, .call, [(.con (.fn (.func 57) [] [])), .loc 7], none⟩,
  ⟨.var 3, .mv, [.loc 8], none⟩]
@[reducible] noncomputable def r56_2 : List RO := [
  ⟨.loc 9, .mv, [.var 3], none⟩,
  ⟨.var 6, .lenS, [.loc 9], none⟩,
  ⟨.var 7, .mv, [.con (.int .i64 0)], none⟩]
@[reducible] noncomputable def r56_3 : List RO := [
  ⟨.var 8, .bin .lss, [.var 7, .var 6], none⟩]
@[reducible] noncomputable def r56_4 : List RO := [
  ⟨.loc 13, .mv, [.var 7], none⟩,
  ⟨.var 4, .mv, [.loc 13], none⟩]
@[reducible] noncomputable def r56_5 : List RO := [
  ⟨.loc 14, .mv, [.var 3], none⟩,
  ⟨.loc 15, .mv, [.var 4], none⟩,
  ⟨.loc 16, .ixvS, [.loc 14, .loc 15], none⟩,
  ⟨.loc 17, .call, [(.con (.fn (.func 58) [] [])), (.con (.str [48, 49, 50, 51, 52, 53, 54, 55, 56, 57, 97, 98, 99, 100, 101, 102])), .loc 16], none⟩,
  ⟨.var 5, .mv, [.loc 17], none⟩]
@[reducible] noncomputable def r56_6 : List RO := [
  ⟨.loc 18, .mv, [.var 2], none⟩,
  ⟨.loc 19, .mv, [.var 5], none⟩,
  ⟨.loc 20, .bin .sub, [.con (.int .i64 15), .loc 19], none⟩,
  ⟨.loc 21, .bin .add, [.loc 18, .loc 20], none⟩,
  ⟨.var 2, .mv, [.loc 21], none⟩]
@[reducible] noncomputable def r56_7 : List RO := [
  ⟨.loc 22, .mv, [.var 0], none⟩,
  ⟨.loc 23, .mv, [.var 4], none⟩,
  ⟨.loc 24, .mv, [.var 5], none⟩,
  ⟨.loc 25, .call, [.loc 22, .loc 23, .loc 24], none⟩,
  ⟨.var 9, .un .not, [.loc 25], none⟩]
@[reducible] noncomputable def r56_8 : List RO := [
  ⟨.loc 27, .bin .add, [.var 7, .con (.int .i64 1)], none⟩,
  ⟨.var 7, .mv, [.loc 27], none⟩]
@[reducible] noncomputable def r56_9 : List RO := [
  ⟨.loc 28, .mv, [.var 0], none⟩,
  ⟨.loc 29, .mv, [.var 2], none⟩,
  ⟨.loc 30, .bin .quo, [.loc 29, .con (.int .i64 16)], none⟩,
  ⟨.var 10, .call, [.loc 28, .con (.int .i64 16), .loc 30], none⟩]
@[reducible] noncomputable def r56_10 : List RO := [
  ⟨.loc 32, .mv, [.var 0], none⟩,
  ⟨.loc 33, .mv, [.var 2], none⟩,
  ⟨.loc 34, .bin .rem, [.loc 33, .con (.int .i64 16)], none⟩,
  ⟨.loc 35, .call, [.loc 32, .con (.int .i64 17), .loc 34], none⟩]
theorem pe56 {n m : Nat} : (E56 n m).M = M := by unfold E56; rfl
theorem ie56 {n m : Nat} {hp : Hp} {a0 a1 : D} : St.init (E56 n m) [a0, a1] hp = ⟨[a0, a1, .undef, .undef, .undef, .undef, .undef, .undef, .undef, .undef, .undef], [], hp⟩ := by unfold E56; rfl
noncomputable def c56 : RC := (.seq (.reg r56_0) (.seq (.reg r56_1) (.seq (.seq (.reg r56_2) (.block 0 (.loop (.seq (.reg r56_3) (.seq (.cond (.var 8) .skip (.exit 0)) (.seq (.block 1 (.seq (.reg r56_4) (.seq (.reg r56_5) (.seq (.reg r56_6) (.seq (.reg r56_7) (.cond (.var 9) .ret .skip)))))) (.reg r56_8))))))) (.seq (.reg r56_9) (.cond (.var 10) (.reg r56_10) .skip)))))
theorem z56 {n m : Nat} : resCode (E56 n m) (Tryd.f56.body.getD .skip) = some c56 := by kernel_rfl
theorem oi56 {caps : List D} {xs : List (List D)} (hl : caps.length + 1 = 2) (h : ∀ (b : World → Gh → Prop) (hpk : Nat → Hp) (l : Nat), (∀ k x, xs[k]? = some x → YOk (M.with b) l x (hpk k) (hpk (k + 1))) → SWp ((E56 0 0).atB b (hpk 0)) c56 (fun e s => (match e with | .exit _ => False | _ => True) ∧ s.hp = hpk xs.length) (St.init (E56 0 0) (yldD l :: caps) (hpk 0))) : Iter M 56 caps xs :=
  iter_of_body (C := E56 0 0) (fn := Tryd.f56) Tryd.func56 (by kernel_rfl) (by kernel_rfl) (rc := c56) z56 (by kernel_rfl) (by kernel_rfl) (by rw [hl]; rfl) (by rw [hl]; decide) h
/- 53 slices.Chunk[[]string,string] · 2 arguments · kept slots [0, 1, 2, 3, 4, 6] -/
noncomputable def E53 (n m : Nat) : Cfg := ⟨M, [0, 1, 2, 3, 4, 6], 9, n, m, []⟩
noncomputable def C53 : Cfg := E53 0 0
@[reducible] noncomputable def r53_0 : List RO := [
  ⟨.var 2, .box, [.var 0], none⟩,
  ⟨.var 3, .box, [.var 1], none⟩,
  ⟨.var 4, .mv, [(.con (.lit .nilFunc))], none⟩]
@[reducible] noncomputable def r53_1 : List RO := [
  ⟨.loc 5, .ld false 1, [.var 3], none⟩,
  ⟨.var 5, .bin .lss, [.loc 5, .con (.int .i64 1)], none⟩]
@[reducible] noncomputable def r53_2 : List RO := [
  ⟨.loc 8, (.mkF (.func 71) 0), [.var 2, .var 3], none⟩,
  ⟨.var 4, .mv, [.loc 8], none⟩]
theorem P53 : C53.M = M := by unfold C53 E53; rfl
theorem i53 {a0 a1 : D} : St.init C53 [a0, a1] ⟨[], []⟩ = ⟨[a0, a1, .undef, .undef, .undef, .undef], [], ⟨[], []⟩⟩ := by unfold C53 E53; rfl
noncomputable def c53 : RC := (.seq (.reg r53_0) (.seq (.seq (.reg r53_1) (.cond (.var 5) .bad .skip)) (.seq (.reg r53_2) .ret)))
noncomputable def q53 : List RR := [(.slot (.var 4))]
theorem z53 {n m : Nat} : resCode (E53 n m) (Tryd.f53.body.getD .skip) = some c53 := by kernel_rfl
theorem zr53 {n m : Nat} : resRs (E53 n m) Tryd.f53.results.toList = some q53 := by kernel_rfl
theorem ow53 {args : List D} {d : D} (hl : args.length = 2) (h : SWp C53 c53 (fun e s => (match e with | .exit _ => False | _ => True) ∧ ∃ s1, Weak C53 s s1 ∧ rrsWp q53 s1 fun ds => D.closed (oneOrTup ds) = true ∧ (oneOrTup ds).er = d) (St.init C53 args ⟨[], []⟩)) : Pur M 53 args d :=
  pur_of_bodyW (C := C53) (fn := Tryd.f53) Tryd.func53 (by kernel_rfl) (by kernel_rfl) (rc := c53) z53 (rs := q53) zr53 (by kernel_rfl) (by rw [hl]; rfl) (by rw [hl]; decide) rfl rfl h
/- 71 slices.Chunk[[]string,string]$1 · 3 arguments · kept slots [0, 1, 2, 4, 5, 9, 30] -/
noncomputable def E71 (n m : Nat) : Cfg := ⟨M, [0, 1, 2, 4, 5, 9, 30], 31, n, m, []⟩
@[reducible] noncomputable def r71_0 : List RO := [
  ⟨.var 3, .mv, [.con (.int .i64 0)], none⟩]
@[reducible] noncomputable def r71_1 : List RO := [
  ⟨.loc 6, .mv, [.var 3], none⟩,
  ⟨.loc 7, .ld false 1, [.var 1], none⟩,
  ⟨.loc 8, .lenL, [.loc 7], none⟩,
  ⟨.var 5, .bin .lss, [.loc 6, .loc 8], none⟩]
@[reducible] noncomputable def r71_2 : List (RO × Bool) := [
  (⟨.loc 13, .ld false 1, [.var 2], none⟩, true),
  (⟨.loc 14, .ld false 1, [.var 1], none⟩, true),
  (⟨.loc 15, .mv, [.var 3], none⟩, true),
  (⟨.loc 16, .slcL 1 true false, [.loc 14, .loc 15], none⟩, true),
  (⟨.loc 17, .lenL, [.loc 16], none⟩, true)]
@[reducible] noncomputable def r71_3 : List RO := [
  ⟨.loc 18, .minI, [.loc 13, .loc 17], none⟩,
  ⟨.var 4, .mv, [.loc 18], none⟩]
@[reducible] noncomputable def r71_4 : List RO := [
  ⟨.loc 19, .mv, [.var 0], none⟩,
  ⟨.loc 20, .ld false 1, [.var 1], none⟩,
  ⟨.loc 21, .mv, [.var 3], none⟩,
  ⟨.loc 22, .mv, [.var 3], none⟩,
  ⟨.loc 23, .mv, [.var 4], none⟩,
  ⟨.loc 24, .bin .add, [.loc 22, .loc 23], none⟩,
  ⟨.loc 25, .mv, [.var 3], none⟩,
  ⟨.loc 26, .mv, [.var 4], none⟩,
  ⟨.loc 27, .bin .add, [.loc 25, .loc 26], none⟩,
  ⟨.loc 28, .slc3 1, [.loc 20, .loc 21, .loc 24, .loc 27], none⟩,
  ⟨.loc 29, .call, [.loc 19, .loc 28], none⟩,
  ⟨.var 6, .un .not, [.loc 29], none⟩]
@[reducible] noncomputable def r71_5 : List RO := [
  ⟨.loc 10, .mv, [.var 3], none⟩,
  ⟨.loc 11, .ld false 1, [.var 2], none⟩,
  ⟨.loc 12, .bin .add, [.loc 10, .loc 11], none⟩,
  ⟨.var 3, .mv, [.loc 12], none⟩]
theorem pe71 {n m : Nat} : (E71 n m).M = M := by unfold E71; rfl
theorem ie71 {n m : Nat} {hp : Hp} {a0 a1 a2 : D} : St.init (E71 n m) [a0, a1, a2] hp = ⟨[a0, a1, a2, .undef, .undef, .undef, .undef], [], hp⟩ := by unfold E71; rfl
noncomputable def c71 : RC := (.seq (.reg r71_0) (.block 0 (.loop (.seq (.seq (.reg r71_1) (.cond (.var 5) .skip (.exit 0))) (.seq (.block 1 (.seq (.regD r71_2 r71_3) (.seq (.reg r71_4) (.cond (.var 6) .ret .skip)))) (.reg r71_5))))))
theorem z71 {n m : Nat} : resCode (E71 n m) (Tryd.f71.body.getD .skip) = some c71 := by kernel_rfl
theorem oi71 {caps : List D} {xs : List (List D)} (hl : caps.length + 1 = 3) (h : ∀ (b : World → Gh → Prop) (hpk : Nat → Hp) (l : Nat), (∀ k x, xs[k]? = some x → YOk (M.with b) l x (hpk k) (hpk (k + 1))) → SWp ((E71 0 0).atB b (hpk 0)) c71 (fun e s => (match e with | .exit _ => False | _ => True) ∧ s.hp = hpk xs.length) (St.init (E71 0 0) (yldD l :: caps) (hpk 0))) : Iter M 71 caps xs :=
  iter_of_body (C := E71 0 0) (fn := Tryd.f71) Tryd.func71 (by kernel_rfl) (by kernel_rfl) (rc := c71) z71 (by kernel_rfl) (by kernel_rfl) (by rw [hl]; rfl) (by rw [hl]; decide) h
/- 38 bogie.sign.Verify$1 · 1 arguments · kept slots [0, 2] -/
noncomputable def E38 (n m : Nat) : Cfg := ⟨M, [0, 2], 5, n, m, []⟩
noncomputable def C38 : Cfg := E38 0 0
@[reducible] noncomputable def r38_0 : List RO := [
  ⟨.var 1, .mv, [.con (.bool false)], none⟩]
@[reducible] noncomputable def r38_1 : List RO := [
  ⟨.loc 3, .mv, [.var 0], none⟩,
  ⟨.loc 4, .call, [(.con (.fn (.func 39) [] [])), .loc 3, (.con (.fn (.func 40) [] []))], none⟩,
  ⟨.var 1, .mv, [.loc 4], none⟩]
theorem P38 : C38.M = M := by unfold C38 E38; rfl
theorem i38 {a0 : D} : St.init C38 [a0] ⟨[], []⟩ = ⟨[a0, .undef], [], ⟨[], []⟩⟩ := by unfold C38 E38; rfl
noncomputable def c38 : RC := (.seq (.reg r38_0) (.seq (.reg r38_1) .ret))
noncomputable def q38 : List RR := [(.slot (.var 1))]
theorem z38 {n m : Nat} : resCode (E38 n m) (Tryd.f38.body.getD .skip) = some c38 := by kernel_rfl
theorem zr38 {n m : Nat} : resRs (E38 n m) Tryd.f38.results.toList = some q38 := by kernel_rfl
theorem ok38 {args : List D} {d : D} (hl : args.length = 1) (h : SWp C38 c38 (fun e s => (match e with | .exit _ => False | _ => True) ∧ rrsWp q38 s fun ds => D.closed (oneOrTup ds) = true ∧ (oneOrTup ds).er = d) (St.init C38 args ⟨[], []⟩)) : Pur M 38 args d :=
  pur_of_body (C := C38) (fn := Tryd.f38) Tryd.func38 (by kernel_rfl) (by kernel_rfl) (rc := c38) z38 (rs := q38) zr38 (by kernel_rfl) (by rw [hl]; rfl) (by rw [hl]; decide) rfl rfl h
/- 39 slices.ContainsFunc[[]string,string] · 2 arguments · kept slots [0, 1, 4] -/
noncomputable def E39 (n m : Nat) : Cfg := ⟨M, [0, 1, 4], 9, n, m, []⟩
noncomputable def C39 : Cfg := E39 0 0
@[reducible] noncomputable def r39_0 : List RO := [
  ⟨.var 2, .mv, [.con (.bool false)], none⟩]
@[reducible] noncomputable def r39_1 : List RO := [
  ⟨.loc 5, .mv, [.var 0], none⟩,
  ⟨.loc 6, .mv, [.var 1], none⟩,
  ⟨.loc 7, .call, [(.con (.fn (.func 61) [] [])), .loc 5, .loc 6], none⟩,
  ⟨.loc 8, .bin .geq, [.loc 7, .con (.int .i64 0)], none⟩,
  ⟨.var 2, .mv, [.loc 8], none⟩]
theorem P39 : C39.M = M := by unfold C39 E39; rfl
theorem i39 {a0 a1 : D} : St.init C39 [a0, a1] ⟨[], []⟩ = ⟨[a0, a1, .undef], [], ⟨[], []⟩⟩ := by unfold C39 E39; rfl
noncomputable def c39 : RC := (.seq (.reg r39_0) (.seq (.reg r39_1) .ret))
noncomputable def q39 : List RR := [(.slot (.var 2))]
theorem z39 {n m : Nat} : resCode (E39 n m) (Tryd.f39.body.getD .skip) = some c39 := by kernel_rfl
theorem zr39 {n m : Nat} : resRs (E39 n m) Tryd.f39.results.toList = some q39 := by kernel_rfl
theorem ok39 {args : List D} {d : D} (hl : args.length = 2) (h : SWp C39 c39 (fun e s => (match e with | .exit _ => False | _ => True) ∧ rrsWp q39 s fun ds => D.closed (oneOrTup ds) = true ∧ (oneOrTup ds).er = d) (St.init C39 args ⟨[], []⟩)) : Pur M 39 args d :=
  pur_of_body (C := C39) (fn := Tryd.f39) Tryd.func39 (by kernel_rfl) (by kernel_rfl) (rc := c39) z39 (rs := q39) zr39 (by kernel_rfl) (by rw [hl]; rfl) (by rw [hl]; decide) rfl rfl h
/- 40 bogie.sign.Verify$1$1 · 1 arguments · kept slots [0, 2] -/
noncomputable def E40 (n m : Nat) : Cfg := ⟨M, [0, 2], 6, n, m, []⟩
noncomputable def C40 : Cfg := E40 0 0
@[reducible] noncomputable def r40_0 : List RO := [
  ⟨.var 1, .mv, [.con (.bool false)], none⟩]
@[reducible] noncomputable def r40_1 : List RO := [
  ⟨.loc 3, .mv, [.var 0], none⟩,
  ⟨.loc 4, .call, [(.con (.fn (.func 20) [] [])), .loc 3], none⟩,
  ⟨.loc 5, .un .not, [.loc 4], none⟩,
  ⟨.var 1, .mv, [.loc 5], none⟩]
theorem P40 : C40.M = M := by unfold C40 E40; rfl
theorem i40 {a0 : D} : St.init C40 [a0] ⟨[], []⟩ = ⟨[a0, .undef], [], ⟨[], []⟩⟩ := by unfold C40 E40; rfl
noncomputable def c40 : RC := (.seq (.reg r40_0) (.seq (.reg r40_1) .ret))
noncomputable def q40 : List RR := [(.slot (.var 1))]
theorem z40 {n m : Nat} : resCode (E40 n m) (Tryd.f40.body.getD .skip) = some c40 := by kernel_rfl
theorem zr40 {n m : Nat} : resRs (E40 n m) Tryd.f40.results.toList = some q40 := by kernel_rfl
theorem ok40 {args : List D} {d : D} (hl : args.length = 1) (h : SWp C40 c40 (fun e s => (match e with | .exit _ => False | _ => True) ∧ rrsWp q40 s fun ds => D.closed (oneOrTup ds) = true ∧ (oneOrTup ds).er = d) (St.init C40 args ⟨[], []⟩)) : Pur M 40 args d :=
  pur_of_body (C := C40) (fn := Tryd.f40) Tryd.func40 (by kernel_rfl) (by kernel_rfl) (rc := c40) z40 (rs := q40) zr40 (by kernel_rfl) (by rw [hl]; rfl) (by rw [hl]; decide) rfl rfl h
/- 61 slices.IndexFunc[[]string,string] · 2 arguments · kept slots [0, 1, 4, 5, 7, 8, 9, 16] -/
noncomputable def E61 (n m : Nat) : Cfg := ⟨M, [0, 1, 4, 5, 7, 8, 9, 16], 19, n, m, []⟩
noncomputable def C61 : Cfg := E61 0 0
@[reducible] noncomputable def r61_0 : List RO := [
  ⟨.var 2, .mv, [.con (.int .i64 0)], none⟩]
@[reducible] noncomputable def r61_1 : List RO := [
  ⟨.loc 6, .mv, [.var 0], none⟩,
  ⟨.var 4, .lenL, [.loc 6], none⟩,
  ⟨.var 5, .mv, [.con (.int .i64 0)], none⟩]
@[reducible] noncomputable def r61_2 : List RO := [
  ⟨.var 6, .bin .lss, [.var 5, .var 4], none⟩]
@[reducible] noncomputable def r61_3 : List RO := [
  ⟨.loc 10, .mv, [.var 5], none⟩,
  ⟨.var 3, .mv, [.loc 10], none⟩]
@[reducible] noncomputable def r61_4 : List RO := [
  ⟨.loc 11, .mv, [.var 1], none⟩,
  ⟨.loc 12, .mv, [.var 0], none⟩,
  ⟨.loc 13, .mv, [.var 3], none⟩,
  ⟨.loc 14, .ixaS 1, [.loc 12, .loc 13], none⟩,
  ⟨.loc 15, .ld false 1, [.loc 14], none⟩,
  ⟨.var 7, .call, [.loc 11, .loc 15], none⟩]
@[reducible] noncomputable def r61_5 : List RO := [
  ⟨.loc 17, .mv, [.var 3], none⟩,
  ⟨.var 2, .mv, [.loc 17], none⟩]
@[reducible] noncomputable def r61_6 : List RO := [
  ⟨.loc 18, .bin .add, [.var 5, .con (.int .i64 1)], none⟩,
  ⟨.var 5, .mv, [.loc 18], none⟩]
@[reducible] noncomputable def r61_7 : List RO := [
  ⟨.var 2, .mv, [(.con (.int .i64 (-1)))], none⟩]
theorem P61 : C61.M = M := by unfold C61 E61; rfl
theorem i61 {a0 a1 : D} : St.init C61 [a0, a1] ⟨[], []⟩ = ⟨[a0, a1, .undef, .undef, .undef, .undef, .undef, .undef], [], ⟨[], []⟩⟩ := by unfold C61 E61; rfl
noncomputable def c61 : RC := (.seq (.reg r61_0) (.seq (.seq (.reg r61_1) (.block 0 (.loop (.seq (.reg r61_2) (.seq (.cond (.var 6) .skip (.exit 0)) (.seq (.block 1 (.seq (.reg r61_3) (.seq (.reg r61_4) (.cond (.var 7) (.seq (.reg r61_5) .ret) .skip)))) (.reg r61_6))))))) (.seq (.reg r61_7) .ret)))
noncomputable def q61 : List RR := [(.slot (.var 2))]
theorem z61 {n m : Nat} : resCode (E61 n m) (Tryd.f61.body.getD .skip) = some c61 := by kernel_rfl
theorem zr61 {n m : Nat} : resRs (E61 n m) Tryd.f61.results.toList = some q61 := by kernel_rfl
theorem ok61 {args : List D} {d : D} (hl : args.length = 2) (h : SWp C61 c61 (fun e s => (match e with | .exit _ => False | _ => True) ∧ rrsWp q61 s fun ds => D.closed (oneOrTup ds) = true ∧ (oneOrTup ds).er = d) (St.init C61 args ⟨[], []⟩)) : Pur M 61 args d :=
  pur_of_body (C := C61) (fn := Tryd.f61) Tryd.func61 (by kernel_rfl) (by kernel_rfl) (rc := c61) z61 (rs := q61) zr61 (by kernel_rfl) (by rw [hl]; rfl) (by rw [hl]; decide) rfl rfl h
/- 14 bogie.bogieref02.Public · 2 arguments · kept slots [0, 1, 4, 5, 11] -/
/- 16 bogie.bogieref02.Sign · 4 arguments · kept slots [0, 1, 2, 3, 8, 9, 10, 11, 12, 28, 35] -/
/- 19 bogie.bogieref02.Verify · 3 arguments · kept slots [0, 1, 2, 5, 6, 7, 8, 9, 10, 11, 12, 13, 37, 41, 50, 69, 78, 87] -/
/- 17 bogie.bogieref02.Same · 2 arguments · kept slots [0, 1, 2, 3, 4] -/
noncomputable def E17 (n m : Nat) : Cfg := ⟨M, [0, 1, 2, 3, 4], 24, n, m, []⟩
noncomputable def C17 : Cfg := E17 0 0
@[reducible] noncomputable def r17_0 : List RO := [
  ⟨.var 2, .box, [.var 0], none⟩,
  ⟨.var 3, .box, [.var 1], none⟩,
  ⟨.var 4, .mv, [.con (.bool false)], none⟩]
@[reducible] noncomputable def r17_1 : List RO := [
  ⟨.loc 5, .fld 0, [.var 2], none⟩,
  ⟨.loc 6, .ld false 1, [.loc 5], none⟩,
  ⟨.loc 7, .fld 0, [.var 3], none⟩,
  ⟨.loc 8, .ld false 1, [.loc 7], none⟩,
  ⟨.loc 9, .bin .eql, [.loc 6, .loc 8], none⟩,
  ⟨.loc 10, .mv, [.loc 9], none⟩,
  ⟨.loc 11, .fld 1, [.var 2], (some (.loc 10, true))⟩,
  ⟨.loc 12, .ld false 1, [.loc 11], (some (.loc 10, true))⟩,
  ⟨.loc 13, .fld 1, [.var 3], (some (.loc 10, true))⟩,
  ⟨.loc 14, .ld false 1, [.loc 13], (some (.loc 10, true))⟩,
  ⟨.loc 15, .call, [(.con (.fn (.func 21) [] [])), .loc 12, .loc 14], (some (.loc 10, true))⟩,
  ⟨.loc 16, .pick, [.loc 10, .loc 15, .con (.bool false)], none⟩,
  ⟨.loc 17, .mv, [.loc 16], none⟩,
  ⟨.loc 18, .fld 2, [.var 2], (some (.loc 17, true))⟩,
  ⟨.loc 19, .ld false 1, [.loc 18], (some (.loc 17, true))⟩,
  ⟨.loc 20, .fld 2, [.var 3], (some (.loc 17, true))⟩,
  ⟨.loc 21, .ld false 1, [.loc 20], (some (.loc 17, true))⟩,
  ⟨.loc 22, .call, [(.con (.fn (.func 21) [] [])), .loc 19, .loc 21], (some (.loc 17, true))⟩,
  ⟨.loc 23, .pick, [.loc 17, .loc 22, .con (.bool false)], none⟩,
  ⟨.var 4, .mv, [.loc 23], none⟩]
theorem P17 : C17.M = M := by unfold C17 E17; rfl
theorem i17 {a0 a1 : D} : St.init C17 [a0, a1] ⟨[], []⟩ = ⟨[a0, a1, .undef, .undef, .undef], [], ⟨[], []⟩⟩ := by unfold C17 E17; rfl
noncomputable def c17 : RC := (.seq (.reg r17_0) (.seq (.reg r17_1) .ret))
noncomputable def q17 : List RR := [(.slot (.var 4))]
theorem z17 {n m : Nat} : resCode (E17 n m) (Tryd.f17.body.getD .skip) = some c17 := by kernel_rfl
theorem zr17 {n m : Nat} : resRs (E17 n m) Tryd.f17.results.toList = some q17 := by kernel_rfl
theorem ok17 {args : List D} {d : D} (hl : args.length = 2) (h : SWp C17 c17 (fun e s => (match e with | .exit _ => False | _ => True) ∧ rrsWp q17 s fun ds => D.closed (oneOrTup ds) = true ∧ (oneOrTup ds).er = d) (St.init C17 args ⟨[], []⟩)) : Pur M 17 args d :=
  pur_of_body (C := C17) (fn := Tryd.f17) Tryd.func17 (by kernel_rfl) (by kernel_rfl) (rc := c17) z17 (rs := q17) zr17 (by kernel_rfl) (by rw [hl]; rfl) (by rw [hl]; decide) rfl rfl h
/- 12 bogie.bogieref02.Few · 1 arguments · kept slots [0, 1, 2, 3, 4, 13, 22, 31, 40] -/
noncomputable def E12 (n m : Nat) : Cfg := ⟨M, [0, 1, 2, 3, 4, 13, 22, 31, 40], 51, n, m, []⟩
noncomputable def C12 : Cfg := E12 0 0
@[reducible] noncomputable def r12_0 : List RO := [
  ⟨.var 1, .box, [.var 0], none⟩,
  ⟨.var 2, .mv, [.con (.bool false)], none⟩]
@[reducible] noncomputable def r12_1 : List RO := [
  ⟨.var 3, .mv, [.con (.int .i64 0)], none⟩]
@[reducible] noncomputable def r12_2 : List RO := [
  ⟨.loc 5, .mv, [.var 3], none⟩,
  ⟨.loc 6, .fld 1, [.var 1], none⟩,
  ⟨.loc 7, .ld false 1, [.loc 6], none⟩,
  ⟨.loc 8, .lenL, [.loc 7], none⟩,
  ⟨.loc 9, .bin .lss, [.loc 5, .loc 8], none⟩,
  ⟨.loc 10, .mv, [.loc 9], none⟩,
  ⟨.loc 11, .mv, [.var 3], (some (.loc 10, true))⟩,
  ⟨.loc 12, .bin .lss, [.loc 11, .con (.int .i64 30)], (some (.loc 10, true))⟩,
  ⟨.var 5, .pick, [.loc 10, .loc 12, .con (.bool false)], none⟩]
@[reducible] noncomputable def r12_3 : List RO := [
  ⟨.loc 16, .fld 1, [.var 1], none⟩,
  ⟨.loc 17, .ld false 1, [.loc 16], none⟩,
  ⟨.loc 18, .mv, [.var 3], none⟩,
  ⟨.loc 19, .ixaS 1, [.loc 17, .loc 18], none⟩,
  ⟨.loc 20, .ld false 1, [.loc 19], none⟩,
  ⟨.loc 21, .lenS, [.loc 20], none⟩,
  ⟨.var 6, .bin .gtr, [.loc 21, .con (.int .i64 100)], none⟩]
@[reducible] noncomputable def r12_4 : List RO := [
  ⟨.var 2, .mv, [.con (.bool false)], none⟩]
@[reducible] noncomputable def r12_5 : List RO := [
  ⟨.loc 14, .mv, [.var 3], none⟩,
  ⟨.loc 15, .bin .add, [.loc 14, .con (.int .i64 1)], none⟩,
  ⟨.var 3, .mv, [.loc 15], none⟩]
@[reducible] noncomputable def r12_6 : List RO := [
  ⟨.var 4, .mv, [.con (.int .i64 0)], none⟩]
@[reducible] noncomputable def r12_7 : List RO := [
  ⟨.loc 23, .mv, [.var 4], none⟩,
  ⟨.loc 24, .fld 2, [.var 1], none⟩,
  ⟨.loc 25, .ld false 1, [.loc 24], none⟩,
  ⟨.loc 26, .lenL, [.loc 25], none⟩,
  ⟨.loc 27, .bin .lss, [.loc 23, .loc 26], none⟩,
  ⟨.loc 28, .mv, [.loc 27], none⟩,
  ⟨.loc 29, .mv, [.var 4], (some (.loc 28, true))⟩,
  ⟨.loc 30, .bin .lss, [.loc 29, .con (.int .i64 30)], (some (.loc 28, true))⟩,
  ⟨.var 7, .pick, [.loc 28, .loc 30, .con (.bool false)], none⟩]
@[reducible] noncomputable def r12_8 : List RO := [
  ⟨.loc 34, .fld 2, [.var 1], none⟩,
  ⟨.loc 35, .ld false 1, [.loc 34], none⟩,
  ⟨.loc 36, .mv, [.var 4], none⟩,
  ⟨.loc 37, .ixaS 1, [.loc 35, .loc 36], none⟩,
  ⟨.loc 38, .ld false 1, [.loc 37], none⟩,
  ⟨.loc 39, .lenS, [.loc 38], none⟩,
  ⟨.var 8, .bin .gtr, [.loc 39, .con (.int .i64 100)], none⟩]
@[reducible] noncomputable def r12_9 : List RO := [
  ⟨.var 2, .mv, [.con (.bool false)], none⟩]
@[reducible] noncomputable def r12_10 : List RO := [
  ⟨.loc 32, .mv, [.var 4], none⟩,
  ⟨.loc 33, .bin .add, [.loc 32, .con (.int .i64 1)], none⟩,
  ⟨.var 4, .mv, [.loc 33], none⟩]
@[reducible] noncomputable def r12_11 : List RO := [
  ⟨.loc 41, .fld 1, [.var 1], none⟩,
  ⟨.loc 42, .ld false 1, [.loc 41], none⟩,
  ⟨.loc 43, .lenL, [.loc 42], none⟩,
  ⟨.loc 44, .bin .leq, [.loc 43, .con (.int .i64 30)], none⟩,
  ⟨.loc 45, .mv, [.loc 44], none⟩,
  ⟨.loc 46, .fld 2, [.var 1], (some (.loc 45, true))⟩,
  ⟨.loc 47, .ld false 1, [.loc 46], (some (.loc 45, true))⟩,
  ⟨.loc 48, .lenL, [.loc 47], (some (.loc 45, true))⟩,
  ⟨.loc 49, .bin .leq, [.loc 48, .con (.int .i64 30)], (some (.loc 45, true))⟩,
  ⟨.loc 50, .pick, [.loc 45, .loc 49, .con (.bool false)], none⟩,
  ⟨.var 2, .mv, [.loc 50], none⟩]
theorem P12 : C12.M = M := by unfold C12 E12; rfl
theorem i12 {a0 : D} : St.init C12 [a0] ⟨[], []⟩ = ⟨[a0, .undef, .undef, .undef, .undef, .undef, .undef, .undef, .undef], [], ⟨[], []⟩⟩ := by unfold C12 E12; rfl
noncomputable def c12 : RC := (.seq (.reg r12_0) (.seq (.seq (.reg r12_1) (.block 0 (.loop (.seq (.seq (.reg r12_2) (.cond (.var 5) .skip (.exit 0))) (.seq (.block 1 (.seq (.reg r12_3) (.cond (.var 6) (.seq (.reg r12_4) .ret) .skip))) (.reg r12_5)))))) (.seq (.seq (.reg r12_6) (.block 2 (.loop (.seq (.seq (.reg r12_7) (.cond (.var 7) .skip (.exit 2))) (.seq (.block 3 (.seq (.reg r12_8) (.cond (.var 8) (.seq (.reg r12_9) .ret) .skip))) (.reg r12_10)))))) (.seq (.reg r12_11) .ret))))
noncomputable def q12 : List RR := [(.slot (.var 2))]
theorem z12 {n m : Nat} : resCode (E12 n m) (Tryd.f12.body.getD .skip) = some c12 := by kernel_rfl
theorem zr12 {n m : Nat} : resRs (E12 n m) Tryd.f12.results.toList = some q12 := by kernel_rfl
theorem ok12 {args : List D} {d : D} (hl : args.length = 1) (h : SWp C12 c12 (fun e s => (match e with | .exit _ => False | _ => True) ∧ rrsWp q12 s fun ds => D.closed (oneOrTup ds) = true ∧ (oneOrTup ds).er = d) (St.init C12 args ⟨[], []⟩)) : Pur M 12 args d :=
  pur_of_body (C := C12) (fn := Tryd.f12) Tryd.func12 (by kernel_rfl) (by kernel_rfl) (rc := c12) z12 (rs := q12) zr12 (by kernel_rfl) (by rw [hl]; rfl) (by rw [hl]; decide) rfl rfl h
/- 11 bogie.bogielaw02.short · 1 arguments · kept slots [0, 2, 3, 7, 15] -/
noncomputable def E11 (n m : Nat) : Cfg := ⟨M, [0, 2, 3, 7, 15], 16, n, m, []⟩
noncomputable def C11 : Cfg := E11 0 0
@[reducible] noncomputable def r11_0 : List RO := [
  ⟨.var 1, .mv, [.con (.bool false)], none⟩]
@[reducible] noncomputable def r11_1 : List RO := [
  ⟨.var 2, .mv, [.con (.int .i64 0)], none⟩]
@[reducible] noncomputable def r11_2 : List RO := [
  ⟨.loc 4, .mv, [.var 2], none⟩,
  ⟨.loc 5, .mv, [.var 0], none⟩,
  ⟨.loc 6, .lenL, [.loc 5], none⟩,
  ⟨.var 3, .bin .lss, [.loc 4, .loc 6], none⟩]
@[reducible] noncomputable def r11_3 : List RO := [
  ⟨.loc 10, .mv, [.var 0], none⟩,
  ⟨.loc 11, .mv, [.var 2], none⟩,
  ⟨.loc 12, .ixaS 1, [.loc 10, .loc 11], none⟩,
  ⟨.loc 13, .ld false 1, [.loc 12], none⟩,
  ⟨.loc 14, .lenS, [.loc 13], none⟩,
  ⟨.var 4, .bin .gtr, [.loc 14, .con (.int .i64 300)], none⟩]
@[reducible] noncomputable def r11_4 : List RO := [
  ⟨.var 1, .mv, [.con (.bool false)], none⟩]
@[reducible] noncomputable def r11_5 : List RO := [
  ⟨.loc 8, .mv, [.var 2], none⟩,
  ⟨.loc 9, .bin .add, [.loc 8, .con (.int .i64 1)], none⟩,
  ⟨.var 2, .mv, [.loc 9], none⟩]
@[reducible] noncomputable def r11_6 : List RO := [
  ⟨.var 1, .mv, [.con (.bool true)], none⟩]
theorem P11 : C11.M = M := by unfold C11 E11; rfl
theorem i11 {a0 : D} : St.init C11 [a0] ⟨[], []⟩ = ⟨[a0, .undef, .undef, .undef, .undef], [], ⟨[], []⟩⟩ := by unfold C11 E11; rfl
noncomputable def c11 : RC := (.seq (.reg r11_0) (.seq (.seq (.reg r11_1) (.block 0 (.loop (.seq (.seq (.reg r11_2) (.cond (.var 3) .skip (.exit 0))) (.seq (.block 1 (.seq (.reg r11_3) (.cond (.var 4) (.seq (.reg r11_4) .ret) .skip))) (.reg r11_5)))))) (.seq (.reg r11_6) .ret)))
noncomputable def q11 : List RR := [(.slot (.var 1))]
theorem z11 {n m : Nat} : resCode (E11 n m) (Tryd.f11.body.getD .skip) = some c11 := by kernel_rfl
theorem zr11 {n m : Nat} : resRs (E11 n m) Tryd.f11.results.toList = some q11 := by kernel_rfl
theorem ok11 {args : List D} {d : D} (hl : args.length = 1) (h : SWp C11 c11 (fun e s => (match e with | .exit _ => False | _ => True) ∧ rrsWp q11 s fun ds => D.closed (oneOrTup ds) = true ∧ (oneOrTup ds).er = d) (St.init C11 args ⟨[], []⟩)) : Pur M 11 args d :=
  pur_of_body (C := C11) (fn := Tryd.f11) Tryd.func11 (by kernel_rfl) (by kernel_rfl) (rc := c11) z11 (rs := q11) zr11 (by kernel_rfl) (by rw [hl]; rfl) (by rw [hl]; decide) rfl rfl h
/- 49 bogie.bogieref02.chained · 2 arguments · kept slots [0, 1, 4, 5, 6, 11] -/
/- 50 bogie.bogieref02.node · 2 arguments · kept slots [0, 1, 4] -/
/- 23 bogie.bogieref02.Made · 3 arguments · kept slots [0, 1, 2, 6, 7, 8, 9, 10, 11, 12, 13, 14, 15, 16, 20, 24, 64, 69] -/
/- 24 bogie.bogieref02.Checked · 2 arguments · kept slots [0, 1, 3, 4, 5, 6, 7, 8, 9, 10, 11, 12, 13, 14, 25, 67, 79] -/
/- 22 bogie.bogieref02.Shown · 1 arguments · kept slots [0, 2, 3, 4, 5, 6, 10, 24, 29, 51] -/
/- 13 bogie.sign.Public · 2 arguments · kept slots [0, 1, 4, 5, 6, 12, 18] -/
noncomputable def E13 (n m : Nat) : Cfg := ⟨M, [0, 1, 4, 5, 6, 12, 18], 24, n, m, []⟩
noncomputable def C13 : Cfg := E13 0 0
@[reducible] noncomputable def r13_0 : List RO := [
  ⟨.var 2, .mv, [(.con (.str []))], none⟩,
  ⟨.var 3, .mv, [.con (.int .i64 0)], none⟩]
@[reducible] noncomputable def r13_1 : List RO := [
  ⟨.loc 7, .mv, [.var 1], none⟩,
  ⟨.loc 8, .bin .lss, [.loc 7, .con (.int .i64 0)], none⟩,
  ⟨.loc 9, .mv, [.loc 8], none⟩,
  ⟨.loc 10, .mv, [.var 1], (some (.loc 9, false))⟩,
  ⟨.loc 11, .bin .gtr, [.loc 10, .con (.int .i64 8)], (some (.loc 9, false))⟩,
  ⟨.var 5, .pick, [.loc 9, .con (.bool true), .loc 11], none⟩]
@[reducible] noncomputable def r13_2 : List RO := [
  ⟨.var 2, .mv, [(.con (.str []))], none⟩,
  ⟨.var 3, .mv, [.con (.int .i64 1)], none⟩]
@[reducible] noncomputable def r13_3 : List RO := [
  ⟨.loc 13, .mv, [.var 0], none⟩,
  ⟨.loc 14, .mv, [.var 1], none⟩,
  ⟨.loc 15, .call, [(.con (.fn (.func 26) [] [])), .loc 13, .loc 14], none⟩,
  ⟨.var 4, .mv, [.loc 15], none⟩]
@[reducible] noncomputable def r13_4 : List RO := [
  ⟨.loc 16, .mv, [.var 4], none⟩,
  ⟨.loc 17, .lenL, [.loc 16], none⟩,
  ⟨.var 6, .bin .gtr, [.loc 17, .con (.int .i64 1)], none⟩]
@[reducible] noncomputable def r13_5 : List RO := [
  ⟨.loc 19, .mv, [.var 4], none⟩,
  ⟨.loc 20, .call, [(.con (.fn (.func 27) [] [])), .loc 19], none⟩,
  ⟨.var 4, .mv, [.loc 20], none⟩]
@[reducible] noncomputable def r13_6 : List RO := [
  ⟨.loc 21, .mv, [.var 4], none⟩,
  ⟨.loc 22, .ixaS 1, [.loc 21, .con (.int .i64 0)], none⟩,
  ⟨.loc 23, .ld false 1, [.loc 22], none⟩,
  ⟨.var 2, .mv, [.loc 23], none⟩,
  ⟨.var 3, .mv, [.con (.int .i64 0)], none⟩]
theorem P13 : C13.M = M := by unfold C13 E13; rfl
theorem i13 {a0 a1 : D} : St.init C13 [a0, a1] ⟨[], []⟩ = ⟨[a0, a1, .undef, .undef, .undef, .undef, .undef], [], ⟨[], []⟩⟩ := by unfold C13 E13; rfl
noncomputable def c13 : RC := (.seq (.reg r13_0) (.seq (.seq (.reg r13_1) (.cond (.var 5) (.seq (.reg r13_2) .ret) .skip)) (.seq (.reg r13_3) (.seq (.block 0 (.loop (.seq (.seq (.reg r13_4) (.cond (.var 6) .skip (.exit 0))) (.block 1 (.reg r13_5))))) (.seq (.reg r13_6) .ret)))))
noncomputable def q13 : List RR := [(.slot (.var 2)), (.slot (.var 3))]
theorem z13 {n m : Nat} : resCode (E13 n m) (Tryd.f13.body.getD .skip) = some c13 := by kernel_rfl
theorem zr13 {n m : Nat} : resRs (E13 n m) Tryd.f13.results.toList = some q13 := by kernel_rfl
theorem ok13 {args : List D} {d : D} (hl : args.length = 2) (h : SWp C13 c13 (fun e s => (match e with | .exit _ => False | _ => True) ∧ rrsWp q13 s fun ds => D.closed (oneOrTup ds) = true ∧ (oneOrTup ds).er = d) (St.init C13 args ⟨[], []⟩)) : Pur M 13 args d :=
  pur_of_body (C := C13) (fn := Tryd.f13) Tryd.func13 (by kernel_rfl) (by kernel_rfl) (rc := c13) z13 (rs := q13) zr13 (by kernel_rfl) (by rw [hl]; rfl) (by rw [hl]; decide) rfl rfl h
/- 15 bogie.sign.Sign · 4 arguments · kept slots [0, 1, 2, 3, 4, 6, 8, 9, 10, 11, 12, 13, 14, 30, 35, 36, 37, 55] -/
noncomputable def E15 (n m : Nat) : Cfg := ⟨M, [0, 1, 2, 3, 4, 6, 8, 9, 10, 11, 12, 13, 14, 30, 35, 36, 37, 55], 71, n, m, []⟩
noncomputable def C15 : Cfg := E15 0 0
@[reducible] noncomputable def r15_0 : List RO := [
  ⟨.var 4, .box, [.var 0], none⟩,
  ⟨.var 5, .box, [.var 2], none⟩,
  ⟨.var 6, (.newb [(.int .i64 0), (.lit (.slice none 0 0)), (.lit (.slice none 0 0))]), [], none⟩,
  ⟨.var 7, .mv, [.con (.int .i64 0)], none⟩]
@[reducible] noncomputable def r15_1 : List (RO × Bool) := [
  (⟨.loc 15, .mv, [.var 1], none⟩, true),
  (⟨.loc 16, .bin .lss, [.loc 15, .con (.int .i64 0)], none⟩, true),
  (⟨.loc 17, .mv, [.loc 16], none⟩, true),
  (⟨.loc 18, .mv, [.var 1], (some (.loc 17, false))⟩, true),
  (⟨.loc 19, .bin .gtr, [.loc 18, .con (.int .i64 8)], (some (.loc 17, false))⟩, true),
  (⟨.loc 20, .pick, [.loc 17, .con (.bool true), .loc 19], none⟩, true),
  (⟨.loc 21, .mv, [.loc 20], none⟩, true),
  (⟨.loc 22, .ld false 1, [.var 5], (some (.loc 21, false))⟩, true),
  (⟨.loc 23, .bin .lss, [.loc 22, .con (.int .i64 0)], (some (.loc 21, false))⟩, true),
  (⟨.loc 24, .pick, [.loc 21, .con (.bool true), .loc 23], none⟩, true),
  (⟨.loc 25, .mv, [.loc 24], none⟩, true),
  (⟨.loc 26, .ld false 1, [.var 5], (some (.loc 25, false))⟩, true),
  (⟨.loc 27, .mv, [.var 1], (some (.loc 25, false))⟩, true),
  (⟨.loc 28, .bin .shl, [.con (.int .i64 1), .loc 27], (some (.loc 25, false))⟩, true)]
@[reducible] noncomputable def r15_2 : List RO := [
  ⟨.loc 29, .bin .geq, [.loc 26, .loc 28], (some (.loc 25, false))⟩,
  ⟨.var 13, .pick, [.loc 25, .con (.bool true), .loc 29], none⟩]
@[reducible] noncomputable def r15_3 : List RO := [
  ⟨.loc 31, (.bld [(.int .i64 0), (.lit (.slice none 0 0)), (.lit (.slice none 0 0))] []), [], none⟩,
  ⟨.none, .st 3, [.var 6, .loc 31], none⟩,
  ⟨.var 7, .mv, [.con (.int .i64 1)], none⟩]
@[reducible] noncomputable def r15_4 : List RO := [
  ⟨.loc 32, .ld false 1, [.var 5], none⟩,
  ⟨.loc 33, (.bld [(.int .i64 0), (.lit (.slice none 0 0)), (.lit (.slice none 0 0))] [(0, 1)]), [.loc 32], none⟩,
  ⟨.var 8, (.newb [(.int .i64 0), (.lit (.slice none 0 0)), (.lit (.slice none 0 0))]), [], none⟩,
  ⟨.none, .st 3, [.var 8, .loc 33], none⟩]
@[reducible] noncomputable def r15_5 : List RO := [
  ⟨.loc 34, .mv, [.var 3], none⟩,
  ⟨.var 14, .call, [(.con (.fn (.func 30) [] [])), .loc 34], none⟩]
@[reducible] noncomputable def r15_6 : List RO := [
  ⟨.var 9, .mv, [.var 15], none⟩]
@[reducible] noncomputable def r15_7 : List RO := [
  ⟨.var 10, .mv, [.var 16], none⟩]
@[reducible] noncomputable def r15_8 : List (RO × Bool) := [
  (⟨.loc 38, .fld 1, [.var 8], none⟩, true),
  (⟨.loc 39, .ld false 1, [.loc 38], none⟩, true),
  (⟨.loc 40, .ld false 1, [.var 4], none⟩, true),
  (⟨.loc 41, .ld false 1, [.var 5], none⟩, true),
  (⟨.loc 42, .mv, [.var 9], none⟩, true),
  (⟨.loc 43, .call, [(.con (.fn (.func 32) [] [])), .loc 40, .loc 41, .loc 42], none⟩, true),
  (⟨.loc 44, .mv, [.var 10], none⟩, true),
  (⟨.loc 45, .call, [(.con (.fn (.func 31) [] [])), .loc 43, .loc 44], none⟩, true),
  (⟨.loc 46, .bsl 1, [.loc 45], none⟩, true)]
@[reducible] noncomputable def r15_9 : List RO := [
  ⟨.loc 47, .app 1 16 9, [.loc 39, .loc 46], none⟩,
  ⟨.loc 48, .fld 1, [.var 8], none⟩,
  ⟨.none, .st 1, [.loc 48, .loc 47], none⟩]
@[reducible] noncomputable def r15_10 : List (RO × Bool) := [
  (⟨.loc 49, .ld false 1, [.var 4], none⟩, true),
  (⟨.loc 50, .mv, [.var 1], none⟩, true),
  (⟨.loc 51, .call, [(.con (.fn (.func 26) [] [])), .loc 49, .loc 50], none⟩, true),
  (⟨.loc 52, .ld false 1, [.var 5], none⟩, true),
  (⟨.var 11, .mv, [.loc 51], none⟩, true)]
@[reducible] noncomputable def r15_11 : List RO := [
  ⟨.var 12, .mv, [.loc 52], none⟩]
@[reducible] noncomputable def r15_12 : List RO := [
  ⟨.loc 53, .mv, [.var 11], none⟩,
  ⟨.loc 54, .lenL, [.loc 53], none⟩,
  ⟨.var 17, .bin .gtr, [.loc 54, .con (.int .i64 1)], none⟩]
@[reducible] noncomputable def r15_13 : List (RO × Bool) := [
  (⟨.loc 60, .fld 2, [.var 8], none⟩, true),
  (⟨.loc 61, .ld false 1, [.loc 60], none⟩, true),
  (⟨.loc 62, .mv, [.var 11], none⟩, true),
  (⟨.loc 63, .mv, [.var 12], none⟩, true),
  (⟨.loc 64, .bin .xor, [.loc 63, .con (.int .i64 1)], none⟩, true),
  (⟨.loc 65, .ixaS 1, [.loc 62, .loc 64], none⟩, true),
  (⟨.loc 66, .ld false 1, [.loc 65], none⟩, true),
  (⟨.loc 67, .bsl 1, [.loc 66], none⟩, true)]
@[reducible] noncomputable def r15_14 : List RO := [
  ⟨.loc 68, .app 1 16 9, [.loc 61, .loc 67], none⟩,
  ⟨.loc 69, .fld 2, [.var 8], none⟩,
  ⟨.none, .st 1, [.loc 69, .loc 68], none⟩]
@[reducible] noncomputable def r15_15 : List RO := [
  ⟨.loc 56, .mv, [.var 11], none⟩,
  ⟨.loc 57, .call, [(.con (.fn (.func 27) [] [])), .loc 56], none⟩,
  ⟨.loc 58, .mv, [.var 12], none⟩,
  ⟨.loc 59, .bin .quo, [.loc 58, .con (.int .i64 2)], none⟩,
  ⟨.var 11, .mv, [.loc 57], none⟩,
  ⟨.var 12, .mv, [.loc 59], none⟩]
@[reducible] noncomputable def r15_16 : List RO := [
  ⟨.loc 70, .ld true 3, [.var 8], none⟩,
  ⟨.none, .st 3, [.var 6, .loc 70], none⟩,
  ⟨.var 7, .mv, [.con (.int .i64 0)], none⟩]
theorem P15 : C15.M = M := by unfold C15 E15; rfl
theorem i15 {a0 a1 a2 a3 : D} : St.init C15 [a0, a1, a2, a3] ⟨[], []⟩ = ⟨[a0, a1, a2, a3, .undef, .undef, .undef, .undef, .undef, .undef, .undef, .undef, .undef, .undef, .undef, .undef, .undef, .undef], [], ⟨[], []⟩⟩ := by unfold C15 E15; rfl
noncomputable def c15 : RC := (.seq (.reg r15_0) (.seq (.seq (.regD r15_1 r15_2) (.cond (.var 13) (.seq (.reg r15_3) .ret) .skip)) (.seq (.reg r15_4) (.seq (.seq (.reg r15_5) (.block 0 (.rangeF (.var 14) [(.var 15), (.var 16)] (.seq (.reg r15_6) (.reg r15_7)) (.block 1 (.regD r15_8 r15_9))))) (.seq (.seq (.regD r15_10 r15_11) (.block 2 (.loop (.seq (.seq (.reg r15_12) (.cond (.var 17) .skip (.exit 2))) (.seq (.block 3 (.regD r15_13 r15_14)) (.reg r15_15)))))) (.seq (.reg r15_16) .ret))))))
noncomputable def q15 : List RR := [(.cell (.var 6) true 3), (.slot (.var 7))]
theorem z15 {n m : Nat} : resCode (E15 n m) (Tryd.f15.body.getD .skip) = some c15 := by kernel_rfl
theorem zr15 {n m : Nat} : resRs (E15 n m) Tryd.f15.results.toList = some q15 := by kernel_rfl
theorem oT15 {args : List D} {d : D} (hl : args.length = 4) (h : TWp C15 0 0 c15 (fun e n m s => (match e with | .exit _ => False | _ => True) ∧ ∃ s1, (∀ ds, Weak { C15 with n0 := n, m0 := m, dfs := ds } s s1) ∧ rrsWp q15 s1 fun ds => D.closed (oneOrTup ds) = true ∧ (oneOrTup ds).er = d) (St.init C15 args ⟨[], []⟩)) : Pur M 15 args d :=
  pur_of_bodyT (C := C15) (fn := Tryd.f15) Tryd.func15 (by kernel_rfl) (by kernel_rfl) (rc := c15) z15 (rs := q15) zr15 (by kernel_rfl) (by rw [hl]; rfl) (by rw [hl]; decide) rfl rfl h
/- 18 bogie.sign.Verify · 3 arguments · kept slots [0, 1, 2, 5, 6, 7, 8, 9, 10, 11, 12, 13, 14, 49, 51, 52, 53, 68, 69, 70, 71] -/
noncomputable def E18 (n m : Nat) : Cfg := ⟨M, [0, 1, 2, 5, 6, 7, 8, 9, 10, 11, 12, 13, 14, 49, 51, 52, 53, 68, 69, 70, 71], 88, n, m, []⟩
noncomputable def C18 : Cfg := E18 0 0
@[reducible] noncomputable def r18_0 : List RO := [
  ⟨.var 3, .box, [.var 2], none⟩,
  ⟨.var 4, .mv, [.con (.bool false)], none⟩]
@[reducible] noncomputable def r18_1 : List RO := [
  ⟨.loc 15, .fld 2, [.var 3], none⟩,
  ⟨.loc 16, .ld false 1, [.loc 15], none⟩,
  ⟨.loc 17, .lenL, [.loc 16], none⟩,
  ⟨.var 5, .mv, [.loc 17], none⟩]
@[reducible] noncomputable def r18_2 : List RO := [
  ⟨.var 6, .mv, [(.con (.fn (.func 38) [] []))], none⟩]
@[reducible] noncomputable def r18_3 : List (RO × Bool) := [
  (⟨.loc 18, .fld 1, [.var 3], none⟩, true),
  (⟨.loc 19, .ld false 1, [.loc 18], none⟩, true),
  (⟨.loc 20, .lenL, [.loc 19], none⟩, true),
  (⟨.loc 21, .bin .neq, [.loc 20, .con (.int .i64 18)], none⟩, true),
  (⟨.loc 22, .mv, [.loc 21], none⟩, true),
  (⟨.loc 23, .mv, [.var 5], (some (.loc 22, false))⟩, true),
  (⟨.loc 24, .bin .gtr, [.loc 23, .con (.int .i64 8)], (some (.loc 22, false))⟩, true),
  (⟨.loc 25, .pick, [.loc 22, .con (.bool true), .loc 24], none⟩, true),
  (⟨.loc 26, .mv, [.loc 25], none⟩, true),
  (⟨.loc 27, .mv, [.var 6], (some (.loc 26, false))⟩, true),
  (⟨.loc 28, .fld 1, [.var 3], (some (.loc 26, false))⟩, true),
  (⟨.loc 29, .ld false 1, [.loc 28], (some (.loc 26, false))⟩, true),
  (⟨.loc 30, .call, [.loc 27, .loc 29], (some (.loc 26, false))⟩, false),
  (⟨.loc 31, .pick, [.loc 26, .con (.bool true), .loc 30], none⟩, true),
  (⟨.loc 32, .mv, [.loc 31], none⟩, true),
  (⟨.loc 33, .mv, [.var 6], (some (.loc 32, false))⟩, true),
  (⟨.loc 34, .fld 2, [.var 3], (some (.loc 32, false))⟩, true),
  (⟨.loc 35, .ld false 1, [.loc 34], (some (.loc 32, false))⟩, true),
  (⟨.loc 36, .call, [.loc 33, .loc 35], (some (.loc 32, false))⟩, false),
  (⟨.loc 37, .pick, [.loc 32, .con (.bool true), .loc 36], none⟩, true),
  (⟨.loc 38, .mv, [.loc 37], none⟩, true),
  (⟨.loc 39, .fld 0, [.var 3], (some (.loc 38, false))⟩, true),
  (⟨.loc 40, .ld false 1, [.loc 39], (some (.loc 38, false))⟩, true),
  (⟨.loc 41, .bin .lss, [.loc 40, .con (.int .i64 0)], (some (.loc 38, false))⟩, true),
  (⟨.loc 42, .pick, [.loc 38, .con (.bool true), .loc 41], none⟩, true),
  (⟨.loc 43, .mv, [.loc 42], none⟩, true),
  (⟨.loc 44, .fld 0, [.var 3], (some (.loc 43, false))⟩, true),
  (⟨.loc 45, .ld false 1, [.loc 44], (some (.loc 43, false))⟩, true),
  (⟨.loc 46, .mv, [.var 5], (some (.loc 43, false))⟩, true),
  (⟨.loc 47, .bin .shl, [.con (.int .i64 1), .loc 46], (some (.loc 43, false))⟩, true)]
@[reducible] noncomputable def r18_4 : List RO := [
  ⟨.loc 48, .bin .geq, [.loc 45, .loc 47], (some (.loc 43, false))⟩,
  ⟨.var 13, .pick, [.loc 43, .con (.bool true), .loc 48], none⟩]
@[reducible] noncomputable def r18_5 : List RO := [
  ⟨.var 4, .mv, [.con (.bool false)], none⟩]
@[reducible] noncomputable def r18_6 : List RO := [
  ⟨.var 7, (.newb [(.lit (.slice none 0 0))]), [], none⟩]
@[reducible] noncomputable def r18_7 : List RO := [
  ⟨.loc 50, .mv, [.var 1], none⟩,
  ⟨.var 14, .call, [(.con (.fn (.func 30) [] [])), .loc 50], none⟩]
@[reducible] noncomputable def r18_8 : List RO := [
  ⟨.var 8, .mv, [.var 15], none⟩]
@[reducible] noncomputable def r18_9 : List RO := [
  ⟨.var 9, .mv, [.var 16], none⟩]
@[reducible] noncomputable def r18_10 : List (RO × Bool) := [
  (⟨.loc 54, .ld false 1, [.var 7], none⟩, true),
  (⟨.loc 55, .fld 1, [.var 3], none⟩, true),
  (⟨.loc 56, .ld false 1, [.loc 55], none⟩, true),
  (⟨.loc 57, .mv, [.var 8], none⟩, true),
  (⟨.loc 58, .ixaS 1, [.loc 56, .loc 57], none⟩, true),
  (⟨.loc 59, .ld false 1, [.loc 58], none⟩, true),
  (⟨.loc 60, .mv, [.var 9], none⟩, true),
  (⟨.loc 61, .bin .sub, [.con (.int .i64 15), .loc 60], none⟩, true),
  (⟨.loc 62, .call, [(.con (.fn (.func 31) [] [])), .loc 59, .loc 61], none⟩, true),
  (⟨.loc 63, .bsl 1, [.loc 62], none⟩, true)]
@[reducible] noncomputable def r18_11 : List RO := [
  ⟨.loc 64, .app 1 16 9, [.loc 54, .loc 63], none⟩,
  ⟨.none, .st 1, [.var 7, .loc 64], none⟩]
@[reducible] noncomputable def r18_12 : List RO := [
  ⟨.loc 65, .ld false 1, [.var 7], none⟩,
  ⟨.loc 66, .call, [(.con (.fn (.func 41) [] [])), .loc 65], none⟩,
  ⟨.var 10, .mv, [.loc 66], none⟩]
@[reducible] noncomputable def r18_13 : List RO := [
  ⟨.loc 67, .fld 2, [.var 3], none⟩,
  ⟨.var 17, .ld false 1, [.loc 67], none⟩,
  ⟨.var 18, .lenL, [.var 17], none⟩,
  ⟨.var 19, .mv, [.con (.int .i64 0)], none⟩]
@[reducible] noncomputable def r18_14 : List RO := [
  ⟨.var 20, .bin .lss, [.var 19, .var 18], none⟩]
@[reducible] noncomputable def r18_15 : List RO := [
  ⟨.loc 72, .mv, [.var 19], none⟩,
  ⟨.loc 73, .ixaS 1, [.var 17, .var 19], none⟩,
  ⟨.loc 74, .ld false 1, [.loc 73], none⟩,
  ⟨.var 11, .mv, [.loc 72], none⟩,
  ⟨.var 12, .mv, [.loc 74], none⟩]
@[reducible] noncomputable def r18_16 : List RO := [
  ⟨.loc 75, .mv, [.var 10], none⟩,
  ⟨.loc 76, .mv, [.var 12], none⟩,
  ⟨.loc 77, .fld 0, [.var 3], none⟩,
  ⟨.loc 78, .ld false 1, [.loc 77], none⟩,
  ⟨.loc 79, .mv, [.var 11], none⟩,
  ⟨.loc 80, .bin .shr, [.loc 78, .loc 79], none⟩,
  ⟨.loc 81, .bin .and, [.loc 80, .con (.int .i64 1)], none⟩,
  ⟨.loc 82, .bin .eql, [.loc 81, .con (.int .i64 1)], none⟩,
  ⟨.loc 83, .call, [(.con (.fn (.func 42) [] [])), .loc 75, .loc 76, .loc 82], none⟩,
  ⟨.var 10, .mv, [.loc 83], none⟩]
@[reducible] noncomputable def r18_17 : List RO := [
  ⟨.loc 84, .bin .add, [.var 19, .con (.int .i64 1)], none⟩,
  ⟨.var 19, .mv, [.loc 84], none⟩]
@[reducible] noncomputable def r18_18 : List RO := [
  ⟨.loc 85, .mv, [.var 10], none⟩,
  ⟨.loc 86, .mv, [.var 0], none⟩,
  ⟨.loc 87, .bin .eql, [.loc 85, .loc 86], none⟩,
  ⟨.var 4, .mv, [.loc 87], none⟩]
theorem P18 : C18.M = M := by unfold C18 E18; rfl
theorem i18 {a0 a1 a2 : D} : St.init C18 [a0, a1, a2] ⟨[], []⟩ = ⟨[a0, a1, a2, .undef, .undef, .undef, .undef, .undef, .undef, .undef, .undef, .undef, .undef, .undef, .undef, .undef, .undef, .undef, .undef, .undef, .undef], [], ⟨[], []⟩⟩ := by unfold C18 E18; rfl
noncomputable def c18 : RC := (.seq (.reg r18_0) (.seq (.reg r18_1) (.seq (.reg r18_2) (.seq (.seq (.regD r18_3 r18_4) (.cond (.var 13) (.seq (.reg r18_5) .ret) .skip)) (.seq (.reg r18_6) (.seq (.seq (.reg r18_7) (.block 0 (.rangeF (.var 14) [(.var 15), (.var 16)] (.seq (.reg r18_8) (.reg r18_9)) (.block 1 (.regD r18_10 r18_11))))) (.seq (.reg r18_12) (.seq (.seq (.reg r18_13) (.block 2 (.loop (.seq (.reg r18_14) (.seq (.cond (.var 20) .skip (.exit 2)) (.seq (.block 3 (.seq (.reg r18_15) (.reg r18_16))) (.reg r18_17))))))) (.seq (.reg r18_18) .ret)))))))))
noncomputable def q18 : List RR := [(.slot (.var 4))]
theorem z18 {n m : Nat} : resCode (E18 n m) (Tryd.f18.body.getD .skip) = some c18 := by kernel_rfl
theorem zr18 {n m : Nat} : resRs (E18 n m) Tryd.f18.results.toList = some q18 := by kernel_rfl
theorem oT18 {args : List D} {d : D} (hl : args.length = 3) (h : TWp C18 0 0 c18 (fun e n m s => (match e with | .exit _ => False | _ => True) ∧ ∃ s1, (∀ ds, Weak { C18 with n0 := n, m0 := m, dfs := ds } s s1) ∧ rrsWp q18 s1 fun ds => D.closed (oneOrTup ds) = true ∧ (oneOrTup ds).er = d) (St.init C18 args ⟨[], []⟩)) : Pur M 18 args d :=
  pur_of_bodyT (C := C18) (fn := Tryd.f18) Tryd.func18 (by kernel_rfl) (by kernel_rfl) (rc := c18) z18 (rs := q18) zr18 (by kernel_rfl) (by rw [hl]; rfl) (by rw [hl]; decide) rfl rfl h
end Go.Proofs.YtgjkhlnpplajjaaDoor
end
section
set_option maxRecDepth 100000
set_option linter.unusedSimpArgs false
set_option linter.unusedVariables false
namespace Go.Proofs.YtgjkhlnpplajjaaDoor
open Go GoV Go.RowKit
theorem index_hx (c : UInt8) : Lib.indexByte hexs c = hxv c := by
  have key : ∀ n : Fin 256, Lib.indexByte hexs (UInt8.ofNat n.val) = hxv (UInt8.ofNat n.val) := by decide +kernel
  have := key ⟨c.toNat, UInt8.toNat_lt c⟩
  simpa only [UInt8.ofNat_toNat] using this
theorem index_p (c : UInt8) : Pur M 58 [.str hexs, .int .u8 c.toNat] (.int .i64 (hxv c)) := by
  refine pur_ext (vs := [.string ⟨hexs.toArray⟩, .int .u8 c.toNat]) (v := .int .i64 (hxv c)) ⟨Tryd.f58, Tryd.func58, rfl, rfl⟩ (fun w I xs h => ?_) (fun w I => ?_) (fun w hA => ?_)
  · obtain ⟨x, xs', rfl, g1, g2⟩ := h.inv
    obtain ⟨y, ys', rfl, g3, g4⟩ := g2.inv
    simp only [Rel] at g1 g3
    rw [g4.inv_nil, g1, g3]
  · simp [Rel]
  · refine (Tryd.strings_IndexByte ⟨hexs.toArray⟩ c.toNat w).mono fun e w' hh => ?_
    obtain ⟨rfl, rfl⟩ := hh
    refine ⟨?_, Below.refl _ _⟩
    have : ((c.toNat : Int).toNat).toUInt8 = c := by simp
    rw [this, ← index_hx]
def drows (m : List UInt8) : List (List D) := (List.range 18).map fun k => [.int .i64 (k : Nat), .int .i64 ((dgt m).getD k 0 : Nat)]
theorem drows_len (m : List UInt8) : (drows m).length = 18 := by simp [drows]
theorem drows_get {m : List UInt8} {k : Nat} (h : k < 18) : (drows m)[k]? = some [.int .i64 (k : Nat), .int .i64 ((dgt m).getD k 0 : Nat)] := by simp [drows, h]
theorem dgt_lo {m : List UInt8} {k : Nat} (h : k < 16) : (dgt m).getD k 0 = (hexs16 m).getD k 0 := by
  have := hexs16_len m
  simp [dgt, List.getD, List.getElem?_append_left (show k < (hexs16 m).length by omega)]
theorem dgt_16 (m : List UInt8) : (dgt m).getD 16 0 = rest m / 16 := by
  have := hexs16_len m
  simp [dgt, List.getD, List.getElem?_append_right (show (hexs16 m).length ≤ 16 by omega), this]
theorem dgt_17 (m : List UInt8) : (dgt m).getD 17 0 = rest m % 16 := by
  have := hexs16_len m
  simp [dgt, List.getD, List.getElem?_append_right (show (hexs16 m).length ≤ 17 by omega), this]
set_option maxHeartbeats 1000000 in
theorem digits_it (m : List UInt8) (hm : m.length < 65536) : Iter M 56 [.ip [.str m]] (drows m) := by
  refine oi56 rfl fun b hpk l hY => ?_
  rw [ie56]
  unfold c56
  have h1 := pur_with (sum_p m hm) b
  have hl := sumN_len m
  have hlen := drows_len m
  rw [hlen]
  repeat' (first
    | with_reducible first | apply swp_seq | apply swp_reg | apply swp_regD | apply swp_block | apply swp_exit | apply swp_ret | apply swp_skip | apply swp_cd
    | simp only [go_sem, Nat.reduceAdd, Nat.reduceSub, Nat.reduceMul, Nat.reduceEqDiff, Nat.reduceLeDiff, Nat.reduceLT, Int.reduceEq, Int.reduceNe, Int.reduceLT, Int.reduceLE, Int.reduceAdd, Int.reduceSub, Int.reduceMul, Int.reduceNeg, Int.reduceToNat, Int.reduceTDiv, Int.reduceTMod, Int.reduceBEq, Int.reduceBNe, decide_true, decide_false, reduceCtorEq, reduceIte, atB_M, pe56]
    | simp (disch := omega) only [w64, w32, wu8, wu16, wu32, wu64]
    | ((with_reducible refine o_call (h1) ?he ?hc ?_); (case he | hc => first | rfl | (simp [D.erL, D.er, D.closedL, D.closed]; done)))
    | with_reducible first | apply cd_dec | apply cd_eq | apply cd_ne | apply cd_split
    | ((with_reducible refine And.intro ?hw ?_); (case hw => first | omega | rfl | exact ⟨_, _, rfl⟩ | assumption | (simp only [lN1, lN2, lN3, lN4, lN5, lN6, lN7] <;> omega)))
    | with_reducible intro _)
  refine swp_fam [0, 1, 2, 3, 6, 7] (fun j : Nat => ⟨[yldD l, .ip [.str m], .int .i64 (restP m j : Nat), .str (sumN m), .undef, .undef, .int .i64 16, .int .i64 j, .undef, .undef, .undef], [], hpk j⟩)
    (fun j => j ≤ 16) (fun j => 16 - j) 0 (by omega) ?_ ?_
  · simp [keepE, St.keep, restP, hl]
  · intro j hj
    have hrp := restP_le m j
    by_cases hlt : j < 16
    · have h2 := pur_with (index_p ((sumN m).getD j 0)) b
      have h8 := hY j _ (drows_get (by omega))
      rw [dgt_lo hlt] at h8
      obtain ⟨h3, h4⟩ := hexs16_at (m := m) hlt
      rw [h3] at h2
      have h6 := restP_step (m := m) hlt
      have t1 : ((j : Nat) : Int).toNat = j := Int.toNat_natCast j
      generalize (hexs16 m).getD j 0 = d at *
      generalize hS : sumN m = S at *
      generalize hq : restP m j = q at *
      repeat' (first
    | with_reducible first | apply swp_seq | apply swp_reg | apply swp_regD | apply swp_block | apply swp_exit | apply swp_ret | apply swp_skip | apply swp_cd
    | simp only [go_sem, Nat.reduceAdd, Nat.reduceSub, Nat.reduceMul, Nat.reduceEqDiff, Nat.reduceLeDiff, Nat.reduceLT, Int.reduceEq, Int.reduceNe, Int.reduceLT, Int.reduceLE, Int.reduceAdd, Int.reduceSub, Int.reduceMul, Int.reduceNeg, Int.reduceToNat, Int.reduceTDiv, Int.reduceTMod, Int.reduceBEq, Int.reduceBNe, decide_true, decide_false, reduceCtorEq, reduceIte, atB_M, pe56, t1]
    | simp (disch := omega) only [w64, w32, wu8, wu16, wu32, wu64]
    | ((with_reducible refine o_call (h2) ?he ?hc ?_); (case he | hc => first | rfl | (simp [D.erL, D.er, D.closedL, D.closed, hl]; done)))
    | ((with_reducible refine o_yield (h8) ?he ?hh ?_); (case he => first | rfl | (simp [hl]; done)); (case hh => first | rfl | assumption | (simp [hl]; done)))
    | with_reducible first | apply cd_dec | apply cd_eq | apply cd_ne | apply cd_split
    | ((with_reducible refine And.intro ?hw ?_); (case hw => first | omega | rfl | exact ⟨_, _, rfl⟩ | assumption | (simp only [lN1, lN2, lN3, lN4, lN5, lN6, lN7, hl] <;> omega)))
    | with_reducible intro _)
      all_goals try omega
      refine ⟨j + 1, by omega, by omega, ?_⟩
      simp only [keepE, St.keep]
      rw [h6]
      simp
      try omega
    · have e : j = 16 := by omega
      subst e
      have h8 := hY 16 _ (drows_get (by omega))
      have h9 := hY 17 _ (drows_get (by omega))
      rw [dgt_16] at h8
      rw [dgt_17] at h9
      rw [restP_all] at *
      have t1 : ((rest m : Nat) : Int).tdiv 16 = ((rest m / 16 : Nat) : Int) := by rw [Int.tdiv_eq_ediv_of_nonneg (by omega)]; omega
      have t2 : ((rest m : Nat) : Int).tmod 16 = ((rest m % 16 : Nat) : Int) := by rw [Int.tmod_eq_emod_of_nonneg (by omega)]; omega
      have bx : rest m / 16 ≤ 15 := by omega
      have by' : rest m % 16 ≤ 15 := by omega
      generalize rest m / 16 = x at *
      generalize rest m % 16 = y at *
      repeat' (first
    | with_reducible first | apply swp_seq | apply swp_reg | apply swp_regD | apply swp_block | apply swp_exit | apply swp_ret | apply swp_skip | apply swp_cd
    | simp only [go_sem, Nat.reduceAdd, Nat.reduceSub, Nat.reduceMul, Nat.reduceEqDiff, Nat.reduceLeDiff, Nat.reduceLT, Int.reduceEq, Int.reduceNe, Int.reduceLT, Int.reduceLE, Int.reduceAdd, Int.reduceSub, Int.reduceMul, Int.reduceNeg, Int.reduceToNat, Int.reduceTDiv, Int.reduceTMod, Int.reduceBEq, Int.reduceBNe, decide_true, decide_false, reduceCtorEq, reduceIte, atB_M, pe56, t1, t2]
    | simp (disch := omega) only [w64, w32, wu8, wu16, wu32, wu64]
    | ((with_reducible refine o_yield (h8) ?he ?hh ?_); (case he => first | rfl | (simp [hl]; done)); (case hh => first | rfl | assumption | (simp [hl]; done)))
    | ((with_reducible refine o_yield (h9) ?he ?hh ?_); (case he => first | rfl | (simp [hl]; done)); (case hh => first | rfl | assumption | (simp [hl]; done)))
    | with_reducible first | apply cd_dec | apply cd_eq | apply cd_ne | apply cd_split
    | ((with_reducible refine And.intro ?hw ?_); (case hw => first | omega | rfl | exact ⟨_, _, rfl⟩ | assumption | (simp only [lN1, lN2, lN3, lN4, lN5, lN6, lN7, hl] <;> omega)))
    | with_reducible intro _)
      all_goals try omega
theorem sdigits_p (m : List UInt8) : Pur M 30 [.str m] (.fn (.func 56) [] [.ip [.str m]]) := by
  refine ow30 rfl ?_
  rw [i30]
  unfold c30
  repeat' (first
    | with_reducible first | apply swp_seq | apply swp_reg | apply swp_regD | apply swp_block | apply swp_exit | apply swp_ret | apply swp_skip | apply swp_cd
    | simp only [go_sem, Nat.reduceAdd, Nat.reduceSub, Nat.reduceMul, Nat.reduceEqDiff, Nat.reduceLeDiff, Nat.reduceLT, Int.reduceEq, Int.reduceNe, Int.reduceLT, Int.reduceLE, Int.reduceAdd, Int.reduceSub, Int.reduceMul, Int.reduceNeg, Int.reduceToNat, Int.reduceTDiv, Int.reduceTMod, Int.reduceBEq, Int.reduceBNe, decide_true, decide_false, reduceCtorEq, reduceIte, P30, q30]
    | simp (disch := omega) only [w64, w32, wu8, wu16, wu32, wu64]
    | with_reducible first | apply cd_dec | apply cd_eq | apply cd_ne | apply cd_split
    | ((with_reducible refine And.intro ?hw ?_); (case hw => first | omega | rfl | exact ⟨_, _, rfl⟩ | assumption | (simp only [lN1, lN2, lN3, lN4, lN5, lN6, lN7] <;> omega)))
    | with_reducible intro _)
  all_goals try omega
  refine ⟨_, weak_trans (weak_keep [2]) (weak_frz 0 [.str m] rfl (Nat.le_refl 0) (by simp [D.closedL, D.closed])), ?_⟩
  simp [St.frz, keepE, D.fz, D.fzL, D.closed, D.er, D.closedL, D.erL]
def crows (l : List (List UInt8)) : List (List D) := (List.range (l.length / 2)).map fun k => [.slice [.str (l.getD (2 * k) []), .str (l.getD (2 * k + 1) [])] .no]
theorem crows_len (l : List (List UInt8)) : (crows l).length = l.length / 2 := by simp [crows]
theorem crows_get {l : List (List UInt8)} {k : Nat} (h : k < l.length / 2) : (crows l)[k]? = some [.slice [.str (l.getD (2 * k) []), .str (l.getD (2 * k + 1) [])] .no] := by simp [crows, h]
theorem pair_of {l : List (List UInt8)} {k : Nat} (h : 2 * k + 1 < l.length) : ((strs l).take (2 * k + 2)).drop (2 * k) = [.str (l.getD (2 * k) []), .str (l.getD (2 * k + 1) [])] := by
  have h1 : (strs l).length = l.length := strs_len l
  rw [List.take_succ_eq_append_getElem (by omega), List.take_succ_eq_append_getElem (by omega), List.append_assoc, List.drop_append]
  simp [List.getD, h, show 2 * k < l.length by omega, Nat.min_eq_left (show 2 * k ≤ l.length by omega)]
set_option maxHeartbeats 1000000 in
theorem chunk_it (l : List (List UInt8)) (hl : l.length ≤ 1000) (he : l.length % 2 = 0) : Iter M 71 [.ip [.slice (strs l) .no], .ip [.int .i64 2]] (crows l) := by
  refine oi71 rfl fun b hpk y hY => ?_
  rw [ie71]
  unfold c71
  have hsl : (strs l).length = l.length := strs_len l
  have hlen := crows_len l
  rw [hlen]
  have hel := elems_strs l
  repeat' (first
    | with_reducible first | apply swp_seq | apply swp_reg | apply swp_regD | apply swp_block | apply swp_exit | apply swp_ret | apply swp_skip | apply swp_cd
    | simp only [go_sem, Nat.reduceAdd, Nat.reduceSub, Nat.reduceMul, Nat.reduceEqDiff, Nat.reduceLeDiff, Nat.reduceLT, Int.reduceEq, Int.reduceNe, Int.reduceLT, Int.reduceLE, Int.reduceAdd, Int.reduceSub, Int.reduceMul, Int.reduceNeg, Int.reduceToNat, Int.reduceTDiv, Int.reduceTMod, Int.reduceBEq, Int.reduceBNe, decide_true, decide_false, reduceCtorEq, reduceIte, atB_M, pe71]
    | simp (disch := omega) only [w64, w32, wu8, wu16, wu32, wu64]
    | ((with_reducible first | apply s_slFF | apply t_slFF); (case hx => first | rfl | assumption | omega | ((first | refine ⟨?_, ?_⟩ | skip) <;> first | omega | (simp only [lN1, lN2, lN3, lN4, lN5, lN6, lN7] <;> omega)) | (simp [elemsK, D.isVal, D.cells, D.closedL, D.closed]; first | done | omega)))
    | ((with_reducible first | apply s_slTF | apply s_slFT | apply t_slTF | apply t_slFT); (case h0 | h1 | hx => first | rfl | assumption | omega | ((first | refine ⟨?_, ?_⟩ | skip) <;> first | omega | (simp only [lN1, lN2, lN3, lN4, lN5, lN6, lN7] <;> omega)) | (simp [elemsK, D.isVal, D.cells, D.closedL, D.closed]; first | done | omega)))
    | ((with_reducible first | apply s_slTT | apply t_slTT); (case h0 | h1 | h2 | hx => first | rfl | assumption | omega | ((first | refine ⟨?_, ?_⟩ | skip) <;> first | omega | (simp only [lN1, lN2, lN3, lN4, lN5, lN6, lN7] <;> omega)) | (simp [elemsK, D.isVal, D.cells, D.closedL, D.closed]; first | done | omega)))
    | ((with_reducible apply s_sl3); (case h0 | h1 | h2 | h3 | hx => first | rfl | assumption | omega | ((first | refine ⟨?_, ?_⟩ | skip) <;> first | omega | (simp only [lN1, lN2, lN3, lN4, lN5, lN6, lN7] <;> omega)) | (simp [elemsK, D.isVal, D.cells, D.closedL, D.closed]; first | done | omega)))
    | ((with_reducible first | apply s_smTF | apply s_smFT); (case h0 | h1 | hc => first | rfl | assumption | omega | ((first | refine ⟨?_, ?_⟩ | skip) <;> first | omega | (simp only [lN1, lN2, lN3, lN4, lN5, lN6, lN7] <;> omega)) | (simp [elemsK, D.isVal, D.cells, D.closedL, D.closed]; first | done | omega)))
    | ((with_reducible apply s_smTT); (case h0 | h1 | h2 | hc => first | rfl | assumption | omega | ((first | refine ⟨?_, ?_⟩ | skip) <;> first | omega | (simp only [lN1, lN2, lN3, lN4, lN5, lN6, lN7] <;> omega)) | (simp [elemsK, D.isVal, D.cells, D.closedL, D.closed]; first | done | omega)))
    | with_reducible first | apply cd_dec | apply cd_eq | apply cd_ne | apply cd_split
    | ((with_reducible refine And.intro ?hw ?_); (case hw => first | omega | rfl | exact ⟨_, _, rfl⟩ | assumption | (simp only [lN1, lN2, lN3, lN4, lN5, lN6, lN7] <;> omega)))
    | with_reducible intro _)
  refine swp_fam [0, 1, 2, 3] (fun j : Nat => ⟨[yldD y, .ip [.slice (strs l) .no], .ip [.int .i64 2], .int .i64 (2 * j : Nat), .undef, .undef, .undef], [], hpk j⟩)
    (fun j => j ≤ l.length / 2) (fun j => l.length / 2 - j) 0 (by omega) ?_ ?_
  · simp [keepE, St.keep]
  · intro j hj
    by_cases hlt : j < l.length / 2
    · have h8 := hY j _ (crows_get hlt)
      have hpr := pair_of (l := l) (k := j) (by omega)
      have t1 : ((2 * j : Nat) : Int).toNat = 2 * j := Int.toNat_natCast _
      have t2 : (((2 * j : Nat) : Int) + 2).toNat = 2 * j + 2 := by omega
      generalize l.getD (2 * j) [] = p at *
      generalize l.getD (2 * j + 1) [] = q at *
      generalize strs l = L at *
      generalize hn : l.length = n at *
      have t3 : (L.drop (2 * j)).length = n - 2 * j := by simp; omega
      have tm : (if ((n - 2 * j : Nat) : Int) < 2 then ((n - 2 * j : Nat) : Int) else 2) = 2 := by split <;> omega
      repeat' (first
    | with_reducible first | apply swp_seq | apply swp_reg | apply swp_regD | apply swp_block | apply swp_exit | apply swp_ret | apply swp_skip | apply swp_cd
    | simp only [go_sem, Nat.reduceAdd, Nat.reduceSub, Nat.reduceMul, Nat.reduceEqDiff, Nat.reduceLeDiff, Nat.reduceLT, Int.reduceEq, Int.reduceNe, Int.reduceLT, Int.reduceLE, Int.reduceAdd, Int.reduceSub, Int.reduceMul, Int.reduceNeg, Int.reduceToNat, Int.reduceTDiv, Int.reduceTMod, Int.reduceBEq, Int.reduceBNe, decide_true, decide_false, reduceCtorEq, reduceIte, atB_M, pe71, t1, t2, hpr, hsl, t3, tm]
    | simp (disch := omega) only [w64, w32, wu8, wu16, wu32, wu64]
    | ((with_reducible refine o_yield (h8) ?he ?hh ?_); (case he => first | rfl | (simp [hsl, t3, hel]; done)); (case hh => first | rfl | assumption | (simp [hsl, t3, hel]; done)))
    | ((with_reducible first | apply s_slFF | apply t_slFF); (case hx => first | rfl | assumption | omega | ((first | refine ⟨?_, ?_⟩ | skip) <;> first | omega | (simp only [lN1, lN2, lN3, lN4, lN5, lN6, lN7, hsl, t3, hel] <;> omega)) | (simp [elemsK, D.isVal, D.cells, D.closedL, D.closed, hsl, t3, hel]; first | done | omega)))
    | ((with_reducible first | apply s_slTF | apply s_slFT | apply t_slTF | apply t_slFT); (case h0 | h1 | hx => first | rfl | assumption | omega | ((first | refine ⟨?_, ?_⟩ | skip) <;> first | omega | (simp only [lN1, lN2, lN3, lN4, lN5, lN6, lN7, hsl, t3, hel] <;> omega)) | (simp [elemsK, D.isVal, D.cells, D.closedL, D.closed, hsl, t3, hel]; first | done | omega)))
    | ((with_reducible first | apply s_slTT | apply t_slTT); (case h0 | h1 | h2 | hx => first | rfl | assumption | omega | ((first | refine ⟨?_, ?_⟩ | skip) <;> first | omega | (simp only [lN1, lN2, lN3, lN4, lN5, lN6, lN7, hsl, t3, hel] <;> omega)) | (simp [elemsK, D.isVal, D.cells, D.closedL, D.closed, hsl, t3, hel]; first | done | omega)))
    | ((with_reducible apply s_sl3); (case h0 | h1 | h2 | h3 | hx => first | rfl | assumption | omega | ((first | refine ⟨?_, ?_⟩ | skip) <;> first | omega | (simp only [lN1, lN2, lN3, lN4, lN5, lN6, lN7, hsl, t3, hel] <;> omega)) | (simp [elemsK, D.isVal, D.cells, D.closedL, D.closed, hsl, t3, hel]; first | done | omega)))
    | ((with_reducible first | apply s_smTF | apply s_smFT); (case h0 | h1 | hc => first | rfl | assumption | omega | ((first | refine ⟨?_, ?_⟩ | skip) <;> first | omega | (simp only [lN1, lN2, lN3, lN4, lN5, lN6, lN7, hsl, t3, hel] <;> omega)) | (simp [elemsK, D.isVal, D.cells, D.closedL, D.closed, hsl, t3, hel]; first | done | omega)))
    | ((with_reducible apply s_smTT); (case h0 | h1 | h2 | hc => first | rfl | assumption | omega | ((first | refine ⟨?_, ?_⟩ | skip) <;> first | omega | (simp only [lN1, lN2, lN3, lN4, lN5, lN6, lN7, hsl, t3, hel] <;> omega)) | (simp [elemsK, D.isVal, D.cells, D.closedL, D.closed, hsl, t3, hel]; first | done | omega)))
    | with_reducible first | apply cd_dec | apply cd_eq | apply cd_ne | apply cd_split
    | ((with_reducible refine And.intro ?hw ?_); (case hw => first | omega | rfl | exact ⟨_, _, rfl⟩ | assumption | (simp only [lN1, lN2, lN3, lN4, lN5, lN6, lN7, hsl, t3, hel] <;> omega)))
    | with_reducible intro _)
      all_goals first
        | omega
        | (exfalso; omega)
        | skip
      refine ⟨j + 1, by omega, by omega, ?_⟩
      simp [keepE, St.keep]
      try omega
    · have e : j = l.length / 2 := by omega
      subst e
      repeat' (first
    | with_reducible first | apply swp_seq | apply swp_reg | apply swp_regD | apply swp_block | apply swp_exit | apply swp_ret | apply swp_skip | apply swp_cd
    | simp only [go_sem, Nat.reduceAdd, Nat.reduceSub, Nat.reduceMul, Nat.reduceEqDiff, Nat.reduceLeDiff, Nat.reduceLT, Int.reduceEq, Int.reduceNe, Int.reduceLT, Int.reduceLE, Int.reduceAdd, Int.reduceSub, Int.reduceMul, Int.reduceNeg, Int.reduceToNat, Int.reduceTDiv, Int.reduceTMod, Int.reduceBEq, Int.reduceBNe, decide_true, decide_false, reduceCtorEq, reduceIte, atB_M, pe71, hsl]
    | simp (disch := omega) only [w64, w32, wu8, wu16, wu32, wu64]
    | ((with_reducible first | apply s_slFF | apply t_slFF); (case hx => first | rfl | assumption | omega | ((first | refine ⟨?_, ?_⟩ | skip) <;> first | omega | (simp only [lN1, lN2, lN3, lN4, lN5, lN6, lN7, hsl] <;> omega)) | (simp [elemsK, D.isVal, D.cells, D.closedL, D.closed, hsl]; first | done | omega)))
    | ((with_reducible first | apply s_slTF | apply s_slFT | apply t_slTF | apply t_slFT); (case h0 | h1 | hx => first | rfl | assumption | omega | ((first | refine ⟨?_, ?_⟩ | skip) <;> first | omega | (simp only [lN1, lN2, lN3, lN4, lN5, lN6, lN7, hsl] <;> omega)) | (simp [elemsK, D.isVal, D.cells, D.closedL, D.closed, hsl]; first | done | omega)))
    | ((with_reducible first | apply s_slTT | apply t_slTT); (case h0 | h1 | h2 | hx => first | rfl | assumption | omega | ((first | refine ⟨?_, ?_⟩ | skip) <;> first | omega | (simp only [lN1, lN2, lN3, lN4, lN5, lN6, lN7, hsl] <;> omega)) | (simp [elemsK, D.isVal, D.cells, D.closedL, D.closed, hsl]; first | done | omega)))
    | ((with_reducible apply s_sl3); (case h0 | h1 | h2 | h3 | hx => first | rfl | assumption | omega | ((first | refine ⟨?_, ?_⟩ | skip) <;> first | omega | (simp only [lN1, lN2, lN3, lN4, lN5, lN6, lN7, hsl] <;> omega)) | (simp [elemsK, D.isVal, D.cells, D.closedL, D.closed, hsl]; first | done | omega)))
    | ((with_reducible first | apply s_smTF | apply s_smFT); (case h0 | h1 | hc => first | rfl | assumption | omega | ((first | refine ⟨?_, ?_⟩ | skip) <;> first | omega | (simp only [lN1, lN2, lN3, lN4, lN5, lN6, lN7, hsl] <;> omega)) | (simp [elemsK, D.isVal, D.cells, D.closedL, D.closed, hsl]; first | done | omega)))
    | ((with_reducible apply s_smTT); (case h0 | h1 | h2 | hc => first | rfl | assumption | omega | ((first | refine ⟨?_, ?_⟩ | skip) <;> first | omega | (simp only [lN1, lN2, lN3, lN4, lN5, lN6, lN7, hsl] <;> omega)) | (simp [elemsK, D.isVal, D.cells, D.closedL, D.closed, hsl]; first | done | omega)))
    | with_reducible first | apply cd_dec | apply cd_eq | apply cd_ne | apply cd_split
    | ((with_reducible refine And.intro ?hw ?_); (case hw => first | omega | rfl | exact ⟨_, _, rfl⟩ | assumption | (simp only [lN1, lN2, lN3, lN4, lN5, lN6, lN7, hsl] <;> omega)))
    | with_reducible intro _)
      all_goals first
        | omega
        | (exfalso; omega)
end Go.Proofs.YtgjkhlnpplajjaaDoor
end
section
set_option maxRecDepth 100000
set_option linter.unusedSimpArgs false
set_option linter.unusedVariables false
namespace Go.Proofs.YtgjkhlnpplajjaaDoor
open Go GoV Go.RowKit
theorem chunk_p (l : List (List UInt8)) : Pur M 53 [.slice (strs l) .no, .int .i64 2] (.fn (.func 71) [] [.ip [.slice (strs l) .no], .ip [.int .i64 2]]) := by
  refine ow53 rfl ?_
  rw [i53]
  unfold c53
  have hcl := closed_strs l
  have her := erL_strs l
  generalize strs l = L at *
  repeat' (first
    | with_reducible first | apply swp_seq | apply swp_reg | apply swp_regD | apply swp_block | apply swp_exit | apply swp_ret | apply swp_skip | apply swp_cd
    | simp only [go_sem, Nat.reduceAdd, Nat.reduceSub, Nat.reduceMul, Nat.reduceEqDiff, Nat.reduceLeDiff, Nat.reduceLT, Int.reduceEq, Int.reduceNe, Int.reduceLT, Int.reduceLE, Int.reduceAdd, Int.reduceSub, Int.reduceMul, Int.reduceNeg, Int.reduceToNat, Int.reduceTDiv, Int.reduceTMod, Int.reduceBEq, Int.reduceBNe, decide_true, decide_false, reduceCtorEq, reduceIte, P53, q53]
    | simp (disch := omega) only [w64, w32, wu8, wu16, wu32, wu64]
    | with_reducible first | apply cd_dec | apply cd_eq | apply cd_ne | apply cd_split
    | ((with_reducible refine And.intro ?hw ?_); (case hw => first | omega | rfl | exact ⟨_, _, rfl⟩ | assumption | (simp only [lN1, lN2, lN3, lN4, lN5, lN6, lN7] <;> omega)))
    | with_reducible intro _)
  all_goals try omega
  refine ⟨_, weak_trans (weak_keep [4]) (weak_trans (weak_frz 0 [.slice L .no] rfl (Nat.le_refl 0) (by simp [D.closedL, D.closed, hcl])) (weak_frz 1 [.int .i64 2] rfl (Nat.zero_le _) (by simp [D.closedL, D.closed]))), ?_⟩
  simp [St.frz, keepE, D.fz, D.fzL, D.closed, D.er, D.closedL, D.erL, hcl, her]
theorem get_small {l : List (List UInt8)} (h : ∀ x ∈ l, x.length ≤ 1000) {i : Nat} : (l.getD i []).length ≤ 1000 := by
  by_cases hi : i < l.length
  · have : l.getD i [] = l[i] := by simp [List.getD, hi]
    rw [this]; exact h _ (List.getElem_mem hi)
  · have : l.getD i [] = [] := by simp [List.getD, List.getElem?_eq_none (Nat.le_of_not_lt hi)]
    rw [this]; simp
def hpA (l : List (List UInt8)) (k : Nat) : Hp := ⟨[.cells [.slice (strs ((up l).take k)) (.tok 0)]], [.per 1 k]⟩
set_option maxHeartbeats 1000000 in
theorem above_p (l : List (List UInt8)) (hl : l.length ≤ 1000) (he : l.length % 2 = 0) (hx : ∀ x ∈ l, x.length ≤ 1000) : Pur M 27 [.slice (strs l) .no] (.slice (strs (up l)) .no) := by
  refine oT27 rfl ?_
  rw [i27]
  unfold c27
  have h1 := chunk_p l
  have hit := chunk_it l hl he
  have hul := up_len l
  repeat' (first
    | with_reducible first | apply swp_seq | apply swp_reg | apply swp_regD | apply swp_block | apply swp_exit | apply swp_ret | apply swp_skip | apply swp_cd
    | with_reducible apply twp_seq
    | with_reducible apply twp_block
    | ((with_reducible refine twp_reg ?hb ?_); (case hb => exact fun _ _ => trivial); with_reducible intro _)
    | ((with_reducible refine twp_regD ?hb ?_); (case hb => exact fun _ _ => trivial); with_reducible intro _)
    | ((with_reducible refine twp_cond ?hb ?_); (case hb => exact fun _ _ => trivial); with_reducible intro _)
    | ((with_reducible refine twp_ret ?hb ?_); (case hb => exact fun _ _ => trivial))
    | simp only [go_sem, Nat.reduceAdd, Nat.reduceSub, Nat.reduceMul, Nat.reduceEqDiff, Nat.reduceLeDiff, Nat.reduceLT, Int.reduceEq, Int.reduceNe, Int.reduceLT, Int.reduceLE, Int.reduceAdd, Int.reduceSub, Int.reduceMul, Int.reduceNeg, Int.reduceToNat, Int.reduceTDiv, Int.reduceTMod, Int.reduceBEq, Int.reduceBNe, decide_true, decide_false, reduceCtorEq, reduceIte, P27, q27]
    | simp (disch := omega) only [w64, w32, wu8, wu16, wu32, wu64]
    | ((with_reducible first | refine o_call (h1) ?he ?hc ?_ | refine p_call (h1) ?he ?hc ?_ | refine c_call (h1) ?he ?hc ?_); (case he | hc => first | rfl | (simp [D.erL, D.er, D.closedL, D.closed]; done)))
    | ((with_reducible apply s_appT); (case he => rfl); (case hK | hc | hr | hV => first | rfl | assumption | omega | ((first | refine ⟨?_, ?_⟩ | skip) <;> first | omega | (simp only [lN1, lN2, lN3, lN4, lN5, lN6, lN7] <;> omega)) | (simp [elemsK, D.isVal, D.cells, D.closedL, D.closed]; first | done | omega)))
    | ((with_reducible apply s_appG); (case he => rfl); (case hV | hK | hr | hl => first | rfl | assumption | omega | ((first | refine ⟨?_, ?_⟩ | skip) <;> first | omega | (simp only [lN1, lN2, lN3, lN4, lN5, lN6, lN7] <;> omega)) | (simp [elemsK, D.isVal, D.cells, D.closedL, D.closed]; first | done | omega)))
    | ((with_reducible apply s_app0); (case he => rfl); (case hK | hc | hr => first | rfl | assumption | omega | ((first | refine ⟨?_, ?_⟩ | skip) <;> first | omega | (simp only [lN1, lN2, lN3, lN4, lN5, lN6, lN7] <;> omega)) | (simp [elemsK, D.isVal, D.cells, D.closedL, D.closed]; first | done | omega)))
    | ((with_reducible apply s_appF); (case he => rfl); (case hK | hc | hr | hx | hn => first | rfl | assumption | omega | ((first | refine ⟨?_, ?_⟩ | skip) <;> first | omega | (simp only [lN1, lN2, lN3, lN4, lN5, lN6, lN7] <;> omega)) | (simp [elemsK, D.isVal, D.cells, D.closedL, D.closed]; first | done | omega)))
    | ((with_reducible first | apply s_bsl | apply t_bsl); (case he | hl | hc => first | rfl | assumption | omega | ((first | refine ⟨?_, ?_⟩ | skip) <;> first | omega | (simp only [lN1, lN2, lN3, lN4, lN5, lN6, lN7] <;> omega)) | (simp [elemsK, D.isVal, D.cells, D.closedL, D.closed]; first | done | omega)))
    | with_reducible first | apply cd_dec | apply cd_eq | apply cd_ne | apply cd_split
    | ((with_reducible refine And.intro ?hw ?_); (case hw => first | omega | rfl | exact ⟨_, _, rfl⟩ | assumption | (simp only [lN1, lN2, lN3, lN4, lN5, lN6, lN7] <;> omega)))
    | with_reducible intro _)
  refine twp_weak (fun _ => weak_newC 0 0 1 (by decide) rfl rfl) (show TWp C27 0 0 _ _ ⟨[.slice (strs l) .no, .lit (.slice none 0 0), .ptr 0 0, .undef, .fn (.func 71) [] [.ip [.slice (strs l) .no], .ip [.int .i64 2]], .undef], [], hpA l 0⟩ from ?_)
  refine twp_range (fun _ _ => trivial) hit (hpA l) rfl ?_ rfl ?_ ?_
  · intro r hr
    obtain ⟨k, _, rfl⟩ := List.mem_map.1 hr
    rfl
  · intro k r hk
    have hlt : k < l.length / 2 := by rw [← crows_len]; exact (List.getElem?_eq_some_iff.1 hk).1
    rw [crows_get hlt] at hk
    cases hk
    have h2 := node_p (l.getD (2 * k) []) (l.getD (2 * k + 1) []) false (get_small hx) (get_small hx)
    have hut := up_take (l := l) (j := k) (by omega)
    have hT : ((up l).take k).length = k := by rw [List.length_take]; omega
    have hp : par (l.getD (2 * k) []) (l.getD (2 * k + 1) []) false = nod (l.getD (2 * k) []) (l.getD (2 * k + 1) []) := rfl
    rw [hp] at h2
    simp only [hpA, hut]
    generalize nod (l.getD (2 * k) []) (l.getD (2 * k + 1) []) = z at *
    generalize l.getD (2 * k) [] = p at *
    generalize l.getD (2 * k + 1) [] = q at *
    generalize (up l).take k = T at *
    have hT' := strs_len T
    have hs : strs (T ++ [z]) = strs T ++ [.str z] := by simp
    rw [hs]
    simp only [binds]
    repeat' (first
    | with_reducible first | apply swp_seq | apply swp_reg | apply swp_regD | apply swp_block | apply swp_exit | apply swp_ret | apply swp_skip | apply swp_cd
    | with_reducible apply twp_seq
    | with_reducible apply twp_block
    | ((with_reducible refine twp_reg ?hb ?_); (case hb => exact fun _ _ => trivial); with_reducible intro _)
    | ((with_reducible refine twp_regD ?hb ?_); (case hb => exact fun _ _ => trivial); with_reducible intro _)
    | ((with_reducible refine twp_cond ?hb ?_); (case hb => exact fun _ _ => trivial); with_reducible intro _)
    | ((with_reducible refine twp_ret ?hb ?_); (case hb => exact fun _ _ => trivial))
    | simp only [go_sem, Nat.reduceAdd, Nat.reduceSub, Nat.reduceMul, Nat.reduceEqDiff, Nat.reduceLeDiff, Nat.reduceLT, Int.reduceEq, Int.reduceNe, Int.reduceLT, Int.reduceLE, Int.reduceAdd, Int.reduceSub, Int.reduceMul, Int.reduceNeg, Int.reduceToNat, Int.reduceTDiv, Int.reduceTMod, Int.reduceBEq, Int.reduceBNe, decide_true, decide_false, reduceCtorEq, reduceIte, P27, q27]
    | simp (disch := omega) only [w64, w32, wu8, wu16, wu32, wu64]
    | ((with_reducible first | refine o_call (h2) ?he ?hc ?_ | refine p_call (h2) ?he ?hc ?_ | refine c_call (h2) ?he ?hc ?_); (case he | hc => first | rfl | (simp [D.erL, D.er, D.closedL, D.closed, hT', hT]; done)))
    | ((with_reducible apply s_appT); (case he => rfl); (case hK | hc | hr | hV => first | rfl | assumption | omega | ((first | refine ⟨?_, ?_⟩ | skip) <;> first | omega | (simp only [lN1, lN2, lN3, lN4, lN5, lN6, lN7, hT', hT] <;> omega)) | (simp [elemsK, D.isVal, D.cells, D.closedL, D.closed, hT', hT]; first | done | omega)))
    | ((with_reducible apply s_appG); (case he => rfl); (case hV | hK | hr | hl => first | rfl | assumption | omega | ((first | refine ⟨?_, ?_⟩ | skip) <;> first | omega | (simp only [lN1, lN2, lN3, lN4, lN5, lN6, lN7, hT', hT] <;> omega)) | (simp [elemsK, D.isVal, D.cells, D.closedL, D.closed, hT', hT]; first | done | omega)))
    | ((with_reducible apply s_app0); (case he => rfl); (case hK | hc | hr => first | rfl | assumption | omega | ((first | refine ⟨?_, ?_⟩ | skip) <;> first | omega | (simp only [lN1, lN2, lN3, lN4, lN5, lN6, lN7, hT', hT] <;> omega)) | (simp [elemsK, D.isVal, D.cells, D.closedL, D.closed, hT', hT]; first | done | omega)))
    | ((with_reducible apply s_appF); (case he => rfl); (case hK | hc | hr | hx | hn => first | rfl | assumption | omega | ((first | refine ⟨?_, ?_⟩ | skip) <;> first | omega | (simp only [lN1, lN2, lN3, lN4, lN5, lN6, lN7, hT', hT] <;> omega)) | (simp [elemsK, D.isVal, D.cells, D.closedL, D.closed, hT', hT]; first | done | omega)))
    | ((with_reducible first | apply s_bsl | apply t_bsl); (case he | hl | hc => first | rfl | assumption | omega | ((first | refine ⟨?_, ?_⟩ | skip) <;> first | omega | (simp only [lN1, lN2, lN3, lN4, lN5, lN6, lN7, hT', hT] <;> omega)) | (simp [elemsK, D.isVal, D.cells, D.closedL, D.closed, hT', hT]; first | done | omega)))
    | with_reducible first | apply cd_dec | apply cd_eq | apply cd_ne | apply cd_split
    | ((with_reducible refine And.intro ?hw ?_); (case hw => first | omega | rfl | exact ⟨_, _, rfl⟩ | assumption | (simp only [lN1, lN2, lN3, lN4, lN5, lN6, lN7, hT', hT] <;> omega)))
    | with_reducible intro _)
    all_goals try omega
    exact ⟨_, weak_refl, by simp [hT', hT]⟩
  · have hh : hpA l (crows l).length = ⟨[.cells [.slice (strs (up l)) (.tok 0)]], [.per 1 (l.length / 2)]⟩ := by
      rw [crows_len]
      unfold hpA
      rw [List.take_of_length_le (by omega)]
    rw [hh]
    simp only []
    have hcl := closed_strs (up l)
    have her := erL_strs (up l)
    generalize strs (up l) = L at *
    repeat' (first
    | with_reducible first | apply swp_seq | apply swp_reg | apply swp_regD | apply swp_block | apply swp_exit | apply swp_ret | apply swp_skip | apply swp_cd
    | with_reducible apply twp_seq
    | with_reducible apply twp_block
    | ((with_reducible refine twp_reg ?hb ?_); (case hb => exact fun _ _ => trivial); with_reducible intro _)
    | ((with_reducible refine twp_regD ?hb ?_); (case hb => exact fun _ _ => trivial); with_reducible intro _)
    | ((with_reducible refine twp_cond ?hb ?_); (case hb => exact fun _ _ => trivial); with_reducible intro _)
    | ((with_reducible refine twp_ret ?hb ?_); (case hb => exact fun _ _ => trivial))
    | simp only [go_sem, Nat.reduceAdd, Nat.reduceSub, Nat.reduceMul, Nat.reduceEqDiff, Nat.reduceLeDiff, Nat.reduceLT, Int.reduceEq, Int.reduceNe, Int.reduceLT, Int.reduceLE, Int.reduceAdd, Int.reduceSub, Int.reduceMul, Int.reduceNeg, Int.reduceToNat, Int.reduceTDiv, Int.reduceTMod, Int.reduceBEq, Int.reduceBNe, decide_true, decide_false, reduceCtorEq, reduceIte, P27, q27]
    | simp (disch := omega) only [w64, w32, wu8, wu16, wu32, wu64]
    | ((with_reducible apply s_appT); (case he => rfl); (case hK | hc | hr | hV => first | rfl | assumption | omega | ((first | refine ⟨?_, ?_⟩ | skip) <;> first | omega | (simp only [lN1, lN2, lN3, lN4, lN5, lN6, lN7] <;> omega)) | (simp [elemsK, D.isVal, D.cells, D.closedL, D.closed]; first | done | omega)))
    | ((with_reducible apply s_appG); (case he => rfl); (case hV | hK | hr | hl => first | rfl | assumption | omega | ((first | refine ⟨?_, ?_⟩ | skip) <;> first | omega | (simp only [lN1, lN2, lN3, lN4, lN5, lN6, lN7] <;> omega)) | (simp [elemsK, D.isVal, D.cells, D.closedL, D.closed]; first | done | omega)))
    | ((with_reducible apply s_app0); (case he => rfl); (case hK | hc | hr => first | rfl | assumption | omega | ((first | refine ⟨?_, ?_⟩ | skip) <;> first | omega | (simp only [lN1, lN2, lN3, lN4, lN5, lN6, lN7] <;> omega)) | (simp [elemsK, D.isVal, D.cells, D.closedL, D.closed]; first | done | omega)))
    | ((with_reducible apply s_appF); (case he => rfl); (case hK | hc | hr | hx | hn => first | rfl | assumption | omega | ((first | refine ⟨?_, ?_⟩ | skip) <;> first | omega | (simp only [lN1, lN2, lN3, lN4, lN5, lN6, lN7] <;> omega)) | (simp [elemsK, D.isVal, D.cells, D.closedL, D.closed]; first | done | omega)))
    | ((with_reducible first | apply s_bsl | apply t_bsl); (case he | hl | hc => first | rfl | assumption | omega | ((first | refine ⟨?_, ?_⟩ | skip) <;> first | omega | (simp only [lN1, lN2, lN3, lN4, lN5, lN6, lN7] <;> omega)) | (simp [elemsK, D.isVal, D.cells, D.closedL, D.closed]; first | done | omega)))
    | with_reducible first | apply cd_dec | apply cd_eq | apply cd_ne | apply cd_split
    | ((with_reducible refine And.intro ?hw ?_); (case hw => first | omega | rfl | exact ⟨_, _, rfl⟩ | assumption | (simp only [lN1, lN2, lN3, lN4, lN5, lN6, lN7] <;> omega)))
    | with_reducible intro _)
    refine ⟨_, fun _ => weak_refl, ?_⟩
    simp [D.closed, D.er, hcl, her]
end Go.Proofs.YtgjkhlnpplajjaaDoor
end
section
set_option linter.unusedSimpArgs false
set_option linter.unusedVariables false
namespace Go.Proofs.YtgjkhlnpplajjaaDoor
open Go GoV
def Inj (S : List UInt8 → Prop) : Prop := ∀ a b, S a → S b → sumN a = sumN b → a = b
theorem chn_back {S : List UInt8 → Prop} (hS : Inj S) : ∀ (e d : Nat) (g s : List UInt8), (∀ j, j < e → S (chn j g)) → (∀ j, j < d + e → S (chn j s)) → chn e g = chn (d + e) s → g = chn d s
  | 0, d, g, s, _, _, h => h
  | e + 1, d, g, s, h1, h2, h => by
    rw [chn_succ, show d + (e + 1) = (d + e) + 1 by omega, chn_succ] at h
    have := hS _ _ (h1 e (by omega)) (h2 (d + e) (by omega)) h
    exact chn_back hS e d g s (fun j hj => h1 j (by omega)) (fun j hj => h2 j (by omega)) this
/-! ### Trees, from above -/

def nodeR (s : List UInt8) : Nat → Nat → List UInt8
  | 0, o => key s o
  | h + 1, o => nod (nodeR s h o) (nodeR s h (o + 2 ^ h))
def pathR (s : List UInt8) : Nat → Nat → Nat → List (List UInt8)
  | 0, _, _ => []
  | h + 1, o, i => pathR s h (if (i / 2 ^ h) % 2 == 1 then o + 2 ^ h else o) (i % 2 ^ h) ++ [nodeR s h (if (i / 2 ^ h) % 2 == 1 then o else o + 2 ^ h)]
def nodeS (s : List UInt8) : Nat → Nat → List UInt8 → Prop
  | 0, o, t => t = keyT s o
  | h + 1, o, t => t = nodT (nodeR s h o) (nodeR s h (o + 2 ^ h)) ∨ nodeS s h o t ∨ nodeS s h (o + 2 ^ h) t
def climbT : List UInt8 → List (List UInt8) → Nat → List (List UInt8)
  | _, [], _ => []
  | a, x :: p, i => (if i % 2 == 1 then nodT x a else nodT a x) :: climbT (par a x (i % 2 == 1)) p (i / 2)
theorem par_sum (a x : List UInt8) (b : Bool) : par a x b = sumN (if b then nodT x a else nodT a x) := by cases b <;> rfl
theorem climb_snoc : ∀ (p : List (List UInt8)) (a x : List UInt8) (i : Nat), climb a (p ++ [x]) i = par (climb a p i) x ((i / 2 ^ p.length) % 2 == 1)
  | [], a, x, i => by simp [climb]
  | y :: p, a, x, i => by
    simp only [List.cons_append, climb, climb_snoc p, List.length_cons]
    rw [Nat.div_div_eq_div_mul, show 2 * 2 ^ p.length = 2 ^ (p.length + 1) by rw [Nat.pow_succ, Nat.mul_comm]]
theorem climbT_snoc : ∀ (p : List (List UInt8)) (a x : List UInt8) (i : Nat), climbT a (p ++ [x]) i = climbT a p i ++ [if (i / 2 ^ p.length) % 2 == 1 then nodT x (climb a p i) else nodT (climb a p i) x]
  | [], a, x, i => by simp [climb, climbT]
  | y :: p, a, x, i => by
    simp only [List.cons_append, climb, climbT, climbT_snoc p, List.length_cons]
    rw [Nat.div_div_eq_div_mul, show 2 * 2 ^ p.length = 2 ^ (p.length + 1) by rw [Nat.pow_succ, Nat.mul_comm]]
theorem mod_half (i n : Nat) : (i % 2 ^ (n + 1)) % 2 = i % 2 ∧ (i % 2 ^ (n + 1)) / 2 = (i / 2) % 2 ^ n := by
  have h : 2 ^ (n + 1) = 2 * 2 ^ n := by rw [Nat.pow_succ, Nat.mul_comm]
  rw [h]
  constructor
  · exact Nat.mod_mul_right_mod i 2 (2 ^ n)
  · exact Nat.mod_mul_right_div_self i 2 (2 ^ n)
theorem climb_low : ∀ (p : List (List UInt8)) (a : List UInt8) (i : Nat), climb a p i = climb a p (i % 2 ^ p.length)
  | [], a, i => rfl
  | y :: p, a, i => by
    obtain ⟨h1, h2⟩ := mod_half i p.length
    simp only [climb, List.length_cons, h1, h2]
    exact climb_low p _ _
theorem climbT_low : ∀ (p : List (List UInt8)) (a : List UInt8) (i : Nat), climbT a p i = climbT a p (i % 2 ^ p.length)
  | [], a, i => rfl
  | y :: p, a, i => by
    obtain ⟨h1, h2⟩ := mod_half i p.length
    simp only [climbT, List.length_cons, h1, h2]
    rw [climbT_low p _ (i / 2)]
theorem nodT_ne {a b : List UInt8} {l : List (List UInt8)} (h : l.length = 18) : nodT a b ≠ joined l := by
  intro e
  have := joined_inj _ _ e
  rw [← this] at h
  simp at h
theorem topdown {S : List UInt8 → Prop} (hS : Inj S) (s : List UInt8) {l : List (List UInt8)} (hl : l.length = 18) (hT : S (joined l)) :
    ∀ (h o : Nat) (p : List (List UInt8)) (i : Nat), (∀ t, nodeS s h o t → S t) → (∀ t ∈ climbT (sumN (joined l)) p i, S t) → i < 2 ^ p.length →
      climb (sumN (joined l)) p i = nodeR s h o → p.length = h ∧ l = ends s (o + i) ∧ p = pathR s h o i
  | 0, o, p, i, h1, h2, hi, he => by
    have hk : S (keyT s o) := h1 _ rfl
    rcases List.eq_nil_or_concat p with rfl | ⟨q, x, rfl⟩
    · have hi0 : i = 0 := by simpa using hi
      subst hi0
      have := hS _ _ hT hk he
      exact ⟨rfl, joined_inj _ _ this, rfl⟩
    · exfalso
      simp only [List.concat_eq_append] at *
      rw [climb_snoc, par_sum] at he
      rw [climbT_snoc] at h2
      have h3 := h2 _ (List.mem_append.2 (.inr (List.mem_singleton.2 rfl)))
      have := hS _ _ h3 hk he
      have he18 : (ends s o).length = 18 := by simp [ends]
      split at this <;> exact nodT_ne he18 this
  | h + 1, o, p, i, h1, h2, hi, he => by
    have hk : S (nodT (nodeR s h o) (nodeR s h (o + 2 ^ h))) := h1 _ (.inl rfl)
    rcases List.eq_nil_or_concat p with rfl | ⟨q, x, rfl⟩
    · exfalso
      exact nodT_ne hl (hS _ _ hk hT he.symm)
    · simp only [List.concat_eq_append] at *
      rw [climb_snoc, par_sum] at he
      rw [climbT_snoc] at h2
      have h3 := h2 _ (List.mem_append.2 (.inr (List.mem_singleton.2 rfl)))
      have h4 := hS _ _ h3 hk he
      have hlen : (q ++ [x]).length = q.length + 1 := by simp
      rw [hlen] at hi ⊢
      have hq : 0 < 2 ^ q.length := Nat.pow_pos (by omega)
      have hp : 2 ^ (q.length + 1) = 2 ^ q.length * 2 := Nat.pow_succ ..
      have hlow : ∀ t ∈ climbT (sumN (joined l)) q (i % 2 ^ q.length), S t := by
        intro t ht
        rw [← climbT_low] at ht
        exact h2 t (List.mem_append.2 (.inl ht))
      have hmod : i % 2 ^ q.length < 2 ^ q.length := Nat.mod_lt _ hq
      have hdm := Nat.div_add_mod i (2 ^ q.length)
      have hd2 : i / 2 ^ q.length < 2 := by rw [Nat.div_lt_iff_lt_mul hq]; omega
      by_cases hb : (i / 2 ^ q.length) % 2 = 1
      · have hb1 : i / 2 ^ q.length = 1 := by
          revert hb hd2; generalize i / 2 ^ q.length = z; intro hb hd2; omega
        have hb' : ((i / 2 ^ q.length) % 2 == 1) = true := by simp [hb]
        rw [if_pos hb'] at h4
        obtain ⟨e1, e2⟩ := nodT_inj h4
        rw [climb_low] at e2
        obtain ⟨r1, r2, r3⟩ := topdown hS s hl hT h (o + 2 ^ h) q (i % 2 ^ q.length) (fun t ht => h1 t (.inr (.inr ht))) hlow hmod e2
        subst r1
        rw [hb1] at hdm
        refine ⟨rfl, by rw [r2]; congr 1; omega, ?_⟩
        simp only [pathR]
        rw [if_pos hb', if_pos hb', ← e1, ← r3]
      · have hb1 : i / 2 ^ q.length = 0 := by
          revert hb hd2; generalize i / 2 ^ q.length = z; intro hb hd2; omega
        have hb' : ¬((i / 2 ^ q.length) % 2 == 1) = true := by simp [hb]
        rw [if_neg hb'] at h4
        obtain ⟨e1, e2⟩ := nodT_inj h4
        rw [climb_low] at e1
        obtain ⟨r1, r2, r3⟩ := topdown hS s hl hT h o q (i % 2 ^ q.length) (fun t ht => h1 t (.inr (.inl ht))) hlow hmod e1
        subst r1
        rw [hb1] at hdm
        refine ⟨rfl, by rw [r2]; congr 1; omega, ?_⟩
        simp only [pathR]
        rw [if_neg hb', if_neg hb', ← e2, ← r3]
theorem range_two (f : Nat → List UInt8) : (List.range 2).map f = [f 0, f 1] := rfl
theorem range_four (f : Nat → List UInt8) : (List.range 4).map f = [f 0, f 1, f 2, f 3] := rfl
theorem pub_R {s : List UInt8} {h : Nat} (hh : h ≤ 2) : pub s h = nodeR s h 0 := by
  unfold pub keys
  have : h = 0 ∨ h = 1 ∨ h = 2 := by omega
  rcases this with rfl | rfl | rfl
  · rw [rootL_one (by simp)]; rfl
  · show rootL ((List.range 2).map (key s)) = _
    rw [range_two, rootL_up (by simp), rootL_one (by simp [up])]
    rfl
  · show rootL ((List.range 4).map (key s)) = _
    rw [range_four, rootL_up (by simp), rootL_up (by simp [up]), rootL_one (by simp [up])]
    rfl
theorem path_R {s : List UInt8} {h i : Nat} (hh : h ≤ 2) (hi : i < 2 ^ h) : pathL (keys s (2 ^ h)) i = pathR s h 0 i := by
  unfold keys
  have : h = 0 ∨ h = 1 ∨ h = 2 := by omega
  rcases this with rfl | rfl | rfl
  · rw [pathL_one (by simp)]; rfl
  · show pathL ((List.range 2).map (key s)) i = _
    rw [range_two, pathL_up (by simp), pathL_one (by simp [up])]
    have : i = 0 ∨ i = 1 := by simp at hi; omega
    rcases this with rfl | rfl <;> simp [pathR, nodeR]
  · show pathL ((List.range 4).map (key s)) i = _
    rw [range_four, pathL_up (by simp), pathL_up (by simp [up]), pathL_one (by simp [up])]
    have : i = 0 ∨ i = 1 ∨ i = 2 ∨ i = 3 := by simp at hi; omega
    rcases this with rfl | rfl | rfl | rfl <;> simp [pathR, nodeR, up]
/-! ### What is digested -/

def chnL (t : List UInt8) (n : Nat) : List (List UInt8) := (List.range (n + 1)).map fun j => chn j t
theorem mem_chnL {t : List UInt8} {n j : Nat} (h : j ≤ n) : chn j t ∈ chnL t n := List.mem_map.2 ⟨j, by simp; omega, rfl⟩
def pairsT : List (List UInt8) → List (List UInt8)
  | a :: b :: l => nodT a b :: pairsT l
  | _ => []
def nodesL (l : List (List UInt8)) : List (List UInt8) := if 1 < l.length then pairsT l ++ nodesL (up l) else []
  termination_by l.length
  decreasing_by rw [up_len]; omega
theorem nodesL_up {l : List (List UInt8)} (h : 1 < l.length) : nodesL l = pairsT l ++ nodesL (up l) := by rw [nodesL, if_pos h]
theorem nodesL_one {l : List (List UInt8)} (h : l.length ≤ 1) : nodesL l = [] := by rw [nodesL, if_neg (by omega)]
def madeK (s : List UInt8) (i n k : Nat) : List (List UInt8) := startT s i k :: chnL (start s i k) n
def madeI (s : List UInt8) (n i : Nat) : List (List UInt8) := ((List.range 18).map (madeK s i n)).flatten ++ [keyT s i]
def made (s : List UInt8) (h n : Nat) : List (List UInt8) := ((List.range (2 ^ h)).map (madeI s n)).flatten ++ nodesL (keys s (2 ^ h))
def checked (m : List UInt8) (x : Seal) : List (List UInt8) :=
  ((List.range 18).map fun k => chnL (x.sig.getD k []) (15 - (dgt m).getD k 0)).flatten ++ [joined (ends' m x.sig)] ++ climbT (sumN (joined (ends' m x.sig))) x.path x.idx.toNat
theorem made_start {s : List UInt8} {h n i k : Nat} (hi : i < 2 ^ h) (hk : k < 18) : startT s i k ∈ made s h n := by
  refine List.mem_append.2 (.inl (List.mem_flatten.2 ⟨madeI s n i, List.mem_map.2 ⟨i, by simpa using hi, rfl⟩, ?_⟩))
  exact List.mem_append.2 (.inl (List.mem_flatten.2 ⟨madeK s i n k, List.mem_map.2 ⟨k, by simpa using hk, rfl⟩, List.mem_cons_self ..⟩))
theorem made_chn {s : List UInt8} {h n i k j : Nat} (hi : i < 2 ^ h) (hk : k < 18) (hj : j ≤ n) : chn j (start s i k) ∈ made s h n := by
  refine List.mem_append.2 (.inl (List.mem_flatten.2 ⟨madeI s n i, List.mem_map.2 ⟨i, by simpa using hi, rfl⟩, ?_⟩))
  exact List.mem_append.2 (.inl (List.mem_flatten.2 ⟨madeK s i n k, List.mem_map.2 ⟨k, by simpa using hk, rfl⟩, List.mem_cons_of_mem _ (mem_chnL hj)⟩))
theorem made_key {s : List UInt8} {h n i : Nat} (hi : i < 2 ^ h) : keyT s i ∈ made s h n := by
  refine List.mem_append.2 (.inl (List.mem_flatten.2 ⟨madeI s n i, List.mem_map.2 ⟨i, by simpa using hi, rfl⟩, ?_⟩))
  exact List.mem_append.2 (.inr (List.mem_singleton.2 rfl))
theorem made_nodes {s : List UInt8} {h n : Nat} (hh : h ≤ 2) : ∀ t, nodeS s h 0 t → t ∈ made s h n := by
  have : h = 0 ∨ h = 1 ∨ h = 2 := by omega
  intro t ht
  have hn : ∀ t, t ∈ nodesL (keys s (2 ^ h)) → t ∈ made s h n := fun t h => List.mem_append.2 (.inr h)
  unfold keys at hn
  rcases this with rfl | rfl | rfl
  · simp only [nodeS] at ht; subst ht; exact made_key (by omega)
  · have e : nodesL ((List.range (2 ^ 1)).map (key s)) = [nodT (key s 0) (key s 1)] := by
      show nodesL ((List.range 2).map (key s)) = _
      rw [range_two, nodesL_up (by simp), nodesL_one (by simp [up])]; rfl
    rw [e] at hn
    simp only [nodeS, nodeR] at ht
    rcases ht with rfl | rfl | rfl
    · exact hn _ (by simp)
    · exact made_key (by omega)
    · exact made_key (by omega)
  · have e : nodesL ((List.range (2 ^ 2)).map (key s)) = [nodT (key s 0) (key s 1), nodT (key s 2) (key s 3), nodT (nod (key s 0) (key s 1)) (nod (key s 2) (key s 3))] := by
      show nodesL ((List.range 4).map (key s)) = _
      rw [range_four, nodesL_up (by simp), nodesL_up (by simp [up]), nodesL_one (by simp [up])]; rfl
    rw [e] at hn
    simp only [nodeS, nodeR] at ht
    rcases ht with rfl | (rfl | rfl | rfl) | (rfl | rfl | rfl)
    · exact hn _ (by simp)
    · exact hn _ (by simp)
    · exact made_key (by omega)
    · exact made_key (by omega)
    · exact hn _ (by simp)
    · exact made_key (by omega)
    · exact made_key (by omega)
theorem checked_chn {m : List UInt8} {x : Seal} {k j : Nat} (hk : k < 18) (hj : j ≤ 15 - (dgt m).getD k 0) : chn j (x.sig.getD k []) ∈ checked m x :=
  List.mem_append.2 (.inl (List.mem_append.2 (.inl (List.mem_flatten.2 ⟨_, List.mem_map.2 ⟨k, by simpa using hk, rfl⟩, mem_chnL hj⟩))))
theorem checked_key {m : List UInt8} {x : Seal} : joined (ends' m x.sig) ∈ checked m x :=
  List.mem_append.2 (.inl (List.mem_append.2 (.inr (List.mem_singleton.2 rfl))))
theorem checked_climb {m : List UInt8} {x : Seal} : ∀ t ∈ climbT (sumN (joined (ends' m x.sig))) x.path x.idx.toNat, t ∈ checked m x := fun t ht => List.mem_append.2 (.inr ht)
/-! ### The laws -/

theorem okS_parts {x : Seal} (h : okS x = true) : x.sig.length = 18 ∧ x.path.length ≤ 8 ∧ (∀ t ∈ x.sig, isD t = true) ∧ (∀ t ∈ x.path, isD t = true) ∧ 0 ≤ x.idx ∧ x.idx < 2 ^ x.path.length := by
  unfold okS at h
  simp only [Bool.and_eq_true, decide_eq_true_eq, List.all_eq_true] at h
  obtain ⟨⟨⟨⟨⟨h1, h2⟩, h3⟩, h4⟩, h5⟩, h6⟩ := h
  exact ⟨h1, h2, h3, h4, h5, h6⟩
theorem map_ext18 {f g : Nat → List UInt8} (h : (List.range 18).map f = (List.range 18).map g) : ∀ k, k < 18 → f k = g k := by
  intro k hk
  have := congrArg (fun l => l[k]?) h
  simpa [hk] using this
theorem sound {S : List UInt8 → Prop} (hS : Inj S) {s m : List UInt8} {h n : Nat} (hh : h ≤ 2) (hn : 15 ≤ n) {x : Seal} (hm : ∀ t ∈ made s h n, S t) (hc : ∀ t ∈ checked m x, S t) (hv : ver (pub s h) m x = true) :
    ∃ i, i < 2 ^ h ∧ x = sgn s h i m := by
  unfold ver at hv
  simp only [Bool.and_eq_true, beq_iff_eq] at hv
  obtain ⟨h1, h2⟩ := hv
  obtain ⟨c1, c2, c3, c4, c5, c6⟩ := okS_parts h1
  have hi : x.idx.toNat < 2 ^ x.path.length := by
    have : ((x.idx.toNat : Nat) : Int) < ((2 ^ x.path.length : Nat) : Int) := by
      rw [Int.toNat_of_nonneg c5]; exact_mod_cast c6
    exact_mod_cast this
  have hl : (ends' m x.sig).length = 18 := by simp [ends']
  rw [pub_R hh] at h2
  obtain ⟨r1, r2, r3⟩ := topdown hS s hl (hc _ checked_key) h 0 x.path x.idx.toNat (fun t ht => hm _ (made_nodes hh t ht)) (fun t ht => hc _ (checked_climb t ht)) hi h2
  rw [Nat.zero_add] at r2
  rw [r1] at hi
  refine ⟨x.idx.toNat, hi, ?_⟩
  have hk : ∀ k, k < 18 → x.sig.getD k [] = chn ((dgt m).getD k 0) (start s x.idx.toNat k) := by
    intro k hk
    have e := map_ext18 r2 k hk
    have hd := dgt_get m k
    refine chn_back hS (15 - (dgt m).getD k 0) _ _ _ (fun j hj => hc _ (checked_chn hk (by omega))) (fun j hj => hm _ (made_chn hi hk (by omega))) ?_
    rw [e, show (dgt m).getD k 0 + (15 - (dgt m).getD k 0) = 15 by omega]
  have hsig : x.sig = (List.range 18).map fun k => chn ((dgt m).getD k 0) (start s x.idx.toNat k) := by
    apply List.ext_getElem
    · simp [c1]
    · intro k hk1 hk2
      have := hk k (by omega)
      simp only [List.getD, List.getElem?_eq_getElem hk1, Option.getD_some] at this
      simp [this]
  obtain ⟨xi, xs, xp⟩ := x
  simp only at hsig r3 c5 hi ⊢
  unfold sgn
  rw [path_R hh hi, ← r3, ← hsig]
  congr 1
  omega
theorem chn_circle {S : List UInt8 → Prop} (hS : Inj S) {s : List UInt8} {i k a b : Nat} (hst : S (startT s i k)) (hc : ∀ j, j ≤ 15 → S (chn j (start s i k))) (ha : a < b) (hb : b ≤ 15)
    (h : chn a (start s i k) = chn b (start s i k)) : False := by
  have h1 := chn_back hS a (b - a) (start s i k) (start s i k) (fun j hj => hc j (by omega)) (fun j hj => hc j (by omega)) (by rw [h]; congr 1; omega)
  obtain ⟨c, hc'⟩ : ∃ c, b - a = c + 1 := ⟨b - a - 1, by omega⟩
  rw [hc', chn_succ] at h1
  have h2 := hS _ _ hst (hc c (by omega)) h1
  cases c with
  | zero => exact joined_sum _ _ _ h2
  | succ c => rw [chn_succ] at h2; exact joined_sum _ _ _ h2
theorem hex_inj : ∀ a b : List UInt8, (∀ c ∈ a, hx c = true) → (∀ c ∈ b, hx c = true) → (a.map fun c => (hxv c).toNat) = (b.map fun c => (hxv c).toNat) → a = b
  | [], [], _, _, _ => rfl
  | [], y :: b, _, _, h => by simp at h
  | x :: a, [], _, _, h => by simp at h
  | x :: a, y :: b, h1, h2, h => by
    simp only [List.map_cons, List.cons.injEq] at h
    have hx := h1 x (List.mem_cons_self ..)
    have hy := h2 y (List.mem_cons_self ..)
    have l1 := hxv_lt hx
    have l2 := hxv_lt hy
    have e := hxv_inj hx hy (by omega)
    rw [e, hex_inj a b (fun z hz => h1 z (List.mem_cons_of_mem _ hz)) (fun z hz => h2 z (List.mem_cons_of_mem _ hz)) h.2]
theorem hexs16_inj {m o : List UInt8} (h : hexs16 m = hexs16 o) : sumN m = sumN o :=
  hex_inj _ _ (List.all_eq_true.1 (sumN_all m)) (List.all_eq_true.1 (sumN_all o)) h
theorem dgt_ne {m o : List UInt8} (h : sumN m ≠ sumN o) : ∃ k, k < 18 ∧ (dgt m).getD k 0 ≠ (dgt o).getD k 0 := by
  by_cases hx : ∃ k, k < 18 ∧ (dgt m).getD k 0 ≠ (dgt o).getD k 0
  · exact hx
  · exfalso
    refine h (hexs16_inj ?_)
    apply List.ext_getElem
    · rw [hexs16_len, hexs16_len]
    · intro k h1 h2
      have h3 : k < 18 := by rw [hexs16_len] at h1; omega
      have : (dgt m).getD k 0 = (dgt o).getD k 0 := by
        by_cases q : (dgt m).getD k 0 = (dgt o).getD k 0
        · exact q
        · exact absurd ⟨k, h3, q⟩ hx
      simpa [dgt, List.getD, List.getElem?_append_left h1, List.getElem?_append_left h2, h1, h2] using this
theorem binds {S : List UInt8 → Prop} (hS : Inj S) {s m o : List UInt8} {h n i : Nat} (hh : h ≤ 2) (hn : 15 ≤ n) (hi : i < 2 ^ h) (hm : ∀ t ∈ made s h n, S t) (hc : ∀ t ∈ checked o (sgn s h i m), S t) (hne : sumN m ≠ sumN o)
    (hv : ver (pub s h) o (sgn s h i m) = true) : False := by
  obtain ⟨j, hj, e⟩ := sound hS hh hn hm hc hv
  have e0 : (i : Int) = (j : Int) := congrArg Seal.idx e
  have : i = j := by omega
  subst this
  have e1 := map_ext18 (f := fun k => chn ((dgt m).getD k 0) (start s i k)) (g := fun k => chn ((dgt o).getD k 0) (start s i k)) (congrArg Seal.sig e)
  obtain ⟨k, hk, hd⟩ := dgt_ne hne
  have h1 := dgt_get m k
  have h2 := dgt_get o k
  have e2 := e1 k hk
  have hst := hm _ (made_start (n := n) hi hk (s := s))
  have hch : ∀ j, j ≤ 15 → S (chn j (start s i k)) := fun j hj => hm _ (made_chn hi hk (by omega))
  rcases Nat.lt_or_gt_of_ne hd with q | q
  · exact chn_circle hS hst hch q (by omega) e2
  · exact chn_circle hS hst hch q (by omega) e2.symm
end Go.Proofs.YtgjkhlnpplajjaaDoor
end
section
set_option maxRecDepth 100000
set_option linter.unusedSimpArgs false
set_option linter.unusedVariables false
namespace Go.Proofs.YtgjkhlnpplajjaaDoor
open Go GoV Go.RowKit
def pubR (s : List UInt8) (h : Int) : List UInt8 × Int := if 0 ≤ h ∧ h ≤ 8 then (pub s h.toNat, 0) else ([], 1)
abbrev pubD (x : List UInt8 × Int) : D := .tup [.str x.1, .int .i64 x.2]
theorem keys_small (s : List UInt8) (n : Nat) : ∀ x ∈ keys s n, x.length ≤ 1000 := by
  intro x hx
  obtain ⟨i, _, rfl⟩ := List.mem_map.1 hx
  unfold key
  rw [sumN_len]
  omega
set_option maxHeartbeats 1000000 in
theorem public_p (s : List UInt8) (h : Int) (hs : s.length ≤ 300) : Pur M 13 [.str s, .int .i64 h] (pubD (pubR s h)) := by
  refine ok13 rfl ?_
  rw [i13]
  unfold c13
  unfold pubR
  by_cases hh : 0 ≤ h ∧ h ≤ 8
  · rw [if_pos hh]
    obtain ⟨h0, h8⟩ := hh
    obtain ⟨n, rfl⟩ : ∃ n : Nat, h = n := ⟨h.toNat, by omega⟩
    have e1 : decide ((n : Int) < 0) = false := decide_eq_false (by omega)
    have e2 : decide (8 < (n : Int)) = false := decide_eq_false (by omega)
    have e3 : ((n : Nat) : Int).toNat = n := Int.toNat_natCast n
    rw [e3]
    have h1 := keys_p s n hs (by omega)
    have hl := keys_len s (2 ^ n)
    have hx := keys_small s (2 ^ n)
    unfold pub
    generalize keys s (2 ^ n) = l at *
    have hn : n ≤ 8 := by omega
    clear h0 h8
    repeat' (first
    | with_reducible first | apply swp_seq | apply swp_reg | apply swp_regD | apply swp_block | apply swp_exit | apply swp_ret | apply swp_skip | apply swp_cd
    | simp only [go_sem, Nat.reduceAdd, Nat.reduceSub, Nat.reduceMul, Nat.reduceEqDiff, Nat.reduceLeDiff, Nat.reduceLT, Int.reduceEq, Int.reduceNe, Int.reduceLT, Int.reduceLE, Int.reduceAdd, Int.reduceSub, Int.reduceMul, Int.reduceNeg, Int.reduceToNat, Int.reduceTDiv, Int.reduceTMod, Int.reduceBEq, Int.reduceBNe, decide_true, decide_false, reduceCtorEq, reduceIte, P13, q13, e1, e2]
    | simp (disch := omega) only [w64, w32, wu8, wu16, wu32, wu64]
    | ((with_reducible refine o_call (h1) ?he ?hc ?_); (case he | hc => first | rfl | (simp [D.erL, D.er, D.closedL, D.closed]; done)))
    | with_reducible first | apply cd_dec | apply cd_eq | apply cd_ne | apply cd_split | apply gd_dec | apply gd_eq | apply gd_ne | apply gd_split
    | ((with_reducible refine And.intro ?hw ?_); (case hw => first | omega | rfl | exact ⟨_, _, rfl⟩ | assumption | (simp only [lN1, lN2, lN3, lN4, lN5, lN6, lN7] <;> omega)))
    | with_reducible intro _)
    all_goals try omega
    refine swp_fam [0, 1, 2, 3, 4] (fun p : Nat × List (List UInt8) => ⟨[.str s, .int .i64 (n : Nat), .str [], .int .i64 0, .slice (strs p.2) .no, .undef, .undef], [], ⟨[], []⟩⟩)
      (fun p => p.1 ≤ 8 ∧ p.2.length = 2 ^ p.1 ∧ (∀ x ∈ p.2, x.length ≤ 1000) ∧ rootL p.2 = rootL l) (fun p => p.1) (n, l) ⟨hn, hl, hx, rfl⟩ ?_ ?_
    · simp [keepE, St.keep]
    · rintro ⟨k, u⟩ ⟨g0, g1, g2, g3⟩
      simp only at g0 g1 g2 g3 ⊢
      have hul : (strs u).length = u.length := strs_len u
      have hp : 2 ^ k ≤ 2 ^ 8 := Nat.pow_le_pow_right (by omega) g0
      have h4 : (2 : Nat) ^ 8 = 256 := by decide
      rw [h4] at hp
      rcases k with _ | k
      · have hu1 : u.length = 1 := by simpa using g1
        have hg := strs_get (l := u) (i := 0) (by omega)
        have hr := rootL_one (l := u) (by omega)
        rw [← g3, hr]
        have t1 : (0 : Int).toNat = 0 := rfl
        generalize u.getD 0 [] = x at *
        repeat' (first
    | with_reducible first | apply swp_seq | apply swp_reg | apply swp_regD | apply swp_block | apply swp_exit | apply swp_ret | apply swp_skip | apply swp_cd
    | simp only [go_sem, Nat.reduceAdd, Nat.reduceSub, Nat.reduceMul, Nat.reduceEqDiff, Nat.reduceLeDiff, Nat.reduceLT, Int.reduceEq, Int.reduceNe, Int.reduceLT, Int.reduceLE, Int.reduceAdd, Int.reduceSub, Int.reduceMul, Int.reduceNeg, Int.reduceToNat, Int.reduceTDiv, Int.reduceTMod, Int.reduceBEq, Int.reduceBNe, decide_true, decide_false, reduceCtorEq, reduceIte, P13, q13, hul, t1, hg]
    | simp (disch := omega) only [w64, w32, wu8, wu16, wu32, wu64]
    | with_reducible first | apply cd_dec | apply cd_eq | apply cd_ne | apply cd_split | apply gd_dec | apply gd_eq | apply gd_ne | apply gd_split
    | ((with_reducible refine And.intro ?hw ?_); (case hw => first | omega | rfl | exact ⟨_, _, rfl⟩ | assumption | (simp only [lN1, lN2, lN3, lN4, lN5, lN6, lN7, hul] <;> omega)))
    | with_reducible intro _)
        all_goals first
          | omega
          | (simp [D.closed, D.er]; done)
      · have h2 : 2 ^ (k + 1) = 2 * 2 ^ k := by rw [Nat.pow_succ, Nat.mul_comm]
        have hp2 : 0 < 2 ^ k := Nat.pow_pos (by omega)
        have h3 := above_p u (by omega) (by omega) g2
        have hr := rootL_up (l := u) (by omega)
        have hle := up_len u
        repeat' (first
    | with_reducible first | apply swp_seq | apply swp_reg | apply swp_regD | apply swp_block | apply swp_exit | apply swp_ret | apply swp_skip | apply swp_cd
    | simp only [go_sem, Nat.reduceAdd, Nat.reduceSub, Nat.reduceMul, Nat.reduceEqDiff, Nat.reduceLeDiff, Nat.reduceLT, Int.reduceEq, Int.reduceNe, Int.reduceLT, Int.reduceLE, Int.reduceAdd, Int.reduceSub, Int.reduceMul, Int.reduceNeg, Int.reduceToNat, Int.reduceTDiv, Int.reduceTMod, Int.reduceBEq, Int.reduceBNe, decide_true, decide_false, reduceCtorEq, reduceIte, P13, q13, hul]
    | simp (disch := omega) only [w64, w32, wu8, wu16, wu32, wu64]
    | ((with_reducible refine o_call (h3) ?he ?hc ?_); (case he | hc => first | rfl | (simp [D.erL, D.er, D.closedL, D.closed, hul]; done)))
    | with_reducible first | apply cd_dec | apply cd_eq | apply cd_ne | apply cd_split | apply gd_dec | apply gd_eq | apply gd_ne | apply gd_split
    | ((with_reducible refine And.intro ?hw ?_); (case hw => first | omega | rfl | exact ⟨_, _, rfl⟩ | assumption | (simp only [lN1, lN2, lN3, lN4, lN5, lN6, lN7, hul] <;> omega)))
    | with_reducible intro _)
        all_goals try omega
        refine ⟨(k, up u), ⟨by simp only; omega, by simp only; omega, up_small u, by simp only; rw [← g3, hr]⟩, by simp only; omega, ?_⟩
        simp [keepE, St.keep]
  · rw [if_neg hh]
    by_cases hn : h < 0
    · have e1 : decide (h < 0) = true := decide_eq_true hn
      repeat' (first
    | with_reducible first | apply swp_seq | apply swp_reg | apply swp_regD | apply swp_block | apply swp_exit | apply swp_ret | apply swp_skip | apply swp_cd
    | simp only [go_sem, Nat.reduceAdd, Nat.reduceSub, Nat.reduceMul, Nat.reduceEqDiff, Nat.reduceLeDiff, Nat.reduceLT, Int.reduceEq, Int.reduceNe, Int.reduceLT, Int.reduceLE, Int.reduceAdd, Int.reduceSub, Int.reduceMul, Int.reduceNeg, Int.reduceToNat, Int.reduceTDiv, Int.reduceTMod, Int.reduceBEq, Int.reduceBNe, decide_true, decide_false, reduceCtorEq, reduceIte, P13, q13, e1]
    | simp (disch := omega) only [w64, w32, wu8, wu16, wu32, wu64]
    | with_reducible first | apply cd_dec | apply cd_eq | apply cd_ne | apply cd_split | apply gd_dec | apply gd_eq | apply gd_ne | apply gd_split
    | ((with_reducible refine And.intro ?hw ?_); (case hw => first | omega | rfl | exact ⟨_, _, rfl⟩ | assumption | (simp only [lN1, lN2, lN3, lN4, lN5, lN6, lN7] <;> omega)))
    | with_reducible intro _)
      all_goals first
        | omega
        | (simp [D.closed, D.closedL, D.er, D.erL]; done)
    · have e1 : decide (h < 0) = false := decide_eq_false hn
      have e2 : decide (8 < h) = true := decide_eq_true (by omega)
      repeat' (first
    | with_reducible first | apply swp_seq | apply swp_reg | apply swp_regD | apply swp_block | apply swp_exit | apply swp_ret | apply swp_skip | apply swp_cd
    | simp only [go_sem, Nat.reduceAdd, Nat.reduceSub, Nat.reduceMul, Nat.reduceEqDiff, Nat.reduceLeDiff, Nat.reduceLT, Int.reduceEq, Int.reduceNe, Int.reduceLT, Int.reduceLE, Int.reduceAdd, Int.reduceSub, Int.reduceMul, Int.reduceNeg, Int.reduceToNat, Int.reduceTDiv, Int.reduceTMod, Int.reduceBEq, Int.reduceBNe, decide_true, decide_false, reduceCtorEq, reduceIte, P13, q13, e1, e2]
    | simp (disch := omega) only [w64, w32, wu8, wu16, wu32, wu64]
    | with_reducible first | apply cd_dec | apply cd_eq | apply cd_ne | apply cd_split | apply gd_dec | apply gd_eq | apply gd_ne | apply gd_split
    | ((with_reducible refine And.intro ?hw ?_); (case hw => first | omega | rfl | exact ⟨_, _, rfl⟩ | assumption | (simp only [lN1, lN2, lN3, lN4, lN5, lN6, lN7] <;> omega)))
    | with_reducible intro _)
      all_goals first
        | omega
        | (simp [D.closed, D.closedL, D.er, D.erL]; done)
theorem short_p (l : List (List UInt8)) (hl : l.length ≤ 1000) : Pur M 11 [.slice (strs l) .no] (.bool (l.all fun x => decide (x.length ≤ 300))) := by
  refine ok11 rfl ?_
  rw [i11]
  unfold c11
  repeat' (first
    | with_reducible first | apply swp_seq | apply swp_reg | apply swp_regD | apply swp_block | apply swp_exit | apply swp_ret | apply swp_skip | apply swp_cd
    | simp only [go_sem, Nat.reduceAdd, Nat.reduceSub, Nat.reduceMul, Nat.reduceEqDiff, Nat.reduceLeDiff, Nat.reduceLT, Int.reduceEq, Int.reduceNe, Int.reduceLT, Int.reduceLE, Int.reduceAdd, Int.reduceSub, Int.reduceMul, Int.reduceNeg, Int.reduceToNat, Int.reduceTDiv, Int.reduceTMod, Int.reduceBEq, Int.reduceBNe, decide_true, decide_false, reduceCtorEq, reduceIte, P11, q11]
    | simp (disch := omega) only [w64, w32, wu8, wu16, wu32, wu64]
    | with_reducible first | apply cd_dec | apply cd_eq | apply cd_ne | apply cd_split
    | ((with_reducible refine And.intro ?hw ?_); (case hw => first | omega | rfl | exact ⟨_, _, rfl⟩ | assumption | (simp only [lN1, lN2, lN3, lN4, lN5, lN6, lN7] <;> omega)))
    | with_reducible intro _)
  refine swp_fam [0, 1, 2] (fun j : Nat => ⟨[.slice (strs l) .no, .bool false, .int .i64 j, .undef, .undef], [], ⟨[], []⟩⟩)
    (fun j => j ≤ l.length ∧ (l.take j).all (fun x => decide (x.length ≤ 300)) = true) (fun j => l.length - j) 0 ⟨by omega, rfl⟩ ?_ ?_
  · simp [keepE, St.keep]
  · rintro j ⟨g0, g1⟩
    have hsl := strs_len l
    by_cases hlt : j < l.length
    · have hg := strs_get hlt
      have t1 : ((j : Nat) : Int).toNat = j := Int.toNat_natCast j
      have htk : l.take (j + 1) = l.take j ++ [l.getD j []] := by
        rw [List.take_succ_eq_append_getElem hlt]; simp [List.getD, hlt]
      have hmem : l.getD j [] ∈ l := by simp [List.getD, hlt]
      by_cases hb : (l.getD j []).length ≤ 300
      · have e1 : decide (300 < ((l.getD j []).length : Int)) = false := decide_eq_false (by omega)
        generalize l.getD j [] = x at *
        generalize strs l = L at *
        repeat' (first
    | with_reducible first | apply swp_seq | apply swp_reg | apply swp_regD | apply swp_block | apply swp_exit | apply swp_ret | apply swp_skip | apply swp_cd
    | simp only [go_sem, Nat.reduceAdd, Nat.reduceSub, Nat.reduceMul, Nat.reduceEqDiff, Nat.reduceLeDiff, Nat.reduceLT, Int.reduceEq, Int.reduceNe, Int.reduceLT, Int.reduceLE, Int.reduceAdd, Int.reduceSub, Int.reduceMul, Int.reduceNeg, Int.reduceToNat, Int.reduceTDiv, Int.reduceTMod, Int.reduceBEq, Int.reduceBNe, decide_true, decide_false, reduceCtorEq, reduceIte, P11, q11, hsl, hg, t1, e1]
    | simp (disch := omega) only [w64, w32, wu8, wu16, wu32, wu64]
    | with_reducible first | apply cd_dec | apply cd_eq | apply cd_ne | apply cd_split
    | ((with_reducible refine And.intro ?hw ?_); (case hw => first | omega | rfl | exact ⟨_, _, rfl⟩ | assumption | (simp only [lN1, lN2, lN3, lN4, lN5, lN6, lN7, hsl] <;> omega)))
    | with_reducible intro _)
        all_goals try omega
        refine ⟨j + 1, ⟨by omega, by rw [htk, List.all_append, g1]; simp [hb]⟩, by omega, ?_⟩
        simp [keepE, St.keep]
      · have e1 : decide (300 < ((l.getD j []).length : Int)) = true := decide_eq_true (by omega)
        have hf : l.all (fun x => decide (x.length ≤ 300)) = false := by
          rw [List.all_eq_false]
          exact ⟨_, hmem, fun q => hb (of_decide_eq_true q)⟩
        rw [hf]
        generalize l.getD j [] = x at *
        generalize strs l = L at *
        repeat' (first
    | with_reducible first | apply swp_seq | apply swp_reg | apply swp_regD | apply swp_block | apply swp_exit | apply swp_ret | apply swp_skip | apply swp_cd
    | simp only [go_sem, Nat.reduceAdd, Nat.reduceSub, Nat.reduceMul, Nat.reduceEqDiff, Nat.reduceLeDiff, Nat.reduceLT, Int.reduceEq, Int.reduceNe, Int.reduceLT, Int.reduceLE, Int.reduceAdd, Int.reduceSub, Int.reduceMul, Int.reduceNeg, Int.reduceToNat, Int.reduceTDiv, Int.reduceTMod, Int.reduceBEq, Int.reduceBNe, decide_true, decide_false, reduceCtorEq, reduceIte, P11, q11, hsl, hg, t1, e1]
    | simp (disch := omega) only [w64, w32, wu8, wu16, wu32, wu64]
    | with_reducible first | apply cd_dec | apply cd_eq | apply cd_ne | apply cd_split
    | ((with_reducible refine And.intro ?hw ?_); (case hw => first | omega | rfl | exact ⟨_, _, rfl⟩ | assumption | (simp only [lN1, lN2, lN3, lN4, lN5, lN6, lN7, hsl] <;> omega)))
    | with_reducible intro _)
        all_goals first
          | omega
          | (simp [D.closed, D.er]; done)
    · have e : j = l.length := by omega
      subst e
      rw [List.take_length] at g1
      rw [g1]
      generalize strs l = L at *
      repeat' (first
    | with_reducible first | apply swp_seq | apply swp_reg | apply swp_regD | apply swp_block | apply swp_exit | apply swp_ret | apply swp_skip | apply swp_cd
    | simp only [go_sem, Nat.reduceAdd, Nat.reduceSub, Nat.reduceMul, Nat.reduceEqDiff, Nat.reduceLeDiff, Nat.reduceLT, Int.reduceEq, Int.reduceNe, Int.reduceLT, Int.reduceLE, Int.reduceAdd, Int.reduceSub, Int.reduceMul, Int.reduceNeg, Int.reduceToNat, Int.reduceTDiv, Int.reduceTMod, Int.reduceBEq, Int.reduceBNe, decide_true, decide_false, reduceCtorEq, reduceIte, P11, q11, hsl]
    | simp (disch := omega) only [w64, w32, wu8, wu16, wu32, wu64]
    | with_reducible first | apply cd_dec | apply cd_eq | apply cd_ne | apply cd_split
    | ((with_reducible refine And.intro ?hw ?_); (case hw => first | omega | rfl | exact ⟨_, _, rfl⟩ | assumption | (simp only [lN1, lN2, lN3, lN4, lN5, lN6, lN7, hsl] <;> omega)))
    | with_reducible intro _)
      all_goals first
        | omega
        | (simp [D.closed, D.er]; done)
theorem notis_p (s : List UInt8) (hs : s.length ≤ 1000) : Pur M 40 [.str s] (.bool (!isD s)) := by
  refine ok40 rfl ?_
  rw [i40]
  unfold c40
  have h1 := is_p s (by omega)
  repeat' (first
    | with_reducible first | apply swp_seq | apply swp_reg | apply swp_regD | apply swp_block | apply swp_exit | apply swp_ret | apply swp_skip | apply swp_cd
    | simp only [go_sem, Nat.reduceAdd, Nat.reduceSub, Nat.reduceMul, Nat.reduceEqDiff, Nat.reduceLeDiff, Nat.reduceLT, Int.reduceEq, Int.reduceNe, Int.reduceLT, Int.reduceLE, Int.reduceAdd, Int.reduceSub, Int.reduceMul, Int.reduceNeg, Int.reduceToNat, Int.reduceTDiv, Int.reduceTMod, Int.reduceBEq, Int.reduceBNe, decide_true, decide_false, reduceCtorEq, reduceIte, P40, q40]
    | simp (disch := omega) only [w64, w32, wu8, wu16, wu32, wu64]
    | ((with_reducible refine o_call (h1) ?he ?hc ?_); (case he | hc => first | rfl | (simp [D.erL, D.er, D.closedL, D.closed]; done)))
    | with_reducible first | apply cd_dec | apply cd_eq | apply cd_ne | apply cd_split
    | ((with_reducible refine And.intro ?hw ?_); (case hw => first | omega | rfl | exact ⟨_, _, rfl⟩ | assumption | (simp only [lN1, lN2, lN3, lN4, lN5, lN6, lN7] <;> omega)))
    | with_reducible intro _)
  all_goals first
    | omega
    | (simp [D.closed, D.er]; done)
def idxN : List (List UInt8) → Nat → Int
  | [], _ => -1
  | x :: l, i => if isD x then idxN l (i + 1) else i
theorem idxN_all : ∀ (l : List (List UInt8)) (i : Nat), decide (0 ≤ idxN l i) = !(l.all isD)
  | [], i => by simp [idxN]
  | x :: l, i => by
    by_cases h : isD x = true
    · have e1 : idxN (x :: l) i = idxN l (i + 1) := by simp [idxN, h]
      simp only [e1, List.all_cons, h, Bool.true_and]
      exact idxN_all l (i + 1)
    · have e1 : idxN (x :: l) i = (i : Int) := by simp [idxN, h]
      simp [e1, h]
theorem idxN_drop {l : List (List UInt8)} {j : Nat} (h : j < l.length) : idxN (l.drop j) j = if isD (l.getD j []) then idxN (l.drop (j + 1)) (j + 1) else (j : Int) := by
  rw [List.drop_eq_getElem_cons h]
  simp [idxN, List.getD, h]
set_option maxHeartbeats 1000000 in
theorem indexf_p (l : List (List UInt8)) (hl : l.length ≤ 1000) (hx : ∀ x ∈ l, x.length ≤ 1000) : Pur M 61 [.slice (strs l) .no, .fn (.func 40) [] []] (.int .i64 (idxN l 0)) := by
  refine ok61 rfl ?_
  rw [i61]
  unfold c61
  have hsl := strs_len l
  repeat' (first
    | with_reducible first | apply swp_seq | apply swp_reg | apply swp_regD | apply swp_block | apply swp_exit | apply swp_ret | apply swp_skip | apply swp_cd
    | simp only [go_sem, Nat.reduceAdd, Nat.reduceSub, Nat.reduceMul, Nat.reduceEqDiff, Nat.reduceLeDiff, Nat.reduceLT, Int.reduceEq, Int.reduceNe, Int.reduceLT, Int.reduceLE, Int.reduceAdd, Int.reduceSub, Int.reduceMul, Int.reduceNeg, Int.reduceToNat, Int.reduceTDiv, Int.reduceTMod, Int.reduceBEq, Int.reduceBNe, decide_true, decide_false, reduceCtorEq, reduceIte, P61, q61, hsl]
    | simp (disch := omega) only [w64, w32, wu8, wu16, wu32, wu64]
    | with_reducible first | apply cd_dec | apply cd_eq | apply cd_ne | apply cd_split
    | ((with_reducible refine And.intro ?hw ?_); (case hw => first | omega | rfl | exact ⟨_, _, rfl⟩ | assumption | (simp only [lN1, lN2, lN3, lN4, lN5, lN6, lN7] <;> omega)))
    | with_reducible intro _)
  refine swp_fam [0, 1, 2, 4, 5] (fun j : Nat => ⟨[.slice (strs l) .no, .fn (.func 40) [] [], .int .i64 0, .undef, .int .i64 l.length, .int .i64 j, .undef, .undef], [], ⟨[], []⟩⟩)
    (fun j => j ≤ l.length ∧ idxN (l.drop j) j = idxN l 0) (fun j => l.length - j) 0 ⟨by omega, rfl⟩ ?_ ?_
  · simp [keepE, St.keep]
  · rintro j ⟨g0, g1⟩
    by_cases hlt : j < l.length
    · have hg := strs_get hlt
      have t1 : ((j : Nat) : Int).toNat = j := Int.toNat_natCast j
      have h1 := notis_p (l.getD j []) (get_small hx)
      have hd := idxN_drop hlt
      by_cases hb : isD (l.getD j []) = true
      · rw [hb] at h1 hd
        rw [if_pos rfl] at hd
        generalize l.getD j [] = x at *
        generalize strs l = L at *
        repeat' (first
    | with_reducible first | apply swp_seq | apply swp_reg | apply swp_regD | apply swp_block | apply swp_exit | apply swp_ret | apply swp_skip | apply swp_cd
    | simp only [go_sem, Nat.reduceAdd, Nat.reduceSub, Nat.reduceMul, Nat.reduceEqDiff, Nat.reduceLeDiff, Nat.reduceLT, Int.reduceEq, Int.reduceNe, Int.reduceLT, Int.reduceLE, Int.reduceAdd, Int.reduceSub, Int.reduceMul, Int.reduceNeg, Int.reduceToNat, Int.reduceTDiv, Int.reduceTMod, Int.reduceBEq, Int.reduceBNe, decide_true, decide_false, reduceCtorEq, reduceIte, P61, q61, hsl, hg, t1]
    | simp (disch := omega) only [w64, w32, wu8, wu16, wu32, wu64]
    | ((with_reducible refine o_call (h1) ?he ?hc ?_); (case he | hc => first | rfl | (simp [D.erL, D.er, D.closedL, D.closed, hsl]; done)))
    | with_reducible first | apply cd_dec | apply cd_eq | apply cd_ne | apply cd_split
    | ((with_reducible refine And.intro ?hw ?_); (case hw => first | omega | rfl | exact ⟨_, _, rfl⟩ | assumption | (simp only [lN1, lN2, lN3, lN4, lN5, lN6, lN7, hsl] <;> omega)))
    | with_reducible intro _)
        all_goals try omega
        refine ⟨j + 1, ⟨by omega, by rw [← hd]; exact g1⟩, by omega, ?_⟩
        simp [keepE, St.keep]
      · have hb' : isD (l.getD j []) = false := by simpa using hb
        rw [hb'] at h1 hd
        rw [if_neg (by simp)] at hd
        rw [← g1, hd]
        generalize l.getD j [] = x at *
        generalize strs l = L at *
        repeat' (first
    | with_reducible first | apply swp_seq | apply swp_reg | apply swp_regD | apply swp_block | apply swp_exit | apply swp_ret | apply swp_skip | apply swp_cd
    | simp only [go_sem, Nat.reduceAdd, Nat.reduceSub, Nat.reduceMul, Nat.reduceEqDiff, Nat.reduceLeDiff, Nat.reduceLT, Int.reduceEq, Int.reduceNe, Int.reduceLT, Int.reduceLE, Int.reduceAdd, Int.reduceSub, Int.reduceMul, Int.reduceNeg, Int.reduceToNat, Int.reduceTDiv, Int.reduceTMod, Int.reduceBEq, Int.reduceBNe, decide_true, decide_false, reduceCtorEq, reduceIte, P61, q61, hsl, hg, t1]
    | simp (disch := omega) only [w64, w32, wu8, wu16, wu32, wu64]
    | ((with_reducible refine o_call (h1) ?he ?hc ?_); (case he | hc => first | rfl | (simp [D.erL, D.er, D.closedL, D.closed, hsl]; done)))
    | with_reducible first | apply cd_dec | apply cd_eq | apply cd_ne | apply cd_split
    | ((with_reducible refine And.intro ?hw ?_); (case hw => first | omega | rfl | exact ⟨_, _, rfl⟩ | assumption | (simp only [lN1, lN2, lN3, lN4, lN5, lN6, lN7, hsl] <;> omega)))
    | with_reducible intro _)
        all_goals first
          | omega
          | (simp [D.closed, D.er]; done)
    · have e : j = l.length := by omega
      subst e
      rw [List.drop_length] at g1
      rw [← g1]
      generalize strs l = L at *
      repeat' (first
    | with_reducible first | apply swp_seq | apply swp_reg | apply swp_regD | apply swp_block | apply swp_exit | apply swp_ret | apply swp_skip | apply swp_cd
    | simp only [go_sem, Nat.reduceAdd, Nat.reduceSub, Nat.reduceMul, Nat.reduceEqDiff, Nat.reduceLeDiff, Nat.reduceLT, Int.reduceEq, Int.reduceNe, Int.reduceLT, Int.reduceLE, Int.reduceAdd, Int.reduceSub, Int.reduceMul, Int.reduceNeg, Int.reduceToNat, Int.reduceTDiv, Int.reduceTMod, Int.reduceBEq, Int.reduceBNe, decide_true, decide_false, reduceCtorEq, reduceIte, P61, q61, hsl]
    | simp (disch := omega) only [w64, w32, wu8, wu16, wu32, wu64]
    | with_reducible first | apply cd_dec | apply cd_eq | apply cd_ne | apply cd_split
    | ((with_reducible refine And.intro ?hw ?_); (case hw => first | omega | rfl | exact ⟨_, _, rfl⟩ | assumption | (simp only [lN1, lN2, lN3, lN4, lN5, lN6, lN7, hsl] <;> omega)))
    | with_reducible intro _)
      all_goals first
        | omega
        | (simp [D.closed, D.er, idxN]; done)
theorem contains_p (l : List (List UInt8)) (hl : l.length ≤ 1000) (hx : ∀ x ∈ l, x.length ≤ 1000) : Pur M 39 [.slice (strs l) .no, .fn (.func 40) [] []] (.bool (!(l.all isD))) := by
  refine ok39 rfl ?_
  rw [i39]
  unfold c39
  have h1 := indexf_p l hl hx
  have h2 := idxN_all l 0
  rw [← h2]
  have he := erL_strs l
  have hc := closed_strs l
  generalize idxN l 0 = n at *
  generalize strs l = L at *
  repeat' (first
    | with_reducible first | apply swp_seq | apply swp_reg | apply swp_regD | apply swp_block | apply swp_exit | apply swp_ret | apply swp_skip | apply swp_cd
    | simp only [go_sem, Nat.reduceAdd, Nat.reduceSub, Nat.reduceMul, Nat.reduceEqDiff, Nat.reduceLeDiff, Nat.reduceLT, Int.reduceEq, Int.reduceNe, Int.reduceLT, Int.reduceLE, Int.reduceAdd, Int.reduceSub, Int.reduceMul, Int.reduceNeg, Int.reduceToNat, Int.reduceTDiv, Int.reduceTMod, Int.reduceBEq, Int.reduceBNe, decide_true, decide_false, reduceCtorEq, reduceIte, P39, q39]
    | simp (disch := omega) only [w64, w32, wu8, wu16, wu32, wu64]
    | ((with_reducible refine o_call (h1) ?he ?hc ?_); (case he | hc => first | rfl | (simp [D.erL, D.er, D.closedL, D.closed, he, hc]; done)))
    | with_reducible first | apply cd_dec | apply cd_eq | apply cd_ne | apply cd_split
    | ((with_reducible refine And.intro ?hw ?_); (case hw => first | omega | rfl | exact ⟨_, _, rfl⟩ | assumption | (simp only [lN1, lN2, lN3, lN4, lN5, lN6, lN7, he, hc] <;> omega)))
    | with_reducible intro _)
  all_goals first
    | omega
    | (simp [D.closed, D.er]; done)
theorem odd_p (l : List (List UInt8)) (hl : l.length ≤ 1000) (hx : ∀ x ∈ l, x.length ≤ 1000) : Pur M 38 [.slice (strs l) .no] (.bool (!(l.all isD))) := by
  refine ok38 rfl ?_
  rw [i38]
  unfold c38
  have h1 := contains_p l hl hx
  have he := erL_strs l
  have hc := closed_strs l
  generalize strs l = L at *
  repeat' (first
    | with_reducible first | apply swp_seq | apply swp_reg | apply swp_regD | apply swp_block | apply swp_exit | apply swp_ret | apply swp_skip | apply swp_cd
    | simp only [go_sem, Nat.reduceAdd, Nat.reduceSub, Nat.reduceMul, Nat.reduceEqDiff, Nat.reduceLeDiff, Nat.reduceLT, Int.reduceEq, Int.reduceNe, Int.reduceLT, Int.reduceLE, Int.reduceAdd, Int.reduceSub, Int.reduceMul, Int.reduceNeg, Int.reduceToNat, Int.reduceTDiv, Int.reduceTMod, Int.reduceBEq, Int.reduceBNe, decide_true, decide_false, reduceCtorEq, reduceIte, P38, q38]
    | simp (disch := omega) only [w64, w32, wu8, wu16, wu32, wu64]
    | ((with_reducible refine o_call (h1) ?he ?hc ?_); (case he | hc => first | rfl | (simp [D.erL, D.er, D.closedL, D.closed, he, hc]; done)))
    | with_reducible first | apply cd_dec | apply cd_eq | apply cd_ne | apply cd_split
    | ((with_reducible refine And.intro ?hw ?_); (case hw => first | omega | rfl | exact ⟨_, _, rfl⟩ | assumption | (simp only [lN1, lN2, lN3, lN4, lN5, lN6, lN7, he, hc] <;> omega)))
    | with_reducible intro _)
  all_goals first
    | omega
    | (simp [D.closed, D.er]; done)
end Go.Proofs.YtgjkhlnpplajjaaDoor
end
section
set_option maxRecDepth 100000
set_option linter.unusedSimpArgs false
set_option linter.unusedVariables false
namespace Go.Proofs.YtgjkhlnpplajjaaDoor
open Go GoV Go.RowKit
abbrev sealD (x : Seal) : D := .agg [.int .i64 x.idx, .slice (strs x.sig) .no, .slice (strs x.path) .no]
def sgnR (s : List UInt8) (h i : Int) (m : List UInt8) : Seal × Int := if 0 ≤ h ∧ h ≤ 8 ∧ 0 ≤ i ∧ i < 2 ^ h.toNat then (sgn s h.toNat i.toNat m, 0) else (⟨0, [], []⟩, 1)
abbrev sgnD (x : Seal × Int) : D := .tup [sealD x.1, .int .i64 x.2]
def sigP (s : List UInt8) (i : Nat) (m : List UInt8) (k : Nat) : List (List UInt8) := (List.range k).map fun k => chn ((dgt m).getD k 0) (start s i k)
theorem sigP_len (s : List UInt8) (i : Nat) (m : List UInt8) (k : Nat) : (sigP s i m k).length = k := by simp [sigP]
theorem sigP_succ (s : List UInt8) (i : Nat) (m : List UInt8) (k : Nat) : sigP s i m (k + 1) = sigP s i m k ++ [chn ((dgt m).getD k 0) (start s i k)] := by simp [sigP, List.range_succ]
end Go.Proofs.YtgjkhlnpplajjaaDoor
end
section
set_option maxRecDepth 100000
set_option linter.unusedSimpArgs false
set_option linter.unusedVariables false
namespace Go.Proofs.YtgjkhlnpplajjaaDoor
open Go GoV Go.RowKit
theorem q_shl {Q : Mod} {rq : List (RO × Bool)} {K : St → Prop} {s : St} {dst : Dst} {k k' : IntKind} {a b : Int} : OpQ Q (.bin .shl) [.int k a, .int k' b] dst rq K s = (0 ≤ b ∧ opsQ Q rq K (s.put dst (.int k (k.wrap (a * 2 ^ (min b.toNat k.bits)))))) := by simp [OpQ, quietWp, isCall, opWp, binWp]
theorem q_xor {Q : Mod} {rq : List (RO × Bool)} {K : St → Prop} {s : St} {dst : Dst} {k : IntKind} {a b : Int} : OpQ Q (.bin .xor) [.int k a, .int k b] dst rq K s = opsQ Q rq K (s.put dst (.int k (bitsV .xor k a b))) := by simp [OpQ, quietWp, isCall, opWp, binWp]
theorem xor_one {j : Nat} (h : j < 256) : Go.bits .xor .i64 (j : Int) 1 = ((if j % 2 = 0 then j + 1 else j - 1 : Nat) : Int) := by
  have key : ∀ n : Fin 256, Go.bits .xor .i64 ((n.val : Nat) : Int) 1 = ((if n.val % 2 = 0 then n.val + 1 else n.val - 1 : Nat) : Int) := by decide +kernel
  exact key ⟨j, h⟩
theorem and_one {j : Nat} (h : j < 256) : Go.bits .and .i64 (j : Int) 1 = ((j % 2 : Nat) : Int) := by
  have key : ∀ n : Fin 256, Go.bits .and .i64 ((n.val : Nat) : Int) 1 = ((n.val % 2 : Nat) : Int) := by decide +kernel
  exact key ⟨j, h⟩
def hpS (s : List UInt8) (j : Nat) (m : List UInt8) (k : Nat) : Hp :=
  ⟨[.cells [.str s], .cells [.int .i64 (j : Nat)], .cells [.int .i64 0, .lit (.slice none 0 0), .lit (.slice none 0 0)], .cells [.int .i64 (j : Nat), .slice (strs (sigP s j m k)) (.tok 0), .lit (.slice none 0 0)]], [.per 1 k]⟩
set_option maxHeartbeats 2000000 in
theorem sign_p (s : List UInt8) (h i : Int) (m : List UInt8) (hs : s.length ≤ 300) (hm : m.length ≤ 300) (hb : -9223372036854775808 ≤ i) :
    Pur M 15 [.str s, .int .i64 h, .int .i64 i, .str m] (sgnD (sgnR s h i m)) := by
  refine oT15 rfl ?_
  rw [i15]
  unfold c15
  unfold sgnR
  by_cases hh : 0 ≤ h ∧ h ≤ 8
  case neg =>
    rw [if_neg (by intro q; exact hh ⟨q.1, q.2.1⟩)]
    by_cases hn : h < 0
    · have e1 : decide (h < 0) = true := decide_eq_true hn
      repeat' (first
    | with_reducible first | apply swp_seq | apply swp_reg | apply swp_regD | apply swp_block | apply swp_exit | apply swp_ret | apply swp_skip | apply swp_cd
    | with_reducible apply twp_seq
    | with_reducible apply twp_block
    | ((with_reducible refine twp_reg ?hb ?_); (case hb => exact fun _ _ => trivial); with_reducible intro _)
    | ((with_reducible refine twp_regD ?hb ?_); (case hb => exact fun _ _ => trivial); with_reducible intro _)
    | ((with_reducible refine twp_cond ?hb ?_); (case hb => exact fun _ _ => trivial); with_reducible intro _)
    | ((with_reducible refine twp_ret ?hb ?_); (case hb => exact fun _ _ => trivial))
    | simp only [go_sem, Nat.reduceAdd, Nat.reduceSub, Nat.reduceMul, Nat.reduceEqDiff, Nat.reduceLeDiff, Nat.reduceLT, Int.reduceEq, Int.reduceNe, Int.reduceLT, Int.reduceLE, Int.reduceAdd, Int.reduceSub, Int.reduceMul, Int.reduceNeg, Int.reduceToNat, Int.reduceTDiv, Int.reduceTMod, Int.reduceBEq, Int.reduceBNe, decide_true, decide_false, reduceCtorEq, reduceIte, P15, q15, q_shl, q_xor, e1]
    | simp (disch := omega) only [w64, w32, wu8, wu16, wu32, wu64]
    | ((with_reducible apply s_appT); (case he => rfl); (case hK | hc | hr | hV => first | rfl | assumption | omega | ((first | refine ⟨?_, ?_⟩ | skip) <;> first | omega | (simp only [lN1, lN2, lN3, lN4, lN5, lN6, lN7] <;> omega)) | (simp [elemsK, D.isVal, D.cells, D.closedL, D.closed]; first | done | omega)))
    | ((with_reducible apply s_appG); (case he => rfl); (case hV | hK | hr | hl => first | rfl | assumption | omega | ((first | refine ⟨?_, ?_⟩ | skip) <;> first | omega | (simp only [lN1, lN2, lN3, lN4, lN5, lN6, lN7] <;> omega)) | (simp [elemsK, D.isVal, D.cells, D.closedL, D.closed]; first | done | omega)))
    | ((with_reducible apply s_app0); (case he => rfl); (case hK | hc | hr => first | rfl | assumption | omega | ((first | refine ⟨?_, ?_⟩ | skip) <;> first | omega | (simp only [lN1, lN2, lN3, lN4, lN5, lN6, lN7] <;> omega)) | (simp [elemsK, D.isVal, D.cells, D.closedL, D.closed]; first | done | omega)))
    | ((with_reducible apply s_appF); (case he => rfl); (case hK | hc | hr | hx | hn => first | rfl | assumption | omega | ((first | refine ⟨?_, ?_⟩ | skip) <;> first | omega | (simp only [lN1, lN2, lN3, lN4, lN5, lN6, lN7] <;> omega)) | (simp [elemsK, D.isVal, D.cells, D.closedL, D.closed]; first | done | omega)))
    | ((with_reducible first | apply s_bsl | apply t_bsl); (case he | hl | hc => first | rfl | assumption | omega | ((first | refine ⟨?_, ?_⟩ | skip) <;> first | omega | (simp only [lN1, lN2, lN3, lN4, lN5, lN6, lN7] <;> omega)) | (simp [elemsK, D.isVal, D.cells, D.closedL, D.closed]; first | done | omega)))
    | with_reducible first | apply cd_dec | apply cd_eq | apply cd_ne | apply cd_split | apply gd_dec | apply gd_eq | apply gd_ne | apply gd_split | apply gq_dec | apply gq_eq | apply gq_ne | apply gq_split
    | ((with_reducible refine And.intro ?hw ?_); (case hw => first | omega | rfl | exact ⟨_, _, rfl⟩ | assumption | (simp only [lN1, lN2, lN3, lN4, lN5, lN6, lN7] <;> omega)))
    | with_reducible intro _)
      all_goals try omega
      refine ⟨_, fun _ => weak_trans (weak_newC 2 1 1 (by decide) rfl rfl) (weak_newC 2 2 1 (by decide) rfl rfl), ?_⟩
      simp [go_sem, D.closed, D.closedL, D.er, D.erL]
    · have e1 : decide (h < 0) = false := decide_eq_false hn
      have e2 : decide (8 < h) = true := decide_eq_true (by omega)
      repeat' (first
    | with_reducible first | apply swp_seq | apply swp_reg | apply swp_regD | apply swp_block | apply swp_exit | apply swp_ret | apply swp_skip | apply swp_cd
    | with_reducible apply twp_seq
    | with_reducible apply twp_block
    | ((with_reducible refine twp_reg ?hb ?_); (case hb => exact fun _ _ => trivial); with_reducible intro _)
    | ((with_reducible refine twp_regD ?hb ?_); (case hb => exact fun _ _ => trivial); with_reducible intro _)
    | ((with_reducible refine twp_cond ?hb ?_); (case hb => exact fun _ _ => trivial); with_reducible intro _)
    | ((with_reducible refine twp_ret ?hb ?_); (case hb => exact fun _ _ => trivial))
    | simp only [go_sem, Nat.reduceAdd, Nat.reduceSub, Nat.reduceMul, Nat.reduceEqDiff, Nat.reduceLeDiff, Nat.reduceLT, Int.reduceEq, Int.reduceNe, Int.reduceLT, Int.reduceLE, Int.reduceAdd, Int.reduceSub, Int.reduceMul, Int.reduceNeg, Int.reduceToNat, Int.reduceTDiv, Int.reduceTMod, Int.reduceBEq, Int.reduceBNe, decide_true, decide_false, reduceCtorEq, reduceIte, P15, q15, q_shl, q_xor, e1, e2]
    | simp (disch := omega) only [w64, w32, wu8, wu16, wu32, wu64]
    | ((with_reducible apply s_appT); (case he => rfl); (case hK | hc | hr | hV => first | rfl | assumption | omega | ((first | refine ⟨?_, ?_⟩ | skip) <;> first | omega | (simp only [lN1, lN2, lN3, lN4, lN5, lN6, lN7] <;> omega)) | (simp [elemsK, D.isVal, D.cells, D.closedL, D.closed]; first | done | omega)))
    | ((with_reducible apply s_appG); (case he => rfl); (case hV | hK | hr | hl => first | rfl | assumption | omega | ((first | refine ⟨?_, ?_⟩ | skip) <;> first | omega | (simp only [lN1, lN2, lN3, lN4, lN5, lN6, lN7] <;> omega)) | (simp [elemsK, D.isVal, D.cells, D.closedL, D.closed]; first | done | omega)))
    | ((with_reducible apply s_app0); (case he => rfl); (case hK | hc | hr => first | rfl | assumption | omega | ((first | refine ⟨?_, ?_⟩ | skip) <;> first | omega | (simp only [lN1, lN2, lN3, lN4, lN5, lN6, lN7] <;> omega)) | (simp [elemsK, D.isVal, D.cells, D.closedL, D.closed]; first | done | omega)))
    | ((with_reducible apply s_appF); (case he => rfl); (case hK | hc | hr | hx | hn => first | rfl | assumption | omega | ((first | refine ⟨?_, ?_⟩ | skip) <;> first | omega | (simp only [lN1, lN2, lN3, lN4, lN5, lN6, lN7] <;> omega)) | (simp [elemsK, D.isVal, D.cells, D.closedL, D.closed]; first | done | omega)))
    | ((with_reducible first | apply s_bsl | apply t_bsl); (case he | hl | hc => first | rfl | assumption | omega | ((first | refine ⟨?_, ?_⟩ | skip) <;> first | omega | (simp only [lN1, lN2, lN3, lN4, lN5, lN6, lN7] <;> omega)) | (simp [elemsK, D.isVal, D.cells, D.closedL, D.closed]; first | done | omega)))
    | with_reducible first | apply cd_dec | apply cd_eq | apply cd_ne | apply cd_split | apply gd_dec | apply gd_eq | apply gd_ne | apply gd_split | apply gq_dec | apply gq_eq | apply gq_ne | apply gq_split
    | ((with_reducible refine And.intro ?hw ?_); (case hw => first | omega | rfl | exact ⟨_, _, rfl⟩ | assumption | (simp only [lN1, lN2, lN3, lN4, lN5, lN6, lN7] <;> omega)))
    | with_reducible intro _)
      all_goals try omega
      refine ⟨_, fun _ => weak_trans (weak_newC 2 1 1 (by decide) rfl rfl) (weak_newC 2 2 1 (by decide) rfl rfl), ?_⟩
      simp [go_sem, D.closed, D.closedL, D.er, D.erL]
  case pos =>
    obtain ⟨h0, h8⟩ := hh
    obtain ⟨n, rfl⟩ : ∃ n : Nat, h = n := ⟨h.toNat, by omega⟩
    have e1 : decide ((n : Int) < 0) = false := decide_eq_false (by omega)
    have e2 : decide (8 < (n : Int)) = false := decide_eq_false (by omega)
    have e3 : ((n : Nat) : Int).toNat = n := Int.toNat_natCast n
    rw [e3]
    have e4 : (2 : Int) ^ n = ((2 ^ n : Nat) : Int) := by simp
    rw [e4]
    have hw := shl_one (h := n) (by omega)
    by_cases hi : 0 ≤ i ∧ i < ((2 ^ n : Nat) : Int)
    case neg =>
      rw [if_neg (by intro q; exact hi q.2.2)]
      by_cases hn : i < 0
      · have e5 : decide (i < 0) = true := decide_eq_true hn
        generalize 2 ^ n = N at *
        repeat' (first
    | with_reducible first | apply swp_seq | apply swp_reg | apply swp_regD | apply swp_block | apply swp_exit | apply swp_ret | apply swp_skip | apply swp_cd
    | with_reducible apply twp_seq
    | with_reducible apply twp_block
    | ((with_reducible refine twp_reg ?hb ?_); (case hb => exact fun _ _ => trivial); with_reducible intro _)
    | ((with_reducible refine twp_regD ?hb ?_); (case hb => exact fun _ _ => trivial); with_reducible intro _)
    | ((with_reducible refine twp_cond ?hb ?_); (case hb => exact fun _ _ => trivial); with_reducible intro _)
    | ((with_reducible refine twp_ret ?hb ?_); (case hb => exact fun _ _ => trivial))
    | simp only [go_sem, Nat.reduceAdd, Nat.reduceSub, Nat.reduceMul, Nat.reduceEqDiff, Nat.reduceLeDiff, Nat.reduceLT, Int.reduceEq, Int.reduceNe, Int.reduceLT, Int.reduceLE, Int.reduceAdd, Int.reduceSub, Int.reduceMul, Int.reduceNeg, Int.reduceToNat, Int.reduceTDiv, Int.reduceTMod, Int.reduceBEq, Int.reduceBNe, decide_true, decide_false, reduceCtorEq, reduceIte, P15, q15, q_shl, q_xor, e1, e2, e5, hw]
    | simp (disch := omega) only [w64, w32, wu8, wu16, wu32, wu64]
    | ((with_reducible apply s_appT); (case he => rfl); (case hK | hc | hr | hV => first | rfl | assumption | omega | ((first | refine ⟨?_, ?_⟩ | skip) <;> first | omega | (simp only [lN1, lN2, lN3, lN4, lN5, lN6, lN7] <;> omega)) | (simp [elemsK, D.isVal, D.cells, D.closedL, D.closed]; first | done | omega)))
    | ((with_reducible apply s_appG); (case he => rfl); (case hV | hK | hr | hl => first | rfl | assumption | omega | ((first | refine ⟨?_, ?_⟩ | skip) <;> first | omega | (simp only [lN1, lN2, lN3, lN4, lN5, lN6, lN7] <;> omega)) | (simp [elemsK, D.isVal, D.cells, D.closedL, D.closed]; first | done | omega)))
    | ((with_reducible apply s_app0); (case he => rfl); (case hK | hc | hr => first | rfl | assumption | omega | ((first | refine ⟨?_, ?_⟩ | skip) <;> first | omega | (simp only [lN1, lN2, lN3, lN4, lN5, lN6, lN7] <;> omega)) | (simp [elemsK, D.isVal, D.cells, D.closedL, D.closed]; first | done | omega)))
    | ((with_reducible apply s_appF); (case he => rfl); (case hK | hc | hr | hx | hn => first | rfl | assumption | omega | ((first | refine ⟨?_, ?_⟩ | skip) <;> first | omega | (simp only [lN1, lN2, lN3, lN4, lN5, lN6, lN7] <;> omega)) | (simp [elemsK, D.isVal, D.cells, D.closedL, D.closed]; first | done | omega)))
    | ((with_reducible first | apply s_bsl | apply t_bsl); (case he | hl | hc => first | rfl | assumption | omega | ((first | refine ⟨?_, ?_⟩ | skip) <;> first | omega | (simp only [lN1, lN2, lN3, lN4, lN5, lN6, lN7] <;> omega)) | (simp [elemsK, D.isVal, D.cells, D.closedL, D.closed]; first | done | omega)))
    | with_reducible first | apply cd_dec | apply cd_eq | apply cd_ne | apply cd_split | apply gd_dec | apply gd_eq | apply gd_ne | apply gd_split | apply gq_dec | apply gq_eq | apply gq_ne | apply gq_split
    | ((with_reducible refine And.intro ?hw ?_); (case hw => first | omega | rfl | exact ⟨_, _, rfl⟩ | assumption | (simp only [lN1, lN2, lN3, lN4, lN5, lN6, lN7] <;> omega)))
    | with_reducible intro _)
        all_goals try omega
        refine ⟨_, fun _ => weak_trans (weak_newC 2 1 1 (by decide) rfl rfl) (weak_newC 2 2 1 (by decide) rfl rfl), ?_⟩
        simp [go_sem, D.closed, D.closedL, D.er, D.erL]
      · have e5 : decide (i < 0) = false := decide_eq_false hn
        have e6 : decide (((2 ^ n : Nat) : Int) ≤ i) = true := decide_eq_true (by omega)
        generalize 2 ^ n = N at *
        repeat' (first
    | with_reducible first | apply swp_seq | apply swp_reg | apply swp_regD | apply swp_block | apply swp_exit | apply swp_ret | apply swp_skip | apply swp_cd
    | with_reducible apply twp_seq
    | with_reducible apply twp_block
    | ((with_reducible refine twp_reg ?hb ?_); (case hb => exact fun _ _ => trivial); with_reducible intro _)
    | ((with_reducible refine twp_regD ?hb ?_); (case hb => exact fun _ _ => trivial); with_reducible intro _)
    | ((with_reducible refine twp_cond ?hb ?_); (case hb => exact fun _ _ => trivial); with_reducible intro _)
    | ((with_reducible refine twp_ret ?hb ?_); (case hb => exact fun _ _ => trivial))
    | simp only [go_sem, Nat.reduceAdd, Nat.reduceSub, Nat.reduceMul, Nat.reduceEqDiff, Nat.reduceLeDiff, Nat.reduceLT, Int.reduceEq, Int.reduceNe, Int.reduceLT, Int.reduceLE, Int.reduceAdd, Int.reduceSub, Int.reduceMul, Int.reduceNeg, Int.reduceToNat, Int.reduceTDiv, Int.reduceTMod, Int.reduceBEq, Int.reduceBNe, decide_true, decide_false, reduceCtorEq, reduceIte, P15, q15, q_shl, q_xor, e1, e2, e5, e6, hw]
    | simp (disch := omega) only [w64, w32, wu8, wu16, wu32, wu64]
    | ((with_reducible apply s_appT); (case he => rfl); (case hK | hc | hr | hV => first | rfl | assumption | omega | ((first | refine ⟨?_, ?_⟩ | skip) <;> first | omega | (simp only [lN1, lN2, lN3, lN4, lN5, lN6, lN7] <;> omega)) | (simp [elemsK, D.isVal, D.cells, D.closedL, D.closed]; first | done | omega)))
    | ((with_reducible apply s_appG); (case he => rfl); (case hV | hK | hr | hl => first | rfl | assumption | omega | ((first | refine ⟨?_, ?_⟩ | skip) <;> first | omega | (simp only [lN1, lN2, lN3, lN4, lN5, lN6, lN7] <;> omega)) | (simp [elemsK, D.isVal, D.cells, D.closedL, D.closed]; first | done | omega)))
    | ((with_reducible apply s_app0); (case he => rfl); (case hK | hc | hr => first | rfl | assumption | omega | ((first | refine ⟨?_, ?_⟩ | skip) <;> first | omega | (simp only [lN1, lN2, lN3, lN4, lN5, lN6, lN7] <;> omega)) | (simp [elemsK, D.isVal, D.cells, D.closedL, D.closed]; first | done | omega)))
    | ((with_reducible apply s_appF); (case he => rfl); (case hK | hc | hr | hx | hn => first | rfl | assumption | omega | ((first | refine ⟨?_, ?_⟩ | skip) <;> first | omega | (simp only [lN1, lN2, lN3, lN4, lN5, lN6, lN7] <;> omega)) | (simp [elemsK, D.isVal, D.cells, D.closedL, D.closed]; first | done | omega)))
    | ((with_reducible first | apply s_bsl | apply t_bsl); (case he | hl | hc => first | rfl | assumption | omega | ((first | refine ⟨?_, ?_⟩ | skip) <;> first | omega | (simp only [lN1, lN2, lN3, lN4, lN5, lN6, lN7] <;> omega)) | (simp [elemsK, D.isVal, D.cells, D.closedL, D.closed]; first | done | omega)))
    | with_reducible first | apply cd_dec | apply cd_eq | apply cd_ne | apply cd_split | apply gd_dec | apply gd_eq | apply gd_ne | apply gd_split | apply gq_dec | apply gq_eq | apply gq_ne | apply gq_split
    | ((with_reducible refine And.intro ?hw ?_); (case hw => first | omega | rfl | exact ⟨_, _, rfl⟩ | assumption | (simp only [lN1, lN2, lN3, lN4, lN5, lN6, lN7] <;> omega)))
    | with_reducible intro _)
        all_goals try omega
        refine ⟨_, fun _ => weak_trans (weak_newC 2 1 1 (by decide) rfl rfl) (weak_newC 2 2 1 (by decide) rfl rfl), ?_⟩
        simp [go_sem, D.closed, D.closedL, D.er, D.erL]
    case pos =>
      rw [if_pos ⟨h0, h8, hi⟩]
      obtain ⟨i0, i1⟩ := hi
      obtain ⟨j, rfl⟩ : ∃ j : Nat, i = j := ⟨i.toNat, by omega⟩
      have e5 : decide ((j : Int) < 0) = false := decide_eq_false (by omega)
      have e6 : decide (((2 ^ n : Nat) : Int) ≤ (j : Int)) = false := decide_eq_false (by omega)
      have e7 : ((j : Nat) : Int).toNat = j := Int.toNat_natCast j
      rw [e7]
      have hN : 2 ^ n ≤ 2 ^ 8 := Nat.pow_le_pow_right (by omega) (by omega)
      have h256 : (2 : Nat) ^ 8 = 256 := by decide
      have c1 := sdigits_p m
      have hit := digits_it m (by omega)
      have c3 := keys_p s n hs (by omega)
      have hkl := keys_len s (2 ^ n)
      have hks := keys_small s (2 ^ n)
      have hsg : sgn s n j m = ⟨(j : Nat), sigP s j m 18, pathL (keys s (2 ^ n)) j⟩ := rfl
      rw [hsg]
      generalize keys s (2 ^ n) = K at *
      have hj : j < 256 := by omega
      have hjn : j < 2 ^ n := by omega
      have hn8 : n ≤ 8 := by omega
      generalize hN2 : 2 ^ n = N at *
      repeat' (first
    | with_reducible first | apply swp_seq | apply swp_reg | apply swp_regD | apply swp_block | apply swp_exit | apply swp_ret | apply swp_skip | apply swp_cd
    | with_reducible apply twp_seq
    | with_reducible apply twp_block
    | ((with_reducible refine twp_reg ?hb ?_); (case hb => exact fun _ _ => trivial); with_reducible intro _)
    | ((with_reducible refine twp_regD ?hb ?_); (case hb => exact fun _ _ => trivial); with_reducible intro _)
    | ((with_reducible refine twp_cond ?hb ?_); (case hb => exact fun _ _ => trivial); with_reducible intro _)
    | ((with_reducible refine twp_ret ?hb ?_); (case hb => exact fun _ _ => trivial))
    | simp only [go_sem, Nat.reduceAdd, Nat.reduceSub, Nat.reduceMul, Nat.reduceEqDiff, Nat.reduceLeDiff, Nat.reduceLT, Int.reduceEq, Int.reduceNe, Int.reduceLT, Int.reduceLE, Int.reduceAdd, Int.reduceSub, Int.reduceMul, Int.reduceNeg, Int.reduceToNat, Int.reduceTDiv, Int.reduceTMod, Int.reduceBEq, Int.reduceBNe, decide_true, decide_false, reduceCtorEq, reduceIte, P15, q15, q_shl, q_xor, e1, e2, e5, e6, hw]
    | simp (disch := omega) only [w64, w32, wu8, wu16, wu32, wu64]
    | ((with_reducible first | refine o_call (c1) ?he ?hc ?_ | refine p_call (c1) ?he ?hc ?_ | refine c_call (c1) ?he ?hc ?_); (case he | hc => first | rfl | (simp [D.erL, D.er, D.closedL, D.closed]; done)))
    | ((with_reducible apply s_appT); (case he => rfl); (case hK | hc | hr | hV => first | rfl | assumption | omega | ((first | refine ⟨?_, ?_⟩ | skip) <;> first | omega | (simp only [lN1, lN2, lN3, lN4, lN5, lN6, lN7] <;> omega)) | (simp [elemsK, D.isVal, D.cells, D.closedL, D.closed]; first | done | omega)))
    | ((with_reducible apply s_appG); (case he => rfl); (case hV | hK | hr | hl => first | rfl | assumption | omega | ((first | refine ⟨?_, ?_⟩ | skip) <;> first | omega | (simp only [lN1, lN2, lN3, lN4, lN5, lN6, lN7] <;> omega)) | (simp [elemsK, D.isVal, D.cells, D.closedL, D.closed]; first | done | omega)))
    | ((with_reducible apply s_app0); (case he => rfl); (case hK | hc | hr => first | rfl | assumption | omega | ((first | refine ⟨?_, ?_⟩ | skip) <;> first | omega | (simp only [lN1, lN2, lN3, lN4, lN5, lN6, lN7] <;> omega)) | (simp [elemsK, D.isVal, D.cells, D.closedL, D.closed]; first | done | omega)))
    | ((with_reducible apply s_appF); (case he => rfl); (case hK | hc | hr | hx | hn => first | rfl | assumption | omega | ((first | refine ⟨?_, ?_⟩ | skip) <;> first | omega | (simp only [lN1, lN2, lN3, lN4, lN5, lN6, lN7] <;> omega)) | (simp [elemsK, D.isVal, D.cells, D.closedL, D.closed]; first | done | omega)))
    | ((with_reducible first | apply s_bsl | apply t_bsl); (case he | hl | hc => first | rfl | assumption | omega | ((first | refine ⟨?_, ?_⟩ | skip) <;> first | omega | (simp only [lN1, lN2, lN3, lN4, lN5, lN6, lN7] <;> omega)) | (simp [elemsK, D.isVal, D.cells, D.closedL, D.closed]; first | done | omega)))
    | with_reducible first | apply cd_dec | apply cd_eq | apply cd_ne | apply cd_split | apply gd_dec | apply gd_eq | apply gd_ne | apply gd_split | apply gq_dec | apply gq_eq | apply gq_ne | apply gq_split
    | ((with_reducible refine And.intro ?hw ?_); (case hw => first | omega | rfl | exact ⟨_, _, rfl⟩ | assumption | (simp only [lN1, lN2, lN3, lN4, lN5, lN6, lN7] <;> omega)))
    | with_reducible intro _)
      all_goals try omega
      refine twp_weak (fun _ => weak_newC 3 1 1 (by decide) rfl rfl) (show TWp C15 0 0 _ _ ⟨[.str s, .int .i64 (n : Nat), .int .i64 (j : Nat), .str m, .ptr 0 0, .ptr 1 0, .ptr 2 0, .int .i64 0, .ptr 3 0, .undef, .undef, .undef, .undef, .bool false, .fn (.func 56) [] [.ip [.str m]], .undef, .undef, .undef], [], hpS s j m 0⟩ from ?_)
      refine twp_range (fun _ _ => trivial) hit (hpS s j m) rfl ?_ rfl ?_ ?_
      · intro r hr
        obtain ⟨k, _, rfl⟩ := List.mem_map.1 hr
        rfl
      · intro k r hk
        have hlt : k < 18 := by rw [← drows_len m]; exact (List.getElem?_eq_some_iff.1 hk).1
        rw [drows_get hlt] at hk
        cases hk
        have c5 := start_p s j k hs (by omega) (by omega)
        have c6 := chain_p (start s j k) ((dgt m).getD k 0) (by rw [start_len]; omega) (by have := dgt_get m k; omega)
        have hss := sigP_succ s j m k
        have hsl := sigP_len s j m k
        simp only [hpS, hss]
        generalize chn ((dgt m).getD k 0) (start s j k) = z at *
        generalize start s j k = st at *
        generalize (dgt m).getD k 0 = d at *
        generalize hT0 : sigP s j m k = T at *
        have hT := strs_len T
        have hs2 : strs (T ++ [z]) = strs T ++ [.str z] := by simp
        rw [hs2]
        simp only [GoV.binds]
        repeat' (first
    | with_reducible first | apply swp_seq | apply swp_reg | apply swp_regD | apply swp_block | apply swp_exit | apply swp_ret | apply swp_skip | apply swp_cd
    | with_reducible apply twp_seq
    | with_reducible apply twp_block
    | ((with_reducible refine twp_reg ?hb ?_); (case hb => exact fun _ _ => trivial); with_reducible intro _)
    | ((with_reducible refine twp_regD ?hb ?_); (case hb => exact fun _ _ => trivial); with_reducible intro _)
    | ((with_reducible refine twp_cond ?hb ?_); (case hb => exact fun _ _ => trivial); with_reducible intro _)
    | ((with_reducible refine twp_ret ?hb ?_); (case hb => exact fun _ _ => trivial))
    | simp only [go_sem, Nat.reduceAdd, Nat.reduceSub, Nat.reduceMul, Nat.reduceEqDiff, Nat.reduceLeDiff, Nat.reduceLT, Int.reduceEq, Int.reduceNe, Int.reduceLT, Int.reduceLE, Int.reduceAdd, Int.reduceSub, Int.reduceMul, Int.reduceNeg, Int.reduceToNat, Int.reduceTDiv, Int.reduceTMod, Int.reduceBEq, Int.reduceBNe, decide_true, decide_false, reduceCtorEq, reduceIte, P15, q15, q_shl, q_xor]
    | simp (disch := omega) only [w64, w32, wu8, wu16, wu32, wu64]
    | ((with_reducible first | refine o_call (c5) ?he ?hc ?_ | refine p_call (c5) ?he ?hc ?_ | refine c_call (c5) ?he ?hc ?_); (case he | hc => first | rfl | (simp [D.erL, D.er, D.closedL, D.closed, hT, hsl]; done)))
    | ((with_reducible first | refine o_call (c6) ?he ?hc ?_ | refine p_call (c6) ?he ?hc ?_ | refine c_call (c6) ?he ?hc ?_); (case he | hc => first | rfl | (simp [D.erL, D.er, D.closedL, D.closed, hT, hsl]; done)))
    | ((with_reducible apply s_appT); (case he => rfl); (case hK | hc | hr | hV => first | rfl | assumption | omega | ((first | refine ⟨?_, ?_⟩ | skip) <;> first | omega | (simp only [lN1, lN2, lN3, lN4, lN5, lN6, lN7, hT, hsl] <;> omega)) | (simp [elemsK, D.isVal, D.cells, D.closedL, D.closed, hT, hsl]; first | done | omega)))
    | ((with_reducible apply s_appG); (case he => rfl); (case hV | hK | hr | hl => first | rfl | assumption | omega | ((first | refine ⟨?_, ?_⟩ | skip) <;> first | omega | (simp only [lN1, lN2, lN3, lN4, lN5, lN6, lN7, hT, hsl] <;> omega)) | (simp [elemsK, D.isVal, D.cells, D.closedL, D.closed, hT, hsl]; first | done | omega)))
    | ((with_reducible apply s_app0); (case he => rfl); (case hK | hc | hr => first | rfl | assumption | omega | ((first | refine ⟨?_, ?_⟩ | skip) <;> first | omega | (simp only [lN1, lN2, lN3, lN4, lN5, lN6, lN7, hT, hsl] <;> omega)) | (simp [elemsK, D.isVal, D.cells, D.closedL, D.closed, hT, hsl]; first | done | omega)))
    | ((with_reducible apply s_appF); (case he => rfl); (case hK | hc | hr | hx | hn => first | rfl | assumption | omega | ((first | refine ⟨?_, ?_⟩ | skip) <;> first | omega | (simp only [lN1, lN2, lN3, lN4, lN5, lN6, lN7, hT, hsl] <;> omega)) | (simp [elemsK, D.isVal, D.cells, D.closedL, D.closed, hT, hsl]; first | done | omega)))
    | ((with_reducible first | apply s_bsl | apply t_bsl); (case he | hl | hc => first | rfl | assumption | omega | ((first | refine ⟨?_, ?_⟩ | skip) <;> first | omega | (simp only [lN1, lN2, lN3, lN4, lN5, lN6, lN7, hT, hsl] <;> omega)) | (simp [elemsK, D.isVal, D.cells, D.closedL, D.closed, hT, hsl]; first | done | omega)))
    | with_reducible first | apply cd_dec | apply cd_eq | apply cd_ne | apply cd_split | apply gd_dec | apply gd_eq | apply gd_ne | apply gd_split | apply gq_dec | apply gq_eq | apply gq_ne | apply gq_split
    | ((with_reducible refine And.intro ?hw ?_); (case hw => first | omega | rfl | exact ⟨_, _, rfl⟩ | assumption | (simp only [lN1, lN2, lN3, lN4, lN5, lN6, lN7, hT, hsl] <;> omega)))
    | with_reducible intro _)
        all_goals try omega
        exact ⟨_, weak_refl, by simp [hT, hsl]⟩
      · rw [drows_len]
        have hh : hpS s j m 18 = ⟨[.cells [.str s], .cells [.int .i64 (j : Nat)], .cells [.int .i64 0, .lit (.slice none 0 0), .lit (.slice none 0 0)], .cells [.int .i64 (j : Nat), .slice (strs (sigP s j m 18)) (.tok 0), .lit (.slice none 0 0)]], [.per 1 18]⟩ := rfl
        rw [hh]
        have hcS := closed_strs (sigP s j m 18)
        have heS := erL_strs (sigP s j m 18)
        generalize sigP s j m 18 = T at *
        try simp only [List.length_cons, List.length_nil]
        repeat' (first
    | with_reducible first | apply swp_seq | apply swp_reg | apply swp_regD | apply swp_block | apply swp_exit | apply swp_ret | apply swp_skip | apply swp_cd
    | with_reducible apply twp_seq
    | with_reducible apply twp_block
    | ((with_reducible refine twp_reg ?hb ?_); (case hb => exact fun _ _ => trivial); with_reducible intro _)
    | ((with_reducible refine twp_regD ?hb ?_); (case hb => exact fun _ _ => trivial); with_reducible intro _)
    | ((with_reducible refine twp_cond ?hb ?_); (case hb => exact fun _ _ => trivial); with_reducible intro _)
    | ((with_reducible refine twp_ret ?hb ?_); (case hb => exact fun _ _ => trivial))
    | simp only [go_sem, Nat.reduceAdd, Nat.reduceSub, Nat.reduceMul, Nat.reduceEqDiff, Nat.reduceLeDiff, Nat.reduceLT, Int.reduceEq, Int.reduceNe, Int.reduceLT, Int.reduceLE, Int.reduceAdd, Int.reduceSub, Int.reduceMul, Int.reduceNeg, Int.reduceToNat, Int.reduceTDiv, Int.reduceTMod, Int.reduceBEq, Int.reduceBNe, decide_true, decide_false, reduceCtorEq, reduceIte, P15, q15, q_shl, q_xor]
    | simp (disch := omega) only [w64, w32, wu8, wu16, wu32, wu64]
    | ((with_reducible first | refine o_call (c3) ?he ?hc ?_ | refine p_call (c3) ?he ?hc ?_ | refine c_call (c3) ?he ?hc ?_); (case he | hc => first | rfl | (simp [D.erL, D.er, D.closedL, D.closed]; done)))
    | ((with_reducible apply s_appT); (case he => rfl); (case hK | hc | hr | hV => first | rfl | assumption | omega | ((first | refine ⟨?_, ?_⟩ | skip) <;> first | omega | (simp only [lN1, lN2, lN3, lN4, lN5, lN6, lN7] <;> omega)) | (simp [elemsK, D.isVal, D.cells, D.closedL, D.closed]; first | done | omega)))
    | ((with_reducible apply s_appG); (case he => rfl); (case hV | hK | hr | hl => first | rfl | assumption | omega | ((first | refine ⟨?_, ?_⟩ | skip) <;> first | omega | (simp only [lN1, lN2, lN3, lN4, lN5, lN6, lN7] <;> omega)) | (simp [elemsK, D.isVal, D.cells, D.closedL, D.closed]; first | done | omega)))
    | ((with_reducible apply s_app0); (case he => rfl); (case hK | hc | hr => first | rfl | assumption | omega | ((first | refine ⟨?_, ?_⟩ | skip) <;> first | omega | (simp only [lN1, lN2, lN3, lN4, lN5, lN6, lN7] <;> omega)) | (simp [elemsK, D.isVal, D.cells, D.closedL, D.closed]; first | done | omega)))
    | ((with_reducible apply s_appF); (case he => rfl); (case hK | hc | hr | hx | hn => first | rfl | assumption | omega | ((first | refine ⟨?_, ?_⟩ | skip) <;> first | omega | (simp only [lN1, lN2, lN3, lN4, lN5, lN6, lN7] <;> omega)) | (simp [elemsK, D.isVal, D.cells, D.closedL, D.closed]; first | done | omega)))
    | ((with_reducible first | apply s_bsl | apply t_bsl); (case he | hl | hc => first | rfl | assumption | omega | ((first | refine ⟨?_, ?_⟩ | skip) <;> first | omega | (simp only [lN1, lN2, lN3, lN4, lN5, lN6, lN7] <;> omega)) | (simp [elemsK, D.isVal, D.cells, D.closedL, D.closed]; first | done | omega)))
    | with_reducible first | apply cd_dec | apply cd_eq | apply cd_ne | apply cd_split | apply gd_dec | apply gd_eq | apply gd_ne | apply gd_split | apply gq_dec | apply gq_eq | apply gq_ne | apply gq_split
    | ((with_reducible refine And.intro ?hw ?_); (case hw => first | omega | rfl | exact ⟨_, _, rfl⟩ | assumption | (simp only [lN1, lN2, lN3, lN4, lN5, lN6, lN7] <;> omega)))
    | with_reducible intro _)
        all_goals try omega
        refine twp_weak (fun _ => weak_newC 3 2 1 (by decide) rfl rfl) ?_
        refine twp_of (fun _ _ => trivial) fun ds => ?_
        refine swp_fam [0, 1, 2, 3, 4, 5, 6, 7, 8, 11, 12] (fun p : Nat × List (List UInt8) × Nat × List (List UInt8) => ⟨[.str s, .int .i64 (n : Nat), .int .i64 (j : Nat), .str m, .ptr 0 0, .ptr 1 0, .ptr 2 0, .int .i64 0, .ptr 3 0, .undef, .undef, .slice (strs p.2.1) .no, .int .i64 p.2.2.1, .undef, .undef, .undef, .undef, .undef], [],
            ⟨[.cells [.str s], .cells [.int .i64 (j : Nat)], .cells [.int .i64 0, .lit (.slice none 0 0), .lit (.slice none 0 0)], .cells [.int .i64 (j : Nat), .slice (strs T) (.tok 0), .slice (strs p.2.2.2) (.tok 1)]], [.per 1 18, .per 1 p.2.2.2.length]⟩⟩)
          (fun p => p.1 ≤ 8 ∧ p.2.1.length = 2 ^ p.1 ∧ p.2.2.1 < 2 ^ p.1 ∧ (∀ x ∈ p.2.1, x.length ≤ 1000) ∧ p.2.2.2.length + p.1 ≤ 8 ∧ p.2.2.2 ++ pathL p.2.1 p.2.2.1 = pathL K j) (fun p => p.1) (n, K, j, []) ⟨hn8, by simp only; omega, by simp only; omega, hks, by simpa using hn8, by simp⟩ ?_ ?_
        · simp [keepE, St.keep]
        · rintro ⟨q, u, k, acc⟩ ⟨g0, g1, g2, g3, g5, g4⟩
          simp only at g0 g1 g2 g3 g4 g5 ⊢
          have hul : (strs u).length = u.length := strs_len u
          have hal : (strs acc).length = acc.length := strs_len acc
          have hp : 2 ^ q ≤ 2 ^ 8 := Nat.pow_le_pow_right (by omega) g0
          rw [h256] at hp
          rcases q with _ | q
          · have hu1 : u.length = 1 := by simpa using g1
            have hr := pathL_one (l := u) (i := k) (by omega)
            rw [hr, List.append_nil] at g4
            rw [← g4]
            have heA := erL_strs acc
            have hcA := closed_strs acc
            repeat' (first
    | with_reducible first | apply swp_seq | apply swp_reg | apply swp_regD | apply swp_block | apply swp_exit | apply swp_ret | apply swp_skip | apply swp_cd
    | with_reducible apply twp_seq
    | with_reducible apply twp_block
    | ((with_reducible refine twp_reg ?hb ?_); (case hb => exact fun _ _ => trivial); with_reducible intro _)
    | ((with_reducible refine twp_regD ?hb ?_); (case hb => exact fun _ _ => trivial); with_reducible intro _)
    | ((with_reducible refine twp_cond ?hb ?_); (case hb => exact fun _ _ => trivial); with_reducible intro _)
    | ((with_reducible refine twp_ret ?hb ?_); (case hb => exact fun _ _ => trivial))
    | simp only [go_sem, Nat.reduceAdd, Nat.reduceSub, Nat.reduceMul, Nat.reduceEqDiff, Nat.reduceLeDiff, Nat.reduceLT, Int.reduceEq, Int.reduceNe, Int.reduceLT, Int.reduceLE, Int.reduceAdd, Int.reduceSub, Int.reduceMul, Int.reduceNeg, Int.reduceToNat, Int.reduceTDiv, Int.reduceTMod, Int.reduceBEq, Int.reduceBNe, decide_true, decide_false, reduceCtorEq, reduceIte, P15, q15, hul]
    | simp (disch := omega) only [w64, w32, wu8, wu16, wu32, wu64]
    | ((with_reducible apply s_appT); (case he => rfl); (case hK | hc | hr | hV => first | rfl | assumption | omega | ((first | refine ⟨?_, ?_⟩ | skip) <;> first | omega | (simp only [lN1, lN2, lN3, lN4, lN5, lN6, lN7, hul] <;> omega)) | (simp [elemsK, D.isVal, D.cells, D.closedL, D.closed, hul]; first | done | omega)))
    | ((with_reducible apply s_appG); (case he => rfl); (case hV | hK | hr | hl => first | rfl | assumption | omega | ((first | refine ⟨?_, ?_⟩ | skip) <;> first | omega | (simp only [lN1, lN2, lN3, lN4, lN5, lN6, lN7, hul] <;> omega)) | (simp [elemsK, D.isVal, D.cells, D.closedL, D.closed, hul]; first | done | omega)))
    | ((with_reducible apply s_app0); (case he => rfl); (case hK | hc | hr => first | rfl | assumption | omega | ((first | refine ⟨?_, ?_⟩ | skip) <;> first | omega | (simp only [lN1, lN2, lN3, lN4, lN5, lN6, lN7, hul] <;> omega)) | (simp [elemsK, D.isVal, D.cells, D.closedL, D.closed, hul]; first | done | omega)))
    | ((with_reducible apply s_appF); (case he => rfl); (case hK | hc | hr | hx | hn => first | rfl | assumption | omega | ((first | refine ⟨?_, ?_⟩ | skip) <;> first | omega | (simp only [lN1, lN2, lN3, lN4, lN5, lN6, lN7, hul] <;> omega)) | (simp [elemsK, D.isVal, D.cells, D.closedL, D.closed, hul]; first | done | omega)))
    | ((with_reducible first | apply s_bsl | apply t_bsl); (case he | hl | hc => first | rfl | assumption | omega | ((first | refine ⟨?_, ?_⟩ | skip) <;> first | omega | (simp only [lN1, lN2, lN3, lN4, lN5, lN6, lN7, hul] <;> omega)) | (simp [elemsK, D.isVal, D.cells, D.closedL, D.closed, hul]; first | done | omega)))
    | with_reducible first | apply cd_dec | apply cd_eq | apply cd_ne | apply cd_split | apply gd_dec | apply gd_eq | apply gd_ne | apply gd_split | apply gq_dec | apply gq_eq | apply gq_ne | apply gq_split
    | ((with_reducible refine And.intro ?hw ?_); (case hw => first | omega | rfl | exact ⟨_, _, rfl⟩ | assumption | (simp only [lN1, lN2, lN3, lN4, lN5, lN6, lN7, hul] <;> omega)))
    | with_reducible intro _)
            all_goals try omega
            refine ⟨_, fun _ => weak_refl, ?_⟩
            simp [go_sem, D.closed, D.closedL, D.er, D.erL, hcS, heS, heA, hcA]
          · have h2 : 2 ^ (q + 1) = 2 * 2 ^ q := by rw [Nat.pow_succ, Nat.mul_comm]
            have hp2 : 0 < 2 ^ q := Nat.pow_pos (by omega)
            have h1 := above_p u (by omega) (by omega) g3
            have hr := pathL_up (l := u) (i := k) (by omega)
            have hle := up_len u
            have t2 : (k : Int).tdiv 2 = ((k / 2 : Nat) : Int) := by rw [Int.tdiv_eq_ediv_of_nonneg (by omega)]; omega
            have hx : bitsV .xor .i64 (k : Int) 1 = _ := xor_one (j := k) (by omega)
            have hlt : (if k % 2 = 0 then k + 1 else k - 1) < u.length := by split <;> omega
            have hg := strs_get (l := u) hlt
            have t3 : (((if k % 2 = 0 then k + 1 else k - 1 : Nat)) : Int).toNat = (if k % 2 = 0 then k + 1 else k - 1) := Int.toNat_natCast _
            generalize (if k % 2 = 0 then k + 1 else k - 1) = e at *
            generalize u.getD e [] = x at *
            repeat' (first
    | with_reducible first | apply swp_seq | apply swp_reg | apply swp_regD | apply swp_block | apply swp_exit | apply swp_ret | apply swp_skip | apply swp_cd
    | with_reducible apply twp_seq
    | with_reducible apply twp_block
    | ((with_reducible refine twp_reg ?hb ?_); (case hb => exact fun _ _ => trivial); with_reducible intro _)
    | ((with_reducible refine twp_regD ?hb ?_); (case hb => exact fun _ _ => trivial); with_reducible intro _)
    | ((with_reducible refine twp_cond ?hb ?_); (case hb => exact fun _ _ => trivial); with_reducible intro _)
    | ((with_reducible refine twp_ret ?hb ?_); (case hb => exact fun _ _ => trivial))
    | simp only [go_sem, Nat.reduceAdd, Nat.reduceSub, Nat.reduceMul, Nat.reduceEqDiff, Nat.reduceLeDiff, Nat.reduceLT, Int.reduceEq, Int.reduceNe, Int.reduceLT, Int.reduceLE, Int.reduceAdd, Int.reduceSub, Int.reduceMul, Int.reduceNeg, Int.reduceToNat, Int.reduceTDiv, Int.reduceTMod, Int.reduceBEq, Int.reduceBNe, decide_true, decide_false, reduceCtorEq, reduceIte, P15, q15, q_xor, hx, hul, t2, t3, hg]
    | simp (disch := omega) only [w64, w32, wu8, wu16, wu32, wu64]
    | ((with_reducible first | refine o_call (h1) ?he ?hc ?_ | refine p_call (h1) ?he ?hc ?_ | refine c_call (h1) ?he ?hc ?_); (case he | hc => first | rfl | (simp [D.erL, D.er, D.closedL, D.closed, hul, hal]; done)))
    | ((with_reducible apply s_appT); (case he => rfl); (case hK | hc | hr | hV => first | rfl | assumption | omega | ((first | refine ⟨?_, ?_⟩ | skip) <;> first | omega | (simp only [lN1, lN2, lN3, lN4, lN5, lN6, lN7, hul, hal] <;> omega)) | (simp [elemsK, D.isVal, D.cells, D.closedL, D.closed, hul, hal]; first | done | omega)))
    | ((with_reducible apply s_appG); (case he => rfl); (case hV | hK | hr | hl => first | rfl | assumption | omega | ((first | refine ⟨?_, ?_⟩ | skip) <;> first | omega | (simp only [lN1, lN2, lN3, lN4, lN5, lN6, lN7, hul, hal] <;> omega)) | (simp [elemsK, D.isVal, D.cells, D.closedL, D.closed, hul, hal]; first | done | omega)))
    | ((with_reducible apply s_app0); (case he => rfl); (case hK | hc | hr => first | rfl | assumption | omega | ((first | refine ⟨?_, ?_⟩ | skip) <;> first | omega | (simp only [lN1, lN2, lN3, lN4, lN5, lN6, lN7, hul, hal] <;> omega)) | (simp [elemsK, D.isVal, D.cells, D.closedL, D.closed, hul, hal]; first | done | omega)))
    | ((with_reducible apply s_appF); (case he => rfl); (case hK | hc | hr | hx | hn => first | rfl | assumption | omega | ((first | refine ⟨?_, ?_⟩ | skip) <;> first | omega | (simp only [lN1, lN2, lN3, lN4, lN5, lN6, lN7, hul, hal] <;> omega)) | (simp [elemsK, D.isVal, D.cells, D.closedL, D.closed, hul, hal]; first | done | omega)))
    | ((with_reducible first | apply s_bsl | apply t_bsl); (case he | hl | hc => first | rfl | assumption | omega | ((first | refine ⟨?_, ?_⟩ | skip) <;> first | omega | (simp only [lN1, lN2, lN3, lN4, lN5, lN6, lN7, hul, hal] <;> omega)) | (simp [elemsK, D.isVal, D.cells, D.closedL, D.closed, hul, hal]; first | done | omega)))
    | with_reducible first | apply cd_dec | apply cd_eq | apply cd_ne | apply cd_split | apply gd_dec | apply gd_eq | apply gd_ne | apply gd_split | apply gq_dec | apply gq_eq | apply gq_ne | apply gq_split
    | ((with_reducible refine And.intro ?hw ?_); (case hw => first | omega | rfl | exact ⟨_, _, rfl⟩ | assumption | (simp only [lN1, lN2, lN3, lN4, lN5, lN6, lN7, hul, hal] <;> omega)))
    | with_reducible intro _)
            all_goals try omega
            refine ⟨(q, up u, k / 2, acc ++ [x]), ⟨by simp only; omega, by simp only; omega, by simp only; omega, up_small u, by simp only [List.length_append, List.length_cons, List.length_nil]; omega, by simp only; rw [← g4, hr]; simp⟩, by simp only; omega, ?_⟩
            simp [keepE, St.keep, strs]
            try omega
end Go.Proofs.YtgjkhlnpplajjaaDoor
end
section
set_option maxRecDepth 100000
set_option linter.unusedSimpArgs false
set_option linter.unusedVariables false
namespace Go.Proofs.YtgjkhlnpplajjaaDoor
open Go GoV Go.RowKit
structure SmallS (x : Seal) : Prop where
  sl : x.sig.length ≤ 1000
  sx : ∀ t ∈ x.sig, t.length ≤ 1000
  pl : x.path.length ≤ 1000
  px : ∀ t ∈ x.path, t.length ≤ 1000
def endsV (m : List UInt8) (g : List (List UInt8)) (k : Nat) : List (List UInt8) := (List.range k).map fun k => chn (15 - (dgt m).getD k 0) (g.getD k [])
theorem endsV_len (m : List UInt8) (g : List (List UInt8)) (k : Nat) : (endsV m g k).length = k := by simp [endsV]
theorem endsV_succ (m : List UInt8) (g : List (List UInt8)) (k : Nat) : endsV m g (k + 1) = endsV m g k ++ [chn (15 - (dgt m).getD k 0) (g.getD k [])] := by simp [endsV, List.range_succ]
theorem isD_len {t : List UInt8} (h : isD t = true) : t.length = 16 := by
  unfold isD at h
  simp only [Bool.and_eq_true, decide_eq_true_eq, beq_iff_eq] at h
  exact h.1
theorem okL_ends' {m : List UInt8} {g : List (List UInt8)} (h : ∀ t ∈ g, t.length ≤ 1000) : okL (ends' m g) := by
  refine ⟨by simp [ends'], fun t ht => ?_⟩
  obtain ⟨k, _, rfl⟩ := List.mem_map.1 ht
  by_cases e : 15 - (dgt m).getD k 0 = 0
  · rw [e]; exact get_small h
  · rw [chn_len e]; omega
theorem climb_len {p : List (List UInt8)} {a : List UInt8} {i : Nat} (ha : a.length = 16) : (climb a p i).length = 16 := by
  induction p generalizing a i with
  | nil => exact ha
  | cons x p ih => exact ih (by rw [par_sum]; exact sumN_len _)
theorem shr_nat {j k : Nat} (hk : k ≤ 40) : ((j : Nat) : Int).fdiv (2 ^ (min k 64)) = ((j / 2 ^ k : Nat) : Int) := by
  rw [Nat.min_eq_left (by omega), Int.fdiv_eq_ediv_of_nonneg _ (by exact_mod_cast Nat.zero_le _)]
  simp
def hpV (x : Seal) (m : List UInt8) (k : Nat) : Hp :=
  ⟨[.cells [.int .i64 x.idx, .slice (strs x.sig) .no, .slice (strs x.path) .no], .cells [.slice (strs (endsV m x.sig k)) (.tok 0)]], [.per 1 k]⟩
set_option maxHeartbeats 4000000 in
theorem verify_p (p m : List UInt8) (x : Seal) (hx : SmallS x) (hm : m.length ≤ 300) : Pur M 18 [.str p, .str m, sealD x] (.bool (ver p m x)) := by
  refine oT18 rfl ?_
  rw [i18]
  unfold c18 sealD
  have hsl := strs_len x.sig
  have hpl := strs_len x.path
  have heS := erL_strs x.sig
  have hcS := closed_strs x.sig
  have heP := erL_strs x.path
  have hcP := closed_strs x.path
  have o1 := odd_p x.sig hx.sl hx.sx
  have o2 := odd_p x.path hx.pl hx.px
  by_cases q1 : x.sig.length = 18
  case neg =>
    have hf : ver p m x = false := by unfold ver okS; simp [q1]
    rw [hf]
    have e1 : decide (((x.sig.length : Nat) : Int) ≠ 18) = true := decide_eq_true (by omega)
    generalize strs x.sig = S at *
    generalize strs x.path = P at *
    repeat' (first
    | with_reducible first | apply swp_seq | apply swp_reg | apply swp_regD | apply swp_block | apply swp_exit | apply swp_ret | apply swp_skip | apply swp_cd
    | with_reducible apply twp_seq
    | with_reducible apply twp_block
    | ((with_reducible refine twp_reg ?hb ?_); (case hb => exact fun _ _ => trivial); with_reducible intro _)
    | ((with_reducible refine twp_regD ?hb ?_); (case hb => exact fun _ _ => trivial); with_reducible intro _)
    | ((with_reducible refine twp_cond ?hb ?_); (case hb => exact fun _ _ => trivial); with_reducible intro _)
    | ((with_reducible refine twp_ret ?hb ?_); (case hb => exact fun _ _ => trivial))
    | simp only [go_sem, Nat.reduceAdd, Nat.reduceSub, Nat.reduceMul, Nat.reduceEqDiff, Nat.reduceLeDiff, Nat.reduceLT, Int.reduceEq, Int.reduceNe, Int.reduceLT, Int.reduceLE, Int.reduceAdd, Int.reduceSub, Int.reduceMul, Int.reduceNeg, Int.reduceToNat, Int.reduceTDiv, Int.reduceTMod, Int.reduceBEq, Int.reduceBNe, decide_true, decide_false, reduceCtorEq, reduceIte, P18, q18, q_shl, hsl, hpl, e1]
    | simp (disch := omega) only [w64, w32, wu8, wu16, wu32, wu64]
    | ((with_reducible apply s_appT); (case he => rfl); (case hK | hc | hr | hV => first | rfl | assumption | omega | ((first | refine ⟨?_, ?_⟩ | skip) <;> first | omega | (simp only [lN1, lN2, lN3, lN4, lN5, lN6, lN7, heS, hcS, heP, hcP] <;> omega)) | (simp [elemsK, D.isVal, D.cells, D.closedL, D.closed, heS, hcS, heP, hcP]; first | done | omega)))
    | ((with_reducible apply s_appG); (case he => rfl); (case hV | hK | hr | hl => first | rfl | assumption | omega | ((first | refine ⟨?_, ?_⟩ | skip) <;> first | omega | (simp only [lN1, lN2, lN3, lN4, lN5, lN6, lN7, heS, hcS, heP, hcP] <;> omega)) | (simp [elemsK, D.isVal, D.cells, D.closedL, D.closed, heS, hcS, heP, hcP]; first | done | omega)))
    | ((with_reducible apply s_app0); (case he => rfl); (case hK | hc | hr => first | rfl | assumption | omega | ((first | refine ⟨?_, ?_⟩ | skip) <;> first | omega | (simp only [lN1, lN2, lN3, lN4, lN5, lN6, lN7, heS, hcS, heP, hcP] <;> omega)) | (simp [elemsK, D.isVal, D.cells, D.closedL, D.closed, heS, hcS, heP, hcP]; first | done | omega)))
    | ((with_reducible apply s_appF); (case he => rfl); (case hK | hc | hr | hx | hn => first | rfl | assumption | omega | ((first | refine ⟨?_, ?_⟩ | skip) <;> first | omega | (simp only [lN1, lN2, lN3, lN4, lN5, lN6, lN7, heS, hcS, heP, hcP] <;> omega)) | (simp [elemsK, D.isVal, D.cells, D.closedL, D.closed, heS, hcS, heP, hcP]; first | done | omega)))
    | ((with_reducible first | apply s_bsl | apply t_bsl); (case he | hl | hc => first | rfl | assumption | omega | ((first | refine ⟨?_, ?_⟩ | skip) <;> first | omega | (simp only [lN1, lN2, lN3, lN4, lN5, lN6, lN7, heS, hcS, heP, hcP] <;> omega)) | (simp [elemsK, D.isVal, D.cells, D.closedL, D.closed, heS, hcS, heP, hcP]; first | done | omega)))
    | with_reducible first | apply cd_dec | apply cd_eq | apply cd_ne | apply cd_split | apply gd_dec | apply gd_eq | apply gd_ne | apply gd_split | apply gq_dec | apply gq_eq | apply gq_ne | apply gq_split
    | ((with_reducible refine And.intro ?hw ?_); (case hw => first | omega | rfl | exact ⟨_, _, rfl⟩ | assumption | (simp only [lN1, lN2, lN3, lN4, lN5, lN6, lN7, heS, hcS, heP, hcP] <;> omega)))
    | with_reducible intro _)
    all_goals try omega
    refine ⟨_, fun _ => weak_refl, ?_⟩
    simp [go_sem, D.closed, D.er]
  case pos =>
  rw [q1] at hsl
  by_cases q2 : x.path.length ≤ 8
  case neg =>
    have hf : ver p m x = false := by unfold ver okS; simp [q2]
    rw [hf]
    have e2 : decide (8 < ((x.path.length : Nat) : Int)) = true := decide_eq_true (by omega)
    generalize strs x.sig = S at *
    generalize strs x.path = P at *
    repeat' (first
    | with_reducible first | apply swp_seq | apply swp_reg | apply swp_regD | apply swp_block | apply swp_exit | apply swp_ret | apply swp_skip | apply swp_cd
    | with_reducible apply twp_seq
    | with_reducible apply twp_block
    | ((with_reducible refine twp_reg ?hb ?_); (case hb => exact fun _ _ => trivial); with_reducible intro _)
    | ((with_reducible refine twp_regD ?hb ?_); (case hb => exact fun _ _ => trivial); with_reducible intro _)
    | ((with_reducible refine twp_cond ?hb ?_); (case hb => exact fun _ _ => trivial); with_reducible intro _)
    | ((with_reducible refine twp_ret ?hb ?_); (case hb => exact fun _ _ => trivial))
    | simp only [go_sem, Nat.reduceAdd, Nat.reduceSub, Nat.reduceMul, Nat.reduceEqDiff, Nat.reduceLeDiff, Nat.reduceLT, Int.reduceEq, Int.reduceNe, Int.reduceLT, Int.reduceLE, Int.reduceAdd, Int.reduceSub, Int.reduceMul, Int.reduceNeg, Int.reduceToNat, Int.reduceTDiv, Int.reduceTMod, Int.reduceBEq, Int.reduceBNe, decide_true, decide_false, reduceCtorEq, reduceIte, P18, q18, q_shl, hsl, hpl, e2]
    | simp (disch := omega) only [w64, w32, wu8, wu16, wu32, wu64]
    | ((with_reducible apply s_appT); (case he => rfl); (case hK | hc | hr | hV => first | rfl | assumption | omega | ((first | refine ⟨?_, ?_⟩ | skip) <;> first | omega | (simp only [lN1, lN2, lN3, lN4, lN5, lN6, lN7, heS, hcS, heP, hcP] <;> omega)) | (simp [elemsK, D.isVal, D.cells, D.closedL, D.closed, heS, hcS, heP, hcP]; first | done | omega)))
    | ((with_reducible apply s_appG); (case he => rfl); (case hV | hK | hr | hl => first | rfl | assumption | omega | ((first | refine ⟨?_, ?_⟩ | skip) <;> first | omega | (simp only [lN1, lN2, lN3, lN4, lN5, lN6, lN7, heS, hcS, heP, hcP] <;> omega)) | (simp [elemsK, D.isVal, D.cells, D.closedL, D.closed, heS, hcS, heP, hcP]; first | done | omega)))
    | ((with_reducible apply s_app0); (case he => rfl); (case hK | hc | hr => first | rfl | assumption | omega | ((first | refine ⟨?_, ?_⟩ | skip) <;> first | omega | (simp only [lN1, lN2, lN3, lN4, lN5, lN6, lN7, heS, hcS, heP, hcP] <;> omega)) | (simp [elemsK, D.isVal, D.cells, D.closedL, D.closed, heS, hcS, heP, hcP]; first | done | omega)))
    | ((with_reducible apply s_appF); (case he => rfl); (case hK | hc | hr | hx | hn => first | rfl | assumption | omega | ((first | refine ⟨?_, ?_⟩ | skip) <;> first | omega | (simp only [lN1, lN2, lN3, lN4, lN5, lN6, lN7, heS, hcS, heP, hcP] <;> omega)) | (simp [elemsK, D.isVal, D.cells, D.closedL, D.closed, heS, hcS, heP, hcP]; first | done | omega)))
    | ((with_reducible first | apply s_bsl | apply t_bsl); (case he | hl | hc => first | rfl | assumption | omega | ((first | refine ⟨?_, ?_⟩ | skip) <;> first | omega | (simp only [lN1, lN2, lN3, lN4, lN5, lN6, lN7, heS, hcS, heP, hcP] <;> omega)) | (simp [elemsK, D.isVal, D.cells, D.closedL, D.closed, heS, hcS, heP, hcP]; first | done | omega)))
    | with_reducible first | apply cd_dec | apply cd_eq | apply cd_ne | apply cd_split | apply gd_dec | apply gd_eq | apply gd_ne | apply gd_split | apply gq_dec | apply gq_eq | apply gq_ne | apply gq_split
    | ((with_reducible refine And.intro ?hw ?_); (case hw => first | omega | rfl | exact ⟨_, _, rfl⟩ | assumption | (simp only [lN1, lN2, lN3, lN4, lN5, lN6, lN7, heS, hcS, heP, hcP] <;> omega)))
    | with_reducible intro _)
    all_goals try omega
    refine ⟨_, fun _ => weak_refl, ?_⟩
    simp [go_sem, D.closed, D.er]
  case pos =>
  have e2 : decide (8 < ((x.path.length : Nat) : Int)) = false := decide_eq_false (by omega)
  by_cases q3 : x.sig.all isD = true
  case neg =>
    have hf : ver p m x = false := by unfold ver okS; simp [q3]
    rw [hf]
    have q3' : x.sig.all isD = false := by simpa using q3
    rw [q3'] at o1
    generalize strs x.sig = S at *
    generalize strs x.path = P at *
    repeat' (first
    | with_reducible first | apply swp_seq | apply swp_reg | apply swp_regD | apply swp_block | apply swp_exit | apply swp_ret | apply swp_skip | apply swp_cd
    | with_reducible apply twp_seq
    | with_reducible apply twp_block
    | ((with_reducible refine twp_reg ?hb ?_); (case hb => exact fun _ _ => trivial); with_reducible intro _)
    | ((with_reducible refine twp_regD ?hb ?_); (case hb => exact fun _ _ => trivial); with_reducible intro _)
    | ((with_reducible refine twp_cond ?hb ?_); (case hb => exact fun _ _ => trivial); with_reducible intro _)
    | ((with_reducible refine twp_ret ?hb ?_); (case hb => exact fun _ _ => trivial))
    | simp only [go_sem, Nat.reduceAdd, Nat.reduceSub, Nat.reduceMul, Nat.reduceEqDiff, Nat.reduceLeDiff, Nat.reduceLT, Int.reduceEq, Int.reduceNe, Int.reduceLT, Int.reduceLE, Int.reduceAdd, Int.reduceSub, Int.reduceMul, Int.reduceNeg, Int.reduceToNat, Int.reduceTDiv, Int.reduceTMod, Int.reduceBEq, Int.reduceBNe, decide_true, decide_false, reduceCtorEq, reduceIte, P18, q18, q_shl, hsl, hpl, e2]
    | simp (disch := omega) only [w64, w32, wu8, wu16, wu32, wu64]
    | ((with_reducible first | refine o_call (o1) ?he ?hc ?_ | refine p_call (o1) ?he ?hc ?_ | refine c_call (o1) ?he ?hc ?_); (case he | hc => first | rfl | (simp [D.erL, D.er, D.closedL, D.closed, heS, hcS, heP, hcP]; done)))
    | ((with_reducible apply s_appT); (case he => rfl); (case hK | hc | hr | hV => first | rfl | assumption | omega | ((first | refine ⟨?_, ?_⟩ | skip) <;> first | omega | (simp only [lN1, lN2, lN3, lN4, lN5, lN6, lN7, heS, hcS, heP, hcP] <;> omega)) | (simp [elemsK, D.isVal, D.cells, D.closedL, D.closed, heS, hcS, heP, hcP]; first | done | omega)))
    | ((with_reducible apply s_appG); (case he => rfl); (case hV | hK | hr | hl => first | rfl | assumption | omega | ((first | refine ⟨?_, ?_⟩ | skip) <;> first | omega | (simp only [lN1, lN2, lN3, lN4, lN5, lN6, lN7, heS, hcS, heP, hcP] <;> omega)) | (simp [elemsK, D.isVal, D.cells, D.closedL, D.closed, heS, hcS, heP, hcP]; first | done | omega)))
    | ((with_reducible apply s_app0); (case he => rfl); (case hK | hc | hr => first | rfl | assumption | omega | ((first | refine ⟨?_, ?_⟩ | skip) <;> first | omega | (simp only [lN1, lN2, lN3, lN4, lN5, lN6, lN7, heS, hcS, heP, hcP] <;> omega)) | (simp [elemsK, D.isVal, D.cells, D.closedL, D.closed, heS, hcS, heP, hcP]; first | done | omega)))
    | ((with_reducible apply s_appF); (case he => rfl); (case hK | hc | hr | hx | hn => first | rfl | assumption | omega | ((first | refine ⟨?_, ?_⟩ | skip) <;> first | omega | (simp only [lN1, lN2, lN3, lN4, lN5, lN6, lN7, heS, hcS, heP, hcP] <;> omega)) | (simp [elemsK, D.isVal, D.cells, D.closedL, D.closed, heS, hcS, heP, hcP]; first | done | omega)))
    | ((with_reducible first | apply s_bsl | apply t_bsl); (case he | hl | hc => first | rfl | assumption | omega | ((first | refine ⟨?_, ?_⟩ | skip) <;> first | omega | (simp only [lN1, lN2, lN3, lN4, lN5, lN6, lN7, heS, hcS, heP, hcP] <;> omega)) | (simp [elemsK, D.isVal, D.cells, D.closedL, D.closed, heS, hcS, heP, hcP]; first | done | omega)))
    | with_reducible first | apply cd_dec | apply cd_eq | apply cd_ne | apply cd_split | apply gd_dec | apply gd_eq | apply gd_ne | apply gd_split | apply gq_dec | apply gq_eq | apply gq_ne | apply gq_split
    | ((with_reducible refine And.intro ?hw ?_); (case hw => first | omega | rfl | exact ⟨_, _, rfl⟩ | assumption | (simp only [lN1, lN2, lN3, lN4, lN5, lN6, lN7, heS, hcS, heP, hcP] <;> omega)))
    | with_reducible intro _)
    all_goals try omega
    refine ⟨_, fun _ => weak_refl, ?_⟩
    simp [go_sem, D.closed, D.er]
  case pos =>
  rw [q3] at o1
  by_cases q4 : x.path.all isD = true
  case neg =>
    have hf : ver p m x = false := by unfold ver okS; simp [q4]
    rw [hf]
    have q4' : x.path.all isD = false := by simpa using q4
    rw [q4'] at o2
    generalize strs x.sig = S at *
    generalize strs x.path = P at *
    repeat' (first
    | with_reducible first | apply swp_seq | apply swp_reg | apply swp_regD | apply swp_block | apply swp_exit | apply swp_ret | apply swp_skip | apply swp_cd
    | with_reducible apply twp_seq
    | with_reducible apply twp_block
    | ((with_reducible refine twp_reg ?hb ?_); (case hb => exact fun _ _ => trivial); with_reducible intro _)
    | ((with_reducible refine twp_regD ?hb ?_); (case hb => exact fun _ _ => trivial); with_reducible intro _)
    | ((with_reducible refine twp_cond ?hb ?_); (case hb => exact fun _ _ => trivial); with_reducible intro _)
    | ((with_reducible refine twp_ret ?hb ?_); (case hb => exact fun _ _ => trivial))
    | simp only [go_sem, Nat.reduceAdd, Nat.reduceSub, Nat.reduceMul, Nat.reduceEqDiff, Nat.reduceLeDiff, Nat.reduceLT, Int.reduceEq, Int.reduceNe, Int.reduceLT, Int.reduceLE, Int.reduceAdd, Int.reduceSub, Int.reduceMul, Int.reduceNeg, Int.reduceToNat, Int.reduceTDiv, Int.reduceTMod, Int.reduceBEq, Int.reduceBNe, decide_true, decide_false, reduceCtorEq, reduceIte, P18, q18, q_shl, hsl, hpl, e2]
    | simp (disch := omega) only [w64, w32, wu8, wu16, wu32, wu64]
    | ((with_reducible first | refine o_call (o1) ?he ?hc ?_ | refine p_call (o1) ?he ?hc ?_ | refine c_call (o1) ?he ?hc ?_); (case he | hc => first | rfl | (simp [D.erL, D.er, D.closedL, D.closed, heS, hcS, heP, hcP]; done)))
    | ((with_reducible first | refine o_call (o2) ?he ?hc ?_ | refine p_call (o2) ?he ?hc ?_ | refine c_call (o2) ?he ?hc ?_); (case he | hc => first | rfl | (simp [D.erL, D.er, D.closedL, D.closed, heS, hcS, heP, hcP]; done)))
    | ((with_reducible apply s_appT); (case he => rfl); (case hK | hc | hr | hV => first | rfl | assumption | omega | ((first | refine ⟨?_, ?_⟩ | skip) <;> first | omega | (simp only [lN1, lN2, lN3, lN4, lN5, lN6, lN7, heS, hcS, heP, hcP] <;> omega)) | (simp [elemsK, D.isVal, D.cells, D.closedL, D.closed, heS, hcS, heP, hcP]; first | done | omega)))
    | ((with_reducible apply s_appG); (case he => rfl); (case hV | hK | hr | hl => first | rfl | assumption | omega | ((first | refine ⟨?_, ?_⟩ | skip) <;> first | omega | (simp only [lN1, lN2, lN3, lN4, lN5, lN6, lN7, heS, hcS, heP, hcP] <;> omega)) | (simp [elemsK, D.isVal, D.cells, D.closedL, D.closed, heS, hcS, heP, hcP]; first | done | omega)))
    | ((with_reducible apply s_app0); (case he => rfl); (case hK | hc | hr => first | rfl | assumption | omega | ((first | refine ⟨?_, ?_⟩ | skip) <;> first | omega | (simp only [lN1, lN2, lN3, lN4, lN5, lN6, lN7, heS, hcS, heP, hcP] <;> omega)) | (simp [elemsK, D.isVal, D.cells, D.closedL, D.closed, heS, hcS, heP, hcP]; first | done | omega)))
    | ((with_reducible apply s_appF); (case he => rfl); (case hK | hc | hr | hx | hn => first | rfl | assumption | omega | ((first | refine ⟨?_, ?_⟩ | skip) <;> first | omega | (simp only [lN1, lN2, lN3, lN4, lN5, lN6, lN7, heS, hcS, heP, hcP] <;> omega)) | (simp [elemsK, D.isVal, D.cells, D.closedL, D.closed, heS, hcS, heP, hcP]; first | done | omega)))
    | ((with_reducible first | apply s_bsl | apply t_bsl); (case he | hl | hc => first | rfl | assumption | omega | ((first | refine ⟨?_, ?_⟩ | skip) <;> first | omega | (simp only [lN1, lN2, lN3, lN4, lN5, lN6, lN7, heS, hcS, heP, hcP] <;> omega)) | (simp [elemsK, D.isVal, D.cells, D.closedL, D.closed, heS, hcS, heP, hcP]; first | done | omega)))
    | with_reducible first | apply cd_dec | apply cd_eq | apply cd_ne | apply cd_split | apply gd_dec | apply gd_eq | apply gd_ne | apply gd_split | apply gq_dec | apply gq_eq | apply gq_ne | apply gq_split
    | ((with_reducible refine And.intro ?hw ?_); (case hw => first | omega | rfl | exact ⟨_, _, rfl⟩ | assumption | (simp only [lN1, lN2, lN3, lN4, lN5, lN6, lN7, heS, hcS, heP, hcP] <;> omega)))
    | with_reducible intro _)
    all_goals try omega
    refine ⟨_, fun _ => weak_refl, ?_⟩
    simp [go_sem, D.closed, D.er]
  case pos =>
  rw [q4] at o2
  by_cases q5 : 0 ≤ x.idx
  case neg =>
    have hf : ver p m x = false := by unfold ver okS; simp [q5]
    rw [hf]
    have e5 : decide (x.idx < 0) = true := decide_eq_true (by omega)
    generalize strs x.sig = S at *
    generalize strs x.path = P at *
    repeat' (first
    | with_reducible first | apply swp_seq | apply swp_reg | apply swp_regD | apply swp_block | apply swp_exit | apply swp_ret | apply swp_skip | apply swp_cd
    | with_reducible apply twp_seq
    | with_reducible apply twp_block
    | ((with_reducible refine twp_reg ?hb ?_); (case hb => exact fun _ _ => trivial); with_reducible intro _)
    | ((with_reducible refine twp_regD ?hb ?_); (case hb => exact fun _ _ => trivial); with_reducible intro _)
    | ((with_reducible refine twp_cond ?hb ?_); (case hb => exact fun _ _ => trivial); with_reducible intro _)
    | ((with_reducible refine twp_ret ?hb ?_); (case hb => exact fun _ _ => trivial))
    | simp only [go_sem, Nat.reduceAdd, Nat.reduceSub, Nat.reduceMul, Nat.reduceEqDiff, Nat.reduceLeDiff, Nat.reduceLT, Int.reduceEq, Int.reduceNe, Int.reduceLT, Int.reduceLE, Int.reduceAdd, Int.reduceSub, Int.reduceMul, Int.reduceNeg, Int.reduceToNat, Int.reduceTDiv, Int.reduceTMod, Int.reduceBEq, Int.reduceBNe, decide_true, decide_false, reduceCtorEq, reduceIte, P18, q18, q_shl, hsl, hpl, e2, e5]
    | simp (disch := omega) only [w64, w32, wu8, wu16, wu32, wu64]
    | ((with_reducible first | refine o_call (o1) ?he ?hc ?_ | refine p_call (o1) ?he ?hc ?_ | refine c_call (o1) ?he ?hc ?_); (case he | hc => first | rfl | (simp [D.erL, D.er, D.closedL, D.closed, heS, hcS, heP, hcP]; done)))
    | ((with_reducible first | refine o_call (o2) ?he ?hc ?_ | refine p_call (o2) ?he ?hc ?_ | refine c_call (o2) ?he ?hc ?_); (case he | hc => first | rfl | (simp [D.erL, D.er, D.closedL, D.closed, heS, hcS, heP, hcP]; done)))
    | ((with_reducible apply s_appT); (case he => rfl); (case hK | hc | hr | hV => first | rfl | assumption | omega | ((first | refine ⟨?_, ?_⟩ | skip) <;> first | omega | (simp only [lN1, lN2, lN3, lN4, lN5, lN6, lN7, heS, hcS, heP, hcP] <;> omega)) | (simp [elemsK, D.isVal, D.cells, D.closedL, D.closed, heS, hcS, heP, hcP]; first | done | omega)))
    | ((with_reducible apply s_appG); (case he => rfl); (case hV | hK | hr | hl => first | rfl | assumption | omega | ((first | refine ⟨?_, ?_⟩ | skip) <;> first | omega | (simp only [lN1, lN2, lN3, lN4, lN5, lN6, lN7, heS, hcS, heP, hcP] <;> omega)) | (simp [elemsK, D.isVal, D.cells, D.closedL, D.closed, heS, hcS, heP, hcP]; first | done | omega)))
    | ((with_reducible apply s_app0); (case he => rfl); (case hK | hc | hr => first | rfl | assumption | omega | ((first | refine ⟨?_, ?_⟩ | skip) <;> first | omega | (simp only [lN1, lN2, lN3, lN4, lN5, lN6, lN7, heS, hcS, heP, hcP] <;> omega)) | (simp [elemsK, D.isVal, D.cells, D.closedL, D.closed, heS, hcS, heP, hcP]; first | done | omega)))
    | ((with_reducible apply s_appF); (case he => rfl); (case hK | hc | hr | hx | hn => first | rfl | assumption | omega | ((first | refine ⟨?_, ?_⟩ | skip) <;> first | omega | (simp only [lN1, lN2, lN3, lN4, lN5, lN6, lN7, heS, hcS, heP, hcP] <;> omega)) | (simp [elemsK, D.isVal, D.cells, D.closedL, D.closed, heS, hcS, heP, hcP]; first | done | omega)))
    | ((with_reducible first | apply s_bsl | apply t_bsl); (case he | hl | hc => first | rfl | assumption | omega | ((first | refine ⟨?_, ?_⟩ | skip) <;> first | omega | (simp only [lN1, lN2, lN3, lN4, lN5, lN6, lN7, heS, hcS, heP, hcP] <;> omega)) | (simp [elemsK, D.isVal, D.cells, D.closedL, D.closed, heS, hcS, heP, hcP]; first | done | omega)))
    | with_reducible first | apply cd_dec | apply cd_eq | apply cd_ne | apply cd_split | apply gd_dec | apply gd_eq | apply gd_ne | apply gd_split | apply gq_dec | apply gq_eq | apply gq_ne | apply gq_split
    | ((with_reducible refine And.intro ?hw ?_); (case hw => first | omega | rfl | exact ⟨_, _, rfl⟩ | assumption | (simp only [lN1, lN2, lN3, lN4, lN5, lN6, lN7, heS, hcS, heP, hcP] <;> omega)))
    | with_reducible intro _)
    all_goals try omega
    refine ⟨_, fun _ => weak_refl, ?_⟩
    simp [go_sem, D.closed, D.er]
  case pos =>
  have e5 : decide (x.idx < 0) = false := decide_eq_false (by omega)
  have hw := shl_one (h := x.path.length) (by omega)
  have e4 : (2 : Int) ^ x.path.length = ((2 ^ x.path.length : Nat) : Int) := by simp
  by_cases q6 : x.idx < ((2 ^ x.path.length : Nat) : Int)
  case neg =>
    have hf : ver p m x = false := by unfold ver okS; rw [e4, decide_eq_false q6, Bool.and_false, Bool.false_and]
    rw [hf]
    have e6 : decide (((2 ^ x.path.length : Nat) : Int) ≤ x.idx) = true := decide_eq_true (by omega)
    generalize 2 ^ x.path.length = N at *
    generalize strs x.sig = S at *
    generalize strs x.path = P at *
    repeat' (first
    | with_reducible first | apply swp_seq | apply swp_reg | apply swp_regD | apply swp_block | apply swp_exit | apply swp_ret | apply swp_skip | apply swp_cd
    | with_reducible apply twp_seq
    | with_reducible apply twp_block
    | ((with_reducible refine twp_reg ?hb ?_); (case hb => exact fun _ _ => trivial); with_reducible intro _)
    | ((with_reducible refine twp_regD ?hb ?_); (case hb => exact fun _ _ => trivial); with_reducible intro _)
    | ((with_reducible refine twp_cond ?hb ?_); (case hb => exact fun _ _ => trivial); with_reducible intro _)
    | ((with_reducible refine twp_ret ?hb ?_); (case hb => exact fun _ _ => trivial))
    | simp only [go_sem, Nat.reduceAdd, Nat.reduceSub, Nat.reduceMul, Nat.reduceEqDiff, Nat.reduceLeDiff, Nat.reduceLT, Int.reduceEq, Int.reduceNe, Int.reduceLT, Int.reduceLE, Int.reduceAdd, Int.reduceSub, Int.reduceMul, Int.reduceNeg, Int.reduceToNat, Int.reduceTDiv, Int.reduceTMod, Int.reduceBEq, Int.reduceBNe, decide_true, decide_false, reduceCtorEq, reduceIte, P18, q18, q_shl, hsl, hpl, e2, e5, hw, e6]
    | simp (disch := omega) only [w64, w32, wu8, wu16, wu32, wu64]
    | ((with_reducible first | refine o_call (o1) ?he ?hc ?_ | refine p_call (o1) ?he ?hc ?_ | refine c_call (o1) ?he ?hc ?_); (case he | hc => first | rfl | (simp [D.erL, D.er, D.closedL, D.closed, heS, hcS, heP, hcP]; done)))
    | ((with_reducible first | refine o_call (o2) ?he ?hc ?_ | refine p_call (o2) ?he ?hc ?_ | refine c_call (o2) ?he ?hc ?_); (case he | hc => first | rfl | (simp [D.erL, D.er, D.closedL, D.closed, heS, hcS, heP, hcP]; done)))
    | ((with_reducible apply s_appT); (case he => rfl); (case hK | hc | hr | hV => first | rfl | assumption | omega | ((first | refine ⟨?_, ?_⟩ | skip) <;> first | omega | (simp only [lN1, lN2, lN3, lN4, lN5, lN6, lN7, heS, hcS, heP, hcP] <;> omega)) | (simp [elemsK, D.isVal, D.cells, D.closedL, D.closed, heS, hcS, heP, hcP]; first | done | omega)))
    | ((with_reducible apply s_appG); (case he => rfl); (case hV | hK | hr | hl => first | rfl | assumption | omega | ((first | refine ⟨?_, ?_⟩ | skip) <;> first | omega | (simp only [lN1, lN2, lN3, lN4, lN5, lN6, lN7, heS, hcS, heP, hcP] <;> omega)) | (simp [elemsK, D.isVal, D.cells, D.closedL, D.closed, heS, hcS, heP, hcP]; first | done | omega)))
    | ((with_reducible apply s_app0); (case he => rfl); (case hK | hc | hr => first | rfl | assumption | omega | ((first | refine ⟨?_, ?_⟩ | skip) <;> first | omega | (simp only [lN1, lN2, lN3, lN4, lN5, lN6, lN7, heS, hcS, heP, hcP] <;> omega)) | (simp [elemsK, D.isVal, D.cells, D.closedL, D.closed, heS, hcS, heP, hcP]; first | done | omega)))
    | ((with_reducible apply s_appF); (case he => rfl); (case hK | hc | hr | hx | hn => first | rfl | assumption | omega | ((first | refine ⟨?_, ?_⟩ | skip) <;> first | omega | (simp only [lN1, lN2, lN3, lN4, lN5, lN6, lN7, heS, hcS, heP, hcP] <;> omega)) | (simp [elemsK, D.isVal, D.cells, D.closedL, D.closed, heS, hcS, heP, hcP]; first | done | omega)))
    | ((with_reducible first | apply s_bsl | apply t_bsl); (case he | hl | hc => first | rfl | assumption | omega | ((first | refine ⟨?_, ?_⟩ | skip) <;> first | omega | (simp only [lN1, lN2, lN3, lN4, lN5, lN6, lN7, heS, hcS, heP, hcP] <;> omega)) | (simp [elemsK, D.isVal, D.cells, D.closedL, D.closed, heS, hcS, heP, hcP]; first | done | omega)))
    | with_reducible first | apply cd_dec | apply cd_eq | apply cd_ne | apply cd_split | apply gd_dec | apply gd_eq | apply gd_ne | apply gd_split | apply gq_dec | apply gq_eq | apply gq_ne | apply gq_split
    | ((with_reducible refine And.intro ?hw ?_); (case hw => first | omega | rfl | exact ⟨_, _, rfl⟩ | assumption | (simp only [lN1, lN2, lN3, lN4, lN5, lN6, lN7, heS, hcS, heP, hcP] <;> omega)))
    | with_reducible intro _)
    all_goals try omega
    refine ⟨_, fun _ => weak_refl, ?_⟩
    simp [go_sem, D.closed, D.er]
  case pos =>
  have e6 : decide (((2 ^ x.path.length : Nat) : Int) ≤ x.idx) = false := decide_eq_false (by omega)
  have hok : okS x = true := by
    unfold okS
    rw [e4]
    rw [q3, q4, decide_eq_true q1, decide_eq_true q2, decide_eq_true q5, decide_eq_true q6]
    rfl
  unfold ver
  rw [hok, Bool.true_and]
  have c1 := sdigits_p m
  have hit := digits_it m (by omega)
  have c3 := of_p (ends' m x.sig) (okL_ends' hx.sx)
  have hN : 2 ^ x.path.length ≤ 2 ^ 8 := Nat.pow_le_pow_right (by omega) (by omega)
  have h256 : (2 : Nat) ^ 8 = 256 := by decide
  generalize hN2 : 2 ^ x.path.length = N at *
  repeat' (first
    | with_reducible first | apply swp_seq | apply swp_reg | apply swp_regD | apply swp_block | apply swp_exit | apply swp_ret | apply swp_skip | apply swp_cd
    | with_reducible apply twp_seq
    | with_reducible apply twp_block
    | ((with_reducible refine twp_reg ?hb ?_); (case hb => exact fun _ _ => trivial); with_reducible intro _)
    | ((with_reducible refine twp_regD ?hb ?_); (case hb => exact fun _ _ => trivial); with_reducible intro _)
    | ((with_reducible refine twp_cond ?hb ?_); (case hb => exact fun _ _ => trivial); with_reducible intro _)
    | ((with_reducible refine twp_ret ?hb ?_); (case hb => exact fun _ _ => trivial))
    | simp only [go_sem, Nat.reduceAdd, Nat.reduceSub, Nat.reduceMul, Nat.reduceEqDiff, Nat.reduceLeDiff, Nat.reduceLT, Int.reduceEq, Int.reduceNe, Int.reduceLT, Int.reduceLE, Int.reduceAdd, Int.reduceSub, Int.reduceMul, Int.reduceNeg, Int.reduceToNat, Int.reduceTDiv, Int.reduceTMod, Int.reduceBEq, Int.reduceBNe, decide_true, decide_false, reduceCtorEq, reduceIte, P18, q18, q_shl, hsl, hpl, e2, e5, hw, e6]
    | simp (disch := omega) only [w64, w32, wu8, wu16, wu32, wu64]
    | ((with_reducible first | refine o_call (o1) ?he ?hc ?_ | refine p_call (o1) ?he ?hc ?_ | refine c_call (o1) ?he ?hc ?_); (case he | hc => first | rfl | (simp [D.erL, D.er, D.closedL, D.closed, heS, hcS, heP, hcP]; done)))
    | ((with_reducible first | refine o_call (o2) ?he ?hc ?_ | refine p_call (o2) ?he ?hc ?_ | refine c_call (o2) ?he ?hc ?_); (case he | hc => first | rfl | (simp [D.erL, D.er, D.closedL, D.closed, heS, hcS, heP, hcP]; done)))
    | ((with_reducible first | refine o_call (c1) ?he ?hc ?_ | refine p_call (c1) ?he ?hc ?_ | refine c_call (c1) ?he ?hc ?_); (case he | hc => first | rfl | (simp [D.erL, D.er, D.closedL, D.closed, heS, hcS, heP, hcP]; done)))
    | ((with_reducible apply s_appT); (case he => rfl); (case hK | hc | hr | hV => first | rfl | assumption | omega | ((first | refine ⟨?_, ?_⟩ | skip) <;> first | omega | (simp only [lN1, lN2, lN3, lN4, lN5, lN6, lN7, heS, hcS, heP, hcP] <;> omega)) | (simp [elemsK, D.isVal, D.cells, D.closedL, D.closed, heS, hcS, heP, hcP]; first | done | omega)))
    | ((with_reducible apply s_appG); (case he => rfl); (case hV | hK | hr | hl => first | rfl | assumption | omega | ((first | refine ⟨?_, ?_⟩ | skip) <;> first | omega | (simp only [lN1, lN2, lN3, lN4, lN5, lN6, lN7, heS, hcS, heP, hcP] <;> omega)) | (simp [elemsK, D.isVal, D.cells, D.closedL, D.closed, heS, hcS, heP, hcP]; first | done | omega)))
    | ((with_reducible apply s_app0); (case he => rfl); (case hK | hc | hr => first | rfl | assumption | omega | ((first | refine ⟨?_, ?_⟩ | skip) <;> first | omega | (simp only [lN1, lN2, lN3, lN4, lN5, lN6, lN7, heS, hcS, heP, hcP] <;> omega)) | (simp [elemsK, D.isVal, D.cells, D.closedL, D.closed, heS, hcS, heP, hcP]; first | done | omega)))
    | ((with_reducible apply s_appF); (case he => rfl); (case hK | hc | hr | hx | hn => first | rfl | assumption | omega | ((first | refine ⟨?_, ?_⟩ | skip) <;> first | omega | (simp only [lN1, lN2, lN3, lN4, lN5, lN6, lN7, heS, hcS, heP, hcP] <;> omega)) | (simp [elemsK, D.isVal, D.cells, D.closedL, D.closed, heS, hcS, heP, hcP]; first | done | omega)))
    | ((with_reducible first | apply s_bsl | apply t_bsl); (case he | hl | hc => first | rfl | assumption | omega | ((first | refine ⟨?_, ?_⟩ | skip) <;> first | omega | (simp only [lN1, lN2, lN3, lN4, lN5, lN6, lN7, heS, hcS, heP, hcP] <;> omega)) | (simp [elemsK, D.isVal, D.cells, D.closedL, D.closed, heS, hcS, heP, hcP]; first | done | omega)))
    | with_reducible first | apply cd_dec | apply cd_eq | apply cd_ne | apply cd_split | apply gd_dec | apply gd_eq | apply gd_ne | apply gd_split | apply gq_dec | apply gq_eq | apply gq_ne | apply gq_split
    | ((with_reducible refine And.intro ?hw ?_); (case hw => first | omega | rfl | exact ⟨_, _, rfl⟩ | assumption | (simp only [lN1, lN2, lN3, lN4, lN5, lN6, lN7, heS, hcS, heP, hcP] <;> omega)))
    | with_reducible intro _)
  all_goals try omega
  obtain ⟨j, hj⟩ : ∃ j : Nat, x.idx = j := ⟨x.idx.toNat, by omega⟩
  have hj8 : j < 256 := by omega
  have e7 : x.idx.toNat = j := by omega
  rw [e7]
  refine twp_weak (fun _ => weak_newC 1 0 1 (by decide) rfl rfl) (show TWp C18 0 0 _ _ ⟨[.str p, .str m, sealD x, .ptr 0 0, .bool false, .int .i64 (x.path.length : Nat), .fn (.func 38) [] [], .ptr 1 0, .undef, .undef, .undef, .undef, .undef, .bool false, .fn (.func 56) [] [.ip [.str m]], .undef, .undef, .undef, .undef, .undef, .undef], [], hpV x m 0⟩ from ?_)
  refine twp_range (fun _ _ => trivial) hit (hpV x m) rfl ?_ rfl ?_ ?_
  · intro r hr
    obtain ⟨k, _, rfl⟩ := List.mem_map.1 hr
    rfl
  · intro k r hk
    have hlt : k < 18 := by rw [← drows_len m]; exact (List.getElem?_eq_some_iff.1 hk).1
    rw [drows_get hlt] at hk
    cases hk
    have hd := dgt_get m k
    have c6 := chain_p (x.sig.getD k []) (15 - (dgt m).getD k 0) (by have := get_small (i := k) hx.sx; omega) (by omega)
    have hg := strs_get (l := x.sig) (i := k) (by omega)
    have hss := endsV_succ m x.sig k
    have hvl := endsV_len m x.sig k
    have t1 : ((k : Nat) : Int).toNat = k := Int.toNat_natCast k
    have t2 : (15 : Int) - (((dgt m).getD k 0 : Nat) : Int) = ((15 - (dgt m).getD k 0 : Nat) : Int) := by omega
    simp only [hpV, hss]
    generalize chn (15 - (dgt m).getD k 0) (x.sig.getD k []) = z at *
    generalize x.sig.getD k [] = g at *
    generalize hD2 : 15 - (dgt m).getD k 0 = e at *
    generalize (dgt m).getD k 0 = d at *
    generalize endsV m x.sig k = T at *
    generalize strs x.sig = S at *
    generalize strs x.path = P at *
    have hT := strs_len T
    have hs2 : strs (T ++ [z]) = strs T ++ [.str z] := by simp
    rw [hs2]
    simp only [GoV.binds]
    repeat' (first
    | with_reducible first | apply swp_seq | apply swp_reg | apply swp_regD | apply swp_block | apply swp_exit | apply swp_ret | apply swp_skip | apply swp_cd
    | with_reducible apply twp_seq
    | with_reducible apply twp_block
    | ((with_reducible refine twp_reg ?hb ?_); (case hb => exact fun _ _ => trivial); with_reducible intro _)
    | ((with_reducible refine twp_regD ?hb ?_); (case hb => exact fun _ _ => trivial); with_reducible intro _)
    | ((with_reducible refine twp_cond ?hb ?_); (case hb => exact fun _ _ => trivial); with_reducible intro _)
    | ((with_reducible refine twp_ret ?hb ?_); (case hb => exact fun _ _ => trivial))
    | simp only [go_sem, Nat.reduceAdd, Nat.reduceSub, Nat.reduceMul, Nat.reduceEqDiff, Nat.reduceLeDiff, Nat.reduceLT, Int.reduceEq, Int.reduceNe, Int.reduceLT, Int.reduceLE, Int.reduceAdd, Int.reduceSub, Int.reduceMul, Int.reduceNeg, Int.reduceToNat, Int.reduceTDiv, Int.reduceTMod, Int.reduceBEq, Int.reduceBNe, decide_true, decide_false, reduceCtorEq, reduceIte, P18, q18, t1, hg, hsl, t2]
    | simp (disch := omega) only [w64, w32, wu8, wu16, wu32, wu64]
    | ((with_reducible first | refine o_call (c6) ?he ?hc ?_ | refine p_call (c6) ?he ?hc ?_ | refine c_call (c6) ?he ?hc ?_); (case he | hc => first | rfl | (simp [D.erL, D.er, D.closedL, D.closed, hT, hvl, hsl]; done)))
    | ((with_reducible apply s_appT); (case he => rfl); (case hK | hc | hr | hV => first | rfl | assumption | omega | ((first | refine ⟨?_, ?_⟩ | skip) <;> first | omega | (simp only [lN1, lN2, lN3, lN4, lN5, lN6, lN7, hT, hvl, hsl] <;> omega)) | (simp [elemsK, D.isVal, D.cells, D.closedL, D.closed, hT, hvl, hsl]; first | done | omega)))
    | ((with_reducible apply s_appG); (case he => rfl); (case hV | hK | hr | hl => first | rfl | assumption | omega | ((first | refine ⟨?_, ?_⟩ | skip) <;> first | omega | (simp only [lN1, lN2, lN3, lN4, lN5, lN6, lN7, hT, hvl, hsl] <;> omega)) | (simp [elemsK, D.isVal, D.cells, D.closedL, D.closed, hT, hvl, hsl]; first | done | omega)))
    | ((with_reducible apply s_app0); (case he => rfl); (case hK | hc | hr => first | rfl | assumption | omega | ((first | refine ⟨?_, ?_⟩ | skip) <;> first | omega | (simp only [lN1, lN2, lN3, lN4, lN5, lN6, lN7, hT, hvl, hsl] <;> omega)) | (simp [elemsK, D.isVal, D.cells, D.closedL, D.closed, hT, hvl, hsl]; first | done | omega)))
    | ((with_reducible apply s_appF); (case he => rfl); (case hK | hc | hr | hx | hn => first | rfl | assumption | omega | ((first | refine ⟨?_, ?_⟩ | skip) <;> first | omega | (simp only [lN1, lN2, lN3, lN4, lN5, lN6, lN7, hT, hvl, hsl] <;> omega)) | (simp [elemsK, D.isVal, D.cells, D.closedL, D.closed, hT, hvl, hsl]; first | done | omega)))
    | ((with_reducible first | apply s_bsl | apply t_bsl); (case he | hl | hc => first | rfl | assumption | omega | ((first | refine ⟨?_, ?_⟩ | skip) <;> first | omega | (simp only [lN1, lN2, lN3, lN4, lN5, lN6, lN7, hT, hvl, hsl] <;> omega)) | (simp [elemsK, D.isVal, D.cells, D.closedL, D.closed, hT, hvl, hsl]; first | done | omega)))
    | with_reducible first | apply cd_dec | apply cd_eq | apply cd_ne | apply cd_split | apply gd_dec | apply gd_eq | apply gd_ne | apply gd_split | apply gq_dec | apply gq_eq | apply gq_ne | apply gq_split
    | ((with_reducible refine And.intro ?hw ?_); (case hw => first | omega | rfl | exact ⟨_, _, rfl⟩ | assumption | (simp only [lN1, lN2, lN3, lN4, lN5, lN6, lN7, hT, hvl, hsl] <;> omega)))
    | with_reducible intro _)
    all_goals try omega
    exact ⟨_, weak_refl, by simp [hT, hvl]⟩
  · rw [drows_len]
    have hh : hpV x m 18 = ⟨[.cells [.int .i64 x.idx, .slice (strs x.sig) .no, .slice (strs x.path) .no], .cells [.slice (strs (ends' m x.sig)) (.tok 0)]], [.per 1 18]⟩ := rfl
    rw [hh]
    have hcE := closed_strs (ends' m x.sig)
    have heE := erL_strs (ends' m x.sig)
    have ha := sumN_len (joined (ends' m x.sig))
    generalize sumN (joined (ends' m x.sig)) = a at *
    generalize ends' m x.sig = T at *
    repeat' (first
    | with_reducible first | apply swp_seq | apply swp_reg | apply swp_regD | apply swp_block | apply swp_exit | apply swp_ret | apply swp_skip | apply swp_cd
    | with_reducible apply twp_seq
    | with_reducible apply twp_block
    | ((with_reducible refine twp_reg ?hb ?_); (case hb => exact fun _ _ => trivial); with_reducible intro _)
    | ((with_reducible refine twp_regD ?hb ?_); (case hb => exact fun _ _ => trivial); with_reducible intro _)
    | ((with_reducible refine twp_cond ?hb ?_); (case hb => exact fun _ _ => trivial); with_reducible intro _)
    | ((with_reducible refine twp_ret ?hb ?_); (case hb => exact fun _ _ => trivial))
    | simp only [go_sem, Nat.reduceAdd, Nat.reduceSub, Nat.reduceMul, Nat.reduceEqDiff, Nat.reduceLeDiff, Nat.reduceLT, Int.reduceEq, Int.reduceNe, Int.reduceLT, Int.reduceLE, Int.reduceAdd, Int.reduceSub, Int.reduceMul, Int.reduceNeg, Int.reduceToNat, Int.reduceTDiv, Int.reduceTMod, Int.reduceBEq, Int.reduceBNe, decide_true, decide_false, reduceCtorEq, reduceIte, P18, q18, hpl]
    | simp (disch := omega) only [w64, w32, wu8, wu16, wu32, wu64]
    | ((with_reducible first | refine o_call (c3) ?he ?hc ?_ | refine p_call (c3) ?he ?hc ?_ | refine c_call (c3) ?he ?hc ?_); (case he | hc => first | rfl | (simp [D.erL, D.er, D.closedL, D.closed, heE, hcE]; done)))
    | ((with_reducible apply s_appT); (case he => rfl); (case hK | hc | hr | hV => first | rfl | assumption | omega | ((first | refine ⟨?_, ?_⟩ | skip) <;> first | omega | (simp only [lN1, lN2, lN3, lN4, lN5, lN6, lN7, heE, hcE] <;> omega)) | (simp [elemsK, D.isVal, D.cells, D.closedL, D.closed, heE, hcE]; first | done | omega)))
    | ((with_reducible apply s_appG); (case he => rfl); (case hV | hK | hr | hl => first | rfl | assumption | omega | ((first | refine ⟨?_, ?_⟩ | skip) <;> first | omega | (simp only [lN1, lN2, lN3, lN4, lN5, lN6, lN7, heE, hcE] <;> omega)) | (simp [elemsK, D.isVal, D.cells, D.closedL, D.closed, heE, hcE]; first | done | omega)))
    | ((with_reducible apply s_app0); (case he => rfl); (case hK | hc | hr => first | rfl | assumption | omega | ((first | refine ⟨?_, ?_⟩ | skip) <;> first | omega | (simp only [lN1, lN2, lN3, lN4, lN5, lN6, lN7, heE, hcE] <;> omega)) | (simp [elemsK, D.isVal, D.cells, D.closedL, D.closed, heE, hcE]; first | done | omega)))
    | ((with_reducible apply s_appF); (case he => rfl); (case hK | hc | hr | hx | hn => first | rfl | assumption | omega | ((first | refine ⟨?_, ?_⟩ | skip) <;> first | omega | (simp only [lN1, lN2, lN3, lN4, lN5, lN6, lN7, heE, hcE] <;> omega)) | (simp [elemsK, D.isVal, D.cells, D.closedL, D.closed, heE, hcE]; first | done | omega)))
    | ((with_reducible first | apply s_bsl | apply t_bsl); (case he | hl | hc => first | rfl | assumption | omega | ((first | refine ⟨?_, ?_⟩ | skip) <;> first | omega | (simp only [lN1, lN2, lN3, lN4, lN5, lN6, lN7, heE, hcE] <;> omega)) | (simp [elemsK, D.isVal, D.cells, D.closedL, D.closed, heE, hcE]; first | done | omega)))
    | with_reducible first | apply cd_dec | apply cd_eq | apply cd_ne | apply cd_split | apply gd_dec | apply gd_eq | apply gd_ne | apply gd_split | apply gq_dec | apply gq_eq | apply gq_ne | apply gq_split
    | ((with_reducible refine And.intro ?hw ?_); (case hw => first | omega | rfl | exact ⟨_, _, rfl⟩ | assumption | (simp only [lN1, lN2, lN3, lN4, lN5, lN6, lN7, heE, hcE] <;> omega)))
    | with_reducible intro _)
    all_goals try omega
    refine twp_of (fun _ _ => trivial) fun ds => ?_
    refine swp_fam [0, 1, 2, 3, 4, 17, 18, 19, 10] (fun k : Nat => ⟨[.str p, .str m, sealD x, .ptr 0 0, .bool false, .undef, .undef, .undef, .undef, .undef, .str (climb a (x.path.take k) j), .undef, .undef, .undef, .undef, .undef, .undef, .slice (strs x.path) .no, .int .i64 (x.path.length : Nat), .int .i64 (k : Nat), .undef], [],
        ⟨[.cells [.int .i64 x.idx, .slice (strs x.sig) .no, .slice (strs x.path) .no], .cells [.slice (strs T) (.tok 0)]], [.per 1 18]⟩⟩)
      (fun k => k ≤ x.path.length) (fun k => x.path.length - k) 0 (by omega) ?_ ?_
    · simp [keepE, St.keep, climb, hpl]
    · intro k hk
      rw [hj]
      by_cases hlt : k < x.path.length
      · have hcl := climb_len (p := x.path.take k) (i := j) ha
        have htk : x.path.take (k + 1) = x.path.take k ++ [x.path.getD k []] := by
          rw [List.take_succ_eq_append_getElem hlt]; simp [List.getD, hlt]
        have hsn := climb_snoc (x.path.take k) a (x.path.getD k []) j
        rw [← htk] at hsn
        have htl : (x.path.take k).length = k := by rw [List.length_take]; omega
        rw [htl] at hsn
        have c7 := node_p (climb a (x.path.take k) j) (x.path.getD k []) ((j / 2 ^ k) % 2 == 1) (by omega) (get_small hx.px)
        rw [← hsn] at c7
        have hg := strs_get (l := x.path) hlt
        have hs := shr_nat (j := j) (k := k) (by omega)
        have hja : j / 2 ^ k < 256 := Nat.lt_of_le_of_lt (Nat.div_le_self _ _) hj8
        have hb : bitsV .and .i64 ((j / 2 ^ k : Nat) : Int) 1 = _ := and_one hja
        have hbb : ((((j / 2 ^ k) % 2 : Nat) : Int) == 1) = ((j / 2 ^ k) % 2 == 1) := by
          generalize (j / 2 ^ k) % 2 = w
          by_cases hw : w = 1
          · subst hw; rfl
          · have h1 : ((w : Int) == 1) = false := by simp; omega
            have h2 : (w == 1) = false := by simp [hw]
            rw [h1, h2]
        have t1 : ((k : Nat) : Int).toNat = k := Int.toNat_natCast k
        generalize hz : climb a (x.path.take (k + 1)) j = z at *
        generalize climb a (x.path.take k) j = y at *
        generalize ((j / 2 ^ k) % 2 == 1) = bb at *
        generalize (j / 2 ^ k) % 2 = w at *
        generalize j / 2 ^ k = v at *
        generalize x.path.getD k [] = o at *
        generalize strs x.sig = S at *
        generalize strs x.path = P at *
        repeat' (first
    | with_reducible first | apply swp_seq | apply swp_reg | apply swp_regD | apply swp_block | apply swp_exit | apply swp_ret | apply swp_skip | apply swp_cd
    | with_reducible apply twp_seq
    | with_reducible apply twp_block
    | ((with_reducible refine twp_reg ?hb ?_); (case hb => exact fun _ _ => trivial); with_reducible intro _)
    | ((with_reducible refine twp_regD ?hb ?_); (case hb => exact fun _ _ => trivial); with_reducible intro _)
    | ((with_reducible refine twp_cond ?hb ?_); (case hb => exact fun _ _ => trivial); with_reducible intro _)
    | ((with_reducible refine twp_ret ?hb ?_); (case hb => exact fun _ _ => trivial))
    | simp only [go_sem, Nat.reduceAdd, Nat.reduceSub, Nat.reduceMul, Nat.reduceEqDiff, Nat.reduceLeDiff, Nat.reduceLT, Int.reduceEq, Int.reduceNe, Int.reduceLT, Int.reduceLE, Int.reduceAdd, Int.reduceSub, Int.reduceMul, Int.reduceNeg, Int.reduceToNat, Int.reduceTDiv, Int.reduceTMod, Int.reduceBEq, Int.reduceBNe, decide_true, decide_false, reduceCtorEq, reduceIte, P18, q18, hpl, t1, hg, hs, hb, hbb]
    | simp (disch := omega) only [w64, w32, wu8, wu16, wu32, wu64]
    | ((with_reducible first | refine o_call (c7) ?he ?hc ?_ | refine p_call (c7) ?he ?hc ?_ | refine c_call (c7) ?he ?hc ?_); (case he | hc => first | rfl | (simp [D.erL, D.er, D.closedL, D.closed, hpl]; done)))
    | ((with_reducible apply s_appT); (case he => rfl); (case hK | hc | hr | hV => first | rfl | assumption | omega | ((first | refine ⟨?_, ?_⟩ | skip) <;> first | omega | (simp only [lN1, lN2, lN3, lN4, lN5, lN6, lN7, hpl] <;> omega)) | (simp [elemsK, D.isVal, D.cells, D.closedL, D.closed, hpl]; first | done | omega)))
    | ((with_reducible apply s_appG); (case he => rfl); (case hV | hK | hr | hl => first | rfl | assumption | omega | ((first | refine ⟨?_, ?_⟩ | skip) <;> first | omega | (simp only [lN1, lN2, lN3, lN4, lN5, lN6, lN7, hpl] <;> omega)) | (simp [elemsK, D.isVal, D.cells, D.closedL, D.closed, hpl]; first | done | omega)))
    | ((with_reducible apply s_app0); (case he => rfl); (case hK | hc | hr => first | rfl | assumption | omega | ((first | refine ⟨?_, ?_⟩ | skip) <;> first | omega | (simp only [lN1, lN2, lN3, lN4, lN5, lN6, lN7, hpl] <;> omega)) | (simp [elemsK, D.isVal, D.cells, D.closedL, D.closed, hpl]; first | done | omega)))
    | ((with_reducible apply s_appF); (case he => rfl); (case hK | hc | hr | hx | hn => first | rfl | assumption | omega | ((first | refine ⟨?_, ?_⟩ | skip) <;> first | omega | (simp only [lN1, lN2, lN3, lN4, lN5, lN6, lN7, hpl] <;> omega)) | (simp [elemsK, D.isVal, D.cells, D.closedL, D.closed, hpl]; first | done | omega)))
    | ((with_reducible first | apply s_bsl | apply t_bsl); (case he | hl | hc => first | rfl | assumption | omega | ((first | refine ⟨?_, ?_⟩ | skip) <;> first | omega | (simp only [lN1, lN2, lN3, lN4, lN5, lN6, lN7, hpl] <;> omega)) | (simp [elemsK, D.isVal, D.cells, D.closedL, D.closed, hpl]; first | done | omega)))
    | with_reducible first | apply cd_dec | apply cd_eq | apply cd_ne | apply cd_split | apply gd_dec | apply gd_eq | apply gd_ne | apply gd_split | apply gq_dec | apply gq_eq | apply gq_ne | apply gq_split
    | ((with_reducible refine And.intro ?hw ?_); (case hw => first | omega | rfl | exact ⟨_, _, rfl⟩ | assumption | (simp only [lN1, lN2, lN3, lN4, lN5, lN6, lN7, hpl] <;> omega)))
    | with_reducible intro _)
        all_goals try omega
        refine ⟨k + 1, by omega, by omega, ?_⟩
        rw [hz]
        simp [keepE, St.keep]
      · have e : k = x.path.length := by omega
        subst e
        rw [List.take_length]
        generalize strs x.sig = S at *
        generalize strs x.path = P at *
        generalize climb a x.path j = y at *
        repeat' (first
    | with_reducible first | apply swp_seq | apply swp_reg | apply swp_regD | apply swp_block | apply swp_exit | apply swp_ret | apply swp_skip | apply swp_cd
    | with_reducible apply twp_seq
    | with_reducible apply twp_block
    | ((with_reducible refine twp_reg ?hb ?_); (case hb => exact fun _ _ => trivial); with_reducible intro _)
    | ((with_reducible refine twp_regD ?hb ?_); (case hb => exact fun _ _ => trivial); with_reducible intro _)
    | ((with_reducible refine twp_cond ?hb ?_); (case hb => exact fun _ _ => trivial); with_reducible intro _)
    | ((with_reducible refine twp_ret ?hb ?_); (case hb => exact fun _ _ => trivial))
    | simp only [go_sem, Nat.reduceAdd, Nat.reduceSub, Nat.reduceMul, Nat.reduceEqDiff, Nat.reduceLeDiff, Nat.reduceLT, Int.reduceEq, Int.reduceNe, Int.reduceLT, Int.reduceLE, Int.reduceAdd, Int.reduceSub, Int.reduceMul, Int.reduceNeg, Int.reduceToNat, Int.reduceTDiv, Int.reduceTMod, Int.reduceBEq, Int.reduceBNe, decide_true, decide_false, reduceCtorEq, reduceIte, P18, q18, hpl]
    | simp (disch := omega) only [w64, w32, wu8, wu16, wu32, wu64]
    | ((with_reducible apply s_appT); (case he => rfl); (case hK | hc | hr | hV => first | rfl | assumption | omega | ((first | refine ⟨?_, ?_⟩ | skip) <;> first | omega | (simp only [lN1, lN2, lN3, lN4, lN5, lN6, lN7, hpl] <;> omega)) | (simp [elemsK, D.isVal, D.cells, D.closedL, D.closed, hpl]; first | done | omega)))
    | ((with_reducible apply s_appG); (case he => rfl); (case hV | hK | hr | hl => first | rfl | assumption | omega | ((first | refine ⟨?_, ?_⟩ | skip) <;> first | omega | (simp only [lN1, lN2, lN3, lN4, lN5, lN6, lN7, hpl] <;> omega)) | (simp [elemsK, D.isVal, D.cells, D.closedL, D.closed, hpl]; first | done | omega)))
    | ((with_reducible apply s_app0); (case he => rfl); (case hK | hc | hr => first | rfl | assumption | omega | ((first | refine ⟨?_, ?_⟩ | skip) <;> first | omega | (simp only [lN1, lN2, lN3, lN4, lN5, lN6, lN7, hpl] <;> omega)) | (simp [elemsK, D.isVal, D.cells, D.closedL, D.closed, hpl]; first | done | omega)))
    | ((with_reducible apply s_appF); (case he => rfl); (case hK | hc | hr | hx | hn => first | rfl | assumption | omega | ((first | refine ⟨?_, ?_⟩ | skip) <;> first | omega | (simp only [lN1, lN2, lN3, lN4, lN5, lN6, lN7, hpl] <;> omega)) | (simp [elemsK, D.isVal, D.cells, D.closedL, D.closed, hpl]; first | done | omega)))
    | ((with_reducible first | apply s_bsl | apply t_bsl); (case he | hl | hc => first | rfl | assumption | omega | ((first | refine ⟨?_, ?_⟩ | skip) <;> first | omega | (simp only [lN1, lN2, lN3, lN4, lN5, lN6, lN7, hpl] <;> omega)) | (simp [elemsK, D.isVal, D.cells, D.closedL, D.closed, hpl]; first | done | omega)))
    | with_reducible first | apply cd_dec | apply cd_eq | apply cd_ne | apply cd_split | apply gd_dec | apply gd_eq | apply gd_ne | apply gd_split | apply gq_dec | apply gq_eq | apply gq_ne | apply gq_split
    | ((with_reducible refine And.intro ?hw ?_); (case hw => first | omega | rfl | exact ⟨_, _, rfl⟩ | assumption | (simp only [lN1, lN2, lN3, lN4, lN5, lN6, lN7, hpl] <;> omega)))
    | with_reducible intro _)
        all_goals try omega
        refine ⟨_, fun _ => weak_refl, ?_⟩
        simp [go_sem, D.closed, D.er]
end Go.Proofs.YtgjkhlnpplajjaaDoor
end
section
set_option maxRecDepth 100000
set_option linter.unusedSimpArgs false
set_option linter.unusedVariables false
namespace Go.Proofs.YtgjkhlnpplajjaaDoor
open Go GoV Go.RowKit
end Go.Proofs.YtgjkhlnpplajjaaDoor
end
section
set_option maxRecDepth 100000
set_option linter.unusedSimpArgs false
set_option linter.unusedVariables false
namespace Go.Proofs.YtgjkhlnpplajjaaDoor
open Go GoV Go.RowKit
def sameS (a b : Seal) : Bool := decide (a.idx = b.idx) && (decide (a.sig = b.sig) && decide (a.path = b.path))
theorem ssame_p (a b : Seal) (h1 : a.sig.length ≤ 4611686018427387904) (h2 : a.path.length ≤ 4611686018427387904) : Pur M 17 [sealD a, sealD b] (.bool (sameS a b)) := by
  refine ok17 rfl ?_
  rw [i17]
  unfold c17 sealD sameS
  have c1 := same_p a.sig b.sig h1
  have c2 := same_p a.path b.path h2
  have k1 := closed_strs a.sig
  have k2 := closed_strs b.sig
  have k3 := closed_strs a.path
  have k4 := closed_strs b.path
  have k5 := erL_strs a.sig
  have k6 := erL_strs b.sig
  have k7 := erL_strs a.path
  have k8 := erL_strs b.path
  generalize decide (a.sig = b.sig) = x at *
  generalize decide (a.path = b.path) = y at *
  generalize strs a.sig = A at *
  generalize strs b.sig = B at *
  generalize strs a.path = A' at *
  generalize strs b.path = B' at *
  by_cases e : a.idx = b.idx
  · have e1 : (a.idx == b.idx) = true := by simp [e]
    rw [decide_eq_true e, Bool.true_and]
    cases x <;> cases y <;>
    · repeat' (first
    | with_reducible first | apply swp_seq | apply swp_reg | apply swp_regD | apply swp_block | apply swp_exit | apply swp_ret | apply swp_skip | apply swp_cd
    | simp only [go_sem, Nat.reduceAdd, Nat.reduceSub, Nat.reduceMul, Nat.reduceEqDiff, Nat.reduceLeDiff, Nat.reduceLT, Int.reduceEq, Int.reduceNe, Int.reduceLT, Int.reduceLE, Int.reduceAdd, Int.reduceSub, Int.reduceMul, Int.reduceNeg, Int.reduceToNat, Int.reduceTDiv, Int.reduceTMod, Int.reduceBEq, Int.reduceBNe, decide_true, decide_false, reduceCtorEq, reduceIte, P17, q17, e1]
    | simp (disch := omega) only [w64, w32, wu8, wu16, wu32, wu64]
    | ((with_reducible refine o_call (c1) ?he ?hc ?_); (case he | hc => first | rfl | (simp [D.erL, D.er, D.closedL, D.closed, k1, k2, k3, k4, k5, k6, k7, k8]; done)))
    | ((with_reducible refine o_call (c2) ?he ?hc ?_); (case he | hc => first | rfl | (simp [D.erL, D.er, D.closedL, D.closed, k1, k2, k3, k4, k5, k6, k7, k8]; done)))
    | with_reducible first | apply cd_dec | apply cd_eq | apply cd_ne | apply cd_split | apply gd_dec | apply gd_eq | apply gd_ne | apply gd_split
    | ((with_reducible refine And.intro ?hw ?_); (case hw => first | omega | rfl | exact ⟨_, _, rfl⟩ | assumption | (simp only [lN1, lN2, lN3, lN4, lN5, lN6, lN7, k1, k2, k3, k4, k5, k6, k7, k8] <;> omega)))
    | with_reducible intro _)
      all_goals first
        | omega
        | (simp [D.closed, D.er]; done)
  · have e1 : (a.idx == b.idx) = false := by simp [e]
    rw [decide_eq_false e, Bool.false_and]
    repeat' (first
    | with_reducible first | apply swp_seq | apply swp_reg | apply swp_regD | apply swp_block | apply swp_exit | apply swp_ret | apply swp_skip | apply swp_cd
    | simp only [go_sem, Nat.reduceAdd, Nat.reduceSub, Nat.reduceMul, Nat.reduceEqDiff, Nat.reduceLeDiff, Nat.reduceLT, Int.reduceEq, Int.reduceNe, Int.reduceLT, Int.reduceLE, Int.reduceAdd, Int.reduceSub, Int.reduceMul, Int.reduceNeg, Int.reduceToNat, Int.reduceTDiv, Int.reduceTMod, Int.reduceBEq, Int.reduceBNe, decide_true, decide_false, reduceCtorEq, reduceIte, P17, q17, e1]
    | simp (disch := omega) only [w64, w32, wu8, wu16, wu32, wu64]
    | ((with_reducible refine o_call (c1) ?he ?hc ?_); (case he | hc => first | rfl | (simp [D.erL, D.er, D.closedL, D.closed, k1, k2, k3, k4, k5, k6, k7, k8]; done)))
    | ((with_reducible refine o_call (c2) ?he ?hc ?_); (case he | hc => first | rfl | (simp [D.erL, D.er, D.closedL, D.closed, k1, k2, k3, k4, k5, k6, k7, k8]; done)))
    | with_reducible first | apply cd_dec | apply cd_eq | apply cd_ne | apply cd_split | apply gd_dec | apply gd_eq | apply gd_ne | apply gd_split
    | ((with_reducible refine And.intro ?hw ?_); (case hw => first | omega | rfl | exact ⟨_, _, rfl⟩ | assumption | (simp only [lN1, lN2, lN3, lN4, lN5, lN6, lN7, k1, k2, k3, k4, k5, k6, k7, k8] <;> omega)))
    | with_reducible intro _)
    all_goals first
      | omega
      | (simp [D.closed, D.er]; done)
end Go.Proofs.YtgjkhlnpplajjaaDoor
end
section
set_option maxRecDepth 100000
set_option linter.unusedSimpArgs false
set_option linter.unusedVariables false
namespace Go.Proofs.YtgjkhlnpplajjaaDoor
open Go GoV Go.RowKit
def h100 (l : List (List UInt8)) : Bool := l.all fun t => decide (t.length ≤ 100)
def fewB (x : Seal) : Bool := h100 x.sig && (h100 x.path && (decide (x.sig.length ≤ 30) && decide (x.path.length ≤ 30)))
theorem h100_take {l : List (List UInt8)} {k : Nat} (h : k < l.length) (h1 : h100 (l.take k) = true) (h2 : (l.getD k []).length ≤ 100) : h100 (l.take (k + 1)) = true := by
  have htk : l.take (k + 1) = l.take k ++ [l.getD k []] := by
    rw [List.take_succ_eq_append_getElem h]; simp [List.getD, h]
  unfold h100 at *
  rw [htk, List.all_append, h1, List.all_cons, decide_eq_true h2]
  rfl
theorem h100_not {l : List (List UInt8)} {k : Nat} (h : k < l.length) (h2 : ¬(l.getD k []).length ≤ 100) : h100 l = false := by
  unfold h100
  rw [List.all_eq_false]
  refine ⟨l.getD k [], by simp [List.getD, h], fun q => h2 (of_decide_eq_true q)⟩
set_option maxHeartbeats 2000000 in
theorem few_p (x : Seal) : Pur M 12 [sealD x] (.bool (fewB x)) := by
  refine ok12 rfl ?_
  rw [i12]
  unfold c12 sealD
  have hsl := strs_len x.sig
  have hpl := strs_len x.path
  repeat' (first
    | with_reducible first | apply swp_seq | apply swp_reg | apply swp_regD | apply swp_block | apply swp_exit | apply swp_ret | apply swp_skip | apply swp_cd
    | simp only [go_sem, Nat.reduceAdd, Nat.reduceSub, Nat.reduceMul, Nat.reduceEqDiff, Nat.reduceLeDiff, Nat.reduceLT, Int.reduceEq, Int.reduceNe, Int.reduceLT, Int.reduceLE, Int.reduceAdd, Int.reduceSub, Int.reduceMul, Int.reduceNeg, Int.reduceToNat, Int.reduceTDiv, Int.reduceTMod, Int.reduceBEq, Int.reduceBNe, decide_true, decide_false, reduceCtorEq, reduceIte, P12, q12]
    | simp (disch := omega) only [w64, w32, wu8, wu16, wu32, wu64]
    | with_reducible first | apply cd_dec | apply cd_eq | apply cd_ne | apply cd_split | apply gd_dec | apply gd_eq | apply gd_ne | apply gd_split
    | ((with_reducible refine And.intro ?hw ?_); (case hw => first | omega | rfl | exact ⟨_, _, rfl⟩ | assumption | (simp only [lN1, lN2, lN3, lN4, lN5, lN6, lN7] <;> omega)))
    | with_reducible intro _)
  refine swp_fam [0, 1, 2, 3] (fun k : Nat => ⟨[sealD x, .ptr 0 0, .bool false, .int .i64 (k : Nat), .undef, .undef, .undef, .undef, .undef], [], ⟨[.cells [.int .i64 x.idx, .slice (strs x.sig) .no, .slice (strs x.path) .no]], []⟩⟩)
    (fun k => k ≤ 30 ∧ k ≤ x.sig.length ∧ h100 (x.sig.take k) = true) (fun k => 30 - k) 0 ⟨by omega, by omega, rfl⟩ ?_ ?_
  · simp [keepE, St.keep]
  rintro k ⟨hk, hk1, hk2⟩
  by_cases hlt : k < x.sig.length ∧ k < 30
  · have e1 : decide ((k : Int) < ((x.sig.length : Nat) : Int)) = true := decide_eq_true (by omega)
    have e2 : decide ((k : Int) < 30) = true := decide_eq_true (by omega)
    have hg := strs_get (l := x.sig) (i := k) (by omega)
    have t1 : ((k : Nat) : Int).toNat = k := Int.toNat_natCast k
    have hal := fun h => h100_take (l := x.sig) (k := k) (by omega) hk2 h
    have han : ¬(x.sig.getD k []).length ≤ 100 → fewB x = false := fun h => by unfold fewB; rw [h100_not (l := x.sig) (k := k) (by omega) h, Bool.false_and]
    generalize x.sig.getD k [] = g at *
    by_cases hb : g.length ≤ 100
    · have e3 : decide (100 < ((g.length : Nat) : Int)) = false := decide_eq_false (by omega)
      generalize hS0 : strs x.sig = S at *
      generalize hP0 : strs x.path = P at *
      repeat' (first
    | with_reducible first | apply swp_seq | apply swp_reg | apply swp_regD | apply swp_block | apply swp_exit | apply swp_ret | apply swp_skip | apply swp_cd
    | simp only [go_sem, Nat.reduceAdd, Nat.reduceSub, Nat.reduceMul, Nat.reduceEqDiff, Nat.reduceLeDiff, Nat.reduceLT, Int.reduceEq, Int.reduceNe, Int.reduceLT, Int.reduceLE, Int.reduceAdd, Int.reduceSub, Int.reduceMul, Int.reduceNeg, Int.reduceToNat, Int.reduceTDiv, Int.reduceTMod, Int.reduceBEq, Int.reduceBNe, decide_true, decide_false, reduceCtorEq, reduceIte, P12, q12, t1, hg, hsl, e1, e2, e3]
    | simp (disch := omega) only [w64, w32, wu8, wu16, wu32, wu64]
    | with_reducible first | apply cd_dec | apply cd_eq | apply cd_ne | apply cd_split | apply gd_dec | apply gd_eq | apply gd_ne | apply gd_split
    | ((with_reducible refine And.intro ?hw ?_); (case hw => first | omega | rfl | exact ⟨_, _, rfl⟩ | assumption | (simp only [lN1, lN2, lN3, lN4, lN5, lN6, lN7, hsl] <;> omega)))
    | with_reducible intro _)
      all_goals try omega
      refine ⟨k + 1, ⟨by omega, by omega, hal hb⟩, by omega, ?_⟩
      simp [keepE, St.keep, hS0, hP0]
    · rw [han hb]
      have e3 : decide (100 < ((g.length : Nat) : Int)) = true := decide_eq_true (by omega)
      generalize hS0 : strs x.sig = S at *
      generalize hP0 : strs x.path = P at *
      repeat' (first
    | with_reducible first | apply swp_seq | apply swp_reg | apply swp_regD | apply swp_block | apply swp_exit | apply swp_ret | apply swp_skip | apply swp_cd
    | simp only [go_sem, Nat.reduceAdd, Nat.reduceSub, Nat.reduceMul, Nat.reduceEqDiff, Nat.reduceLeDiff, Nat.reduceLT, Int.reduceEq, Int.reduceNe, Int.reduceLT, Int.reduceLE, Int.reduceAdd, Int.reduceSub, Int.reduceMul, Int.reduceNeg, Int.reduceToNat, Int.reduceTDiv, Int.reduceTMod, Int.reduceBEq, Int.reduceBNe, decide_true, decide_false, reduceCtorEq, reduceIte, P12, q12, t1, hg, hsl, e1, e2, e3]
    | simp (disch := omega) only [w64, w32, wu8, wu16, wu32, wu64]
    | with_reducible first | apply cd_dec | apply cd_eq | apply cd_ne | apply cd_split | apply gd_dec | apply gd_eq | apply gd_ne | apply gd_split
    | ((with_reducible refine And.intro ?hw ?_); (case hw => first | omega | rfl | exact ⟨_, _, rfl⟩ | assumption | (simp only [lN1, lN2, lN3, lN4, lN5, lN6, lN7, hsl] <;> omega)))
    | with_reducible intro _)
      all_goals first
        | omega
        | (simp [D.closed, D.er]; done)
  have hfin : fewB x = (h100 x.path && (decide (x.sig.length ≤ 30) && decide (x.path.length ≤ 30))) := by
    unfold fewB
    by_cases q : x.sig.length ≤ 30
    · rw [List.take_of_length_le (by omega)] at hk2
      rw [hk2, Bool.true_and]
    · rw [decide_eq_false q]; simp
  rw [hfin]
  have hlast : ∀ k2 : Nat, ¬(k2 < x.path.length ∧ k2 < 30) → k2 ≤ 30 → k2 ≤ x.path.length → h100 (x.path.take k2) = true → (h100 x.path && (decide (x.sig.length ≤ 30) && decide (x.path.length ≤ 30))) = (decide (x.sig.length ≤ 30) && decide (x.path.length ≤ 30)) := by
    intro k2 h1 h2 h3 h4
    by_cases q : x.path.length ≤ 30
    · rw [List.take_of_length_le (by omega)] at h4
      rw [h4, Bool.true_and]
    · rw [decide_eq_false q]; simp
  have loopB : ∀ k : Nat, SWp C12 (.loop (.seq (.seq (.reg r12_7) (.cond (.var 7) .skip (.exit 2))) (.seq (.block 3 (.seq (.reg r12_8) (.cond (.var 8) (.seq (.reg r12_9) .ret) .skip))) (.reg r12_10))))
      (fun e s' => match e with
        | .exit i => if i = 2 then SWp C12 (.seq (.reg r12_11) .ret) (fun e s => (match e with | .exit _ => False | _ => True) ∧ (s.env.getD 2 .undef).closed = true ∧ (s.env.getD 2 .undef).er = .bool (h100 x.path && (decide (x.sig.length ≤ 30) && decide (x.path.length ≤ 30)))) s' else False ∧ (s'.env.getD 2 .undef).closed = true ∧ (s'.env.getD 2 .undef).er = .bool (h100 x.path && (decide (x.sig.length ≤ 30) && decide (x.path.length ≤ 30)))
        | e => match e with
          | .normal => SWp C12 (.seq (.reg r12_11) .ret) (fun e s => (match e with | .exit _ => False | _ => True) ∧ (s.env.getD 2 .undef).closed = true ∧ (s.env.getD 2 .undef).er = .bool (h100 x.path && (decide (x.sig.length ≤ 30) && decide (x.path.length ≤ 30)))) s'
          | e => (match e with | .exit _ => False | _ => True) ∧ (s'.env.getD 2 .undef).closed = true ∧ (s'.env.getD 2 .undef).er = .bool (h100 x.path && (decide (x.sig.length ≤ 30) && decide (x.path.length ≤ 30))))
      ⟨[sealD x, .ptr 0 0, .bool false, .int .i64 (k : Nat), .int .i64 0, .bool false, .undef, .undef, .undef], [], ⟨[.cells [.int .i64 x.idx, .slice (strs x.sig) .no, .slice (strs x.path) .no]], []⟩⟩ := by
    intro k0
    refine swp_fam [0, 1, 2, 4] (fun k : Nat => ⟨[sealD x, .ptr 0 0, .bool false, .undef, .int .i64 (k : Nat), .undef, .undef, .undef, .undef], [], ⟨[.cells [.int .i64 x.idx, .slice (strs x.sig) .no, .slice (strs x.path) .no]], []⟩⟩)
      (fun k => k ≤ 30 ∧ k ≤ x.path.length ∧ h100 (x.path.take k) = true) (fun k => 30 - k) 0 ⟨by omega, by omega, rfl⟩ ?_ ?_
    · simp [keepE, St.keep]
    rintro k ⟨hk, hk1, hk2⟩
    by_cases hlt : k < x.path.length ∧ k < 30
    · have e1 : decide ((k : Int) < ((x.path.length : Nat) : Int)) = true := decide_eq_true (by omega)
      have e2 : decide ((k : Int) < 30) = true := decide_eq_true (by omega)
      have hg := strs_get (l := x.path) (i := k) (by omega)
      have t1 : ((k : Nat) : Int).toNat = k := Int.toNat_natCast k
      have hal := fun h => h100_take (l := x.path) (k := k) (by omega) hk2 h
      have han : ¬(x.path.getD k []).length ≤ 100 → h100 x.path = false := fun h => h100_not (l := x.path) (k := k) (by omega) h
      generalize x.path.getD k [] = g at *
      by_cases hb : g.length ≤ 100
      · have e3 : decide (100 < ((g.length : Nat) : Int)) = false := decide_eq_false (by omega)
        generalize hS0 : strs x.sig = S at *
        generalize hP0 : strs x.path = P at *
        repeat' (first
    | with_reducible first | apply swp_seq | apply swp_reg | apply swp_regD | apply swp_block | apply swp_exit | apply swp_ret | apply swp_skip | apply swp_cd
    | simp only [go_sem, Nat.reduceAdd, Nat.reduceSub, Nat.reduceMul, Nat.reduceEqDiff, Nat.reduceLeDiff, Nat.reduceLT, Int.reduceEq, Int.reduceNe, Int.reduceLT, Int.reduceLE, Int.reduceAdd, Int.reduceSub, Int.reduceMul, Int.reduceNeg, Int.reduceToNat, Int.reduceTDiv, Int.reduceTMod, Int.reduceBEq, Int.reduceBNe, decide_true, decide_false, reduceCtorEq, reduceIte, P12, q12, t1, hg, hpl, e1, e2, e3]
    | simp (disch := omega) only [w64, w32, wu8, wu16, wu32, wu64]
    | with_reducible first | apply cd_dec | apply cd_eq | apply cd_ne | apply cd_split | apply gd_dec | apply gd_eq | apply gd_ne | apply gd_split
    | ((with_reducible refine And.intro ?hw ?_); (case hw => first | omega | rfl | exact ⟨_, _, rfl⟩ | assumption | (simp only [lN1, lN2, lN3, lN4, lN5, lN6, lN7, hpl] <;> omega)))
    | with_reducible intro _)
        all_goals try omega
        refine ⟨k + 1, ⟨by omega, by omega, hal hb⟩, by omega, ?_⟩
        simp [keepE, St.keep, hS0, hP0]
      · rw [han hb]
        have e3 : decide (100 < ((g.length : Nat) : Int)) = true := decide_eq_true (by omega)
        generalize hS0 : strs x.sig = S at *
        generalize hP0 : strs x.path = P at *
        repeat' (first
    | with_reducible first | apply swp_seq | apply swp_reg | apply swp_regD | apply swp_block | apply swp_exit | apply swp_ret | apply swp_skip | apply swp_cd
    | simp only [go_sem, Nat.reduceAdd, Nat.reduceSub, Nat.reduceMul, Nat.reduceEqDiff, Nat.reduceLeDiff, Nat.reduceLT, Int.reduceEq, Int.reduceNe, Int.reduceLT, Int.reduceLE, Int.reduceAdd, Int.reduceSub, Int.reduceMul, Int.reduceNeg, Int.reduceToNat, Int.reduceTDiv, Int.reduceTMod, Int.reduceBEq, Int.reduceBNe, decide_true, decide_false, reduceCtorEq, reduceIte, P12, q12, t1, hg, hpl, e1, e2, e3]
    | simp (disch := omega) only [w64, w32, wu8, wu16, wu32, wu64]
    | with_reducible first | apply cd_dec | apply cd_eq | apply cd_ne | apply cd_split | apply gd_dec | apply gd_eq | apply gd_ne | apply gd_split
    | ((with_reducible refine And.intro ?hw ?_); (case hw => first | omega | rfl | exact ⟨_, _, rfl⟩ | assumption | (simp only [lN1, lN2, lN3, lN4, lN5, lN6, lN7, hpl] <;> omega)))
    | with_reducible intro _)
        all_goals first
          | omega
          | (simp [D.closed, D.er]; done)
    rw [hlast k hlt hk hk1 hk2]
    have w1 : decide (((x.sig.length : Nat) : Int) ≤ 30) = decide (x.sig.length ≤ 30) := by
      by_cases q : x.sig.length ≤ 30
      · rw [decide_eq_true q, decide_eq_true (by omega)]
      · rw [decide_eq_false q, decide_eq_false (by omega)]
    have w2 : decide (((x.path.length : Nat) : Int) ≤ 30) = decide (x.path.length ≤ 30) := by
      by_cases q : x.path.length ≤ 30
      · rw [decide_eq_true q, decide_eq_true (by omega)]
      · rw [decide_eq_false q, decide_eq_false (by omega)]
    generalize hS0 : strs x.sig = S at *
    generalize hP0 : strs x.path = P at *
    by_cases q : k < x.path.length
    · have e1 : decide ((k : Int) < ((x.path.length : Nat) : Int)) = true := decide_eq_true (by omega)
      have e2 : decide ((k : Int) < 30) = false := decide_eq_false (by omega)
      cases hA : decide (x.sig.length ≤ 30) <;> rw [hA] at w1 <;>
      · repeat' (first
    | with_reducible first | apply swp_seq | apply swp_reg | apply swp_regD | apply swp_block | apply swp_exit | apply swp_ret | apply swp_skip | apply swp_cd
    | simp only [go_sem, Nat.reduceAdd, Nat.reduceSub, Nat.reduceMul, Nat.reduceEqDiff, Nat.reduceLeDiff, Nat.reduceLT, Int.reduceEq, Int.reduceNe, Int.reduceLT, Int.reduceLE, Int.reduceAdd, Int.reduceSub, Int.reduceMul, Int.reduceNeg, Int.reduceToNat, Int.reduceTDiv, Int.reduceTMod, Int.reduceBEq, Int.reduceBNe, decide_true, decide_false, reduceCtorEq, reduceIte, P12, q12, hpl, hsl, e1, e2, w1, w2]
    | simp (disch := omega) only [w64, w32, wu8, wu16, wu32, wu64]
    | with_reducible first | apply cd_dec | apply cd_eq | apply cd_ne | apply cd_split | apply gd_dec | apply gd_eq | apply gd_ne | apply gd_split
    | ((with_reducible refine And.intro ?hw ?_); (case hw => first | omega | rfl | exact ⟨_, _, rfl⟩ | assumption | (simp only [lN1, lN2, lN3, lN4, lN5, lN6, lN7, hpl, hsl] <;> omega)))
    | with_reducible intro _)
        all_goals first
          | omega
          | (simp [D.closed, D.er]; done)
    · have e1 : decide ((k : Int) < ((x.path.length : Nat) : Int)) = false := decide_eq_false (by omega)
      cases hA : decide (x.sig.length ≤ 30) <;> rw [hA] at w1 <;>
      · repeat' (first
    | with_reducible first | apply swp_seq | apply swp_reg | apply swp_regD | apply swp_block | apply swp_exit | apply swp_ret | apply swp_skip | apply swp_cd
    | simp only [go_sem, Nat.reduceAdd, Nat.reduceSub, Nat.reduceMul, Nat.reduceEqDiff, Nat.reduceLeDiff, Nat.reduceLT, Int.reduceEq, Int.reduceNe, Int.reduceLT, Int.reduceLE, Int.reduceAdd, Int.reduceSub, Int.reduceMul, Int.reduceNeg, Int.reduceToNat, Int.reduceTDiv, Int.reduceTMod, Int.reduceBEq, Int.reduceBNe, decide_true, decide_false, reduceCtorEq, reduceIte, P12, q12, hpl, hsl, e1, w1, w2]
    | simp (disch := omega) only [w64, w32, wu8, wu16, wu32, wu64]
    | with_reducible first | apply cd_dec | apply cd_eq | apply cd_ne | apply cd_split | apply gd_dec | apply gd_eq | apply gd_ne | apply gd_split
    | ((with_reducible refine And.intro ?hw ?_); (case hw => first | omega | rfl | exact ⟨_, _, rfl⟩ | assumption | (simp only [lN1, lN2, lN3, lN4, lN5, lN6, lN7, hpl, hsl] <;> omega)))
    | with_reducible intro _)
        all_goals first
          | omega
          | (simp [D.closed, D.er]; done)
  by_cases q : k < x.sig.length
  · have e1 : decide ((k : Int) < ((x.sig.length : Nat) : Int)) = true := decide_eq_true (by omega)
    have e2 : decide ((k : Int) < 30) = false := decide_eq_false (by omega)
    repeat' (first
    | with_reducible first | apply swp_seq | apply swp_reg | apply swp_regD | apply swp_block | apply swp_exit | apply swp_ret | apply swp_skip | apply swp_cd
    | simp only [go_sem, Nat.reduceAdd, Nat.reduceSub, Nat.reduceMul, Nat.reduceEqDiff, Nat.reduceLeDiff, Nat.reduceLT, Int.reduceEq, Int.reduceNe, Int.reduceLT, Int.reduceLE, Int.reduceAdd, Int.reduceSub, Int.reduceMul, Int.reduceNeg, Int.reduceToNat, Int.reduceTDiv, Int.reduceTMod, Int.reduceBEq, Int.reduceBNe, decide_true, decide_false, reduceCtorEq, reduceIte, P12, q12, hsl, e1, e2]
    | simp (disch := omega) only [w64, w32, wu8, wu16, wu32, wu64]
    | with_reducible first | apply cd_dec | apply cd_eq | apply cd_ne | apply cd_split | apply gd_dec | apply gd_eq | apply gd_ne | apply gd_split
    | ((with_reducible refine And.intro ?hw ?_); (case hw => first | omega | rfl | exact ⟨_, _, rfl⟩ | assumption | (simp only [lN1, lN2, lN3, lN4, lN5, lN6, lN7, hsl] <;> omega)))
    | with_reducible intro _)
    all_goals try omega
    exact loopB k
  · have e1 : decide ((k : Int) < ((x.sig.length : Nat) : Int)) = false := decide_eq_false (by omega)
    repeat' (first
    | with_reducible first | apply swp_seq | apply swp_reg | apply swp_regD | apply swp_block | apply swp_exit | apply swp_ret | apply swp_skip | apply swp_cd
    | simp only [go_sem, Nat.reduceAdd, Nat.reduceSub, Nat.reduceMul, Nat.reduceEqDiff, Nat.reduceLeDiff, Nat.reduceLT, Int.reduceEq, Int.reduceNe, Int.reduceLT, Int.reduceLE, Int.reduceAdd, Int.reduceSub, Int.reduceMul, Int.reduceNeg, Int.reduceToNat, Int.reduceTDiv, Int.reduceTMod, Int.reduceBEq, Int.reduceBNe, decide_true, decide_false, reduceCtorEq, reduceIte, P12, q12, hsl, e1]
    | simp (disch := omega) only [w64, w32, wu8, wu16, wu32, wu64]
    | with_reducible first | apply cd_dec | apply cd_eq | apply cd_ne | apply cd_split | apply gd_dec | apply gd_eq | apply gd_ne | apply gd_split
    | ((with_reducible refine And.intro ?hw ?_); (case hw => first | omega | rfl | exact ⟨_, _, rfl⟩ | assumption | (simp only [lN1, lN2, lN3, lN4, lN5, lN6, lN7, hsl] <;> omega)))
    | with_reducible intro _)
    all_goals try omega
    exact loopB k
end Go.Proofs.YtgjkhlnpplajjaaDoor
end
