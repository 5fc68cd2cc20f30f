/- Own texts, merged by a program: the engine that walks the code, and what the functions that the law reaches compute. -/
import Derived.Test.YtcchbohfcmfmlaaQe5
section
set_option maxRecDepth 100000
set_option linter.unusedSimpArgs false
set_option linter.unusedVariables false
namespace Go.Proofs.Ytcchbohfcmfmlaa
open Go GoV Go.RowKit
theorem fold38 (fj f1 : FuncId) (c : List D) (hp : Hp) (J : Int → Int → Int) (g : Nat → Int) (a0 : Int) (n : Nat) (hn : n < 1000000) (hJ : ∀ a b, Pur M fj [.int .i64 a, .int .i64 b] (.int .i64 (J a b)))
    (hg : ∀ i, i < n → Eff M f1 ([] ++ [.int .i64 i] ++ c) hp fun d h => d = .int .i64 (g i) ∧ h = hp) :
    Eff M 38 [.fn (.func fj) [] [], .int .i64 a0, .int .i64 n, .fn (.func f1) [] c] hp fun d h => d = .int .i64 ((List.range n).foldl (fun a i => J a (g i)) a0) ∧ h = hp := by
  refine oe38 hp.H.length hp.tk.length rfl rfl rfl ?_
  rw [ie38]
  unfold c38
  repeat' (first
    | with_reducible first | apply swp_seq | apply swp_reg | apply swp_regD | apply swp_block | apply swp_exit | apply swp_ret | apply swp_skip | apply swp_cd
    | simp only [go_sem, seval, pe38, q38]
    | with_reducible first | apply cd_dec | apply cd_eq | apply cd_ne | apply cd_split
    | ((with_reducible refine And.intro ?hw ?_); (case hw => first | omega | rfl | exact ⟨_, _, rfl⟩ | assumption | (simp only [lN] <;> omega)))
    | with_reducible intro _)
  refine swp_fam [0, 1, 2, 3, 6, 7] (fun i : Nat => ⟨[.fn (.func fj) [] [], .int .i64 ((List.range i).foldl (fun a i => J a (g i)) a0), .int .i64 n, .fn (.func f1) [] c, .undef, .undef, .int .i64 n, .int .i64 i, .undef], [], hp⟩) (fun i => i ≤ n) (fun i => n - i) 0 (by omega) ?_ ?_
  · simp [keepE, St.keep]
  · intro i hi
    by_cases hin : i < n
    · have c1 := hg i hin
      have c2 := hJ ((List.range i).foldl (fun a i => J a (g i)) a0) (g i)
      have hst : (List.range (i + 1)).foldl (fun a i => J a (g i)) a0 = J ((List.range i).foldl (fun a i => J a (g i)) a0) (g i) := by rw [List.range_succ, List.foldl_append]; rfl
      generalize (List.range i).foldl (fun a i => J a (g i)) a0 = z at *
      repeat' (first
    | with_reducible first | apply swp_seq | apply swp_reg | apply swp_regD | apply swp_block | apply swp_exit | apply swp_ret | apply swp_skip | apply swp_cd
    | simp only [go_sem, seval, pe38, q38]
    | simp (disch := omega) only [w64, w32, wu8, wu16, wu32, wu64]
    | ((with_reducible refine o_same (c1) ?he ?hh ?_); (case he => first | rfl | (simp [go_sem, seval]; done)); (case hh => first | rfl | (simp [go_sem, seval]; done)))
    | ((with_reducible refine o_call (c2) ?he ?hc ?_); (case he | hc => first | rfl | (simp [D.erL, D.er, D.closedL, D.closed]; done)))
    | with_reducible first | apply cd_dec | apply cd_eq | apply cd_ne | apply cd_split
    | ((with_reducible refine And.intro ?hw ?_); (case hw => first | omega | rfl | exact ⟨_, _, rfl⟩ | assumption | (simp only [lN] <;> omega)))
    | with_reducible intro _)
      all_goals try omega
      all_goals refine ⟨i + 1, by omega, by omega, ?_⟩
      all_goals simp [keepE, St.keep, hst]
    · obtain rfl : i = n := by omega
      repeat' (first
    | with_reducible first | apply swp_seq | apply swp_reg | apply swp_regD | apply swp_block | apply swp_exit | apply swp_ret | apply swp_skip | apply swp_cd
    | simp only [go_sem, seval, pe38, q38]
    | simp (disch := omega) only [w64, w32, wu8, wu16, wu32, wu64]
    | with_reducible first | apply cd_dec | apply cd_eq | apply cd_ne | apply cd_split
    | ((with_reducible refine And.intro ?hw ?_); (case hw => first | omega | rfl | exact ⟨_, _, rfl⟩ | assumption | (simp only [lN] <;> omega)))
    | with_reducible intro _)
      all_goals try omega
      all_goals exact ⟨_, weak_refl, by simp⟩
theorem foldl_range {α : Type} [Inhabited α] (J : Int → Int → Int) (f : α → Int) : ∀ (l : List α) (a0 : Int), (List.range l.length).foldl (fun a i => J a (f (l.getD i default))) a0 = l.foldl (fun a x => J a (f x)) a0 := by
  intro l
  have gen : ∀ (n : Nat), n ≤ l.length → ∀ a0, (List.range n).foldl (fun a i => J a (f (l.getD i default))) a0 = (l.take n).foldl (fun a x => J a (f x)) a0 := by
    intro n
    induction n with
    | zero => intro _ a0; rfl
    | succ n ih =>
      intro h a0
      rw [List.range_succ, List.foldl_append, ih (by omega), List.take_succ_eq_append_getElem (by omega), List.foldl_append]
      simp [List.getD, show n < l.length by omega]
  intro a0
  rw [gen _ (Nat.le_refl _), List.take_length]
theorem askL_map (s : List Pt) (day : Int) : ∀ ks : List X, askL s day ks = ks.map (ask s day)
  | [] => rfl
  | k :: ks => by simp [askL, askL_map s day ks]
abbrev askH (s : List Pt) (day : Int) (x : X) (part : List UInt8) : Hp := ⟨[.cells [partsD s, .int .i64 day], .cells x.cells, .cells [.str part]], []⟩
abbrev eachH (s : List Pt) (day : Int) (x : X) (ns : List (List UInt8)) : Hp := ⟨[.cells [partsD s, .int .i64 day], .cells x.cells, .cells [.slice (strs ns) .no]], []⟩
abbrev askerD (s : List Pt) (day : Int) : D := .agg [partsD s, .int .i64 day]
theorem kid39 (s : List Pt) (day : Int) (x : X) (part : List UInt8) (i : Nat) (hi : i < x.kids.length) (ih : Pur M 28 [askerD s day, (x.kids[i]).d, .str part] (.int .i64 (ask s day x.kids[i] part))) :
    Eff M 39 ([] ++ [.int .i64 i] ++ [.ptr 0 0, .ptr 1 0, .ptr 2 0]) (askH s day x part) fun d h => d = .int .i64 (ask s day (x.kids.getD i default) part) ∧ h = askH s day x part := by
  have he : x.kids.getD i default = x.kids[i] := by simp [List.getD, hi]
  rw [he]
  refine oe39 3 0 rfl rfl rfl ?_
  simp only [List.nil_append, List.cons_append]
  rw [ie39]
  unfold c39 askH
  have hg : (x.kids.map X.d).getD i .undef = .agg (x.kids[i]).cells := by simp [List.getD, hi, X.d_eq]
  have hlen : (x.kids.map X.d).length = x.kids.length := by simp
  have hcl := cl_parts s
  have her := erL_P s
  have hck := closedL_X (x.kids[i]).kids
  have hek := erL_X (x.kids[i]).kids
  rw [X.d_eq] at ih
  generalize x.kids[i] = y at *
  generalize ask s day y part = z at *
  repeat' (first
    | with_reducible first | apply swp_seq | apply swp_reg | apply swp_regD | apply swp_block | apply swp_exit | apply swp_ret | apply swp_skip | apply swp_cd
    | simp only [go_sem, seval, pe39, q39, hlen, hg]
    | ((with_reducible refine o_call (ih) ?he ?hc ?_); (case he | hc => first | rfl | (simp [D.erL, D.er, D.closedL, D.closed, hcl, her, hck, hek, hlen, hg]; done)))
    | with_reducible first | apply cd_dec | apply cd_eq | apply cd_ne | apply cd_split
    | ((with_reducible refine And.intro ?hw ?_); (case hw => first | omega | rfl | exact ⟨_, _, rfl⟩ | assumption | (simp only [lN, hcl, her, hck, hek, hlen, hg] <;> omega)))
    | with_reducible intro _)
  all_goals try omega
  all_goals exact ⟨_, weak_refl, by simp⟩
theorem each49 (s : List Pt) (day : Int) (x : X) (ns : List (List UInt8)) (i : Nat) (hi : i < ns.length) (h0 : 0 < x.kids.length) (ih : Pur M 28 [askerD s day, (x.kids[0]).d, .str ns[i]] (.int .i64 (ask s day x.kids[0] ns[i]))) :
    Eff M 49 ([] ++ [.int .i64 i] ++ [.ptr 0 0, .ptr 1 0, .ptr 2 0]) (eachH s day x ns) fun d h => d = .int .i64 (ask s day (x.kids.getD 0 default) (ns.getD i default)) ∧ h = eachH s day x ns := by
  have he : x.kids.getD 0 default = x.kids[0] := by simp [List.getD, h0]
  have he2 : ns.getD i default = ns[i] := by simp [List.getD, hi]
  rw [he, he2]
  refine oe49 3 0 rfl rfl rfl ?_
  simp only [List.nil_append, List.cons_append]
  rw [ie49]
  unfold c49 eachH
  have hg : (x.kids.map X.d).getD 0 .undef = .agg (x.kids[0]).cells := by simp [List.getD, h0, X.d_eq]
  have hlen : (x.kids.map X.d).length = x.kids.length := by simp
  have hg2 : (strs ns).getD i .undef = .str ns[i] := by simp [strs, List.getD, hi]
  have hlen2 := strs_len ns
  have hcl := cl_parts s
  have her := erL_P s
  have hck := closedL_X (x.kids[0]).kids
  have hek := erL_X (x.kids[0]).kids
  rw [X.d_eq] at ih
  generalize x.kids[0] = y at *
  generalize ns[i] = nm at *
  generalize ask s day y nm = z at *
  repeat' (first
    | with_reducible first | apply swp_seq | apply swp_reg | apply swp_regD | apply swp_block | apply swp_exit | apply swp_ret | apply swp_skip | apply swp_cd
    | simp only [go_sem, seval, pe49, q49, hlen, hlen2, hg, hg2]
    | ((with_reducible refine o_call (ih) ?he ?hc ?_); (case he | hc => first | rfl | (simp [D.erL, D.er, D.closedL, D.closed, hcl, her, hck, hek, hlen, hg, hg2, hlen2]; done)))
    | with_reducible first | apply cd_dec | apply cd_eq | apply cd_ne | apply cd_split
    | ((with_reducible refine And.intro ?hw ?_); (case hw => first | omega | rfl | exact ⟨_, _, rfl⟩ | assumption | (simp only [lN, hcl, her, hck, hek, hlen, hg, hg2, hlen2] <;> omega)))
    | with_reducible intro _)
  all_goals try omega
  all_goals exact ⟨_, weak_refl, by simp⟩
structure Sok (s : List Pt) : Prop where
  len : s.length ≤ 12
  prop : ∀ p ∈ s, p.props.length ≤ 65 ∧ -9223372036854775808 ≤ p.made ∧ -9223372036854775808 ≤ p.since
theorem Sok.find {s : List Pt} (h : Sok s) (nm : List UInt8) : (find0 s nm).props.length ≤ 65 ∧ -9223372036854775808 ≤ (find0 s nm).made ∧ -9223372036854775808 ≤ (find0 s nm).since := by
  unfold find0 getP
  cases e : s.find? fun p => p.name == nm with
  | none => exact ⟨by decide, by decide, by decide⟩
  | some p => exact h.prop p (List.mem_of_find?_eq_some e)
theorem lifeE_some {p : Pt} {cur : List UInt8} {day : Int} {v : Int × Int} (h : lifeV p cur day = some v) : lifeE cur day = 0 ∧ lifeD p cur day = ivD v := by
  refine ⟨?_, by simp [lifeD, h]⟩
  by_cases hk : known cur = false
  · rw [lifeV_none (.inl hk)] at h; cases h
  · by_cases hd : day < 0 ∨ day > 40000
    · rw [lifeV_none (.inr hd)] at h; cases h
    · unfold lifeE; rw [if_neg hk, if_neg hd]
theorem lifeE_none {p : Pt} {cur : List UInt8} {day : Int} (h : lifeV p cur day = none) : lifeE cur day ≠ 0 ∧ lifeD p cur day = ivD (0, 0) := by
  refine ⟨?_, by simp [lifeD, h]⟩
  by_cases hk : known cur = false
  · simp [lifeE, hk]
  · by_cases hd : day < 0 ∨ day > 40000
    · unfold lifeE; rw [if_neg hk, if_pos hd]; decide
    · exfalso
      have hk' : known cur = true := by simpa using hk
      unfold lifeV at h
      rw [if_neg hd] at h
      simp only [known, Bool.or_eq_true, beq_iff_eq] at hk'
      repeat' split at h
      all_goals first | (cases h; done) | simp_all
noncomputable def x28 : RC := (.seq (.seq (.seq (.reg r28_6) (.cond (.var 18) (.exit 1) .skip)) (.seq (.seq (.reg r28_7) (.cond (.var 19) (.exit 2) .skip)) (.seq (.seq (.reg r28_8) (.cond (.var 20) (.exit 3) .skip)) (.seq (.seq (.reg r28_9) (.cond (.var 21) (.exit 4) .skip)) (.seq (.seq (.reg r28_10) (.cond (.var 22) (.exit 5) .skip)) (.seq (.seq (.reg r28_11) (.cond (.var 23) (.exit 6) .skip)) (.seq (.seq (.reg r28_12) (.cond (.var 24) (.exit 7) .skip)) (.seq (.seq (.reg r28_13) (.cond (.var 25) (.exit 8) .skip)) (.seq (.reg r28_14) (.cond (.var 26) (.exit 9) .skip)))))))))) (.exit 0))
noncomputable def y28_1 : RC := (.seq (.seq (.reg r28_15) .ret) (.exit 0))
noncomputable def y28_2 : RC := (.seq (.seq (.reg r28_16) .ret) (.exit 0))
noncomputable def y28_3 : RC := (.seq (.seq (.reg r28_17) .ret) (.exit 0))
noncomputable def y28_4 : RC := (.seq (.seq (.reg r28_18) .ret) (.exit 0))
noncomputable def y28_5 : RC := (.reg r28_19)
noncomputable def y28_6 : RC := (.seq (.seq (.reg r28_20) (.seq (.seq (.reg r28_21) (.cond (.var 27) (.seq (.reg r28_22) .ret) .skip)) (.seq (.reg r28_23) (.seq (.seq (.reg r28_24) (.cond (.var 28) (.seq (.reg r28_25) .ret) .skip)) (.seq (.reg r28_26) .ret))))) (.exit 0))
noncomputable def y28_7 : RC := (.seq (.seq (.reg r28_27) .ret) (.exit 0))
noncomputable def y28_8 : RC := (.seq (.seq (.reg r28_28) .ret) (.exit 0))
noncomputable def y28_9 : RC := (.seq (.seq (.reg r28_29) .ret) (.exit 0))
noncomputable def rest28 : RC := (.seq (.reg r28_30) (.seq (.reg r28_31) (.seq (.reg r28_32) (.seq (.seq (.reg r28_33) (.block 10 (.seq (.reg r28_34) (.cond (.var 30) (.seq (.reg r28_35) .ret) (.seq (.reg r28_36) (.cond (.var 31) (.seq (.reg r28_37) .ret) .skip)))))) (.seq (.reg r28_38) .ret)))))
noncomputable def sw28 : RC := (.block 0 (.seq (.block 9 (.seq (.block 8 (.seq (.block 7 (.seq (.block 6 (.seq (.block 5 (.seq (.block 4 (.seq (.block 3 (.seq (.block 2 (.seq (.block 1 x28) y28_1)) y28_2)) y28_3)) y28_4)) y28_5)) y28_6)) y28_7)) y28_8)) y28_9))
theorem c28_eq : c28 = .seq (.reg r28_0) (.seq (.reg r28_1) (.seq (.reg r28_2) (.seq (.reg r28_3) (.seq (.reg r28_4) (.seq (.seq (.reg r28_5) sw28) rest28))))) := rfl
theorem disp_1 {X0 X1 X2 : D} {num op : Int} {hp : Hp} (h : op = 1) : ∀ Q : Ex → St → Prop, RetT C28 y28_1 ⟨[X0, X1, X2, .ptr 0 0, .ptr 1 0, .ptr 2 0, .int .i64 0, .ptr 3 0, .fn (.func 38) [] [], .fn (.func 39) [] [.ptr 0 0, .ptr 1 0, .ptr 2 0], .int .i64 num, .undef, .undef, .undef, .undef, .undef, .undef, .int .i64 op, .bool true, .undef, .undef, .undef, .undef, .undef, .undef, .undef, .undef, .undef, .undef, .undef, .undef, .undef], [], hp⟩ (Q .ret) → SWp C28 sw28 Q ⟨[X0, X1, X2, .ptr 0 0, .ptr 1 0, .ptr 2 0, .int .i64 0, .ptr 3 0, .fn (.func 38) [] [], .fn (.func 39) [] [.ptr 0 0, .ptr 1 0, .ptr 2 0], .int .i64 num, .undef, .undef, .undef, .undef, .undef, .undef, .int .i64 op, .undef, .undef, .undef, .undef, .undef, .undef, .undef, .undef, .undef, .undef, .undef, .undef, .undef, .undef], [], hp⟩ := by
  have e1 : (op == 1) = true := by simp [h]
  have h0 : ∀ Q : Ex → St → Prop, Q (.exit 1) ⟨[X0, X1, X2, .ptr 0 0, .ptr 1 0, .ptr 2 0, .int .i64 0, .ptr 3 0, .fn (.func 38) [] [], .fn (.func 39) [] [.ptr 0 0, .ptr 1 0, .ptr 2 0], .int .i64 num, .undef, .undef, .undef, .undef, .undef, .undef, .int .i64 op, .bool true, .undef, .undef, .undef, .undef, .undef, .undef, .undef, .undef, .undef, .undef, .undef, .undef, .undef], [], hp⟩ → SWp C28 x28 Q ⟨[X0, X1, X2, .ptr 0 0, .ptr 1 0, .ptr 2 0, .int .i64 0, .ptr 3 0, .fn (.func 38) [] [], .fn (.func 39) [] [.ptr 0 0, .ptr 1 0, .ptr 2 0], .int .i64 num, .undef, .undef, .undef, .undef, .undef, .undef, .int .i64 op, .undef, .undef, .undef, .undef, .undef, .undef, .undef, .undef, .undef, .undef, .undef, .undef, .undef, .undef], [], hp⟩ := by
    intro Q hQ
    unfold x28
    repeat' (first
    | with_reducible first | apply swp_seq | apply swp_reg | apply swp_regD | apply swp_block | apply swp_exit | apply swp_ret | apply swp_skip | apply swp_cd
    | simp only [go_sem, seval, P28, q28, e1]
    | with_reducible first | apply cd_dec | apply cd_eq | apply cd_ne | apply cd_split
    | ((with_reducible refine And.intro ?hw ?_); (case hw => first | omega | rfl | exact ⟨_, _, rfl⟩ | assumption | (simp only [lN] <;> omega)))
    | with_reducible intro _)
    exact hQ
  have h2 := px_hit (i := 1) (y := y28_1) (h0)
  have h3 := ret_t h2
  exact px_top (px_ret (i := 9) (y := y28_9) (px_ret (i := 8) (y := y28_8) (px_ret (i := 7) (y := y28_7) (px_ret (i := 6) (y := y28_6) (px_ret (i := 5) (y := y28_5) (px_ret (i := 4) (y := y28_4) (px_ret (i := 3) (y := y28_3) (px_ret (i := 2) (y := y28_2) (h3)))))))))
theorem disp_2 {X0 X1 X2 : D} {num op : Int} {hp : Hp} (h : op = 2) : ∀ Q : Ex → St → Prop, RetT C28 y28_2 ⟨[X0, X1, X2, .ptr 0 0, .ptr 1 0, .ptr 2 0, .int .i64 0, .ptr 3 0, .fn (.func 38) [] [], .fn (.func 39) [] [.ptr 0 0, .ptr 1 0, .ptr 2 0], .int .i64 num, .undef, .undef, .undef, .undef, .undef, .undef, .int .i64 op, .bool false, .bool true, .undef, .undef, .undef, .undef, .undef, .undef, .undef, .undef, .undef, .undef, .undef, .undef], [], hp⟩ (Q .ret) → SWp C28 sw28 Q ⟨[X0, X1, X2, .ptr 0 0, .ptr 1 0, .ptr 2 0, .int .i64 0, .ptr 3 0, .fn (.func 38) [] [], .fn (.func 39) [] [.ptr 0 0, .ptr 1 0, .ptr 2 0], .int .i64 num, .undef, .undef, .undef, .undef, .undef, .undef, .int .i64 op, .undef, .undef, .undef, .undef, .undef, .undef, .undef, .undef, .undef, .undef, .undef, .undef, .undef, .undef], [], hp⟩ := by
  have e1 : (op == 1) = false := by simp [h]
  have e2 : (op == 2) = true := by simp [h]
  have h0 : ∀ Q : Ex → St → Prop, Q (.exit 2) ⟨[X0, X1, X2, .ptr 0 0, .ptr 1 0, .ptr 2 0, .int .i64 0, .ptr 3 0, .fn (.func 38) [] [], .fn (.func 39) [] [.ptr 0 0, .ptr 1 0, .ptr 2 0], .int .i64 num, .undef, .undef, .undef, .undef, .undef, .undef, .int .i64 op, .bool false, .bool true, .undef, .undef, .undef, .undef, .undef, .undef, .undef, .undef, .undef, .undef, .undef, .undef], [], hp⟩ → SWp C28 x28 Q ⟨[X0, X1, X2, .ptr 0 0, .ptr 1 0, .ptr 2 0, .int .i64 0, .ptr 3 0, .fn (.func 38) [] [], .fn (.func 39) [] [.ptr 0 0, .ptr 1 0, .ptr 2 0], .int .i64 num, .undef, .undef, .undef, .undef, .undef, .undef, .int .i64 op, .undef, .undef, .undef, .undef, .undef, .undef, .undef, .undef, .undef, .undef, .undef, .undef, .undef, .undef], [], hp⟩ := by
    intro Q hQ
    unfold x28
    repeat' (first
    | with_reducible first | apply swp_seq | apply swp_reg | apply swp_regD | apply swp_block | apply swp_exit | apply swp_ret | apply swp_skip | apply swp_cd
    | simp only [go_sem, seval, P28, q28, e1, e2]
    | with_reducible first | apply cd_dec | apply cd_eq | apply cd_ne | apply cd_split
    | ((with_reducible refine And.intro ?hw ?_); (case hw => first | omega | rfl | exact ⟨_, _, rfl⟩ | assumption | (simp only [lN] <;> omega)))
    | with_reducible intro _)
    exact hQ
  have h2 := px_hit (i := 2) (y := y28_2) (px_pass (i := 1) (y := y28_1) (by decide) (h0))
  have h3 := ret_t h2
  exact px_top (px_ret (i := 9) (y := y28_9) (px_ret (i := 8) (y := y28_8) (px_ret (i := 7) (y := y28_7) (px_ret (i := 6) (y := y28_6) (px_ret (i := 5) (y := y28_5) (px_ret (i := 4) (y := y28_4) (px_ret (i := 3) (y := y28_3) (h3))))))))
theorem disp_3 {X0 X1 X2 : D} {num op : Int} {hp : Hp} (h : op = 3) : ∀ Q : Ex → St → Prop, RetT C28 y28_3 ⟨[X0, X1, X2, .ptr 0 0, .ptr 1 0, .ptr 2 0, .int .i64 0, .ptr 3 0, .fn (.func 38) [] [], .fn (.func 39) [] [.ptr 0 0, .ptr 1 0, .ptr 2 0], .int .i64 num, .undef, .undef, .undef, .undef, .undef, .undef, .int .i64 op, .bool false, .bool false, .bool true, .undef, .undef, .undef, .undef, .undef, .undef, .undef, .undef, .undef, .undef, .undef], [], hp⟩ (Q .ret) → SWp C28 sw28 Q ⟨[X0, X1, X2, .ptr 0 0, .ptr 1 0, .ptr 2 0, .int .i64 0, .ptr 3 0, .fn (.func 38) [] [], .fn (.func 39) [] [.ptr 0 0, .ptr 1 0, .ptr 2 0], .int .i64 num, .undef, .undef, .undef, .undef, .undef, .undef, .int .i64 op, .undef, .undef, .undef, .undef, .undef, .undef, .undef, .undef, .undef, .undef, .undef, .undef, .undef, .undef], [], hp⟩ := by
  have e1 : (op == 1) = false := by simp [h]
  have e2 : (op == 2) = false := by simp [h]
  have e3 : (op == 3) = true := by simp [h]
  have h0 : ∀ Q : Ex → St → Prop, Q (.exit 3) ⟨[X0, X1, X2, .ptr 0 0, .ptr 1 0, .ptr 2 0, .int .i64 0, .ptr 3 0, .fn (.func 38) [] [], .fn (.func 39) [] [.ptr 0 0, .ptr 1 0, .ptr 2 0], .int .i64 num, .undef, .undef, .undef, .undef, .undef, .undef, .int .i64 op, .bool false, .bool false, .bool true, .undef, .undef, .undef, .undef, .undef, .undef, .undef, .undef, .undef, .undef, .undef], [], hp⟩ → SWp C28 x28 Q ⟨[X0, X1, X2, .ptr 0 0, .ptr 1 0, .ptr 2 0, .int .i64 0, .ptr 3 0, .fn (.func 38) [] [], .fn (.func 39) [] [.ptr 0 0, .ptr 1 0, .ptr 2 0], .int .i64 num, .undef, .undef, .undef, .undef, .undef, .undef, .int .i64 op, .undef, .undef, .undef, .undef, .undef, .undef, .undef, .undef, .undef, .undef, .undef, .undef, .undef, .undef], [], hp⟩ := by
    intro Q hQ
    unfold x28
    repeat' (first
    | with_reducible first | apply swp_seq | apply swp_reg | apply swp_regD | apply swp_block | apply swp_exit | apply swp_ret | apply swp_skip | apply swp_cd
    | simp only [go_sem, seval, P28, q28, e1, e2, e3]
    | with_reducible first | apply cd_dec | apply cd_eq | apply cd_ne | apply cd_split
    | ((with_reducible refine And.intro ?hw ?_); (case hw => first | omega | rfl | exact ⟨_, _, rfl⟩ | assumption | (simp only [lN] <;> omega)))
    | with_reducible intro _)
    exact hQ
  have h2 := px_hit (i := 3) (y := y28_3) (px_pass (i := 2) (y := y28_2) (by decide) (px_pass (i := 1) (y := y28_1) (by decide) (h0)))
  have h3 := ret_t h2
  exact px_top (px_ret (i := 9) (y := y28_9) (px_ret (i := 8) (y := y28_8) (px_ret (i := 7) (y := y28_7) (px_ret (i := 6) (y := y28_6) (px_ret (i := 5) (y := y28_5) (px_ret (i := 4) (y := y28_4) (h3)))))))
theorem disp_4 {X0 X1 X2 : D} {num op : Int} {hp : Hp} (h : op = 4) : ∀ Q : Ex → St → Prop, RetT C28 y28_4 ⟨[X0, X1, X2, .ptr 0 0, .ptr 1 0, .ptr 2 0, .int .i64 0, .ptr 3 0, .fn (.func 38) [] [], .fn (.func 39) [] [.ptr 0 0, .ptr 1 0, .ptr 2 0], .int .i64 num, .undef, .undef, .undef, .undef, .undef, .undef, .int .i64 op, .bool false, .bool false, .bool false, .bool true, .undef, .undef, .undef, .undef, .undef, .undef, .undef, .undef, .undef, .undef], [], hp⟩ (Q .ret) → SWp C28 sw28 Q ⟨[X0, X1, X2, .ptr 0 0, .ptr 1 0, .ptr 2 0, .int .i64 0, .ptr 3 0, .fn (.func 38) [] [], .fn (.func 39) [] [.ptr 0 0, .ptr 1 0, .ptr 2 0], .int .i64 num, .undef, .undef, .undef, .undef, .undef, .undef, .int .i64 op, .undef, .undef, .undef, .undef, .undef, .undef, .undef, .undef, .undef, .undef, .undef, .undef, .undef, .undef], [], hp⟩ := by
  have e1 : (op == 1) = false := by simp [h]
  have e2 : (op == 2) = false := by simp [h]
  have e3 : (op == 3) = false := by simp [h]
  have e4 : (op == 4) = true := by simp [h]
  have h0 : ∀ Q : Ex → St → Prop, Q (.exit 4) ⟨[X0, X1, X2, .ptr 0 0, .ptr 1 0, .ptr 2 0, .int .i64 0, .ptr 3 0, .fn (.func 38) [] [], .fn (.func 39) [] [.ptr 0 0, .ptr 1 0, .ptr 2 0], .int .i64 num, .undef, .undef, .undef, .undef, .undef, .undef, .int .i64 op, .bool false, .bool false, .bool false, .bool true, .undef, .undef, .undef, .undef, .undef, .undef, .undef, .undef, .undef, .undef], [], hp⟩ → SWp C28 x28 Q ⟨[X0, X1, X2, .ptr 0 0, .ptr 1 0, .ptr 2 0, .int .i64 0, .ptr 3 0, .fn (.func 38) [] [], .fn (.func 39) [] [.ptr 0 0, .ptr 1 0, .ptr 2 0], .int .i64 num, .undef, .undef, .undef, .undef, .undef, .undef, .int .i64 op, .undef, .undef, .undef, .undef, .undef, .undef, .undef, .undef, .undef, .undef, .undef, .undef, .undef, .undef], [], hp⟩ := by
    intro Q hQ
    unfold x28
    repeat' (first
    | with_reducible first | apply swp_seq | apply swp_reg | apply swp_regD | apply swp_block | apply swp_exit | apply swp_ret | apply swp_skip | apply swp_cd
    | simp only [go_sem, seval, P28, q28, e1, e2, e3, e4]
    | with_reducible first | apply cd_dec | apply cd_eq | apply cd_ne | apply cd_split
    | ((with_reducible refine And.intro ?hw ?_); (case hw => first | omega | rfl | exact ⟨_, _, rfl⟩ | assumption | (simp only [lN] <;> omega)))
    | with_reducible intro _)
    exact hQ
  have h2 := px_hit (i := 4) (y := y28_4) (px_pass (i := 3) (y := y28_3) (by decide) (px_pass (i := 2) (y := y28_2) (by decide) (px_pass (i := 1) (y := y28_1) (by decide) (h0))))
  have h3 := ret_t h2
  exact px_top (px_ret (i := 9) (y := y28_9) (px_ret (i := 8) (y := y28_8) (px_ret (i := 7) (y := y28_7) (px_ret (i := 6) (y := y28_6) (px_ret (i := 5) (y := y28_5) (h3))))))
theorem disp_5 {X0 X1 X2 : D} {num op more : Int} {hp : Hp} (h : op = 5) (h19 : ∀ Q : Ex → St → Prop, Q .normal ⟨[X0, X1, X2, .ptr 0 0, .ptr 1 0, .ptr 2 0, .int .i64 0, .ptr 3 0, .fn (.func 38) [] [], .fn (.func 39) [] [.ptr 0 0, .ptr 1 0, .ptr 2 0], .int .i64 more, .undef, .undef, .undef, .undef, .undef, .undef, .int .i64 op, .bool false, .bool false, .bool false, .bool false, .bool true, .undef, .undef, .undef, .undef, .undef, .undef, .undef, .undef, .undef], [], hp⟩ → SWp C28 y28_5 Q ⟨[X0, X1, X2, .ptr 0 0, .ptr 1 0, .ptr 2 0, .int .i64 0, .ptr 3 0, .fn (.func 38) [] [], .fn (.func 39) [] [.ptr 0 0, .ptr 1 0, .ptr 2 0], .int .i64 num, .undef, .undef, .undef, .undef, .undef, .undef, .int .i64 op, .bool false, .bool false, .bool false, .bool false, .bool true, .undef, .undef, .undef, .undef, .undef, .undef, .undef, .undef, .undef], [], hp⟩) : ∀ Q : Ex → St → Prop, RetT C28 y28_6 ⟨[X0, X1, X2, .ptr 0 0, .ptr 1 0, .ptr 2 0, .int .i64 0, .ptr 3 0, .fn (.func 38) [] [], .fn (.func 39) [] [.ptr 0 0, .ptr 1 0, .ptr 2 0], .int .i64 more, .undef, .undef, .undef, .undef, .undef, .undef, .int .i64 op, .bool false, .bool false, .bool false, .bool false, .bool true, .undef, .undef, .undef, .undef, .undef, .undef, .undef, .undef, .undef], [], hp⟩ (Q .ret) → SWp C28 sw28 Q ⟨[X0, X1, X2, .ptr 0 0, .ptr 1 0, .ptr 2 0, .int .i64 0, .ptr 3 0, .fn (.func 38) [] [], .fn (.func 39) [] [.ptr 0 0, .ptr 1 0, .ptr 2 0], .int .i64 num, .undef, .undef, .undef, .undef, .undef, .undef, .int .i64 op, .undef, .undef, .undef, .undef, .undef, .undef, .undef, .undef, .undef, .undef, .undef, .undef, .undef, .undef], [], hp⟩ := by
  have e1 : (op == 1) = false := by simp [h]
  have e2 : (op == 2) = false := by simp [h]
  have e3 : (op == 3) = false := by simp [h]
  have e4 : (op == 4) = false := by simp [h]
  have e5 : (op == 5) = true := by simp [h]
  have h0 : ∀ Q : Ex → St → Prop, Q (.exit 5) ⟨[X0, X1, X2, .ptr 0 0, .ptr 1 0, .ptr 2 0, .int .i64 0, .ptr 3 0, .fn (.func 38) [] [], .fn (.func 39) [] [.ptr 0 0, .ptr 1 0, .ptr 2 0], .int .i64 num, .undef, .undef, .undef, .undef, .undef, .undef, .int .i64 op, .bool false, .bool false, .bool false, .bool false, .bool true, .undef, .undef, .undef, .undef, .undef, .undef, .undef, .undef, .undef], [], hp⟩ → SWp C28 x28 Q ⟨[X0, X1, X2, .ptr 0 0, .ptr 1 0, .ptr 2 0, .int .i64 0, .ptr 3 0, .fn (.func 38) [] [], .fn (.func 39) [] [.ptr 0 0, .ptr 1 0, .ptr 2 0], .int .i64 num, .undef, .undef, .undef, .undef, .undef, .undef, .int .i64 op, .undef, .undef, .undef, .undef, .undef, .undef, .undef, .undef, .undef, .undef, .undef, .undef, .undef, .undef], [], hp⟩ := by
    intro Q hQ
    unfold x28
    repeat' (first
    | with_reducible first | apply swp_seq | apply swp_reg | apply swp_regD | apply swp_block | apply swp_exit | apply swp_ret | apply swp_skip | apply swp_cd
    | simp only [go_sem, seval, P28, q28, e1, e2, e3, e4, e5]
    | with_reducible first | apply cd_dec | apply cd_eq | apply cd_ne | apply cd_split
    | ((with_reducible refine And.intro ?hw ?_); (case hw => first | omega | rfl | exact ⟨_, _, rfl⟩ | assumption | (simp only [lN] <;> omega)))
    | with_reducible intro _)
    exact hQ
  have h1 : ∀ Q : Ex → St → Prop, SWp C28 y28_5 Q _ → _ := px_hit (i := 5) (y := y28_5) (px_pass (i := 4) (y := y28_4) (by decide) (px_pass (i := 3) (y := y28_3) (by decide) (px_pass (i := 2) (y := y28_2) (by decide) (px_pass (i := 1) (y := y28_1) (by decide) (h0)))))
  have h2 := px_norm (i := 6) (y := y28_6) (fun Q hq => h1 Q (h19 Q hq))
  have h3 := ret_t h2
  exact px_top (px_ret (i := 9) (y := y28_9) (px_ret (i := 8) (y := y28_8) (px_ret (i := 7) (y := y28_7) (h3))))
theorem disp_6 {X0 X1 X2 : D} {num op : Int} {hp : Hp} (h : op = 6) : ∀ Q : Ex → St → Prop, RetT C28 y28_6 ⟨[X0, X1, X2, .ptr 0 0, .ptr 1 0, .ptr 2 0, .int .i64 0, .ptr 3 0, .fn (.func 38) [] [], .fn (.func 39) [] [.ptr 0 0, .ptr 1 0, .ptr 2 0], .int .i64 num, .undef, .undef, .undef, .undef, .undef, .undef, .int .i64 op, .bool false, .bool false, .bool false, .bool false, .bool false, .bool true, .undef, .undef, .undef, .undef, .undef, .undef, .undef, .undef], [], hp⟩ (Q .ret) → SWp C28 sw28 Q ⟨[X0, X1, X2, .ptr 0 0, .ptr 1 0, .ptr 2 0, .int .i64 0, .ptr 3 0, .fn (.func 38) [] [], .fn (.func 39) [] [.ptr 0 0, .ptr 1 0, .ptr 2 0], .int .i64 num, .undef, .undef, .undef, .undef, .undef, .undef, .int .i64 op, .undef, .undef, .undef, .undef, .undef, .undef, .undef, .undef, .undef, .undef, .undef, .undef, .undef, .undef], [], hp⟩ := by
  have e1 : (op == 1) = false := by simp [h]
  have e2 : (op == 2) = false := by simp [h]
  have e3 : (op == 3) = false := by simp [h]
  have e4 : (op == 4) = false := by simp [h]
  have e5 : (op == 5) = false := by simp [h]
  have e6 : (op == 6) = true := by simp [h]
  have h0 : ∀ Q : Ex → St → Prop, Q (.exit 6) ⟨[X0, X1, X2, .ptr 0 0, .ptr 1 0, .ptr 2 0, .int .i64 0, .ptr 3 0, .fn (.func 38) [] [], .fn (.func 39) [] [.ptr 0 0, .ptr 1 0, .ptr 2 0], .int .i64 num, .undef, .undef, .undef, .undef, .undef, .undef, .int .i64 op, .bool false, .bool false, .bool false, .bool false, .bool false, .bool true, .undef, .undef, .undef, .undef, .undef, .undef, .undef, .undef], [], hp⟩ → SWp C28 x28 Q ⟨[X0, X1, X2, .ptr 0 0, .ptr 1 0, .ptr 2 0, .int .i64 0, .ptr 3 0, .fn (.func 38) [] [], .fn (.func 39) [] [.ptr 0 0, .ptr 1 0, .ptr 2 0], .int .i64 num, .undef, .undef, .undef, .undef, .undef, .undef, .int .i64 op, .undef, .undef, .undef, .undef, .undef, .undef, .undef, .undef, .undef, .undef, .undef, .undef, .undef, .undef], [], hp⟩ := by
    intro Q hQ
    unfold x28
    repeat' (first
    | with_reducible first | apply swp_seq | apply swp_reg | apply swp_regD | apply swp_block | apply swp_exit | apply swp_ret | apply swp_skip | apply swp_cd
    | simp only [go_sem, seval, P28, q28, e1, e2, e3, e4, e5, e6]
    | with_reducible first | apply cd_dec | apply cd_eq | apply cd_ne | apply cd_split
    | ((with_reducible refine And.intro ?hw ?_); (case hw => first | omega | rfl | exact ⟨_, _, rfl⟩ | assumption | (simp only [lN] <;> omega)))
    | with_reducible intro _)
    exact hQ
  have h2 := px_hit (i := 6) (y := y28_6) (px_pass (i := 5) (y := y28_5) (by decide) (px_pass (i := 4) (y := y28_4) (by decide) (px_pass (i := 3) (y := y28_3) (by decide) (px_pass (i := 2) (y := y28_2) (by decide) (px_pass (i := 1) (y := y28_1) (by decide) (h0))))))
  have h3 := ret_t h2
  exact px_top (px_ret (i := 9) (y := y28_9) (px_ret (i := 8) (y := y28_8) (px_ret (i := 7) (y := y28_7) (h3))))
theorem disp_7 {X0 X1 X2 : D} {num op : Int} {hp : Hp} (h : op = 7) : ∀ Q : Ex → St → Prop, RetT C28 y28_7 ⟨[X0, X1, X2, .ptr 0 0, .ptr 1 0, .ptr 2 0, .int .i64 0, .ptr 3 0, .fn (.func 38) [] [], .fn (.func 39) [] [.ptr 0 0, .ptr 1 0, .ptr 2 0], .int .i64 num, .undef, .undef, .undef, .undef, .undef, .undef, .int .i64 op, .bool false, .bool false, .bool false, .bool false, .bool false, .bool false, .bool true, .undef, .undef, .undef, .undef, .undef, .undef, .undef], [], hp⟩ (Q .ret) → SWp C28 sw28 Q ⟨[X0, X1, X2, .ptr 0 0, .ptr 1 0, .ptr 2 0, .int .i64 0, .ptr 3 0, .fn (.func 38) [] [], .fn (.func 39) [] [.ptr 0 0, .ptr 1 0, .ptr 2 0], .int .i64 num, .undef, .undef, .undef, .undef, .undef, .undef, .int .i64 op, .undef, .undef, .undef, .undef, .undef, .undef, .undef, .undef, .undef, .undef, .undef, .undef, .undef, .undef], [], hp⟩ := by
  have e1 : (op == 1) = false := by simp [h]
  have e2 : (op == 2) = false := by simp [h]
  have e3 : (op == 3) = false := by simp [h]
  have e4 : (op == 4) = false := by simp [h]
  have e5 : (op == 5) = false := by simp [h]
  have e6 : (op == 6) = false := by simp [h]
  have e7 : (op == 7) = true := by simp [h]
  have h0 : ∀ Q : Ex → St → Prop, Q (.exit 7) ⟨[X0, X1, X2, .ptr 0 0, .ptr 1 0, .ptr 2 0, .int .i64 0, .ptr 3 0, .fn (.func 38) [] [], .fn (.func 39) [] [.ptr 0 0, .ptr 1 0, .ptr 2 0], .int .i64 num, .undef, .undef, .undef, .undef, .undef, .undef, .int .i64 op, .bool false, .bool false, .bool false, .bool false, .bool false, .bool false, .bool true, .undef, .undef, .undef, .undef, .undef, .undef, .undef], [], hp⟩ → SWp C28 x28 Q ⟨[X0, X1, X2, .ptr 0 0, .ptr 1 0, .ptr 2 0, .int .i64 0, .ptr 3 0, .fn (.func 38) [] [], .fn (.func 39) [] [.ptr 0 0, .ptr 1 0, .ptr 2 0], .int .i64 num, .undef, .undef, .undef, .undef, .undef, .undef, .int .i64 op, .undef, .undef, .undef, .undef, .undef, .undef, .undef, .undef, .undef, .undef, .undef, .undef, .undef, .undef], [], hp⟩ := by
    intro Q hQ
    unfold x28
    repeat' (first
    | with_reducible first | apply swp_seq | apply swp_reg | apply swp_regD | apply swp_block | apply swp_exit | apply swp_ret | apply swp_skip | apply swp_cd
    | simp only [go_sem, seval, P28, q28, e1, e2, e3, e4, e5, e6, e7]
    | with_reducible first | apply cd_dec | apply cd_eq | apply cd_ne | apply cd_split
    | ((with_reducible refine And.intro ?hw ?_); (case hw => first | omega | rfl | exact ⟨_, _, rfl⟩ | assumption | (simp only [lN] <;> omega)))
    | with_reducible intro _)
    exact hQ
  have h2 := px_hit (i := 7) (y := y28_7) (px_pass (i := 6) (y := y28_6) (by decide) (px_pass (i := 5) (y := y28_5) (by decide) (px_pass (i := 4) (y := y28_4) (by decide) (px_pass (i := 3) (y := y28_3) (by decide) (px_pass (i := 2) (y := y28_2) (by decide) (px_pass (i := 1) (y := y28_1) (by decide) (h0)))))))
  have h3 := ret_t h2
  exact px_top (px_ret (i := 9) (y := y28_9) (px_ret (i := 8) (y := y28_8) (h3)))
theorem disp_8 {X0 X1 X2 : D} {num op : Int} {hp : Hp} (h : op = 8) : ∀ Q : Ex → St → Prop, RetT C28 y28_8 ⟨[X0, X1, X2, .ptr 0 0, .ptr 1 0, .ptr 2 0, .int .i64 0, .ptr 3 0, .fn (.func 38) [] [], .fn (.func 39) [] [.ptr 0 0, .ptr 1 0, .ptr 2 0], .int .i64 num, .undef, .undef, .undef, .undef, .undef, .undef, .int .i64 op, .bool false, .bool false, .bool false, .bool false, .bool false, .bool false, .bool false, .bool true, .undef, .undef, .undef, .undef, .undef, .undef], [], hp⟩ (Q .ret) → SWp C28 sw28 Q ⟨[X0, X1, X2, .ptr 0 0, .ptr 1 0, .ptr 2 0, .int .i64 0, .ptr 3 0, .fn (.func 38) [] [], .fn (.func 39) [] [.ptr 0 0, .ptr 1 0, .ptr 2 0], .int .i64 num, .undef, .undef, .undef, .undef, .undef, .undef, .int .i64 op, .undef, .undef, .undef, .undef, .undef, .undef, .undef, .undef, .undef, .undef, .undef, .undef, .undef, .undef], [], hp⟩ := by
  have e1 : (op == 1) = false := by simp [h]
  have e2 : (op == 2) = false := by simp [h]
  have e3 : (op == 3) = false := by simp [h]
  have e4 : (op == 4) = false := by simp [h]
  have e5 : (op == 5) = false := by simp [h]
  have e6 : (op == 6) = false := by simp [h]
  have e7 : (op == 7) = false := by simp [h]
  have e8 : (op == 8) = true := by simp [h]
  have h0 : ∀ Q : Ex → St → Prop, Q (.exit 8) ⟨[X0, X1, X2, .ptr 0 0, .ptr 1 0, .ptr 2 0, .int .i64 0, .ptr 3 0, .fn (.func 38) [] [], .fn (.func 39) [] [.ptr 0 0, .ptr 1 0, .ptr 2 0], .int .i64 num, .undef, .undef, .undef, .undef, .undef, .undef, .int .i64 op, .bool false, .bool false, .bool false, .bool false, .bool false, .bool false, .bool false, .bool true, .undef, .undef, .undef, .undef, .undef, .undef], [], hp⟩ → SWp C28 x28 Q ⟨[X0, X1, X2, .ptr 0 0, .ptr 1 0, .ptr 2 0, .int .i64 0, .ptr 3 0, .fn (.func 38) [] [], .fn (.func 39) [] [.ptr 0 0, .ptr 1 0, .ptr 2 0], .int .i64 num, .undef, .undef, .undef, .undef, .undef, .undef, .int .i64 op, .undef, .undef, .undef, .undef, .undef, .undef, .undef, .undef, .undef, .undef, .undef, .undef, .undef, .undef], [], hp⟩ := by
    intro Q hQ
    unfold x28
    repeat' (first
    | with_reducible first | apply swp_seq | apply swp_reg | apply swp_regD | apply swp_block | apply swp_exit | apply swp_ret | apply swp_skip | apply swp_cd
    | simp only [go_sem, seval, P28, q28, e1, e2, e3, e4, e5, e6, e7, e8]
    | with_reducible first | apply cd_dec | apply cd_eq | apply cd_ne | apply cd_split
    | ((with_reducible refine And.intro ?hw ?_); (case hw => first | omega | rfl | exact ⟨_, _, rfl⟩ | assumption | (simp only [lN] <;> omega)))
    | with_reducible intro _)
    exact hQ
  have h2 := px_hit (i := 8) (y := y28_8) (px_pass (i := 7) (y := y28_7) (by decide) (px_pass (i := 6) (y := y28_6) (by decide) (px_pass (i := 5) (y := y28_5) (by decide) (px_pass (i := 4) (y := y28_4) (by decide) (px_pass (i := 3) (y := y28_3) (by decide) (px_pass (i := 2) (y := y28_2) (by decide) (px_pass (i := 1) (y := y28_1) (by decide) (h0))))))))
  have h3 := ret_t h2
  exact px_top (px_ret (i := 9) (y := y28_9) (h3))
theorem disp_9 {X0 X1 X2 : D} {num op : Int} {hp : Hp} (h : op = 9) : ∀ Q : Ex → St → Prop, RetT C28 y28_9 ⟨[X0, X1, X2, .ptr 0 0, .ptr 1 0, .ptr 2 0, .int .i64 0, .ptr 3 0, .fn (.func 38) [] [], .fn (.func 39) [] [.ptr 0 0, .ptr 1 0, .ptr 2 0], .int .i64 num, .undef, .undef, .undef, .undef, .undef, .undef, .int .i64 op, .bool false, .bool false, .bool false, .bool false, .bool false, .bool false, .bool false, .bool false, .bool true, .undef, .undef, .undef, .undef, .undef], [], hp⟩ (Q .ret) → SWp C28 sw28 Q ⟨[X0, X1, X2, .ptr 0 0, .ptr 1 0, .ptr 2 0, .int .i64 0, .ptr 3 0, .fn (.func 38) [] [], .fn (.func 39) [] [.ptr 0 0, .ptr 1 0, .ptr 2 0], .int .i64 num, .undef, .undef, .undef, .undef, .undef, .undef, .int .i64 op, .undef, .undef, .undef, .undef, .undef, .undef, .undef, .undef, .undef, .undef, .undef, .undef, .undef, .undef], [], hp⟩ := by
  have e1 : (op == 1) = false := by simp [h]
  have e2 : (op == 2) = false := by simp [h]
  have e3 : (op == 3) = false := by simp [h]
  have e4 : (op == 4) = false := by simp [h]
  have e5 : (op == 5) = false := by simp [h]
  have e6 : (op == 6) = false := by simp [h]
  have e7 : (op == 7) = false := by simp [h]
  have e8 : (op == 8) = false := by simp [h]
  have e9 : (op == 9) = true := by simp [h]
  have h0 : ∀ Q : Ex → St → Prop, Q (.exit 9) ⟨[X0, X1, X2, .ptr 0 0, .ptr 1 0, .ptr 2 0, .int .i64 0, .ptr 3 0, .fn (.func 38) [] [], .fn (.func 39) [] [.ptr 0 0, .ptr 1 0, .ptr 2 0], .int .i64 num, .undef, .undef, .undef, .undef, .undef, .undef, .int .i64 op, .bool false, .bool false, .bool false, .bool false, .bool false, .bool false, .bool false, .bool false, .bool true, .undef, .undef, .undef, .undef, .undef], [], hp⟩ → SWp C28 x28 Q ⟨[X0, X1, X2, .ptr 0 0, .ptr 1 0, .ptr 2 0, .int .i64 0, .ptr 3 0, .fn (.func 38) [] [], .fn (.func 39) [] [.ptr 0 0, .ptr 1 0, .ptr 2 0], .int .i64 num, .undef, .undef, .undef, .undef, .undef, .undef, .int .i64 op, .undef, .undef, .undef, .undef, .undef, .undef, .undef, .undef, .undef, .undef, .undef, .undef, .undef, .undef], [], hp⟩ := by
    intro Q hQ
    unfold x28
    repeat' (first
    | with_reducible first | apply swp_seq | apply swp_reg | apply swp_regD | apply swp_block | apply swp_exit | apply swp_ret | apply swp_skip | apply swp_cd
    | simp only [go_sem, seval, P28, q28, e1, e2, e3, e4, e5, e6, e7, e8, e9]
    | with_reducible first | apply cd_dec | apply cd_eq | apply cd_ne | apply cd_split
    | ((with_reducible refine And.intro ?hw ?_); (case hw => first | omega | rfl | exact ⟨_, _, rfl⟩ | assumption | (simp only [lN] <;> omega)))
    | with_reducible intro _)
    exact hQ
  have h2 := px_hit (i := 9) (y := y28_9) (px_pass (i := 8) (y := y28_8) (by decide) (px_pass (i := 7) (y := y28_7) (by decide) (px_pass (i := 6) (y := y28_6) (by decide) (px_pass (i := 5) (y := y28_5) (by decide) (px_pass (i := 4) (y := y28_4) (by decide) (px_pass (i := 3) (y := y28_3) (by decide) (px_pass (i := 2) (y := y28_2) (by decide) (px_pass (i := 1) (y := y28_1) (by decide) (h0)))))))))
  have h3 := ret_t h2
  exact px_top (h3)
theorem disp_0 {X0 X1 X2 : D} {num op : Int} {hp : Hp} (h : 10 ≤ op) : ∀ Q : Ex → St → Prop, Q .normal ⟨[X0, X1, X2, .ptr 0 0, .ptr 1 0, .ptr 2 0, .int .i64 0, .ptr 3 0, .fn (.func 38) [] [], .fn (.func 39) [] [.ptr 0 0, .ptr 1 0, .ptr 2 0], .int .i64 num, .undef, .undef, .undef, .undef, .undef, .undef, .int .i64 op, .bool false, .bool false, .bool false, .bool false, .bool false, .bool false, .bool false, .bool false, .bool false, .undef, .undef, .undef, .undef, .undef], [], hp⟩ → SWp C28 sw28 Q ⟨[X0, X1, X2, .ptr 0 0, .ptr 1 0, .ptr 2 0, .int .i64 0, .ptr 3 0, .fn (.func 38) [] [], .fn (.func 39) [] [.ptr 0 0, .ptr 1 0, .ptr 2 0], .int .i64 num, .undef, .undef, .undef, .undef, .undef, .undef, .int .i64 op, .undef, .undef, .undef, .undef, .undef, .undef, .undef, .undef, .undef, .undef, .undef, .undef, .undef, .undef], [], hp⟩ := by
  have e1 : (op == 1) = false := by simp; omega
  have e2 : (op == 2) = false := by simp; omega
  have e3 : (op == 3) = false := by simp; omega
  have e4 : (op == 4) = false := by simp; omega
  have e5 : (op == 5) = false := by simp; omega
  have e6 : (op == 6) = false := by simp; omega
  have e7 : (op == 7) = false := by simp; omega
  have e8 : (op == 8) = false := by simp; omega
  have e9 : (op == 9) = false := by simp; omega
  have h0 : ∀ Q : Ex → St → Prop, Q (.exit 0) ⟨[X0, X1, X2, .ptr 0 0, .ptr 1 0, .ptr 2 0, .int .i64 0, .ptr 3 0, .fn (.func 38) [] [], .fn (.func 39) [] [.ptr 0 0, .ptr 1 0, .ptr 2 0], .int .i64 num, .undef, .undef, .undef, .undef, .undef, .undef, .int .i64 op, .bool false, .bool false, .bool false, .bool false, .bool false, .bool false, .bool false, .bool false, .bool false, .undef, .undef, .undef, .undef, .undef], [], hp⟩ → SWp C28 x28 Q ⟨[X0, X1, X2, .ptr 0 0, .ptr 1 0, .ptr 2 0, .int .i64 0, .ptr 3 0, .fn (.func 38) [] [], .fn (.func 39) [] [.ptr 0 0, .ptr 1 0, .ptr 2 0], .int .i64 num, .undef, .undef, .undef, .undef, .undef, .undef, .int .i64 op, .undef, .undef, .undef, .undef, .undef, .undef, .undef, .undef, .undef, .undef, .undef, .undef, .undef, .undef], [], hp⟩ := by
    intro Q hQ
    unfold x28
    repeat' (first
    | with_reducible first | apply swp_seq | apply swp_reg | apply swp_regD | apply swp_block | apply swp_exit | apply swp_ret | apply swp_skip | apply swp_cd
    | simp only [go_sem, seval, P28, q28, e1, e2, e3, e4, e5, e6, e7, e8, e9]
    | with_reducible first | apply cd_dec | apply cd_eq | apply cd_ne | apply cd_split
    | ((with_reducible refine And.intro ?hw ?_); (case hw => first | omega | rfl | exact ⟨_, _, rfl⟩ | assumption | (simp only [lN] <;> omega)))
    | with_reducible intro _)
    exact hQ
  exact px_out (px_pass (i := 9) (y := y28_9) (by decide) (px_pass (i := 8) (y := y28_8) (by decide) (px_pass (i := 7) (y := y28_7) (by decide) (px_pass (i := 6) (y := y28_6) (by decide) (px_pass (i := 5) (y := y28_5) (by decide) (px_pass (i := 4) (y := y28_4) (by decide) (px_pass (i := 3) (y := y28_3) (by decide) (px_pass (i := 2) (y := y28_2) (by decide) (px_pass (i := 1) (y := y28_1) (by decide) (h0))))))))))
abbrev askP (s : List Pt) (day : Int) (x : X) (part : List UInt8) : Hp := ⟨[.cells [partsD s, .int .i64 day], .cells x.cells, .cells [.str part], .cells (find0 s part).cells], []⟩
theorem ask_pre (s : List Pt) (hs : Sok s) (day : Int) (x : X) (part : List UInt8) (Q : Ex → St → Prop) (h : SWp C28 sw28 (fun e s' => match e with | .normal => SWp C28 rest28 Q s' | e => Q e s') ⟨[askerD s day, .agg x.cells, .str part, .ptr 0 0, .ptr 1 0, .ptr 2 0, .int .i64 0, .ptr 3 0, .fn (.func 38) [] [], .fn (.func 39) [] [.ptr 0 0, .ptr 1 0, .ptr 2 0], .int .i64 x.num, .undef, .undef, .undef, .undef, .undef, .undef, .int .i64 x.op, .undef, .undef, .undef, .undef, .undef, .undef, .undef, .undef, .undef, .undef, .undef, .undef, .undef, .undef], [], askP s day x part⟩) :
    SWp C28 c28 Q ⟨[askerD s day, .agg x.cells, .str part, .undef, .undef, .undef, .undef, .undef, .undef, .undef, .undef, .undef, .undef, .undef, .undef, .undef, .undef, .undef, .undef, .undef, .undef, .undef, .undef, .undef, .undef, .undef, .undef, .undef, .undef, .undef, .undef, .undef], [], ⟨[], []⟩⟩ := by
  have cf := find_p s (by have := hs.len; omega) part
  have hcl := cl_parts s
  have her := erL_P s
  unfold ptD at cf
  rw [c28_eq]
  unfold askP at h
  generalize sw28 = SW at *
  generalize rest28 = RS at *
  repeat' (first
    | with_reducible first | apply swp_seq | apply swp_reg | apply swp_regD | apply swp_block | apply swp_exit | apply swp_ret | apply swp_skip | apply swp_cd
    | simp only [go_sem, seval, P28, q28]
    | ((with_reducible refine o_call (cf) ?he ?hc ?_); (case he | hc => first | rfl | (simp [D.erL, D.er, D.closedL, D.closed, hcl, her]; done)))
    | with_reducible first | apply cd_dec | apply cd_eq | apply cd_ne | apply cd_split
    | ((with_reducible refine And.intro ?hw ?_); (case hw => first | omega | rfl | exact ⟨_, _, rfl⟩ | assumption | (simp only [lN, hcl, her] <;> omega)))
    | with_reducible intro _)
  exact h
def IH (s : List Pt) (day : Int) (x : X) : Prop := ∀ y ∈ x.kids, ∀ q : List UInt8, Pur M 28 [askerD s day, y.d, .str q] (.int .i64 (ask s day y q))
theorem ask_eq (s : List Pt) (day : Int) (x : X) (part : List UInt8) : ask s day x part = askN s day x.op x.nam x.val x.num x.ext (x.kids.map (ask s day)) part := by
  cases x; rw [ask, askL_map]; rfl
theorem ask_go {s : List Pt} {day : Int} {x : X} {part : List UInt8} {v : Int} (e : ask s day x part = v) (h : Pur M 28 [askerD s day, .agg x.cells, .str part] (.int .i64 v)) : Pur M 28 [askerD s day, x.d, .str part] (.int .i64 (ask s day x part)) := by
  rw [X.d_eq, e]; exact h
theorem ask_1 (s : List Pt) (hs : Sok s) (day : Int) (x : X) (hsm : x.sm) (hw : well x = true) (ih : IH s day x) (part : List UInt8) (hop : x.op = 1) : Pur M 28 [askerD s day, x.d, .str part] (.int .i64 (ask s day x part)) := by
  obtain ⟨s1, s2, s3, s4⟩ := X.sm_parts hsm
  have hno := hw
  rw [X.well_eq, Bool.and_eq_true] at hno
  have hno := hno.1
  rw [hop] at hno
  obtain ⟨f1, f2, f3⟩ := hs.find part
  have hcl := cl_parts s
  have her := erL_P s
  have hkl : (x.kids.map X.d).length = x.kids.length := by simp
  refine ask_go (v := 2) ?_ ?_
  · rw [ask_eq, hop]; rfl
  refine ok28 rfl ?_
  rw [i28]
  refine ask_pre s hs day x part _ ?_
  refine disp_1 hop _ ?_
  unfold RetT y28_1
  unfold askP
  repeat' (first
    | with_reducible first | apply swp_seq | apply swp_reg | apply swp_regD | apply swp_block | apply swp_exit | apply swp_ret | apply swp_skip | apply swp_cd
    | simp only [go_sem, seval, P28, q28]
    | with_reducible first | apply cd_dec | apply cd_eq | apply cd_ne | apply cd_split
    | ((with_reducible refine And.intro ?hw ?_); (case hw => first | omega | rfl | exact ⟨_, _, rfl⟩ | assumption | (simp only [lN, hcl, her] <;> omega)))
    | with_reducible intro _)
  all_goals first | omega | (simp_all [D.closed, D.er, D.closedL, D.erL, setL]; done) | (simp_all [D.closed, D.er, D.closedL, D.erL, setL] <;> omega)
theorem ask_2 (s : List Pt) (hs : Sok s) (day : Int) (x : X) (hsm : x.sm) (hw : well x = true) (ih : IH s day x) (part : List UInt8) (hop : x.op = 2) : Pur M 28 [askerD s day, x.d, .str part] (.int .i64 (ask s day x part)) := by
  obtain ⟨s1, s2, s3, s4⟩ := X.sm_parts hsm
  have hno := hw
  rw [X.well_eq, Bool.and_eq_true] at hno
  have hno := hno.1
  rw [hop] at hno
  obtain ⟨f1, f2, f3⟩ := hs.find part
  have hcl := cl_parts s
  have her := erL_P s
  have hkl : (x.kids.map X.d).length = x.kids.length := by simp
  have hkn : x.kids.length = 1 := by
    simp [nodeOk] at hno
    exact hno.1.1.1.1
  have c1 := kid39 s day x part 0 (by omega) (ih _ (List.getElem_mem (by omega)) part)
  have c2 := not_p (ask s day (x.kids.getD 0 default) part)
  unfold askH at c1
  have hval : ∀ y, x.kids = [y] → x.kids.getD 0 default = y := fun y h => by rw [h]; rfl
  refine ask_go (v := notT (ask s day (x.kids.getD 0 default) part)) ?_ ?_
  · rw [ask_eq, hop]; obtain ⟨y, hy⟩ := List.length_eq_one_iff.1 hkn; rw [hval y hy, hy]; rfl
  refine ok28 rfl ?_
  rw [i28]
  refine ask_pre s hs day x part _ ?_
  refine disp_2 hop _ ?_
  unfold RetT y28_2
  unfold askP
  repeat' (first
    | with_reducible first | apply swp_seq | apply swp_reg | apply swp_regD | apply swp_block | apply swp_exit | apply swp_ret | apply swp_skip | apply swp_cd
    | simp only [go_sem, seval, P28, q28]
    | ((with_reducible refine o_eff [0, 1, 2] [] (c1) ?hs ?he ?hh ?_); (case hs => exact ⟨by simp, by simp, by simp, by simp⟩); (case he => first | rfl | (simp [go_sem, seval, hcl, her, D.rnL, D.rn, posF, Hp.sel, Blk.rnL, Blk.rn, Tv.rnL, idx, Own.rn, Hp.back, putAt, bakF]; done)); (case hh => first | rfl | (simp [go_sem, seval, hcl, her, D.rnL, D.rn, posF, Hp.sel, Blk.rnL, Blk.rn, Tv.rnL, idx, Own.rn, Hp.back, putAt, bakF]; done)); rintro _ _ ⟨rfl, rfl⟩)
    | ((with_reducible refine o_call (c2) ?he ?hc ?_); (case he | hc => first | rfl | (simp [D.erL, D.er, D.closedL, D.closed, hcl, her, D.rnL, D.rn, posF, Hp.sel, Blk.rnL, Blk.rn, Tv.rnL, idx, Own.rn, Hp.back, putAt, bakF]; done)))
    | with_reducible first | apply cd_dec | apply cd_eq | apply cd_ne | apply cd_split
    | ((with_reducible refine And.intro ?hw ?_); (case hw => first | omega | rfl | exact ⟨_, _, rfl⟩ | assumption | (simp only [lN, hcl, her, D.rnL, D.rn, posF, Hp.sel, Blk.rnL, Blk.rn, Tv.rnL, idx, Own.rn, Hp.back, putAt, bakF] <;> omega)))
    | with_reducible intro _)
  all_goals first | omega | (simp_all [D.closed, D.er, D.closedL, D.erL, setL]; done) | (simp_all [D.closed, D.er, D.closedL, D.erL, setL] <;> omega)
theorem ask_3 (s : List Pt) (hs : Sok s) (day : Int) (x : X) (hsm : x.sm) (hw : well x = true) (ih : IH s day x) (part : List UInt8) (hop : x.op = 3) : Pur M 28 [askerD s day, x.d, .str part] (.int .i64 (ask s day x part)) := by
  obtain ⟨s1, s2, s3, s4⟩ := X.sm_parts hsm
  have hno := hw
  rw [X.well_eq, Bool.and_eq_true] at hno
  have hno := hno.1
  rw [hop] at hno
  obtain ⟨f1, f2, f3⟩ := hs.find part
  have hcl := cl_parts s
  have her := erL_P s
  have hkl : (x.kids.map X.d).length = x.kids.length := by simp
  have c1 := fold38 15 39 [.ptr 0 0, .ptr 1 0, .ptr 2 0] (askH s day x part) andT (fun i => ask s day (x.kids.getD i default) part) 2 x.kids.length (by omega) and_p (fun i hi => kid39 s day x part i hi (ih _ (List.getElem_mem hi) part))
  have hfr := foldl_range andT (fun y => ask s day y part) x.kids 2
  unfold askH at c1
  refine ask_go (v := (List.range x.kids.length).foldl (fun a i => andT a (ask s day (x.kids.getD i default) part)) 2) ?_ ?_
  · rw [ask_eq, hop]; rw [hfr]; simp only [askN]; simp [List.foldl_map]
  refine ok28 rfl ?_
  rw [i28]
  refine ask_pre s hs day x part _ ?_
  refine disp_3 hop _ ?_
  unfold RetT y28_3
  unfold askP
  repeat' (first
    | with_reducible first | apply swp_seq | apply swp_reg | apply swp_regD | apply swp_block | apply swp_exit | apply swp_ret | apply swp_skip | apply swp_cd
    | simp only [go_sem, seval, P28, q28, hkl]
    | ((with_reducible refine o_eff [0, 1, 2] [] (c1) ?hs ?he ?hh ?_); (case hs => exact ⟨by simp, by simp, by simp, by simp⟩); (case he => first | rfl | (simp [go_sem, seval, hcl, her, D.rnL, D.rn, posF, Hp.sel, Blk.rnL, Blk.rn, Tv.rnL, idx, Own.rn, Hp.back, putAt, bakF, hkl]; done)); (case hh => first | rfl | (simp [go_sem, seval, hcl, her, D.rnL, D.rn, posF, Hp.sel, Blk.rnL, Blk.rn, Tv.rnL, idx, Own.rn, Hp.back, putAt, bakF, hkl]; done)); rintro _ _ ⟨rfl, rfl⟩)
    | with_reducible first | apply cd_dec | apply cd_eq | apply cd_ne | apply cd_split
    | ((with_reducible refine And.intro ?hw ?_); (case hw => first | omega | rfl | exact ⟨_, _, rfl⟩ | assumption | (simp only [lN, hcl, her, D.rnL, D.rn, posF, Hp.sel, Blk.rnL, Blk.rn, Tv.rnL, idx, Own.rn, Hp.back, putAt, bakF, hkl] <;> omega)))
    | with_reducible intro _)
  all_goals first | omega | (simp_all [D.closed, D.er, D.closedL, D.erL, setL]; done) | (simp_all [D.closed, D.er, D.closedL, D.erL, setL] <;> omega)
theorem ask_4 (s : List Pt) (hs : Sok s) (day : Int) (x : X) (hsm : x.sm) (hw : well x = true) (ih : IH s day x) (part : List UInt8) (hop : x.op = 4) : Pur M 28 [askerD s day, x.d, .str part] (.int .i64 (ask s day x part)) := by
  obtain ⟨s1, s2, s3, s4⟩ := X.sm_parts hsm
  have hno := hw
  rw [X.well_eq, Bool.and_eq_true] at hno
  have hno := hno.1
  rw [hop] at hno
  obtain ⟨f1, f2, f3⟩ := hs.find part
  have hcl := cl_parts s
  have her := erL_P s
  have hkl : (x.kids.map X.d).length = x.kids.length := by simp
  have c1 := fold38 16 39 [.ptr 0 0, .ptr 1 0, .ptr 2 0] (askH s day x part) orT (fun i => ask s day (x.kids.getD i default) part) 0 x.kids.length (by omega) or_p (fun i hi => kid39 s day x part i hi (ih _ (List.getElem_mem hi) part))
  have hfr := foldl_range orT (fun y => ask s day y part) x.kids 0
  unfold askH at c1
  refine ask_go (v := (List.range x.kids.length).foldl (fun a i => orT a (ask s day (x.kids.getD i default) part)) 0) ?_ ?_
  · rw [ask_eq, hop]; rw [hfr]; simp only [askN]; simp [List.foldl_map]
  refine ok28 rfl ?_
  rw [i28]
  refine ask_pre s hs day x part _ ?_
  refine disp_4 hop _ ?_
  unfold RetT y28_4
  unfold askP
  repeat' (first
    | with_reducible first | apply swp_seq | apply swp_reg | apply swp_regD | apply swp_block | apply swp_exit | apply swp_ret | apply swp_skip | apply swp_cd
    | simp only [go_sem, seval, P28, q28, hkl]
    | ((with_reducible refine o_eff [0, 1, 2] [] (c1) ?hs ?he ?hh ?_); (case hs => exact ⟨by simp, by simp, by simp, by simp⟩); (case he => first | rfl | (simp [go_sem, seval, hcl, her, D.rnL, D.rn, posF, Hp.sel, Blk.rnL, Blk.rn, Tv.rnL, idx, Own.rn, Hp.back, putAt, bakF, hkl]; done)); (case hh => first | rfl | (simp [go_sem, seval, hcl, her, D.rnL, D.rn, posF, Hp.sel, Blk.rnL, Blk.rn, Tv.rnL, idx, Own.rn, Hp.back, putAt, bakF, hkl]; done)); rintro _ _ ⟨rfl, rfl⟩)
    | with_reducible first | apply cd_dec | apply cd_eq | apply cd_ne | apply cd_split
    | ((with_reducible refine And.intro ?hw ?_); (case hw => first | omega | rfl | exact ⟨_, _, rfl⟩ | assumption | (simp only [lN, hcl, her, D.rnL, D.rn, posF, Hp.sel, Blk.rnL, Blk.rn, Tv.rnL, idx, Own.rn, Hp.back, putAt, bakF, hkl] <;> omega)))
    | with_reducible intro _)
  all_goals first | omega | (simp_all [D.closed, D.er, D.closedL, D.erL, setL]; done) | (simp_all [D.closed, D.er, D.closedL, D.erL, setL] <;> omega)
theorem ask_5 (s : List Pt) (hs : Sok s) (day : Int) (x : X) (hsm : x.sm) (hw : well x = true) (ih : IH s day x) (part : List UInt8) (hop : x.op = 5) : Pur M 28 [askerD s day, x.d, .str part] (.int .i64 (ask s day x part)) := by
  have hno := hw
  rw [X.well_eq, Bool.and_eq_true] at hno
  have hno := hno.1
  rw [hop] at hno
  obtain ⟨f1, f2, f3⟩ := hs.find part
  have hcl := cl_parts s
  have her := erL_P s
  have hpc := (cl_props (find0 s part).props).1
  have hpe := (cl_props (find0 s part).props).2
  have hnum : 0 ≤ x.num ∧ x.num ≤ 9999999 ∧ 0 ≤ x.ext ∧ x.ext ≤ 9999999 ∨ x.op ≠ 5 := by
    by_cases h5 : x.op = 5
    · rw [h5] at hop
      left
      have h5' : (5 : Int) = 5 := hop
      simp [nodeOk, numOk] at hno; omega
    · exact .inr h5
  have cv := value_p (find0 s part) x.nam day f3 f2
  have e6 : (x.op == 6) = false := by simp [hop]
  cases hv : lifeV (find0 s part) x.nam day with
  | none =>
    obtain ⟨l1, l2⟩ := lifeE_none hv
    have l3 : (lifeE x.nam day != 0) = true := by simp [l1]
    refine ask_go (v := 0) ?_ ?_
    · rw [ask_eq, hop]; simp only [askN]; simp [hv]
    refine ok28 rfl ?_
    rw [i28]
    refine ask_pre s hs day x part _ ?_
    refine disp_5 (more := x.num + x.ext) hop (fun Q hQ => ?_) _ ?_
    · unfold y28_5
      unfold askP
      repeat' (first
    | with_reducible first | apply swp_seq | apply swp_reg | apply swp_regD | apply swp_block | apply swp_exit | apply swp_ret | apply swp_skip | apply swp_cd
    | simp only [go_sem, seval, P28, q28]
    | simp (disch := omega) only [w64, w32, wu8, wu16, wu32, wu64]
    | with_reducible first | apply cd_dec | apply cd_eq | apply cd_ne | apply cd_split
    | ((with_reducible refine And.intro ?hw ?_); (case hw => first | omega | rfl | exact ⟨_, _, rfl⟩ | assumption | (simp only [lN] <;> omega)))
    | with_reducible intro _)
      exact hQ
    unfold RetT y28_6
    unfold askP
    rw [l2] at cv
    unfold ptD at cv
    repeat' (first
    | with_reducible first | apply swp_seq | apply swp_reg | apply swp_regD | apply swp_block | apply swp_exit | apply swp_ret | apply swp_skip | apply swp_cd
    | simp only [go_sem, seval, P28, q28, l3, e6]
    | ((with_reducible refine o_call (cv) ?he ?hc ?_); (case he | hc => first | rfl | (simp [D.erL, D.er, D.closedL, D.closed, hcl, her, hpc, hpe]; done)))
    | with_reducible first | apply cd_dec | apply cd_eq | apply cd_ne | apply cd_split
    | ((with_reducible refine And.intro ?hw ?_); (case hw => first | omega | rfl | exact ⟨_, _, rfl⟩ | assumption | (simp only [lN, hcl, her, hpc, hpe] <;> omega)))
    | with_reducible intro _)
    all_goals first | omega | (simp_all [D.closed, D.er, D.closedL, D.erL, setL]; done) | (simp_all [D.closed, D.er, D.closedL, D.erL, setL] <;> omega)
  | some v =>
    obtain ⟨l1, l2⟩ := lifeE_some hv
    have co := over_p v (x.num + x.ext)
    have cn := not_p (overT v (x.num + x.ext))
    refine ask_go (v := notT (overT v (x.num + x.ext))) ?_ ?_
    · rw [ask_eq, hop]; simp only [askN]; simp [hv]
    refine ok28 rfl ?_
    rw [i28]
    refine ask_pre s hs day x part _ ?_
    refine disp_5 (more := x.num + x.ext) hop (fun Q hQ => ?_) _ ?_
    · unfold y28_5
      unfold askP
      repeat' (first
    | with_reducible first | apply swp_seq | apply swp_reg | apply swp_regD | apply swp_block | apply swp_exit | apply swp_ret | apply swp_skip | apply swp_cd
    | simp only [go_sem, seval, P28, q28]
    | simp (disch := omega) only [w64, w32, wu8, wu16, wu32, wu64]
    | with_reducible first | apply cd_dec | apply cd_eq | apply cd_ne | apply cd_split
    | ((with_reducible refine And.intro ?hw ?_); (case hw => first | omega | rfl | exact ⟨_, _, rfl⟩ | assumption | (simp only [lN] <;> omega)))
    | with_reducible intro _)
      exact hQ
    unfold RetT y28_6
    unfold askP
    rw [l1, l2] at cv
    unfold ptD at cv
    generalize overT v (x.num + x.ext) = ov at *
    repeat' (first
    | with_reducible first | apply swp_seq | apply swp_reg | apply swp_regD | apply swp_block | apply swp_exit | apply swp_ret | apply swp_skip | apply swp_cd
    | simp only [go_sem, seval, P28, q28, e6]
    | ((with_reducible refine o_call (cv) ?he ?hc ?_); (case he | hc => first | rfl | (simp [D.erL, D.er, D.closedL, D.closed, hcl, her, hpc, hpe]; done)))
    | ((with_reducible refine o_call (co) ?he ?hc ?_); (case he | hc => first | rfl | (simp [D.erL, D.er, D.closedL, D.closed, hcl, her, hpc, hpe]; done)))
    | ((with_reducible refine o_call (cn) ?he ?hc ?_); (case he | hc => first | rfl | (simp [D.erL, D.er, D.closedL, D.closed, hcl, her, hpc, hpe]; done)))
    | with_reducible first | apply cd_dec | apply cd_eq | apply cd_ne | apply cd_split
    | ((with_reducible refine And.intro ?hw ?_); (case hw => first | omega | rfl | exact ⟨_, _, rfl⟩ | assumption | (simp only [lN, hcl, her, hpc, hpe] <;> omega)))
    | with_reducible intro _)
    all_goals first | omega | (simp_all [D.closed, D.er, D.closedL, D.erL, setL]; done) | (simp_all [D.closed, D.er, D.closedL, D.erL, setL] <;> omega)
theorem ask_6 (s : List Pt) (hs : Sok s) (day : Int) (x : X) (hsm : x.sm) (hw : well x = true) (ih : IH s day x) (part : List UInt8) (hop : x.op = 6) : Pur M 28 [askerD s day, x.d, .str part] (.int .i64 (ask s day x part)) := by
  have hno := hw
  rw [X.well_eq, Bool.and_eq_true] at hno
  have hno := hno.1
  rw [hop] at hno
  obtain ⟨f1, f2, f3⟩ := hs.find part
  have hcl := cl_parts s
  have her := erL_P s
  have hpc := (cl_props (find0 s part).props).1
  have hpe := (cl_props (find0 s part).props).2
  have hnum : 0 ≤ x.num ∧ x.num ≤ 9999999 ∧ 0 ≤ x.ext ∧ x.ext ≤ 9999999 ∨ x.op ≠ 5 := by
    by_cases h5 : x.op = 5
    · rw [h5] at hop
      left
      have h5' : (5 : Int) = 6 := hop
      omega
    · exact .inr h5
  have cv := value_p (find0 s part) x.nam day f3 f2
  have e6 : (x.op == 6) = true := by simp [hop]
  cases hv : lifeV (find0 s part) x.nam day with
  | none =>
    obtain ⟨l1, l2⟩ := lifeE_none hv
    have l3 : (lifeE x.nam day != 0) = true := by simp [l1]
    refine ask_go (v := 0) ?_ ?_
    · rw [ask_eq, hop]; simp only [askN]; simp [hv]
    refine ok28 rfl ?_
    rw [i28]
    refine ask_pre s hs day x part _ ?_
    refine disp_6 hop _ ?_
    unfold RetT y28_6
    unfold askP
    rw [l2] at cv
    unfold ptD at cv
    repeat' (first
    | with_reducible first | apply swp_seq | apply swp_reg | apply swp_regD | apply swp_block | apply swp_exit | apply swp_ret | apply swp_skip | apply swp_cd
    | simp only [go_sem, seval, P28, q28, l3, e6]
    | ((with_reducible refine o_call (cv) ?he ?hc ?_); (case he | hc => first | rfl | (simp [D.erL, D.er, D.closedL, D.closed, hcl, her, hpc, hpe]; done)))
    | with_reducible first | apply cd_dec | apply cd_eq | apply cd_ne | apply cd_split
    | ((with_reducible refine And.intro ?hw ?_); (case hw => first | omega | rfl | exact ⟨_, _, rfl⟩ | assumption | (simp only [lN, hcl, her, hpc, hpe] <;> omega)))
    | with_reducible intro _)
    all_goals first | omega | (simp_all [D.closed, D.er, D.closedL, D.erL, setL]; done) | (simp_all [D.closed, D.er, D.closedL, D.erL, setL] <;> omega)
  | some v =>
    obtain ⟨l1, l2⟩ := lifeE_some hv
    have co := over_p v (x.num)
    have cn := not_p (overT v (x.num))
    refine ask_go (v := overT v x.num) ?_ ?_
    · rw [ask_eq, hop]; simp only [askN]; simp [hv]
    refine ok28 rfl ?_
    rw [i28]
    refine ask_pre s hs day x part _ ?_
    refine disp_6 hop _ ?_
    unfold RetT y28_6
    unfold askP
    rw [l1, l2] at cv
    unfold ptD at cv
    generalize overT v (x.num) = ov at *
    repeat' (first
    | with_reducible first | apply swp_seq | apply swp_reg | apply swp_regD | apply swp_block | apply swp_exit | apply swp_ret | apply swp_skip | apply swp_cd
    | simp only [go_sem, seval, P28, q28, e6]
    | ((with_reducible refine o_call (cv) ?he ?hc ?_); (case he | hc => first | rfl | (simp [D.erL, D.er, D.closedL, D.closed, hcl, her, hpc, hpe]; done)))
    | ((with_reducible refine o_call (co) ?he ?hc ?_); (case he | hc => first | rfl | (simp [D.erL, D.er, D.closedL, D.closed, hcl, her, hpc, hpe]; done)))
    | ((with_reducible refine o_call (cn) ?he ?hc ?_); (case he | hc => first | rfl | (simp [D.erL, D.er, D.closedL, D.closed, hcl, her, hpc, hpe]; done)))
    | with_reducible first | apply cd_dec | apply cd_eq | apply cd_ne | apply cd_split
    | ((with_reducible refine And.intro ?hw ?_); (case hw => first | omega | rfl | exact ⟨_, _, rfl⟩ | assumption | (simp only [lN, hcl, her, hpc, hpe] <;> omega)))
    | with_reducible intro _)
    all_goals first | omega | (simp_all [D.closed, D.er, D.closedL, D.erL, setL]; done) | (simp_all [D.closed, D.er, D.closedL, D.erL, setL] <;> omega)
theorem ask_7 (s : List Pt) (hs : Sok s) (day : Int) (x : X) (hsm : x.sm) (hw : well x = true) (ih : IH s day x) (part : List UInt8) (hop : x.op = 7) : Pur M 28 [askerD s day, x.d, .str part] (.int .i64 (ask s day x part)) := by
  obtain ⟨s1, s2, s3, s4⟩ := X.sm_parts hsm
  have hno := hw
  rw [X.well_eq, Bool.and_eq_true] at hno
  have hno := hno.1
  rw [hop] at hno
  obtain ⟨f1, f2, f3⟩ := hs.find part
  have hcl := cl_parts s
  have her := erL_P s
  have hkl : (x.kids.map X.d).length = x.kids.length := by simp
  have c1 := contains43 (find0 s part).props (x.nam, x.val) (by omega)
  have c2 := tr_p ((find0 s part).props.contains (x.nam, x.val))
  have hpc := (cl_props (find0 s part).props).1
  have hpe := (cl_props (find0 s part).props).2
  unfold propD at c1 hpc hpe
  refine ask_go (v := truthF ((find0 s part).props.contains (x.nam, x.val))) ?_ ?_
  · rw [ask_eq, hop]; simp only [askN]; simp
  refine ok28 rfl ?_
  rw [i28]
  refine ask_pre s hs day x part _ ?_
  refine disp_7 hop _ ?_
  unfold RetT y28_7
  unfold askP
  repeat' (first
    | with_reducible first | apply swp_seq | apply swp_reg | apply swp_regD | apply swp_block | apply swp_exit | apply swp_ret | apply swp_skip | apply swp_cd
    | simp only [go_sem, seval, P28, q28, fillL]
    | ((with_reducible refine o_call (c1) ?he ?hc ?_); (case he | hc => first | rfl | (simp [D.erL, D.er, D.closedL, D.closed, hcl, her, hpc, hpe]; done)))
    | ((with_reducible refine o_call (c2) ?he ?hc ?_); (case he | hc => first | rfl | (simp [D.erL, D.er, D.closedL, D.closed, hcl, her, hpc, hpe]; done)))
    | with_reducible first | apply cd_dec | apply cd_eq | apply cd_ne | apply cd_split
    | ((with_reducible refine And.intro ?hw ?_); (case hw => first | omega | rfl | exact ⟨_, _, rfl⟩ | assumption | (simp only [lN, hcl, her, hpc, hpe] <;> omega)))
    | with_reducible intro _)
  all_goals first | omega | (simp_all [D.closed, D.er, D.closedL, D.erL, setL]; done) | (simp_all [D.closed, D.er, D.closedL, D.erL, setL] <;> omega)
theorem ask_8 (s : List Pt) (hs : Sok s) (day : Int) (x : X) (hsm : x.sm) (hw : well x = true) (ih : IH s day x) (part : List UInt8) (hop : x.op = 8) : Pur M 28 [askerD s day, x.d, .str part] (.int .i64 (ask s day x part)) := by
  obtain ⟨s1, s2, s3, s4⟩ := X.sm_parts hsm
  have hno := hw
  rw [X.well_eq, Bool.and_eq_true] at hno
  have hno := hno.1
  rw [hop] at hno
  obtain ⟨f1, f2, f3⟩ := hs.find part
  have hcl := cl_parts s
  have her := erL_P s
  have hkl : (x.kids.map X.d).length = x.kids.length := by simp
  have c1 := any44 (find0 s part).props (by omega) 45 [.ptr 0 0] ⟨[.cells x.cells], []⟩ (fun y => y.1 == x.nam) (fun y => has45 y x)
  have c2 := tr_p ((find0 s part).props.any fun y => y.1 == x.nam)
  refine ask_go (v := truthF ((find0 s part).props.any fun y => y.1 == x.nam)) ?_ ?_
  · rw [ask_eq, hop]; simp only [askN]; simp
  refine ok28 rfl ?_
  rw [i28]
  refine ask_pre s hs day x part _ ?_
  refine disp_8 hop _ ?_
  unfold RetT y28_8
  unfold askP
  repeat' (first
    | with_reducible first | apply swp_seq | apply swp_reg | apply swp_regD | apply swp_block | apply swp_exit | apply swp_ret | apply swp_skip | apply swp_cd
    | simp only [go_sem, seval, P28, q28]
    | ((with_reducible refine o_eff [1] [] (c1) ?hs ?he ?hh ?_); (case hs => exact ⟨by simp, by simp, by simp, by simp⟩); (case he => first | rfl | (simp [go_sem, seval, hcl, her, D.rnL, D.rn, posF, Hp.sel, Blk.rnL, Blk.rn, Tv.rnL, idx, Own.rn, Hp.back, putAt, bakF]; done)); (case hh => first | rfl | (simp [go_sem, seval, hcl, her, D.rnL, D.rn, posF, Hp.sel, Blk.rnL, Blk.rn, Tv.rnL, idx, Own.rn, Hp.back, putAt, bakF]; done)); rintro _ _ ⟨rfl, rfl⟩)
    | ((with_reducible refine o_call (c2) ?he ?hc ?_); (case he | hc => first | rfl | (simp [D.erL, D.er, D.closedL, D.closed, hcl, her, D.rnL, D.rn, posF, Hp.sel, Blk.rnL, Blk.rn, Tv.rnL, idx, Own.rn, Hp.back, putAt, bakF]; done)))
    | with_reducible first | apply cd_dec | apply cd_eq | apply cd_ne | apply cd_split
    | ((with_reducible refine And.intro ?hw ?_); (case hw => first | omega | rfl | exact ⟨_, _, rfl⟩ | assumption | (simp only [lN, hcl, her, D.rnL, D.rn, posF, Hp.sel, Blk.rnL, Blk.rn, Tv.rnL, idx, Own.rn, Hp.back, putAt, bakF] <;> omega)))
    | with_reducible intro _)
  all_goals first | omega | (simp_all [D.closed, D.er, D.closedL, D.erL, setL]; done) | (simp_all [D.closed, D.er, D.closedL, D.erL, setL] <;> omega)
theorem ask_9 (s : List Pt) (hs : Sok s) (day : Int) (x : X) (hsm : x.sm) (hw : well x = true) (ih : IH s day x) (part : List UInt8) (hop : x.op = 9) : Pur M 28 [askerD s day, x.d, .str part] (.int .i64 (ask s day x part)) := by
  obtain ⟨s1, s2, s3, s4⟩ := X.sm_parts hsm
  have hno := hw
  rw [X.well_eq, Bool.and_eq_true] at hno
  have hno := hno.1
  rw [hop] at hno
  obtain ⟨f1, f2, f3⟩ := hs.find part
  have hcl := cl_parts s
  have her := erL_P s
  have hkl : (x.kids.map X.d).length = x.kids.length := by simp
  have c1 := any46 s (by have := hs.len; omega) 47 [.ptr 0 0, .ptr 1 0] ⟨[.cells [.str part], .cells x.cells], []⟩ (fun q => q.into == part && q.slot == x.nam && q.kind == x.val) (fun q => fit47 q part x)
  have c2 := tr_p (s.any fun q => q.into == part && q.slot == x.nam && q.kind == x.val)
  refine ask_go (v := truthF (s.any fun q => q.into == part && q.slot == x.nam && q.kind == x.val)) ?_ ?_
  · rw [ask_eq, hop]; simp only [askN]; simp
  refine ok28 rfl ?_
  rw [i28]
  refine ask_pre s hs day x part _ ?_
  refine disp_9 hop _ ?_
  unfold RetT y28_9
  unfold askP
  repeat' (first
    | with_reducible first | apply swp_seq | apply swp_reg | apply swp_regD | apply swp_block | apply swp_exit | apply swp_ret | apply swp_skip | apply swp_cd
    | simp only [go_sem, seval, P28, q28]
    | ((with_reducible refine o_eff [2, 1] [] (c1) ?hs ?he ?hh ?_); (case hs => exact ⟨by simp, by simp, by simp, by simp⟩); (case he => first | rfl | (simp [go_sem, seval, hcl, her, D.rnL, D.rn, posF, Hp.sel, Blk.rnL, Blk.rn, Tv.rnL, idx, Own.rn, Hp.back, putAt, bakF]; done)); (case hh => first | rfl | (simp [go_sem, seval, hcl, her, D.rnL, D.rn, posF, Hp.sel, Blk.rnL, Blk.rn, Tv.rnL, idx, Own.rn, Hp.back, putAt, bakF]; done)); rintro _ _ ⟨rfl, rfl⟩)
    | ((with_reducible refine o_call (c2) ?he ?hc ?_); (case he | hc => first | rfl | (simp [D.erL, D.er, D.closedL, D.closed, hcl, her, D.rnL, D.rn, posF, Hp.sel, Blk.rnL, Blk.rn, Tv.rnL, idx, Own.rn, Hp.back, putAt, bakF]; done)))
    | with_reducible first | apply cd_dec | apply cd_eq | apply cd_ne | apply cd_split
    | ((with_reducible refine And.intro ?hw ?_); (case hw => first | omega | rfl | exact ⟨_, _, rfl⟩ | assumption | (simp only [lN, hcl, her, D.rnL, D.rn, posF, Hp.sel, Blk.rnL, Blk.rn, Tv.rnL, idx, Own.rn, Hp.back, putAt, bakF] <;> omega)))
    | with_reducible intro _)
  all_goals first | omega | (simp_all [D.closed, D.er, D.closedL, D.erL, setL]; done) | (simp_all [D.closed, D.er, D.closedL, D.erL, setL] <;> omega)
theorem ask_10 (s : List Pt) (hs : Sok s) (day : Int) (x : X) (hsm : x.sm) (hw : well x = true) (ih : IH s day x) (part : List UInt8) (hop : x.op = 10) : Pur M 28 [askerD s day, x.d, .str part] (.int .i64 (ask s day x part)) := by
  obtain ⟨s1, s2, s3, s4⟩ := X.sm_parts hsm
  have hno := hw
  rw [X.well_eq, Bool.and_eq_true] at hno
  have hno := hno.1
  rw [hop] at hno
  have hcl := cl_parts s
  have her := erL_P s
  have ck := kinds_p s hs.len day part x.nam
  have hkle : (kindsIn s part x.nam).length < 1000000 := Nat.lt_of_le_of_lt (List.length_filter_le _ _) (inside_len hs.len part)
  have hsl := strs_len (kindsIn s part x.nam)
  have hrs := fun β τ => rnL_strs β τ (kindsIn s part x.nam)
  have e10 : (x.op == 10) = true := by simp [hop]
  have e11 : (x.op == 11) = false := by simp [hop]
  have hkn : x.kids.length = 1 := by
    simp [nodeOk] at hno
    omega
  have c1 := fold38 15 49 [.ptr 0 0, .ptr 1 0, .ptr 2 0] (eachH s day x (kindsIn s part x.nam)) andT (fun i => ask s day (x.kids.getD 0 default) ((kindsIn s part x.nam).getD i default)) 2 (kindsIn s part x.nam).length hkle and_p (fun i hi => each49 s day x _ i hi (by omega) (ih _ (List.getElem_mem (by omega)) _))
  have hfr := foldl_range andT (fun m => ask s day (x.kids.getD 0 default) m) (kindsIn s part x.nam) 2
  have hhd : (x.kids.map (ask s day)).headD (fun _ => 0) = ask s day (x.kids.getD 0 default) := by
    obtain ⟨y, hy⟩ := List.length_eq_one_iff.1 hkn
    rw [hy]; rfl
  unfold eachH at c1
  refine ask_go (v := (List.range (kindsIn s part x.nam).length).foldl (fun a i => andT a (ask s day (x.kids.getD 0 default) ((kindsIn s part x.nam).getD i default))) 2) ?_ ?_
  · rw [ask_eq, hop]; rw [hfr]; simp only [askN, hhd]; simp
  refine ok28 rfl ?_
  rw [i28]
  refine ask_pre s hs day x part _ ?_
  refine disp_0 (by omega) _ ?_
  unfold rest28
  unfold askP
  repeat' (first
    | with_reducible first | apply swp_seq | apply swp_reg | apply swp_regD | apply swp_block | apply swp_exit | apply swp_ret | apply swp_skip | apply swp_cd
    | simp only [go_sem, seval, P28, q28, e10, e11, hsl]
    | ((with_reducible refine o_call (ck) ?he ?hc ?_); (case he | hc => first | rfl | (simp [D.erL, D.er, D.closedL, D.closed, hcl, her, hsl, hrs, D.rnL, D.rn, posF, Hp.sel, Blk.rnL, Blk.rn, Tv.rnL, idx, Own.rn, Hp.back, putAt, bakF]; done)))
    | ((with_reducible refine o_eff [0, 1, 4] [] (c1) ?hs ?he ?hh ?_); (case hs => exact ⟨by simp, by simp, by simp, by simp⟩); (case he => first | rfl | (simp [go_sem, seval, hcl, her, hsl, hrs, D.rnL, D.rn, posF, Hp.sel, Blk.rnL, Blk.rn, Tv.rnL, idx, Own.rn, Hp.back, putAt, bakF]; done)); (case hh => first | rfl | (simp [go_sem, seval, hcl, her, hsl, hrs, D.rnL, D.rn, posF, Hp.sel, Blk.rnL, Blk.rn, Tv.rnL, idx, Own.rn, Hp.back, putAt, bakF]; done)); rintro _ _ ⟨rfl, rfl⟩)
    | with_reducible first | apply cd_dec | apply cd_eq | apply cd_ne | apply cd_split
    | ((with_reducible refine And.intro ?hw ?_); (case hw => first | omega | rfl | exact ⟨_, _, rfl⟩ | assumption | (simp only [lN, hcl, her, hsl, hrs, D.rnL, D.rn, posF, Hp.sel, Blk.rnL, Blk.rn, Tv.rnL, idx, Own.rn, Hp.back, putAt, bakF] <;> omega)))
    | with_reducible intro _)
  all_goals first | omega | (simp_all [D.closed, D.er, D.closedL, D.erL, setL]; done) | (simp_all [D.closed, D.er, D.closedL, D.erL, setL] <;> omega)
theorem ask_11 (s : List Pt) (hs : Sok s) (day : Int) (x : X) (hsm : x.sm) (hw : well x = true) (ih : IH s day x) (part : List UInt8) (hop : x.op = 11) : Pur M 28 [askerD s day, x.d, .str part] (.int .i64 (ask s day x part)) := by
  obtain ⟨s1, s2, s3, s4⟩ := X.sm_parts hsm
  have hno := hw
  rw [X.well_eq, Bool.and_eq_true] at hno
  have hno := hno.1
  rw [hop] at hno
  have hcl := cl_parts s
  have her := erL_P s
  have ck := kinds_p s hs.len day part x.nam
  have hkle : (kindsIn s part x.nam).length < 1000000 := Nat.lt_of_le_of_lt (List.length_filter_le _ _) (inside_len hs.len part)
  have hsl := strs_len (kindsIn s part x.nam)
  have hrs := fun β τ => rnL_strs β τ (kindsIn s part x.nam)
  have e10 : (x.op == 10) = false := by simp [hop]
  have e11 : (x.op == 11) = true := by simp [hop]
  have hkn : x.kids.length = 1 := by
    simp [nodeOk] at hno
    omega
  have c1 := fold38 16 49 [.ptr 0 0, .ptr 1 0, .ptr 2 0] (eachH s day x (kindsIn s part x.nam)) orT (fun i => ask s day (x.kids.getD 0 default) ((kindsIn s part x.nam).getD i default)) 0 (kindsIn s part x.nam).length hkle or_p (fun i hi => each49 s day x _ i hi (by omega) (ih _ (List.getElem_mem (by omega)) _))
  have hfr := foldl_range orT (fun m => ask s day (x.kids.getD 0 default) m) (kindsIn s part x.nam) 0
  have hhd : (x.kids.map (ask s day)).headD (fun _ => 0) = ask s day (x.kids.getD 0 default) := by
    obtain ⟨y, hy⟩ := List.length_eq_one_iff.1 hkn
    rw [hy]; rfl
  unfold eachH at c1
  refine ask_go (v := (List.range (kindsIn s part x.nam).length).foldl (fun a i => orT a (ask s day (x.kids.getD 0 default) ((kindsIn s part x.nam).getD i default))) 0) ?_ ?_
  · rw [ask_eq, hop]; rw [hfr]; simp only [askN, hhd]; simp
  refine ok28 rfl ?_
  rw [i28]
  refine ask_pre s hs day x part _ ?_
  refine disp_0 (by omega) _ ?_
  unfold rest28
  unfold askP
  repeat' (first
    | with_reducible first | apply swp_seq | apply swp_reg | apply swp_regD | apply swp_block | apply swp_exit | apply swp_ret | apply swp_skip | apply swp_cd
    | simp only [go_sem, seval, P28, q28, e10, e11, hsl]
    | ((with_reducible refine o_call (ck) ?he ?hc ?_); (case he | hc => first | rfl | (simp [D.erL, D.er, D.closedL, D.closed, hcl, her, hsl, hrs, D.rnL, D.rn, posF, Hp.sel, Blk.rnL, Blk.rn, Tv.rnL, idx, Own.rn, Hp.back, putAt, bakF]; done)))
    | ((with_reducible refine o_eff [0, 1, 4] [] (c1) ?hs ?he ?hh ?_); (case hs => exact ⟨by simp, by simp, by simp, by simp⟩); (case he => first | rfl | (simp [go_sem, seval, hcl, her, hsl, hrs, D.rnL, D.rn, posF, Hp.sel, Blk.rnL, Blk.rn, Tv.rnL, idx, Own.rn, Hp.back, putAt, bakF]; done)); (case hh => first | rfl | (simp [go_sem, seval, hcl, her, hsl, hrs, D.rnL, D.rn, posF, Hp.sel, Blk.rnL, Blk.rn, Tv.rnL, idx, Own.rn, Hp.back, putAt, bakF]; done)); rintro _ _ ⟨rfl, rfl⟩)
    | with_reducible first | apply cd_dec | apply cd_eq | apply cd_ne | apply cd_split
    | ((with_reducible refine And.intro ?hw ?_); (case hw => first | omega | rfl | exact ⟨_, _, rfl⟩ | assumption | (simp only [lN, hcl, her, hsl, hrs, D.rnL, D.rn, posF, Hp.sel, Blk.rnL, Blk.rn, Tv.rnL, idx, Own.rn, Hp.back, putAt, bakF] <;> omega)))
    | with_reducible intro _)
  all_goals first | omega | (simp_all [D.closed, D.er, D.closedL, D.erL, setL]; done) | (simp_all [D.closed, D.er, D.closedL, D.erL, setL] <;> omega)
theorem ask_12 (s : List Pt) (hs : Sok s) (day : Int) (x : X) (hsm : x.sm) (hw : well x = true) (ih : IH s day x) (part : List UInt8) (hop : x.op = 12) : Pur M 28 [askerD s day, x.d, .str part] (.int .i64 (ask s day x part)) := by
  obtain ⟨s1, s2, s3, s4⟩ := X.sm_parts hsm
  have hno := hw
  rw [X.well_eq, Bool.and_eq_true] at hno
  have hno := hno.1
  rw [hop] at hno
  have hcl := cl_parts s
  have her := erL_P s
  have ck := kinds_p s hs.len day part x.nam
  have hkle : (kindsIn s part x.nam).length < 1000000 := Nat.lt_of_le_of_lt (List.length_filter_le _ _) (inside_len hs.len part)
  have hsl := strs_len (kindsIn s part x.nam)
  have hrs := fun β τ => rnL_strs β τ (kindsIn s part x.nam)
  have e10 : (x.op == 10) = false := by simp [hop]
  have e11 : (x.op == 11) = false := by simp [hop]
  have c2 := tr_p (decide (((kindsIn s part x.nam).length : Int) ≥ x.num))
  refine ask_go (v := truthF (decide (((kindsIn s part x.nam).length : Int) ≥ x.num))) ?_ ?_
  · rw [ask_eq, hop]; simp only [askN]; simp
  refine ok28 rfl ?_
  rw [i28]
  refine ask_pre s hs day x part _ ?_
  refine disp_0 (by omega) _ ?_
  unfold rest28
  unfold askP
  repeat' (first
    | with_reducible first | apply swp_seq | apply swp_reg | apply swp_regD | apply swp_block | apply swp_exit | apply swp_ret | apply swp_skip | apply swp_cd
    | simp only [go_sem, seval, P28, q28, e10, e11, hsl]
    | ((with_reducible refine o_call (ck) ?he ?hc ?_); (case he | hc => first | rfl | (simp [D.erL, D.er, D.closedL, D.closed, hcl, her, hsl, hrs, D.rnL, D.rn, posF, Hp.sel, Blk.rnL, Blk.rn, Tv.rnL, idx, Own.rn, Hp.back, putAt, bakF]; done)))
    | ((with_reducible refine o_call (c2) ?he ?hc ?_); (case he | hc => first | rfl | (simp [D.erL, D.er, D.closedL, D.closed, hcl, her, hsl, hrs, D.rnL, D.rn, posF, Hp.sel, Blk.rnL, Blk.rn, Tv.rnL, idx, Own.rn, Hp.back, putAt, bakF]; done)))
    | with_reducible first | apply cd_dec | apply cd_eq | apply cd_ne | apply cd_split
    | ((with_reducible refine And.intro ?hw ?_); (case hw => first | omega | rfl | exact ⟨_, _, rfl⟩ | assumption | (simp only [lN, hcl, her, hsl, hrs, D.rnL, D.rn, posF, Hp.sel, Blk.rnL, Blk.rn, Tv.rnL, idx, Own.rn, Hp.back, putAt, bakF] <;> omega)))
    | with_reducible intro _)
  all_goals first | omega | (simp_all [D.closed, D.er, D.closedL, D.erL, setL]; done) | (simp_all [D.closed, D.er, D.closedL, D.erL, setL] <;> omega)
theorem ask_all (s : List Pt) (hs : Sok s) (day : Int) : ∀ (k : Nat) (x : X), x.nodes ≤ k → x.sm → well x = true → ∀ part : List UInt8, Pur M 28 [askerD s day, x.d, .str part] (.int .i64 (ask s day x part))
  | 0, x, hk, _, _, _ => by have := nodes_pos x; omega
  | k + 1, x, hk, hsm, hw, part => by
    have hw' := hw
    rw [X.well_eq, Bool.and_eq_true] at hw'
    obtain ⟨s1, s2, s3, s4⟩ := X.sm_parts hsm
    have ih : IH s day x := fun y hy q => ask_all s hs day k y (by have := kid_nodes hy; omega) (s3 y hy) (wellL_mem hw'.2 y hy) q
    by_cases h1 : x.op = 1
    · exact ask_1 s hs day x hsm hw ih part h1
    by_cases h2 : x.op = 2
    · exact ask_2 s hs day x hsm hw ih part h2
    by_cases h3 : x.op = 3
    · exact ask_3 s hs day x hsm hw ih part h3
    by_cases h4 : x.op = 4
    · exact ask_4 s hs day x hsm hw ih part h4
    by_cases h5 : x.op = 5
    · exact ask_5 s hs day x hsm hw ih part h5
    by_cases h6 : x.op = 6
    · exact ask_6 s hs day x hsm hw ih part h6
    by_cases h7 : x.op = 7
    · exact ask_7 s hs day x hsm hw ih part h7
    by_cases h8 : x.op = 8
    · exact ask_8 s hs day x hsm hw ih part h8
    by_cases h9 : x.op = 9
    · exact ask_9 s hs day x hsm hw ih part h9
    by_cases h10 : x.op = 10
    · exact ask_10 s hs day x hsm hw ih part h10
    by_cases h11 : x.op = 11
    · exact ask_11 s hs day x hsm hw ih part h11
    by_cases h12 : x.op = 12
    · exact ask_12 s hs day x hsm hw ih part h12
    · exfalso
      have := hw'.1
      simp [nodeOk, h1, h2, h3, h4, h5, h6, h7, h8, h9, h10, h11, h12] at this
end Go.Proofs.Ytcchbohfcmfmlaa
end
section
set_option maxRecDepth 100000
set_option linter.unusedSimpArgs false
set_option linter.unusedVariables false
namespace Go.Proofs.Ytcchbohfcmfmlaa
open Go GoV Go.RowKit
theorem holds_p (s : List Pt) (hs : Sok s) (x : X) (hx : x.sm) (part : List UInt8) (day : Int) : Pur M 12 [stateD s, x.d, .str part, .int .i64 day] (.int .i64 (holdsF s x part day)) := by
  refine ok12 rfl ?_
  rw [i12]
  unfold c12
  have c1 := rvalidX_p x hx
  have c2 := root_p s (by have := hs.len; omega) part
  have hcl := cl_parts s
  have her := erL_P s
  have hck := closedL_X x.kids
  have hek := erL_X x.kids
  have e : holdsF s x part day = if validF x = false ∨ root s part = [] then 0 else ask s day x part := rfl
  rw [e]
  cases hv : validF x
  · rw [hv] at c1
    rw [X.d_eq]
    repeat' (first
    | with_reducible first | apply swp_seq | apply swp_reg | apply swp_regD | apply swp_block | apply swp_exit | apply swp_ret | apply swp_skip | apply swp_cd
    | simp only [go_sem, seval, P12, q12, fillL]
    | ((with_reducible refine o_call (c1) ?he ?hc ?_); (case he | hc => first | rfl | (simp [D.erL, D.er, D.closedL, D.closed, hcl, her, hck, hek]; done)))
    | ((with_reducible refine o_call (c2) ?he ?hc ?_); (case he | hc => first | rfl | (simp [D.erL, D.er, D.closedL, D.closed, hcl, her, hck, hek]; done)))
    | with_reducible first | apply cd_dec | apply cd_eq | apply cd_ne | apply cd_split | apply gd_dec | apply gd_eq | apply gd_ne | apply gd_split
    | ((with_reducible refine And.intro ?hw ?_); (case hw => first | omega | rfl | exact ⟨_, _, rfl⟩ | assumption | (simp only [lN, hcl, her, hck, hek] <;> omega)))
    | with_reducible intro _)
    all_goals first | omega | (simp_all [D.closed, D.er, D.closedL, D.erL]; done) | (simp_all [D.closed, D.er, D.closedL, D.erL] <;> omega)
  · have hw : well x = true := by
      simp only [validF, Bool.and_eq_true] at hv; exact hv.2
    have c3 := ask_all s hs day x.nodes x (Nat.le_refl _) hx hw part
    rw [hv] at c1
    rw [X.d_eq] at c3 ⊢
    generalize root s part = r at *
    by_cases hr : r = []
    · subst hr
      repeat' (first
    | with_reducible first | apply swp_seq | apply swp_reg | apply swp_regD | apply swp_block | apply swp_exit | apply swp_ret | apply swp_skip | apply swp_cd
    | simp only [go_sem, seval, P12, q12, fillL]
    | ((with_reducible refine o_call (c1) ?he ?hc ?_); (case he | hc => first | rfl | (simp [D.erL, D.er, D.closedL, D.closed, hcl, her, hck, hek]; done)))
    | ((with_reducible refine o_call (c2) ?he ?hc ?_); (case he | hc => first | rfl | (simp [D.erL, D.er, D.closedL, D.closed, hcl, her, hck, hek]; done)))
    | ((with_reducible refine o_call (c3) ?he ?hc ?_); (case he | hc => first | rfl | (simp [D.erL, D.er, D.closedL, D.closed, hcl, her, hck, hek]; done)))
    | with_reducible first | apply cd_dec | apply cd_eq | apply cd_ne | apply cd_split | apply gd_dec | apply gd_eq | apply gd_ne | apply gd_split
    | ((with_reducible refine And.intro ?hw ?_); (case hw => first | omega | rfl | exact ⟨_, _, rfl⟩ | assumption | (simp only [lN, hcl, her, hck, hek] <;> omega)))
    | with_reducible intro _)
      all_goals first | omega | (simp_all [D.closed, D.er, D.closedL, D.erL]; done) | (simp_all [D.closed, D.er, D.closedL, D.erL] <;> omega)
    · have hrb : (r == []) = false := by simp [hr]
      rw [if_neg (by simp [hr])]
      repeat' (first
    | with_reducible first | apply swp_seq | apply swp_reg | apply swp_regD | apply swp_block | apply swp_exit | apply swp_ret | apply swp_skip | apply swp_cd
    | simp only [go_sem, seval, P12, q12, fillL, hrb]
    | ((with_reducible refine o_call (c1) ?he ?hc ?_); (case he | hc => first | rfl | (simp [D.erL, D.er, D.closedL, D.closed, hcl, her, hck, hek]; done)))
    | ((with_reducible refine o_call (c2) ?he ?hc ?_); (case he | hc => first | rfl | (simp [D.erL, D.er, D.closedL, D.closed, hcl, her, hck, hek]; done)))
    | ((with_reducible refine o_call (c3) ?he ?hc ?_); (case he | hc => first | rfl | (simp [D.erL, D.er, D.closedL, D.closed, hcl, her, hck, hek]; done)))
    | with_reducible first | apply cd_dec | apply cd_eq | apply cd_ne | apply cd_split | apply gd_dec | apply gd_eq | apply gd_ne | apply gd_split
    | ((with_reducible refine And.intro ?hw ?_); (case hw => first | omega | rfl | exact ⟨_, _, rfl⟩ | assumption | (simp only [lN, hcl, her, hck, hek] <;> omega)))
    | with_reducible intro _)
      all_goals first | omega | (simp_all [D.closed, D.er, D.closedL, D.erL]; done) | (simp_all [D.closed, D.er, D.closedL, D.erL] <;> omega)
theorem nodes_p : ∀ (k : Nat) (x : X), x.nodes ≤ k → ∀ m : Nat, m ≤ 1000 → Pur M 10 [x.d, .int .i64 m] (.int .i64 (min x.nodes (m + 1) : Nat))
  | 0, x, hk, _, _ => by have := nodes_pos x; omega
  | k + 1, x, hk, m, hm => by
    have ih : ∀ y ∈ x.kids, ∀ q : Nat, q ≤ 1000 → Pur M 10 [y.d, .int .i64 q] (.int .i64 (min y.nodes (q + 1) : Nat)) := fun y hy q hq => nodes_p k y (by have := kid_nodes hy; omega) q hq
    refine ok10 rfl ?_
    rw [i10]
    unfold c10
    have hN := X.nodes_eq x
    have hlen : (x.kids.map X.d).length = x.kids.length := by simp
    have hge : ∀ i, i ≤ x.kids.length → i ≤ X.nodesL (x.kids.take i) := fun i hi => by
      have := nodesL_len (x.kids.take i)
      rw [List.length_take] at this; omega
    rw [X.d_eq]
    repeat' (first
    | with_reducible first | apply swp_seq | apply swp_reg | apply swp_regD | apply swp_block | apply swp_exit | apply swp_ret | apply swp_skip | apply swp_cd
    | simp only [go_sem, seval, P10, q10, hlen]
    | with_reducible first | apply cd_dec | apply cd_eq | apply cd_ne | apply cd_split | apply gd_dec | apply gd_eq | apply gd_ne | apply gd_split
    | ((with_reducible refine And.intro ?hw ?_); (case hw => first | omega | rfl | exact ⟨_, _, rfl⟩ | assumption | (simp only [lN] <;> omega)))
    | with_reducible intro _)
    refine swp_fam [0, 1, 2, 3, 4, 5] (fun i : Nat => ⟨[.agg x.cells, .int .i64 m, .ptr 0 0, .int .i64 0, .int .i64 (min (1 + X.nodesL (x.kids.take i)) (m + 1) : Nat), .int .i64 i, .undef], [], ⟨[.cells x.cells], []⟩⟩) (fun i => i ≤ x.kids.length ∧ i ≤ m + 1) (fun i => m + 2 - i) 0 ⟨by omega, by omega⟩ ?_ ?_
    · simp [keepE, St.keep, X.nodesL]
      try omega
    · rintro i ⟨hi, him⟩
      by_cases hil : i < x.kids.length
      · by_cases hle : 1 + X.nodesL (x.kids.take i) ≤ m
        · have hmin : min (1 + X.nodesL (x.kids.take i)) (m + 1) = 1 + X.nodesL (x.kids.take i) := by omega
          have hst := nodesL_take x.kids i hil
          have hg : (x.kids.map X.d).getD i .undef = .agg (x.kids[i]).cells := by simp [List.getD, hil, X.d_eq]
          have c1 := ih _ (List.getElem_mem hil) (m - (1 + X.nodesL (x.kids.take i))) (by omega)
          have hck := closedL_X (x.kids[i]).kids
          have hek := erL_X (x.kids[i]).kids
          have hlei := hge i hi
          rw [X.d_eq] at c1
          rw [hmin]
          generalize X.nodesL (x.kids.take i) = z at *
          generalize hz0 : X.nodesL (x.kids.take (i + 1)) = z' at *
          have hsub : ((m : Int) - ((1 + z : Nat) : Int)) = ((m - (1 + z) : Nat) : Int) := by omega
          generalize hq : m - (1 + z) = q at *
          repeat' (first
    | with_reducible first | apply swp_seq | apply swp_reg | apply swp_regD | apply swp_block | apply swp_exit | apply swp_ret | apply swp_skip | apply swp_cd
    | simp only [go_sem, seval, P10, q10, hlen, hg, hsub]
    | simp (disch := omega) only [w64, w32, wu8, wu16, wu32, wu64]
    | ((with_reducible refine o_call (c1) ?he ?hc ?_); (case he | hc => first | rfl | (simp [D.erL, D.er, D.closedL, D.closed, hlen, hg, hck, hek]; done)))
    | with_reducible first | apply cd_dec | apply cd_eq | apply cd_ne | apply cd_split | apply gd_dec | apply gd_eq | apply gd_ne | apply gd_split
    | ((with_reducible refine And.intro ?hw ?_); (case hw => first | omega | rfl | exact ⟨_, _, rfl⟩ | assumption | (simp only [lN, hlen, hg, hck, hek] <;> omega)))
    | with_reducible intro _)
          all_goals try (exfalso; omega)
          refine ⟨i + 1, ⟨by omega, by omega⟩, by omega, ?_⟩
          simp [keepE, St.keep, hz0]
          try omega
        · have hle2 := nodesL_le x.kids i
          have hmin : min (1 + X.nodesL (x.kids.take i)) (m + 1) = m + 1 := by omega
          have hres : min x.nodes (m + 1) = m + 1 := by omega
          rw [hmin, hres]
          repeat' (first
    | with_reducible first | apply swp_seq | apply swp_reg | apply swp_regD | apply swp_block | apply swp_exit | apply swp_ret | apply swp_skip | apply swp_cd
    | simp only [go_sem, seval, P10, q10, hlen]
    | simp (disch := omega) only [w64, w32, wu8, wu16, wu32, wu64]
    | with_reducible first | apply cd_dec | apply cd_eq | apply cd_ne | apply cd_split | apply gd_dec | apply gd_eq | apply gd_ne | apply gd_split
    | ((with_reducible refine And.intro ?hw ?_); (case hw => first | omega | rfl | exact ⟨_, _, rfl⟩ | assumption | (simp only [lN, hlen] <;> omega)))
    | with_reducible intro _)
          all_goals try (exfalso; omega)
          all_goals simp [D.closed, D.er]
      · have hie : i = x.kids.length := by omega
        subst hie
        rw [List.take_length, ← hN]
        by_cases hle : x.nodes ≤ m
        · have hmin : min x.nodes (m + 1) = x.nodes := by omega
          rw [hmin]
          repeat' (first
    | with_reducible first | apply swp_seq | apply swp_reg | apply swp_regD | apply swp_block | apply swp_exit | apply swp_ret | apply swp_skip | apply swp_cd
    | simp only [go_sem, seval, P10, q10, hlen]
    | simp (disch := omega) only [w64, w32, wu8, wu16, wu32, wu64]
    | with_reducible first | apply cd_dec | apply cd_eq | apply cd_ne | apply cd_split | apply gd_dec | apply gd_eq | apply gd_ne | apply gd_split
    | ((with_reducible refine And.intro ?hw ?_); (case hw => first | omega | rfl | exact ⟨_, _, rfl⟩ | assumption | (simp only [lN, hlen] <;> omega)))
    | with_reducible intro _)
          all_goals try (exfalso; omega)
          all_goals simp [D.closed, D.er]
        · have hmin : min x.nodes (m + 1) = m + 1 := by omega
          rw [hmin]
          repeat' (first
    | with_reducible first | apply swp_seq | apply swp_reg | apply swp_regD | apply swp_block | apply swp_exit | apply swp_ret | apply swp_skip | apply swp_cd
    | simp only [go_sem, seval, P10, q10, hlen]
    | simp (disch := omega) only [w64, w32, wu8, wu16, wu32, wu64]
    | with_reducible first | apply cd_dec | apply cd_eq | apply cd_ne | apply cd_split | apply gd_dec | apply gd_eq | apply gd_ne | apply gd_split
    | ((with_reducible refine And.intro ?hw ?_); (case hw => first | omega | rfl | exact ⟨_, _, rfl⟩ | assumption | (simp only [lN, hlen] <;> omega)))
    | with_reducible intro _)
          all_goals try (exfalso; omega)
          all_goals simp [D.closed, D.er]
theorem shortBL_all : ∀ ks : List X, shortBL ks = ks.all shortB
  | [] => rfl
  | k :: ks => by simp [shortBL, shortBL_all ks]
theorem shortB_eq (x : X) : shortB x = (decide (x.nam.length ≤ 300) && decide (x.val.length ≤ 300) && x.kids.all shortB) := by
  cases x; simp only [shortB, X.nam, X.val, X.kids, shortBL_all] <;> rfl
theorem short_p : ∀ (k : Nat) (x : X), x.nodes ≤ k → k ≤ 1000 → Pur M 26 [x.d] (.bool (shortB x))
  | 0, x, hk, _ => by have := nodes_pos x; omega
  | k + 1, x, hk, hk2 => by
    have ih : ∀ y ∈ x.kids, Pur M 26 [y.d] (.bool (shortB y)) := fun y hy => short_p k y (by have := kid_nodes hy; omega) (by omega)
    have hkl := kids_len x
    refine ok26 rfl ?_
    rw [i26]
    unfold c26
    have hlen : (x.kids.map X.d).length = x.kids.length := by simp
    rw [X.d_eq, shortB_eq]
    by_cases h1 : x.nam.length ≤ 300
    · by_cases h2 : x.val.length ≤ 300
      · rw [decide_eq_true h1, decide_eq_true h2, Bool.true_and, Bool.true_and]
        repeat' (first
    | with_reducible first | apply swp_seq | apply swp_reg | apply swp_regD | apply swp_block | apply swp_exit | apply swp_ret | apply swp_skip | apply swp_cd
    | simp only [go_sem, seval, P26, q26, hlen]
    | simp (disch := omega) only [w64, w32, wu8, wu16, wu32, wu64]
    | with_reducible first | apply cd_dec | apply cd_eq | apply cd_ne | apply cd_split | apply gd_dec | apply gd_eq | apply gd_ne | apply gd_split
    | ((with_reducible refine And.intro ?hw ?_); (case hw => first | omega | rfl | exact ⟨_, _, rfl⟩ | assumption | (simp only [lN] <;> omega)))
    | with_reducible intro _)
        all_goals try (exfalso; omega)
        refine swp_fam [0, 1, 2, 3] (fun i : Nat => ⟨[.agg x.cells, .ptr 0 0, .bool false, .int .i64 i, .undef, .undef, .undef], [], ⟨[.cells x.cells], []⟩⟩) (fun i => i ≤ x.kids.length ∧ ∀ j (h : j < i) (h' : j < x.kids.length), shortB x.kids[j] = true) (fun i => x.kids.length - i) 0 ⟨by omega, fun j h => by omega⟩ ?_ ?_
        · simp [keepE, St.keep]
        · rintro i ⟨hi, hb⟩
          by_cases hil : i < x.kids.length
          · have hg : (x.kids.map X.d).getD i .undef = .agg (x.kids[i]).cells := by simp [List.getD, hil, X.d_eq]
            have c1 := ih _ (List.getElem_mem hil)
            have hck := closedL_X (x.kids[i]).kids
            have hek := erL_X (x.kids[i]).kids
            rw [X.d_eq] at c1
            cases hs : shortB x.kids[i]
            · rw [hs] at c1
              have hf : x.kids.all shortB = false := by rw [List.all_eq_false]; exact ⟨x.kids[i], List.getElem_mem hil, by simp [hs]⟩
              rw [hf]
              repeat' (first
    | with_reducible first | apply swp_seq | apply swp_reg | apply swp_regD | apply swp_block | apply swp_exit | apply swp_ret | apply swp_skip | apply swp_cd
    | simp only [go_sem, seval, P26, q26, hlen, hg]
    | simp (disch := omega) only [w64, w32, wu8, wu16, wu32, wu64]
    | ((with_reducible refine o_call (c1) ?he ?hc ?_); (case he | hc => first | rfl | (simp [D.erL, D.er, D.closedL, D.closed, hlen, hg, hck, hek]; done)))
    | with_reducible first | apply cd_dec | apply cd_eq | apply cd_ne | apply cd_split | apply gd_dec | apply gd_eq | apply gd_ne | apply gd_split
    | ((with_reducible refine And.intro ?hw ?_); (case hw => first | omega | rfl | exact ⟨_, _, rfl⟩ | assumption | (simp only [lN, hlen, hg, hck, hek] <;> omega)))
    | with_reducible intro _)
              all_goals try (exfalso; omega)
              all_goals simp [D.closed, D.er]
            · rw [hs] at c1
              repeat' (first
    | with_reducible first | apply swp_seq | apply swp_reg | apply swp_regD | apply swp_block | apply swp_exit | apply swp_ret | apply swp_skip | apply swp_cd
    | simp only [go_sem, seval, P26, q26, hlen, hg]
    | simp (disch := omega) only [w64, w32, wu8, wu16, wu32, wu64]
    | ((with_reducible refine o_call (c1) ?he ?hc ?_); (case he | hc => first | rfl | (simp [D.erL, D.er, D.closedL, D.closed, hlen, hg, hck, hek]; done)))
    | with_reducible first | apply cd_dec | apply cd_eq | apply cd_ne | apply cd_split | apply gd_dec | apply gd_eq | apply gd_ne | apply gd_split
    | ((with_reducible refine And.intro ?hw ?_); (case hw => first | omega | rfl | exact ⟨_, _, rfl⟩ | assumption | (simp only [lN, hlen, hg, hck, hek] <;> omega)))
    | with_reducible intro _)
              all_goals try (exfalso; omega)
              refine ⟨i + 1, ⟨by omega, fun j h h' => ?_⟩, by omega, ?_⟩
              · by_cases e : j = i
                · subst e; exact hs
                · exact hb j (by omega) h'
              · simp [keepE, St.keep]
          · have ht : x.kids.all shortB = true := by
              rw [List.all_eq_true]
              intro y hy
              obtain ⟨j, hj, rfl⟩ := List.getElem_of_mem hy
              exact hb j (by omega) hj
            rw [ht]
            repeat' (first
    | with_reducible first | apply swp_seq | apply swp_reg | apply swp_regD | apply swp_block | apply swp_exit | apply swp_ret | apply swp_skip | apply swp_cd
    | simp only [go_sem, seval, P26, q26, hlen]
    | simp (disch := omega) only [w64, w32, wu8, wu16, wu32, wu64]
    | with_reducible first | apply cd_dec | apply cd_eq | apply cd_ne | apply cd_split | apply gd_dec | apply gd_eq | apply gd_ne | apply gd_split
    | ((with_reducible refine And.intro ?hw ?_); (case hw => first | omega | rfl | exact ⟨_, _, rfl⟩ | assumption | (simp only [lN, hlen] <;> omega)))
    | with_reducible intro _)
            all_goals try (exfalso; omega)
            all_goals simp [D.closed, D.er]
      · rw [decide_eq_false h2, Bool.and_false, Bool.false_and]
        repeat' (first
    | with_reducible first | apply swp_seq | apply swp_reg | apply swp_regD | apply swp_block | apply swp_exit | apply swp_ret | apply swp_skip | apply swp_cd
    | simp only [go_sem, seval, P26, q26, hlen]
    | simp (disch := omega) only [w64, w32, wu8, wu16, wu32, wu64]
    | with_reducible first | apply cd_dec | apply cd_eq | apply cd_ne | apply cd_split | apply gd_dec | apply gd_eq | apply gd_ne | apply gd_split
    | ((with_reducible refine And.intro ?hw ?_); (case hw => first | omega | rfl | exact ⟨_, _, rfl⟩ | assumption | (simp only [lN] <;> omega)))
    | with_reducible intro _)
        all_goals try (exfalso; omega)
        all_goals simp [D.closed, D.er]
    · rw [decide_eq_false h1, Bool.false_and, Bool.false_and]
      repeat' (first
    | with_reducible first | apply swp_seq | apply swp_reg | apply swp_regD | apply swp_block | apply swp_exit | apply swp_ret | apply swp_skip | apply swp_cd
    | simp only [go_sem, seval, P26, q26, hlen]
    | simp (disch := omega) only [w64, w32, wu8, wu16, wu32, wu64]
    | with_reducible first | apply cd_dec | apply cd_eq | apply cd_ne | apply cd_split | apply gd_dec | apply gd_eq | apply gd_ne | apply gd_split
    | ((with_reducible refine And.intro ?hw ?_); (case hw => first | omega | rfl | exact ⟨_, _, rfl⟩ | assumption | (simp only [lN] <;> omega)))
    | with_reducible intro _)
      all_goals try (exfalso; omega)
      all_goals simp [D.closed, D.er]
theorem fewc_p (x : X) : Pur M 11 [x.d] (.bool (decide (x.nodes ≤ 80) && shortB x)) := by
  refine ok11 rfl ?_
  rw [i11]
  unfold c11
  have c1 := nodes_p x.nodes x (Nat.le_refl _) 80 (by omega)
  have hck := closedL_X x.kids
  have hek := erL_X x.kids
  by_cases h : x.nodes ≤ 80
  · have c2 := short_p x.nodes x (Nat.le_refl _) (by omega)
    rw [decide_eq_true h, Bool.true_and]
    rw [X.d_eq] at c1 c2 ⊢
    rw [show min x.nodes (80 + 1) = x.nodes by omega] at c1
    generalize x.nodes = q at *
    have hd : decide ((q : Int) ≤ 80) = true := decide_eq_true (by omega)
    repeat' (first
    | with_reducible first | apply swp_seq | apply swp_reg | apply swp_regD | apply swp_block | apply swp_exit | apply swp_ret | apply swp_skip | apply swp_cd
    | simp only [go_sem, seval, P11, q11, hd]
    | ((with_reducible refine o_call (c1) ?he ?hc ?_); (case he | hc => first | rfl | (simp [D.erL, D.er, D.closedL, D.closed, hck, hek]; done)))
    | ((with_reducible refine o_call (c2) ?he ?hc ?_); (case he | hc => first | rfl | (simp [D.erL, D.er, D.closedL, D.closed, hck, hek]; done)))
    | with_reducible first | apply cd_dec | apply cd_eq | apply cd_ne | apply cd_split | apply gd_dec | apply gd_eq | apply gd_ne | apply gd_split
    | ((with_reducible refine And.intro ?hw ?_); (case hw => first | omega | rfl | exact ⟨_, _, rfl⟩ | assumption | (simp only [lN, hck, hek] <;> omega)))
    | with_reducible intro _)
    all_goals first | omega | (simp_all [D.closed, D.er, D.closedL, D.erL]; done) | (simp_all [D.closed, D.er, D.closedL, D.erL] <;> omega)
  · rw [decide_eq_false h, Bool.false_and]
    rw [X.d_eq] at c1 ⊢
    rw [show min x.nodes (80 + 1) = 81 by omega] at c1
    repeat' (first
    | with_reducible first | apply swp_seq | apply swp_reg | apply swp_regD | apply swp_block | apply swp_exit | apply swp_ret | apply swp_skip | apply swp_cd
    | simp only [go_sem, seval, P11, q11]
    | ((with_reducible refine o_call (c1) ?he ?hc ?_); (case he | hc => first | rfl | (simp [D.erL, D.er, D.closedL, D.closed, hck, hek]; done)))
    | with_reducible first | apply cd_dec | apply cd_eq | apply cd_ne | apply cd_split | apply gd_dec | apply gd_eq | apply gd_ne | apply gd_split
    | ((with_reducible refine And.intro ?hw ?_); (case hw => first | omega | rfl | exact ⟨_, _, rfl⟩ | assumption | (simp only [lN, hck, hek] <;> omega)))
    | with_reducible intro _)
    all_goals first | omega | (simp_all [D.closed, D.er, D.closedL, D.erL]; done) | (simp_all [D.closed, D.er, D.closedL, D.erL] <;> omega)
end Go.Proofs.Ytcchbohfcmfmlaa
end
section
set_option maxRecDepth 100000
set_option linter.unusedSimpArgs false
set_option linter.unusedVariables false
namespace Go.Proofs.Ytcchbohfcmfmlaa
open Go GoV Go.RowKit
def fewKv (q : List UInt8 × List UInt8) : Bool := !decide (IntKind.i64.wrap ((q.1.length : Int) + q.2.length) > 300)
def sum4 (p : Pt) : Int := IntKind.i64.wrap (IntKind.i64.wrap (IntKind.i64.wrap ((p.name.length : Int) + p.kind.length) + p.into.length) + p.slot.length)
def fewPt (p : Pt) : Bool := (!decide (sum4 p > 300) && !decide ((p.props.length : Int) > 65)) && p.props.all fewKv
def fewS (s : List Pt) : Bool := decide (s.length ≤ 12) && s.all fewPt
theorem all_idx {α : Type} (f : α → Bool) (l : List α) (h : ∀ j (hj : j < l.length), f l[j] = true) : l.all f = true := by
  rw [List.all_eq_true]
  intro y hy
  obtain ⟨j, hj, rfl⟩ := List.getElem_of_mem hy
  exact h j hj
theorem all_bad {α : Type} (f : α → Bool) (l : List α) (j : Nat) (hj : j < l.length) (h : f l[j] = false) : l.all f = false := by
  rw [List.all_eq_false]; exact ⟨l[j], List.getElem_mem hj, by simp [h]⟩
theorem fewS_p (s : List Pt) : Pur M 19 [stateD s, .int .i64 12] (.bool (fewS s)) := by
  refine ok19 rfl ?_
  rw [i19]
  unfold c19
  have hlen : (s.map ptD).length = s.length := by simp
  unfold fewS
  by_cases h1 : s.length ≤ 12
  · rw [decide_eq_true h1, Bool.true_and]
    repeat' (first
    | with_reducible first | apply swp_seq | apply swp_reg | apply swp_regD | apply swp_block | apply swp_exit | apply swp_ret | apply swp_skip | apply swp_cd
    | simp only [go_sem, seval, P19, q19, hlen]
    | with_reducible first | apply cd_dec | apply cd_eq | apply cd_ne | apply cd_split | apply gd_dec | apply gd_eq | apply gd_ne | apply gd_split
    | ((with_reducible refine And.intro ?hw ?_); (case hw => first | omega | rfl | exact ⟨_, _, rfl⟩ | assumption | (simp only [lN] <;> omega)))
    | with_reducible intro _)
    all_goals try (exfalso; omega)
    refine swp_famG [0, 1, 2, 3, 4] 1 0 (Nat.zero_le _) (Nat.le_refl _) (fun i : Nat => ⟨[stateD s, .int .i64 12, .ptr 0 0, .bool false, .int .i64 i, .undef, .undef, .undef, .undef, .undef, .undef, .undef], [], ⟨[.cells [partsD s]], []⟩⟩) (fun i => i ≤ s.length ∧ ∀ j (h : j < i) (h' : j < s.length), fewPt s[j] = true) (fun i => s.length + 1 - i) 0 ⟨by omega, fun j h => by omega⟩ ?_ ?_
    · simp [keepE, St.keepG, St.keep, St.gc, Hp.cut, D.rnL, D.rn, cutF, Blk.rn, Blk.rnL, Tv.rnL, Own.rn]
    · rintro i ⟨hi, hb⟩
      by_cases hil : i < s.length
      · have hg : (s.map ptD).getD i .undef = .agg (s[i]).cells := partsD_get hil
        have hall : fewPt s[i] = false → s.all fewPt = false := all_bad _ _ i hil
        have hok : fewPt s[i] = true → ∀ j (h : j < i + 1) (h' : j < s.length), fewPt s[j] = true := fun e j h h' => by
          by_cases e2 : j = i
          · subst e2; exact e
          · exact hb j (by omega) h'
        generalize s[i] = p at *
        have hpl : (p.props.map propD).length = p.props.length := by simp
        by_cases h4 : sum4 p > 300
        · have hf : fewPt p = false := by simp [fewPt, h4]
          rw [hall hf]
          unfold sum4 at h4
          repeat' (first
    | with_reducible first | apply swp_seq | apply swp_reg | apply swp_regD | apply swp_block | apply swp_exit | apply swp_ret | apply swp_skip | apply swp_cd
    | simp only [go_sem, seval, P19, q19, hlen, hg, hpl, h4]
    | with_reducible first | apply cd_dec | apply cd_eq | apply cd_ne | apply cd_split | apply gd_dec | apply gd_eq | apply gd_ne | apply gd_split
    | ((with_reducible refine And.intro ?hw ?_); (case hw => first | omega | rfl | exact ⟨_, _, rfl⟩ | assumption | (simp only [lN, hlen, hg] <;> omega)))
    | with_reducible intro _)
          all_goals try (exfalso; omega)
          all_goals simp [D.closed, D.er]
        · have hn4 : decide (sum4 p > 300) = false := decide_eq_false h4
          by_cases h5 : (p.props.length : Int) > 65
          · have hf : fewPt p = false := by unfold fewPt; rw [hn4, decide_eq_true h5]; rfl
            rw [hall hf]
            unfold sum4 at h4
            repeat' (first
    | with_reducible first | apply swp_seq | apply swp_reg | apply swp_regD | apply swp_block | apply swp_exit | apply swp_ret | apply swp_skip | apply swp_cd
    | simp only [go_sem, seval, P19, q19, hlen, hg, hpl, h4, h5]
    | with_reducible first | apply cd_dec | apply cd_eq | apply cd_ne | apply cd_split | apply gd_dec | apply gd_eq | apply gd_ne | apply gd_split
    | ((with_reducible refine And.intro ?hw ?_); (case hw => first | omega | rfl | exact ⟨_, _, rfl⟩ | assumption | (simp only [lN, hlen, hg] <;> omega)))
    | with_reducible intro _)
            all_goals try (exfalso; omega)
            all_goals simp [D.closed, D.er]
          · have hfp : fewPt p = p.props.all fewKv := by unfold fewPt; rw [hn4, decide_eq_false h5]; rfl
            rw [hfp] at hall hok
            unfold sum4 at h4
            repeat' (first
    | with_reducible first | apply swp_seq | apply swp_reg | apply swp_regD | apply swp_block | apply swp_exit | apply swp_ret | apply swp_skip | apply swp_cd
    | simp only [go_sem, seval, P19, q19, hlen, hg, hpl, h4, h5]
    | with_reducible first | apply cd_dec | apply cd_eq | apply cd_ne | apply cd_split | apply gd_dec | apply gd_eq | apply gd_ne | apply gd_split
    | ((with_reducible refine And.intro ?hw ?_); (case hw => first | omega | rfl | exact ⟨_, _, rfl⟩ | assumption | (simp only [lN, hlen, hg] <;> omega)))
    | with_reducible intro _)
            all_goals try (exfalso; omega)
            refine swp_fam [0, 1, 2, 3, 4, 5, 6] (fun j : Nat => ⟨[stateD s, .int .i64 12, .ptr 0 0, .bool false, .int .i64 i, .ptr 1 0, .int .i64 j, .undef, .undef, .undef, .undef, .undef], [], ⟨[.cells [partsD s], .cells p.cells], []⟩⟩) (fun j => j ≤ p.props.length ∧ ∀ q (h : q < j) (h' : q < p.props.length), fewKv p.props[q] = true) (fun j => p.props.length + 1 - j) 0 ⟨by omega, fun j h => by omega⟩ ?_ ?_
            · simp [keepE, St.keep, setL]
            · rintro j ⟨hj, hbj⟩
              by_cases hjl : j < p.props.length
              · have hgj : (p.props.map propD).getD j .undef = .agg [.str p.props[j].1, .str p.props[j].2] := by simp [List.getD, hjl, propD]
                have hall2 : fewKv p.props[j] = false → p.props.all fewKv = false := all_bad _ _ j hjl
                have hok2 : fewKv p.props[j] = true → ∀ q (h : q < j + 1) (h' : q < p.props.length), fewKv p.props[q] = true := fun e q h h' => by
                  by_cases e2 : q = j
                  · subst e2; exact e
                  · exact hbj q (by omega) h'
                generalize p.props[j] = kv at *
                by_cases h6 : IntKind.i64.wrap ((kv.1.length : Int) + kv.2.length) > 300
                · rw [hall (hall2 (by simp [fewKv, h6]))]
                  repeat' (first
    | with_reducible first | apply swp_seq | apply swp_reg | apply swp_regD | apply swp_block | apply swp_exit | apply swp_ret | apply swp_skip | apply swp_cd
    | simp only [go_sem, seval, P19, q19, hlen, hg, hpl, hgj, h6]
    | with_reducible first | apply cd_dec | apply cd_eq | apply cd_ne | apply cd_split | apply gd_dec | apply gd_eq | apply gd_ne | apply gd_split
    | ((with_reducible refine And.intro ?hw ?_); (case hw => first | omega | rfl | exact ⟨_, _, rfl⟩ | assumption | (simp only [lN, hlen, hg, hgj, hpl] <;> omega)))
    | with_reducible intro _)
                  all_goals try (exfalso; omega)
                  all_goals simp [D.closed, D.er]
                · have hk := hok2 (by simp [fewKv, h6])
                  repeat' (first
    | with_reducible first | apply swp_seq | apply swp_reg | apply swp_regD | apply swp_block | apply swp_exit | apply swp_ret | apply swp_skip | apply swp_cd
    | simp only [go_sem, seval, P19, q19, hlen, hg, hpl, hgj, h6]
    | with_reducible first | apply cd_dec | apply cd_eq | apply cd_ne | apply cd_split | apply gd_dec | apply gd_eq | apply gd_ne | apply gd_split
    | ((with_reducible refine And.intro ?hw ?_); (case hw => first | omega | rfl | exact ⟨_, _, rfl⟩ | assumption | (simp only [lN, hlen, hg, hgj, hpl] <;> omega)))
    | with_reducible intro _)
                  all_goals try (exfalso; omega)
                  have hw : IntKind.i64.wrap ((j : Int) + 1) = ((j + 1 : Nat) : Int) := by rw [w64 (by omega) (by omega)]; omega
                  rw [hw]
                  refine ⟨j + 1, ⟨by omega, hk⟩, by omega, ?_⟩
                  simp [keepE, St.keep]
              · have hk := hok (all_idx fewKv p.props fun q hq => hbj q (by omega) hq)
                repeat' (first
    | with_reducible first | apply swp_seq | apply swp_reg | apply swp_regD | apply swp_block | apply swp_exit | apply swp_ret | apply swp_skip | apply swp_cd
    | simp only [go_sem, seval, P19, q19, hlen, hg, hpl]
    | with_reducible first | apply cd_dec | apply cd_eq | apply cd_ne | apply cd_split | apply gd_dec | apply gd_eq | apply gd_ne | apply gd_split
    | ((with_reducible refine And.intro ?hw ?_); (case hw => first | omega | rfl | exact ⟨_, _, rfl⟩ | assumption | (simp only [lN, hlen, hg, hpl] <;> omega)))
    | with_reducible intro _)
                all_goals try (exfalso; omega)
                have hw : IntKind.i64.wrap ((i : Int) + 1) = ((i + 1 : Nat) : Int) := by rw [w64 (by omega) (by omega)]; omega
                rw [hw]
                refine ⟨i + 1, ⟨by omega, hk⟩, by omega, ?_⟩
                simp [keepE, St.keepG, St.keep, St.gc, Hp.cut, D.rnL, D.rn, cutF, Blk.rn, Blk.rnL, Tv.rnL, Own.rn]
      · rw [all_idx fewPt s fun j hj => hb j (by omega) hj]
        repeat' (first
    | with_reducible first | apply swp_seq | apply swp_reg | apply swp_regD | apply swp_block | apply swp_exit | apply swp_ret | apply swp_skip | apply swp_cd
    | simp only [go_sem, seval, P19, q19, hlen]
    | simp (disch := omega) only [w64, w32, wu8, wu16, wu32, wu64]
    | with_reducible first | apply cd_dec | apply cd_eq | apply cd_ne | apply cd_split | apply gd_dec | apply gd_eq | apply gd_ne | apply gd_split
    | ((with_reducible refine And.intro ?hw ?_); (case hw => first | omega | rfl | exact ⟨_, _, rfl⟩ | assumption | (simp only [lN, hlen] <;> omega)))
    | with_reducible intro _)
        all_goals try omega
        all_goals simp [D.closed, D.er]
  · rw [decide_eq_false h1, Bool.false_and]
    repeat' (first
    | with_reducible first | apply swp_seq | apply swp_reg | apply swp_regD | apply swp_block | apply swp_exit | apply swp_ret | apply swp_skip | apply swp_cd
    | simp only [go_sem, seval, P19, q19, hlen]
    | simp (disch := omega) only [w64, w32, wu8, wu16, wu32, wu64]
    | with_reducible first | apply cd_dec | apply cd_eq | apply cd_ne | apply cd_split | apply gd_dec | apply gd_eq | apply gd_ne | apply gd_split
    | ((with_reducible refine And.intro ?hw ?_); (case hw => first | omega | rfl | exact ⟨_, _, rfl⟩ | assumption | (simp only [lN] <;> omega)))
    | with_reducible intro _)
    all_goals try omega
    all_goals simp [D.closed, D.er]
def fewF (s : List Pt) (x : X) (part : List UInt8) : Bool := (fewS s && (decide (x.nodes ≤ 80) && shortB x)) && decide (part.length ≤ 300)
theorem few_p (s : List Pt) (x : X) (part : List UInt8) : Pur M 9 [stateD s, x.d, .str part] (.bool (fewF s x part)) := by
  refine ok9 rfl ?_
  rw [i9]
  unfold c9
  have c1 := fewS_p s
  have c2 := fewc_p x
  have hcl := cl_parts s
  have her := erL_P s
  have hck := closedL_X x.kids
  have hek := erL_X x.kids
  have hd : decide ((part.length : Int) ≤ 300) = decide (part.length ≤ 300) := by rw [decide_eq_decide]; omega
  unfold fewF
  rw [X.d_eq] at c2 ⊢
  generalize (decide (x.nodes ≤ 80) && shortB x) = b2 at *
  generalize fewS s = b1 at *
  generalize decide (part.length ≤ 300) = b3 at *
  cases b1
  · repeat' (first
    | with_reducible first | apply swp_seq | apply swp_reg | apply swp_regD | apply swp_block | apply swp_exit | apply swp_ret | apply swp_skip | apply swp_cd
    | simp only [go_sem, seval, P9, q9, fillL, hd]
    | ((with_reducible refine o_call (c1) ?he ?hc ?_); (case he | hc => first | rfl | (simp [D.erL, D.er, D.closedL, D.closed, hcl, her, hck, hek]; done)))
    | ((with_reducible refine o_call (c2) ?he ?hc ?_); (case he | hc => first | rfl | (simp [D.erL, D.er, D.closedL, D.closed, hcl, her, hck, hek]; done)))
    | with_reducible first | apply cd_dec | apply cd_eq | apply cd_ne | apply cd_split | apply gd_dec | apply gd_eq | apply gd_ne | apply gd_split
    | ((with_reducible refine And.intro ?hw ?_); (case hw => first | omega | rfl | exact ⟨_, _, rfl⟩ | assumption | (simp only [lN, hcl, her, hck, hek] <;> omega)))
    | with_reducible intro _)
    all_goals first | omega | (simp_all [D.closed, D.er, D.closedL, D.erL]; done) | (simp_all [D.closed, D.er, D.closedL, D.erL] <;> omega)
  · cases b2
    · repeat' (first
    | with_reducible first | apply swp_seq | apply swp_reg | apply swp_regD | apply swp_block | apply swp_exit | apply swp_ret | apply swp_skip | apply swp_cd
    | simp only [go_sem, seval, P9, q9, fillL, hd]
    | ((with_reducible refine o_call (c1) ?he ?hc ?_); (case he | hc => first | rfl | (simp [D.erL, D.er, D.closedL, D.closed, hcl, her, hck, hek]; done)))
    | ((with_reducible refine o_call (c2) ?he ?hc ?_); (case he | hc => first | rfl | (simp [D.erL, D.er, D.closedL, D.closed, hcl, her, hck, hek]; done)))
    | with_reducible first | apply cd_dec | apply cd_eq | apply cd_ne | apply cd_split | apply gd_dec | apply gd_eq | apply gd_ne | apply gd_split
    | ((with_reducible refine And.intro ?hw ?_); (case hw => first | omega | rfl | exact ⟨_, _, rfl⟩ | assumption | (simp only [lN, hcl, her, hck, hek] <;> omega)))
    | with_reducible intro _)
      all_goals first | omega | (simp_all [D.closed, D.er, D.closedL, D.erL]; done) | (simp_all [D.closed, D.er, D.closedL, D.erL] <;> omega)
    · repeat' (first
    | with_reducible first | apply swp_seq | apply swp_reg | apply swp_regD | apply swp_block | apply swp_exit | apply swp_ret | apply swp_skip | apply swp_cd
    | simp only [go_sem, seval, P9, q9, fillL, hd]
    | ((with_reducible refine o_call (c1) ?he ?hc ?_); (case he | hc => first | rfl | (simp [D.erL, D.er, D.closedL, D.closed, hcl, her, hck, hek]; done)))
    | ((with_reducible refine o_call (c2) ?he ?hc ?_); (case he | hc => first | rfl | (simp [D.erL, D.er, D.closedL, D.closed, hcl, her, hck, hek]; done)))
    | with_reducible first | apply cd_dec | apply cd_eq | apply cd_ne | apply cd_split | apply gd_dec | apply gd_eq | apply gd_ne | apply gd_split
    | ((with_reducible refine And.intro ?hw ?_); (case hw => first | omega | rfl | exact ⟨_, _, rfl⟩ | assumption | (simp only [lN, hcl, her, hck, hek] <;> omega)))
    | with_reducible intro _)
      all_goals first | omega | (simp_all [D.closed, D.er, D.closedL, D.erL]; done) | (simp_all [D.closed, D.er, D.closedL, D.erL] <;> omega)
def sameF (p q : Pt) : Bool := p.name == q.name && p.kind == q.kind && p.into == q.into && p.slot == q.slot && p.made == q.made && p.since == q.since && p.scr == q.scr && p.km == q.km && p.cy == q.cy && p.dm == q.dm && p.props == q.props
theorem same_eqs {p q : Pt} (e : sameF p q = true) : p.name = q.name ∧ p.kind = q.kind ∧ p.into = q.into ∧ p.slot = q.slot ∧ p.made = q.made ∧ p.since = q.since ∧ p.scr = q.scr ∧ p.km = q.km ∧ p.cy = q.cy ∧ p.dm = q.dm ∧ p.props = q.props := by
  simp only [sameF, Bool.and_eq_true, beq_iff_eq] at e
  obtain ⟨⟨⟨⟨⟨⟨⟨⟨⟨⟨e1, e2⟩, e3⟩, e4⟩, e5⟩, e6⟩, e7⟩, e8⟩, e9⟩, e10⟩, e11⟩ := e
  exact ⟨e1, e2, e3, e4, e5, e6, e7, e8, e9, e10, e11⟩
set_option maxHeartbeats 1000000 in
theorem same_p (p q : Pt) (hp65 : p.props.length ≤ 65) : Pur M 21 [ptD p, ptD q] (.bool (sameF p q)) := by
  refine ok21 rfl ?_
  rw [i21]
  unfold c21
  show SWp C21 _ _ ⟨[.agg p.cells, .agg q.cells, .undef, .undef, .undef, .undef, .undef, .undef, .undef], [], ⟨[], []⟩⟩
  have hl1 : (p.props.map propD).length = p.props.length := by simp
  have hl2 : (q.props.map propD).length = q.props.length := by simp
  have hS := @same_eqs p q
  have hT : p.name = q.name → p.kind = q.kind → p.into = q.into → p.slot = q.slot → p.made = q.made → p.since = q.since → p.scr = q.scr → p.km = q.km → p.cy = q.cy → p.dm = q.dm → sameF p q = (p.props == q.props) := fun h1 h2 h3 h4 h5 h6 h7 h8 h9 h10 => by simp [sameF, h1, h2, h3, h4, h5, h6, h7, h8, h9, h10]
  generalize sameF p q = r at *
  repeat' (first
    | with_reducible first | apply swp_seq | apply swp_reg | apply swp_regD | apply swp_block | apply swp_exit | apply swp_ret | apply swp_skip | apply swp_cd
    | simp only [go_sem, seval, P21, q21, hl1, hl2]
    | with_reducible first | apply cd_dec | apply cd_eq | apply cd_ne | apply cd_split | apply gd_dec | apply gd_eq | apply gd_ne | apply gd_split
    | ((with_reducible refine And.intro ?hw ?_); (case hw => first | omega | rfl | exact ⟨_, _, rfl⟩ | assumption | (simp only [lN] <;> omega)))
    | with_reducible intro _)
  all_goals try (guard_target =ₛ D.bool false = D.bool r; clear hT; cases r <;> first | rfl | (exfalso; have hS := hS rfl; clear hl1 hl2; simp_all; done))
  rename_i e1 e2 e3 e4 e5 e6 e7 e8 eL
  have hL : p.props.length = q.props.length := by omega
  simp only [Bool.not_eq_false', beq_iff_eq, Bool.and_eq_true] at e1 e2 e3 e4 e7 e8
  obtain ⟨k1, k2, k3, k4, k5, k6⟩ := e8
  have hr : r = (p.props == q.props) := hT e1 e2 e3 e4 e5 e6 e7 (Prod.ext k1 k2) (Prod.ext k3 k4) (Prod.ext k5 k6)
  subst hr
  clear hT hS e1 e2 e3 e4 e5 e6 e7 k1 k2 k3 k4 k5 k6 eL
  refine swp_fam [0, 1, 2, 3, 4, 5] (fun i : Nat => ⟨[.agg p.cells, .agg q.cells, .ptr 0 0, .ptr 1 0, .bool false, .int .i64 i, .undef, .undef, .undef], [], ⟨[.cells p.cells, .cells q.cells], []⟩⟩) (fun i => i ≤ p.props.length ∧ ∀ j (h : j < i) (h1 : j < p.props.length) (h2 : j < q.props.length), p.props[j] = q.props[j]) (fun i => p.props.length + 1 - i) 0 ⟨by omega, fun j h => by omega⟩ ?_ ?_
  · simp [keepE, St.keep]
  · rintro i ⟨hi, hb⟩
    by_cases hil : i < p.props.length
    · have hil2 : i < q.props.length := by omega
      have hg : (p.props.map propD).getD i .undef = .agg [.str p.props[i].1, .str p.props[i].2] := by simp [List.getD, hil, propD]
      have hg2 : (q.props.map propD).getD i .undef = .agg [.str q.props[i].1, .str q.props[i].2] := by simp [List.getD, hil2, propD]
      have hbad : p.props[i] ≠ q.props[i] → (p.props == q.props) = false := fun e => by
        rw [beq_eq_false_iff_ne]
        intro e2
        exact e (by simp only [e2])
      have hok : p.props[i] = q.props[i] → ∀ j (h : j < i + 1) (h1 : j < p.props.length) (h2 : j < q.props.length), p.props[j] = q.props[j] := fun e j h h1 h2 => by
        by_cases e2 : j = i
        · subst e2; exact e
        · exact hb j (by omega) h1 h2
      generalize p.props[i] = a at *
      generalize q.props[i] = b at *
      have hS2 : a.1 = b.1 → a.2 = b.2 → a = b := fun h1 h2 => Prod.ext h1 h2
      generalize (p.props == q.props) = r at *
      repeat' (first
    | with_reducible first | apply swp_seq | apply swp_reg | apply swp_regD | apply swp_block | apply swp_exit | apply swp_ret | apply swp_skip | apply swp_cd
    | simp only [go_sem, seval, P21, q21, hl1, hl2, hg, hg2]
    | simp (disch := omega) only [w64, w32, wu8, wu16, wu32, wu64]
    | with_reducible first | apply cd_dec | apply cd_eq | apply cd_ne | apply cd_split | apply gd_dec | apply gd_eq | apply gd_ne | apply gd_split
    | ((with_reducible refine And.intro ?hw ?_); (case hw => first | omega | rfl | exact ⟨_, _, rfl⟩ | assumption | (simp only [lN, hl1, hl2, hg, hg2] <;> omega)))
    | with_reducible intro _)
      all_goals try (exfalso; omega)
      · rw [hbad (by rintro rfl; simp_all)]
      · rename_i e9
        simp only [Bool.not_eq_false', beq_iff_eq, Bool.and_eq_true] at e9
        refine ⟨i + 1, ⟨by omega, hok (hS2 e9.1 e9.2)⟩, by omega, ?_⟩
        simp [keepE, St.keep]
    · have hr : (p.props == q.props) = true := by
        rw [beq_iff_eq]
        exact List.ext_getElem hL fun j h1 h2 => hb j (by omega) h1 h2
      rw [hr]
      repeat' (first
    | with_reducible first | apply swp_seq | apply swp_reg | apply swp_regD | apply swp_block | apply swp_exit | apply swp_ret | apply swp_skip | apply swp_cd
    | simp only [go_sem, seval, P21, q21, hl1, hl2]
    | simp (disch := omega) only [w64, w32, wu8, wu16, wu32, wu64]
    | with_reducible first | apply cd_dec | apply cd_eq | apply cd_ne | apply cd_split | apply gd_dec | apply gd_eq | apply gd_ne | apply gd_split
    | ((with_reducible refine And.intro ?hw ?_); (case hw => first | omega | rfl | exact ⟨_, _, rfl⟩ | assumption | (simp only [lN, hl1, hl2] <;> omega)))
    | with_reducible intro _)
      all_goals try (exfalso; omega)
      all_goals simp [D.closed, D.er]
end Go.Proofs.Ytcchbohfcmfmlaa
end
section
set_option maxRecDepth 100000
set_option linter.unusedSimpArgs false
set_option linter.unusedVariables false
namespace Go.Proofs.Ytcchbohfcmfmlaa
open Go GoV Go.RowKit
def exP1 : Pt := ⟨[99], [99, 111, 97, 99, 104], [], [], 0, 0, false, [], (90, 110), (0, 0), (0, 0)⟩
def exP2 : Pt := ⟨[119], [119, 104, 101, 101, 108, 115, 101, 116], [99], [102, 114, 111, 110, 116], 0, 0, false, [([98, 97, 116, 99, 104], [65])], (0, 0), (0, 0), (0, 0)⟩
def exS : List Pt := [exP1, exP2]
theorem exS_ok : Sok exS := ⟨by decide, by intro p hp; simp [exS] at hp; rcases hp with rfl | rfl <;> decide⟩
theorem example_p : Pur M 23 [] (stateD exS) := by
  refine pur_res (d := .agg [.slice [.agg [.str [99], .str [99, 111, 97, 99, 104], .str [], .str [], .int .i64 0, .int .i64 0, .bool false, .lit (.slice none 0 0), .int .i64 90, .int .i64 110, .int .i64 0, .int .i64 0, .int .i64 0, .int .i64 0],
    .agg [.str [119], .str [119, 104, 101, 101, 108, 115, 101, 116], .str [99], .str [102, 114, 111, 110, 116], .int .i64 0, .int .i64 0, .bool false, .slice [.agg [.str [98, 97, 116, 99, 104], .str [65]]] .no, .int .i64 0, .int .i64 0, .int .i64 0, .int .i64 0, .int .i64 0, .int .i64 0]] .no]) (ok23 rfl ?_) (by simp [D.nn, D.nnL, ptD, exP1, exP2, exS, propD])
  rw [i23]
  unfold c23
  repeat' (first
    | with_reducible first | apply swp_seq | apply swp_reg | apply swp_regD | apply swp_block | apply swp_exit | apply swp_ret | apply swp_skip | apply swp_cd
    | simp only [go_sem, seval, P23, q23, fillL]
    | ((with_reducible apply s_bsl); (case he | hl | hc => first | rfl | assumption | omega | ((first | refine ⟨?_, ?_⟩ | skip) <;> first | omega | (simp only [lN] <;> omega)) | (simp [elemsK, D.isVal, D.cells, D.closedL, D.closed]; first | done | omega)))
    | with_reducible first | apply cd_dec | apply cd_eq | apply cd_ne | apply cd_split
    | ((with_reducible refine And.intro ?hw ?_); (case hw => first | omega | rfl | exact ⟨_, _, rfl⟩ | assumption | (simp only [lN] <;> omega)))
    | with_reducible intro _)
abbrev exH : Hp := ⟨[.cells [partsD exS]], []⟩
def hex (x : X) : Int := holdsF exS x [99] 5
theorem hex_e (x : X) (hx : x.sm) : Eff M 24 [x.d, .ptr 0 0] exH fun d hp => d = .int .i64 (hex x) ∧ hp = exH := by
  unfold exH
  refine oe24 1 0 rfl rfl rfl ?_
  rw [ie24]
  unfold c24
  have c1 : Pur M 12 [stateD exS, x.d, .str [99], .int .i64 5] (.int .i64 (hex x)) := holds_p exS exS_ok x hx [99] 5
  have hcl := cl_parts exS
  have her := erL_P exS
  have hck := closedL_X x.kids
  have hek := erL_X x.kids
  rw [X.d_eq] at c1 ⊢
  generalize hex x = z at *
  generalize exS = s at *
  repeat' (first
    | with_reducible first | apply swp_seq | apply swp_reg | apply swp_regD | apply swp_block | apply swp_exit | apply swp_ret | apply swp_skip | apply swp_cd
    | simp only [go_sem, seval, pe24, q24, fillL]
    | ((with_reducible refine o_call (c1) ?he ?hc ?_); (case he | hc => first | rfl | (simp [D.erL, D.er, D.closedL, D.closed, hcl, her, hck, hek]; done)))
    | with_reducible first | apply cd_dec | apply cd_eq | apply cd_ne | apply cd_split
    | ((with_reducible refine And.intro ?hw ?_); (case hw => first | omega | rfl | exact ⟨_, _, rfl⟩ | assumption | (simp only [lN, hcl, her, hck, hek] <;> omega)))
    | with_reducible intro _)
  all_goals try omega
  all_goals exact ⟨_, weak_sel [0] [] ⟨by simp, by simp, by simp, by simp⟩ rfl rfl, by simp [St.sel, Hp.sel, D.rnL, D.rn, posF, idx, Blk.rn, Blk.rnL, Tv.rnL, Own.rn]⟩
def xB : X := .mk 7 [98, 97, 116, 99, 104] [65] 0 0 []
def x3 : X := .mk 6 [107, 109] [] 89 0 []
def x4 : X := .mk 11 [119, 104, 101, 101, 108, 115, 101, 116] [] 0 0 [xB]
def x5 : X := .mk 10 [97, 120, 108, 101] [] 0 0 [.mk 8 [98, 97, 116, 99, 104] [] 0 0 []]
def x6 : X := .mk 12 [119, 104, 101, 101, 108, 115, 101, 116] [] 2 0 []
theorem h1v : hex (lim kKm 100 0) = 1 := by decide +kernel
theorem h2v : hex (lim kKm 100 10) = 2 := by decide +kernel
theorem h3v : hex x3 = 2 := by decide +kernel
theorem h4v : hex x4 = 2 := by decide +kernel
theorem h5v : hex x5 = 2 := by decide +kernel
theorem h6v : hex x6 = 0 := by decide +kernel
theorem hBv : hex xB = 0 := by decide +kernel
theorem sm_lim (n extra : Int) : (lim kKm n extra).sm := ⟨by simp [shortB, shortBL, kKm], by simp [X.nodes, X.nodesL]⟩
abbrev noK : D := .lit (.slice none 0 0)
theorem e3 : Eff M 24 [.agg [.int .i64 6, .str [107, 109], .str [], .int .i64 89, .int .i64 0, noK], .ptr 0 0] exH fun d hp => d = .int .i64 2 ∧ hp = exH := by
  have h := hex_e x3 (by constructor <;> decide)
  rw [h3v] at h
  exact eff_args h (by simp [D.nnL, D.nn, x3, X.d, X.dL])
theorem e4 : Eff M 24 [.agg [.int .i64 11, .str [119, 104, 101, 101, 108, 115, 101, 116], .str [], .int .i64 0, .int .i64 0, .slice [.agg [.int .i64 7, .str [98, 97, 116, 99, 104], .str [65], .int .i64 0, .int .i64 0, noK]] .no], .ptr 0 0] exH fun d hp => d = .int .i64 2 ∧ hp = exH := by
  have h := hex_e x4 (by constructor <;> decide)
  rw [h4v] at h
  exact eff_args h (by simp [D.nnL, D.nn, x4, xB, X.d, X.dL])
theorem e5 : Eff M 24 [.agg [.int .i64 10, .str [97, 120, 108, 101], .str [], .int .i64 0, .int .i64 0, .slice [.agg [.int .i64 8, .str [98, 97, 116, 99, 104], .str [], .int .i64 0, .int .i64 0, noK]] .no], .ptr 0 0] exH fun d hp => d = .int .i64 2 ∧ hp = exH := by
  have h := hex_e x5 (by constructor <;> decide)
  rw [h5v] at h
  exact eff_args h (by simp [D.nnL, D.nn, x5, X.d, X.dL])
theorem e6 : Eff M 24 [.agg [.int .i64 12, .str [119, 104, 101, 101, 108, 115, 101, 116], .str [], .int .i64 2, .int .i64 0, noK], .ptr 0 0] exH fun d hp => d = .int .i64 0 ∧ hp = exH := by
  have h := hex_e x6 (by constructor <;> decide)
  rw [h6v] at h
  exact eff_args h (by simp [D.nnL, D.nn, x6, X.d, X.dL])
theorem eB : Eff M 24 [.agg [.int .i64 7, .str [98, 97, 116, 99, 104], .str [65], .int .i64 0, .int .i64 0, noK], .ptr 0 0] exH fun d hp => d = .int .i64 0 ∧ hp = exH := by
  have h := hex_e xB (by constructor <;> decide)
  rw [hBv] at h
  exact eff_args h (by simp [D.nnL, D.nn, xB, X.d, X.dL])
theorem eff_er1 {M : Mod} {f : FuncId} {d : D} {rest : List D} {hp : Hp} {R : D → Hp → Prop} (hc : d.closed = true) (h : Eff M f (d.er :: rest) hp R) : Eff M f (d :: rest) hp R :=
  ⟨h.1, fun w g xs hA hh hr => h.2 w g xs hA hh (by
    obtain ⟨y, ys, rfl, h1, h2⟩ := hr.inv
    exact RelL.cons (Rel.any (Rel.closed d hc h1)) h2)⟩
theorem e4f : Eff M 24 [.agg [.int .i64 11, .str [119, 104, 101, 101, 108, 115, 101, 116], .str [], .int .i64 0, .int .i64 0, .slice [.agg [.int .i64 7, .str [98, 97, 116, 99, 104], .str [65], .int .i64 0, .int .i64 0, noK]] .full], .ptr 0 0] exH fun d hp => d = .int .i64 2 ∧ hp = exH :=
  eff_er1 rfl e4
theorem e5f : Eff M 24 [.agg [.int .i64 10, .str [97, 120, 108, 101], .str [], .int .i64 0, .int .i64 0, .slice [.agg [.int .i64 8, .str [98, 97, 116, 99, 104], .str [], .int .i64 0, .int .i64 0, noK]] .full], .ptr 0 0] exH fun d hp => d = .int .i64 2 ∧ hp = exH :=
  eff_er1 rfl e5
abbrev limD (n extra : Int) : D := .agg [.int .i64 5, .str [107, 109], .str [], .int .i64 n, .int .i64 extra, .slice [] .no]
theorem lim_d (n extra : Int) : X.d (lim kKm n extra) = limD n extra := by simp [X.d, X.dL, kKm]
theorem e1 : Eff M 24 [limD 100 0, .ptr 0 0] exH fun d hp => d = .int .i64 1 ∧ hp = exH := by
  have h := hex_e _ (sm_lim 100 0)
  rw [h1v, lim_d] at h
  exact h
theorem e2 : Eff M 24 [limD 100 10, .ptr 0 0] exH fun d hp => d = .int .i64 2 ∧ hp = exH := by
  have h := hex_e _ (sm_lim 100 10)
  rw [h2v, lim_d] at h
  exact h
theorem head_p : Pur M 8 [] (.bool true) := by
  refine ok8 rfl ?_
  rw [i8]
  unfold c8
  have c1 := example_p
  have cl1 := limit_p 100 0
  have cl2 := limit_p 100 10
  rw [lim_d] at cl1 cl2
  have c2 := e1
  have c3 := e2
  have c4 := e3
  have c5 := e4f
  have c6 := e5f
  have c7 := e6
  have c8 := eB
  have hcl := cl_parts exS
  have her := erL_P exS
  unfold exH at c2 c3 c4 c5 c6 c7 c8
  generalize exS = s at *
  repeat' (first
    | with_reducible first | apply swp_seq | apply swp_reg | apply swp_regD | apply swp_block | apply swp_exit | apply swp_ret | apply swp_skip | apply swp_cd
    | simp only [go_sem, seval, P8, q8, fillL]
    | ((with_reducible refine o_call (c1) ?he ?hc ?_); (case he | hc => first | rfl | (simp [D.erL, D.er, D.closedL, D.closed, hcl, her]; done)))
    | ((with_reducible refine o_call (cl1) ?he ?hc ?_); (case he | hc => first | rfl | (simp [D.erL, D.er, D.closedL, D.closed, hcl, her]; done)))
    | ((with_reducible refine o_call (cl2) ?he ?hc ?_); (case he | hc => first | rfl | (simp [D.erL, D.er, D.closedL, D.closed, hcl, her]; done)))
    | ((with_reducible refine o_eff [0] [] (c2) ?hs ?he ?hh ?_); (case hs => exact ⟨by simp, by simp, by simp, by simp⟩); (case he => first | rfl | (simp [go_sem, seval, hcl, her]; done)); (case hh => first | rfl | (simp [go_sem, seval, hcl, her]; done)); rintro _ _ ⟨rfl, rfl⟩)
    | ((with_reducible refine o_eff [0] [] (c3) ?hs ?he ?hh ?_); (case hs => exact ⟨by simp, by simp, by simp, by simp⟩); (case he => first | rfl | (simp [go_sem, seval, hcl, her]; done)); (case hh => first | rfl | (simp [go_sem, seval, hcl, her]; done)); rintro _ _ ⟨rfl, rfl⟩)
    | ((with_reducible refine o_eff [0] [] (c4) ?hs ?he ?hh ?_); (case hs => exact ⟨by simp, by simp, by simp, by simp⟩); (case he => first | rfl | (simp [go_sem, seval, hcl, her]; done)); (case hh => first | rfl | (simp [go_sem, seval, hcl, her]; done)); rintro _ _ ⟨rfl, rfl⟩)
    | ((with_reducible refine o_eff [0] [] (c5) ?hs ?he ?hh ?_); (case hs => exact ⟨by simp, by simp, by simp, by simp⟩); (case he => first | rfl | (simp [go_sem, seval, hcl, her]; done)); (case hh => first | rfl | (simp [go_sem, seval, hcl, her]; done)); rintro _ _ ⟨rfl, rfl⟩)
    | ((with_reducible refine o_eff [0] [] (c6) ?hs ?he ?hh ?_); (case hs => exact ⟨by simp, by simp, by simp, by simp⟩); (case he => first | rfl | (simp [go_sem, seval, hcl, her]; done)); (case hh => first | rfl | (simp [go_sem, seval, hcl, her]; done)); rintro _ _ ⟨rfl, rfl⟩)
    | ((with_reducible refine o_eff [0] [] (c7) ?hs ?he ?hh ?_); (case hs => exact ⟨by simp, by simp, by simp, by simp⟩); (case he => first | rfl | (simp [go_sem, seval, hcl, her]; done)); (case hh => first | rfl | (simp [go_sem, seval, hcl, her]; done)); rintro _ _ ⟨rfl, rfl⟩)
    | ((with_reducible refine o_eff [0] [] (c8) ?hs ?he ?hh ?_); (case hs => exact ⟨by simp, by simp, by simp, by simp⟩); (case he => first | rfl | (simp [go_sem, seval, hcl, her]; done)); (case hh => first | rfl | (simp [go_sem, seval, hcl, her]; done)); rintro _ _ ⟨rfl, rfl⟩)
    | ((with_reducible apply s_bsl); (case he | hl | hc => first | rfl | assumption | omega | ((first | refine ⟨?_, ?_⟩ | skip) <;> first | omega | (simp only [lN, hcl, her] <;> omega)) | (simp [elemsK, D.isVal, D.cells, D.closedL, D.closed, hcl, her]; first | done | omega)))
    | with_reducible first | apply cd_dec | apply cd_eq | apply cd_ne | apply cd_split | apply gd_dec | apply gd_eq | apply gd_ne | apply gd_split
    | ((with_reducible refine And.intro ?hw ?_); (case hw => first | omega | rfl | exact ⟨_, _, rfl⟩ | assumption | (simp only [lN, hcl, her] <;> omega)))
    | with_reducible intro _)
end Go.Proofs.Ytcchbohfcmfmlaa
end
section
set_option maxRecDepth 100000
set_option linter.unusedSimpArgs false
set_option linter.unusedVariables false
namespace Go.Proofs.Ytcchbohfcmfmlaa
open Go GoV Go.RowKit
def PIn (p : Pt) : Prop := -9223372036854775808 ≤ p.made ∧ -9223372036854775808 ≤ p.since
theorem few_sok {s : List Pt} (h : fewS s = true) (hp : ∀ p ∈ s, PIn p) : Sok s := by
  simp only [fewS, Bool.and_eq_true, decide_eq_true_eq, List.all_eq_true] at h
  refine ⟨h.1, fun p hm => ⟨?_, hp p hm⟩⟩
  have := h.2 p hm
  simp only [fewPt, Bool.and_eq_true, Bool.not_eq_true', decide_eq_false_iff_not] at this
  omega
theorem few_split {s : List Pt} {x : X} {part : List UInt8} (h : fewF s x part = true) : fewS s = true ∧ x.sm ∧ x.nodes ≤ 80 ∧ part.length ≤ 300 := by
  simp only [fewF, Bool.and_eq_true, decide_eq_true_eq] at h
  exact ⟨h.1.1, ⟨h.1.2.2, by omega⟩, h.1.2.1, h.2⟩
end Go.Proofs.Ytcchbohfcmfmlaa
end
section
set_option maxRecDepth 100000
set_option linter.unusedSimpArgs false
set_option linter.unusedVariables false
namespace Go.Proofs.Ytcchbohfcmfmlaa
open Go GoV Go.RowKit
mutual
theorem nn_X : ∀ x : X, D.nn x.d = x.d
  | .mk op name value n extra ks => by simp [X.d, D.nn, D.nnL, nnL_dL ks]
theorem nnL_dL : ∀ ks : List X, D.nnL (X.dL ks) = X.dL ks
  | [] => rfl
  | k :: ks => by simp [X.dL, D.nnL, nn_X k, nnL_dL ks]
end
end Go.Proofs.Ytcchbohfcmfmlaa
end
section
set_option maxRecDepth 100000
set_option linter.unusedSimpArgs false
set_option linter.unusedVariables false
namespace Go.Proofs.Ytcchbohfcmfmlaa
open Go GoV Go.RowKit
end Go.Proofs.Ytcchbohfcmfmlaa
end
section
set_option maxRecDepth 100000
set_option linter.unusedSimpArgs false
set_option linter.unusedVariables false
namespace Go.Proofs.Ytcchbohfcmfmlaa
open Go GoV Go.RowKit
end Go.Proofs.Ytcchbohfcmfmlaa
end
section
set_option maxRecDepth 100000
set_option linter.unusedSimpArgs false
set_option linter.unusedVariables false
namespace Go.Proofs.Ytcchbohfcmfmlaa
open Go GoV Go.RowKit
theorem all2_idx {α : Type} {R : α → α → Prop} : ∀ (l m : List α), l.length = m.length → (∀ j (h1 : j < l.length) (h2 : j < m.length), R l[j] m[j]) → All2 R l m
  | [], [], _, _ => .nil
  | a :: l, b :: m, hl, h => .cons (h 0 (by simp) (by simp)) (all2_idx l m (by simpa using hl) fun j h1 h2 => by
      have := h (j + 1) (by simp; omega) (by simp; omega)
      simpa using this)
  | [], b :: m, hl, _ => by simp at hl
  | a :: l, [], hl, _ => by simp at hl
abbrev withLife (p q : Pt) : Pt := { p with km := q.km, cy := q.cy, dm := q.dm }
theorem kn_of {p q : Pt} (h1 : within p.km q.km = true) (h2 : within p.cy q.cy = true) (h3 : within p.dm q.dm = true) (h : sameF (withLife p q) q = true) : Kn p q := by
  obtain ⟨e1, e2, e3, e4, e5, e6, e7, e8, e9, e10, e11⟩ := same_eqs h
  exact ⟨e1, e2, e3, e4, e5, e6, e11, h1, h2, h3⟩
def cpHp (s t : List Pt) (e : X) (p q : Pt) (E : Nat → Bool) : Hp := ⟨[.cells [partsD s], .cells [partsD t], .cells e.cells], [if E 10 then (if E 12 then .chg 14 p.cells else .chg 14 zeroC) else .chg 14 [], if E 11 then .chg 14 zeroC else .chg 14 []]⟩
theorem cpHp_still (s t : List Pt) (e : X) (p q : Pt) (i : Nat) (h0 : i ≠ 10) (h1 : i ≠ 11) (h2 : i ≠ 12) : Still (cpHp s t e p q) i := fun E _ => by
  have q0 : (10 == i) = false := beq_false_of_ne (Ne.symm h0)
  have q1 : (11 == i) = false := beq_false_of_ne (Ne.symm h1)
  have q2 : (12 == i) = false := beq_false_of_ne (Ne.symm h2)
  simp only [cpHp, q0, q1, q2, Bool.or_false]
set_option maxHeartbeats 1000000 in
theorem knows_reg (s t : List Pt) (e : X) (p q : Pt) (part : List UInt8) (day : Int) (i : Nat) (hi : i < s.length) (hi2 : i < t.length) (hg : (s.map ptD).getD i .undef = .agg q.cells) (hg2 : (t.map ptD).getD i .undef = .agg p.cells) (Q : Ex → St → Prop)
    (hQ : Q .normal ⟨[stateD s, stateD t, .agg e.cells, .str part, .int .i64 day, .ptr 0 0, .ptr 1 0, .ptr 2 0, .bool false, .bool true, .int .i64 i, .gp 0 1 0, .gp 1 1 0, .undef, .undef, .bool true, .undef, .undef], [], ⟨[.cells [partsD s], .cells [partsD t], .cells e.cells], [.chg 14 p.cells, .chg 14 q.cells]⟩⟩) :
    SWp C6 (.regD r6_6 r6_7) Q ⟨[stateD s, stateD t, .agg e.cells, .str part, .int .i64 day, .ptr 0 0, .ptr 1 0, .ptr 2 0, .bool false, .bool true, .int .i64 i, .undef, .undef, .undef, .undef, .bool true, .undef, .undef], [], ⟨[.cells [partsD s], .cells [partsD t], .cells e.cells], []⟩⟩ := by
  refine swp_weak (weak_resv 14 (by omega)) ?_
  refine swp_weak (weak_resv 14 (by omega)) ?_
  have st := cpHp_still s t e p q
  have hlen : (s.map ptD).length = s.length := by simp
  have hlen2 : (t.map ptD).length = t.length := by simp
  refine swp_regDG (cpHp s t e p q) [(10, 12)] (by decide) rfl ?_
  rw [P6]
  have H0 : ∀ E, (cpHp s t e p q E).H = [.cells [partsD s], .cells [partsD t], .cells e.cells] := fun E => rfl
  refine v_q (ds := [.ptr 1 0]) (.ptr 1 0) rfl (st _ (by decide) (by decide) (by decide)) (fun E _ => by simp [OcWp, isCall, opWp]) ?_
  refine v_q (ds := [.ptr 1 0]) (partsD t) rfl (st _ (by decide) (by decide) (by decide)) (fun E _ => by simp [OcWp, isCall, opWp, H0, Blk.csq]) ?_
  refine v_q (ds := [.int .i64 i]) (.int .i64 i) rfl (st _ (by decide) (by decide) (by decide)) (fun E _ => by simp [OcWp, isCall, opWp]) ?_
  refine v_q (ds := [partsD t, .int .i64 i]) (.ip p.cells) rfl (st _ (by decide) (by decide) (by decide)) (fun E _ => by simp only [OcWp, isCall, Bool.false_eq_true, if_false, opWp, Int.toNat_natCast, hlen2, hg2]; exact ⟨by omega, by omega, rfl, rfl, rfl, trivial⟩) ?_
  refine v_q (ds := [.ip p.cells]) (.agg p.cells) rfl (st _ (by decide) (by decide) (by decide)) (fun E _ => by simp [OcWp, isCall, opWp]) ?_
  refine v_q (ds := [.ptr 0 0]) (.ptr 0 0) rfl (st _ (by decide) (by decide) (by decide)) (fun E _ => by simp [OcWp, isCall, opWp]) ?_
  refine v_q (ds := [.ptr 0 0]) (partsD s) rfl (st _ (by decide) (by decide) (by decide)) (fun E _ => by simp [OcWp, isCall, opWp, H0, Blk.csq]) ?_
  refine v_q (ds := [.int .i64 i]) (.int .i64 i) rfl (st _ (by decide) (by decide) (by decide)) (fun E _ => by simp [OcWp, isCall, opWp]) ?_
  refine v_q (ds := [partsD s, .int .i64 i]) (.ip q.cells) rfl (st _ (by decide) (by decide) (by decide)) (fun E _ => by simp only [OcWp, isCall, Bool.false_eq_true, if_false, opWp, Int.toNat_natCast, hlen, hg]; exact ⟨by omega, by omega, rfl, rfl, rfl, trivial⟩) ?_
  refine v_q (ds := [.ip q.cells]) (.agg q.cells) rfl (st _ (by decide) (by decide) (by decide)) (fun E _ => by simp [OcWp, isCall, opWp]) ?_
  refine v_new 0 (by decide) (fun E hE hG hR => ?_) ?_
  · have h12 : E 12 = false := by
      cases h : E 12 with
      | false => rfl
      | true => have := hG (10, 12) (by simp) h; rw [hE] at this; cases this
    simp [cpHp, hE, h12]
  refine v_new 1 (by decide) (fun E hE hG hR => ?_) ?_
  · simp [cpHp, hE]
  refine v_c (ds := [.gp 0 1 0, .agg p.cells]) (d := .skip) rfl (fun E hE hG hR => ?_) ?_
  · have h10 : E 10 = true := hR (10, 12) (by simp) rfl
    simp [OcWp, isCall, opWp, cpHp, hE, h10, D.isVal, D.cells, setL]
    exact ⟨14, zeroC, ⟨rfl, rfl⟩, rfl, by decide, rfl, rfl⟩
  refine v_end (hp' := ⟨[.cells [partsD s], .cells [partsD t], .cells e.cells], [.chg 14 p.cells, .chg 14 zeroC]⟩) (by simp [cpHp]) ?_
  repeat' (first
    | with_reducible first | apply swp_seq | apply swp_reg | apply swp_regD | apply swp_block | apply swp_exit | apply swp_ret | apply swp_skip | apply swp_cd
    | simp only [go_sem, seval, P6, q6]
    | with_reducible first | apply cd_dec | apply cd_eq | apply cd_ne | apply cd_split | apply gd_dec | apply gd_eq | apply gd_ne | apply gd_split
    | ((with_reducible refine And.intro ?hw ?_); (case hw => first | omega | rfl | exact ⟨_, _, rfl⟩ | assumption | (simp only [lN] <;> omega)))
    | with_reducible intro _)
  exact hQ
set_option maxHeartbeats 2000000 in
theorem knows_p (s t : List Pt) (hp : ∀ p ∈ s, PIn p) (ht : ∀ p ∈ t, PIn p) (e : X) (part : List UInt8) (day : Int) :
    Pur M 6 [stateD s, stateD t, e.d, .str part, .int .i64 day] (.bool true) := by
  refine ok6 rfl ?_
  rw [i6]
  unfold c6
  have hcl := cl_parts s
  have her := erL_P s
  have hcl2 := cl_parts t
  have her2 := erL_P t
  have ce := closedL_X e.kids
  have ee := erL_X e.kids
  have hlen : (s.map ptD).length = s.length := by simp
  have hlen2 : (t.map ptD).length = t.length := by simp
  have k0 := head_p
  have k1 := few_p s e part
  have k2 := fewS_p t
  by_cases h1 : fewF s e part = true
  rotate_left
  · rw [Bool.not_eq_true] at h1
    rw [h1] at k1
    rw [X.d_eq e] at *
    repeat' (first
    | with_reducible first | apply swp_seq | apply swp_reg | apply swp_regD | apply swp_block | apply swp_exit | apply swp_ret | apply swp_skip | apply swp_cd
    | simp only [go_sem, seval, P6, q6, hlen, hlen2]
    | ((with_reducible refine o_call (k0) ?he ?hc ?_); (case he | hc => first | rfl | (simp [D.erL, D.er, D.closedL, D.closed, hcl, her, ce, ee, hcl2, her2]; done)))
    | ((with_reducible refine o_call (k1) ?he ?hc ?_); (case he | hc => first | rfl | (simp [D.erL, D.er, D.closedL, D.closed, hcl, her, ce, ee, hcl2, her2]; done)))
    | ((with_reducible refine o_call (k2) ?he ?hc ?_); (case he | hc => first | rfl | (simp [D.erL, D.er, D.closedL, D.closed, hcl, her, ce, ee, hcl2, her2]; done)))
    | with_reducible first | apply cd_dec | apply cd_eq | apply cd_ne | apply cd_split | apply gd_dec | apply gd_eq | apply gd_ne | apply gd_split
    | ((with_reducible refine And.intro ?hw ?_); (case hw => first | omega | rfl | exact ⟨_, _, rfl⟩ | assumption | (simp only [lN, hcl, her, ce, ee, hcl2, her2] <;> omega)))
    | with_reducible intro _)
    all_goals first | omega | (simp_all [D.closed, D.er, D.closedL, D.erL]; done) | (simp_all [D.closed, D.er, D.closedL, D.erL] <;> omega)
  rw [h1] at k1
  obtain ⟨f1, f2, f3, f4⟩ := few_split h1
  have hs := few_sok f1 hp
  have hl := hs.len
  by_cases h2 : fewS t = true
  rotate_left
  · rw [Bool.not_eq_true] at h2
    rw [h2] at k2
    rw [X.d_eq e] at *
    repeat' (first
    | with_reducible first | apply swp_seq | apply swp_reg | apply swp_regD | apply swp_block | apply swp_exit | apply swp_ret | apply swp_skip | apply swp_cd
    | simp only [go_sem, seval, P6, q6, hlen, hlen2]
    | ((with_reducible refine o_call (k0) ?he ?hc ?_); (case he | hc => first | rfl | (simp [D.erL, D.er, D.closedL, D.closed, hcl, her, ce, ee, hcl2, her2]; done)))
    | ((with_reducible refine o_call (k1) ?he ?hc ?_); (case he | hc => first | rfl | (simp [D.erL, D.er, D.closedL, D.closed, hcl, her, ce, ee, hcl2, her2]; done)))
    | ((with_reducible refine o_call (k2) ?he ?hc ?_); (case he | hc => first | rfl | (simp [D.erL, D.er, D.closedL, D.closed, hcl, her, ce, ee, hcl2, her2]; done)))
    | with_reducible first | apply cd_dec | apply cd_eq | apply cd_ne | apply cd_split | apply gd_dec | apply gd_eq | apply gd_ne | apply gd_split
    | ((with_reducible refine And.intro ?hw ?_); (case hw => first | omega | rfl | exact ⟨_, _, rfl⟩ | assumption | (simp only [lN, hcl, her, ce, ee, hcl2, her2] <;> omega)))
    | with_reducible intro _)
    all_goals first | omega | (simp_all [D.closed, D.er, D.closedL, D.erL]; done) | (simp_all [D.closed, D.er, D.closedL, D.erL] <;> omega)
  rw [h2] at k2
  have hst := few_sok h2 ht
  by_cases h3 : s.length = t.length
  rotate_left
  · have h3' : ¬ ((s.length : Int) = t.length) := by omega
    rw [X.d_eq e] at *
    repeat' (first
    | with_reducible first | apply swp_seq | apply swp_reg | apply swp_regD | apply swp_block | apply swp_exit | apply swp_ret | apply swp_skip | apply swp_cd
    | simp only [go_sem, seval, P6, q6, hlen, hlen2, h3']
    | ((with_reducible refine o_call (k0) ?he ?hc ?_); (case he | hc => first | rfl | (simp [D.erL, D.er, D.closedL, D.closed, hcl, her, ce, ee, hcl2, her2]; done)))
    | ((with_reducible refine o_call (k1) ?he ?hc ?_); (case he | hc => first | rfl | (simp [D.erL, D.er, D.closedL, D.closed, hcl, her, ce, ee, hcl2, her2]; done)))
    | ((with_reducible refine o_call (k2) ?he ?hc ?_); (case he | hc => first | rfl | (simp [D.erL, D.er, D.closedL, D.closed, hcl, her, ce, ee, hcl2, her2]; done)))
    | with_reducible first | apply cd_dec | apply cd_eq | apply cd_ne | apply cd_split | apply gd_dec | apply gd_eq | apply gd_ne | apply gd_split
    | ((with_reducible refine And.intro ?hw ?_); (case hw => first | omega | rfl | exact ⟨_, _, rfl⟩ | assumption | (simp only [lN, hcl, her, ce, ee, hcl2, her2] <;> omega)))
    | with_reducible intro _)
    all_goals first | omega | (simp_all [D.closed, D.er, D.closedL, D.erL]; done) | (simp_all [D.closed, D.er, D.closedL, D.erL] <;> omega)
  have h3' : (s.length : Int) = t.length := by omega
  have k3 := holds_p s hs e f2 part day
  have k4 := holds_p t hst e f2 part day
  have l1 : (∀ j (h1 : j < s.length) (h2 : j < t.length), Kn t[j] s[j]) → Le (holdsF s e part day) (holdsF t e part day) := fun h => knows_law (all2_idx t s h3.symm fun j h1 h2 => h j h2 h1) e part day
  have h65 : ∀ j (h2 : j < t.length), t[j].props.length ≤ 65 := fun j h2 => (hst.prop _ (List.getElem_mem h2)).1
  generalize holdsF s e part day = v at *
  generalize holdsF t e part day = u at *
  clear hs hst f2 f3 h1
  rw [X.d_eq e] at *
  repeat' (first
    | with_reducible first | apply swp_seq | apply swp_reg | apply swp_regD | apply swp_block | apply swp_exit | apply swp_ret | apply swp_skip | apply swp_cd
    | simp only [go_sem, seval, P6, q6, hlen, hlen2, h3']
    | ((with_reducible refine o_call (k0) ?he ?hc ?_); (case he | hc => first | rfl | (simp [D.erL, D.er, D.closedL, D.closed, hcl, her, ce, ee, hcl2, her2]; done)))
    | ((with_reducible refine o_call (k1) ?he ?hc ?_); (case he | hc => first | rfl | (simp [D.erL, D.er, D.closedL, D.closed, hcl, her, ce, ee, hcl2, her2]; done)))
    | ((with_reducible refine o_call (k2) ?he ?hc ?_); (case he | hc => first | rfl | (simp [D.erL, D.er, D.closedL, D.closed, hcl, her, ce, ee, hcl2, her2]; done)))
    | with_reducible first | apply cd_dec | apply cd_eq | apply cd_ne | apply cd_split | apply gd_dec | apply gd_eq | apply gd_ne | apply gd_split
    | ((with_reducible refine And.intro ?hw ?_); (case hw => first | omega | rfl | exact ⟨_, _, rfl⟩ | assumption | (simp only [lN, hcl, her, ce, ee, hcl2, her2] <;> omega)))
    | with_reducible intro _)
  all_goals try (exfalso; omega)
  refine swp_famG [0, 1, 2, 3, 4, 5, 6, 7, 8, 9, 10] 3 0 (Nat.zero_le _) (Nat.le_refl _) (fun i : Nat => ⟨[stateD s, stateD t, .agg e.cells, .str part, .int .i64 day, .ptr 0 0, .ptr 1 0, .ptr 2 0, .bool false, .bool true, .int .i64 i, .undef, .undef, .undef, .undef, .undef, .undef, .undef], [], ⟨[.cells [partsD s], .cells [partsD t], .cells e.cells], []⟩⟩) (fun i => i ≤ s.length ∧ ∀ j (h : j < i) (h1 : j < s.length) (h2 : j < t.length), Kn t[j] s[j]) (fun i => s.length + 1 - i) 0 ⟨by omega, fun j h => by omega⟩ ?_ ?_
  · simp [keepE, St.keepG, St.keep, St.gc, Hp.cut, D.rnL, D.rn, cutF, Blk.rn, Blk.rnL, Tv.rnL, Own.rn]
  · rintro i ⟨hi, hb⟩
    by_cases hil : i < s.length
    · have hil2 : i < t.length := by omega
      have hg : (s.map ptD).getD i .undef = .agg (s[i]).cells := partsD_get hil
      have hg2 : (t.map ptD).getD i .undef = .agg (t[i]).cells := partsD_get hil2
      have h6 := h65 i hil2
      have hok : Kn t[i] s[i] → ∀ j (h : j < i + 1) (h1 : j < s.length) (h2 : j < t.length), Kn t[j] s[j] := fun e j h h1 h2 => by
        by_cases e2 : j = i
        · subst e2; exact e
        · exact hb j (by omega) h1 h2
      generalize s[i] = q at *
      generalize t[i] = p at *
      have hK := @kn_of p q
      have x1 := within_p p.km q.km
      have x2 := within_p p.cy q.cy
      have x3 := within_p p.dm q.dm
      have x4 : Pur M 21 [.agg (withLife p q).cells, .agg q.cells] _ := same_p (withLife p q) q h6
      have cp := cl_P (withLife p q)
      have cq := cl_P q
      have ep := er_P (withLife p q)
      have eq := er_P q
      unfold ptD at cp cq ep eq
      generalize within p.km q.km = b1 at *
      generalize within p.cy q.cy = b2 at *
      generalize within p.dm q.dm = b3 at *
      generalize sameF (withLife p q) q = b4 at *
      generalize hR : RC.regD r6_6 r6_7 = R
      repeat' (first
    | with_reducible first | apply swp_seq | apply swp_reg | apply swp_regD | apply swp_block | apply swp_exit | apply swp_ret | apply swp_skip | apply swp_cd
    | simp only [go_sem, seval, P6, q6, hlen, hlen2, h3', hg, hg2]
    | simp (disch := omega) only [w64, w32, wu8, wu16, wu32, wu64]
    | ((with_reducible refine o_call (x1) ?he ?hc ?_); (case he | hc => first | rfl | (simp [D.erL, D.er, D.closedL, D.closed, hcl, her, ce, ee, hcl2, her2, hlen, hlen2, hg, hg2, cp, cq, ep, eq]; done)))
    | ((with_reducible refine o_call (x2) ?he ?hc ?_); (case he | hc => first | rfl | (simp [D.erL, D.er, D.closedL, D.closed, hcl, her, ce, ee, hcl2, her2, hlen, hlen2, hg, hg2, cp, cq, ep, eq]; done)))
    | ((with_reducible refine o_call (x3) ?he ?hc ?_); (case he | hc => first | rfl | (simp [D.erL, D.er, D.closedL, D.closed, hcl, her, ce, ee, hcl2, her2, hlen, hlen2, hg, hg2, cp, cq, ep, eq]; done)))
    | ((with_reducible refine o_call (x4) ?he ?hc ?_); (case he | hc => first | rfl | (simp [D.erL, D.er, D.closedL, D.closed, hcl, her, ce, ee, hcl2, her2, hlen, hlen2, hg, hg2, cp, cq, ep, eq]; done)))
    | with_reducible first | apply cd_dec | apply cd_eq | apply cd_ne | apply cd_split | apply gd_dec | apply gd_eq | apply gd_ne | apply gd_split
    | ((with_reducible refine And.intro ?hw ?_); (case hw => first | omega | rfl | exact ⟨_, _, rfl⟩ | assumption | (simp only [lN, hcl, her, ce, ee, hcl2, her2, hlen, hlen2, hg, hg2, cp, cq, ep, eq] <;> omega)))
    | with_reducible intro _)
      all_goals try (exfalso; omega)
      subst hR
      refine knows_reg s t e p q part day i hil hil2 hg hg2 _ ?_
      repeat' (first
    | with_reducible first | apply swp_seq | apply swp_reg | apply swp_regD | apply swp_block | apply swp_exit | apply swp_ret | apply swp_skip | apply swp_cd
    | simp only [go_sem, seval, P6, q6, hlen, hlen2, h3', hg, hg2]
    | simp (disch := omega) only [w64, w32, wu8, wu16, wu32, wu64]
    | ((with_reducible refine o_call (x1) ?he ?hc ?_); (case he | hc => first | rfl | (simp [D.erL, D.er, D.closedL, D.closed, hcl, her, ce, ee, hcl2, her2, hlen, hlen2, hg, hg2, cp, cq, ep, eq]; done)))
    | ((with_reducible refine o_call (x2) ?he ?hc ?_); (case he | hc => first | rfl | (simp [D.erL, D.er, D.closedL, D.closed, hcl, her, ce, ee, hcl2, her2, hlen, hlen2, hg, hg2, cp, cq, ep, eq]; done)))
    | ((with_reducible refine o_call (x3) ?he ?hc ?_); (case he | hc => first | rfl | (simp [D.erL, D.er, D.closedL, D.closed, hcl, her, ce, ee, hcl2, her2, hlen, hlen2, hg, hg2, cp, cq, ep, eq]; done)))
    | ((with_reducible refine o_call (x4) ?he ?hc ?_); (case he | hc => first | rfl | (simp [D.erL, D.er, D.closedL, D.closed, hcl, her, ce, ee, hcl2, her2, hlen, hlen2, hg, hg2, cp, cq, ep, eq]; done)))
    | with_reducible first | apply cd_dec | apply cd_eq | apply cd_ne | apply cd_split | apply gd_dec | apply gd_eq | apply gd_ne | apply gd_split
    | ((with_reducible refine And.intro ?hw ?_); (case hw => first | omega | rfl | exact ⟨_, _, rfl⟩ | assumption | (simp only [lN, hcl, her, ce, ee, hcl2, her2, hlen, hlen2, hg, hg2, cp, cq, ep, eq] <;> omega)))
    | with_reducible intro _)
      all_goals try (exfalso; omega)
      rename_i g1 g2 g3 g4
      simp only [Bool.not_eq_false'] at g1 g2 g3 g4
      refine ⟨i + 1, ⟨by omega, hok (hK g1 g2 g3 g4)⟩, by omega, ?_⟩
      simp [keepE, St.keepG, St.keep, St.gc, Hp.cut, D.rnL, D.rn, cutF, Blk.rn, Blk.rnL, Tv.rnL, Own.rn]
    · have hT := l1 fun j h1 h2 => hb j (by omega) h1 h2
      unfold Le at hT
      repeat' (first
    | with_reducible first | apply swp_seq | apply swp_reg | apply swp_regD | apply swp_block | apply swp_exit | apply swp_ret | apply swp_skip | apply swp_cd
    | simp only [go_sem, seval, P6, q6, hlen, hlen2]
    | ((with_reducible refine o_call (k0) ?he ?hc ?_); (case he | hc => first | rfl | (simp [D.erL, D.er, D.closedL, D.closed, hcl, her, ce, ee, hcl2, her2, hlen, hlen2]; done)))
    | ((with_reducible refine o_call (k1) ?he ?hc ?_); (case he | hc => first | rfl | (simp [D.erL, D.er, D.closedL, D.closed, hcl, her, ce, ee, hcl2, her2, hlen, hlen2]; done)))
    | ((with_reducible refine o_call (k3) ?he ?hc ?_); (case he | hc => first | rfl | (simp [D.erL, D.er, D.closedL, D.closed, hcl, her, ce, ee, hcl2, her2, hlen, hlen2]; done)))
    | ((with_reducible refine o_call (k4) ?he ?hc ?_); (case he | hc => first | rfl | (simp [D.erL, D.er, D.closedL, D.closed, hcl, her, ce, ee, hcl2, her2, hlen, hlen2]; done)))
    | with_reducible first | apply cd_dec | apply cd_eq | apply cd_ne | apply cd_split | apply gd_dec | apply gd_eq | apply gd_ne | apply gd_split
    | ((with_reducible refine And.intro ?hw ?_); (case hw => first | omega | rfl | exact ⟨_, _, rfl⟩ | assumption | (simp only [lN, hcl, her, ce, ee, hcl2, her2, hlen, hlen2] <;> omega)))
    | with_reducible intro _)
      all_goals try (exfalso; omega)
      rename_i hv
      rcases hT with hT | hT
      · exact absurd hT hv
      · rw [hT]; simp
end Go.Proofs.Ytcchbohfcmfmlaa
end
section
set_option maxRecDepth 100000
set_option linter.unusedSimpArgs false
set_option linter.unusedVariables false
namespace Go.Proofs.Ytcchbohfcmfmlaa
open Go GoV Go.RowKit
abbrev B64 (z : Int) : Prop := -9223372036854775808 ≤ z ∧ z ≤ 9223372036854775807
theorem opens_iv {w : World} : ∀ n, Opens Try.prog w n 45 (fun x : Int × Int => [.int .i64 x.1, .int .i64 x.2]) (fun x => B64 x.1 ∧ B64 x.2) := by
  refine opens_all fun n => ?_
  have hF : OpensF Try.prog w n [⟨"Low", 3, 0, false, "", "", 0⟩, ⟨"High", 3, 1, false, "", "", 8⟩] 0 _ _ :=
    opensF_cons (c := 1) rfl (by kernel_rfl) (opens_i64 Try.underlying3) (opensF_cons (c := 1) rfl (by kernel_rfl) (opens_i64 Try.underlying3) opensF_nil)
  exact (opens_struct Try.underlying45 (by kernel_rfl) hF).imp (fun a => (a.1, a.2.1)) (fun a _ => by simp) (fun a h => ⟨h.1, h.2.1⟩)
theorem opens_life {w : World} : ∀ n, Opens Try.prog w n 47 (fun x : (Int × Int) × (Int × Int) × (Int × Int) => [.int .i64 x.1.1, .int .i64 x.1.2, .int .i64 x.2.1.1, .int .i64 x.2.1.2, .int .i64 x.2.2.1, .int .i64 x.2.2.2]) (fun _ => True) := by
  refine opens_all fun n => ?_
  have hF : OpensF Try.prog w n [⟨"Km", 45, 0, false, "", "", 0⟩, ⟨"Cycles", 45, 2, false, "", "", 16⟩, ⟨"Damage", 45, 4, false, "", "", 32⟩] 0 _ _ :=
    opensF_cons (c := 2) rfl (by kernel_rfl) (opens_iv n) (opensF_cons (c := 2) rfl (by kernel_rfl) (opens_iv n) (opensF_cons (c := 2) rfl (by kernel_rfl) (opens_iv n) opensF_nil))
  exact (opens_struct Try.underlying47 (by kernel_rfl) hF).imp (fun a => (a.1, a.2.1, a.2.2.1)) (fun a _ => by simp) (fun a h => trivial)
theorem opens_prop {w : World} : ∀ n, Opens Try.prog w n 71 (fun x : List UInt8 × List UInt8 => [.str x.1, .str x.2]) (fun _ => True) := by
  refine opens_all fun n => ?_
  have hF : OpensF Try.prog w n [⟨"Key", 9, 0, false, "", "", 0⟩, ⟨"Value", 9, 1, false, "", "", 16⟩] 0 _ _ :=
    opensF_cons (c := 1) rfl (by kernel_rfl) (opens_str Try.underlying9) (opensF_cons (c := 1) rfl (by kernel_rfl) (opens_str Try.underlying9) opensF_nil)
  exact (opens_struct Try.underlying71 (by kernel_rfl) hF).imp (fun a => (a.1, a.2.1)) (fun a _ => by simp) (fun a h => trivial)
theorem opens_props {w : World} : ∀ n, Opens Try.prog w n 43 (fun l : List (List UInt8 × List UInt8) => [.slice (l.map propD) .no]) (fun _ => True) :=
  opens_all fun n => (opens_slice Try.underlying43 (show 0 < Try.prog.cellsOf 71 by rw [show Try.prog.cellsOf 71 = 2 by kernel_rfl]; omega) (opens_prop n)).imp id (fun a _ => rfl) (fun a h => trivial)
theorem opens_part {w : World} : ∀ n, Opens Try.prog w n 49 Pt.cells PIn := by
  refine opens_all fun n => ?_
  have hF : OpensF Try.prog w n [⟨"Name", 9, 0, false, "", "", 0⟩, ⟨"Kind", 9, 1, false, "", "", 16⟩, ⟨"Into", 9, 2, false, "", "", 32⟩, ⟨"Slot", 9, 3, false, "", "", 48⟩, ⟨"Made", 3, 4, false, "", "", 64⟩, ⟨"Since", 3, 5, false, "", "", 72⟩, ⟨"Scrapped", 4, 6, false, "", "", 80⟩, ⟨"Props", 43, 7, false, "", "", 88⟩, ⟨"Life", 47, 8, false, "", "", 112⟩] 0 _ _ :=
    opensF_cons (c := 1) rfl (by kernel_rfl) (opens_str Try.underlying9) (opensF_cons (c := 1) rfl (by kernel_rfl) (opens_str Try.underlying9) (opensF_cons (c := 1) rfl (by kernel_rfl) (opens_str Try.underlying9) (opensF_cons (c := 1) rfl (by kernel_rfl) (opens_str Try.underlying9)
      (opensF_cons (c := 1) rfl (by kernel_rfl) (opens_i64 Try.underlying3) (opensF_cons (c := 1) rfl (by kernel_rfl) (opens_i64 Try.underlying3) (opensF_cons (c := 1) rfl (by kernel_rfl) (opens_bool Try.underlying4)
        (opensF_cons (c := 1) rfl (by kernel_rfl) (opens_props n) (opensF_cons (c := 6) rfl (by kernel_rfl) (opens_life n) opensF_nil))))))))
  exact (opens_struct Try.underlying49 (by kernel_rfl) hF).imp (fun a => ⟨a.1, a.2.1, a.2.2.1, a.2.2.2.1, a.2.2.2.2.1, a.2.2.2.2.2.1, a.2.2.2.2.2.2.1, a.2.2.2.2.2.2.2.1, a.2.2.2.2.2.2.2.2.1.1, a.2.2.2.2.2.2.2.2.1.2.1, a.2.2.2.2.2.2.2.2.1.2.2⟩) (fun a _ => by simp [Pt.cells]) (fun a h => ⟨h.2.2.2.2.1.1, h.2.2.2.2.2.1.1⟩)
theorem opens_parts {w : World} : ∀ n, Opens Try.prog w n 22 (fun l : List Pt => [partsD l]) (fun l => ∀ p ∈ l, PIn p) :=
  opens_all fun n => (opens_slice Try.underlying22 (show 0 < Try.prog.cellsOf 49 by rw [show Try.prog.cellsOf 49 = 14 by kernel_rfl]; omega) (opens_part n)).imp id (fun a _ => rfl) (fun a h => h.2)
theorem opens_state {w : World} : ∀ n, Opens Try.prog w n 24 (fun l : List Pt => [partsD l]) (fun l => ∀ p ∈ l, PIn p) := by
  refine opens_all fun n => ?_
  have hF : OpensF Try.prog w n [⟨"Parts", 22, 0, false, "", "", 0⟩] 0 _ _ := opensF_cons (c := 1) rfl (by kernel_rfl) (opens_parts n) opensF_nil
  exact (opens_struct Try.underlying24 (by kernel_rfl) hF).imp (fun a => a.1) (fun a _ => by simp) (fun a h => h.1)
theorem opens_kids {w : World} (n : Nat) (h : Opens Try.prog w n 27 X.cells (fun _ => True)) : Opens Try.prog w (n + 1) 25 (fun l : List X => [.slice (l.map X.d) .no]) (fun _ => True) :=
  (opens_slice Try.underlying25 (show 0 < Try.prog.cellsOf 27 by rw [show Try.prog.cellsOf 27 = 6 by kernel_rfl]; omega) h).imp id (fun a _ => by
    have e : (fun x : X => pk x.cells) = X.d := by funext x; rw [X.d_eq]; rfl
    show [D.slice (a.map X.d) .no] = [D.slice (a.map fun x => pk x.cells) .no]
    rw [e]) (fun a h => trivial)
theorem opens_expr {w : World} : ∀ n, Opens Try.prog w n 27 X.cells (fun _ => True)
  | 0 => opens_zero
  | n + 1 => by
    have hk : Opens Try.prog w n 25 (fun l : List X => [.slice (l.map X.d) .no]) (fun _ => True) := by
      cases n with
      | zero => exact opens_zero
      | succ m => exact opens_kids m (opens_expr m)
    have hF : OpensF Try.prog w n [⟨"Op", 3, 0, false, "", "", 0⟩, ⟨"Name", 9, 1, false, "", "", 8⟩, ⟨"Value", 9, 2, false, "", "", 24⟩, ⟨"N", 3, 3, false, "", "", 40⟩, ⟨"Extra", 3, 4, false, "", "", 48⟩, ⟨"Kids", 25, 5, false, "", "", 56⟩] 0 _ _ :=
      opensF_cons (c := 1) rfl (by kernel_rfl) (opens_i64 Try.underlying3) (opensF_cons (c := 1) rfl (by kernel_rfl) (opens_str Try.underlying9) (opensF_cons (c := 1) rfl (by kernel_rfl) (opens_str Try.underlying9)
        (opensF_cons (c := 1) rfl (by kernel_rfl) (opens_i64 Try.underlying3) (opensF_cons (c := 1) rfl (by kernel_rfl) (opens_i64 Try.underlying3) (opensF_cons (c := 1) rfl (by kernel_rfl) hk opensF_nil)))))
    exact (opens_struct Try.underlying27 (by kernel_rfl) hF).imp (fun a => X.mk a.1 a.2.1 a.2.2.1 a.2.2.2.1 a.2.2.2.2.1 a.2.2.2.2.2.1) (fun a _ => by simp [X.cells, X.op, X.nam, X.val, X.num, X.ext, X.kids]) (fun a h => trivial)
end Go.Proofs.Ytcchbohfcmfmlaa
end
section
namespace Go.Proofs.Ytcchbohfcmfmlaa
open Go GoV Go.RowKit
end Go.Proofs.Ytcchbohfcmfmlaa
end
section
namespace Go.Proofs.Ytcchbohfcmfmlaa
open Go GoV Go.RowKit
theorem knows_c (s : List Pt) (hp : ∀ p ∈ s, PIn p) (t : List Pt) (ht : ∀ p ∈ t, PIn p) (a : X) (part : List UInt8) (day : Int) : Pur M 6 [.agg [partsD s], .agg [partsD t], .agg a.cells, .str part, .int .i64 day] (.bool true) := by
  have h := knows_p s t hp ht a part day
  rw [X.d_eq a] at h; exact h
end Go.Proofs.Ytcchbohfcmfmlaa
end
