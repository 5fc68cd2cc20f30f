/- Own texts, merged by a program: the engine that walks the code, and what the functions that the law reaches compute. -/
import Derived.Test.YtgjkhlnpplajjaaDoorQc5
section
set_option maxRecDepth 100000
set_option linter.unusedSimpArgs false
set_option linter.unusedVariables false
namespace Go.Proofs.YtgjkhlnpplajjaaDoor
open Go GoV Go.RowKit
theorem sameS_refl5 (a : Seal) : sameS a a = true := by simp [sameS]
theorem sgnR_lens5 (s : List UInt8) (h i : Int) (m : List UInt8) : (sgnR s h i m).1.sig.length ≤ 1000 ∧ (sgnR s h i m).1.path.length ≤ 1000 := by
  unfold sgnR
  split
  · rename_i q
    have hh : h.toNat ≤ 8 := by omega
    have hi : i.toNat < 2 ^ h.toNat := by
      have e4 : (2 : Int) ^ h.toNat = ((2 ^ h.toNat : Nat) : Int) := by simp
      rw [e4] at q
      omega
    obtain ⟨h1, h2, _⟩ := sgn_parts s m hh hi
    exact ⟨by simp only; omega, by simp only; omega⟩
  · simp
theorem mod_nat5 {a : Int} {n : Nat} (h0 : 0 ≤ a) (hn : 0 < n) : ∃ k : Nat, a.tmod (n : Int) = (k : Int) ∧ k < n := by
  refine ⟨(a % (n : Int)).toNat, ?_, ?_⟩
  · rw [Int.tmod_eq_emod_of_nonneg h0, Int.toNat_of_nonneg (Int.emod_nonneg _ (by omega))]
  · have h1 := Int.emod_nonneg a (show (n : Int) ≠ 0 by omega)
    have h2 := Int.emod_lt_of_pos a (show (0 : Int) < (n : Int) by omega)
    omega
theorem sgnR_ok5 {s : List UInt8} {h i : Nat} {m : List UInt8} (hh : h ≤ 8) (hi : i < 2 ^ h) : sgnR s (h : Nat) (i : Nat) m = (sgn s h i m, 0) := by
  unfold sgnR
  have e4 : (2 : Int) ^ h = ((2 ^ h : Nat) : Int) := by simp
  simp only [Int.toNat_natCast, e4]
  rw [if_pos ⟨by omega, by omega, by omega, by omega⟩]
theorem pubR_ok5 {s : List UInt8} {h : Nat} (hh : h ≤ 8) : pubR s (h : Nat) = (pub s h, 0) := by
  unfold pubR
  simp only [Int.toNat_natCast]
  rw [if_pos ⟨by omega, by omega⟩]
theorem few_small5 {x : Seal} (h : fewB x = true) : SmallS x ∧ x.sig.length ≤ 30 ∧ x.path.length ≤ 30 ∧ (∀ t ∈ x.sig, t.length ≤ 100) ∧ (∀ t ∈ x.path, t.length ≤ 100) := by
  unfold fewB h100 at h
  simp only [Bool.and_eq_true, List.all_eq_true, decide_eq_true_eq] at h
  obtain ⟨h1, h2, h3, h4⟩ := h
  exact ⟨⟨by omega, fun t ht => by have := h1 t ht; omega, by omega, fun t ht => by have := h2 t ht; omega⟩, h3, h4, h1, h2⟩
theorem ver_ok5 {p m : List UInt8} {x : Seal} (h : ver p m x = true) : okS x = true := by
  unfold ver at h
  simp only [Bool.and_eq_true] at h
  exact h.1
set_option maxHeartbeats 4000000 in
theorem l5_p (s : List UInt8) (a : Int) (m : List UInt8) (x : Seal) (ha : 0 ≤ a ∧ a ≤ 255) (hb : -9223372036854775808 ≤ x.idx) : Pur M 5 [.str s, .int .u8 a, .str m, sealD x] (.bool true) := by
  refine ow5 rfl ?_
  rw [i5]
  unfold c5 sealD
  obtain ⟨rc, hrc⟩ : ∃ rc, rc = RC.regD r5_13 r5_14 := ⟨_, rfl⟩
  rw [← hrc]
  have c0 := head_p
  have c1 := short_p [s, m] (by simp)
  have s1 : strs [s, m] = [.str s, .str m] := rfl
  rw [s1] at c1
  have d1 := closed_strs x.sig
  have d2 := closed_strs x.path
  have d3 := erL_strs x.sig
  have d4 := erL_strs x.path
  have c2 := few_p x
  unfold sealD at c2
  cases h1 : ([s, m].all fun x => decide (x.length ≤ 300))
  · rw [h1] at c1
    generalize strs x.sig = SS at *
    generalize strs x.path = PP at *
    repeat' (first
    | with_reducible first | apply swp_seq | apply swp_reg | apply swp_regD | apply swp_block | apply swp_exit | apply swp_ret | apply swp_skip | apply swp_cd
    | simp only [go_sem, seval, P5, q5]
    | simp (disch := omega) only [w64, w32, wu8, wu16, wu32, wu64]
    | ((with_reducible first | refine o_call (c0) ?he ?hc ?_ | refine p_call (c0) ?he ?hc ?_ | refine c_call (c0) ?he ?hc ?_); (case he | hc => first | rfl | (simp [D.erL, D.er, D.closedL, D.closed, d1, d2, d3, d4]; done)))
    | ((with_reducible first | refine o_call (c1) ?he ?hc ?_ | refine p_call (c1) ?he ?hc ?_ | refine c_call (c1) ?he ?hc ?_); (case he | hc => first | rfl | (simp [D.erL, D.er, D.closedL, D.closed, d1, d2, d3, d4]; done)))
    | ((with_reducible apply s_appT); (case he => rfl); (case hK | hc | hr | hV => first | rfl | assumption | omega | ((first | refine ⟨?_, ?_⟩ | skip) <;> first | omega | (simp only [lN, d1, d2, d3, d4] <;> omega)) | (simp [elemsK, D.isVal, D.cells, D.closedL, D.closed, d1, d2, d3, d4]; first | done | omega)))
    | ((with_reducible apply s_appG); (case he => rfl); (case hV | hK | hr | hl => first | rfl | assumption | omega | ((first | refine ⟨?_, ?_⟩ | skip) <;> first | omega | (simp only [lN, d1, d2, d3, d4] <;> omega)) | (simp [elemsK, D.isVal, D.cells, D.closedL, D.closed, d1, d2, d3, d4]; first | done | omega)))
    | ((with_reducible apply s_app0); (case he => rfl); (case hK | hc | hr => first | rfl | assumption | omega | ((first | refine ⟨?_, ?_⟩ | skip) <;> first | omega | (simp only [lN, d1, d2, d3, d4] <;> omega)) | (simp [elemsK, D.isVal, D.cells, D.closedL, D.closed, d1, d2, d3, d4]; first | done | omega)))
    | ((with_reducible apply s_appF); (case he => rfl); (case hK | hc | hr | hx | hn => first | rfl | assumption | omega | ((first | refine ⟨?_, ?_⟩ | skip) <;> first | omega | (simp only [lN, d1, d2, d3, d4] <;> omega)) | (simp [elemsK, D.isVal, D.cells, D.closedL, D.closed, d1, d2, d3, d4]; first | done | omega)))
    | ((with_reducible apply s_bsl); (case he | hl | hc => first | rfl | assumption | omega | ((first | refine ⟨?_, ?_⟩ | skip) <;> first | omega | (simp only [lN, d1, d2, d3, d4] <;> omega)) | (simp [elemsK, D.isVal, D.cells, D.closedL, D.closed, d1, d2, d3, d4]; first | done | omega)))
    | with_reducible first | apply cd_dec | apply cd_eq | apply cd_ne | apply cd_split | apply gd_dec | apply gd_eq | apply gd_ne | apply gd_split | apply gq_dec | apply gq_eq | apply gq_ne | apply gq_split
    | ((with_reducible refine And.intro ?hw ?_); (case hw => first | omega | rfl | exact ⟨_, _, rfl⟩ | assumption | (simp only [lN, d1, d2, d3, d4] <;> omega)))
    | with_reducible intro _)
    all_goals try omega
    exact ⟨_, weak_refl, by simp [D.closed, D.er]⟩
  rw [h1] at c1
  have hp : s.length ≤ 300 ∧ m.length ≤ 300 := by simpa using h1
  cases h2 : fewB x
  · rw [h2] at c2
    generalize strs x.sig = SS at *
    generalize strs x.path = PP at *
    repeat' (first
    | with_reducible first | apply swp_seq | apply swp_reg | apply swp_regD | apply swp_block | apply swp_exit | apply swp_ret | apply swp_skip | apply swp_cd
    | simp only [go_sem, seval, P5, q5]
    | simp (disch := omega) only [w64, w32, wu8, wu16, wu32, wu64]
    | ((with_reducible first | refine o_call (c0) ?he ?hc ?_ | refine p_call (c0) ?he ?hc ?_ | refine c_call (c0) ?he ?hc ?_); (case he | hc => first | rfl | (simp [D.erL, D.er, D.closedL, D.closed, d1, d2, d3, d4]; done)))
    | ((with_reducible first | refine o_call (c1) ?he ?hc ?_ | refine p_call (c1) ?he ?hc ?_ | refine c_call (c1) ?he ?hc ?_); (case he | hc => first | rfl | (simp [D.erL, D.er, D.closedL, D.closed, d1, d2, d3, d4]; done)))
    | ((with_reducible first | refine o_call (c2) ?he ?hc ?_ | refine p_call (c2) ?he ?hc ?_ | refine c_call (c2) ?he ?hc ?_); (case he | hc => first | rfl | (simp [D.erL, D.er, D.closedL, D.closed, d1, d2, d3, d4]; done)))
    | ((with_reducible apply s_appT); (case he => rfl); (case hK | hc | hr | hV => first | rfl | assumption | omega | ((first | refine ⟨?_, ?_⟩ | skip) <;> first | omega | (simp only [lN, d1, d2, d3, d4] <;> omega)) | (simp [elemsK, D.isVal, D.cells, D.closedL, D.closed, d1, d2, d3, d4]; first | done | omega)))
    | ((with_reducible apply s_appG); (case he => rfl); (case hV | hK | hr | hl => first | rfl | assumption | omega | ((first | refine ⟨?_, ?_⟩ | skip) <;> first | omega | (simp only [lN, d1, d2, d3, d4] <;> omega)) | (simp [elemsK, D.isVal, D.cells, D.closedL, D.closed, d1, d2, d3, d4]; first | done | omega)))
    | ((with_reducible apply s_app0); (case he => rfl); (case hK | hc | hr => first | rfl | assumption | omega | ((first | refine ⟨?_, ?_⟩ | skip) <;> first | omega | (simp only [lN, d1, d2, d3, d4] <;> omega)) | (simp [elemsK, D.isVal, D.cells, D.closedL, D.closed, d1, d2, d3, d4]; first | done | omega)))
    | ((with_reducible apply s_appF); (case he => rfl); (case hK | hc | hr | hx | hn => first | rfl | assumption | omega | ((first | refine ⟨?_, ?_⟩ | skip) <;> first | omega | (simp only [lN, d1, d2, d3, d4] <;> omega)) | (simp [elemsK, D.isVal, D.cells, D.closedL, D.closed, d1, d2, d3, d4]; first | done | omega)))
    | ((with_reducible apply s_bsl); (case he | hl | hc => first | rfl | assumption | omega | ((first | refine ⟨?_, ?_⟩ | skip) <;> first | omega | (simp only [lN, d1, d2, d3, d4] <;> omega)) | (simp [elemsK, D.isVal, D.cells, D.closedL, D.closed, d1, d2, d3, d4]; first | done | omega)))
    | with_reducible first | apply cd_dec | apply cd_eq | apply cd_ne | apply cd_split | apply gd_dec | apply gd_eq | apply gd_ne | apply gd_split | apply gq_dec | apply gq_eq | apply gq_ne | apply gq_split
    | ((with_reducible refine And.intro ?hw ?_); (case hw => first | omega | rfl | exact ⟨_, _, rfl⟩ | assumption | (simp only [lN, d1, d2, d3, d4] <;> omega)))
    | with_reducible intro _)
    all_goals try omega
    exact ⟨_, weak_refl, by simp [D.closed, D.er]⟩
  rw [h2] at c2
  obtain ⟨hsm, n1, n2, n3, n4⟩ := few_small5 h2
  obtain ⟨h, t1, hh⟩ := mod_nat5 (n := 3) ha.1 (by omega)
  have t1' : a.tmod 3 = (h : Int) := t1
  have e1 := public_p s h hp.1
  rw [pubR_ok5 (by omega)] at e1
  unfold pubD at e1
  have c3 := verify_p (pub s h) m x hsm hp.2
  unfold sealD at c3
  cases h3 : ver (pub s h) m x
  · rw [h3] at c3
    generalize strs x.sig = SS at *
    generalize strs x.path = PP at *
    generalize pub s h = PU at *
    repeat' (first
    | with_reducible first | apply swp_seq | apply swp_reg | apply swp_regD | apply swp_block | apply swp_exit | apply swp_ret | apply swp_skip | apply swp_cd
    | simp only [go_sem, seval, P5, q5, t1']
    | simp (disch := omega) only [w64, w32, wu8, wu16, wu32, wu64]
    | ((with_reducible first | refine o_call (c0) ?he ?hc ?_ | refine p_call (c0) ?he ?hc ?_ | refine c_call (c0) ?he ?hc ?_); (case he | hc => first | rfl | (simp [D.erL, D.er, D.closedL, D.closed, d1, d2, d3, d4]; done)))
    | ((with_reducible first | refine o_call (c1) ?he ?hc ?_ | refine p_call (c1) ?he ?hc ?_ | refine c_call (c1) ?he ?hc ?_); (case he | hc => first | rfl | (simp [D.erL, D.er, D.closedL, D.closed, d1, d2, d3, d4]; done)))
    | ((with_reducible first | refine o_call (c2) ?he ?hc ?_ | refine p_call (c2) ?he ?hc ?_ | refine c_call (c2) ?he ?hc ?_); (case he | hc => first | rfl | (simp [D.erL, D.er, D.closedL, D.closed, d1, d2, d3, d4]; done)))
    | ((with_reducible first | refine o_call (e1) ?he ?hc ?_ | refine p_call (e1) ?he ?hc ?_ | refine c_call (e1) ?he ?hc ?_); (case he | hc => first | rfl | (simp [D.erL, D.er, D.closedL, D.closed, d1, d2, d3, d4]; done)))
    | ((with_reducible first | refine o_call (c3) ?he ?hc ?_ | refine p_call (c3) ?he ?hc ?_ | refine c_call (c3) ?he ?hc ?_); (case he | hc => first | rfl | (simp [D.erL, D.er, D.closedL, D.closed, d1, d2, d3, d4]; done)))
    | ((with_reducible apply s_appT); (case he => rfl); (case hK | hc | hr | hV => first | rfl | assumption | omega | ((first | refine ⟨?_, ?_⟩ | skip) <;> first | omega | (simp only [lN, d1, d2, d3, d4] <;> omega)) | (simp [elemsK, D.isVal, D.cells, D.closedL, D.closed, d1, d2, d3, d4]; first | done | omega)))
    | ((with_reducible apply s_appG); (case he => rfl); (case hV | hK | hr | hl => first | rfl | assumption | omega | ((first | refine ⟨?_, ?_⟩ | skip) <;> first | omega | (simp only [lN, d1, d2, d3, d4] <;> omega)) | (simp [elemsK, D.isVal, D.cells, D.closedL, D.closed, d1, d2, d3, d4]; first | done | omega)))
    | ((with_reducible apply s_app0); (case he => rfl); (case hK | hc | hr => first | rfl | assumption | omega | ((first | refine ⟨?_, ?_⟩ | skip) <;> first | omega | (simp only [lN, d1, d2, d3, d4] <;> omega)) | (simp [elemsK, D.isVal, D.cells, D.closedL, D.closed, d1, d2, d3, d4]; first | done | omega)))
    | ((with_reducible apply s_appF); (case he => rfl); (case hK | hc | hr | hx | hn => first | rfl | assumption | omega | ((first | refine ⟨?_, ?_⟩ | skip) <;> first | omega | (simp only [lN, d1, d2, d3, d4] <;> omega)) | (simp [elemsK, D.isVal, D.cells, D.closedL, D.closed, d1, d2, d3, d4]; first | done | omega)))
    | ((with_reducible apply s_bsl); (case he | hl | hc => first | rfl | assumption | omega | ((first | refine ⟨?_, ?_⟩ | skip) <;> first | omega | (simp only [lN, d1, d2, d3, d4] <;> omega)) | (simp [elemsK, D.isVal, D.cells, D.closedL, D.closed, d1, d2, d3, d4]; first | done | omega)))
    | with_reducible first | apply cd_dec | apply cd_eq | apply cd_ne | apply cd_split | apply gd_dec | apply gd_eq | apply gd_ne | apply gd_split | apply gq_dec | apply gq_eq | apply gq_ne | apply gq_split
    | ((with_reducible refine And.intro ?hw ?_); (case hw => first | omega | rfl | exact ⟨_, _, rfl⟩ | assumption | (simp only [lN, d1, d2, d3, d4] <;> omega)))
    | with_reducible intro _)
    all_goals try omega
    exact ⟨_, weak_refl, by simp [D.closed, D.er]⟩
  obtain ⟨k1, k2, k3, k4, k5, k6⟩ := okS_parts (ver_ok5 h3)
  have e4 : (2 : Int) ^ x.path.length = ((2 ^ x.path.length : Nat) : Int) := by simp
  rw [e4] at k6
  have hN : 2 ^ x.path.length ≤ 2 ^ 8 := Nat.pow_le_pow_right (by omega) (by omega)
  have h256 : (2 : Nat) ^ 8 = 256 := by decide
  obtain ⟨j, hj⟩ : ∃ j : Nat, x.idx = j := ⟨x.idx.toNat, by omega⟩
  have e2 := sign_p s h x.idx m hp.1 hp.2 hb
  obtain ⟨l1, l2⟩ := sgnR_lens5 s h x.idx m
  have e3 := ssame_p (sgnR s h x.idx m).1 x (by omega) (by omega)
  unfold sgnD sealD at e2
  unfold sealD at e3
  have g1 := closed_strs (sgnR s h x.idx m).1.sig
  have g2 := closed_strs (sgnR s h x.idx m).1.path
  have g3 := erL_strs (sgnR s h x.idx m).1.sig
  have g4 := erL_strs (sgnR s h x.idx m).1.path
  obtain ⟨m1, m2⟩ := made_small (s := s) (h := h) (n := 15) hp.1 (by omega) (by omega)
  obtain ⟨m3, m4⟩ := checked_small (m := m) hsm k2
  have hkey : (sgnR s h x.idx m).2 = 0 ∧ sameS (sgnR s h x.idx m).1 x = true ∨ shownB (made s h 15 ++ checked m x) = true := by
    cases hsh : shownB (made s h 15 ++ checked m x)
    · left
      obtain ⟨q1, q2, q3⟩ := inj_two hsh
      obtain ⟨i, hi, rfl⟩ := sound q1 (by omega) (by omega) q2 q3 h3
      have : (sgn s h i m).idx = ((i : Nat) : Int) := rfl
      rw [this, sgnR_ok5 (by omega) hi]
      exact ⟨rfl, sameS_refl5 _⟩
    · exact .inr rfl
  rw [h3] at c3
  have f1 := checked_p m x hsm hp.2 k1 k2 j hj (by omega)
  have f2 := shown_two (by omega) m2 (by omega) m4
  unfold sealD at f1
  have u1 := strs_len (made s h 15)
  have u2 := strs_len (checked m x)
  have u3 := elems_strs (checked m x)
  have u4 := closed_strs (checked m x)
  have u5 := erL_strs (checked m x)
  have u6 := closed_strs (made s h 15)
  have u7 := erL_strs (made s h 15)
  have mc := made_call (s := s) (h := h) (n := 15) hp.1 (by omega) (by omega) (by omega)
  generalize hb2 : shownB (made s h 15 ++ checked m x) = b2 at *
  generalize sameS (sgnR s h x.idx m).1 x = b1 at *
  generalize sgnR s h x.idx m = SG at *
  obtain ⟨⟨si, ss, sp⟩, er⟩ := SG
  simp only at e2 e3 g1 g2 g3 g4 hkey
  generalize pub s h = PU at *
  generalize hm0 : made s h 15 = MA at *
  generalize hc0 : checked m x = CK at *
  generalize strs ss = SA at *
  generalize strs sp = SB at *
  generalize strs x.sig = SS at *
  generalize strs x.path = PP at *
  have tail : b2 = true → ∀ (Q : Ex → St → Prop) (B1 : Blk), Q .normal ⟨[.str s, .undef, .str m, .undef, .ip [.int .i64 x.idx, .slice SS .no, .slice PP .no], .bool true, .bool true, .int .i64 (h : Nat), .undef, .undef, .undef, .undef, .undef, .undef, .undef, .undef], [], ⟨[.gone, B1], [.per 1 (MA.length + CK.length)]⟩⟩ →
      SWp C5 (.regD r5_13 r5_14) Q ⟨[.str s, .undef, .str m, .undef, .ip [.int .i64 x.idx, .slice SS .no, .slice PP .no], .undef, .bool true, .int .i64 (h : Nat), .undef, .undef, .undef, .undef, .undef, .undef, .undef, .undef], [], ⟨[.gone, B1], []⟩⟩ := by
    intro hb3 Q B1 hQ
    rw [hb3] at f2
    refine swp_regDX 4 ?_
    rw [P5]
    refine x_mv (by decide) rfl ?_
    refine x_mv (by decide) rfl ?_
    refine x_mvg (by decide) rfl rfl ?_
    refine x_mvg (by decide) rfl rfl ?_
    refine x_effg (hp1 := ⟨[.gone, B1], []⟩) rfl rfl rfl (mc _) ?_
    refine x_mvg (by decide) rfl rfl ?_
    refine x_ldg (by decide) rfl rfl (by decide) rfl ?_
    refine x_nil ?_
    generalize hSM : strs MA = SM at *
    generalize hSC : strs CK = SC at *
    repeat' (first
    | with_reducible first | apply swp_seq | apply swp_reg | apply swp_regD | apply swp_block | apply swp_exit | apply swp_ret | apply swp_skip | apply swp_cd
    | simp only [go_sem, seval, P5, q5, u5]
    | simp (disch := omega) only [w64, w32, wu8, wu16, wu32, wu64]
    | ((with_reducible first | refine o_call (f1) ?he ?hc ?_ | refine p_call (f1) ?he ?hc ?_ | refine c_call (f1) ?he ?hc ?_); (case he | hc => first | rfl | (simp [D.erL, D.er, D.closedL, D.closed, u1, u2, u3, u4, u5, u6, u7, d1, d2, d3, d4]; done)))
    | ((with_reducible first | refine o_call (f2) ?he ?hc ?_ | refine p_call (f2) ?he ?hc ?_ | refine c_call (f2) ?he ?hc ?_); (case he | hc => first | rfl | (simp [D.erL, D.er, D.closedL, D.closed, u1, u2, u3, u4, u5, u6, u7, d1, d2, d3, d4]; done)))
    | ((with_reducible apply s_appT); (case he => rfl); (case hK | hc | hr | hV => first | rfl | assumption | omega | ((first | refine ⟨?_, ?_⟩ | skip) <;> first | omega | (simp only [lN, u1, u2, u3, u4, u5, u6, u7, d1, d2, d3, d4] <;> omega)) | (simp [elemsK, D.isVal, D.cells, D.closedL, D.closed, u1, u2, u3, u4, u5, u6, u7, d1, d2, d3, d4]; first | done | omega)))
    | ((with_reducible apply s_appG); (case he => rfl); (case hV | hK | hr | hl => first | rfl | assumption | omega | ((first | refine ⟨?_, ?_⟩ | skip) <;> first | omega | (simp only [lN, u1, u2, u3, u4, u5, u6, u7, d1, d2, d3, d4] <;> omega)) | (simp [elemsK, D.isVal, D.cells, D.closedL, D.closed, u1, u2, u3, u4, u5, u6, u7, d1, d2, d3, d4]; first | done | omega)))
    | ((with_reducible apply s_app0); (case he => rfl); (case hK | hc | hr => first | rfl | assumption | omega | ((first | refine ⟨?_, ?_⟩ | skip) <;> first | omega | (simp only [lN, u1, u2, u3, u4, u5, u6, u7, d1, d2, d3, d4] <;> omega)) | (simp [elemsK, D.isVal, D.cells, D.closedL, D.closed, u1, u2, u3, u4, u5, u6, u7, d1, d2, d3, d4]; first | done | omega)))
    | ((with_reducible apply s_appF); (case he => rfl); (case hK | hc | hr | hx | hn => first | rfl | assumption | omega | ((first | refine ⟨?_, ?_⟩ | skip) <;> first | omega | (simp only [lN, u1, u2, u3, u4, u5, u6, u7, d1, d2, d3, d4] <;> omega)) | (simp [elemsK, D.isVal, D.cells, D.closedL, D.closed, u1, u2, u3, u4, u5, u6, u7, d1, d2, d3, d4]; first | done | omega)))
    | ((with_reducible apply s_bsl); (case he | hl | hc => first | rfl | assumption | omega | ((first | refine ⟨?_, ?_⟩ | skip) <;> first | omega | (simp only [lN, u1, u2, u3, u4, u5, u6, u7, d1, d2, d3, d4] <;> omega)) | (simp [elemsK, D.isVal, D.cells, D.closedL, D.closed, u1, u2, u3, u4, u5, u6, u7, d1, d2, d3, d4]; first | done | omega)))
    | with_reducible first | apply cd_dec | apply cd_eq | apply cd_ne | apply cd_split | apply gd_dec | apply gd_eq | apply gd_ne | apply gd_split | apply gq_dec | apply gq_eq | apply gq_ne | apply gq_split
    | ((with_reducible refine And.intro ?hw ?_); (case hw => first | omega | rfl | exact ⟨_, _, rfl⟩ | assumption | (simp only [lN, u1, u2, u3, u4, u5, u6, u7, d1, d2, d3, d4] <;> omega)))
    | with_reducible intro _)
    all_goals try omega
    rw [u1, u2]
    exact hQ
  by_cases w1 : er = 0
  · cases b1
    · have hb3 : b2 = true := hkey.elim (fun q => absurd q.2 (by decide)) id
      subst w1
      repeat' (first
    | with_reducible first | apply swp_seq | apply swp_reg | apply swp_regD | apply swp_block | apply swp_exit | apply swp_ret | apply swp_skip | apply swp_cd
    | simp only [go_sem, seval, P5, q5, t1']
    | simp (disch := omega) only [w64, w32, wu8, wu16, wu32, wu64]
    | ((with_reducible first | refine o_call (c0) ?he ?hc ?_ | refine p_call (c0) ?he ?hc ?_ | refine c_call (c0) ?he ?hc ?_); (case he | hc => first | rfl | (simp [D.erL, D.er, D.closedL, D.closed, d1, d2, d3, d4, g1, g2, g3, g4]; done)))
    | ((with_reducible first | refine o_call (c1) ?he ?hc ?_ | refine p_call (c1) ?he ?hc ?_ | refine c_call (c1) ?he ?hc ?_); (case he | hc => first | rfl | (simp [D.erL, D.er, D.closedL, D.closed, d1, d2, d3, d4, g1, g2, g3, g4]; done)))
    | ((with_reducible first | refine o_call (c2) ?he ?hc ?_ | refine p_call (c2) ?he ?hc ?_ | refine c_call (c2) ?he ?hc ?_); (case he | hc => first | rfl | (simp [D.erL, D.er, D.closedL, D.closed, d1, d2, d3, d4, g1, g2, g3, g4]; done)))
    | ((with_reducible first | refine o_call (e1) ?he ?hc ?_ | refine p_call (e1) ?he ?hc ?_ | refine c_call (e1) ?he ?hc ?_); (case he | hc => first | rfl | (simp [D.erL, D.er, D.closedL, D.closed, d1, d2, d3, d4, g1, g2, g3, g4]; done)))
    | ((with_reducible first | refine o_call (c3) ?he ?hc ?_ | refine p_call (c3) ?he ?hc ?_ | refine c_call (c3) ?he ?hc ?_); (case he | hc => first | rfl | (simp [D.erL, D.er, D.closedL, D.closed, d1, d2, d3, d4, g1, g2, g3, g4]; done)))
    | ((with_reducible first | refine o_call (e2) ?he ?hc ?_ | refine p_call (e2) ?he ?hc ?_ | refine c_call (e2) ?he ?hc ?_); (case he | hc => first | rfl | (simp [D.erL, D.er, D.closedL, D.closed, d1, d2, d3, d4, g1, g2, g3, g4]; done)))
    | ((with_reducible first | refine o_call (e3) ?he ?hc ?_ | refine p_call (e3) ?he ?hc ?_ | refine c_call (e3) ?he ?hc ?_); (case he | hc => first | rfl | (simp [D.erL, D.er, D.closedL, D.closed, d1, d2, d3, d4, g1, g2, g3, g4]; done)))
    | ((with_reducible apply s_appT); (case he => rfl); (case hK | hc | hr | hV => first | rfl | assumption | omega | ((first | refine ⟨?_, ?_⟩ | skip) <;> first | omega | (simp only [lN, d1, d2, d3, d4, g1, g2, g3, g4] <;> omega)) | (simp [elemsK, D.isVal, D.cells, D.closedL, D.closed, d1, d2, d3, d4, g1, g2, g3, g4]; first | done | omega)))
    | ((with_reducible apply s_appG); (case he => rfl); (case hV | hK | hr | hl => first | rfl | assumption | omega | ((first | refine ⟨?_, ?_⟩ | skip) <;> first | omega | (simp only [lN, d1, d2, d3, d4, g1, g2, g3, g4] <;> omega)) | (simp [elemsK, D.isVal, D.cells, D.closedL, D.closed, d1, d2, d3, d4, g1, g2, g3, g4]; first | done | omega)))
    | ((with_reducible apply s_app0); (case he => rfl); (case hK | hc | hr => first | rfl | assumption | omega | ((first | refine ⟨?_, ?_⟩ | skip) <;> first | omega | (simp only [lN, d1, d2, d3, d4, g1, g2, g3, g4] <;> omega)) | (simp [elemsK, D.isVal, D.cells, D.closedL, D.closed, d1, d2, d3, d4, g1, g2, g3, g4]; first | done | omega)))
    | ((with_reducible apply s_appF); (case he => rfl); (case hK | hc | hr | hx | hn => first | rfl | assumption | omega | ((first | refine ⟨?_, ?_⟩ | skip) <;> first | omega | (simp only [lN, d1, d2, d3, d4, g1, g2, g3, g4] <;> omega)) | (simp [elemsK, D.isVal, D.cells, D.closedL, D.closed, d1, d2, d3, d4, g1, g2, g3, g4]; first | done | omega)))
    | ((with_reducible apply s_bsl); (case he | hl | hc => first | rfl | assumption | omega | ((first | refine ⟨?_, ?_⟩ | skip) <;> first | omega | (simp only [lN, d1, d2, d3, d4, g1, g2, g3, g4] <;> omega)) | (simp [elemsK, D.isVal, D.cells, D.closedL, D.closed, d1, d2, d3, d4, g1, g2, g3, g4]; first | done | omega)))
    | with_reducible first | apply cd_dec | apply cd_eq | apply cd_ne | apply cd_split | apply gd_dec | apply gd_eq | apply gd_ne | apply gd_split | apply gq_dec | apply gq_eq | apply gq_ne | apply gq_split
    | ((with_reducible refine And.intro ?hw ?_); (case hw => first | omega | rfl | exact ⟨_, _, rfl⟩ | assumption | (simp only [lN, d1, d2, d3, d4, g1, g2, g3, g4] <;> omega)))
    | with_reducible intro _)
      all_goals try first | omega | (exfalso; omega)
      refine swp_weak (weak_trans (weak_keep [0, 2, 4, 6, 7]) (weak_frz 0 [.int .i64 x.idx, .slice SS .no, .slice PP .no] rfl (Nat.le_refl 0) (by simp [D.closedL, D.closed, d1, d2]))) ?_
      simp only [St.frz, keepE, D.erL, D.er, d3, d4]
      rw [hrc]
      refine tail hb3 _ (.cells [.int .i64 si, .slice SA .no, .slice SB .no]) ?_
      repeat' (first
    | with_reducible first | apply swp_seq | apply swp_reg | apply swp_regD | apply swp_block | apply swp_exit | apply swp_ret | apply swp_skip | apply swp_cd
    | simp only [go_sem, seval, P5, q5]
    | simp (disch := omega) only [w64, w32, wu8, wu16, wu32, wu64]
    | ((with_reducible first | refine o_call (c0) ?he ?hc ?_ | refine p_call (c0) ?he ?hc ?_ | refine c_call (c0) ?he ?hc ?_); (case he | hc => first | rfl | (simp [D.erL, D.er, D.closedL, D.closed, d1, d2, d3, d4]; done)))
    | ((with_reducible apply s_appT); (case he => rfl); (case hK | hc | hr | hV => first | rfl | assumption | omega | ((first | refine ⟨?_, ?_⟩ | skip) <;> first | omega | (simp only [lN, d1, d2, d3, d4] <;> omega)) | (simp [elemsK, D.isVal, D.cells, D.closedL, D.closed, d1, d2, d3, d4]; first | done | omega)))
    | ((with_reducible apply s_appG); (case he => rfl); (case hV | hK | hr | hl => first | rfl | assumption | omega | ((first | refine ⟨?_, ?_⟩ | skip) <;> first | omega | (simp only [lN, d1, d2, d3, d4] <;> omega)) | (simp [elemsK, D.isVal, D.cells, D.closedL, D.closed, d1, d2, d3, d4]; first | done | omega)))
    | ((with_reducible apply s_app0); (case he => rfl); (case hK | hc | hr => first | rfl | assumption | omega | ((first | refine ⟨?_, ?_⟩ | skip) <;> first | omega | (simp only [lN, d1, d2, d3, d4] <;> omega)) | (simp [elemsK, D.isVal, D.cells, D.closedL, D.closed, d1, d2, d3, d4]; first | done | omega)))
    | ((with_reducible apply s_appF); (case he => rfl); (case hK | hc | hr | hx | hn => first | rfl | assumption | omega | ((first | refine ⟨?_, ?_⟩ | skip) <;> first | omega | (simp only [lN, d1, d2, d3, d4] <;> omega)) | (simp [elemsK, D.isVal, D.cells, D.closedL, D.closed, d1, d2, d3, d4]; first | done | omega)))
    | ((with_reducible apply s_bsl); (case he | hl | hc => first | rfl | assumption | omega | ((first | refine ⟨?_, ?_⟩ | skip) <;> first | omega | (simp only [lN, d1, d2, d3, d4] <;> omega)) | (simp [elemsK, D.isVal, D.cells, D.closedL, D.closed, d1, d2, d3, d4]; first | done | omega)))
    | with_reducible first | apply cd_dec | apply cd_eq | apply cd_ne | apply cd_split | apply gd_dec | apply gd_eq | apply gd_ne | apply gd_split | apply gq_dec | apply gq_eq | apply gq_ne | apply gq_split
    | ((with_reducible refine And.intro ?hw ?_); (case hw => first | omega | rfl | exact ⟨_, _, rfl⟩ | assumption | (simp only [lN, d1, d2, d3, d4] <;> omega)))
    | with_reducible intro _)
      exact ⟨_, weak_refl, by simp [D.closed, D.er]⟩
    · subst w1
      repeat' (first
    | with_reducible first | apply swp_seq | apply swp_reg | apply swp_regD | apply swp_block | apply swp_exit | apply swp_ret | apply swp_skip | apply swp_cd
    | simp only [go_sem, seval, P5, q5, t1']
    | simp (disch := omega) only [w64, w32, wu8, wu16, wu32, wu64]
    | ((with_reducible first | refine o_call (c0) ?he ?hc ?_ | refine p_call (c0) ?he ?hc ?_ | refine c_call (c0) ?he ?hc ?_); (case he | hc => first | rfl | (simp [D.erL, D.er, D.closedL, D.closed, d1, d2, d3, d4, g1, g2, g3, g4]; done)))
    | ((with_reducible first | refine o_call (c1) ?he ?hc ?_ | refine p_call (c1) ?he ?hc ?_ | refine c_call (c1) ?he ?hc ?_); (case he | hc => first | rfl | (simp [D.erL, D.er, D.closedL, D.closed, d1, d2, d3, d4, g1, g2, g3, g4]; done)))
    | ((with_reducible first | refine o_call (c2) ?he ?hc ?_ | refine p_call (c2) ?he ?hc ?_ | refine c_call (c2) ?he ?hc ?_); (case he | hc => first | rfl | (simp [D.erL, D.er, D.closedL, D.closed, d1, d2, d3, d4, g1, g2, g3, g4]; done)))
    | ((with_reducible first | refine o_call (e1) ?he ?hc ?_ | refine p_call (e1) ?he ?hc ?_ | refine c_call (e1) ?he ?hc ?_); (case he | hc => first | rfl | (simp [D.erL, D.er, D.closedL, D.closed, d1, d2, d3, d4, g1, g2, g3, g4]; done)))
    | ((with_reducible first | refine o_call (c3) ?he ?hc ?_ | refine p_call (c3) ?he ?hc ?_ | refine c_call (c3) ?he ?hc ?_); (case he | hc => first | rfl | (simp [D.erL, D.er, D.closedL, D.closed, d1, d2, d3, d4, g1, g2, g3, g4]; done)))
    | ((with_reducible first | refine o_call (e2) ?he ?hc ?_ | refine p_call (e2) ?he ?hc ?_ | refine c_call (e2) ?he ?hc ?_); (case he | hc => first | rfl | (simp [D.erL, D.er, D.closedL, D.closed, d1, d2, d3, d4, g1, g2, g3, g4]; done)))
    | ((with_reducible first | refine o_call (e3) ?he ?hc ?_ | refine p_call (e3) ?he ?hc ?_ | refine c_call (e3) ?he ?hc ?_); (case he | hc => first | rfl | (simp [D.erL, D.er, D.closedL, D.closed, d1, d2, d3, d4, g1, g2, g3, g4]; done)))
    | ((with_reducible apply s_appT); (case he => rfl); (case hK | hc | hr | hV => first | rfl | assumption | omega | ((first | refine ⟨?_, ?_⟩ | skip) <;> first | omega | (simp only [lN, d1, d2, d3, d4, g1, g2, g3, g4] <;> omega)) | (simp [elemsK, D.isVal, D.cells, D.closedL, D.closed, d1, d2, d3, d4, g1, g2, g3, g4]; first | done | omega)))
    | ((with_reducible apply s_appG); (case he => rfl); (case hV | hK | hr | hl => first | rfl | assumption | omega | ((first | refine ⟨?_, ?_⟩ | skip) <;> first | omega | (simp only [lN, d1, d2, d3, d4, g1, g2, g3, g4] <;> omega)) | (simp [elemsK, D.isVal, D.cells, D.closedL, D.closed, d1, d2, d3, d4, g1, g2, g3, g4]; first | done | omega)))
    | ((with_reducible apply s_app0); (case he => rfl); (case hK | hc | hr => first | rfl | assumption | omega | ((first | refine ⟨?_, ?_⟩ | skip) <;> first | omega | (simp only [lN, d1, d2, d3, d4, g1, g2, g3, g4] <;> omega)) | (simp [elemsK, D.isVal, D.cells, D.closedL, D.closed, d1, d2, d3, d4, g1, g2, g3, g4]; first | done | omega)))
    | ((with_reducible apply s_appF); (case he => rfl); (case hK | hc | hr | hx | hn => first | rfl | assumption | omega | ((first | refine ⟨?_, ?_⟩ | skip) <;> first | omega | (simp only [lN, d1, d2, d3, d4, g1, g2, g3, g4] <;> omega)) | (simp [elemsK, D.isVal, D.cells, D.closedL, D.closed, d1, d2, d3, d4, g1, g2, g3, g4]; first | done | omega)))
    | ((with_reducible apply s_bsl); (case he | hl | hc => first | rfl | assumption | omega | ((first | refine ⟨?_, ?_⟩ | skip) <;> first | omega | (simp only [lN, d1, d2, d3, d4, g1, g2, g3, g4] <;> omega)) | (simp [elemsK, D.isVal, D.cells, D.closedL, D.closed, d1, d2, d3, d4, g1, g2, g3, g4]; first | done | omega)))
    | with_reducible first | apply cd_dec | apply cd_eq | apply cd_ne | apply cd_split | apply gd_dec | apply gd_eq | apply gd_ne | apply gd_split | apply gq_dec | apply gq_eq | apply gq_ne | apply gq_split
    | ((with_reducible refine And.intro ?hw ?_); (case hw => first | omega | rfl | exact ⟨_, _, rfl⟩ | assumption | (simp only [lN, d1, d2, d3, d4, g1, g2, g3, g4] <;> omega)))
    | with_reducible intro _)
      all_goals try first | omega | (exfalso; omega)
      exact ⟨_, weak_refl, by simp [D.closed, D.er]⟩
  · have hb3 : b2 = true := hkey.elim (fun q => absurd q.1 w1) id
    have w2 : (er == 0) = false := by simp [w1]
    repeat' (first
    | with_reducible first | apply swp_seq | apply swp_reg | apply swp_regD | apply swp_block | apply swp_exit | apply swp_ret | apply swp_skip | apply swp_cd
    | simp only [go_sem, seval, P5, q5, t1', w2]
    | simp (disch := omega) only [w64, w32, wu8, wu16, wu32, wu64]
    | ((with_reducible first | refine o_call (c0) ?he ?hc ?_ | refine p_call (c0) ?he ?hc ?_ | refine c_call (c0) ?he ?hc ?_); (case he | hc => first | rfl | (simp [D.erL, D.er, D.closedL, D.closed, d1, d2, d3, d4, g1, g2, g3, g4]; done)))
    | ((with_reducible first | refine o_call (c1) ?he ?hc ?_ | refine p_call (c1) ?he ?hc ?_ | refine c_call (c1) ?he ?hc ?_); (case he | hc => first | rfl | (simp [D.erL, D.er, D.closedL, D.closed, d1, d2, d3, d4, g1, g2, g3, g4]; done)))
    | ((with_reducible first | refine o_call (c2) ?he ?hc ?_ | refine p_call (c2) ?he ?hc ?_ | refine c_call (c2) ?he ?hc ?_); (case he | hc => first | rfl | (simp [D.erL, D.er, D.closedL, D.closed, d1, d2, d3, d4, g1, g2, g3, g4]; done)))
    | ((with_reducible first | refine o_call (e1) ?he ?hc ?_ | refine p_call (e1) ?he ?hc ?_ | refine c_call (e1) ?he ?hc ?_); (case he | hc => first | rfl | (simp [D.erL, D.er, D.closedL, D.closed, d1, d2, d3, d4, g1, g2, g3, g4]; done)))
    | ((with_reducible first | refine o_call (c3) ?he ?hc ?_ | refine p_call (c3) ?he ?hc ?_ | refine c_call (c3) ?he ?hc ?_); (case he | hc => first | rfl | (simp [D.erL, D.er, D.closedL, D.closed, d1, d2, d3, d4, g1, g2, g3, g4]; done)))
    | ((with_reducible first | refine o_call (e2) ?he ?hc ?_ | refine p_call (e2) ?he ?hc ?_ | refine c_call (e2) ?he ?hc ?_); (case he | hc => first | rfl | (simp [D.erL, D.er, D.closedL, D.closed, d1, d2, d3, d4, g1, g2, g3, g4]; done)))
    | ((with_reducible first | refine o_call (e3) ?he ?hc ?_ | refine p_call (e3) ?he ?hc ?_ | refine c_call (e3) ?he ?hc ?_); (case he | hc => first | rfl | (simp [D.erL, D.er, D.closedL, D.closed, d1, d2, d3, d4, g1, g2, g3, g4]; done)))
    | ((with_reducible apply s_appT); (case he => rfl); (case hK | hc | hr | hV => first | rfl | assumption | omega | ((first | refine ⟨?_, ?_⟩ | skip) <;> first | omega | (simp only [lN, d1, d2, d3, d4, g1, g2, g3, g4] <;> omega)) | (simp [elemsK, D.isVal, D.cells, D.closedL, D.closed, d1, d2, d3, d4, g1, g2, g3, g4]; first | done | omega)))
    | ((with_reducible apply s_appG); (case he => rfl); (case hV | hK | hr | hl => first | rfl | assumption | omega | ((first | refine ⟨?_, ?_⟩ | skip) <;> first | omega | (simp only [lN, d1, d2, d3, d4, g1, g2, g3, g4] <;> omega)) | (simp [elemsK, D.isVal, D.cells, D.closedL, D.closed, d1, d2, d3, d4, g1, g2, g3, g4]; first | done | omega)))
    | ((with_reducible apply s_app0); (case he => rfl); (case hK | hc | hr => first | rfl | assumption | omega | ((first | refine ⟨?_, ?_⟩ | skip) <;> first | omega | (simp only [lN, d1, d2, d3, d4, g1, g2, g3, g4] <;> omega)) | (simp [elemsK, D.isVal, D.cells, D.closedL, D.closed, d1, d2, d3, d4, g1, g2, g3, g4]; first | done | omega)))
    | ((with_reducible apply s_appF); (case he => rfl); (case hK | hc | hr | hx | hn => first | rfl | assumption | omega | ((first | refine ⟨?_, ?_⟩ | skip) <;> first | omega | (simp only [lN, d1, d2, d3, d4, g1, g2, g3, g4] <;> omega)) | (simp [elemsK, D.isVal, D.cells, D.closedL, D.closed, d1, d2, d3, d4, g1, g2, g3, g4]; first | done | omega)))
    | ((with_reducible apply s_bsl); (case he | hl | hc => first | rfl | assumption | omega | ((first | refine ⟨?_, ?_⟩ | skip) <;> first | omega | (simp only [lN, d1, d2, d3, d4, g1, g2, g3, g4] <;> omega)) | (simp [elemsK, D.isVal, D.cells, D.closedL, D.closed, d1, d2, d3, d4, g1, g2, g3, g4]; first | done | omega)))
    | with_reducible first | apply cd_dec | apply cd_eq | apply cd_ne | apply cd_split | apply gd_dec | apply gd_eq | apply gd_ne | apply gd_split | apply gq_dec | apply gq_eq | apply gq_ne | apply gq_split
    | ((with_reducible refine And.intro ?hw ?_); (case hw => first | omega | rfl | exact ⟨_, _, rfl⟩ | assumption | (simp only [lN, d1, d2, d3, d4, g1, g2, g3, g4] <;> omega)))
    | with_reducible intro _)
    all_goals try first | omega | (exfalso; omega)
    refine swp_weak (weak_trans (weak_keep [0, 2, 4, 6, 7]) (weak_frz 0 [.int .i64 x.idx, .slice SS .no, .slice PP .no] rfl (Nat.le_refl 0) (by simp [D.closedL, D.closed, d1, d2]))) ?_
    simp only [St.frz, keepE, D.erL, D.er, d3, d4]
    rw [hrc]
    refine tail hb3 _ (.cells [.int .i64 si, .slice SA .no, .slice SB .no]) ?_
    repeat' (first
    | with_reducible first | apply swp_seq | apply swp_reg | apply swp_regD | apply swp_block | apply swp_exit | apply swp_ret | apply swp_skip | apply swp_cd
    | simp only [go_sem, seval, P5, q5]
    | simp (disch := omega) only [w64, w32, wu8, wu16, wu32, wu64]
    | ((with_reducible first | refine o_call (c0) ?he ?hc ?_ | refine p_call (c0) ?he ?hc ?_ | refine c_call (c0) ?he ?hc ?_); (case he | hc => first | rfl | (simp [D.erL, D.er, D.closedL, D.closed, d1, d2, d3, d4]; done)))
    | ((with_reducible apply s_appT); (case he => rfl); (case hK | hc | hr | hV => first | rfl | assumption | omega | ((first | refine ⟨?_, ?_⟩ | skip) <;> first | omega | (simp only [lN, d1, d2, d3, d4] <;> omega)) | (simp [elemsK, D.isVal, D.cells, D.closedL, D.closed, d1, d2, d3, d4]; first | done | omega)))
    | ((with_reducible apply s_appG); (case he => rfl); (case hV | hK | hr | hl => first | rfl | assumption | omega | ((first | refine ⟨?_, ?_⟩ | skip) <;> first | omega | (simp only [lN, d1, d2, d3, d4] <;> omega)) | (simp [elemsK, D.isVal, D.cells, D.closedL, D.closed, d1, d2, d3, d4]; first | done | omega)))
    | ((with_reducible apply s_app0); (case he => rfl); (case hK | hc | hr => first | rfl | assumption | omega | ((first | refine ⟨?_, ?_⟩ | skip) <;> first | omega | (simp only [lN, d1, d2, d3, d4] <;> omega)) | (simp [elemsK, D.isVal, D.cells, D.closedL, D.closed, d1, d2, d3, d4]; first | done | omega)))
    | ((with_reducible apply s_appF); (case he => rfl); (case hK | hc | hr | hx | hn => first | rfl | assumption | omega | ((first | refine ⟨?_, ?_⟩ | skip) <;> first | omega | (simp only [lN, d1, d2, d3, d4] <;> omega)) | (simp [elemsK, D.isVal, D.cells, D.closedL, D.closed, d1, d2, d3, d4]; first | done | omega)))
    | ((with_reducible apply s_bsl); (case he | hl | hc => first | rfl | assumption | omega | ((first | refine ⟨?_, ?_⟩ | skip) <;> first | omega | (simp only [lN, d1, d2, d3, d4] <;> omega)) | (simp [elemsK, D.isVal, D.cells, D.closedL, D.closed, d1, d2, d3, d4]; first | done | omega)))
    | with_reducible first | apply cd_dec | apply cd_eq | apply cd_ne | apply cd_split | apply gd_dec | apply gd_eq | apply gd_ne | apply gd_split | apply gq_dec | apply gq_eq | apply gq_ne | apply gq_split
    | ((with_reducible refine And.intro ?hw ?_); (case hw => first | omega | rfl | exact ⟨_, _, rfl⟩ | assumption | (simp only [lN, d1, d2, d3, d4] <;> omega)))
    | with_reducible intro _)
    exact ⟨_, weak_refl, by simp [D.closed, D.er]⟩
end Go.Proofs.YtgjkhlnpplajjaaDoor
end
section
set_option maxRecDepth 100000
set_option linter.unusedSimpArgs false
set_option linter.unusedVariables false
namespace Go.Proofs.YtgjkhlnpplajjaaDoor
open Go GoV Go.RowKit
set_option maxHeartbeats 4000000 in
theorem l6_p (s : List UInt8) (a b : Int) (m o : List UInt8) (ha : 0 ≤ a ∧ a ≤ 255) (hb : 0 ≤ b ∧ b ≤ 255) : Pur M 6 [.str s, .int .u8 a, .int .u8 b, .str m, .str o] (.bool true) := by
  refine ow6 rfl ?_
  rw [i6]
  unfold c6
  obtain ⟨rc, hrc⟩ : ∃ rc, rc = RC.regD r6_12 r6_13 := ⟨_, rfl⟩
  rw [← hrc]
  have c0 := head_p
  have c1 := short_p [s, m, o] (by simp)
  have s1 : strs [s, m, o] = [.str s, .str m, .str o] := rfl
  rw [s1] at c1
  obtain ⟨h, t1, hh⟩ := mod_nat5 (n := 3) ha.1 (by omega)
  have t1' : a.tmod 3 = (h : Int) := t1
  have hw := shl_one (h := h) (by omega)
  have hN : 2 ^ h ≤ 2 ^ 8 := Nat.pow_le_pow_right (by omega) (by omega)
  have h256 : (2 : Nat) ^ 8 = 256 := by decide
  have hN0 : 0 < 2 ^ h := Nat.pow_pos (by omega)
  obtain ⟨i, t2, hi⟩ := mod_nat5 (a := b) (n := 2 ^ h) hb.1 hN0
  cases h1 : ([s, m, o].all fun x => decide (x.length ≤ 300))
  · rw [h1] at c1
    generalize 2 ^ h = N at *
    repeat' (first
    | with_reducible first | apply swp_seq | apply swp_reg | apply swp_regD | apply swp_block | apply swp_exit | apply swp_ret | apply swp_skip | apply swp_cd
    | simp only [go_sem, seval, P6, q6, t1', hw, t2]
    | simp (disch := omega) only [w64, w32, wu8, wu16, wu32, wu64]
    | ((with_reducible first | refine o_call (c0) ?he ?hc ?_ | refine p_call (c0) ?he ?hc ?_ | refine c_call (c0) ?he ?hc ?_); (case he | hc => first | rfl | (simp [D.erL, D.er, D.closedL, D.closed]; done)))
    | ((with_reducible first | refine o_call (c1) ?he ?hc ?_ | refine p_call (c1) ?he ?hc ?_ | refine c_call (c1) ?he ?hc ?_); (case he | hc => first | rfl | (simp [D.erL, D.er, D.closedL, D.closed]; done)))
    | ((with_reducible apply s_appT); (case he => rfl); (case hK | hc | hr | hV => first | rfl | assumption | omega | ((first | refine ⟨?_, ?_⟩ | skip) <;> first | omega | (simp only [lN] <;> omega)) | (simp [elemsK, D.isVal, D.cells, D.closedL, D.closed]; first | done | omega)))
    | ((with_reducible apply s_appG); (case he => rfl); (case hV | hK | hr | hl => first | rfl | assumption | omega | ((first | refine ⟨?_, ?_⟩ | skip) <;> first | omega | (simp only [lN] <;> omega)) | (simp [elemsK, D.isVal, D.cells, D.closedL, D.closed]; first | done | omega)))
    | ((with_reducible apply s_app0); (case he => rfl); (case hK | hc | hr => first | rfl | assumption | omega | ((first | refine ⟨?_, ?_⟩ | skip) <;> first | omega | (simp only [lN] <;> omega)) | (simp [elemsK, D.isVal, D.cells, D.closedL, D.closed]; first | done | omega)))
    | ((with_reducible apply s_appF); (case he => rfl); (case hK | hc | hr | hx | hn => first | rfl | assumption | omega | ((first | refine ⟨?_, ?_⟩ | skip) <;> first | omega | (simp only [lN] <;> omega)) | (simp [elemsK, D.isVal, D.cells, D.closedL, D.closed]; first | done | omega)))
    | ((with_reducible apply s_bsl); (case he | hl | hc => first | rfl | assumption | omega | ((first | refine ⟨?_, ?_⟩ | skip) <;> first | omega | (simp only [lN] <;> omega)) | (simp [elemsK, D.isVal, D.cells, D.closedL, D.closed]; first | done | omega)))
    | with_reducible first | apply cd_dec | apply cd_eq | apply cd_ne | apply cd_split | apply gd_dec | apply gd_eq | apply gd_ne | apply gd_split | apply gq_dec | apply gq_eq | apply gq_ne | apply gq_split
    | ((with_reducible refine And.intro ?hw ?_); (case hw => first | omega | rfl | exact ⟨_, _, rfl⟩ | assumption | (simp only [lN] <;> omega)))
    | with_reducible intro _)
    all_goals try omega
    exact ⟨_, weak_refl, by simp [D.closed, D.er]⟩
  rw [h1] at c1
  have hp : s.length ≤ 300 ∧ m.length ≤ 300 ∧ o.length ≤ 300 := by simpa using h1
  have r1 := rsum_p m (by omega)
  have r2 := rsum_p o (by omega)
  cases h2 : (sumN m == sumN o)
  rotate_left
  · generalize sumN m = SM at *
    generalize sumN o = SO at *
    generalize 2 ^ h = N at *
    repeat' (first
    | with_reducible first | apply swp_seq | apply swp_reg | apply swp_regD | apply swp_block | apply swp_exit | apply swp_ret | apply swp_skip | apply swp_cd
    | simp only [go_sem, seval, P6, q6, t1', hw, t2, h2]
    | simp (disch := omega) only [w64, w32, wu8, wu16, wu32, wu64]
    | ((with_reducible first | refine o_call (c0) ?he ?hc ?_ | refine p_call (c0) ?he ?hc ?_ | refine c_call (c0) ?he ?hc ?_); (case he | hc => first | rfl | (simp [D.erL, D.er, D.closedL, D.closed]; done)))
    | ((with_reducible first | refine o_call (c1) ?he ?hc ?_ | refine p_call (c1) ?he ?hc ?_ | refine c_call (c1) ?he ?hc ?_); (case he | hc => first | rfl | (simp [D.erL, D.er, D.closedL, D.closed]; done)))
    | ((with_reducible first | refine o_call (r1) ?he ?hc ?_ | refine p_call (r1) ?he ?hc ?_ | refine c_call (r1) ?he ?hc ?_); (case he | hc => first | rfl | (simp [D.erL, D.er, D.closedL, D.closed]; done)))
    | ((with_reducible first | refine o_call (r2) ?he ?hc ?_ | refine p_call (r2) ?he ?hc ?_ | refine c_call (r2) ?he ?hc ?_); (case he | hc => first | rfl | (simp [D.erL, D.er, D.closedL, D.closed]; done)))
    | ((with_reducible apply s_appT); (case he => rfl); (case hK | hc | hr | hV => first | rfl | assumption | omega | ((first | refine ⟨?_, ?_⟩ | skip) <;> first | omega | (simp only [lN] <;> omega)) | (simp [elemsK, D.isVal, D.cells, D.closedL, D.closed]; first | done | omega)))
    | ((with_reducible apply s_appG); (case he => rfl); (case hV | hK | hr | hl => first | rfl | assumption | omega | ((first | refine ⟨?_, ?_⟩ | skip) <;> first | omega | (simp only [lN] <;> omega)) | (simp [elemsK, D.isVal, D.cells, D.closedL, D.closed]; first | done | omega)))
    | ((with_reducible apply s_app0); (case he => rfl); (case hK | hc | hr => first | rfl | assumption | omega | ((first | refine ⟨?_, ?_⟩ | skip) <;> first | omega | (simp only [lN] <;> omega)) | (simp [elemsK, D.isVal, D.cells, D.closedL, D.closed]; first | done | omega)))
    | ((with_reducible apply s_appF); (case he => rfl); (case hK | hc | hr | hx | hn => first | rfl | assumption | omega | ((first | refine ⟨?_, ?_⟩ | skip) <;> first | omega | (simp only [lN] <;> omega)) | (simp [elemsK, D.isVal, D.cells, D.closedL, D.closed]; first | done | omega)))
    | ((with_reducible apply s_bsl); (case he | hl | hc => first | rfl | assumption | omega | ((first | refine ⟨?_, ?_⟩ | skip) <;> first | omega | (simp only [lN] <;> omega)) | (simp [elemsK, D.isVal, D.cells, D.closedL, D.closed]; first | done | omega)))
    | with_reducible first | apply cd_dec | apply cd_eq | apply cd_ne | apply cd_split | apply gd_dec | apply gd_eq | apply gd_ne | apply gd_split | apply gq_dec | apply gq_eq | apply gq_ne | apply gq_split
    | ((with_reducible refine And.intro ?hw ?_); (case hw => first | omega | rfl | exact ⟨_, _, rfl⟩ | assumption | (simp only [lN] <;> omega)))
    | with_reducible intro _)
    all_goals try omega
    exact ⟨_, weak_refl, by simp [D.closed, D.er]⟩
  have hne : sumN m ≠ sumN o := by simpa using h2
  have e1 := public_p s h hp.1
  rw [pubR_ok5 (by omega)] at e1
  have e2 := sign_p s h i m hp.1 hp.2.1 (by omega)
  rw [sgnR_ok5 (by omega) hi] at e2
  have hsm := small_sgn s (h := h) (i := i) m (by omega) hi
  obtain ⟨z1, z2, z3, z4⟩ := sgn_parts s (h := h) (i := i) m (by omega) hi
  have c3 := verify_p (pub s h) o (sgn s h i m) hsm hp.2.2
  have f1 := checked_p o (sgn s h i m) hsm hp.2.2 z1 (by omega) i rfl (by omega)
  obtain ⟨m1, m2⟩ := made_small (s := s) (h := h) (n := 30) hp.1 (by omega) (by omega)
  obtain ⟨m3, m4⟩ := checked_small (m := o) hsm (by omega)
  have f2 := shown_two (by omega) m2 (by omega) m4
  have mc := made_call (s := s) (h := h) (n := 30) hp.1 (by omega) (by omega) (by omega)
  have hkey : ver (pub s h) o (sgn s h i m) = true → shownB (made s h 30 ++ checked o (sgn s h i m)) = true := fun hv => by
    cases hsh : shownB (made s h 30 ++ checked o (sgn s h i m))
    · obtain ⟨q1, q2, q3⟩ := inj_two hsh
      exact (Go.Proofs.YtgjkhlnpplajjaaDoor.binds q1 (by omega) (by omega) hi q2 q3 hne hv).elim
    · rfl
  have z6 : (sgn s h i m).idx = (i : Int) := rfl
  unfold sgnD sealD at e2
  unfold pubD at e1
  unfold sealD at c3 f1
  have d1 := closed_strs (sgn s h i m).sig
  have d2 := closed_strs (sgn s h i m).path
  have d3 := erL_strs (sgn s h i m).sig
  have d4 := erL_strs (sgn s h i m).path
  have u1 := strs_len (made s h 30)
  have u2 := strs_len (checked o (sgn s h i m))
  have u3 := elems_strs (checked o (sgn s h i m))
  have u4 := closed_strs (checked o (sgn s h i m))
  have u5 := erL_strs (checked o (sgn s h i m))
  have u6 := closed_strs (made s h 30)
  have u7 := erL_strs (made s h 30)
  generalize hb2 : shownB (made s h 30 ++ checked o (sgn s h i m)) = b2 at *
  generalize hb3 : ver (pub s h) o (sgn s h i m) = b3 at *
  generalize hm0 : made s h 30 = MA at *
  generalize hc0 : checked o (sgn s h i m) = CK at *
  generalize sgn s h i m = X at *
  generalize pub s h = PU at *
  obtain ⟨xi, xs, xp⟩ := X
  simp only at e1 e2 c3 f1 d1 d2 d3 d4 z6
  subst z6
  generalize strs xs = SS at *
  generalize strs xp = PP at *
  generalize sumN m = SM at *
  generalize sumN o = SO at *
  generalize 2 ^ h = N at *
  cases b3
  · repeat' (first
    | with_reducible first | apply swp_seq | apply swp_reg | apply swp_regD | apply swp_block | apply swp_exit | apply swp_ret | apply swp_skip | apply swp_cd
    | simp only [go_sem, seval, P6, q6, t1', hw, t2, h2]
    | simp (disch := omega) only [w64, w32, wu8, wu16, wu32, wu64]
    | ((with_reducible first | refine o_call (c0) ?he ?hc ?_ | refine p_call (c0) ?he ?hc ?_ | refine c_call (c0) ?he ?hc ?_); (case he | hc => first | rfl | (simp [D.erL, D.er, D.closedL, D.closed, d1, d2, d3, d4]; done)))
    | ((with_reducible first | refine o_call (c1) ?he ?hc ?_ | refine p_call (c1) ?he ?hc ?_ | refine c_call (c1) ?he ?hc ?_); (case he | hc => first | rfl | (simp [D.erL, D.er, D.closedL, D.closed, d1, d2, d3, d4]; done)))
    | ((with_reducible first | refine o_call (r1) ?he ?hc ?_ | refine p_call (r1) ?he ?hc ?_ | refine c_call (r1) ?he ?hc ?_); (case he | hc => first | rfl | (simp [D.erL, D.er, D.closedL, D.closed, d1, d2, d3, d4]; done)))
    | ((with_reducible first | refine o_call (r2) ?he ?hc ?_ | refine p_call (r2) ?he ?hc ?_ | refine c_call (r2) ?he ?hc ?_); (case he | hc => first | rfl | (simp [D.erL, D.er, D.closedL, D.closed, d1, d2, d3, d4]; done)))
    | ((with_reducible first | refine o_call (e1) ?he ?hc ?_ | refine p_call (e1) ?he ?hc ?_ | refine c_call (e1) ?he ?hc ?_); (case he | hc => first | rfl | (simp [D.erL, D.er, D.closedL, D.closed, d1, d2, d3, d4]; done)))
    | ((with_reducible first | refine o_call (e2) ?he ?hc ?_ | refine p_call (e2) ?he ?hc ?_ | refine c_call (e2) ?he ?hc ?_); (case he | hc => first | rfl | (simp [D.erL, D.er, D.closedL, D.closed, d1, d2, d3, d4]; done)))
    | ((with_reducible first | refine o_call (c3) ?he ?hc ?_ | refine p_call (c3) ?he ?hc ?_ | refine c_call (c3) ?he ?hc ?_); (case he | hc => first | rfl | (simp [D.erL, D.er, D.closedL, D.closed, d1, d2, d3, d4]; done)))
    | ((with_reducible apply s_appT); (case he => rfl); (case hK | hc | hr | hV => first | rfl | assumption | omega | ((first | refine ⟨?_, ?_⟩ | skip) <;> first | omega | (simp only [lN, d1, d2, d3, d4] <;> omega)) | (simp [elemsK, D.isVal, D.cells, D.closedL, D.closed, d1, d2, d3, d4]; first | done | omega)))
    | ((with_reducible apply s_appG); (case he => rfl); (case hV | hK | hr | hl => first | rfl | assumption | omega | ((first | refine ⟨?_, ?_⟩ | skip) <;> first | omega | (simp only [lN, d1, d2, d3, d4] <;> omega)) | (simp [elemsK, D.isVal, D.cells, D.closedL, D.closed, d1, d2, d3, d4]; first | done | omega)))
    | ((with_reducible apply s_app0); (case he => rfl); (case hK | hc | hr => first | rfl | assumption | omega | ((first | refine ⟨?_, ?_⟩ | skip) <;> first | omega | (simp only [lN, d1, d2, d3, d4] <;> omega)) | (simp [elemsK, D.isVal, D.cells, D.closedL, D.closed, d1, d2, d3, d4]; first | done | omega)))
    | ((with_reducible apply s_appF); (case he => rfl); (case hK | hc | hr | hx | hn => first | rfl | assumption | omega | ((first | refine ⟨?_, ?_⟩ | skip) <;> first | omega | (simp only [lN, d1, d2, d3, d4] <;> omega)) | (simp [elemsK, D.isVal, D.cells, D.closedL, D.closed, d1, d2, d3, d4]; first | done | omega)))
    | ((with_reducible apply s_bsl); (case he | hl | hc => first | rfl | assumption | omega | ((first | refine ⟨?_, ?_⟩ | skip) <;> first | omega | (simp only [lN, d1, d2, d3, d4] <;> omega)) | (simp [elemsK, D.isVal, D.cells, D.closedL, D.closed, d1, d2, d3, d4]; first | done | omega)))
    | with_reducible first | apply cd_dec | apply cd_eq | apply cd_ne | apply cd_split | apply gd_dec | apply gd_eq | apply gd_ne | apply gd_split | apply gq_dec | apply gq_eq | apply gq_ne | apply gq_split
    | ((with_reducible refine And.intro ?hw ?_); (case hw => first | omega | rfl | exact ⟨_, _, rfl⟩ | assumption | (simp only [lN, d1, d2, d3, d4] <;> omega)))
    | with_reducible intro _)
    all_goals try first | omega | (exfalso; omega)
    exact ⟨_, weak_refl, by simp [D.closed, D.er]⟩
  have hb3' : b2 = true := hkey rfl
  have tail : ∀ (Q : Ex → St → Prop), Q .normal ⟨[.str s, .undef, .undef, .undef, .str o, .bool true, .bool true, .int .i64 (h : Nat), .undef, .undef, .undef, .ip [.int .i64 (i : Nat), .slice SS .no, .slice PP .no], .undef, .undef, .undef, .undef], [], ⟨[.gone], [.per 1 (MA.length + CK.length)]⟩⟩ →
      SWp C6 (.regD r6_12 r6_13) Q ⟨[.str s, .undef, .undef, .undef, .str o, .undef, .bool true, .int .i64 (h : Nat), .undef, .undef, .undef, .ip [.int .i64 (i : Nat), .slice SS .no, .slice PP .no], .undef, .undef, .undef, .undef], [], ⟨[.gone], []⟩⟩ := by
    intro Q hQ
    rw [hb3'] at f2
    refine swp_regDX 4 ?_
    rw [P6]
    refine x_mv (by decide) rfl ?_
    refine x_mv (by decide) rfl ?_
    refine x_mvg (by decide) rfl rfl ?_
    refine x_mvg (by decide) rfl rfl ?_
    refine x_effg (hp1 := ⟨[.gone], []⟩) rfl rfl rfl (mc _) ?_
    refine x_mvg (by decide) rfl rfl ?_
    refine x_ldg (by decide) rfl rfl (by decide) rfl ?_
    refine x_nil ?_
    generalize hSM : strs MA = SA at *
    generalize hSC : strs CK = SC at *
    repeat' (first
    | with_reducible first | apply swp_seq | apply swp_reg | apply swp_regD | apply swp_block | apply swp_exit | apply swp_ret | apply swp_skip | apply swp_cd
    | simp only [go_sem, seval, P6, q6, u5]
    | simp (disch := omega) only [w64, w32, wu8, wu16, wu32, wu64]
    | ((with_reducible first | refine o_call (f1) ?he ?hc ?_ | refine p_call (f1) ?he ?hc ?_ | refine c_call (f1) ?he ?hc ?_); (case he | hc => first | rfl | (simp [D.erL, D.er, D.closedL, D.closed, u1, u2, u3, u4, u5, u6, u7, d1, d2, d3, d4]; done)))
    | ((with_reducible first | refine o_call (f2) ?he ?hc ?_ | refine p_call (f2) ?he ?hc ?_ | refine c_call (f2) ?he ?hc ?_); (case he | hc => first | rfl | (simp [D.erL, D.er, D.closedL, D.closed, u1, u2, u3, u4, u5, u6, u7, d1, d2, d3, d4]; done)))
    | ((with_reducible apply s_appT); (case he => rfl); (case hK | hc | hr | hV => first | rfl | assumption | omega | ((first | refine ⟨?_, ?_⟩ | skip) <;> first | omega | (simp only [lN, u1, u2, u3, u4, u5, u6, u7, d1, d2, d3, d4] <;> omega)) | (simp [elemsK, D.isVal, D.cells, D.closedL, D.closed, u1, u2, u3, u4, u5, u6, u7, d1, d2, d3, d4]; first | done | omega)))
    | ((with_reducible apply s_appG); (case he => rfl); (case hV | hK | hr | hl => first | rfl | assumption | omega | ((first | refine ⟨?_, ?_⟩ | skip) <;> first | omega | (simp only [lN, u1, u2, u3, u4, u5, u6, u7, d1, d2, d3, d4] <;> omega)) | (simp [elemsK, D.isVal, D.cells, D.closedL, D.closed, u1, u2, u3, u4, u5, u6, u7, d1, d2, d3, d4]; first | done | omega)))
    | ((with_reducible apply s_app0); (case he => rfl); (case hK | hc | hr => first | rfl | assumption | omega | ((first | refine ⟨?_, ?_⟩ | skip) <;> first | omega | (simp only [lN, u1, u2, u3, u4, u5, u6, u7, d1, d2, d3, d4] <;> omega)) | (simp [elemsK, D.isVal, D.cells, D.closedL, D.closed, u1, u2, u3, u4, u5, u6, u7, d1, d2, d3, d4]; first | done | omega)))
    | ((with_reducible apply s_appF); (case he => rfl); (case hK | hc | hr | hx | hn => first | rfl | assumption | omega | ((first | refine ⟨?_, ?_⟩ | skip) <;> first | omega | (simp only [lN, u1, u2, u3, u4, u5, u6, u7, d1, d2, d3, d4] <;> omega)) | (simp [elemsK, D.isVal, D.cells, D.closedL, D.closed, u1, u2, u3, u4, u5, u6, u7, d1, d2, d3, d4]; first | done | omega)))
    | ((with_reducible apply s_bsl); (case he | hl | hc => first | rfl | assumption | omega | ((first | refine ⟨?_, ?_⟩ | skip) <;> first | omega | (simp only [lN, u1, u2, u3, u4, u5, u6, u7, d1, d2, d3, d4] <;> omega)) | (simp [elemsK, D.isVal, D.cells, D.closedL, D.closed, u1, u2, u3, u4, u5, u6, u7, d1, d2, d3, d4]; first | done | omega)))
    | with_reducible first | apply cd_dec | apply cd_eq | apply cd_ne | apply cd_split | apply gd_dec | apply gd_eq | apply gd_ne | apply gd_split | apply gq_dec | apply gq_eq | apply gq_ne | apply gq_split
    | ((with_reducible refine And.intro ?hw ?_); (case hw => first | omega | rfl | exact ⟨_, _, rfl⟩ | assumption | (simp only [lN, u1, u2, u3, u4, u5, u6, u7, d1, d2, d3, d4] <;> omega)))
    | with_reducible intro _)
    all_goals try omega
    rw [u1, u2]
    exact hQ
  repeat' (first
    | with_reducible first | apply swp_seq | apply swp_reg | apply swp_regD | apply swp_block | apply swp_exit | apply swp_ret | apply swp_skip | apply swp_cd
    | simp only [go_sem, seval, P6, q6, t1', hw, t2, h2]
    | simp (disch := omega) only [w64, w32, wu8, wu16, wu32, wu64]
    | ((with_reducible first | refine o_call (c0) ?he ?hc ?_ | refine p_call (c0) ?he ?hc ?_ | refine c_call (c0) ?he ?hc ?_); (case he | hc => first | rfl | (simp [D.erL, D.er, D.closedL, D.closed, d1, d2, d3, d4]; done)))
    | ((with_reducible first | refine o_call (c1) ?he ?hc ?_ | refine p_call (c1) ?he ?hc ?_ | refine c_call (c1) ?he ?hc ?_); (case he | hc => first | rfl | (simp [D.erL, D.er, D.closedL, D.closed, d1, d2, d3, d4]; done)))
    | ((with_reducible first | refine o_call (r1) ?he ?hc ?_ | refine p_call (r1) ?he ?hc ?_ | refine c_call (r1) ?he ?hc ?_); (case he | hc => first | rfl | (simp [D.erL, D.er, D.closedL, D.closed, d1, d2, d3, d4]; done)))
    | ((with_reducible first | refine o_call (r2) ?he ?hc ?_ | refine p_call (r2) ?he ?hc ?_ | refine c_call (r2) ?he ?hc ?_); (case he | hc => first | rfl | (simp [D.erL, D.er, D.closedL, D.closed, d1, d2, d3, d4]; done)))
    | ((with_reducible first | refine o_call (e1) ?he ?hc ?_ | refine p_call (e1) ?he ?hc ?_ | refine c_call (e1) ?he ?hc ?_); (case he | hc => first | rfl | (simp [D.erL, D.er, D.closedL, D.closed, d1, d2, d3, d4]; done)))
    | ((with_reducible first | refine o_call (e2) ?he ?hc ?_ | refine p_call (e2) ?he ?hc ?_ | refine c_call (e2) ?he ?hc ?_); (case he | hc => first | rfl | (simp [D.erL, D.er, D.closedL, D.closed, d1, d2, d3, d4]; done)))
    | ((with_reducible first | refine o_call (c3) ?he ?hc ?_ | refine p_call (c3) ?he ?hc ?_ | refine c_call (c3) ?he ?hc ?_); (case he | hc => first | rfl | (simp [D.erL, D.er, D.closedL, D.closed, d1, d2, d3, d4]; done)))
    | ((with_reducible apply s_appT); (case he => rfl); (case hK | hc | hr | hV => first | rfl | assumption | omega | ((first | refine ⟨?_, ?_⟩ | skip) <;> first | omega | (simp only [lN, d1, d2, d3, d4] <;> omega)) | (simp [elemsK, D.isVal, D.cells, D.closedL, D.closed, d1, d2, d3, d4]; first | done | omega)))
    | ((with_reducible apply s_appG); (case he => rfl); (case hV | hK | hr | hl => first | rfl | assumption | omega | ((first | refine ⟨?_, ?_⟩ | skip) <;> first | omega | (simp only [lN, d1, d2, d3, d4] <;> omega)) | (simp [elemsK, D.isVal, D.cells, D.closedL, D.closed, d1, d2, d3, d4]; first | done | omega)))
    | ((with_reducible apply s_app0); (case he => rfl); (case hK | hc | hr => first | rfl | assumption | omega | ((first | refine ⟨?_, ?_⟩ | skip) <;> first | omega | (simp only [lN, d1, d2, d3, d4] <;> omega)) | (simp [elemsK, D.isVal, D.cells, D.closedL, D.closed, d1, d2, d3, d4]; first | done | omega)))
    | ((with_reducible apply s_appF); (case he => rfl); (case hK | hc | hr | hx | hn => first | rfl | assumption | omega | ((first | refine ⟨?_, ?_⟩ | skip) <;> first | omega | (simp only [lN, d1, d2, d3, d4] <;> omega)) | (simp [elemsK, D.isVal, D.cells, D.closedL, D.closed, d1, d2, d3, d4]; first | done | omega)))
    | ((with_reducible apply s_bsl); (case he | hl | hc => first | rfl | assumption | omega | ((first | refine ⟨?_, ?_⟩ | skip) <;> first | omega | (simp only [lN, d1, d2, d3, d4] <;> omega)) | (simp [elemsK, D.isVal, D.cells, D.closedL, D.closed, d1, d2, d3, d4]; first | done | omega)))
    | with_reducible first | apply cd_dec | apply cd_eq | apply cd_ne | apply cd_split | apply gd_dec | apply gd_eq | apply gd_ne | apply gd_split | apply gq_dec | apply gq_eq | apply gq_ne | apply gq_split
    | ((with_reducible refine And.intro ?hw ?_); (case hw => first | omega | rfl | exact ⟨_, _, rfl⟩ | assumption | (simp only [lN, d1, d2, d3, d4] <;> omega)))
    | with_reducible intro _)
  all_goals try first | omega | (exfalso; omega)
  refine swp_weak (weak_trans (weak_keep [0, 4, 6, 7, 11]) (weak_frz 0 [.int .i64 (i : Nat), .slice SS .no, .slice PP .no] rfl (Nat.le_refl 0) (by simp [D.closedL, D.closed, d1, d2]))) ?_
  simp only [St.frz, keepE, D.erL, D.er, d3, d4]
  rw [hrc]
  refine tail _ ?_
  repeat' (first
    | with_reducible first | apply swp_seq | apply swp_reg | apply swp_regD | apply swp_block | apply swp_exit | apply swp_ret | apply swp_skip | apply swp_cd
    | simp only [go_sem, seval, P6, q6]
    | simp (disch := omega) only [w64, w32, wu8, wu16, wu32, wu64]
    | ((with_reducible first | refine o_call (c0) ?he ?hc ?_ | refine p_call (c0) ?he ?hc ?_ | refine c_call (c0) ?he ?hc ?_); (case he | hc => first | rfl | (simp [D.erL, D.er, D.closedL, D.closed, d1, d2, d3, d4]; done)))
    | ((with_reducible apply s_appT); (case he => rfl); (case hK | hc | hr | hV => first | rfl | assumption | omega | ((first | refine ⟨?_, ?_⟩ | skip) <;> first | omega | (simp only [lN, d1, d2, d3, d4] <;> omega)) | (simp [elemsK, D.isVal, D.cells, D.closedL, D.closed, d1, d2, d3, d4]; first | done | omega)))
    | ((with_reducible apply s_appG); (case he => rfl); (case hV | hK | hr | hl => first | rfl | assumption | omega | ((first | refine ⟨?_, ?_⟩ | skip) <;> first | omega | (simp only [lN, d1, d2, d3, d4] <;> omega)) | (simp [elemsK, D.isVal, D.cells, D.closedL, D.closed, d1, d2, d3, d4]; first | done | omega)))
    | ((with_reducible apply s_app0); (case he => rfl); (case hK | hc | hr => first | rfl | assumption | omega | ((first | refine ⟨?_, ?_⟩ | skip) <;> first | omega | (simp only [lN, d1, d2, d3, d4] <;> omega)) | (simp [elemsK, D.isVal, D.cells, D.closedL, D.closed, d1, d2, d3, d4]; first | done | omega)))
    | ((with_reducible apply s_appF); (case he => rfl); (case hK | hc | hr | hx | hn => first | rfl | assumption | omega | ((first | refine ⟨?_, ?_⟩ | skip) <;> first | omega | (simp only [lN, d1, d2, d3, d4] <;> omega)) | (simp [elemsK, D.isVal, D.cells, D.closedL, D.closed, d1, d2, d3, d4]; first | done | omega)))
    | ((with_reducible apply s_bsl); (case he | hl | hc => first | rfl | assumption | omega | ((first | refine ⟨?_, ?_⟩ | skip) <;> first | omega | (simp only [lN, d1, d2, d3, d4] <;> omega)) | (simp [elemsK, D.isVal, D.cells, D.closedL, D.closed, d1, d2, d3, d4]; first | done | omega)))
    | with_reducible first | apply cd_dec | apply cd_eq | apply cd_ne | apply cd_split | apply gd_dec | apply gd_eq | apply gd_ne | apply gd_split | apply gq_dec | apply gq_eq | apply gq_ne | apply gq_split
    | ((with_reducible refine And.intro ?hw ?_); (case hw => first | omega | rfl | exact ⟨_, _, rfl⟩ | assumption | (simp only [lN, d1, d2, d3, d4] <;> omega)))
    | with_reducible intro _)
  exact ⟨_, weak_refl, by simp [D.closed, D.er]⟩
end Go.Proofs.YtgjkhlnpplajjaaDoor
end
section
set_option maxRecDepth 100000
set_option linter.unusedSimpArgs false
set_option linter.unusedVariables false
namespace Go.Proofs.YtgjkhlnpplajjaaDoor
open Go GoV Go.RowKit
set_option maxHeartbeats 4000000 in
theorem l8_p (s o : List UInt8) (a b : Int) (m : List UInt8) (ha : 0 ≤ a ∧ a ≤ 255) (hb : 0 ≤ b ∧ b ≤ 255) : Pur M 8 [.str s, .str o, .int .u8 a, .int .u8 b, .str m] (.bool true) := by
  refine ow8 rfl ?_
  rw [i8]
  unfold c8
  have c0 := head_p
  have c1 := short_p [s, o, m] (by simp)
  have s1 : strs [s, o, m] = [.str s, .str o, .str m] := rfl
  rw [s1] at c1
  obtain ⟨h, t1, hh⟩ := mod_nat5 (n := 3) ha.1 (by omega)
  have t1' : a.tmod 3 = (h : Int) := t1
  have hw := shl_one (h := h) (by omega)
  have hN : 2 ^ h ≤ 2 ^ 8 := Nat.pow_le_pow_right (by omega) (by omega)
  have h256 : (2 : Nat) ^ 8 = 256 := by decide
  have hN0 : 0 < 2 ^ h := Nat.pow_pos (by omega)
  obtain ⟨i, t2, hi⟩ := mod_nat5 (a := b) (n := 2 ^ h) hb.1 hN0
  cases h1 : ([s, o, m].all fun x => decide (x.length ≤ 300))
  · rw [h1] at c1
    generalize 2 ^ h = N at *
    repeat' (first
    | with_reducible first | apply swp_seq | apply swp_reg | apply swp_regD | apply swp_block | apply swp_exit | apply swp_ret | apply swp_skip | apply swp_cd
    | simp only [go_sem, seval, P8, q8, t1', hw, t2]
    | simp (disch := omega) only [w64, w32, wu8, wu16, wu32, wu64]
    | ((with_reducible refine o_call (c0) ?he ?hc ?_); (case he | hc => first | rfl | (simp [D.erL, D.er, D.closedL, D.closed]; done)))
    | ((with_reducible refine o_call (c1) ?he ?hc ?_); (case he | hc => first | rfl | (simp [D.erL, D.er, D.closedL, D.closed]; done)))
    | ((with_reducible apply s_appT); (case he => rfl); (case hK | hc | hr | hV => first | rfl | assumption | omega | ((first | refine ⟨?_, ?_⟩ | skip) <;> first | omega | (simp only [lN] <;> omega)) | (simp [elemsK, D.isVal, D.cells, D.closedL, D.closed]; first | done | omega)))
    | ((with_reducible apply s_appG); (case he => rfl); (case hV | hK | hr | hl => first | rfl | assumption | omega | ((first | refine ⟨?_, ?_⟩ | skip) <;> first | omega | (simp only [lN] <;> omega)) | (simp [elemsK, D.isVal, D.cells, D.closedL, D.closed]; first | done | omega)))
    | ((with_reducible apply s_app0); (case he => rfl); (case hK | hc | hr => first | rfl | assumption | omega | ((first | refine ⟨?_, ?_⟩ | skip) <;> first | omega | (simp only [lN] <;> omega)) | (simp [elemsK, D.isVal, D.cells, D.closedL, D.closed]; first | done | omega)))
    | ((with_reducible apply s_appF); (case he => rfl); (case hK | hc | hr | hx | hn => first | rfl | assumption | omega | ((first | refine ⟨?_, ?_⟩ | skip) <;> first | omega | (simp only [lN] <;> omega)) | (simp [elemsK, D.isVal, D.cells, D.closedL, D.closed]; first | done | omega)))
    | ((with_reducible apply s_bsl); (case he | hl | hc => first | rfl | assumption | omega | ((first | refine ⟨?_, ?_⟩ | skip) <;> first | omega | (simp only [lN] <;> omega)) | (simp [elemsK, D.isVal, D.cells, D.closedL, D.closed]; first | done | omega)))
    | with_reducible first | apply cd_dec | apply cd_eq | apply cd_ne | apply cd_split | apply gd_dec | apply gd_eq | apply gd_ne | apply gd_split
    | ((with_reducible refine And.intro ?hw ?_); (case hw => first | omega | rfl | exact ⟨_, _, rfl⟩ | assumption | (simp only [lN] <;> omega)))
    | with_reducible intro _)
    all_goals try omega
    exact ⟨_, weak_refl, by simp [D.closed, D.er]⟩
  rw [h1] at c1
  have hp : s.length ≤ 300 ∧ o.length ≤ 300 ∧ m.length ≤ 300 := by simpa using h1
  cases h2 : (s == o)
  rotate_left
  · generalize 2 ^ h = N at *
    repeat' (first
    | with_reducible first | apply swp_seq | apply swp_reg | apply swp_regD | apply swp_block | apply swp_exit | apply swp_ret | apply swp_skip | apply swp_cd
    | simp only [go_sem, seval, P8, q8, t1', hw, t2, h2]
    | simp (disch := omega) only [w64, w32, wu8, wu16, wu32, wu64]
    | ((with_reducible refine o_call (c0) ?he ?hc ?_); (case he | hc => first | rfl | (simp [D.erL, D.er, D.closedL, D.closed]; done)))
    | ((with_reducible refine o_call (c1) ?he ?hc ?_); (case he | hc => first | rfl | (simp [D.erL, D.er, D.closedL, D.closed]; done)))
    | ((with_reducible apply s_appT); (case he => rfl); (case hK | hc | hr | hV => first | rfl | assumption | omega | ((first | refine ⟨?_, ?_⟩ | skip) <;> first | omega | (simp only [lN] <;> omega)) | (simp [elemsK, D.isVal, D.cells, D.closedL, D.closed]; first | done | omega)))
    | ((with_reducible apply s_appG); (case he => rfl); (case hV | hK | hr | hl => first | rfl | assumption | omega | ((first | refine ⟨?_, ?_⟩ | skip) <;> first | omega | (simp only [lN] <;> omega)) | (simp [elemsK, D.isVal, D.cells, D.closedL, D.closed]; first | done | omega)))
    | ((with_reducible apply s_app0); (case he => rfl); (case hK | hc | hr => first | rfl | assumption | omega | ((first | refine ⟨?_, ?_⟩ | skip) <;> first | omega | (simp only [lN] <;> omega)) | (simp [elemsK, D.isVal, D.cells, D.closedL, D.closed]; first | done | omega)))
    | ((with_reducible apply s_appF); (case he => rfl); (case hK | hc | hr | hx | hn => first | rfl | assumption | omega | ((first | refine ⟨?_, ?_⟩ | skip) <;> first | omega | (simp only [lN] <;> omega)) | (simp [elemsK, D.isVal, D.cells, D.closedL, D.closed]; first | done | omega)))
    | ((with_reducible apply s_bsl); (case he | hl | hc => first | rfl | assumption | omega | ((first | refine ⟨?_, ?_⟩ | skip) <;> first | omega | (simp only [lN] <;> omega)) | (simp [elemsK, D.isVal, D.cells, D.closedL, D.closed]; first | done | omega)))
    | with_reducible first | apply cd_dec | apply cd_eq | apply cd_ne | apply cd_split | apply gd_dec | apply gd_eq | apply gd_ne | apply gd_split
    | ((with_reducible refine And.intro ?hw ?_); (case hw => first | omega | rfl | exact ⟨_, _, rfl⟩ | assumption | (simp only [lN] <;> omega)))
    | with_reducible intro _)
    all_goals try omega
    exact ⟨_, weak_refl, by simp [D.closed, D.er]⟩
  have hne : s ≠ o := by simpa using h2
  have e1 := public_p o h hp.2.1
  rw [pubR_ok5 (by omega)] at e1
  have e2 := sign_p s h i m hp.1 hp.2.2 (by omega)
  rw [sgnR_ok5 (by omega) hi] at e2
  have hsm := small_sgn s (h := h) (i := i) m (by omega) hi
  have c3 := verify_p (pub o h) m (sgn s h i m) hsm hp.2.2
  obtain ⟨m1, m2⟩ := made_small (s := s) (h := h) (n := 15) hp.1 (by omega) (by omega)
  obtain ⟨m3, m4⟩ := made_small (s := o) (h := h) (n := 15) hp.2.1 (by omega) (by omega)
  have f2 := shown_two (by omega) m2 (by omega) m4
  have mc := made_e s h 15 hp.1 (by omega) (by omega) (by omega)
  have md := made_e o h 15 hp.2.1 (by omega) (by omega) (by omega)
  have hkey : ver (pub o h) m (sgn s h i m) = true → shownB (made s h 15 ++ made o h 15) = true := fun hv => by
    cases hsh : shownB (made s h 15 ++ made o h 15)
    · obtain ⟨q1, q2, q3⟩ := inj_two hsh
      exact (hne (secrets q1 (by omega) (by omega) hi q2 q3 hv)).elim
    · rfl
  have z6 : (sgn s h i m).idx = (i : Int) := rfl
  unfold sgnD sealD at e2
  unfold pubD at e1
  unfold sealD at c3
  have d1 := closed_strs (sgn s h i m).sig
  have d2 := closed_strs (sgn s h i m).path
  have d3 := erL_strs (sgn s h i m).sig
  have d4 := erL_strs (sgn s h i m).path
  have u1 := strs_len (made s h 15)
  have u2 := strs_len (made o h 15)
  have u3 := elems_strs (made o h 15)
  have u4 := closed_strs (made o h 15)
  have u5 := erL_strs (made o h 15)
  have u6 := closed_strs (made s h 15)
  have u7 := erL_strs (made s h 15)
  have u8 := fun β τ => rnL_strs β τ (made s h 15)
  have u9 := fun β τ => rnL_strs β τ (made o h 15)
  generalize hb2 : shownB (made s h 15 ++ made o h 15) = b2 at *
  generalize hb3 : ver (pub o h) m (sgn s h i m) = b3 at *
  generalize hm0 : made s h 15 = MA at *
  generalize hc0 : made o h 15 = MB at *
  generalize sgn s h i m = X at *
  generalize pub o h = PU at *
  obtain ⟨xi, xs, xp⟩ := X
  simp only at e1 e2 c3 d1 d2 d3 d4 z6
  subst z6
  generalize strs xs = SS at *
  generalize strs xp = PP at *
  generalize 2 ^ h = N at *
  cases b3
  · repeat' (first
    | with_reducible first | apply swp_seq | apply swp_reg | apply swp_regD | apply swp_block | apply swp_exit | apply swp_ret | apply swp_skip | apply swp_cd
    | simp only [go_sem, seval, P8, q8, t1', hw, t2, h2]
    | simp (disch := omega) only [w64, w32, wu8, wu16, wu32, wu64]
    | ((with_reducible refine o_call (c0) ?he ?hc ?_); (case he | hc => first | rfl | (simp [D.erL, D.er, D.closedL, D.closed, d1, d2, d3, d4]; done)))
    | ((with_reducible refine o_call (c1) ?he ?hc ?_); (case he | hc => first | rfl | (simp [D.erL, D.er, D.closedL, D.closed, d1, d2, d3, d4]; done)))
    | ((with_reducible refine o_call (e1) ?he ?hc ?_); (case he | hc => first | rfl | (simp [D.erL, D.er, D.closedL, D.closed, d1, d2, d3, d4]; done)))
    | ((with_reducible refine o_call (e2) ?he ?hc ?_); (case he | hc => first | rfl | (simp [D.erL, D.er, D.closedL, D.closed, d1, d2, d3, d4]; done)))
    | ((with_reducible refine o_call (c3) ?he ?hc ?_); (case he | hc => first | rfl | (simp [D.erL, D.er, D.closedL, D.closed, d1, d2, d3, d4]; done)))
    | ((with_reducible apply s_appT); (case he => rfl); (case hK | hc | hr | hV => first | rfl | assumption | omega | ((first | refine ⟨?_, ?_⟩ | skip) <;> first | omega | (simp only [lN, d1, d2, d3, d4] <;> omega)) | (simp [elemsK, D.isVal, D.cells, D.closedL, D.closed, d1, d2, d3, d4]; first | done | omega)))
    | ((with_reducible apply s_appG); (case he => rfl); (case hV | hK | hr | hl => first | rfl | assumption | omega | ((first | refine ⟨?_, ?_⟩ | skip) <;> first | omega | (simp only [lN, d1, d2, d3, d4] <;> omega)) | (simp [elemsK, D.isVal, D.cells, D.closedL, D.closed, d1, d2, d3, d4]; first | done | omega)))
    | ((with_reducible apply s_app0); (case he => rfl); (case hK | hc | hr => first | rfl | assumption | omega | ((first | refine ⟨?_, ?_⟩ | skip) <;> first | omega | (simp only [lN, d1, d2, d3, d4] <;> omega)) | (simp [elemsK, D.isVal, D.cells, D.closedL, D.closed, d1, d2, d3, d4]; first | done | omega)))
    | ((with_reducible apply s_appF); (case he => rfl); (case hK | hc | hr | hx | hn => first | rfl | assumption | omega | ((first | refine ⟨?_, ?_⟩ | skip) <;> first | omega | (simp only [lN, d1, d2, d3, d4] <;> omega)) | (simp [elemsK, D.isVal, D.cells, D.closedL, D.closed, d1, d2, d3, d4]; first | done | omega)))
    | ((with_reducible apply s_bsl); (case he | hl | hc => first | rfl | assumption | omega | ((first | refine ⟨?_, ?_⟩ | skip) <;> first | omega | (simp only [lN, d1, d2, d3, d4] <;> omega)) | (simp [elemsK, D.isVal, D.cells, D.closedL, D.closed, d1, d2, d3, d4]; first | done | omega)))
    | with_reducible first | apply cd_dec | apply cd_eq | apply cd_ne | apply cd_split | apply gd_dec | apply gd_eq | apply gd_ne | apply gd_split
    | ((with_reducible refine And.intro ?hw ?_); (case hw => first | omega | rfl | exact ⟨_, _, rfl⟩ | assumption | (simp only [lN, d1, d2, d3, d4] <;> omega)))
    | with_reducible intro _)
    all_goals try first | omega | (exfalso; omega)
    exact ⟨_, weak_refl, by simp [D.closed, D.er]⟩
  have hb3' : b2 = true := hkey rfl
  rw [hb3'] at f2
  generalize hSM : strs MA = SA at *
  generalize hSC : strs MB = SB at *
  repeat' (first
    | with_reducible first | apply swp_seq | apply swp_reg | apply swp_regD | apply swp_block | apply swp_exit | apply swp_ret | apply swp_skip | apply swp_cd
    | simp only [go_sem, seval, P8, q8, t1', hw, t2, h2, u5, u8, u9]
    | simp (disch := omega) only [w64, w32, wu8, wu16, wu32, wu64]
    | ((with_reducible refine o_call (c0) ?he ?hc ?_); (case he | hc => first | rfl | (simp [D.erL, D.er, D.closedL, D.closed, d1, d2, d3, d4, u1, u2, u3, u4, u5, u6, u7, u8, u9]; done)))
    | ((with_reducible refine o_call (c1) ?he ?hc ?_); (case he | hc => first | rfl | (simp [D.erL, D.er, D.closedL, D.closed, d1, d2, d3, d4, u1, u2, u3, u4, u5, u6, u7, u8, u9]; done)))
    | ((with_reducible refine o_call (e1) ?he ?hc ?_); (case he | hc => first | rfl | (simp [D.erL, D.er, D.closedL, D.closed, d1, d2, d3, d4, u1, u2, u3, u4, u5, u6, u7, u8, u9]; done)))
    | ((with_reducible refine o_call (e2) ?he ?hc ?_); (case he | hc => first | rfl | (simp [D.erL, D.er, D.closedL, D.closed, d1, d2, d3, d4, u1, u2, u3, u4, u5, u6, u7, u8, u9]; done)))
    | ((with_reducible refine o_call (c3) ?he ?hc ?_); (case he | hc => first | rfl | (simp [D.erL, D.er, D.closedL, D.closed, d1, d2, d3, d4, u1, u2, u3, u4, u5, u6, u7, u8, u9]; done)))
    | ((with_reducible refine o_eff [] [] (mc) ?hs ?he ?hh ?_); (case hs => exact ⟨by simp, by simp, by simp, by simp⟩); (case he => first | rfl | (simp [go_sem, seval, d1, d2, d3, d4, u1, u2, u3, u4, u5, u6, u7, u8, u9]; done)); (case hh => first | rfl | (simp [go_sem, seval, d1, d2, d3, d4, u1, u2, u3, u4, u5, u6, u7, u8, u9]; done)); rintro _ _ ⟨rfl, rfl⟩)
    | ((with_reducible refine o_eff [] [] (md) ?hs ?he ?hh ?_); (case hs => exact ⟨by simp, by simp, by simp, by simp⟩); (case he => first | rfl | (simp [go_sem, seval, d1, d2, d3, d4, u1, u2, u3, u4, u5, u6, u7, u8, u9]; done)); (case hh => first | rfl | (simp [go_sem, seval, d1, d2, d3, d4, u1, u2, u3, u4, u5, u6, u7, u8, u9]; done)); rintro _ _ ⟨rfl, rfl⟩)
    | ((with_reducible refine o_call (f2) ?he ?hc ?_); (case he | hc => first | rfl | (simp [D.erL, D.er, D.closedL, D.closed, d1, d2, d3, d4, u1, u2, u3, u4, u5, u6, u7, u8, u9]; done)))
    | ((with_reducible apply s_appT); (case he => rfl); (case hK | hc | hr | hV => first | rfl | assumption | omega | ((first | refine ⟨?_, ?_⟩ | skip) <;> first | omega | (simp only [lN, d1, d2, d3, d4, u1, u2, u3, u4, u5, u6, u7, u8, u9] <;> omega)) | (simp [elemsK, D.isVal, D.cells, D.closedL, D.closed, d1, d2, d3, d4, u1, u2, u3, u4, u5, u6, u7, u8, u9]; first | done | omega)))
    | ((with_reducible apply s_appG); (case he => rfl); (case hV | hK | hr | hl => first | rfl | assumption | omega | ((first | refine ⟨?_, ?_⟩ | skip) <;> first | omega | (simp only [lN, d1, d2, d3, d4, u1, u2, u3, u4, u5, u6, u7, u8, u9] <;> omega)) | (simp [elemsK, D.isVal, D.cells, D.closedL, D.closed, d1, d2, d3, d4, u1, u2, u3, u4, u5, u6, u7, u8, u9]; first | done | omega)))
    | ((with_reducible apply s_app0); (case he => rfl); (case hK | hc | hr => first | rfl | assumption | omega | ((first | refine ⟨?_, ?_⟩ | skip) <;> first | omega | (simp only [lN, d1, d2, d3, d4, u1, u2, u3, u4, u5, u6, u7, u8, u9] <;> omega)) | (simp [elemsK, D.isVal, D.cells, D.closedL, D.closed, d1, d2, d3, d4, u1, u2, u3, u4, u5, u6, u7, u8, u9]; first | done | omega)))
    | ((with_reducible apply s_appF); (case he => rfl); (case hK | hc | hr | hx | hn => first | rfl | assumption | omega | ((first | refine ⟨?_, ?_⟩ | skip) <;> first | omega | (simp only [lN, d1, d2, d3, d4, u1, u2, u3, u4, u5, u6, u7, u8, u9] <;> omega)) | (simp [elemsK, D.isVal, D.cells, D.closedL, D.closed, d1, d2, d3, d4, u1, u2, u3, u4, u5, u6, u7, u8, u9]; first | done | omega)))
    | ((with_reducible apply s_bsl); (case he | hl | hc => first | rfl | assumption | omega | ((first | refine ⟨?_, ?_⟩ | skip) <;> first | omega | (simp only [lN, d1, d2, d3, d4, u1, u2, u3, u4, u5, u6, u7, u8, u9] <;> omega)) | (simp [elemsK, D.isVal, D.cells, D.closedL, D.closed, d1, d2, d3, d4, u1, u2, u3, u4, u5, u6, u7, u8, u9]; first | done | omega)))
    | with_reducible first | apply cd_dec | apply cd_eq | apply cd_ne | apply cd_split | apply gd_dec | apply gd_eq | apply gd_ne | apply gd_split
    | ((with_reducible refine And.intro ?hw ?_); (case hw => first | omega | rfl | exact ⟨_, _, rfl⟩ | assumption | (simp only [lN, d1, d2, d3, d4, u1, u2, u3, u4, u5, u6, u7, u8, u9] <;> omega)))
    | with_reducible intro _)
  all_goals try first | omega | (exfalso; omega)
  exact ⟨_, weak_refl, by simp [D.closed, D.er]⟩
end Go.Proofs.YtgjkhlnpplajjaaDoor
end
