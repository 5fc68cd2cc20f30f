/- Own texts, merged by a program: the engine that walks the code, and what the functions that the law reaches compute. -/
import Derived.Test.YtcchbohfcmfmlaaQe4
section
set_option maxRecDepth 100000
set_option linter.unusedSimpArgs false
set_option linter.unusedVariables false
namespace Go.Proofs.Ytcchbohfcmfmlaa
open Go GoV Go.RowKit
def und (n : Nat) : List D := List.replicate n .undef
theorem und_len (n : Nat) : (und n).length = n := by simp [und]
theorem rnL_app (β τ : Nat → Option Nat) : ∀ (a b : List D), D.rnL β τ (a ++ b) = D.rnL β τ a ++ D.rnL β τ b
  | [], b => rfl
  | x :: a, b => by simp [D.rnL, rnL_app β τ a b]
theorem rnL_strs (β τ : Nat → Option Nat) : ∀ l : List (List UInt8), D.rnL β τ (strs l) = strs l
  | [] => rfl
  | x :: l => by
    have := rnL_strs β τ l
    simp only [strs, List.map_cons, D.rnL, D.rn] at this ⊢
    rw [this]
theorem rnL_und (β τ : Nat → Option Nat) : ∀ n : Nat, D.rnL β τ (und n) = und n
  | 0 => rfl
  | n + 1 => by
    have := rnL_und β τ n
    simp only [und, List.replicate_succ, D.rnL, D.rn] at this ⊢
    rw [this]
theorem rnL_su (β τ : Nat → Option Nat) (l : List (List UInt8)) (n : Nat) : D.rnL β τ (strs l ++ und n) = strs l ++ und n := by rw [rnL_app, rnL_strs, rnL_und]
def InsR (s : List Pt) (part : List UInt8) (d : D) (hp : Hp) : Prop :=
  (insideF s part = [] ∧ d = .slice [] .no ∧ hp = ⟨[], []⟩) ∨
  ∃ cap, insideF s part ≠ [] ∧ (insideF s part).length ≤ cap ∧ d = .sl 0 1 0 (insideF s part).length cap ∧ hp = ⟨[.cells (strs (insideF s part) ++ und (cap - (insideF s part).length))], []⟩
theorem inside_nil (s : List Pt) (hl : s.length < 1000000) (part : List UInt8) (h : getP s part = none) : Pur M 62 [stateD s, .str part] (.slice [] .no) := by
  refine pur_res (d := .lit (.slice none 0 0)) (ok62 rfl ?_) rfl
  rw [i62]
  unfold c62
  have hq : firstAt part 0 s = none := by
    rw [← firstAt_get part s 0] at h
    simpa using h
  have hn := ofM_none hq
  have hok := ofM_ok s
  have hE := fun β τ => ofM_rn s β τ
  have c1 := of_m s hl
  unfold mapH at c1
  generalize ofM s = E at *
  repeat' (first
    | with_reducible first | apply swp_seq | apply swp_reg | apply swp_regD | apply swp_block | apply swp_exit | apply swp_ret | apply swp_skip | apply swp_cd
    | simp only [go_sem, seval, P62, q62, hE, o_newM]
    | ((with_reducible refine o_eff [] [] (c1) ?hs ?he ?hh ?_); (case hs => exact ⟨by simp, by simp, by simp, by simp⟩); (case he => first | rfl | (simp [go_sem, seval, hok, hn, D.rnL, D.rn, posF, Hp.sel, Blk.rnL, Blk.rn, Tv.rnL, idx, Hp.back, putAt, bakF, hE]; done)); (case hh => first | rfl | (simp [go_sem, seval, hok, hn, D.rnL, D.rn, posF, Hp.sel, Blk.rnL, Blk.rn, Tv.rnL, idx, Hp.back, putAt, bakF, hE]; done)); rintro _ _ ⟨rfl, rfl⟩)
    | ((with_reducible apply s_appT); (case he => rfl); (case hK | hc | hr | hV => first | rfl | assumption | omega | ((first | refine ⟨?_, ?_⟩ | skip) <;> first | omega | (simp only [lN, hok, hn, D.rnL, D.rn, posF, Hp.sel, Blk.rnL, Blk.rn, Tv.rnL, idx, Hp.back, putAt, bakF, hE] <;> omega)) | (simp [elemsK, D.isVal, D.cells, D.closedL, D.closed, hok, hn, D.rnL, D.rn, posF, Hp.sel, Blk.rnL, Blk.rn, Tv.rnL, idx, Hp.back, putAt, bakF, hE]; first | done | omega)))
    | ((with_reducible apply s_appG); (case he => rfl); (case hV | hK | hr | hl => first | rfl | assumption | omega | ((first | refine ⟨?_, ?_⟩ | skip) <;> first | omega | (simp only [lN, hok, hn, D.rnL, D.rn, posF, Hp.sel, Blk.rnL, Blk.rn, Tv.rnL, idx, Hp.back, putAt, bakF, hE] <;> omega)) | (simp [elemsK, D.isVal, D.cells, D.closedL, D.closed, hok, hn, D.rnL, D.rn, posF, Hp.sel, Blk.rnL, Blk.rn, Tv.rnL, idx, Hp.back, putAt, bakF, hE]; first | done | omega)))
    | ((with_reducible apply s_app0); (case he => rfl); (case hK | hc | hr => first | rfl | assumption | omega | ((first | refine ⟨?_, ?_⟩ | skip) <;> first | omega | (simp only [lN, hok, hn, D.rnL, D.rn, posF, Hp.sel, Blk.rnL, Blk.rn, Tv.rnL, idx, Hp.back, putAt, bakF, hE] <;> omega)) | (simp [elemsK, D.isVal, D.cells, D.closedL, D.closed, hok, hn, D.rnL, D.rn, posF, Hp.sel, Blk.rnL, Blk.rn, Tv.rnL, idx, Hp.back, putAt, bakF, hE]; first | done | omega)))
    | ((with_reducible apply s_appF); (case he => rfl); (case hK | hc | hr | hx | hn => first | rfl | assumption | omega | ((first | refine ⟨?_, ?_⟩ | skip) <;> first | omega | (simp only [lN, hok, hn, D.rnL, D.rn, posF, Hp.sel, Blk.rnL, Blk.rn, Tv.rnL, idx, Hp.back, putAt, bakF, hE] <;> omega)) | (simp [elemsK, D.isVal, D.cells, D.closedL, D.closed, hok, hn, D.rnL, D.rn, posF, Hp.sel, Blk.rnL, Blk.rn, Tv.rnL, idx, Hp.back, putAt, bakF, hE]; first | done | omega)))
    | ((with_reducible apply s_bsl); (case he | hl | hc => first | rfl | assumption | omega | ((first | refine ⟨?_, ?_⟩ | skip) <;> first | omega | (simp only [lN, hok, hn, D.rnL, D.rn, posF, Hp.sel, Blk.rnL, Blk.rn, Tv.rnL, idx, Hp.back, putAt, bakF, hE] <;> omega)) | (simp [elemsK, D.isVal, D.cells, D.closedL, D.closed, hok, hn, D.rnL, D.rn, posF, Hp.sel, Blk.rnL, Blk.rn, Tv.rnL, idx, Hp.back, putAt, bakF, hE]; first | done | omega)))
    | ((with_reducible first | apply s_mpu | apply s_mdl); (case h1 | hk => rfl); (case ha | hp => first | rfl | assumption | omega | ((first | refine ⟨?_, ?_⟩ | skip) <;> first | omega | (simp only [lN, hok, hn, D.rnL, D.rn, posF, Hp.sel, Blk.rnL, Blk.rn, Tv.rnL, idx, Hp.back, putAt, bakF, hE] <;> omega)) | (simp [elemsK, D.isVal, D.cells, D.closedL, D.closed, hok, hn, D.rnL, D.rn, posF, Hp.sel, Blk.rnL, Blk.rn, Tv.rnL, idx, Hp.back, putAt, bakF, hE]; first | done | omega)))
    | ((with_reducible apply s_lkpS); (case h1 | hk => rfl); (case ha | hf => first | rfl | assumption | omega | ((first | refine ⟨?_, ?_⟩ | skip) <;> first | omega | (simp only [lN, hok, hn, D.rnL, D.rn, posF, Hp.sel, Blk.rnL, Blk.rn, Tv.rnL, idx, Hp.back, putAt, bakF, hE] <;> omega)) | (simp [elemsK, D.isVal, D.cells, D.closedL, D.closed, hok, hn, D.rnL, D.rn, posF, Hp.sel, Blk.rnL, Blk.rn, Tv.rnL, idx, Hp.back, putAt, bakF, hE]; first | done | omega)))
    | ((with_reducible apply s_lkpN); (case h1 | hk => rfl); (case hf | ha => first | rfl | assumption | omega | ((first | refine ⟨?_, ?_⟩ | skip) <;> first | omega | (simp only [lN, hok, hn, D.rnL, D.rn, posF, Hp.sel, Blk.rnL, Blk.rn, Tv.rnL, idx, Hp.back, putAt, bakF, hE] <;> omega)) | (simp [elemsK, D.isVal, D.cells, D.closedL, D.closed, hok, hn, D.rnL, D.rn, posF, Hp.sel, Blk.rnL, Blk.rn, Tv.rnL, idx, Hp.back, putAt, bakF, hE]; first | done | omega)))
    | ((with_reducible apply s_rngM); (case h1 => rfl))
    | with_reducible first | apply cd_dec | apply cd_eq | apply cd_ne | apply cd_split
    | ((with_reducible refine And.intro ?hw ?_); (case hw => first | omega | rfl | exact ⟨_, _, rfl⟩ | assumption | (simp only [lN, hok, hn, D.rnL, D.rn, posF, Hp.sel, Blk.rnL, Blk.rn, Tv.rnL, idx, Hp.back, putAt, bakF, hE] <;> omega)))
    | with_reducible intro _)
  all_goals first | omega | (simp_all [D.closed, D.er, D.closedL, D.erL]; done) | (simp_all [D.closed, D.er, D.closedL, D.erL] <;> omega)
theorem fitted_perm {s : List Pt} {part : List UInt8} {seen : List Nat} (h1 : seen.Nodup) (h2 : ∀ j ∈ seen, j < (firstsI [] 0 s).length) (h3 : ∀ j, j < (firstsI [] 0 s).length → j ∈ seen) :
    (((triF (pickF (firstsI [] 0 s) seen)).filter fun t => !(t.1 == part)).map fun t => (t.1, t.2.1)).Perm (fitted s part) := by
  have e1 : ((triF (pickF (firstsI [] 0 s) seen)).filter fun t => !(t.1 == part)).map (fun t => (t.1, t.2.1)) = (((triF (pickF (firstsI [] 0 s) seen)).map fun t => (t.1, t.2.1)).filter fun t => !(t.1 == part)) := by
    rw [List.filter_map]; rfl
  have e2 : fitted s part = (((((firstsI [] 0 s).filter fun q => !(q.1.into == [])).map fun q => (q.1.name, q.1.into))).filter fun t => !(t.1 == part)) := by
    unfold fitted
    rw [← firstsI_fst s [] 0, List.filter_map, List.map_map, List.filter_map, List.filter_filter]
    rw [show ((fun p : Pt => !(p.into == []) && !(p.name == part)) ∘ fun x : Pt × Nat => x.1) = fun a : Pt × Nat => ((fun t : List UInt8 × List UInt8 => !(t.1 == part)) ∘ fun q : Pt × Nat => (q.1.name, q.1.into)) a && !(a.1.into == []) from by funext a; simp [Bool.and_comm]]
    rfl
  rw [e1, e2, triF_pair]
  exact (((pickF_perm h1 h2 h3).map _).filter _)
theorem firstsI_len (s : List Pt) : (firstsI [] 0 s).length ≤ s.length := by
  have : ∀ (l : List Pt) (seen : List (List UInt8)) (i : Nat), (firstsI seen i l).length ≤ l.length := by
    intro l
    induction l with
    | nil => intro _ _; simp [firstsI]
    | cons p ps ih =>
      intro seen i
      simp only [firstsI]
      split
      · have := ih seen (i + 1); simp; omega
      · have := ih (seen ++ [p.name]) (i + 1); simp; omega
  exact this s [] 0
theorem nodup_len : ∀ (n : Nat) (l : List Nat), l.Nodup → (∀ i ∈ l, i < n) → l.length ≤ n
  | 0, l, _, h => by
    cases l with
    | nil => simp
    | cons x l => exact absurd (h x (by simp)) (by omega)
  | n + 1, l, hn, h => by
    by_cases hm : n ∈ l
    · have h1 := nodup_len n (l.erase n) (hn.erase n) (fun i hi => by
        have h2 : i ∈ l := List.mem_of_mem_erase hi
        have h3 : i ≠ n := fun e => by
          subst e
          exact (List.Nodup.not_mem_erase hn) hi
        have := h i h2
        omega)
      rw [List.length_erase_of_mem hm] at h1
      omega
    · have := nodup_len n l hn (fun i hi => by
        have h3 : i ≠ n := fun e => hm (e ▸ hi)
        have := h i hi
        omega)
      omega
theorem ins_e : Pur M 80 [.slice [] .no, .int .i64 0, .int .i64 0] (.tup []) := by
  refine ok80 rfl ?_
  rw [i80]
  unfold c80
  repeat' (first
    | with_reducible first | apply swp_seq | apply swp_reg | apply swp_regD | apply swp_block | apply swp_exit | apply swp_ret | apply swp_skip | apply swp_cd
    | simp only [go_sem, seval, P80, q80]
    | simp (disch := omega) only [w64, w32, wu8, wu16, wu32, wu64]
    | with_reducible first | apply cd_dec | apply cd_eq | apply cd_ne | apply cd_split | apply gd_dec | apply gd_eq | apply gd_ne | apply gd_split | apply gq_dec | apply gq_eq | apply gq_ne | apply gq_split
    | ((with_reducible refine And.intro ?hw ?_); (case hw => first | omega | rfl | exact ⟨_, _, rfl⟩ | assumption | (simp only [lN] <;> omega)))
    | with_reducible intro _)
  refine swp_fam [0, 1, 2, 3] (fun _ : Unit => ⟨[.slice [] .no, .int .i64 0, .int .i64 0, .int .i64 1, .undef, .undef, .undef], [], ⟨[], []⟩⟩) (fun _ => True) (fun _ => 0) () trivial ?_ ?_
  · simp [keepE, St.keep]
  · intro _ _
    repeat' (first
    | with_reducible first | apply swp_seq | apply swp_reg | apply swp_regD | apply swp_block | apply swp_exit | apply swp_ret | apply swp_skip | apply swp_cd
    | simp only [go_sem, seval, P80, q80]
    | simp (disch := omega) only [w64, w32, wu8, wu16, wu32, wu64]
    | with_reducible first | apply cd_dec | apply cd_eq | apply cd_ne | apply cd_split | apply gd_dec | apply gd_eq | apply gd_ne | apply gd_split | apply gq_dec | apply gq_eq | apply gq_ne | apply gq_split
    | ((with_reducible refine And.intro ?hw ?_); (case hw => first | omega | rfl | exact ⟨_, _, rfl⟩ | assumption | (simp only [lN] <;> omega)))
    | with_reducible intro _)
    all_goals first | omega | (simp_all [D.closed, D.er, D.closedL, D.erL]; done) | (simp_all [D.closed, D.er, D.closedL, D.erL] <;> omega)
theorem pdq_e (z : Int) : Pur M 77 [.slice [] .no, .int .i64 0, .int .i64 0, .int .i64 z] (.tup []) := by
  refine ok77 rfl ?_
  rw [i77]
  unfold c77
  have c1 := ins_e
  repeat' (first
    | with_reducible first | apply swp_seq | apply swp_reg | apply swp_regD | apply swp_block | apply swp_exit | apply swp_ret | apply swp_skip | apply swp_cd
    | simp only [go_sem, seval, P77, q77]
    | simp (disch := omega) only [w64, w32, wu8, wu16, wu32, wu64]
    | with_reducible first | apply cd_dec | apply cd_eq | apply cd_ne | apply cd_split | apply gd_dec | apply gd_eq | apply gd_ne | apply gd_split | apply gq_dec | apply gq_eq | apply gq_ne | apply gq_split
    | ((with_reducible refine And.intro ?hw ?_); (case hw => first | omega | rfl | exact ⟨_, _, rfl⟩ | assumption | (simp only [lN] <;> omega)))
    | with_reducible intro _)
  refine swp_fam [0, 1, 2, 3, 4, 5] (fun _ : Unit => ⟨[.slice [] .no, .int .i64 0, .int .i64 0, .int .i64 z, .bool true, .bool true, .undef, .undef, .undef, .undef, .undef, .undef, .undef, .undef, .undef, .undef, .undef, .undef, .undef, .undef, .undef, .undef, .undef], [], ⟨[], []⟩⟩) (fun _ => True) (fun _ => 0) () trivial ?_ ?_
  · simp [keepE, St.keep]
  · intro _ _
    repeat' (first
    | with_reducible first | apply swp_seq | apply swp_reg | apply swp_regD | apply swp_block | apply swp_exit | apply swp_ret | apply swp_skip | apply swp_cd
    | simp only [go_sem, seval, P77, q77]
    | simp (disch := omega) only [w64, w32, wu8, wu16, wu32, wu64]
    | ((with_reducible refine o_call (c1) ?he ?hc ?_); (case he | hc => first | rfl | (simp [D.erL, D.er, D.closedL, D.closed]; done)))
    | with_reducible first | apply cd_dec | apply cd_eq | apply cd_ne | apply cd_split | apply gd_dec | apply gd_eq | apply gd_ne | apply gd_split | apply gq_dec | apply gq_eq | apply gq_ne | apply gq_split
    | ((with_reducible refine And.intro ?hw ?_); (case hw => first | omega | rfl | exact ⟨_, _, rfl⟩ | assumption | (simp only [lN] <;> omega)))
    | with_reducible intro _)
    all_goals first | omega | (simp_all [D.closed, D.er, D.closedL, D.erL]; done) | (simp_all [D.closed, D.er, D.closedL, D.erL] <;> omega)
theorem sort_e : Pur M 74 [.slice [] .no] (.tup []) := by
  refine ok74 rfl ?_
  rw [i74]
  unfold c74
  have c1 := len_any 0 (by omega)
  have c2 := pdq_e (Lib.bitLen 0 : Nat)
  repeat' (first
    | with_reducible first | apply swp_seq | apply swp_reg | apply swp_regD | apply swp_block | apply swp_exit | apply swp_ret | apply swp_skip | apply swp_cd
    | simp only [go_sem, seval, P74, q74]
    | simp (disch := omega) only [w64, w32, wu8, wu16, wu32, wu64]
    | ((with_reducible refine o_call (c1) ?he ?hc ?_); (case he | hc => first | rfl | (simp [D.erL, D.er, D.closedL, D.closed]; done)))
    | ((with_reducible refine o_call (c2) ?he ?hc ?_); (case he | hc => first | rfl | (simp [D.erL, D.er, D.closedL, D.closed]; done)))
    | with_reducible first | apply cd_dec | apply cd_eq | apply cd_ne | apply cd_split
    | ((with_reducible refine And.intro ?hw ?_); (case hw => first | omega | rfl | exact ⟨_, _, rfl⟩ | assumption | (simp only [lN] <;> omega)))
    | with_reducible intro _)
  all_goals first | omega | (simp_all [D.closed, D.er, D.closedL, D.erL]; done) | (simp_all [D.closed, D.er, D.closedL, D.erL] <;> omega)
theorem inside_tail (s : List Pt) (part : List UInt8) (O : List (List UInt8)) (clk : Nat) (R : List Tri) (hO : isort O = insideF s part) (hl : O.length ≤ 12) (X : D) :
    SWp (E62 0 0) (.seq (.reg r62_29) (.seq (.reg r62_30) .ret)) (fun e s_1 => (match e with | .exit _ => False | _ => True) ∧ ∃ s1, Weak (E62 0 0) s_1 s1 ∧ InsR s part (s1.env.getD 3 .undef) s1.hp)
      ⟨[.undef, .undef, .undef, .undef, .undef, .undef, .mp 0, .undef, .undef, .undef, .gs 0 O.length, X, .undef, .undef, .undef, .undef, .undef, .undef, .undef, .undef, .bool false, .undef, .undef, .undef, .undef, .undef, .undef, .undef], [], ⟨[.map (entT R) clk], [.chg 1 (strs O)]⟩⟩ := by
  have hlo := strs_len O
  have hri := (isort_perm O).length_eq
  by_cases hz : O = []
  · subst hz
    refine swp_weak (weak_trans (weak_keep [10]) (weak_frzT 0 1 0 [] rfl rfl (Nat.zero_le _) rfl rfl)) ?_
    simp [St.frzT, keepE, D.fzt, chunk]
    have c1 := sort_e
    repeat' (first
    | with_reducible first | apply swp_seq | apply swp_reg | apply swp_regD | apply swp_block | apply swp_exit | apply swp_ret | apply swp_skip | apply swp_cd
    | simp only [go_sem, seval, P62, pe62, q62, o_newM]
    | ((with_reducible refine o_call (c1) ?he ?hc ?_); (case he | hc => first | rfl | (simp [D.erL, D.er, D.closedL, D.closed]; done)))
    | ((with_reducible apply s_appT); (case he => rfl); (case hK | hc | hr | hV => first | rfl | assumption | omega | ((first | refine ⟨?_, ?_⟩ | skip) <;> first | omega | (simp only [lN] <;> omega)) | (simp [elemsK, D.isVal, D.cells, D.closedL, D.closed]; first | done | omega)))
    | ((with_reducible apply s_appG); (case he => rfl); (case hV | hK | hr | hl => first | rfl | assumption | omega | ((first | refine ⟨?_, ?_⟩ | skip) <;> first | omega | (simp only [lN] <;> omega)) | (simp [elemsK, D.isVal, D.cells, D.closedL, D.closed]; first | done | omega)))
    | ((with_reducible apply s_app0); (case he => rfl); (case hK | hc | hr => first | rfl | assumption | omega | ((first | refine ⟨?_, ?_⟩ | skip) <;> first | omega | (simp only [lN] <;> omega)) | (simp [elemsK, D.isVal, D.cells, D.closedL, D.closed]; first | done | omega)))
    | ((with_reducible apply s_appF); (case he => rfl); (case hK | hc | hr | hx | hn => first | rfl | assumption | omega | ((first | refine ⟨?_, ?_⟩ | skip) <;> first | omega | (simp only [lN] <;> omega)) | (simp [elemsK, D.isVal, D.cells, D.closedL, D.closed]; first | done | omega)))
    | ((with_reducible apply s_bsl); (case he | hl | hc => first | rfl | assumption | omega | ((first | refine ⟨?_, ?_⟩ | skip) <;> first | omega | (simp only [lN] <;> omega)) | (simp [elemsK, D.isVal, D.cells, D.closedL, D.closed]; first | done | omega)))
    | ((with_reducible first | apply s_mpu | apply s_mdl); (case h1 | hk => rfl); (case ha | hp => first | rfl | assumption | omega | ((first | refine ⟨?_, ?_⟩ | skip) <;> first | omega | (simp only [lN] <;> omega)) | (simp [elemsK, D.isVal, D.cells, D.closedL, D.closed]; first | done | omega)))
    | ((with_reducible apply s_lkpS); (case h1 | hk => rfl); (case ha | hf => first | rfl | assumption | omega | ((first | refine ⟨?_, ?_⟩ | skip) <;> first | omega | (simp only [lN] <;> omega)) | (simp [elemsK, D.isVal, D.cells, D.closedL, D.closed]; first | done | omega)))
    | ((with_reducible apply s_lkpN); (case h1 | hk => rfl); (case hf | ha => first | rfl | assumption | omega | ((first | refine ⟨?_, ?_⟩ | skip) <;> first | omega | (simp only [lN] <;> omega)) | (simp [elemsK, D.isVal, D.cells, D.closedL, D.closed]; first | done | omega)))
    | ((with_reducible apply s_rngM); (case h1 => rfl))
    | with_reducible first | apply cd_dec | apply cd_eq | apply cd_ne | apply cd_split
    | ((with_reducible refine And.intro ?hw ?_); (case hw => first | omega | rfl | exact ⟨_, _, rfl⟩ | assumption | (simp only [lN] <;> omega)))
    | with_reducible intro _)
    refine ⟨_, weak_gc 0 0 (Nat.le_refl 0) (Nat.le_refl 0), ?_⟩
    left
    rw [← hO]
    simp [isort, St.gc, Hp.cut, D.rnL, D.rn, cutF, Blk.rnL, Tv.rnL, Own.rn]
  · have hpos : 0 < O.length := List.length_pos_iff.2 hz
    refine swp_sl 10 0 1 O.length (strs O) rfl rfl (by omega) rfl hpos fun cap h1 => ?_
    simp only [St.toSl, List.set_cons_zero, List.set_cons_succ, List.length_cons, List.length_nil, List.nil_append, List.cons_append, Nat.mul_one]
    have hu : List.replicate (cap - O.length) D.undef = und (cap - O.length) := rfl
    rw [hu]
    have c1 := sort_p O (und (cap - O.length)) O.length cap rfl (by rw [und_len]; omega) hl
    have hr1 := fun β τ => rnL_su β τ O (cap - O.length)
    have hr2 := fun β τ => rnL_su β τ (isort O) (cap - O.length)
    have hne : insideF s part ≠ [] := by
      rw [← hO]; intro e; rw [e] at hri; simp at hri; omega
    have hle : (insideF s part).length = O.length := by rw [← hO]; exact hri
    repeat' (first
    | with_reducible first | apply swp_seq | apply swp_reg | apply swp_regD | apply swp_block | apply swp_exit | apply swp_ret | apply swp_skip | apply swp_cd
    | simp only [go_sem, seval, P62, pe62, q62, o_newM]
    | ((with_reducible refine o_eff [1] [] (c1) ?hs ?he ?hh ?_); (case hs => exact ⟨by simp, by simp, by simp, by simp⟩); (case he => first | rfl | (simp [go_sem, seval, D.rnL, D.rn, posF, Hp.sel, Blk.rnL, Blk.rn, Tv.rnL, idx, hr1]; done)); (case hh => first | rfl | (simp [go_sem, seval, D.rnL, D.rn, posF, Hp.sel, Blk.rnL, Blk.rn, Tv.rnL, idx, hr1]; done)); rintro _ _ ⟨rfl, rfl⟩)
    | ((with_reducible apply s_appT); (case he => rfl); (case hK | hc | hr | hV => first | rfl | assumption | omega | ((first | refine ⟨?_, ?_⟩ | skip) <;> first | omega | (simp only [lN, D.rnL, D.rn, posF, Hp.sel, Blk.rnL, Blk.rn, Tv.rnL, idx, hr1] <;> omega)) | (simp [elemsK, D.isVal, D.cells, D.closedL, D.closed, D.rnL, D.rn, posF, Hp.sel, Blk.rnL, Blk.rn, Tv.rnL, idx, hr1]; first | done | omega)))
    | ((with_reducible apply s_appG); (case he => rfl); (case hV | hK | hr | hl => first | rfl | assumption | omega | ((first | refine ⟨?_, ?_⟩ | skip) <;> first | omega | (simp only [lN, D.rnL, D.rn, posF, Hp.sel, Blk.rnL, Blk.rn, Tv.rnL, idx, hr1] <;> omega)) | (simp [elemsK, D.isVal, D.cells, D.closedL, D.closed, D.rnL, D.rn, posF, Hp.sel, Blk.rnL, Blk.rn, Tv.rnL, idx, hr1]; first | done | omega)))
    | ((with_reducible apply s_app0); (case he => rfl); (case hK | hc | hr => first | rfl | assumption | omega | ((first | refine ⟨?_, ?_⟩ | skip) <;> first | omega | (simp only [lN, D.rnL, D.rn, posF, Hp.sel, Blk.rnL, Blk.rn, Tv.rnL, idx, hr1] <;> omega)) | (simp [elemsK, D.isVal, D.cells, D.closedL, D.closed, D.rnL, D.rn, posF, Hp.sel, Blk.rnL, Blk.rn, Tv.rnL, idx, hr1]; first | done | omega)))
    | ((with_reducible apply s_appF); (case he => rfl); (case hK | hc | hr | hx | hn => first | rfl | assumption | omega | ((first | refine ⟨?_, ?_⟩ | skip) <;> first | omega | (simp only [lN, D.rnL, D.rn, posF, Hp.sel, Blk.rnL, Blk.rn, Tv.rnL, idx, hr1] <;> omega)) | (simp [elemsK, D.isVal, D.cells, D.closedL, D.closed, D.rnL, D.rn, posF, Hp.sel, Blk.rnL, Blk.rn, Tv.rnL, idx, hr1]; first | done | omega)))
    | ((with_reducible apply s_bsl); (case he | hl | hc => first | rfl | assumption | omega | ((first | refine ⟨?_, ?_⟩ | skip) <;> first | omega | (simp only [lN, D.rnL, D.rn, posF, Hp.sel, Blk.rnL, Blk.rn, Tv.rnL, idx, hr1] <;> omega)) | (simp [elemsK, D.isVal, D.cells, D.closedL, D.closed, D.rnL, D.rn, posF, Hp.sel, Blk.rnL, Blk.rn, Tv.rnL, idx, hr1]; first | done | omega)))
    | ((with_reducible first | apply s_mpu | apply s_mdl); (case h1 | hk => rfl); (case ha | hp => first | rfl | assumption | omega | ((first | refine ⟨?_, ?_⟩ | skip) <;> first | omega | (simp only [lN, D.rnL, D.rn, posF, Hp.sel, Blk.rnL, Blk.rn, Tv.rnL, idx, hr1] <;> omega)) | (simp [elemsK, D.isVal, D.cells, D.closedL, D.closed, D.rnL, D.rn, posF, Hp.sel, Blk.rnL, Blk.rn, Tv.rnL, idx, hr1]; first | done | omega)))
    | ((with_reducible apply s_lkpS); (case h1 | hk => rfl); (case ha | hf => first | rfl | assumption | omega | ((first | refine ⟨?_, ?_⟩ | skip) <;> first | omega | (simp only [lN, D.rnL, D.rn, posF, Hp.sel, Blk.rnL, Blk.rn, Tv.rnL, idx, hr1] <;> omega)) | (simp [elemsK, D.isVal, D.cells, D.closedL, D.closed, D.rnL, D.rn, posF, Hp.sel, Blk.rnL, Blk.rn, Tv.rnL, idx, hr1]; first | done | omega)))
    | ((with_reducible apply s_lkpN); (case h1 | hk => rfl); (case hf | ha => first | rfl | assumption | omega | ((first | refine ⟨?_, ?_⟩ | skip) <;> first | omega | (simp only [lN, D.rnL, D.rn, posF, Hp.sel, Blk.rnL, Blk.rn, Tv.rnL, idx, hr1] <;> omega)) | (simp [elemsK, D.isVal, D.cells, D.closedL, D.closed, D.rnL, D.rn, posF, Hp.sel, Blk.rnL, Blk.rn, Tv.rnL, idx, hr1]; first | done | omega)))
    | ((with_reducible apply s_rngM); (case h1 => rfl))
    | with_reducible first | apply cd_dec | apply cd_eq | apply cd_ne | apply cd_split
    | ((with_reducible refine And.intro ?hw ?_); (case hw => first | omega | rfl | exact ⟨_, _, rfl⟩ | assumption | (simp only [lN, D.rnL, D.rn, posF, Hp.sel, Blk.rnL, Blk.rn, Tv.rnL, idx, hr1] <;> omega)))
    | with_reducible intro _)
    refine ⟨_, weak_sel [1] [] ⟨by simp, by simp, by simp [Hp.back, putAt, bakF, Blk.rnL], by simp⟩ rfl rfl, ?_⟩
    right
    refine ⟨cap, hne, by omega, ?_⟩
    rw [hle, ← hO]
    simp [St.sel, Hp.sel, Hp.back, putAt, bakF, D.rnL, D.rn, posF, idx, Blk.rn, Blk.rnL, Tv.rnL, Own.rn, pairs, hr1, hr2]
abbrev prT (t : Tri) : List UInt8 × List UInt8 := (t.1, t.2.1)
def moreT (L : List (List UInt8)) (V : List Tri) : List (List UInt8) := (V.filter fun t => L.contains t.2.1).map (·.1)
def leftT (R : List Tri) (m : List (List UInt8)) : List Tri := R.filter fun t => !(m.contains t.1)
theorem leftT_step {R : List Tri} {m : List (List UInt8)} {j : Nat} (h : j < m.length) : leftT R (m.take (j + 1)) = (leftT R (m.take j)).filter fun t => !(t.1 == m[j]) := by
  unfold leftT
  rw [List.filter_filter]
  congr 1
  funext t
  rw [List.take_succ_eq_append_getElem h, Bool.eq_iff_iff]
  simp [not_or, and_comm, -List.take_append_getElem]
theorem leftT_sub (R : List Tri) (m : List (List UInt8)) : ((leftT R m).map (·.1)).Sublist (R.map (·.1)) := List.filter_sublist.map _
theorem leftT_more {R V : List Tri} {L : List (List UInt8)} (hN : (R.map (·.1)).Nodup) (hp : V.Perm R) : leftT R (moreT L V) = R.filter fun t => !(L.contains t.2.1) := by
  unfold leftT
  refine List.filter_congr fun t ht => ?_
  congr 1
  rw [Bool.eq_iff_iff]
  simp only [List.contains_eq_mem, decide_eq_true_eq, moreT, List.mem_map, List.mem_filter]
  constructor
  · rintro ⟨u, ⟨hu, hu2⟩, e⟩
    have hu' : u ∈ R := hp.mem_iff.1 hu
    have : u = t := by
      obtain ⟨a, ha, rfl⟩ := List.getElem_of_mem hu'
      obtain ⟨b, hb, rfl⟩ := List.getElem_of_mem ht
      have h1 : (R.map (·.1))[a]'(by simpa using ha) = (R.map (·.1))[b]'(by simpa using hb) := by simpa using e
      have := (List.getElem_inj hN).1 h1
      subst this; rfl
    subst this; simpa using hu2
  · intro h
    exact ⟨t, ⟨hp.mem_iff.2 ht, by simpa using h⟩, rfl⟩
theorem moreT_app (L : List (List UInt8)) (V : List Tri) (t : Tri) : moreT L (V ++ [t]) = moreT L V ++ (if L.contains t.2.1 = true then [t.1] else []) := by
  simp only [moreT, List.filter_append, List.map_append]
  congr 1
  by_cases h : L.contains t.2.1 = true
  · rw [if_pos h]; simp only [List.filter, h, List.map_cons, List.map_nil]
  · rw [if_neg h]; simp only [Bool.not_eq_true] at h; simp only [List.filter, h, List.map_nil]
theorem moreT_le (L : List (List UInt8)) (V : List Tri) : (moreT L V).length ≤ V.length := by
  simp only [moreT, List.length_map]; exact List.length_filter_le _ _
theorem born_inj {R : List Tri} (hB : (R.map (·.2.2)).Nodup) {t u : Tri} (ht : t ∈ R) (hu : u ∈ R) (e : t.2.2 = u.2.2) : t = u := by
  obtain ⟨a, ha, rfl⟩ := List.getElem_of_mem ht
  obtain ⟨b, hb, rfl⟩ := List.getElem_of_mem hu
  have h1 : (R.map (·.2.2))[a]'(by simpa using ha) = (R.map (·.2.2))[b]'(by simpa using hb) := by simpa using e
  have := (List.getElem_inj hB).1 h1
  subst this; rfl
theorem nodup_of_map {α β : Type} (f : α → β) : ∀ {l : List α}, (l.map f).Nodup → l.Nodup
  | [], _ => by simp
  | x :: l, h => by
    simp only [List.map_cons, List.nodup_cons] at h ⊢
    exact ⟨fun hx => h.1 (List.mem_map_of_mem hx), nodup_of_map f h.2⟩
theorem vis_perm {R V : List Tri} (hB : (R.map (·.2.2)).Nodup) (hV : (V.map (·.2.2)).Nodup) (hs : ∀ t ∈ V, t ∈ R) (ha : ∀ t ∈ R, t.2.2 ∈ V.map (·.2.2)) : V.Perm R := by
  rw [List.perm_ext_iff_of_nodup (nodup_of_map _ hV) (nodup_of_map _ hB)]
  intro t
  refine ⟨hs t, fun ht => ?_⟩
  obtain ⟨u, hu, e⟩ := List.mem_map.1 (ha t ht)
  have := born_inj hB (hs u hu) ht e
  subst this; exact hu
theorem vis_len {R V : List Tri} (hB : (R.map (·.2.2)).Nodup) (hV : (V.map (·.2.2)).Nodup) (hs : ∀ t ∈ V, t ∈ R) : V.length ≤ R.length := by
  have h2 : V.Nodup := nodup_of_map _ hV
  clear hV
  induction V generalizing R with
  | nil => simp
  | cons t V ih =>
    simp only [List.nodup_cons] at h2
    have ht := hs t (by simp)
    have h3 : ((R.erase t).map (·.2.2)).Nodup := List.Sublist.nodup (List.erase_sublist.map _) hB
    have hR : R.Nodup := nodup_of_map _ hB
    have := ih h3 (fun u hu => (List.Nodup.mem_erase_iff hR).2 ⟨fun e => by subst e; exact h2.1 hu, hs u (by simp [hu])⟩) h2.2
    rw [List.length_erase_of_mem ht] at this
    have hpos : 0 < R.length := List.length_pos_of_mem ht
    simp; omega
theorem bfs_step {k : Nat} {R V : List Tri} {L O : List (List UInt8)} {B : List (List UInt8)} (hN : (R.map (·.1)).Nodup) (hp : V.Perm R) (hL : L ≠ []) (hk : (O ++ bfs (k + 1) (R.map prT) L).Perm B) :
    ((O ++ moreT L V) ++ bfs k ((leftT R (moreT L V)).map prT) (moreT L V)).Perm B := by
  rw [leftT_more hN hp]
  refine List.Perm.trans ?_ hk
  rw [bfs, if_neg hL, List.append_assoc]
  refine List.Perm.append_left O ?_
  have e1 : (R.map prT).filter (fun r => L.contains r.2) = (R.filter fun t => L.contains t.2.1).map prT := by rw [List.filter_map]; rfl
  have e2 : (R.map prT).filter (fun r => !(L.contains r.2)) = (R.filter fun t => !(L.contains t.2.1)).map prT := by rw [List.filter_map]; rfl
  rw [e1, e2, List.map_map]
  have hm : (moreT L V).Perm ((R.filter fun t => L.contains t.2.1).map (Prod.fst ∘ prT)) := (hp.filter _).map _
  exact hm.append (bfs_perm k (List.Perm.refl _) hm)
theorem strs_app (a b : List (List UInt8)) : strs a ++ strs b = strs (a ++ b) := by simp [strs]
theorem flat_strs (l : List (List UInt8)) : flatD (strs l) = strs l := by
  induction l with
  | nil => rfl
  | cons x l ih => simp only [strs, List.map_cons, flatD, D.cells] at ih ⊢; rw [ih]; rfl
theorem elems_strs (l : List (List UInt8)) : elemsK 1 (strs l) = true := by
  induction l with
  | nil => rfl
  | cons x l ih => simp only [strs, List.map_cons, elemsK] at ih ⊢; rw [ih]; rfl
set_option maxHeartbeats 4000000 in
theorem inside_loop (R0 : List Tri) (clk : Nat) (part : List UInt8) (hN0 : (R0.map (·.1)).Nodup) (hB0 : (R0.map (·.2.2)).Nodup) (hlt0 : ∀ t ∈ R0, t.2.2 < clk) (hR0 : R0.length ≤ 12) (Q : Ex → St → Prop)
    (hQ : ∀ (O : List (List UInt8)) (R : List Tri) (X : D), O.Perm (bfs (R0.length + 2) (R0.map prT) [part]) → O.length ≤ 12 → Q (.exit 2) ⟨[.undef, .undef, .undef, .undef, .undef, .undef, .mp 0, .undef, .undef, .undef, .gs 0 O.length, X, .undef, .undef, .undef, .undef, .undef, .undef, .undef, .undef, .bool false, .undef, .undef, .undef, .undef, .undef, .undef, .undef], [], ⟨[.map (entT R) clk], [.chg 1 (strs O)]⟩⟩) :
    SWp (E62 0 0) (.loop (.seq (.seq (.reg r62_15) (.cond (.var 20) .skip (.exit 2))) (.block 3 (.seq (.reg r62_16) (.seq (.seq (.reg r62_17) (.block 4 (.loop (.seq (.reg r62_18) (.seq (.cond (.var 22) .skip (.exit 4)) (.block 5 (.seq (.reg r62_19) (.seq (.reg r62_20) (.cond (.var 23) (.reg r62_21) .skip))))))))) (.seq (.seq (.reg r62_22) (.block 6 (.loop (.seq (.reg r62_23) (.seq (.cond (.var 27) .skip (.exit 6)) (.seq (.block 7 (.seq (.reg r62_24) (.reg r62_25))) (.reg r62_26))))))) (.seq (.reg r62_27) (.reg r62_28)))))))) Q ⟨[.undef, .undef, .undef, .undef, .undef, .undef, .mp 0, .undef, .undef, .undef, .gs 0 0, .slice [.str part] .full, .undef, .undef, .undef, .undef, .undef, .undef, .undef, .undef, .undef, .undef, .undef, .undef, .undef, .undef, .undef, .undef], [], ⟨[.map (entT R0) clk], [.chg 1 []]⟩⟩ := by
  have hrs := rnL_strs
  refine swp_famG (C := E62 0 0) [6, 10, 11] 1 1 (Nat.zero_le 1) (Nat.zero_le 1) (fun p : List Tri × List (List UInt8) × List (List UInt8) × GoV.Own => ⟨[.undef, .undef, .undef, .undef, .undef, .undef, .mp 0, .undef, .undef, .undef, .gs 0 p.2.2.1.length, .slice (strs p.2.1) p.2.2.2, .undef, .undef, .undef, .undef, .undef, .undef, .undef, .undef, .undef, .undef, .undef, .undef, .undef, .undef, .undef, .undef], [], ⟨[.map (entT p.1) clk], [.chg 1 (strs p.2.2.1)]⟩⟩)
    (fun p => (p.1.map (·.1)).Nodup ∧ (p.1.map (·.2.2)).Nodup ∧ (∀ t ∈ p.1, t.2.2 < clk) ∧ p.1.length + p.2.2.1.length ≤ 12 ∧ p.2.1.length ≤ 13 ∧ (p.2.2.2 = .full ∨ p.2.2.2 = .no) ∧
      ∃ k, (p.1.length + 2 ≤ k ∨ p.2.1 = []) ∧ (p.2.2.1 ++ bfs k (p.1.map prT) p.2.1).Perm (bfs (R0.length + 2) (R0.map prT) [part]))
    (fun p => 2 * p.1.length + if p.2.1 = [] then 0 else 1) (R0, [part], [], .full) ⟨hN0, hB0, hlt0, by simpa using hR0, by simp, .inl rfl, R0.length + 2, .inl (Nat.le_refl _), List.Perm.refl _⟩ ?_ ?_
  · have hre := fun β τ => entT_rn β τ R0
    simp [keepE, St.keepG, St.keep, St.gc, Hp.cut, D.rnL, D.rn, cutF, Blk.rn, Blk.rnL, Tv.rn, Tv.rnL, Own.rn, pairs, hrs, hre, strs]
  · rintro ⟨R, L, O, ow⟩ ⟨hN, hB, hlt, hsz, hLl, how, k, hk, hb⟩
    simp only at hN hB hlt hsz hLl how hk hb ⊢
    have hll := strs_len L
    have hre := fun β τ => entT_rn β τ R
    by_cases hL : L = []
    · subst hL
      repeat' (first
    | with_reducible first | apply swp_seq | apply swp_reg | apply swp_regD | apply swp_block | apply swp_exit | apply swp_ret | apply swp_skip | apply swp_cd
    | simp only [go_sem, seval, P62, pe62, q62, hll, o_newM]
    | ((with_reducible apply s_appT); (case he => rfl); (case hK | hc | hr | hV => first | rfl | assumption | omega | ((first | refine ⟨?_, ?_⟩ | skip) <;> first | omega | (simp only [lN] <;> omega)) | (simp [elemsK, D.isVal, D.cells, D.closedL, D.closed]; first | done | omega)))
    | ((with_reducible apply s_appG); (case he => rfl); (case hV | hK | hr | hl => first | rfl | assumption | omega | ((first | refine ⟨?_, ?_⟩ | skip) <;> first | omega | (simp only [lN] <;> omega)) | (simp [elemsK, D.isVal, D.cells, D.closedL, D.closed]; first | done | omega)))
    | ((with_reducible apply s_app0); (case he => rfl); (case hK | hc | hr => first | rfl | assumption | omega | ((first | refine ⟨?_, ?_⟩ | skip) <;> first | omega | (simp only [lN] <;> omega)) | (simp [elemsK, D.isVal, D.cells, D.closedL, D.closed]; first | done | omega)))
    | ((with_reducible apply s_appF); (case he => rfl); (case hK | hc | hr | hx | hn => first | rfl | assumption | omega | ((first | refine ⟨?_, ?_⟩ | skip) <;> first | omega | (simp only [lN] <;> omega)) | (simp [elemsK, D.isVal, D.cells, D.closedL, D.closed]; first | done | omega)))
    | ((with_reducible apply s_bsl); (case he | hl | hc => first | rfl | assumption | omega | ((first | refine ⟨?_, ?_⟩ | skip) <;> first | omega | (simp only [lN] <;> omega)) | (simp [elemsK, D.isVal, D.cells, D.closedL, D.closed]; first | done | omega)))
    | ((with_reducible first | apply s_mpu | apply s_mdl); (case h1 | hk => rfl); (case ha | hp => first | rfl | assumption | omega | ((first | refine ⟨?_, ?_⟩ | skip) <;> first | omega | (simp only [lN] <;> omega)) | (simp [elemsK, D.isVal, D.cells, D.closedL, D.closed]; first | done | omega)))
    | ((with_reducible apply s_lkpS); (case h1 | hk => rfl); (case ha | hf => first | rfl | assumption | omega | ((first | refine ⟨?_, ?_⟩ | skip) <;> first | omega | (simp only [lN] <;> omega)) | (simp [elemsK, D.isVal, D.cells, D.closedL, D.closed]; first | done | omega)))
    | ((with_reducible apply s_lkpN); (case h1 | hk => rfl); (case hf | ha => first | rfl | assumption | omega | ((first | refine ⟨?_, ?_⟩ | skip) <;> first | omega | (simp only [lN] <;> omega)) | (simp [elemsK, D.isVal, D.cells, D.closedL, D.closed]; first | done | omega)))
    | ((with_reducible apply s_rngM); (case h1 => rfl))
    | with_reducible first | apply cd_dec | apply cd_eq | apply cd_ne | apply cd_split
    | ((with_reducible refine And.intro ?hw ?_); (case hw => first | omega | rfl | exact ⟨_, _, rfl⟩ | assumption | (simp only [lN] <;> omega)))
    | with_reducible intro _)
      all_goals try omega
      have e0 : bfs k (R.map prT) [] = [] := by cases k <;> rfl
      rw [e0, List.append_nil] at hb
      refine hQ O R _ hb (by omega)
    · have hpos : 0 < L.length := List.length_pos_iff.2 hL
      have hgt : ((L.length : Int) > 0) = True := eq_true (by omega)
      repeat' (first
    | with_reducible first | apply swp_seq | apply swp_reg | apply swp_regD | apply swp_block | apply swp_exit | apply swp_ret | apply swp_skip | apply swp_cd
    | simp only [go_sem, seval, P62, pe62, q62, hll, o_newM]
    | ((with_reducible apply s_appT); (case he => rfl); (case hK | hc | hr | hV => first | rfl | assumption | omega | ((first | refine ⟨?_, ?_⟩ | skip) <;> first | omega | (simp only [lN] <;> omega)) | (simp [elemsK, D.isVal, D.cells, D.closedL, D.closed]; first | done | omega)))
    | ((with_reducible apply s_appG); (case he => rfl); (case hV | hK | hr | hl => first | rfl | assumption | omega | ((first | refine ⟨?_, ?_⟩ | skip) <;> first | omega | (simp only [lN] <;> omega)) | (simp [elemsK, D.isVal, D.cells, D.closedL, D.closed]; first | done | omega)))
    | ((with_reducible apply s_app0); (case he => rfl); (case hK | hc | hr => first | rfl | assumption | omega | ((first | refine ⟨?_, ?_⟩ | skip) <;> first | omega | (simp only [lN] <;> omega)) | (simp [elemsK, D.isVal, D.cells, D.closedL, D.closed]; first | done | omega)))
    | ((with_reducible apply s_appF); (case he => rfl); (case hK | hc | hr | hx | hn => first | rfl | assumption | omega | ((first | refine ⟨?_, ?_⟩ | skip) <;> first | omega | (simp only [lN] <;> omega)) | (simp [elemsK, D.isVal, D.cells, D.closedL, D.closed]; first | done | omega)))
    | ((with_reducible apply s_bsl); (case he | hl | hc => first | rfl | assumption | omega | ((first | refine ⟨?_, ?_⟩ | skip) <;> first | omega | (simp only [lN] <;> omega)) | (simp [elemsK, D.isVal, D.cells, D.closedL, D.closed]; first | done | omega)))
    | ((with_reducible first | apply s_mpu | apply s_mdl); (case h1 | hk => rfl); (case ha | hp => first | rfl | assumption | omega | ((first | refine ⟨?_, ?_⟩ | skip) <;> first | omega | (simp only [lN] <;> omega)) | (simp [elemsK, D.isVal, D.cells, D.closedL, D.closed]; first | done | omega)))
    | ((with_reducible apply s_lkpS); (case h1 | hk => rfl); (case ha | hf => first | rfl | assumption | omega | ((first | refine ⟨?_, ?_⟩ | skip) <;> first | omega | (simp only [lN] <;> omega)) | (simp [elemsK, D.isVal, D.cells, D.closedL, D.closed]; first | done | omega)))
    | ((with_reducible apply s_lkpN); (case h1 | hk => rfl); (case hf | ha => first | rfl | assumption | omega | ((first | refine ⟨?_, ?_⟩ | skip) <;> first | omega | (simp only [lN] <;> omega)) | (simp [elemsK, D.isVal, D.cells, D.closedL, D.closed]; first | done | omega)))
    | ((with_reducible apply s_rngM); (case h1 => rfl))
    | with_reducible first | apply cd_dec | apply cd_eq | apply cd_ne | apply cd_split
    | ((with_reducible refine And.intro ?hw ?_); (case hw => first | omega | rfl | exact ⟨_, _, rfl⟩ | assumption | (simp only [lN] <;> omega)))
    | with_reducible intro _)
      all_goals try omega
      refine swp_weak (weak_trans (weak_keep [6, 10, 11, 12, 21]) (weak_new 12 1 (by decide) false rfl)) ?_
      simp only [keepE, List.set_cons_succ, List.set_cons_zero, List.length_cons, List.length_nil, List.nil_append, List.cons_append, Nat.zero_add, Bool.false_eq_true, if_false]
      simp
      refine swp_fam (C := E62 0 0) [6, 10, 11, 12, 21] (fun V : List Tri => ⟨[.undef, .undef, .undef, .undef, .undef, .undef, .mp 0, .undef, .undef, .undef, .gs 0 O.length, .slice (strs L) ow, .slice (strs (moreT L V)) (.tok 1), .undef, .undef, .undef, .undef, .undef, .undef, .undef, .undef, .ptr 1 0, .undef, .undef, .undef, .undef, .undef, .undef], [], ⟨[.map (entT R) clk, .miter 0 clk (V.map (·.2.2)) clk], [.chg 1 (strs O), .per 1 (moreT L V).length]⟩⟩)
        (fun V => (V.map (·.2.2)).Nodup ∧ ∀ t ∈ V, t ∈ R) (fun V => R.length + 1 - V.length) [] ⟨by simp, by simp⟩ ?_ ?_
      · simp [keepE, St.keep, moreT, strs]
      · rintro V ⟨g1, g2⟩
        have hml := moreT_le L V
        have hsl := strs_len (moreT L V)
        have hVl : V.length ≤ R.length := by
          have h1 := nodup_len clk (V.map (·.2.2)) g1 (fun i hi => by
            obtain ⟨t, ht, rfl⟩ := List.mem_map.1 hi
            exact hlt t (g2 t ht))
          exact vis_len hB g1 g2
        repeat' (first
    | with_reducible first | apply swp_seq | apply swp_reg | apply swp_regD | apply swp_block | apply swp_exit | apply swp_ret | apply swp_skip | apply swp_cd
    | simp only [go_sem, seval, P62, pe62, q62, o_newM]
    | ((with_reducible apply s_appT); (case he => rfl); (case hK | hc | hr | hV => first | rfl | assumption | omega | ((first | refine ⟨?_, ?_⟩ | skip) <;> first | omega | (simp only [lN] <;> omega)) | (simp [elemsK, D.isVal, D.cells, D.closedL, D.closed]; first | done | omega)))
    | ((with_reducible apply s_appG); (case he => rfl); (case hV | hK | hr | hl => first | rfl | assumption | omega | ((first | refine ⟨?_, ?_⟩ | skip) <;> first | omega | (simp only [lN] <;> omega)) | (simp [elemsK, D.isVal, D.cells, D.closedL, D.closed]; first | done | omega)))
    | ((with_reducible apply s_app0); (case he => rfl); (case hK | hc | hr => first | rfl | assumption | omega | ((first | refine ⟨?_, ?_⟩ | skip) <;> first | omega | (simp only [lN] <;> omega)) | (simp [elemsK, D.isVal, D.cells, D.closedL, D.closed]; first | done | omega)))
    | ((with_reducible apply s_appF); (case he => rfl); (case hK | hc | hr | hx | hn => first | rfl | assumption | omega | ((first | refine ⟨?_, ?_⟩ | skip) <;> first | omega | (simp only [lN] <;> omega)) | (simp [elemsK, D.isVal, D.cells, D.closedL, D.closed]; first | done | omega)))
    | ((with_reducible apply s_bsl); (case he | hl | hc => first | rfl | assumption | omega | ((first | refine ⟨?_, ?_⟩ | skip) <;> first | omega | (simp only [lN] <;> omega)) | (simp [elemsK, D.isVal, D.cells, D.closedL, D.closed]; first | done | omega)))
    | ((with_reducible first | apply s_mpu | apply s_mdl); (case h1 | hk => rfl); (case ha | hp => first | rfl | assumption | omega | ((first | refine ⟨?_, ?_⟩ | skip) <;> first | omega | (simp only [lN] <;> omega)) | (simp [elemsK, D.isVal, D.cells, D.closedL, D.closed]; first | done | omega)))
    | ((with_reducible apply s_lkpS); (case h1 | hk => rfl); (case ha | hf => first | rfl | assumption | omega | ((first | refine ⟨?_, ?_⟩ | skip) <;> first | omega | (simp only [lN] <;> omega)) | (simp [elemsK, D.isVal, D.cells, D.closedL, D.closed]; first | done | omega)))
    | ((with_reducible apply s_lkpN); (case h1 | hk => rfl); (case hf | ha => first | rfl | assumption | omega | ((first | refine ⟨?_, ?_⟩ | skip) <;> first | omega | (simp only [lN] <;> omega)) | (simp [elemsK, D.isVal, D.cells, D.closedL, D.closed]; first | done | omega)))
    | ((with_reducible apply s_rngM); (case h1 => rfl))
    | with_reducible first | apply cd_dec | apply cd_eq | apply cd_ne | apply cd_split
    | ((with_reducible refine And.intro ?hw ?_); (case hw => first | omega | rfl | exact ⟨_, _, rfl⟩ | assumption | (simp only [lN] <;> omega)))
    | with_reducible intro _)
        refine s_nxtM rfl rfl (fun e he => ?_) (Nat.le_refl _) (fun e he hn => ?_) (fun hall => ?_)
        · obtain ⟨t, ht, rfl⟩ := entT_mem he
          exact hlt t ht
        · obtain ⟨t, ht, rfl⟩ := entT_mem he
          simp only at hn ⊢
          have hnd : ((entT R).map (·.2.2)).Nodup := by rw [entT_born]; exact hB
          have hmem := entT_mem' ht
          have g1' : ((V ++ [t]).map (·.2.2)).Nodup := by
            rw [List.map_append, List.nodup_append]
            exact ⟨g1, by simp, fun a ha b hb e => by simp at hb; subst hb; subst e; exact hn ha⟩
          have g2' : ∀ u ∈ V ++ [t], u ∈ R := fun u hu => by
            rcases List.mem_append.1 hu with q | q
            · exact g2 u q
            · simp at q; subst q; exact ht
          have hVl' := vis_len hB g1' g2'
          have hma := moreT_app L V t
          have c1 := contains66 L t.2.1 (by omega)
          have hcl := cl_strs L
          have her := er_strs L
          have hcm := cl_strs (moreT L V)
          repeat' (first
    | with_reducible first | apply swp_seq | apply swp_reg | apply swp_regD | apply swp_block | apply swp_exit | apply swp_ret | apply swp_skip | apply swp_cd
    | simp only [go_sem, seval, P62, pe62, q62, o_newM]
    | ((with_reducible apply s_appT); (case he => rfl); (case hK | hc | hr | hV => first | rfl | assumption | omega | ((first | refine ⟨?_, ?_⟩ | skip) <;> first | omega | (simp only [lN] <;> omega)) | (simp [elemsK, D.isVal, D.cells, D.closedL, D.closed]; first | done | omega)))
    | ((with_reducible apply s_appG); (case he => rfl); (case hV | hK | hr | hl => first | rfl | assumption | omega | ((first | refine ⟨?_, ?_⟩ | skip) <;> first | omega | (simp only [lN] <;> omega)) | (simp [elemsK, D.isVal, D.cells, D.closedL, D.closed]; first | done | omega)))
    | ((with_reducible apply s_app0); (case he => rfl); (case hK | hc | hr => first | rfl | assumption | omega | ((first | refine ⟨?_, ?_⟩ | skip) <;> first | omega | (simp only [lN] <;> omega)) | (simp [elemsK, D.isVal, D.cells, D.closedL, D.closed]; first | done | omega)))
    | ((with_reducible apply s_appF); (case he => rfl); (case hK | hc | hr | hx | hn => first | rfl | assumption | omega | ((first | refine ⟨?_, ?_⟩ | skip) <;> first | omega | (simp only [lN] <;> omega)) | (simp [elemsK, D.isVal, D.cells, D.closedL, D.closed]; first | done | omega)))
    | ((with_reducible apply s_bsl); (case he | hl | hc => first | rfl | assumption | omega | ((first | refine ⟨?_, ?_⟩ | skip) <;> first | omega | (simp only [lN] <;> omega)) | (simp [elemsK, D.isVal, D.cells, D.closedL, D.closed]; first | done | omega)))
    | ((with_reducible first | apply s_mpu | apply s_mdl); (case h1 | hk => rfl); (case ha | hp => first | rfl | assumption | omega | ((first | refine ⟨?_, ?_⟩ | skip) <;> first | omega | (simp only [lN] <;> omega)) | (simp [elemsK, D.isVal, D.cells, D.closedL, D.closed]; first | done | omega)))
    | ((with_reducible apply s_lkpS); (case h1 | hk => rfl); (case ha | hf => first | rfl | assumption | omega | ((first | refine ⟨?_, ?_⟩ | skip) <;> first | omega | (simp only [lN] <;> omega)) | (simp [elemsK, D.isVal, D.cells, D.closedL, D.closed]; first | done | omega)))
    | ((with_reducible apply s_lkpN); (case h1 | hk => rfl); (case hf | ha => first | rfl | assumption | omega | ((first | refine ⟨?_, ?_⟩ | skip) <;> first | omega | (simp only [lN] <;> omega)) | (simp [elemsK, D.isVal, D.cells, D.closedL, D.closed]; first | done | omega)))
    | ((with_reducible apply s_rngM); (case h1 => rfl))
    | with_reducible first | apply cd_dec | apply cd_eq | apply cd_ne | apply cd_split
    | ((with_reducible refine And.intro ?hw ?_); (case hw => first | omega | rfl | exact ⟨_, _, rfl⟩ | assumption | (simp only [lN] <;> omega)))
    | with_reducible intro _)
          refine s_ent rfl rfl hnd hmem ?_
          cases hin : L.contains t.2.1
          · rw [hin] at hma c1
            simp only [Bool.false_eq_true, if_false, List.append_nil] at hma
            repeat' (first
    | with_reducible first | apply swp_seq | apply swp_reg | apply swp_regD | apply swp_block | apply swp_exit | apply swp_ret | apply swp_skip | apply swp_cd
    | simp only [go_sem, seval, P62, pe62, q62, o_newM]
    | ((with_reducible refine o_call (c1) ?he ?hc ?_); (case he | hc => first | rfl | (simp [D.erL, D.er, D.closedL, D.closed, hcl, her]; done)))
    | ((with_reducible apply s_appT); (case he => rfl); (case hK | hc | hr | hV => first | rfl | assumption | omega | ((first | refine ⟨?_, ?_⟩ | skip) <;> first | omega | (simp only [lN, hcl, her] <;> omega)) | (simp [elemsK, D.isVal, D.cells, D.closedL, D.closed, hcl, her]; first | done | omega)))
    | ((with_reducible apply s_appG); (case he => rfl); (case hV | hK | hr | hl => first | rfl | assumption | omega | ((first | refine ⟨?_, ?_⟩ | skip) <;> first | omega | (simp only [lN, hcl, her] <;> omega)) | (simp [elemsK, D.isVal, D.cells, D.closedL, D.closed, hcl, her]; first | done | omega)))
    | ((with_reducible apply s_app0); (case he => rfl); (case hK | hc | hr => first | rfl | assumption | omega | ((first | refine ⟨?_, ?_⟩ | skip) <;> first | omega | (simp only [lN, hcl, her] <;> omega)) | (simp [elemsK, D.isVal, D.cells, D.closedL, D.closed, hcl, her]; first | done | omega)))
    | ((with_reducible apply s_appF); (case he => rfl); (case hK | hc | hr | hx | hn => first | rfl | assumption | omega | ((first | refine ⟨?_, ?_⟩ | skip) <;> first | omega | (simp only [lN, hcl, her] <;> omega)) | (simp [elemsK, D.isVal, D.cells, D.closedL, D.closed, hcl, her]; first | done | omega)))
    | ((with_reducible apply s_bsl); (case he | hl | hc => first | rfl | assumption | omega | ((first | refine ⟨?_, ?_⟩ | skip) <;> first | omega | (simp only [lN, hcl, her] <;> omega)) | (simp [elemsK, D.isVal, D.cells, D.closedL, D.closed, hcl, her]; first | done | omega)))
    | ((with_reducible first | apply s_mpu | apply s_mdl); (case h1 | hk => rfl); (case ha | hp => first | rfl | assumption | omega | ((first | refine ⟨?_, ?_⟩ | skip) <;> first | omega | (simp only [lN, hcl, her] <;> omega)) | (simp [elemsK, D.isVal, D.cells, D.closedL, D.closed, hcl, her]; first | done | omega)))
    | ((with_reducible apply s_lkpS); (case h1 | hk => rfl); (case ha | hf => first | rfl | assumption | omega | ((first | refine ⟨?_, ?_⟩ | skip) <;> first | omega | (simp only [lN, hcl, her] <;> omega)) | (simp [elemsK, D.isVal, D.cells, D.closedL, D.closed, hcl, her]; first | done | omega)))
    | ((with_reducible apply s_lkpN); (case h1 | hk => rfl); (case hf | ha => first | rfl | assumption | omega | ((first | refine ⟨?_, ?_⟩ | skip) <;> first | omega | (simp only [lN, hcl, her] <;> omega)) | (simp [elemsK, D.isVal, D.cells, D.closedL, D.closed, hcl, her]; first | done | omega)))
    | ((with_reducible apply s_rngM); (case h1 => rfl))
    | with_reducible first | apply cd_dec | apply cd_eq | apply cd_ne | apply cd_split
    | ((with_reducible refine And.intro ?hw ?_); (case hw => first | omega | rfl | exact ⟨_, _, rfl⟩ | assumption | (simp only [lN, hcl, her] <;> omega)))
    | with_reducible intro _)
            all_goals refine ⟨V ++ [t], ⟨g1', g2'⟩, by simp at hVl' ⊢; omega, ?_⟩
            all_goals simp [keepE, St.keep, hma]
          · rw [hin] at hma c1
            simp only [if_true] at hma
            repeat' (first
    | with_reducible first | apply swp_seq | apply swp_reg | apply swp_regD | apply swp_block | apply swp_exit | apply swp_ret | apply swp_skip | apply swp_cd
    | simp only [go_sem, seval, P62, pe62, q62, o_newM]
    | ((with_reducible refine o_call (c1) ?he ?hc ?_); (case he | hc => first | rfl | (simp [D.erL, D.er, D.closedL, D.closed, hcl, her, hsl, roomOk, hml]; done)))
    | ((with_reducible apply s_appT); (case he => rfl); (case hK | hc | hr | hV => first | rfl | assumption | omega | ((first | refine ⟨?_, ?_⟩ | skip) <;> first | omega | (simp only [lN, hcl, her, hsl, roomOk, hml] <;> omega)) | (simp [elemsK, D.isVal, D.cells, D.closedL, D.closed, hcl, her, hsl, roomOk, hml]; first | done | omega)))
    | ((with_reducible apply s_appG); (case he => rfl); (case hV | hK | hr | hl => first | rfl | assumption | omega | ((first | refine ⟨?_, ?_⟩ | skip) <;> first | omega | (simp only [lN, hcl, her, hsl, roomOk, hml] <;> omega)) | (simp [elemsK, D.isVal, D.cells, D.closedL, D.closed, hcl, her, hsl, roomOk, hml]; first | done | omega)))
    | ((with_reducible apply s_app0); (case he => rfl); (case hK | hc | hr => first | rfl | assumption | omega | ((first | refine ⟨?_, ?_⟩ | skip) <;> first | omega | (simp only [lN, hcl, her, hsl, roomOk, hml] <;> omega)) | (simp [elemsK, D.isVal, D.cells, D.closedL, D.closed, hcl, her, hsl, roomOk, hml]; first | done | omega)))
    | ((with_reducible apply s_appF); (case he => rfl); (case hK | hc | hr | hx | hn => first | rfl | assumption | omega | ((first | refine ⟨?_, ?_⟩ | skip) <;> first | omega | (simp only [lN, hcl, her, hsl, roomOk, hml] <;> omega)) | (simp [elemsK, D.isVal, D.cells, D.closedL, D.closed, hcl, her, hsl, roomOk, hml]; first | done | omega)))
    | ((with_reducible apply s_bsl); (case he | hl | hc => first | rfl | assumption | omega | ((first | refine ⟨?_, ?_⟩ | skip) <;> first | omega | (simp only [lN, hcl, her, hsl, roomOk, hml] <;> omega)) | (simp [elemsK, D.isVal, D.cells, D.closedL, D.closed, hcl, her, hsl, roomOk, hml]; first | done | omega)))
    | ((with_reducible first | apply s_mpu | apply s_mdl); (case h1 | hk => rfl); (case ha | hp => first | rfl | assumption | omega | ((first | refine ⟨?_, ?_⟩ | skip) <;> first | omega | (simp only [lN, hcl, her, hsl, roomOk, hml] <;> omega)) | (simp [elemsK, D.isVal, D.cells, D.closedL, D.closed, hcl, her, hsl, roomOk, hml]; first | done | omega)))
    | ((with_reducible apply s_lkpS); (case h1 | hk => rfl); (case ha | hf => first | rfl | assumption | omega | ((first | refine ⟨?_, ?_⟩ | skip) <;> first | omega | (simp only [lN, hcl, her, hsl, roomOk, hml] <;> omega)) | (simp [elemsK, D.isVal, D.cells, D.closedL, D.closed, hcl, her, hsl, roomOk, hml]; first | done | omega)))
    | ((with_reducible apply s_lkpN); (case h1 | hk => rfl); (case hf | ha => first | rfl | assumption | omega | ((first | refine ⟨?_, ?_⟩ | skip) <;> first | omega | (simp only [lN, hcl, her, hsl, roomOk, hml] <;> omega)) | (simp [elemsK, D.isVal, D.cells, D.closedL, D.closed, hcl, her, hsl, roomOk, hml]; first | done | omega)))
    | ((with_reducible apply s_rngM); (case h1 => rfl))
    | with_reducible first | apply cd_dec | apply cd_eq | apply cd_ne | apply cd_split
    | ((with_reducible refine And.intro ?hw ?_); (case hw => first | omega | rfl | exact ⟨_, _, rfl⟩ | assumption | (simp only [lN, hcl, her, hsl, roomOk, hml] <;> omega)))
    | with_reducible intro _)
            all_goals refine ⟨V ++ [t], ⟨g1', g2'⟩, by simp at hVl' ⊢; omega, ?_⟩
            all_goals simp [keepE, St.keep, hma, strs]
        · have hp := vis_perm hB g1 g2 (fun t ht => hall _ (entT_mem' ht))
          obtain ⟨k', rfl⟩ : ∃ k', k = k' + 1 := by
            rcases hk with h1 | h1
            · exact ⟨k - 1, by omega⟩
            · exact absurd h1 hL
          have hb' := bfs_step hN hp hL hb
          have hm0 : moreT L V = [] → leftT R (moreT L V) = R := fun e => by rw [e]; simp [leftT]
          have hmle : (leftT R (moreT L V)).length + (moreT L V).length = R.length := by
            rw [leftT_more hN hp]
            have h1 := filt_len (fun t : Tri => L.contains t.2.1) R
            have h2 : (moreT L V).length = (R.filter fun t => L.contains t.2.1).length := by
              simp only [moreT, List.length_map]
              exact (hp.filter _).length_eq
            omega
          have hcl := cl_strs (moreT L V)
          have her := er_strs (moreT L V)
          generalize hmV : moreT L V = m at *
          have hmg : ∀ j (h : j < m.length), (strs m).getD j .undef = .str (m[j]) := fun j h => by simp [strs, List.getD, h]
          repeat' (first
    | with_reducible first | apply swp_seq | apply swp_reg | apply swp_regD | apply swp_block | apply swp_exit | apply swp_ret | apply swp_skip | apply swp_cd
    | simp only [go_sem, seval, P62, pe62, q62, hsl, o_newM]
    | ((with_reducible apply s_appT); (case he => rfl); (case hK | hc | hr | hV => first | rfl | assumption | omega | ((first | refine ⟨?_, ?_⟩ | skip) <;> first | omega | (simp only [lN] <;> omega)) | (simp [elemsK, D.isVal, D.cells, D.closedL, D.closed]; first | done | omega)))
    | ((with_reducible apply s_appG); (case he => rfl); (case hV | hK | hr | hl => first | rfl | assumption | omega | ((first | refine ⟨?_, ?_⟩ | skip) <;> first | omega | (simp only [lN] <;> omega)) | (simp [elemsK, D.isVal, D.cells, D.closedL, D.closed]; first | done | omega)))
    | ((with_reducible apply s_app0); (case he => rfl); (case hK | hc | hr => first | rfl | assumption | omega | ((first | refine ⟨?_, ?_⟩ | skip) <;> first | omega | (simp only [lN] <;> omega)) | (simp [elemsK, D.isVal, D.cells, D.closedL, D.closed]; first | done | omega)))
    | ((with_reducible apply s_appF); (case he => rfl); (case hK | hc | hr | hx | hn => first | rfl | assumption | omega | ((first | refine ⟨?_, ?_⟩ | skip) <;> first | omega | (simp only [lN] <;> omega)) | (simp [elemsK, D.isVal, D.cells, D.closedL, D.closed]; first | done | omega)))
    | ((with_reducible apply s_bsl); (case he | hl | hc => first | rfl | assumption | omega | ((first | refine ⟨?_, ?_⟩ | skip) <;> first | omega | (simp only [lN] <;> omega)) | (simp [elemsK, D.isVal, D.cells, D.closedL, D.closed]; first | done | omega)))
    | ((with_reducible first | apply s_mpu | apply s_mdl); (case h1 | hk => rfl); (case ha | hp => first | rfl | assumption | omega | ((first | refine ⟨?_, ?_⟩ | skip) <;> first | omega | (simp only [lN] <;> omega)) | (simp [elemsK, D.isVal, D.cells, D.closedL, D.closed]; first | done | omega)))
    | ((with_reducible apply s_lkpS); (case h1 | hk => rfl); (case ha | hf => first | rfl | assumption | omega | ((first | refine ⟨?_, ?_⟩ | skip) <;> first | omega | (simp only [lN] <;> omega)) | (simp [elemsK, D.isVal, D.cells, D.closedL, D.closed]; first | done | omega)))
    | ((with_reducible apply s_lkpN); (case h1 | hk => rfl); (case hf | ha => first | rfl | assumption | omega | ((first | refine ⟨?_, ?_⟩ | skip) <;> first | omega | (simp only [lN] <;> omega)) | (simp [elemsK, D.isVal, D.cells, D.closedL, D.closed]; first | done | omega)))
    | ((with_reducible apply s_rngM); (case h1 => rfl))
    | with_reducible first | apply cd_dec | apply cd_eq | apply cd_ne | apply cd_split
    | ((with_reducible refine And.intro ?hw ?_); (case hw => first | omega | rfl | exact ⟨_, _, rfl⟩ | assumption | (simp only [lN] <;> omega)))
    | with_reducible intro _)
          refine swp_famG (C := E62 0 0) [6, 10, 12, 24, 25, 26] 1 2 (Nat.zero_le 1) (Nat.zero_le 2) (fun j : Nat => ⟨[.undef, .undef, .undef, .undef, .undef, .undef, .mp 0, .undef, .undef, .undef, .gs 0 O.length, .undef, .slice (strs m) (.tok 1), .undef, .undef, .undef, .undef, .undef, .undef, .undef, .undef, .undef, .undef, .undef, .slice (strs m) (.tok 1), .int .i64 m.length, .int .i64 j, .undef], [], ⟨[.map (entT (leftT R (m.take j))) clk], [.chg 1 (strs O), .per 1 m.length]⟩⟩)
            (fun j => j ≤ m.length) (fun j => m.length - j) 0 (by omega) ?_ ?_
          · have e0 : leftT R [] = R := by simp [leftT]
            simp [keepE, St.keepG, St.keep, St.gc, Hp.cut, D.rnL, D.rn, cutF, Blk.rn, Blk.rnL, Tv.rn, Tv.rnL, Own.rn, pairs, hrs, hre, e0]
          · intro j hj
            have hN2 : ((leftT R (m.take j)).map (·.1)).Nodup := List.Sublist.nodup (leftT_sub R _) hN
            have hok3 := entT_ok (leftT R (m.take j))
            by_cases hjm : j < m.length
            · have hg := hmg j hjm
              have hdel := entT_del (k := m[j]) (c := clk) hN2
              have hst := leftT_step (R := R) hjm
              have hre3 := fun β τ => entT_rn β τ (leftT R (m.take (j + 1)))
              rw [← hst] at hdel
              repeat' (first
    | with_reducible first | apply swp_seq | apply swp_reg | apply swp_regD | apply swp_block | apply swp_exit | apply swp_ret | apply swp_skip | apply swp_cd
    | simp only [go_sem, seval, P62, pe62, q62, hsl, hg, o_newM]
    | simp (disch := omega) only [w64, w32, wu8, wu16, wu32, wu64]
    | ((with_reducible apply s_appT); (case he => rfl); (case hK | hc | hr | hV => first | rfl | assumption | omega | ((first | refine ⟨?_, ?_⟩ | skip) <;> first | omega | (simp only [lN, hsl, hg, hok3] <;> omega)) | (simp [elemsK, D.isVal, D.cells, D.closedL, D.closed, hsl, hg, hok3]; first | done | omega)))
    | ((with_reducible apply s_appG); (case he => rfl); (case hV | hK | hr | hl => first | rfl | assumption | omega | ((first | refine ⟨?_, ?_⟩ | skip) <;> first | omega | (simp only [lN, hsl, hg, hok3] <;> omega)) | (simp [elemsK, D.isVal, D.cells, D.closedL, D.closed, hsl, hg, hok3]; first | done | omega)))
    | ((with_reducible apply s_app0); (case he => rfl); (case hK | hc | hr => first | rfl | assumption | omega | ((first | refine ⟨?_, ?_⟩ | skip) <;> first | omega | (simp only [lN, hsl, hg, hok3] <;> omega)) | (simp [elemsK, D.isVal, D.cells, D.closedL, D.closed, hsl, hg, hok3]; first | done | omega)))
    | ((with_reducible apply s_appF); (case he => rfl); (case hK | hc | hr | hx | hn => first | rfl | assumption | omega | ((first | refine ⟨?_, ?_⟩ | skip) <;> first | omega | (simp only [lN, hsl, hg, hok3] <;> omega)) | (simp [elemsK, D.isVal, D.cells, D.closedL, D.closed, hsl, hg, hok3]; first | done | omega)))
    | ((with_reducible apply s_bsl); (case he | hl | hc => first | rfl | assumption | omega | ((first | refine ⟨?_, ?_⟩ | skip) <;> first | omega | (simp only [lN, hsl, hg, hok3] <;> omega)) | (simp [elemsK, D.isVal, D.cells, D.closedL, D.closed, hsl, hg, hok3]; first | done | omega)))
    | ((with_reducible first | apply s_mpu | apply s_mdl); (case h1 | hk => rfl); (case ha | hp => first | rfl | assumption | omega | ((first | refine ⟨?_, ?_⟩ | skip) <;> first | omega | (simp only [lN, hsl, hg, hok3] <;> omega)) | (simp [elemsK, D.isVal, D.cells, D.closedL, D.closed, hsl, hg, hok3]; first | done | omega)))
    | ((with_reducible apply s_lkpS); (case h1 | hk => rfl); (case ha | hf => first | rfl | assumption | omega | ((first | refine ⟨?_, ?_⟩ | skip) <;> first | omega | (simp only [lN, hsl, hg, hok3] <;> omega)) | (simp [elemsK, D.isVal, D.cells, D.closedL, D.closed, hsl, hg, hok3]; first | done | omega)))
    | ((with_reducible apply s_lkpN); (case h1 | hk => rfl); (case hf | ha => first | rfl | assumption | omega | ((first | refine ⟨?_, ?_⟩ | skip) <;> first | omega | (simp only [lN, hsl, hg, hok3] <;> omega)) | (simp [elemsK, D.isVal, D.cells, D.closedL, D.closed, hsl, hg, hok3]; first | done | omega)))
    | ((with_reducible apply s_rngM); (case h1 => rfl))
    | with_reducible first | apply cd_dec | apply cd_eq | apply cd_ne | apply cd_split
    | ((with_reducible refine And.intro ?hw ?_); (case hw => first | omega | rfl | exact ⟨_, _, rfl⟩ | assumption | (simp only [lN, hsl, hg, hok3] <;> omega)))
    | with_reducible intro _)
              all_goals try omega
              all_goals refine ⟨j + 1, by omega, by omega, ?_⟩
              all_goals simp [keepE, St.keepG, St.keep, St.gc, Hp.cut, D.rnL, D.rn, cutF, Blk.rn, Blk.rnL, Tv.rn, Tv.rnL, Own.rn, pairs, hrs, hre, hdel, hre3]
            · have hjm' : j = m.length := by omega
              subst hjm'
              rw [List.take_length] at hok3 hN2 ⊢
              have hfl := flat_strs m
              have hel := elems_strs m
              have hso := strs_len O
              repeat' (first
    | with_reducible first | apply swp_seq | apply swp_reg | apply swp_regD | apply swp_block | apply swp_exit | apply swp_ret | apply swp_skip | apply swp_cd
    | simp only [go_sem, seval, P62, pe62, q62, hsl, hfl, o_newM]
    | simp (disch := omega) only [w64, w32, wu8, wu16, wu32, wu64]
    | ((with_reducible apply s_appT); (case he => rfl); (case hK | hc | hr | hV => first | rfl | assumption | omega | ((first | refine ⟨?_, ?_⟩ | skip) <;> first | omega | (simp only [lN, hsl, hel, hso, roomOk] <;> omega)) | (simp [elemsK, D.isVal, D.cells, D.closedL, D.closed, hsl, hel, hso, roomOk]; first | done | omega)))
    | ((with_reducible apply s_appG); (case he => rfl); (case hV | hK | hr | hl => first | rfl | assumption | omega | ((first | refine ⟨?_, ?_⟩ | skip) <;> first | omega | (simp only [lN, hsl, hel, hso, roomOk] <;> omega)) | (simp [elemsK, D.isVal, D.cells, D.closedL, D.closed, hsl, hel, hso, roomOk]; first | done | omega)))
    | ((with_reducible apply s_app0); (case he => rfl); (case hK | hc | hr => first | rfl | assumption | omega | ((first | refine ⟨?_, ?_⟩ | skip) <;> first | omega | (simp only [lN, hsl, hel, hso, roomOk] <;> omega)) | (simp [elemsK, D.isVal, D.cells, D.closedL, D.closed, hsl, hel, hso, roomOk]; first | done | omega)))
    | ((with_reducible apply s_appF); (case he => rfl); (case hK | hc | hr | hx | hn => first | rfl | assumption | omega | ((first | refine ⟨?_, ?_⟩ | skip) <;> first | omega | (simp only [lN, hsl, hel, hso, roomOk] <;> omega)) | (simp [elemsK, D.isVal, D.cells, D.closedL, D.closed, hsl, hel, hso, roomOk]; first | done | omega)))
    | ((with_reducible apply s_bsl); (case he | hl | hc => first | rfl | assumption | omega | ((first | refine ⟨?_, ?_⟩ | skip) <;> first | omega | (simp only [lN, hsl, hel, hso, roomOk] <;> omega)) | (simp [elemsK, D.isVal, D.cells, D.closedL, D.closed, hsl, hel, hso, roomOk]; first | done | omega)))
    | ((with_reducible first | apply s_mpu | apply s_mdl); (case h1 | hk => rfl); (case ha | hp => first | rfl | assumption | omega | ((first | refine ⟨?_, ?_⟩ | skip) <;> first | omega | (simp only [lN, hsl, hel, hso, roomOk] <;> omega)) | (simp [elemsK, D.isVal, D.cells, D.closedL, D.closed, hsl, hel, hso, roomOk]; first | done | omega)))
    | ((with_reducible apply s_lkpS); (case h1 | hk => rfl); (case ha | hf => first | rfl | assumption | omega | ((first | refine ⟨?_, ?_⟩ | skip) <;> first | omega | (simp only [lN, hsl, hel, hso, roomOk] <;> omega)) | (simp [elemsK, D.isVal, D.cells, D.closedL, D.closed, hsl, hel, hso, roomOk]; first | done | omega)))
    | ((with_reducible apply s_lkpN); (case h1 | hk => rfl); (case hf | ha => first | rfl | assumption | omega | ((first | refine ⟨?_, ?_⟩ | skip) <;> first | omega | (simp only [lN, hsl, hel, hso, roomOk] <;> omega)) | (simp [elemsK, D.isVal, D.cells, D.closedL, D.closed, hsl, hel, hso, roomOk]; first | done | omega)))
    | ((with_reducible apply s_rngM); (case h1 => rfl))
    | with_reducible first | apply cd_dec | apply cd_eq | apply cd_ne | apply cd_split
    | ((with_reducible refine And.intro ?hw ?_); (case hw => first | omega | rfl | exact ⟨_, _, rfl⟩ | assumption | (simp only [lN, hsl, hel, hso, roomOk] <;> omega)))
    | with_reducible intro _)
              all_goals try omega
              have hB2 : ((leftT R m).map (·.2.2)).Nodup := List.Sublist.nodup (List.filter_sublist.map _) hB
              have hlt2 : ∀ (a b : List UInt8) (c : Nat), (a, b, c) ∈ leftT R m → c < clk := fun a b c hm => hlt (a, b, c) (List.mem_filter.1 hm).1
              have hre3 := fun β τ => entT_rn β τ (leftT R m)
              have hrs2 := fun β τ => hrs β τ (O ++ m)
              have hoa := strs_app O m
              refine ⟨leftT R m, m, O ++ m, .no, ⟨hN2, hB2, hlt2, by simp; omega, by omega, .inr rfl, k', ?_, hb'⟩, ?_, ?_⟩
              · by_cases e : m = []
                · exact .inr e
                · have : 0 < m.length := List.length_pos_iff.2 e
                  rcases hk with h1 | h1
                  · exact .inl (by omega)
                  · exact absurd h1 hL
              · rw [if_neg hL]
                by_cases e : m = []
                · rw [if_pos e, hm0 e]; omega
                · have : 0 < m.length := List.length_pos_iff.2 e
                  rw [if_neg e]; omega
              · simp [keepE, St.keepG, St.keep, St.gc, Hp.cut, D.rnL, D.rn, cutF, Blk.rn, Blk.rnL, Tv.rn, Tv.rnL, Own.rn, pairs, hrs, hre, hre3, hoa, hsl, hrs2]
set_option maxHeartbeats 2000000 in
theorem inside_e (s : List Pt) (hl : s.length ≤ 12) (part : List UInt8) (pp : Pt) (h : getP s part = some pp) : Eff M 62 [stateD s, .str part] ⟨[], []⟩ (InsR s part) := by
  refine oe62 0 0 rfl rfl rfl ?_
  rw [ie62]
  unfold c62
  have h' := h
  rw [← firstAt_get part s 0] at h'
  obtain ⟨⟨p', k⟩, hq, rfl⟩ := Option.map_eq_some_iff.1 h'
  obtain ⟨j0, hs⟩ := ofM_some hq
  have hok := ofM_ok s
  have hE := fun β τ => ofM_rn s β τ
  have c1 := of_m s (by omega)
  have hlen : (s.map ptD).length = s.length := by simp
  unfold mapH at c1
  have hL := firstsI_len s
  have hEl : (ofM s).length = (firstsI [] 0 s).length := entsF_len _ _
  have hEb : (ofM s).map (·.2.2) = List.range (firstsI [] 0 s).length := by unfold ofM; rw [entsF_born, List.range_eq_range']
  have hEm : ∀ e ∈ ofM s, ∃ j, ∃ h : j < (firstsI [] 0 s).length, e = (.str ((firstsI [] 0 s)[j]).1.name, .int .i64 ((firstsI [] 0 s)[j]).2, j) := fun e he => by
    obtain ⟨j, hj, e1⟩ := entsF_mem he
    exact ⟨j, hj, by rw [e1, Nat.zero_add]⟩
  have hEm' : ∀ j (h : j < (firstsI [] 0 s).length), (D.str ((firstsI [] 0 s)[j]).1.name, D.int .i64 ((firstsI [] 0 s)[j]).2, j) ∈ ofM s := fun j hj => by
    have := entsF_mem' (b := 0) hj
    rwa [Nat.zero_add] at this
  have hLat : ∀ j (h : j < (firstsI [] 0 s).length), ∃ h2 : ((firstsI [] 0 s)[j]).2 < s.length, s[((firstsI [] 0 s)[j]).2] = ((firstsI [] 0 s)[j]).1 := fun j hj => by
    obtain ⟨q1, q2, q3⟩ := firstsI_at (List.getElem_mem hj)
    rw [Nat.sub_zero] at q2 q3
    refine ⟨q2, ?_⟩
    rw [List.getElem?_eq_getElem q2] at q3
    simpa using q3
  have hpn := fun seen (h : List.Nodup seen) => pickF_nodup (s := s) (seen := seen) h
  have hfp := fun seen h1 h2 h3 => fitted_perm (s := s) (part := part) (seen := seen) h1 h2 h3
  generalize firstsI [] 0 s = L at *
  generalize ofM s = E at *
  simp only at hs
  repeat' (first
    | with_reducible first | apply swp_seq | apply swp_reg | apply swp_regD | apply swp_block | apply swp_exit | apply swp_ret | apply swp_skip | apply swp_cd
    | simp only [go_sem, seval, P62, pe62, q62, hE, o_newM]
    | ((with_reducible refine o_eff [] [] (c1) ?hs ?he ?hh ?_); (case hs => exact ⟨by simp, by simp, by simp, by simp⟩); (case he => first | rfl | (simp [go_sem, seval, hok, hs, D.rnL, D.rn, posF, Hp.sel, Blk.rnL, Blk.rn, Tv.rnL, idx, Hp.back, putAt, bakF, hE]; done)); (case hh => first | rfl | (simp [go_sem, seval, hok, hs, D.rnL, D.rn, posF, Hp.sel, Blk.rnL, Blk.rn, Tv.rnL, idx, Hp.back, putAt, bakF, hE]; done)); rintro _ _ ⟨rfl, rfl⟩)
    | ((with_reducible apply s_appT); (case he => rfl); (case hK | hc | hr | hV => first | rfl | assumption | omega | ((first | refine ⟨?_, ?_⟩ | skip) <;> first | omega | (simp only [lN, hok, hs, D.rnL, D.rn, posF, Hp.sel, Blk.rnL, Blk.rn, Tv.rnL, idx, Hp.back, putAt, bakF, hE] <;> omega)) | (simp [elemsK, D.isVal, D.cells, D.closedL, D.closed, hok, hs, D.rnL, D.rn, posF, Hp.sel, Blk.rnL, Blk.rn, Tv.rnL, idx, Hp.back, putAt, bakF, hE]; first | done | omega)))
    | ((with_reducible apply s_appG); (case he => rfl); (case hV | hK | hr | hl => first | rfl | assumption | omega | ((first | refine ⟨?_, ?_⟩ | skip) <;> first | omega | (simp only [lN, hok, hs, D.rnL, D.rn, posF, Hp.sel, Blk.rnL, Blk.rn, Tv.rnL, idx, Hp.back, putAt, bakF, hE] <;> omega)) | (simp [elemsK, D.isVal, D.cells, D.closedL, D.closed, hok, hs, D.rnL, D.rn, posF, Hp.sel, Blk.rnL, Blk.rn, Tv.rnL, idx, Hp.back, putAt, bakF, hE]; first | done | omega)))
    | ((with_reducible apply s_app0); (case he => rfl); (case hK | hc | hr => first | rfl | assumption | omega | ((first | refine ⟨?_, ?_⟩ | skip) <;> first | omega | (simp only [lN, hok, hs, D.rnL, D.rn, posF, Hp.sel, Blk.rnL, Blk.rn, Tv.rnL, idx, Hp.back, putAt, bakF, hE] <;> omega)) | (simp [elemsK, D.isVal, D.cells, D.closedL, D.closed, hok, hs, D.rnL, D.rn, posF, Hp.sel, Blk.rnL, Blk.rn, Tv.rnL, idx, Hp.back, putAt, bakF, hE]; first | done | omega)))
    | ((with_reducible apply s_appF); (case he => rfl); (case hK | hc | hr | hx | hn => first | rfl | assumption | omega | ((first | refine ⟨?_, ?_⟩ | skip) <;> first | omega | (simp only [lN, hok, hs, D.rnL, D.rn, posF, Hp.sel, Blk.rnL, Blk.rn, Tv.rnL, idx, Hp.back, putAt, bakF, hE] <;> omega)) | (simp [elemsK, D.isVal, D.cells, D.closedL, D.closed, hok, hs, D.rnL, D.rn, posF, Hp.sel, Blk.rnL, Blk.rn, Tv.rnL, idx, Hp.back, putAt, bakF, hE]; first | done | omega)))
    | ((with_reducible apply s_bsl); (case he | hl | hc => first | rfl | assumption | omega | ((first | refine ⟨?_, ?_⟩ | skip) <;> first | omega | (simp only [lN, hok, hs, D.rnL, D.rn, posF, Hp.sel, Blk.rnL, Blk.rn, Tv.rnL, idx, Hp.back, putAt, bakF, hE] <;> omega)) | (simp [elemsK, D.isVal, D.cells, D.closedL, D.closed, hok, hs, D.rnL, D.rn, posF, Hp.sel, Blk.rnL, Blk.rn, Tv.rnL, idx, Hp.back, putAt, bakF, hE]; first | done | omega)))
    | ((with_reducible first | apply s_mpu | apply s_mdl); (case h1 | hk => rfl); (case ha | hp => first | rfl | assumption | omega | ((first | refine ⟨?_, ?_⟩ | skip) <;> first | omega | (simp only [lN, hok, hs, D.rnL, D.rn, posF, Hp.sel, Blk.rnL, Blk.rn, Tv.rnL, idx, Hp.back, putAt, bakF, hE] <;> omega)) | (simp [elemsK, D.isVal, D.cells, D.closedL, D.closed, hok, hs, D.rnL, D.rn, posF, Hp.sel, Blk.rnL, Blk.rn, Tv.rnL, idx, Hp.back, putAt, bakF, hE]; first | done | omega)))
    | ((with_reducible apply s_lkpS); (case h1 | hk => rfl); (case ha | hf => first | rfl | assumption | omega | ((first | refine ⟨?_, ?_⟩ | skip) <;> first | omega | (simp only [lN, hok, hs, D.rnL, D.rn, posF, Hp.sel, Blk.rnL, Blk.rn, Tv.rnL, idx, Hp.back, putAt, bakF, hE] <;> omega)) | (simp [elemsK, D.isVal, D.cells, D.closedL, D.closed, hok, hs, D.rnL, D.rn, posF, Hp.sel, Blk.rnL, Blk.rn, Tv.rnL, idx, Hp.back, putAt, bakF, hE]; first | done | omega)))
    | ((with_reducible apply s_lkpN); (case h1 | hk => rfl); (case hf | ha => first | rfl | assumption | omega | ((first | refine ⟨?_, ?_⟩ | skip) <;> first | omega | (simp only [lN, hok, hs, D.rnL, D.rn, posF, Hp.sel, Blk.rnL, Blk.rn, Tv.rnL, idx, Hp.back, putAt, bakF, hE] <;> omega)) | (simp [elemsK, D.isVal, D.cells, D.closedL, D.closed, hok, hs, D.rnL, D.rn, posF, Hp.sel, Blk.rnL, Blk.rn, Tv.rnL, idx, Hp.back, putAt, bakF, hE]; first | done | omega)))
    | ((with_reducible apply s_rngM); (case h1 => rfl))
    | with_reducible first | apply cd_dec | apply cd_eq | apply cd_ne | apply cd_split
    | ((with_reducible refine And.intro ?hw ?_); (case hw => first | omega | rfl | exact ⟨_, _, rfl⟩ | assumption | (simp only [lN, hok, hs, D.rnL, D.rn, posF, Hp.sel, Blk.rnL, Blk.rn, Tv.rnL, idx, Hp.back, putAt, bakF, hE] <;> omega)))
    | with_reducible intro _)
  refine swp_famG (C := E62 0 0) [0, 1, 2, 4, 6, 17] 5 0 (Nat.zero_le 5) (Nat.le_refl 0) (fun seen : List Nat => ⟨[stateD s, .str part, .ptr 0 0, .undef, .ptr 2 0, .undef, .mp 3, .undef, .undef, .undef, .undef, .undef, .undef, .undef, .undef, .undef, .undef, .ptr 4 0, .undef, .undef, .undef, .undef, .undef, .undef, .undef, .undef, .undef, .undef], [],
    ⟨[.cells [partsD s], .map E E.length, .cells [partsD s, .mp 1], .map (entT (triF (pickF L seen))) (triF (pickF L seen)).length, .miter 1 E.length seen E.length], []⟩⟩)
    (fun seen => seen.Nodup ∧ ∀ j ∈ seen, j < L.length) (fun seen => L.length + 1 - seen.length) [] ⟨by simp, by simp⟩ ?_ ?_
  · simp [keepE, St.keepG, St.keep, St.gc, Hp.cut, D.rnL, D.rn, cutF, Blk.rn, Blk.rnL, Tv.rnL, Own.rn, pairs, hE]
    exact ⟨rfl, rfl⟩
  · rintro seen ⟨g1, g2⟩
    repeat' (first
    | with_reducible first | apply swp_seq | apply swp_reg | apply swp_regD | apply swp_block | apply swp_exit | apply swp_ret | apply swp_skip | apply swp_cd
    | simp only [go_sem, seval, P62, pe62, q62, hE, o_newM]
    | ((with_reducible apply s_appT); (case he => rfl); (case hK | hc | hr | hV => first | rfl | assumption | omega | ((first | refine ⟨?_, ?_⟩ | skip) <;> first | omega | (simp only [lN] <;> omega)) | (simp [elemsK, D.isVal, D.cells, D.closedL, D.closed]; first | done | omega)))
    | ((with_reducible apply s_appG); (case he => rfl); (case hV | hK | hr | hl => first | rfl | assumption | omega | ((first | refine ⟨?_, ?_⟩ | skip) <;> first | omega | (simp only [lN] <;> omega)) | (simp [elemsK, D.isVal, D.cells, D.closedL, D.closed]; first | done | omega)))
    | ((with_reducible apply s_app0); (case he => rfl); (case hK | hc | hr => first | rfl | assumption | omega | ((first | refine ⟨?_, ?_⟩ | skip) <;> first | omega | (simp only [lN] <;> omega)) | (simp [elemsK, D.isVal, D.cells, D.closedL, D.closed]; first | done | omega)))
    | ((with_reducible apply s_appF); (case he => rfl); (case hK | hc | hr | hx | hn => first | rfl | assumption | omega | ((first | refine ⟨?_, ?_⟩ | skip) <;> first | omega | (simp only [lN] <;> omega)) | (simp [elemsK, D.isVal, D.cells, D.closedL, D.closed]; first | done | omega)))
    | ((with_reducible apply s_bsl); (case he | hl | hc => first | rfl | assumption | omega | ((first | refine ⟨?_, ?_⟩ | skip) <;> first | omega | (simp only [lN] <;> omega)) | (simp [elemsK, D.isVal, D.cells, D.closedL, D.closed]; first | done | omega)))
    | ((with_reducible first | apply s_mpu | apply s_mdl); (case h1 | hk => rfl); (case ha | hp => first | rfl | assumption | omega | ((first | refine ⟨?_, ?_⟩ | skip) <;> first | omega | (simp only [lN] <;> omega)) | (simp [elemsK, D.isVal, D.cells, D.closedL, D.closed]; first | done | omega)))
    | ((with_reducible apply s_lkpS); (case h1 | hk => rfl); (case ha | hf => first | rfl | assumption | omega | ((first | refine ⟨?_, ?_⟩ | skip) <;> first | omega | (simp only [lN] <;> omega)) | (simp [elemsK, D.isVal, D.cells, D.closedL, D.closed]; first | done | omega)))
    | ((with_reducible apply s_lkpN); (case h1 | hk => rfl); (case hf | ha => first | rfl | assumption | omega | ((first | refine ⟨?_, ?_⟩ | skip) <;> first | omega | (simp only [lN] <;> omega)) | (simp [elemsK, D.isVal, D.cells, D.closedL, D.closed]; first | done | omega)))
    | ((with_reducible apply s_rngM); (case h1 => rfl))
    | with_reducible first | apply cd_dec | apply cd_eq | apply cd_ne | apply cd_split
    | ((with_reducible refine And.intro ?hw ?_); (case hw => first | omega | rfl | exact ⟨_, _, rfl⟩ | assumption | (simp only [lN] <;> omega)))
    | with_reducible intro _)
    refine s_nxtM rfl rfl (fun e he => ?_) (Nat.le_refl _) (fun e he hn => ?_) (fun hall => ?_)
    · obtain ⟨j, hj, rfl⟩ := hEm e he
      simp only; omega
    · obtain ⟨j, hj, rfl⟩ := hEm e he
      simp only at hn ⊢
      obtain ⟨b1, b2⟩ := hLat j hj
      have hg : (s.map ptD).getD (L[j]).2 .undef = .agg (L[j]).1.cells := by rw [partsD_get b1, b2]; rfl
      have hnd : (E.map (·.2.2)).Nodup := by rw [hEb]; exact List.nodup_range
      have hmem := hEm' j hj
      have hpa := pickF_app (seen := seen) hj
      have g1' : (seen ++ [j]).Nodup := by
        rw [List.nodup_append]
        exact ⟨g1, by simp, fun a ha b hb e => by simp at hb; subst hb; subst e; exact hn ha⟩
      have g2' : ∀ i ∈ seen ++ [j], i < L.length := fun i hi => by
        rcases List.mem_append.1 hi with q | q
        · exact g2 i q
        · simp at q; subst q; exact hj
      have hls : seen.length < L.length := by
        have := nodup_len L.length (seen ++ [j]) g1' g2'
        simp at this; omega
      have hrn := fun β τ => entT_rn β τ (triF (pickF L (seen ++ [j])))
      have hrn0 := fun β τ => entT_rn β τ (triF (pickF L seen))
      by_cases hin : (L[j]).1.into = []
      · have hb : ((L[j]).1.into == []) = true := by simp [hin]
        rw [if_pos hin, List.append_nil] at hpa
        rw [hpa] at hrn
        repeat' (first
    | with_reducible first | apply swp_seq | apply swp_reg | apply swp_regD | apply swp_block | apply swp_exit | apply swp_ret | apply swp_skip | apply swp_cd
    | simp only [go_sem, seval, P62, pe62, q62, hE, o_newM]
    | ((with_reducible apply s_appT); (case he => rfl); (case hK | hc | hr | hV => first | rfl | assumption | omega | ((first | refine ⟨?_, ?_⟩ | skip) <;> first | omega | (simp only [lN] <;> omega)) | (simp [elemsK, D.isVal, D.cells, D.closedL, D.closed]; first | done | omega)))
    | ((with_reducible apply s_appG); (case he => rfl); (case hV | hK | hr | hl => first | rfl | assumption | omega | ((first | refine ⟨?_, ?_⟩ | skip) <;> first | omega | (simp only [lN] <;> omega)) | (simp [elemsK, D.isVal, D.cells, D.closedL, D.closed]; first | done | omega)))
    | ((with_reducible apply s_app0); (case he => rfl); (case hK | hc | hr => first | rfl | assumption | omega | ((first | refine ⟨?_, ?_⟩ | skip) <;> first | omega | (simp only [lN] <;> omega)) | (simp [elemsK, D.isVal, D.cells, D.closedL, D.closed]; first | done | omega)))
    | ((with_reducible apply s_appF); (case he => rfl); (case hK | hc | hr | hx | hn => first | rfl | assumption | omega | ((first | refine ⟨?_, ?_⟩ | skip) <;> first | omega | (simp only [lN] <;> omega)) | (simp [elemsK, D.isVal, D.cells, D.closedL, D.closed]; first | done | omega)))
    | ((with_reducible apply s_bsl); (case he | hl | hc => first | rfl | assumption | omega | ((first | refine ⟨?_, ?_⟩ | skip) <;> first | omega | (simp only [lN] <;> omega)) | (simp [elemsK, D.isVal, D.cells, D.closedL, D.closed]; first | done | omega)))
    | ((with_reducible first | apply s_mpu | apply s_mdl); (case h1 | hk => rfl); (case ha | hp => first | rfl | assumption | omega | ((first | refine ⟨?_, ?_⟩ | skip) <;> first | omega | (simp only [lN] <;> omega)) | (simp [elemsK, D.isVal, D.cells, D.closedL, D.closed]; first | done | omega)))
    | ((with_reducible apply s_lkpS); (case h1 | hk => rfl); (case ha | hf => first | rfl | assumption | omega | ((first | refine ⟨?_, ?_⟩ | skip) <;> first | omega | (simp only [lN] <;> omega)) | (simp [elemsK, D.isVal, D.cells, D.closedL, D.closed]; first | done | omega)))
    | ((with_reducible apply s_lkpN); (case h1 | hk => rfl); (case hf | ha => first | rfl | assumption | omega | ((first | refine ⟨?_, ?_⟩ | skip) <;> first | omega | (simp only [lN] <;> omega)) | (simp [elemsK, D.isVal, D.cells, D.closedL, D.closed]; first | done | omega)))
    | ((with_reducible apply s_rngM); (case h1 => rfl))
    | with_reducible first | apply cd_dec | apply cd_eq | apply cd_ne | apply cd_split
    | ((with_reducible refine And.intro ?hw ?_); (case hw => first | omega | rfl | exact ⟨_, _, rfl⟩ | assumption | (simp only [lN] <;> omega)))
    | with_reducible intro _)
        refine s_ent rfl rfl hnd hmem ?_
        repeat' (first
    | with_reducible first | apply swp_seq | apply swp_reg | apply swp_regD | apply swp_block | apply swp_exit | apply swp_ret | apply swp_skip | apply swp_cd
    | simp only [go_sem, seval, P62, pe62, q62, hE, hlen, hg, hb, Nat.mul_one, Nat.zero_add, o_newM]
    | ((with_reducible apply s_appT); (case he => rfl); (case hK | hc | hr | hV => first | rfl | assumption | omega | ((first | refine ⟨?_, ?_⟩ | skip) <;> first | omega | (simp only [lN, hlen, hg] <;> omega)) | (simp [elemsK, D.isVal, D.cells, D.closedL, D.closed, hlen, hg]; first | done | omega)))
    | ((with_reducible apply s_appG); (case he => rfl); (case hV | hK | hr | hl => first | rfl | assumption | omega | ((first | refine ⟨?_, ?_⟩ | skip) <;> first | omega | (simp only [lN, hlen, hg] <;> omega)) | (simp [elemsK, D.isVal, D.cells, D.closedL, D.closed, hlen, hg]; first | done | omega)))
    | ((with_reducible apply s_app0); (case he => rfl); (case hK | hc | hr => first | rfl | assumption | omega | ((first | refine ⟨?_, ?_⟩ | skip) <;> first | omega | (simp only [lN, hlen, hg] <;> omega)) | (simp [elemsK, D.isVal, D.cells, D.closedL, D.closed, hlen, hg]; first | done | omega)))
    | ((with_reducible apply s_appF); (case he => rfl); (case hK | hc | hr | hx | hn => first | rfl | assumption | omega | ((first | refine ⟨?_, ?_⟩ | skip) <;> first | omega | (simp only [lN, hlen, hg] <;> omega)) | (simp [elemsK, D.isVal, D.cells, D.closedL, D.closed, hlen, hg]; first | done | omega)))
    | ((with_reducible apply s_bsl); (case he | hl | hc => first | rfl | assumption | omega | ((first | refine ⟨?_, ?_⟩ | skip) <;> first | omega | (simp only [lN, hlen, hg] <;> omega)) | (simp [elemsK, D.isVal, D.cells, D.closedL, D.closed, hlen, hg]; first | done | omega)))
    | ((with_reducible first | apply s_mpu | apply s_mdl); (case h1 | hk => rfl); (case ha | hp => first | rfl | assumption | omega | ((first | refine ⟨?_, ?_⟩ | skip) <;> first | omega | (simp only [lN, hlen, hg] <;> omega)) | (simp [elemsK, D.isVal, D.cells, D.closedL, D.closed, hlen, hg]; first | done | omega)))
    | ((with_reducible apply s_lkpS); (case h1 | hk => rfl); (case ha | hf => first | rfl | assumption | omega | ((first | refine ⟨?_, ?_⟩ | skip) <;> first | omega | (simp only [lN, hlen, hg] <;> omega)) | (simp [elemsK, D.isVal, D.cells, D.closedL, D.closed, hlen, hg]; first | done | omega)))
    | ((with_reducible apply s_lkpN); (case h1 | hk => rfl); (case hf | ha => first | rfl | assumption | omega | ((first | refine ⟨?_, ?_⟩ | skip) <;> first | omega | (simp only [lN, hlen, hg] <;> omega)) | (simp [elemsK, D.isVal, D.cells, D.closedL, D.closed, hlen, hg]; first | done | omega)))
    | ((with_reducible apply s_rngM); (case h1 => rfl))
    | with_reducible first | apply cd_dec | apply cd_eq | apply cd_ne | apply cd_split
    | ((with_reducible refine And.intro ?hw ?_); (case hw => first | omega | rfl | exact ⟨_, _, rfl⟩ | assumption | (simp only [lN, hlen, hg] <;> omega)))
    | with_reducible intro _)
        all_goals try omega
        all_goals refine ⟨seen ++ [j], ⟨g1', g2'⟩, by simp; omega, ?_⟩
        all_goals simp [keepE, St.keepG, St.keep, St.gc, Hp.cut, D.rnL, D.rn, cutF, Blk.rn, Blk.rnL, Tv.rnL, Own.rn, pairs, hE, hrn, hpa]
      · have hb : ((L[j]).1.into == []) = false := by simp [hin]
        rw [if_neg hin] at hpa
        have hnew : ∀ t ∈ triF (pickF L seen), t.1 ≠ (L[j]).1.name := fun t ht e => by
          have h1 := hpn (seen ++ [j]) g1'
          rw [hpa, List.map_append, List.nodup_append] at h1
          refine h1.2.2 t.1 ?_ _ (by simp) e
          rw [← triF_name]
          exact List.mem_map_of_mem ht
        have hput := entT_put (v := (L[j]).1.into) (c := (triF (pickF L seen)).length) hnew
        have hok2 := entT_ok (triF (pickF L seen))
        have htr : triF (pickF L (seen ++ [j])) = triF (pickF L seen) ++ [((L[j]).1.name, (L[j]).1.into, (triF (pickF L seen)).length)] := by rw [hpa, triF_app, triF_len]
        rw [htr] at hrn
        repeat' (first
    | with_reducible first | apply swp_seq | apply swp_reg | apply swp_regD | apply swp_block | apply swp_exit | apply swp_ret | apply swp_skip | apply swp_cd
    | simp only [go_sem, seval, P62, pe62, q62, hE, o_newM]
    | ((with_reducible apply s_appT); (case he => rfl); (case hK | hc | hr | hV => first | rfl | assumption | omega | ((first | refine ⟨?_, ?_⟩ | skip) <;> first | omega | (simp only [lN] <;> omega)) | (simp [elemsK, D.isVal, D.cells, D.closedL, D.closed]; first | done | omega)))
    | ((with_reducible apply s_appG); (case he => rfl); (case hV | hK | hr | hl => first | rfl | assumption | omega | ((first | refine ⟨?_, ?_⟩ | skip) <;> first | omega | (simp only [lN] <;> omega)) | (simp [elemsK, D.isVal, D.cells, D.closedL, D.closed]; first | done | omega)))
    | ((with_reducible apply s_app0); (case he => rfl); (case hK | hc | hr => first | rfl | assumption | omega | ((first | refine ⟨?_, ?_⟩ | skip) <;> first | omega | (simp only [lN] <;> omega)) | (simp [elemsK, D.isVal, D.cells, D.closedL, D.closed]; first | done | omega)))
    | ((with_reducible apply s_appF); (case he => rfl); (case hK | hc | hr | hx | hn => first | rfl | assumption | omega | ((first | refine ⟨?_, ?_⟩ | skip) <;> first | omega | (simp only [lN] <;> omega)) | (simp [elemsK, D.isVal, D.cells, D.closedL, D.closed]; first | done | omega)))
    | ((with_reducible apply s_bsl); (case he | hl | hc => first | rfl | assumption | omega | ((first | refine ⟨?_, ?_⟩ | skip) <;> first | omega | (simp only [lN] <;> omega)) | (simp [elemsK, D.isVal, D.cells, D.closedL, D.closed]; first | done | omega)))
    | ((with_reducible first | apply s_mpu | apply s_mdl); (case h1 | hk => rfl); (case ha | hp => first | rfl | assumption | omega | ((first | refine ⟨?_, ?_⟩ | skip) <;> first | omega | (simp only [lN] <;> omega)) | (simp [elemsK, D.isVal, D.cells, D.closedL, D.closed]; first | done | omega)))
    | ((with_reducible apply s_lkpS); (case h1 | hk => rfl); (case ha | hf => first | rfl | assumption | omega | ((first | refine ⟨?_, ?_⟩ | skip) <;> first | omega | (simp only [lN] <;> omega)) | (simp [elemsK, D.isVal, D.cells, D.closedL, D.closed]; first | done | omega)))
    | ((with_reducible apply s_lkpN); (case h1 | hk => rfl); (case hf | ha => first | rfl | assumption | omega | ((first | refine ⟨?_, ?_⟩ | skip) <;> first | omega | (simp only [lN] <;> omega)) | (simp [elemsK, D.isVal, D.cells, D.closedL, D.closed]; first | done | omega)))
    | ((with_reducible apply s_rngM); (case h1 => rfl))
    | with_reducible first | apply cd_dec | apply cd_eq | apply cd_ne | apply cd_split
    | ((with_reducible refine And.intro ?hw ?_); (case hw => first | omega | rfl | exact ⟨_, _, rfl⟩ | assumption | (simp only [lN] <;> omega)))
    | with_reducible intro _)
        refine s_ent rfl rfl hnd hmem ?_
        repeat' (first
    | with_reducible first | apply swp_seq | apply swp_reg | apply swp_regD | apply swp_block | apply swp_exit | apply swp_ret | apply swp_skip | apply swp_cd
    | simp only [go_sem, seval, P62, pe62, q62, hE, hlen, hg, hb, Nat.mul_one, Nat.zero_add, o_newM]
    | ((with_reducible apply s_appT); (case he => rfl); (case hK | hc | hr | hV => first | rfl | assumption | omega | ((first | refine ⟨?_, ?_⟩ | skip) <;> first | omega | (simp only [lN, hlen, hg, hok2] <;> omega)) | (simp [elemsK, D.isVal, D.cells, D.closedL, D.closed, hlen, hg, hok2]; first | done | omega)))
    | ((with_reducible apply s_appG); (case he => rfl); (case hV | hK | hr | hl => first | rfl | assumption | omega | ((first | refine ⟨?_, ?_⟩ | skip) <;> first | omega | (simp only [lN, hlen, hg, hok2] <;> omega)) | (simp [elemsK, D.isVal, D.cells, D.closedL, D.closed, hlen, hg, hok2]; first | done | omega)))
    | ((with_reducible apply s_app0); (case he => rfl); (case hK | hc | hr => first | rfl | assumption | omega | ((first | refine ⟨?_, ?_⟩ | skip) <;> first | omega | (simp only [lN, hlen, hg, hok2] <;> omega)) | (simp [elemsK, D.isVal, D.cells, D.closedL, D.closed, hlen, hg, hok2]; first | done | omega)))
    | ((with_reducible apply s_appF); (case he => rfl); (case hK | hc | hr | hx | hn => first | rfl | assumption | omega | ((first | refine ⟨?_, ?_⟩ | skip) <;> first | omega | (simp only [lN, hlen, hg, hok2] <;> omega)) | (simp [elemsK, D.isVal, D.cells, D.closedL, D.closed, hlen, hg, hok2]; first | done | omega)))
    | ((with_reducible apply s_bsl); (case he | hl | hc => first | rfl | assumption | omega | ((first | refine ⟨?_, ?_⟩ | skip) <;> first | omega | (simp only [lN, hlen, hg, hok2] <;> omega)) | (simp [elemsK, D.isVal, D.cells, D.closedL, D.closed, hlen, hg, hok2]; first | done | omega)))
    | ((with_reducible first | apply s_mpu | apply s_mdl); (case h1 | hk => rfl); (case ha | hp => first | rfl | assumption | omega | ((first | refine ⟨?_, ?_⟩ | skip) <;> first | omega | (simp only [lN, hlen, hg, hok2] <;> omega)) | (simp [elemsK, D.isVal, D.cells, D.closedL, D.closed, hlen, hg, hok2]; first | done | omega)))
    | ((with_reducible apply s_lkpS); (case h1 | hk => rfl); (case ha | hf => first | rfl | assumption | omega | ((first | refine ⟨?_, ?_⟩ | skip) <;> first | omega | (simp only [lN, hlen, hg, hok2] <;> omega)) | (simp [elemsK, D.isVal, D.cells, D.closedL, D.closed, hlen, hg, hok2]; first | done | omega)))
    | ((with_reducible apply s_lkpN); (case h1 | hk => rfl); (case hf | ha => first | rfl | assumption | omega | ((first | refine ⟨?_, ?_⟩ | skip) <;> first | omega | (simp only [lN, hlen, hg, hok2] <;> omega)) | (simp [elemsK, D.isVal, D.cells, D.closedL, D.closed, hlen, hg, hok2]; first | done | omega)))
    | ((with_reducible apply s_rngM); (case h1 => rfl))
    | with_reducible first | apply cd_dec | apply cd_eq | apply cd_ne | apply cd_split
    | ((with_reducible refine And.intro ?hw ?_); (case hw => first | omega | rfl | exact ⟨_, _, rfl⟩ | assumption | (simp only [lN, hlen, hg, hok2] <;> omega)))
    | with_reducible intro _)
        all_goals try omega
        all_goals refine ⟨seen ++ [j], ⟨g1', g2'⟩, by simp; omega, ?_⟩
        all_goals simp [keepE, St.keepG, St.keep, St.gc, Hp.cut, D.rnL, D.rn, cutF, Blk.rn, Blk.rnL, Tv.rnL, Own.rn, pairs, hE, hrn, hput, htr]
    · have hfp' := hfp seen g1 g2 (fun j hj => hall _ (hEm' j hj))
      have hnm := hpn seen g1
      rw [← triF_name] at hnm
      have hbn := triF_born (pickF L seen)
      have hln := triF_len (pickF L seen)
      generalize triF (pickF L seen) = R0 at *
      have hdel := entT_del (k := part) (c := R0.length) hnm
      have hok2 := entT_ok R0
      have hrn := fun β τ => entT_rn β τ (R0.filter fun t => !(t.1 == part))
      repeat' (first
    | with_reducible first | apply swp_seq | apply swp_reg | apply swp_regD | apply swp_block | apply swp_exit | apply swp_ret | apply swp_skip | apply swp_cd
    | simp only [go_sem, seval, P62, pe62, q62, hE, o_newM]
    | ((with_reducible apply s_appT); (case he => rfl); (case hK | hc | hr | hV => first | rfl | assumption | omega | ((first | refine ⟨?_, ?_⟩ | skip) <;> first | omega | (simp only [lN, hok2] <;> omega)) | (simp [elemsK, D.isVal, D.cells, D.closedL, D.closed, hok2]; first | done | omega)))
    | ((with_reducible apply s_appG); (case he => rfl); (case hV | hK | hr | hl => first | rfl | assumption | omega | ((first | refine ⟨?_, ?_⟩ | skip) <;> first | omega | (simp only [lN, hok2] <;> omega)) | (simp [elemsK, D.isVal, D.cells, D.closedL, D.closed, hok2]; first | done | omega)))
    | ((with_reducible apply s_app0); (case he => rfl); (case hK | hc | hr => first | rfl | assumption | omega | ((first | refine ⟨?_, ?_⟩ | skip) <;> first | omega | (simp only [lN, hok2] <;> omega)) | (simp [elemsK, D.isVal, D.cells, D.closedL, D.closed, hok2]; first | done | omega)))
    | ((with_reducible apply s_appF); (case he => rfl); (case hK | hc | hr | hx | hn => first | rfl | assumption | omega | ((first | refine ⟨?_, ?_⟩ | skip) <;> first | omega | (simp only [lN, hok2] <;> omega)) | (simp [elemsK, D.isVal, D.cells, D.closedL, D.closed, hok2]; first | done | omega)))
    | ((with_reducible apply s_bsl); (case he | hl | hc => first | rfl | assumption | omega | ((first | refine ⟨?_, ?_⟩ | skip) <;> first | omega | (simp only [lN, hok2] <;> omega)) | (simp [elemsK, D.isVal, D.cells, D.closedL, D.closed, hok2]; first | done | omega)))
    | ((with_reducible first | apply s_mpu | apply s_mdl); (case h1 | hk => rfl); (case ha | hp => first | rfl | assumption | omega | ((first | refine ⟨?_, ?_⟩ | skip) <;> first | omega | (simp only [lN, hok2] <;> omega)) | (simp [elemsK, D.isVal, D.cells, D.closedL, D.closed, hok2]; first | done | omega)))
    | ((with_reducible apply s_lkpS); (case h1 | hk => rfl); (case ha | hf => first | rfl | assumption | omega | ((first | refine ⟨?_, ?_⟩ | skip) <;> first | omega | (simp only [lN, hok2] <;> omega)) | (simp [elemsK, D.isVal, D.cells, D.closedL, D.closed, hok2]; first | done | omega)))
    | ((with_reducible apply s_lkpN); (case h1 | hk => rfl); (case hf | ha => first | rfl | assumption | omega | ((first | refine ⟨?_, ?_⟩ | skip) <;> first | omega | (simp only [lN, hok2] <;> omega)) | (simp [elemsK, D.isVal, D.cells, D.closedL, D.closed, hok2]; first | done | omega)))
    | ((with_reducible apply s_rngM); (case h1 => rfl))
    | with_reducible first | apply cd_dec | apply cd_eq | apply cd_ne | apply cd_split
    | ((with_reducible refine And.intro ?hw ?_); (case hw => first | omega | rfl | exact ⟨_, _, rfl⟩ | assumption | (simp only [lN, hok2] <;> omega)))
    | with_reducible intro _)
      rw [hdel]
      have hlt1 : ∀ t ∈ R0, t.2.2 < R0.length := fun t ht => by
        have : t.2.2 ∈ R0.map (·.2.2) := List.mem_map_of_mem ht
        rw [hbn] at this
        rw [hln]; simpa using this
      have hbnd : (R0.map (·.2.2)).Nodup := by rw [hbn]; exact List.nodup_range
      have hR0l : R0.length ≤ 12 := by
        have h1 := nodup_len L.length seen g1 g2
        have h2 : (pickF L seen).length ≤ seen.length := by
          unfold pickF
          exact Nat.le_trans (List.length_filter_le _ _) (List.length_filterMap_le _ _)
        omega
      refine swp_weak (weak_trans (weak_keep [6, 10, 11]) (weak_trans (weak_sel [3] [] ⟨by simp, by simp, by simp, by simp⟩ rfl rfl) (weak_new 10 1 (by decide) true rfl))) ?_
      simp [St.sel, Hp.sel, keepE, D.rnL, D.rn, posF, idx, Blk.rn, Blk.rnL, Tv.rnL, Own.rn, hrn]
      have hins : insideF s part = isort (bfs ((fitted s part).length + 2) (fitted s part) [part]) := by
        unfold insideF; rw [h]
      refine inside_loop (R0.filter fun t => !(t.1 == part)) R0.length part (List.Sublist.nodup (List.filter_sublist.map _) hnm) (List.Sublist.nodup (List.filter_sublist.map _) hbnd) (fun t ht => hlt1 t (List.mem_filter.1 ht).1) (Nat.le_trans (List.length_filter_le _ _) hR0l) _ (fun O R X hO hOl => ?_)
      have hfl := hfp'.length_eq
      rw [List.length_map] at hfl
      refine (fun hfin : isort O = insideF s part => ?_) ?_
      · have ht := inside_tail s part O R0.length R hfin hOl X
        simp only [List.getD_eq_getElem?_getD] at ht
        exact ⟨rfl, ht⟩
      rw [hins]
      refine isort_eq (hO.trans ?_)
      rw [hfl]
      exact bfs_perm _ hfp' (List.Perm.refl _)
end Go.Proofs.Ytcchbohfcmfmlaa
end
section
set_option maxRecDepth 100000
set_option linter.unusedSimpArgs false
set_option linter.unusedVariables false
namespace Go.Proofs.Ytcchbohfcmfmlaa
open Go GoV Go.RowKit
theorem eff_mono {M : Mod} {f : FuncId} {args : List D} {hp : Hp} {R R' : D → Hp → Prop} (h : Eff M f args hp R) (hR : ∀ d hp', R d hp' → R' d hp') : Eff M f args hp R' :=
  ⟨h.1, fun w g xs hA hh hr => Calls.mono (h.2 w g xs hA hh hr) fun e w' ⟨v, d, hp', g', e1, e2, h1, h2⟩ => ⟨v, d, hp', g', e1, hR _ _ e2, h1, h2⟩⟩
theorem cl_parts (s : List Pt) : D.closedL (s.map ptD) = true := by
  induction s with
  | nil => rfl
  | cons x l ih => simp [D.closedL, cl_P, ih]
theorem inside_r (s : List Pt) (hl : s.length ≤ 12) (part : List UInt8) : Eff M 62 [stateD s, .str part] ⟨[], []⟩ (InsR s part) := by
  cases h : getP s part with
  | none =>
    have c := eff_of_pur (hp := ⟨[], []⟩) (args := [stateD s, .str part]) (by simp [D.closedL, D.closed]) (by
      have := inside_nil s (by omega) part h
      simpa [D.erL, D.er] using this)
    refine eff_mono c fun d hp' ⟨e1, e2⟩ => .inl ⟨?_, e1, e2⟩
    unfold insideF; rw [h]
  | some p => exact inside_e s hl part p h
abbrev kindH (s : List Pt) (day : Int) (kind : List UInt8) : List Blk := [.cells [partsD s, .int .i64 day], .cells [.str kind]]
def keepK (s : List Pt) (kind : List UInt8) (nm : List UInt8) : Bool := (find0 s nm).kind == kind
theorem del63 (s : List Pt) (hl : s.length ≤ 12) (day : Int) (kind nm : List UInt8) : Eff M 63 [.str nm, .ptr 0 0, .ptr 1 0] ⟨kindH s day kind, []⟩ fun d hp => d = .bool (!keepK s kind nm) ∧ hp = ⟨kindH s day kind, []⟩ := by
  refine oe63 2 0 rfl rfl rfl ?_
  rw [ie63]
  unfold c63
  have c1 := find_p s (by omega) nm
  have hcl := cl_parts s
  have her := erL_P s
  unfold keepK
  unfold ptD at c1
  have hp := (find0 s nm).cells
  repeat' (first
    | with_reducible first | apply swp_seq | apply swp_reg | apply swp_regD | apply swp_block | apply swp_exit | apply swp_ret | apply swp_skip | apply swp_cd
    | simp only [go_sem, seval, pe63, q63]
    | ((with_reducible refine o_call (c1) ?he ?hc ?_); (case he | hc => first | rfl | (simp [D.erL, D.er, D.closedL, D.closed, hcl, her]; done)))
    | with_reducible first | apply cd_dec | apply cd_eq | apply cd_ne | apply cd_split
    | ((with_reducible refine And.intro ?hw ?_); (case hw => first | omega | rfl | exact ⟨_, _, rfl⟩ | assumption | (simp only [lN, hcl, her] <;> omega)))
    | with_reducible intro _)
  refine ⟨_, weak_gc 2 0 (Nat.le_refl _) (Nat.le_refl _), ?_⟩
  simp [St.gc, Hp.cut, D.rnL, D.rn, cutF, Blk.rn, Blk.rnL, Tv.rnL, Own.rn, bne]
abbrev kindN (s : List Pt) (day : Int) (kind : List UInt8) (N : List (List UInt8)) (u : Nat) : Hp := ⟨[.cells [partsD s, .int .i64 day], .cells [.str kind], .cells (strs N ++ und u)], []⟩
theorem su_get {N : List (List UInt8)} {u j : Nat} (h : j < N.length) : (strs N ++ und u).getD j .undef = .str (N[j]) := by
  rw [strs_get h]; simp [List.getD, h]
theorem su_len (N : List (List UInt8)) (u : Nat) : (strs N ++ und u).length = N.length + u := by rw [List.length_append, strs_len, und_len]
theorem if73 (s : List Pt) (hl : s.length ≤ 12) (day : Int) (kind : List UInt8) (N : List (List UInt8)) (u n cap : Nat) (hN : n = N.length) (hc : cap = n + u) (hn12 : n < 1000000) (i : Nat) (hi : i ≤ n) (hb : ∀ j (h : j < i), keepK s kind (N[j]'(by omega)) = true)
    (r : Int) (hr : (i = n ∧ r = -1) ∨ ∃ h : i < N.length, r = i ∧ keepK s kind N[i] = false) :
    Eff M 73 [.sl 2 1 0 n cap, .fn (.func 63) [] [.ptr 0 0, .ptr 1 0]] (kindN s day kind N u) fun d hp => d = .int .i64 r ∧ hp = kindN s day kind N u := by
  refine oe73 3 0 rfl rfl rfl ?_
  rw [ie73]
  unfold c73
  have hsl := su_len N u
  have hrn := fun β τ => rnL_su β τ N u
  repeat' (first
    | with_reducible first | apply swp_seq | apply swp_reg | apply swp_regD | apply swp_block | apply swp_exit | apply swp_ret | apply swp_skip | apply swp_cd
    | simp only [go_sem, seval, pe73, q73]
    | with_reducible first | apply cd_dec | apply cd_eq | apply cd_ne | apply cd_split
    | ((with_reducible refine And.intro ?hw ?_); (case hw => first | omega | rfl | exact ⟨_, _, rfl⟩ | assumption | (simp only [lN] <;> omega)))
    | with_reducible intro _)
  refine swp_fam [0, 1, 2, 4, 5] (fun j : Nat => ⟨[.sl 2 1 0 n cap, .fn (.func 63) [] [.ptr 0 0, .ptr 1 0], .int .i64 0, .undef, .int .i64 n, .int .i64 j, .undef, .undef], [], kindN s day kind N u⟩) (fun j => j ≤ i) (fun j => i + 1 - j) 0 (by omega) ?_ ?_
  · simp [keepE, St.keep]
  · intro j hj
    by_cases hji : j < i
    · have c1 := del63 s hl day kind (N[j]'(by omega))
      rw [hb j hji] at c1
      have hg := su_get (u := u) (show j < N.length by omega)
      repeat' (first
    | with_reducible first | apply swp_seq | apply swp_reg | apply swp_regD | apply swp_block | apply swp_exit | apply swp_ret | apply swp_skip | apply swp_cd
    | simp only [go_sem, seval, pe73, q73, hg, hsl, Nat.mul_one, Nat.zero_add]
    | simp (disch := omega) only [w64, w32, wu8, wu16, wu32, wu64]
    | ((with_reducible refine o_eff [0, 1] [] (c1) ?hs ?he ?hh ?_); (case hs => exact ⟨by simp, by simp, by simp, by simp⟩); (case he => first | rfl | (simp [go_sem, seval, hg, hsl, D.rnL, D.rn, posF, Hp.sel, Blk.rnL, Blk.rn, Tv.rnL, idx, hrn, Own.rn]; done)); (case hh => first | rfl | (simp [go_sem, seval, hg, hsl, D.rnL, D.rn, posF, Hp.sel, Blk.rnL, Blk.rn, Tv.rnL, idx, hrn, Own.rn]; done)); rintro _ _ ⟨rfl, rfl⟩)
    | with_reducible first | apply cd_dec | apply cd_eq | apply cd_ne | apply cd_split
    | ((with_reducible refine And.intro ?hw ?_); (case hw => first | omega | rfl | exact ⟨_, _, rfl⟩ | assumption | (simp only [lN, hg, hsl, D.rnL, D.rn, posF, Hp.sel, Blk.rnL, Blk.rn, Tv.rnL, idx, hrn, Own.rn] <;> omega)))
    | with_reducible intro _)
      all_goals try omega
      all_goals refine ⟨j + 1, by omega, by omega, ?_⟩
      all_goals simp [keepE, St.keep, Hp.back, putAt, bakF, Blk.rnL, Blk.rn, Tv.rnL, D.rnL, D.rn, Own.rn, hrn]
    · obtain rfl : j = i := by omega
      rcases hr with ⟨h1, rfl⟩ | ⟨h1, rfl, h2⟩
      · subst h1
        repeat' (first
    | with_reducible first | apply swp_seq | apply swp_reg | apply swp_regD | apply swp_block | apply swp_exit | apply swp_ret | apply swp_skip | apply swp_cd
    | simp only [go_sem, seval, pe73, q73]
    | simp (disch := omega) only [w64, w32, wu8, wu16, wu32, wu64]
    | with_reducible first | apply cd_dec | apply cd_eq | apply cd_ne | apply cd_split
    | ((with_reducible refine And.intro ?hw ?_); (case hw => first | omega | rfl | exact ⟨_, _, rfl⟩ | assumption | (simp only [lN] <;> omega)))
    | with_reducible intro _)
        all_goals try omega
        all_goals exact ⟨_, weak_refl, by simp⟩
      · have c1 := del63 s hl day kind N[j]
        rw [h2] at c1
        have hg := su_get (u := u) h1
        repeat' (first
    | with_reducible first | apply swp_seq | apply swp_reg | apply swp_regD | apply swp_block | apply swp_exit | apply swp_ret | apply swp_skip | apply swp_cd
    | simp only [go_sem, seval, pe73, q73, hg, hsl, Nat.mul_one, Nat.zero_add]
    | simp (disch := omega) only [w64, w32, wu8, wu16, wu32, wu64]
    | ((with_reducible refine o_eff [0, 1] [] (c1) ?hs ?he ?hh ?_); (case hs => exact ⟨by simp, by simp, by simp, by simp⟩); (case he => first | rfl | (simp [go_sem, seval, hg, hsl, D.rnL, D.rn, posF, Hp.sel, Blk.rnL, Blk.rn, Tv.rnL, idx, hrn, Own.rn]; done)); (case hh => first | rfl | (simp [go_sem, seval, hg, hsl, D.rnL, D.rn, posF, Hp.sel, Blk.rnL, Blk.rn, Tv.rnL, idx, hrn, Own.rn]; done)); rintro _ _ ⟨rfl, rfl⟩)
    | with_reducible first | apply cd_dec | apply cd_eq | apply cd_ne | apply cd_split
    | ((with_reducible refine And.intro ?hw ?_); (case hw => first | omega | rfl | exact ⟨_, _, rfl⟩ | assumption | (simp only [lN, hg, hsl, D.rnL, D.rn, posF, Hp.sel, Blk.rnL, Blk.rn, Tv.rnL, idx, hrn, Own.rn] <;> omega)))
    | with_reducible intro _)
        all_goals try omega
        all_goals exact ⟨_, weak_refl, by simp [Hp.back, putAt, bakF, Blk.rnL, Blk.rn, Tv.rnL, D.rnL, D.rn, Own.rn, hrn]⟩
theorem take_set1 {U : List (List UInt8)} {k : Nat} (x : List UInt8) (h : k < U.length) : (U.set k x).take (k + 1) = U.take k ++ [x] := by
  rw [List.take_set, List.take_succ_eq_append_getElem h, List.set_append_right _ _ (by simp; omega)]
  simp [Nat.min_eq_left (show k ≤ U.length by omega)]
theorem su_set {N : List (List UInt8)} {u j : Nat} (x : List UInt8) (h : j < N.length) : (strs N ++ und u).set j (.str x) = strs (N.set j x) ++ und u := strs_set x h
theorem zeros_strs (n : Nat) : zeros [.str []] n = strs (List.replicate n []) := by
  induction n with
  | zero => rfl
  | succ n ih => simp only [zeros, ih, strs, List.replicate_succ, List.map_cons]; rfl
theorem su_clear {U : List (List UInt8)} {u i n : Nat} (hU : U.length = n) (hi : i ≤ n) : setL (strs U ++ und u) i (zeros [.str []] (n - i)) = strs (U.take i ++ List.replicate (n - i) []) ++ und u := by
  have hz : (zeros [D.str []] (n - i)).length = n - i := by rw [zeros_strs, strs_len]; simp
  rw [setL_app _ _ _ (by rw [su_len, hz]; omega), hz, zeros_strs]
  have e1 : (strs U ++ und u).take i = strs (U.take i) := by
    rw [List.take_append_of_le_length (by rw [strs_len]; omega)]
    simp [strs, List.map_take]
  have e2 : (strs U ++ und u).drop (i + (n - i)) = und u := by
    rw [show i + (n - i) = (strs U).length by rw [strs_len]; omega, List.drop_left]
  rw [e1, e2, strs_app]
def keptN (s : List Pt) (kind : List UInt8) (N : List (List UInt8)) : List (List UInt8) := N.filter (keepK s kind)
set_option maxHeartbeats 1000000 in
theorem del61 (s : List Pt) (hl : s.length ≤ 12) (day : Int) (kind : List UInt8) (N : List (List UInt8)) (u n cap : Nat) (hN : n = N.length) (hc : cap = n + u) (hn12 : n < 1000000) :
    Eff M 61 [.sl 2 1 0 n cap, .fn (.func 63) [] [.ptr 0 0, .ptr 1 0]] (kindN s day kind N u) fun d hp => ∃ W, (keptN s kind N).length + W = n ∧ d = .sl 2 1 0 (keptN s kind N).length cap ∧ (∃ Z : List (List UInt8), Z.length = W ∧ hp = kindN s day kind (keptN s kind N ++ Z) u) := by
  refine oe61 3 0 rfl rfl rfl ?_
  rw [ie61]
  unfold c61
  rcases first_of (p := fun x => keepK s kind x = false) N with ⟨i, h, h1, h2⟩ | h
  · have hb : ∀ j (hj : j < i), keepK s kind (N[j]'(by omega)) = true := fun j hj => by simpa using h2 j hj
    have c1 := if73 s hl day kind N u n cap hN hc hn12 i (by omega) hb i (.inr ⟨h, rfl, h1⟩)
    have hi1 : ((i : Int) == -1) = false := by simp <;> omega
    have htk : (N.take (i + 1)).filter (keepK s kind) = N.take i := by
      rw [List.take_succ_eq_append_getElem h, List.filter_append]
      have e1 : (N.take i).filter (keepK s kind) = N.take i := by
        rw [List.filter_eq_self]
        intro x hx
        obtain ⟨j, hj, rfl⟩ := List.getElem_of_mem hx
        have hj' : j < i := by simp at hj; omega
        simpa using hb j hj'
      rw [e1]; simp [List.filter, h1]
    unfold kindN at c1 ⊢
    repeat' (first
    | with_reducible first | apply swp_seq | apply swp_reg | apply swp_regD | apply swp_block | apply swp_exit | apply swp_ret | apply swp_skip | apply swp_cd
    | simp only [go_sem, seval, pe61, q61, hi1]
    | simp (disch := omega) only [w64, w32, wu8, wu16, wu32, wu64]
    | ((with_reducible refine o_same (c1) ?he ?hh ?_); (case he => first | rfl | (simp [go_sem, seval]; done)); (case hh => first | rfl | (simp [go_sem, seval]; done)))
    | ((with_reducible apply s_slFF); (case hx => first | rfl | assumption | omega | ((first | refine ⟨?_, ?_⟩ | skip) <;> first | omega | (simp only [lN] <;> omega)) | (simp [elemsK, D.isVal, D.cells, D.closedL, D.closed]; first | done | omega)))
    | ((with_reducible first | apply s_slTF | apply s_slFT); (case h0 | h1 | hx => first | rfl | assumption | omega | ((first | refine ⟨?_, ?_⟩ | skip) <;> first | omega | (simp only [lN] <;> omega)) | (simp [elemsK, D.isVal, D.cells, D.closedL, D.closed]; first | done | omega)))
    | ((with_reducible apply s_slTT); (case h0 | h1 | h2 | hx => first | rfl | assumption | omega | ((first | refine ⟨?_, ?_⟩ | skip) <;> first | omega | (simp only [lN] <;> omega)) | (simp [elemsK, D.isVal, D.cells, D.closedL, D.closed]; first | done | omega)))
    | ((with_reducible first | apply s_smTF | apply s_smFT); (case h0 | h1 | hc => first | rfl | assumption | omega | ((first | refine ⟨?_, ?_⟩ | skip) <;> first | omega | (simp only [lN] <;> omega)) | (simp [elemsK, D.isVal, D.cells, D.closedL, D.closed]; first | done | omega)))
    | ((with_reducible apply s_smTT); (case h0 | h1 | h2 | hc => first | rfl | assumption | omega | ((first | refine ⟨?_, ?_⟩ | skip) <;> first | omega | (simp only [lN] <;> omega)) | (simp [elemsK, D.isVal, D.cells, D.closedL, D.closed]; first | done | omega)))
    | ((with_reducible apply s_clr); (case h1 => rfl); (case h2 | h3 => first | rfl | assumption | omega | ((first | refine ⟨?_, ?_⟩ | skip) <;> first | omega | (simp only [lN] <;> omega)) | (simp [elemsK, D.isVal, D.cells, D.closedL, D.closed]; first | done | omega)))
    | with_reducible first | apply cd_dec | apply cd_eq | apply cd_ne | apply cd_split
    | ((with_reducible refine And.intro ?hw ?_); (case hw => first | omega | rfl | exact ⟨_, _, rfl⟩ | assumption | (simp only [lN] <;> omega)))
    | with_reducible intro _)
    all_goals try omega
    refine swp_fam [0, 1, 3, 4] (fun p : Nat × Nat × List (List UInt8) => ⟨[.sl 2 1 0 n cap, .fn (.func 63) [] [.ptr 0 0, .ptr 1 0], .undef, .int .i64 p.2.1, .int .i64 p.1, .undef, .undef, .undef, .undef], [], ⟨[.cells [partsD s, .int .i64 day], .cells [.str kind], .cells (strs p.2.2 ++ und u)], []⟩⟩)
      (fun p => p.1 ≤ n ∧ p.2.1 < p.1 ∧ p.2.2.length = n ∧ p.2.2.take p.2.1 = (N.take p.1).filter (keepK s kind) ∧ p.2.1 = ((N.take p.1).filter (keepK s kind)).length ∧ p.2.2.drop p.1 = N.drop p.1) (fun p => n + 1 - p.1) (i + 1, i, N) ⟨by simp only; omega, by simp, hN.symm, htk.symm, by simp only [htk, List.length_take]; omega, rfl⟩ ?_ ?_
    · simp [keepE, St.keep]
    · rintro ⟨j, k, U⟩ ⟨g1, g2, g3, g4, g5, g6⟩
      simp only at g1 g2 g3 g4 g5 g6 ⊢
      have hsl := su_len U u
      have hrn := fun β τ => rnL_su β τ U u
      by_cases hj : j < n
      · have hjN : j < N.length := by omega
        have hUj : U[j]'(by omega) = N[j] := by
          have := congrArg (fun l => l[0]?) g6
          simp only [List.getElem?_drop, Nat.add_zero] at this
          rw [List.getElem?_eq_getElem (by omega), List.getElem?_eq_getElem hjN] at this
          simpa using this
        have hg := su_get (N := U) (u := u) (show j < U.length by omega)
        rw [hUj] at hg
        have c2 := del63 s hl day kind N[j]
        have hstep : N.take (j + 1) = N.take j ++ [N[j]] := List.take_succ_eq_append_getElem hjN
        have hdrop : ∀ V : List (List UInt8), V.length = n → V.drop j = N.drop j → V.drop (j + 1) = N.drop (j + 1) := fun V _ e => by
          have := congrArg (List.drop 1) e
          simpa [List.drop_drop, Nat.add_comm] using this
        cases hk : keepK s kind N[j]
        · rw [hk] at c2
          repeat' (first
    | with_reducible first | apply swp_seq | apply swp_reg | apply swp_regD | apply swp_block | apply swp_exit | apply swp_ret | apply swp_skip | apply swp_cd
    | simp only [go_sem, seval, pe61, q61, hg, hsl, Nat.mul_one, Nat.zero_add]
    | simp (disch := omega) only [w64, w32, wu8, wu16, wu32, wu64]
    | ((with_reducible refine o_eff [0, 1] [] (c2) ?hs ?he ?hh ?_); (case hs => exact ⟨by simp, by simp, by simp, by simp⟩); (case he => first | rfl | (simp [go_sem, seval, hg, hsl, D.rnL, D.rn, posF, Hp.sel, Blk.rnL, Blk.rn, Tv.rnL, idx, hrn, Own.rn]; done)); (case hh => first | rfl | (simp [go_sem, seval, hg, hsl, D.rnL, D.rn, posF, Hp.sel, Blk.rnL, Blk.rn, Tv.rnL, idx, hrn, Own.rn]; done)); rintro _ _ ⟨rfl, rfl⟩)
    | ((with_reducible apply s_slFF); (case hx => first | rfl | assumption | omega | ((first | refine ⟨?_, ?_⟩ | skip) <;> first | omega | (simp only [lN, hg, hsl, D.rnL, D.rn, posF, Hp.sel, Blk.rnL, Blk.rn, Tv.rnL, idx, hrn, Own.rn] <;> omega)) | (simp [elemsK, D.isVal, D.cells, D.closedL, D.closed, hg, hsl, D.rnL, D.rn, posF, Hp.sel, Blk.rnL, Blk.rn, Tv.rnL, idx, hrn, Own.rn]; first | done | omega)))
    | ((with_reducible first | apply s_slTF | apply s_slFT); (case h0 | h1 | hx => first | rfl | assumption | omega | ((first | refine ⟨?_, ?_⟩ | skip) <;> first | omega | (simp only [lN, hg, hsl, D.rnL, D.rn, posF, Hp.sel, Blk.rnL, Blk.rn, Tv.rnL, idx, hrn, Own.rn] <;> omega)) | (simp [elemsK, D.isVal, D.cells, D.closedL, D.closed, hg, hsl, D.rnL, D.rn, posF, Hp.sel, Blk.rnL, Blk.rn, Tv.rnL, idx, hrn, Own.rn]; first | done | omega)))
    | ((with_reducible apply s_slTT); (case h0 | h1 | h2 | hx => first | rfl | assumption | omega | ((first | refine ⟨?_, ?_⟩ | skip) <;> first | omega | (simp only [lN, hg, hsl, D.rnL, D.rn, posF, Hp.sel, Blk.rnL, Blk.rn, Tv.rnL, idx, hrn, Own.rn] <;> omega)) | (simp [elemsK, D.isVal, D.cells, D.closedL, D.closed, hg, hsl, D.rnL, D.rn, posF, Hp.sel, Blk.rnL, Blk.rn, Tv.rnL, idx, hrn, Own.rn]; first | done | omega)))
    | ((with_reducible first | apply s_smTF | apply s_smFT); (case h0 | h1 | hc => first | rfl | assumption | omega | ((first | refine ⟨?_, ?_⟩ | skip) <;> first | omega | (simp only [lN, hg, hsl, D.rnL, D.rn, posF, Hp.sel, Blk.rnL, Blk.rn, Tv.rnL, idx, hrn, Own.rn] <;> omega)) | (simp [elemsK, D.isVal, D.cells, D.closedL, D.closed, hg, hsl, D.rnL, D.rn, posF, Hp.sel, Blk.rnL, Blk.rn, Tv.rnL, idx, hrn, Own.rn]; first | done | omega)))
    | ((with_reducible apply s_smTT); (case h0 | h1 | h2 | hc => first | rfl | assumption | omega | ((first | refine ⟨?_, ?_⟩ | skip) <;> first | omega | (simp only [lN, hg, hsl, D.rnL, D.rn, posF, Hp.sel, Blk.rnL, Blk.rn, Tv.rnL, idx, hrn, Own.rn] <;> omega)) | (simp [elemsK, D.isVal, D.cells, D.closedL, D.closed, hg, hsl, D.rnL, D.rn, posF, Hp.sel, Blk.rnL, Blk.rn, Tv.rnL, idx, hrn, Own.rn]; first | done | omega)))
    | ((with_reducible apply s_clr); (case h1 => rfl); (case h2 | h3 => first | rfl | assumption | omega | ((first | refine ⟨?_, ?_⟩ | skip) <;> first | omega | (simp only [lN, hg, hsl, D.rnL, D.rn, posF, Hp.sel, Blk.rnL, Blk.rn, Tv.rnL, idx, hrn, Own.rn] <;> omega)) | (simp [elemsK, D.isVal, D.cells, D.closedL, D.closed, hg, hsl, D.rnL, D.rn, posF, Hp.sel, Blk.rnL, Blk.rn, Tv.rnL, idx, hrn, Own.rn]; first | done | omega)))
    | with_reducible first | apply cd_dec | apply cd_eq | apply cd_ne | apply cd_split
    | ((with_reducible refine And.intro ?hw ?_); (case hw => first | omega | rfl | exact ⟨_, _, rfl⟩ | assumption | (simp only [lN, hg, hsl, D.rnL, D.rn, posF, Hp.sel, Blk.rnL, Blk.rn, Tv.rnL, idx, hrn, Own.rn] <;> omega)))
    | with_reducible intro _)
          all_goals try omega
          all_goals refine ⟨(j + 1, k, U), ⟨by simp only; omega, by simp only; omega, g3, ?_, ?_, hdrop U g3 g6⟩, by simp only; omega, ?_⟩
          · simp only [hstep, List.filter_append]; rw [← g4]; simp [List.filter, hk]
          · simp only [hstep, List.filter_append]; rw [List.length_append, ← g5]; simp [List.filter, hk]
          · simp [keepE, St.keep, Hp.back, putAt, bakF, Blk.rnL, Blk.rn, Tv.rnL, D.rnL, D.rn, Own.rn, hrn]
        · rw [hk] at c2
          have hset := su_set (N := U) (u := u) (j := k) N[j] (by omega)
          repeat' (first
    | with_reducible first | apply swp_seq | apply swp_reg | apply swp_regD | apply swp_block | apply swp_exit | apply swp_ret | apply swp_skip | apply swp_cd
    | simp only [go_sem, seval, pe61, q61, hg, hsl, hset, Nat.mul_one, Nat.zero_add]
    | simp (disch := omega) only [w64, w32, wu8, wu16, wu32, wu64]
    | ((with_reducible refine o_eff [0, 1] [] (c2) ?hs ?he ?hh ?_); (case hs => exact ⟨by simp, by simp, by simp, by simp⟩); (case he => first | rfl | (simp [go_sem, seval, hg, hsl, D.rnL, D.rn, posF, Hp.sel, Blk.rnL, Blk.rn, Tv.rnL, idx, hrn, Own.rn]; done)); (case hh => first | rfl | (simp [go_sem, seval, hg, hsl, D.rnL, D.rn, posF, Hp.sel, Blk.rnL, Blk.rn, Tv.rnL, idx, hrn, Own.rn]; done)); rintro _ _ ⟨rfl, rfl⟩)
    | ((with_reducible apply s_slFF); (case hx => first | rfl | assumption | omega | ((first | refine ⟨?_, ?_⟩ | skip) <;> first | omega | (simp only [lN, hg, hsl, D.rnL, D.rn, posF, Hp.sel, Blk.rnL, Blk.rn, Tv.rnL, idx, hrn, Own.rn] <;> omega)) | (simp [elemsK, D.isVal, D.cells, D.closedL, D.closed, hg, hsl, D.rnL, D.rn, posF, Hp.sel, Blk.rnL, Blk.rn, Tv.rnL, idx, hrn, Own.rn]; first | done | omega)))
    | ((with_reducible first | apply s_slTF | apply s_slFT); (case h0 | h1 | hx => first | rfl | assumption | omega | ((first | refine ⟨?_, ?_⟩ | skip) <;> first | omega | (simp only [lN, hg, hsl, D.rnL, D.rn, posF, Hp.sel, Blk.rnL, Blk.rn, Tv.rnL, idx, hrn, Own.rn] <;> omega)) | (simp [elemsK, D.isVal, D.cells, D.closedL, D.closed, hg, hsl, D.rnL, D.rn, posF, Hp.sel, Blk.rnL, Blk.rn, Tv.rnL, idx, hrn, Own.rn]; first | done | omega)))
    | ((with_reducible apply s_slTT); (case h0 | h1 | h2 | hx => first | rfl | assumption | omega | ((first | refine ⟨?_, ?_⟩ | skip) <;> first | omega | (simp only [lN, hg, hsl, D.rnL, D.rn, posF, Hp.sel, Blk.rnL, Blk.rn, Tv.rnL, idx, hrn, Own.rn] <;> omega)) | (simp [elemsK, D.isVal, D.cells, D.closedL, D.closed, hg, hsl, D.rnL, D.rn, posF, Hp.sel, Blk.rnL, Blk.rn, Tv.rnL, idx, hrn, Own.rn]; first | done | omega)))
    | ((with_reducible first | apply s_smTF | apply s_smFT); (case h0 | h1 | hc => first | rfl | assumption | omega | ((first | refine ⟨?_, ?_⟩ | skip) <;> first | omega | (simp only [lN, hg, hsl, D.rnL, D.rn, posF, Hp.sel, Blk.rnL, Blk.rn, Tv.rnL, idx, hrn, Own.rn] <;> omega)) | (simp [elemsK, D.isVal, D.cells, D.closedL, D.closed, hg, hsl, D.rnL, D.rn, posF, Hp.sel, Blk.rnL, Blk.rn, Tv.rnL, idx, hrn, Own.rn]; first | done | omega)))
    | ((with_reducible apply s_smTT); (case h0 | h1 | h2 | hc => first | rfl | assumption | omega | ((first | refine ⟨?_, ?_⟩ | skip) <;> first | omega | (simp only [lN, hg, hsl, D.rnL, D.rn, posF, Hp.sel, Blk.rnL, Blk.rn, Tv.rnL, idx, hrn, Own.rn] <;> omega)) | (simp [elemsK, D.isVal, D.cells, D.closedL, D.closed, hg, hsl, D.rnL, D.rn, posF, Hp.sel, Blk.rnL, Blk.rn, Tv.rnL, idx, hrn, Own.rn]; first | done | omega)))
    | ((with_reducible apply s_clr); (case h1 => rfl); (case h2 | h3 => first | rfl | assumption | omega | ((first | refine ⟨?_, ?_⟩ | skip) <;> first | omega | (simp only [lN, hg, hsl, D.rnL, D.rn, posF, Hp.sel, Blk.rnL, Blk.rn, Tv.rnL, idx, hrn, Own.rn] <;> omega)) | (simp [elemsK, D.isVal, D.cells, D.closedL, D.closed, hg, hsl, D.rnL, D.rn, posF, Hp.sel, Blk.rnL, Blk.rn, Tv.rnL, idx, hrn, Own.rn]; first | done | omega)))
    | with_reducible first | apply cd_dec | apply cd_eq | apply cd_ne | apply cd_split
    | ((with_reducible refine And.intro ?hw ?_); (case hw => first | omega | rfl | exact ⟨_, _, rfl⟩ | assumption | (simp only [lN, hg, hsl, D.rnL, D.rn, posF, Hp.sel, Blk.rnL, Blk.rn, Tv.rnL, idx, hrn, Own.rn] <;> omega)))
    | with_reducible intro _)
          all_goals try omega
          have hrn2 := fun β τ => rnL_su β τ (U.set k N[j]) u
          refine ⟨(j + 1, k + 1, U.set k N[j]), ⟨by simp only; omega, by simp only; omega, by simp [g3], ?_, ?_, hdrop _ (by simp [g3]) ?_⟩, by simp only; omega, ?_⟩
          · simp only [hstep, List.filter_append]
            rw [take_set1 _ (by omega), g4]
            simp [List.filter, hk]
          · simp only [hstep, List.filter_append]
            rw [List.length_append, ← g5]; simp [List.filter, hk]
          · rw [List.drop_set_of_lt (by omega)]; exact g6
          · simp [keepE, St.keep, Hp.back, putAt, bakF, Blk.rnL, Blk.rn, Tv.rnL, D.rnL, D.rn, Own.rn, hrn, hrn2, hset, setL]
      · have hjn : j = n := by omega
        subst hjn
        have hclr := su_clear (u := u) g3 (show k ≤ j by omega)
        have hNt : N.take j = N := List.take_of_length_le (by omega)
        rw [hNt] at g4 g5
        repeat' (first
    | with_reducible first | apply swp_seq | apply swp_reg | apply swp_regD | apply swp_block | apply swp_exit | apply swp_ret | apply swp_skip | apply swp_cd
    | simp only [go_sem, seval, pe61, q61, hsl, hclr, Nat.mul_one, Nat.zero_add]
    | simp (disch := omega) only [w64, w32, wu8, wu16, wu32, wu64]
    | ((with_reducible apply s_slFF); (case hx => first | rfl | assumption | omega | ((first | refine ⟨?_, ?_⟩ | skip) <;> first | omega | (simp only [lN, hsl] <;> omega)) | (simp [elemsK, D.isVal, D.cells, D.closedL, D.closed, hsl]; first | done | omega)))
    | ((with_reducible first | apply s_slTF | apply s_slFT); (case h0 | h1 | hx => first | rfl | assumption | omega | ((first | refine ⟨?_, ?_⟩ | skip) <;> first | omega | (simp only [lN, hsl] <;> omega)) | (simp [elemsK, D.isVal, D.cells, D.closedL, D.closed, hsl]; first | done | omega)))
    | ((with_reducible apply s_slTT); (case h0 | h1 | h2 | hx => first | rfl | assumption | omega | ((first | refine ⟨?_, ?_⟩ | skip) <;> first | omega | (simp only [lN, hsl] <;> omega)) | (simp [elemsK, D.isVal, D.cells, D.closedL, D.closed, hsl]; first | done | omega)))
    | ((with_reducible first | apply s_smTF | apply s_smFT); (case h0 | h1 | hc => first | rfl | assumption | omega | ((first | refine ⟨?_, ?_⟩ | skip) <;> first | omega | (simp only [lN, hsl] <;> omega)) | (simp [elemsK, D.isVal, D.cells, D.closedL, D.closed, hsl]; first | done | omega)))
    | ((with_reducible apply s_smTT); (case h0 | h1 | h2 | hc => first | rfl | assumption | omega | ((first | refine ⟨?_, ?_⟩ | skip) <;> first | omega | (simp only [lN, hsl] <;> omega)) | (simp [elemsK, D.isVal, D.cells, D.closedL, D.closed, hsl]; first | done | omega)))
    | ((with_reducible apply s_clr); (case h1 => rfl); (case h2 | h3 => first | rfl | assumption | omega | ((first | refine ⟨?_, ?_⟩ | skip) <;> first | omega | (simp only [lN, hsl] <;> omega)) | (simp [elemsK, D.isVal, D.cells, D.closedL, D.closed, hsl]; first | done | omega)))
    | with_reducible first | apply cd_dec | apply cd_eq | apply cd_ne | apply cd_split
    | ((with_reducible refine And.intro ?hw ?_); (case hw => first | omega | rfl | exact ⟨_, _, rfl⟩ | assumption | (simp only [lN, hsl] <;> omega)))
    | with_reducible intro _)
        all_goals try omega
        refine ⟨_, weak_refl, j - k, by unfold keptN; omega, by simp [keptN, g5], List.replicate (j - k) [], by simp, ?_⟩
        simp only [g4, keptN]
  · have hb : ∀ j (hj : j < n), keepK s kind (N[j]'(by omega)) = true := fun j hj => by simpa using h j (by omega)
    have c1 := if73 s hl day kind N u n cap hN hc hn12 n (Nat.le_refl _) hb (-1) (.inl ⟨rfl, rfl⟩)
    have hall : keptN s kind N = N := by
      unfold keptN
      rw [List.filter_eq_self]
      intro x hx
      obtain ⟨j, hj, rfl⟩ := List.getElem_of_mem hx
      exact hb j (by omega)
    rw [hall]
    unfold kindN at c1 ⊢
    repeat' (first
    | with_reducible first | apply swp_seq | apply swp_reg | apply swp_regD | apply swp_block | apply swp_exit | apply swp_ret | apply swp_skip | apply swp_cd
    | simp only [go_sem, seval, pe61, q61]
    | simp (disch := omega) only [w64, w32, wu8, wu16, wu32, wu64]
    | ((with_reducible refine o_same (c1) ?he ?hh ?_); (case he => first | rfl | (simp [go_sem, seval]; done)); (case hh => first | rfl | (simp [go_sem, seval]; done)))
    | ((with_reducible apply s_slFF); (case hx => first | rfl | assumption | omega | ((first | refine ⟨?_, ?_⟩ | skip) <;> first | omega | (simp only [lN] <;> omega)) | (simp [elemsK, D.isVal, D.cells, D.closedL, D.closed]; first | done | omega)))
    | ((with_reducible first | apply s_slTF | apply s_slFT); (case h0 | h1 | hx => first | rfl | assumption | omega | ((first | refine ⟨?_, ?_⟩ | skip) <;> first | omega | (simp only [lN] <;> omega)) | (simp [elemsK, D.isVal, D.cells, D.closedL, D.closed]; first | done | omega)))
    | ((with_reducible apply s_slTT); (case h0 | h1 | h2 | hx => first | rfl | assumption | omega | ((first | refine ⟨?_, ?_⟩ | skip) <;> first | omega | (simp only [lN] <;> omega)) | (simp [elemsK, D.isVal, D.cells, D.closedL, D.closed]; first | done | omega)))
    | ((with_reducible first | apply s_smTF | apply s_smFT); (case h0 | h1 | hc => first | rfl | assumption | omega | ((first | refine ⟨?_, ?_⟩ | skip) <;> first | omega | (simp only [lN] <;> omega)) | (simp [elemsK, D.isVal, D.cells, D.closedL, D.closed]; first | done | omega)))
    | ((with_reducible apply s_smTT); (case h0 | h1 | h2 | hc => first | rfl | assumption | omega | ((first | refine ⟨?_, ?_⟩ | skip) <;> first | omega | (simp only [lN] <;> omega)) | (simp [elemsK, D.isVal, D.cells, D.closedL, D.closed]; first | done | omega)))
    | ((with_reducible apply s_clr); (case h1 => rfl); (case h2 | h3 => first | rfl | assumption | omega | ((first | refine ⟨?_, ?_⟩ | skip) <;> first | omega | (simp only [lN] <;> omega)) | (simp [elemsK, D.isVal, D.cells, D.closedL, D.closed]; first | done | omega)))
    | with_reducible first | apply cd_dec | apply cd_eq | apply cd_ne | apply cd_split
    | ((with_reducible refine And.intro ?hw ?_); (case hw => first | omega | rfl | exact ⟨_, _, rfl⟩ | assumption | (simp only [lN] <;> omega)))
    | with_reducible intro _)
    refine ⟨_, weak_refl, 0, by omega, by simp [hN], [], rfl, by simp⟩
theorem if73_e (f : FuncId) (a c : List D) (hp : Hp) : Eff M 73 [.slice [] .no, .fn (.func f) a c] hp fun d hp' => d = .int .i64 (-1) ∧ hp' = hp := by
  refine oe73 hp.H.length hp.tk.length rfl rfl rfl ?_
  rw [ie73]
  unfold c73
  repeat' (first
    | with_reducible first | apply swp_seq | apply swp_reg | apply swp_regD | apply swp_block | apply swp_exit | apply swp_ret | apply swp_skip | apply swp_cd
    | simp only [go_sem, seval, pe73, q73]
    | with_reducible first | apply cd_dec | apply cd_eq | apply cd_ne | apply cd_split
    | ((with_reducible refine And.intro ?hw ?_); (case hw => first | omega | rfl | exact ⟨_, _, rfl⟩ | assumption | (simp only [lN] <;> omega)))
    | with_reducible intro _)
  refine swp_fam [0, 1, 2, 4, 5] (fun _ : Unit => ⟨[.slice [] .no, .fn (.func f) a c, .int .i64 0, .undef, .int .i64 0, .int .i64 0, .undef, .undef], [], hp⟩) (fun _ => True) (fun _ => 0) () trivial ?_ ?_
  · simp [keepE, St.keep]
  · intro _ _
    repeat' (first
    | with_reducible first | apply swp_seq | apply swp_reg | apply swp_regD | apply swp_block | apply swp_exit | apply swp_ret | apply swp_skip | apply swp_cd
    | simp only [go_sem, seval, pe73, q73]
    | simp (disch := omega) only [w64, w32, wu8, wu16, wu32, wu64]
    | with_reducible first | apply cd_dec | apply cd_eq | apply cd_ne | apply cd_split
    | ((with_reducible refine And.intro ?hw ?_); (case hw => first | omega | rfl | exact ⟨_, _, rfl⟩ | assumption | (simp only [lN] <;> omega)))
    | with_reducible intro _)
    all_goals first | omega | exact ⟨_, weak_refl, by simp⟩
theorem del61_e (f : FuncId) (a c : List D) (hp : Hp) : Eff M 61 [.slice [] .no, .fn (.func f) a c] hp fun d hp' => d = .slice [] .no ∧ hp' = hp := by
  refine oe61 hp.H.length hp.tk.length rfl rfl rfl ?_
  rw [ie61]
  unfold c61
  have c1 := if73_e f a c hp
  repeat' (first
    | with_reducible first | apply swp_seq | apply swp_reg | apply swp_regD | apply swp_block | apply swp_exit | apply swp_ret | apply swp_skip | apply swp_cd
    | simp only [go_sem, seval, pe61, q61]
    | simp (disch := omega) only [w64, w32, wu8, wu16, wu32, wu64]
    | ((with_reducible refine o_same (c1) ?he ?hh ?_); (case he => first | rfl | (simp [go_sem, seval]; done)); (case hh => first | rfl | (simp [go_sem, seval]; done)))
    | ((with_reducible apply s_slFF); (case hx => first | rfl | assumption | omega | ((first | refine ⟨?_, ?_⟩ | skip) <;> first | omega | (simp only [lN] <;> omega)) | (simp [elemsK, D.isVal, D.cells, D.closedL, D.closed]; first | done | omega)))
    | ((with_reducible first | apply s_slTF | apply s_slFT); (case h0 | h1 | hx => first | rfl | assumption | omega | ((first | refine ⟨?_, ?_⟩ | skip) <;> first | omega | (simp only [lN] <;> omega)) | (simp [elemsK, D.isVal, D.cells, D.closedL, D.closed]; first | done | omega)))
    | ((with_reducible apply s_slTT); (case h0 | h1 | h2 | hx => first | rfl | assumption | omega | ((first | refine ⟨?_, ?_⟩ | skip) <;> first | omega | (simp only [lN] <;> omega)) | (simp [elemsK, D.isVal, D.cells, D.closedL, D.closed]; first | done | omega)))
    | ((with_reducible first | apply s_smTF | apply s_smFT); (case h0 | h1 | hc => first | rfl | assumption | omega | ((first | refine ⟨?_, ?_⟩ | skip) <;> first | omega | (simp only [lN] <;> omega)) | (simp [elemsK, D.isVal, D.cells, D.closedL, D.closed]; first | done | omega)))
    | ((with_reducible apply s_smTT); (case h0 | h1 | h2 | hc => first | rfl | assumption | omega | ((first | refine ⟨?_, ?_⟩ | skip) <;> first | omega | (simp only [lN] <;> omega)) | (simp [elemsK, D.isVal, D.cells, D.closedL, D.closed]; first | done | omega)))
    | ((with_reducible apply s_clr); (case h1 => rfl); (case h2 | h3 => first | rfl | assumption | omega | ((first | refine ⟨?_, ?_⟩ | skip) <;> first | omega | (simp only [lN] <;> omega)) | (simp [elemsK, D.isVal, D.cells, D.closedL, D.closed]; first | done | omega)))
    | with_reducible first | apply cd_dec | apply cd_eq | apply cd_ne | apply cd_split
    | ((with_reducible refine And.intro ?hw ?_); (case hw => first | omega | rfl | exact ⟨_, _, rfl⟩ | assumption | (simp only [lN] <;> omega)))
    | with_reducible intro _)
  all_goals first | omega | exact ⟨_, weak_refl, by simp⟩
theorem chunk_su : ∀ (K : List (List UInt8)) (r : List D), chunk 1 K.length (strs K ++ r) = strs K
  | [], r => rfl
  | x :: K, r => by
    have := chunk_su K r
    simp only [strs, List.map_cons, List.length_cons, chunk, List.cons_append, List.drop_succ_cons, List.drop_zero] at this ⊢
    rw [this]; rfl
theorem kinds_eq (s : List Pt) (part kind : List UInt8) : keptN s kind (insideF s part) = kindsIn s part kind := rfl
theorem cl_und (n : Nat) : D.closedL (und n) = true := by
  unfold und
  induction n with
  | zero => rfl
  | succ n ih => simp [List.replicate_succ, D.closedL, D.closed, ih]
theorem closedL_app : ∀ (a b : List D), D.closedL a = true → D.closedL b = true → D.closedL (a ++ b) = true
  | [], b, _, h => h
  | x :: a, b, h1, h2 => by
    simp only [D.closedL, Bool.and_eq_true, List.cons_append] at h1 ⊢
    exact ⟨h1.1, closedL_app a b h1.2 h2⟩
theorem er_und (n : Nat) : D.erL (und n) = und n := by
  unfold und
  induction n with
  | zero => rfl
  | succ n ih => simp [List.replicate_succ, D.erL, D.er, ih]
theorem erL_app : ∀ (a b : List D), D.erL (a ++ b) = D.erL a ++ D.erL b
  | [], b => rfl
  | x :: a, b => by simp [D.erL, erL_app a b]
theorem bfs_len : ∀ (k : Nat) (r : List (Tx × Tx)) (l : List Tx), (bfs k r l).length ≤ r.length
  | 0, r, l => by simp [bfs]
  | k + 1, r, l => by
    simp only [bfs]
    split
    · simp
    · have h1 := bfs_len k (r.filter fun x => !l.contains x.2) ((r.filter fun x => l.contains x.2).map (·.1))
      have h2 := filt_len (fun x : Tx × Tx => l.contains x.2) r
      rw [List.length_append, List.length_map]
      omega
theorem fitted_len (s : List Pt) (part : List UInt8) : (fitted s part).length ≤ s.length := by
  unfold fitted
  rw [List.length_map]
  refine Nat.le_trans (List.length_filter_le _ _) ?_
  rw [← firstsI_fst s [] 0, List.length_map]
  exact firstsI_len s
theorem inside_le (s : List Pt) (part : List UInt8) : (insideF s part).length ≤ s.length := by
  unfold insideF
  cases getP s part with
  | none => simp
  | some p =>
    simp only
    rw [(isort_perm _).length_eq]
    exact Nat.le_trans (bfs_len _ _ _) (fitted_len s part)
theorem inside_len {s : List Pt} (hl : s.length ≤ 12) (part : List UInt8) : (insideF s part).length < 1000000 := by
  have := inside_le s part; omega
theorem o_sameR {P : Mod} {f : FuncId} {first cap args ds : List D} {hp0 : Hp} {R : D → Hp → Prop} {dst : Dst} {r : List RO} {K : St → Prop} {s : St} (h : Eff P f args hp0 R) (he : first ++ ds ++ cap = args) (hh : s.hp = hp0)
    (hk : ∀ d hp1, R d hp1 → opsWp P r K ({ s with hp := hp1 }.put dst d)) : OpS P .call (.fn (.func f) first cap :: ds) dst r K s := by
  unfold OpS OcWp
  simp only [isCall, if_true]
  subst he; subst hh
  exact call_same h hk
set_option maxHeartbeats 1000000 in
theorem kinds_p (s : List Pt) (hl : s.length ≤ 12) (day : Int) (part kind : List UInt8) : Pur M 48 [.agg [partsD s, .int .i64 day], .str part, .str kind] (.slice (strs (kindsIn s part kind)) .no) := by
  refine ow48 rfl ?_
  rw [i48]
  unfold c48
  have c1 := inside_r s hl part
  have hcl := cl_parts s
  have her := erL_P s
  repeat' (first
    | with_reducible first | apply swp_seq | apply swp_reg | apply swp_regD | apply swp_block | apply swp_exit | apply swp_ret | apply swp_skip | apply swp_cd
    | simp only [go_sem, seval, P48, q48]
    | with_reducible first | apply cd_dec | apply cd_eq | apply cd_ne | apply cd_split
    | ((with_reducible refine And.intro ?hw ?_); (case hw => first | omega | rfl | exact ⟨_, _, rfl⟩ | assumption | (simp only [lN] <;> omega)))
    | with_reducible intro _)
  refine o_eff [] [] c1 ⟨by simp, by simp, by simp, by simp⟩ (by simp [D.rnL, D.rn, Own.rn]) rfl (fun d hp1 hR => ?_)
  rcases hR with ⟨h1, rfl, rfl⟩ | ⟨cap, h1, h2, rfl, rfl⟩
  · have c2 := del61_e 63 [] [.ptr 0 0, .ptr 1 0] ⟨kindH s day kind, []⟩
    have hk : kindsIn s part kind = [] := by rw [← kinds_eq, h1]; rfl
    rw [hk]
    repeat' (first
    | with_reducible first | apply swp_seq | apply swp_reg | apply swp_regD | apply swp_block | apply swp_exit | apply swp_ret | apply swp_skip | apply swp_cd
    | simp only [go_sem, seval, P48, q48]
    | ((with_reducible refine o_same (c2) ?he ?hh ?_); (case he => first | rfl | (simp [go_sem, seval, Hp.back, putAt, bakF, Blk.rnL, Tv.rnL, D.rn, Own.rn]; done)); (case hh => first | rfl | (simp [go_sem, seval, Hp.back, putAt, bakF, Blk.rnL, Tv.rnL, D.rn, Own.rn]; done)))
    | with_reducible first | apply cd_dec | apply cd_eq | apply cd_ne | apply cd_split
    | ((with_reducible refine And.intro ?hw ?_); (case hw => first | omega | rfl | exact ⟨_, _, rfl⟩ | assumption | (simp only [lN, Hp.back, putAt, bakF, Blk.rnL, Tv.rnL, D.rn, Own.rn] <;> omega)))
    | with_reducible intro _)
    all_goals refine ⟨_, weak_refl, ?_⟩
    all_goals simp [D.closed, D.er, D.erL, strs]
  · have c2 := del61 s hl day kind (insideF s part) (cap - (insideF s part).length) (insideF s part).length cap rfl (by omega) (inside_len hl part)
    have hrn := fun β τ => rnL_su β τ (insideF s part) (cap - (insideF s part).length)
    rw [← kinds_eq]
    generalize insideF s part = N at *
    repeat' (first
    | with_reducible first | apply swp_seq | apply swp_reg | apply swp_regD | apply swp_block | apply swp_exit | apply swp_ret | apply swp_skip | apply swp_cd
    | simp only [go_sem, seval, P48, q48, Hp.back, putAt, bakF, Blk.rnL, Blk.rn, Tv.rnL, D.rn, Own.rn, hrn]
    | with_reducible first | apply cd_dec | apply cd_eq | apply cd_ne | apply cd_split
    | ((with_reducible refine And.intro ?hw ?_); (case hw => first | omega | rfl | exact ⟨_, _, rfl⟩ | assumption | (simp only [lN, Hp.back, putAt, bakF, Blk.rnL, Tv.rnL, D.rn, Own.rn, hrn] <;> omega)))
    | with_reducible intro _)
    refine o_sameR c2 (by simp [bakF]) (by simp [Hp.back, putAt, bakF, Blk.rnL, Blk.rn, Tv.rnL, hrn]) (fun d hp1 hR => ?_)
    obtain ⟨W, hW, rfl, Z, hZ, rfl⟩ := hR
    have hcs := cl_strs (keptN s kind N ++ Z)
    have hes := er_strs (keptN s kind N ++ Z)
    have hck := cl_strs (keptN s kind N)
    have hek := er_strs (keptN s kind N)
    have hcc := closedL_app _ _ hcs (cl_und (cap - N.length))
    have hch : chunk 1 (keptN s kind N).length (strs (keptN s kind N ++ Z) ++ und (cap - N.length)) = strs (keptN s kind N) := by
      rw [← strs_app, List.append_assoc]; exact chunk_su _ _
    have hel := elems_strs (keptN s kind N)
    have hll : (strs (keptN s kind N ++ Z) ++ und (cap - N.length)).length = cap := by rw [su_len]; simp; omega
    repeat' (first
    | with_reducible first | apply swp_seq | apply swp_reg | apply swp_regD | apply swp_block | apply swp_exit | apply swp_ret | apply swp_skip | apply swp_cd
    | simp only [go_sem, seval, P48, q48]
    | with_reducible first | apply cd_dec | apply cd_eq | apply cd_ne | apply cd_split
    | ((with_reducible refine And.intro ?hw ?_); (case hw => first | omega | rfl | exact ⟨_, _, rfl⟩ | assumption | (simp only [lN] <;> omega)))
    | with_reducible intro _)
    refine ⟨_, weak_trans (weak_keep [5]) (weak_frz 2 (strs (keptN s kind N ++ Z) ++ und (cap - N.length)) rfl (Nat.zero_le _) hcc), ?_⟩
    have he2 : D.erL (strs (keptN s kind N ++ Z) ++ und (cap - N.length)) = strs (keptN s kind N ++ Z) ++ und (cap - N.length) := by rw [erL_app, hes, er_und]
    rw [he2]
    have hle : (keptN s kind N).length ≤ cap := by omega
    simp only [St.frz, keepE, D.fz, hch, hel, hll]
    simp [D.fz, hch, hel, hll, hle, D.closed, D.er, hck, hek]
end Go.Proofs.Ytcchbohfcmfmlaa
end
section
set_option maxRecDepth 100000
set_option linter.unusedSimpArgs false
set_option linter.unusedVariables false
namespace Go.Proofs.Ytcchbohfcmfmlaa
open Go GoV Go.RowKit
theorem since_p (day frm : Int) (h1 : 0 ≤ day) (h2 : day ≤ 40000) (h3 : -9223372036854775808 ≤ frm) : Pur M 67 [.int .i64 day, .int .i64 frm] (ivD (sinceF day frm)) := by
  refine ok67 rfl ?_
  rw [i67]
  unfold c67
  have e : sinceF day frm = if frm ≥ day then (0, 0) else (day - (if day - 1000000000000 > frm then day - 1000000000000 else frm), day - (if day - 1000000000000 > frm then day - 1000000000000 else frm)) := rfl
  rw [e]
  by_cases h : frm ≥ day
  · have hd : decide (day ≤ frm) = true := decide_eq_true h
    rw [if_pos h]
    repeat' (first
    | with_reducible first | apply swp_seq | apply swp_reg | apply swp_regD | apply swp_block | apply swp_exit | apply swp_ret | apply swp_skip | apply swp_cd
    | simp only [go_sem, seval, P67, q67, foldI, hd, fillL]
    | simp (disch := omega) only [w64, w32, wu8, wu16, wu32, wu64]
    | with_reducible first | apply cd_dec | apply cd_eq | apply cd_ne | apply cd_split
    | ((with_reducible refine And.intro ?hw ?_); (case hw => first | omega | rfl | exact ⟨_, _, rfl⟩ | assumption | (simp only [lN] <;> omega)))
    | with_reducible intro _)
    all_goals first | omega | (simp_all [D.closed, D.er, D.closedL, D.erL, setL]; done) | (simp_all [D.closed, D.er, D.closedL, D.erL, setL] <;> omega)
  · have hd : decide (day ≤ frm) = false := decide_eq_false h
    rw [if_neg h]
    have hw : IntKind.i64.wrap (day - 1000000000000) = day - 1000000000000 := w64 (by omega) (by omega)
    have hm : day - (if day - 1000000000000 > frm then day - 1000000000000 else frm) ≤ 1000000000000 ∧ 0 ≤ day - (if day - 1000000000000 > frm then day - 1000000000000 else frm) := by split <;> omega
    generalize hg : (if day - 1000000000000 > frm then day - 1000000000000 else frm) = mx at *
    have hg' : (if frm < day - 1000000000000 then day - 1000000000000 else frm) = mx := hg
    repeat' (first
    | with_reducible first | apply swp_seq | apply swp_reg | apply swp_regD | apply swp_block | apply swp_exit | apply swp_ret | apply swp_skip | apply swp_cd
    | simp only [go_sem, seval, P67, q67, foldI, hd, hw, hg, hg', fillL]
    | simp (disch := omega) only [w64, w32, wu8, wu16, wu32, wu64]
    | with_reducible first | apply cd_dec | apply cd_eq | apply cd_ne | apply cd_split
    | ((with_reducible refine And.intro ?hw ?_); (case hw => first | omega | rfl | exact ⟨_, _, rfl⟩ | assumption | (simp only [lN] <;> omega)))
    | with_reducible intro _)
    all_goals first | omega | (simp_all [D.closed, D.er, D.closedL, D.erL, setL]; done) | (simp_all [D.closed, D.er, D.closedL, D.erL, setL] <;> omega)
theorem km_p (p : Pt) (day : Int) : Pur M 68 [ptD p, .int .i64 day] (ivD p.km) := by
  refine ok68 rfl ?_
  rw [i68]
  unfold c68
  unfold ptD
  repeat' (first
    | with_reducible first | apply swp_seq | apply swp_reg | apply swp_regD | apply swp_block | apply swp_exit | apply swp_ret | apply swp_skip | apply swp_cd
    | simp only [go_sem, seval, P68, q68]
    | with_reducible first | apply cd_dec | apply cd_eq | apply cd_ne | apply cd_split
    | ((with_reducible refine And.intro ?hw ?_); (case hw => first | omega | rfl | exact ⟨_, _, rfl⟩ | assumption | (simp only [lN] <;> omega)))
    | with_reducible intro _)
  all_goals first | omega | (simp_all [D.closed, D.er, D.closedL, D.erL, setL]; done) | (simp_all [D.closed, D.er, D.closedL, D.erL, setL] <;> omega)
theorem cy_p (p : Pt) (day : Int) : Pur M 69 [ptD p, .int .i64 day] (ivD p.cy) := by
  refine ok69 rfl ?_
  rw [i69]
  unfold c69
  unfold ptD
  repeat' (first
    | with_reducible first | apply swp_seq | apply swp_reg | apply swp_regD | apply swp_block | apply swp_exit | apply swp_ret | apply swp_skip | apply swp_cd
    | simp only [go_sem, seval, P69, q69]
    | with_reducible first | apply cd_dec | apply cd_eq | apply cd_ne | apply cd_split
    | ((with_reducible refine And.intro ?hw ?_); (case hw => first | omega | rfl | exact ⟨_, _, rfl⟩ | assumption | (simp only [lN] <;> omega)))
    | with_reducible intro _)
  all_goals first | omega | (simp_all [D.closed, D.er, D.closedL, D.erL, setL]; done) | (simp_all [D.closed, D.er, D.closedL, D.erL, setL] <;> omega)
theorem dm_p (p : Pt) (day : Int) : Pur M 70 [ptD p, .int .i64 day] (ivD p.dm) := by
  refine ok70 rfl ?_
  rw [i70]
  unfold c70
  unfold ptD
  repeat' (first
    | with_reducible first | apply swp_seq | apply swp_reg | apply swp_regD | apply swp_block | apply swp_exit | apply swp_ret | apply swp_skip | apply swp_cd
    | simp only [go_sem, seval, P70, q70]
    | with_reducible first | apply cd_dec | apply cd_eq | apply cd_ne | apply cd_split
    | ((with_reducible refine And.intro ?hw ?_); (case hw => first | omega | rfl | exact ⟨_, _, rfl⟩ | assumption | (simp only [lN] <;> omega)))
    | with_reducible intro _)
  all_goals first | omega | (simp_all [D.closed, D.er, D.closedL, D.erL, setL]; done) | (simp_all [D.closed, D.er, D.closedL, D.erL, setL] <;> omega)
abbrev fnH : Hp := ⟨[.cells [.fn (.func 67) [] []]], []⟩
theorem days_p (p : Pt) (day : Int) (h1 : 0 ≤ day) (h2 : day ≤ 40000) (h3 : -9223372036854775808 ≤ p.since) : Eff M 71 [ptD p, .int .i64 day, .ptr 0 0] fnH fun d hp => d = ivD (sinceF day p.since) ∧ hp = fnH := by
  have c1 := since_p day p.since h1 h2 h3
  generalize sinceF day p.since = v at *
  refine eff_cut 1 0 (hp1 := ⟨[.cells [.fn (.func 67) [] []], .cells [.int .i64 v.1, .int .i64 v.2]], []⟩) (d0 := ivD v) (oe71 1 0 rfl rfl rfl ?_) (Nat.le_refl 1) (Nat.zero_le 0) (by simp [D.rn, D.rnL]) (by simp [Hp.cut, Blk.rnL, Blk.rn, Tv.rnL, D.rnL, D.rn])
  rw [ie71]
  unfold c71
  unfold ptD fnH
  repeat' (first
    | with_reducible first | apply swp_seq | apply swp_reg | apply swp_regD | apply swp_block | apply swp_exit | apply swp_ret | apply swp_skip | apply swp_cd
    | simp only [go_sem, seval, pe71, q71]
    | ((with_reducible refine o_call (c1) ?he ?hc ?_); (case he | hc => first | rfl | (simp [D.erL, D.er, D.closedL, D.closed]; done)))
    | with_reducible first | apply cd_dec | apply cd_eq | apply cd_ne | apply cd_split
    | ((with_reducible refine And.intro ?hw ?_); (case hw => first | omega | rfl | exact ⟨_, _, rfl⟩ | assumption | (simp only [lN] <;> omega)))
    | with_reducible intro _)
  refine ⟨_, weak_sel [0, 2] [] ⟨by simp, by simp, by simp, by simp⟩ rfl rfl, ?_⟩
  simp [St.sel, Hp.sel, D.rnL, D.rn, posF, idx, Blk.rn, Blk.rnL, Tv.rnL, Own.rn, setL]
  exact ⟨_, rfl, by simp, by simp⟩
theorem age_p (p : Pt) (day : Int) (h1 : 0 ≤ day) (h2 : day ≤ 40000) (h3 : -9223372036854775808 ≤ p.made) : Eff M 72 [ptD p, .int .i64 day, .ptr 0 0] fnH fun d hp => d = ivD (sinceF day p.made) ∧ hp = fnH := by
  have c1 := since_p day p.made h1 h2 h3
  generalize sinceF day p.made = v at *
  refine eff_cut 1 0 (hp1 := ⟨[.cells [.fn (.func 67) [] []], .cells [.int .i64 v.1, .int .i64 v.2]], []⟩) (d0 := ivD v) (oe72 1 0 rfl rfl rfl ?_) (Nat.le_refl 1) (Nat.zero_le 0) (by simp [D.rn, D.rnL]) (by simp [Hp.cut, Blk.rnL, Blk.rn, Tv.rnL, D.rnL, D.rn])
  rw [ie72]
  unfold c72
  unfold ptD fnH
  repeat' (first
    | with_reducible first | apply swp_seq | apply swp_reg | apply swp_regD | apply swp_block | apply swp_exit | apply swp_ret | apply swp_skip | apply swp_cd
    | simp only [go_sem, seval, pe72, q72]
    | ((with_reducible refine o_call (c1) ?he ?hc ?_); (case he | hc => first | rfl | (simp [D.erL, D.er, D.closedL, D.closed]; done)))
    | with_reducible first | apply cd_dec | apply cd_eq | apply cd_ne | apply cd_split
    | ((with_reducible refine And.intro ?hw ?_); (case hw => first | omega | rfl | exact ⟨_, _, rfl⟩ | assumption | (simp only [lN] <;> omega)))
    | with_reducible intro _)
  refine ⟨_, weak_sel [0, 2] [] ⟨by simp, by simp, by simp, by simp⟩ rfl rfl, ?_⟩
  simp [St.sel, Hp.sel, D.rnL, D.rn, posF, idx, Blk.rn, Blk.rnL, Tv.rnL, Own.rn, setL]
  exact ⟨_, rfl, by simp, by simp⟩
def curE : List (D × D × Nat) := [(.str kKm, .fn (.func 68) [] [], 0), (.str kCy, .fn (.func 69) [] [], 1), (.str kDm, .fn (.func 70) [] [], 2), (.str kDays, .fn (.func 71) [] [.ptr 0 0], 3), (.str kAge, .fn (.func 72) [] [.ptr 0 0], 4)]
abbrev curH : Hp := ⟨[.cells [.fn (.func 67) [] []], .map curE 5], []⟩
theorem cur_e : Eff M 56 [] ⟨[], []⟩ fun d hp => d = .mp 1 ∧ hp = curH := by
  refine oe56 0 0 rfl rfl rfl ?_
  rw [ie56]
  unfold c56
  repeat' (first
    | with_reducible first | apply swp_seq | apply swp_reg | apply swp_regD | apply swp_block | apply swp_exit | apply swp_ret | apply swp_skip | apply swp_cd
    | simp only [go_sem, seval, pe56, q56, o_newM]
    | ((with_reducible apply s_mpu); (case h1 | hk => rfl); (case ha | hp => first | rfl | assumption | omega | ((first | refine ⟨?_, ?_⟩ | skip) <;> first | omega | (simp only [lN, putM, findM, keq, List.all, keyOk] <;> omega)) | (simp [elemsK, D.isVal, D.cells, D.closedL, D.closed, putM, findM, keq, List.all, keyOk]; first | done | omega)))
    | with_reducible first | apply cd_dec | apply cd_eq | apply cd_ne | apply cd_split
    | ((with_reducible refine And.intro ?hw ?_); (case hw => first | omega | rfl | exact ⟨_, _, rfl⟩ | assumption | (simp only [lN, putM, findM, keq, List.all, keyOk] <;> omega)))
    | with_reducible intro _)
  exact ⟨_, weak_refl, rfl, by simp [putM, findM, keq, curE, kKm, kCy, kDm, kDays, kAge]⟩
def lifeE (cur : List UInt8) (day : Int) : Int := if known cur = false then 15 else if day < 0 ∨ day > 40000 then 13 else 0
def lifeD (p : Pt) (cur : List UInt8) (day : Int) : D := match lifeV p cur day with | some v => ivD v | none => ivD (0, 0)
set_option maxHeartbeats 1000000 in
theorem value_p (p : Pt) (cur : List UInt8) (day : Int) (h3 : -9223372036854775808 ≤ p.since) (h4 : -9223372036854775808 ≤ p.made) :
    Pur M 40 [ptD p, .str cur, .int .i64 day] (.tup [lifeD p cur day, .int .i64 (lifeE cur day)]) := by
  refine ok40 rfl ?_
  rw [i40]
  unfold c40
  have c0 := cur_e
  have ca := km_p p day
  have cb := cy_p p day
  have cc := dm_p p day
  have cd := fun h1 h2 => days_p p day h1 h2 h3
  have ce := fun h1 h2 => age_p p day h1 h2 h4
  have eE : ∀ β τ : Nat → Option Nat, pairs (bakF [] 2) τ curE = [(.str kKm, .fn (.func 68) [] [], 0), (.str kCy, .fn (.func 69) [] [], 1), (.str kDm, .fn (.func 70) [] [], 2), (.str kDays, .fn (.func 71) [] [.ptr 2 0], 3), (.str kAge, .fn (.func 72) [] [.ptr 2 0], 4)] := fun β τ => by
    simp [curE, pairs, D.rn, D.rnL, bakF]
  have hok : ((pairs (bakF [] 2) (bakF [] 0) curE).all fun e => keyOk .str e.1) = true := by rw [eE (bakF [] 2)]; rfl
  unfold curH at c0
  by_cases hkKm : cur = kKm
  · subst hkKm
    have hf : findM (.str kKm) (pairs (bakF [] 2) (bakF [] 0) curE) 0 = some (0, .fn (.func 68) [] []) := by rw [eE (bakF [] 2)]; rfl
    by_cases hd : day < 0 ∨ day > 40000
    · have r1 : lifeD p kKm day = ivD (0, 0) := by simp [lifeD, lifeV, hd]
      have r2 : lifeE kKm day = 13 := by simp [lifeE, known, hd]
      rw [r1, r2]
      unfold ptD
      by_cases hd1 : day < 0
      · have e1 : decide (day < 0) = true := decide_eq_true hd1
        repeat' (first
    | with_reducible first | apply swp_seq | apply swp_reg | apply swp_regD | apply swp_block | apply swp_exit | apply swp_ret | apply swp_skip | apply swp_cd
    | simp only [go_sem, seval, P40, q40, e1, D.rn, D.rnL, bakF, fillL]
    | ((with_reducible refine o_eff [] [] (c0) ?hs ?he ?hh ?_); (case hs => exact ⟨by simp, by simp, by simp, by simp⟩); (case he => first | rfl | (simp [go_sem, seval, hf, hok]; done)); (case hh => first | rfl | (simp [go_sem, seval, hf, hok]; done)); rintro _ _ ⟨rfl, rfl⟩)
    | ((with_reducible apply s_lkpS); (case h1 | hk => rfl); (case ha | hf => first | rfl | assumption | omega | ((first | refine ⟨?_, ?_⟩ | skip) <;> first | omega | (simp only [lN, hf, hok] <;> omega)) | (simp [elemsK, D.isVal, D.cells, D.closedL, D.closed, hf, hok]; first | done | omega)))
    | ((with_reducible apply s_lkpN); (case h1 | hk => rfl); (case hf | ha => first | rfl | assumption | omega | ((first | refine ⟨?_, ?_⟩ | skip) <;> first | omega | (simp only [lN, hf, hok] <;> omega)) | (simp [elemsK, D.isVal, D.cells, D.closedL, D.closed, hf, hok]; first | done | omega)))
    | with_reducible first | apply cd_dec | apply cd_eq | apply cd_ne | apply cd_split | apply gd_dec | apply gd_eq | apply gd_ne | apply gd_split
    | ((with_reducible refine And.intro ?hw ?_); (case hw => first | omega | rfl | exact ⟨_, _, rfl⟩ | assumption | (simp only [lN, hf, hok] <;> omega)))
    | with_reducible intro _)
        all_goals simp [Hp.back, putAt, Blk.rnL, Blk.rn, D.closed, D.closedL, D.er, D.erL, setL]
      · have e1 : decide (day < 0) = false := decide_eq_false hd1
        have e2 : decide (40000 < day) = true := decide_eq_true (by omega)
        repeat' (first
    | with_reducible first | apply swp_seq | apply swp_reg | apply swp_regD | apply swp_block | apply swp_exit | apply swp_ret | apply swp_skip | apply swp_cd
    | simp only [go_sem, seval, P40, q40, e1, e2, D.rn, D.rnL, bakF, fillL]
    | ((with_reducible refine o_eff [] [] (c0) ?hs ?he ?hh ?_); (case hs => exact ⟨by simp, by simp, by simp, by simp⟩); (case he => first | rfl | (simp [go_sem, seval, hf, hok]; done)); (case hh => first | rfl | (simp [go_sem, seval, hf, hok]; done)); rintro _ _ ⟨rfl, rfl⟩)
    | ((with_reducible apply s_lkpS); (case h1 | hk => rfl); (case ha | hf => first | rfl | assumption | omega | ((first | refine ⟨?_, ?_⟩ | skip) <;> first | omega | (simp only [lN, hf, hok] <;> omega)) | (simp [elemsK, D.isVal, D.cells, D.closedL, D.closed, hf, hok]; first | done | omega)))
    | ((with_reducible apply s_lkpN); (case h1 | hk => rfl); (case hf | ha => first | rfl | assumption | omega | ((first | refine ⟨?_, ?_⟩ | skip) <;> first | omega | (simp only [lN, hf, hok] <;> omega)) | (simp [elemsK, D.isVal, D.cells, D.closedL, D.closed, hf, hok]; first | done | omega)))
    | with_reducible first | apply cd_dec | apply cd_eq | apply cd_ne | apply cd_split | apply gd_dec | apply gd_eq | apply gd_ne | apply gd_split
    | ((with_reducible refine And.intro ?hw ?_); (case hw => first | omega | rfl | exact ⟨_, _, rfl⟩ | assumption | (simp only [lN, hf, hok] <;> omega)))
    | with_reducible intro _)
        all_goals simp [Hp.back, putAt, Blk.rnL, Blk.rn, D.closed, D.closedL, D.er, D.erL, setL]
    · have d1 : 0 ≤ day := by omega
      have d2 : day ≤ 40000 := by omega
      have e1 : decide (day < 0) = false := decide_eq_false (by omega)
      have e2 : decide (40000 < day) = false := decide_eq_false (by omega)
      have r1 : lifeD p kKm day = ivD (p.km) := by simp [lifeD, lifeV, hd, show ¬ kCy = kKm by decide, show ¬ kDm = kKm by decide, show ¬ kDm = kCy by decide, show ¬ kDays = kKm by decide, show ¬ kDays = kCy by decide, show ¬ kDays = kDm by decide, show ¬ kAge = kKm by decide, show ¬ kAge = kCy by decide, show ¬ kAge = kDm by decide, show ¬ kAge = kDays by decide]
      have r2 : lifeE kKm day = 0 := by simp [lifeE, known, hd]
      rw [r1, r2]
      unfold ptD at ca ⊢
      repeat' (first
    | with_reducible first | apply swp_seq | apply swp_reg | apply swp_regD | apply swp_block | apply swp_exit | apply swp_ret | apply swp_skip | apply swp_cd
    | simp only [go_sem, seval, P40, q40, e1, e2, D.rn, D.rnL, bakF]
    | ((with_reducible refine o_eff [] [] (c0) ?hs ?he ?hh ?_); (case hs => exact ⟨by simp, by simp, by simp, by simp⟩); (case he => first | rfl | (simp [go_sem, seval, hf, hok]; done)); (case hh => first | rfl | (simp [go_sem, seval, hf, hok]; done)); rintro _ _ ⟨rfl, rfl⟩)
    | ((with_reducible refine o_call (ca) ?he ?hc ?_); (case he | hc => first | rfl | (simp [D.erL, D.er, D.closedL, D.closed, hf, hok]; done)))
    | ((with_reducible apply s_lkpS); (case h1 | hk => rfl); (case ha | hf => first | rfl | assumption | omega | ((first | refine ⟨?_, ?_⟩ | skip) <;> first | omega | (simp only [lN, hf, hok] <;> omega)) | (simp [elemsK, D.isVal, D.cells, D.closedL, D.closed, hf, hok]; first | done | omega)))
    | ((with_reducible apply s_lkpN); (case h1 | hk => rfl); (case hf | ha => first | rfl | assumption | omega | ((first | refine ⟨?_, ?_⟩ | skip) <;> first | omega | (simp only [lN, hf, hok] <;> omega)) | (simp [elemsK, D.isVal, D.cells, D.closedL, D.closed, hf, hok]; first | done | omega)))
    | with_reducible first | apply cd_dec | apply cd_eq | apply cd_ne | apply cd_split | apply gd_dec | apply gd_eq | apply gd_ne | apply gd_split
    | ((with_reducible refine And.intro ?hw ?_); (case hw => first | omega | rfl | exact ⟨_, _, rfl⟩ | assumption | (simp only [lN, hf, hok] <;> omega)))
    | with_reducible intro _)
      all_goals simp [Hp.back, putAt, Blk.rnL, Blk.rn, D.closed, D.closedL, D.er, D.erL, setL]
  by_cases hkCy : cur = kCy
  · subst hkCy
    have hf : findM (.str kCy) (pairs (bakF [] 2) (bakF [] 0) curE) 0 = some (1, .fn (.func 69) [] []) := by rw [eE (bakF [] 2)]; rfl
    by_cases hd : day < 0 ∨ day > 40000
    · have r1 : lifeD p kCy day = ivD (0, 0) := by simp [lifeD, lifeV, hd]
      have r2 : lifeE kCy day = 13 := by simp [lifeE, known, hd]
      rw [r1, r2]
      unfold ptD
      by_cases hd1 : day < 0
      · have e1 : decide (day < 0) = true := decide_eq_true hd1
        repeat' (first
    | with_reducible first | apply swp_seq | apply swp_reg | apply swp_regD | apply swp_block | apply swp_exit | apply swp_ret | apply swp_skip | apply swp_cd
    | simp only [go_sem, seval, P40, q40, e1, D.rn, D.rnL, bakF, fillL]
    | ((with_reducible refine o_eff [] [] (c0) ?hs ?he ?hh ?_); (case hs => exact ⟨by simp, by simp, by simp, by simp⟩); (case he => first | rfl | (simp [go_sem, seval, hf, hok]; done)); (case hh => first | rfl | (simp [go_sem, seval, hf, hok]; done)); rintro _ _ ⟨rfl, rfl⟩)
    | ((with_reducible apply s_lkpS); (case h1 | hk => rfl); (case ha | hf => first | rfl | assumption | omega | ((first | refine ⟨?_, ?_⟩ | skip) <;> first | omega | (simp only [lN, hf, hok] <;> omega)) | (simp [elemsK, D.isVal, D.cells, D.closedL, D.closed, hf, hok]; first | done | omega)))
    | ((with_reducible apply s_lkpN); (case h1 | hk => rfl); (case hf | ha => first | rfl | assumption | omega | ((first | refine ⟨?_, ?_⟩ | skip) <;> first | omega | (simp only [lN, hf, hok] <;> omega)) | (simp [elemsK, D.isVal, D.cells, D.closedL, D.closed, hf, hok]; first | done | omega)))
    | with_reducible first | apply cd_dec | apply cd_eq | apply cd_ne | apply cd_split | apply gd_dec | apply gd_eq | apply gd_ne | apply gd_split
    | ((with_reducible refine And.intro ?hw ?_); (case hw => first | omega | rfl | exact ⟨_, _, rfl⟩ | assumption | (simp only [lN, hf, hok] <;> omega)))
    | with_reducible intro _)
        all_goals simp [Hp.back, putAt, Blk.rnL, Blk.rn, D.closed, D.closedL, D.er, D.erL, setL]
      · have e1 : decide (day < 0) = false := decide_eq_false hd1
        have e2 : decide (40000 < day) = true := decide_eq_true (by omega)
        repeat' (first
    | with_reducible first | apply swp_seq | apply swp_reg | apply swp_regD | apply swp_block | apply swp_exit | apply swp_ret | apply swp_skip | apply swp_cd
    | simp only [go_sem, seval, P40, q40, e1, e2, D.rn, D.rnL, bakF, fillL]
    | ((with_reducible refine o_eff [] [] (c0) ?hs ?he ?hh ?_); (case hs => exact ⟨by simp, by simp, by simp, by simp⟩); (case he => first | rfl | (simp [go_sem, seval, hf, hok]; done)); (case hh => first | rfl | (simp [go_sem, seval, hf, hok]; done)); rintro _ _ ⟨rfl, rfl⟩)
    | ((with_reducible apply s_lkpS); (case h1 | hk => rfl); (case ha | hf => first | rfl | assumption | omega | ((first | refine ⟨?_, ?_⟩ | skip) <;> first | omega | (simp only [lN, hf, hok] <;> omega)) | (simp [elemsK, D.isVal, D.cells, D.closedL, D.closed, hf, hok]; first | done | omega)))
    | ((with_reducible apply s_lkpN); (case h1 | hk => rfl); (case hf | ha => first | rfl | assumption | omega | ((first | refine ⟨?_, ?_⟩ | skip) <;> first | omega | (simp only [lN, hf, hok] <;> omega)) | (simp [elemsK, D.isVal, D.cells, D.closedL, D.closed, hf, hok]; first | done | omega)))
    | with_reducible first | apply cd_dec | apply cd_eq | apply cd_ne | apply cd_split | apply gd_dec | apply gd_eq | apply gd_ne | apply gd_split
    | ((with_reducible refine And.intro ?hw ?_); (case hw => first | omega | rfl | exact ⟨_, _, rfl⟩ | assumption | (simp only [lN, hf, hok] <;> omega)))
    | with_reducible intro _)
        all_goals simp [Hp.back, putAt, Blk.rnL, Blk.rn, D.closed, D.closedL, D.er, D.erL, setL]
    · have d1 : 0 ≤ day := by omega
      have d2 : day ≤ 40000 := by omega
      have e1 : decide (day < 0) = false := decide_eq_false (by omega)
      have e2 : decide (40000 < day) = false := decide_eq_false (by omega)
      have r1 : lifeD p kCy day = ivD (p.cy) := by simp [lifeD, lifeV, hd, show ¬ kCy = kKm by decide, show ¬ kDm = kKm by decide, show ¬ kDm = kCy by decide, show ¬ kDays = kKm by decide, show ¬ kDays = kCy by decide, show ¬ kDays = kDm by decide, show ¬ kAge = kKm by decide, show ¬ kAge = kCy by decide, show ¬ kAge = kDm by decide, show ¬ kAge = kDays by decide]
      have r2 : lifeE kCy day = 0 := by simp [lifeE, known, hd]
      rw [r1, r2]
      unfold ptD at cb ⊢
      repeat' (first
    | with_reducible first | apply swp_seq | apply swp_reg | apply swp_regD | apply swp_block | apply swp_exit | apply swp_ret | apply swp_skip | apply swp_cd
    | simp only [go_sem, seval, P40, q40, e1, e2, D.rn, D.rnL, bakF]
    | ((with_reducible refine o_eff [] [] (c0) ?hs ?he ?hh ?_); (case hs => exact ⟨by simp, by simp, by simp, by simp⟩); (case he => first | rfl | (simp [go_sem, seval, hf, hok]; done)); (case hh => first | rfl | (simp [go_sem, seval, hf, hok]; done)); rintro _ _ ⟨rfl, rfl⟩)
    | ((with_reducible refine o_call (cb) ?he ?hc ?_); (case he | hc => first | rfl | (simp [D.erL, D.er, D.closedL, D.closed, hf, hok]; done)))
    | ((with_reducible apply s_lkpS); (case h1 | hk => rfl); (case ha | hf => first | rfl | assumption | omega | ((first | refine ⟨?_, ?_⟩ | skip) <;> first | omega | (simp only [lN, hf, hok] <;> omega)) | (simp [elemsK, D.isVal, D.cells, D.closedL, D.closed, hf, hok]; first | done | omega)))
    | ((with_reducible apply s_lkpN); (case h1 | hk => rfl); (case hf | ha => first | rfl | assumption | omega | ((first | refine ⟨?_, ?_⟩ | skip) <;> first | omega | (simp only [lN, hf, hok] <;> omega)) | (simp [elemsK, D.isVal, D.cells, D.closedL, D.closed, hf, hok]; first | done | omega)))
    | with_reducible first | apply cd_dec | apply cd_eq | apply cd_ne | apply cd_split | apply gd_dec | apply gd_eq | apply gd_ne | apply gd_split
    | ((with_reducible refine And.intro ?hw ?_); (case hw => first | omega | rfl | exact ⟨_, _, rfl⟩ | assumption | (simp only [lN, hf, hok] <;> omega)))
    | with_reducible intro _)
      all_goals simp [Hp.back, putAt, Blk.rnL, Blk.rn, D.closed, D.closedL, D.er, D.erL, setL]
  by_cases hkDm : cur = kDm
  · subst hkDm
    have hf : findM (.str kDm) (pairs (bakF [] 2) (bakF [] 0) curE) 0 = some (2, .fn (.func 70) [] []) := by rw [eE (bakF [] 2)]; rfl
    by_cases hd : day < 0 ∨ day > 40000
    · have r1 : lifeD p kDm day = ivD (0, 0) := by simp [lifeD, lifeV, hd]
      have r2 : lifeE kDm day = 13 := by simp [lifeE, known, hd]
      rw [r1, r2]
      unfold ptD
      by_cases hd1 : day < 0
      · have e1 : decide (day < 0) = true := decide_eq_true hd1
        repeat' (first
    | with_reducible first | apply swp_seq | apply swp_reg | apply swp_regD | apply swp_block | apply swp_exit | apply swp_ret | apply swp_skip | apply swp_cd
    | simp only [go_sem, seval, P40, q40, e1, D.rn, D.rnL, bakF, fillL]
    | ((with_reducible refine o_eff [] [] (c0) ?hs ?he ?hh ?_); (case hs => exact ⟨by simp, by simp, by simp, by simp⟩); (case he => first | rfl | (simp [go_sem, seval, hf, hok]; done)); (case hh => first | rfl | (simp [go_sem, seval, hf, hok]; done)); rintro _ _ ⟨rfl, rfl⟩)
    | ((with_reducible apply s_lkpS); (case h1 | hk => rfl); (case ha | hf => first | rfl | assumption | omega | ((first | refine ⟨?_, ?_⟩ | skip) <;> first | omega | (simp only [lN, hf, hok] <;> omega)) | (simp [elemsK, D.isVal, D.cells, D.closedL, D.closed, hf, hok]; first | done | omega)))
    | ((with_reducible apply s_lkpN); (case h1 | hk => rfl); (case hf | ha => first | rfl | assumption | omega | ((first | refine ⟨?_, ?_⟩ | skip) <;> first | omega | (simp only [lN, hf, hok] <;> omega)) | (simp [elemsK, D.isVal, D.cells, D.closedL, D.closed, hf, hok]; first | done | omega)))
    | with_reducible first | apply cd_dec | apply cd_eq | apply cd_ne | apply cd_split | apply gd_dec | apply gd_eq | apply gd_ne | apply gd_split
    | ((with_reducible refine And.intro ?hw ?_); (case hw => first | omega | rfl | exact ⟨_, _, rfl⟩ | assumption | (simp only [lN, hf, hok] <;> omega)))
    | with_reducible intro _)
        all_goals simp [Hp.back, putAt, Blk.rnL, Blk.rn, D.closed, D.closedL, D.er, D.erL, setL]
      · have e1 : decide (day < 0) = false := decide_eq_false hd1
        have e2 : decide (40000 < day) = true := decide_eq_true (by omega)
        repeat' (first
    | with_reducible first | apply swp_seq | apply swp_reg | apply swp_regD | apply swp_block | apply swp_exit | apply swp_ret | apply swp_skip | apply swp_cd
    | simp only [go_sem, seval, P40, q40, e1, e2, D.rn, D.rnL, bakF, fillL]
    | ((with_reducible refine o_eff [] [] (c0) ?hs ?he ?hh ?_); (case hs => exact ⟨by simp, by simp, by simp, by simp⟩); (case he => first | rfl | (simp [go_sem, seval, hf, hok]; done)); (case hh => first | rfl | (simp [go_sem, seval, hf, hok]; done)); rintro _ _ ⟨rfl, rfl⟩)
    | ((with_reducible apply s_lkpS); (case h1 | hk => rfl); (case ha | hf => first | rfl | assumption | omega | ((first | refine ⟨?_, ?_⟩ | skip) <;> first | omega | (simp only [lN, hf, hok] <;> omega)) | (simp [elemsK, D.isVal, D.cells, D.closedL, D.closed, hf, hok]; first | done | omega)))
    | ((with_reducible apply s_lkpN); (case h1 | hk => rfl); (case hf | ha => first | rfl | assumption | omega | ((first | refine ⟨?_, ?_⟩ | skip) <;> first | omega | (simp only [lN, hf, hok] <;> omega)) | (simp [elemsK, D.isVal, D.cells, D.closedL, D.closed, hf, hok]; first | done | omega)))
    | with_reducible first | apply cd_dec | apply cd_eq | apply cd_ne | apply cd_split | apply gd_dec | apply gd_eq | apply gd_ne | apply gd_split
    | ((with_reducible refine And.intro ?hw ?_); (case hw => first | omega | rfl | exact ⟨_, _, rfl⟩ | assumption | (simp only [lN, hf, hok] <;> omega)))
    | with_reducible intro _)
        all_goals simp [Hp.back, putAt, Blk.rnL, Blk.rn, D.closed, D.closedL, D.er, D.erL, setL]
    · have d1 : 0 ≤ day := by omega
      have d2 : day ≤ 40000 := by omega
      have e1 : decide (day < 0) = false := decide_eq_false (by omega)
      have e2 : decide (40000 < day) = false := decide_eq_false (by omega)
      have r1 : lifeD p kDm day = ivD (p.dm) := by simp [lifeD, lifeV, hd, show ¬ kCy = kKm by decide, show ¬ kDm = kKm by decide, show ¬ kDm = kCy by decide, show ¬ kDays = kKm by decide, show ¬ kDays = kCy by decide, show ¬ kDays = kDm by decide, show ¬ kAge = kKm by decide, show ¬ kAge = kCy by decide, show ¬ kAge = kDm by decide, show ¬ kAge = kDays by decide]
      have r2 : lifeE kDm day = 0 := by simp [lifeE, known, hd]
      rw [r1, r2]
      unfold ptD at cc ⊢
      repeat' (first
    | with_reducible first | apply swp_seq | apply swp_reg | apply swp_regD | apply swp_block | apply swp_exit | apply swp_ret | apply swp_skip | apply swp_cd
    | simp only [go_sem, seval, P40, q40, e1, e2, D.rn, D.rnL, bakF]
    | ((with_reducible refine o_eff [] [] (c0) ?hs ?he ?hh ?_); (case hs => exact ⟨by simp, by simp, by simp, by simp⟩); (case he => first | rfl | (simp [go_sem, seval, hf, hok]; done)); (case hh => first | rfl | (simp [go_sem, seval, hf, hok]; done)); rintro _ _ ⟨rfl, rfl⟩)
    | ((with_reducible refine o_call (cc) ?he ?hc ?_); (case he | hc => first | rfl | (simp [D.erL, D.er, D.closedL, D.closed, hf, hok]; done)))
    | ((with_reducible apply s_lkpS); (case h1 | hk => rfl); (case ha | hf => first | rfl | assumption | omega | ((first | refine ⟨?_, ?_⟩ | skip) <;> first | omega | (simp only [lN, hf, hok] <;> omega)) | (simp [elemsK, D.isVal, D.cells, D.closedL, D.closed, hf, hok]; first | done | omega)))
    | ((with_reducible apply s_lkpN); (case h1 | hk => rfl); (case hf | ha => first | rfl | assumption | omega | ((first | refine ⟨?_, ?_⟩ | skip) <;> first | omega | (simp only [lN, hf, hok] <;> omega)) | (simp [elemsK, D.isVal, D.cells, D.closedL, D.closed, hf, hok]; first | done | omega)))
    | with_reducible first | apply cd_dec | apply cd_eq | apply cd_ne | apply cd_split | apply gd_dec | apply gd_eq | apply gd_ne | apply gd_split
    | ((with_reducible refine And.intro ?hw ?_); (case hw => first | omega | rfl | exact ⟨_, _, rfl⟩ | assumption | (simp only [lN, hf, hok] <;> omega)))
    | with_reducible intro _)
      all_goals simp [Hp.back, putAt, Blk.rnL, Blk.rn, D.closed, D.closedL, D.er, D.erL, setL]
  by_cases hkDays : cur = kDays
  · subst hkDays
    have hf : findM (.str kDays) (pairs (bakF [] 2) (bakF [] 0) curE) 0 = some (3, .fn (.func 71) [] [.ptr 2 0]) := by rw [eE (bakF [] 2)]; rfl
    by_cases hd : day < 0 ∨ day > 40000
    · have r1 : lifeD p kDays day = ivD (0, 0) := by simp [lifeD, lifeV, hd]
      have r2 : lifeE kDays day = 13 := by simp [lifeE, known, hd]
      rw [r1, r2]
      unfold ptD
      by_cases hd1 : day < 0
      · have e1 : decide (day < 0) = true := decide_eq_true hd1
        repeat' (first
    | with_reducible first | apply swp_seq | apply swp_reg | apply swp_regD | apply swp_block | apply swp_exit | apply swp_ret | apply swp_skip | apply swp_cd
    | simp only [go_sem, seval, P40, q40, e1, D.rn, D.rnL, bakF, fillL]
    | ((with_reducible refine o_eff [] [] (c0) ?hs ?he ?hh ?_); (case hs => exact ⟨by simp, by simp, by simp, by simp⟩); (case he => first | rfl | (simp [go_sem, seval, hf, hok]; done)); (case hh => first | rfl | (simp [go_sem, seval, hf, hok]; done)); rintro _ _ ⟨rfl, rfl⟩)
    | ((with_reducible apply s_lkpS); (case h1 | hk => rfl); (case ha | hf => first | rfl | assumption | omega | ((first | refine ⟨?_, ?_⟩ | skip) <;> first | omega | (simp only [lN, hf, hok] <;> omega)) | (simp [elemsK, D.isVal, D.cells, D.closedL, D.closed, hf, hok]; first | done | omega)))
    | ((with_reducible apply s_lkpN); (case h1 | hk => rfl); (case hf | ha => first | rfl | assumption | omega | ((first | refine ⟨?_, ?_⟩ | skip) <;> first | omega | (simp only [lN, hf, hok] <;> omega)) | (simp [elemsK, D.isVal, D.cells, D.closedL, D.closed, hf, hok]; first | done | omega)))
    | with_reducible first | apply cd_dec | apply cd_eq | apply cd_ne | apply cd_split | apply gd_dec | apply gd_eq | apply gd_ne | apply gd_split
    | ((with_reducible refine And.intro ?hw ?_); (case hw => first | omega | rfl | exact ⟨_, _, rfl⟩ | assumption | (simp only [lN, hf, hok] <;> omega)))
    | with_reducible intro _)
        all_goals simp [Hp.back, putAt, Blk.rnL, Blk.rn, D.closed, D.closedL, D.er, D.erL, setL]
      · have e1 : decide (day < 0) = false := decide_eq_false hd1
        have e2 : decide (40000 < day) = true := decide_eq_true (by omega)
        repeat' (first
    | with_reducible first | apply swp_seq | apply swp_reg | apply swp_regD | apply swp_block | apply swp_exit | apply swp_ret | apply swp_skip | apply swp_cd
    | simp only [go_sem, seval, P40, q40, e1, e2, D.rn, D.rnL, bakF, fillL]
    | ((with_reducible refine o_eff [] [] (c0) ?hs ?he ?hh ?_); (case hs => exact ⟨by simp, by simp, by simp, by simp⟩); (case he => first | rfl | (simp [go_sem, seval, hf, hok]; done)); (case hh => first | rfl | (simp [go_sem, seval, hf, hok]; done)); rintro _ _ ⟨rfl, rfl⟩)
    | ((with_reducible apply s_lkpS); (case h1 | hk => rfl); (case ha | hf => first | rfl | assumption | omega | ((first | refine ⟨?_, ?_⟩ | skip) <;> first | omega | (simp only [lN, hf, hok] <;> omega)) | (simp [elemsK, D.isVal, D.cells, D.closedL, D.closed, hf, hok]; first | done | omega)))
    | ((with_reducible apply s_lkpN); (case h1 | hk => rfl); (case hf | ha => first | rfl | assumption | omega | ((first | refine ⟨?_, ?_⟩ | skip) <;> first | omega | (simp only [lN, hf, hok] <;> omega)) | (simp [elemsK, D.isVal, D.cells, D.closedL, D.closed, hf, hok]; first | done | omega)))
    | with_reducible first | apply cd_dec | apply cd_eq | apply cd_ne | apply cd_split | apply gd_dec | apply gd_eq | apply gd_ne | apply gd_split
    | ((with_reducible refine And.intro ?hw ?_); (case hw => first | omega | rfl | exact ⟨_, _, rfl⟩ | assumption | (simp only [lN, hf, hok] <;> omega)))
    | with_reducible intro _)
        all_goals simp [Hp.back, putAt, Blk.rnL, Blk.rn, D.closed, D.closedL, D.er, D.erL, setL]
    · have d1 : 0 ≤ day := by omega
      have d2 : day ≤ 40000 := by omega
      have e1 : decide (day < 0) = false := decide_eq_false (by omega)
      have e2 : decide (40000 < day) = false := decide_eq_false (by omega)
      have r1 : lifeD p kDays day = ivD (sinceF day p.since) := by simp [lifeD, lifeV, hd, show ¬ kCy = kKm by decide, show ¬ kDm = kKm by decide, show ¬ kDm = kCy by decide, show ¬ kDays = kKm by decide, show ¬ kDays = kCy by decide, show ¬ kDays = kDm by decide, show ¬ kAge = kKm by decide, show ¬ kAge = kCy by decide, show ¬ kAge = kDm by decide, show ¬ kAge = kDays by decide]
      have r2 : lifeE kDays day = 0 := by simp [lifeE, known, hd]
      rw [r1, r2]
      have c5 := cd d1 d2
      unfold fnH at c5
      unfold ptD at c5 ⊢
      repeat' (first
    | with_reducible first | apply swp_seq | apply swp_reg | apply swp_regD | apply swp_block | apply swp_exit | apply swp_ret | apply swp_skip | apply swp_cd
    | simp only [go_sem, seval, P40, q40, e1, e2, D.rn, D.rnL, bakF]
    | ((with_reducible refine o_eff [] [] (c0) ?hs ?he ?hh ?_); (case hs => exact ⟨by simp, by simp, by simp, by simp⟩); (case he => first | rfl | (simp [go_sem, seval, hf, hok, D.rnL, D.rn, posF, Hp.sel, Blk.rnL, Blk.rn, Tv.rnL, Own.rn, idx, Hp.back, putAt, bakF]; done)); (case hh => first | rfl | (simp [go_sem, seval, hf, hok, D.rnL, D.rn, posF, Hp.sel, Blk.rnL, Blk.rn, Tv.rnL, Own.rn, idx, Hp.back, putAt, bakF]; done)); rintro _ _ ⟨rfl, rfl⟩)
    | ((with_reducible refine o_eff [2] [] (c5) ?hs ?he ?hh ?_); (case hs => exact ⟨by simp, by simp, by simp, by simp⟩); (case he => first | rfl | (simp [go_sem, seval, hf, hok, D.rnL, D.rn, posF, Hp.sel, Blk.rnL, Blk.rn, Tv.rnL, Own.rn, idx, Hp.back, putAt, bakF]; done)); (case hh => first | rfl | (simp [go_sem, seval, hf, hok, D.rnL, D.rn, posF, Hp.sel, Blk.rnL, Blk.rn, Tv.rnL, Own.rn, idx, Hp.back, putAt, bakF]; done)); rintro _ _ ⟨rfl, rfl⟩)
    | ((with_reducible apply s_lkpS); (case h1 | hk => rfl); (case ha | hf => first | rfl | assumption | omega | ((first | refine ⟨?_, ?_⟩ | skip) <;> first | omega | (simp only [lN, hf, hok, D.rnL, D.rn, posF, Hp.sel, Blk.rnL, Blk.rn, Tv.rnL, Own.rn, idx, Hp.back, putAt, bakF] <;> omega)) | (simp [elemsK, D.isVal, D.cells, D.closedL, D.closed, hf, hok, D.rnL, D.rn, posF, Hp.sel, Blk.rnL, Blk.rn, Tv.rnL, Own.rn, idx, Hp.back, putAt, bakF]; first | done | omega)))
    | ((with_reducible apply s_lkpN); (case h1 | hk => rfl); (case hf | ha => first | rfl | assumption | omega | ((first | refine ⟨?_, ?_⟩ | skip) <;> first | omega | (simp only [lN, hf, hok, D.rnL, D.rn, posF, Hp.sel, Blk.rnL, Blk.rn, Tv.rnL, Own.rn, idx, Hp.back, putAt, bakF] <;> omega)) | (simp [elemsK, D.isVal, D.cells, D.closedL, D.closed, hf, hok, D.rnL, D.rn, posF, Hp.sel, Blk.rnL, Blk.rn, Tv.rnL, Own.rn, idx, Hp.back, putAt, bakF]; first | done | omega)))
    | with_reducible first | apply cd_dec | apply cd_eq | apply cd_ne | apply cd_split | apply gd_dec | apply gd_eq | apply gd_ne | apply gd_split
    | ((with_reducible refine And.intro ?hw ?_); (case hw => first | omega | rfl | exact ⟨_, _, rfl⟩ | assumption | (simp only [lN, hf, hok, D.rnL, D.rn, posF, Hp.sel, Blk.rnL, Blk.rn, Tv.rnL, Own.rn, idx, Hp.back, putAt, bakF] <;> omega)))
    | with_reducible intro _)
      all_goals simp [Hp.back, putAt, Blk.rnL, Blk.rn, D.rnL, D.rn, bakF, D.closed, D.closedL, D.er, D.erL, setL]
  by_cases hkAge : cur = kAge
  · subst hkAge
    have hf : findM (.str kAge) (pairs (bakF [] 2) (bakF [] 0) curE) 0 = some (4, .fn (.func 72) [] [.ptr 2 0]) := by rw [eE (bakF [] 2)]; rfl
    by_cases hd : day < 0 ∨ day > 40000
    · have r1 : lifeD p kAge day = ivD (0, 0) := by simp [lifeD, lifeV, hd]
      have r2 : lifeE kAge day = 13 := by simp [lifeE, known, hd]
      rw [r1, r2]
      unfold ptD
      by_cases hd1 : day < 0
      · have e1 : decide (day < 0) = true := decide_eq_true hd1
        repeat' (first
    | with_reducible first | apply swp_seq | apply swp_reg | apply swp_regD | apply swp_block | apply swp_exit | apply swp_ret | apply swp_skip | apply swp_cd
    | simp only [go_sem, seval, P40, q40, e1, D.rn, D.rnL, bakF, fillL]
    | ((with_reducible refine o_eff [] [] (c0) ?hs ?he ?hh ?_); (case hs => exact ⟨by simp, by simp, by simp, by simp⟩); (case he => first | rfl | (simp [go_sem, seval, hf, hok]; done)); (case hh => first | rfl | (simp [go_sem, seval, hf, hok]; done)); rintro _ _ ⟨rfl, rfl⟩)
    | ((with_reducible apply s_lkpS); (case h1 | hk => rfl); (case ha | hf => first | rfl | assumption | omega | ((first | refine ⟨?_, ?_⟩ | skip) <;> first | omega | (simp only [lN, hf, hok] <;> omega)) | (simp [elemsK, D.isVal, D.cells, D.closedL, D.closed, hf, hok]; first | done | omega)))
    | ((with_reducible apply s_lkpN); (case h1 | hk => rfl); (case hf | ha => first | rfl | assumption | omega | ((first | refine ⟨?_, ?_⟩ | skip) <;> first | omega | (simp only [lN, hf, hok] <;> omega)) | (simp [elemsK, D.isVal, D.cells, D.closedL, D.closed, hf, hok]; first | done | omega)))
    | with_reducible first | apply cd_dec | apply cd_eq | apply cd_ne | apply cd_split | apply gd_dec | apply gd_eq | apply gd_ne | apply gd_split
    | ((with_reducible refine And.intro ?hw ?_); (case hw => first | omega | rfl | exact ⟨_, _, rfl⟩ | assumption | (simp only [lN, hf, hok] <;> omega)))
    | with_reducible intro _)
        all_goals simp [Hp.back, putAt, Blk.rnL, Blk.rn, D.closed, D.closedL, D.er, D.erL, setL]
      · have e1 : decide (day < 0) = false := decide_eq_false hd1
        have e2 : decide (40000 < day) = true := decide_eq_true (by omega)
        repeat' (first
    | with_reducible first | apply swp_seq | apply swp_reg | apply swp_regD | apply swp_block | apply swp_exit | apply swp_ret | apply swp_skip | apply swp_cd
    | simp only [go_sem, seval, P40, q40, e1, e2, D.rn, D.rnL, bakF, fillL]
    | ((with_reducible refine o_eff [] [] (c0) ?hs ?he ?hh ?_); (case hs => exact ⟨by simp, by simp, by simp, by simp⟩); (case he => first | rfl | (simp [go_sem, seval, hf, hok]; done)); (case hh => first | rfl | (simp [go_sem, seval, hf, hok]; done)); rintro _ _ ⟨rfl, rfl⟩)
    | ((with_reducible apply s_lkpS); (case h1 | hk => rfl); (case ha | hf => first | rfl | assumption | omega | ((first | refine ⟨?_, ?_⟩ | skip) <;> first | omega | (simp only [lN, hf, hok] <;> omega)) | (simp [elemsK, D.isVal, D.cells, D.closedL, D.closed, hf, hok]; first | done | omega)))
    | ((with_reducible apply s_lkpN); (case h1 | hk => rfl); (case hf | ha => first | rfl | assumption | omega | ((first | refine ⟨?_, ?_⟩ | skip) <;> first | omega | (simp only [lN, hf, hok] <;> omega)) | (simp [elemsK, D.isVal, D.cells, D.closedL, D.closed, hf, hok]; first | done | omega)))
    | with_reducible first | apply cd_dec | apply cd_eq | apply cd_ne | apply cd_split | apply gd_dec | apply gd_eq | apply gd_ne | apply gd_split
    | ((with_reducible refine And.intro ?hw ?_); (case hw => first | omega | rfl | exact ⟨_, _, rfl⟩ | assumption | (simp only [lN, hf, hok] <;> omega)))
    | with_reducible intro _)
        all_goals simp [Hp.back, putAt, Blk.rnL, Blk.rn, D.closed, D.closedL, D.er, D.erL, setL]
    · have d1 : 0 ≤ day := by omega
      have d2 : day ≤ 40000 := by omega
      have e1 : decide (day < 0) = false := decide_eq_false (by omega)
      have e2 : decide (40000 < day) = false := decide_eq_false (by omega)
      have r1 : lifeD p kAge day = ivD (sinceF day p.made) := by simp [lifeD, lifeV, hd, show ¬ kCy = kKm by decide, show ¬ kDm = kKm by decide, show ¬ kDm = kCy by decide, show ¬ kDays = kKm by decide, show ¬ kDays = kCy by decide, show ¬ kDays = kDm by decide, show ¬ kAge = kKm by decide, show ¬ kAge = kCy by decide, show ¬ kAge = kDm by decide, show ¬ kAge = kDays by decide]
      have r2 : lifeE kAge day = 0 := by simp [lifeE, known, hd]
      rw [r1, r2]
      have c5 := ce d1 d2
      unfold fnH at c5
      unfold ptD at c5 ⊢
      repeat' (first
    | with_reducible first | apply swp_seq | apply swp_reg | apply swp_regD | apply swp_block | apply swp_exit | apply swp_ret | apply swp_skip | apply swp_cd
    | simp only [go_sem, seval, P40, q40, e1, e2, D.rn, D.rnL, bakF]
    | ((with_reducible refine o_eff [] [] (c0) ?hs ?he ?hh ?_); (case hs => exact ⟨by simp, by simp, by simp, by simp⟩); (case he => first | rfl | (simp [go_sem, seval, hf, hok, D.rnL, D.rn, posF, Hp.sel, Blk.rnL, Blk.rn, Tv.rnL, Own.rn, idx, Hp.back, putAt, bakF]; done)); (case hh => first | rfl | (simp [go_sem, seval, hf, hok, D.rnL, D.rn, posF, Hp.sel, Blk.rnL, Blk.rn, Tv.rnL, Own.rn, idx, Hp.back, putAt, bakF]; done)); rintro _ _ ⟨rfl, rfl⟩)
    | ((with_reducible refine o_eff [2] [] (c5) ?hs ?he ?hh ?_); (case hs => exact ⟨by simp, by simp, by simp, by simp⟩); (case he => first | rfl | (simp [go_sem, seval, hf, hok, D.rnL, D.rn, posF, Hp.sel, Blk.rnL, Blk.rn, Tv.rnL, Own.rn, idx, Hp.back, putAt, bakF]; done)); (case hh => first | rfl | (simp [go_sem, seval, hf, hok, D.rnL, D.rn, posF, Hp.sel, Blk.rnL, Blk.rn, Tv.rnL, Own.rn, idx, Hp.back, putAt, bakF]; done)); rintro _ _ ⟨rfl, rfl⟩)
    | ((with_reducible apply s_lkpS); (case h1 | hk => rfl); (case ha | hf => first | rfl | assumption | omega | ((first | refine ⟨?_, ?_⟩ | skip) <;> first | omega | (simp only [lN, hf, hok, D.rnL, D.rn, posF, Hp.sel, Blk.rnL, Blk.rn, Tv.rnL, Own.rn, idx, Hp.back, putAt, bakF] <;> omega)) | (simp [elemsK, D.isVal, D.cells, D.closedL, D.closed, hf, hok, D.rnL, D.rn, posF, Hp.sel, Blk.rnL, Blk.rn, Tv.rnL, Own.rn, idx, Hp.back, putAt, bakF]; first | done | omega)))
    | ((with_reducible apply s_lkpN); (case h1 | hk => rfl); (case hf | ha => first | rfl | assumption | omega | ((first | refine ⟨?_, ?_⟩ | skip) <;> first | omega | (simp only [lN, hf, hok, D.rnL, D.rn, posF, Hp.sel, Blk.rnL, Blk.rn, Tv.rnL, Own.rn, idx, Hp.back, putAt, bakF] <;> omega)) | (simp [elemsK, D.isVal, D.cells, D.closedL, D.closed, hf, hok, D.rnL, D.rn, posF, Hp.sel, Blk.rnL, Blk.rn, Tv.rnL, Own.rn, idx, Hp.back, putAt, bakF]; first | done | omega)))
    | with_reducible first | apply cd_dec | apply cd_eq | apply cd_ne | apply cd_split | apply gd_dec | apply gd_eq | apply gd_ne | apply gd_split
    | ((with_reducible refine And.intro ?hw ?_); (case hw => first | omega | rfl | exact ⟨_, _, rfl⟩ | assumption | (simp only [lN, hf, hok, D.rnL, D.rn, posF, Hp.sel, Blk.rnL, Blk.rn, Tv.rnL, Own.rn, idx, Hp.back, putAt, bakF] <;> omega)))
    | with_reducible intro _)
      all_goals simp [Hp.back, putAt, Blk.rnL, Blk.rn, D.rnL, D.rn, bakF, D.closed, D.closedL, D.er, D.erL, setL]
  have hne : ∀ (a b : List UInt8), a ≠ b → (a == b) = false := fun a b h => by simp [h]
  have hf : findM (.str cur) (pairs (bakF [] 2) (bakF [] 0) curE) 0 = none := by
    rw [eE (bakF [] 2)]
    simp only [findM, keq_str, hne _ _ hkKm, hne _ _ hkCy, hne _ _ hkDm, hne _ _ hkDays, hne _ _ hkAge, Bool.false_eq_true, if_false]
  have hk : known cur = false := by simp [known, hkKm, hkCy, hkDm, hkDays, hkAge]
  have r1 : lifeD p cur day = ivD (0, 0) := by simp [lifeD, lifeV_none (.inl hk)]
  have r2 : lifeE cur day = 15 := by simp [lifeE, hk]
  rw [r1, r2]
  unfold ptD
  repeat' (first
    | with_reducible first | apply swp_seq | apply swp_reg | apply swp_regD | apply swp_block | apply swp_exit | apply swp_ret | apply swp_skip | apply swp_cd
    | simp only [go_sem, seval, P40, q40, D.rn, D.rnL, bakF, fillL]
    | ((with_reducible refine o_eff [] [] (c0) ?hs ?he ?hh ?_); (case hs => exact ⟨by simp, by simp, by simp, by simp⟩); (case he => first | rfl | (simp [go_sem, seval, hf, hok]; done)); (case hh => first | rfl | (simp [go_sem, seval, hf, hok]; done)); rintro _ _ ⟨rfl, rfl⟩)
    | ((with_reducible apply s_lkpS); (case h1 | hk => rfl); (case ha | hf => first | rfl | assumption | omega | ((first | refine ⟨?_, ?_⟩ | skip) <;> first | omega | (simp only [lN, hf, hok] <;> omega)) | (simp [elemsK, D.isVal, D.cells, D.closedL, D.closed, hf, hok]; first | done | omega)))
    | ((with_reducible apply s_lkpN); (case h1 | hk => rfl); (case hf | ha => first | rfl | assumption | omega | ((first | refine ⟨?_, ?_⟩ | skip) <;> first | omega | (simp only [lN, hf, hok] <;> omega)) | (simp [elemsK, D.isVal, D.cells, D.closedL, D.closed, hf, hok]; first | done | omega)))
    | with_reducible first | apply cd_dec | apply cd_eq | apply cd_ne | apply cd_split | apply gd_dec | apply gd_eq | apply gd_ne | apply gd_split
    | ((with_reducible refine And.intro ?hw ?_); (case hw => first | omega | rfl | exact ⟨_, _, rfl⟩ | assumption | (simp only [lN, hf, hok] <;> omega)))
    | with_reducible intro _)
  all_goals simp [Hp.back, putAt, Blk.rnL, Blk.rn, D.closed, D.closedL, D.er, D.erL, setL]
end Go.Proofs.Ytcchbohfcmfmlaa
end
section
set_option maxRecDepth 100000
set_option linter.unusedSimpArgs false
set_option linter.unusedVariables false
namespace Go.Proofs.Ytcchbohfcmfmlaa
open Go GoV Go.RowKit
theorem if59 (K : List D) (hR : RowsK 2 K) (hl : K.length < 4611686018427387904) (f : FuncId) (a c : List D) (hpF : Nat → Hp) (nH nT : Nat) (hH : ∀ j, (hpF j).H.length = nH) (hT : ∀ j, (hpF j).tk.length = nT) (n : Nat) (hn : n ≤ K.length)
    (hf : ∀ j (h : j < n) (h' : j < K.length), Eff M f (a ++ [K[j]] ++ c) (hpF j) fun d hp => d = .bool false ∧ hp = hpF (j + 1)) (r : Int) (e : Nat)
    (hr : (n = K.length ∧ r = -1 ∧ e = n) ∨ (∃ h : n < K.length, r = n ∧ e = n + 1 ∧ Eff M f (a ++ [K[n]] ++ c) (hpF n) fun d hp => d = .bool true ∧ hp = hpF (n + 1))) :
    Eff M 59 [.slice K .no, .fn (.func f) a c] (hpF 0) fun d hp => d = .int .i64 r ∧ hp = hpF e := by
  refine oe59 nH nT rfl (hH 0).symm (hT 0).symm ?_
  rw [ie59]
  unfold c59
  repeat' (first
    | with_reducible first | apply swp_seq | apply swp_reg | apply swp_regD | apply swp_block | apply swp_exit | apply swp_ret | apply swp_skip | apply swp_cd
    | simp only [go_sem, seval, pe59, q59]
    | simp (disch := omega) only [w64, w32, wu8, wu16, wu32, wu64]
    | with_reducible first | apply cd_dec | apply cd_eq | apply cd_ne | apply cd_split
    | ((with_reducible refine And.intro ?hw ?_); (case hw => first | omega | rfl | exact ⟨_, _, rfl⟩ | assumption | (simp only [lN] <;> omega)))
    | with_reducible intro _)
  refine swp_fam [0, 1, 2, 4, 5] (fun j : Nat => ⟨[.slice K .no, .fn (.func f) a c, .int .i64 0, .undef, .int .i64 K.length, .int .i64 j, .undef, .undef], [], hpF j⟩) (fun j => j ≤ n) (fun j => n + 1 - j) 0 (by omega) ?_ ?_
  · simp [keepE, St.keep]
  · intro j hj
    by_cases hjn : j < n
    · have hjl : j < K.length := by omega
      obtain ⟨cs, e1, e2⟩ := hR j hjl
      have hg : K.getD j .undef = .agg cs := by simp [List.getD, hjl, e1]
      have htk : cs.take 2 = cs := List.take_of_length_le (by omega)
      have c1 := hf j hjn hjl
      rw [e1] at c1
      repeat' (first
    | with_reducible first | apply swp_seq | apply swp_reg | apply swp_regD | apply swp_block | apply swp_exit | apply swp_ret | apply swp_skip | apply swp_cd
    | simp only [go_sem, seval, pe59, q59, hg, htk, e2]
    | simp (disch := omega) only [w64, w32, wu8, wu16, wu32, wu64]
    | ((with_reducible refine o_same (c1) ?he ?hh ?_); (case he => first | rfl | (simp [go_sem, seval, hg, e2]; done)); (case hh => first | rfl | (simp [go_sem, seval, hg, e2]; done)))
    | with_reducible first | apply cd_dec | apply cd_eq | apply cd_ne | apply cd_split
    | ((with_reducible refine And.intro ?hw ?_); (case hw => first | omega | rfl | exact ⟨_, _, rfl⟩ | assumption | (simp only [lN, hg, e2] <;> omega)))
    | with_reducible intro _)
      all_goals try omega
      all_goals try (refine ⟨j + 1, by omega, by omega, ?_⟩; simp [St.keep, keepE])
    · obtain rfl : j = n := by omega
      rcases hr with ⟨h1, rfl, rfl⟩ | ⟨h1, rfl, rfl, c1⟩
      · repeat' (first
    | with_reducible first | apply swp_seq | apply swp_reg | apply swp_regD | apply swp_block | apply swp_exit | apply swp_ret | apply swp_skip | apply swp_cd
    | simp only [go_sem, seval, pe59, q59]
    | simp (disch := omega) only [w64, w32, wu8, wu16, wu32, wu64]
    | with_reducible first | apply cd_dec | apply cd_eq | apply cd_ne | apply cd_split
    | ((with_reducible refine And.intro ?hw ?_); (case hw => first | omega | rfl | exact ⟨_, _, rfl⟩ | assumption | (simp only [lN] <;> omega)))
    | with_reducible intro _)
        all_goals try omega
        all_goals exact ⟨_, weak_refl, by simp⟩
      · obtain ⟨cs, e1, e2⟩ := hR j h1
        have hg : K.getD j .undef = .agg cs := by simp [List.getD, h1, e1]
        have htk : cs.take 2 = cs := List.take_of_length_le (by omega)
        rw [e1] at c1
        repeat' (first
    | with_reducible first | apply swp_seq | apply swp_reg | apply swp_regD | apply swp_block | apply swp_exit | apply swp_ret | apply swp_skip | apply swp_cd
    | simp only [go_sem, seval, pe59, q59, hg, htk, e2]
    | simp (disch := omega) only [w64, w32, wu8, wu16, wu32, wu64]
    | ((with_reducible refine o_same (c1) ?he ?hh ?_); (case he => first | rfl | (simp [go_sem, seval, hg, e2]; done)); (case hh => first | rfl | (simp [go_sem, seval, hg, e2]; done)))
    | with_reducible first | apply cd_dec | apply cd_eq | apply cd_ne | apply cd_split
    | ((with_reducible refine And.intro ?hw ?_); (case hw => first | omega | rfl | exact ⟨_, _, rfl⟩ | assumption | (simp only [lN, hg, e2] <;> omega)))
    | with_reducible intro _)
        all_goals try omega
        all_goals exact ⟨_, weak_refl, by simp⟩
theorem cf44 (K : List D) (hR : RowsK 2 K) (hl : K.length < 4611686018427387904) (f : FuncId) (a c : List D) (hpF : Nat → Hp) (nH nT : Nat) (hH : ∀ j, (hpF j).H.length = nH) (hT : ∀ j, (hpF j).tk.length = nT) (n : Nat) (hn : n ≤ K.length)
    (hf : ∀ j (h : j < n) (h' : j < K.length), Eff M f (a ++ [K[j]] ++ c) (hpF j) fun d hp => d = .bool false ∧ hp = hpF (j + 1)) (r : Bool) (e : Nat)
    (hr : (n = K.length ∧ r = false ∧ e = n) ∨ (∃ h : n < K.length, r = true ∧ e = n + 1 ∧ Eff M f (a ++ [K[n]] ++ c) (hpF n) fun d hp => d = .bool true ∧ hp = hpF (n + 1))) :
    Eff M 44 [.slice K .no, .fn (.func f) a c] (hpF 0) fun d hp => d = .bool r ∧ hp = hpF e := by
  have c1 : Eff M 59 [.slice K .no, .fn (.func f) a c] (hpF 0) fun d hp => d = .int .i64 (if r then (n : Int) else -1) ∧ hp = hpF e :=
    if59 K hR hl f a c hpF nH nT hH hT n hn hf _ e (by
      rcases hr with ⟨h1, rfl, rfl⟩ | ⟨h1, rfl, rfl, h2⟩
      · exact .inl ⟨h1, by simp, rfl⟩
      · exact .inr ⟨h1, by simp, rfl, h2⟩)
  refine oe44 nH nT rfl (hH 0).symm (hT 0).symm ?_
  rw [ie44]
  unfold c44
  cases r
  · simp only [Bool.false_eq_true, if_false] at c1
    repeat' (first
    | with_reducible first | apply swp_seq | apply swp_reg | apply swp_regD | apply swp_block | apply swp_exit | apply swp_ret | apply swp_skip | apply swp_cd
    | simp only [go_sem, seval, pe44, q44]
    | simp (disch := omega) only [w64, w32, wu8, wu16, wu32, wu64]
    | ((with_reducible refine o_same (c1) ?he ?hh ?_); (case he => first | rfl | (simp [go_sem, seval]; done)); (case hh => first | rfl | (simp [go_sem, seval]; done)))
    | with_reducible first | apply cd_dec | apply cd_eq | apply cd_ne | apply cd_split
    | ((with_reducible refine And.intro ?hw ?_); (case hw => first | omega | rfl | exact ⟨_, _, rfl⟩ | assumption | (simp only [lN] <;> omega)))
    | with_reducible intro _)
    all_goals exact ⟨_, weak_refl, by simp⟩
  · simp only [if_true] at c1
    repeat' (first
    | with_reducible first | apply swp_seq | apply swp_reg | apply swp_regD | apply swp_block | apply swp_exit | apply swp_ret | apply swp_skip | apply swp_cd
    | simp only [go_sem, seval, pe44, q44]
    | simp (disch := omega) only [w64, w32, wu8, wu16, wu32, wu64]
    | ((with_reducible refine o_same (c1) ?he ?hh ?_); (case he => first | rfl | (simp [go_sem, seval]; done)); (case hh => first | rfl | (simp [go_sem, seval]; done)))
    | with_reducible first | apply cd_dec | apply cd_eq | apply cd_ne | apply cd_split
    | ((with_reducible refine And.intro ?hw ?_); (case hw => first | omega | rfl | exact ⟨_, _, rfl⟩ | assumption | (simp only [lN] <;> omega)))
    | with_reducible intro _)
    all_goals refine ⟨_, weak_refl, by simp⟩
theorem if60 (K : List D) (hR : RowsK 14 K) (hl : K.length < 4611686018427387904) (f : FuncId) (a c : List D) (hpF : Nat → Hp) (nH nT : Nat) (hH : ∀ j, (hpF j).H.length = nH) (hT : ∀ j, (hpF j).tk.length = nT) (n : Nat) (hn : n ≤ K.length)
    (hf : ∀ j (h : j < n) (h' : j < K.length), Eff M f (a ++ [K[j]] ++ c) (hpF j) fun d hp => d = .bool false ∧ hp = hpF (j + 1)) (r : Int) (e : Nat)
    (hr : (n = K.length ∧ r = -1 ∧ e = n) ∨ (∃ h : n < K.length, r = n ∧ e = n + 1 ∧ Eff M f (a ++ [K[n]] ++ c) (hpF n) fun d hp => d = .bool true ∧ hp = hpF (n + 1))) :
    Eff M 60 [.slice K .no, .fn (.func f) a c] (hpF 0) fun d hp => d = .int .i64 r ∧ hp = hpF e := by
  refine oe60 nH nT rfl (hH 0).symm (hT 0).symm ?_
  rw [ie60]
  unfold c60
  repeat' (first
    | with_reducible first | apply swp_seq | apply swp_reg | apply swp_regD | apply swp_block | apply swp_exit | apply swp_ret | apply swp_skip | apply swp_cd
    | simp only [go_sem, seval, pe60, q60]
    | simp (disch := omega) only [w64, w32, wu8, wu16, wu32, wu64]
    | with_reducible first | apply cd_dec | apply cd_eq | apply cd_ne | apply cd_split
    | ((with_reducible refine And.intro ?hw ?_); (case hw => first | omega | rfl | exact ⟨_, _, rfl⟩ | assumption | (simp only [lN] <;> omega)))
    | with_reducible intro _)
  refine swp_fam [0, 1, 2, 4, 5] (fun j : Nat => ⟨[.slice K .no, .fn (.func f) a c, .int .i64 0, .undef, .int .i64 K.length, .int .i64 j, .undef, .undef], [], hpF j⟩) (fun j => j ≤ n) (fun j => n + 1 - j) 0 (by omega) ?_ ?_
  · simp [keepE, St.keep]
  · intro j hj
    by_cases hjn : j < n
    · have hjl : j < K.length := by omega
      obtain ⟨cs, e1, e2⟩ := hR j hjl
      have hg : K.getD j .undef = .agg cs := by simp [List.getD, hjl, e1]
      have htk : cs.take 14 = cs := List.take_of_length_le (by omega)
      have c1 := hf j hjn hjl
      rw [e1] at c1
      repeat' (first
    | with_reducible first | apply swp_seq | apply swp_reg | apply swp_regD | apply swp_block | apply swp_exit | apply swp_ret | apply swp_skip | apply swp_cd
    | simp only [go_sem, seval, pe60, q60, hg, htk, e2]
    | simp (disch := omega) only [w64, w32, wu8, wu16, wu32, wu64]
    | ((with_reducible refine o_same (c1) ?he ?hh ?_); (case he => first | rfl | (simp [go_sem, seval, hg, e2]; done)); (case hh => first | rfl | (simp [go_sem, seval, hg, e2]; done)))
    | with_reducible first | apply cd_dec | apply cd_eq | apply cd_ne | apply cd_split
    | ((with_reducible refine And.intro ?hw ?_); (case hw => first | omega | rfl | exact ⟨_, _, rfl⟩ | assumption | (simp only [lN, hg, e2] <;> omega)))
    | with_reducible intro _)
      all_goals try omega
      all_goals try (refine ⟨j + 1, by omega, by omega, ?_⟩; simp [St.keep, keepE])
    · obtain rfl : j = n := by omega
      rcases hr with ⟨h1, rfl, rfl⟩ | ⟨h1, rfl, rfl, c1⟩
      · repeat' (first
    | with_reducible first | apply swp_seq | apply swp_reg | apply swp_regD | apply swp_block | apply swp_exit | apply swp_ret | apply swp_skip | apply swp_cd
    | simp only [go_sem, seval, pe60, q60]
    | simp (disch := omega) only [w64, w32, wu8, wu16, wu32, wu64]
    | with_reducible first | apply cd_dec | apply cd_eq | apply cd_ne | apply cd_split
    | ((with_reducible refine And.intro ?hw ?_); (case hw => first | omega | rfl | exact ⟨_, _, rfl⟩ | assumption | (simp only [lN] <;> omega)))
    | with_reducible intro _)
        all_goals try omega
        all_goals exact ⟨_, weak_refl, by simp⟩
      · obtain ⟨cs, e1, e2⟩ := hR j h1
        have hg : K.getD j .undef = .agg cs := by simp [List.getD, h1, e1]
        have htk : cs.take 14 = cs := List.take_of_length_le (by omega)
        rw [e1] at c1
        repeat' (first
    | with_reducible first | apply swp_seq | apply swp_reg | apply swp_regD | apply swp_block | apply swp_exit | apply swp_ret | apply swp_skip | apply swp_cd
    | simp only [go_sem, seval, pe60, q60, hg, htk, e2]
    | simp (disch := omega) only [w64, w32, wu8, wu16, wu32, wu64]
    | ((with_reducible refine o_same (c1) ?he ?hh ?_); (case he => first | rfl | (simp [go_sem, seval, hg, e2]; done)); (case hh => first | rfl | (simp [go_sem, seval, hg, e2]; done)))
    | with_reducible first | apply cd_dec | apply cd_eq | apply cd_ne | apply cd_split
    | ((with_reducible refine And.intro ?hw ?_); (case hw => first | omega | rfl | exact ⟨_, _, rfl⟩ | assumption | (simp only [lN, hg, e2] <;> omega)))
    | with_reducible intro _)
        all_goals try omega
        all_goals exact ⟨_, weak_refl, by simp⟩
theorem cf46 (K : List D) (hR : RowsK 14 K) (hl : K.length < 4611686018427387904) (f : FuncId) (a c : List D) (hpF : Nat → Hp) (nH nT : Nat) (hH : ∀ j, (hpF j).H.length = nH) (hT : ∀ j, (hpF j).tk.length = nT) (n : Nat) (hn : n ≤ K.length)
    (hf : ∀ j (h : j < n) (h' : j < K.length), Eff M f (a ++ [K[j]] ++ c) (hpF j) fun d hp => d = .bool false ∧ hp = hpF (j + 1)) (r : Bool) (e : Nat)
    (hr : (n = K.length ∧ r = false ∧ e = n) ∨ (∃ h : n < K.length, r = true ∧ e = n + 1 ∧ Eff M f (a ++ [K[n]] ++ c) (hpF n) fun d hp => d = .bool true ∧ hp = hpF (n + 1))) :
    Eff M 46 [.slice K .no, .fn (.func f) a c] (hpF 0) fun d hp => d = .bool r ∧ hp = hpF e := by
  have c1 : Eff M 60 [.slice K .no, .fn (.func f) a c] (hpF 0) fun d hp => d = .int .i64 (if r then (n : Int) else -1) ∧ hp = hpF e :=
    if60 K hR hl f a c hpF nH nT hH hT n hn hf _ e (by
      rcases hr with ⟨h1, rfl, rfl⟩ | ⟨h1, rfl, rfl, h2⟩
      · exact .inl ⟨h1, by simp, rfl⟩
      · exact .inr ⟨h1, by simp, rfl, h2⟩)
  refine oe46 nH nT rfl (hH 0).symm (hT 0).symm ?_
  rw [ie46]
  unfold c46
  cases r
  · simp only [Bool.false_eq_true, if_false] at c1
    repeat' (first
    | with_reducible first | apply swp_seq | apply swp_reg | apply swp_regD | apply swp_block | apply swp_exit | apply swp_ret | apply swp_skip | apply swp_cd
    | simp only [go_sem, seval, pe46, q46]
    | simp (disch := omega) only [w64, w32, wu8, wu16, wu32, wu64]
    | ((with_reducible refine o_same (c1) ?he ?hh ?_); (case he => first | rfl | (simp [go_sem, seval]; done)); (case hh => first | rfl | (simp [go_sem, seval]; done)))
    | with_reducible first | apply cd_dec | apply cd_eq | apply cd_ne | apply cd_split
    | ((with_reducible refine And.intro ?hw ?_); (case hw => first | omega | rfl | exact ⟨_, _, rfl⟩ | assumption | (simp only [lN] <;> omega)))
    | with_reducible intro _)
    all_goals exact ⟨_, weak_refl, by simp⟩
  · simp only [if_true] at c1
    repeat' (first
    | with_reducible first | apply swp_seq | apply swp_reg | apply swp_regD | apply swp_block | apply swp_exit | apply swp_ret | apply swp_skip | apply swp_cd
    | simp only [go_sem, seval, pe46, q46]
    | simp (disch := omega) only [w64, w32, wu8, wu16, wu32, wu64]
    | ((with_reducible refine o_same (c1) ?he ?hh ?_); (case he => first | rfl | (simp [go_sem, seval]; done)); (case hh => first | rfl | (simp [go_sem, seval]; done)))
    | with_reducible first | apply cd_dec | apply cd_eq | apply cd_ne | apply cd_split
    | ((with_reducible refine And.intro ?hw ?_); (case hw => first | omega | rfl | exact ⟨_, _, rfl⟩ | assumption | (simp only [lN] <;> omega)))
    | with_reducible intro _)
    all_goals refine ⟨_, weak_refl, by simp⟩
theorem rows_props (ps : List (List UInt8 × List UInt8)) : RowsK 2 (ps.map propD) := rows_map _ (fun p => ⟨[.str p.1, .str p.2], rfl, rfl⟩) ps
theorem any_find {α : Type} (p : α → Bool) (l : List α) : (∃ i, ∃ h : i < l.length, p l[i] = true ∧ (∀ j (g : j < i), p (l[j]'(by omega)) = false) ∧ l.any p = true) ∨ ((∀ j (h : j < l.length), p l[j] = false) ∧ l.any p = false) := by
  rcases first_of (p := fun x => p x = true) l with ⟨i, h, h1, h2⟩ | h
  · refine .inl ⟨i, h, h1, fun j g => by simpa using h2 j g, ?_⟩
    rw [List.any_eq_true]; exact ⟨l[i], List.getElem_mem h, h1⟩
  · refine .inr ⟨fun j hj => by simpa using h j hj, ?_⟩
    rw [List.any_eq_false]
    intro x hx
    obtain ⟨j, hj, rfl⟩ := List.getElem_of_mem hx
    exact h j hj
theorem any44 (ps : List (List UInt8 × List UInt8)) (hl : ps.length < 1000000) (f : FuncId) (c : List D) (hp : Hp) (p : List UInt8 × List UInt8 → Bool)
    (hf : ∀ x, Eff M f ([] ++ [propD x] ++ c) hp fun d h => d = .bool (p x) ∧ h = hp) : Eff M 44 [.slice (ps.map propD) .no, .fn (.func f) [] c] hp fun d h => d = .bool (ps.any p) ∧ h = hp := by
  have hlen : (ps.map propD).length = ps.length := by simp
  have e1 : ∀ j (h : j < ps.length), Eff M f ([] ++ [(ps.map propD)[j]'(by rw [hlen]; exact h)] ++ c) hp fun d h' => d = .bool (p ps[j]) ∧ h' = hp := fun j h => by
    simp only [List.getElem_map]; exact hf _
  rcases any_find p ps with ⟨i, h, h1, h2, h3⟩ | ⟨h, h3⟩
  · rw [h3]
    refine cf44 _ (rows_props ps) (by omega) f [] c (fun _ => hp) hp.H.length hp.tk.length (fun _ => rfl) (fun _ => rfl) i (by omega) (fun j hj hj' => ?_) true (i + 1) (.inr ⟨by omega, rfl, rfl, ?_⟩)
    · have := e1 j (by omega); rw [h2 j hj] at this; exact this
    · have := e1 i h; rw [h1] at this; exact this
  · rw [h3]
    refine cf44 _ (rows_props ps) (by omega) f [] c (fun _ => hp) hp.H.length hp.tk.length (fun _ => rfl) (fun _ => rfl) ps.length (by omega) (fun j hj hj' => ?_) false ps.length (.inl ⟨hlen.symm, rfl, rfl⟩)
    have := e1 j hj; rw [h j hj] at this; exact this
theorem any46 (ps : List Pt) (hl : ps.length < 1000000) (f : FuncId) (c : List D) (hp : Hp) (p : Pt → Bool)
    (hf : ∀ x, Eff M f ([] ++ [ptD x] ++ c) hp fun d h => d = .bool (p x) ∧ h = hp) : Eff M 46 [.slice (ps.map ptD) .no, .fn (.func f) [] c] hp fun d h => d = .bool (ps.any p) ∧ h = hp := by
  have hlen : (ps.map ptD).length = ps.length := by simp
  have e1 : ∀ j (h : j < ps.length), Eff M f ([] ++ [(ps.map ptD)[j]'(by rw [hlen]; exact h)] ++ c) hp fun d h' => d = .bool (p ps[j]) ∧ h' = hp := fun j h => by
    simp only [List.getElem_map]; exact hf _
  rcases any_find p ps with ⟨i, h, h1, h2, h3⟩ | ⟨h, h3⟩
  · rw [h3]
    refine cf46 _ (rows_P ps) (by omega) f [] c (fun _ => hp) hp.H.length hp.tk.length (fun _ => rfl) (fun _ => rfl) i (by omega) (fun j hj hj' => ?_) true (i + 1) (.inr ⟨by omega, rfl, rfl, ?_⟩)
    · have := e1 j (by omega); rw [h2 j hj] at this; exact this
    · have := e1 i h; rw [h1] at this; exact this
  · rw [h3]
    refine cf46 _ (rows_P ps) (by omega) f [] c (fun _ => hp) hp.H.length hp.tk.length (fun _ => rfl) (fun _ => rfl) ps.length (by omega) (fun j hj hj' => ?_) false ps.length (.inl ⟨hlen.symm, rfl, rfl⟩)
    have := e1 j hj; rw [h j hj] at this; exact this
theorem has45 (x : List UInt8 × List UInt8) (e : X) : Eff M 45 ([] ++ [propD x] ++ [.ptr 0 0]) ⟨[.cells e.cells], []⟩ fun d h => d = .bool (x.1 == e.nam) ∧ h = ⟨[.cells e.cells], []⟩ := by
  refine oe45 1 0 rfl rfl rfl ?_
  simp only [List.nil_append, List.cons_append]
  rw [ie45]
  unfold c45
  unfold propD
  repeat' (first
    | with_reducible first | apply swp_seq | apply swp_reg | apply swp_regD | apply swp_block | apply swp_exit | apply swp_ret | apply swp_skip | apply swp_cd
    | simp only [go_sem, seval, pe45, q45]
    | with_reducible first | apply cd_dec | apply cd_eq | apply cd_ne | apply cd_split
    | ((with_reducible refine And.intro ?hw ?_); (case hw => first | omega | rfl | exact ⟨_, _, rfl⟩ | assumption | (simp only [lN] <;> omega)))
    | with_reducible intro _)
  refine ⟨_, weak_gc 1 0 (Nat.le_refl _) (Nat.le_refl _), ?_⟩
  simp [St.gc, Hp.cut, D.rnL, D.rn, cutF, Blk.rn, Blk.rnL, Tv.rnL, Own.rn]
theorem fit47 (q : Pt) (part : List UInt8) (e : X) : Eff M 47 ([] ++ [ptD q] ++ [.ptr 0 0, .ptr 1 0]) ⟨[.cells [.str part], .cells e.cells], []⟩ fun d h => d = .bool (q.into == part && q.slot == e.nam && q.kind == e.val) ∧ h = ⟨[.cells [.str part], .cells e.cells], []⟩ := by
  refine oe47 2 0 rfl rfl rfl ?_
  simp only [List.nil_append, List.cons_append]
  rw [ie47]
  unfold c47
  unfold ptD
  repeat' (first
    | with_reducible first | apply swp_seq | apply swp_reg | apply swp_regD | apply swp_block | apply swp_exit | apply swp_ret | apply swp_skip | apply swp_cd
    | simp only [go_sem, seval, pe47, q47]
    | with_reducible first | apply cd_dec | apply cd_eq | apply cd_ne | apply cd_split | apply gd_dec | apply gd_eq | apply gd_ne | apply gd_split
    | ((with_reducible refine And.intro ?hw ?_); (case hw => first | omega | rfl | exact ⟨_, _, rfl⟩ | assumption | (simp only [lN] <;> omega)))
    | with_reducible intro _)
  all_goals refine ⟨_, weak_gc 2 0 (Nat.le_refl _) (Nat.le_refl _), ?_⟩
  all_goals simp [St.gc, Hp.cut, D.rnL, D.rn, cutF, Blk.rn, Blk.rnL, Tv.rnL, Own.rn]
  all_goals (intros; simp_all)
theorem index58 (l : List (List UInt8 × List UInt8)) (q : List UInt8 × List UInt8) (hl : l.length < 1000000) (n : Nat) (hn : n ≤ l.length) (hb : ∀ j (h : j < n), (q == l[j]'(by omega)) = false) (r : Int) (hr : (n = l.length ∧ r = -1) ∨ ∃ h : n < l.length, r = n ∧ (q == l[n]) = true) :
    Pur M 58 [.slice (l.map propD) .no, propD q] (.int .i64 r) := by
  refine ok58 rfl ?_
  rw [i58]
  unfold c58
  have hlen : (l.map propD).length = l.length := by simp
  unfold propD at hlen ⊢
  repeat' (first
    | with_reducible first | apply swp_seq | apply swp_reg | apply swp_regD | apply swp_block | apply swp_exit | apply swp_ret | apply swp_skip | apply swp_cd
    | simp only [go_sem, seval, P58, q58, hlen]
    | with_reducible first | apply cd_dec | apply cd_eq | apply cd_ne | apply cd_split
    | ((with_reducible refine And.intro ?hw ?_); (case hw => first | omega | rfl | exact ⟨_, _, rfl⟩ | assumption | (simp only [lN, hlen] <;> omega)))
    | with_reducible intro _)
  refine swp_fam [0, 1, 2, 3, 5, 6] (fun j : Nat => ⟨[.slice (l.map fun p => D.agg [.str p.1, .str p.2]) .no, .agg [.str q.1, .str q.2], .ptr 0 0, .int .i64 0, .undef, .int .i64 l.length, .int .i64 j, .undef, .undef], [], ⟨[.cells [.str q.1, .str q.2]], []⟩⟩) (fun j => j ≤ n) (fun j => l.length + 1 - j) 0 (by omega) ?_ ?_
  · simp [keepE, St.keep]
  · intro j hj
    by_cases hjl : j < l.length
    · have hg : (l.map propD).getD j .undef = .agg [.str (l[j]).1, .str (l[j]).2] := by simp [List.getD, hjl, propD]
      unfold propD at hg
      have he : ∀ b, (q == l[j]) = b → (q.1 == (l[j]).1 && q.2 == (l[j]).2) = b := fun b h => by
        rw [← h]
        rfl
      by_cases hjn : j < n
      · have hb' := he _ (hb j hjn)
        repeat' (first
    | with_reducible first | apply swp_seq | apply swp_reg | apply swp_regD | apply swp_block | apply swp_exit | apply swp_ret | apply swp_skip | apply swp_cd
    | simp only [go_sem, seval, P58, q58, hlen, hg, eqDs, eqD, hb']
    | simp (disch := omega) only [w64, w32, wu8, wu16, wu32, wu64]
    | with_reducible first | apply cd_dec | apply cd_eq | apply cd_ne | apply cd_split
    | ((with_reducible refine And.intro ?hw ?_); (case hw => first | omega | rfl | exact ⟨_, _, rfl⟩ | assumption | (simp only [lN, hlen, hg] <;> omega)))
    | with_reducible intro _)
        all_goals try omega
        all_goals first
          | (refine ⟨j + 1, by omega, by omega, ?_⟩; simp [St.keep, keepE])
          | skip
      · obtain rfl : j = n := by omega
        rcases hr with ⟨h1, _⟩ | ⟨h1, rfl, h2⟩
        · omega
        · have hb' := he _ h2
          repeat' (first
    | with_reducible first | apply swp_seq | apply swp_reg | apply swp_regD | apply swp_block | apply swp_exit | apply swp_ret | apply swp_skip | apply swp_cd
    | simp only [go_sem, seval, P58, q58, hlen, hg, eqDs, eqD, hb']
    | simp (disch := omega) only [w64, w32, wu8, wu16, wu32, wu64]
    | with_reducible first | apply cd_dec | apply cd_eq | apply cd_ne | apply cd_split
    | ((with_reducible refine And.intro ?hw ?_); (case hw => first | omega | rfl | exact ⟨_, _, rfl⟩ | assumption | (simp only [lN, hlen, hg] <;> omega)))
    | with_reducible intro _)
          all_goals try omega
          all_goals simp [D.closed, D.er, D.closedL, D.erL]
    · rcases hr with ⟨h1, rfl⟩ | ⟨h1, rfl, h2⟩
      · repeat' (first
    | with_reducible first | apply swp_seq | apply swp_reg | apply swp_regD | apply swp_block | apply swp_exit | apply swp_ret | apply swp_skip | apply swp_cd
    | simp only [go_sem, seval, P58, q58, hlen]
    | simp (disch := omega) only [w64, w32, wu8, wu16, wu32, wu64]
    | with_reducible first | apply cd_dec | apply cd_eq | apply cd_ne | apply cd_split
    | ((with_reducible refine And.intro ?hw ?_); (case hw => first | omega | rfl | exact ⟨_, _, rfl⟩ | assumption | (simp only [lN, hlen] <;> omega)))
    | with_reducible intro _)
        all_goals try omega
        all_goals simp [D.closed, D.er, D.closedL, D.erL]
      · omega
theorem cl_props (ps : List (List UInt8 × List UInt8)) : D.closedL (ps.map propD) = true ∧ D.erL (ps.map propD) = ps.map propD := by
  induction ps with
  | nil => exact ⟨rfl, rfl⟩
  | cons p ps ih => simp [D.closedL, D.erL, propD, D.closed, D.er] at ih ⊢; exact ih
theorem contains43 (l : List (List UInt8 × List UInt8)) (q : List UInt8 × List UInt8) (hl : l.length < 1000000) : Pur M 43 [.slice (l.map propD) .no, propD q] (.bool (l.contains q)) := by
  refine ok43 rfl ?_
  rw [i43]
  unfold c43
  have hc : l.contains q = l.any fun x => q == x := List.contains_eq_any_beq
  have hcl := (cl_props l).1
  have her := (cl_props l).2
  rw [hc]
  rcases any_find (fun x => q == x) l with ⟨i, h, h1, h2, h3⟩ | ⟨h, h3⟩
  · have c1 := index58 l q hl i (by omega) (fun j hj => h2 j hj) i (.inr ⟨h, rfl, h1⟩)
    rw [h3]
    unfold propD at c1 hcl her ⊢
    repeat' (first
    | with_reducible first | apply swp_seq | apply swp_reg | apply swp_regD | apply swp_block | apply swp_exit | apply swp_ret | apply swp_skip | apply swp_cd
    | simp only [go_sem, seval, P43, q43]
    | ((with_reducible refine o_call (c1) ?he ?hc ?_); (case he | hc => first | rfl | (simp [D.erL, D.er, D.closedL, D.closed, hcl, her]; done)))
    | with_reducible first | apply cd_dec | apply cd_eq | apply cd_ne | apply cd_split
    | ((with_reducible refine And.intro ?hw ?_); (case hw => first | omega | rfl | exact ⟨_, _, rfl⟩ | assumption | (simp only [lN, hcl, her] <;> omega)))
    | with_reducible intro _)
    all_goals simp [D.closed, D.er, D.closedL, D.erL]
  · have c1 := index58 l q hl l.length (Nat.le_refl _) (fun j hj => h j hj) (-1) (.inl ⟨rfl, rfl⟩)
    rw [h3]
    unfold propD at c1 hcl her ⊢
    repeat' (first
    | with_reducible first | apply swp_seq | apply swp_reg | apply swp_regD | apply swp_block | apply swp_exit | apply swp_ret | apply swp_skip | apply swp_cd
    | simp only [go_sem, seval, P43, q43]
    | ((with_reducible refine o_call (c1) ?he ?hc ?_); (case he | hc => first | rfl | (simp [D.erL, D.er, D.closedL, D.closed, hcl, her]; done)))
    | with_reducible first | apply cd_dec | apply cd_eq | apply cd_ne | apply cd_split
    | ((with_reducible refine And.intro ?hw ?_); (case hw => first | omega | rfl | exact ⟨_, _, rfl⟩ | assumption | (simp only [lN, hcl, her] <;> omega)))
    | with_reducible intro _)
    all_goals simp [D.closed, D.er, D.closedL, D.erL]
end Go.Proofs.Ytcchbohfcmfmlaa
end
