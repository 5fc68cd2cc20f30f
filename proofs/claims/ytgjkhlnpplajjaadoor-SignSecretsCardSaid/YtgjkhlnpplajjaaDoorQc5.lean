/- Own texts, merged by a program: the engine that walks the code, and what the functions that the law reaches compute. -/
import Derived.Test.YtgjkhlnpplajjaaDoorQc4
import Derived.Test.YtgjkhlnpplajjaaDoorProg
import Derived.KernelRfl
import Derived.Lib.ItoaNum
section
set_option maxRecDepth 100000
set_option linter.unusedSimpArgs false
set_option linter.unusedVariables false
namespace Go.Proofs.YtgjkhlnpplajjaaDoor
open Go GoV Go.RowKit
structure SmallS (x : Seal) : Prop where
  sl : x.sig.length ≤ 1000
  sx : ∀ t ∈ x.sig, t.length ≤ 1000
  pl : x.path.length ≤ 1000
  px : ∀ t ∈ x.path, t.length ≤ 1000
def endsV (m : List UInt8) (g : List (List UInt8)) (k : Nat) : List (List UInt8) := (List.range k).map fun k => chn (15 - (dgt m).getD k 0) (g.getD k [])
theorem endsV_len (m : List UInt8) (g : List (List UInt8)) (k : Nat) : (endsV m g k).length = k := by simp [endsV]
theorem endsV_succ (m : List UInt8) (g : List (List UInt8)) (k : Nat) : endsV m g (k + 1) = endsV m g k ++ [chn (15 - (dgt m).getD k 0) (g.getD k [])] := by simp [endsV, List.range_succ]
theorem endsV_all (m : List UInt8) (g : List (List UInt8)) : endsV m g 18 = ends' m g := rfl
theorem isD_len {t : List UInt8} (h : isD t = true) : t.length = 16 := by
  unfold isD at h
  simp only [Bool.and_eq_true, decide_eq_true_eq, beq_iff_eq] at h
  exact h.1
theorem okL_ends' {m : List UInt8} {g : List (List UInt8)} (h : ∀ t ∈ g, t.length ≤ 1000) : okL (ends' m g) := by
  refine ⟨by simp [ends'], fun t ht => ?_⟩
  obtain ⟨k, _, rfl⟩ := List.mem_map.1 ht
  by_cases e : 15 - (dgt m).getD k 0 = 0
  · rw [e]; exact get_small h
  · rw [chn_len e]; omega
theorem climb_len {p : List (List UInt8)} {a : List UInt8} {i : Nat} (ha : a.length = 16) : (climb a p i).length = 16 := by
  induction p generalizing a i with
  | nil => exact ha
  | cons x p ih => exact ih (by rw [par_sum]; exact sumN_len _)
theorem shr_nat {j k : Nat} (hk : k ≤ 40) : ((j : Nat) : Int).fdiv (2 ^ (min k 64)) = ((j / 2 ^ k : Nat) : Int) := by
  rw [Nat.min_eq_left (by omega), Int.fdiv_eq_ediv_of_nonneg _ (by exact_mod_cast Nat.zero_le _)]
  simp
def hpV (x : Seal) (m : List UInt8) (k : Nat) : Hp :=
  ⟨[.cells [.int .i64 x.idx, .slice (strs x.sig) .no, .slice (strs x.path) .no], .cells [.slice (strs (endsV m x.sig k)) (.tok 0)]], [.per 1 k]⟩
set_option maxHeartbeats 4000000 in
theorem verify_p (p m : List UInt8) (x : Seal) (hx : SmallS x) (hm : m.length ≤ 300) : Pur M 18 [.str p, .str m, sealD x] (.bool (ver p m x)) := by
  refine oT18 rfl ?_
  rw [i18]
  unfold c18 sealD
  have hsl := strs_len x.sig
  have hpl := strs_len x.path
  have heS := erL_strs x.sig
  have hcS := closed_strs x.sig
  have heP := erL_strs x.path
  have hcP := closed_strs x.path
  have o1 := odd_p x.sig hx.sl hx.sx
  have o2 := odd_p x.path hx.pl hx.px
  by_cases q1 : x.sig.length = 18
  case neg =>
    have hf : ver p m x = false := by unfold ver okS; simp [q1]
    rw [hf]
    have e1 : decide (((x.sig.length : Nat) : Int) ≠ 18) = true := decide_eq_true (by omega)
    generalize strs x.sig = S at *
    generalize strs x.path = P at *
    repeat' (first
    | with_reducible first | apply swp_seq | apply swp_reg | apply swp_regD | apply swp_block | apply swp_exit | apply swp_ret | apply swp_skip | apply swp_cd
    | with_reducible apply twp_seq
    | with_reducible apply twp_block
    | ((with_reducible refine twp_reg ?hb ?_); (case hb => exact fun _ _ => trivial); with_reducible intro _)
    | ((with_reducible refine twp_regD ?hb ?_); (case hb => exact fun _ _ => trivial); with_reducible intro _)
    | ((with_reducible refine twp_cond ?hb ?_); (case hb => exact fun _ _ => trivial); with_reducible intro _)
    | ((with_reducible refine twp_ret ?hb ?_); (case hb => exact fun _ _ => trivial))
    | simp only [go_sem, seval, P18, q18, q_shl, hsl, hpl, e1]
    | simp (disch := omega) only [w64, w32, wu8, wu16, wu32, wu64]
    | ((with_reducible apply s_appT); (case he => rfl); (case hK | hc | hr | hV => first | rfl | assumption | omega | ((first | refine ⟨?_, ?_⟩ | skip) <;> first | omega | (simp only [lN, heS, hcS, heP, hcP] <;> omega)) | (simp [elemsK, D.isVal, D.cells, D.closedL, D.closed, heS, hcS, heP, hcP]; first | done | omega)))
    | ((with_reducible apply s_appG); (case he => rfl); (case hV | hK | hr | hl => first | rfl | assumption | omega | ((first | refine ⟨?_, ?_⟩ | skip) <;> first | omega | (simp only [lN, heS, hcS, heP, hcP] <;> omega)) | (simp [elemsK, D.isVal, D.cells, D.closedL, D.closed, heS, hcS, heP, hcP]; first | done | omega)))
    | ((with_reducible apply s_app0); (case he => rfl); (case hK | hc | hr => first | rfl | assumption | omega | ((first | refine ⟨?_, ?_⟩ | skip) <;> first | omega | (simp only [lN, heS, hcS, heP, hcP] <;> omega)) | (simp [elemsK, D.isVal, D.cells, D.closedL, D.closed, heS, hcS, heP, hcP]; first | done | omega)))
    | ((with_reducible apply s_appF); (case he => rfl); (case hK | hc | hr | hx | hn => first | rfl | assumption | omega | ((first | refine ⟨?_, ?_⟩ | skip) <;> first | omega | (simp only [lN, heS, hcS, heP, hcP] <;> omega)) | (simp [elemsK, D.isVal, D.cells, D.closedL, D.closed, heS, hcS, heP, hcP]; first | done | omega)))
    | ((with_reducible first | apply s_bsl | apply t_bsl); (case he | hl | hc => first | rfl | assumption | omega | ((first | refine ⟨?_, ?_⟩ | skip) <;> first | omega | (simp only [lN, heS, hcS, heP, hcP] <;> omega)) | (simp [elemsK, D.isVal, D.cells, D.closedL, D.closed, heS, hcS, heP, hcP]; first | done | omega)))
    | with_reducible first | apply cd_dec | apply cd_eq | apply cd_ne | apply cd_split | apply gd_dec | apply gd_eq | apply gd_ne | apply gd_split | apply gq_dec | apply gq_eq | apply gq_ne | apply gq_split
    | ((with_reducible refine And.intro ?hw ?_); (case hw => first | omega | rfl | exact ⟨_, _, rfl⟩ | assumption | (simp only [lN, heS, hcS, heP, hcP] <;> omega)))
    | with_reducible intro _)
    all_goals try omega
    refine ⟨_, fun _ => weak_refl, ?_⟩
    simp [go_sem, D.closed, D.er]
  case pos =>
  rw [q1] at hsl
  by_cases q2 : x.path.length ≤ 8
  case neg =>
    have hf : ver p m x = false := by unfold ver okS; simp [q2]
    rw [hf]
    have e2 : decide (8 < ((x.path.length : Nat) : Int)) = true := decide_eq_true (by omega)
    generalize strs x.sig = S at *
    generalize strs x.path = P at *
    repeat' (first
    | with_reducible first | apply swp_seq | apply swp_reg | apply swp_regD | apply swp_block | apply swp_exit | apply swp_ret | apply swp_skip | apply swp_cd
    | with_reducible apply twp_seq
    | with_reducible apply twp_block
    | ((with_reducible refine twp_reg ?hb ?_); (case hb => exact fun _ _ => trivial); with_reducible intro _)
    | ((with_reducible refine twp_regD ?hb ?_); (case hb => exact fun _ _ => trivial); with_reducible intro _)
    | ((with_reducible refine twp_cond ?hb ?_); (case hb => exact fun _ _ => trivial); with_reducible intro _)
    | ((with_reducible refine twp_ret ?hb ?_); (case hb => exact fun _ _ => trivial))
    | simp only [go_sem, seval, P18, q18, q_shl, hsl, hpl, e2]
    | simp (disch := omega) only [w64, w32, wu8, wu16, wu32, wu64]
    | ((with_reducible apply s_appT); (case he => rfl); (case hK | hc | hr | hV => first | rfl | assumption | omega | ((first | refine ⟨?_, ?_⟩ | skip) <;> first | omega | (simp only [lN, heS, hcS, heP, hcP] <;> omega)) | (simp [elemsK, D.isVal, D.cells, D.closedL, D.closed, heS, hcS, heP, hcP]; first | done | omega)))
    | ((with_reducible apply s_appG); (case he => rfl); (case hV | hK | hr | hl => first | rfl | assumption | omega | ((first | refine ⟨?_, ?_⟩ | skip) <;> first | omega | (simp only [lN, heS, hcS, heP, hcP] <;> omega)) | (simp [elemsK, D.isVal, D.cells, D.closedL, D.closed, heS, hcS, heP, hcP]; first | done | omega)))
    | ((with_reducible apply s_app0); (case he => rfl); (case hK | hc | hr => first | rfl | assumption | omega | ((first | refine ⟨?_, ?_⟩ | skip) <;> first | omega | (simp only [lN, heS, hcS, heP, hcP] <;> omega)) | (simp [elemsK, D.isVal, D.cells, D.closedL, D.closed, heS, hcS, heP, hcP]; first | done | omega)))
    | ((with_reducible apply s_appF); (case he => rfl); (case hK | hc | hr | hx | hn => first | rfl | assumption | omega | ((first | refine ⟨?_, ?_⟩ | skip) <;> first | omega | (simp only [lN, heS, hcS, heP, hcP] <;> omega)) | (simp [elemsK, D.isVal, D.cells, D.closedL, D.closed, heS, hcS, heP, hcP]; first | done | omega)))
    | ((with_reducible first | apply s_bsl | apply t_bsl); (case he | hl | hc => first | rfl | assumption | omega | ((first | refine ⟨?_, ?_⟩ | skip) <;> first | omega | (simp only [lN, heS, hcS, heP, hcP] <;> omega)) | (simp [elemsK, D.isVal, D.cells, D.closedL, D.closed, heS, hcS, heP, hcP]; first | done | omega)))
    | with_reducible first | apply cd_dec | apply cd_eq | apply cd_ne | apply cd_split | apply gd_dec | apply gd_eq | apply gd_ne | apply gd_split | apply gq_dec | apply gq_eq | apply gq_ne | apply gq_split
    | ((with_reducible refine And.intro ?hw ?_); (case hw => first | omega | rfl | exact ⟨_, _, rfl⟩ | assumption | (simp only [lN, heS, hcS, heP, hcP] <;> omega)))
    | with_reducible intro _)
    all_goals try omega
    refine ⟨_, fun _ => weak_refl, ?_⟩
    simp [go_sem, D.closed, D.er]
  case pos =>
  have e2 : decide (8 < ((x.path.length : Nat) : Int)) = false := decide_eq_false (by omega)
  by_cases q3 : x.sig.all isD = true
  case neg =>
    have hf : ver p m x = false := by unfold ver okS; simp [q3]
    rw [hf]
    have q3' : x.sig.all isD = false := by simpa using q3
    rw [q3'] at o1
    generalize strs x.sig = S at *
    generalize strs x.path = P at *
    repeat' (first
    | with_reducible first | apply swp_seq | apply swp_reg | apply swp_regD | apply swp_block | apply swp_exit | apply swp_ret | apply swp_skip | apply swp_cd
    | with_reducible apply twp_seq
    | with_reducible apply twp_block
    | ((with_reducible refine twp_reg ?hb ?_); (case hb => exact fun _ _ => trivial); with_reducible intro _)
    | ((with_reducible refine twp_regD ?hb ?_); (case hb => exact fun _ _ => trivial); with_reducible intro _)
    | ((with_reducible refine twp_cond ?hb ?_); (case hb => exact fun _ _ => trivial); with_reducible intro _)
    | ((with_reducible refine twp_ret ?hb ?_); (case hb => exact fun _ _ => trivial))
    | simp only [go_sem, seval, P18, q18, q_shl, hsl, hpl, e2]
    | simp (disch := omega) only [w64, w32, wu8, wu16, wu32, wu64]
    | ((with_reducible first | refine o_call (o1) ?he ?hc ?_ | refine p_call (o1) ?he ?hc ?_ | refine c_call (o1) ?he ?hc ?_); (case he | hc => first | rfl | (simp [D.erL, D.er, D.closedL, D.closed, heS, hcS, heP, hcP]; done)))
    | ((with_reducible apply s_appT); (case he => rfl); (case hK | hc | hr | hV => first | rfl | assumption | omega | ((first | refine ⟨?_, ?_⟩ | skip) <;> first | omega | (simp only [lN, heS, hcS, heP, hcP] <;> omega)) | (simp [elemsK, D.isVal, D.cells, D.closedL, D.closed, heS, hcS, heP, hcP]; first | done | omega)))
    | ((with_reducible apply s_appG); (case he => rfl); (case hV | hK | hr | hl => first | rfl | assumption | omega | ((first | refine ⟨?_, ?_⟩ | skip) <;> first | omega | (simp only [lN, heS, hcS, heP, hcP] <;> omega)) | (simp [elemsK, D.isVal, D.cells, D.closedL, D.closed, heS, hcS, heP, hcP]; first | done | omega)))
    | ((with_reducible apply s_app0); (case he => rfl); (case hK | hc | hr => first | rfl | assumption | omega | ((first | refine ⟨?_, ?_⟩ | skip) <;> first | omega | (simp only [lN, heS, hcS, heP, hcP] <;> omega)) | (simp [elemsK, D.isVal, D.cells, D.closedL, D.closed, heS, hcS, heP, hcP]; first | done | omega)))
    | ((with_reducible apply s_appF); (case he => rfl); (case hK | hc | hr | hx | hn => first | rfl | assumption | omega | ((first | refine ⟨?_, ?_⟩ | skip) <;> first | omega | (simp only [lN, heS, hcS, heP, hcP] <;> omega)) | (simp [elemsK, D.isVal, D.cells, D.closedL, D.closed, heS, hcS, heP, hcP]; first | done | omega)))
    | ((with_reducible first | apply s_bsl | apply t_bsl); (case he | hl | hc => first | rfl | assumption | omega | ((first | refine ⟨?_, ?_⟩ | skip) <;> first | omega | (simp only [lN, heS, hcS, heP, hcP] <;> omega)) | (simp [elemsK, D.isVal, D.cells, D.closedL, D.closed, heS, hcS, heP, hcP]; first | done | omega)))
    | with_reducible first | apply cd_dec | apply cd_eq | apply cd_ne | apply cd_split | apply gd_dec | apply gd_eq | apply gd_ne | apply gd_split | apply gq_dec | apply gq_eq | apply gq_ne | apply gq_split
    | ((with_reducible refine And.intro ?hw ?_); (case hw => first | omega | rfl | exact ⟨_, _, rfl⟩ | assumption | (simp only [lN, heS, hcS, heP, hcP] <;> omega)))
    | with_reducible intro _)
    all_goals try omega
    refine ⟨_, fun _ => weak_refl, ?_⟩
    simp [go_sem, D.closed, D.er]
  case pos =>
  rw [q3] at o1
  by_cases q4 : x.path.all isD = true
  case neg =>
    have hf : ver p m x = false := by unfold ver okS; simp [q4]
    rw [hf]
    have q4' : x.path.all isD = false := by simpa using q4
    rw [q4'] at o2
    generalize strs x.sig = S at *
    generalize strs x.path = P at *
    repeat' (first
    | with_reducible first | apply swp_seq | apply swp_reg | apply swp_regD | apply swp_block | apply swp_exit | apply swp_ret | apply swp_skip | apply swp_cd
    | with_reducible apply twp_seq
    | with_reducible apply twp_block
    | ((with_reducible refine twp_reg ?hb ?_); (case hb => exact fun _ _ => trivial); with_reducible intro _)
    | ((with_reducible refine twp_regD ?hb ?_); (case hb => exact fun _ _ => trivial); with_reducible intro _)
    | ((with_reducible refine twp_cond ?hb ?_); (case hb => exact fun _ _ => trivial); with_reducible intro _)
    | ((with_reducible refine twp_ret ?hb ?_); (case hb => exact fun _ _ => trivial))
    | simp only [go_sem, seval, P18, q18, q_shl, hsl, hpl, e2]
    | simp (disch := omega) only [w64, w32, wu8, wu16, wu32, wu64]
    | ((with_reducible first | refine o_call (o1) ?he ?hc ?_ | refine p_call (o1) ?he ?hc ?_ | refine c_call (o1) ?he ?hc ?_); (case he | hc => first | rfl | (simp [D.erL, D.er, D.closedL, D.closed, heS, hcS, heP, hcP]; done)))
    | ((with_reducible first | refine o_call (o2) ?he ?hc ?_ | refine p_call (o2) ?he ?hc ?_ | refine c_call (o2) ?he ?hc ?_); (case he | hc => first | rfl | (simp [D.erL, D.er, D.closedL, D.closed, heS, hcS, heP, hcP]; done)))
    | ((with_reducible apply s_appT); (case he => rfl); (case hK | hc | hr | hV => first | rfl | assumption | omega | ((first | refine ⟨?_, ?_⟩ | skip) <;> first | omega | (simp only [lN, heS, hcS, heP, hcP] <;> omega)) | (simp [elemsK, D.isVal, D.cells, D.closedL, D.closed, heS, hcS, heP, hcP]; first | done | omega)))
    | ((with_reducible apply s_appG); (case he => rfl); (case hV | hK | hr | hl => first | rfl | assumption | omega | ((first | refine ⟨?_, ?_⟩ | skip) <;> first | omega | (simp only [lN, heS, hcS, heP, hcP] <;> omega)) | (simp [elemsK, D.isVal, D.cells, D.closedL, D.closed, heS, hcS, heP, hcP]; first | done | omega)))
    | ((with_reducible apply s_app0); (case he => rfl); (case hK | hc | hr => first | rfl | assumption | omega | ((first | refine ⟨?_, ?_⟩ | skip) <;> first | omega | (simp only [lN, heS, hcS, heP, hcP] <;> omega)) | (simp [elemsK, D.isVal, D.cells, D.closedL, D.closed, heS, hcS, heP, hcP]; first | done | omega)))
    | ((with_reducible apply s_appF); (case he => rfl); (case hK | hc | hr | hx | hn => first | rfl | assumption | omega | ((first | refine ⟨?_, ?_⟩ | skip) <;> first | omega | (simp only [lN, heS, hcS, heP, hcP] <;> omega)) | (simp [elemsK, D.isVal, D.cells, D.closedL, D.closed, heS, hcS, heP, hcP]; first | done | omega)))
    | ((with_reducible first | apply s_bsl | apply t_bsl); (case he | hl | hc => first | rfl | assumption | omega | ((first | refine ⟨?_, ?_⟩ | skip) <;> first | omega | (simp only [lN, heS, hcS, heP, hcP] <;> omega)) | (simp [elemsK, D.isVal, D.cells, D.closedL, D.closed, heS, hcS, heP, hcP]; first | done | omega)))
    | with_reducible first | apply cd_dec | apply cd_eq | apply cd_ne | apply cd_split | apply gd_dec | apply gd_eq | apply gd_ne | apply gd_split | apply gq_dec | apply gq_eq | apply gq_ne | apply gq_split
    | ((with_reducible refine And.intro ?hw ?_); (case hw => first | omega | rfl | exact ⟨_, _, rfl⟩ | assumption | (simp only [lN, heS, hcS, heP, hcP] <;> omega)))
    | with_reducible intro _)
    all_goals try omega
    refine ⟨_, fun _ => weak_refl, ?_⟩
    simp [go_sem, D.closed, D.er]
  case pos =>
  rw [q4] at o2
  by_cases q5 : 0 ≤ x.idx
  case neg =>
    have hf : ver p m x = false := by unfold ver okS; simp [q5]
    rw [hf]
    have e5 : decide (x.idx < 0) = true := decide_eq_true (by omega)
    generalize strs x.sig = S at *
    generalize strs x.path = P at *
    repeat' (first
    | with_reducible first | apply swp_seq | apply swp_reg | apply swp_regD | apply swp_block | apply swp_exit | apply swp_ret | apply swp_skip | apply swp_cd
    | with_reducible apply twp_seq
    | with_reducible apply twp_block
    | ((with_reducible refine twp_reg ?hb ?_); (case hb => exact fun _ _ => trivial); with_reducible intro _)
    | ((with_reducible refine twp_regD ?hb ?_); (case hb => exact fun _ _ => trivial); with_reducible intro _)
    | ((with_reducible refine twp_cond ?hb ?_); (case hb => exact fun _ _ => trivial); with_reducible intro _)
    | ((with_reducible refine twp_ret ?hb ?_); (case hb => exact fun _ _ => trivial))
    | simp only [go_sem, seval, P18, q18, q_shl, hsl, hpl, e2, e5]
    | simp (disch := omega) only [w64, w32, wu8, wu16, wu32, wu64]
    | ((with_reducible first | refine o_call (o1) ?he ?hc ?_ | refine p_call (o1) ?he ?hc ?_ | refine c_call (o1) ?he ?hc ?_); (case he | hc => first | rfl | (simp [D.erL, D.er, D.closedL, D.closed, heS, hcS, heP, hcP]; done)))
    | ((with_reducible first | refine o_call (o2) ?he ?hc ?_ | refine p_call (o2) ?he ?hc ?_ | refine c_call (o2) ?he ?hc ?_); (case he | hc => first | rfl | (simp [D.erL, D.er, D.closedL, D.closed, heS, hcS, heP, hcP]; done)))
    | ((with_reducible apply s_appT); (case he => rfl); (case hK | hc | hr | hV => first | rfl | assumption | omega | ((first | refine ⟨?_, ?_⟩ | skip) <;> first | omega | (simp only [lN, heS, hcS, heP, hcP] <;> omega)) | (simp [elemsK, D.isVal, D.cells, D.closedL, D.closed, heS, hcS, heP, hcP]; first | done | omega)))
    | ((with_reducible apply s_appG); (case he => rfl); (case hV | hK | hr | hl => first | rfl | assumption | omega | ((first | refine ⟨?_, ?_⟩ | skip) <;> first | omega | (simp only [lN, heS, hcS, heP, hcP] <;> omega)) | (simp [elemsK, D.isVal, D.cells, D.closedL, D.closed, heS, hcS, heP, hcP]; first | done | omega)))
    | ((with_reducible apply s_app0); (case he => rfl); (case hK | hc | hr => first | rfl | assumption | omega | ((first | refine ⟨?_, ?_⟩ | skip) <;> first | omega | (simp only [lN, heS, hcS, heP, hcP] <;> omega)) | (simp [elemsK, D.isVal, D.cells, D.closedL, D.closed, heS, hcS, heP, hcP]; first | done | omega)))
    | ((with_reducible apply s_appF); (case he => rfl); (case hK | hc | hr | hx | hn => first | rfl | assumption | omega | ((first | refine ⟨?_, ?_⟩ | skip) <;> first | omega | (simp only [lN, heS, hcS, heP, hcP] <;> omega)) | (simp [elemsK, D.isVal, D.cells, D.closedL, D.closed, heS, hcS, heP, hcP]; first | done | omega)))
    | ((with_reducible first | apply s_bsl | apply t_bsl); (case he | hl | hc => first | rfl | assumption | omega | ((first | refine ⟨?_, ?_⟩ | skip) <;> first | omega | (simp only [lN, heS, hcS, heP, hcP] <;> omega)) | (simp [elemsK, D.isVal, D.cells, D.closedL, D.closed, heS, hcS, heP, hcP]; first | done | omega)))
    | with_reducible first | apply cd_dec | apply cd_eq | apply cd_ne | apply cd_split | apply gd_dec | apply gd_eq | apply gd_ne | apply gd_split | apply gq_dec | apply gq_eq | apply gq_ne | apply gq_split
    | ((with_reducible refine And.intro ?hw ?_); (case hw => first | omega | rfl | exact ⟨_, _, rfl⟩ | assumption | (simp only [lN, heS, hcS, heP, hcP] <;> omega)))
    | with_reducible intro _)
    all_goals try omega
    refine ⟨_, fun _ => weak_refl, ?_⟩
    simp [go_sem, D.closed, D.er]
  case pos =>
  have e5 : decide (x.idx < 0) = false := decide_eq_false (by omega)
  have hw := shl_one (h := x.path.length) (by omega)
  have e4 : (2 : Int) ^ x.path.length = ((2 ^ x.path.length : Nat) : Int) := by simp
  by_cases q6 : x.idx < ((2 ^ x.path.length : Nat) : Int)
  case neg =>
    have hf : ver p m x = false := by unfold ver okS; rw [e4, decide_eq_false q6, Bool.and_false, Bool.false_and]
    rw [hf]
    have e6 : decide (((2 ^ x.path.length : Nat) : Int) ≤ x.idx) = true := decide_eq_true (by omega)
    generalize 2 ^ x.path.length = N at *
    generalize strs x.sig = S at *
    generalize strs x.path = P at *
    repeat' (first
    | with_reducible first | apply swp_seq | apply swp_reg | apply swp_regD | apply swp_block | apply swp_exit | apply swp_ret | apply swp_skip | apply swp_cd
    | with_reducible apply twp_seq
    | with_reducible apply twp_block
    | ((with_reducible refine twp_reg ?hb ?_); (case hb => exact fun _ _ => trivial); with_reducible intro _)
    | ((with_reducible refine twp_regD ?hb ?_); (case hb => exact fun _ _ => trivial); with_reducible intro _)
    | ((with_reducible refine twp_cond ?hb ?_); (case hb => exact fun _ _ => trivial); with_reducible intro _)
    | ((with_reducible refine twp_ret ?hb ?_); (case hb => exact fun _ _ => trivial))
    | simp only [go_sem, seval, P18, q18, q_shl, hsl, hpl, e2, e5, hw, e6]
    | simp (disch := omega) only [w64, w32, wu8, wu16, wu32, wu64]
    | ((with_reducible first | refine o_call (o1) ?he ?hc ?_ | refine p_call (o1) ?he ?hc ?_ | refine c_call (o1) ?he ?hc ?_); (case he | hc => first | rfl | (simp [D.erL, D.er, D.closedL, D.closed, heS, hcS, heP, hcP]; done)))
    | ((with_reducible first | refine o_call (o2) ?he ?hc ?_ | refine p_call (o2) ?he ?hc ?_ | refine c_call (o2) ?he ?hc ?_); (case he | hc => first | rfl | (simp [D.erL, D.er, D.closedL, D.closed, heS, hcS, heP, hcP]; done)))
    | ((with_reducible apply s_appT); (case he => rfl); (case hK | hc | hr | hV => first | rfl | assumption | omega | ((first | refine ⟨?_, ?_⟩ | skip) <;> first | omega | (simp only [lN, heS, hcS, heP, hcP] <;> omega)) | (simp [elemsK, D.isVal, D.cells, D.closedL, D.closed, heS, hcS, heP, hcP]; first | done | omega)))
    | ((with_reducible apply s_appG); (case he => rfl); (case hV | hK | hr | hl => first | rfl | assumption | omega | ((first | refine ⟨?_, ?_⟩ | skip) <;> first | omega | (simp only [lN, heS, hcS, heP, hcP] <;> omega)) | (simp [elemsK, D.isVal, D.cells, D.closedL, D.closed, heS, hcS, heP, hcP]; first | done | omega)))
    | ((with_reducible apply s_app0); (case he => rfl); (case hK | hc | hr => first | rfl | assumption | omega | ((first | refine ⟨?_, ?_⟩ | skip) <;> first | omega | (simp only [lN, heS, hcS, heP, hcP] <;> omega)) | (simp [elemsK, D.isVal, D.cells, D.closedL, D.closed, heS, hcS, heP, hcP]; first | done | omega)))
    | ((with_reducible apply s_appF); (case he => rfl); (case hK | hc | hr | hx | hn => first | rfl | assumption | omega | ((first | refine ⟨?_, ?_⟩ | skip) <;> first | omega | (simp only [lN, heS, hcS, heP, hcP] <;> omega)) | (simp [elemsK, D.isVal, D.cells, D.closedL, D.closed, heS, hcS, heP, hcP]; first | done | omega)))
    | ((with_reducible first | apply s_bsl | apply t_bsl); (case he | hl | hc => first | rfl | assumption | omega | ((first | refine ⟨?_, ?_⟩ | skip) <;> first | omega | (simp only [lN, heS, hcS, heP, hcP] <;> omega)) | (simp [elemsK, D.isVal, D.cells, D.closedL, D.closed, heS, hcS, heP, hcP]; first | done | omega)))
    | with_reducible first | apply cd_dec | apply cd_eq | apply cd_ne | apply cd_split | apply gd_dec | apply gd_eq | apply gd_ne | apply gd_split | apply gq_dec | apply gq_eq | apply gq_ne | apply gq_split
    | ((with_reducible refine And.intro ?hw ?_); (case hw => first | omega | rfl | exact ⟨_, _, rfl⟩ | assumption | (simp only [lN, heS, hcS, heP, hcP] <;> omega)))
    | with_reducible intro _)
    all_goals try omega
    refine ⟨_, fun _ => weak_refl, ?_⟩
    simp [go_sem, D.closed, D.er]
  case pos =>
  have e6 : decide (((2 ^ x.path.length : Nat) : Int) ≤ x.idx) = false := decide_eq_false (by omega)
  have hok : okS x = true := by
    unfold okS
    rw [e4]
    rw [q3, q4, decide_eq_true q1, decide_eq_true q2, decide_eq_true q5, decide_eq_true q6]
    rfl
  unfold ver
  rw [hok, Bool.true_and]
  have c1 := sdigits_p m
  have hit := digits_it m (by omega)
  have c3 := of_p (ends' m x.sig) (okL_ends' hx.sx)
  have hN : 2 ^ x.path.length ≤ 2 ^ 8 := Nat.pow_le_pow_right (by omega) (by omega)
  have h256 : (2 : Nat) ^ 8 = 256 := by decide
  generalize hN2 : 2 ^ x.path.length = N at *
  repeat' (first
    | with_reducible first | apply swp_seq | apply swp_reg | apply swp_regD | apply swp_block | apply swp_exit | apply swp_ret | apply swp_skip | apply swp_cd
    | with_reducible apply twp_seq
    | with_reducible apply twp_block
    | ((with_reducible refine twp_reg ?hb ?_); (case hb => exact fun _ _ => trivial); with_reducible intro _)
    | ((with_reducible refine twp_regD ?hb ?_); (case hb => exact fun _ _ => trivial); with_reducible intro _)
    | ((with_reducible refine twp_cond ?hb ?_); (case hb => exact fun _ _ => trivial); with_reducible intro _)
    | ((with_reducible refine twp_ret ?hb ?_); (case hb => exact fun _ _ => trivial))
    | simp only [go_sem, seval, P18, q18, q_shl, hsl, hpl, e2, e5, hw, e6]
    | simp (disch := omega) only [w64, w32, wu8, wu16, wu32, wu64]
    | ((with_reducible first | refine o_call (o1) ?he ?hc ?_ | refine p_call (o1) ?he ?hc ?_ | refine c_call (o1) ?he ?hc ?_); (case he | hc => first | rfl | (simp [D.erL, D.er, D.closedL, D.closed, heS, hcS, heP, hcP]; done)))
    | ((with_reducible first | refine o_call (o2) ?he ?hc ?_ | refine p_call (o2) ?he ?hc ?_ | refine c_call (o2) ?he ?hc ?_); (case he | hc => first | rfl | (simp [D.erL, D.er, D.closedL, D.closed, heS, hcS, heP, hcP]; done)))
    | ((with_reducible first | refine o_call (c1) ?he ?hc ?_ | refine p_call (c1) ?he ?hc ?_ | refine c_call (c1) ?he ?hc ?_); (case he | hc => first | rfl | (simp [D.erL, D.er, D.closedL, D.closed, heS, hcS, heP, hcP]; done)))
    | ((with_reducible apply s_appT); (case he => rfl); (case hK | hc | hr | hV => first | rfl | assumption | omega | ((first | refine ⟨?_, ?_⟩ | skip) <;> first | omega | (simp only [lN, heS, hcS, heP, hcP] <;> omega)) | (simp [elemsK, D.isVal, D.cells, D.closedL, D.closed, heS, hcS, heP, hcP]; first | done | omega)))
    | ((with_reducible apply s_appG); (case he => rfl); (case hV | hK | hr | hl => first | rfl | assumption | omega | ((first | refine ⟨?_, ?_⟩ | skip) <;> first | omega | (simp only [lN, heS, hcS, heP, hcP] <;> omega)) | (simp [elemsK, D.isVal, D.cells, D.closedL, D.closed, heS, hcS, heP, hcP]; first | done | omega)))
    | ((with_reducible apply s_app0); (case he => rfl); (case hK | hc | hr => first | rfl | assumption | omega | ((first | refine ⟨?_, ?_⟩ | skip) <;> first | omega | (simp only [lN, heS, hcS, heP, hcP] <;> omega)) | (simp [elemsK, D.isVal, D.cells, D.closedL, D.closed, heS, hcS, heP, hcP]; first | done | omega)))
    | ((with_reducible apply s_appF); (case he => rfl); (case hK | hc | hr | hx | hn => first | rfl | assumption | omega | ((first | refine ⟨?_, ?_⟩ | skip) <;> first | omega | (simp only [lN, heS, hcS, heP, hcP] <;> omega)) | (simp [elemsK, D.isVal, D.cells, D.closedL, D.closed, heS, hcS, heP, hcP]; first | done | omega)))
    | ((with_reducible first | apply s_bsl | apply t_bsl); (case he | hl | hc => first | rfl | assumption | omega | ((first | refine ⟨?_, ?_⟩ | skip) <;> first | omega | (simp only [lN, heS, hcS, heP, hcP] <;> omega)) | (simp [elemsK, D.isVal, D.cells, D.closedL, D.closed, heS, hcS, heP, hcP]; first | done | omega)))
    | with_reducible first | apply cd_dec | apply cd_eq | apply cd_ne | apply cd_split | apply gd_dec | apply gd_eq | apply gd_ne | apply gd_split | apply gq_dec | apply gq_eq | apply gq_ne | apply gq_split
    | ((with_reducible refine And.intro ?hw ?_); (case hw => first | omega | rfl | exact ⟨_, _, rfl⟩ | assumption | (simp only [lN, heS, hcS, heP, hcP] <;> omega)))
    | with_reducible intro _)
  all_goals try omega
  obtain ⟨j, hj⟩ : ∃ j : Nat, x.idx = j := ⟨x.idx.toNat, by omega⟩
  have hj8 : j < 256 := by omega
  have e7 : x.idx.toNat = j := by omega
  rw [e7]
  refine twp_weak (fun _ => weak_newC 1 0 1 (by decide) rfl rfl) (show TWp C18 0 0 _ _ ⟨[.str p, .str m, sealD x, .ptr 0 0, .bool false, .int .i64 (x.path.length : Nat), .fn (.func 38) [] [], .ptr 1 0, .undef, .undef, .undef, .undef, .undef, .bool false, .fn (.func 56) [] [.ip [.str m]], .undef, .undef, .undef, .undef, .undef, .undef], [], hpV x m 0⟩ from ?_)
  refine twp_range (fun _ _ => trivial) hit (hpV x m) rfl ?_ rfl ?_ ?_
  · intro r hr
    obtain ⟨k, _, rfl⟩ := List.mem_map.1 hr
    rfl
  · intro k r hk
    have hlt : k < 18 := by rw [← drows_len m]; exact (List.getElem?_eq_some_iff.1 hk).1
    rw [drows_get hlt] at hk
    cases hk
    have hd := dgt_get m k
    have c6 := chain_p (x.sig.getD k []) (15 - (dgt m).getD k 0) (by have := get_small (i := k) hx.sx; omega) (by omega)
    have hg := strs_get (l := x.sig) (i := k) (by omega)
    have hss := endsV_succ m x.sig k
    have hvl := endsV_len m x.sig k
    have t1 : ((k : Nat) : Int).toNat = k := Int.toNat_natCast k
    have t2 : (15 : Int) - (((dgt m).getD k 0 : Nat) : Int) = ((15 - (dgt m).getD k 0 : Nat) : Int) := by omega
    simp only [hpV, hss]
    generalize chn (15 - (dgt m).getD k 0) (x.sig.getD k []) = z at *
    generalize x.sig.getD k [] = g at *
    generalize hD2 : 15 - (dgt m).getD k 0 = e at *
    generalize (dgt m).getD k 0 = d at *
    generalize endsV m x.sig k = T at *
    generalize strs x.sig = S at *
    generalize strs x.path = P at *
    have hT := strs_len T
    have hs2 : strs (T ++ [z]) = strs T ++ [.str z] := by simp
    rw [hs2]
    simp only [GoV.binds]
    repeat' (first
    | with_reducible first | apply swp_seq | apply swp_reg | apply swp_regD | apply swp_block | apply swp_exit | apply swp_ret | apply swp_skip | apply swp_cd
    | with_reducible apply twp_seq
    | with_reducible apply twp_block
    | ((with_reducible refine twp_reg ?hb ?_); (case hb => exact fun _ _ => trivial); with_reducible intro _)
    | ((with_reducible refine twp_regD ?hb ?_); (case hb => exact fun _ _ => trivial); with_reducible intro _)
    | ((with_reducible refine twp_cond ?hb ?_); (case hb => exact fun _ _ => trivial); with_reducible intro _)
    | ((with_reducible refine twp_ret ?hb ?_); (case hb => exact fun _ _ => trivial))
    | simp only [go_sem, seval, P18, q18, t1, hg, hsl, t2]
    | simp (disch := omega) only [w64, w32, wu8, wu16, wu32, wu64]
    | ((with_reducible first | refine o_call (c6) ?he ?hc ?_ | refine p_call (c6) ?he ?hc ?_ | refine c_call (c6) ?he ?hc ?_); (case he | hc => first | rfl | (simp [D.erL, D.er, D.closedL, D.closed, hT, hvl, hsl]; done)))
    | ((with_reducible apply s_appT); (case he => rfl); (case hK | hc | hr | hV => first | rfl | assumption | omega | ((first | refine ⟨?_, ?_⟩ | skip) <;> first | omega | (simp only [lN, hT, hvl, hsl] <;> omega)) | (simp [elemsK, D.isVal, D.cells, D.closedL, D.closed, hT, hvl, hsl]; first | done | omega)))
    | ((with_reducible apply s_appG); (case he => rfl); (case hV | hK | hr | hl => first | rfl | assumption | omega | ((first | refine ⟨?_, ?_⟩ | skip) <;> first | omega | (simp only [lN, hT, hvl, hsl] <;> omega)) | (simp [elemsK, D.isVal, D.cells, D.closedL, D.closed, hT, hvl, hsl]; first | done | omega)))
    | ((with_reducible apply s_app0); (case he => rfl); (case hK | hc | hr => first | rfl | assumption | omega | ((first | refine ⟨?_, ?_⟩ | skip) <;> first | omega | (simp only [lN, hT, hvl, hsl] <;> omega)) | (simp [elemsK, D.isVal, D.cells, D.closedL, D.closed, hT, hvl, hsl]; first | done | omega)))
    | ((with_reducible apply s_appF); (case he => rfl); (case hK | hc | hr | hx | hn => first | rfl | assumption | omega | ((first | refine ⟨?_, ?_⟩ | skip) <;> first | omega | (simp only [lN, hT, hvl, hsl] <;> omega)) | (simp [elemsK, D.isVal, D.cells, D.closedL, D.closed, hT, hvl, hsl]; first | done | omega)))
    | ((with_reducible first | apply s_bsl | apply t_bsl); (case he | hl | hc => first | rfl | assumption | omega | ((first | refine ⟨?_, ?_⟩ | skip) <;> first | omega | (simp only [lN, hT, hvl, hsl] <;> omega)) | (simp [elemsK, D.isVal, D.cells, D.closedL, D.closed, hT, hvl, hsl]; first | done | omega)))
    | with_reducible first | apply cd_dec | apply cd_eq | apply cd_ne | apply cd_split | apply gd_dec | apply gd_eq | apply gd_ne | apply gd_split | apply gq_dec | apply gq_eq | apply gq_ne | apply gq_split
    | ((with_reducible refine And.intro ?hw ?_); (case hw => first | omega | rfl | exact ⟨_, _, rfl⟩ | assumption | (simp only [lN, hT, hvl, hsl] <;> omega)))
    | with_reducible intro _)
    all_goals try omega
    exact ⟨_, weak_refl, by simp [hT, hvl]⟩
  · rw [drows_len]
    have hh : hpV x m 18 = ⟨[.cells [.int .i64 x.idx, .slice (strs x.sig) .no, .slice (strs x.path) .no], .cells [.slice (strs (ends' m x.sig)) (.tok 0)]], [.per 1 18]⟩ := rfl
    rw [hh]
    have hcE := closed_strs (ends' m x.sig)
    have heE := erL_strs (ends' m x.sig)
    have ha := sumN_len (joined (ends' m x.sig))
    generalize sumN (joined (ends' m x.sig)) = a at *
    generalize ends' m x.sig = T at *
    repeat' (first
    | with_reducible first | apply swp_seq | apply swp_reg | apply swp_regD | apply swp_block | apply swp_exit | apply swp_ret | apply swp_skip | apply swp_cd
    | with_reducible apply twp_seq
    | with_reducible apply twp_block
    | ((with_reducible refine twp_reg ?hb ?_); (case hb => exact fun _ _ => trivial); with_reducible intro _)
    | ((with_reducible refine twp_regD ?hb ?_); (case hb => exact fun _ _ => trivial); with_reducible intro _)
    | ((with_reducible refine twp_cond ?hb ?_); (case hb => exact fun _ _ => trivial); with_reducible intro _)
    | ((with_reducible refine twp_ret ?hb ?_); (case hb => exact fun _ _ => trivial))
    | simp only [go_sem, seval, P18, q18, hpl]
    | simp (disch := omega) only [w64, w32, wu8, wu16, wu32, wu64]
    | ((with_reducible first | refine o_call (c3) ?he ?hc ?_ | refine p_call (c3) ?he ?hc ?_ | refine c_call (c3) ?he ?hc ?_); (case he | hc => first | rfl | (simp [D.erL, D.er, D.closedL, D.closed, heE, hcE]; done)))
    | ((with_reducible apply s_appT); (case he => rfl); (case hK | hc | hr | hV => first | rfl | assumption | omega | ((first | refine ⟨?_, ?_⟩ | skip) <;> first | omega | (simp only [lN, heE, hcE] <;> omega)) | (simp [elemsK, D.isVal, D.cells, D.closedL, D.closed, heE, hcE]; first | done | omega)))
    | ((with_reducible apply s_appG); (case he => rfl); (case hV | hK | hr | hl => first | rfl | assumption | omega | ((first | refine ⟨?_, ?_⟩ | skip) <;> first | omega | (simp only [lN, heE, hcE] <;> omega)) | (simp [elemsK, D.isVal, D.cells, D.closedL, D.closed, heE, hcE]; first | done | omega)))
    | ((with_reducible apply s_app0); (case he => rfl); (case hK | hc | hr => first | rfl | assumption | omega | ((first | refine ⟨?_, ?_⟩ | skip) <;> first | omega | (simp only [lN, heE, hcE] <;> omega)) | (simp [elemsK, D.isVal, D.cells, D.closedL, D.closed, heE, hcE]; first | done | omega)))
    | ((with_reducible apply s_appF); (case he => rfl); (case hK | hc | hr | hx | hn => first | rfl | assumption | omega | ((first | refine ⟨?_, ?_⟩ | skip) <;> first | omega | (simp only [lN, heE, hcE] <;> omega)) | (simp [elemsK, D.isVal, D.cells, D.closedL, D.closed, heE, hcE]; first | done | omega)))
    | ((with_reducible first | apply s_bsl | apply t_bsl); (case he | hl | hc => first | rfl | assumption | omega | ((first | refine ⟨?_, ?_⟩ | skip) <;> first | omega | (simp only [lN, heE, hcE] <;> omega)) | (simp [elemsK, D.isVal, D.cells, D.closedL, D.closed, heE, hcE]; first | done | omega)))
    | with_reducible first | apply cd_dec | apply cd_eq | apply cd_ne | apply cd_split | apply gd_dec | apply gd_eq | apply gd_ne | apply gd_split | apply gq_dec | apply gq_eq | apply gq_ne | apply gq_split
    | ((with_reducible refine And.intro ?hw ?_); (case hw => first | omega | rfl | exact ⟨_, _, rfl⟩ | assumption | (simp only [lN, heE, hcE] <;> omega)))
    | with_reducible intro _)
    all_goals try omega
    refine twp_of (fun _ _ => trivial) fun ds => ?_
    refine swp_fam [0, 1, 2, 3, 4, 17, 18, 19, 10] (fun k : Nat => ⟨[.str p, .str m, sealD x, .ptr 0 0, .bool false, .undef, .undef, .undef, .undef, .undef, .str (climb a (x.path.take k) j), .undef, .undef, .undef, .undef, .undef, .undef, .slice (strs x.path) .no, .int .i64 (x.path.length : Nat), .int .i64 (k : Nat), .undef], [],
        ⟨[.cells [.int .i64 x.idx, .slice (strs x.sig) .no, .slice (strs x.path) .no], .cells [.slice (strs T) (.tok 0)]], [.per 1 18]⟩⟩)
      (fun k => k ≤ x.path.length) (fun k => x.path.length - k) 0 (by omega) ?_ ?_
    · simp [keepE, St.keep, climb, hpl]
    · intro k hk
      rw [hj]
      by_cases hlt : k < x.path.length
      · have hcl := climb_len (p := x.path.take k) (i := j) ha
        have htk : x.path.take (k + 1) = x.path.take k ++ [x.path.getD k []] := by
          rw [List.take_succ_eq_append_getElem hlt]; simp [List.getD, hlt]
        have hsn := climb_snoc (x.path.take k) a (x.path.getD k []) j
        rw [← htk] at hsn
        have htl : (x.path.take k).length = k := by rw [List.length_take]; omega
        rw [htl] at hsn
        have c7 := node_p (climb a (x.path.take k) j) (x.path.getD k []) ((j / 2 ^ k) % 2 == 1) (by omega) (get_small hx.px)
        rw [← hsn] at c7
        have hg := strs_get (l := x.path) hlt
        have hs := shr_nat (j := j) (k := k) (by omega)
        have hja : j / 2 ^ k < 256 := Nat.lt_of_le_of_lt (Nat.div_le_self _ _) hj8
        have hb : bitsV .and .i64 ((j / 2 ^ k : Nat) : Int) 1 = _ := and_one hja
        have hbb : ((((j / 2 ^ k) % 2 : Nat) : Int) == 1) = ((j / 2 ^ k) % 2 == 1) := by
          generalize (j / 2 ^ k) % 2 = w
          by_cases hw : w = 1
          · subst hw; rfl
          · have h1 : ((w : Int) == 1) = false := by simp; omega
            have h2 : (w == 1) = false := by simp [hw]
            rw [h1, h2]
        have t1 : ((k : Nat) : Int).toNat = k := Int.toNat_natCast k
        generalize hz : climb a (x.path.take (k + 1)) j = z at *
        generalize climb a (x.path.take k) j = y at *
        generalize ((j / 2 ^ k) % 2 == 1) = bb at *
        generalize (j / 2 ^ k) % 2 = w at *
        generalize j / 2 ^ k = v at *
        generalize x.path.getD k [] = o at *
        generalize strs x.sig = S at *
        generalize strs x.path = P at *
        repeat' (first
    | with_reducible first | apply swp_seq | apply swp_reg | apply swp_regD | apply swp_block | apply swp_exit | apply swp_ret | apply swp_skip | apply swp_cd
    | with_reducible apply twp_seq
    | with_reducible apply twp_block
    | ((with_reducible refine twp_reg ?hb ?_); (case hb => exact fun _ _ => trivial); with_reducible intro _)
    | ((with_reducible refine twp_regD ?hb ?_); (case hb => exact fun _ _ => trivial); with_reducible intro _)
    | ((with_reducible refine twp_cond ?hb ?_); (case hb => exact fun _ _ => trivial); with_reducible intro _)
    | ((with_reducible refine twp_ret ?hb ?_); (case hb => exact fun _ _ => trivial))
    | simp only [go_sem, seval, P18, q18, hpl, t1, hg, hs, hb, hbb]
    | simp (disch := omega) only [w64, w32, wu8, wu16, wu32, wu64]
    | ((with_reducible first | refine o_call (c7) ?he ?hc ?_ | refine p_call (c7) ?he ?hc ?_ | refine c_call (c7) ?he ?hc ?_); (case he | hc => first | rfl | (simp [D.erL, D.er, D.closedL, D.closed, hpl]; done)))
    | ((with_reducible apply s_appT); (case he => rfl); (case hK | hc | hr | hV => first | rfl | assumption | omega | ((first | refine ⟨?_, ?_⟩ | skip) <;> first | omega | (simp only [lN, hpl] <;> omega)) | (simp [elemsK, D.isVal, D.cells, D.closedL, D.closed, hpl]; first | done | omega)))
    | ((with_reducible apply s_appG); (case he => rfl); (case hV | hK | hr | hl => first | rfl | assumption | omega | ((first | refine ⟨?_, ?_⟩ | skip) <;> first | omega | (simp only [lN, hpl] <;> omega)) | (simp [elemsK, D.isVal, D.cells, D.closedL, D.closed, hpl]; first | done | omega)))
    | ((with_reducible apply s_app0); (case he => rfl); (case hK | hc | hr => first | rfl | assumption | omega | ((first | refine ⟨?_, ?_⟩ | skip) <;> first | omega | (simp only [lN, hpl] <;> omega)) | (simp [elemsK, D.isVal, D.cells, D.closedL, D.closed, hpl]; first | done | omega)))
    | ((with_reducible apply s_appF); (case he => rfl); (case hK | hc | hr | hx | hn => first | rfl | assumption | omega | ((first | refine ⟨?_, ?_⟩ | skip) <;> first | omega | (simp only [lN, hpl] <;> omega)) | (simp [elemsK, D.isVal, D.cells, D.closedL, D.closed, hpl]; first | done | omega)))
    | ((with_reducible first | apply s_bsl | apply t_bsl); (case he | hl | hc => first | rfl | assumption | omega | ((first | refine ⟨?_, ?_⟩ | skip) <;> first | omega | (simp only [lN, hpl] <;> omega)) | (simp [elemsK, D.isVal, D.cells, D.closedL, D.closed, hpl]; first | done | omega)))
    | with_reducible first | apply cd_dec | apply cd_eq | apply cd_ne | apply cd_split | apply gd_dec | apply gd_eq | apply gd_ne | apply gd_split | apply gq_dec | apply gq_eq | apply gq_ne | apply gq_split
    | ((with_reducible refine And.intro ?hw ?_); (case hw => first | omega | rfl | exact ⟨_, _, rfl⟩ | assumption | (simp only [lN, hpl] <;> omega)))
    | with_reducible intro _)
        all_goals try omega
        refine ⟨k + 1, by omega, by omega, ?_⟩
        rw [hz]
        simp [keepE, St.keep]
      · have e : k = x.path.length := by omega
        subst e
        rw [List.take_length]
        generalize strs x.sig = S at *
        generalize strs x.path = P at *
        generalize climb a x.path j = y at *
        repeat' (first
    | with_reducible first | apply swp_seq | apply swp_reg | apply swp_regD | apply swp_block | apply swp_exit | apply swp_ret | apply swp_skip | apply swp_cd
    | with_reducible apply twp_seq
    | with_reducible apply twp_block
    | ((with_reducible refine twp_reg ?hb ?_); (case hb => exact fun _ _ => trivial); with_reducible intro _)
    | ((with_reducible refine twp_regD ?hb ?_); (case hb => exact fun _ _ => trivial); with_reducible intro _)
    | ((with_reducible refine twp_cond ?hb ?_); (case hb => exact fun _ _ => trivial); with_reducible intro _)
    | ((with_reducible refine twp_ret ?hb ?_); (case hb => exact fun _ _ => trivial))
    | simp only [go_sem, seval, P18, q18, hpl]
    | simp (disch := omega) only [w64, w32, wu8, wu16, wu32, wu64]
    | ((with_reducible apply s_appT); (case he => rfl); (case hK | hc | hr | hV => first | rfl | assumption | omega | ((first | refine ⟨?_, ?_⟩ | skip) <;> first | omega | (simp only [lN, hpl] <;> omega)) | (simp [elemsK, D.isVal, D.cells, D.closedL, D.closed, hpl]; first | done | omega)))
    | ((with_reducible apply s_appG); (case he => rfl); (case hV | hK | hr | hl => first | rfl | assumption | omega | ((first | refine ⟨?_, ?_⟩ | skip) <;> first | omega | (simp only [lN, hpl] <;> omega)) | (simp [elemsK, D.isVal, D.cells, D.closedL, D.closed, hpl]; first | done | omega)))
    | ((with_reducible apply s_app0); (case he => rfl); (case hK | hc | hr => first | rfl | assumption | omega | ((first | refine ⟨?_, ?_⟩ | skip) <;> first | omega | (simp only [lN, hpl] <;> omega)) | (simp [elemsK, D.isVal, D.cells, D.closedL, D.closed, hpl]; first | done | omega)))
    | ((with_reducible apply s_appF); (case he => rfl); (case hK | hc | hr | hx | hn => first | rfl | assumption | omega | ((first | refine ⟨?_, ?_⟩ | skip) <;> first | omega | (simp only [lN, hpl] <;> omega)) | (simp [elemsK, D.isVal, D.cells, D.closedL, D.closed, hpl]; first | done | omega)))
    | ((with_reducible first | apply s_bsl | apply t_bsl); (case he | hl | hc => first | rfl | assumption | omega | ((first | refine ⟨?_, ?_⟩ | skip) <;> first | omega | (simp only [lN, hpl] <;> omega)) | (simp [elemsK, D.isVal, D.cells, D.closedL, D.closed, hpl]; first | done | omega)))
    | with_reducible first | apply cd_dec | apply cd_eq | apply cd_ne | apply cd_split | apply gd_dec | apply gd_eq | apply gd_ne | apply gd_split | apply gq_dec | apply gq_eq | apply gq_ne | apply gq_split
    | ((with_reducible refine And.intro ?hw ?_); (case hw => first | omega | rfl | exact ⟨_, _, rfl⟩ | assumption | (simp only [lN, hpl] <;> omega)))
    | with_reducible intro _)
        all_goals try omega
        refine ⟨_, fun _ => weak_refl, ?_⟩
        simp [go_sem, D.closed, D.er]
end Go.Proofs.YtgjkhlnpplajjaaDoor
end
section
set_option maxRecDepth 100000
set_option linter.unusedSimpArgs false
set_option linter.unusedVariables false
namespace Go.Proofs.YtgjkhlnpplajjaaDoor
open Go GoV Go.RowKit
theorem tmod2 (n : Nat) : ((n : Nat) : Int).tmod 2 = ((n % 2 : Nat) : Int) := by rw [Int.tmod_eq_emod_of_nonneg (by omega)]; omega
theorem tdiv2 (n : Nat) : ((n : Nat) : Int).tdiv 2 = ((n / 2 : Nat) : Int) := by rw [Int.tdiv_eq_ediv_of_nonneg (by omega)]; omega
end Go.Proofs.YtgjkhlnpplajjaaDoor
end
section
set_option maxRecDepth 100000
set_option linter.unusedSimpArgs false
set_option linter.unusedVariables false
namespace Go.Proofs.YtgjkhlnpplajjaaDoor
open Go GoV Go.RowKit
def sameS (a b : Seal) : Bool := decide (a.idx = b.idx) && (decide (a.sig = b.sig) && decide (a.path = b.path))
theorem ssame_p (a b : Seal) (h1 : a.sig.length ≤ 4611686018427387904) (h2 : a.path.length ≤ 4611686018427387904) : Pur M 17 [sealD a, sealD b] (.bool (sameS a b)) := by
  refine ok17 rfl ?_
  rw [i17]
  unfold c17 sealD sameS
  have c1 := same_p a.sig b.sig h1
  have c2 := same_p a.path b.path h2
  have k1 := closed_strs a.sig
  have k2 := closed_strs b.sig
  have k3 := closed_strs a.path
  have k4 := closed_strs b.path
  have k5 := erL_strs a.sig
  have k6 := erL_strs b.sig
  have k7 := erL_strs a.path
  have k8 := erL_strs b.path
  generalize decide (a.sig = b.sig) = x at *
  generalize decide (a.path = b.path) = y at *
  generalize strs a.sig = A at *
  generalize strs b.sig = B at *
  generalize strs a.path = A' at *
  generalize strs b.path = B' at *
  by_cases e : a.idx = b.idx
  · have e1 : (a.idx == b.idx) = true := by simp [e]
    rw [decide_eq_true e, Bool.true_and]
    cases x <;> cases y <;>
    · repeat' (first
    | with_reducible first | apply swp_seq | apply swp_reg | apply swp_regD | apply swp_block | apply swp_exit | apply swp_ret | apply swp_skip | apply swp_cd
    | simp only [go_sem, seval, P17, q17, e1]
    | simp (disch := omega) only [w64, w32, wu8, wu16, wu32, wu64]
    | ((with_reducible refine o_call (c1) ?he ?hc ?_); (case he | hc => first | rfl | (simp [D.erL, D.er, D.closedL, D.closed, k1, k2, k3, k4, k5, k6, k7, k8]; done)))
    | ((with_reducible refine o_call (c2) ?he ?hc ?_); (case he | hc => first | rfl | (simp [D.erL, D.er, D.closedL, D.closed, k1, k2, k3, k4, k5, k6, k7, k8]; done)))
    | with_reducible first | apply cd_dec | apply cd_eq | apply cd_ne | apply cd_split | apply gd_dec | apply gd_eq | apply gd_ne | apply gd_split
    | ((with_reducible refine And.intro ?hw ?_); (case hw => first | omega | rfl | exact ⟨_, _, rfl⟩ | assumption | (simp only [lN, k1, k2, k3, k4, k5, k6, k7, k8] <;> omega)))
    | with_reducible intro _)
      all_goals first
        | omega
        | (simp [D.closed, D.er]; done)
  · have e1 : (a.idx == b.idx) = false := by simp [e]
    rw [decide_eq_false e, Bool.false_and]
    repeat' (first
    | with_reducible first | apply swp_seq | apply swp_reg | apply swp_regD | apply swp_block | apply swp_exit | apply swp_ret | apply swp_skip | apply swp_cd
    | simp only [go_sem, seval, P17, q17, e1]
    | simp (disch := omega) only [w64, w32, wu8, wu16, wu32, wu64]
    | ((with_reducible refine o_call (c1) ?he ?hc ?_); (case he | hc => first | rfl | (simp [D.erL, D.er, D.closedL, D.closed, k1, k2, k3, k4, k5, k6, k7, k8]; done)))
    | ((with_reducible refine o_call (c2) ?he ?hc ?_); (case he | hc => first | rfl | (simp [D.erL, D.er, D.closedL, D.closed, k1, k2, k3, k4, k5, k6, k7, k8]; done)))
    | with_reducible first | apply cd_dec | apply cd_eq | apply cd_ne | apply cd_split | apply gd_dec | apply gd_eq | apply gd_ne | apply gd_split
    | ((with_reducible refine And.intro ?hw ?_); (case hw => first | omega | rfl | exact ⟨_, _, rfl⟩ | assumption | (simp only [lN, k1, k2, k3, k4, k5, k6, k7, k8] <;> omega)))
    | with_reducible intro _)
    all_goals first
      | omega
      | (simp [D.closed, D.er]; done)
theorem jnode_p (a b : List UInt8) (ha : a.length ≤ 1000) (hb : b.length ≤ 1000) : Pur M 50 [.str a, .str b] (.str (nodT a b)) := by
  refine ok50 rfl ?_
  rw [i50]
  unfold c50
  have h1 := joined_p [wnode, a, b] (okL_node ha hb)
  have e : joined [wnode, a, b] = nodT a b := rfl
  rw [e] at h1
  repeat' (first
    | with_reducible first | apply swp_seq | apply swp_reg | apply swp_regD | apply swp_block | apply swp_exit | apply swp_ret | apply swp_skip | apply swp_cd
    | simp only [go_sem, seval, P50, q50]
    | simp (disch := omega) only [w64, w32, wu8, wu16, wu32, wu64]
    | ((with_reducible refine o_call (h1) ?he ?hc ?_); (case he | hc => first | rfl | (simp [D.erL, D.er, D.closedL, D.closed]; done)))
    | ((with_reducible apply s_bsl); (case he | hl | hc => first | rfl | assumption | omega | ((first | refine ⟨?_, ?_⟩ | skip) <;> first | omega | (simp only [lN] <;> omega)) | (simp [elemsK, D.isVal, D.cells, D.closedL, D.closed]; first | done | omega)))
    | with_reducible first | apply cd_dec | apply cd_eq | apply cd_ne | apply cd_split
    | ((with_reducible refine And.intro ?hw ?_); (case hw => first | omega | rfl | exact ⟨_, _, rfl⟩ | assumption | (simp only [lN] <;> omega)))
    | with_reducible intro _)
  all_goals first
    | omega
    | (simp [D.closed, D.er]; done)
def chnP (t : List UInt8) (k : Nat) : List (List UInt8) := (List.range k).map fun j => chn j t
theorem chnP_len (t : List UInt8) (k : Nat) : (chnP t k).length = k := by simp [chnP]
theorem chnP_succ (t : List UInt8) (k : Nat) : chnP t (k + 1) = chnP t k ++ [chn k t] := by simp [chnP, List.range_succ]
theorem weak_full {C : Cfg} {s : St} (i k : Nat) (hk : 0 < k) {es : List D} (hs : s.env.getD i .undef = .slice es .full) (hK : elemsK k es = true) (hne : es ≠ []) :
    Weak C s ⟨s.env.set i (.slice es (.tok s.hp.tk.length)), [], { s.hp with tk := s.hp.tk ++ [.per k es.length] }⟩ := by
  intro w0 B a w h
  obtain ⟨G, g0, gb, g1, g2, g3, g4⟩ := h
  obtain ⟨ad, had⟩ : ∃ ad : Option Addr, ∀ t, idx t C.pers = some i → a.tmps.getD t Go.undef = .slice ad es.length es.length := by
    by_cases hx : ∃ t, idx t C.pers = some i
    · obtain ⟨t, ht⟩ := hx
      have := g4 t
      unfold St.slot at this
      rw [ht] at this
      simp only at this
      rw [hs] at this
      simp only [Rel] at this
      obtain ⟨ad, cap, k', xs, h1, h2, h3, h4, h5, h6⟩ := this
      simp only [OwnOk] at h6
      subst h6
      refine ⟨some ad, fun u hu => ?_⟩
      have e1 := idx_some ht
      have e2 := idx_some hu
      rw [e1] at e2
      cases e2
      rcases h1 with h1 | ⟨_, h1, _⟩
      · exact h1
      · exact absurd h1 hne
    · exact ⟨none, fun t ht => absurd ⟨t, ht⟩ hx⟩
  obtain ⟨q1, q2⟩ := g0.tokFull (len := es.length) (a := ad) hk (.per k es.length) (.inl rfl)
  refine ⟨_, q1, gb, g1, g2, by simpa using g3, fun t => ?_⟩
  have := g4 t
  unfold St.slot at *
  split
  · rename_i j hj
    rw [hj] at this
    simp only at this ⊢
    by_cases e : i = j
    · subst e
      rw [hs] at this
      have hl : i < s.env.length := by
        rcases Nat.lt_or_ge i s.env.length with q | q
        · exact q
        · simp [List.getD, List.getElem?_eq_none q] at hs
      have e1 : (s.env.set i (D.slice es (.tok s.hp.tk.length))).getD i .undef = D.slice es (.tok s.hp.tk.length) := by
        simp [List.getD, hl]
      rw [e1, g0.heap.lent]
      have hval := had t hj
      rw [hval] at this ⊢
      have hr := Rel.evo _ q2 this
      simp only [Rel] at hr ⊢
      obtain ⟨a', cap, k', xs, h1, h2, h3, h4, h5, h6⟩ := hr
      refine ⟨a', cap, k', xs, h1, h2, h3, h4, h5, ?_⟩
      have hkk : k' = k := by
        rcases elemsK_size hK h3 h4 with q | q
        · subst q
          exact absurd (List.eq_nil_of_length_eq_zero (by have := h3.length; simpa using this.symm)) hne
        · exact q
      subst hkk
      exact ⟨_, tok_get _ _, rfl, Nat.le_refl _, fun _ => rfl⟩
    · have e1 : (s.env.set i (D.slice es (.tok s.hp.tk.length))).getD j .undef = s.env.getD j .undef := by
        simp [List.getD, List.getElem?_set, e]
      rw [e1]
      exact Rel.evo _ q2 this
  · simp [lk, Rel]
set_option maxHeartbeats 1000000 in
theorem chained_p (t : List UInt8) (n : Nat) (ht : t.length < 65536) (hn : n ≤ 1000) : Pur M 49 [.str t, .int .i64 (n : Nat)] (.slice (strs (chnL t n)) .no) := by
  refine ok49 rfl ?_
  rw [i49]
  unfold c49
  repeat' (first
    | with_reducible first | apply swp_seq | apply swp_reg | apply swp_regD | apply swp_block | apply swp_exit | apply swp_ret | apply swp_skip | apply swp_cd
    | simp only [go_sem, seval, P49, q49]
    | simp (disch := omega) only [w64, w32, wu8, wu16, wu32, wu64]
    | ((with_reducible apply s_appT); (case he => rfl); (case hK | hc | hr | hV => first | rfl | assumption | omega | ((first | refine ⟨?_, ?_⟩ | skip) <;> first | omega | (simp only [lN] <;> omega)) | (simp [elemsK, D.isVal, D.cells, D.closedL, D.closed]; first | done | omega)))
    | ((with_reducible apply s_appG); (case he => rfl); (case hV | hK | hr | hl => first | rfl | assumption | omega | ((first | refine ⟨?_, ?_⟩ | skip) <;> first | omega | (simp only [lN] <;> omega)) | (simp [elemsK, D.isVal, D.cells, D.closedL, D.closed]; first | done | omega)))
    | ((with_reducible apply s_app0); (case he => rfl); (case hK | hc | hr => first | rfl | assumption | omega | ((first | refine ⟨?_, ?_⟩ | skip) <;> first | omega | (simp only [lN] <;> omega)) | (simp [elemsK, D.isVal, D.cells, D.closedL, D.closed]; first | done | omega)))
    | ((with_reducible apply s_appF); (case he => rfl); (case hK | hc | hr | hx | hn => first | rfl | assumption | omega | ((first | refine ⟨?_, ?_⟩ | skip) <;> first | omega | (simp only [lN] <;> omega)) | (simp [elemsK, D.isVal, D.cells, D.closedL, D.closed]; first | done | omega)))
    | ((with_reducible apply s_bsl); (case he | hl | hc => first | rfl | assumption | omega | ((first | refine ⟨?_, ?_⟩ | skip) <;> first | omega | (simp only [lN] <;> omega)) | (simp [elemsK, D.isVal, D.cells, D.closedL, D.closed]; first | done | omega)))
    | with_reducible first | apply cd_dec | apply cd_eq | apply cd_ne | apply cd_split
    | ((with_reducible refine And.intro ?hw ?_); (case hw => first | omega | rfl | exact ⟨_, _, rfl⟩ | assumption | (simp only [lN] <;> omega)))
    | with_reducible intro _)
  all_goals try omega
  refine swp_weak (weak_full 3 1 (by decide) rfl (by simp [elemsK, D.isVal, D.cells]) (by simp)) ?_
  refine swp_fam [0, 1, 3, 4] (fun k : Nat => ⟨[.str (chn k t), .int .i64 (n : Nat), .undef, .slice (strs (chnP t (k + 1))) (.tok 0), .int .i64 (k : Nat), .undef], [], ⟨[], [.per 1 (k + 1)]⟩⟩)
    (fun k => k ≤ n) (fun k => n - k) 0 (by omega) ?_ ?_
  · simp [keepE, St.keep, chnP, chn]
  · intro k hk
    have hpl := chnP_len t (k + 1)
    have hss := chnP_succ t (k + 1)
    have hsc := chn_succ k t
    by_cases hlt : k < n
    · have c1 := rsum_p (chn k t) (chn_lt ht k)
      rw [← hsc] at c1
      generalize hz : chn (k + 1) t = z at *
      generalize chn k t = y at *
      generalize chnP t (k + 1) = T at *
      have hT := strs_len T
      repeat' (first
    | with_reducible first | apply swp_seq | apply swp_reg | apply swp_regD | apply swp_block | apply swp_exit | apply swp_ret | apply swp_skip | apply swp_cd
    | simp only [go_sem, seval, P49, q49]
    | simp (disch := omega) only [w64, w32, wu8, wu16, wu32, wu64]
    | ((with_reducible refine o_call (c1) ?he ?hc ?_); (case he | hc => first | rfl | (simp [D.erL, D.er, D.closedL, D.closed, hT, hpl]; done)))
    | ((with_reducible apply s_appT); (case he => rfl); (case hK | hc | hr | hV => first | rfl | assumption | omega | ((first | refine ⟨?_, ?_⟩ | skip) <;> first | omega | (simp only [lN, hT, hpl] <;> omega)) | (simp [elemsK, D.isVal, D.cells, D.closedL, D.closed, hT, hpl]; first | done | omega)))
    | ((with_reducible apply s_appG); (case he => rfl); (case hV | hK | hr | hl => first | rfl | assumption | omega | ((first | refine ⟨?_, ?_⟩ | skip) <;> first | omega | (simp only [lN, hT, hpl] <;> omega)) | (simp [elemsK, D.isVal, D.cells, D.closedL, D.closed, hT, hpl]; first | done | omega)))
    | ((with_reducible apply s_app0); (case he => rfl); (case hK | hc | hr => first | rfl | assumption | omega | ((first | refine ⟨?_, ?_⟩ | skip) <;> first | omega | (simp only [lN, hT, hpl] <;> omega)) | (simp [elemsK, D.isVal, D.cells, D.closedL, D.closed, hT, hpl]; first | done | omega)))
    | ((with_reducible apply s_appF); (case he => rfl); (case hK | hc | hr | hx | hn => first | rfl | assumption | omega | ((first | refine ⟨?_, ?_⟩ | skip) <;> first | omega | (simp only [lN, hT, hpl] <;> omega)) | (simp [elemsK, D.isVal, D.cells, D.closedL, D.closed, hT, hpl]; first | done | omega)))
    | ((with_reducible apply s_bsl); (case he | hl | hc => first | rfl | assumption | omega | ((first | refine ⟨?_, ?_⟩ | skip) <;> first | omega | (simp only [lN, hT, hpl] <;> omega)) | (simp [elemsK, D.isVal, D.cells, D.closedL, D.closed, hT, hpl]; first | done | omega)))
    | with_reducible first | apply cd_dec | apply cd_eq | apply cd_ne | apply cd_split
    | ((with_reducible refine And.intro ?hw ?_); (case hw => first | omega | rfl | exact ⟨_, _, rfl⟩ | assumption | (simp only [lN, hT, hpl] <;> omega)))
    | with_reducible intro _)
      all_goals try omega
      refine ⟨k + 1, by omega, by omega, ?_⟩
      rw [hss, hz]
      simp [keepE, St.keep, hpl]
    · have e : k = n := by omega
      subst e
      have e2 : chnL t k = chnP t (k + 1) := rfl
      rw [e2]
      have hcl := closed_strs (chnP t (k + 1))
      have her := erL_strs (chnP t (k + 1))
      generalize chnP t (k + 1) = T at *
      repeat' (first
    | with_reducible first | apply swp_seq | apply swp_reg | apply swp_regD | apply swp_block | apply swp_exit | apply swp_ret | apply swp_skip | apply swp_cd
    | simp only [go_sem, seval, P49, q49]
    | simp (disch := omega) only [w64, w32, wu8, wu16, wu32, wu64]
    | ((with_reducible apply s_appT); (case he => rfl); (case hK | hc | hr | hV => first | rfl | assumption | omega | ((first | refine ⟨?_, ?_⟩ | skip) <;> first | omega | (simp only [lN] <;> omega)) | (simp [elemsK, D.isVal, D.cells, D.closedL, D.closed]; first | done | omega)))
    | ((with_reducible apply s_appG); (case he => rfl); (case hV | hK | hr | hl => first | rfl | assumption | omega | ((first | refine ⟨?_, ?_⟩ | skip) <;> first | omega | (simp only [lN] <;> omega)) | (simp [elemsK, D.isVal, D.cells, D.closedL, D.closed]; first | done | omega)))
    | ((with_reducible apply s_app0); (case he => rfl); (case hK | hc | hr => first | rfl | assumption | omega | ((first | refine ⟨?_, ?_⟩ | skip) <;> first | omega | (simp only [lN] <;> omega)) | (simp [elemsK, D.isVal, D.cells, D.closedL, D.closed]; first | done | omega)))
    | ((with_reducible apply s_appF); (case he => rfl); (case hK | hc | hr | hx | hn => first | rfl | assumption | omega | ((first | refine ⟨?_, ?_⟩ | skip) <;> first | omega | (simp only [lN] <;> omega)) | (simp [elemsK, D.isVal, D.cells, D.closedL, D.closed]; first | done | omega)))
    | ((with_reducible apply s_bsl); (case he | hl | hc => first | rfl | assumption | omega | ((first | refine ⟨?_, ?_⟩ | skip) <;> first | omega | (simp only [lN] <;> omega)) | (simp [elemsK, D.isVal, D.cells, D.closedL, D.closed]; first | done | omega)))
    | with_reducible first | apply cd_dec | apply cd_eq | apply cd_ne | apply cd_split
    | ((with_reducible refine And.intro ?hw ?_); (case hw => first | omega | rfl | exact ⟨_, _, rfl⟩ | assumption | (simp only [lN] <;> omega)))
    | with_reducible intro _)
      all_goals first
        | omega
        | (simp [D.closed, D.er, hcl, her]; done)
end Go.Proofs.YtgjkhlnpplajjaaDoor
end
section
set_option maxRecDepth 100000
set_option linter.unusedSimpArgs false
set_option linter.unusedVariables false
namespace Go.Proofs.YtgjkhlnpplajjaaDoor
open Go GoV Go.RowKit
def h100 (l : List (List UInt8)) : Bool := l.all fun t => decide (t.length ≤ 100)
def fewB (x : Seal) : Bool := h100 x.sig && (h100 x.path && (decide (x.sig.length ≤ 30) && decide (x.path.length ≤ 30)))
theorem h100_take {l : List (List UInt8)} {k : Nat} (h : k < l.length) (h1 : h100 (l.take k) = true) (h2 : (l.getD k []).length ≤ 100) : h100 (l.take (k + 1)) = true := by
  have htk : l.take (k + 1) = l.take k ++ [l.getD k []] := by
    rw [List.take_succ_eq_append_getElem h]; simp [List.getD, h]
  unfold h100 at *
  rw [htk, List.all_append, h1, List.all_cons, decide_eq_true h2]
  rfl
theorem h100_not {l : List (List UInt8)} {k : Nat} (h : k < l.length) (h2 : ¬(l.getD k []).length ≤ 100) : h100 l = false := by
  unfold h100
  rw [List.all_eq_false]
  refine ⟨l.getD k [], by simp [List.getD, h], fun q => h2 (of_decide_eq_true q)⟩
set_option maxHeartbeats 2000000 in
theorem few_p (x : Seal) : Pur M 12 [sealD x] (.bool (fewB x)) := by
  refine ok12 rfl ?_
  rw [i12]
  unfold c12 sealD
  have hsl := strs_len x.sig
  have hpl := strs_len x.path
  repeat' (first
    | with_reducible first | apply swp_seq | apply swp_reg | apply swp_regD | apply swp_block | apply swp_exit | apply swp_ret | apply swp_skip | apply swp_cd
    | simp only [go_sem, seval, P12, q12]
    | simp (disch := omega) only [w64, w32, wu8, wu16, wu32, wu64]
    | with_reducible first | apply cd_dec | apply cd_eq | apply cd_ne | apply cd_split | apply gd_dec | apply gd_eq | apply gd_ne | apply gd_split
    | ((with_reducible refine And.intro ?hw ?_); (case hw => first | omega | rfl | exact ⟨_, _, rfl⟩ | assumption | (simp only [lN] <;> omega)))
    | with_reducible intro _)
  refine swp_fam [0, 1, 2, 3] (fun k : Nat => ⟨[sealD x, .ptr 0 0, .bool false, .int .i64 (k : Nat), .undef, .undef, .undef, .undef, .undef], [], ⟨[.cells [.int .i64 x.idx, .slice (strs x.sig) .no, .slice (strs x.path) .no]], []⟩⟩)
    (fun k => k ≤ 30 ∧ k ≤ x.sig.length ∧ h100 (x.sig.take k) = true) (fun k => 30 - k) 0 ⟨by omega, by omega, rfl⟩ ?_ ?_
  · simp [keepE, St.keep]
  rintro k ⟨hk, hk1, hk2⟩
  by_cases hlt : k < x.sig.length ∧ k < 30
  · have e1 : decide ((k : Int) < ((x.sig.length : Nat) : Int)) = true := decide_eq_true (by omega)
    have e2 : decide ((k : Int) < 30) = true := decide_eq_true (by omega)
    have hg := strs_get (l := x.sig) (i := k) (by omega)
    have t1 : ((k : Nat) : Int).toNat = k := Int.toNat_natCast k
    have hal := fun h => h100_take (l := x.sig) (k := k) (by omega) hk2 h
    have han : ¬(x.sig.getD k []).length ≤ 100 → fewB x = false := fun h => by unfold fewB; rw [h100_not (l := x.sig) (k := k) (by omega) h, Bool.false_and]
    generalize x.sig.getD k [] = g at *
    by_cases hb : g.length ≤ 100
    · have e3 : decide (100 < ((g.length : Nat) : Int)) = false := decide_eq_false (by omega)
      generalize hS0 : strs x.sig = S at *
      generalize hP0 : strs x.path = P at *
      repeat' (first
    | with_reducible first | apply swp_seq | apply swp_reg | apply swp_regD | apply swp_block | apply swp_exit | apply swp_ret | apply swp_skip | apply swp_cd
    | simp only [go_sem, seval, P12, q12, t1, hg, hsl, e1, e2, e3]
    | simp (disch := omega) only [w64, w32, wu8, wu16, wu32, wu64]
    | with_reducible first | apply cd_dec | apply cd_eq | apply cd_ne | apply cd_split | apply gd_dec | apply gd_eq | apply gd_ne | apply gd_split
    | ((with_reducible refine And.intro ?hw ?_); (case hw => first | omega | rfl | exact ⟨_, _, rfl⟩ | assumption | (simp only [lN, hsl] <;> omega)))
    | with_reducible intro _)
      all_goals try omega
      refine ⟨k + 1, ⟨by omega, by omega, hal hb⟩, by omega, ?_⟩
      simp [keepE, St.keep, hS0, hP0]
    · rw [han hb]
      have e3 : decide (100 < ((g.length : Nat) : Int)) = true := decide_eq_true (by omega)
      generalize hS0 : strs x.sig = S at *
      generalize hP0 : strs x.path = P at *
      repeat' (first
    | with_reducible first | apply swp_seq | apply swp_reg | apply swp_regD | apply swp_block | apply swp_exit | apply swp_ret | apply swp_skip | apply swp_cd
    | simp only [go_sem, seval, P12, q12, t1, hg, hsl, e1, e2, e3]
    | simp (disch := omega) only [w64, w32, wu8, wu16, wu32, wu64]
    | with_reducible first | apply cd_dec | apply cd_eq | apply cd_ne | apply cd_split | apply gd_dec | apply gd_eq | apply gd_ne | apply gd_split
    | ((with_reducible refine And.intro ?hw ?_); (case hw => first | omega | rfl | exact ⟨_, _, rfl⟩ | assumption | (simp only [lN, hsl] <;> omega)))
    | with_reducible intro _)
      all_goals first
        | omega
        | (simp [D.closed, D.er]; done)
  have hfin : fewB x = (h100 x.path && (decide (x.sig.length ≤ 30) && decide (x.path.length ≤ 30))) := by
    unfold fewB
    by_cases q : x.sig.length ≤ 30
    · rw [List.take_of_length_le (by omega)] at hk2
      rw [hk2, Bool.true_and]
    · rw [decide_eq_false q]; simp
  rw [hfin]
  have hlast : ∀ k2 : Nat, ¬(k2 < x.path.length ∧ k2 < 30) → k2 ≤ 30 → k2 ≤ x.path.length → h100 (x.path.take k2) = true → (h100 x.path && (decide (x.sig.length ≤ 30) && decide (x.path.length ≤ 30))) = (decide (x.sig.length ≤ 30) && decide (x.path.length ≤ 30)) := by
    intro k2 h1 h2 h3 h4
    by_cases q : x.path.length ≤ 30
    · rw [List.take_of_length_le (by omega)] at h4
      rw [h4, Bool.true_and]
    · rw [decide_eq_false q]; simp
  have loopB : ∀ k : Nat, SWp C12 (.loop (.seq (.seq (.reg r12_7) (.cond (.var 7) .skip (.exit 2))) (.seq (.block 3 (.seq (.reg r12_8) (.cond (.var 8) (.seq (.reg r12_9) .ret) .skip))) (.reg r12_10))))
      (fun e s' => match e with
        | .exit i => if i = 2 then SWp C12 (.seq (.reg r12_11) .ret) (fun e s => (match e with | .exit _ => False | _ => True) ∧ (s.env.getD 2 .undef).closed = true ∧ (s.env.getD 2 .undef).er = .bool (h100 x.path && (decide (x.sig.length ≤ 30) && decide (x.path.length ≤ 30)))) s' else False ∧ (s'.env.getD 2 .undef).closed = true ∧ (s'.env.getD 2 .undef).er = .bool (h100 x.path && (decide (x.sig.length ≤ 30) && decide (x.path.length ≤ 30)))
        | e => match e with
          | .normal => SWp C12 (.seq (.reg r12_11) .ret) (fun e s => (match e with | .exit _ => False | _ => True) ∧ (s.env.getD 2 .undef).closed = true ∧ (s.env.getD 2 .undef).er = .bool (h100 x.path && (decide (x.sig.length ≤ 30) && decide (x.path.length ≤ 30)))) s'
          | e => (match e with | .exit _ => False | _ => True) ∧ (s'.env.getD 2 .undef).closed = true ∧ (s'.env.getD 2 .undef).er = .bool (h100 x.path && (decide (x.sig.length ≤ 30) && decide (x.path.length ≤ 30))))
      ⟨[sealD x, .ptr 0 0, .bool false, .int .i64 (k : Nat), .int .i64 0, .bool false, .undef, .undef, .undef], [], ⟨[.cells [.int .i64 x.idx, .slice (strs x.sig) .no, .slice (strs x.path) .no]], []⟩⟩ := by
    intro k0
    refine swp_fam [0, 1, 2, 4] (fun k : Nat => ⟨[sealD x, .ptr 0 0, .bool false, .undef, .int .i64 (k : Nat), .undef, .undef, .undef, .undef], [], ⟨[.cells [.int .i64 x.idx, .slice (strs x.sig) .no, .slice (strs x.path) .no]], []⟩⟩)
      (fun k => k ≤ 30 ∧ k ≤ x.path.length ∧ h100 (x.path.take k) = true) (fun k => 30 - k) 0 ⟨by omega, by omega, rfl⟩ ?_ ?_
    · simp [keepE, St.keep]
    rintro k ⟨hk, hk1, hk2⟩
    by_cases hlt : k < x.path.length ∧ k < 30
    · have e1 : decide ((k : Int) < ((x.path.length : Nat) : Int)) = true := decide_eq_true (by omega)
      have e2 : decide ((k : Int) < 30) = true := decide_eq_true (by omega)
      have hg := strs_get (l := x.path) (i := k) (by omega)
      have t1 : ((k : Nat) : Int).toNat = k := Int.toNat_natCast k
      have hal := fun h => h100_take (l := x.path) (k := k) (by omega) hk2 h
      have han : ¬(x.path.getD k []).length ≤ 100 → h100 x.path = false := fun h => h100_not (l := x.path) (k := k) (by omega) h
      generalize x.path.getD k [] = g at *
      by_cases hb : g.length ≤ 100
      · have e3 : decide (100 < ((g.length : Nat) : Int)) = false := decide_eq_false (by omega)
        generalize hS0 : strs x.sig = S at *
        generalize hP0 : strs x.path = P at *
        repeat' (first
    | with_reducible first | apply swp_seq | apply swp_reg | apply swp_regD | apply swp_block | apply swp_exit | apply swp_ret | apply swp_skip | apply swp_cd
    | simp only [go_sem, seval, P12, q12, t1, hg, hpl, e1, e2, e3]
    | simp (disch := omega) only [w64, w32, wu8, wu16, wu32, wu64]
    | with_reducible first | apply cd_dec | apply cd_eq | apply cd_ne | apply cd_split | apply gd_dec | apply gd_eq | apply gd_ne | apply gd_split
    | ((with_reducible refine And.intro ?hw ?_); (case hw => first | omega | rfl | exact ⟨_, _, rfl⟩ | assumption | (simp only [lN, hpl] <;> omega)))
    | with_reducible intro _)
        all_goals try omega
        refine ⟨k + 1, ⟨by omega, by omega, hal hb⟩, by omega, ?_⟩
        simp [keepE, St.keep, hS0, hP0]
      · rw [han hb]
        have e3 : decide (100 < ((g.length : Nat) : Int)) = true := decide_eq_true (by omega)
        generalize hS0 : strs x.sig = S at *
        generalize hP0 : strs x.path = P at *
        repeat' (first
    | with_reducible first | apply swp_seq | apply swp_reg | apply swp_regD | apply swp_block | apply swp_exit | apply swp_ret | apply swp_skip | apply swp_cd
    | simp only [go_sem, seval, P12, q12, t1, hg, hpl, e1, e2, e3]
    | simp (disch := omega) only [w64, w32, wu8, wu16, wu32, wu64]
    | with_reducible first | apply cd_dec | apply cd_eq | apply cd_ne | apply cd_split | apply gd_dec | apply gd_eq | apply gd_ne | apply gd_split
    | ((with_reducible refine And.intro ?hw ?_); (case hw => first | omega | rfl | exact ⟨_, _, rfl⟩ | assumption | (simp only [lN, hpl] <;> omega)))
    | with_reducible intro _)
        all_goals first
          | omega
          | (simp [D.closed, D.er]; done)
    rw [hlast k hlt hk hk1 hk2]
    have w1 : decide (((x.sig.length : Nat) : Int) ≤ 30) = decide (x.sig.length ≤ 30) := by
      by_cases q : x.sig.length ≤ 30
      · rw [decide_eq_true q, decide_eq_true (by omega)]
      · rw [decide_eq_false q, decide_eq_false (by omega)]
    have w2 : decide (((x.path.length : Nat) : Int) ≤ 30) = decide (x.path.length ≤ 30) := by
      by_cases q : x.path.length ≤ 30
      · rw [decide_eq_true q, decide_eq_true (by omega)]
      · rw [decide_eq_false q, decide_eq_false (by omega)]
    generalize hS0 : strs x.sig = S at *
    generalize hP0 : strs x.path = P at *
    by_cases q : k < x.path.length
    · have e1 : decide ((k : Int) < ((x.path.length : Nat) : Int)) = true := decide_eq_true (by omega)
      have e2 : decide ((k : Int) < 30) = false := decide_eq_false (by omega)
      cases hA : decide (x.sig.length ≤ 30) <;> rw [hA] at w1 <;>
      · repeat' (first
    | with_reducible first | apply swp_seq | apply swp_reg | apply swp_regD | apply swp_block | apply swp_exit | apply swp_ret | apply swp_skip | apply swp_cd
    | simp only [go_sem, seval, P12, q12, hpl, hsl, e1, e2, w1, w2]
    | simp (disch := omega) only [w64, w32, wu8, wu16, wu32, wu64]
    | with_reducible first | apply cd_dec | apply cd_eq | apply cd_ne | apply cd_split | apply gd_dec | apply gd_eq | apply gd_ne | apply gd_split
    | ((with_reducible refine And.intro ?hw ?_); (case hw => first | omega | rfl | exact ⟨_, _, rfl⟩ | assumption | (simp only [lN, hpl, hsl] <;> omega)))
    | with_reducible intro _)
        all_goals first
          | omega
          | (simp [D.closed, D.er]; done)
    · have e1 : decide ((k : Int) < ((x.path.length : Nat) : Int)) = false := decide_eq_false (by omega)
      cases hA : decide (x.sig.length ≤ 30) <;> rw [hA] at w1 <;>
      · repeat' (first
    | with_reducible first | apply swp_seq | apply swp_reg | apply swp_regD | apply swp_block | apply swp_exit | apply swp_ret | apply swp_skip | apply swp_cd
    | simp only [go_sem, seval, P12, q12, hpl, hsl, e1, w1, w2]
    | simp (disch := omega) only [w64, w32, wu8, wu16, wu32, wu64]
    | with_reducible first | apply cd_dec | apply cd_eq | apply cd_ne | apply cd_split | apply gd_dec | apply gd_eq | apply gd_ne | apply gd_split
    | ((with_reducible refine And.intro ?hw ?_); (case hw => first | omega | rfl | exact ⟨_, _, rfl⟩ | assumption | (simp only [lN, hpl, hsl] <;> omega)))
    | with_reducible intro _)
        all_goals first
          | omega
          | (simp [D.closed, D.er]; done)
  by_cases q : k < x.sig.length
  · have e1 : decide ((k : Int) < ((x.sig.length : Nat) : Int)) = true := decide_eq_true (by omega)
    have e2 : decide ((k : Int) < 30) = false := decide_eq_false (by omega)
    repeat' (first
    | with_reducible first | apply swp_seq | apply swp_reg | apply swp_regD | apply swp_block | apply swp_exit | apply swp_ret | apply swp_skip | apply swp_cd
    | simp only [go_sem, seval, P12, q12, hsl, e1, e2]
    | simp (disch := omega) only [w64, w32, wu8, wu16, wu32, wu64]
    | with_reducible first | apply cd_dec | apply cd_eq | apply cd_ne | apply cd_split | apply gd_dec | apply gd_eq | apply gd_ne | apply gd_split
    | ((with_reducible refine And.intro ?hw ?_); (case hw => first | omega | rfl | exact ⟨_, _, rfl⟩ | assumption | (simp only [lN, hsl] <;> omega)))
    | with_reducible intro _)
    all_goals try omega
    exact loopB k
  · have e1 : decide ((k : Int) < ((x.sig.length : Nat) : Int)) = false := decide_eq_false (by omega)
    repeat' (first
    | with_reducible first | apply swp_seq | apply swp_reg | apply swp_regD | apply swp_block | apply swp_exit | apply swp_ret | apply swp_skip | apply swp_cd
    | simp only [go_sem, seval, P12, q12, hsl, e1]
    | simp (disch := omega) only [w64, w32, wu8, wu16, wu32, wu64]
    | with_reducible first | apply cd_dec | apply cd_eq | apply cd_ne | apply cd_split | apply gd_dec | apply gd_eq | apply gd_ne | apply gd_split
    | ((with_reducible refine And.intro ?hw ?_); (case hw => first | omega | rfl | exact ⟨_, _, rfl⟩ | assumption | (simp only [lN, hsl] <;> omega)))
    | with_reducible intro _)
    all_goals try omega
    exact loopB k
end Go.Proofs.YtgjkhlnpplajjaaDoor
end
section
set_option maxRecDepth 100000
set_option linter.unusedSimpArgs false
set_option linter.unusedVariables false
namespace Go.Proofs.YtgjkhlnpplajjaaDoor
open Go GoV Go.RowKit
def pairB (l : List (List UInt8)) (i k : Nat) : Bool := (sumN (l.getD i []) == sumN (l.getD k [])) && (l.getD i [] != l.getD k [])
def rowB (l : List (List UInt8)) (i : Nat) : Bool := (List.range i).any (pairB l i)
def shownB (l : List (List UInt8)) : Bool := (List.range l.length).any (rowB l)
theorem any_succ (f : Nat → Bool) (k : Nat) : (List.range (k + 1)).any f = ((List.range k).any f || f k) := by
  rw [List.range_succ, List.any_append]; simp
theorem inj_of_shown {l : List (List UInt8)} (h : shownB l = false) : Inj fun t => t ∈ l := by
  have key : ∀ i k, i < l.length → k < i → sumN (l.getD i []) = sumN (l.getD k []) → l.getD i [] = l.getD k [] := by
    intro i k hi hk he
    unfold shownB at h
    rw [List.any_eq_false] at h
    have h1 := h i (by simpa using hi)
    unfold rowB at h1
    have h1' : (List.range i).any (pairB l i) = false := by simpa using h1
    rw [List.any_eq_false] at h1'
    have h2 := h1' k (by simpa using hk)
    unfold pairB at h2
    rw [he] at h2
    simpa using h2
  intro a b ha hb he
  obtain ⟨i, hi, rfl⟩ := List.mem_iff_getElem.1 ha
  obtain ⟨k, hk, rfl⟩ := List.mem_iff_getElem.1 hb
  have e1 : l.getD i [] = l[i] := by simp [List.getD, hi]
  have e2 : l.getD k [] = l[k] := by simp [List.getD, hk]
  rcases Nat.lt_trichotomy i k with q | q | q
  · have := key k i hk q (by rw [e1, e2]; exact he.symm)
    rw [e1, e2] at this
    exact this.symm
  · subst q; rfl
  · have := key i k hi q (by rw [e1, e2]; exact he)
    rw [e1, e2] at this
    exact this
def sums (l : List (List UInt8)) (k : Nat) : List (List UInt8) := (l.take k).map sumN
theorem sums_len {l : List (List UInt8)} {k : Nat} (h : k ≤ l.length) : (sums l k).length = k := by simp [sums]; omega
theorem sums_succ {l : List (List UInt8)} {k : Nat} (h : k < l.length) : sums l (k + 1) = sums l k ++ [sumN (l.getD k [])] := by
  unfold sums
  rw [List.take_succ_eq_append_getElem h, List.map_append]; simp [List.getD, h]
theorem sums_get {l : List (List UInt8)} {k : Nat} (h : k < l.length) : (strs (sums l l.length)).getD k .undef = .str (sumN (l.getD k [])) := by
  rw [strs_get (by rw [sums_len (Nat.le_refl _)]; exact h)]
  simp [sums, List.getD, h]
set_option maxHeartbeats 4000000 in
theorem shown_p (l : List (List UInt8)) (hl : l.length ≤ 100000) (hx : ∀ x ∈ l, x.length < 65536) : Pur M 22 [.slice (strs l) .no] (.bool (shownB l)) := by
  refine ok22 rfl ?_
  rw [i22]
  unfold c22
  have hsl := strs_len l
  repeat' (first
    | with_reducible apply swp_seq
    | with_reducible apply swp_reg
    | with_reducible apply swp_regD
    | with_reducible apply swp_block
    | with_reducible apply swp_exit
    | with_reducible apply swp_ret
    | with_reducible apply swp_skip
    | with_reducible apply swp_cd
    | simp only [go_sem, seval, P22, q22]
    | simp (disch := omega) only [w64, w32, wu8, wu16, wu32, wu64]
    | ((with_reducible apply s_appT); (case he => rfl); (case hK | hc | hr | hV => first | rfl | assumption | omega | (simp only [List.length_cons, List.length_nil, List.length_append, List.length_map, List.length_replicate, List.length_take, List.length_drop] <;> omega) | (constructor <;> first | omega | (simp only [List.length_cons, List.length_nil, List.length_append, List.length_map, List.length_replicate, List.length_take, List.length_drop] <;> omega)) | (simp [elemsK, D.isVal, D.cells, D.closedL, D.closed]; first | done | omega)))
    | ((with_reducible apply s_appG); (case he => rfl); (case hV | hK | hr | hl => first | rfl | assumption | omega | (simp only [List.length_cons, List.length_nil, List.length_append, List.length_map, List.length_replicate, List.length_take, List.length_drop] <;> omega) | (constructor <;> first | omega | (simp only [List.length_cons, List.length_nil, List.length_append, List.length_map, List.length_replicate, List.length_take, List.length_drop] <;> omega)) | (simp [elemsK, D.isVal, D.cells, D.closedL, D.closed]; first | done | omega)))
    | ((with_reducible apply s_app0); (case he => rfl); (case hK | hc | hr => first | rfl | assumption | omega | (simp only [List.length_cons, List.length_nil, List.length_append, List.length_map, List.length_replicate, List.length_take, List.length_drop] <;> omega) | (constructor <;> first | omega | (simp only [List.length_cons, List.length_nil, List.length_append, List.length_map, List.length_replicate, List.length_take, List.length_drop] <;> omega)) | (simp [elemsK, D.isVal, D.cells, D.closedL, D.closed]; first | done | omega)))
    | ((with_reducible apply s_appF); (case he => rfl); (case hK | hc | hr | hx | hn => first | rfl | assumption | omega | (simp only [List.length_cons, List.length_nil, List.length_append, List.length_map, List.length_replicate, List.length_take, List.length_drop] <;> omega) | (constructor <;> first | omega | (simp only [List.length_cons, List.length_nil, List.length_append, List.length_map, List.length_replicate, List.length_take, List.length_drop] <;> omega)) | (simp [elemsK, D.isVal, D.cells, D.closedL, D.closed]; first | done | omega)))
    | ((with_reducible apply s_bsl); (case he | hl | hc => first | rfl | assumption | omega | (simp only [List.length_cons, List.length_nil, List.length_append, List.length_map, List.length_replicate, List.length_take, List.length_drop] <;> omega) | (constructor <;> first | omega | (simp only [List.length_cons, List.length_nil, List.length_append, List.length_map, List.length_replicate, List.length_take, List.length_drop] <;> omega)) | (simp [elemsK, D.isVal, D.cells, D.closedL, D.closed]; first | done | omega)))
    | with_reducible apply cd_dec
    | with_reducible apply cd_eq
    | with_reducible apply cd_ne
    | with_reducible apply cd_split
    | with_reducible apply gd_dec
    | with_reducible apply gd_eq
    | with_reducible apply gd_ne
    | with_reducible apply gd_split
    | with_reducible apply gq_dec
    | with_reducible apply gq_eq
    | with_reducible apply gq_ne
    | with_reducible apply gq_split
    | ((with_reducible refine And.intro ?hw ?_); (case hw => first | omega | rfl | exact ⟨_, _, rfl⟩ | assumption | (simp only [List.length_cons, List.length_nil, List.length_append, List.length_map, List.length_replicate, List.length_take, List.length_drop] <;> omega)))
    | with_reducible intro _)
  refine swp_weak (weak_new 2 1 (by decide) false rfl) ?_
  refine swp_fam [0, 2, 3] (fun k : Nat => ⟨[.slice (strs l) .no, .undef, .slice (strs (sums l k)) (.tok 0), .int .i64 (k : Nat), .undef, .undef, .undef, .undef, .undef, .undef], [], ⟨[], [.per 1 k]⟩⟩)
    (fun k => k ≤ l.length) (fun k => l.length - k) 0 (by omega) ?_ ?_
  · simp [keepE, St.keep, sums]
  intro k hk
  by_cases hlt : k < l.length
  · have hg := strs_get hlt
    have t1 : ((k : Nat) : Int).toNat = k := Int.toNat_natCast k
    have c1 := rsum_p (l.getD k []) (by
      have : l.getD k [] = l[k] := by simp [List.getD, hlt]
      rw [this]; exact hx _ (List.getElem_mem hlt))
    have hss := sums_succ hlt
    have hle := sums_len hk
    generalize sumN (l.getD k []) = z at *
    generalize l.getD k [] = y at *
    generalize sums l k = T at *
    have hT := strs_len T
    generalize hL : strs l = L at *
    repeat' (first
    | with_reducible apply swp_seq
    | with_reducible apply swp_reg
    | with_reducible apply swp_regD
    | with_reducible apply swp_block
    | with_reducible apply swp_exit
    | with_reducible apply swp_ret
    | with_reducible apply swp_skip
    | with_reducible apply swp_cd
    | simp only [go_sem, seval, P22, q22, t1, hg, hsl]
    | simp (disch := omega) only [w64, w32, wu8, wu16, wu32, wu64]
    | ((with_reducible refine o_call (c1) ?he ?hc ?_); (case he | hc => first | rfl | (simp [D.erL, D.er, D.closedL, D.closed, hsl, hT, hle]; done)))
    | ((with_reducible apply s_appT); (case he => rfl); (case hK | hc | hr | hV => first | rfl | assumption | omega | (simp only [List.length_cons, List.length_nil, List.length_append, List.length_map, List.length_replicate, List.length_take, List.length_drop, hsl, hT, hle] <;> omega) | (constructor <;> first | omega | (simp only [List.length_cons, List.length_nil, List.length_append, List.length_map, List.length_replicate, List.length_take, List.length_drop, hsl, hT, hle] <;> omega)) | (simp [elemsK, D.isVal, D.cells, D.closedL, D.closed, hsl, hT, hle]; first | done | omega)))
    | ((with_reducible apply s_appG); (case he => rfl); (case hV | hK | hr | hl => first | rfl | assumption | omega | (simp only [List.length_cons, List.length_nil, List.length_append, List.length_map, List.length_replicate, List.length_take, List.length_drop, hsl, hT, hle] <;> omega) | (constructor <;> first | omega | (simp only [List.length_cons, List.length_nil, List.length_append, List.length_map, List.length_replicate, List.length_take, List.length_drop, hsl, hT, hle] <;> omega)) | (simp [elemsK, D.isVal, D.cells, D.closedL, D.closed, hsl, hT, hle]; first | done | omega)))
    | ((with_reducible apply s_app0); (case he => rfl); (case hK | hc | hr => first | rfl | assumption | omega | (simp only [List.length_cons, List.length_nil, List.length_append, List.length_map, List.length_replicate, List.length_take, List.length_drop, hsl, hT, hle] <;> omega) | (constructor <;> first | omega | (simp only [List.length_cons, List.length_nil, List.length_append, List.length_map, List.length_replicate, List.length_take, List.length_drop, hsl, hT, hle] <;> omega)) | (simp [elemsK, D.isVal, D.cells, D.closedL, D.closed, hsl, hT, hle]; first | done | omega)))
    | ((with_reducible apply s_appF); (case he => rfl); (case hK | hc | hr | hx | hn => first | rfl | assumption | omega | (simp only [List.length_cons, List.length_nil, List.length_append, List.length_map, List.length_replicate, List.length_take, List.length_drop, hsl, hT, hle] <;> omega) | (constructor <;> first | omega | (simp only [List.length_cons, List.length_nil, List.length_append, List.length_map, List.length_replicate, List.length_take, List.length_drop, hsl, hT, hle] <;> omega)) | (simp [elemsK, D.isVal, D.cells, D.closedL, D.closed, hsl, hT, hle]; first | done | omega)))
    | ((with_reducible apply s_bsl); (case he | hl | hc => first | rfl | assumption | omega | (simp only [List.length_cons, List.length_nil, List.length_append, List.length_map, List.length_replicate, List.length_take, List.length_drop, hsl, hT, hle] <;> omega) | (constructor <;> first | omega | (simp only [List.length_cons, List.length_nil, List.length_append, List.length_map, List.length_replicate, List.length_take, List.length_drop, hsl, hT, hle] <;> omega)) | (simp [elemsK, D.isVal, D.cells, D.closedL, D.closed, hsl, hT, hle]; first | done | omega)))
    | with_reducible apply cd_dec
    | with_reducible apply cd_eq
    | with_reducible apply cd_ne
    | with_reducible apply cd_split
    | with_reducible apply gd_dec
    | with_reducible apply gd_eq
    | with_reducible apply gd_ne
    | with_reducible apply gd_split
    | with_reducible apply gq_dec
    | with_reducible apply gq_eq
    | with_reducible apply gq_ne
    | with_reducible apply gq_split
    | ((with_reducible refine And.intro ?hw ?_); (case hw => first | omega | rfl | exact ⟨_, _, rfl⟩ | assumption | (simp only [List.length_cons, List.length_nil, List.length_append, List.length_map, List.length_replicate, List.length_take, List.length_drop, hsl, hT, hle] <;> omega)))
    | with_reducible intro _)
    all_goals try omega
    refine ⟨k + 1, by omega, by omega, ?_⟩
    rw [hss]
    simp [keepE, St.keep, hL, hle]
  have e : k = l.length := by omega
  subst e
  have hg0 : ∀ i, i < l.length → (strs (sums l l.length)).getD i .undef = .str (sumN (l.getD i [])) := fun i hi => sums_get hi
  have hsu : (strs (sums l l.length)).length = l.length := by rw [strs_len, sums_len (Nat.le_refl _)]
  generalize hU : strs (sums l l.length) = U at *
  repeat' (first
    | with_reducible apply swp_seq
    | with_reducible apply swp_reg
    | with_reducible apply swp_regD
    | with_reducible apply swp_block
    | with_reducible apply swp_exit
    | with_reducible apply swp_ret
    | with_reducible apply swp_skip
    | with_reducible apply swp_cd
    | simp only [go_sem, seval, P22, q22]
    | simp (disch := omega) only [w64, w32, wu8, wu16, wu32, wu64]
    | ((with_reducible apply s_appT); (case he => rfl); (case hK | hc | hr | hV => first | rfl | assumption | omega | (simp only [List.length_cons, List.length_nil, List.length_append, List.length_map, List.length_replicate, List.length_take, List.length_drop] <;> omega) | (constructor <;> first | omega | (simp only [List.length_cons, List.length_nil, List.length_append, List.length_map, List.length_replicate, List.length_take, List.length_drop] <;> omega)) | (simp [elemsK, D.isVal, D.cells, D.closedL, D.closed]; first | done | omega)))
    | ((with_reducible apply s_appG); (case he => rfl); (case hV | hK | hr | hl => first | rfl | assumption | omega | (simp only [List.length_cons, List.length_nil, List.length_append, List.length_map, List.length_replicate, List.length_take, List.length_drop] <;> omega) | (constructor <;> first | omega | (simp only [List.length_cons, List.length_nil, List.length_append, List.length_map, List.length_replicate, List.length_take, List.length_drop] <;> omega)) | (simp [elemsK, D.isVal, D.cells, D.closedL, D.closed]; first | done | omega)))
    | ((with_reducible apply s_app0); (case he => rfl); (case hK | hc | hr => first | rfl | assumption | omega | (simp only [List.length_cons, List.length_nil, List.length_append, List.length_map, List.length_replicate, List.length_take, List.length_drop] <;> omega) | (constructor <;> first | omega | (simp only [List.length_cons, List.length_nil, List.length_append, List.length_map, List.length_replicate, List.length_take, List.length_drop] <;> omega)) | (simp [elemsK, D.isVal, D.cells, D.closedL, D.closed]; first | done | omega)))
    | ((with_reducible apply s_appF); (case he => rfl); (case hK | hc | hr | hx | hn => first | rfl | assumption | omega | (simp only [List.length_cons, List.length_nil, List.length_append, List.length_map, List.length_replicate, List.length_take, List.length_drop] <;> omega) | (constructor <;> first | omega | (simp only [List.length_cons, List.length_nil, List.length_append, List.length_map, List.length_replicate, List.length_take, List.length_drop] <;> omega)) | (simp [elemsK, D.isVal, D.cells, D.closedL, D.closed]; first | done | omega)))
    | ((with_reducible apply s_bsl); (case he | hl | hc => first | rfl | assumption | omega | (simp only [List.length_cons, List.length_nil, List.length_append, List.length_map, List.length_replicate, List.length_take, List.length_drop] <;> omega) | (constructor <;> first | omega | (simp only [List.length_cons, List.length_nil, List.length_append, List.length_map, List.length_replicate, List.length_take, List.length_drop] <;> omega)) | (simp [elemsK, D.isVal, D.cells, D.closedL, D.closed]; first | done | omega)))
    | with_reducible apply cd_dec
    | with_reducible apply cd_eq
    | with_reducible apply cd_ne
    | with_reducible apply cd_split
    | with_reducible apply gd_dec
    | with_reducible apply gd_eq
    | with_reducible apply gd_ne
    | with_reducible apply gd_split
    | with_reducible apply gq_dec
    | with_reducible apply gq_eq
    | with_reducible apply gq_ne
    | with_reducible apply gq_split
    | ((with_reducible refine And.intro ?hw ?_); (case hw => first | omega | rfl | exact ⟨_, _, rfl⟩ | assumption | (simp only [List.length_cons, List.length_nil, List.length_append, List.length_map, List.length_replicate, List.length_take, List.length_drop] <;> omega)))
    | with_reducible intro _)
  all_goals try omega
  refine swp_fam [0, 2, 4] (fun i : Nat => ⟨[.slice (strs l) .no, .undef, .slice U (.tok 0), .undef, .int .i64 (i : Nat), .undef, .undef, .undef, .undef, .undef], [], ⟨[], [.per 1 l.length]⟩⟩)
    (fun i => i ≤ l.length ∧ (List.range i).any (rowB l) = false) (fun i => l.length - i) 0 ⟨by omega, rfl⟩ ?_ ?_
  · simp [keepE, St.keep]
  rintro i ⟨hi, hi2⟩
  by_cases hlt2 : i < l.length
  · repeat' (first
    | with_reducible apply swp_seq
    | with_reducible apply swp_reg
    | with_reducible apply swp_regD
    | with_reducible apply swp_block
    | with_reducible apply swp_exit
    | with_reducible apply swp_ret
    | with_reducible apply swp_skip
    | with_reducible apply swp_cd
    | simp only [go_sem, seval, P22, q22, hsl]
    | simp (disch := omega) only [w64, w32, wu8, wu16, wu32, wu64]
    | ((with_reducible apply s_appT); (case he => rfl); (case hK | hc | hr | hV => first | rfl | assumption | omega | (simp only [List.length_cons, List.length_nil, List.length_append, List.length_map, List.length_replicate, List.length_take, List.length_drop, hsl] <;> omega) | (constructor <;> first | omega | (simp only [List.length_cons, List.length_nil, List.length_append, List.length_map, List.length_replicate, List.length_take, List.length_drop, hsl] <;> omega)) | (simp [elemsK, D.isVal, D.cells, D.closedL, D.closed, hsl]; first | done | omega)))
    | ((with_reducible apply s_appG); (case he => rfl); (case hV | hK | hr | hl => first | rfl | assumption | omega | (simp only [List.length_cons, List.length_nil, List.length_append, List.length_map, List.length_replicate, List.length_take, List.length_drop, hsl] <;> omega) | (constructor <;> first | omega | (simp only [List.length_cons, List.length_nil, List.length_append, List.length_map, List.length_replicate, List.length_take, List.length_drop, hsl] <;> omega)) | (simp [elemsK, D.isVal, D.cells, D.closedL, D.closed, hsl]; first | done | omega)))
    | ((with_reducible apply s_app0); (case he => rfl); (case hK | hc | hr => first | rfl | assumption | omega | (simp only [List.length_cons, List.length_nil, List.length_append, List.length_map, List.length_replicate, List.length_take, List.length_drop, hsl] <;> omega) | (constructor <;> first | omega | (simp only [List.length_cons, List.length_nil, List.length_append, List.length_map, List.length_replicate, List.length_take, List.length_drop, hsl] <;> omega)) | (simp [elemsK, D.isVal, D.cells, D.closedL, D.closed, hsl]; first | done | omega)))
    | ((with_reducible apply s_appF); (case he => rfl); (case hK | hc | hr | hx | hn => first | rfl | assumption | omega | (simp only [List.length_cons, List.length_nil, List.length_append, List.length_map, List.length_replicate, List.length_take, List.length_drop, hsl] <;> omega) | (constructor <;> first | omega | (simp only [List.length_cons, List.length_nil, List.length_append, List.length_map, List.length_replicate, List.length_take, List.length_drop, hsl] <;> omega)) | (simp [elemsK, D.isVal, D.cells, D.closedL, D.closed, hsl]; first | done | omega)))
    | ((with_reducible apply s_bsl); (case he | hl | hc => first | rfl | assumption | omega | (simp only [List.length_cons, List.length_nil, List.length_append, List.length_map, List.length_replicate, List.length_take, List.length_drop, hsl] <;> omega) | (constructor <;> first | omega | (simp only [List.length_cons, List.length_nil, List.length_append, List.length_map, List.length_replicate, List.length_take, List.length_drop, hsl] <;> omega)) | (simp [elemsK, D.isVal, D.cells, D.closedL, D.closed, hsl]; first | done | omega)))
    | with_reducible apply cd_dec
    | with_reducible apply cd_eq
    | with_reducible apply cd_ne
    | with_reducible apply cd_split
    | with_reducible apply gd_dec
    | with_reducible apply gd_eq
    | with_reducible apply gd_ne
    | with_reducible apply gd_split
    | with_reducible apply gq_dec
    | with_reducible apply gq_eq
    | with_reducible apply gq_ne
    | with_reducible apply gq_split
    | ((with_reducible refine And.intro ?hw ?_); (case hw => first | omega | rfl | exact ⟨_, _, rfl⟩ | assumption | (simp only [List.length_cons, List.length_nil, List.length_append, List.length_map, List.length_replicate, List.length_take, List.length_drop, hsl] <;> omega)))
    | with_reducible intro _)
    all_goals try omega
    refine swp_fam [0, 2, 4, 5] (fun k : Nat => ⟨[.slice (strs l) .no, .undef, .slice U (.tok 0), .undef, .int .i64 (i : Nat), .int .i64 (k : Nat), .undef, .undef, .undef, .undef], [], ⟨[], [.per 1 l.length]⟩⟩)
      (fun k => k ≤ i ∧ (List.range k).any (pairB l i) = false) (fun k => i - k) 0 ⟨by omega, rfl⟩ ?_ ?_
    · simp [keepE, St.keep]
    rintro k ⟨hk1, hk2⟩
    by_cases hlt3 : k < i
    · have g1 := hg0 i hlt2
      have g2 := hg0 k (by omega)
      have g3 := strs_get hlt2
      have g4 := strs_get (l := l) (i := k) (by omega)
      have t1 : ((k : Nat) : Int).toNat = k := Int.toNat_natCast k
      have t2 : ((i : Nat) : Int).toNat = i := Int.toNat_natCast i
      have hps := any_succ (pairB l i) k
      rw [hk2, Bool.false_or] at hps
      have hyes : pairB l i k = true → shownB l = true := by
        intro q
        unfold shownB
        rw [List.any_eq_true]
        refine ⟨i, by simpa using hlt2, ?_⟩
        unfold rowB
        rw [List.any_eq_true]
        exact ⟨k, by simpa using hlt3, q⟩
      have hpb : pairB l i k = ((sumN (l.getD i []) == sumN (l.getD k [])) && (l.getD i [] != l.getD k [])) := rfl
      generalize sumN (l.getD i []) = s1 at *
      generalize sumN (l.getD k []) = s2 at *
      generalize l.getD i [] = x1 at *
      generalize l.getD k [] = x2 at *
      generalize hL : strs l = L at *
      cases b1 : (s1 == s2)
      · rw [b1, Bool.false_and] at hpb
        repeat' (first
    | with_reducible apply swp_seq
    | with_reducible apply swp_reg
    | with_reducible apply swp_regD
    | with_reducible apply swp_block
    | with_reducible apply swp_exit
    | with_reducible apply swp_ret
    | with_reducible apply swp_skip
    | with_reducible apply swp_cd
    | simp only [go_sem, seval, P22, q22, t1, t2, g1, g2, g3, g4, hsl, hsu, b1]
    | simp (disch := omega) only [w64, w32, wu8, wu16, wu32, wu64]
    | ((with_reducible apply s_appT); (case he => rfl); (case hK | hc | hr | hV => first | rfl | assumption | omega | (simp only [List.length_cons, List.length_nil, List.length_append, List.length_map, List.length_replicate, List.length_take, List.length_drop, hsl, hsu] <;> omega) | (constructor <;> first | omega | (simp only [List.length_cons, List.length_nil, List.length_append, List.length_map, List.length_replicate, List.length_take, List.length_drop, hsl, hsu] <;> omega)) | (simp [elemsK, D.isVal, D.cells, D.closedL, D.closed, hsl, hsu]; first | done | omega)))
    | ((with_reducible apply s_appG); (case he => rfl); (case hV | hK | hr | hl => first | rfl | assumption | omega | (simp only [List.length_cons, List.length_nil, List.length_append, List.length_map, List.length_replicate, List.length_take, List.length_drop, hsl, hsu] <;> omega) | (constructor <;> first | omega | (simp only [List.length_cons, List.length_nil, List.length_append, List.length_map, List.length_replicate, List.length_take, List.length_drop, hsl, hsu] <;> omega)) | (simp [elemsK, D.isVal, D.cells, D.closedL, D.closed, hsl, hsu]; first | done | omega)))
    | ((with_reducible apply s_app0); (case he => rfl); (case hK | hc | hr => first | rfl | assumption | omega | (simp only [List.length_cons, List.length_nil, List.length_append, List.length_map, List.length_replicate, List.length_take, List.length_drop, hsl, hsu] <;> omega) | (constructor <;> first | omega | (simp only [List.length_cons, List.length_nil, List.length_append, List.length_map, List.length_replicate, List.length_take, List.length_drop, hsl, hsu] <;> omega)) | (simp [elemsK, D.isVal, D.cells, D.closedL, D.closed, hsl, hsu]; first | done | omega)))
    | ((with_reducible apply s_appF); (case he => rfl); (case hK | hc | hr | hx | hn => first | rfl | assumption | omega | (simp only [List.length_cons, List.length_nil, List.length_append, List.length_map, List.length_replicate, List.length_take, List.length_drop, hsl, hsu] <;> omega) | (constructor <;> first | omega | (simp only [List.length_cons, List.length_nil, List.length_append, List.length_map, List.length_replicate, List.length_take, List.length_drop, hsl, hsu] <;> omega)) | (simp [elemsK, D.isVal, D.cells, D.closedL, D.closed, hsl, hsu]; first | done | omega)))
    | ((with_reducible apply s_bsl); (case he | hl | hc => first | rfl | assumption | omega | (simp only [List.length_cons, List.length_nil, List.length_append, List.length_map, List.length_replicate, List.length_take, List.length_drop, hsl, hsu] <;> omega) | (constructor <;> first | omega | (simp only [List.length_cons, List.length_nil, List.length_append, List.length_map, List.length_replicate, List.length_take, List.length_drop, hsl, hsu] <;> omega)) | (simp [elemsK, D.isVal, D.cells, D.closedL, D.closed, hsl, hsu]; first | done | omega)))
    | with_reducible apply cd_dec
    | with_reducible apply cd_eq
    | with_reducible apply cd_ne
    | with_reducible apply cd_split
    | with_reducible apply gd_dec
    | with_reducible apply gd_eq
    | with_reducible apply gd_ne
    | with_reducible apply gd_split
    | with_reducible apply gq_dec
    | with_reducible apply gq_eq
    | with_reducible apply gq_ne
    | with_reducible apply gq_split
    | ((with_reducible refine And.intro ?hw ?_); (case hw => first | omega | rfl | exact ⟨_, _, rfl⟩ | assumption | (simp only [List.length_cons, List.length_nil, List.length_append, List.length_map, List.length_replicate, List.length_take, List.length_drop, hsl, hsu] <;> omega)))
    | with_reducible intro _)
        all_goals try omega
        refine ⟨k + 1, ⟨by omega, by rw [hps, hpb]⟩, by omega, ?_⟩
        simp [keepE, St.keep]
      · rw [b1, Bool.true_and] at hpb
        have hne : (x1 != x2) = !(x1 == x2) := rfl
        rw [hne] at hpb
        cases b2 : (x1 == x2)
        · rw [b2] at hpb
          rw [hyes hpb]
          repeat' (first
    | with_reducible apply swp_seq
    | with_reducible apply swp_reg
    | with_reducible apply swp_regD
    | with_reducible apply swp_block
    | with_reducible apply swp_exit
    | with_reducible apply swp_ret
    | with_reducible apply swp_skip
    | with_reducible apply swp_cd
    | simp only [go_sem, seval, P22, q22, t1, t2, g1, g2, g3, g4, hsl, hsu, b1, b2]
    | simp (disch := omega) only [w64, w32, wu8, wu16, wu32, wu64]
    | ((with_reducible apply s_appT); (case he => rfl); (case hK | hc | hr | hV => first | rfl | assumption | omega | (simp only [List.length_cons, List.length_nil, List.length_append, List.length_map, List.length_replicate, List.length_take, List.length_drop, hsl, hsu] <;> omega) | (constructor <;> first | omega | (simp only [List.length_cons, List.length_nil, List.length_append, List.length_map, List.length_replicate, List.length_take, List.length_drop, hsl, hsu] <;> omega)) | (simp [elemsK, D.isVal, D.cells, D.closedL, D.closed, hsl, hsu]; first | done | omega)))
    | ((with_reducible apply s_appG); (case he => rfl); (case hV | hK | hr | hl => first | rfl | assumption | omega | (simp only [List.length_cons, List.length_nil, List.length_append, List.length_map, List.length_replicate, List.length_take, List.length_drop, hsl, hsu] <;> omega) | (constructor <;> first | omega | (simp only [List.length_cons, List.length_nil, List.length_append, List.length_map, List.length_replicate, List.length_take, List.length_drop, hsl, hsu] <;> omega)) | (simp [elemsK, D.isVal, D.cells, D.closedL, D.closed, hsl, hsu]; first | done | omega)))
    | ((with_reducible apply s_app0); (case he => rfl); (case hK | hc | hr => first | rfl | assumption | omega | (simp only [List.length_cons, List.length_nil, List.length_append, List.length_map, List.length_replicate, List.length_take, List.length_drop, hsl, hsu] <;> omega) | (constructor <;> first | omega | (simp only [List.length_cons, List.length_nil, List.length_append, List.length_map, List.length_replicate, List.length_take, List.length_drop, hsl, hsu] <;> omega)) | (simp [elemsK, D.isVal, D.cells, D.closedL, D.closed, hsl, hsu]; first | done | omega)))
    | ((with_reducible apply s_appF); (case he => rfl); (case hK | hc | hr | hx | hn => first | rfl | assumption | omega | (simp only [List.length_cons, List.length_nil, List.length_append, List.length_map, List.length_replicate, List.length_take, List.length_drop, hsl, hsu] <;> omega) | (constructor <;> first | omega | (simp only [List.length_cons, List.length_nil, List.length_append, List.length_map, List.length_replicate, List.length_take, List.length_drop, hsl, hsu] <;> omega)) | (simp [elemsK, D.isVal, D.cells, D.closedL, D.closed, hsl, hsu]; first | done | omega)))
    | ((with_reducible apply s_bsl); (case he | hl | hc => first | rfl | assumption | omega | (simp only [List.length_cons, List.length_nil, List.length_append, List.length_map, List.length_replicate, List.length_take, List.length_drop, hsl, hsu] <;> omega) | (constructor <;> first | omega | (simp only [List.length_cons, List.length_nil, List.length_append, List.length_map, List.length_replicate, List.length_take, List.length_drop, hsl, hsu] <;> omega)) | (simp [elemsK, D.isVal, D.cells, D.closedL, D.closed, hsl, hsu]; first | done | omega)))
    | with_reducible apply cd_dec
    | with_reducible apply cd_eq
    | with_reducible apply cd_ne
    | with_reducible apply cd_split
    | with_reducible apply gd_dec
    | with_reducible apply gd_eq
    | with_reducible apply gd_ne
    | with_reducible apply gd_split
    | with_reducible apply gq_dec
    | with_reducible apply gq_eq
    | with_reducible apply gq_ne
    | with_reducible apply gq_split
    | ((with_reducible refine And.intro ?hw ?_); (case hw => first | omega | rfl | exact ⟨_, _, rfl⟩ | assumption | (simp only [List.length_cons, List.length_nil, List.length_append, List.length_map, List.length_replicate, List.length_take, List.length_drop, hsl, hsu] <;> omega)))
    | with_reducible intro _)
          all_goals first
            | omega
            | (simp [D.closed, D.er]; done)
        · rw [b2] at hpb
          repeat' (first
    | with_reducible apply swp_seq
    | with_reducible apply swp_reg
    | with_reducible apply swp_regD
    | with_reducible apply swp_block
    | with_reducible apply swp_exit
    | with_reducible apply swp_ret
    | with_reducible apply swp_skip
    | with_reducible apply swp_cd
    | simp only [go_sem, seval, P22, q22, t1, t2, g1, g2, g3, g4, hsl, hsu, b1, b2]
    | simp (disch := omega) only [w64, w32, wu8, wu16, wu32, wu64]
    | ((with_reducible apply s_appT); (case he => rfl); (case hK | hc | hr | hV => first | rfl | assumption | omega | (simp only [List.length_cons, List.length_nil, List.length_append, List.length_map, List.length_replicate, List.length_take, List.length_drop, hsl, hsu] <;> omega) | (constructor <;> first | omega | (simp only [List.length_cons, List.length_nil, List.length_append, List.length_map, List.length_replicate, List.length_take, List.length_drop, hsl, hsu] <;> omega)) | (simp [elemsK, D.isVal, D.cells, D.closedL, D.closed, hsl, hsu]; first | done | omega)))
    | ((with_reducible apply s_appG); (case he => rfl); (case hV | hK | hr | hl => first | rfl | assumption | omega | (simp only [List.length_cons, List.length_nil, List.length_append, List.length_map, List.length_replicate, List.length_take, List.length_drop, hsl, hsu] <;> omega) | (constructor <;> first | omega | (simp only [List.length_cons, List.length_nil, List.length_append, List.length_map, List.length_replicate, List.length_take, List.length_drop, hsl, hsu] <;> omega)) | (simp [elemsK, D.isVal, D.cells, D.closedL, D.closed, hsl, hsu]; first | done | omega)))
    | ((with_reducible apply s_app0); (case he => rfl); (case hK | hc | hr => first | rfl | assumption | omega | (simp only [List.length_cons, List.length_nil, List.length_append, List.length_map, List.length_replicate, List.length_take, List.length_drop, hsl, hsu] <;> omega) | (constructor <;> first | omega | (simp only [List.length_cons, List.length_nil, List.length_append, List.length_map, List.length_replicate, List.length_take, List.length_drop, hsl, hsu] <;> omega)) | (simp [elemsK, D.isVal, D.cells, D.closedL, D.closed, hsl, hsu]; first | done | omega)))
    | ((with_reducible apply s_appF); (case he => rfl); (case hK | hc | hr | hx | hn => first | rfl | assumption | omega | (simp only [List.length_cons, List.length_nil, List.length_append, List.length_map, List.length_replicate, List.length_take, List.length_drop, hsl, hsu] <;> omega) | (constructor <;> first | omega | (simp only [List.length_cons, List.length_nil, List.length_append, List.length_map, List.length_replicate, List.length_take, List.length_drop, hsl, hsu] <;> omega)) | (simp [elemsK, D.isVal, D.cells, D.closedL, D.closed, hsl, hsu]; first | done | omega)))
    | ((with_reducible apply s_bsl); (case he | hl | hc => first | rfl | assumption | omega | (simp only [List.length_cons, List.length_nil, List.length_append, List.length_map, List.length_replicate, List.length_take, List.length_drop, hsl, hsu] <;> omega) | (constructor <;> first | omega | (simp only [List.length_cons, List.length_nil, List.length_append, List.length_map, List.length_replicate, List.length_take, List.length_drop, hsl, hsu] <;> omega)) | (simp [elemsK, D.isVal, D.cells, D.closedL, D.closed, hsl, hsu]; first | done | omega)))
    | with_reducible apply cd_dec
    | with_reducible apply cd_eq
    | with_reducible apply cd_ne
    | with_reducible apply cd_split
    | with_reducible apply gd_dec
    | with_reducible apply gd_eq
    | with_reducible apply gd_ne
    | with_reducible apply gd_split
    | with_reducible apply gq_dec
    | with_reducible apply gq_eq
    | with_reducible apply gq_ne
    | with_reducible apply gq_split
    | ((with_reducible refine And.intro ?hw ?_); (case hw => first | omega | rfl | exact ⟨_, _, rfl⟩ | assumption | (simp only [List.length_cons, List.length_nil, List.length_append, List.length_map, List.length_replicate, List.length_take, List.length_drop, hsl, hsu] <;> omega)))
    | with_reducible intro _)
          all_goals try omega
          refine ⟨k + 1, ⟨by omega, by rw [hps, hpb]; rfl⟩, by omega, ?_⟩
          simp [keepE, St.keep]
    · have e : k = i := by omega
      subst e
      have hrs := any_succ (rowB l) k
      rw [hi2, Bool.false_or] at hrs
      have hrb : rowB l k = false := hk2
      generalize hL : strs l = L at *
      repeat' (first
    | with_reducible apply swp_seq
    | with_reducible apply swp_reg
    | with_reducible apply swp_regD
    | with_reducible apply swp_block
    | with_reducible apply swp_exit
    | with_reducible apply swp_ret
    | with_reducible apply swp_skip
    | with_reducible apply swp_cd
    | simp only [go_sem, seval, P22, q22, hsl]
    | simp (disch := omega) only [w64, w32, wu8, wu16, wu32, wu64]
    | ((with_reducible apply s_appT); (case he => rfl); (case hK | hc | hr | hV => first | rfl | assumption | omega | (simp only [List.length_cons, List.length_nil, List.length_append, List.length_map, List.length_replicate, List.length_take, List.length_drop, hsl] <;> omega) | (constructor <;> first | omega | (simp only [List.length_cons, List.length_nil, List.length_append, List.length_map, List.length_replicate, List.length_take, List.length_drop, hsl] <;> omega)) | (simp [elemsK, D.isVal, D.cells, D.closedL, D.closed, hsl]; first | done | omega)))
    | ((with_reducible apply s_appG); (case he => rfl); (case hV | hK | hr | hl => first | rfl | assumption | omega | (simp only [List.length_cons, List.length_nil, List.length_append, List.length_map, List.length_replicate, List.length_take, List.length_drop, hsl] <;> omega) | (constructor <;> first | omega | (simp only [List.length_cons, List.length_nil, List.length_append, List.length_map, List.length_replicate, List.length_take, List.length_drop, hsl] <;> omega)) | (simp [elemsK, D.isVal, D.cells, D.closedL, D.closed, hsl]; first | done | omega)))
    | ((with_reducible apply s_app0); (case he => rfl); (case hK | hc | hr => first | rfl | assumption | omega | (simp only [List.length_cons, List.length_nil, List.length_append, List.length_map, List.length_replicate, List.length_take, List.length_drop, hsl] <;> omega) | (constructor <;> first | omega | (simp only [List.length_cons, List.length_nil, List.length_append, List.length_map, List.length_replicate, List.length_take, List.length_drop, hsl] <;> omega)) | (simp [elemsK, D.isVal, D.cells, D.closedL, D.closed, hsl]; first | done | omega)))
    | ((with_reducible apply s_appF); (case he => rfl); (case hK | hc | hr | hx | hn => first | rfl | assumption | omega | (simp only [List.length_cons, List.length_nil, List.length_append, List.length_map, List.length_replicate, List.length_take, List.length_drop, hsl] <;> omega) | (constructor <;> first | omega | (simp only [List.length_cons, List.length_nil, List.length_append, List.length_map, List.length_replicate, List.length_take, List.length_drop, hsl] <;> omega)) | (simp [elemsK, D.isVal, D.cells, D.closedL, D.closed, hsl]; first | done | omega)))
    | ((with_reducible apply s_bsl); (case he | hl | hc => first | rfl | assumption | omega | (simp only [List.length_cons, List.length_nil, List.length_append, List.length_map, List.length_replicate, List.length_take, List.length_drop, hsl] <;> omega) | (constructor <;> first | omega | (simp only [List.length_cons, List.length_nil, List.length_append, List.length_map, List.length_replicate, List.length_take, List.length_drop, hsl] <;> omega)) | (simp [elemsK, D.isVal, D.cells, D.closedL, D.closed, hsl]; first | done | omega)))
    | with_reducible apply cd_dec
    | with_reducible apply cd_eq
    | with_reducible apply cd_ne
    | with_reducible apply cd_split
    | with_reducible apply gd_dec
    | with_reducible apply gd_eq
    | with_reducible apply gd_ne
    | with_reducible apply gd_split
    | with_reducible apply gq_dec
    | with_reducible apply gq_eq
    | with_reducible apply gq_ne
    | with_reducible apply gq_split
    | ((with_reducible refine And.intro ?hw ?_); (case hw => first | omega | rfl | exact ⟨_, _, rfl⟩ | assumption | (simp only [List.length_cons, List.length_nil, List.length_append, List.length_map, List.length_replicate, List.length_take, List.length_drop, hsl] <;> omega)))
    | with_reducible intro _)
      all_goals try omega
      refine ⟨k + 1, ⟨by omega, by rw [hrs, hrb]⟩, by omega, ?_⟩
      simp [keepE, St.keep, hL]
  · have e : i = l.length := by omega
    subst e
    have hf : shownB l = false := hi2
    rw [hf]
    generalize hL : strs l = L at *
    repeat' (first
    | with_reducible apply swp_seq
    | with_reducible apply swp_reg
    | with_reducible apply swp_regD
    | with_reducible apply swp_block
    | with_reducible apply swp_exit
    | with_reducible apply swp_ret
    | with_reducible apply swp_skip
    | with_reducible apply swp_cd
    | simp only [go_sem, seval, P22, q22, hsl]
    | simp (disch := omega) only [w64, w32, wu8, wu16, wu32, wu64]
    | ((with_reducible apply s_appT); (case he => rfl); (case hK | hc | hr | hV => first | rfl | assumption | omega | (simp only [List.length_cons, List.length_nil, List.length_append, List.length_map, List.length_replicate, List.length_take, List.length_drop, hsl] <;> omega) | (constructor <;> first | omega | (simp only [List.length_cons, List.length_nil, List.length_append, List.length_map, List.length_replicate, List.length_take, List.length_drop, hsl] <;> omega)) | (simp [elemsK, D.isVal, D.cells, D.closedL, D.closed, hsl]; first | done | omega)))
    | ((with_reducible apply s_appG); (case he => rfl); (case hV | hK | hr | hl => first | rfl | assumption | omega | (simp only [List.length_cons, List.length_nil, List.length_append, List.length_map, List.length_replicate, List.length_take, List.length_drop, hsl] <;> omega) | (constructor <;> first | omega | (simp only [List.length_cons, List.length_nil, List.length_append, List.length_map, List.length_replicate, List.length_take, List.length_drop, hsl] <;> omega)) | (simp [elemsK, D.isVal, D.cells, D.closedL, D.closed, hsl]; first | done | omega)))
    | ((with_reducible apply s_app0); (case he => rfl); (case hK | hc | hr => first | rfl | assumption | omega | (simp only [List.length_cons, List.length_nil, List.length_append, List.length_map, List.length_replicate, List.length_take, List.length_drop, hsl] <;> omega) | (constructor <;> first | omega | (simp only [List.length_cons, List.length_nil, List.length_append, List.length_map, List.length_replicate, List.length_take, List.length_drop, hsl] <;> omega)) | (simp [elemsK, D.isVal, D.cells, D.closedL, D.closed, hsl]; first | done | omega)))
    | ((with_reducible apply s_appF); (case he => rfl); (case hK | hc | hr | hx | hn => first | rfl | assumption | omega | (simp only [List.length_cons, List.length_nil, List.length_append, List.length_map, List.length_replicate, List.length_take, List.length_drop, hsl] <;> omega) | (constructor <;> first | omega | (simp only [List.length_cons, List.length_nil, List.length_append, List.length_map, List.length_replicate, List.length_take, List.length_drop, hsl] <;> omega)) | (simp [elemsK, D.isVal, D.cells, D.closedL, D.closed, hsl]; first | done | omega)))
    | ((with_reducible apply s_bsl); (case he | hl | hc => first | rfl | assumption | omega | (simp only [List.length_cons, List.length_nil, List.length_append, List.length_map, List.length_replicate, List.length_take, List.length_drop, hsl] <;> omega) | (constructor <;> first | omega | (simp only [List.length_cons, List.length_nil, List.length_append, List.length_map, List.length_replicate, List.length_take, List.length_drop, hsl] <;> omega)) | (simp [elemsK, D.isVal, D.cells, D.closedL, D.closed, hsl]; first | done | omega)))
    | with_reducible apply cd_dec
    | with_reducible apply cd_eq
    | with_reducible apply cd_ne
    | with_reducible apply cd_split
    | with_reducible apply gd_dec
    | with_reducible apply gd_eq
    | with_reducible apply gd_ne
    | with_reducible apply gd_split
    | with_reducible apply gq_dec
    | with_reducible apply gq_eq
    | with_reducible apply gq_ne
    | with_reducible apply gq_split
    | ((with_reducible refine And.intro ?hw ?_); (case hw => first | omega | rfl | exact ⟨_, _, rfl⟩ | assumption | (simp only [List.length_cons, List.length_nil, List.length_append, List.length_map, List.length_replicate, List.length_take, List.length_drop, hsl] <;> omega)))
    | with_reducible intro _)
    all_goals first
      | omega
      | (simp [D.closed, D.er]; done)
end Go.Proofs.YtgjkhlnpplajjaaDoor
end
section
set_option maxRecDepth 100000
set_option linter.unusedSimpArgs false
set_option linter.unusedVariables false
namespace Go.Proofs.YtgjkhlnpplajjaaDoor
open Go GoV Go.RowKit
def outN (s : List UInt8) (n i : Nat) : List (List UInt8) := ((List.range i).map (madeI s n)).flatten
def outNK (s : List UInt8) (n i k : Nat) : List (List UInt8) := outN s n i ++ ((List.range k).map (madeK s i n)).flatten
theorem outN_succ (s : List UInt8) (n i : Nat) : outN s n (i + 1) = outNK s n i 18 ++ [keyT s i] := by
  simp [outN, outNK, madeI, List.range_succ]
theorem outNK_succ (s : List UInt8) (n i k : Nat) : outNK s n i (k + 1) = outNK s n i k ++ [startT s i k] ++ chnL (start s i k) n := by
  unfold outNK
  rw [List.range_succ, List.map_append, List.flatten_append]
  simp [madeK]
theorem outNK_zero (s : List UInt8) (n i : Nat) : outNK s n i 0 = outN s n i := by simp [outNK]
theorem chnL_len (t : List UInt8) (n : Nat) : (chnL t n).length = n + 1 := by simp [chnL]
theorem chnL_get {t : List UInt8} {n j : Nat} (h : j ≤ n) : (chnL t n).getD j [] = chn j t := by
  simp [chnL, List.getD, show j < n + 1 by omega]
theorem endsP_succ (s : List UInt8) (i k : Nat) : endsP s i (k + 1) = endsP s i k ++ [chn 15 (start s i k)] := endsP_step s i k
theorem pairsT_len : ∀ l : List (List UInt8), (pairsT l).length = l.length / 2
  | [] => rfl
  | [_] => by simp [pairsT]
  | a :: b :: l => by
    simp only [pairsT, List.length_cons, pairsT_len l]
    omega
theorem pairsT_get : ∀ (l : List (List UInt8)) (i : Nat), 2 * i + 1 < l.length → (pairsT l).getD i [] = nodT (l.getD (2 * i) []) (l.getD (2 * i + 1) [])
  | [], i, h => by simp at h
  | [_], i, h => by simp at h
  | a :: b :: l, 0, _ => rfl
  | a :: b :: l, i + 1, h => by
    have := pairsT_get l i (by simp only [List.length_cons] at h; omega)
    rw [show 2 * (i + 1) = 2 * i + 1 + 1 by omega]
    simp only [pairsT, List.getD_cons_succ]
    exact this
theorem pairsT_take {l : List (List UInt8)} {j : Nat} (h : 2 * j + 1 < l.length) : (pairsT l).take (j + 1) = (pairsT l).take j ++ [nodT (l.getD (2 * j) []) (l.getD (2 * j + 1) [])] := by
  have h1 := pairsT_get l j h
  have h2 := pairsT_len l
  rw [List.take_succ_eq_append_getElem (by omega), ← h1]
  simp [List.getD, show j < (pairsT l).length by omega]
theorem flat_len {f : Nat → List (List UInt8)} {c : Nat} (h : ∀ i, (f i).length = c) : ∀ n, ((List.range n).map f).flatten.length = n * c
  | 0 => by simp
  | n + 1 => by
    rw [List.range_succ, List.map_append, List.flatten_append, List.length_append, flat_len h n, Nat.succ_mul]
    simp [h]
theorem madeK_len (s : List UInt8) (i n k : Nat) : (madeK s i n k).length = n + 2 := by simp [madeK, chnL_len]
theorem madeI_len (s : List UInt8) (n i : Nat) : (madeI s n i).length = 18 * (n + 2) + 1 := by
  unfold madeI
  rw [List.length_append, flat_len (madeK_len s i n)]
  simp
theorem outNK_bnd {s : List UInt8} {n i k : Nat} (hn : n ≤ 30) (hi : i ≤ 4) (hk : k ≤ 18) : (outNK s n i k).length ≤ 3000 := by
  unfold outNK outN
  rw [List.length_append, flat_len (madeI_len s n), flat_len (madeK_len s i n)]
  have h1 : i * (18 * (n + 2) + 1) ≤ 4 * 577 := Nat.mul_le_mul hi (by omega)
  have h2 : k * (n + 2) ≤ 18 * 32 := Nat.mul_le_mul hk (by omega)
  omega
theorem rnL_strs (β τ : Nat → Option Nat) : ∀ l : List (List UInt8), D.rnL β τ (l.map D.str) = l.map D.str
  | [] => rfl
  | a :: l => by simp only [List.map_cons, D.rnL, D.rn, rnL_strs β τ l]
set_option maxHeartbeats 4000000 in
theorem made_e (s : List UInt8) (h n : Nat) (hs : s.length ≤ 300) (hh : h ≤ 2) (hn : 15 ≤ n) (hn2 : n ≤ 30) :
    Eff M 23 [.str s, .int .i64 (h : Nat), .int .i64 (n : Nat)] ⟨[], []⟩ fun d hp => d = .slice (strs (made s h n)) (.tok 0) ∧ hp = ⟨[], [.per 1 (made s h n).length]⟩ := by
  refine oe23 0 0 rfl rfl rfl ?_
  rw [ie23]
  unfold c23
  have c0 := power_p h (by omega)
  have hN : 2 ^ h ≤ 2 ^ 2 := Nat.pow_le_pow_right (by omega) (by omega)
  have h4 : (2 : Nat) ^ 2 = 4 := by decide
  have hmade : made s h n = outN s n (2 ^ h) ++ nodesL (keys s (2 ^ h)) := rfl
  rw [h4] at hN
  generalize hN2 : 2 ^ h = N at *
  repeat' (first
    | with_reducible apply swp_seq
    | with_reducible apply swp_reg
    | with_reducible apply swp_regD
    | with_reducible apply swp_block
    | with_reducible apply swp_exit
    | with_reducible apply swp_ret
    | with_reducible apply swp_skip
    | with_reducible apply swp_cd
    | simp only [go_sem, seval, pe23, q23]
    | simp (disch := omega) only [w64, w32, wu8, wu16, wu32, wu64]
    | ((with_reducible apply s_appT); (case he => rfl); (case hK | hc | hr | hV => first | rfl | assumption | omega | (simp only [List.length_cons, List.length_nil, List.length_append, List.length_map, List.length_replicate, List.length_take, List.length_drop] <;> omega) | (constructor <;> first | omega | (simp only [List.length_cons, List.length_nil, List.length_append, List.length_map, List.length_replicate, List.length_take, List.length_drop] <;> omega)) | (simp [elemsK, D.isVal, D.cells, D.closedL, D.closed]; first | done | omega)))
    | ((with_reducible apply s_appG); (case he => rfl); (case hV | hK | hr | hl => first | rfl | assumption | omega | (simp only [List.length_cons, List.length_nil, List.length_append, List.length_map, List.length_replicate, List.length_take, List.length_drop] <;> omega) | (constructor <;> first | omega | (simp only [List.length_cons, List.length_nil, List.length_append, List.length_map, List.length_replicate, List.length_take, List.length_drop] <;> omega)) | (simp [elemsK, D.isVal, D.cells, D.closedL, D.closed]; first | done | omega)))
    | ((with_reducible apply s_app0); (case he => rfl); (case hK | hc | hr => first | rfl | assumption | omega | (simp only [List.length_cons, List.length_nil, List.length_append, List.length_map, List.length_replicate, List.length_take, List.length_drop] <;> omega) | (constructor <;> first | omega | (simp only [List.length_cons, List.length_nil, List.length_append, List.length_map, List.length_replicate, List.length_take, List.length_drop] <;> omega)) | (simp [elemsK, D.isVal, D.cells, D.closedL, D.closed]; first | done | omega)))
    | ((with_reducible apply s_appF); (case he => rfl); (case hK | hc | hr | hx | hn => first | rfl | assumption | omega | (simp only [List.length_cons, List.length_nil, List.length_append, List.length_map, List.length_replicate, List.length_take, List.length_drop] <;> omega) | (constructor <;> first | omega | (simp only [List.length_cons, List.length_nil, List.length_append, List.length_map, List.length_replicate, List.length_take, List.length_drop] <;> omega)) | (simp [elemsK, D.isVal, D.cells, D.closedL, D.closed]; first | done | omega)))
    | ((first | with_reducible apply s_bsl | with_reducible apply t_bsl); (case he | hl | hc => first | rfl | assumption | omega | (simp only [List.length_cons, List.length_nil, List.length_append, List.length_map, List.length_replicate, List.length_take, List.length_drop] <;> omega) | (constructor <;> first | omega | (simp only [List.length_cons, List.length_nil, List.length_append, List.length_map, List.length_replicate, List.length_take, List.length_drop] <;> omega)) | (simp [elemsK, D.isVal, D.cells, D.closedL, D.closed]; first | done | omega)))
    | with_reducible apply cd_dec
    | with_reducible apply cd_eq
    | with_reducible apply cd_ne
    | with_reducible apply cd_split
    | ((with_reducible refine And.intro ?hw ?_); (case hw => first | omega | rfl | exact ⟨_, _, rfl⟩ | assumption | (simp only [List.length_cons, List.length_nil, List.length_append, List.length_map, List.length_replicate, List.length_take, List.length_drop] <;> omega)))
    | with_reducible intro _)
  refine swp_weak (weak_new 4 1 (by decide) false rfl) ?_
  refine swp_weak (weak_new 5 1 (by decide) false rfl) ?_
  refine swp_famG [0, 1, 2, 4, 5, 6] 0 2 (by decide) (by decide) (fun i : Nat => ⟨[.str s, .int .i64 (h : Nat), .int .i64 (n : Nat), .undef, .slice (strs (outN s n i)) (.tok 0), .slice (strs (keys s i)) (.tok 1), .int .i64 (i : Nat), .undef, .undef, .undef, .undef, .undef, .undef, .undef, .undef, .undef, .undef, .undef], [], ⟨[], [.per 1 (outN s n i).length, .per 1 i]⟩⟩)
    (fun i => i ≤ N) (fun i => N - i) 0 (by omega) ?_ ?_
  · simp [keepE, St.keep, St.keepG, St.gc, Hp.cut, D.rnL, D.rn, cutF, Own.rn, Blk.rn, Blk.rnL, Tv.rn, Tv.rnL, outN, keys]
  intro i hi
  have hkl := keys_len s i
  by_cases hlt : i < N
  · repeat' (first
    | with_reducible apply swp_seq
    | with_reducible apply swp_reg
    | with_reducible apply swp_regD
    | with_reducible apply swp_block
    | with_reducible apply swp_exit
    | with_reducible apply swp_ret
    | with_reducible apply swp_skip
    | with_reducible apply swp_cd
    | simp only [go_sem, seval, pe23, q23]
    | simp (disch := omega) only [w64, w32, wu8, wu16, wu32, wu64]
    | ((first | with_reducible refine o_call (c0) ?he ?hc ?_ | with_reducible refine p_call (c0) ?he ?hc ?_ | with_reducible refine c_call (c0) ?he ?hc ?_); (case he | hc => first | rfl | (simp [D.erL, D.er, D.closedL, D.closed]; done)))
    | ((with_reducible apply s_appT); (case he => rfl); (case hK | hc | hr | hV => first | rfl | assumption | omega | (simp only [List.length_cons, List.length_nil, List.length_append, List.length_map, List.length_replicate, List.length_take, List.length_drop] <;> omega) | (constructor <;> first | omega | (simp only [List.length_cons, List.length_nil, List.length_append, List.length_map, List.length_replicate, List.length_take, List.length_drop] <;> omega)) | (simp [elemsK, D.isVal, D.cells, D.closedL, D.closed]; first | done | omega)))
    | ((with_reducible apply s_appG); (case he => rfl); (case hV | hK | hr | hl => first | rfl | assumption | omega | (simp only [List.length_cons, List.length_nil, List.length_append, List.length_map, List.length_replicate, List.length_take, List.length_drop] <;> omega) | (constructor <;> first | omega | (simp only [List.length_cons, List.length_nil, List.length_append, List.length_map, List.length_replicate, List.length_take, List.length_drop] <;> omega)) | (simp [elemsK, D.isVal, D.cells, D.closedL, D.closed]; first | done | omega)))
    | ((with_reducible apply s_app0); (case he => rfl); (case hK | hc | hr => first | rfl | assumption | omega | (simp only [List.length_cons, List.length_nil, List.length_append, List.length_map, List.length_replicate, List.length_take, List.length_drop] <;> omega) | (constructor <;> first | omega | (simp only [List.length_cons, List.length_nil, List.length_append, List.length_map, List.length_replicate, List.length_take, List.length_drop] <;> omega)) | (simp [elemsK, D.isVal, D.cells, D.closedL, D.closed]; first | done | omega)))
    | ((with_reducible apply s_appF); (case he => rfl); (case hK | hc | hr | hx | hn => first | rfl | assumption | omega | (simp only [List.length_cons, List.length_nil, List.length_append, List.length_map, List.length_replicate, List.length_take, List.length_drop] <;> omega) | (constructor <;> first | omega | (simp only [List.length_cons, List.length_nil, List.length_append, List.length_map, List.length_replicate, List.length_take, List.length_drop] <;> omega)) | (simp [elemsK, D.isVal, D.cells, D.closedL, D.closed]; first | done | omega)))
    | ((first | with_reducible apply s_bsl | with_reducible apply t_bsl); (case he | hl | hc => first | rfl | assumption | omega | (simp only [List.length_cons, List.length_nil, List.length_append, List.length_map, List.length_replicate, List.length_take, List.length_drop] <;> omega) | (constructor <;> first | omega | (simp only [List.length_cons, List.length_nil, List.length_append, List.length_map, List.length_replicate, List.length_take, List.length_drop] <;> omega)) | (simp [elemsK, D.isVal, D.cells, D.closedL, D.closed]; first | done | omega)))
    | with_reducible apply cd_dec
    | with_reducible apply cd_eq
    | with_reducible apply cd_ne
    | with_reducible apply cd_split
    | ((with_reducible refine And.intro ?hw ?_); (case hw => first | omega | rfl | exact ⟨_, _, rfl⟩ | assumption | (simp only [List.length_cons, List.length_nil, List.length_append, List.length_map, List.length_replicate, List.length_take, List.length_drop] <;> omega)))
    | with_reducible intro _)
    all_goals try omega
    refine swp_weak (weak_new 7 1 (by decide) false rfl) ?_
    refine swp_fam [0, 1, 2, 4, 5, 6, 7, 8] (fun k : Nat => ⟨[.str s, .int .i64 (h : Nat), .int .i64 (n : Nat), .undef, .slice (strs (outNK s n i k)) (.tok 0), .slice (strs (keys s i)) (.tok 1), .int .i64 (i : Nat), .slice (strs (endsP s i k)) (.tok 2), .int .i64 (k : Nat), .undef, .undef, .undef, .undef, .undef, .undef, .undef, .undef, .undef], [], ⟨[], [.per 1 (outNK s n i k).length, .per 1 i, .per 1 k]⟩⟩)
      (fun k => k ≤ 18) (fun k => 18 - k) 0 (by omega) ?_ ?_
    · simp [keepE, St.keep, outNK_zero, endsP]
    intro k hk
    have hel := endsP_len s i k
    by_cases hlt2 : k < 18
    · have c1 := rdec_p i (by omega)
      have c2 := rdec_p k (by omega)
      have hokl := okL_start (s := s) (i := i) (k := k) hs (by omega) (by omega)
      have c3 := joined_p [s, Lib.itoa (i : Int), Lib.itoa (k : Int)] hokl
      have ej : joined [s, Lib.itoa (i : Int), Lib.itoa (k : Int)] = startT s i k := rfl
      have hjl := joined_len hokl
      rw [ej] at c3 hjl
      have c4 := rsum_p (startT s i k) (by omega)
      have es : sumN (startT s i k) = start s i k := rfl
      rw [es] at c4
      have c5 := chained_p (start s i k) n (by rw [start_len]; omega) (by omega)
      have hcl := chnL_len (start s i k) n
      have hcg : (strs (chnL (start s i k) n)).getD 15 .undef = .str (chn 15 (start s i k)) := by
        rw [strs_get (by omega), chnL_get (by omega)]
      have hcs := strs_len (chnL (start s i k) n)
      have kel := elems_strs (chnL (start s i k) n)
      have kcl := closed_strs (chnL (start s i k) n)
      have ker := erL_strs (chnL (start s i k) n)
      have ho := outNK_succ s n i k
      have he := endsP_succ s i k
      have t1 : (15 : Int).toNat = 15 := rfl
      have hos := strs_len (outNK s n i k)
      have hob := outNK_bnd (s := s) (n := n) (i := i) (k := k) hn2 (by omega) hk
      have hes := strs_len (endsP s i k)
      generalize chn 15 (start s i k) = z at *
      generalize hCL : chnL (start s i k) n = CL at *
      generalize start s i k = st at *
      generalize startT s i k = stT at *
      generalize hO : outNK s n i k = O at *
      generalize hE : endsP s i k = E at *
      generalize Lib.itoa (i : Int) = si at *
      generalize Lib.itoa (k : Int) = sk at *
      generalize hSC : strs CL = SC at *
      repeat' (first
    | with_reducible apply swp_seq
    | with_reducible apply swp_reg
    | with_reducible apply swp_regD
    | with_reducible apply swp_block
    | with_reducible apply swp_exit
    | with_reducible apply swp_ret
    | with_reducible apply swp_skip
    | with_reducible apply swp_cd
    | simp only [go_sem, seval, pe23, q23, t1, hcg, ker]
    | simp (disch := omega) only [w64, w32, wu8, wu16, wu32, wu64]
    | ((first | with_reducible refine o_call (c1) ?he ?hc ?_ | with_reducible refine p_call (c1) ?he ?hc ?_ | with_reducible refine c_call (c1) ?he ?hc ?_); (case he | hc => first | rfl | (simp [D.erL, D.er, D.closedL, D.closed, hcs, hcl, hos, hes, hel, kel, kcl, ker]; done)))
    | ((first | with_reducible refine o_call (c2) ?he ?hc ?_ | with_reducible refine p_call (c2) ?he ?hc ?_ | with_reducible refine c_call (c2) ?he ?hc ?_); (case he | hc => first | rfl | (simp [D.erL, D.er, D.closedL, D.closed, hcs, hcl, hos, hes, hel, kel, kcl, ker]; done)))
    | ((first | with_reducible refine o_call (c3) ?he ?hc ?_ | with_reducible refine p_call (c3) ?he ?hc ?_ | with_reducible refine c_call (c3) ?he ?hc ?_); (case he | hc => first | rfl | (simp [D.erL, D.er, D.closedL, D.closed, hcs, hcl, hos, hes, hel, kel, kcl, ker]; done)))
    | ((first | with_reducible refine o_call (c4) ?he ?hc ?_ | with_reducible refine p_call (c4) ?he ?hc ?_ | with_reducible refine c_call (c4) ?he ?hc ?_); (case he | hc => first | rfl | (simp [D.erL, D.er, D.closedL, D.closed, hcs, hcl, hos, hes, hel, kel, kcl, ker]; done)))
    | ((first | with_reducible refine o_call (c5) ?he ?hc ?_ | with_reducible refine p_call (c5) ?he ?hc ?_ | with_reducible refine c_call (c5) ?he ?hc ?_); (case he | hc => first | rfl | (simp [D.erL, D.er, D.closedL, D.closed, hcs, hcl, hos, hes, hel, kel, kcl, ker]; done)))
    | ((with_reducible apply s_appT); (case he => rfl); (case hK | hc | hr | hV => first | rfl | assumption | omega | (simp only [List.length_cons, List.length_nil, List.length_append, List.length_map, List.length_replicate, List.length_take, List.length_drop, hcs, hcl, hos, hes, hel, kel, kcl, ker] <;> omega) | (constructor <;> first | omega | (simp only [List.length_cons, List.length_nil, List.length_append, List.length_map, List.length_replicate, List.length_take, List.length_drop, hcs, hcl, hos, hes, hel, kel, kcl, ker] <;> omega)) | (simp [elemsK, D.isVal, D.cells, D.closedL, D.closed, hcs, hcl, hos, hes, hel, kel, kcl, ker]; first | done | omega)))
    | ((with_reducible apply s_appG); (case he => rfl); (case hV | hK | hr | hl => first | rfl | assumption | omega | (simp only [List.length_cons, List.length_nil, List.length_append, List.length_map, List.length_replicate, List.length_take, List.length_drop, hcs, hcl, hos, hes, hel, kel, kcl, ker] <;> omega) | (constructor <;> first | omega | (simp only [List.length_cons, List.length_nil, List.length_append, List.length_map, List.length_replicate, List.length_take, List.length_drop, hcs, hcl, hos, hes, hel, kel, kcl, ker] <;> omega)) | (simp [elemsK, D.isVal, D.cells, D.closedL, D.closed, hcs, hcl, hos, hes, hel, kel, kcl, ker]; first | done | omega)))
    | ((with_reducible apply s_app0); (case he => rfl); (case hK | hc | hr => first | rfl | assumption | omega | (simp only [List.length_cons, List.length_nil, List.length_append, List.length_map, List.length_replicate, List.length_take, List.length_drop, hcs, hcl, hos, hes, hel, kel, kcl, ker] <;> omega) | (constructor <;> first | omega | (simp only [List.length_cons, List.length_nil, List.length_append, List.length_map, List.length_replicate, List.length_take, List.length_drop, hcs, hcl, hos, hes, hel, kel, kcl, ker] <;> omega)) | (simp [elemsK, D.isVal, D.cells, D.closedL, D.closed, hcs, hcl, hos, hes, hel, kel, kcl, ker]; first | done | omega)))
    | ((with_reducible apply s_appF); (case he => rfl); (case hK | hc | hr | hx | hn => first | rfl | assumption | omega | (simp only [List.length_cons, List.length_nil, List.length_append, List.length_map, List.length_replicate, List.length_take, List.length_drop, hcs, hcl, hos, hes, hel, kel, kcl, ker] <;> omega) | (constructor <;> first | omega | (simp only [List.length_cons, List.length_nil, List.length_append, List.length_map, List.length_replicate, List.length_take, List.length_drop, hcs, hcl, hos, hes, hel, kel, kcl, ker] <;> omega)) | (simp [elemsK, D.isVal, D.cells, D.closedL, D.closed, hcs, hcl, hos, hes, hel, kel, kcl, ker]; first | done | omega)))
    | ((first | with_reducible apply s_bsl | with_reducible apply t_bsl); (case he | hl | hc => first | rfl | assumption | omega | (simp only [List.length_cons, List.length_nil, List.length_append, List.length_map, List.length_replicate, List.length_take, List.length_drop, hcs, hcl, hos, hes, hel, kel, kcl, ker] <;> omega) | (constructor <;> first | omega | (simp only [List.length_cons, List.length_nil, List.length_append, List.length_map, List.length_replicate, List.length_take, List.length_drop, hcs, hcl, hos, hes, hel, kel, kcl, ker] <;> omega)) | (simp [elemsK, D.isVal, D.cells, D.closedL, D.closed, hcs, hcl, hos, hes, hel, kel, kcl, ker]; first | done | omega)))
    | with_reducible apply cd_dec
    | with_reducible apply cd_eq
    | with_reducible apply cd_ne
    | with_reducible apply cd_split
    | ((with_reducible refine And.intro ?hw ?_); (case hw => first | omega | rfl | exact ⟨_, _, rfl⟩ | assumption | (simp only [List.length_cons, List.length_nil, List.length_append, List.length_map, List.length_replicate, List.length_take, List.length_drop, hcs, hcl, hos, hes, hel, kel, kcl, ker] <;> omega)))
    | with_reducible intro _)
      all_goals try omega
      refine ⟨k + 1, by omega, by omega, ?_⟩
      rw [ho, he]
      simp [keepE, St.keep, ← hSC, hcs, hcl, hel]
      try omega
    · have e : k = 18 := by omega
      subst e
      have c1 := joined_p (endsP s i 18) (okL_ends s i)
      have hjl := joined_len (okL_ends s i)
      have e1 : joined (endsP s i 18) = keyT s i := rfl
      have e1' : joined (ends s i) = keyT s i := rfl
      rw [e1] at c1
      rw [e1'] at hjl
      have c2 := rsum_p (keyT s i) (by omega)
      have e2 : sumN (keyT s i) = key s i := rfl
      rw [e2] at c2
      have ho := outN_succ s n i
      have hks := keys_step s i
      have hos := strs_len (outNK s n i 18)
      have hob := outNK_bnd (s := s) (n := n) (i := i) (k := 18) hn2 (by omega) (by omega)
      have hes := strs_len (keys s i)
      have kel := erL_strs (endsP s i 18)
      have kcl := closed_strs (endsP s i 18)
      generalize hE : endsP s i 18 = E at *
      generalize hO : outNK s n i 18 = O at *
      generalize key s i = z at *
      generalize keyT s i = zt at *
      generalize hK : keys s i = K at *
      repeat' (first
    | with_reducible apply swp_seq
    | with_reducible apply swp_reg
    | with_reducible apply swp_regD
    | with_reducible apply swp_block
    | with_reducible apply swp_exit
    | with_reducible apply swp_ret
    | with_reducible apply swp_skip
    | with_reducible apply swp_cd
    | simp only [go_sem, seval, pe23, q23]
    | simp (disch := omega) only [w64, w32, wu8, wu16, wu32, wu64]
    | ((first | with_reducible refine o_call (c1) ?he ?hc ?_ | with_reducible refine p_call (c1) ?he ?hc ?_ | with_reducible refine c_call (c1) ?he ?hc ?_); (case he | hc => first | rfl | (simp [D.erL, D.er, D.closedL, D.closed, hos, hes, kel, kcl, hkl]; done)))
    | ((first | with_reducible refine o_call (c2) ?he ?hc ?_ | with_reducible refine p_call (c2) ?he ?hc ?_ | with_reducible refine c_call (c2) ?he ?hc ?_); (case he | hc => first | rfl | (simp [D.erL, D.er, D.closedL, D.closed, hos, hes, kel, kcl, hkl]; done)))
    | ((with_reducible apply s_appT); (case he => rfl); (case hK | hc | hr | hV => first | rfl | assumption | omega | (simp only [List.length_cons, List.length_nil, List.length_append, List.length_map, List.length_replicate, List.length_take, List.length_drop, hos, hes, kel, kcl, hkl] <;> omega) | (constructor <;> first | omega | (simp only [List.length_cons, List.length_nil, List.length_append, List.length_map, List.length_replicate, List.length_take, List.length_drop, hos, hes, kel, kcl, hkl] <;> omega)) | (simp [elemsK, D.isVal, D.cells, D.closedL, D.closed, hos, hes, kel, kcl, hkl]; first | done | omega)))
    | ((with_reducible apply s_appG); (case he => rfl); (case hV | hK | hr | hl => first | rfl | assumption | omega | (simp only [List.length_cons, List.length_nil, List.length_append, List.length_map, List.length_replicate, List.length_take, List.length_drop, hos, hes, kel, kcl, hkl] <;> omega) | (constructor <;> first | omega | (simp only [List.length_cons, List.length_nil, List.length_append, List.length_map, List.length_replicate, List.length_take, List.length_drop, hos, hes, kel, kcl, hkl] <;> omega)) | (simp [elemsK, D.isVal, D.cells, D.closedL, D.closed, hos, hes, kel, kcl, hkl]; first | done | omega)))
    | ((with_reducible apply s_app0); (case he => rfl); (case hK | hc | hr => first | rfl | assumption | omega | (simp only [List.length_cons, List.length_nil, List.length_append, List.length_map, List.length_replicate, List.length_take, List.length_drop, hos, hes, kel, kcl, hkl] <;> omega) | (constructor <;> first | omega | (simp only [List.length_cons, List.length_nil, List.length_append, List.length_map, List.length_replicate, List.length_take, List.length_drop, hos, hes, kel, kcl, hkl] <;> omega)) | (simp [elemsK, D.isVal, D.cells, D.closedL, D.closed, hos, hes, kel, kcl, hkl]; first | done | omega)))
    | ((with_reducible apply s_appF); (case he => rfl); (case hK | hc | hr | hx | hn => first | rfl | assumption | omega | (simp only [List.length_cons, List.length_nil, List.length_append, List.length_map, List.length_replicate, List.length_take, List.length_drop, hos, hes, kel, kcl, hkl] <;> omega) | (constructor <;> first | omega | (simp only [List.length_cons, List.length_nil, List.length_append, List.length_map, List.length_replicate, List.length_take, List.length_drop, hos, hes, kel, kcl, hkl] <;> omega)) | (simp [elemsK, D.isVal, D.cells, D.closedL, D.closed, hos, hes, kel, kcl, hkl]; first | done | omega)))
    | ((first | with_reducible apply s_bsl | with_reducible apply t_bsl); (case he | hl | hc => first | rfl | assumption | omega | (simp only [List.length_cons, List.length_nil, List.length_append, List.length_map, List.length_replicate, List.length_take, List.length_drop, hos, hes, kel, kcl, hkl] <;> omega) | (constructor <;> first | omega | (simp only [List.length_cons, List.length_nil, List.length_append, List.length_map, List.length_replicate, List.length_take, List.length_drop, hos, hes, kel, kcl, hkl] <;> omega)) | (simp [elemsK, D.isVal, D.cells, D.closedL, D.closed, hos, hes, kel, kcl, hkl]; first | done | omega)))
    | with_reducible apply cd_dec
    | with_reducible apply cd_eq
    | with_reducible apply cd_ne
    | with_reducible apply cd_split
    | ((with_reducible refine And.intro ?hw ?_); (case hw => first | omega | rfl | exact ⟨_, _, rfl⟩ | assumption | (simp only [List.length_cons, List.length_nil, List.length_append, List.length_map, List.length_replicate, List.length_take, List.length_drop, hos, hes, kel, kcl, hkl] <;> omega)))
    | with_reducible intro _)
      all_goals try omega
      refine ⟨i + 1, by omega, by omega, ?_⟩
      rw [ho, hks]
      simp [keepE, St.keep, St.keepG, St.gc, Hp.cut, D.rnL, D.rn, cutF, Own.rn, Blk.rn, Blk.rnL, Tv.rn, Tv.rnL, hkl, rnL_strs]
      try omega
  have e : i = N := by omega
  subst e
  have hob0 := outNK_bnd (s := s) (n := n) (i := i) (k := 0) hn2 (by omega) (by omega)
  rw [outNK_zero] at hob0
  have hks := keys_small s i
  generalize hO : outN s n i = O at *
  generalize hK : keys s i = K at *
  repeat' (first
    | with_reducible apply swp_seq
    | with_reducible apply swp_reg
    | with_reducible apply swp_regD
    | with_reducible apply swp_block
    | with_reducible apply swp_exit
    | with_reducible apply swp_ret
    | with_reducible apply swp_skip
    | with_reducible apply swp_cd
    | simp only [go_sem, seval, pe23, q23]
    | simp (disch := omega) only [w64, w32, wu8, wu16, wu32, wu64]
    | ((first | with_reducible refine o_call (c0) ?he ?hc ?_ | with_reducible refine p_call (c0) ?he ?hc ?_ | with_reducible refine c_call (c0) ?he ?hc ?_); (case he | hc => first | rfl | (simp [D.erL, D.er, D.closedL, D.closed]; done)))
    | ((with_reducible apply s_appT); (case he => rfl); (case hK | hc | hr | hV => first | rfl | assumption | omega | (simp only [List.length_cons, List.length_nil, List.length_append, List.length_map, List.length_replicate, List.length_take, List.length_drop] <;> omega) | (constructor <;> first | omega | (simp only [List.length_cons, List.length_nil, List.length_append, List.length_map, List.length_replicate, List.length_take, List.length_drop] <;> omega)) | (simp [elemsK, D.isVal, D.cells, D.closedL, D.closed]; first | done | omega)))
    | ((with_reducible apply s_appG); (case he => rfl); (case hV | hK | hr | hl => first | rfl | assumption | omega | (simp only [List.length_cons, List.length_nil, List.length_append, List.length_map, List.length_replicate, List.length_take, List.length_drop] <;> omega) | (constructor <;> first | omega | (simp only [List.length_cons, List.length_nil, List.length_append, List.length_map, List.length_replicate, List.length_take, List.length_drop] <;> omega)) | (simp [elemsK, D.isVal, D.cells, D.closedL, D.closed]; first | done | omega)))
    | ((with_reducible apply s_app0); (case he => rfl); (case hK | hc | hr => first | rfl | assumption | omega | (simp only [List.length_cons, List.length_nil, List.length_append, List.length_map, List.length_replicate, List.length_take, List.length_drop] <;> omega) | (constructor <;> first | omega | (simp only [List.length_cons, List.length_nil, List.length_append, List.length_map, List.length_replicate, List.length_take, List.length_drop] <;> omega)) | (simp [elemsK, D.isVal, D.cells, D.closedL, D.closed]; first | done | omega)))
    | ((with_reducible apply s_appF); (case he => rfl); (case hK | hc | hr | hx | hn => first | rfl | assumption | omega | (simp only [List.length_cons, List.length_nil, List.length_append, List.length_map, List.length_replicate, List.length_take, List.length_drop] <;> omega) | (constructor <;> first | omega | (simp only [List.length_cons, List.length_nil, List.length_append, List.length_map, List.length_replicate, List.length_take, List.length_drop] <;> omega)) | (simp [elemsK, D.isVal, D.cells, D.closedL, D.closed]; first | done | omega)))
    | ((first | with_reducible apply s_bsl | with_reducible apply t_bsl); (case he | hl | hc => first | rfl | assumption | omega | (simp only [List.length_cons, List.length_nil, List.length_append, List.length_map, List.length_replicate, List.length_take, List.length_drop] <;> omega) | (constructor <;> first | omega | (simp only [List.length_cons, List.length_nil, List.length_append, List.length_map, List.length_replicate, List.length_take, List.length_drop] <;> omega)) | (simp [elemsK, D.isVal, D.cells, D.closedL, D.closed]; first | done | omega)))
    | with_reducible apply cd_dec
    | with_reducible apply cd_eq
    | with_reducible apply cd_ne
    | with_reducible apply cd_split
    | ((with_reducible refine And.intro ?hw ?_); (case hw => first | omega | rfl | exact ⟨_, _, rfl⟩ | assumption | (simp only [List.length_cons, List.length_nil, List.length_append, List.length_map, List.length_replicate, List.length_take, List.length_drop] <;> omega)))
    | with_reducible intro _)
  all_goals try omega
  refine swp_famG [0, 1, 2, 4, 5] 0 1 (by decide) (by decide) (fun p : Nat × List (List UInt8) × List (List UInt8) => ⟨[.str s, .int .i64 (h : Nat), .int .i64 (n : Nat), .undef, .slice (strs p.2.2) (.tok 0), .slice (strs p.2.1) .no, .undef, .undef, .undef, .undef, .undef, .undef, .undef, .undef, .undef, .undef, .undef, .undef], [], ⟨[], [.per 1 p.2.2.length]⟩⟩)
    (fun p => p.1 ≤ 2 ∧ p.2.1.length = 2 ^ p.1 ∧ (∀ x ∈ p.2.1, x.length ≤ 1000) ∧ p.2.2.length + p.2.1.length ≤ 3100 ∧ p.2.2 ++ nodesL p.2.1 = made s h n) (fun p => p.1) (h, K, O) ⟨hh, by simp only; omega, hks, by simp only; omega, hmade.symm⟩ ?_ ?_
  · simp [keepE, St.keep, St.keepG, St.gc, Hp.cut, D.rnL, D.rn, cutF, Own.rn, Blk.rn, Blk.rnL, Tv.rn, Tv.rnL, rnL_strs]
  rintro ⟨q, lev, out⟩ ⟨g0, g1, g2, g3, g4⟩
  simp only at g0 g1 g2 g3 g4 ⊢
  have hll := strs_len lev
  rcases q with _ | q
  · have hl1 : lev.length = 1 := by simpa using g1
    rw [nodesL_one (by omega), List.append_nil] at g4
    rw [← g4]
    repeat' (first
    | with_reducible apply swp_seq
    | with_reducible apply swp_reg
    | with_reducible apply swp_regD
    | with_reducible apply swp_block
    | with_reducible apply swp_exit
    | with_reducible apply swp_ret
    | with_reducible apply swp_skip
    | with_reducible apply swp_cd
    | simp only [go_sem, seval, pe23, q23]
    | simp (disch := omega) only [w64, w32, wu8, wu16, wu32, wu64]
    | ((with_reducible apply s_appT); (case he => rfl); (case hK | hc | hr | hV => first | rfl | assumption | omega | (simp only [List.length_cons, List.length_nil, List.length_append, List.length_map, List.length_replicate, List.length_take, List.length_drop, hll] <;> omega) | (constructor <;> first | omega | (simp only [List.length_cons, List.length_nil, List.length_append, List.length_map, List.length_replicate, List.length_take, List.length_drop, hll] <;> omega)) | (simp [elemsK, D.isVal, D.cells, D.closedL, D.closed, hll]; first | done | omega)))
    | ((with_reducible apply s_appG); (case he => rfl); (case hV | hK | hr | hl => first | rfl | assumption | omega | (simp only [List.length_cons, List.length_nil, List.length_append, List.length_map, List.length_replicate, List.length_take, List.length_drop, hll] <;> omega) | (constructor <;> first | omega | (simp only [List.length_cons, List.length_nil, List.length_append, List.length_map, List.length_replicate, List.length_take, List.length_drop, hll] <;> omega)) | (simp [elemsK, D.isVal, D.cells, D.closedL, D.closed, hll]; first | done | omega)))
    | ((with_reducible apply s_app0); (case he => rfl); (case hK | hc | hr => first | rfl | assumption | omega | (simp only [List.length_cons, List.length_nil, List.length_append, List.length_map, List.length_replicate, List.length_take, List.length_drop, hll] <;> omega) | (constructor <;> first | omega | (simp only [List.length_cons, List.length_nil, List.length_append, List.length_map, List.length_replicate, List.length_take, List.length_drop, hll] <;> omega)) | (simp [elemsK, D.isVal, D.cells, D.closedL, D.closed, hll]; first | done | omega)))
    | ((with_reducible apply s_appF); (case he => rfl); (case hK | hc | hr | hx | hn => first | rfl | assumption | omega | (simp only [List.length_cons, List.length_nil, List.length_append, List.length_map, List.length_replicate, List.length_take, List.length_drop, hll] <;> omega) | (constructor <;> first | omega | (simp only [List.length_cons, List.length_nil, List.length_append, List.length_map, List.length_replicate, List.length_take, List.length_drop, hll] <;> omega)) | (simp [elemsK, D.isVal, D.cells, D.closedL, D.closed, hll]; first | done | omega)))
    | ((first | with_reducible apply s_bsl | with_reducible apply t_bsl); (case he | hl | hc => first | rfl | assumption | omega | (simp only [List.length_cons, List.length_nil, List.length_append, List.length_map, List.length_replicate, List.length_take, List.length_drop, hll] <;> omega) | (constructor <;> first | omega | (simp only [List.length_cons, List.length_nil, List.length_append, List.length_map, List.length_replicate, List.length_take, List.length_drop, hll] <;> omega)) | (simp [elemsK, D.isVal, D.cells, D.closedL, D.closed, hll]; first | done | omega)))
    | with_reducible apply cd_dec
    | with_reducible apply cd_eq
    | with_reducible apply cd_ne
    | with_reducible apply cd_split
    | ((with_reducible refine And.intro ?hw ?_); (case hw => first | omega | rfl | exact ⟨_, _, rfl⟩ | assumption | (simp only [List.length_cons, List.length_nil, List.length_append, List.length_map, List.length_replicate, List.length_take, List.length_drop, hll] <;> omega)))
    | with_reducible intro _)
    all_goals try omega
    all_goals exact ⟨_, weak_refl, by simp [go_sem]⟩
  · have h2 : 2 ^ (q + 1) = 2 * 2 ^ q := by rw [Nat.pow_succ, Nat.mul_comm]
    have hp2 : 0 < 2 ^ q := Nat.pow_pos (by omega)
    have hul := up_len lev
    have hpl := pairsT_len lev
    repeat' (first
    | with_reducible apply swp_seq
    | with_reducible apply swp_reg
    | with_reducible apply swp_regD
    | with_reducible apply swp_block
    | with_reducible apply swp_exit
    | with_reducible apply swp_ret
    | with_reducible apply swp_skip
    | with_reducible apply swp_cd
    | simp only [go_sem, seval, pe23, q23]
    | simp (disch := omega) only [w64, w32, wu8, wu16, wu32, wu64]
    | ((with_reducible apply s_appT); (case he => rfl); (case hK | hc | hr | hV => first | rfl | assumption | omega | (simp only [List.length_cons, List.length_nil, List.length_append, List.length_map, List.length_replicate, List.length_take, List.length_drop, hll] <;> omega) | (constructor <;> first | omega | (simp only [List.length_cons, List.length_nil, List.length_append, List.length_map, List.length_replicate, List.length_take, List.length_drop, hll] <;> omega)) | (simp [elemsK, D.isVal, D.cells, D.closedL, D.closed, hll]; first | done | omega)))
    | ((with_reducible apply s_appG); (case he => rfl); (case hV | hK | hr | hl => first | rfl | assumption | omega | (simp only [List.length_cons, List.length_nil, List.length_append, List.length_map, List.length_replicate, List.length_take, List.length_drop, hll] <;> omega) | (constructor <;> first | omega | (simp only [List.length_cons, List.length_nil, List.length_append, List.length_map, List.length_replicate, List.length_take, List.length_drop, hll] <;> omega)) | (simp [elemsK, D.isVal, D.cells, D.closedL, D.closed, hll]; first | done | omega)))
    | ((with_reducible apply s_app0); (case he => rfl); (case hK | hc | hr => first | rfl | assumption | omega | (simp only [List.length_cons, List.length_nil, List.length_append, List.length_map, List.length_replicate, List.length_take, List.length_drop, hll] <;> omega) | (constructor <;> first | omega | (simp only [List.length_cons, List.length_nil, List.length_append, List.length_map, List.length_replicate, List.length_take, List.length_drop, hll] <;> omega)) | (simp [elemsK, D.isVal, D.cells, D.closedL, D.closed, hll]; first | done | omega)))
    | ((with_reducible apply s_appF); (case he => rfl); (case hK | hc | hr | hx | hn => first | rfl | assumption | omega | (simp only [List.length_cons, List.length_nil, List.length_append, List.length_map, List.length_replicate, List.length_take, List.length_drop, hll] <;> omega) | (constructor <;> first | omega | (simp only [List.length_cons, List.length_nil, List.length_append, List.length_map, List.length_replicate, List.length_take, List.length_drop, hll] <;> omega)) | (simp [elemsK, D.isVal, D.cells, D.closedL, D.closed, hll]; first | done | omega)))
    | ((first | with_reducible apply s_bsl | with_reducible apply t_bsl); (case he | hl | hc => first | rfl | assumption | omega | (simp only [List.length_cons, List.length_nil, List.length_append, List.length_map, List.length_replicate, List.length_take, List.length_drop, hll] <;> omega) | (constructor <;> first | omega | (simp only [List.length_cons, List.length_nil, List.length_append, List.length_map, List.length_replicate, List.length_take, List.length_drop, hll] <;> omega)) | (simp [elemsK, D.isVal, D.cells, D.closedL, D.closed, hll]; first | done | omega)))
    | with_reducible apply cd_dec
    | with_reducible apply cd_eq
    | with_reducible apply cd_ne
    | with_reducible apply cd_split
    | ((with_reducible refine And.intro ?hw ?_); (case hw => first | omega | rfl | exact ⟨_, _, rfl⟩ | assumption | (simp only [List.length_cons, List.length_nil, List.length_append, List.length_map, List.length_replicate, List.length_take, List.length_drop, hll] <;> omega)))
    | with_reducible intro _)
    all_goals try omega
    refine swp_weak (weak_new 12 1 (by decide) false rfl) ?_
    refine swp_fam [0, 1, 2, 4, 5, 12, 13] (fun j : Nat => ⟨[.str s, .int .i64 (h : Nat), .int .i64 (n : Nat), .undef, .slice (strs (out ++ (pairsT lev).take j)) (.tok 0), .slice (strs lev) .no, .undef, .undef, .undef, .undef, .undef, .undef, .slice (strs ((up lev).take j)) (.tok 1), .int .i64 (2 * j : Nat), .undef, .undef, .undef, .undef], [], ⟨[], [.per 1 (out.length + j), .per 1 j]⟩⟩)
      (fun j => j ≤ lev.length / 2) (fun j => lev.length / 2 - j) 0 (by omega) ?_ ?_
    · simp [keepE, St.keep]
    intro j hj
    by_cases hlt : j < lev.length / 2
    · have c1 := jnode_p (lev.getD (2 * j) []) (lev.getD (2 * j + 1) []) (get_small g2) (get_small g2)
      have hok := okL_node (a := lev.getD (2 * j) []) (b := lev.getD (2 * j + 1) []) (get_small g2) (get_small g2)
      have hjl := joined_len hok
      have e1 : joined [wnode, lev.getD (2 * j) [], lev.getD (2 * j + 1) []] = nodT (lev.getD (2 * j) []) (lev.getD (2 * j + 1) []) := rfl
      rw [e1] at hjl
      have c2 := rsum_p (nodT (lev.getD (2 * j) []) (lev.getD (2 * j + 1) [])) (by omega)
      have e2 : sumN (nodT (lev.getD (2 * j) []) (lev.getD (2 * j + 1) [])) = nod (lev.getD (2 * j) []) (lev.getD (2 * j + 1) []) := rfl
      rw [e2] at c2
      have p1 := pairsT_take (l := lev) (j := j) (by omega)
      have p2 := up_take (l := lev) (j := j) (by omega)
      have hg1 := strs_get (l := lev) (i := 2 * j) (by omega)
      have hg2 := strs_get (l := lev) (i := 2 * j + 1) (by omega)
      have t1 : (((2 * j : Nat)) : Int).toNat = 2 * j := Int.toNat_natCast _
      have t2 : ((((2 * j : Nat)) : Int) + 1).toNat = 2 * j + 1 := by omega
      have hT1 : ((pairsT lev).take j).length = j := by rw [List.length_take]; omega
      have hT2 : ((up lev).take j).length = j := by rw [List.length_take]; omega
      generalize nod (lev.getD (2 * j) []) (lev.getD (2 * j + 1) []) = z at *
      generalize nodT (lev.getD (2 * j) []) (lev.getD (2 * j + 1) []) = zt at *
      generalize lev.getD (2 * j) [] = x at *
      generalize lev.getD (2 * j + 1) [] = y at *
      generalize (pairsT lev).take j = T1 at *
      generalize (up lev).take j = T2 at *
      have hO : (strs (out ++ T1)).length = out.length + j := by rw [strs_len, List.length_append, hT1]
      have hU := strs_len T2
      have s1 : strs (out ++ (T1 ++ [zt])) = strs (out ++ T1) ++ [.str zt] := by simp
      have s2 : strs (T2 ++ [z]) = strs T2 ++ [.str z] := by simp
      generalize hL : strs lev = L at *
      generalize hOO : strs (out ++ T1) = OO at *
      repeat' (first
    | with_reducible apply swp_seq
    | with_reducible apply swp_reg
    | with_reducible apply swp_regD
    | with_reducible apply swp_block
    | with_reducible apply swp_exit
    | with_reducible apply swp_ret
    | with_reducible apply swp_skip
    | with_reducible apply swp_cd
    | simp only [go_sem, seval, pe23, q23, t1, t2, hg1, hg2, hll]
    | simp (disch := omega) only [w64, w32, wu8, wu16, wu32, wu64]
    | ((first | with_reducible refine o_call (c1) ?he ?hc ?_ | with_reducible refine p_call (c1) ?he ?hc ?_ | with_reducible refine c_call (c1) ?he ?hc ?_); (case he | hc => first | rfl | (simp [D.erL, D.er, D.closedL, D.closed, hll, hO, hU, hT2]; done)))
    | ((first | with_reducible refine o_call (c2) ?he ?hc ?_ | with_reducible refine p_call (c2) ?he ?hc ?_ | with_reducible refine c_call (c2) ?he ?hc ?_); (case he | hc => first | rfl | (simp [D.erL, D.er, D.closedL, D.closed, hll, hO, hU, hT2]; done)))
    | ((with_reducible apply s_appT); (case he => rfl); (case hK | hc | hr | hV => first | rfl | assumption | omega | (simp only [List.length_cons, List.length_nil, List.length_append, List.length_map, List.length_replicate, List.length_take, List.length_drop, hll, hO, hU, hT2] <;> omega) | (constructor <;> first | omega | (simp only [List.length_cons, List.length_nil, List.length_append, List.length_map, List.length_replicate, List.length_take, List.length_drop, hll, hO, hU, hT2] <;> omega)) | (simp [elemsK, D.isVal, D.cells, D.closedL, D.closed, hll, hO, hU, hT2]; first | done | omega)))
    | ((with_reducible apply s_appG); (case he => rfl); (case hV | hK | hr | hl => first | rfl | assumption | omega | (simp only [List.length_cons, List.length_nil, List.length_append, List.length_map, List.length_replicate, List.length_take, List.length_drop, hll, hO, hU, hT2] <;> omega) | (constructor <;> first | omega | (simp only [List.length_cons, List.length_nil, List.length_append, List.length_map, List.length_replicate, List.length_take, List.length_drop, hll, hO, hU, hT2] <;> omega)) | (simp [elemsK, D.isVal, D.cells, D.closedL, D.closed, hll, hO, hU, hT2]; first | done | omega)))
    | ((with_reducible apply s_app0); (case he => rfl); (case hK | hc | hr => first | rfl | assumption | omega | (simp only [List.length_cons, List.length_nil, List.length_append, List.length_map, List.length_replicate, List.length_take, List.length_drop, hll, hO, hU, hT2] <;> omega) | (constructor <;> first | omega | (simp only [List.length_cons, List.length_nil, List.length_append, List.length_map, List.length_replicate, List.length_take, List.length_drop, hll, hO, hU, hT2] <;> omega)) | (simp [elemsK, D.isVal, D.cells, D.closedL, D.closed, hll, hO, hU, hT2]; first | done | omega)))
    | ((with_reducible apply s_appF); (case he => rfl); (case hK | hc | hr | hx | hn => first | rfl | assumption | omega | (simp only [List.length_cons, List.length_nil, List.length_append, List.length_map, List.length_replicate, List.length_take, List.length_drop, hll, hO, hU, hT2] <;> omega) | (constructor <;> first | omega | (simp only [List.length_cons, List.length_nil, List.length_append, List.length_map, List.length_replicate, List.length_take, List.length_drop, hll, hO, hU, hT2] <;> omega)) | (simp [elemsK, D.isVal, D.cells, D.closedL, D.closed, hll, hO, hU, hT2]; first | done | omega)))
    | ((first | with_reducible apply s_bsl | with_reducible apply t_bsl); (case he | hl | hc => first | rfl | assumption | omega | (simp only [List.length_cons, List.length_nil, List.length_append, List.length_map, List.length_replicate, List.length_take, List.length_drop, hll, hO, hU, hT2] <;> omega) | (constructor <;> first | omega | (simp only [List.length_cons, List.length_nil, List.length_append, List.length_map, List.length_replicate, List.length_take, List.length_drop, hll, hO, hU, hT2] <;> omega)) | (simp [elemsK, D.isVal, D.cells, D.closedL, D.closed, hll, hO, hU, hT2]; first | done | omega)))
    | with_reducible apply cd_dec
    | with_reducible apply cd_eq
    | with_reducible apply cd_ne
    | with_reducible apply cd_split
    | ((with_reducible refine And.intro ?hw ?_); (case hw => first | omega | rfl | exact ⟨_, _, rfl⟩ | assumption | (simp only [List.length_cons, List.length_nil, List.length_append, List.length_map, List.length_replicate, List.length_take, List.length_drop, hll, hO, hU, hT2] <;> omega)))
    | with_reducible intro _)
      all_goals try omega
      refine ⟨j + 1, by omega, by omega, ?_⟩
      rw [p1, p2, s1, s2]
      simp [keepE, St.keep, hT2, hL, hO]
      try omega
    · have e : j = lev.length / 2 := by omega
      subst e
      rw [List.take_of_length_le (by omega), List.take_of_length_le (by omega)]
      have hn' := nodesL_up (l := lev) (by omega)
      generalize hL : strs lev = L at *
      repeat' (first
    | with_reducible apply swp_seq
    | with_reducible apply swp_reg
    | with_reducible apply swp_regD
    | with_reducible apply swp_block
    | with_reducible apply swp_exit
    | with_reducible apply swp_ret
    | with_reducible apply swp_skip
    | with_reducible apply swp_cd
    | simp only [go_sem, seval, pe23, q23, hll]
    | simp (disch := omega) only [w64, w32, wu8, wu16, wu32, wu64]
    | ((with_reducible apply s_appT); (case he => rfl); (case hK | hc | hr | hV => first | rfl | assumption | omega | (simp only [List.length_cons, List.length_nil, List.length_append, List.length_map, List.length_replicate, List.length_take, List.length_drop, hll] <;> omega) | (constructor <;> first | omega | (simp only [List.length_cons, List.length_nil, List.length_append, List.length_map, List.length_replicate, List.length_take, List.length_drop, hll] <;> omega)) | (simp [elemsK, D.isVal, D.cells, D.closedL, D.closed, hll]; first | done | omega)))
    | ((with_reducible apply s_appG); (case he => rfl); (case hV | hK | hr | hl => first | rfl | assumption | omega | (simp only [List.length_cons, List.length_nil, List.length_append, List.length_map, List.length_replicate, List.length_take, List.length_drop, hll] <;> omega) | (constructor <;> first | omega | (simp only [List.length_cons, List.length_nil, List.length_append, List.length_map, List.length_replicate, List.length_take, List.length_drop, hll] <;> omega)) | (simp [elemsK, D.isVal, D.cells, D.closedL, D.closed, hll]; first | done | omega)))
    | ((with_reducible apply s_app0); (case he => rfl); (case hK | hc | hr => first | rfl | assumption | omega | (simp only [List.length_cons, List.length_nil, List.length_append, List.length_map, List.length_replicate, List.length_take, List.length_drop, hll] <;> omega) | (constructor <;> first | omega | (simp only [List.length_cons, List.length_nil, List.length_append, List.length_map, List.length_replicate, List.length_take, List.length_drop, hll] <;> omega)) | (simp [elemsK, D.isVal, D.cells, D.closedL, D.closed, hll]; first | done | omega)))
    | ((with_reducible apply s_appF); (case he => rfl); (case hK | hc | hr | hx | hn => first | rfl | assumption | omega | (simp only [List.length_cons, List.length_nil, List.length_append, List.length_map, List.length_replicate, List.length_take, List.length_drop, hll] <;> omega) | (constructor <;> first | omega | (simp only [List.length_cons, List.length_nil, List.length_append, List.length_map, List.length_replicate, List.length_take, List.length_drop, hll] <;> omega)) | (simp [elemsK, D.isVal, D.cells, D.closedL, D.closed, hll]; first | done | omega)))
    | ((first | with_reducible apply s_bsl | with_reducible apply t_bsl); (case he | hl | hc => first | rfl | assumption | omega | (simp only [List.length_cons, List.length_nil, List.length_append, List.length_map, List.length_replicate, List.length_take, List.length_drop, hll] <;> omega) | (constructor <;> first | omega | (simp only [List.length_cons, List.length_nil, List.length_append, List.length_map, List.length_replicate, List.length_take, List.length_drop, hll] <;> omega)) | (simp [elemsK, D.isVal, D.cells, D.closedL, D.closed, hll]; first | done | omega)))
    | with_reducible apply cd_dec
    | with_reducible apply cd_eq
    | with_reducible apply cd_ne
    | with_reducible apply cd_split
    | ((with_reducible refine And.intro ?hw ?_); (case hw => first | omega | rfl | exact ⟨_, _, rfl⟩ | assumption | (simp only [List.length_cons, List.length_nil, List.length_append, List.length_map, List.length_replicate, List.length_take, List.length_drop, hll] <;> omega)))
    | with_reducible intro _)
      all_goals try omega
      refine ⟨(q, up lev, out ++ pairsT lev), ⟨by simp only; omega, by simp only; omega, up_small lev, by simp only [List.length_append]; omega, by simp only; rw [← g4, hn']; simp⟩, by simp only; omega, ?_⟩
      simp [keepE, St.keep, St.keepG, St.gc, Hp.cut, D.rnL, D.rn, cutF, Own.rn, Blk.rn, Blk.rnL, Tv.rn, Tv.rnL, rnL_strs, hpl]
end Go.Proofs.YtgjkhlnpplajjaaDoor
end
section
set_option maxRecDepth 100000
set_option linter.unusedSimpArgs false
set_option linter.unusedVariables false
namespace Go.Proofs.YtgjkhlnpplajjaaDoor
open Go GoV Go.RowKit
def chkP (m : List UInt8) (g : List (List UInt8)) (k : Nat) : List (List UInt8) := ((List.range k).map fun k => chnL (g.getD k []) (15 - (dgt m).getD k 0)).flatten
theorem chkP_succ (m : List UInt8) (g : List (List UInt8)) (k : Nat) : chkP m g (k + 1) = chkP m g k ++ chnL (g.getD k []) (15 - (dgt m).getD k 0) := by
  unfold chkP
  rw [List.range_succ, List.map_append, List.flatten_append]
  simp
theorem chkP_len (m : List UInt8) (g : List (List UInt8)) : ∀ k, (chkP m g k).length ≤ 16 * k
  | 0 => by simp [chkP]
  | k + 1 => by
    rw [chkP_succ, List.length_append, chnL_len]
    have := chkP_len m g k
    omega
theorem climbT_len : ∀ (p : List (List UInt8)) (a : List UInt8) (i : Nat), (climbT a p i).length = p.length
  | [], _, _ => rfl
  | x :: p, a, i => by simp only [climbT, List.length_cons, climbT_len p]
theorem climbT_take {p : List (List UInt8)} {k : Nat} (h : k < p.length) (a : List UInt8) (i : Nat) :
    climbT a (p.take (k + 1)) i = climbT a (p.take k) i ++ [if (i / 2 ^ k) % 2 == 1 then nodT (p.getD k []) (climb a (p.take k) i) else nodT (climb a (p.take k) i) (p.getD k [])] := by
  have htk : p.take (k + 1) = p.take k ++ [p.getD k []] := by
    rw [List.take_succ_eq_append_getElem h]; simp [List.getD, h]
  have htl : (p.take k).length = k := by rw [List.length_take]; omega
  rw [htk, climbT_snoc, htl]
set_option maxHeartbeats 4000000 in
theorem checked_p (m : List UInt8) (x : Seal) (hx : SmallS x) (hm : m.length ≤ 300) (q1 : x.sig.length = 18) (q2 : x.path.length ≤ 8) (j : Nat) (hj : x.idx = j) (hj2 : j < 1000000) :
    Pur M 24 [.str m, sealD x] (.slice (strs (checked m x)) .no) := by
  refine ok24 rfl ?_
  rw [i24]
  unfold c24 sealD
  have hsl := strs_len x.sig
  have hpl := strs_len x.path
  rw [q1] at hsl
  have c1 := rdgt_p m (by omega)
  have e7 : x.idx.toNat = j := by omega
  have hchk : checked m x = chkP m x.sig 18 ++ [joined (ends' m x.sig)] ++ climbT (sumN (joined (ends' m x.sig))) x.path j := by
    unfold checked; rw [e7]; rfl
  repeat' (first
    | with_reducible apply swp_seq
    | with_reducible apply swp_reg
    | with_reducible apply swp_regD
    | with_reducible apply swp_block
    | with_reducible apply swp_exit
    | with_reducible apply swp_ret
    | with_reducible apply swp_skip
    | with_reducible apply swp_cd
    | simp only [go_sem, seval, P24, q24, hsl]
    | simp (disch := omega) only [w64, w32, wu8, wu16, wu32, wu64]
    | ((with_reducible refine o_call (c1) ?he ?hc ?_); (case he | hc => first | rfl | (simp [D.erL, D.er, D.closedL, D.closed]; done)))
    | ((with_reducible apply s_appT); (case he => rfl); (case hK | hc | hr | hV => first | rfl | assumption | omega | (simp only [List.length_cons, List.length_nil, List.length_append, List.length_map, List.length_replicate, List.length_take, List.length_drop] <;> omega) | (constructor <;> first | omega | (simp only [List.length_cons, List.length_nil, List.length_append, List.length_map, List.length_replicate, List.length_take, List.length_drop] <;> omega)) | (simp [elemsK, D.isVal, D.cells, D.closedL, D.closed]; first | done | omega)))
    | ((with_reducible apply s_appG); (case he => rfl); (case hV | hK | hr | hl => first | rfl | assumption | omega | (simp only [List.length_cons, List.length_nil, List.length_append, List.length_map, List.length_replicate, List.length_take, List.length_drop] <;> omega) | (constructor <;> first | omega | (simp only [List.length_cons, List.length_nil, List.length_append, List.length_map, List.length_replicate, List.length_take, List.length_drop] <;> omega)) | (simp [elemsK, D.isVal, D.cells, D.closedL, D.closed]; first | done | omega)))
    | ((with_reducible apply s_app0); (case he => rfl); (case hK | hc | hr => first | rfl | assumption | omega | (simp only [List.length_cons, List.length_nil, List.length_append, List.length_map, List.length_replicate, List.length_take, List.length_drop] <;> omega) | (constructor <;> first | omega | (simp only [List.length_cons, List.length_nil, List.length_append, List.length_map, List.length_replicate, List.length_take, List.length_drop] <;> omega)) | (simp [elemsK, D.isVal, D.cells, D.closedL, D.closed]; first | done | omega)))
    | ((with_reducible apply s_appF); (case he => rfl); (case hK | hc | hr | hx | hn => first | rfl | assumption | omega | (simp only [List.length_cons, List.length_nil, List.length_append, List.length_map, List.length_replicate, List.length_take, List.length_drop] <;> omega) | (constructor <;> first | omega | (simp only [List.length_cons, List.length_nil, List.length_append, List.length_map, List.length_replicate, List.length_take, List.length_drop] <;> omega)) | (simp [elemsK, D.isVal, D.cells, D.closedL, D.closed]; first | done | omega)))
    | ((with_reducible apply s_bsl); (case he | hl | hc => first | rfl | assumption | omega | (simp only [List.length_cons, List.length_nil, List.length_append, List.length_map, List.length_replicate, List.length_take, List.length_drop] <;> omega) | (constructor <;> first | omega | (simp only [List.length_cons, List.length_nil, List.length_append, List.length_map, List.length_replicate, List.length_take, List.length_drop] <;> omega)) | (simp [elemsK, D.isVal, D.cells, D.closedL, D.closed]; first | done | omega)))
    | with_reducible apply cd_dec
    | with_reducible apply cd_eq
    | with_reducible apply cd_ne
    | with_reducible apply cd_split
    | with_reducible apply gd_dec
    | with_reducible apply gd_eq
    | with_reducible apply gd_ne
    | with_reducible apply gd_split
    | ((with_reducible refine And.intro ?hw ?_); (case hw => first | omega | rfl | exact ⟨_, _, rfl⟩ | assumption | (simp only [List.length_cons, List.length_nil, List.length_append, List.length_map, List.length_replicate, List.length_take, List.length_drop] <;> omega)))
    | with_reducible intro _)
  all_goals try omega
  refine swp_weak (weak_new 5 1 (by decide) false rfl) ?_
  refine swp_weak (weak_new 6 1 (by decide) false rfl) ?_
  refine swp_fam [0, 1, 2, 4, 5, 6, 7] (fun k : Nat => ⟨[.str m, sealD x, .ptr 0 0, .undef, .slice (ints (dgt m)) .no, .slice (strs (chkP m x.sig k)) (.tok 0), .slice (strs (endsV m x.sig k)) (.tok 1), .int .i64 (k : Nat), .undef, .undef, .undef, .undef, .undef, .undef, .undef, .undef, .undef], [],
      ⟨[.cells [.int .i64 x.idx, .slice (strs x.sig) .no, .slice (strs x.path) .no]], [.per 1 (chkP m x.sig k).length, .per 1 k]⟩⟩)
    (fun k => k ≤ 18) (fun k => 18 - k) 0 (by omega) ?_ ?_
  · simp [keepE, St.keep, chkP, endsV]
  intro k hk
  have hvl := endsV_len m x.sig k
  have hvs := strs_len (endsV m x.sig k)
  have hcs := strs_len (chkP m x.sig k)
  have hcb := chkP_len m x.sig k
  by_cases hlt : k < 18
  · have e1 : decide ((k : Int) < 18) = true := decide_eq_true (by omega)
    have hd := dgt_get m k
    have hdl := dgt_len m
    have hil := ints_len (dgt m)
    have hg := strs_get (l := x.sig) (i := k) (by omega)
    have hgi : (ints (dgt m)).getD k .undef = .int .i64 ((dgt m).getD k 0 : Nat) := ints_get (by omega)
    have hgl := get_small (i := k) hx.sx
    have c5 := chained_p (x.sig.getD k []) (15 - (dgt m).getD k 0) (by omega) (by omega)
    have hcl := chnL_len (x.sig.getD k []) (15 - (dgt m).getD k 0)
    have hcg : (strs (chnL (x.sig.getD k []) (15 - (dgt m).getD k 0))).getD (15 - (dgt m).getD k 0) .undef = .str (chn (15 - (dgt m).getD k 0) (x.sig.getD k [])) := by
      rw [strs_get (by omega), chnL_get (by omega)]
    have hls := strs_len (chnL (x.sig.getD k []) (15 - (dgt m).getD k 0))
    have kel := elems_strs (chnL (x.sig.getD k []) (15 - (dgt m).getD k 0))
    have kcl := closed_strs (chnL (x.sig.getD k []) (15 - (dgt m).getD k 0))
    have ker := erL_strs (chnL (x.sig.getD k []) (15 - (dgt m).getD k 0))
    have ho := chkP_succ m x.sig k
    have he := endsV_succ m x.sig k
    have t1 : ((k : Nat) : Int).toNat = k := Int.toNat_natCast k
    have t2 : (15 : Int) - (((dgt m).getD k 0 : Nat) : Int) = ((15 - (dgt m).getD k 0 : Nat) : Int) := by omega
    have t3 : ((15 - (dgt m).getD k 0 : Nat) : Int).toNat = 15 - (dgt m).getD k 0 := Int.toNat_natCast _
    generalize chn (15 - (dgt m).getD k 0) (x.sig.getD k []) = z at *
    generalize hCL : chnL (x.sig.getD k []) (15 - (dgt m).getD k 0) = CL at *
    generalize x.sig.getD k [] = g at *
    generalize hE : 15 - (dgt m).getD k 0 = e at *
    generalize (dgt m).getD k 0 = d at *
    generalize hDL : ints (dgt m) = DL at *
    generalize hO : chkP m x.sig k = O at *
    generalize hV : endsV m x.sig k = V at *
    generalize hSC : strs CL = SC at *
    generalize hS0 : strs x.sig = S at *
    generalize hP0 : strs x.path = P at *
    repeat' (first
    | with_reducible apply swp_seq
    | with_reducible apply swp_reg
    | with_reducible apply swp_regD
    | with_reducible apply swp_block
    | with_reducible apply swp_exit
    | with_reducible apply swp_ret
    | with_reducible apply swp_skip
    | with_reducible apply swp_cd
    | simp only [go_sem, seval, P24, q24, e1, t1, t2, t3, hg, hgi, hcg, ker, hsl, hil, hdl, hls, hcl]
    | simp (disch := omega) only [w64, w32, wu8, wu16, wu32, wu64]
    | ((with_reducible refine o_call (c5) ?he ?hc ?_); (case he | hc => first | rfl | (simp [D.erL, D.er, D.closedL, D.closed, hsl, hil, hdl, hls, hcl, hvl, hvs, hcs, kel, kcl, ker]; done)))
    | ((with_reducible apply s_appT); (case he => rfl); (case hK | hc | hr | hV => first | rfl | assumption | omega | (simp only [List.length_cons, List.length_nil, List.length_append, List.length_map, List.length_replicate, List.length_take, List.length_drop, hsl, hil, hdl, hls, hcl, hvl, hvs, hcs, kel, kcl, ker] <;> omega) | (constructor <;> first | omega | (simp only [List.length_cons, List.length_nil, List.length_append, List.length_map, List.length_replicate, List.length_take, List.length_drop, hsl, hil, hdl, hls, hcl, hvl, hvs, hcs, kel, kcl, ker] <;> omega)) | (simp [elemsK, D.isVal, D.cells, D.closedL, D.closed, hsl, hil, hdl, hls, hcl, hvl, hvs, hcs, kel, kcl, ker]; first | done | omega)))
    | ((with_reducible apply s_appG); (case he => rfl); (case hV | hK | hr | hl => first | rfl | assumption | omega | (simp only [List.length_cons, List.length_nil, List.length_append, List.length_map, List.length_replicate, List.length_take, List.length_drop, hsl, hil, hdl, hls, hcl, hvl, hvs, hcs, kel, kcl, ker] <;> omega) | (constructor <;> first | omega | (simp only [List.length_cons, List.length_nil, List.length_append, List.length_map, List.length_replicate, List.length_take, List.length_drop, hsl, hil, hdl, hls, hcl, hvl, hvs, hcs, kel, kcl, ker] <;> omega)) | (simp [elemsK, D.isVal, D.cells, D.closedL, D.closed, hsl, hil, hdl, hls, hcl, hvl, hvs, hcs, kel, kcl, ker]; first | done | omega)))
    | ((with_reducible apply s_app0); (case he => rfl); (case hK | hc | hr => first | rfl | assumption | omega | (simp only [List.length_cons, List.length_nil, List.length_append, List.length_map, List.length_replicate, List.length_take, List.length_drop, hsl, hil, hdl, hls, hcl, hvl, hvs, hcs, kel, kcl, ker] <;> omega) | (constructor <;> first | omega | (simp only [List.length_cons, List.length_nil, List.length_append, List.length_map, List.length_replicate, List.length_take, List.length_drop, hsl, hil, hdl, hls, hcl, hvl, hvs, hcs, kel, kcl, ker] <;> omega)) | (simp [elemsK, D.isVal, D.cells, D.closedL, D.closed, hsl, hil, hdl, hls, hcl, hvl, hvs, hcs, kel, kcl, ker]; first | done | omega)))
    | ((with_reducible apply s_appF); (case he => rfl); (case hK | hc | hr | hx | hn => first | rfl | assumption | omega | (simp only [List.length_cons, List.length_nil, List.length_append, List.length_map, List.length_replicate, List.length_take, List.length_drop, hsl, hil, hdl, hls, hcl, hvl, hvs, hcs, kel, kcl, ker] <;> omega) | (constructor <;> first | omega | (simp only [List.length_cons, List.length_nil, List.length_append, List.length_map, List.length_replicate, List.length_take, List.length_drop, hsl, hil, hdl, hls, hcl, hvl, hvs, hcs, kel, kcl, ker] <;> omega)) | (simp [elemsK, D.isVal, D.cells, D.closedL, D.closed, hsl, hil, hdl, hls, hcl, hvl, hvs, hcs, kel, kcl, ker]; first | done | omega)))
    | ((with_reducible apply s_bsl); (case he | hl | hc => first | rfl | assumption | omega | (simp only [List.length_cons, List.length_nil, List.length_append, List.length_map, List.length_replicate, List.length_take, List.length_drop, hsl, hil, hdl, hls, hcl, hvl, hvs, hcs, kel, kcl, ker] <;> omega) | (constructor <;> first | omega | (simp only [List.length_cons, List.length_nil, List.length_append, List.length_map, List.length_replicate, List.length_take, List.length_drop, hsl, hil, hdl, hls, hcl, hvl, hvs, hcs, kel, kcl, ker] <;> omega)) | (simp [elemsK, D.isVal, D.cells, D.closedL, D.closed, hsl, hil, hdl, hls, hcl, hvl, hvs, hcs, kel, kcl, ker]; first | done | omega)))
    | with_reducible apply cd_dec
    | with_reducible apply cd_eq
    | with_reducible apply cd_ne
    | with_reducible apply cd_split
    | with_reducible apply gd_dec
    | with_reducible apply gd_eq
    | with_reducible apply gd_ne
    | with_reducible apply gd_split
    | ((with_reducible refine And.intro ?hw ?_); (case hw => first | omega | rfl | exact ⟨_, _, rfl⟩ | assumption | (simp only [List.length_cons, List.length_nil, List.length_append, List.length_map, List.length_replicate, List.length_take, List.length_drop, hsl, hil, hdl, hls, hcl, hvl, hvs, hcs, kel, kcl, ker] <;> omega)))
    | with_reducible intro _)
    all_goals try omega
    refine ⟨k + 1, by omega, by omega, ?_⟩
    rw [ho, he]
    simp [keepE, St.keep, ← hSC, hls, hcl, hvl, hDL, hS0, hP0]
    try omega
  have e : k = 18 := by omega
  subst e
  have e1 : decide (((18 : Nat) : Int) < 18) = false := decide_eq_false (by omega)
  rw [endsV_all] at *
  have hok := okL_ends' (m := m) hx.sx
  have c2 := joined_p (ends' m x.sig) hok
  have hjl := joined_len hok
  have c3 := rsum_p (joined (ends' m x.sig)) (by omega)
  have ha := sumN_len (joined (ends' m x.sig))
  have heV := erL_strs (ends' m x.sig)
  have hcV := closed_strs (ends' m x.sig)
  generalize sumN (joined (ends' m x.sig)) = a at *
  generalize joined (ends' m x.sig) = kt at *
  generalize ends' m x.sig = V at *
  generalize hO : chkP m x.sig 18 = O at *
  repeat' (first
    | with_reducible apply swp_seq
    | with_reducible apply swp_reg
    | with_reducible apply swp_regD
    | with_reducible apply swp_block
    | with_reducible apply swp_exit
    | with_reducible apply swp_ret
    | with_reducible apply swp_skip
    | with_reducible apply swp_cd
    | simp only [go_sem, seval, P24, q24, e1]
    | simp (disch := omega) only [w64, w32, wu8, wu16, wu32, wu64]
    | ((with_reducible refine o_call (c2) ?he ?hc ?_); (case he | hc => first | rfl | (simp [D.erL, D.er, D.closedL, D.closed, heV, hcV, hcs]; done)))
    | ((with_reducible refine o_call (c3) ?he ?hc ?_); (case he | hc => first | rfl | (simp [D.erL, D.er, D.closedL, D.closed, heV, hcV, hcs]; done)))
    | ((with_reducible apply s_appT); (case he => rfl); (case hK | hc | hr | hV => first | rfl | assumption | omega | (simp only [List.length_cons, List.length_nil, List.length_append, List.length_map, List.length_replicate, List.length_take, List.length_drop, heV, hcV, hcs] <;> omega) | (constructor <;> first | omega | (simp only [List.length_cons, List.length_nil, List.length_append, List.length_map, List.length_replicate, List.length_take, List.length_drop, heV, hcV, hcs] <;> omega)) | (simp [elemsK, D.isVal, D.cells, D.closedL, D.closed, heV, hcV, hcs]; first | done | omega)))
    | ((with_reducible apply s_appG); (case he => rfl); (case hV | hK | hr | hl => first | rfl | assumption | omega | (simp only [List.length_cons, List.length_nil, List.length_append, List.length_map, List.length_replicate, List.length_take, List.length_drop, heV, hcV, hcs] <;> omega) | (constructor <;> first | omega | (simp only [List.length_cons, List.length_nil, List.length_append, List.length_map, List.length_replicate, List.length_take, List.length_drop, heV, hcV, hcs] <;> omega)) | (simp [elemsK, D.isVal, D.cells, D.closedL, D.closed, heV, hcV, hcs]; first | done | omega)))
    | ((with_reducible apply s_app0); (case he => rfl); (case hK | hc | hr => first | rfl | assumption | omega | (simp only [List.length_cons, List.length_nil, List.length_append, List.length_map, List.length_replicate, List.length_take, List.length_drop, heV, hcV, hcs] <;> omega) | (constructor <;> first | omega | (simp only [List.length_cons, List.length_nil, List.length_append, List.length_map, List.length_replicate, List.length_take, List.length_drop, heV, hcV, hcs] <;> omega)) | (simp [elemsK, D.isVal, D.cells, D.closedL, D.closed, heV, hcV, hcs]; first | done | omega)))
    | ((with_reducible apply s_appF); (case he => rfl); (case hK | hc | hr | hx | hn => first | rfl | assumption | omega | (simp only [List.length_cons, List.length_nil, List.length_append, List.length_map, List.length_replicate, List.length_take, List.length_drop, heV, hcV, hcs] <;> omega) | (constructor <;> first | omega | (simp only [List.length_cons, List.length_nil, List.length_append, List.length_map, List.length_replicate, List.length_take, List.length_drop, heV, hcV, hcs] <;> omega)) | (simp [elemsK, D.isVal, D.cells, D.closedL, D.closed, heV, hcV, hcs]; first | done | omega)))
    | ((with_reducible apply s_bsl); (case he | hl | hc => first | rfl | assumption | omega | (simp only [List.length_cons, List.length_nil, List.length_append, List.length_map, List.length_replicate, List.length_take, List.length_drop, heV, hcV, hcs] <;> omega) | (constructor <;> first | omega | (simp only [List.length_cons, List.length_nil, List.length_append, List.length_map, List.length_replicate, List.length_take, List.length_drop, heV, hcV, hcs] <;> omega)) | (simp [elemsK, D.isVal, D.cells, D.closedL, D.closed, heV, hcV, hcs]; first | done | omega)))
    | with_reducible apply cd_dec
    | with_reducible apply cd_eq
    | with_reducible apply cd_ne
    | with_reducible apply cd_split
    | with_reducible apply gd_dec
    | with_reducible apply gd_eq
    | with_reducible apply gd_ne
    | with_reducible apply gd_split
    | ((with_reducible refine And.intro ?hw ?_); (case hw => first | omega | rfl | exact ⟨_, _, rfl⟩ | assumption | (simp only [List.length_cons, List.length_nil, List.length_append, List.length_map, List.length_replicate, List.length_take, List.length_drop, heV, hcV, hcs] <;> omega)))
    | with_reducible intro _)
  all_goals try omega
  refine swp_famG [0, 1, 2, 5, 10, 11, 12] 1 1 (by decide) (by decide) (fun k : Nat => ⟨[.str m, sealD x, .ptr 0 0, .undef, .undef, .slice (strs (O ++ [kt] ++ climbT a (x.path.take k) j)) (.tok 0), .undef, .undef, .undef, .undef, .str (climb a (x.path.take k) j), .int .i64 (j / 2 ^ k : Nat), .int .i64 (k : Nat), .undef, .undef, .undef, .undef], [],
      ⟨[.cells [.int .i64 x.idx, .slice (strs x.sig) .no, .slice (strs x.path) .no]], [.per 1 (O.length + 1 + k)]⟩⟩)
    (fun k => k ≤ x.path.length) (fun k => x.path.length - k) 0 (by omega) ?_ ?_
  · simp [keepE, St.keep, St.keepG, St.gc, Hp.cut, D.rnL, D.rn, cutF, Own.rn, Blk.rn, Blk.rnL, Tv.rn, Tv.rnL, rnL_strs, climb, climbT, hj]
  intro k hk
  have hcl := climb_len (p := x.path.take k) (i := j) ha
  have hTl : (strs (O ++ [kt] ++ climbT a (x.path.take k) j)).length = O.length + 1 + k := by
    rw [strs_len, List.length_append, List.length_append, climbT_len, List.length_take]; simp; omega
  by_cases hlt : k < x.path.length
  · have htk : x.path.take (k + 1) = x.path.take k ++ [x.path.getD k []] := by
      rw [List.take_succ_eq_append_getElem hlt]; simp [List.getD, hlt]
    have hsn := climb_snoc (x.path.take k) a (x.path.getD k []) j
    rw [← htk] at hsn
    have htl : (x.path.take k).length = k := by rw [List.length_take]; omega
    rw [htl, par_sum] at hsn
    have hct := climbT_take hlt a j
    have hol := get_small (i := k) hx.px
    have hg := strs_get (l := x.path) hlt
    have d1 := jnode_p (climb a (x.path.take k) j) (x.path.getD k []) (by omega) hol
    have d2 := jnode_p (x.path.getD k []) (climb a (x.path.take k) j) hol (by omega)
    have l1 := joined_len (okL_node (a := climb a (x.path.take k) j) (b := x.path.getD k []) (by omega) hol)
    have l2 := joined_len (okL_node (a := x.path.getD k []) (b := climb a (x.path.take k) j) hol (by omega))
    have en1 : joined [wnode, climb a (x.path.take k) j, x.path.getD k []] = nodT (climb a (x.path.take k) j) (x.path.getD k []) := rfl
    have en2 : joined [wnode, x.path.getD k [], climb a (x.path.take k) j] = nodT (x.path.getD k []) (climb a (x.path.take k) j) := rfl
    rw [en1] at l1
    rw [en2] at l2
    have d3 := rsum_p (nodT (climb a (x.path.take k) j) (x.path.getD k [])) (by omega)
    have d4 := rsum_p (nodT (x.path.getD k []) (climb a (x.path.take k) j)) (by omega)
    have hja : j / 2 ^ k ≤ j := Nat.div_le_self _ _
    have hj3 : j / 2 ^ (k + 1) = j / 2 ^ k / 2 := by rw [Nat.pow_succ, Nat.div_div_eq_div_mul]
    have t3 : (((j / 2 ^ k : Nat)) : Int).tmod 2 = ((j / 2 ^ k % 2 : Nat) : Int) := tmod2 _
    have t4 : (((j / 2 ^ k : Nat)) : Int).tdiv 2 = ((j / 2 ^ k / 2 : Nat) : Int) := tdiv2 _
    have hbb : ((((j / 2 ^ k) % 2 : Nat) : Int) == 1) = ((j / 2 ^ k) % 2 == 1) := by
      generalize (j / 2 ^ k) % 2 = w
      by_cases hw : w = 1
      · subst hw; rfl
      · have h1 : ((w : Int) == 1) = false := by simp; omega
        have h2 : (w == 1) = false := by simp [hw]
        rw [h1, h2]
    have t1 : ((k : Nat) : Int).toNat = k := Int.toNat_natCast k
    have sF : ∀ w : List UInt8, strs (O ++ [kt] ++ (climbT a (x.path.take k) j ++ [w])) = strs (O ++ [kt] ++ climbT a (x.path.take k) j) ++ [.str w] := by intro w; simp
    generalize hz : climb a (x.path.take (k + 1)) j = z at *
    generalize climb a (x.path.take k) j = y at *
    generalize (j / 2 ^ k) % 2 = w at *
    generalize hv : j / 2 ^ k / 2 = v2 at *
    generalize j / 2 ^ k = v at *
    generalize x.path.getD k [] = o at *
    generalize nodT y o = n1 at *
    generalize nodT o y = n2 at *
    generalize climbT a (x.path.take k) j = CT at *
    generalize hF : strs (O ++ [kt] ++ CT) = F at *
    generalize hS0 : strs x.sig = S at *
    generalize hP0 : strs x.path = P at *
    cases b : (w == 1)
    · rw [b] at hbb hsn
      rw [if_neg (by simp)] at hsn
      rw [← hsn] at d3
      repeat' (first
    | with_reducible apply swp_seq
    | with_reducible apply swp_reg
    | with_reducible apply swp_regD
    | with_reducible apply swp_block
    | with_reducible apply swp_exit
    | with_reducible apply swp_ret
    | with_reducible apply swp_skip
    | with_reducible apply swp_cd
    | simp only [go_sem, seval, P24, q24, hpl, t1, hg, t3, t4, hbb]
    | simp (disch := omega) only [w64, w32, wu8, wu16, wu32, wu64]
    | ((with_reducible refine o_call (d1) ?he ?hc ?_); (case he | hc => first | rfl | (simp [D.erL, D.er, D.closedL, D.closed, hpl, hTl]; done)))
    | ((with_reducible refine o_call (d3) ?he ?hc ?_); (case he | hc => first | rfl | (simp [D.erL, D.er, D.closedL, D.closed, hpl, hTl]; done)))
    | ((with_reducible apply s_appT); (case he => rfl); (case hK | hc | hr | hV => first | rfl | assumption | omega | (simp only [List.length_cons, List.length_nil, List.length_append, List.length_map, List.length_replicate, List.length_take, List.length_drop, hpl, hTl] <;> omega) | (constructor <;> first | omega | (simp only [List.length_cons, List.length_nil, List.length_append, List.length_map, List.length_replicate, List.length_take, List.length_drop, hpl, hTl] <;> omega)) | (simp [elemsK, D.isVal, D.cells, D.closedL, D.closed, hpl, hTl]; first | done | omega)))
    | ((with_reducible apply s_appG); (case he => rfl); (case hV | hK | hr | hl => first | rfl | assumption | omega | (simp only [List.length_cons, List.length_nil, List.length_append, List.length_map, List.length_replicate, List.length_take, List.length_drop, hpl, hTl] <;> omega) | (constructor <;> first | omega | (simp only [List.length_cons, List.length_nil, List.length_append, List.length_map, List.length_replicate, List.length_take, List.length_drop, hpl, hTl] <;> omega)) | (simp [elemsK, D.isVal, D.cells, D.closedL, D.closed, hpl, hTl]; first | done | omega)))
    | ((with_reducible apply s_app0); (case he => rfl); (case hK | hc | hr => first | rfl | assumption | omega | (simp only [List.length_cons, List.length_nil, List.length_append, List.length_map, List.length_replicate, List.length_take, List.length_drop, hpl, hTl] <;> omega) | (constructor <;> first | omega | (simp only [List.length_cons, List.length_nil, List.length_append, List.length_map, List.length_replicate, List.length_take, List.length_drop, hpl, hTl] <;> omega)) | (simp [elemsK, D.isVal, D.cells, D.closedL, D.closed, hpl, hTl]; first | done | omega)))
    | ((with_reducible apply s_appF); (case he => rfl); (case hK | hc | hr | hx | hn => first | rfl | assumption | omega | (simp only [List.length_cons, List.length_nil, List.length_append, List.length_map, List.length_replicate, List.length_take, List.length_drop, hpl, hTl] <;> omega) | (constructor <;> first | omega | (simp only [List.length_cons, List.length_nil, List.length_append, List.length_map, List.length_replicate, List.length_take, List.length_drop, hpl, hTl] <;> omega)) | (simp [elemsK, D.isVal, D.cells, D.closedL, D.closed, hpl, hTl]; first | done | omega)))
    | ((with_reducible apply s_bsl); (case he | hl | hc => first | rfl | assumption | omega | (simp only [List.length_cons, List.length_nil, List.length_append, List.length_map, List.length_replicate, List.length_take, List.length_drop, hpl, hTl] <;> omega) | (constructor <;> first | omega | (simp only [List.length_cons, List.length_nil, List.length_append, List.length_map, List.length_replicate, List.length_take, List.length_drop, hpl, hTl] <;> omega)) | (simp [elemsK, D.isVal, D.cells, D.closedL, D.closed, hpl, hTl]; first | done | omega)))
    | with_reducible apply cd_dec
    | with_reducible apply cd_eq
    | with_reducible apply cd_ne
    | with_reducible apply cd_split
    | with_reducible apply gd_dec
    | with_reducible apply gd_eq
    | with_reducible apply gd_ne
    | with_reducible apply gd_split
    | ((with_reducible refine And.intro ?hw ?_); (case hw => first | omega | rfl | exact ⟨_, _, rfl⟩ | assumption | (simp only [List.length_cons, List.length_nil, List.length_append, List.length_map, List.length_replicate, List.length_take, List.length_drop, hpl, hTl] <;> omega)))
    | with_reducible intro _)
      all_goals try omega
      refine ⟨k + 1, by omega, by omega, ?_⟩
      rw [hct, hz, hj3, b, if_neg (by simp), sF]
      simp [keepE, St.keep, St.keepG, St.gc, Hp.cut, D.rnL, D.rn, cutF, Own.rn, Blk.rn, Blk.rnL, Tv.rn, Tv.rnL, rnL_strs, hTl, hS0, hP0]
      try omega
    · rw [b] at hbb hsn
      rw [if_pos rfl] at hsn
      rw [← hsn] at d4
      repeat' (first
    | with_reducible apply swp_seq
    | with_reducible apply swp_reg
    | with_reducible apply swp_regD
    | with_reducible apply swp_block
    | with_reducible apply swp_exit
    | with_reducible apply swp_ret
    | with_reducible apply swp_skip
    | with_reducible apply swp_cd
    | simp only [go_sem, seval, P24, q24, hpl, t1, hg, t3, t4, hbb]
    | simp (disch := omega) only [w64, w32, wu8, wu16, wu32, wu64]
    | ((with_reducible refine o_call (d1) ?he ?hc ?_); (case he | hc => first | rfl | (simp [D.erL, D.er, D.closedL, D.closed, hpl, hTl]; done)))
    | ((with_reducible refine o_call (d2) ?he ?hc ?_); (case he | hc => first | rfl | (simp [D.erL, D.er, D.closedL, D.closed, hpl, hTl]; done)))
    | ((with_reducible refine o_call (d4) ?he ?hc ?_); (case he | hc => first | rfl | (simp [D.erL, D.er, D.closedL, D.closed, hpl, hTl]; done)))
    | ((with_reducible apply s_appT); (case he => rfl); (case hK | hc | hr | hV => first | rfl | assumption | omega | (simp only [List.length_cons, List.length_nil, List.length_append, List.length_map, List.length_replicate, List.length_take, List.length_drop, hpl, hTl] <;> omega) | (constructor <;> first | omega | (simp only [List.length_cons, List.length_nil, List.length_append, List.length_map, List.length_replicate, List.length_take, List.length_drop, hpl, hTl] <;> omega)) | (simp [elemsK, D.isVal, D.cells, D.closedL, D.closed, hpl, hTl]; first | done | omega)))
    | ((with_reducible apply s_appG); (case he => rfl); (case hV | hK | hr | hl => first | rfl | assumption | omega | (simp only [List.length_cons, List.length_nil, List.length_append, List.length_map, List.length_replicate, List.length_take, List.length_drop, hpl, hTl] <;> omega) | (constructor <;> first | omega | (simp only [List.length_cons, List.length_nil, List.length_append, List.length_map, List.length_replicate, List.length_take, List.length_drop, hpl, hTl] <;> omega)) | (simp [elemsK, D.isVal, D.cells, D.closedL, D.closed, hpl, hTl]; first | done | omega)))
    | ((with_reducible apply s_app0); (case he => rfl); (case hK | hc | hr => first | rfl | assumption | omega | (simp only [List.length_cons, List.length_nil, List.length_append, List.length_map, List.length_replicate, List.length_take, List.length_drop, hpl, hTl] <;> omega) | (constructor <;> first | omega | (simp only [List.length_cons, List.length_nil, List.length_append, List.length_map, List.length_replicate, List.length_take, List.length_drop, hpl, hTl] <;> omega)) | (simp [elemsK, D.isVal, D.cells, D.closedL, D.closed, hpl, hTl]; first | done | omega)))
    | ((with_reducible apply s_appF); (case he => rfl); (case hK | hc | hr | hx | hn => first | rfl | assumption | omega | (simp only [List.length_cons, List.length_nil, List.length_append, List.length_map, List.length_replicate, List.length_take, List.length_drop, hpl, hTl] <;> omega) | (constructor <;> first | omega | (simp only [List.length_cons, List.length_nil, List.length_append, List.length_map, List.length_replicate, List.length_take, List.length_drop, hpl, hTl] <;> omega)) | (simp [elemsK, D.isVal, D.cells, D.closedL, D.closed, hpl, hTl]; first | done | omega)))
    | ((with_reducible apply s_bsl); (case he | hl | hc => first | rfl | assumption | omega | (simp only [List.length_cons, List.length_nil, List.length_append, List.length_map, List.length_replicate, List.length_take, List.length_drop, hpl, hTl] <;> omega) | (constructor <;> first | omega | (simp only [List.length_cons, List.length_nil, List.length_append, List.length_map, List.length_replicate, List.length_take, List.length_drop, hpl, hTl] <;> omega)) | (simp [elemsK, D.isVal, D.cells, D.closedL, D.closed, hpl, hTl]; first | done | omega)))
    | with_reducible apply cd_dec
    | with_reducible apply cd_eq
    | with_reducible apply cd_ne
    | with_reducible apply cd_split
    | with_reducible apply gd_dec
    | with_reducible apply gd_eq
    | with_reducible apply gd_ne
    | with_reducible apply gd_split
    | ((with_reducible refine And.intro ?hw ?_); (case hw => first | omega | rfl | exact ⟨_, _, rfl⟩ | assumption | (simp only [List.length_cons, List.length_nil, List.length_append, List.length_map, List.length_replicate, List.length_take, List.length_drop, hpl, hTl] <;> omega)))
    | with_reducible intro _)
      all_goals try omega
      refine ⟨k + 1, by omega, by omega, ?_⟩
      rw [hct, hz, hj3, b, if_pos rfl, sF]
      simp [keepE, St.keep, St.keepG, St.gc, Hp.cut, D.rnL, D.rn, cutF, Own.rn, Blk.rn, Blk.rnL, Tv.rn, Tv.rnL, rnL_strs, hTl, hS0, hP0]
      try omega
  · have e : k = x.path.length := by omega
    subst e
    rw [List.take_length] at *
    rw [hchk]
    have hfc := closed_strs (O ++ [kt] ++ climbT a x.path j)
    have hfe := erL_strs (O ++ [kt] ++ climbT a x.path j)
    generalize strs (O ++ [kt] ++ climbT a x.path j) = F at *
    generalize hP0 : strs x.path = P at *
    repeat' (first
    | with_reducible apply swp_seq
    | with_reducible apply swp_reg
    | with_reducible apply swp_regD
    | with_reducible apply swp_block
    | with_reducible apply swp_exit
    | with_reducible apply swp_ret
    | with_reducible apply swp_skip
    | with_reducible apply swp_cd
    | simp only [go_sem, seval, P24, q24, hpl]
    | simp (disch := omega) only [w64, w32, wu8, wu16, wu32, wu64]
    | ((with_reducible apply s_appT); (case he => rfl); (case hK | hc | hr | hV => first | rfl | assumption | omega | (simp only [List.length_cons, List.length_nil, List.length_append, List.length_map, List.length_replicate, List.length_take, List.length_drop, hpl] <;> omega) | (constructor <;> first | omega | (simp only [List.length_cons, List.length_nil, List.length_append, List.length_map, List.length_replicate, List.length_take, List.length_drop, hpl] <;> omega)) | (simp [elemsK, D.isVal, D.cells, D.closedL, D.closed, hpl]; first | done | omega)))
    | ((with_reducible apply s_appG); (case he => rfl); (case hV | hK | hr | hl => first | rfl | assumption | omega | (simp only [List.length_cons, List.length_nil, List.length_append, List.length_map, List.length_replicate, List.length_take, List.length_drop, hpl] <;> omega) | (constructor <;> first | omega | (simp only [List.length_cons, List.length_nil, List.length_append, List.length_map, List.length_replicate, List.length_take, List.length_drop, hpl] <;> omega)) | (simp [elemsK, D.isVal, D.cells, D.closedL, D.closed, hpl]; first | done | omega)))
    | ((with_reducible apply s_app0); (case he => rfl); (case hK | hc | hr => first | rfl | assumption | omega | (simp only [List.length_cons, List.length_nil, List.length_append, List.length_map, List.length_replicate, List.length_take, List.length_drop, hpl] <;> omega) | (constructor <;> first | omega | (simp only [List.length_cons, List.length_nil, List.length_append, List.length_map, List.length_replicate, List.length_take, List.length_drop, hpl] <;> omega)) | (simp [elemsK, D.isVal, D.cells, D.closedL, D.closed, hpl]; first | done | omega)))
    | ((with_reducible apply s_appF); (case he => rfl); (case hK | hc | hr | hx | hn => first | rfl | assumption | omega | (simp only [List.length_cons, List.length_nil, List.length_append, List.length_map, List.length_replicate, List.length_take, List.length_drop, hpl] <;> omega) | (constructor <;> first | omega | (simp only [List.length_cons, List.length_nil, List.length_append, List.length_map, List.length_replicate, List.length_take, List.length_drop, hpl] <;> omega)) | (simp [elemsK, D.isVal, D.cells, D.closedL, D.closed, hpl]; first | done | omega)))
    | ((with_reducible apply s_bsl); (case he | hl | hc => first | rfl | assumption | omega | (simp only [List.length_cons, List.length_nil, List.length_append, List.length_map, List.length_replicate, List.length_take, List.length_drop, hpl] <;> omega) | (constructor <;> first | omega | (simp only [List.length_cons, List.length_nil, List.length_append, List.length_map, List.length_replicate, List.length_take, List.length_drop, hpl] <;> omega)) | (simp [elemsK, D.isVal, D.cells, D.closedL, D.closed, hpl]; first | done | omega)))
    | with_reducible apply cd_dec
    | with_reducible apply cd_eq
    | with_reducible apply cd_ne
    | with_reducible apply cd_split
    | with_reducible apply gd_dec
    | with_reducible apply gd_eq
    | with_reducible apply gd_ne
    | with_reducible apply gd_split
    | ((with_reducible refine And.intro ?hw ?_); (case hw => first | omega | rfl | exact ⟨_, _, rfl⟩ | assumption | (simp only [List.length_cons, List.length_nil, List.length_append, List.length_map, List.length_replicate, List.length_take, List.length_drop, hpl] <;> omega)))
    | with_reducible intro _)
    all_goals first
      | omega
      | (simp [D.closed, D.er, hfc, hfe]; done)
end Go.Proofs.YtgjkhlnpplajjaaDoor
end
section
set_option maxRecDepth 100000
namespace Go.Proofs.YtgjkhlnpplajjaaDoor
open Go GoV
/- 3 bogie.bogielaw02.SignMatchesReference · 6 arguments · kept slots [0, 1, 2, 3, 4, 5, 11, 12, 13, 14, 15, 16, 17, 18, 19, 20, 21, 22, 42] -/
/- 4 bogie.bogielaw02.SignVerifies · 4 arguments · kept slots [0, 1, 2, 3, 8, 9, 10, 11, 12, 13, 14, 15, 16, 17, 18, 19, 20, 21, 27, 106, 111, 120, 125, 134] -/
/- 5 bogie.bogielaw02.SignSound · 4 arguments · kept slots [0, 1, 2, 3, 7, 8, 9, 10, 11, 12, 13, 14, 28, 37, 42, 59] -/
noncomputable def E5 (n m : Nat) : Cfg := ⟨M, [0, 1, 2, 3, 7, 8, 9, 10, 11, 12, 13, 14, 28, 37, 42, 59], 72, n, m, []⟩
noncomputable def C5 : Cfg := E5 0 0
@[reducible] noncomputable def r5_0 : List RO := [
  ⟨.var 4, .box, [.var 3], none⟩,
  ⟨.var 5, .mv, [.con (.bool false)], none⟩]
@[reducible] noncomputable def r5_1 : List RO := [
  ⟨.loc 15, .call, [(.con (.fn (.func 10) [] []))], none⟩,
  ⟨.var 6, .mv, [.loc 15], none⟩]
@[reducible] noncomputable def r5_2 : List RO := [
  ⟨.loc 16, .mv, [.var 1], none⟩,
  ⟨.loc 17, .cvI .i64, [.loc 16], none⟩,
  ⟨.loc 18, .bin .rem, [.loc 17, .con (.int .i64 3)], none⟩,
  ⟨.var 7, .mv, [.loc 18], none⟩]
@[reducible] noncomputable def r5_3 : List RO := [
  ⟨.loc 19, .mv, [.var 0], none⟩,
  ⟨.loc 20, .mv, [.var 2], none⟩,
  ⟨.loc 21, .bsl 1, [.loc 19, .loc 20], none⟩,
  ⟨.loc 22, .call, [(.con (.fn (.func 11) [] [])), .loc 21], none⟩,
  ⟨.loc 23, .un .not, [.loc 22], none⟩,
  ⟨.loc 24, .mv, [.loc 23], none⟩,
  ⟨.loc 25, .ld true 3, [.var 4], (some (.loc 24, false))⟩,
  ⟨.loc 26, .call, [(.con (.fn (.func 12) [] [])), .loc 25], (some (.loc 24, false))⟩,
  ⟨.loc 27, .un .not, [.loc 26], (some (.loc 24, false))⟩,
  ⟨.var 12, .pick, [.loc 24, .con (.bool true), .loc 27], none⟩]
@[reducible] noncomputable def r5_4 : List RO := [
  ⟨.loc 29, .mv, [.var 6], none⟩,
  ⟨.var 5, .mv, [.loc 29], none⟩]
@[reducible] noncomputable def r5_5 : List RO := [
  ⟨.loc 31, .mv, [.var 0], none⟩,
  ⟨.loc 32, .mv, [.var 7], none⟩,
  ⟨.loc 33, .call, [(.con (.fn (.func 13) [] [])), .loc 31, .loc 32], none⟩,
  ⟨.loc 30, .mv, [.loc 33], none⟩,
  ⟨.loc 34, .ext 0, [.loc 30], none⟩,
  ⟨.loc 35, .ext 1, [.loc 30], none⟩,
  ⟨.var 8, .mv, [.loc 34], none⟩,
  ⟨.var 9, .mv, [.loc 35], none⟩]
@[reducible] noncomputable def r5_6 : List RO := [
  ⟨.loc 36, .mv, [.var 9], none⟩,
  ⟨.var 13, .bin .neq, [.loc 36, .con (.int .i64 0)], none⟩]
@[reducible] noncomputable def r5_7 : List RO := [
  ⟨.var 5, .mv, [.con (.bool false)], none⟩]
@[reducible] noncomputable def r5_8 : List RO := [
  ⟨.loc 38, .mv, [.var 8], none⟩,
  ⟨.loc 39, .mv, [.var 2], none⟩,
  ⟨.loc 40, .ld true 3, [.var 4], none⟩,
  ⟨.loc 41, .call, [(.con (.fn (.func 18) [] [])), .loc 38, .loc 39, .loc 40], none⟩,
  ⟨.var 14, .un .not, [.loc 41], none⟩]
@[reducible] noncomputable def r5_9 : List RO := [
  ⟨.loc 43, .mv, [.var 6], none⟩,
  ⟨.var 5, .mv, [.loc 43], none⟩]
@[reducible] noncomputable def r5_10 : List RO := [
  ⟨.loc 45, .mv, [.var 0], none⟩,
  ⟨.loc 46, .mv, [.var 7], none⟩,
  ⟨.loc 47, .fld 0, [.var 4], none⟩,
  ⟨.loc 48, .ld false 1, [.loc 47], none⟩,
  ⟨.loc 49, .mv, [.var 2], none⟩,
  ⟨.loc 50, .call, [(.con (.fn (.func 15) [] [])), .loc 45, .loc 46, .loc 48, .loc 49], none⟩,
  ⟨.loc 44, .mv, [.loc 50], none⟩,
  ⟨.loc 51, .ext 0, [.loc 44], none⟩,
  ⟨.loc 52, .ext 1, [.loc 44], none⟩,
  ⟨.var 10, (.newb [(.int .i64 0), (.lit (.slice none 0 0)), (.lit (.slice none 0 0))]), [], none⟩,
  ⟨.none, .st 3, [.var 10, .loc 51], none⟩,
  ⟨.var 11, .mv, [.loc 52], none⟩]
@[reducible] noncomputable def r5_11 : List RO := [
  ⟨.loc 53, .mv, [.var 11], none⟩,
  ⟨.loc 54, .bin .eql, [.loc 53, .con (.int .i64 0)], none⟩,
  ⟨.loc 55, .mv, [.loc 54], none⟩,
  ⟨.loc 56, .ld true 3, [.var 10], (some (.loc 55, true))⟩,
  ⟨.loc 57, .ld true 3, [.var 4], (some (.loc 55, true))⟩,
  ⟨.loc 58, .call, [(.con (.fn (.func 17) [] [])), .loc 56, .loc 57], (some (.loc 55, true))⟩,
  ⟨.var 15, .pick, [.loc 55, .loc 58, .con (.bool false)], none⟩]
@[reducible] noncomputable def r5_12 : List RO := [
  ⟨.loc 60, .mv, [.var 6], none⟩,
  ⟨.var 5, .mv, [.loc 60], none⟩]
@[reducible] noncomputable def r5_13 : List (RO × Bool) := [
  (⟨.loc 61, .mv, [.var 6], none⟩, true),
  (⟨.loc 62, .mv, [.loc 61], none⟩, true),
  (⟨.loc 63, .mv, [.var 0], (some (.loc 62, true))⟩, true),
  (⟨.loc 64, .mv, [.var 7], (some (.loc 62, true))⟩, true),
  (⟨.loc 65, .call, [(.con (.fn (.func 23) [] [])), .loc 63, .loc 64, .con (.int .i64 15)], (some (.loc 62, true))⟩, true),
  (⟨.loc 66, .mv, [.var 2], (some (.loc 62, true))⟩, true),
  (⟨.loc 67, .ld true 3, [.var 4], (some (.loc 62, true))⟩, true)]
@[reducible] noncomputable def r5_14 : List RO := [
  ⟨.loc 68, .call, [(.con (.fn (.func 24) [] [])), .loc 66, .loc 67], (some (.loc 62, true))⟩,
  ⟨.loc 69, .app 1 16 9, [.loc 65, .loc 68], (some (.loc 62, true))⟩,
  ⟨.loc 70, .call, [(.con (.fn (.func 22) [] [])), .loc 69], (some (.loc 62, true))⟩,
  ⟨.loc 71, .pick, [.loc 62, .loc 70, .con (.bool false)], none⟩,
  ⟨.var 5, .mv, [.loc 71], none⟩]
theorem P5 : C5.M = M := by unfold C5 E5; rfl
theorem i5 {a0 a1 a2 a3 : D} : St.init C5 [a0, a1, a2, a3] ⟨[], []⟩ = ⟨[a0, a1, a2, a3, .undef, .undef, .undef, .undef, .undef, .undef, .undef, .undef, .undef, .undef, .undef, .undef], [], ⟨[], []⟩⟩ := by unfold C5 E5; rfl
noncomputable def c5 : RC := (.seq (.reg r5_0) (.seq (.reg r5_1) (.seq (.reg r5_2) (.seq (.seq (.reg r5_3) (.cond (.var 12) (.seq (.reg r5_4) .ret) .skip)) (.seq (.reg r5_5) (.seq (.seq (.reg r5_6) (.cond (.var 13) (.seq (.reg r5_7) .ret) .skip)) (.seq (.seq (.reg r5_8) (.cond (.var 14) (.seq (.reg r5_9) .ret) .skip)) (.seq (.reg r5_10) (.seq (.seq (.reg r5_11) (.cond (.var 15) (.seq (.reg r5_12) .ret) .skip)) (.seq (.regD r5_13 r5_14) .ret))))))))))
noncomputable def q5 : List RR := [(.slot (.var 5))]
theorem z5 {n m : Nat} : resCode (E5 n m) (Tryd.f5.body.getD .skip) = some c5 := by kernel_rfl
theorem zr5 {n m : Nat} : resRs (E5 n m) Tryd.f5.results.toList = some q5 := by kernel_rfl
theorem ow5 {args : List D} {d : D} (hl : args.length = 4) (h : SWp C5 c5 (fun e s => (match e with | .exit _ => False | _ => True) ∧ ∃ s1, Weak C5 s s1 ∧ rrsWp q5 s1 fun ds => D.closed (oneOrTup ds) = true ∧ (oneOrTup ds).er = d) (St.init C5 args ⟨[], []⟩)) : Pur M 5 args d :=
  pur_of_bodyW (C := C5) (fn := Tryd.f5) Tryd.func5 (by kernel_rfl) (by kernel_rfl) (rc := c5) z5 (rs := q5) zr5 (by kernel_rfl) (by rw [hl]; rfl) (by rw [hl]; decide) rfl rfl h
/- 6 bogie.bogielaw02.SignBinds · 5 arguments · kept slots [0, 1, 2, 3, 4, 10, 11, 12, 13, 14, 15, 16, 17, 39, 60, 65] -/
noncomputable def E6 (n m : Nat) : Cfg := ⟨M, [0, 1, 2, 3, 4, 10, 11, 12, 13, 14, 15, 16, 17, 39, 60, 65], 78, n, m, []⟩
noncomputable def C6 : Cfg := E6 0 0
@[reducible] noncomputable def r6_0 : List RO := [
  ⟨.var 5, .mv, [.con (.bool false)], none⟩]
@[reducible] noncomputable def r6_1 : List RO := [
  ⟨.loc 18, .call, [(.con (.fn (.func 10) [] []))], none⟩,
  ⟨.var 6, .mv, [.loc 18], none⟩]
@[reducible] noncomputable def r6_2 : List RO := [
  ⟨.loc 19, .mv, [.var 1], none⟩,
  ⟨.loc 20, .cvI .i64, [.loc 19], none⟩,
  ⟨.loc 21, .bin .rem, [.loc 20, .con (.int .i64 3)], none⟩,
  ⟨.var 7, .mv, [.loc 21], none⟩]
@[reducible] noncomputable def r6_3 : List RO := [
  ⟨.loc 22, .mv, [.var 2], none⟩,
  ⟨.loc 23, .cvI .i64, [.loc 22], none⟩,
  ⟨.loc 24, .mv, [.var 7], none⟩,
  ⟨.loc 25, .bin .shl, [.con (.int .i64 1), .loc 24], none⟩,
  ⟨.loc 26, .bin .rem, [.loc 23, .loc 25], none⟩,
  ⟨.var 8, .mv, [.loc 26], none⟩]
@[reducible] noncomputable def r6_4 : List RO := [
  ⟨.loc 27, .mv, [.var 0], none⟩,
  ⟨.loc 28, .mv, [.var 3], none⟩,
  ⟨.loc 29, .mv, [.var 4], none⟩,
  ⟨.loc 30, .bsl 1, [.loc 27, .loc 28, .loc 29], none⟩,
  ⟨.loc 31, .call, [(.con (.fn (.func 11) [] [])), .loc 30], none⟩,
  ⟨.loc 32, .un .not, [.loc 31], none⟩,
  ⟨.loc 33, .mv, [.loc 32], none⟩,
  ⟨.loc 34, .mv, [.var 3], (some (.loc 33, false))⟩,
  ⟨.loc 35, .call, [(.con (.fn (.func 25) [] [])), .loc 34], (some (.loc 33, false))⟩,
  ⟨.loc 36, .mv, [.var 4], (some (.loc 33, false))⟩,
  ⟨.loc 37, .call, [(.con (.fn (.func 25) [] [])), .loc 36], (some (.loc 33, false))⟩,
  ⟨.loc 38, .bin .eql, [.loc 35, .loc 37], (some (.loc 33, false))⟩,
  ⟨.var 13, .pick, [.loc 33, .con (.bool true), .loc 38], none⟩]
@[reducible] noncomputable def r6_5 : List RO := [
  ⟨.loc 40, .mv, [.var 6], none⟩,
  ⟨.var 5, .mv, [.loc 40], none⟩]
@[reducible] noncomputable def r6_6 : List RO := [
  ⟨.loc 42, .mv, [.var 0], none⟩,
  ⟨.loc 43, .mv, [.var 7], none⟩,
  ⟨.loc 44, .call, [(.con (.fn (.func 13) [] [])), .loc 42, .loc 43], none⟩,
  ⟨.loc 41, .mv, [.loc 44], none⟩,
  ⟨.loc 45, .ext 0, [.loc 41], none⟩,
  ⟨.loc 46, .ext 1, [.loc 41], none⟩,
  ⟨.var 9, .mv, [.loc 45], none⟩,
  ⟨.var 10, .mv, [.loc 46], none⟩]
@[reducible] noncomputable def r6_7 : List RO := [
  ⟨.loc 48, .mv, [.var 0], none⟩,
  ⟨.loc 49, .mv, [.var 7], none⟩,
  ⟨.loc 50, .mv, [.var 8], none⟩,
  ⟨.loc 51, .mv, [.var 3], none⟩,
  ⟨.loc 52, .call, [(.con (.fn (.func 15) [] [])), .loc 48, .loc 49, .loc 50, .loc 51], none⟩,
  ⟨.loc 47, .mv, [.loc 52], none⟩,
  ⟨.loc 53, .ext 0, [.loc 47], none⟩,
  ⟨.loc 54, .ext 1, [.loc 47], none⟩,
  ⟨.var 11, (.newb [(.int .i64 0), (.lit (.slice none 0 0)), (.lit (.slice none 0 0))]), [], none⟩,
  ⟨.none, .st 3, [.var 11, .loc 53], none⟩,
  ⟨.var 12, .mv, [.loc 54], none⟩]
@[reducible] noncomputable def r6_8 : List RO := [
  ⟨.loc 55, .mv, [.var 10], none⟩,
  ⟨.loc 56, .bin .neq, [.loc 55, .con (.int .i64 0)], none⟩,
  ⟨.loc 57, .mv, [.loc 56], none⟩,
  ⟨.loc 58, .mv, [.var 12], (some (.loc 57, false))⟩,
  ⟨.loc 59, .bin .neq, [.loc 58, .con (.int .i64 0)], (some (.loc 57, false))⟩,
  ⟨.var 14, .pick, [.loc 57, .con (.bool true), .loc 59], none⟩]
@[reducible] noncomputable def r6_9 : List RO := [
  ⟨.var 5, .mv, [.con (.bool false)], none⟩]
@[reducible] noncomputable def r6_10 : List RO := [
  ⟨.loc 61, .mv, [.var 9], none⟩,
  ⟨.loc 62, .mv, [.var 4], none⟩,
  ⟨.loc 63, .ld true 3, [.var 11], none⟩,
  ⟨.loc 64, .call, [(.con (.fn (.func 18) [] [])), .loc 61, .loc 62, .loc 63], none⟩,
  ⟨.var 15, .un .not, [.loc 64], none⟩]
@[reducible] noncomputable def r6_11 : List RO := [
  ⟨.loc 66, .mv, [.var 6], none⟩,
  ⟨.var 5, .mv, [.loc 66], none⟩]
@[reducible] noncomputable def r6_12 : List (RO × Bool) := [
  (⟨.loc 67, .mv, [.var 6], none⟩, true),
  (⟨.loc 68, .mv, [.loc 67], none⟩, true),
  (⟨.loc 69, .mv, [.var 0], (some (.loc 68, true))⟩, true),
  (⟨.loc 70, .mv, [.var 7], (some (.loc 68, true))⟩, true),
  (⟨.loc 71, .call, [(.con (.fn (.func 23) [] [])), .loc 69, .loc 70, .con (.int .i64 30)], (some (.loc 68, true))⟩, true),
  (⟨.loc 72, .mv, [.var 4], (some (.loc 68, true))⟩, true),
  (⟨.loc 73, .ld true 3, [.var 11], (some (.loc 68, true))⟩, true)]
@[reducible] noncomputable def r6_13 : List RO := [
  ⟨.loc 74, .call, [(.con (.fn (.func 24) [] [])), .loc 72, .loc 73], (some (.loc 68, true))⟩,
  ⟨.loc 75, .app 1 16 9, [.loc 71, .loc 74], (some (.loc 68, true))⟩,
  ⟨.loc 76, .call, [(.con (.fn (.func 22) [] [])), .loc 75], (some (.loc 68, true))⟩,
  ⟨.loc 77, .pick, [.loc 68, .loc 76, .con (.bool false)], none⟩,
  ⟨.var 5, .mv, [.loc 77], none⟩]
theorem P6 : C6.M = M := by unfold C6 E6; rfl
theorem i6 {a0 a1 a2 a3 a4 : D} : St.init C6 [a0, a1, a2, a3, a4] ⟨[], []⟩ = ⟨[a0, a1, a2, a3, a4, .undef, .undef, .undef, .undef, .undef, .undef, .undef, .undef, .undef, .undef, .undef], [], ⟨[], []⟩⟩ := by unfold C6 E6; rfl
noncomputable def c6 : RC := (.seq (.reg r6_0) (.seq (.reg r6_1) (.seq (.reg r6_2) (.seq (.reg r6_3) (.seq (.seq (.reg r6_4) (.cond (.var 13) (.seq (.reg r6_5) .ret) .skip)) (.seq (.reg r6_6) (.seq (.reg r6_7) (.seq (.seq (.reg r6_8) (.cond (.var 14) (.seq (.reg r6_9) .ret) .skip)) (.seq (.seq (.reg r6_10) (.cond (.var 15) (.seq (.reg r6_11) .ret) .skip)) (.seq (.regD r6_12 r6_13) .ret))))))))))
noncomputable def q6 : List RR := [(.slot (.var 5))]
theorem z6 {n m : Nat} : resCode (E6 n m) (Tryd.f6.body.getD .skip) = some c6 := by kernel_rfl
theorem zr6 {n m : Nat} : resRs (E6 n m) Tryd.f6.results.toList = some q6 := by kernel_rfl
theorem ow6 {args : List D} {d : D} (hl : args.length = 5) (h : SWp C6 c6 (fun e s => (match e with | .exit _ => False | _ => True) ∧ ∃ s1, Weak C6 s s1 ∧ rrsWp q6 s1 fun ds => D.closed (oneOrTup ds) = true ∧ (oneOrTup ds).er = d) (St.init C6 args ⟨[], []⟩)) : Pur M 6 args d :=
  pur_of_bodyW (C := C6) (fn := Tryd.f6) Tryd.func6 (by kernel_rfl) (by kernel_rfl) (rc := c6) z6 (rs := q6) zr6 (by kernel_rfl) (by rw [hl]; rfl) (by rw [hl]; decide) rfl rfl h
/- 7 bogie.bogielaw02.SignChanges · 6 arguments · kept slots [0, 1, 2, 3, 4, 5, 12, 13, 14, 15, 16, 17, 18, 19, 20, 21, 36, 70, 88, 97, 120] -/
/- 8 bogie.bogielaw02.SignSecrets · 5 arguments · kept slots [0, 1, 2, 3, 4, 10, 11, 12, 13, 14, 15, 16, 17, 37, 58, 63] -/
noncomputable def E8 (n m : Nat) : Cfg := ⟨M, [0, 1, 2, 3, 4, 10, 11, 12, 13, 14, 15, 16, 17, 37, 58, 63], 76, n, m, []⟩
noncomputable def C8 : Cfg := E8 0 0
@[reducible] noncomputable def r8_0 : List RO := [
  ⟨.var 5, .mv, [.con (.bool false)], none⟩]
@[reducible] noncomputable def r8_1 : List RO := [
  ⟨.loc 18, .call, [(.con (.fn (.func 10) [] []))], none⟩,
  ⟨.var 6, .mv, [.loc 18], none⟩]
@[reducible] noncomputable def r8_2 : List RO := [
  ⟨.loc 19, .mv, [.var 2], none⟩,
  ⟨.loc 20, .cvI .i64, [.loc 19], none⟩,
  ⟨.loc 21, .bin .rem, [.loc 20, .con (.int .i64 3)], none⟩,
  ⟨.var 7, .mv, [.loc 21], none⟩]
@[reducible] noncomputable def r8_3 : List RO := [
  ⟨.loc 22, .mv, [.var 3], none⟩,
  ⟨.loc 23, .cvI .i64, [.loc 22], none⟩,
  ⟨.loc 24, .mv, [.var 7], none⟩,
  ⟨.loc 25, .bin .shl, [.con (.int .i64 1), .loc 24], none⟩,
  ⟨.loc 26, .bin .rem, [.loc 23, .loc 25], none⟩,
  ⟨.var 8, .mv, [.loc 26], none⟩]
@[reducible] noncomputable def r8_4 : List RO := [
  ⟨.loc 27, .mv, [.var 0], none⟩,
  ⟨.loc 28, .mv, [.var 1], none⟩,
  ⟨.loc 29, .mv, [.var 4], none⟩,
  ⟨.loc 30, .bsl 1, [.loc 27, .loc 28, .loc 29], none⟩,
  ⟨.loc 31, .call, [(.con (.fn (.func 11) [] [])), .loc 30], none⟩,
  ⟨.loc 32, .un .not, [.loc 31], none⟩,
  ⟨.loc 33, .mv, [.loc 32], none⟩,
  ⟨.loc 34, .mv, [.var 0], (some (.loc 33, false))⟩,
  ⟨.loc 35, .mv, [.var 1], (some (.loc 33, false))⟩,
  ⟨.loc 36, .bin .eql, [.loc 34, .loc 35], (some (.loc 33, false))⟩,
  ⟨.var 13, .pick, [.loc 33, .con (.bool true), .loc 36], none⟩]
@[reducible] noncomputable def r8_5 : List RO := [
  ⟨.loc 38, .mv, [.var 6], none⟩,
  ⟨.var 5, .mv, [.loc 38], none⟩]
@[reducible] noncomputable def r8_6 : List RO := [
  ⟨.loc 40, .mv, [.var 1], none⟩,
  ⟨.loc 41, .mv, [.var 7], none⟩,
  ⟨.loc 42, .call, [(.con (.fn (.func 13) [] [])), .loc 40, .loc 41], none⟩,
  ⟨.loc 39, .mv, [.loc 42], none⟩,
  ⟨.loc 43, .ext 0, [.loc 39], none⟩,
  ⟨.loc 44, .ext 1, [.loc 39], none⟩,
  ⟨.var 9, .mv, [.loc 43], none⟩,
  ⟨.var 10, .mv, [.loc 44], none⟩]
@[reducible] noncomputable def r8_7 : List RO := [
  ⟨.loc 46, .mv, [.var 0], none⟩,
  ⟨.loc 47, .mv, [.var 7], none⟩,
  ⟨.loc 48, .mv, [.var 8], none⟩,
  ⟨.loc 49, .mv, [.var 4], none⟩,
  ⟨.loc 50, .call, [(.con (.fn (.func 15) [] [])), .loc 46, .loc 47, .loc 48, .loc 49], none⟩,
  ⟨.loc 45, .mv, [.loc 50], none⟩,
  ⟨.loc 51, .ext 0, [.loc 45], none⟩,
  ⟨.loc 52, .ext 1, [.loc 45], none⟩,
  ⟨.var 11, (.newb [(.int .i64 0), (.lit (.slice none 0 0)), (.lit (.slice none 0 0))]), [], none⟩,
  ⟨.none, .st 3, [.var 11, .loc 51], none⟩,
  ⟨.var 12, .mv, [.loc 52], none⟩]
@[reducible] noncomputable def r8_8 : List RO := [
  ⟨.loc 53, .mv, [.var 10], none⟩,
  ⟨.loc 54, .bin .neq, [.loc 53, .con (.int .i64 0)], none⟩,
  ⟨.loc 55, .mv, [.loc 54], none⟩,
  ⟨.loc 56, .mv, [.var 12], (some (.loc 55, false))⟩,
  ⟨.loc 57, .bin .neq, [.loc 56, .con (.int .i64 0)], (some (.loc 55, false))⟩,
  ⟨.var 14, .pick, [.loc 55, .con (.bool true), .loc 57], none⟩]
@[reducible] noncomputable def r8_9 : List RO := [
  ⟨.var 5, .mv, [.con (.bool false)], none⟩]
@[reducible] noncomputable def r8_10 : List RO := [
  ⟨.loc 59, .mv, [.var 9], none⟩,
  ⟨.loc 60, .mv, [.var 4], none⟩,
  ⟨.loc 61, .ld true 3, [.var 11], none⟩,
  ⟨.loc 62, .call, [(.con (.fn (.func 18) [] [])), .loc 59, .loc 60, .loc 61], none⟩,
  ⟨.var 15, .un .not, [.loc 62], none⟩]
@[reducible] noncomputable def r8_11 : List RO := [
  ⟨.loc 64, .mv, [.var 6], none⟩,
  ⟨.var 5, .mv, [.loc 64], none⟩]
@[reducible] noncomputable def r8_12 : List RO := [
  ⟨.loc 65, .mv, [.var 6], none⟩,
  ⟨.loc 66, .mv, [.loc 65], none⟩,
  ⟨.loc 67, .mv, [.var 0], (some (.loc 66, true))⟩,
  ⟨.loc 68, .mv, [.var 7], (some (.loc 66, true))⟩,
  ⟨.loc 69, .call, [(.con (.fn (.func 23) [] [])), .loc 67, .loc 68, .con (.int .i64 15)], (some (.loc 66, true))⟩,
  ⟨.loc 70, .mv, [.var 1], (some (.loc 66, true))⟩,
  ⟨.loc 71, .mv, [.var 7], (some (.loc 66, true))⟩,
  ⟨.loc 72, .call, [(.con (.fn (.func 23) [] [])), .loc 70, .loc 71, .con (.int .i64 15)], (some (.loc 66, true))⟩,
  ⟨.loc 73, .app 1 16 9, [.loc 69, .loc 72], (some (.loc 66, true))⟩,
  ⟨.loc 74, .call, [(.con (.fn (.func 22) [] [])), .loc 73], (some (.loc 66, true))⟩,
  ⟨.loc 75, .pick, [.loc 66, .loc 74, .con (.bool false)], none⟩,
  ⟨.var 5, .mv, [.loc 75], none⟩]
theorem P8 : C8.M = M := by unfold C8 E8; rfl
theorem i8 {a0 a1 a2 a3 a4 : D} : St.init C8 [a0, a1, a2, a3, a4] ⟨[], []⟩ = ⟨[a0, a1, a2, a3, a4, .undef, .undef, .undef, .undef, .undef, .undef, .undef, .undef, .undef, .undef, .undef], [], ⟨[], []⟩⟩ := by unfold C8 E8; rfl
noncomputable def c8 : RC := (.seq (.reg r8_0) (.seq (.reg r8_1) (.seq (.reg r8_2) (.seq (.reg r8_3) (.seq (.seq (.reg r8_4) (.cond (.var 13) (.seq (.reg r8_5) .ret) .skip)) (.seq (.reg r8_6) (.seq (.reg r8_7) (.seq (.seq (.reg r8_8) (.cond (.var 14) (.seq (.reg r8_9) .ret) .skip)) (.seq (.seq (.reg r8_10) (.cond (.var 15) (.seq (.reg r8_11) .ret) .skip)) (.seq (.reg r8_12) .ret))))))))))
noncomputable def q8 : List RR := [(.slot (.var 5))]
theorem z8 {n m : Nat} : resCode (E8 n m) (Tryd.f8.body.getD .skip) = some c8 := by kernel_rfl
theorem zr8 {n m : Nat} : resRs (E8 n m) Tryd.f8.results.toList = some q8 := by kernel_rfl
theorem ow8 {args : List D} {d : D} (hl : args.length = 5) (h : SWp C8 c8 (fun e s => (match e with | .exit _ => False | _ => True) ∧ ∃ s1, Weak C8 s s1 ∧ rrsWp q8 s1 fun ds => D.closed (oneOrTup ds) = true ∧ (oneOrTup ds).er = d) (St.init C8 args ⟨[], []⟩)) : Pur M 8 args d :=
  pur_of_bodyW (C := C8) (fn := Tryd.f8) Tryd.func8 (by kernel_rfl) (by kernel_rfl) (rc := c8) z8 (rs := q8) zr8 (by kernel_rfl) (by rw [hl]; rfl) (by rw [hl]; decide) rfl rfl h
/- 9 bogie.bogielaw02.SignForm · 3 arguments · kept slots [0, 1, 2, 5, 6, 7, 8, 9, 10, 11, 12, 30, 60, 65, 74, 79, 88] -/
/- 10 bogie.bogielaw02.head · 0 arguments · kept slots [0, 1, 2, 4, 5, 6, 8, 9, 10, 46] -/
noncomputable def E10 (n m : Nat) : Cfg := ⟨M, [0, 1, 2, 4, 5, 6, 8, 9, 10, 46], 82, n, m, []⟩
noncomputable def C10 : Cfg := E10 0 0
@[reducible] noncomputable def r10_0 : List RO := [
  ⟨.var 0, .mv, [.con (.bool false)], none⟩]
@[reducible] noncomputable def r10_1 : List RO := [
  ⟨.loc 12, .call, [(.con (.fn (.func 13) [] [])), (.con (.str [115, 101, 99, 114, 101, 116])), .con (.int .i64 2)], none⟩,
  ⟨.loc 11, .mv, [.loc 12], none⟩,
  ⟨.loc 13, .ext 0, [.loc 11], none⟩,
  ⟨.loc 14, .ext 1, [.loc 11], none⟩,
  ⟨.var 1, .mv, [.loc 13], none⟩,
  ⟨.var 2, .mv, [.loc 14], none⟩]
@[reducible] noncomputable def r10_2 : List RO := [
  ⟨.loc 16, .call, [(.con (.fn (.func 13) [] [])), (.con (.str [115, 101, 99, 114, 101, 116])), .con (.int .i64 9)], none⟩,
  ⟨.loc 15, .mv, [.loc 16], none⟩,
  ⟨.loc 17, .ext 0, [.loc 15], none⟩,
  ⟨.loc 18, .ext 1, [.loc 15], none⟩,
  ⟨.loc 3, .mv, [.loc 17], none⟩,
  ⟨.var 3, .mv, [.loc 18], none⟩]
@[reducible] noncomputable def r10_3 : List RO := [
  ⟨.loc 20, .call, [(.con (.fn (.func 15) [] [])), (.con (.str [115, 101, 99, 114, 101, 116])), .con (.int .i64 2), .con (.int .i64 3), (.con (.str [109, 101, 115, 115, 97, 103, 101]))], none⟩,
  ⟨.loc 19, .mv, [.loc 20], none⟩,
  ⟨.loc 21, .ext 0, [.loc 19], none⟩,
  ⟨.loc 22, .ext 1, [.loc 19], none⟩,
  ⟨.var 4, (.newb [(.int .i64 0), (.lit (.slice none 0 0)), (.lit (.slice none 0 0))]), [], none⟩,
  ⟨.none, .st 3, [.var 4, .loc 21], none⟩,
  ⟨.var 5, .mv, [.loc 22], none⟩]
@[reducible] noncomputable def r10_4 : List RO := [
  ⟨.loc 24, .call, [(.con (.fn (.func 15) [] [])), (.con (.str [115, 101, 99, 114, 101, 116])), .con (.int .i64 2), .con (.int .i64 4), (.con (.str [109, 101, 115, 115, 97, 103, 101]))], none⟩,
  ⟨.loc 23, .mv, [.loc 24], none⟩,
  ⟨.loc 25, .ext 0, [.loc 23], none⟩,
  ⟨.loc 26, .ext 1, [.loc 23], none⟩,
  ⟨.loc 7, (.newb [(.int .i64 0), (.lit (.slice none 0 0)), (.lit (.slice none 0 0))]), [], none⟩,
  ⟨.none, .st 3, [.loc 7, .loc 25], none⟩,
  ⟨.var 6, .mv, [.loc 26], none⟩]
@[reducible] noncomputable def r10_5 : List RO := [
  ⟨.loc 27, .mv, [.var 2], none⟩,
  ⟨.loc 28, .bin .neq, [.loc 27, .con (.int .i64 0)], none⟩,
  ⟨.loc 29, .mv, [.loc 28], none⟩,
  ⟨.loc 30, .mv, [.var 3], (some (.loc 29, false))⟩,
  ⟨.loc 31, .bin .neq, [.loc 30, .con (.int .i64 1)], (some (.loc 29, false))⟩,
  ⟨.loc 32, .pick, [.loc 29, .con (.bool true), .loc 31], none⟩,
  ⟨.loc 33, .mv, [.loc 32], none⟩,
  ⟨.loc 34, .mv, [.var 5], (some (.loc 33, false))⟩,
  ⟨.loc 35, .bin .neq, [.loc 34, .con (.int .i64 0)], (some (.loc 33, false))⟩,
  ⟨.loc 36, .pick, [.loc 33, .con (.bool true), .loc 35], none⟩,
  ⟨.loc 37, .mv, [.loc 36], none⟩,
  ⟨.loc 38, .mv, [.var 6], (some (.loc 37, false))⟩,
  ⟨.loc 39, .bin .neq, [.loc 38, .con (.int .i64 1)], (some (.loc 37, false))⟩,
  ⟨.loc 40, .pick, [.loc 37, .con (.bool true), .loc 39], none⟩,
  ⟨.loc 41, .mv, [.loc 40], none⟩,
  ⟨.loc 42, .fld 2, [.var 4], (some (.loc 41, false))⟩,
  ⟨.loc 43, .ld false 1, [.loc 42], (some (.loc 41, false))⟩,
  ⟨.loc 44, .lenL, [.loc 43], (some (.loc 41, false))⟩,
  ⟨.loc 45, .bin .neq, [.loc 44, .con (.int .i64 2)], (some (.loc 41, false))⟩,
  ⟨.var 9, .pick, [.loc 41, .con (.bool true), .loc 45], none⟩]
@[reducible] noncomputable def r10_6 : List RO := [
  ⟨.var 0, .mv, [.con (.bool false)], none⟩]
@[reducible] noncomputable def r10_7 : List RO := [
  ⟨.loc 47, .ld true 3, [.var 4], none⟩,
  ⟨.var 7, (.newb [(.int .i64 0), (.lit (.slice none 0 0)), (.lit (.slice none 0 0))]), [], none⟩,
  ⟨.none, .st 3, [.var 7, .loc 47], none⟩]
@[reducible] noncomputable def r10_8 : List RO := [
  ⟨.loc 48, .fld 2, [.var 4], none⟩,
  ⟨.loc 49, .ld false 1, [.loc 48], none⟩,
  ⟨.loc 50, .slcL 1 false true, [.loc 49, .con (.int .i64 1)], none⟩,
  ⟨.loc 51, .fld 2, [.var 7], none⟩,
  ⟨.none, .st 1, [.loc 51, .loc 50], none⟩]
@[reducible] noncomputable def r10_9 : List RO := [
  ⟨.loc 52, .ld true 3, [.var 4], none⟩,
  ⟨.var 8, (.newb [(.int .i64 0), (.lit (.slice none 0 0)), (.lit (.slice none 0 0))]), [], none⟩,
  ⟨.none, .st 3, [.var 8, .loc 52], none⟩]
@[reducible] noncomputable def r10_10 : List RO := [
  ⟨.loc 53, .fld 1, [.var 4], none⟩,
  ⟨.loc 54, .ld false 1, [.loc 53], none⟩,
  ⟨.loc 55, .slcL 1 true false, [.loc 54, .con (.int .i64 1)], none⟩,
  ⟨.loc 56, .fld 1, [.var 8], none⟩,
  ⟨.none, .st 1, [.loc 56, .loc 55], none⟩]
@[reducible] noncomputable def r10_11 : List RO := [
  ⟨.loc 57, .fld 0, [.var 4], none⟩,
  ⟨.loc 58, .ld false 1, [.loc 57], none⟩,
  ⟨.loc 59, .bin .eql, [.loc 58, .con (.int .i64 3)], none⟩,
  ⟨.loc 60, .mv, [.loc 59], none⟩,
  ⟨.loc 61, .mv, [.var 1], (some (.loc 60, true))⟩,
  ⟨.loc 62, .ld true 3, [.var 4], (some (.loc 60, true))⟩,
  ⟨.loc 63, .call, [(.con (.fn (.func 18) [] [])), .loc 61, (.con (.str [109, 101, 115, 115, 97, 103, 101])), .loc 62], (some (.loc 60, true))⟩,
  ⟨.loc 64, .pick, [.loc 60, .loc 63, .con (.bool false)], none⟩,
  ⟨.loc 65, .mv, [.loc 64], none⟩,
  ⟨.loc 66, .mv, [.var 1], (some (.loc 65, true))⟩,
  ⟨.loc 67, .ld true 3, [.var 7], (some (.loc 65, true))⟩,
  ⟨.loc 68, .call, [(.con (.fn (.func 18) [] [])), .loc 66, (.con (.str [109, 101, 115, 115, 97, 103, 101])), .loc 67], (some (.loc 65, true))⟩,
  ⟨.loc 69, .un .not, [.loc 68], (some (.loc 65, true))⟩,
  ⟨.loc 70, .pick, [.loc 65, .loc 69, .con (.bool false)], none⟩,
  ⟨.loc 71, .mv, [.loc 70], none⟩,
  ⟨.loc 72, .mv, [.var 1], (some (.loc 71, true))⟩,
  ⟨.loc 73, .ld true 3, [.var 8], (some (.loc 71, true))⟩,
  ⟨.loc 74, .call, [(.con (.fn (.func 18) [] [])), .loc 72, (.con (.str [109, 101, 115, 115, 97, 103, 101])), .loc 73], (some (.loc 71, true))⟩,
  ⟨.loc 75, .un .not, [.loc 74], (some (.loc 71, true))⟩,
  ⟨.loc 76, .pick, [.loc 71, .loc 75, .con (.bool false)], none⟩,
  ⟨.loc 77, .mv, [.loc 76], none⟩,
  ⟨.loc 78, .ld true 3, [.var 4], (some (.loc 77, true))⟩,
  ⟨.loc 79, .call, [(.con (.fn (.func 18) [] [])), (.con (.str [])), (.con (.str [109, 101, 115, 115, 97, 103, 101])), .loc 78], (some (.loc 77, true))⟩,
  ⟨.loc 80, .un .not, [.loc 79], (some (.loc 77, true))⟩,
  ⟨.loc 81, .pick, [.loc 77, .loc 80, .con (.bool false)], none⟩,
  ⟨.var 0, .mv, [.loc 81], none⟩]
theorem P10 : C10.M = M := by unfold C10 E10; rfl
theorem i10 : St.init C10 [] ⟨[], []⟩ = ⟨[.undef, .undef, .undef, .undef, .undef, .undef, .undef, .undef, .undef, .undef], [], ⟨[], []⟩⟩ := by unfold C10 E10; rfl
noncomputable def c10 : RC := (.seq (.reg r10_0) (.seq (.reg r10_1) (.seq (.reg r10_2) (.seq (.reg r10_3) (.seq (.reg r10_4) (.seq (.seq (.reg r10_5) (.cond (.var 9) (.seq (.reg r10_6) .ret) .skip)) (.seq (.reg r10_7) (.seq (.reg r10_8) (.seq (.reg r10_9) (.seq (.reg r10_10) (.seq (.reg r10_11) .ret)))))))))))
noncomputable def q10 : List RR := [(.slot (.var 0))]
theorem z10 {n m : Nat} : resCode (E10 n m) (Tryd.f10.body.getD .skip) = some c10 := by kernel_rfl
theorem zr10 {n m : Nat} : resRs (E10 n m) Tryd.f10.results.toList = some q10 := by kernel_rfl
theorem ok10 {args : List D} {d : D} (hl : args.length = 0) (h : SWp C10 c10 (fun e s => (match e with | .exit _ => False | _ => True) ∧ rrsWp q10 s fun ds => D.closed (oneOrTup ds) = true ∧ (oneOrTup ds).er = d) (St.init C10 args ⟨[], []⟩)) : Pur M 10 args d :=
  pur_of_body (C := C10) (fn := Tryd.f10) Tryd.func10 (by kernel_rfl) (by kernel_rfl) (rc := c10) z10 (rs := q10) zr10 (by kernel_rfl) (by rw [hl]; rfl) (by rw [hl]; decide) rfl rfl h
end Go.Proofs.YtgjkhlnpplajjaaDoor
end
section
set_option maxRecDepth 100000
set_option linter.unusedSimpArgs false
set_option linter.unusedVariables false
namespace Go.Proofs.YtgjkhlnpplajjaaDoor
open Go GoV Go.RowKit
theorem small_of_is {x : Seal} (h1 : x.sig.length ≤ 1000) (h2 : ∀ t ∈ x.sig, isD t = true) (h3 : x.path.length ≤ 1000) (h4 : ∀ t ∈ x.path, isD t = true) : SmallS x :=
  ⟨h1, fun t ht => by rw [isD_len (h2 t ht)]; omega, h3, fun t ht => by rw [isD_len (h4 t ht)]; omega⟩
theorem sgn_parts (s : List UInt8) {h i : Nat} (m : List UInt8) (hh : h ≤ 8) (hi : i < 2 ^ h) : (sgn s h i m).sig.length = 18 ∧ (sgn s h i m).path.length = h ∧ (∀ t ∈ (sgn s h i m).sig, isD t = true) ∧ (∀ t ∈ (sgn s h i m).path, isD t = true) := by
  have h0 := okS_parts (okS_sgn (s := s) (m := m) hh hi)
  exact ⟨h0.1, pathL_len h _ _ (keys_len _ _), h0.2.2.1, h0.2.2.2.1⟩
theorem small_sgn (s : List UInt8) {h i : Nat} (m : List UInt8) (hh : h ≤ 8) (hi : i < 2 ^ h) : SmallS (sgn s h i m) := by
  obtain ⟨h1, h2, h3, h4⟩ := sgn_parts s m hh hi
  exact small_of_is (by omega) h3 (by omega) h4
theorem ver_len {p m : List UInt8} {x : Seal} (h : p.length ≠ 16) : ver p m x = false := by
  unfold ver
  have : (climb (sumN (joined (ends' m x.sig))) x.path x.idx.toNat == p) = false := by
    rw [beq_eq_false_iff_ne]
    intro e
    have := climb_len (p := x.path) (i := x.idx.toNat) (sumN_len (joined (ends' m x.sig)))
    rw [e] at this
    exact h this
  rw [this, Bool.and_false]
theorem ver_sig {p m : List UInt8} {x : Seal} (h : x.sig.length ≠ 18) : ver p m x = false := by unfold ver okS; simp [h]
theorem ver_idx {p m : List UInt8} {x : Seal} (h : ¬(0 ≤ x.idx ∧ x.idx < ((2 ^ x.path.length : Nat) : Int))) : ver p m x = false := by
  unfold ver okS
  have e4 : (2 : Int) ^ x.path.length = ((2 ^ x.path.length : Nat) : Int) := by simp
  rw [e4]
  by_cases q : 0 ≤ x.idx
  · have : ¬(x.idx < ((2 ^ x.path.length : Nat) : Int)) := fun q2 => h ⟨q, q2⟩
    rw [decide_eq_false this, Bool.and_false, Bool.false_and]
  · rw [decide_eq_false q]; simp
set_option maxHeartbeats 4000000 in
theorem head_p : Pur M 10 [] (.bool true) := by
  refine ok10 rfl ?_
  rw [i10]
  unfold c10
  obtain ⟨sec, hsec⟩ : ∃ l : List UInt8, l = [115, 101, 99, 114, 101, 116] := ⟨_, rfl⟩
  obtain ⟨msg, hmsg⟩ : ∃ l : List UInt8, l = [109, 101, 115, 115, 97, 103, 101] := ⟨_, rfl⟩
  have ls : sec.length ≤ 300 := by rw [hsec]; decide
  have lm : msg.length ≤ 300 := by rw [hmsg]; decide
  have a1 := public_p sec 2 ls
  have a2 := public_p sec 9 ls
  have a3 := sign_p sec 2 3 msg ls lm (by omega)
  have a4 := sign_p sec 2 4 msg ls lm (by omega)
  have e1 : pubR sec 2 = (pub sec 2, 0) := rfl
  have e2 : pubR sec 9 = ([], 1) := rfl
  have e3 : sgnR sec 2 3 msg = (sgn sec 2 3 msg, 0) := rfl
  have e4 : sgnR sec 2 4 msg = (⟨0, [], []⟩, 1) := rfl
  rw [e1] at a1
  rw [e2] at a2
  rw [e3] at a3
  rw [e4] at a4
  have hv := ver_sgn (s := sec) (m := msg) (h := 2) (i := 3) (by omega) (by decide)
  have hsm := small_sgn sec (h := 2) (i := 3) msg (by omega) (by decide)
  obtain ⟨p1, p2, p3, p4⟩ := sgn_parts sec (h := 2) (i := 3) msg (by omega) (by decide)
  have hidx : (sgn sec 2 3 msg).idx = 3 := rfl
  generalize sgn sec 2 3 msg = S at *
  generalize pub sec 2 = P at *
  obtain ⟨si, ss, sp⟩ := S
  simp only at p1 p2 p3 p4 hidx
  subst hidx
  have b1 := verify_p P msg ⟨3, ss, sp⟩ hsm lm
  rw [hv] at b1
  have b2 := verify_p P msg ⟨3, ss, sp.take 1⟩ (small_of_is (by simp only; omega) p3 (by simp; omega) (fun t ht => p4 t (List.mem_of_mem_take ht))) lm
  rw [ver_idx (by simp [p2])] at b2
  have b3 := verify_p P msg ⟨3, ss.drop 1, sp⟩ (small_of_is (by simp; omega) (fun t ht => p3 t (List.mem_of_mem_drop ht)) (by simp only; omega) p4) lm
  rw [ver_sig (by simp [p1])] at b3
  have b4 := verify_p [] msg ⟨3, ss, sp⟩ hsm lm
  rw [ver_len (by simp)] at b4
  have t1 : strs (sp.take 1) = (strs sp).take 1 := by simp [List.map_take]
  have t2 : strs (ss.drop 1) = (strs ss).drop 1 := by simp [List.map_drop]
  simp only [sealD, sgnD, pubD] at a1 a2 a3 a4 b1 b2 b3 b4
  rw [t1] at b2
  rw [t2] at b3
  have l1 := strs_len ss
  have l2 := strs_len sp
  rw [p1] at l1
  rw [p2] at l2
  have c1 := closed_strs ss
  have c2 := closed_strs sp
  have d1 := erL_strs ss
  have d2 := erL_strs sp
  have k1 := elems_strs ss
  have k2 := elems_strs sp
  have c3 : D.closedL ((strs sp).take 1) = true := by rw [← t1]; exact closed_strs _
  have c4 : D.closedL ((strs ss).drop 1) = true := by rw [← t2]; exact closed_strs _
  have d3 : D.erL ((strs sp).take 1) = (strs sp).take 1 := by rw [← t1]; exact erL_strs _
  have d4 : D.erL ((strs ss).drop 1) = (strs ss).drop 1 := by rw [← t2]; exact erL_strs _
  generalize strs ss = SS at *
  generalize strs sp = SP at *
  simp only [List.map_nil] at a4
  subst hsec
  subst hmsg
  repeat' (first
    | with_reducible first | apply swp_seq | apply swp_reg | apply swp_regD | apply swp_block | apply swp_exit | apply swp_ret | apply swp_skip | apply swp_cd
    | simp only [go_sem, seval, P10, q10, l1, l2]
    | simp (disch := omega) only [w64, w32, wu8, wu16, wu32, wu64]
    | ((with_reducible refine o_call (a1) ?he ?hc ?_); (case he | hc => first | rfl | (simp [D.erL, D.er, D.closedL, D.closed, l1, l2, c1, c2, c3, c4, d1, d2, d3, d4, k1, k2]; done)))
    | ((with_reducible refine o_call (a2) ?he ?hc ?_); (case he | hc => first | rfl | (simp [D.erL, D.er, D.closedL, D.closed, l1, l2, c1, c2, c3, c4, d1, d2, d3, d4, k1, k2]; done)))
    | ((with_reducible refine o_call (a3) ?he ?hc ?_); (case he | hc => first | rfl | (simp [D.erL, D.er, D.closedL, D.closed, l1, l2, c1, c2, c3, c4, d1, d2, d3, d4, k1, k2]; done)))
    | ((with_reducible refine o_call (a4) ?he ?hc ?_); (case he | hc => first | rfl | (simp [D.erL, D.er, D.closedL, D.closed, l1, l2, c1, c2, c3, c4, d1, d2, d3, d4, k1, k2]; done)))
    | ((with_reducible refine o_call (b1) ?he ?hc ?_); (case he | hc => first | rfl | (simp [D.erL, D.er, D.closedL, D.closed, l1, l2, c1, c2, c3, c4, d1, d2, d3, d4, k1, k2]; done)))
    | ((with_reducible refine o_call (b2) ?he ?hc ?_); (case he | hc => first | rfl | (simp [D.erL, D.er, D.closedL, D.closed, l1, l2, c1, c2, c3, c4, d1, d2, d3, d4, k1, k2]; done)))
    | ((with_reducible refine o_call (b3) ?he ?hc ?_); (case he | hc => first | rfl | (simp [D.erL, D.er, D.closedL, D.closed, l1, l2, c1, c2, c3, c4, d1, d2, d3, d4, k1, k2]; done)))
    | ((with_reducible refine o_call (b4) ?he ?hc ?_); (case he | hc => first | rfl | (simp [D.erL, D.er, D.closedL, D.closed, l1, l2, c1, c2, c3, c4, d1, d2, d3, d4, k1, k2]; done)))
    | ((with_reducible apply s_slFF); (case hx => first | rfl | assumption | omega | ((first | refine ⟨?_, ?_⟩ | skip) <;> first | omega | (simp only [lN, l1, l2, c1, c2, c3, c4, d1, d2, d3, d4, k1, k2] <;> omega)) | (simp [elemsK, D.isVal, D.cells, D.closedL, D.closed, l1, l2, c1, c2, c3, c4, d1, d2, d3, d4, k1, k2]; first | done | omega)))
    | ((with_reducible first | apply s_slTF | apply s_slFT); (case h0 | h1 | hx => first | rfl | assumption | omega | ((first | refine ⟨?_, ?_⟩ | skip) <;> first | omega | (simp only [lN, l1, l2, c1, c2, c3, c4, d1, d2, d3, d4, k1, k2] <;> omega)) | (simp [elemsK, D.isVal, D.cells, D.closedL, D.closed, l1, l2, c1, c2, c3, c4, d1, d2, d3, d4, k1, k2]; first | done | omega)))
    | ((with_reducible apply s_slTT); (case h0 | h1 | h2 | hx => first | rfl | assumption | omega | ((first | refine ⟨?_, ?_⟩ | skip) <;> first | omega | (simp only [lN, l1, l2, c1, c2, c3, c4, d1, d2, d3, d4, k1, k2] <;> omega)) | (simp [elemsK, D.isVal, D.cells, D.closedL, D.closed, l1, l2, c1, c2, c3, c4, d1, d2, d3, d4, k1, k2]; first | done | omega)))
    | ((with_reducible first | apply s_smTF | apply s_smFT); (case h0 | h1 | hc => first | rfl | assumption | omega | ((first | refine ⟨?_, ?_⟩ | skip) <;> first | omega | (simp only [lN, l1, l2, c1, c2, c3, c4, d1, d2, d3, d4, k1, k2] <;> omega)) | (simp [elemsK, D.isVal, D.cells, D.closedL, D.closed, l1, l2, c1, c2, c3, c4, d1, d2, d3, d4, k1, k2]; first | done | omega)))
    | ((with_reducible apply s_smTT); (case h0 | h1 | h2 | hc => first | rfl | assumption | omega | ((first | refine ⟨?_, ?_⟩ | skip) <;> first | omega | (simp only [lN, l1, l2, c1, c2, c3, c4, d1, d2, d3, d4, k1, k2] <;> omega)) | (simp [elemsK, D.isVal, D.cells, D.closedL, D.closed, l1, l2, c1, c2, c3, c4, d1, d2, d3, d4, k1, k2]; first | done | omega)))
    | with_reducible first | apply cd_dec | apply cd_eq | apply cd_ne | apply cd_split | apply gd_dec | apply gd_eq | apply gd_ne | apply gd_split
    | ((with_reducible refine And.intro ?hw ?_); (case hw => first | omega | rfl | exact ⟨_, _, rfl⟩ | assumption | (simp only [lN, l1, l2, c1, c2, c3, c4, d1, d2, d3, d4, k1, k2] <;> omega)))
    | with_reducible intro _)
  all_goals first
    | omega
    | (exfalso; omega)
    | (simp [D.closed, D.er]; done)
end Go.Proofs.YtgjkhlnpplajjaaDoor
end
section
set_option maxRecDepth 100000
set_option linter.unusedSimpArgs false
set_option linter.unusedVariables false
namespace Go.Proofs.YtgjkhlnpplajjaaDoor
open Go GoV Go.RowKit
end Go.Proofs.YtgjkhlnpplajjaaDoor
end
section
set_option maxRecDepth 100000
set_option linter.unusedSimpArgs false
set_option linter.unusedVariables false
namespace Go.Proofs.YtgjkhlnpplajjaaDoor
open Go GoV Go.RowKit
end Go.Proofs.YtgjkhlnpplajjaaDoor
end
section
set_option maxRecDepth 100000
set_option linter.unusedSimpArgs false
set_option linter.unusedVariables false
namespace Go.Proofs.YtgjkhlnpplajjaaDoor
open Go GoV Go.RowKit
end Go.Proofs.YtgjkhlnpplajjaaDoor
end
section
set_option maxRecDepth 100000
set_option linter.unusedSimpArgs false
set_option linter.unusedVariables false
namespace Go.Proofs.YtgjkhlnpplajjaaDoor
open Go GoV Go.RowKit
theorem opens_strs {w : World} : ∀ n, Opens Tryd.prog w n 22 (fun l : List (List UInt8) => [.slice (strs l) .no]) (fun l => l.length ≤ 9223372036854775807) :=
  opens_all fun _ => (opens_slice Tryd.underlying22 (show 0 < Tryd.prog.cellsOf 9 by rw [show Tryd.prog.cellsOf 9 = 1 by kernel_rfl]; exact Nat.one_pos) (opens_str Tryd.underlying9)).imp id (fun a _ => rfl) (fun a h => h.1)
theorem opens_seal {w : World} : ∀ n, Opens Tryd.prog w n 24 (fun x : Seal => [.int .i64 x.idx, .slice (strs x.sig) .no, .slice (strs x.path) .no]) (fun x => -9223372036854775808 ≤ x.idx ∧ x.idx ≤ 9223372036854775807) := by
  refine opens_all fun n => ?_
  have hF : OpensF Tryd.prog w n [⟨"Index", 3, 0, false, "", "", 0⟩, ⟨"Sig", 22, 1, false, "", "", 8⟩, ⟨"Path", 22, 2, false, "", "", 32⟩] 0 _ _ :=
    opensF_cons (c := 1) rfl (by kernel_rfl) (opens_i64 Tryd.underlying3) (opensF_cons (c := 1) rfl (by kernel_rfl) (opens_strs n) (opensF_cons (c := 1) rfl (by kernel_rfl) (opens_strs n) opensF_nil))
  exact (opens_struct Tryd.underlying24 (by kernel_rfl) hF).imp (fun a => ⟨a.1, a.2.1, a.2.2.1⟩) (fun a _ => by simp) (fun a h => h.1)
end Go.Proofs.YtgjkhlnpplajjaaDoor
end
section
set_option maxRecDepth 100000
set_option linter.unusedSimpArgs false
set_option linter.unusedVariables false
namespace Go.Proofs.YtgjkhlnpplajjaaDoor
open Go GoV Go.RowKit
theorem chnL_small {t : List UInt8} {n : Nat} (h : t.length < 65536) : ∀ x ∈ chnL t n, x.length < 65536 := by
  intro x hx
  obtain ⟨j, _, rfl⟩ := List.mem_map.1 hx
  exact chn_lt h j
theorem nodT_small {a b : List UInt8} (ha : a.length ≤ 1000) (hb : b.length ≤ 1000) : (nodT a b).length < 65536 := by
  have := joined_len (okL_node ha hb)
  have e : joined [wnode, a, b] = nodT a b := rfl
  rw [e] at this
  omega
theorem pairsT_small : ∀ l : List (List UInt8), (∀ x ∈ l, x.length ≤ 1000) → ∀ t ∈ pairsT l, t.length < 65536
  | [], _, t, ht => by simp [pairsT] at ht
  | [_], _, t, ht => by simp [pairsT] at ht
  | a :: b :: l, h, t, ht => by
    simp only [pairsT, List.mem_cons] at ht
    rcases ht with rfl | ht
    · exact nodT_small (h a (by simp)) (h b (by simp))
    · exact pairsT_small l (fun x hx => h x (by simp [hx])) t ht
theorem nodesL_small : ∀ (n : Nat) (l : List (List UInt8)), l.length ≤ n → (∀ x ∈ l, x.length ≤ 1000) → (nodesL l).length ≤ l.length ∧ ∀ t ∈ nodesL l, t.length < 65536
  | 0, l, hn, _ => by rw [nodesL_one (by omega)]; simp
  | n + 1, l, hn, h => by
    by_cases q : 1 < l.length
    · rw [nodesL_up q]
      have hu := up_len l
      have hp := pairsT_len l
      obtain ⟨i1, i2⟩ := nodesL_small n (up l) (by omega) (up_small l)
      refine ⟨by rw [List.length_append]; omega, fun t ht => ?_⟩
      rcases List.mem_append.1 ht with ht | ht
      · exact pairsT_small l h t ht
      · exact i2 t ht
    · rw [nodesL_one (by omega)]; simp
theorem made_small {s : List UInt8} {h n : Nat} (hs : s.length ≤ 300) (hh : h ≤ 2) (hn : n ≤ 30) : (made s h n).length ≤ 3100 ∧ ∀ t ∈ made s h n, t.length < 65536 := by
  have hN : 2 ^ h ≤ 2 ^ 2 := Nat.pow_le_pow_right (by omega) (by omega)
  have h4 : (2 : Nat) ^ 2 = 4 := by decide
  obtain ⟨i1, i2⟩ := nodesL_small _ (keys s (2 ^ h)) (Nat.le_refl _) (keys_small _ _)
  have hk := keys_len s (2 ^ h)
  have hb := outNK_bnd (s := s) (n := n) (i := 2 ^ h) (k := 0) hn (by omega) (by omega)
  rw [outNK_zero] at hb
  have hm : made s h n = outN s n (2 ^ h) ++ nodesL (keys s (2 ^ h)) := rfl
  refine ⟨by rw [hm, List.length_append]; omega, fun t ht => ?_⟩
  rw [hm] at ht
  rcases List.mem_append.1 ht with ht | ht
  · obtain ⟨l, hl, ht⟩ := List.mem_flatten.1 ht
    obtain ⟨i, hi, rfl⟩ := List.mem_map.1 hl
    have hi' : i < 2 ^ h := by simpa using hi
    rcases List.mem_append.1 ht with ht | ht
    · obtain ⟨l, hl, ht⟩ := List.mem_flatten.1 ht
      obtain ⟨k, hk, rfl⟩ := List.mem_map.1 hl
      have hk' : k < 18 := by simpa using hk
      rcases List.mem_cons.1 ht with rfl | ht
      · have := joined_len (okL_start (s := s) (i := i) (k := k) hs (by omega) (by omega))
        have e : joined [s, Lib.itoa (i : Int), Lib.itoa (k : Int)] = startT s i k := rfl
        rw [e] at this
        omega
      · exact chnL_small (by rw [start_len]; omega) t ht
    · rw [List.mem_singleton] at ht
      subst ht
      have := joined_len (okL_ends s i)
      have e : joined (ends s i) = keyT s i := rfl
      rw [e] at this
      omega
  · exact i2 t ht
theorem climbT_small : ∀ (p : List (List UInt8)) (a : List UInt8) (i : Nat), a.length ≤ 1000 → (∀ x ∈ p, x.length ≤ 1000) → ∀ t ∈ climbT a p i, t.length < 65536
  | [], _, _, _, _, t, ht => by simp [climbT] at ht
  | x :: p, a, i, ha, hp, t, ht => by
    simp only [climbT, List.mem_cons] at ht
    rcases ht with rfl | ht
    · split
      · exact nodT_small (hp x (by simp)) ha
      · exact nodT_small ha (hp x (by simp))
    · refine climbT_small p _ (i / 2) ?_ (fun y hy => hp y (by simp [hy])) t ht
      rw [par_sum, sumN_len]; omega
theorem checked_small {m : List UInt8} {x : Seal} (hx : SmallS x) (h8 : x.path.length ≤ 8) : (checked m x).length ≤ 300 ∧ ∀ t ∈ checked m x, t.length < 65536 := by
  have e : checked m x = chkP m x.sig 18 ++ [joined (ends' m x.sig)] ++ climbT (sumN (joined (ends' m x.sig))) x.path x.idx.toNat := rfl
  rw [e]
  have h1 := chkP_len m x.sig 18
  have h2 := climbT_len x.path (sumN (joined (ends' m x.sig))) x.idx.toNat
  refine ⟨by rw [List.length_append, List.length_append, h2]; simp; omega, fun t ht => ?_⟩
  rcases List.mem_append.1 ht with ht | ht
  · rcases List.mem_append.1 ht with ht | ht
    · obtain ⟨l, hl, ht⟩ := List.mem_flatten.1 ht
      obtain ⟨k, hk, rfl⟩ := List.mem_map.1 hl
      have := get_small (i := k) hx.sx
      exact chnL_small (by omega) t ht
    · rw [List.mem_singleton] at ht
      subst ht
      have := joined_len (okL_ends' (m := m) hx.sx)
      omega
  · exact climbT_small x.path _ _ (by rw [sumN_len]; omega) hx.px t ht
theorem shown_two {a b : List (List UInt8)} (h1 : a.length ≤ 4000) (h2 : ∀ t ∈ a, t.length < 65536) (h3 : b.length ≤ 4000) (h4 : ∀ t ∈ b, t.length < 65536) : Pur M 22 [.slice (strs a ++ strs b) .no] (.bool (shownB (a ++ b))) := by
  have e : strs a ++ strs b = strs (a ++ b) := by simp
  rw [e]
  refine shown_p (a ++ b) (by rw [List.length_append]; omega) fun t ht => ?_
  rcases List.mem_append.1 ht with ht | ht
  · exact h2 t ht
  · exact h4 t ht
theorem inj_two {a b : List (List UInt8)} (h : shownB (a ++ b) = false) : Inj (fun t => t ∈ a ++ b) ∧ (∀ t ∈ a, t ∈ a ++ b) ∧ ∀ t ∈ b, t ∈ a ++ b :=
  ⟨inj_of_shown h, fun t ht => List.mem_append.2 (.inl ht), fun t ht => List.mem_append.2 (.inr ht)⟩
theorem made_call {s : List UInt8} {h n : Nat} (hs : s.length ≤ 300) (hh : h ≤ 2) (hn : 15 ≤ n) (hn2 : n ≤ 30) (H : List Blk) :
    CallOp M (.fn (.func 23) [] [] :: [.str s, .int .i64 (h : Nat), .int .i64 (n : Nat)]) ⟨H, []⟩ (fun d hp => d = .slice (strs (made s h n)) (.tok 0) ∧ hp = ⟨H, [.per 1 (made s h n).length]⟩) := by
  refine call_eff [] [] (made_e s h n hs hh hn hn2) ⟨by simp, by simp, by simp, by simp⟩ ?_ rfl ?_
  · simp [D.rnL, D.rn]
  · rintro d hp ⟨rfl, rfl⟩
    refine ⟨?_, ?_⟩
    · simp [D.rn, rnL_strs, Own.rn, bakF]
    · simp [Hp.back, putAt, Tv.rnL, Tv.rn, Blk.rnL]
end Go.Proofs.YtgjkhlnpplajjaaDoor
end
