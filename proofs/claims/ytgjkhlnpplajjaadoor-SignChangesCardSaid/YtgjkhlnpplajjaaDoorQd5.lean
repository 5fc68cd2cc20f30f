/- Own texts, merged by a program: the engine that walks the code, and what the functions that the law reaches compute. -/
import Derived.Test.YtgjkhlnpplajjaaDoorQd4
import Derived.Test.YtgjkhlnpplajjaaDoorProg
import Derived.KernelRfl
import Derived.Lib.ItoaNum
section
set_option maxRecDepth 100000
set_option linter.unusedSimpArgs false
set_option linter.unusedVariables false
namespace Go.Proofs.YtgjkhlnpplajjaaDoor
open Go GoV Go.RowKit
structure SmallS (x : Seal) : Prop where
  sl : x.sig.length ≤ 1000
  sx : ∀ t ∈ x.sig, t.length ≤ 1000
  pl : x.path.length ≤ 1000
  px : ∀ t ∈ x.path, t.length ≤ 1000
def endsV (m : List UInt8) (g : List (List UInt8)) (k : Nat) : List (List UInt8) := (List.range k).map fun k => chn (15 - (dgt m).getD k 0) (g.getD k [])
theorem endsV_len (m : List UInt8) (g : List (List UInt8)) (k : Nat) : (endsV m g k).length = k := by simp [endsV]
theorem endsV_succ (m : List UInt8) (g : List (List UInt8)) (k : Nat) : endsV m g (k + 1) = endsV m g k ++ [chn (15 - (dgt m).getD k 0) (g.getD k [])] := by simp [endsV, List.range_succ]
theorem endsV_all (m : List UInt8) (g : List (List UInt8)) : endsV m g 18 = ends' m g := rfl
theorem isD_len {t : List UInt8} (h : isD t = true) : t.length = 16 := by
  unfold isD at h
  simp only [Bool.and_eq_true, decide_eq_true_eq, beq_iff_eq] at h
  exact h.1
theorem okL_ends' {m : List UInt8} {g : List (List UInt8)} (h : ∀ t ∈ g, t.length ≤ 1000) : okL (ends' m g) := by
  refine ⟨by simp [ends'], fun t ht => ?_⟩
  obtain ⟨k, _, rfl⟩ := List.mem_map.1 ht
  by_cases e : 15 - (dgt m).getD k 0 = 0
  · rw [e]; exact get_small h
  · rw [chn_len e]; omega
theorem climb_len {p : List (List UInt8)} {a : List UInt8} {i : Nat} (ha : a.length = 16) : (climb a p i).length = 16 := by
  induction p generalizing a i with
  | nil => exact ha
  | cons x p ih => exact ih (by rw [par_sum]; exact sumN_len _)
theorem shr_nat {j k : Nat} (hk : k ≤ 40) : ((j : Nat) : Int).fdiv (2 ^ (min k 64)) = ((j / 2 ^ k : Nat) : Int) := by
  rw [Nat.min_eq_left (by omega), Int.fdiv_eq_ediv_of_nonneg _ (by exact_mod_cast Nat.zero_le _)]
  simp
def hpV (x : Seal) (m : List UInt8) (k : Nat) : Hp :=
  ⟨[.cells [.int .i64 x.idx, .slice (strs x.sig) .no, .slice (strs x.path) .no], .cells [.slice (strs (endsV m x.sig k)) (.tok 0)]], [.per 1 k]⟩
set_option maxHeartbeats 4000000 in
theorem verify_p (p m : List UInt8) (x : Seal) (hx : SmallS x) (hm : m.length ≤ 300) : Pur M 18 [.str p, .str m, sealD x] (.bool (ver p m x)) := by
  refine oT18 rfl ?_
  rw [i18]
  unfold c18 sealD
  have hsl := strs_len x.sig
  have hpl := strs_len x.path
  have heS := erL_strs x.sig
  have hcS := closed_strs x.sig
  have heP := erL_strs x.path
  have hcP := closed_strs x.path
  have o1 := odd_p x.sig hx.sl hx.sx
  have o2 := odd_p x.path hx.pl hx.px
  by_cases q1 : x.sig.length = 18
  case neg =>
    have hf : ver p m x = false := by unfold ver okS; simp [q1]
    rw [hf]
    have e1 : decide (((x.sig.length : Nat) : Int) ≠ 18) = true := decide_eq_true (by omega)
    generalize strs x.sig = S at *
    generalize strs x.path = P at *
    repeat' (first
    | with_reducible first | apply swp_seq | apply swp_reg | apply swp_regD | apply swp_block | apply swp_exit | apply swp_ret | apply swp_skip | apply swp_cd
    | with_reducible apply twp_seq
    | with_reducible apply twp_block
    | ((with_reducible refine twp_reg ?hb ?_); (case hb => exact fun _ _ => trivial); with_reducible intro _)
    | ((with_reducible refine twp_regD ?hb ?_); (case hb => exact fun _ _ => trivial); with_reducible intro _)
    | ((with_reducible refine twp_cond ?hb ?_); (case hb => exact fun _ _ => trivial); with_reducible intro _)
    | ((with_reducible refine twp_ret ?hb ?_); (case hb => exact fun _ _ => trivial))
    | simp only [go_sem, seval, P18, q18, q_shl, hsl, hpl, e1]
    | simp (disch := omega) only [w64, w32, wu8, wu16, wu32, wu64]
    | ((with_reducible apply s_appT); (case he => rfl); (case hK | hc | hr | hV => first | rfl | assumption | omega | ((first | refine ⟨?_, ?_⟩ | skip) <;> first | omega | (simp only [lN, heS, hcS, heP, hcP] <;> omega)) | (simp [elemsK, D.isVal, D.cells, D.closedL, D.closed, heS, hcS, heP, hcP]; first | done | omega)))
    | ((with_reducible apply s_appG); (case he => rfl); (case hV | hK | hr | hl => first | rfl | assumption | omega | ((first | refine ⟨?_, ?_⟩ | skip) <;> first | omega | (simp only [lN, heS, hcS, heP, hcP] <;> omega)) | (simp [elemsK, D.isVal, D.cells, D.closedL, D.closed, heS, hcS, heP, hcP]; first | done | omega)))
    | ((with_reducible apply s_app0); (case he => rfl); (case hK | hc | hr => first | rfl | assumption | omega | ((first | refine ⟨?_, ?_⟩ | skip) <;> first | omega | (simp only [lN, heS, hcS, heP, hcP] <;> omega)) | (simp [elemsK, D.isVal, D.cells, D.closedL, D.closed, heS, hcS, heP, hcP]; first | done | omega)))
    | ((with_reducible apply s_appF); (case he => rfl); (case hK | hc | hr | hx | hn => first | rfl | assumption | omega | ((first | refine ⟨?_, ?_⟩ | skip) <;> first | omega | (simp only [lN, heS, hcS, heP, hcP] <;> omega)) | (simp [elemsK, D.isVal, D.cells, D.closedL, D.closed, heS, hcS, heP, hcP]; first | done | omega)))
    | ((with_reducible first | apply s_bsl | apply t_bsl); (case he | hl | hc => first | rfl | assumption | omega | ((first | refine ⟨?_, ?_⟩ | skip) <;> first | omega | (simp only [lN, heS, hcS, heP, hcP] <;> omega)) | (simp [elemsK, D.isVal, D.cells, D.closedL, D.closed, heS, hcS, heP, hcP]; first | done | omega)))
    | with_reducible first | apply cd_dec | apply cd_eq | apply cd_ne | apply cd_split | apply gd_dec | apply gd_eq | apply gd_ne | apply gd_split | apply gq_dec | apply gq_eq | apply gq_ne | apply gq_split
    | ((with_reducible refine And.intro ?hw ?_); (case hw => first | omega | rfl | exact ⟨_, _, rfl⟩ | assumption | (simp only [lN, heS, hcS, heP, hcP] <;> omega)))
    | with_reducible intro _)
    all_goals try omega
    refine ⟨_, fun _ => weak_refl, ?_⟩
    simp [go_sem, D.closed, D.er]
  case pos =>
  rw [q1] at hsl
  by_cases q2 : x.path.length ≤ 8
  case neg =>
    have hf : ver p m x = false := by unfold ver okS; simp [q2]
    rw [hf]
    have e2 : decide (8 < ((x.path.length : Nat) : Int)) = true := decide_eq_true (by omega)
    generalize strs x.sig = S at *
    generalize strs x.path = P at *
    repeat' (first
    | with_reducible first | apply swp_seq | apply swp_reg | apply swp_regD | apply swp_block | apply swp_exit | apply swp_ret | apply swp_skip | apply swp_cd
    | with_reducible apply twp_seq
    | with_reducible apply twp_block
    | ((with_reducible refine twp_reg ?hb ?_); (case hb => exact fun _ _ => trivial); with_reducible intro _)
    | ((with_reducible refine twp_regD ?hb ?_); (case hb => exact fun _ _ => trivial); with_reducible intro _)
    | ((with_reducible refine twp_cond ?hb ?_); (case hb => exact fun _ _ => trivial); with_reducible intro _)
    | ((with_reducible refine twp_ret ?hb ?_); (case hb => exact fun _ _ => trivial))
    | simp only [go_sem, seval, P18, q18, q_shl, hsl, hpl, e2]
    | simp (disch := omega) only [w64, w32, wu8, wu16, wu32, wu64]
    | ((with_reducible apply s_appT); (case he => rfl); (case hK | hc | hr | hV => first | rfl | assumption | omega | ((first | refine ⟨?_, ?_⟩ | skip) <;> first | omega | (simp only [lN, heS, hcS, heP, hcP] <;> omega)) | (simp [elemsK, D.isVal, D.cells, D.closedL, D.closed, heS, hcS, heP, hcP]; first | done | omega)))
    | ((with_reducible apply s_appG); (case he => rfl); (case hV | hK | hr | hl => first | rfl | assumption | omega | ((first | refine ⟨?_, ?_⟩ | skip) <;> first | omega | (simp only [lN, heS, hcS, heP, hcP] <;> omega)) | (simp [elemsK, D.isVal, D.cells, D.closedL, D.closed, heS, hcS, heP, hcP]; first | done | omega)))
    | ((with_reducible apply s_app0); (case he => rfl); (case hK | hc | hr => first | rfl | assumption | omega | ((first | refine ⟨?_, ?_⟩ | skip) <;> first | omega | (simp only [lN, heS, hcS, heP, hcP] <;> omega)) | (simp [elemsK, D.isVal, D.cells, D.closedL, D.closed, heS, hcS, heP, hcP]; first | done | omega)))
    | ((with_reducible apply s_appF); (case he => rfl); (case hK | hc | hr | hx | hn => first | rfl | assumption | omega | ((first | refine ⟨?_, ?_⟩ | skip) <;> first | omega | (simp only [lN, heS, hcS, heP, hcP] <;> omega)) | (simp [elemsK, D.isVal, D.cells, D.closedL, D.closed, heS, hcS, heP, hcP]; first | done | omega)))
    | ((with_reducible first | apply s_bsl | apply t_bsl); (case he | hl | hc => first | rfl | assumption | omega | ((first | refine ⟨?_, ?_⟩ | skip) <;> first | omega | (simp only [lN, heS, hcS, heP, hcP] <;> omega)) | (simp [elemsK, D.isVal, D.cells, D.closedL, D.closed, heS, hcS, heP, hcP]; first | done | omega)))
    | with_reducible first | apply cd_dec | apply cd_eq | apply cd_ne | apply cd_split | apply gd_dec | apply gd_eq | apply gd_ne | apply gd_split | apply gq_dec | apply gq_eq | apply gq_ne | apply gq_split
    | ((with_reducible refine And.intro ?hw ?_); (case hw => first | omega | rfl | exact ⟨_, _, rfl⟩ | assumption | (simp only [lN, heS, hcS, heP, hcP] <;> omega)))
    | with_reducible intro _)
    all_goals try omega
    refine ⟨_, fun _ => weak_refl, ?_⟩
    simp [go_sem, D.closed, D.er]
  case pos =>
  have e2 : decide (8 < ((x.path.length : Nat) : Int)) = false := decide_eq_false (by omega)
  by_cases q3 : x.sig.all isD = true
  case neg =>
    have hf : ver p m x = false := by unfold ver okS; simp [q3]
    rw [hf]
    have q3' : x.sig.all isD = false := by simpa using q3
    rw [q3'] at o1
    generalize strs x.sig = S at *
    generalize strs x.path = P at *
    repeat' (first
    | with_reducible first | apply swp_seq | apply swp_reg | apply swp_regD | apply swp_block | apply swp_exit | apply swp_ret | apply swp_skip | apply swp_cd
    | with_reducible apply twp_seq
    | with_reducible apply twp_block
    | ((with_reducible refine twp_reg ?hb ?_); (case hb => exact fun _ _ => trivial); with_reducible intro _)
    | ((with_reducible refine twp_regD ?hb ?_); (case hb => exact fun _ _ => trivial); with_reducible intro _)
    | ((with_reducible refine twp_cond ?hb ?_); (case hb => exact fun _ _ => trivial); with_reducible intro _)
    | ((with_reducible refine twp_ret ?hb ?_); (case hb => exact fun _ _ => trivial))
    | simp only [go_sem, seval, P18, q18, q_shl, hsl, hpl, e2]
    | simp (disch := omega) only [w64, w32, wu8, wu16, wu32, wu64]
    | ((with_reducible first | refine o_call (o1) ?he ?hc ?_ | refine p_call (o1) ?he ?hc ?_ | refine c_call (o1) ?he ?hc ?_); (case he | hc => first | rfl | (simp [D.erL, D.er, D.closedL, D.closed, heS, hcS, heP, hcP]; done)))
    | ((with_reducible apply s_appT); (case he => rfl); (case hK | hc | hr | hV => first | rfl | assumption | omega | ((first | refine ⟨?_, ?_⟩ | skip) <;> first | omega | (simp only [lN, heS, hcS, heP, hcP] <;> omega)) | (simp [elemsK, D.isVal, D.cells, D.closedL, D.closed, heS, hcS, heP, hcP]; first | done | omega)))
    | ((with_reducible apply s_appG); (case he => rfl); (case hV | hK | hr | hl => first | rfl | assumption | omega | ((first | refine ⟨?_, ?_⟩ | skip) <;> first | omega | (simp only [lN, heS, hcS, heP, hcP] <;> omega)) | (simp [elemsK, D.isVal, D.cells, D.closedL, D.closed, heS, hcS, heP, hcP]; first | done | omega)))
    | ((with_reducible apply s_app0); (case he => rfl); (case hK | hc | hr => first | rfl | assumption | omega | ((first | refine ⟨?_, ?_⟩ | skip) <;> first | omega | (simp only [lN, heS, hcS, heP, hcP] <;> omega)) | (simp [elemsK, D.isVal, D.cells, D.closedL, D.closed, heS, hcS, heP, hcP]; first | done | omega)))
    | ((with_reducible apply s_appF); (case he => rfl); (case hK | hc | hr | hx | hn => first | rfl | assumption | omega | ((first | refine ⟨?_, ?_⟩ | skip) <;> first | omega | (simp only [lN, heS, hcS, heP, hcP] <;> omega)) | (simp [elemsK, D.isVal, D.cells, D.closedL, D.closed, heS, hcS, heP, hcP]; first | done | omega)))
    | ((with_reducible first | apply s_bsl | apply t_bsl); (case he | hl | hc => first | rfl | assumption | omega | ((first | refine ⟨?_, ?_⟩ | skip) <;> first | omega | (simp only [lN, heS, hcS, heP, hcP] <;> omega)) | (simp [elemsK, D.isVal, D.cells, D.closedL, D.closed, heS, hcS, heP, hcP]; first | done | omega)))
    | with_reducible first | apply cd_dec | apply cd_eq | apply cd_ne | apply cd_split | apply gd_dec | apply gd_eq | apply gd_ne | apply gd_split | apply gq_dec | apply gq_eq | apply gq_ne | apply gq_split
    | ((with_reducible refine And.intro ?hw ?_); (case hw => first | omega | rfl | exact ⟨_, _, rfl⟩ | assumption | (simp only [lN, heS, hcS, heP, hcP] <;> omega)))
    | with_reducible intro _)
    all_goals try omega
    refine ⟨_, fun _ => weak_refl, ?_⟩
    simp [go_sem, D.closed, D.er]
  case pos =>
  rw [q3] at o1
  by_cases q4 : x.path.all isD = true
  case neg =>
    have hf : ver p m x = false := by unfold ver okS; simp [q4]
    rw [hf]
    have q4' : x.path.all isD = false := by simpa using q4
    rw [q4'] at o2
    generalize strs x.sig = S at *
    generalize strs x.path = P at *
    repeat' (first
    | with_reducible first | apply swp_seq | apply swp_reg | apply swp_regD | apply swp_block | apply swp_exit | apply swp_ret | apply swp_skip | apply swp_cd
    | with_reducible apply twp_seq
    | with_reducible apply twp_block
    | ((with_reducible refine twp_reg ?hb ?_); (case hb => exact fun _ _ => trivial); with_reducible intro _)
    | ((with_reducible refine twp_regD ?hb ?_); (case hb => exact fun _ _ => trivial); with_reducible intro _)
    | ((with_reducible refine twp_cond ?hb ?_); (case hb => exact fun _ _ => trivial); with_reducible intro _)
    | ((with_reducible refine twp_ret ?hb ?_); (case hb => exact fun _ _ => trivial))
    | simp only [go_sem, seval, P18, q18, q_shl, hsl, hpl, e2]
    | simp (disch := omega) only [w64, w32, wu8, wu16, wu32, wu64]
    | ((with_reducible first | refine o_call (o1) ?he ?hc ?_ | refine p_call (o1) ?he ?hc ?_ | refine c_call (o1) ?he ?hc ?_); (case he | hc => first | rfl | (simp [D.erL, D.er, D.closedL, D.closed, heS, hcS, heP, hcP]; done)))
    | ((with_reducible first | refine o_call (o2) ?he ?hc ?_ | refine p_call (o2) ?he ?hc ?_ | refine c_call (o2) ?he ?hc ?_); (case he | hc => first | rfl | (simp [D.erL, D.er, D.closedL, D.closed, heS, hcS, heP, hcP]; done)))
    | ((with_reducible apply s_appT); (case he => rfl); (case hK | hc | hr | hV => first | rfl | assumption | omega | ((first | refine ⟨?_, ?_⟩ | skip) <;> first | omega | (simp only [lN, heS, hcS, heP, hcP] <;> omega)) | (simp [elemsK, D.isVal, D.cells, D.closedL, D.closed, heS, hcS, heP, hcP]; first | done | omega)))
    | ((with_reducible apply s_appG); (case he => rfl); (case hV | hK | hr | hl => first | rfl | assumption | omega | ((first | refine ⟨?_, ?_⟩ | skip) <;> first | omega | (simp only [lN, heS, hcS, heP, hcP] <;> omega)) | (simp [elemsK, D.isVal, D.cells, D.closedL, D.closed, heS, hcS, heP, hcP]; first | done | omega)))
    | ((with_reducible apply s_app0); (case he => rfl); (case hK | hc | hr => first | rfl | assumption | omega | ((first | refine ⟨?_, ?_⟩ | skip) <;> first | omega | (simp only [lN, heS, hcS, heP, hcP] <;> omega)) | (simp [elemsK, D.isVal, D.cells, D.closedL, D.closed, heS, hcS, heP, hcP]; first | done | omega)))
    | ((with_reducible apply s_appF); (case he => rfl); (case hK | hc | hr | hx | hn => first | rfl | assumption | omega | ((first | refine ⟨?_, ?_⟩ | skip) <;> first | omega | (simp only [lN, heS, hcS, heP, hcP] <;> omega)) | (simp [elemsK, D.isVal, D.cells, D.closedL, D.closed, heS, hcS, heP, hcP]; first | done | omega)))
    | ((with_reducible first | apply s_bsl | apply t_bsl); (case he | hl | hc => first | rfl | assumption | omega | ((first | refine ⟨?_, ?_⟩ | skip) <;> first | omega | (simp only [lN, heS, hcS, heP, hcP] <;> omega)) | (simp [elemsK, D.isVal, D.cells, D.closedL, D.closed, heS, hcS, heP, hcP]; first | done | omega)))
    | with_reducible first | apply cd_dec | apply cd_eq | apply cd_ne | apply cd_split | apply gd_dec | apply gd_eq | apply gd_ne | apply gd_split | apply gq_dec | apply gq_eq | apply gq_ne | apply gq_split
    | ((with_reducible refine And.intro ?hw ?_); (case hw => first | omega | rfl | exact ⟨_, _, rfl⟩ | assumption | (simp only [lN, heS, hcS, heP, hcP] <;> omega)))
    | with_reducible intro _)
    all_goals try omega
    refine ⟨_, fun _ => weak_refl, ?_⟩
    simp [go_sem, D.closed, D.er]
  case pos =>
  rw [q4] at o2
  by_cases q5 : 0 ≤ x.idx
  case neg =>
    have hf : ver p m x = false := by unfold ver okS; simp [q5]
    rw [hf]
    have e5 : decide (x.idx < 0) = true := decide_eq_true (by omega)
    generalize strs x.sig = S at *
    generalize strs x.path = P at *
    repeat' (first
    | with_reducible first | apply swp_seq | apply swp_reg | apply swp_regD | apply swp_block | apply swp_exit | apply swp_ret | apply swp_skip | apply swp_cd
    | with_reducible apply twp_seq
    | with_reducible apply twp_block
    | ((with_reducible refine twp_reg ?hb ?_); (case hb => exact fun _ _ => trivial); with_reducible intro _)
    | ((with_reducible refine twp_regD ?hb ?_); (case hb => exact fun _ _ => trivial); with_reducible intro _)
    | ((with_reducible refine twp_cond ?hb ?_); (case hb => exact fun _ _ => trivial); with_reducible intro _)
    | ((with_reducible refine twp_ret ?hb ?_); (case hb => exact fun _ _ => trivial))
    | simp only [go_sem, seval, P18, q18, q_shl, hsl, hpl, e2, e5]
    | simp (disch := omega) only [w64, w32, wu8, wu16, wu32, wu64]
    | ((with_reducible first | refine o_call (o1) ?he ?hc ?_ | refine p_call (o1) ?he ?hc ?_ | refine c_call (o1) ?he ?hc ?_); (case he | hc => first | rfl | (simp [D.erL, D.er, D.closedL, D.closed, heS, hcS, heP, hcP]; done)))
    | ((with_reducible first | refine o_call (o2) ?he ?hc ?_ | refine p_call (o2) ?he ?hc ?_ | refine c_call (o2) ?he ?hc ?_); (case he | hc => first | rfl | (simp [D.erL, D.er, D.closedL, D.closed, heS, hcS, heP, hcP]; done)))
    | ((with_reducible apply s_appT); (case he => rfl); (case hK | hc | hr | hV => first | rfl | assumption | omega | ((first | refine ⟨?_, ?_⟩ | skip) <;> first | omega | (simp only [lN, heS, hcS, heP, hcP] <;> omega)) | (simp [elemsK, D.isVal, D.cells, D.closedL, D.closed, heS, hcS, heP, hcP]; first | done | omega)))
    | ((with_reducible apply s_appG); (case he => rfl); (case hV | hK | hr | hl => first | rfl | assumption | omega | ((first | refine ⟨?_, ?_⟩ | skip) <;> first | omega | (simp only [lN, heS, hcS, heP, hcP] <;> omega)) | (simp [elemsK, D.isVal, D.cells, D.closedL, D.closed, heS, hcS, heP, hcP]; first | done | omega)))
    | ((with_reducible apply s_app0); (case he => rfl); (case hK | hc | hr => first | rfl | assumption | omega | ((first | refine ⟨?_, ?_⟩ | skip) <;> first | omega | (simp only [lN, heS, hcS, heP, hcP] <;> omega)) | (simp [elemsK, D.isVal, D.cells, D.closedL, D.closed, heS, hcS, heP, hcP]; first | done | omega)))
    | ((with_reducible apply s_appF); (case he => rfl); (case hK | hc | hr | hx | hn => first | rfl | assumption | omega | ((first | refine ⟨?_, ?_⟩ | skip) <;> first | omega | (simp only [lN, heS, hcS, heP, hcP] <;> omega)) | (simp [elemsK, D.isVal, D.cells, D.closedL, D.closed, heS, hcS, heP, hcP]; first | done | omega)))
    | ((with_reducible first | apply s_bsl | apply t_bsl); (case he | hl | hc => first | rfl | assumption | omega | ((first | refine ⟨?_, ?_⟩ | skip) <;> first | omega | (simp only [lN, heS, hcS, heP, hcP] <;> omega)) | (simp [elemsK, D.isVal, D.cells, D.closedL, D.closed, heS, hcS, heP, hcP]; first | done | omega)))
    | with_reducible first | apply cd_dec | apply cd_eq | apply cd_ne | apply cd_split | apply gd_dec | apply gd_eq | apply gd_ne | apply gd_split | apply gq_dec | apply gq_eq | apply gq_ne | apply gq_split
    | ((with_reducible refine And.intro ?hw ?_); (case hw => first | omega | rfl | exact ⟨_, _, rfl⟩ | assumption | (simp only [lN, heS, hcS, heP, hcP] <;> omega)))
    | with_reducible intro _)
    all_goals try omega
    refine ⟨_, fun _ => weak_refl, ?_⟩
    simp [go_sem, D.closed, D.er]
  case pos =>
  have e5 : decide (x.idx < 0) = false := decide_eq_false (by omega)
  have hw := shl_one (h := x.path.length) (by omega)
  have e4 : (2 : Int) ^ x.path.length = ((2 ^ x.path.length : Nat) : Int) := by simp
  by_cases q6 : x.idx < ((2 ^ x.path.length : Nat) : Int)
  case neg =>
    have hf : ver p m x = false := by unfold ver okS; rw [e4, decide_eq_false q6, Bool.and_false, Bool.false_and]
    rw [hf]
    have e6 : decide (((2 ^ x.path.length : Nat) : Int) ≤ x.idx) = true := decide_eq_true (by omega)
    generalize 2 ^ x.path.length = N at *
    generalize strs x.sig = S at *
    generalize strs x.path = P at *
    repeat' (first
    | with_reducible first | apply swp_seq | apply swp_reg | apply swp_regD | apply swp_block | apply swp_exit | apply swp_ret | apply swp_skip | apply swp_cd
    | with_reducible apply twp_seq
    | with_reducible apply twp_block
    | ((with_reducible refine twp_reg ?hb ?_); (case hb => exact fun _ _ => trivial); with_reducible intro _)
    | ((with_reducible refine twp_regD ?hb ?_); (case hb => exact fun _ _ => trivial); with_reducible intro _)
    | ((with_reducible refine twp_cond ?hb ?_); (case hb => exact fun _ _ => trivial); with_reducible intro _)
    | ((with_reducible refine twp_ret ?hb ?_); (case hb => exact fun _ _ => trivial))
    | simp only [go_sem, seval, P18, q18, q_shl, hsl, hpl, e2, e5, hw, e6]
    | simp (disch := omega) only [w64, w32, wu8, wu16, wu32, wu64]
    | ((with_reducible first | refine o_call (o1) ?he ?hc ?_ | refine p_call (o1) ?he ?hc ?_ | refine c_call (o1) ?he ?hc ?_); (case he | hc => first | rfl | (simp [D.erL, D.er, D.closedL, D.closed, heS, hcS, heP, hcP]; done)))
    | ((with_reducible first | refine o_call (o2) ?he ?hc ?_ | refine p_call (o2) ?he ?hc ?_ | refine c_call (o2) ?he ?hc ?_); (case he | hc => first | rfl | (simp [D.erL, D.er, D.closedL, D.closed, heS, hcS, heP, hcP]; done)))
    | ((with_reducible apply s_appT); (case he => rfl); (case hK | hc | hr | hV => first | rfl | assumption | omega | ((first | refine ⟨?_, ?_⟩ | skip) <;> first | omega | (simp only [lN, heS, hcS, heP, hcP] <;> omega)) | (simp [elemsK, D.isVal, D.cells, D.closedL, D.closed, heS, hcS, heP, hcP]; first | done | omega)))
    | ((with_reducible apply s_appG); (case he => rfl); (case hV | hK | hr | hl => first | rfl | assumption | omega | ((first | refine ⟨?_, ?_⟩ | skip) <;> first | omega | (simp only [lN, heS, hcS, heP, hcP] <;> omega)) | (simp [elemsK, D.isVal, D.cells, D.closedL, D.closed, heS, hcS, heP, hcP]; first | done | omega)))
    | ((with_reducible apply s_app0); (case he => rfl); (case hK | hc | hr => first | rfl | assumption | omega | ((first | refine ⟨?_, ?_⟩ | skip) <;> first | omega | (simp only [lN, heS, hcS, heP, hcP] <;> omega)) | (simp [elemsK, D.isVal, D.cells, D.closedL, D.closed, heS, hcS, heP, hcP]; first | done | omega)))
    | ((with_reducible apply s_appF); (case he => rfl); (case hK | hc | hr | hx | hn => first | rfl | assumption | omega | ((first | refine ⟨?_, ?_⟩ | skip) <;> first | omega | (simp only [lN, heS, hcS, heP, hcP] <;> omega)) | (simp [elemsK, D.isVal, D.cells, D.closedL, D.closed, heS, hcS, heP, hcP]; first | done | omega)))
    | ((with_reducible first | apply s_bsl | apply t_bsl); (case he | hl | hc => first | rfl | assumption | omega | ((first | refine ⟨?_, ?_⟩ | skip) <;> first | omega | (simp only [lN, heS, hcS, heP, hcP] <;> omega)) | (simp [elemsK, D.isVal, D.cells, D.closedL, D.closed, heS, hcS, heP, hcP]; first | done | omega)))
    | with_reducible first | apply cd_dec | apply cd_eq | apply cd_ne | apply cd_split | apply gd_dec | apply gd_eq | apply gd_ne | apply gd_split | apply gq_dec | apply gq_eq | apply gq_ne | apply gq_split
    | ((with_reducible refine And.intro ?hw ?_); (case hw => first | omega | rfl | exact ⟨_, _, rfl⟩ | assumption | (simp only [lN, heS, hcS, heP, hcP] <;> omega)))
    | with_reducible intro _)
    all_goals try omega
    refine ⟨_, fun _ => weak_refl, ?_⟩
    simp [go_sem, D.closed, D.er]
  case pos =>
  have e6 : decide (((2 ^ x.path.length : Nat) : Int) ≤ x.idx) = false := decide_eq_false (by omega)
  have hok : okS x = true := by
    unfold okS
    rw [e4]
    rw [q3, q4, decide_eq_true q1, decide_eq_true q2, decide_eq_true q5, decide_eq_true q6]
    rfl
  unfold ver
  rw [hok, Bool.true_and]
  have c1 := sdigits_p m
  have hit := digits_it m (by omega)
  have c3 := of_p (ends' m x.sig) (okL_ends' hx.sx)
  have hN : 2 ^ x.path.length ≤ 2 ^ 8 := Nat.pow_le_pow_right (by omega) (by omega)
  have h256 : (2 : Nat) ^ 8 = 256 := by decide
  generalize hN2 : 2 ^ x.path.length = N at *
  repeat' (first
    | with_reducible first | apply swp_seq | apply swp_reg | apply swp_regD | apply swp_block | apply swp_exit | apply swp_ret | apply swp_skip | apply swp_cd
    | with_reducible apply twp_seq
    | with_reducible apply twp_block
    | ((with_reducible refine twp_reg ?hb ?_); (case hb => exact fun _ _ => trivial); with_reducible intro _)
    | ((with_reducible refine twp_regD ?hb ?_); (case hb => exact fun _ _ => trivial); with_reducible intro _)
    | ((with_reducible refine twp_cond ?hb ?_); (case hb => exact fun _ _ => trivial); with_reducible intro _)
    | ((with_reducible refine twp_ret ?hb ?_); (case hb => exact fun _ _ => trivial))
    | simp only [go_sem, seval, P18, q18, q_shl, hsl, hpl, e2, e5, hw, e6]
    | simp (disch := omega) only [w64, w32, wu8, wu16, wu32, wu64]
    | ((with_reducible first | refine o_call (o1) ?he ?hc ?_ | refine p_call (o1) ?he ?hc ?_ | refine c_call (o1) ?he ?hc ?_); (case he | hc => first | rfl | (simp [D.erL, D.er, D.closedL, D.closed, heS, hcS, heP, hcP]; done)))
    | ((with_reducible first | refine o_call (o2) ?he ?hc ?_ | refine p_call (o2) ?he ?hc ?_ | refine c_call (o2) ?he ?hc ?_); (case he | hc => first | rfl | (simp [D.erL, D.er, D.closedL, D.closed, heS, hcS, heP, hcP]; done)))
    | ((with_reducible first | refine o_call (c1) ?he ?hc ?_ | refine p_call (c1) ?he ?hc ?_ | refine c_call (c1) ?he ?hc ?_); (case he | hc => first | rfl | (simp [D.erL, D.er, D.closedL, D.closed, heS, hcS, heP, hcP]; done)))
    | ((with_reducible apply s_appT); (case he => rfl); (case hK | hc | hr | hV => first | rfl | assumption | omega | ((first | refine ⟨?_, ?_⟩ | skip) <;> first | omega | (simp only [lN, heS, hcS, heP, hcP] <;> omega)) | (simp [elemsK, D.isVal, D.cells, D.closedL, D.closed, heS, hcS, heP, hcP]; first | done | omega)))
    | ((with_reducible apply s_appG); (case he => rfl); (case hV | hK | hr | hl => first | rfl | assumption | omega | ((first | refine ⟨?_, ?_⟩ | skip) <;> first | omega | (simp only [lN, heS, hcS, heP, hcP] <;> omega)) | (simp [elemsK, D.isVal, D.cells, D.closedL, D.closed, heS, hcS, heP, hcP]; first | done | omega)))
    | ((with_reducible apply s_app0); (case he => rfl); (case hK | hc | hr => first | rfl | assumption | omega | ((first | refine ⟨?_, ?_⟩ | skip) <;> first | omega | (simp only [lN, heS, hcS, heP, hcP] <;> omega)) | (simp [elemsK, D.isVal, D.cells, D.closedL, D.closed, heS, hcS, heP, hcP]; first | done | omega)))
    | ((with_reducible apply s_appF); (case he => rfl); (case hK | hc | hr | hx | hn => first | rfl | assumption | omega | ((first | refine ⟨?_, ?_⟩ | skip) <;> first | omega | (simp only [lN, heS, hcS, heP, hcP] <;> omega)) | (simp [elemsK, D.isVal, D.cells, D.closedL, D.closed, heS, hcS, heP, hcP]; first | done | omega)))
    | ((with_reducible first | apply s_bsl | apply t_bsl); (case he | hl | hc => first | rfl | assumption | omega | ((first | refine ⟨?_, ?_⟩ | skip) <;> first | omega | (simp only [lN, heS, hcS, heP, hcP] <;> omega)) | (simp [elemsK, D.isVal, D.cells, D.closedL, D.closed, heS, hcS, heP, hcP]; first | done | omega)))
    | with_reducible first | apply cd_dec | apply cd_eq | apply cd_ne | apply cd_split | apply gd_dec | apply gd_eq | apply gd_ne | apply gd_split | apply gq_dec | apply gq_eq | apply gq_ne | apply gq_split
    | ((with_reducible refine And.intro ?hw ?_); (case hw => first | omega | rfl | exact ⟨_, _, rfl⟩ | assumption | (simp only [lN, heS, hcS, heP, hcP] <;> omega)))
    | with_reducible intro _)
  all_goals try omega
  obtain ⟨j, hj⟩ : ∃ j : Nat, x.idx = j := ⟨x.idx.toNat, by omega⟩
  have hj8 : j < 256 := by omega
  have e7 : x.idx.toNat = j := by omega
  rw [e7]
  refine twp_weak (fun _ => weak_newC 1 0 1 (by decide) rfl rfl) (show TWp C18 0 0 _ _ ⟨[.str p, .str m, sealD x, .ptr 0 0, .bool false, .int .i64 (x.path.length : Nat), .fn (.func 38) [] [], .ptr 1 0, .undef, .undef, .undef, .undef, .undef, .bool false, .fn (.func 56) [] [.ip [.str m]], .undef, .undef, .undef, .undef, .undef, .undef], [], hpV x m 0⟩ from ?_)
  refine twp_range (fun _ _ => trivial) hit (hpV x m) rfl ?_ rfl ?_ ?_
  · intro r hr
    obtain ⟨k, _, rfl⟩ := List.mem_map.1 hr
    rfl
  · intro k r hk
    have hlt : k < 18 := by rw [← drows_len m]; exact (List.getElem?_eq_some_iff.1 hk).1
    rw [drows_get hlt] at hk
    cases hk
    have hd := dgt_get m k
    have c6 := chain_p (x.sig.getD k []) (15 - (dgt m).getD k 0) (by have := get_small (i := k) hx.sx; omega) (by omega)
    have hg := strs_get (l := x.sig) (i := k) (by omega)
    have hss := endsV_succ m x.sig k
    have hvl := endsV_len m x.sig k
    have t1 : ((k : Nat) : Int).toNat = k := Int.toNat_natCast k
    have t2 : (15 : Int) - (((dgt m).getD k 0 : Nat) : Int) = ((15 - (dgt m).getD k 0 : Nat) : Int) := by omega
    simp only [hpV, hss]
    generalize chn (15 - (dgt m).getD k 0) (x.sig.getD k []) = z at *
    generalize x.sig.getD k [] = g at *
    generalize hD2 : 15 - (dgt m).getD k 0 = e at *
    generalize (dgt m).getD k 0 = d at *
    generalize endsV m x.sig k = T at *
    generalize strs x.sig = S at *
    generalize strs x.path = P at *
    have hT := strs_len T
    have hs2 : strs (T ++ [z]) = strs T ++ [.str z] := by simp
    rw [hs2]
    simp only [GoV.binds]
    repeat' (first
    | with_reducible first | apply swp_seq | apply swp_reg | apply swp_regD | apply swp_block | apply swp_exit | apply swp_ret | apply swp_skip | apply swp_cd
    | with_reducible apply twp_seq
    | with_reducible apply twp_block
    | ((with_reducible refine twp_reg ?hb ?_); (case hb => exact fun _ _ => trivial); with_reducible intro _)
    | ((with_reducible refine twp_regD ?hb ?_); (case hb => exact fun _ _ => trivial); with_reducible intro _)
    | ((with_reducible refine twp_cond ?hb ?_); (case hb => exact fun _ _ => trivial); with_reducible intro _)
    | ((with_reducible refine twp_ret ?hb ?_); (case hb => exact fun _ _ => trivial))
    | simp only [go_sem, seval, P18, q18, t1, hg, hsl, t2]
    | simp (disch := omega) only [w64, w32, wu8, wu16, wu32, wu64]
    | ((with_reducible first | refine o_call (c6) ?he ?hc ?_ | refine p_call (c6) ?he ?hc ?_ | refine c_call (c6) ?he ?hc ?_); (case he | hc => first | rfl | (simp [D.erL, D.er, D.closedL, D.closed, hT, hvl, hsl]; done)))
    | ((with_reducible apply s_appT); (case he => rfl); (case hK | hc | hr | hV => first | rfl | assumption | omega | ((first | refine ⟨?_, ?_⟩ | skip) <;> first | omega | (simp only [lN, hT, hvl, hsl] <;> omega)) | (simp [elemsK, D.isVal, D.cells, D.closedL, D.closed, hT, hvl, hsl]; first | done | omega)))
    | ((with_reducible apply s_appG); (case he => rfl); (case hV | hK | hr | hl => first | rfl | assumption | omega | ((first | refine ⟨?_, ?_⟩ | skip) <;> first | omega | (simp only [lN, hT, hvl, hsl] <;> omega)) | (simp [elemsK, D.isVal, D.cells, D.closedL, D.closed, hT, hvl, hsl]; first | done | omega)))
    | ((with_reducible apply s_app0); (case he => rfl); (case hK | hc | hr => first | rfl | assumption | omega | ((first | refine ⟨?_, ?_⟩ | skip) <;> first | omega | (simp only [lN, hT, hvl, hsl] <;> omega)) | (simp [elemsK, D.isVal, D.cells, D.closedL, D.closed, hT, hvl, hsl]; first | done | omega)))
    | ((with_reducible apply s_appF); (case he => rfl); (case hK | hc | hr | hx | hn => first | rfl | assumption | omega | ((first | refine ⟨?_, ?_⟩ | skip) <;> first | omega | (simp only [lN, hT, hvl, hsl] <;> omega)) | (simp [elemsK, D.isVal, D.cells, D.closedL, D.closed, hT, hvl, hsl]; first | done | omega)))
    | ((with_reducible first | apply s_bsl | apply t_bsl); (case he | hl | hc => first | rfl | assumption | omega | ((first | refine ⟨?_, ?_⟩ | skip) <;> first | omega | (simp only [lN, hT, hvl, hsl] <;> omega)) | (simp [elemsK, D.isVal, D.cells, D.closedL, D.closed, hT, hvl, hsl]; first | done | omega)))
    | with_reducible first | apply cd_dec | apply cd_eq | apply cd_ne | apply cd_split | apply gd_dec | apply gd_eq | apply gd_ne | apply gd_split | apply gq_dec | apply gq_eq | apply gq_ne | apply gq_split
    | ((with_reducible refine And.intro ?hw ?_); (case hw => first | omega | rfl | exact ⟨_, _, rfl⟩ | assumption | (simp only [lN, hT, hvl, hsl] <;> omega)))
    | with_reducible intro _)
    all_goals try omega
    exact ⟨_, weak_refl, by simp [hT, hvl]⟩
  · rw [drows_len]
    have hh : hpV x m 18 = ⟨[.cells [.int .i64 x.idx, .slice (strs x.sig) .no, .slice (strs x.path) .no], .cells [.slice (strs (ends' m x.sig)) (.tok 0)]], [.per 1 18]⟩ := rfl
    rw [hh]
    have hcE := closed_strs (ends' m x.sig)
    have heE := erL_strs (ends' m x.sig)
    have ha := sumN_len (joined (ends' m x.sig))
    generalize sumN (joined (ends' m x.sig)) = a at *
    generalize ends' m x.sig = T at *
    repeat' (first
    | with_reducible first | apply swp_seq | apply swp_reg | apply swp_regD | apply swp_block | apply swp_exit | apply swp_ret | apply swp_skip | apply swp_cd
    | with_reducible apply twp_seq
    | with_reducible apply twp_block
    | ((with_reducible refine twp_reg ?hb ?_); (case hb => exact fun _ _ => trivial); with_reducible intro _)
    | ((with_reducible refine twp_regD ?hb ?_); (case hb => exact fun _ _ => trivial); with_reducible intro _)
    | ((with_reducible refine twp_cond ?hb ?_); (case hb => exact fun _ _ => trivial); with_reducible intro _)
    | ((with_reducible refine twp_ret ?hb ?_); (case hb => exact fun _ _ => trivial))
    | simp only [go_sem, seval, P18, q18, hpl]
    | simp (disch := omega) only [w64, w32, wu8, wu16, wu32, wu64]
    | ((with_reducible first | refine o_call (c3) ?he ?hc ?_ | refine p_call (c3) ?he ?hc ?_ | refine c_call (c3) ?he ?hc ?_); (case he | hc => first | rfl | (simp [D.erL, D.er, D.closedL, D.closed, heE, hcE]; done)))
    | ((with_reducible apply s_appT); (case he => rfl); (case hK | hc | hr | hV => first | rfl | assumption | omega | ((first | refine ⟨?_, ?_⟩ | skip) <;> first | omega | (simp only [lN, heE, hcE] <;> omega)) | (simp [elemsK, D.isVal, D.cells, D.closedL, D.closed, heE, hcE]; first | done | omega)))
    | ((with_reducible apply s_appG); (case he => rfl); (case hV | hK | hr | hl => first | rfl | assumption | omega | ((first | refine ⟨?_, ?_⟩ | skip) <;> first | omega | (simp only [lN, heE, hcE] <;> omega)) | (simp [elemsK, D.isVal, D.cells, D.closedL, D.closed, heE, hcE]; first | done | omega)))
    | ((with_reducible apply s_app0); (case he => rfl); (case hK | hc | hr => first | rfl | assumption | omega | ((first | refine ⟨?_, ?_⟩ | skip) <;> first | omega | (simp only [lN, heE, hcE] <;> omega)) | (simp [elemsK, D.isVal, D.cells, D.closedL, D.closed, heE, hcE]; first | done | omega)))
    | ((with_reducible apply s_appF); (case he => rfl); (case hK | hc | hr | hx | hn => first | rfl | assumption | omega | ((first | refine ⟨?_, ?_⟩ | skip) <;> first | omega | (simp only [lN, heE, hcE] <;> omega)) | (simp [elemsK, D.isVal, D.cells, D.closedL, D.closed, heE, hcE]; first | done | omega)))
    | ((with_reducible first | apply s_bsl | apply t_bsl); (case he | hl | hc => first | rfl | assumption | omega | ((first | refine ⟨?_, ?_⟩ | skip) <;> first | omega | (simp only [lN, heE, hcE] <;> omega)) | (simp [elemsK, D.isVal, D.cells, D.closedL, D.closed, heE, hcE]; first | done | omega)))
    | with_reducible first | apply cd_dec | apply cd_eq | apply cd_ne | apply cd_split | apply gd_dec | apply gd_eq | apply gd_ne | apply gd_split | apply gq_dec | apply gq_eq | apply gq_ne | apply gq_split
    | ((with_reducible refine And.intro ?hw ?_); (case hw => first | omega | rfl | exact ⟨_, _, rfl⟩ | assumption | (simp only [lN, heE, hcE] <;> omega)))
    | with_reducible intro _)
    all_goals try omega
    refine twp_of (fun _ _ => trivial) fun ds => ?_
    refine swp_fam [0, 1, 2, 3, 4, 17, 18, 19, 10] (fun k : Nat => ⟨[.str p, .str m, sealD x, .ptr 0 0, .bool false, .undef, .undef, .undef, .undef, .undef, .str (climb a (x.path.take k) j), .undef, .undef, .undef, .undef, .undef, .undef, .slice (strs x.path) .no, .int .i64 (x.path.length : Nat), .int .i64 (k : Nat), .undef], [],
        ⟨[.cells [.int .i64 x.idx, .slice (strs x.sig) .no, .slice (strs x.path) .no], .cells [.slice (strs T) (.tok 0)]], [.per 1 18]⟩⟩)
      (fun k => k ≤ x.path.length) (fun k => x.path.length - k) 0 (by omega) ?_ ?_
    · simp [keepE, St.keep, climb, hpl]
    · intro k hk
      rw [hj]
      by_cases hlt : k < x.path.length
      · have hcl := climb_len (p := x.path.take k) (i := j) ha
        have htk : x.path.take (k + 1) = x.path.take k ++ [x.path.getD k []] := by
          rw [List.take_succ_eq_append_getElem hlt]; simp [List.getD, hlt]
        have hsn := climb_snoc (x.path.take k) a (x.path.getD k []) j
        rw [← htk] at hsn
        have htl : (x.path.take k).length = k := by rw [List.length_take]; omega
        rw [htl] at hsn
        have c7 := node_p (climb a (x.path.take k) j) (x.path.getD k []) ((j / 2 ^ k) % 2 == 1) (by omega) (get_small hx.px)
        rw [← hsn] at c7
        have hg := strs_get (l := x.path) hlt
        have hs := shr_nat (j := j) (k := k) (by omega)
        have hja : j / 2 ^ k < 256 := Nat.lt_of_le_of_lt (Nat.div_le_self _ _) hj8
        have hb : bitsV .and .i64 ((j / 2 ^ k : Nat) : Int) 1 = _ := and_one hja
        have hbb : ((((j / 2 ^ k) % 2 : Nat) : Int) == 1) = ((j / 2 ^ k) % 2 == 1) := by
          generalize (j / 2 ^ k) % 2 = w
          by_cases hw : w = 1
          · subst hw; rfl
          · have h1 : ((w : Int) == 1) = false := by simp; omega
            have h2 : (w == 1) = false := by simp [hw]
            rw [h1, h2]
        have t1 : ((k : Nat) : Int).toNat = k := Int.toNat_natCast k
        generalize hz : climb a (x.path.take (k + 1)) j = z at *
        generalize climb a (x.path.take k) j = y at *
        generalize ((j / 2 ^ k) % 2 == 1) = bb at *
        generalize (j / 2 ^ k) % 2 = w at *
        generalize j / 2 ^ k = v at *
        generalize x.path.getD k [] = o at *
        generalize strs x.sig = S at *
        generalize strs x.path = P at *
        repeat' (first
    | with_reducible first | apply swp_seq | apply swp_reg | apply swp_regD | apply swp_block | apply swp_exit | apply swp_ret | apply swp_skip | apply swp_cd
    | with_reducible apply twp_seq
    | with_reducible apply twp_block
    | ((with_reducible refine twp_reg ?hb ?_); (case hb => exact fun _ _ => trivial); with_reducible intro _)
    | ((with_reducible refine twp_regD ?hb ?_); (case hb => exact fun _ _ => trivial); with_reducible intro _)
    | ((with_reducible refine twp_cond ?hb ?_); (case hb => exact fun _ _ => trivial); with_reducible intro _)
    | ((with_reducible refine twp_ret ?hb ?_); (case hb => exact fun _ _ => trivial))
    | simp only [go_sem, seval, P18, q18, hpl, t1, hg, hs, hb, hbb]
    | simp (disch := omega) only [w64, w32, wu8, wu16, wu32, wu64]
    | ((with_reducible first | refine o_call (c7) ?he ?hc ?_ | refine p_call (c7) ?he ?hc ?_ | refine c_call (c7) ?he ?hc ?_); (case he | hc => first | rfl | (simp [D.erL, D.er, D.closedL, D.closed, hpl]; done)))
    | ((with_reducible apply s_appT); (case he => rfl); (case hK | hc | hr | hV => first | rfl | assumption | omega | ((first | refine ⟨?_, ?_⟩ | skip) <;> first | omega | (simp only [lN, hpl] <;> omega)) | (simp [elemsK, D.isVal, D.cells, D.closedL, D.closed, hpl]; first | done | omega)))
    | ((with_reducible apply s_appG); (case he => rfl); (case hV | hK | hr | hl => first | rfl | assumption | omega | ((first | refine ⟨?_, ?_⟩ | skip) <;> first | omega | (simp only [lN, hpl] <;> omega)) | (simp [elemsK, D.isVal, D.cells, D.closedL, D.closed, hpl]; first | done | omega)))
    | ((with_reducible apply s_app0); (case he => rfl); (case hK | hc | hr => first | rfl | assumption | omega | ((first | refine ⟨?_, ?_⟩ | skip) <;> first | omega | (simp only [lN, hpl] <;> omega)) | (simp [elemsK, D.isVal, D.cells, D.closedL, D.closed, hpl]; first | done | omega)))
    | ((with_reducible apply s_appF); (case he => rfl); (case hK | hc | hr | hx | hn => first | rfl | assumption | omega | ((first | refine ⟨?_, ?_⟩ | skip) <;> first | omega | (simp only [lN, hpl] <;> omega)) | (simp [elemsK, D.isVal, D.cells, D.closedL, D.closed, hpl]; first | done | omega)))
    | ((with_reducible first | apply s_bsl | apply t_bsl); (case he | hl | hc => first | rfl | assumption | omega | ((first | refine ⟨?_, ?_⟩ | skip) <;> first | omega | (simp only [lN, hpl] <;> omega)) | (simp [elemsK, D.isVal, D.cells, D.closedL, D.closed, hpl]; first | done | omega)))
    | with_reducible first | apply cd_dec | apply cd_eq | apply cd_ne | apply cd_split | apply gd_dec | apply gd_eq | apply gd_ne | apply gd_split | apply gq_dec | apply gq_eq | apply gq_ne | apply gq_split
    | ((with_reducible refine And.intro ?hw ?_); (case hw => first | omega | rfl | exact ⟨_, _, rfl⟩ | assumption | (simp only [lN, hpl] <;> omega)))
    | with_reducible intro _)
        all_goals try omega
        refine ⟨k + 1, by omega, by omega, ?_⟩
        rw [hz]
        simp [keepE, St.keep]
      · have e : k = x.path.length := by omega
        subst e
        rw [List.take_length]
        generalize strs x.sig = S at *
        generalize strs x.path = P at *
        generalize climb a x.path j = y at *
        repeat' (first
    | with_reducible first | apply swp_seq | apply swp_reg | apply swp_regD | apply swp_block | apply swp_exit | apply swp_ret | apply swp_skip | apply swp_cd
    | with_reducible apply twp_seq
    | with_reducible apply twp_block
    | ((with_reducible refine twp_reg ?hb ?_); (case hb => exact fun _ _ => trivial); with_reducible intro _)
    | ((with_reducible refine twp_regD ?hb ?_); (case hb => exact fun _ _ => trivial); with_reducible intro _)
    | ((with_reducible refine twp_cond ?hb ?_); (case hb => exact fun _ _ => trivial); with_reducible intro _)
    | ((with_reducible refine twp_ret ?hb ?_); (case hb => exact fun _ _ => trivial))
    | simp only [go_sem, seval, P18, q18, hpl]
    | simp (disch := omega) only [w64, w32, wu8, wu16, wu32, wu64]
    | ((with_reducible apply s_appT); (case he => rfl); (case hK | hc | hr | hV => first | rfl | assumption | omega | ((first | refine ⟨?_, ?_⟩ | skip) <;> first | omega | (simp only [lN, hpl] <;> omega)) | (simp [elemsK, D.isVal, D.cells, D.closedL, D.closed, hpl]; first | done | omega)))
    | ((with_reducible apply s_appG); (case he => rfl); (case hV | hK | hr | hl => first | rfl | assumption | omega | ((first | refine ⟨?_, ?_⟩ | skip) <;> first | omega | (simp only [lN, hpl] <;> omega)) | (simp [elemsK, D.isVal, D.cells, D.closedL, D.closed, hpl]; first | done | omega)))
    | ((with_reducible apply s_app0); (case he => rfl); (case hK | hc | hr => first | rfl | assumption | omega | ((first | refine ⟨?_, ?_⟩ | skip) <;> first | omega | (simp only [lN, hpl] <;> omega)) | (simp [elemsK, D.isVal, D.cells, D.closedL, D.closed, hpl]; first | done | omega)))
    | ((with_reducible apply s_appF); (case he => rfl); (case hK | hc | hr | hx | hn => first | rfl | assumption | omega | ((first | refine ⟨?_, ?_⟩ | skip) <;> first | omega | (simp only [lN, hpl] <;> omega)) | (simp [elemsK, D.isVal, D.cells, D.closedL, D.closed, hpl]; first | done | omega)))
    | ((with_reducible first | apply s_bsl | apply t_bsl); (case he | hl | hc => first | rfl | assumption | omega | ((first | refine ⟨?_, ?_⟩ | skip) <;> first | omega | (simp only [lN, hpl] <;> omega)) | (simp [elemsK, D.isVal, D.cells, D.closedL, D.closed, hpl]; first | done | omega)))
    | with_reducible first | apply cd_dec | apply cd_eq | apply cd_ne | apply cd_split | apply gd_dec | apply gd_eq | apply gd_ne | apply gd_split | apply gq_dec | apply gq_eq | apply gq_ne | apply gq_split
    | ((with_reducible refine And.intro ?hw ?_); (case hw => first | omega | rfl | exact ⟨_, _, rfl⟩ | assumption | (simp only [lN, hpl] <;> omega)))
    | with_reducible intro _)
        all_goals try omega
        refine ⟨_, fun _ => weak_refl, ?_⟩
        simp [go_sem, D.closed, D.er]
end Go.Proofs.YtgjkhlnpplajjaaDoor
end
section
set_option maxRecDepth 100000
set_option linter.unusedSimpArgs false
set_option linter.unusedVariables false
namespace Go.Proofs.YtgjkhlnpplajjaaDoor
open Go GoV Go.RowKit
theorem tmod2 (n : Nat) : ((n : Nat) : Int).tmod 2 = ((n % 2 : Nat) : Int) := by rw [Int.tmod_eq_emod_of_nonneg (by omega)]; omega
theorem tdiv2 (n : Nat) : ((n : Nat) : Int).tdiv 2 = ((n / 2 : Nat) : Int) := by rw [Int.tdiv_eq_ediv_of_nonneg (by omega)]; omega
end Go.Proofs.YtgjkhlnpplajjaaDoor
end
section
set_option maxRecDepth 100000
set_option linter.unusedSimpArgs false
set_option linter.unusedVariables false
namespace Go.Proofs.YtgjkhlnpplajjaaDoor
open Go GoV Go.RowKit
def sameS (a b : Seal) : Bool := decide (a.idx = b.idx) && (decide (a.sig = b.sig) && decide (a.path = b.path))
theorem ssame_p (a b : Seal) (h1 : a.sig.length ≤ 4611686018427387904) (h2 : a.path.length ≤ 4611686018427387904) : Pur M 17 [sealD a, sealD b] (.bool (sameS a b)) := by
  refine ok17 rfl ?_
  rw [i17]
  unfold c17 sealD sameS
  have c1 := same_p a.sig b.sig h1
  have c2 := same_p a.path b.path h2
  have k1 := closed_strs a.sig
  have k2 := closed_strs b.sig
  have k3 := closed_strs a.path
  have k4 := closed_strs b.path
  have k5 := erL_strs a.sig
  have k6 := erL_strs b.sig
  have k7 := erL_strs a.path
  have k8 := erL_strs b.path
  generalize decide (a.sig = b.sig) = x at *
  generalize decide (a.path = b.path) = y at *
  generalize strs a.sig = A at *
  generalize strs b.sig = B at *
  generalize strs a.path = A' at *
  generalize strs b.path = B' at *
  by_cases e : a.idx = b.idx
  · have e1 : (a.idx == b.idx) = true := by simp [e]
    rw [decide_eq_true e, Bool.true_and]
    cases x <;> cases y <;>
    · repeat' (first
    | with_reducible first | apply swp_seq | apply swp_reg | apply swp_regD | apply swp_block | apply swp_exit | apply swp_ret | apply swp_skip | apply swp_cd
    | simp only [go_sem, seval, P17, q17, e1]
    | simp (disch := omega) only [w64, w32, wu8, wu16, wu32, wu64]
    | ((with_reducible refine o_call (c1) ?he ?hc ?_); (case he | hc => first | rfl | (simp [D.erL, D.er, D.closedL, D.closed, k1, k2, k3, k4, k5, k6, k7, k8]; done)))
    | ((with_reducible refine o_call (c2) ?he ?hc ?_); (case he | hc => first | rfl | (simp [D.erL, D.er, D.closedL, D.closed, k1, k2, k3, k4, k5, k6, k7, k8]; done)))
    | with_reducible first | apply cd_dec | apply cd_eq | apply cd_ne | apply cd_split | apply gd_dec | apply gd_eq | apply gd_ne | apply gd_split
    | ((with_reducible refine And.intro ?hw ?_); (case hw => first | omega | rfl | exact ⟨_, _, rfl⟩ | assumption | (simp only [lN, k1, k2, k3, k4, k5, k6, k7, k8] <;> omega)))
    | with_reducible intro _)
      all_goals first
        | omega
        | (simp [D.closed, D.er]; done)
  · have e1 : (a.idx == b.idx) = false := by simp [e]
    rw [decide_eq_false e, Bool.false_and]
    repeat' (first
    | with_reducible first | apply swp_seq | apply swp_reg | apply swp_regD | apply swp_block | apply swp_exit | apply swp_ret | apply swp_skip | apply swp_cd
    | simp only [go_sem, seval, P17, q17, e1]
    | simp (disch := omega) only [w64, w32, wu8, wu16, wu32, wu64]
    | ((with_reducible refine o_call (c1) ?he ?hc ?_); (case he | hc => first | rfl | (simp [D.erL, D.er, D.closedL, D.closed, k1, k2, k3, k4, k5, k6, k7, k8]; done)))
    | ((with_reducible refine o_call (c2) ?he ?hc ?_); (case he | hc => first | rfl | (simp [D.erL, D.er, D.closedL, D.closed, k1, k2, k3, k4, k5, k6, k7, k8]; done)))
    | with_reducible first | apply cd_dec | apply cd_eq | apply cd_ne | apply cd_split | apply gd_dec | apply gd_eq | apply gd_ne | apply gd_split
    | ((with_reducible refine And.intro ?hw ?_); (case hw => first | omega | rfl | exact ⟨_, _, rfl⟩ | assumption | (simp only [lN, k1, k2, k3, k4, k5, k6, k7, k8] <;> omega)))
    | with_reducible intro _)
    all_goals first
      | omega
      | (simp [D.closed, D.er]; done)
theorem jnode_p (a b : List UInt8) (ha : a.length ≤ 1000) (hb : b.length ≤ 1000) : Pur M 50 [.str a, .str b] (.str (nodT a b)) := by
  refine ok50 rfl ?_
  rw [i50]
  unfold c50
  have h1 := joined_p [wnode, a, b] (okL_node ha hb)
  have e : joined [wnode, a, b] = nodT a b := rfl
  rw [e] at h1
  repeat' (first
    | with_reducible first | apply swp_seq | apply swp_reg | apply swp_regD | apply swp_block | apply swp_exit | apply swp_ret | apply swp_skip | apply swp_cd
    | simp only [go_sem, seval, P50, q50]
    | simp (disch := omega) only [w64, w32, wu8, wu16, wu32, wu64]
    | ((with_reducible refine o_call (h1) ?he ?hc ?_); (case he | hc => first | rfl | (simp [D.erL, D.er, D.closedL, D.closed]; done)))
    | ((with_reducible apply s_bsl); (case he | hl | hc => first | rfl | assumption | omega | ((first | refine ⟨?_, ?_⟩ | skip) <;> first | omega | (simp only [lN] <;> omega)) | (simp [elemsK, D.isVal, D.cells, D.closedL, D.closed]; first | done | omega)))
    | with_reducible first | apply cd_dec | apply cd_eq | apply cd_ne | apply cd_split
    | ((with_reducible refine And.intro ?hw ?_); (case hw => first | omega | rfl | exact ⟨_, _, rfl⟩ | assumption | (simp only [lN] <;> omega)))
    | with_reducible intro _)
  all_goals first
    | omega
    | (simp [D.closed, D.er]; done)
def chnP (t : List UInt8) (k : Nat) : List (List UInt8) := (List.range k).map fun j => chn j t
theorem chnP_len (t : List UInt8) (k : Nat) : (chnP t k).length = k := by simp [chnP]
theorem chnP_succ (t : List UInt8) (k : Nat) : chnP t (k + 1) = chnP t k ++ [chn k t] := by simp [chnP, List.range_succ]
theorem weak_full {C : Cfg} {s : St} (i k : Nat) (hk : 0 < k) {es : List D} (hs : s.env.getD i .undef = .slice es .full) (hK : elemsK k es = true) (hne : es ≠ []) :
    Weak C s ⟨s.env.set i (.slice es (.tok s.hp.tk.length)), [], { s.hp with tk := s.hp.tk ++ [.per k es.length] }⟩ := by
  intro w0 B a w h
  obtain ⟨G, g0, gb, g1, g2, g3, g4⟩ := h
  obtain ⟨ad, had⟩ : ∃ ad : Option Addr, ∀ t, idx t C.pers = some i → a.tmps.getD t Go.undef = .slice ad es.length es.length := by
    by_cases hx : ∃ t, idx t C.pers = some i
    · obtain ⟨t, ht⟩ := hx
      have := g4 t
      unfold St.slot at this
      rw [ht] at this
      simp only at this
      rw [hs] at this
      simp only [Rel] at this
      obtain ⟨ad, cap, k', xs, h1, h2, h3, h4, h5, h6⟩ := this
      simp only [OwnOk] at h6
      subst h6
      refine ⟨some ad, fun u hu => ?_⟩
      have e1 := idx_some ht
      have e2 := idx_some hu
      rw [e1] at e2
      cases e2
      rcases h1 with h1 | ⟨_, h1, _⟩
      · exact h1
      · exact absurd h1 hne
    · exact ⟨none, fun t ht => absurd ⟨t, ht⟩ hx⟩
  obtain ⟨q1, q2⟩ := g0.tokFull (len := es.length) (a := ad) hk (.per k es.length) (.inl rfl)
  refine ⟨_, q1, gb, g1, g2, by simpa using g3, fun t => ?_⟩
  have := g4 t
  unfold St.slot at *
  split
  · rename_i j hj
    rw [hj] at this
    simp only at this ⊢
    by_cases e : i = j
    · subst e
      rw [hs] at this
      have hl : i < s.env.length := by
        rcases Nat.lt_or_ge i s.env.length with q | q
        · exact q
        · simp [List.getD, List.getElem?_eq_none q] at hs
      have e1 : (s.env.set i (D.slice es (.tok s.hp.tk.length))).getD i .undef = D.slice es (.tok s.hp.tk.length) := by
        simp [List.getD, hl]
      rw [e1, g0.heap.lent]
      have hval := had t hj
      rw [hval] at this ⊢
      have hr := Rel.evo _ q2 this
      simp only [Rel] at hr ⊢
      obtain ⟨a', cap, k', xs, h1, h2, h3, h4, h5, h6⟩ := hr
      refine ⟨a', cap, k', xs, h1, h2, h3, h4, h5, ?_⟩
      have hkk : k' = k := by
        rcases elemsK_size hK h3 h4 with q | q
        · subst q
          exact absurd (List.eq_nil_of_length_eq_zero (by have := h3.length; simpa using this.symm)) hne
        · exact q
      subst hkk
      exact ⟨_, tok_get _ _, rfl, Nat.le_refl _, fun _ => rfl⟩
    · have e1 : (s.env.set i (D.slice es (.tok s.hp.tk.length))).getD j .undef = s.env.getD j .undef := by
        simp [List.getD, List.getElem?_set, e]
      rw [e1]
      exact Rel.evo _ q2 this
  · simp [lk, Rel]
set_option maxHeartbeats 1000000 in
theorem chained_p (t : List UInt8) (n : Nat) (ht : t.length < 65536) (hn : n ≤ 1000) : Pur M 49 [.str t, .int .i64 (n : Nat)] (.slice (strs (chnL t n)) .no) := by
  refine ok49 rfl ?_
  rw [i49]
  unfold c49
  repeat' (first
    | with_reducible first | apply swp_seq | apply swp_reg | apply swp_regD | apply swp_block | apply swp_exit | apply swp_ret | apply swp_skip | apply swp_cd
    | simp only [go_sem, seval, P49, q49]
    | simp (disch := omega) only [w64, w32, wu8, wu16, wu32, wu64]
    | ((with_reducible apply s_appT); (case he => rfl); (case hK | hc | hr | hV => first | rfl | assumption | omega | ((first | refine ⟨?_, ?_⟩ | skip) <;> first | omega | (simp only [lN] <;> omega)) | (simp [elemsK, D.isVal, D.cells, D.closedL, D.closed]; first | done | omega)))
    | ((with_reducible apply s_appG); (case he => rfl); (case hV | hK | hr | hl => first | rfl | assumption | omega | ((first | refine ⟨?_, ?_⟩ | skip) <;> first | omega | (simp only [lN] <;> omega)) | (simp [elemsK, D.isVal, D.cells, D.closedL, D.closed]; first | done | omega)))
    | ((with_reducible apply s_app0); (case he => rfl); (case hK | hc | hr => first | rfl | assumption | omega | ((first | refine ⟨?_, ?_⟩ | skip) <;> first | omega | (simp only [lN] <;> omega)) | (simp [elemsK, D.isVal, D.cells, D.closedL, D.closed]; first | done | omega)))
    | ((with_reducible apply s_appF); (case he => rfl); (case hK | hc | hr | hx | hn => first | rfl | assumption | omega | ((first | refine ⟨?_, ?_⟩ | skip) <;> first | omega | (simp only [lN] <;> omega)) | (simp [elemsK, D.isVal, D.cells, D.closedL, D.closed]; first | done | omega)))
    | ((with_reducible apply s_bsl); (case he | hl | hc => first | rfl | assumption | omega | ((first | refine ⟨?_, ?_⟩ | skip) <;> first | omega | (simp only [lN] <;> omega)) | (simp [elemsK, D.isVal, D.cells, D.closedL, D.closed]; first | done | omega)))
    | with_reducible first | apply cd_dec | apply cd_eq | apply cd_ne | apply cd_split
    | ((with_reducible refine And.intro ?hw ?_); (case hw => first | omega | rfl | exact ⟨_, _, rfl⟩ | assumption | (simp only [lN] <;> omega)))
    | with_reducible intro _)
  all_goals try omega
  refine swp_weak (weak_full 3 1 (by decide) rfl (by simp [elemsK, D.isVal, D.cells]) (by simp)) ?_
  refine swp_fam [0, 1, 3, 4] (fun k : Nat => ⟨[.str (chn k t), .int .i64 (n : Nat), .undef, .slice (strs (chnP t (k + 1))) (.tok 0), .int .i64 (k : Nat), .undef], [], ⟨[], [.per 1 (k + 1)]⟩⟩)
    (fun k => k ≤ n) (fun k => n - k) 0 (by omega) ?_ ?_
  · simp [keepE, St.keep, chnP, chn]
  · intro k hk
    have hpl := chnP_len t (k + 1)
    have hss := chnP_succ t (k + 1)
    have hsc := chn_succ k t
    by_cases hlt : k < n
    · have c1 := rsum_p (chn k t) (chn_lt ht k)
      rw [← hsc] at c1
      generalize hz : chn (k + 1) t = z at *
      generalize chn k t = y at *
      generalize chnP t (k + 1) = T at *
      have hT := strs_len T
      repeat' (first
    | with_reducible first | apply swp_seq | apply swp_reg | apply swp_regD | apply swp_block | apply swp_exit | apply swp_ret | apply swp_skip | apply swp_cd
    | simp only [go_sem, seval, P49, q49]
    | simp (disch := omega) only [w64, w32, wu8, wu16, wu32, wu64]
    | ((with_reducible refine o_call (c1) ?he ?hc ?_); (case he | hc => first | rfl | (simp [D.erL, D.er, D.closedL, D.closed, hT, hpl]; done)))
    | ((with_reducible apply s_appT); (case he => rfl); (case hK | hc | hr | hV => first | rfl | assumption | omega | ((first | refine ⟨?_, ?_⟩ | skip) <;> first | omega | (simp only [lN, hT, hpl] <;> omega)) | (simp [elemsK, D.isVal, D.cells, D.closedL, D.closed, hT, hpl]; first | done | omega)))
    | ((with_reducible apply s_appG); (case he => rfl); (case hV | hK | hr | hl => first | rfl | assumption | omega | ((first | refine ⟨?_, ?_⟩ | skip) <;> first | omega | (simp only [lN, hT, hpl] <;> omega)) | (simp [elemsK, D.isVal, D.cells, D.closedL, D.closed, hT, hpl]; first | done | omega)))
    | ((with_reducible apply s_app0); (case he => rfl); (case hK | hc | hr => first | rfl | assumption | omega | ((first | refine ⟨?_, ?_⟩ | skip) <;> first | omega | (simp only [lN, hT, hpl] <;> omega)) | (simp [elemsK, D.isVal, D.cells, D.closedL, D.closed, hT, hpl]; first | done | omega)))
    | ((with_reducible apply s_appF); (case he => rfl); (case hK | hc | hr | hx | hn => first | rfl | assumption | omega | ((first | refine ⟨?_, ?_⟩ | skip) <;> first | omega | (simp only [lN, hT, hpl] <;> omega)) | (simp [elemsK, D.isVal, D.cells, D.closedL, D.closed, hT, hpl]; first | done | omega)))
    | ((with_reducible apply s_bsl); (case he | hl | hc => first | rfl | assumption | omega | ((first | refine ⟨?_, ?_⟩ | skip) <;> first | omega | (simp only [lN, hT, hpl] <;> omega)) | (simp [elemsK, D.isVal, D.cells, D.closedL, D.closed, hT, hpl]; first | done | omega)))
    | with_reducible first | apply cd_dec | apply cd_eq | apply cd_ne | apply cd_split
    | ((with_reducible refine And.intro ?hw ?_); (case hw => first | omega | rfl | exact ⟨_, _, rfl⟩ | assumption | (simp only [lN, hT, hpl] <;> omega)))
    | with_reducible intro _)
      all_goals try omega
      refine ⟨k + 1, by omega, by omega, ?_⟩
      rw [hss, hz]
      simp [keepE, St.keep, hpl]
    · have e : k = n := by omega
      subst e
      have e2 : chnL t k = chnP t (k + 1) := rfl
      rw [e2]
      have hcl := closed_strs (chnP t (k + 1))
      have her := erL_strs (chnP t (k + 1))
      generalize chnP t (k + 1) = T at *
      repeat' (first
    | with_reducible first | apply swp_seq | apply swp_reg | apply swp_regD | apply swp_block | apply swp_exit | apply swp_ret | apply swp_skip | apply swp_cd
    | simp only [go_sem, seval, P49, q49]
    | simp (disch := omega) only [w64, w32, wu8, wu16, wu32, wu64]
    | ((with_reducible apply s_appT); (case he => rfl); (case hK | hc | hr | hV => first | rfl | assumption | omega | ((first | refine ⟨?_, ?_⟩ | skip) <;> first | omega | (simp only [lN] <;> omega)) | (simp [elemsK, D.isVal, D.cells, D.closedL, D.closed]; first | done | omega)))
    | ((with_reducible apply s_appG); (case he => rfl); (case hV | hK | hr | hl => first | rfl | assumption | omega | ((first | refine ⟨?_, ?_⟩ | skip) <;> first | omega | (simp only [lN] <;> omega)) | (simp [elemsK, D.isVal, D.cells, D.closedL, D.closed]; first | done | omega)))
    | ((with_reducible apply s_app0); (case he => rfl); (case hK | hc | hr => first | rfl | assumption | omega | ((first | refine ⟨?_, ?_⟩ | skip) <;> first | omega | (simp only [lN] <;> omega)) | (simp [elemsK, D.isVal, D.cells, D.closedL, D.closed]; first | done | omega)))
    | ((with_reducible apply s_appF); (case he => rfl); (case hK | hc | hr | hx | hn => first | rfl | assumption | omega | ((first | refine ⟨?_, ?_⟩ | skip) <;> first | omega | (simp only [lN] <;> omega)) | (simp [elemsK, D.isVal, D.cells, D.closedL, D.closed]; first | done | omega)))
    | ((with_reducible apply s_bsl); (case he | hl | hc => first | rfl | assumption | omega | ((first | refine ⟨?_, ?_⟩ | skip) <;> first | omega | (simp only [lN] <;> omega)) | (simp [elemsK, D.isVal, D.cells, D.closedL, D.closed]; first | done | omega)))
    | with_reducible first | apply cd_dec | apply cd_eq | apply cd_ne | apply cd_split
    | ((with_reducible refine And.intro ?hw ?_); (case hw => first | omega | rfl | exact ⟨_, _, rfl⟩ | assumption | (simp only [lN] <;> omega)))
    | with_reducible intro _)
      all_goals first
        | omega
        | (simp [D.closed, D.er, hcl, her]; done)
end Go.Proofs.YtgjkhlnpplajjaaDoor
end
section
set_option maxRecDepth 100000
set_option linter.unusedSimpArgs false
set_option linter.unusedVariables false
namespace Go.Proofs.YtgjkhlnpplajjaaDoor
open Go GoV Go.RowKit
end Go.Proofs.YtgjkhlnpplajjaaDoor
end
section
set_option maxRecDepth 100000
set_option linter.unusedSimpArgs false
set_option linter.unusedVariables false
namespace Go.Proofs.YtgjkhlnpplajjaaDoor
open Go GoV Go.RowKit
def pairB (l : List (List UInt8)) (i k : Nat) : Bool := (sumN (l.getD i []) == sumN (l.getD k [])) && (l.getD i [] != l.getD k [])
def rowB (l : List (List UInt8)) (i : Nat) : Bool := (List.range i).any (pairB l i)
def shownB (l : List (List UInt8)) : Bool := (List.range l.length).any (rowB l)
theorem any_succ (f : Nat → Bool) (k : Nat) : (List.range (k + 1)).any f = ((List.range k).any f || f k) := by
  rw [List.range_succ, List.any_append]; simp
theorem inj_of_shown {l : List (List UInt8)} (h : shownB l = false) : Inj fun t => t ∈ l := by
  have key : ∀ i k, i < l.length → k < i → sumN (l.getD i []) = sumN (l.getD k []) → l.getD i [] = l.getD k [] := by
    intro i k hi hk he
    unfold shownB at h
    rw [List.any_eq_false] at h
    have h1 := h i (by simpa using hi)
    unfold rowB at h1
    have h1' : (List.range i).any (pairB l i) = false := by simpa using h1
    rw [List.any_eq_false] at h1'
    have h2 := h1' k (by simpa using hk)
    unfold pairB at h2
    rw [he] at h2
    simpa using h2
  intro a b ha hb he
  obtain ⟨i, hi, rfl⟩ := List.mem_iff_getElem.1 ha
  obtain ⟨k, hk, rfl⟩ := List.mem_iff_getElem.1 hb
  have e1 : l.getD i [] = l[i] := by simp [List.getD, hi]
  have e2 : l.getD k [] = l[k] := by simp [List.getD, hk]
  rcases Nat.lt_trichotomy i k with q | q | q
  · have := key k i hk q (by rw [e1, e2]; exact he.symm)
    rw [e1, e2] at this
    exact this.symm
  · subst q; rfl
  · have := key i k hi q (by rw [e1, e2]; exact he)
    rw [e1, e2] at this
    exact this
def sums (l : List (List UInt8)) (k : Nat) : List (List UInt8) := (l.take k).map sumN
theorem sums_len {l : List (List UInt8)} {k : Nat} (h : k ≤ l.length) : (sums l k).length = k := by simp [sums]; omega
theorem sums_succ {l : List (List UInt8)} {k : Nat} (h : k < l.length) : sums l (k + 1) = sums l k ++ [sumN (l.getD k [])] := by
  unfold sums
  rw [List.take_succ_eq_append_getElem h, List.map_append]; simp [List.getD, h]
theorem sums_get {l : List (List UInt8)} {k : Nat} (h : k < l.length) : (strs (sums l l.length)).getD k .undef = .str (sumN (l.getD k [])) := by
  rw [strs_get (by rw [sums_len (Nat.le_refl _)]; exact h)]
  simp [sums, List.getD, h]
set_option maxHeartbeats 4000000 in
theorem shown_p (l : List (List UInt8)) (hl : l.length ≤ 100000) (hx : ∀ x ∈ l, x.length < 65536) : Pur M 22 [.slice (strs l) .no] (.bool (shownB l)) := by
  refine ok22 rfl ?_
  rw [i22]
  unfold c22
  have hsl := strs_len l
  repeat' (first
    | with_reducible first | apply swp_seq | apply swp_reg | apply swp_regD | apply swp_block | apply swp_exit | apply swp_ret | apply swp_skip | apply swp_cd
    | simp only [go_sem, seval, P22, q22]
    | simp (disch := omega) only [w64, w32, wu8, wu16, wu32, wu64]
    | ((with_reducible apply s_appT); (case he => rfl); (case hK | hc | hr | hV => first | rfl | assumption | omega | ((first | refine ⟨?_, ?_⟩ | skip) <;> first | omega | (simp only [lN] <;> omega)) | (simp [elemsK, D.isVal, D.cells, D.closedL, D.closed]; first | done | omega)))
    | ((with_reducible apply s_appG); (case he => rfl); (case hV | hK | hr | hl => first | rfl | assumption | omega | ((first | refine ⟨?_, ?_⟩ | skip) <;> first | omega | (simp only [lN] <;> omega)) | (simp [elemsK, D.isVal, D.cells, D.closedL, D.closed]; first | done | omega)))
    | ((with_reducible apply s_app0); (case he => rfl); (case hK | hc | hr => first | rfl | assumption | omega | ((first | refine ⟨?_, ?_⟩ | skip) <;> first | omega | (simp only [lN] <;> omega)) | (simp [elemsK, D.isVal, D.cells, D.closedL, D.closed]; first | done | omega)))
    | ((with_reducible apply s_appF); (case he => rfl); (case hK | hc | hr | hx | hn => first | rfl | assumption | omega | ((first | refine ⟨?_, ?_⟩ | skip) <;> first | omega | (simp only [lN] <;> omega)) | (simp [elemsK, D.isVal, D.cells, D.closedL, D.closed]; first | done | omega)))
    | ((with_reducible apply s_bsl); (case he | hl | hc => first | rfl | assumption | omega | ((first | refine ⟨?_, ?_⟩ | skip) <;> first | omega | (simp only [lN] <;> omega)) | (simp [elemsK, D.isVal, D.cells, D.closedL, D.closed]; first | done | omega)))
    | with_reducible first | apply cd_dec | apply cd_eq | apply cd_ne | apply cd_split | apply gd_dec | apply gd_eq | apply gd_ne | apply gd_split | apply gq_dec | apply gq_eq | apply gq_ne | apply gq_split
    | ((with_reducible refine And.intro ?hw ?_); (case hw => first | omega | rfl | exact ⟨_, _, rfl⟩ | assumption | (simp only [lN] <;> omega)))
    | with_reducible intro _)
  refine swp_weak (weak_new 2 1 (by decide) false rfl) ?_
  refine swp_fam [0, 2, 3] (fun k : Nat => ⟨[.slice (strs l) .no, .undef, .slice (strs (sums l k)) (.tok 0), .int .i64 (k : Nat), .undef, .undef, .undef, .undef, .undef, .undef], [], ⟨[], [.per 1 k]⟩⟩)
    (fun k => k ≤ l.length) (fun k => l.length - k) 0 (by omega) ?_ ?_
  · simp [keepE, St.keep, sums]
  intro k hk
  by_cases hlt : k < l.length
  · have hg := strs_get hlt
    have t1 : ((k : Nat) : Int).toNat = k := Int.toNat_natCast k
    have c1 := rsum_p (l.getD k []) (by
      have : l.getD k [] = l[k] := by simp [List.getD, hlt]
      rw [this]; exact hx _ (List.getElem_mem hlt))
    have hss := sums_succ hlt
    have hle := sums_len hk
    generalize sumN (l.getD k []) = z at *
    generalize l.getD k [] = y at *
    generalize sums l k = T at *
    have hT := strs_len T
    generalize hL : strs l = L at *
    repeat' (first
    | with_reducible first | apply swp_seq | apply swp_reg | apply swp_regD | apply swp_block | apply swp_exit | apply swp_ret | apply swp_skip | apply swp_cd
    | simp only [go_sem, seval, P22, q22, t1, hg, hsl]
    | simp (disch := omega) only [w64, w32, wu8, wu16, wu32, wu64]
    | ((with_reducible refine o_call (c1) ?he ?hc ?_); (case he | hc => first | rfl | (simp [D.erL, D.er, D.closedL, D.closed, hsl, hT, hle]; done)))
    | ((with_reducible apply s_appT); (case he => rfl); (case hK | hc | hr | hV => first | rfl | assumption | omega | ((first | refine ⟨?_, ?_⟩ | skip) <;> first | omega | (simp only [lN, hsl, hT, hle] <;> omega)) | (simp [elemsK, D.isVal, D.cells, D.closedL, D.closed, hsl, hT, hle]; first | done | omega)))
    | ((with_reducible apply s_appG); (case he => rfl); (case hV | hK | hr | hl => first | rfl | assumption | omega | ((first | refine ⟨?_, ?_⟩ | skip) <;> first | omega | (simp only [lN, hsl, hT, hle] <;> omega)) | (simp [elemsK, D.isVal, D.cells, D.closedL, D.closed, hsl, hT, hle]; first | done | omega)))
    | ((with_reducible apply s_app0); (case he => rfl); (case hK | hc | hr => first | rfl | assumption | omega | ((first | refine ⟨?_, ?_⟩ | skip) <;> first | omega | (simp only [lN, hsl, hT, hle] <;> omega)) | (simp [elemsK, D.isVal, D.cells, D.closedL, D.closed, hsl, hT, hle]; first | done | omega)))
    | ((with_reducible apply s_appF); (case he => rfl); (case hK | hc | hr | hx | hn => first | rfl | assumption | omega | ((first | refine ⟨?_, ?_⟩ | skip) <;> first | omega | (simp only [lN, hsl, hT, hle] <;> omega)) | (simp [elemsK, D.isVal, D.cells, D.closedL, D.closed, hsl, hT, hle]; first | done | omega)))
    | ((with_reducible apply s_bsl); (case he | hl | hc => first | rfl | assumption | omega | ((first | refine ⟨?_, ?_⟩ | skip) <;> first | omega | (simp only [lN, hsl, hT, hle] <;> omega)) | (simp [elemsK, D.isVal, D.cells, D.closedL, D.closed, hsl, hT, hle]; first | done | omega)))
    | with_reducible first | apply cd_dec | apply cd_eq | apply cd_ne | apply cd_split | apply gd_dec | apply gd_eq | apply gd_ne | apply gd_split | apply gq_dec | apply gq_eq | apply gq_ne | apply gq_split
    | ((with_reducible refine And.intro ?hw ?_); (case hw => first | omega | rfl | exact ⟨_, _, rfl⟩ | assumption | (simp only [lN, hsl, hT, hle] <;> omega)))
    | with_reducible intro _)
    all_goals try omega
    refine ⟨k + 1, by omega, by omega, ?_⟩
    rw [hss]
    simp [keepE, St.keep, hL, hle]
  have e : k = l.length := by omega
  subst e
  have hg0 : ∀ i, i < l.length → (strs (sums l l.length)).getD i .undef = .str (sumN (l.getD i [])) := fun i hi => sums_get hi
  have hsu : (strs (sums l l.length)).length = l.length := by rw [strs_len, sums_len (Nat.le_refl _)]
  generalize hU : strs (sums l l.length) = U at *
  repeat' (first
    | with_reducible first | apply swp_seq | apply swp_reg | apply swp_regD | apply swp_block | apply swp_exit | apply swp_ret | apply swp_skip | apply swp_cd
    | simp only [go_sem, seval, P22, q22]
    | simp (disch := omega) only [w64, w32, wu8, wu16, wu32, wu64]
    | ((with_reducible apply s_appT); (case he => rfl); (case hK | hc | hr | hV => first | rfl | assumption | omega | ((first | refine ⟨?_, ?_⟩ | skip) <;> first | omega | (simp only [lN] <;> omega)) | (simp [elemsK, D.isVal, D.cells, D.closedL, D.closed]; first | done | omega)))
    | ((with_reducible apply s_appG); (case he => rfl); (case hV | hK | hr | hl => first | rfl | assumption | omega | ((first | refine ⟨?_, ?_⟩ | skip) <;> first | omega | (simp only [lN] <;> omega)) | (simp [elemsK, D.isVal, D.cells, D.closedL, D.closed]; first | done | omega)))
    | ((with_reducible apply s_app0); (case he => rfl); (case hK | hc | hr => first | rfl | assumption | omega | ((first | refine ⟨?_, ?_⟩ | skip) <;> first | omega | (simp only [lN] <;> omega)) | (simp [elemsK, D.isVal, D.cells, D.closedL, D.closed]; first | done | omega)))
    | ((with_reducible apply s_appF); (case he => rfl); (case hK | hc | hr | hx | hn => first | rfl | assumption | omega | ((first | refine ⟨?_, ?_⟩ | skip) <;> first | omega | (simp only [lN] <;> omega)) | (simp [elemsK, D.isVal, D.cells, D.closedL, D.closed]; first | done | omega)))
    | ((with_reducible apply s_bsl); (case he | hl | hc => first | rfl | assumption | omega | ((first | refine ⟨?_, ?_⟩ | skip) <;> first | omega | (simp only [lN] <;> omega)) | (simp [elemsK, D.isVal, D.cells, D.closedL, D.closed]; first | done | omega)))
    | with_reducible first | apply cd_dec | apply cd_eq | apply cd_ne | apply cd_split | apply gd_dec | apply gd_eq | apply gd_ne | apply gd_split | apply gq_dec | apply gq_eq | apply gq_ne | apply gq_split
    | ((with_reducible refine And.intro ?hw ?_); (case hw => first | omega | rfl | exact ⟨_, _, rfl⟩ | assumption | (simp only [lN] <;> omega)))
    | with_reducible intro _)
  all_goals try omega
  refine swp_fam [0, 2, 4] (fun i : Nat => ⟨[.slice (strs l) .no, .undef, .slice U (.tok 0), .undef, .int .i64 (i : Nat), .undef, .undef, .undef, .undef, .undef], [], ⟨[], [.per 1 l.length]⟩⟩)
    (fun i => i ≤ l.length ∧ (List.range i).any (rowB l) = false) (fun i => l.length - i) 0 ⟨by omega, rfl⟩ ?_ ?_
  · simp [keepE, St.keep]
  rintro i ⟨hi, hi2⟩
  by_cases hlt2 : i < l.length
  · repeat' (first
    | with_reducible first | apply swp_seq | apply swp_reg | apply swp_regD | apply swp_block | apply swp_exit | apply swp_ret | apply swp_skip | apply swp_cd
    | simp only [go_sem, seval, P22, q22, hsl]
    | simp (disch := omega) only [w64, w32, wu8, wu16, wu32, wu64]
    | ((with_reducible apply s_appT); (case he => rfl); (case hK | hc | hr | hV => first | rfl | assumption | omega | ((first | refine ⟨?_, ?_⟩ | skip) <;> first | omega | (simp only [lN, hsl] <;> omega)) | (simp [elemsK, D.isVal, D.cells, D.closedL, D.closed, hsl]; first | done | omega)))
    | ((with_reducible apply s_appG); (case he => rfl); (case hV | hK | hr | hl => first | rfl | assumption | omega | ((first | refine ⟨?_, ?_⟩ | skip) <;> first | omega | (simp only [lN, hsl] <;> omega)) | (simp [elemsK, D.isVal, D.cells, D.closedL, D.closed, hsl]; first | done | omega)))
    | ((with_reducible apply s_app0); (case he => rfl); (case hK | hc | hr => first | rfl | assumption | omega | ((first | refine ⟨?_, ?_⟩ | skip) <;> first | omega | (simp only [lN, hsl] <;> omega)) | (simp [elemsK, D.isVal, D.cells, D.closedL, D.closed, hsl]; first | done | omega)))
    | ((with_reducible apply s_appF); (case he => rfl); (case hK | hc | hr | hx | hn => first | rfl | assumption | omega | ((first | refine ⟨?_, ?_⟩ | skip) <;> first | omega | (simp only [lN, hsl] <;> omega)) | (simp [elemsK, D.isVal, D.cells, D.closedL, D.closed, hsl]; first | done | omega)))
    | ((with_reducible apply s_bsl); (case he | hl | hc => first | rfl | assumption | omega | ((first | refine ⟨?_, ?_⟩ | skip) <;> first | omega | (simp only [lN, hsl] <;> omega)) | (simp [elemsK, D.isVal, D.cells, D.closedL, D.closed, hsl]; first | done | omega)))
    | with_reducible first | apply cd_dec | apply cd_eq | apply cd_ne | apply cd_split | apply gd_dec | apply gd_eq | apply gd_ne | apply gd_split | apply gq_dec | apply gq_eq | apply gq_ne | apply gq_split
    | ((with_reducible refine And.intro ?hw ?_); (case hw => first | omega | rfl | exact ⟨_, _, rfl⟩ | assumption | (simp only [lN, hsl] <;> omega)))
    | with_reducible intro _)
    all_goals try omega
    refine swp_fam [0, 2, 4, 5] (fun k : Nat => ⟨[.slice (strs l) .no, .undef, .slice U (.tok 0), .undef, .int .i64 (i : Nat), .int .i64 (k : Nat), .undef, .undef, .undef, .undef], [], ⟨[], [.per 1 l.length]⟩⟩)
      (fun k => k ≤ i ∧ (List.range k).any (pairB l i) = false) (fun k => i - k) 0 ⟨by omega, rfl⟩ ?_ ?_
    · simp [keepE, St.keep]
    rintro k ⟨hk1, hk2⟩
    by_cases hlt3 : k < i
    · have g1 := hg0 i hlt2
      have g2 := hg0 k (by omega)
      have g3 := strs_get hlt2
      have g4 := strs_get (l := l) (i := k) (by omega)
      have t1 : ((k : Nat) : Int).toNat = k := Int.toNat_natCast k
      have t2 : ((i : Nat) : Int).toNat = i := Int.toNat_natCast i
      have hps := any_succ (pairB l i) k
      rw [hk2, Bool.false_or] at hps
      have hyes : pairB l i k = true → shownB l = true := by
        intro q
        unfold shownB
        rw [List.any_eq_true]
        refine ⟨i, by simpa using hlt2, ?_⟩
        unfold rowB
        rw [List.any_eq_true]
        exact ⟨k, by simpa using hlt3, q⟩
      have hpb : pairB l i k = ((sumN (l.getD i []) == sumN (l.getD k [])) && (l.getD i [] != l.getD k [])) := rfl
      generalize sumN (l.getD i []) = s1 at *
      generalize sumN (l.getD k []) = s2 at *
      generalize l.getD i [] = x1 at *
      generalize l.getD k [] = x2 at *
      generalize hL : strs l = L at *
      cases b1 : (s1 == s2)
      · rw [b1, Bool.false_and] at hpb
        repeat' (first
    | with_reducible first | apply swp_seq | apply swp_reg | apply swp_regD | apply swp_block | apply swp_exit | apply swp_ret | apply swp_skip | apply swp_cd
    | simp only [go_sem, seval, P22, q22, t1, t2, g1, g2, g3, g4, hsl, hsu, b1]
    | simp (disch := omega) only [w64, w32, wu8, wu16, wu32, wu64]
    | ((with_reducible apply s_appT); (case he => rfl); (case hK | hc | hr | hV => first | rfl | assumption | omega | ((first | refine ⟨?_, ?_⟩ | skip) <;> first | omega | (simp only [lN, hsl, hsu] <;> omega)) | (simp [elemsK, D.isVal, D.cells, D.closedL, D.closed, hsl, hsu]; first | done | omega)))
    | ((with_reducible apply s_appG); (case he => rfl); (case hV | hK | hr | hl => first | rfl | assumption | omega | ((first | refine ⟨?_, ?_⟩ | skip) <;> first | omega | (simp only [lN, hsl, hsu] <;> omega)) | (simp [elemsK, D.isVal, D.cells, D.closedL, D.closed, hsl, hsu]; first | done | omega)))
    | ((with_reducible apply s_app0); (case he => rfl); (case hK | hc | hr => first | rfl | assumption | omega | ((first | refine ⟨?_, ?_⟩ | skip) <;> first | omega | (simp only [lN, hsl, hsu] <;> omega)) | (simp [elemsK, D.isVal, D.cells, D.closedL, D.closed, hsl, hsu]; first | done | omega)))
    | ((with_reducible apply s_appF); (case he => rfl); (case hK | hc | hr | hx | hn => first | rfl | assumption | omega | ((first | refine ⟨?_, ?_⟩ | skip) <;> first | omega | (simp only [lN, hsl, hsu] <;> omega)) | (simp [elemsK, D.isVal, D.cells, D.closedL, D.closed, hsl, hsu]; first | done | omega)))
    | ((with_reducible apply s_bsl); (case he | hl | hc => first | rfl | assumption | omega | ((first | refine ⟨?_, ?_⟩ | skip) <;> first | omega | (simp only [lN, hsl, hsu] <;> omega)) | (simp [elemsK, D.isVal, D.cells, D.closedL, D.closed, hsl, hsu]; first | done | omega)))
    | with_reducible first | apply cd_dec | apply cd_eq | apply cd_ne | apply cd_split | apply gd_dec | apply gd_eq | apply gd_ne | apply gd_split | apply gq_dec | apply gq_eq | apply gq_ne | apply gq_split
    | ((with_reducible refine And.intro ?hw ?_); (case hw => first | omega | rfl | exact ⟨_, _, rfl⟩ | assumption | (simp only [lN, hsl, hsu] <;> omega)))
    | with_reducible intro _)
        all_goals try omega
        refine ⟨k + 1, ⟨by omega, by rw [hps, hpb]⟩, by omega, ?_⟩
        simp [keepE, St.keep]
      · rw [b1, Bool.true_and] at hpb
        have hne : (x1 != x2) = !(x1 == x2) := rfl
        rw [hne] at hpb
        cases b2 : (x1 == x2)
        · rw [b2] at hpb
          rw [hyes hpb]
          repeat' (first
    | with_reducible first | apply swp_seq | apply swp_reg | apply swp_regD | apply swp_block | apply swp_exit | apply swp_ret | apply swp_skip | apply swp_cd
    | simp only [go_sem, seval, P22, q22, t1, t2, g1, g2, g3, g4, hsl, hsu, b1, b2]
    | simp (disch := omega) only [w64, w32, wu8, wu16, wu32, wu64]
    | ((with_reducible apply s_appT); (case he => rfl); (case hK | hc | hr | hV => first | rfl | assumption | omega | ((first | refine ⟨?_, ?_⟩ | skip) <;> first | omega | (simp only [lN, hsl, hsu] <;> omega)) | (simp [elemsK, D.isVal, D.cells, D.closedL, D.closed, hsl, hsu]; first | done | omega)))
    | ((with_reducible apply s_appG); (case he => rfl); (case hV | hK | hr | hl => first | rfl | assumption | omega | ((first | refine ⟨?_, ?_⟩ | skip) <;> first | omega | (simp only [lN, hsl, hsu] <;> omega)) | (simp [elemsK, D.isVal, D.cells, D.closedL, D.closed, hsl, hsu]; first | done | omega)))
    | ((with_reducible apply s_app0); (case he => rfl); (case hK | hc | hr => first | rfl | assumption | omega | ((first | refine ⟨?_, ?_⟩ | skip) <;> first | omega | (simp only [lN, hsl, hsu] <;> omega)) | (simp [elemsK, D.isVal, D.cells, D.closedL, D.closed, hsl, hsu]; first | done | omega)))
    | ((with_reducible apply s_appF); (case he => rfl); (case hK | hc | hr | hx | hn => first | rfl | assumption | omega | ((first | refine ⟨?_, ?_⟩ | skip) <;> first | omega | (simp only [lN, hsl, hsu] <;> omega)) | (simp [elemsK, D.isVal, D.cells, D.closedL, D.closed, hsl, hsu]; first | done | omega)))
    | ((with_reducible apply s_bsl); (case he | hl | hc => first | rfl | assumption | omega | ((first | refine ⟨?_, ?_⟩ | skip) <;> first | omega | (simp only [lN, hsl, hsu] <;> omega)) | (simp [elemsK, D.isVal, D.cells, D.closedL, D.closed, hsl, hsu]; first | done | omega)))
    | with_reducible first | apply cd_dec | apply cd_eq | apply cd_ne | apply cd_split | apply gd_dec | apply gd_eq | apply gd_ne | apply gd_split | apply gq_dec | apply gq_eq | apply gq_ne | apply gq_split
    | ((with_reducible refine And.intro ?hw ?_); (case hw => first | omega | rfl | exact ⟨_, _, rfl⟩ | assumption | (simp only [lN, hsl, hsu] <;> omega)))
    | with_reducible intro _)
          all_goals first
            | omega
            | (simp [D.closed, D.er]; done)
        · rw [b2] at hpb
          repeat' (first
    | with_reducible first | apply swp_seq | apply swp_reg | apply swp_regD | apply swp_block | apply swp_exit | apply swp_ret | apply swp_skip | apply swp_cd
    | simp only [go_sem, seval, P22, q22, t1, t2, g1, g2, g3, g4, hsl, hsu, b1, b2]
    | simp (disch := omega) only [w64, w32, wu8, wu16, wu32, wu64]
    | ((with_reducible apply s_appT); (case he => rfl); (case hK | hc | hr | hV => first | rfl | assumption | omega | ((first | refine ⟨?_, ?_⟩ | skip) <;> first | omega | (simp only [lN, hsl, hsu] <;> omega)) | (simp [elemsK, D.isVal, D.cells, D.closedL, D.closed, hsl, hsu]; first | done | omega)))
    | ((with_reducible apply s_appG); (case he => rfl); (case hV | hK | hr | hl => first | rfl | assumption | omega | ((first | refine ⟨?_, ?_⟩ | skip) <;> first | omega | (simp only [lN, hsl, hsu] <;> omega)) | (simp [elemsK, D.isVal, D.cells, D.closedL, D.closed, hsl, hsu]; first | done | omega)))
    | ((with_reducible apply s_app0); (case he => rfl); (case hK | hc | hr => first | rfl | assumption | omega | ((first | refine ⟨?_, ?_⟩ | skip) <;> first | omega | (simp only [lN, hsl, hsu] <;> omega)) | (simp [elemsK, D.isVal, D.cells, D.closedL, D.closed, hsl, hsu]; first | done | omega)))
    | ((with_reducible apply s_appF); (case he => rfl); (case hK | hc | hr | hx | hn => first | rfl | assumption | omega | ((first | refine ⟨?_, ?_⟩ | skip) <;> first | omega | (simp only [lN, hsl, hsu] <;> omega)) | (simp [elemsK, D.isVal, D.cells, D.closedL, D.closed, hsl, hsu]; first | done | omega)))
    | ((with_reducible apply s_bsl); (case he | hl | hc => first | rfl | assumption | omega | ((first | refine ⟨?_, ?_⟩ | skip) <;> first | omega | (simp only [lN, hsl, hsu] <;> omega)) | (simp [elemsK, D.isVal, D.cells, D.closedL, D.closed, hsl, hsu]; first | done | omega)))
    | with_reducible first | apply cd_dec | apply cd_eq | apply cd_ne | apply cd_split | apply gd_dec | apply gd_eq | apply gd_ne | apply gd_split | apply gq_dec | apply gq_eq | apply gq_ne | apply gq_split
    | ((with_reducible refine And.intro ?hw ?_); (case hw => first | omega | rfl | exact ⟨_, _, rfl⟩ | assumption | (simp only [lN, hsl, hsu] <;> omega)))
    | with_reducible intro _)
          all_goals try omega
          refine ⟨k + 1, ⟨by omega, by rw [hps, hpb]; rfl⟩, by omega, ?_⟩
          simp [keepE, St.keep]
    · have e : k = i := by omega
      subst e
      have hrs := any_succ (rowB l) k
      rw [hi2, Bool.false_or] at hrs
      have hrb : rowB l k = false := hk2
      generalize hL : strs l = L at *
      repeat' (first
    | with_reducible first | apply swp_seq | apply swp_reg | apply swp_regD | apply swp_block | apply swp_exit | apply swp_ret | apply swp_skip | apply swp_cd
    | simp only [go_sem, seval, P22, q22, hsl]
    | simp (disch := omega) only [w64, w32, wu8, wu16, wu32, wu64]
    | ((with_reducible apply s_appT); (case he => rfl); (case hK | hc | hr | hV => first | rfl | assumption | omega | ((first | refine ⟨?_, ?_⟩ | skip) <;> first | omega | (simp only [lN, hsl] <;> omega)) | (simp [elemsK, D.isVal, D.cells, D.closedL, D.closed, hsl]; first | done | omega)))
    | ((with_reducible apply s_appG); (case he => rfl); (case hV | hK | hr | hl => first | rfl | assumption | omega | ((first | refine ⟨?_, ?_⟩ | skip) <;> first | omega | (simp only [lN, hsl] <;> omega)) | (simp [elemsK, D.isVal, D.cells, D.closedL, D.closed, hsl]; first | done | omega)))
    | ((with_reducible apply s_app0); (case he => rfl); (case hK | hc | hr => first | rfl | assumption | omega | ((first | refine ⟨?_, ?_⟩ | skip) <;> first | omega | (simp only [lN, hsl] <;> omega)) | (simp [elemsK, D.isVal, D.cells, D.closedL, D.closed, hsl]; first | done | omega)))
    | ((with_reducible apply s_appF); (case he => rfl); (case hK | hc | hr | hx | hn => first | rfl | assumption | omega | ((first | refine ⟨?_, ?_⟩ | skip) <;> first | omega | (simp only [lN, hsl] <;> omega)) | (simp [elemsK, D.isVal, D.cells, D.closedL, D.closed, hsl]; first | done | omega)))
    | ((with_reducible apply s_bsl); (case he | hl | hc => first | rfl | assumption | omega | ((first | refine ⟨?_, ?_⟩ | skip) <;> first | omega | (simp only [lN, hsl] <;> omega)) | (simp [elemsK, D.isVal, D.cells, D.closedL, D.closed, hsl]; first | done | omega)))
    | with_reducible first | apply cd_dec | apply cd_eq | apply cd_ne | apply cd_split | apply gd_dec | apply gd_eq | apply gd_ne | apply gd_split | apply gq_dec | apply gq_eq | apply gq_ne | apply gq_split
    | ((with_reducible refine And.intro ?hw ?_); (case hw => first | omega | rfl | exact ⟨_, _, rfl⟩ | assumption | (simp only [lN, hsl] <;> omega)))
    | with_reducible intro _)
      all_goals try omega
      refine ⟨k + 1, ⟨by omega, by rw [hrs, hrb]⟩, by omega, ?_⟩
      simp [keepE, St.keep, hL]
  · have e : i = l.length := by omega
    subst e
    have hf : shownB l = false := hi2
    rw [hf]
    generalize hL : strs l = L at *
    repeat' (first
    | with_reducible first | apply swp_seq | apply swp_reg | apply swp_regD | apply swp_block | apply swp_exit | apply swp_ret | apply swp_skip | apply swp_cd
    | simp only [go_sem, seval, P22, q22, hsl]
    | simp (disch := omega) only [w64, w32, wu8, wu16, wu32, wu64]
    | ((with_reducible apply s_appT); (case he => rfl); (case hK | hc | hr | hV => first | rfl | assumption | omega | ((first | refine ⟨?_, ?_⟩ | skip) <;> first | omega | (simp only [lN, hsl] <;> omega)) | (simp [elemsK, D.isVal, D.cells, D.closedL, D.closed, hsl]; first | done | omega)))
    | ((with_reducible apply s_appG); (case he => rfl); (case hV | hK | hr | hl => first | rfl | assumption | omega | ((first | refine ⟨?_, ?_⟩ | skip) <;> first | omega | (simp only [lN, hsl] <;> omega)) | (simp [elemsK, D.isVal, D.cells, D.closedL, D.closed, hsl]; first | done | omega)))
    | ((with_reducible apply s_app0); (case he => rfl); (case hK | hc | hr => first | rfl | assumption | omega | ((first | refine ⟨?_, ?_⟩ | skip) <;> first | omega | (simp only [lN, hsl] <;> omega)) | (simp [elemsK, D.isVal, D.cells, D.closedL, D.closed, hsl]; first | done | omega)))
    | ((with_reducible apply s_appF); (case he => rfl); (case hK | hc | hr | hx | hn => first | rfl | assumption | omega | ((first | refine ⟨?_, ?_⟩ | skip) <;> first | omega | (simp only [lN, hsl] <;> omega)) | (simp [elemsK, D.isVal, D.cells, D.closedL, D.closed, hsl]; first | done | omega)))
    | ((with_reducible apply s_bsl); (case he | hl | hc => first | rfl | assumption | omega | ((first | refine ⟨?_, ?_⟩ | skip) <;> first | omega | (simp only [lN, hsl] <;> omega)) | (simp [elemsK, D.isVal, D.cells, D.closedL, D.closed, hsl]; first | done | omega)))
    | with_reducible first | apply cd_dec | apply cd_eq | apply cd_ne | apply cd_split | apply gd_dec | apply gd_eq | apply gd_ne | apply gd_split | apply gq_dec | apply gq_eq | apply gq_ne | apply gq_split
    | ((with_reducible refine And.intro ?hw ?_); (case hw => first | omega | rfl | exact ⟨_, _, rfl⟩ | assumption | (simp only [lN, hsl] <;> omega)))
    | with_reducible intro _)
    all_goals first
      | omega
      | (simp [D.closed, D.er]; done)
end Go.Proofs.YtgjkhlnpplajjaaDoor
end
section
set_option maxRecDepth 100000
set_option linter.unusedSimpArgs false
set_option linter.unusedVariables false
namespace Go.Proofs.YtgjkhlnpplajjaaDoor
open Go GoV Go.RowKit
def outN (s : List UInt8) (n i : Nat) : List (List UInt8) := ((List.range i).map (madeI s n)).flatten
def outNK (s : List UInt8) (n i k : Nat) : List (List UInt8) := outN s n i ++ ((List.range k).map (madeK s i n)).flatten
theorem outN_succ (s : List UInt8) (n i : Nat) : outN s n (i + 1) = outNK s n i 18 ++ [keyT s i] := by
  simp [outN, outNK, madeI, List.range_succ]
theorem outNK_succ (s : List UInt8) (n i k : Nat) : outNK s n i (k + 1) = outNK s n i k ++ [startT s i k] ++ chnL (start s i k) n := by
  unfold outNK
  rw [List.range_succ, List.map_append, List.flatten_append]
  simp [madeK]
theorem outNK_zero (s : List UInt8) (n i : Nat) : outNK s n i 0 = outN s n i := by simp [outNK]
theorem chnL_len (t : List UInt8) (n : Nat) : (chnL t n).length = n + 1 := by simp [chnL]
theorem chnL_get {t : List UInt8} {n j : Nat} (h : j ≤ n) : (chnL t n).getD j [] = chn j t := by
  simp [chnL, List.getD, show j < n + 1 by omega]
theorem endsP_succ (s : List UInt8) (i k : Nat) : endsP s i (k + 1) = endsP s i k ++ [chn 15 (start s i k)] := endsP_step s i k
theorem pairsT_len : ∀ l : List (List UInt8), (pairsT l).length = l.length / 2
  | [] => rfl
  | [_] => by simp [pairsT]
  | a :: b :: l => by
    simp only [pairsT, List.length_cons, pairsT_len l]
    omega
theorem pairsT_get : ∀ (l : List (List UInt8)) (i : Nat), 2 * i + 1 < l.length → (pairsT l).getD i [] = nodT (l.getD (2 * i) []) (l.getD (2 * i + 1) [])
  | [], i, h => by simp at h
  | [_], i, h => by simp at h
  | a :: b :: l, 0, _ => rfl
  | a :: b :: l, i + 1, h => by
    have := pairsT_get l i (by simp only [List.length_cons] at h; omega)
    rw [show 2 * (i + 1) = 2 * i + 1 + 1 by omega]
    simp only [pairsT, List.getD_cons_succ]
    exact this
theorem pairsT_take {l : List (List UInt8)} {j : Nat} (h : 2 * j + 1 < l.length) : (pairsT l).take (j + 1) = (pairsT l).take j ++ [nodT (l.getD (2 * j) []) (l.getD (2 * j + 1) [])] := by
  have h1 := pairsT_get l j h
  have h2 := pairsT_len l
  rw [List.take_succ_eq_append_getElem (by omega), ← h1]
  simp [List.getD, show j < (pairsT l).length by omega]
theorem flat_len {f : Nat → List (List UInt8)} {c : Nat} (h : ∀ i, (f i).length = c) : ∀ n, ((List.range n).map f).flatten.length = n * c
  | 0 => by simp
  | n + 1 => by
    rw [List.range_succ, List.map_append, List.flatten_append, List.length_append, flat_len h n, Nat.succ_mul]
    simp [h]
theorem madeK_len (s : List UInt8) (i n k : Nat) : (madeK s i n k).length = n + 2 := by simp [madeK, chnL_len]
theorem madeI_len (s : List UInt8) (n i : Nat) : (madeI s n i).length = 18 * (n + 2) + 1 := by
  unfold madeI
  rw [List.length_append, flat_len (madeK_len s i n)]
  simp
theorem outNK_bnd {s : List UInt8} {n i k : Nat} (hn : n ≤ 30) (hi : i ≤ 4) (hk : k ≤ 18) : (outNK s n i k).length ≤ 3000 := by
  unfold outNK outN
  rw [List.length_append, flat_len (madeI_len s n), flat_len (madeK_len s i n)]
  have h1 : i * (18 * (n + 2) + 1) ≤ 4 * 577 := Nat.mul_le_mul hi (by omega)
  have h2 : k * (n + 2) ≤ 18 * 32 := Nat.mul_le_mul hk (by omega)
  omega
theorem rnL_strs (β τ : Nat → Option Nat) : ∀ l : List (List UInt8), D.rnL β τ (l.map D.str) = l.map D.str
  | [] => rfl
  | a :: l => by simp only [List.map_cons, D.rnL, D.rn, rnL_strs β τ l]
set_option maxHeartbeats 4000000 in
theorem made_e (s : List UInt8) (h n : Nat) (hs : s.length ≤ 300) (hh : h ≤ 2) (hn : 15 ≤ n) (hn2 : n ≤ 30) :
    Eff M 23 [.str s, .int .i64 (h : Nat), .int .i64 (n : Nat)] ⟨[], []⟩ fun d hp => d = .slice (strs (made s h n)) (.tok 0) ∧ hp = ⟨[], [.per 1 (made s h n).length]⟩ := by
  refine oe23 0 0 rfl rfl rfl ?_
  rw [ie23]
  unfold c23
  have c0 := power_p h (by omega)
  have hN : 2 ^ h ≤ 2 ^ 2 := Nat.pow_le_pow_right (by omega) (by omega)
  have h4 : (2 : Nat) ^ 2 = 4 := by decide
  have hmade : made s h n = outN s n (2 ^ h) ++ nodesL (keys s (2 ^ h)) := rfl
  rw [h4] at hN
  generalize hN2 : 2 ^ h = N at *
  repeat' (first
    | with_reducible first | apply swp_seq | apply swp_reg | apply swp_regD | apply swp_block | apply swp_exit | apply swp_ret | apply swp_skip | apply swp_cd
    | simp only [go_sem, seval, pe23, q23]
    | simp (disch := omega) only [w64, w32, wu8, wu16, wu32, wu64]
    | ((with_reducible apply s_appT); (case he => rfl); (case hK | hc | hr | hV => first | rfl | assumption | omega | ((first | refine ⟨?_, ?_⟩ | skip) <;> first | omega | (simp only [lN] <;> omega)) | (simp [elemsK, D.isVal, D.cells, D.closedL, D.closed]; first | done | omega)))
    | ((with_reducible apply s_appG); (case he => rfl); (case hV | hK | hr | hl => first | rfl | assumption | omega | ((first | refine ⟨?_, ?_⟩ | skip) <;> first | omega | (simp only [lN] <;> omega)) | (simp [elemsK, D.isVal, D.cells, D.closedL, D.closed]; first | done | omega)))
    | ((with_reducible apply s_app0); (case he => rfl); (case hK | hc | hr => first | rfl | assumption | omega | ((first | refine ⟨?_, ?_⟩ | skip) <;> first | omega | (simp only [lN] <;> omega)) | (simp [elemsK, D.isVal, D.cells, D.closedL, D.closed]; first | done | omega)))
    | ((with_reducible apply s_appF); (case he => rfl); (case hK | hc | hr | hx | hn => first | rfl | assumption | omega | ((first | refine ⟨?_, ?_⟩ | skip) <;> first | omega | (simp only [lN] <;> omega)) | (simp [elemsK, D.isVal, D.cells, D.closedL, D.closed]; first | done | omega)))
    | ((with_reducible first | apply s_bsl | apply t_bsl); (case he | hl | hc => first | rfl | assumption | omega | ((first | refine ⟨?_, ?_⟩ | skip) <;> first | omega | (simp only [lN] <;> omega)) | (simp [elemsK, D.isVal, D.cells, D.closedL, D.closed]; first | done | omega)))
    | with_reducible first | apply cd_dec | apply cd_eq | apply cd_ne | apply cd_split
    | ((with_reducible refine And.intro ?hw ?_); (case hw => first | omega | rfl | exact ⟨_, _, rfl⟩ | assumption | (simp only [lN] <;> omega)))
    | with_reducible intro _)
  refine swp_weak (weak_new 4 1 (by decide) false rfl) ?_
  refine swp_weak (weak_new 5 1 (by decide) false rfl) ?_
  refine swp_famG [0, 1, 2, 4, 5, 6] 0 2 (by decide) (by decide) (fun i : Nat => ⟨[.str s, .int .i64 (h : Nat), .int .i64 (n : Nat), .undef, .slice (strs (outN s n i)) (.tok 0), .slice (strs (keys s i)) (.tok 1), .int .i64 (i : Nat), .undef, .undef, .undef, .undef, .undef, .undef, .undef, .undef, .undef, .undef, .undef], [], ⟨[], [.per 1 (outN s n i).length, .per 1 i]⟩⟩)
    (fun i => i ≤ N) (fun i => N - i) 0 (by omega) ?_ ?_
  · simp [keepE, St.keep, St.keepG, St.gc, Hp.cut, D.rnL, D.rn, cutF, Own.rn, Blk.rn, Blk.rnL, Tv.rn, Tv.rnL, outN, keys]
  intro i hi
  have hkl := keys_len s i
  by_cases hlt : i < N
  · repeat' (first
    | with_reducible first | apply swp_seq | apply swp_reg | apply swp_regD | apply swp_block | apply swp_exit | apply swp_ret | apply swp_skip | apply swp_cd
    | simp only [go_sem, seval, pe23, q23]
    | simp (disch := omega) only [w64, w32, wu8, wu16, wu32, wu64]
    | ((with_reducible first | refine o_call (c0) ?he ?hc ?_ | refine p_call (c0) ?he ?hc ?_ | refine c_call (c0) ?he ?hc ?_); (case he | hc => first | rfl | (simp [D.erL, D.er, D.closedL, D.closed]; done)))
    | ((with_reducible apply s_appT); (case he => rfl); (case hK | hc | hr | hV => first | rfl | assumption | omega | ((first | refine ⟨?_, ?_⟩ | skip) <;> first | omega | (simp only [lN] <;> omega)) | (simp [elemsK, D.isVal, D.cells, D.closedL, D.closed]; first | done | omega)))
    | ((with_reducible apply s_appG); (case he => rfl); (case hV | hK | hr | hl => first | rfl | assumption | omega | ((first | refine ⟨?_, ?_⟩ | skip) <;> first | omega | (simp only [lN] <;> omega)) | (simp [elemsK, D.isVal, D.cells, D.closedL, D.closed]; first | done | omega)))
    | ((with_reducible apply s_app0); (case he => rfl); (case hK | hc | hr => first | rfl | assumption | omega | ((first | refine ⟨?_, ?_⟩ | skip) <;> first | omega | (simp only [lN] <;> omega)) | (simp [elemsK, D.isVal, D.cells, D.closedL, D.closed]; first | done | omega)))
    | ((with_reducible apply s_appF); (case he => rfl); (case hK | hc | hr | hx | hn => first | rfl | assumption | omega | ((first | refine ⟨?_, ?_⟩ | skip) <;> first | omega | (simp only [lN] <;> omega)) | (simp [elemsK, D.isVal, D.cells, D.closedL, D.closed]; first | done | omega)))
    | ((with_reducible first | apply s_bsl | apply t_bsl); (case he | hl | hc => first | rfl | assumption | omega | ((first | refine ⟨?_, ?_⟩ | skip) <;> first | omega | (simp only [lN] <;> omega)) | (simp [elemsK, D.isVal, D.cells, D.closedL, D.closed]; first | done | omega)))
    | with_reducible first | apply cd_dec | apply cd_eq | apply cd_ne | apply cd_split
    | ((with_reducible refine And.intro ?hw ?_); (case hw => first | omega | rfl | exact ⟨_, _, rfl⟩ | assumption | (simp only [lN] <;> omega)))
    | with_reducible intro _)
    all_goals try omega
    refine swp_weak (weak_new 7 1 (by decide) false rfl) ?_
    refine swp_fam [0, 1, 2, 4, 5, 6, 7, 8] (fun k : Nat => ⟨[.str s, .int .i64 (h : Nat), .int .i64 (n : Nat), .undef, .slice (strs (outNK s n i k)) (.tok 0), .slice (strs (keys s i)) (.tok 1), .int .i64 (i : Nat), .slice (strs (endsP s i k)) (.tok 2), .int .i64 (k : Nat), .undef, .undef, .undef, .undef, .undef, .undef, .undef, .undef, .undef], [], ⟨[], [.per 1 (outNK s n i k).length, .per 1 i, .per 1 k]⟩⟩)
      (fun k => k ≤ 18) (fun k => 18 - k) 0 (by omega) ?_ ?_
    · simp [keepE, St.keep, outNK_zero, endsP]
    intro k hk
    have hel := endsP_len s i k
    by_cases hlt2 : k < 18
    · have c1 := rdec_p i (by omega)
      have c2 := rdec_p k (by omega)
      have hokl := okL_start (s := s) (i := i) (k := k) hs (by omega) (by omega)
      have c3 := joined_p [s, Lib.itoa (i : Int), Lib.itoa (k : Int)] hokl
      have ej : joined [s, Lib.itoa (i : Int), Lib.itoa (k : Int)] = startT s i k := rfl
      have hjl := joined_len hokl
      rw [ej] at c3 hjl
      have c4 := rsum_p (startT s i k) (by omega)
      have es : sumN (startT s i k) = start s i k := rfl
      rw [es] at c4
      have c5 := chained_p (start s i k) n (by rw [start_len]; omega) (by omega)
      have hcl := chnL_len (start s i k) n
      have hcg : (strs (chnL (start s i k) n)).getD 15 .undef = .str (chn 15 (start s i k)) := by
        rw [strs_get (by omega), chnL_get (by omega)]
      have hcs := strs_len (chnL (start s i k) n)
      have kel := elems_strs (chnL (start s i k) n)
      have kcl := closed_strs (chnL (start s i k) n)
      have ker := erL_strs (chnL (start s i k) n)
      have ho := outNK_succ s n i k
      have he := endsP_succ s i k
      have t1 : (15 : Int).toNat = 15 := rfl
      have hos := strs_len (outNK s n i k)
      have hob := outNK_bnd (s := s) (n := n) (i := i) (k := k) hn2 (by omega) hk
      have hes := strs_len (endsP s i k)
      generalize chn 15 (start s i k) = z at *
      generalize hCL : chnL (start s i k) n = CL at *
      generalize start s i k = st at *
      generalize startT s i k = stT at *
      generalize hO : outNK s n i k = O at *
      generalize hE : endsP s i k = E at *
      generalize Lib.itoa (i : Int) = si at *
      generalize Lib.itoa (k : Int) = sk at *
      generalize hSC : strs CL = SC at *
      repeat' (first
    | with_reducible first | apply swp_seq | apply swp_reg | apply swp_regD | apply swp_block | apply swp_exit | apply swp_ret | apply swp_skip | apply swp_cd
    | simp only [go_sem, seval, pe23, q23, t1, hcg, ker]
    | simp (disch := omega) only [w64, w32, wu8, wu16, wu32, wu64]
    | ((with_reducible first | refine o_call (c1) ?he ?hc ?_ | refine p_call (c1) ?he ?hc ?_ | refine c_call (c1) ?he ?hc ?_); (case he | hc => first | rfl | (simp [D.erL, D.er, D.closedL, D.closed, hcs, hcl, hos, hes, hel, kel, kcl, ker]; done)))
    | ((with_reducible first | refine o_call (c2) ?he ?hc ?_ | refine p_call (c2) ?he ?hc ?_ | refine c_call (c2) ?he ?hc ?_); (case he | hc => first | rfl | (simp [D.erL, D.er, D.closedL, D.closed, hcs, hcl, hos, hes, hel, kel, kcl, ker]; done)))
    | ((with_reducible first | refine o_call (c3) ?he ?hc ?_ | refine p_call (c3) ?he ?hc ?_ | refine c_call (c3) ?he ?hc ?_); (case he | hc => first | rfl | (simp [D.erL, D.er, D.closedL, D.closed, hcs, hcl, hos, hes, hel, kel, kcl, ker]; done)))
    | ((with_reducible first | refine o_call (c4) ?he ?hc ?_ | refine p_call (c4) ?he ?hc ?_ | refine c_call (c4) ?he ?hc ?_); (case he | hc => first | rfl | (simp [D.erL, D.er, D.closedL, D.closed, hcs, hcl, hos, hes, hel, kel, kcl, ker]; done)))
    | ((with_reducible first | refine o_call (c5) ?he ?hc ?_ | refine p_call (c5) ?he ?hc ?_ | refine c_call (c5) ?he ?hc ?_); (case he | hc => first | rfl | (simp [D.erL, D.er, D.closedL, D.closed, hcs, hcl, hos, hes, hel, kel, kcl, ker]; done)))
    | ((with_reducible apply s_appT); (case he => rfl); (case hK | hc | hr | hV => first | rfl | assumption | omega | ((first | refine ⟨?_, ?_⟩ | skip) <;> first | omega | (simp only [lN, hcs, hcl, hos, hes, hel, kel, kcl, ker] <;> omega)) | (simp [elemsK, D.isVal, D.cells, D.closedL, D.closed, hcs, hcl, hos, hes, hel, kel, kcl, ker]; first | done | omega)))
    | ((with_reducible apply s_appG); (case he => rfl); (case hV | hK | hr | hl => first | rfl | assumption | omega | ((first | refine ⟨?_, ?_⟩ | skip) <;> first | omega | (simp only [lN, hcs, hcl, hos, hes, hel, kel, kcl, ker] <;> omega)) | (simp [elemsK, D.isVal, D.cells, D.closedL, D.closed, hcs, hcl, hos, hes, hel, kel, kcl, ker]; first | done | omega)))
    | ((with_reducible apply s_app0); (case he => rfl); (case hK | hc | hr => first | rfl | assumption | omega | ((first | refine ⟨?_, ?_⟩ | skip) <;> first | omega | (simp only [lN, hcs, hcl, hos, hes, hel, kel, kcl, ker] <;> omega)) | (simp [elemsK, D.isVal, D.cells, D.closedL, D.closed, hcs, hcl, hos, hes, hel, kel, kcl, ker]; first | done | omega)))
    | ((with_reducible apply s_appF); (case he => rfl); (case hK | hc | hr | hx | hn => first | rfl | assumption | omega | ((first | refine ⟨?_, ?_⟩ | skip) <;> first | omega | (simp only [lN, hcs, hcl, hos, hes, hel, kel, kcl, ker] <;> omega)) | (simp [elemsK, D.isVal, D.cells, D.closedL, D.closed, hcs, hcl, hos, hes, hel, kel, kcl, ker]; first | done | omega)))
    | ((with_reducible first | apply s_bsl | apply t_bsl); (case he | hl | hc => first | rfl | assumption | omega | ((first | refine ⟨?_, ?_⟩ | skip) <;> first | omega | (simp only [lN, hcs, hcl, hos, hes, hel, kel, kcl, ker] <;> omega)) | (simp [elemsK, D.isVal, D.cells, D.closedL, D.closed, hcs, hcl, hos, hes, hel, kel, kcl, ker]; first | done | omega)))
    | with_reducible first | apply cd_dec | apply cd_eq | apply cd_ne | apply cd_split
    | ((with_reducible refine And.intro ?hw ?_); (case hw => first | omega | rfl | exact ⟨_, _, rfl⟩ | assumption | (simp only [lN, hcs, hcl, hos, hes, hel, kel, kcl, ker] <;> omega)))
    | with_reducible intro _)
      all_goals try omega
      refine ⟨k + 1, by omega, by omega, ?_⟩
      rw [ho, he]
      simp [keepE, St.keep, ← hSC, hcs, hcl, hel]
      try omega
    · have e : k = 18 := by omega
      subst e
      have c1 := joined_p (endsP s i 18) (okL_ends s i)
      have hjl := joined_len (okL_ends s i)
      have e1 : joined (endsP s i 18) = keyT s i := rfl
      have e1' : joined (ends s i) = keyT s i := rfl
      rw [e1] at c1
      rw [e1'] at hjl
      have c2 := rsum_p (keyT s i) (by omega)
      have e2 : sumN (keyT s i) = key s i := rfl
      rw [e2] at c2
      have ho := outN_succ s n i
      have hks := keys_step s i
      have hos := strs_len (outNK s n i 18)
      have hob := outNK_bnd (s := s) (n := n) (i := i) (k := 18) hn2 (by omega) (by omega)
      have hes := strs_len (keys s i)
      have kel := erL_strs (endsP s i 18)
      have kcl := closed_strs (endsP s i 18)
      generalize hE : endsP s i 18 = E at *
      generalize hO : outNK s n i 18 = O at *
      generalize key s i = z at *
      generalize keyT s i = zt at *
      generalize hK : keys s i = K at *
      repeat' (first
    | with_reducible first | apply swp_seq | apply swp_reg | apply swp_regD | apply swp_block | apply swp_exit | apply swp_ret | apply swp_skip | apply swp_cd
    | simp only [go_sem, seval, pe23, q23]
    | simp (disch := omega) only [w64, w32, wu8, wu16, wu32, wu64]
    | ((with_reducible first | refine o_call (c1) ?he ?hc ?_ | refine p_call (c1) ?he ?hc ?_ | refine c_call (c1) ?he ?hc ?_); (case he | hc => first | rfl | (simp [D.erL, D.er, D.closedL, D.closed, hos, hes, kel, kcl, hkl]; done)))
    | ((with_reducible first | refine o_call (c2) ?he ?hc ?_ | refine p_call (c2) ?he ?hc ?_ | refine c_call (c2) ?he ?hc ?_); (case he | hc => first | rfl | (simp [D.erL, D.er, D.closedL, D.closed, hos, hes, kel, kcl, hkl]; done)))
    | ((with_reducible apply s_appT); (case he => rfl); (case hK | hc | hr | hV => first | rfl | assumption | omega | ((first | refine ⟨?_, ?_⟩ | skip) <;> first | omega | (simp only [lN, hos, hes, kel, kcl, hkl] <;> omega)) | (simp [elemsK, D.isVal, D.cells, D.closedL, D.closed, hos, hes, kel, kcl, hkl]; first | done | omega)))
    | ((with_reducible apply s_appG); (case he => rfl); (case hV | hK | hr | hl => first | rfl | assumption | omega | ((first | refine ⟨?_, ?_⟩ | skip) <;> first | omega | (simp only [lN, hos, hes, kel, kcl, hkl] <;> omega)) | (simp [elemsK, D.isVal, D.cells, D.closedL, D.closed, hos, hes, kel, kcl, hkl]; first | done | omega)))
    | ((with_reducible apply s_app0); (case he => rfl); (case hK | hc | hr => first | rfl | assumption | omega | ((first | refine ⟨?_, ?_⟩ | skip) <;> first | omega | (simp only [lN, hos, hes, kel, kcl, hkl] <;> omega)) | (simp [elemsK, D.isVal, D.cells, D.closedL, D.closed, hos, hes, kel, kcl, hkl]; first | done | omega)))
    | ((with_reducible apply s_appF); (case he => rfl); (case hK | hc | hr | hx | hn => first | rfl | assumption | omega | ((first | refine ⟨?_, ?_⟩ | skip) <;> first | omega | (simp only [lN, hos, hes, kel, kcl, hkl] <;> omega)) | (simp [elemsK, D.isVal, D.cells, D.closedL, D.closed, hos, hes, kel, kcl, hkl]; first | done | omega)))
    | ((with_reducible first | apply s_bsl | apply t_bsl); (case he | hl | hc => first | rfl | assumption | omega | ((first | refine ⟨?_, ?_⟩ | skip) <;> first | omega | (simp only [lN, hos, hes, kel, kcl, hkl] <;> omega)) | (simp [elemsK, D.isVal, D.cells, D.closedL, D.closed, hos, hes, kel, kcl, hkl]; first | done | omega)))
    | with_reducible first | apply cd_dec | apply cd_eq | apply cd_ne | apply cd_split
    | ((with_reducible refine And.intro ?hw ?_); (case hw => first | omega | rfl | exact ⟨_, _, rfl⟩ | assumption | (simp only [lN, hos, hes, kel, kcl, hkl] <;> omega)))
    | with_reducible intro _)
      all_goals try omega
      refine ⟨i + 1, by omega, by omega, ?_⟩
      rw [ho, hks]
      simp [keepE, St.keep, St.keepG, St.gc, Hp.cut, D.rnL, D.rn, cutF, Own.rn, Blk.rn, Blk.rnL, Tv.rn, Tv.rnL, hkl, rnL_strs]
      try omega
  have e : i = N := by omega
  subst e
  have hob0 := outNK_bnd (s := s) (n := n) (i := i) (k := 0) hn2 (by omega) (by omega)
  rw [outNK_zero] at hob0
  have hks := keys_small s i
  generalize hO : outN s n i = O at *
  generalize hK : keys s i = K at *
  repeat' (first
    | with_reducible first | apply swp_seq | apply swp_reg | apply swp_regD | apply swp_block | apply swp_exit | apply swp_ret | apply swp_skip | apply swp_cd
    | simp only [go_sem, seval, pe23, q23]
    | simp (disch := omega) only [w64, w32, wu8, wu16, wu32, wu64]
    | ((with_reducible first | refine o_call (c0) ?he ?hc ?_ | refine p_call (c0) ?he ?hc ?_ | refine c_call (c0) ?he ?hc ?_); (case he | hc => first | rfl | (simp [D.erL, D.er, D.closedL, D.closed]; done)))
    | ((with_reducible apply s_appT); (case he => rfl); (case hK | hc | hr | hV => first | rfl | assumption | omega | ((first | refine ⟨?_, ?_⟩ | skip) <;> first | omega | (simp only [lN] <;> omega)) | (simp [elemsK, D.isVal, D.cells, D.closedL, D.closed]; first | done | omega)))
    | ((with_reducible apply s_appG); (case he => rfl); (case hV | hK | hr | hl => first | rfl | assumption | omega | ((first | refine ⟨?_, ?_⟩ | skip) <;> first | omega | (simp only [lN] <;> omega)) | (simp [elemsK, D.isVal, D.cells, D.closedL, D.closed]; first | done | omega)))
    | ((with_reducible apply s_app0); (case he => rfl); (case hK | hc | hr => first | rfl | assumption | omega | ((first | refine ⟨?_, ?_⟩ | skip) <;> first | omega | (simp only [lN] <;> omega)) | (simp [elemsK, D.isVal, D.cells, D.closedL, D.closed]; first | done | omega)))
    | ((with_reducible apply s_appF); (case he => rfl); (case hK | hc | hr | hx | hn => first | rfl | assumption | omega | ((first | refine ⟨?_, ?_⟩ | skip) <;> first | omega | (simp only [lN] <;> omega)) | (simp [elemsK, D.isVal, D.cells, D.closedL, D.closed]; first | done | omega)))
    | ((with_reducible first | apply s_bsl | apply t_bsl); (case he | hl | hc => first | rfl | assumption | omega | ((first | refine ⟨?_, ?_⟩ | skip) <;> first | omega | (simp only [lN] <;> omega)) | (simp [elemsK, D.isVal, D.cells, D.closedL, D.closed]; first | done | omega)))
    | with_reducible first | apply cd_dec | apply cd_eq | apply cd_ne | apply cd_split
    | ((with_reducible refine And.intro ?hw ?_); (case hw => first | omega | rfl | exact ⟨_, _, rfl⟩ | assumption | (simp only [lN] <;> omega)))
    | with_reducible intro _)
  all_goals try omega
  refine swp_famG [0, 1, 2, 4, 5] 0 1 (by decide) (by decide) (fun p : Nat × List (List UInt8) × List (List UInt8) => ⟨[.str s, .int .i64 (h : Nat), .int .i64 (n : Nat), .undef, .slice (strs p.2.2) (.tok 0), .slice (strs p.2.1) .no, .undef, .undef, .undef, .undef, .undef, .undef, .undef, .undef, .undef, .undef, .undef, .undef], [], ⟨[], [.per 1 p.2.2.length]⟩⟩)
    (fun p => p.1 ≤ 2 ∧ p.2.1.length = 2 ^ p.1 ∧ (∀ x ∈ p.2.1, x.length ≤ 1000) ∧ p.2.2.length + p.2.1.length ≤ 3100 ∧ p.2.2 ++ nodesL p.2.1 = made s h n) (fun p => p.1) (h, K, O) ⟨hh, by simp only; omega, hks, by simp only; omega, hmade.symm⟩ ?_ ?_
  · simp [keepE, St.keep, St.keepG, St.gc, Hp.cut, D.rnL, D.rn, cutF, Own.rn, Blk.rn, Blk.rnL, Tv.rn, Tv.rnL, rnL_strs]
  rintro ⟨q, lev, out⟩ ⟨g0, g1, g2, g3, g4⟩
  simp only at g0 g1 g2 g3 g4 ⊢
  have hll := strs_len lev
  rcases q with _ | q
  · have hl1 : lev.length = 1 := by simpa using g1
    rw [nodesL_one (by omega), List.append_nil] at g4
    rw [← g4]
    repeat' (first
    | with_reducible first | apply swp_seq | apply swp_reg | apply swp_regD | apply swp_block | apply swp_exit | apply swp_ret | apply swp_skip | apply swp_cd
    | simp only [go_sem, seval, pe23, q23]
    | simp (disch := omega) only [w64, w32, wu8, wu16, wu32, wu64]
    | ((with_reducible apply s_appT); (case he => rfl); (case hK | hc | hr | hV => first | rfl | assumption | omega | ((first | refine ⟨?_, ?_⟩ | skip) <;> first | omega | (simp only [lN, hll] <;> omega)) | (simp [elemsK, D.isVal, D.cells, D.closedL, D.closed, hll]; first | done | omega)))
    | ((with_reducible apply s_appG); (case he => rfl); (case hV | hK | hr | hl => first | rfl | assumption | omega | ((first | refine ⟨?_, ?_⟩ | skip) <;> first | omega | (simp only [lN, hll] <;> omega)) | (simp [elemsK, D.isVal, D.cells, D.closedL, D.closed, hll]; first | done | omega)))
    | ((with_reducible apply s_app0); (case he => rfl); (case hK | hc | hr => first | rfl | assumption | omega | ((first | refine ⟨?_, ?_⟩ | skip) <;> first | omega | (simp only [lN, hll] <;> omega)) | (simp [elemsK, D.isVal, D.cells, D.closedL, D.closed, hll]; first | done | omega)))
    | ((with_reducible apply s_appF); (case he => rfl); (case hK | hc | hr | hx | hn => first | rfl | assumption | omega | ((first | refine ⟨?_, ?_⟩ | skip) <;> first | omega | (simp only [lN, hll] <;> omega)) | (simp [elemsK, D.isVal, D.cells, D.closedL, D.closed, hll]; first | done | omega)))
    | ((with_reducible first | apply s_bsl | apply t_bsl); (case he | hl | hc => first | rfl | assumption | omega | ((first | refine ⟨?_, ?_⟩ | skip) <;> first | omega | (simp only [lN, hll] <;> omega)) | (simp [elemsK, D.isVal, D.cells, D.closedL, D.closed, hll]; first | done | omega)))
    | with_reducible first | apply cd_dec | apply cd_eq | apply cd_ne | apply cd_split
    | ((with_reducible refine And.intro ?hw ?_); (case hw => first | omega | rfl | exact ⟨_, _, rfl⟩ | assumption | (simp only [lN, hll] <;> omega)))
    | with_reducible intro _)
    all_goals try omega
    all_goals exact ⟨_, weak_refl, by simp [go_sem]⟩
  · have h2 : 2 ^ (q + 1) = 2 * 2 ^ q := by rw [Nat.pow_succ, Nat.mul_comm]
    have hp2 : 0 < 2 ^ q := Nat.pow_pos (by omega)
    have hul := up_len lev
    have hpl := pairsT_len lev
    repeat' (first
    | with_reducible first | apply swp_seq | apply swp_reg | apply swp_regD | apply swp_block | apply swp_exit | apply swp_ret | apply swp_skip | apply swp_cd
    | simp only [go_sem, seval, pe23, q23]
    | simp (disch := omega) only [w64, w32, wu8, wu16, wu32, wu64]
    | ((with_reducible apply s_appT); (case he => rfl); (case hK | hc | hr | hV => first | rfl | assumption | omega | ((first | refine ⟨?_, ?_⟩ | skip) <;> first | omega | (simp only [lN, hll] <;> omega)) | (simp [elemsK, D.isVal, D.cells, D.closedL, D.closed, hll]; first | done | omega)))
    | ((with_reducible apply s_appG); (case he => rfl); (case hV | hK | hr | hl => first | rfl | assumption | omega | ((first | refine ⟨?_, ?_⟩ | skip) <;> first | omega | (simp only [lN, hll] <;> omega)) | (simp [elemsK, D.isVal, D.cells, D.closedL, D.closed, hll]; first | done | omega)))
    | ((with_reducible apply s_app0); (case he => rfl); (case hK | hc | hr => first | rfl | assumption | omega | ((first | refine ⟨?_, ?_⟩ | skip) <;> first | omega | (simp only [lN, hll] <;> omega)) | (simp [elemsK, D.isVal, D.cells, D.closedL, D.closed, hll]; first | done | omega)))
    | ((with_reducible apply s_appF); (case he => rfl); (case hK | hc | hr | hx | hn => first | rfl | assumption | omega | ((first | refine ⟨?_, ?_⟩ | skip) <;> first | omega | (simp only [lN, hll] <;> omega)) | (simp [elemsK, D.isVal, D.cells, D.closedL, D.closed, hll]; first | done | omega)))
    | ((with_reducible first | apply s_bsl | apply t_bsl); (case he | hl | hc => first | rfl | assumption | omega | ((first | refine ⟨?_, ?_⟩ | skip) <;> first | omega | (simp only [lN, hll] <;> omega)) | (simp [elemsK, D.isVal, D.cells, D.closedL, D.closed, hll]; first | done | omega)))
    | with_reducible first | apply cd_dec | apply cd_eq | apply cd_ne | apply cd_split
    | ((with_reducible refine And.intro ?hw ?_); (case hw => first | omega | rfl | exact ⟨_, _, rfl⟩ | assumption | (simp only [lN, hll] <;> omega)))
    | with_reducible intro _)
    all_goals try omega
    refine swp_weak (weak_new 12 1 (by decide) false rfl) ?_
    refine swp_fam [0, 1, 2, 4, 5, 12, 13] (fun j : Nat => ⟨[.str s, .int .i64 (h : Nat), .int .i64 (n : Nat), .undef, .slice (strs (out ++ (pairsT lev).take j)) (.tok 0), .slice (strs lev) .no, .undef, .undef, .undef, .undef, .undef, .undef, .slice (strs ((up lev).take j)) (.tok 1), .int .i64 (2 * j : Nat), .undef, .undef, .undef, .undef], [], ⟨[], [.per 1 (out.length + j), .per 1 j]⟩⟩)
      (fun j => j ≤ lev.length / 2) (fun j => lev.length / 2 - j) 0 (by omega) ?_ ?_
    · simp [keepE, St.keep]
    intro j hj
    by_cases hlt : j < lev.length / 2
    · have c1 := jnode_p (lev.getD (2 * j) []) (lev.getD (2 * j + 1) []) (get_small g2) (get_small g2)
      have hok := okL_node (a := lev.getD (2 * j) []) (b := lev.getD (2 * j + 1) []) (get_small g2) (get_small g2)
      have hjl := joined_len hok
      have e1 : joined [wnode, lev.getD (2 * j) [], lev.getD (2 * j + 1) []] = nodT (lev.getD (2 * j) []) (lev.getD (2 * j + 1) []) := rfl
      rw [e1] at hjl
      have c2 := rsum_p (nodT (lev.getD (2 * j) []) (lev.getD (2 * j + 1) [])) (by omega)
      have e2 : sumN (nodT (lev.getD (2 * j) []) (lev.getD (2 * j + 1) [])) = nod (lev.getD (2 * j) []) (lev.getD (2 * j + 1) []) := rfl
      rw [e2] at c2
      have p1 := pairsT_take (l := lev) (j := j) (by omega)
      have p2 := up_take (l := lev) (j := j) (by omega)
      have hg1 := strs_get (l := lev) (i := 2 * j) (by omega)
      have hg2 := strs_get (l := lev) (i := 2 * j + 1) (by omega)
      have t1 : (((2 * j : Nat)) : Int).toNat = 2 * j := Int.toNat_natCast _
      have t2 : ((((2 * j : Nat)) : Int) + 1).toNat = 2 * j + 1 := by omega
      have hT1 : ((pairsT lev).take j).length = j := by rw [List.length_take]; omega
      have hT2 : ((up lev).take j).length = j := by rw [List.length_take]; omega
      generalize nod (lev.getD (2 * j) []) (lev.getD (2 * j + 1) []) = z at *
      generalize nodT (lev.getD (2 * j) []) (lev.getD (2 * j + 1) []) = zt at *
      generalize lev.getD (2 * j) [] = x at *
      generalize lev.getD (2 * j + 1) [] = y at *
      generalize (pairsT lev).take j = T1 at *
      generalize (up lev).take j = T2 at *
      have hO : (strs (out ++ T1)).length = out.length + j := by rw [strs_len, List.length_append, hT1]
      have hU := strs_len T2
      have s1 : strs (out ++ (T1 ++ [zt])) = strs (out ++ T1) ++ [.str zt] := by simp
      have s2 : strs (T2 ++ [z]) = strs T2 ++ [.str z] := by simp
      generalize hL : strs lev = L at *
      generalize hOO : strs (out ++ T1) = OO at *
      repeat' (first
    | with_reducible first | apply swp_seq | apply swp_reg | apply swp_regD | apply swp_block | apply swp_exit | apply swp_ret | apply swp_skip | apply swp_cd
    | simp only [go_sem, seval, pe23, q23, t1, t2, hg1, hg2, hll]
    | simp (disch := omega) only [w64, w32, wu8, wu16, wu32, wu64]
    | ((with_reducible first | refine o_call (c1) ?he ?hc ?_ | refine p_call (c1) ?he ?hc ?_ | refine c_call (c1) ?he ?hc ?_); (case he | hc => first | rfl | (simp [D.erL, D.er, D.closedL, D.closed, hll, hO, hU, hT2]; done)))
    | ((with_reducible first | refine o_call (c2) ?he ?hc ?_ | refine p_call (c2) ?he ?hc ?_ | refine c_call (c2) ?he ?hc ?_); (case he | hc => first | rfl | (simp [D.erL, D.er, D.closedL, D.closed, hll, hO, hU, hT2]; done)))
    | ((with_reducible apply s_appT); (case he => rfl); (case hK | hc | hr | hV => first | rfl | assumption | omega | ((first | refine ⟨?_, ?_⟩ | skip) <;> first | omega | (simp only [lN, hll, hO, hU, hT2] <;> omega)) | (simp [elemsK, D.isVal, D.cells, D.closedL, D.closed, hll, hO, hU, hT2]; first | done | omega)))
    | ((with_reducible apply s_appG); (case he => rfl); (case hV | hK | hr | hl => first | rfl | assumption | omega | ((first | refine ⟨?_, ?_⟩ | skip) <;> first | omega | (simp only [lN, hll, hO, hU, hT2] <;> omega)) | (simp [elemsK, D.isVal, D.cells, D.closedL, D.closed, hll, hO, hU, hT2]; first | done | omega)))
    | ((with_reducible apply s_app0); (case he => rfl); (case hK | hc | hr => first | rfl | assumption | omega | ((first | refine ⟨?_, ?_⟩ | skip) <;> first | omega | (simp only [lN, hll, hO, hU, hT2] <;> omega)) | (simp [elemsK, D.isVal, D.cells, D.closedL, D.closed, hll, hO, hU, hT2]; first | done | omega)))
    | ((with_reducible apply s_appF); (case he => rfl); (case hK | hc | hr | hx | hn => first | rfl | assumption | omega | ((first | refine ⟨?_, ?_⟩ | skip) <;> first | omega | (simp only [lN, hll, hO, hU, hT2] <;> omega)) | (simp [elemsK, D.isVal, D.cells, D.closedL, D.closed, hll, hO, hU, hT2]; first | done | omega)))
    | ((with_reducible first | apply s_bsl | apply t_bsl); (case he | hl | hc => first | rfl | assumption | omega | ((first | refine ⟨?_, ?_⟩ | skip) <;> first | omega | (simp only [lN, hll, hO, hU, hT2] <;> omega)) | (simp [elemsK, D.isVal, D.cells, D.closedL, D.closed, hll, hO, hU, hT2]; first | done | omega)))
    | with_reducible first | apply cd_dec | apply cd_eq | apply cd_ne | apply cd_split
    | ((with_reducible refine And.intro ?hw ?_); (case hw => first | omega | rfl | exact ⟨_, _, rfl⟩ | assumption | (simp only [lN, hll, hO, hU, hT2] <;> omega)))
    | with_reducible intro _)
      all_goals try omega
      refine ⟨j + 1, by omega, by omega, ?_⟩
      rw [p1, p2, s1, s2]
      simp [keepE, St.keep, hT2, hL, hO]
      try omega
    · have e : j = lev.length / 2 := by omega
      subst e
      rw [List.take_of_length_le (by omega), List.take_of_length_le (by omega)]
      have hn' := nodesL_up (l := lev) (by omega)
      generalize hL : strs lev = L at *
      repeat' (first
    | with_reducible first | apply swp_seq | apply swp_reg | apply swp_regD | apply swp_block | apply swp_exit | apply swp_ret | apply swp_skip | apply swp_cd
    | simp only [go_sem, seval, pe23, q23, hll]
    | simp (disch := omega) only [w64, w32, wu8, wu16, wu32, wu64]
    | ((with_reducible apply s_appT); (case he => rfl); (case hK | hc | hr | hV => first | rfl | assumption | omega | ((first | refine ⟨?_, ?_⟩ | skip) <;> first | omega | (simp only [lN, hll] <;> omega)) | (simp [elemsK, D.isVal, D.cells, D.closedL, D.closed, hll]; first | done | omega)))
    | ((with_reducible apply s_appG); (case he => rfl); (case hV | hK | hr | hl => first | rfl | assumption | omega | ((first | refine ⟨?_, ?_⟩ | skip) <;> first | omega | (simp only [lN, hll] <;> omega)) | (simp [elemsK, D.isVal, D.cells, D.closedL, D.closed, hll]; first | done | omega)))
    | ((with_reducible apply s_app0); (case he => rfl); (case hK | hc | hr => first | rfl | assumption | omega | ((first | refine ⟨?_, ?_⟩ | skip) <;> first | omega | (simp only [lN, hll] <;> omega)) | (simp [elemsK, D.isVal, D.cells, D.closedL, D.closed, hll]; first | done | omega)))
    | ((with_reducible apply s_appF); (case he => rfl); (case hK | hc | hr | hx | hn => first | rfl | assumption | omega | ((first | refine ⟨?_, ?_⟩ | skip) <;> first | omega | (simp only [lN, hll] <;> omega)) | (simp [elemsK, D.isVal, D.cells, D.closedL, D.closed, hll]; first | done | omega)))
    | ((with_reducible first | apply s_bsl | apply t_bsl); (case he | hl | hc => first | rfl | assumption | omega | ((first | refine ⟨?_, ?_⟩ | skip) <;> first | omega | (simp only [lN, hll] <;> omega)) | (simp [elemsK, D.isVal, D.cells, D.closedL, D.closed, hll]; first | done | omega)))
    | with_reducible first | apply cd_dec | apply cd_eq | apply cd_ne | apply cd_split
    | ((with_reducible refine And.intro ?hw ?_); (case hw => first | omega | rfl | exact ⟨_, _, rfl⟩ | assumption | (simp only [lN, hll] <;> omega)))
    | with_reducible intro _)
      all_goals try omega
      refine ⟨(q, up lev, out ++ pairsT lev), ⟨by simp only; omega, by simp only; omega, up_small lev, by simp only [List.length_append]; omega, by simp only; rw [← g4, hn']; simp⟩, by simp only; omega, ?_⟩
      simp [keepE, St.keep, St.keepG, St.gc, Hp.cut, D.rnL, D.rn, cutF, Own.rn, Blk.rn, Blk.rnL, Tv.rn, Tv.rnL, rnL_strs, hpl]
end Go.Proofs.YtgjkhlnpplajjaaDoor
end
section
set_option maxRecDepth 100000
set_option linter.unusedSimpArgs false
set_option linter.unusedVariables false
namespace Go.Proofs.YtgjkhlnpplajjaaDoor
open Go GoV Go.RowKit
def chkP (m : List UInt8) (g : List (List UInt8)) (k : Nat) : List (List UInt8) := ((List.range k).map fun k => chnL (g.getD k []) (15 - (dgt m).getD k 0)).flatten
theorem chkP_succ (m : List UInt8) (g : List (List UInt8)) (k : Nat) : chkP m g (k + 1) = chkP m g k ++ chnL (g.getD k []) (15 - (dgt m).getD k 0) := by
  unfold chkP
  rw [List.range_succ, List.map_append, List.flatten_append]
  simp
theorem chkP_len (m : List UInt8) (g : List (List UInt8)) : ∀ k, (chkP m g k).length ≤ 16 * k
  | 0 => by simp [chkP]
  | k + 1 => by
    rw [chkP_succ, List.length_append, chnL_len]
    have := chkP_len m g k
    omega
theorem climbT_len : ∀ (p : List (List UInt8)) (a : List UInt8) (i : Nat), (climbT a p i).length = p.length
  | [], _, _ => rfl
  | x :: p, a, i => by simp only [climbT, List.length_cons, climbT_len p]
theorem climbT_take {p : List (List UInt8)} {k : Nat} (h : k < p.length) (a : List UInt8) (i : Nat) :
    climbT a (p.take (k + 1)) i = climbT a (p.take k) i ++ [if (i / 2 ^ k) % 2 == 1 then nodT (p.getD k []) (climb a (p.take k) i) else nodT (climb a (p.take k) i) (p.getD k [])] := by
  have htk : p.take (k + 1) = p.take k ++ [p.getD k []] := by
    rw [List.take_succ_eq_append_getElem h]; simp [List.getD, h]
  have htl : (p.take k).length = k := by rw [List.length_take]; omega
  rw [htk, climbT_snoc, htl]
set_option maxHeartbeats 4000000 in
theorem checked_p (m : List UInt8) (x : Seal) (hx : SmallS x) (hm : m.length ≤ 300) (q1 : x.sig.length = 18) (q2 : x.path.length ≤ 8) (j : Nat) (hj : x.idx = j) (hj2 : j < 1000000) :
    Pur M 24 [.str m, sealD x] (.slice (strs (checked m x)) .no) := by
  refine ok24 rfl ?_
  rw [i24]
  unfold c24 sealD
  have hsl := strs_len x.sig
  have hpl := strs_len x.path
  rw [q1] at hsl
  have c1 := rdgt_p m (by omega)
  have e7 : x.idx.toNat = j := by omega
  have hchk : checked m x = chkP m x.sig 18 ++ [joined (ends' m x.sig)] ++ climbT (sumN (joined (ends' m x.sig))) x.path j := by
    unfold checked; rw [e7]; rfl
  repeat' (first
    | with_reducible first | apply swp_seq | apply swp_reg | apply swp_regD | apply swp_block | apply swp_exit | apply swp_ret | apply swp_skip | apply swp_cd
    | simp only [go_sem, seval, P24, q24, hsl]
    | simp (disch := omega) only [w64, w32, wu8, wu16, wu32, wu64]
    | ((with_reducible refine o_call (c1) ?he ?hc ?_); (case he | hc => first | rfl | (simp [D.erL, D.er, D.closedL, D.closed]; done)))
    | ((with_reducible apply s_appT); (case he => rfl); (case hK | hc | hr | hV => first | rfl | assumption | omega | ((first | refine ⟨?_, ?_⟩ | skip) <;> first | omega | (simp only [lN] <;> omega)) | (simp [elemsK, D.isVal, D.cells, D.closedL, D.closed]; first | done | omega)))
    | ((with_reducible apply s_appG); (case he => rfl); (case hV | hK | hr | hl => first | rfl | assumption | omega | ((first | refine ⟨?_, ?_⟩ | skip) <;> first | omega | (simp only [lN] <;> omega)) | (simp [elemsK, D.isVal, D.cells, D.closedL, D.closed]; first | done | omega)))
    | ((with_reducible apply s_app0); (case he => rfl); (case hK | hc | hr => first | rfl | assumption | omega | ((first | refine ⟨?_, ?_⟩ | skip) <;> first | omega | (simp only [lN] <;> omega)) | (simp [elemsK, D.isVal, D.cells, D.closedL, D.closed]; first | done | omega)))
    | ((with_reducible apply s_appF); (case he => rfl); (case hK | hc | hr | hx | hn => first | rfl | assumption | omega | ((first | refine ⟨?_, ?_⟩ | skip) <;> first | omega | (simp only [lN] <;> omega)) | (simp [elemsK, D.isVal, D.cells, D.closedL, D.closed]; first | done | omega)))
    | ((with_reducible apply s_bsl); (case he | hl | hc => first | rfl | assumption | omega | ((first | refine ⟨?_, ?_⟩ | skip) <;> first | omega | (simp only [lN] <;> omega)) | (simp [elemsK, D.isVal, D.cells, D.closedL, D.closed]; first | done | omega)))
    | with_reducible first | apply cd_dec | apply cd_eq | apply cd_ne | apply cd_split | apply gd_dec | apply gd_eq | apply gd_ne | apply gd_split
    | ((with_reducible refine And.intro ?hw ?_); (case hw => first | omega | rfl | exact ⟨_, _, rfl⟩ | assumption | (simp only [lN] <;> omega)))
    | with_reducible intro _)
  all_goals try omega
  refine swp_weak (weak_new 5 1 (by decide) false rfl) ?_
  refine swp_weak (weak_new 6 1 (by decide) false rfl) ?_
  refine swp_fam [0, 1, 2, 4, 5, 6, 7] (fun k : Nat => ⟨[.str m, sealD x, .ptr 0 0, .undef, .slice (ints (dgt m)) .no, .slice (strs (chkP m x.sig k)) (.tok 0), .slice (strs (endsV m x.sig k)) (.tok 1), .int .i64 (k : Nat), .undef, .undef, .undef, .undef, .undef, .undef, .undef, .undef, .undef], [],
      ⟨[.cells [.int .i64 x.idx, .slice (strs x.sig) .no, .slice (strs x.path) .no]], [.per 1 (chkP m x.sig k).length, .per 1 k]⟩⟩)
    (fun k => k ≤ 18) (fun k => 18 - k) 0 (by omega) ?_ ?_
  · simp [keepE, St.keep, chkP, endsV]
  intro k hk
  have hvl := endsV_len m x.sig k
  have hvs := strs_len (endsV m x.sig k)
  have hcs := strs_len (chkP m x.sig k)
  have hcb := chkP_len m x.sig k
  by_cases hlt : k < 18
  · have e1 : decide ((k : Int) < 18) = true := decide_eq_true (by omega)
    have hd := dgt_get m k
    have hdl := dgt_len m
    have hil := ints_len (dgt m)
    have hg := strs_get (l := x.sig) (i := k) (by omega)
    have hgi : (ints (dgt m)).getD k .undef = .int .i64 ((dgt m).getD k 0 : Nat) := ints_get (by omega)
    have hgl := get_small (i := k) hx.sx
    have c5 := chained_p (x.sig.getD k []) (15 - (dgt m).getD k 0) (by omega) (by omega)
    have hcl := chnL_len (x.sig.getD k []) (15 - (dgt m).getD k 0)
    have hcg : (strs (chnL (x.sig.getD k []) (15 - (dgt m).getD k 0))).getD (15 - (dgt m).getD k 0) .undef = .str (chn (15 - (dgt m).getD k 0) (x.sig.getD k [])) := by
      rw [strs_get (by omega), chnL_get (by omega)]
    have hls := strs_len (chnL (x.sig.getD k []) (15 - (dgt m).getD k 0))
    have kel := elems_strs (chnL (x.sig.getD k []) (15 - (dgt m).getD k 0))
    have kcl := closed_strs (chnL (x.sig.getD k []) (15 - (dgt m).getD k 0))
    have ker := erL_strs (chnL (x.sig.getD k []) (15 - (dgt m).getD k 0))
    have ho := chkP_succ m x.sig k
    have he := endsV_succ m x.sig k
    have t1 : ((k : Nat) : Int).toNat = k := Int.toNat_natCast k
    have t2 : (15 : Int) - (((dgt m).getD k 0 : Nat) : Int) = ((15 - (dgt m).getD k 0 : Nat) : Int) := by omega
    have t3 : ((15 - (dgt m).getD k 0 : Nat) : Int).toNat = 15 - (dgt m).getD k 0 := Int.toNat_natCast _
    generalize chn (15 - (dgt m).getD k 0) (x.sig.getD k []) = z at *
    generalize hCL : chnL (x.sig.getD k []) (15 - (dgt m).getD k 0) = CL at *
    generalize x.sig.getD k [] = g at *
    generalize hE : 15 - (dgt m).getD k 0 = e at *
    generalize (dgt m).getD k 0 = d at *
    generalize hDL : ints (dgt m) = DL at *
    generalize hO : chkP m x.sig k = O at *
    generalize hV : endsV m x.sig k = V at *
    generalize hSC : strs CL = SC at *
    generalize hS0 : strs x.sig = S at *
    generalize hP0 : strs x.path = P at *
    repeat' (first
    | with_reducible first | apply swp_seq | apply swp_reg | apply swp_regD | apply swp_block | apply swp_exit | apply swp_ret | apply swp_skip | apply swp_cd
    | simp only [go_sem, seval, P24, q24, e1, t1, t2, t3, hg, hgi, hcg, ker, hsl, hil, hdl, hls, hcl]
    | simp (disch := omega) only [w64, w32, wu8, wu16, wu32, wu64]
    | ((with_reducible refine o_call (c5) ?he ?hc ?_); (case he | hc => first | rfl | (simp [D.erL, D.er, D.closedL, D.closed, hsl, hil, hdl, hls, hcl, hvl, hvs, hcs, kel, kcl, ker]; done)))
    | ((with_reducible apply s_appT); (case he => rfl); (case hK | hc | hr | hV => first | rfl | assumption | omega | ((first | refine ⟨?_, ?_⟩ | skip) <;> first | omega | (simp only [lN, hsl, hil, hdl, hls, hcl, hvl, hvs, hcs, kel, kcl, ker] <;> omega)) | (simp [elemsK, D.isVal, D.cells, D.closedL, D.closed, hsl, hil, hdl, hls, hcl, hvl, hvs, hcs, kel, kcl, ker]; first | done | omega)))
    | ((with_reducible apply s_appG); (case he => rfl); (case hV | hK | hr | hl => first | rfl | assumption | omega | ((first | refine ⟨?_, ?_⟩ | skip) <;> first | omega | (simp only [lN, hsl, hil, hdl, hls, hcl, hvl, hvs, hcs, kel, kcl, ker] <;> omega)) | (simp [elemsK, D.isVal, D.cells, D.closedL, D.closed, hsl, hil, hdl, hls, hcl, hvl, hvs, hcs, kel, kcl, ker]; first | done | omega)))
    | ((with_reducible apply s_app0); (case he => rfl); (case hK | hc | hr => first | rfl | assumption | omega | ((first | refine ⟨?_, ?_⟩ | skip) <;> first | omega | (simp only [lN, hsl, hil, hdl, hls, hcl, hvl, hvs, hcs, kel, kcl, ker] <;> omega)) | (simp [elemsK, D.isVal, D.cells, D.closedL, D.closed, hsl, hil, hdl, hls, hcl, hvl, hvs, hcs, kel, kcl, ker]; first | done | omega)))
    | ((with_reducible apply s_appF); (case he => rfl); (case hK | hc | hr | hx | hn => first | rfl | assumption | omega | ((first | refine ⟨?_, ?_⟩ | skip) <;> first | omega | (simp only [lN, hsl, hil, hdl, hls, hcl, hvl, hvs, hcs, kel, kcl, ker] <;> omega)) | (simp [elemsK, D.isVal, D.cells, D.closedL, D.closed, hsl, hil, hdl, hls, hcl, hvl, hvs, hcs, kel, kcl, ker]; first | done | omega)))
    | ((with_reducible apply s_bsl); (case he | hl | hc => first | rfl | assumption | omega | ((first | refine ⟨?_, ?_⟩ | skip) <;> first | omega | (simp only [lN, hsl, hil, hdl, hls, hcl, hvl, hvs, hcs, kel, kcl, ker] <;> omega)) | (simp [elemsK, D.isVal, D.cells, D.closedL, D.closed, hsl, hil, hdl, hls, hcl, hvl, hvs, hcs, kel, kcl, ker]; first | done | omega)))
    | with_reducible first | apply cd_dec | apply cd_eq | apply cd_ne | apply cd_split | apply gd_dec | apply gd_eq | apply gd_ne | apply gd_split
    | ((with_reducible refine And.intro ?hw ?_); (case hw => first | omega | rfl | exact ⟨_, _, rfl⟩ | assumption | (simp only [lN, hsl, hil, hdl, hls, hcl, hvl, hvs, hcs, kel, kcl, ker] <;> omega)))
    | with_reducible intro _)
    all_goals try omega
    refine ⟨k + 1, by omega, by omega, ?_⟩
    rw [ho, he]
    simp [keepE, St.keep, ← hSC, hls, hcl, hvl, hDL, hS0, hP0]
    try omega
  have e : k = 18 := by omega
  subst e
  have e1 : decide (((18 : Nat) : Int) < 18) = false := decide_eq_false (by omega)
  rw [endsV_all] at *
  have hok := okL_ends' (m := m) hx.sx
  have c2 := joined_p (ends' m x.sig) hok
  have hjl := joined_len hok
  have c3 := rsum_p (joined (ends' m x.sig)) (by omega)
  have ha := sumN_len (joined (ends' m x.sig))
  have heV := erL_strs (ends' m x.sig)
  have hcV := closed_strs (ends' m x.sig)
  generalize sumN (joined (ends' m x.sig)) = a at *
  generalize joined (ends' m x.sig) = kt at *
  generalize ends' m x.sig = V at *
  generalize hO : chkP m x.sig 18 = O at *
  repeat' (first
    | with_reducible first | apply swp_seq | apply swp_reg | apply swp_regD | apply swp_block | apply swp_exit | apply swp_ret | apply swp_skip | apply swp_cd
    | simp only [go_sem, seval, P24, q24, e1]
    | simp (disch := omega) only [w64, w32, wu8, wu16, wu32, wu64]
    | ((with_reducible refine o_call (c2) ?he ?hc ?_); (case he | hc => first | rfl | (simp [D.erL, D.er, D.closedL, D.closed, heV, hcV, hcs]; done)))
    | ((with_reducible refine o_call (c3) ?he ?hc ?_); (case he | hc => first | rfl | (simp [D.erL, D.er, D.closedL, D.closed, heV, hcV, hcs]; done)))
    | ((with_reducible apply s_appT); (case he => rfl); (case hK | hc | hr | hV => first | rfl | assumption | omega | ((first | refine ⟨?_, ?_⟩ | skip) <;> first | omega | (simp only [lN, heV, hcV, hcs] <;> omega)) | (simp [elemsK, D.isVal, D.cells, D.closedL, D.closed, heV, hcV, hcs]; first | done | omega)))
    | ((with_reducible apply s_appG); (case he => rfl); (case hV | hK | hr | hl => first | rfl | assumption | omega | ((first | refine ⟨?_, ?_⟩ | skip) <;> first | omega | (simp only [lN, heV, hcV, hcs] <;> omega)) | (simp [elemsK, D.isVal, D.cells, D.closedL, D.closed, heV, hcV, hcs]; first | done | omega)))
    | ((with_reducible apply s_app0); (case he => rfl); (case hK | hc | hr => first | rfl | assumption | omega | ((first | refine ⟨?_, ?_⟩ | skip) <;> first | omega | (simp only [lN, heV, hcV, hcs] <;> omega)) | (simp [elemsK, D.isVal, D.cells, D.closedL, D.closed, heV, hcV, hcs]; first | done | omega)))
    | ((with_reducible apply s_appF); (case he => rfl); (case hK | hc | hr | hx | hn => first | rfl | assumption | omega | ((first | refine ⟨?_, ?_⟩ | skip) <;> first | omega | (simp only [lN, heV, hcV, hcs] <;> omega)) | (simp [elemsK, D.isVal, D.cells, D.closedL, D.closed, heV, hcV, hcs]; first | done | omega)))
    | ((with_reducible apply s_bsl); (case he | hl | hc => first | rfl | assumption | omega | ((first | refine ⟨?_, ?_⟩ | skip) <;> first | omega | (simp only [lN, heV, hcV, hcs] <;> omega)) | (simp [elemsK, D.isVal, D.cells, D.closedL, D.closed, heV, hcV, hcs]; first | done | omega)))
    | with_reducible first | apply cd_dec | apply cd_eq | apply cd_ne | apply cd_split | apply gd_dec | apply gd_eq | apply gd_ne | apply gd_split
    | ((with_reducible refine And.intro ?hw ?_); (case hw => first | omega | rfl | exact ⟨_, _, rfl⟩ | assumption | (simp only [lN, heV, hcV, hcs] <;> omega)))
    | with_reducible intro _)
  all_goals try omega
  refine swp_famG [0, 1, 2, 5, 10, 11, 12] 1 1 (by decide) (by decide) (fun k : Nat => ⟨[.str m, sealD x, .ptr 0 0, .undef, .undef, .slice (strs (O ++ [kt] ++ climbT a (x.path.take k) j)) (.tok 0), .undef, .undef, .undef, .undef, .str (climb a (x.path.take k) j), .int .i64 (j / 2 ^ k : Nat), .int .i64 (k : Nat), .undef, .undef, .undef, .undef], [],
      ⟨[.cells [.int .i64 x.idx, .slice (strs x.sig) .no, .slice (strs x.path) .no]], [.per 1 (O.length + 1 + k)]⟩⟩)
    (fun k => k ≤ x.path.length) (fun k => x.path.length - k) 0 (by omega) ?_ ?_
  · simp [keepE, St.keep, St.keepG, St.gc, Hp.cut, D.rnL, D.rn, cutF, Own.rn, Blk.rn, Blk.rnL, Tv.rn, Tv.rnL, rnL_strs, climb, climbT, hj]
  intro k hk
  have hcl := climb_len (p := x.path.take k) (i := j) ha
  have hTl : (strs (O ++ [kt] ++ climbT a (x.path.take k) j)).length = O.length + 1 + k := by
    rw [strs_len, List.length_append, List.length_append, climbT_len, List.length_take]; simp; omega
  by_cases hlt : k < x.path.length
  · have htk : x.path.take (k + 1) = x.path.take k ++ [x.path.getD k []] := by
      rw [List.take_succ_eq_append_getElem hlt]; simp [List.getD, hlt]
    have hsn := climb_snoc (x.path.take k) a (x.path.getD k []) j
    rw [← htk] at hsn
    have htl : (x.path.take k).length = k := by rw [List.length_take]; omega
    rw [htl, par_sum] at hsn
    have hct := climbT_take hlt a j
    have hol := get_small (i := k) hx.px
    have hg := strs_get (l := x.path) hlt
    have d1 := jnode_p (climb a (x.path.take k) j) (x.path.getD k []) (by omega) hol
    have d2 := jnode_p (x.path.getD k []) (climb a (x.path.take k) j) hol (by omega)
    have l1 := joined_len (okL_node (a := climb a (x.path.take k) j) (b := x.path.getD k []) (by omega) hol)
    have l2 := joined_len (okL_node (a := x.path.getD k []) (b := climb a (x.path.take k) j) hol (by omega))
    have en1 : joined [wnode, climb a (x.path.take k) j, x.path.getD k []] = nodT (climb a (x.path.take k) j) (x.path.getD k []) := rfl
    have en2 : joined [wnode, x.path.getD k [], climb a (x.path.take k) j] = nodT (x.path.getD k []) (climb a (x.path.take k) j) := rfl
    rw [en1] at l1
    rw [en2] at l2
    have d3 := rsum_p (nodT (climb a (x.path.take k) j) (x.path.getD k [])) (by omega)
    have d4 := rsum_p (nodT (x.path.getD k []) (climb a (x.path.take k) j)) (by omega)
    have hja : j / 2 ^ k ≤ j := Nat.div_le_self _ _
    have hj3 : j / 2 ^ (k + 1) = j / 2 ^ k / 2 := by rw [Nat.pow_succ, Nat.div_div_eq_div_mul]
    have t3 : (((j / 2 ^ k : Nat)) : Int).tmod 2 = ((j / 2 ^ k % 2 : Nat) : Int) := tmod2 _
    have t4 : (((j / 2 ^ k : Nat)) : Int).tdiv 2 = ((j / 2 ^ k / 2 : Nat) : Int) := tdiv2 _
    have hbb : ((((j / 2 ^ k) % 2 : Nat) : Int) == 1) = ((j / 2 ^ k) % 2 == 1) := by
      generalize (j / 2 ^ k) % 2 = w
      by_cases hw : w = 1
      · subst hw; rfl
      · have h1 : ((w : Int) == 1) = false := by simp; omega
        have h2 : (w == 1) = false := by simp [hw]
        rw [h1, h2]
    have t1 : ((k : Nat) : Int).toNat = k := Int.toNat_natCast k
    have sF : ∀ w : List UInt8, strs (O ++ [kt] ++ (climbT a (x.path.take k) j ++ [w])) = strs (O ++ [kt] ++ climbT a (x.path.take k) j) ++ [.str w] := by intro w; simp
    generalize hz : climb a (x.path.take (k + 1)) j = z at *
    generalize climb a (x.path.take k) j = y at *
    generalize (j / 2 ^ k) % 2 = w at *
    generalize hv : j / 2 ^ k / 2 = v2 at *
    generalize j / 2 ^ k = v at *
    generalize x.path.getD k [] = o at *
    generalize nodT y o = n1 at *
    generalize nodT o y = n2 at *
    generalize climbT a (x.path.take k) j = CT at *
    generalize hF : strs (O ++ [kt] ++ CT) = F at *
    generalize hS0 : strs x.sig = S at *
    generalize hP0 : strs x.path = P at *
    cases b : (w == 1)
    · rw [b] at hbb hsn
      rw [if_neg (by simp)] at hsn
      rw [← hsn] at d3
      repeat' (first
    | with_reducible first | apply swp_seq | apply swp_reg | apply swp_regD | apply swp_block | apply swp_exit | apply swp_ret | apply swp_skip | apply swp_cd
    | simp only [go_sem, seval, P24, q24, hpl, t1, hg, t3, t4, hbb]
    | simp (disch := omega) only [w64, w32, wu8, wu16, wu32, wu64]
    | ((with_reducible refine o_call (d1) ?he ?hc ?_); (case he | hc => first | rfl | (simp [D.erL, D.er, D.closedL, D.closed, hpl, hTl]; done)))
    | ((with_reducible refine o_call (d3) ?he ?hc ?_); (case he | hc => first | rfl | (simp [D.erL, D.er, D.closedL, D.closed, hpl, hTl]; done)))
    | ((with_reducible apply s_appT); (case he => rfl); (case hK | hc | hr | hV => first | rfl | assumption | omega | ((first | refine ⟨?_, ?_⟩ | skip) <;> first | omega | (simp only [lN, hpl, hTl] <;> omega)) | (simp [elemsK, D.isVal, D.cells, D.closedL, D.closed, hpl, hTl]; first | done | omega)))
    | ((with_reducible apply s_appG); (case he => rfl); (case hV | hK | hr | hl => first | rfl | assumption | omega | ((first | refine ⟨?_, ?_⟩ | skip) <;> first | omega | (simp only [lN, hpl, hTl] <;> omega)) | (simp [elemsK, D.isVal, D.cells, D.closedL, D.closed, hpl, hTl]; first | done | omega)))
    | ((with_reducible apply s_app0); (case he => rfl); (case hK | hc | hr => first | rfl | assumption | omega | ((first | refine ⟨?_, ?_⟩ | skip) <;> first | omega | (simp only [lN, hpl, hTl] <;> omega)) | (simp [elemsK, D.isVal, D.cells, D.closedL, D.closed, hpl, hTl]; first | done | omega)))
    | ((with_reducible apply s_appF); (case he => rfl); (case hK | hc | hr | hx | hn => first | rfl | assumption | omega | ((first | refine ⟨?_, ?_⟩ | skip) <;> first | omega | (simp only [lN, hpl, hTl] <;> omega)) | (simp [elemsK, D.isVal, D.cells, D.closedL, D.closed, hpl, hTl]; first | done | omega)))
    | ((with_reducible apply s_bsl); (case he | hl | hc => first | rfl | assumption | omega | ((first | refine ⟨?_, ?_⟩ | skip) <;> first | omega | (simp only [lN, hpl, hTl] <;> omega)) | (simp [elemsK, D.isVal, D.cells, D.closedL, D.closed, hpl, hTl]; first | done | omega)))
    | with_reducible first | apply cd_dec | apply cd_eq | apply cd_ne | apply cd_split | apply gd_dec | apply gd_eq | apply gd_ne | apply gd_split
    | ((with_reducible refine And.intro ?hw ?_); (case hw => first | omega | rfl | exact ⟨_, _, rfl⟩ | assumption | (simp only [lN, hpl, hTl] <;> omega)))
    | with_reducible intro _)
      all_goals try omega
      refine ⟨k + 1, by omega, by omega, ?_⟩
      rw [hct, hz, hj3, b, if_neg (by simp), sF]
      simp [keepE, St.keep, St.keepG, St.gc, Hp.cut, D.rnL, D.rn, cutF, Own.rn, Blk.rn, Blk.rnL, Tv.rn, Tv.rnL, rnL_strs, hTl, hS0, hP0]
      try omega
    · rw [b] at hbb hsn
      rw [if_pos rfl] at hsn
      rw [← hsn] at d4
      repeat' (first
    | with_reducible first | apply swp_seq | apply swp_reg | apply swp_regD | apply swp_block | apply swp_exit | apply swp_ret | apply swp_skip | apply swp_cd
    | simp only [go_sem, seval, P24, q24, hpl, t1, hg, t3, t4, hbb]
    | simp (disch := omega) only [w64, w32, wu8, wu16, wu32, wu64]
    | ((with_reducible refine o_call (d1) ?he ?hc ?_); (case he | hc => first | rfl | (simp [D.erL, D.er, D.closedL, D.closed, hpl, hTl]; done)))
    | ((with_reducible refine o_call (d2) ?he ?hc ?_); (case he | hc => first | rfl | (simp [D.erL, D.er, D.closedL, D.closed, hpl, hTl]; done)))
    | ((with_reducible refine o_call (d4) ?he ?hc ?_); (case he | hc => first | rfl | (simp [D.erL, D.er, D.closedL, D.closed, hpl, hTl]; done)))
    | ((with_reducible apply s_appT); (case he => rfl); (case hK | hc | hr | hV => first | rfl | assumption | omega | ((first | refine ⟨?_, ?_⟩ | skip) <;> first | omega | (simp only [lN, hpl, hTl] <;> omega)) | (simp [elemsK, D.isVal, D.cells, D.closedL, D.closed, hpl, hTl]; first | done | omega)))
    | ((with_reducible apply s_appG); (case he => rfl); (case hV | hK | hr | hl => first | rfl | assumption | omega | ((first | refine ⟨?_, ?_⟩ | skip) <;> first | omega | (simp only [lN, hpl, hTl] <;> omega)) | (simp [elemsK, D.isVal, D.cells, D.closedL, D.closed, hpl, hTl]; first | done | omega)))
    | ((with_reducible apply s_app0); (case he => rfl); (case hK | hc | hr => first | rfl | assumption | omega | ((first | refine ⟨?_, ?_⟩ | skip) <;> first | omega | (simp only [lN, hpl, hTl] <;> omega)) | (simp [elemsK, D.isVal, D.cells, D.closedL, D.closed, hpl, hTl]; first | done | omega)))
    | ((with_reducible apply s_appF); (case he => rfl); (case hK | hc | hr | hx | hn => first | rfl | assumption | omega | ((first | refine ⟨?_, ?_⟩ | skip) <;> first | omega | (simp only [lN, hpl, hTl] <;> omega)) | (simp [elemsK, D.isVal, D.cells, D.closedL, D.closed, hpl, hTl]; first | done | omega)))
    | ((with_reducible apply s_bsl); (case he | hl | hc => first | rfl | assumption | omega | ((first | refine ⟨?_, ?_⟩ | skip) <;> first | omega | (simp only [lN, hpl, hTl] <;> omega)) | (simp [elemsK, D.isVal, D.cells, D.closedL, D.closed, hpl, hTl]; first | done | omega)))
    | with_reducible first | apply cd_dec | apply cd_eq | apply cd_ne | apply cd_split | apply gd_dec | apply gd_eq | apply gd_ne | apply gd_split
    | ((with_reducible refine And.intro ?hw ?_); (case hw => first | omega | rfl | exact ⟨_, _, rfl⟩ | assumption | (simp only [lN, hpl, hTl] <;> omega)))
    | with_reducible intro _)
      all_goals try omega
      refine ⟨k + 1, by omega, by omega, ?_⟩
      rw [hct, hz, hj3, b, if_pos rfl, sF]
      simp [keepE, St.keep, St.keepG, St.gc, Hp.cut, D.rnL, D.rn, cutF, Own.rn, Blk.rn, Blk.rnL, Tv.rn, Tv.rnL, rnL_strs, hTl, hS0, hP0]
      try omega
  · have e : k = x.path.length := by omega
    subst e
    rw [List.take_length] at *
    rw [hchk]
    have hfc := closed_strs (O ++ [kt] ++ climbT a x.path j)
    have hfe := erL_strs (O ++ [kt] ++ climbT a x.path j)
    generalize strs (O ++ [kt] ++ climbT a x.path j) = F at *
    generalize hP0 : strs x.path = P at *
    repeat' (first
    | with_reducible first | apply swp_seq | apply swp_reg | apply swp_regD | apply swp_block | apply swp_exit | apply swp_ret | apply swp_skip | apply swp_cd
    | simp only [go_sem, seval, P24, q24, hpl]
    | simp (disch := omega) only [w64, w32, wu8, wu16, wu32, wu64]
    | ((with_reducible apply s_appT); (case he => rfl); (case hK | hc | hr | hV => first | rfl | assumption | omega | ((first | refine ⟨?_, ?_⟩ | skip) <;> first | omega | (simp only [lN, hpl] <;> omega)) | (simp [elemsK, D.isVal, D.cells, D.closedL, D.closed, hpl]; first | done | omega)))
    | ((with_reducible apply s_appG); (case he => rfl); (case hV | hK | hr | hl => first | rfl | assumption | omega | ((first | refine ⟨?_, ?_⟩ | skip) <;> first | omega | (simp only [lN, hpl] <;> omega)) | (simp [elemsK, D.isVal, D.cells, D.closedL, D.closed, hpl]; first | done | omega)))
    | ((with_reducible apply s_app0); (case he => rfl); (case hK | hc | hr => first | rfl | assumption | omega | ((first | refine ⟨?_, ?_⟩ | skip) <;> first | omega | (simp only [lN, hpl] <;> omega)) | (simp [elemsK, D.isVal, D.cells, D.closedL, D.closed, hpl]; first | done | omega)))
    | ((with_reducible apply s_appF); (case he => rfl); (case hK | hc | hr | hx | hn => first | rfl | assumption | omega | ((first | refine ⟨?_, ?_⟩ | skip) <;> first | omega | (simp only [lN, hpl] <;> omega)) | (simp [elemsK, D.isVal, D.cells, D.closedL, D.closed, hpl]; first | done | omega)))
    | ((with_reducible apply s_bsl); (case he | hl | hc => first | rfl | assumption | omega | ((first | refine ⟨?_, ?_⟩ | skip) <;> first | omega | (simp only [lN, hpl] <;> omega)) | (simp [elemsK, D.isVal, D.cells, D.closedL, D.closed, hpl]; first | done | omega)))
    | with_reducible first | apply cd_dec | apply cd_eq | apply cd_ne | apply cd_split | apply gd_dec | apply gd_eq | apply gd_ne | apply gd_split
    | ((with_reducible refine And.intro ?hw ?_); (case hw => first | omega | rfl | exact ⟨_, _, rfl⟩ | assumption | (simp only [lN, hpl] <;> omega)))
    | with_reducible intro _)
    all_goals first
      | omega
      | (simp [D.closed, D.er, hfc, hfe]; done)
end Go.Proofs.YtgjkhlnpplajjaaDoor
end
section
set_option maxRecDepth 100000
namespace Go.Proofs.YtgjkhlnpplajjaaDoor
open Go GoV
/- 3 bogie.bogielaw02.SignMatchesReference · 6 arguments · kept slots [0, 1, 2, 3, 4, 5, 11, 12, 13, 14, 15, 16, 17, 18, 19, 20, 21, 22, 42] -/
/- 4 bogie.bogielaw02.SignVerifies · 4 arguments · kept slots [0, 1, 2, 3, 8, 9, 10, 11, 12, 13, 14, 15, 16, 17, 18, 19, 20, 21, 27, 106, 111, 120, 125, 134] -/
/- 5 bogie.bogielaw02.SignSound · 4 arguments · kept slots [0, 1, 2, 3, 7, 8, 9, 10, 11, 12, 13, 14, 28, 37, 42, 59] -/
/- 6 bogie.bogielaw02.SignBinds · 5 arguments · kept slots [0, 1, 2, 3, 4, 10, 11, 12, 13, 14, 15, 16, 17, 39, 60, 65] -/
/- 7 bogie.bogielaw02.SignChanges · 6 arguments · kept slots [0, 1, 2, 3, 4, 5, 12, 13, 14, 15, 16, 17, 18, 19, 20, 21, 36, 70, 88, 97, 120] -/
noncomputable def E7 (n m : Nat) : Cfg := ⟨M, [0, 1, 2, 3, 4, 5, 12, 13, 14, 15, 16, 17, 18, 19, 20, 21, 36, 70, 88, 97, 120], 133, n, m, []⟩
noncomputable def C7 : Cfg := E7 0 0
@[reducible] noncomputable def r7_0 : List RO := [
  ⟨.var 6, .mv, [.con (.bool false)], none⟩]
@[reducible] noncomputable def r7_1 : List RO := [
  ⟨.loc 22, .call, [(.con (.fn (.func 10) [] []))], none⟩,
  ⟨.var 7, .mv, [.loc 22], none⟩]
@[reducible] noncomputable def r7_2 : List RO := [
  ⟨.loc 23, .mv, [.var 1], none⟩,
  ⟨.loc 24, .cvI .i64, [.loc 23], none⟩,
  ⟨.loc 25, .bin .rem, [.loc 24, .con (.int .i64 3)], none⟩,
  ⟨.var 8, .mv, [.loc 25], none⟩]
@[reducible] noncomputable def r7_3 : List RO := [
  ⟨.loc 26, .mv, [.var 2], none⟩,
  ⟨.loc 27, .cvI .i64, [.loc 26], none⟩,
  ⟨.loc 28, .mv, [.var 8], none⟩,
  ⟨.loc 29, .bin .shl, [.con (.int .i64 1), .loc 28], none⟩,
  ⟨.loc 30, .bin .rem, [.loc 27, .loc 29], none⟩,
  ⟨.var 9, .mv, [.loc 30], none⟩]
@[reducible] noncomputable def r7_4 : List RO := [
  ⟨.loc 31, .mv, [.var 0], none⟩,
  ⟨.loc 32, .mv, [.var 3], none⟩,
  ⟨.loc 33, .mv, [.var 5], none⟩,
  ⟨.loc 34, .bsl 1, [.loc 31, .loc 32, .loc 33], none⟩,
  ⟨.loc 35, .call, [(.con (.fn (.func 11) [] [])), .loc 34], none⟩,
  ⟨.var 16, .un .not, [.loc 35], none⟩]
@[reducible] noncomputable def r7_5 : List RO := [
  ⟨.loc 37, .mv, [.var 7], none⟩,
  ⟨.var 6, .mv, [.loc 37], none⟩]
@[reducible] noncomputable def r7_6 : List RO := [
  ⟨.loc 39, .mv, [.var 0], none⟩,
  ⟨.loc 40, .mv, [.var 8], none⟩,
  ⟨.loc 41, .call, [(.con (.fn (.func 13) [] [])), .loc 39, .loc 40], none⟩,
  ⟨.loc 38, .mv, [.loc 41], none⟩,
  ⟨.loc 42, .ext 0, [.loc 38], none⟩,
  ⟨.loc 43, .ext 1, [.loc 38], none⟩,
  ⟨.var 10, .mv, [.loc 42], none⟩,
  ⟨.var 11, .mv, [.loc 43], none⟩]
@[reducible] noncomputable def r7_7 : List RO := [
  ⟨.loc 45, .mv, [.var 0], none⟩,
  ⟨.loc 46, .mv, [.var 8], none⟩,
  ⟨.loc 47, .mv, [.var 9], none⟩,
  ⟨.loc 48, .mv, [.var 3], none⟩,
  ⟨.loc 49, .call, [(.con (.fn (.func 15) [] [])), .loc 45, .loc 46, .loc 47, .loc 48], none⟩,
  ⟨.loc 44, .mv, [.loc 49], none⟩,
  ⟨.loc 50, .ext 0, [.loc 44], none⟩,
  ⟨.loc 51, .ext 1, [.loc 44], none⟩,
  ⟨.var 12, (.newb [(.int .i64 0), (.lit (.slice none 0 0)), (.lit (.slice none 0 0))]), [], none⟩,
  ⟨.none, .st 3, [.var 12, .loc 50], none⟩,
  ⟨.var 13, .mv, [.loc 51], none⟩]
@[reducible] noncomputable def r7_8 : List RO := [
  ⟨.loc 52, .mv, [.var 11], none⟩,
  ⟨.loc 53, .bin .neq, [.loc 52, .con (.int .i64 0)], none⟩,
  ⟨.loc 54, .mv, [.loc 53], none⟩,
  ⟨.loc 55, .mv, [.var 13], (some (.loc 54, false))⟩,
  ⟨.loc 56, .bin .neq, [.loc 55, .con (.int .i64 0)], (some (.loc 54, false))⟩,
  ⟨.loc 57, .pick, [.loc 54, .con (.bool true), .loc 56], none⟩,
  ⟨.loc 58, .mv, [.loc 57], none⟩,
  ⟨.loc 59, .fld 1, [.var 12], (some (.loc 58, false))⟩,
  ⟨.loc 60, .ld false 1, [.loc 59], (some (.loc 58, false))⟩,
  ⟨.loc 61, .lenL, [.loc 60], (some (.loc 58, false))⟩,
  ⟨.loc 62, .bin .neq, [.loc 61, .con (.int .i64 18)], (some (.loc 58, false))⟩,
  ⟨.loc 63, .pick, [.loc 58, .con (.bool true), .loc 62], none⟩,
  ⟨.loc 64, .mv, [.loc 63], none⟩,
  ⟨.loc 65, .fld 2, [.var 12], (some (.loc 64, false))⟩,
  ⟨.loc 66, .ld false 1, [.loc 65], (some (.loc 64, false))⟩,
  ⟨.loc 67, .lenL, [.loc 66], (some (.loc 64, false))⟩,
  ⟨.loc 68, .mv, [.var 8], (some (.loc 64, false))⟩,
  ⟨.loc 69, .bin .neq, [.loc 67, .loc 68], (some (.loc 64, false))⟩,
  ⟨.var 17, .pick, [.loc 64, .con (.bool true), .loc 69], none⟩]
@[reducible] noncomputable def r7_9 : List RO := [
  ⟨.var 6, .mv, [.con (.bool false)], none⟩]
@[reducible] noncomputable def r7_10 : List (RO × Bool) := [
  (⟨.loc 71, .fld 0, [.var 12], none⟩, true),
  (⟨.loc 72, .ld false 1, [.loc 71], none⟩, true),
  (⟨.loc 73, .bsl 1, [], none⟩, true),
  (⟨.loc 74, .fld 1, [.var 12], none⟩, true),
  (⟨.loc 75, .ld false 1, [.loc 74], none⟩, true),
  (⟨.loc 76, .app 1 16 9, [.loc 73, .loc 75], none⟩, true),
  (⟨.loc 77, .bsl 1, [], none⟩, true),
  (⟨.loc 78, .fld 2, [.var 12], none⟩, true),
  (⟨.loc 79, .ld false 1, [.loc 78], none⟩, true),
  (⟨.loc 80, .app 1 16 9, [.loc 77, .loc 79], none⟩, true),
  (⟨.loc 81, (.bld [(.int .i64 0), (.lit (.slice none 0 0)), (.lit (.slice none 0 0))] [(0, 1), (1, 1), (2, 1)]), [.loc 72, .loc 76, .loc 80], none⟩, true),
  (⟨.var 14, (.newb [(.int .i64 0), (.lit (.slice none 0 0)), (.lit (.slice none 0 0))]), [], none⟩, true)]
@[reducible] noncomputable def r7_11 : List RO := [
  ⟨.none, .st 3, [.var 14, .loc 81], none⟩]
@[reducible] noncomputable def r7_12 : List RO := [
  ⟨.loc 82, .mv, [.var 4], none⟩,
  ⟨.loc 83, .cvI .i64, [.loc 82], none⟩,
  ⟨.loc 84, .mv, [.var 8], none⟩,
  ⟨.loc 85, .bin .add, [.con (.int .i64 19), .loc 84], none⟩,
  ⟨.loc 86, .bin .rem, [.loc 83, .loc 85], none⟩,
  ⟨.var 15, .mv, [.loc 86], none⟩]
@[reducible] noncomputable def r7_13 : List RO := [
  ⟨.loc 87, .mv, [.var 15], none⟩,
  ⟨.var 18, .bin .lss, [.loc 87, .con (.int .i64 18)], none⟩]
@[reducible] noncomputable def r7_14 : List RO := [
  ⟨.loc 89, .fld 1, [.var 14], none⟩,
  ⟨.loc 90, .ld false 1, [.loc 89], none⟩,
  ⟨.loc 91, .mv, [.var 15], none⟩,
  ⟨.loc 92, .mv, [.var 5], none⟩,
  ⟨.loc 93, .ixaS 1, [.loc 90, .loc 91], none⟩,
  ⟨.none, .st 1, [.loc 93, .loc 92], none⟩]
@[reducible] noncomputable def r7_15 : List RO := [
  ⟨.loc 94, .mv, [.var 15], none⟩,
  ⟨.loc 95, .mv, [.var 8], none⟩,
  ⟨.loc 96, .bin .add, [.con (.int .i64 18), .loc 95], none⟩,
  ⟨.var 19, .bin .lss, [.loc 94, .loc 96], none⟩]
@[reducible] noncomputable def r7_16 : List RO := [
  ⟨.loc 98, .fld 2, [.var 14], none⟩,
  ⟨.loc 99, .ld false 1, [.loc 98], none⟩,
  ⟨.loc 100, .mv, [.var 15], none⟩,
  ⟨.loc 101, .bin .sub, [.loc 100, .con (.int .i64 18)], none⟩,
  ⟨.loc 102, .mv, [.var 5], none⟩,
  ⟨.loc 103, .ixaS 1, [.loc 99, .loc 101], none⟩,
  ⟨.none, .st 1, [.loc 103, .loc 102], none⟩]
@[reducible] noncomputable def r7_17 : List (RO × Bool) := [
  (⟨.loc 104, .fld 0, [.var 12], none⟩, true),
  (⟨.loc 105, .ld false 1, [.loc 104], none⟩, true),
  (⟨.loc 106, .bin .add, [.loc 105, .con (.int .i64 1)], none⟩, true),
  (⟨.loc 107, .mv, [.var 8], none⟩, true),
  (⟨.loc 108, .bin .shl, [.con (.int .i64 1), .loc 107], none⟩, true)]
@[reducible] noncomputable def r7_18 : List RO := [
  ⟨.loc 109, .bin .rem, [.loc 106, .loc 108], none⟩,
  ⟨.loc 110, .fld 0, [.var 14], none⟩,
  ⟨.none, .st 1, [.loc 110, .loc 109], none⟩]
@[reducible] noncomputable def r7_19 : List RO := [
  ⟨.loc 111, .ld true 3, [.var 14], none⟩,
  ⟨.loc 112, .ld true 3, [.var 12], none⟩,
  ⟨.loc 113, .call, [(.con (.fn (.func 17) [] [])), .loc 111, .loc 112], none⟩,
  ⟨.loc 114, .mv, [.loc 113], none⟩,
  ⟨.loc 115, .mv, [.var 10], (some (.loc 114, false))⟩,
  ⟨.loc 116, .mv, [.var 3], (some (.loc 114, false))⟩,
  ⟨.loc 117, .ld true 3, [.var 14], (some (.loc 114, false))⟩,
  ⟨.loc 118, .call, [(.con (.fn (.func 18) [] [])), .loc 115, .loc 116, .loc 117], (some (.loc 114, false))⟩,
  ⟨.loc 119, .un .not, [.loc 118], (some (.loc 114, false))⟩,
  ⟨.var 20, .pick, [.loc 114, .con (.bool true), .loc 119], none⟩]
@[reducible] noncomputable def r7_20 : List RO := [
  ⟨.loc 121, .mv, [.var 7], none⟩,
  ⟨.var 6, .mv, [.loc 121], none⟩]
@[reducible] noncomputable def r7_21 : List (RO × Bool) := [
  (⟨.loc 122, .mv, [.var 7], none⟩, true),
  (⟨.loc 123, .mv, [.loc 122], none⟩, true),
  (⟨.loc 124, .mv, [.var 0], (some (.loc 123, true))⟩, true),
  (⟨.loc 125, .mv, [.var 8], (some (.loc 123, true))⟩, true),
  (⟨.loc 126, .call, [(.con (.fn (.func 23) [] [])), .loc 124, .loc 125, .con (.int .i64 15)], (some (.loc 123, true))⟩, true),
  (⟨.loc 127, .mv, [.var 3], (some (.loc 123, true))⟩, true),
  (⟨.loc 128, .ld true 3, [.var 14], (some (.loc 123, true))⟩, true)]
@[reducible] noncomputable def r7_22 : List RO := [
  ⟨.loc 129, .call, [(.con (.fn (.func 24) [] [])), .loc 127, .loc 128], (some (.loc 123, true))⟩,
  ⟨.loc 130, .app 1 16 9, [.loc 126, .loc 129], (some (.loc 123, true))⟩,
  ⟨.loc 131, .call, [(.con (.fn (.func 22) [] [])), .loc 130], (some (.loc 123, true))⟩,
  ⟨.loc 132, .pick, [.loc 123, .loc 131, .con (.bool false)], none⟩,
  ⟨.var 6, .mv, [.loc 132], none⟩]
theorem P7 : C7.M = M := by unfold C7 E7; rfl
theorem i7 {a0 a1 a2 a3 a4 a5 : D} : St.init C7 [a0, a1, a2, a3, a4, a5] ⟨[], []⟩ = ⟨[a0, a1, a2, a3, a4, a5, .undef, .undef, .undef, .undef, .undef, .undef, .undef, .undef, .undef, .undef, .undef, .undef, .undef, .undef, .undef], [], ⟨[], []⟩⟩ := by unfold C7 E7; rfl
noncomputable def c7 : RC := (.seq (.reg r7_0) (.seq (.reg r7_1) (.seq (.reg r7_2) (.seq (.reg r7_3) (.seq (.seq (.reg r7_4) (.cond (.var 16) (.seq (.reg r7_5) .ret) .skip)) (.seq (.reg r7_6) (.seq (.reg r7_7) (.seq (.seq (.reg r7_8) (.cond (.var 17) (.seq (.reg r7_9) .ret) .skip)) (.seq (.regD r7_10 r7_11) (.seq (.reg r7_12) (.seq (.seq (.reg r7_13) (.cond (.var 18) (.reg r7_14) (.seq (.reg r7_15) (.cond (.var 19) (.reg r7_16) (.regD r7_17 r7_18))))) (.seq (.seq (.reg r7_19) (.cond (.var 20) (.seq (.reg r7_20) .ret) .skip)) (.seq (.regD r7_21 r7_22) .ret)))))))))))))
noncomputable def q7 : List RR := [(.slot (.var 6))]
theorem z7 {n m : Nat} : resCode (E7 n m) (Tryd.f7.body.getD .skip) = some c7 := by kernel_rfl
theorem zr7 {n m : Nat} : resRs (E7 n m) Tryd.f7.results.toList = some q7 := by kernel_rfl
theorem ow7 {args : List D} {d : D} (hl : args.length = 6) (h : SWp C7 c7 (fun e s => (match e with | .exit _ => False | _ => True) ∧ ∃ s1, Weak C7 s s1 ∧ rrsWp q7 s1 fun ds => D.closed (oneOrTup ds) = true ∧ (oneOrTup ds).er = d) (St.init C7 args ⟨[], []⟩)) : Pur M 7 args d :=
  pur_of_bodyW (C := C7) (fn := Tryd.f7) Tryd.func7 (by kernel_rfl) (by kernel_rfl) (rc := c7) z7 (rs := q7) zr7 (by kernel_rfl) (by rw [hl]; rfl) (by rw [hl]; decide) rfl rfl h
/- 8 bogie.bogielaw02.SignSecrets · 5 arguments · kept slots [0, 1, 2, 3, 4, 10, 11, 12, 13, 14, 15, 16, 17, 37, 58, 63] -/
/- 9 bogie.bogielaw02.SignForm · 3 arguments · kept slots [0, 1, 2, 5, 6, 7, 8, 9, 10, 11, 12, 30, 60, 65, 74, 79, 88] -/
/- 10 bogie.bogielaw02.head · 0 arguments · kept slots [0, 1, 2, 4, 5, 6, 8, 9, 10, 46] -/
noncomputable def E10 (n m : Nat) : Cfg := ⟨M, [0, 1, 2, 4, 5, 6, 8, 9, 10, 46], 82, n, m, []⟩
noncomputable def C10 : Cfg := E10 0 0
@[reducible] noncomputable def r10_0 : List RO := [
  ⟨.var 0, .mv, [.con (.bool false)], none⟩]
@[reducible] noncomputable def r10_1 : List RO := [
  ⟨.loc 12, .call, [(.con (.fn (.func 13) [] [])), (.con (.str [115, 101, 99, 114, 101, 116])), .con (.int .i64 2)], none⟩,
  ⟨.loc 11, .mv, [.loc 12], none⟩,
  ⟨.loc 13, .ext 0, [.loc 11], none⟩,
  ⟨.loc 14, .ext 1, [.loc 11], none⟩,
  ⟨.var 1, .mv, [.loc 13], none⟩,
  ⟨.var 2, .mv, [.loc 14], none⟩]
@[reducible] noncomputable def r10_2 : List RO := [
  ⟨.loc 16, .call, [(.con (.fn (.func 13) [] [])), (.con (.str [115, 101, 99, 114, 101, 116])), .con (.int .i64 9)], none⟩,
  ⟨.loc 15, .mv, [.loc 16], none⟩,
  ⟨.loc 17, .ext 0, [.loc 15], none⟩,
  ⟨.loc 18, .ext 1, [.loc 15], none⟩,
  ⟨.loc 3, .mv, [.loc 17], none⟩,
  ⟨.var 3, .mv, [.loc 18], none⟩]
@[reducible] noncomputable def r10_3 : List RO := [
  ⟨.loc 20, .call, [(.con (.fn (.func 15) [] [])), (.con (.str [115, 101, 99, 114, 101, 116])), .con (.int .i64 2), .con (.int .i64 3), (.con (.str [109, 101, 115, 115, 97, 103, 101]))], none⟩,
  ⟨.loc 19, .mv, [.loc 20], none⟩,
  ⟨.loc 21, .ext 0, [.loc 19], none⟩,
  ⟨.loc 22, .ext 1, [.loc 19], none⟩,
  ⟨.var 4, (.newb [(.int .i64 0), (.lit (.slice none 0 0)), (.lit (.slice none 0 0))]), [], none⟩,
  ⟨.none, .st 3, [.var 4, .loc 21], none⟩,
  ⟨.var 5, .mv, [.loc 22], none⟩]
@[reducible] noncomputable def r10_4 : List RO := [
  ⟨.loc 24, .call, [(.con (.fn (.func 15) [] [])), (.con (.str [115, 101, 99, 114, 101, 116])), .con (.int .i64 2), .con (.int .i64 4), (.con (.str [109, 101, 115, 115, 97, 103, 101]))], none⟩,
  ⟨.loc 23, .mv, [.loc 24], none⟩,
  ⟨.loc 25, .ext 0, [.loc 23], none⟩,
  ⟨.loc 26, .ext 1, [.loc 23], none⟩,
  ⟨.loc 7, (.newb [(.int .i64 0), (.lit (.slice none 0 0)), (.lit (.slice none 0 0))]), [], none⟩,
  ⟨.none, .st 3, [.loc 7, .loc 25], none⟩,
  ⟨.var 6, .mv, [.loc 26], none⟩]
@[reducible] noncomputable def r10_5 : List RO := [
  ⟨.loc 27, .mv, [.var 2], none⟩,
  ⟨.loc 28, .bin .neq, [.loc 27, .con (.int .i64 0)], none⟩,
  ⟨.loc 29, .mv, [.loc 28], none⟩,
  ⟨.loc 30, .mv, [.var 3], (some (.loc 29, false))⟩,
  ⟨.loc 31, .bin .neq, [.loc 30, .con (.int .i64 1)], (some (.loc 29, false))⟩,
  ⟨.loc 32, .pick, [.loc 29, .con (.bool true), .loc 31], none⟩,
  ⟨.loc 33, .mv, [.loc 32], none⟩,
  ⟨.loc 34, .mv, [.var 5], (some (.loc 33, false))⟩,
  ⟨.loc 35, .bin .neq, [.loc 34, .con (.int .i64 0)], (some (.loc 33, false))⟩,
  ⟨.loc 36, .pick, [.loc 33, .con (.bool true), .loc 35], none⟩,
  ⟨.loc 37, .mv, [.loc 36], none⟩,
  ⟨.loc 38, .mv, [.var 6], (some (.loc 37, false))⟩,
  ⟨.loc 39, .bin .neq, [.loc 38, .con (.int .i64 1)], (some (.loc 37, false))⟩,
  ⟨.loc 40, .pick, [.loc 37, .con (.bool true), .loc 39], none⟩,
  ⟨.loc 41, .mv, [.loc 40], none⟩,
  ⟨.loc 42, .fld 2, [.var 4], (some (.loc 41, false))⟩,
  ⟨.loc 43, .ld false 1, [.loc 42], (some (.loc 41, false))⟩,
  ⟨.loc 44, .lenL, [.loc 43], (some (.loc 41, false))⟩,
  ⟨.loc 45, .bin .neq, [.loc 44, .con (.int .i64 2)], (some (.loc 41, false))⟩,
  ⟨.var 9, .pick, [.loc 41, .con (.bool true), .loc 45], none⟩]
@[reducible] noncomputable def r10_6 : List RO := [
  ⟨.var 0, .mv, [.con (.bool false)], none⟩]
@[reducible] noncomputable def r10_7 : List RO := [
  ⟨.loc 47, .ld true 3, [.var 4], none⟩,
  ⟨.var 7, (.newb [(.int .i64 0), (.lit (.slice none 0 0)), (.lit (.slice none 0 0))]), [], none⟩,
  ⟨.none, .st 3, [.var 7, .loc 47], none⟩]
@[reducible] noncomputable def r10_8 : List RO := [
  ⟨.loc 48, .fld 2, [.var 4], none⟩,
  ⟨.loc 49, .ld false 1, [.loc 48], none⟩,
  ⟨.loc 50, .slcL 1 false true, [.loc 49, .con (.int .i64 1)], none⟩,
  ⟨.loc 51, .fld 2, [.var 7], none⟩,
  ⟨.none, .st 1, [.loc 51, .loc 50], none⟩]
@[reducible] noncomputable def r10_9 : List RO := [
  ⟨.loc 52, .ld true 3, [.var 4], none⟩,
  ⟨.var 8, (.newb [(.int .i64 0), (.lit (.slice none 0 0)), (.lit (.slice none 0 0))]), [], none⟩,
  ⟨.none, .st 3, [.var 8, .loc 52], none⟩]
@[reducible] noncomputable def r10_10 : List RO := [
  ⟨.loc 53, .fld 1, [.var 4], none⟩,
  ⟨.loc 54, .ld false 1, [.loc 53], none⟩,
  ⟨.loc 55, .slcL 1 true false, [.loc 54, .con (.int .i64 1)], none⟩,
  ⟨.loc 56, .fld 1, [.var 8], none⟩,
  ⟨.none, .st 1, [.loc 56, .loc 55], none⟩]
@[reducible] noncomputable def r10_11 : List RO := [
  ⟨.loc 57, .fld 0, [.var 4], none⟩,
  ⟨.loc 58, .ld false 1, [.loc 57], none⟩,
  ⟨.loc 59, .bin .eql, [.loc 58, .con (.int .i64 3)], none⟩,
  ⟨.loc 60, .mv, [.loc 59], none⟩,
  ⟨.loc 61, .mv, [.var 1], (some (.loc 60, true))⟩,
  ⟨.loc 62, .ld true 3, [.var 4], (some (.loc 60, true))⟩,
  ⟨.loc 63, .call, [(.con (.fn (.func 18) [] [])), .loc 61, (.con (.str [109, 101, 115, 115, 97, 103, 101])), .loc 62], (some (.loc 60, true))⟩,
  ⟨.loc 64, .pick, [.loc 60, .loc 63, .con (.bool false)], none⟩,
  ⟨.loc 65, .mv, [.loc 64], none⟩,
  ⟨.loc 66, .mv, [.var 1], (some (.loc 65, true))⟩,
  ⟨.loc 67, .ld true 3, [.var 7], (some (.loc 65, true))⟩,
  ⟨.loc 68, .call, [(.con (.fn (.func 18) [] [])), .loc 66, (.con (.str [109, 101, 115, 115, 97, 103, 101])), .loc 67], (some (.loc 65, true))⟩,
  ⟨.loc 69, .un .not, [.loc 68], (some (.loc 65, true))⟩,
  ⟨.loc 70, .pick, [.loc 65, .loc 69, .con (.bool false)], none⟩,
  ⟨.loc 71, .mv, [.loc 70], none⟩,
  ⟨.loc 72, .mv, [.var 1], (some (.loc 71, true))⟩,
  ⟨.loc 73, .ld true 3, [.var 8], (some (.loc 71, true))⟩,
  ⟨.loc 74, .call, [(.con (.fn (.func 18) [] [])), .loc 72, (.con (.str [109, 101, 115, 115, 97, 103, 101])), .loc 73], (some (.loc 71, true))⟩,
  ⟨.loc 75, .un .not, [.loc 74], (some (.loc 71, true))⟩,
  ⟨.loc 76, .pick, [.loc 71, .loc 75, .con (.bool false)], none⟩,
  ⟨.loc 77, .mv, [.loc 76], none⟩,
  ⟨.loc 78, .ld true 3, [.var 4], (some (.loc 77, true))⟩,
  ⟨.loc 79, .call, [(.con (.fn (.func 18) [] [])), (.con (.str [])), (.con (.str [109, 101, 115, 115, 97, 103, 101])), .loc 78], (some (.loc 77, true))⟩,
  ⟨.loc 80, .un .not, [.loc 79], (some (.loc 77, true))⟩,
  ⟨.loc 81, .pick, [.loc 77, .loc 80, .con (.bool false)], none⟩,
  ⟨.var 0, .mv, [.loc 81], none⟩]
theorem P10 : C10.M = M := by unfold C10 E10; rfl
theorem i10 : St.init C10 [] ⟨[], []⟩ = ⟨[.undef, .undef, .undef, .undef, .undef, .undef, .undef, .undef, .undef, .undef], [], ⟨[], []⟩⟩ := by unfold C10 E10; rfl
noncomputable def c10 : RC := (.seq (.reg r10_0) (.seq (.reg r10_1) (.seq (.reg r10_2) (.seq (.reg r10_3) (.seq (.reg r10_4) (.seq (.seq (.reg r10_5) (.cond (.var 9) (.seq (.reg r10_6) .ret) .skip)) (.seq (.reg r10_7) (.seq (.reg r10_8) (.seq (.reg r10_9) (.seq (.reg r10_10) (.seq (.reg r10_11) .ret)))))))))))
noncomputable def q10 : List RR := [(.slot (.var 0))]
theorem z10 {n m : Nat} : resCode (E10 n m) (Tryd.f10.body.getD .skip) = some c10 := by kernel_rfl
theorem zr10 {n m : Nat} : resRs (E10 n m) Tryd.f10.results.toList = some q10 := by kernel_rfl
theorem ok10 {args : List D} {d : D} (hl : args.length = 0) (h : SWp C10 c10 (fun e s => (match e with | .exit _ => False | _ => True) ∧ rrsWp q10 s fun ds => D.closed (oneOrTup ds) = true ∧ (oneOrTup ds).er = d) (St.init C10 args ⟨[], []⟩)) : Pur M 10 args d :=
  pur_of_body (C := C10) (fn := Tryd.f10) Tryd.func10 (by kernel_rfl) (by kernel_rfl) (rc := c10) z10 (rs := q10) zr10 (by kernel_rfl) (by rw [hl]; rfl) (by rw [hl]; decide) rfl rfl h
end Go.Proofs.YtgjkhlnpplajjaaDoor
end
section
set_option maxRecDepth 100000
set_option linter.unusedSimpArgs false
set_option linter.unusedVariables false
namespace Go.Proofs.YtgjkhlnpplajjaaDoor
open Go GoV Go.RowKit
theorem small_of_is {x : Seal} (h1 : x.sig.length ≤ 1000) (h2 : ∀ t ∈ x.sig, isD t = true) (h3 : x.path.length ≤ 1000) (h4 : ∀ t ∈ x.path, isD t = true) : SmallS x :=
  ⟨h1, fun t ht => by rw [isD_len (h2 t ht)]; omega, h3, fun t ht => by rw [isD_len (h4 t ht)]; omega⟩
theorem sgn_parts (s : List UInt8) {h i : Nat} (m : List UInt8) (hh : h ≤ 8) (hi : i < 2 ^ h) : (sgn s h i m).sig.length = 18 ∧ (sgn s h i m).path.length = h ∧ (∀ t ∈ (sgn s h i m).sig, isD t = true) ∧ (∀ t ∈ (sgn s h i m).path, isD t = true) := by
  have h0 := okS_parts (okS_sgn (s := s) (m := m) hh hi)
  exact ⟨h0.1, pathL_len h _ _ (keys_len _ _), h0.2.2.1, h0.2.2.2.1⟩
theorem small_sgn (s : List UInt8) {h i : Nat} (m : List UInt8) (hh : h ≤ 8) (hi : i < 2 ^ h) : SmallS (sgn s h i m) := by
  obtain ⟨h1, h2, h3, h4⟩ := sgn_parts s m hh hi
  exact small_of_is (by omega) h3 (by omega) h4
theorem ver_len {p m : List UInt8} {x : Seal} (h : p.length ≠ 16) : ver p m x = false := by
  unfold ver
  have : (climb (sumN (joined (ends' m x.sig))) x.path x.idx.toNat == p) = false := by
    rw [beq_eq_false_iff_ne]
    intro e
    have := climb_len (p := x.path) (i := x.idx.toNat) (sumN_len (joined (ends' m x.sig)))
    rw [e] at this
    exact h this
  rw [this, Bool.and_false]
theorem ver_sig {p m : List UInt8} {x : Seal} (h : x.sig.length ≠ 18) : ver p m x = false := by unfold ver okS; simp [h]
theorem ver_idx {p m : List UInt8} {x : Seal} (h : ¬(0 ≤ x.idx ∧ x.idx < ((2 ^ x.path.length : Nat) : Int))) : ver p m x = false := by
  unfold ver okS
  have e4 : (2 : Int) ^ x.path.length = ((2 ^ x.path.length : Nat) : Int) := by simp
  rw [e4]
  by_cases q : 0 ≤ x.idx
  · have : ¬(x.idx < ((2 ^ x.path.length : Nat) : Int)) := fun q2 => h ⟨q, q2⟩
    rw [decide_eq_false this, Bool.and_false, Bool.false_and]
  · rw [decide_eq_false q]; simp
set_option maxHeartbeats 4000000 in
theorem head_p : Pur M 10 [] (.bool true) := by
  refine ok10 rfl ?_
  rw [i10]
  unfold c10
  obtain ⟨sec, hsec⟩ : ∃ l : List UInt8, l = [115, 101, 99, 114, 101, 116] := ⟨_, rfl⟩
  obtain ⟨msg, hmsg⟩ : ∃ l : List UInt8, l = [109, 101, 115, 115, 97, 103, 101] := ⟨_, rfl⟩
  have ls : sec.length ≤ 300 := by rw [hsec]; decide
  have lm : msg.length ≤ 300 := by rw [hmsg]; decide
  have a1 := public_p sec 2 ls
  have a2 := public_p sec 9 ls
  have a3 := sign_p sec 2 3 msg ls lm (by omega)
  have a4 := sign_p sec 2 4 msg ls lm (by omega)
  have e1 : pubR sec 2 = (pub sec 2, 0) := rfl
  have e2 : pubR sec 9 = ([], 1) := rfl
  have e3 : sgnR sec 2 3 msg = (sgn sec 2 3 msg, 0) := rfl
  have e4 : sgnR sec 2 4 msg = (⟨0, [], []⟩, 1) := rfl
  rw [e1] at a1
  rw [e2] at a2
  rw [e3] at a3
  rw [e4] at a4
  have hv := ver_sgn (s := sec) (m := msg) (h := 2) (i := 3) (by omega) (by decide)
  have hsm := small_sgn sec (h := 2) (i := 3) msg (by omega) (by decide)
  obtain ⟨p1, p2, p3, p4⟩ := sgn_parts sec (h := 2) (i := 3) msg (by omega) (by decide)
  have hidx : (sgn sec 2 3 msg).idx = 3 := rfl
  generalize sgn sec 2 3 msg = S at *
  generalize pub sec 2 = P at *
  obtain ⟨si, ss, sp⟩ := S
  simp only at p1 p2 p3 p4 hidx
  subst hidx
  have b1 := verify_p P msg ⟨3, ss, sp⟩ hsm lm
  rw [hv] at b1
  have b2 := verify_p P msg ⟨3, ss, sp.take 1⟩ (small_of_is (by simp only; omega) p3 (by simp; omega) (fun t ht => p4 t (List.mem_of_mem_take ht))) lm
  rw [ver_idx (by simp [p2])] at b2
  have b3 := verify_p P msg ⟨3, ss.drop 1, sp⟩ (small_of_is (by simp; omega) (fun t ht => p3 t (List.mem_of_mem_drop ht)) (by simp only; omega) p4) lm
  rw [ver_sig (by simp [p1])] at b3
  have b4 := verify_p [] msg ⟨3, ss, sp⟩ hsm lm
  rw [ver_len (by simp)] at b4
  have t1 : strs (sp.take 1) = (strs sp).take 1 := by simp [List.map_take]
  have t2 : strs (ss.drop 1) = (strs ss).drop 1 := by simp [List.map_drop]
  simp only [sealD, sgnD, pubD] at a1 a2 a3 a4 b1 b2 b3 b4
  rw [t1] at b2
  rw [t2] at b3
  have l1 := strs_len ss
  have l2 := strs_len sp
  rw [p1] at l1
  rw [p2] at l2
  have c1 := closed_strs ss
  have c2 := closed_strs sp
  have d1 := erL_strs ss
  have d2 := erL_strs sp
  have k1 := elems_strs ss
  have k2 := elems_strs sp
  have c3 : D.closedL ((strs sp).take 1) = true := by rw [← t1]; exact closed_strs _
  have c4 : D.closedL ((strs ss).drop 1) = true := by rw [← t2]; exact closed_strs _
  have d3 : D.erL ((strs sp).take 1) = (strs sp).take 1 := by rw [← t1]; exact erL_strs _
  have d4 : D.erL ((strs ss).drop 1) = (strs ss).drop 1 := by rw [← t2]; exact erL_strs _
  generalize strs ss = SS at *
  generalize strs sp = SP at *
  simp only [List.map_nil] at a4
  subst hsec
  subst hmsg
  repeat' (first
    | with_reducible first | apply swp_seq | apply swp_reg | apply swp_regD | apply swp_block | apply swp_exit | apply swp_ret | apply swp_skip | apply swp_cd
    | simp only [go_sem, seval, P10, q10, l1, l2]
    | simp (disch := omega) only [w64, w32, wu8, wu16, wu32, wu64]
    | ((with_reducible refine o_call (a1) ?he ?hc ?_); (case he | hc => first | rfl | (simp [D.erL, D.er, D.closedL, D.closed, l1, l2, c1, c2, c3, c4, d1, d2, d3, d4, k1, k2]; done)))
    | ((with_reducible refine o_call (a2) ?he ?hc ?_); (case he | hc => first | rfl | (simp [D.erL, D.er, D.closedL, D.closed, l1, l2, c1, c2, c3, c4, d1, d2, d3, d4, k1, k2]; done)))
    | ((with_reducible refine o_call (a3) ?he ?hc ?_); (case he | hc => first | rfl | (simp [D.erL, D.er, D.closedL, D.closed, l1, l2, c1, c2, c3, c4, d1, d2, d3, d4, k1, k2]; done)))
    | ((with_reducible refine o_call (a4) ?he ?hc ?_); (case he | hc => first | rfl | (simp [D.erL, D.er, D.closedL, D.closed, l1, l2, c1, c2, c3, c4, d1, d2, d3, d4, k1, k2]; done)))
    | ((with_reducible refine o_call (b1) ?he ?hc ?_); (case he | hc => first | rfl | (simp [D.erL, D.er, D.closedL, D.closed, l1, l2, c1, c2, c3, c4, d1, d2, d3, d4, k1, k2]; done)))
    | ((with_reducible refine o_call (b2) ?he ?hc ?_); (case he | hc => first | rfl | (simp [D.erL, D.er, D.closedL, D.closed, l1, l2, c1, c2, c3, c4, d1, d2, d3, d4, k1, k2]; done)))
    | ((with_reducible refine o_call (b3) ?he ?hc ?_); (case he | hc => first | rfl | (simp [D.erL, D.er, D.closedL, D.closed, l1, l2, c1, c2, c3, c4, d1, d2, d3, d4, k1, k2]; done)))
    | ((with_reducible refine o_call (b4) ?he ?hc ?_); (case he | hc => first | rfl | (simp [D.erL, D.er, D.closedL, D.closed, l1, l2, c1, c2, c3, c4, d1, d2, d3, d4, k1, k2]; done)))
    | ((with_reducible apply s_slFF); (case hx => first | rfl | assumption | omega | ((first | refine ⟨?_, ?_⟩ | skip) <;> first | omega | (simp only [lN, l1, l2, c1, c2, c3, c4, d1, d2, d3, d4, k1, k2] <;> omega)) | (simp [elemsK, D.isVal, D.cells, D.closedL, D.closed, l1, l2, c1, c2, c3, c4, d1, d2, d3, d4, k1, k2]; first | done | omega)))
    | ((with_reducible first | apply s_slTF | apply s_slFT); (case h0 | h1 | hx => first | rfl | assumption | omega | ((first | refine ⟨?_, ?_⟩ | skip) <;> first | omega | (simp only [lN, l1, l2, c1, c2, c3, c4, d1, d2, d3, d4, k1, k2] <;> omega)) | (simp [elemsK, D.isVal, D.cells, D.closedL, D.closed, l1, l2, c1, c2, c3, c4, d1, d2, d3, d4, k1, k2]; first | done | omega)))
    | ((with_reducible apply s_slTT); (case h0 | h1 | h2 | hx => first | rfl | assumption | omega | ((first | refine ⟨?_, ?_⟩ | skip) <;> first | omega | (simp only [lN, l1, l2, c1, c2, c3, c4, d1, d2, d3, d4, k1, k2] <;> omega)) | (simp [elemsK, D.isVal, D.cells, D.closedL, D.closed, l1, l2, c1, c2, c3, c4, d1, d2, d3, d4, k1, k2]; first | done | omega)))
    | ((with_reducible first | apply s_smTF | apply s_smFT); (case h0 | h1 | hc => first | rfl | assumption | omega | ((first | refine ⟨?_, ?_⟩ | skip) <;> first | omega | (simp only [lN, l1, l2, c1, c2, c3, c4, d1, d2, d3, d4, k1, k2] <;> omega)) | (simp [elemsK, D.isVal, D.cells, D.closedL, D.closed, l1, l2, c1, c2, c3, c4, d1, d2, d3, d4, k1, k2]; first | done | omega)))
    | ((with_reducible apply s_smTT); (case h0 | h1 | h2 | hc => first | rfl | assumption | omega | ((first | refine ⟨?_, ?_⟩ | skip) <;> first | omega | (simp only [lN, l1, l2, c1, c2, c3, c4, d1, d2, d3, d4, k1, k2] <;> omega)) | (simp [elemsK, D.isVal, D.cells, D.closedL, D.closed, l1, l2, c1, c2, c3, c4, d1, d2, d3, d4, k1, k2]; first | done | omega)))
    | with_reducible first | apply cd_dec | apply cd_eq | apply cd_ne | apply cd_split | apply gd_dec | apply gd_eq | apply gd_ne | apply gd_split
    | ((with_reducible refine And.intro ?hw ?_); (case hw => first | omega | rfl | exact ⟨_, _, rfl⟩ | assumption | (simp only [lN, l1, l2, c1, c2, c3, c4, d1, d2, d3, d4, k1, k2] <;> omega)))
    | with_reducible intro _)
  all_goals first
    | omega
    | (exfalso; omega)
    | (simp [D.closed, D.er]; done)
end Go.Proofs.YtgjkhlnpplajjaaDoor
end
section
set_option maxRecDepth 100000
set_option linter.unusedSimpArgs false
set_option linter.unusedVariables false
namespace Go.Proofs.YtgjkhlnpplajjaaDoor
open Go GoV Go.RowKit
end Go.Proofs.YtgjkhlnpplajjaaDoor
end
section
set_option maxRecDepth 100000
set_option linter.unusedSimpArgs false
set_option linter.unusedVariables false
namespace Go.Proofs.YtgjkhlnpplajjaaDoor
open Go GoV Go.RowKit
end Go.Proofs.YtgjkhlnpplajjaaDoor
end
section
set_option maxRecDepth 100000
set_option linter.unusedSimpArgs false
set_option linter.unusedVariables false
namespace Go.Proofs.YtgjkhlnpplajjaaDoor
open Go GoV Go.RowKit
end Go.Proofs.YtgjkhlnpplajjaaDoor
end
section
set_option maxRecDepth 100000
set_option linter.unusedSimpArgs false
set_option linter.unusedVariables false
namespace Go.Proofs.YtgjkhlnpplajjaaDoor
open Go GoV Go.RowKit
end Go.Proofs.YtgjkhlnpplajjaaDoor
end
section
set_option maxRecDepth 100000
set_option linter.unusedSimpArgs false
set_option linter.unusedVariables false
namespace Go.Proofs.YtgjkhlnpplajjaaDoor
open Go GoV Go.RowKit
theorem chnL_small {t : List UInt8} {n : Nat} (h : t.length < 65536) : ∀ x ∈ chnL t n, x.length < 65536 := by
  intro x hx
  obtain ⟨j, _, rfl⟩ := List.mem_map.1 hx
  exact chn_lt h j
theorem nodT_small {a b : List UInt8} (ha : a.length ≤ 1000) (hb : b.length ≤ 1000) : (nodT a b).length < 65536 := by
  have := joined_len (okL_node ha hb)
  have e : joined [wnode, a, b] = nodT a b := rfl
  rw [e] at this
  omega
theorem pairsT_small : ∀ l : List (List UInt8), (∀ x ∈ l, x.length ≤ 1000) → ∀ t ∈ pairsT l, t.length < 65536
  | [], _, t, ht => by simp [pairsT] at ht
  | [_], _, t, ht => by simp [pairsT] at ht
  | a :: b :: l, h, t, ht => by
    simp only [pairsT, List.mem_cons] at ht
    rcases ht with rfl | ht
    · exact nodT_small (h a (by simp)) (h b (by simp))
    · exact pairsT_small l (fun x hx => h x (by simp [hx])) t ht
theorem nodesL_small : ∀ (n : Nat) (l : List (List UInt8)), l.length ≤ n → (∀ x ∈ l, x.length ≤ 1000) → (nodesL l).length ≤ l.length ∧ ∀ t ∈ nodesL l, t.length < 65536
  | 0, l, hn, _ => by rw [nodesL_one (by omega)]; simp
  | n + 1, l, hn, h => by
    by_cases q : 1 < l.length
    · rw [nodesL_up q]
      have hu := up_len l
      have hp := pairsT_len l
      obtain ⟨i1, i2⟩ := nodesL_small n (up l) (by omega) (up_small l)
      refine ⟨by rw [List.length_append]; omega, fun t ht => ?_⟩
      rcases List.mem_append.1 ht with ht | ht
      · exact pairsT_small l h t ht
      · exact i2 t ht
    · rw [nodesL_one (by omega)]; simp
theorem made_small {s : List UInt8} {h n : Nat} (hs : s.length ≤ 300) (hh : h ≤ 2) (hn : n ≤ 30) : (made s h n).length ≤ 3100 ∧ ∀ t ∈ made s h n, t.length < 65536 := by
  have hN : 2 ^ h ≤ 2 ^ 2 := Nat.pow_le_pow_right (by omega) (by omega)
  have h4 : (2 : Nat) ^ 2 = 4 := by decide
  obtain ⟨i1, i2⟩ := nodesL_small _ (keys s (2 ^ h)) (Nat.le_refl _) (keys_small _ _)
  have hk := keys_len s (2 ^ h)
  have hb := outNK_bnd (s := s) (n := n) (i := 2 ^ h) (k := 0) hn (by omega) (by omega)
  rw [outNK_zero] at hb
  have hm : made s h n = outN s n (2 ^ h) ++ nodesL (keys s (2 ^ h)) := rfl
  refine ⟨by rw [hm, List.length_append]; omega, fun t ht => ?_⟩
  rw [hm] at ht
  rcases List.mem_append.1 ht with ht | ht
  · obtain ⟨l, hl, ht⟩ := List.mem_flatten.1 ht
    obtain ⟨i, hi, rfl⟩ := List.mem_map.1 hl
    have hi' : i < 2 ^ h := by simpa using hi
    rcases List.mem_append.1 ht with ht | ht
    · obtain ⟨l, hl, ht⟩ := List.mem_flatten.1 ht
      obtain ⟨k, hk, rfl⟩ := List.mem_map.1 hl
      have hk' : k < 18 := by simpa using hk
      rcases List.mem_cons.1 ht with rfl | ht
      · have := joined_len (okL_start (s := s) (i := i) (k := k) hs (by omega) (by omega))
        have e : joined [s, Lib.itoa (i : Int), Lib.itoa (k : Int)] = startT s i k := rfl
        rw [e] at this
        omega
      · exact chnL_small (by rw [start_len]; omega) t ht
    · rw [List.mem_singleton] at ht
      subst ht
      have := joined_len (okL_ends s i)
      have e : joined (ends s i) = keyT s i := rfl
      rw [e] at this
      omega
  · exact i2 t ht
theorem climbT_small : ∀ (p : List (List UInt8)) (a : List UInt8) (i : Nat), a.length ≤ 1000 → (∀ x ∈ p, x.length ≤ 1000) → ∀ t ∈ climbT a p i, t.length < 65536
  | [], _, _, _, _, t, ht => by simp [climbT] at ht
  | x :: p, a, i, ha, hp, t, ht => by
    simp only [climbT, List.mem_cons] at ht
    rcases ht with rfl | ht
    · split
      · exact nodT_small (hp x (by simp)) ha
      · exact nodT_small ha (hp x (by simp))
    · refine climbT_small p _ (i / 2) ?_ (fun y hy => hp y (by simp [hy])) t ht
      rw [par_sum, sumN_len]; omega
theorem checked_small {m : List UInt8} {x : Seal} (hx : SmallS x) (h8 : x.path.length ≤ 8) : (checked m x).length ≤ 300 ∧ ∀ t ∈ checked m x, t.length < 65536 := by
  have e : checked m x = chkP m x.sig 18 ++ [joined (ends' m x.sig)] ++ climbT (sumN (joined (ends' m x.sig))) x.path x.idx.toNat := rfl
  rw [e]
  have h1 := chkP_len m x.sig 18
  have h2 := climbT_len x.path (sumN (joined (ends' m x.sig))) x.idx.toNat
  refine ⟨by rw [List.length_append, List.length_append, h2]; simp; omega, fun t ht => ?_⟩
  rcases List.mem_append.1 ht with ht | ht
  · rcases List.mem_append.1 ht with ht | ht
    · obtain ⟨l, hl, ht⟩ := List.mem_flatten.1 ht
      obtain ⟨k, hk, rfl⟩ := List.mem_map.1 hl
      have := get_small (i := k) hx.sx
      exact chnL_small (by omega) t ht
    · rw [List.mem_singleton] at ht
      subst ht
      have := joined_len (okL_ends' (m := m) hx.sx)
      omega
  · exact climbT_small x.path _ _ (by rw [sumN_len]; omega) hx.px t ht
theorem shown_two {a b : List (List UInt8)} (h1 : a.length ≤ 4000) (h2 : ∀ t ∈ a, t.length < 65536) (h3 : b.length ≤ 4000) (h4 : ∀ t ∈ b, t.length < 65536) : Pur M 22 [.slice (strs a ++ strs b) .no] (.bool (shownB (a ++ b))) := by
  have e : strs a ++ strs b = strs (a ++ b) := by simp
  rw [e]
  refine shown_p (a ++ b) (by rw [List.length_append]; omega) fun t ht => ?_
  rcases List.mem_append.1 ht with ht | ht
  · exact h2 t ht
  · exact h4 t ht
theorem inj_two {a b : List (List UInt8)} (h : shownB (a ++ b) = false) : Inj (fun t => t ∈ a ++ b) ∧ (∀ t ∈ a, t ∈ a ++ b) ∧ ∀ t ∈ b, t ∈ a ++ b :=
  ⟨inj_of_shown h, fun t ht => List.mem_append.2 (.inl ht), fun t ht => List.mem_append.2 (.inr ht)⟩
theorem made_call {s : List UInt8} {h n : Nat} (hs : s.length ≤ 300) (hh : h ≤ 2) (hn : 15 ≤ n) (hn2 : n ≤ 30) (H : List Blk) :
    CallOp M (.fn (.func 23) [] [] :: [.str s, .int .i64 (h : Nat), .int .i64 (n : Nat)]) ⟨H, []⟩ (fun d hp => d = .slice (strs (made s h n)) (.tok 0) ∧ hp = ⟨H, [.per 1 (made s h n).length]⟩) := by
  refine call_eff [] [] (made_e s h n hs hh hn hn2) ⟨by simp, by simp, by simp, by simp⟩ ?_ rfl ?_
  · simp [D.rnL, D.rn]
  · rintro d hp ⟨rfl, rfl⟩
    refine ⟨?_, ?_⟩
    · simp [D.rn, rnL_strs, Own.rn, bakF]
    · simp [Hp.back, putAt, Tv.rnL, Tv.rn, Blk.rnL]
end Go.Proofs.YtgjkhlnpplajjaaDoor
end
section
set_option maxRecDepth 100000
set_option linter.unusedSimpArgs false
set_option linter.unusedVariables false
namespace Go.Proofs.YtgjkhlnpplajjaaDoor
open Go GoV Go.RowKit
theorem sameS_refl5 (a : Seal) : sameS a a = true := by simp [sameS]
theorem mod_nat5 {a : Int} {n : Nat} (h0 : 0 ≤ a) (hn : 0 < n) : ∃ k : Nat, a.tmod (n : Int) = (k : Int) ∧ k < n := by
  refine ⟨(a % (n : Int)).toNat, ?_, ?_⟩
  · rw [Int.tmod_eq_emod_of_nonneg h0, Int.toNat_of_nonneg (Int.emod_nonneg _ (by omega))]
  · have h1 := Int.emod_nonneg a (show (n : Int) ≠ 0 by omega)
    have h2 := Int.emod_lt_of_pos a (show (0 : Int) < (n : Int) by omega)
    omega
theorem sgnR_ok5 {s : List UInt8} {h i : Nat} {m : List UInt8} (hh : h ≤ 8) (hi : i < 2 ^ h) : sgnR s (h : Nat) (i : Nat) m = (sgn s h i m, 0) := by
  unfold sgnR
  have e4 : (2 : Int) ^ h = ((2 ^ h : Nat) : Int) := by simp
  simp only [Int.toNat_natCast, e4]
  rw [if_pos ⟨by omega, by omega, by omega, by omega⟩]
theorem pubR_ok5 {s : List UInt8} {h : Nat} (hh : h ≤ 8) : pubR s (h : Nat) = (pub s h, 0) := by
  unfold pubR
  simp only [Int.toNat_natCast]
  rw [if_pos ⟨by omega, by omega⟩]
end Go.Proofs.YtgjkhlnpplajjaaDoor
end
section
set_option maxRecDepth 100000
set_option linter.unusedSimpArgs false
set_option linter.unusedVariables false
namespace Go.Proofs.YtgjkhlnpplajjaaDoor
open Go GoV Go.RowKit
theorem changes_key {s m : List UInt8} {h i : Nat} {bad : Seal} (hh : h < 3) (hi : i < 2 ^ h) (hd : bad.idx = (i : Int) ∨ bad.sig = (sgn s h i m).sig) (q1 : sameS bad (sgn s h i m) = false) (q2 : ver (pub s h) m bad = true) :
    shownB (made s h 15 ++ checked m bad) = true := by
  cases hsh : shownB (made s h 15 ++ checked m bad)
  · exfalso
    obtain ⟨g1, g2, g3⟩ := inj_two hsh
    obtain ⟨i', hi', e⟩ := sound g1 (by omega) (by omega) g2 g3 q2
    have hii : i' = i := by
      rcases hd with q | q
      · rw [e] at q
        have : (sgn s h i' m).idx = ((i' : Nat) : Int) := rfl
        omega
      · rw [e] at q
        exact one_idx g1 (by omega) hi' hi g2 q
    subst hii
    rw [e, sameS_refl5] at q1
    cases q1
  · rfl
set_option maxHeartbeats 4000000 in
theorem l7_rest (s : List UInt8) (h i : Nat) (m : List UInt8) (bad : Seal) (hs : s.length ≤ 300) (hm : m.length ≤ 300) (hh : h < 3) (hi : i < 2 ^ h) (hsm : SmallS bad) (hb18 : bad.sig.length = 18) (hbh : bad.path.length = h)
    (j : Nat) (hj : bad.idx = j) (hjN : j < 2 ^ h) (hd : bad.idx = (i : Int) ∨ bad.sig = (sgn s h i m).sig) :
    SWp C7 (.seq (.seq (.reg r7_19) (.cond (.var 20) (.seq (.reg r7_20) .ret) .skip)) (.seq (.regD r7_21 r7_22) .ret))
      (fun e s => (match e with | .exit _ => False | _ => True) ∧ ∃ s1, Weak C7 s s1 ∧ (s1.env.getD 6 .undef).closed = true ∧ (s1.env.getD 6 .undef).er = .bool true)
      ⟨[.str s, .undef, .undef, .str m, .undef, .undef, .undef, .bool true, .int .i64 (h : Nat), .undef, .str (pub s h), .undef, .ip [.int .i64 (i : Nat), .slice (strs (sgn s h i m).sig) .no, .slice (strs (sgn s h i m).path) .no], .undef, .ip [.int .i64 bad.idx, .slice (strs bad.sig) .no, .slice (strs bad.path) .no], .undef, .undef, .undef, .undef, .undef, .undef], [], ⟨[], []⟩⟩ := by
  obtain ⟨rc, hrc⟩ : ∃ rc, rc = RC.regD r7_21 r7_22 := ⟨_, rfl⟩
  rw [← hrc]
  have hN : 2 ^ h ≤ 2 ^ 8 := Nat.pow_le_pow_right (by omega) (by omega)
  have h256 : (2 : Nat) ^ 8 = 256 := by decide
  have e5 := ssame_p bad (sgn s h i m) (by omega) (by omega)
  have c3 := verify_p (pub s h) m bad hsm hm
  have f1 := checked_p m bad hsm hm hb18 (by omega) j hj (by omega)
  obtain ⟨m1, m2⟩ := made_small (s := s) (h := h) (n := 15) hs (by omega) (by omega)
  obtain ⟨m3, m4⟩ := checked_small (m := m) hsm (by omega)
  have f2 := shown_two (by omega) m2 (by omega) m4
  have mc := made_call (s := s) (h := h) (n := 15) hs (by omega) (by omega) (by omega) []
  have hkey := changes_key (m := m) hh hi hd
  have z6 : (sgn s h i m).idx = (i : Int) := rfl
  unfold sealD at e5 c3 f1
  have d1 := closed_strs bad.sig
  have d2 := closed_strs bad.path
  have d3 := erL_strs bad.sig
  have d4 := erL_strs bad.path
  have g1 := closed_strs (sgn s h i m).sig
  have g2 := closed_strs (sgn s h i m).path
  have g3 := erL_strs (sgn s h i m).sig
  have g4 := erL_strs (sgn s h i m).path
  have u1 := strs_len (made s h 15)
  have u2 := strs_len (checked m bad)
  have u3 := elems_strs (checked m bad)
  have u4 := closed_strs (checked m bad)
  have u5 := erL_strs (checked m bad)
  have u6 := closed_strs (made s h 15)
  have u7 := erL_strs (made s h 15)
  generalize hb2 : shownB (made s h 15 ++ checked m bad) = b2 at *
  generalize hb3 : ver (pub s h) m bad = b3 at *
  generalize hb1 : sameS bad (sgn s h i m) = b1 at *
  generalize hm0 : made s h 15 = MA at *
  generalize hc0 : checked m bad = CK at *
  generalize sgn s h i m = X at *
  generalize pub s h = PU at *
  obtain ⟨xi, xs, xp⟩ := X
  obtain ⟨bi, bs, bp⟩ := bad
  simp only at e5 c3 f1 d1 d2 d3 d4 g1 g2 g3 g4 z6 hj
  subst z6
  generalize strs xs = SS at *
  generalize strs xp = PP at *
  generalize strs bs = SA at *
  generalize strs bp = SB at *
  cases b1
  rotate_left
  · repeat' (first
    | with_reducible first | apply swp_seq | apply swp_reg | apply swp_regD | apply swp_block | apply swp_exit | apply swp_ret | apply swp_skip | apply swp_cd
    | simp only [go_sem, seval, P7, q7]
    | simp (disch := omega) only [w64, w32, wu8, wu16, wu32, wu64]
    | ((with_reducible first | refine o_call (e5) ?he ?hc ?_ | refine p_call (e5) ?he ?hc ?_ | refine c_call (e5) ?he ?hc ?_); (case he | hc => first | rfl | (simp [D.erL, D.er, D.closedL, D.closed, d1, d2, d3, d4, g1, g2, g3, g4]; done)))
    | ((with_reducible apply s_appT); (case he => rfl); (case hK | hc | hr | hV => first | rfl | assumption | omega | ((first | refine ⟨?_, ?_⟩ | skip) <;> first | omega | (simp only [lN, d1, d2, d3, d4, g1, g2, g3, g4] <;> omega)) | (simp [elemsK, D.isVal, D.cells, D.closedL, D.closed, d1, d2, d3, d4, g1, g2, g3, g4]; first | done | omega)))
    | ((with_reducible apply s_appG); (case he => rfl); (case hV | hK | hr | hl => first | rfl | assumption | omega | ((first | refine ⟨?_, ?_⟩ | skip) <;> first | omega | (simp only [lN, d1, d2, d3, d4, g1, g2, g3, g4] <;> omega)) | (simp [elemsK, D.isVal, D.cells, D.closedL, D.closed, d1, d2, d3, d4, g1, g2, g3, g4]; first | done | omega)))
    | ((with_reducible first | apply s_app0 | apply t_app0); (case he => rfl); (case hK | hc | hr => first | rfl | assumption | omega | ((first | refine ⟨?_, ?_⟩ | skip) <;> first | omega | (simp only [lN, d1, d2, d3, d4, g1, g2, g3, g4] <;> omega)) | (simp [elemsK, D.isVal, D.cells, D.closedL, D.closed, d1, d2, d3, d4, g1, g2, g3, g4]; first | done | omega)))
    | ((with_reducible first | apply s_appF | apply t_appF); (case he => rfl); (case hK | hc | hr | hx | hn => first | rfl | assumption | omega | ((first | refine ⟨?_, ?_⟩ | skip) <;> first | omega | (simp only [lN, d1, d2, d3, d4, g1, g2, g3, g4] <;> omega)) | (simp [elemsK, D.isVal, D.cells, D.closedL, D.closed, d1, d2, d3, d4, g1, g2, g3, g4]; first | done | omega)))
    | ((with_reducible first | apply s_bsl | apply t_bsl); (case he | hl | hc => first | rfl | assumption | omega | ((first | refine ⟨?_, ?_⟩ | skip) <;> first | omega | (simp only [lN, d1, d2, d3, d4, g1, g2, g3, g4] <;> omega)) | (simp [elemsK, D.isVal, D.cells, D.closedL, D.closed, d1, d2, d3, d4, g1, g2, g3, g4]; first | done | omega)))
    | with_reducible first | apply cd_dec | apply cd_eq | apply cd_ne | apply cd_split | apply gd_dec | apply gd_eq | apply gd_ne | apply gd_split | apply gq_dec | apply gq_eq | apply gq_ne | apply gq_split
    | ((with_reducible refine And.intro ?hw ?_); (case hw => first | omega | rfl | exact ⟨_, _, rfl⟩ | assumption | (simp only [lN, d1, d2, d3, d4, g1, g2, g3, g4] <;> omega)))
    | with_reducible intro _)
    all_goals try first | omega | (exfalso; omega)
    exact ⟨_, weak_refl, by simp [D.closed, D.er]⟩
  cases b3
  · repeat' (first
    | with_reducible first | apply swp_seq | apply swp_reg | apply swp_regD | apply swp_block | apply swp_exit | apply swp_ret | apply swp_skip | apply swp_cd
    | simp only [go_sem, seval, P7, q7]
    | simp (disch := omega) only [w64, w32, wu8, wu16, wu32, wu64]
    | ((with_reducible first | refine o_call (e5) ?he ?hc ?_ | refine p_call (e5) ?he ?hc ?_ | refine c_call (e5) ?he ?hc ?_); (case he | hc => first | rfl | (simp [D.erL, D.er, D.closedL, D.closed, d1, d2, d3, d4, g1, g2, g3, g4]; done)))
    | ((with_reducible first | refine o_call (c3) ?he ?hc ?_ | refine p_call (c3) ?he ?hc ?_ | refine c_call (c3) ?he ?hc ?_); (case he | hc => first | rfl | (simp [D.erL, D.er, D.closedL, D.closed, d1, d2, d3, d4, g1, g2, g3, g4]; done)))
    | ((with_reducible apply s_appT); (case he => rfl); (case hK | hc | hr | hV => first | rfl | assumption | omega | ((first | refine ⟨?_, ?_⟩ | skip) <;> first | omega | (simp only [lN, d1, d2, d3, d4, g1, g2, g3, g4] <;> omega)) | (simp [elemsK, D.isVal, D.cells, D.closedL, D.closed, d1, d2, d3, d4, g1, g2, g3, g4]; first | done | omega)))
    | ((with_reducible apply s_appG); (case he => rfl); (case hV | hK | hr | hl => first | rfl | assumption | omega | ((first | refine ⟨?_, ?_⟩ | skip) <;> first | omega | (simp only [lN, d1, d2, d3, d4, g1, g2, g3, g4] <;> omega)) | (simp [elemsK, D.isVal, D.cells, D.closedL, D.closed, d1, d2, d3, d4, g1, g2, g3, g4]; first | done | omega)))
    | ((with_reducible first | apply s_app0 | apply t_app0); (case he => rfl); (case hK | hc | hr => first | rfl | assumption | omega | ((first | refine ⟨?_, ?_⟩ | skip) <;> first | omega | (simp only [lN, d1, d2, d3, d4, g1, g2, g3, g4] <;> omega)) | (simp [elemsK, D.isVal, D.cells, D.closedL, D.closed, d1, d2, d3, d4, g1, g2, g3, g4]; first | done | omega)))
    | ((with_reducible first | apply s_appF | apply t_appF); (case he => rfl); (case hK | hc | hr | hx | hn => first | rfl | assumption | omega | ((first | refine ⟨?_, ?_⟩ | skip) <;> first | omega | (simp only [lN, d1, d2, d3, d4, g1, g2, g3, g4] <;> omega)) | (simp [elemsK, D.isVal, D.cells, D.closedL, D.closed, d1, d2, d3, d4, g1, g2, g3, g4]; first | done | omega)))
    | ((with_reducible first | apply s_bsl | apply t_bsl); (case he | hl | hc => first | rfl | assumption | omega | ((first | refine ⟨?_, ?_⟩ | skip) <;> first | omega | (simp only [lN, d1, d2, d3, d4, g1, g2, g3, g4] <;> omega)) | (simp [elemsK, D.isVal, D.cells, D.closedL, D.closed, d1, d2, d3, d4, g1, g2, g3, g4]; first | done | omega)))
    | with_reducible first | apply cd_dec | apply cd_eq | apply cd_ne | apply cd_split | apply gd_dec | apply gd_eq | apply gd_ne | apply gd_split | apply gq_dec | apply gq_eq | apply gq_ne | apply gq_split
    | ((with_reducible refine And.intro ?hw ?_); (case hw => first | omega | rfl | exact ⟨_, _, rfl⟩ | assumption | (simp only [lN, d1, d2, d3, d4, g1, g2, g3, g4] <;> omega)))
    | with_reducible intro _)
    all_goals try first | omega | (exfalso; omega)
    exact ⟨_, weak_refl, by simp [D.closed, D.er]⟩
  have hb2' : b2 = true := hkey rfl rfl
  rw [hb2'] at f2
  have tail : ∀ (Q : Ex → St → Prop), Q .normal ⟨[.str s, .undef, .undef, .str m, .undef, .undef, .bool true, .bool true, .int .i64 (h : Nat), .undef, .undef, .undef, .undef, .undef, .ip [.int .i64 bi, .slice SA .no, .slice SB .no], .undef, .undef, .undef, .undef, .undef, .undef], [], ⟨[], [.per 1 (MA.length + CK.length)]⟩⟩ →
      SWp C7 (.regD r7_21 r7_22) Q ⟨[.str s, .undef, .undef, .str m, .undef, .undef, .undef, .bool true, .int .i64 (h : Nat), .undef, .undef, .undef, .undef, .undef, .ip [.int .i64 bi, .slice SA .no, .slice SB .no], .undef, .undef, .undef, .undef, .undef, .undef], [], ⟨[], []⟩⟩ := by
    intro Q hQ
    have still : ∀ i, i ≠ 4 → Still (fun E : Nat → Bool => if E 4 then (⟨[], [.per 1 MA.length]⟩ : Hp) else ⟨[], []⟩) i := fun i hi E _ => by
      have h4 : (4 == i) = false := beq_false_of_ne (Ne.symm hi)
      simp only [h4, Bool.or_false]
    refine swp_regDF (fun E => if E 4 then ⟨[], [.per 1 MA.length]⟩ else ⟨[], []⟩) rfl ?_
    rw [P7]
    refine y_q (ds := [.bool true]) (.bool true) rfl (still _ (by decide)) (fun _ => by simp [OcWp, isCall, opWp]) ?_
    refine y_q (ds := [.bool true]) (.bool true) rfl (still _ (by decide)) (fun _ => by simp [OcWp, isCall, opWp]) ?_
    refine y_qg (ds := [.str s]) (.str s) rfl rfl (still _ (by decide)) (fun _ => by simp [OcWp, isCall, opWp]) ?_
    refine y_qg (ds := [.int .i64 (h : Nat)]) (.int .i64 (h : Nat)) rfl rfl (still _ (by decide)) (fun _ => by simp [OcWp, isCall, opWp]) ?_
    refine y_cg rfl rfl (any_eff (hp0 := ⟨[], [.per 1 MA.length]⟩) (hp1 := ⟨[], []⟩) (fun E hE => by have hE' : E 4 = false := hE; simp [hE']) mc) ?_
    refine y_qg (ds := [.str m]) (.str m) rfl rfl (still _ (by decide)) (fun _ => by simp [OcWp, isCall, opWp]) ?_
    refine y_qg (ds := [.ip [.int .i64 bi, .slice SA .no, .slice SB .no]]) (.agg [.int .i64 bi, .slice SA .no, .slice SB .no]) rfl rfl (still _ (by decide)) (fun _ => by simp [OcWp, isCall, opWp]) ?_
    refine y_end (hp' := ⟨[], [.per 1 MA.length]⟩) rfl ?_
    generalize hSM : strs MA = SM at *
    generalize hSC : strs CK = SC at *
    repeat' (first
    | with_reducible first | apply swp_seq | apply swp_reg | apply swp_regD | apply swp_block | apply swp_exit | apply swp_ret | apply swp_skip | apply swp_cd
    | simp only [go_sem, seval, P7, q7, u5]
    | simp (disch := omega) only [w64, w32, wu8, wu16, wu32, wu64]
    | ((with_reducible first | refine o_call (f1) ?he ?hc ?_ | refine p_call (f1) ?he ?hc ?_ | refine c_call (f1) ?he ?hc ?_); (case he | hc => first | rfl | (simp [D.erL, D.er, D.closedL, D.closed, u1, u2, u3, u4, u5, u6, u7, d1, d2, d3, d4]; done)))
    | ((with_reducible first | refine o_call (f2) ?he ?hc ?_ | refine p_call (f2) ?he ?hc ?_ | refine c_call (f2) ?he ?hc ?_); (case he | hc => first | rfl | (simp [D.erL, D.er, D.closedL, D.closed, u1, u2, u3, u4, u5, u6, u7, d1, d2, d3, d4]; done)))
    | ((with_reducible apply s_appT); (case he => rfl); (case hK | hc | hr | hV => first | rfl | assumption | omega | ((first | refine ⟨?_, ?_⟩ | skip) <;> first | omega | (simp only [lN, u1, u2, u3, u4, u5, u6, u7, d1, d2, d3, d4] <;> omega)) | (simp [elemsK, D.isVal, D.cells, D.closedL, D.closed, u1, u2, u3, u4, u5, u6, u7, d1, d2, d3, d4]; first | done | omega)))
    | ((with_reducible apply s_appG); (case he => rfl); (case hV | hK | hr | hl => first | rfl | assumption | omega | ((first | refine ⟨?_, ?_⟩ | skip) <;> first | omega | (simp only [lN, u1, u2, u3, u4, u5, u6, u7, d1, d2, d3, d4] <;> omega)) | (simp [elemsK, D.isVal, D.cells, D.closedL, D.closed, u1, u2, u3, u4, u5, u6, u7, d1, d2, d3, d4]; first | done | omega)))
    | ((with_reducible first | apply s_app0 | apply t_app0); (case he => rfl); (case hK | hc | hr => first | rfl | assumption | omega | ((first | refine ⟨?_, ?_⟩ | skip) <;> first | omega | (simp only [lN, u1, u2, u3, u4, u5, u6, u7, d1, d2, d3, d4] <;> omega)) | (simp [elemsK, D.isVal, D.cells, D.closedL, D.closed, u1, u2, u3, u4, u5, u6, u7, d1, d2, d3, d4]; first | done | omega)))
    | ((with_reducible first | apply s_appF | apply t_appF); (case he => rfl); (case hK | hc | hr | hx | hn => first | rfl | assumption | omega | ((first | refine ⟨?_, ?_⟩ | skip) <;> first | omega | (simp only [lN, u1, u2, u3, u4, u5, u6, u7, d1, d2, d3, d4] <;> omega)) | (simp [elemsK, D.isVal, D.cells, D.closedL, D.closed, u1, u2, u3, u4, u5, u6, u7, d1, d2, d3, d4]; first | done | omega)))
    | ((with_reducible first | apply s_bsl | apply t_bsl); (case he | hl | hc => first | rfl | assumption | omega | ((first | refine ⟨?_, ?_⟩ | skip) <;> first | omega | (simp only [lN, u1, u2, u3, u4, u5, u6, u7, d1, d2, d3, d4] <;> omega)) | (simp [elemsK, D.isVal, D.cells, D.closedL, D.closed, u1, u2, u3, u4, u5, u6, u7, d1, d2, d3, d4]; first | done | omega)))
    | with_reducible first | apply cd_dec | apply cd_eq | apply cd_ne | apply cd_split | apply gd_dec | apply gd_eq | apply gd_ne | apply gd_split | apply gq_dec | apply gq_eq | apply gq_ne | apply gq_split
    | ((with_reducible refine And.intro ?hw ?_); (case hw => first | omega | rfl | exact ⟨_, _, rfl⟩ | assumption | (simp only [lN, u1, u2, u3, u4, u5, u6, u7, d1, d2, d3, d4] <;> omega)))
    | with_reducible intro _)
    all_goals try omega
    rw [u1, u2]
    exact hQ
  repeat' (first
    | with_reducible first | apply swp_seq | apply swp_reg | apply swp_regD | apply swp_block | apply swp_exit | apply swp_ret | apply swp_skip | apply swp_cd
    | simp only [go_sem, seval, P7, q7]
    | simp (disch := omega) only [w64, w32, wu8, wu16, wu32, wu64]
    | ((with_reducible first | refine o_call (e5) ?he ?hc ?_ | refine p_call (e5) ?he ?hc ?_ | refine c_call (e5) ?he ?hc ?_); (case he | hc => first | rfl | (simp [D.erL, D.er, D.closedL, D.closed, d1, d2, d3, d4, g1, g2, g3, g4]; done)))
    | ((with_reducible first | refine o_call (c3) ?he ?hc ?_ | refine p_call (c3) ?he ?hc ?_ | refine c_call (c3) ?he ?hc ?_); (case he | hc => first | rfl | (simp [D.erL, D.er, D.closedL, D.closed, d1, d2, d3, d4, g1, g2, g3, g4]; done)))
    | ((with_reducible apply s_appT); (case he => rfl); (case hK | hc | hr | hV => first | rfl | assumption | omega | ((first | refine ⟨?_, ?_⟩ | skip) <;> first | omega | (simp only [lN, d1, d2, d3, d4, g1, g2, g3, g4] <;> omega)) | (simp [elemsK, D.isVal, D.cells, D.closedL, D.closed, d1, d2, d3, d4, g1, g2, g3, g4]; first | done | omega)))
    | ((with_reducible apply s_appG); (case he => rfl); (case hV | hK | hr | hl => first | rfl | assumption | omega | ((first | refine ⟨?_, ?_⟩ | skip) <;> first | omega | (simp only [lN, d1, d2, d3, d4, g1, g2, g3, g4] <;> omega)) | (simp [elemsK, D.isVal, D.cells, D.closedL, D.closed, d1, d2, d3, d4, g1, g2, g3, g4]; first | done | omega)))
    | ((with_reducible first | apply s_app0 | apply t_app0); (case he => rfl); (case hK | hc | hr => first | rfl | assumption | omega | ((first | refine ⟨?_, ?_⟩ | skip) <;> first | omega | (simp only [lN, d1, d2, d3, d4, g1, g2, g3, g4] <;> omega)) | (simp [elemsK, D.isVal, D.cells, D.closedL, D.closed, d1, d2, d3, d4, g1, g2, g3, g4]; first | done | omega)))
    | ((with_reducible first | apply s_appF | apply t_appF); (case he => rfl); (case hK | hc | hr | hx | hn => first | rfl | assumption | omega | ((first | refine ⟨?_, ?_⟩ | skip) <;> first | omega | (simp only [lN, d1, d2, d3, d4, g1, g2, g3, g4] <;> omega)) | (simp [elemsK, D.isVal, D.cells, D.closedL, D.closed, d1, d2, d3, d4, g1, g2, g3, g4]; first | done | omega)))
    | ((with_reducible first | apply s_bsl | apply t_bsl); (case he | hl | hc => first | rfl | assumption | omega | ((first | refine ⟨?_, ?_⟩ | skip) <;> first | omega | (simp only [lN, d1, d2, d3, d4, g1, g2, g3, g4] <;> omega)) | (simp [elemsK, D.isVal, D.cells, D.closedL, D.closed, d1, d2, d3, d4, g1, g2, g3, g4]; first | done | omega)))
    | with_reducible first | apply cd_dec | apply cd_eq | apply cd_ne | apply cd_split | apply gd_dec | apply gd_eq | apply gd_ne | apply gd_split | apply gq_dec | apply gq_eq | apply gq_ne | apply gq_split
    | ((with_reducible refine And.intro ?hw ?_); (case hw => first | omega | rfl | exact ⟨_, _, rfl⟩ | assumption | (simp only [lN, d1, d2, d3, d4, g1, g2, g3, g4] <;> omega)))
    | with_reducible intro _)
  all_goals try first | omega | (exfalso; omega)
  refine swp_weak (weak_keep [0, 3, 7, 8, 14]) ?_
  simp only [keepE]
  rw [hrc]
  refine tail _ ?_
  repeat' (first
    | with_reducible first | apply swp_seq | apply swp_reg | apply swp_regD | apply swp_block | apply swp_exit | apply swp_ret | apply swp_skip | apply swp_cd
    | simp only [go_sem, seval, P7, q7]
    | simp (disch := omega) only [w64, w32, wu8, wu16, wu32, wu64]
    | ((with_reducible first | refine o_call (e5) ?he ?hc ?_ | refine p_call (e5) ?he ?hc ?_ | refine c_call (e5) ?he ?hc ?_); (case he | hc => first | rfl | (simp [D.erL, D.er, D.closedL, D.closed, d1, d2, d3, d4]; done)))
    | ((with_reducible apply s_appT); (case he => rfl); (case hK | hc | hr | hV => first | rfl | assumption | omega | ((first | refine ⟨?_, ?_⟩ | skip) <;> first | omega | (simp only [lN, d1, d2, d3, d4] <;> omega)) | (simp [elemsK, D.isVal, D.cells, D.closedL, D.closed, d1, d2, d3, d4]; first | done | omega)))
    | ((with_reducible apply s_appG); (case he => rfl); (case hV | hK | hr | hl => first | rfl | assumption | omega | ((first | refine ⟨?_, ?_⟩ | skip) <;> first | omega | (simp only [lN, d1, d2, d3, d4] <;> omega)) | (simp [elemsK, D.isVal, D.cells, D.closedL, D.closed, d1, d2, d3, d4]; first | done | omega)))
    | ((with_reducible first | apply s_app0 | apply t_app0); (case he => rfl); (case hK | hc | hr => first | rfl | assumption | omega | ((first | refine ⟨?_, ?_⟩ | skip) <;> first | omega | (simp only [lN, d1, d2, d3, d4] <;> omega)) | (simp [elemsK, D.isVal, D.cells, D.closedL, D.closed, d1, d2, d3, d4]; first | done | omega)))
    | ((with_reducible first | apply s_appF | apply t_appF); (case he => rfl); (case hK | hc | hr | hx | hn => first | rfl | assumption | omega | ((first | refine ⟨?_, ?_⟩ | skip) <;> first | omega | (simp only [lN, d1, d2, d3, d4] <;> omega)) | (simp [elemsK, D.isVal, D.cells, D.closedL, D.closed, d1, d2, d3, d4]; first | done | omega)))
    | ((with_reducible first | apply s_bsl | apply t_bsl); (case he | hl | hc => first | rfl | assumption | omega | ((first | refine ⟨?_, ?_⟩ | skip) <;> first | omega | (simp only [lN, d1, d2, d3, d4] <;> omega)) | (simp [elemsK, D.isVal, D.cells, D.closedL, D.closed, d1, d2, d3, d4]; first | done | omega)))
    | with_reducible first | apply cd_dec | apply cd_eq | apply cd_ne | apply cd_split | apply gd_dec | apply gd_eq | apply gd_ne | apply gd_split | apply gq_dec | apply gq_eq | apply gq_ne | apply gq_split
    | ((with_reducible refine And.intro ?hw ?_); (case hw => first | omega | rfl | exact ⟨_, _, rfl⟩ | assumption | (simp only [lN, d1, d2, d3, d4] <;> omega)))
    | with_reducible intro _)
  exact ⟨_, weak_refl, by simp [D.closed, D.er]⟩
set_option maxHeartbeats 4000000 in
theorem l7_reg1 {s m x PU : List UInt8} {c i : Int} {h : Nat} {SS PP : List D} (hS : SS.length = 18) (hP : PP.length = h) (d1 : D.closedL SS = true) (d2 : D.closedL PP = true) (d3 : D.erL SS = SS) (d4 : D.erL PP = PP) (v1 : elemsK 1 SS = true) (v2 : elemsK 1 PP = true) (w1 : flatD SS = SS) (w2 : flatD PP = PP) (hh : h < 3) (hpos : 0 < h)
    (Q : Ex → St → Prop) (hQ : Q .normal ⟨[.str s, .undef, .undef, .str m, .int .u8 c, .str x, .undef, .bool true, .int .i64 (h : Nat), .undef, .str PU, .undef, .ip [.int .i64 i, .slice SS .no, .slice PP .no], .undef, .ptr 1 0, .undef, .undef, .undef, .undef, .undef, .undef], [], ⟨[.gone, .cells [.int .i64 i, .gs 0 18, .gs 1 h]], [.chg 1 SS, .chg 1 PP]⟩⟩) :
    SWp C7 (.regD r7_10 r7_11) Q ⟨[.str s, .undef, .undef, .str m, .int .u8 c, .str x, .undef, .bool true, .int .i64 (h : Nat), .undef, .str PU, .undef, .ip [.int .i64 i, .slice SS .no, .slice PP .no], .undef, .undef, .undef, .undef, .undef, .undef, .undef, .undef], [], ⟨[.gone], [.chg 1 [], .chg 1 []]⟩⟩ := by
  have room : ∀ n : Nat, n ≤ 18 → roomOk n 16 := fun n hn => ⟨by omega, by omega⟩
  have still : ∀ i, i ≠ 5 → i ≠ 9 → i ≠ 11 → Still ((fun E => ⟨if E 11 then [.gone, .cells [.int .i64 0, .lit (.slice none 0 0), .lit (.slice none 0 0)]] else [.gone], [if E 5 then .chg 1 SS else .chg 1 [], if E 9 then .chg 1 PP else .chg 1 []]⟩) : (Nat → Bool) → Hp) i := fun i h5 h9 h11 E _ => by
    have q5 : (5 == i) = false := beq_false_of_ne (Ne.symm h5)
    have q9 : (9 == i) = false := beq_false_of_ne (Ne.symm h9)
    have q11 : (11 == i) = false := beq_false_of_ne (Ne.symm h11)
    simp only [q5, q9, q11, Bool.or_false]
  refine swp_regDF (fun E => ⟨if E 11 then [.gone, .cells [.int .i64 0, .lit (.slice none 0 0), .lit (.slice none 0 0)]] else [.gone], [if E 5 then .chg 1 SS else .chg 1 [], if E 9 then .chg 1 PP else .chg 1 []]⟩) rfl ?_
  rw [P7]
  refine y_q (ds := [.ip [.int .i64 i, .slice SS .no, .slice PP .no]]) (.ip [.int .i64 i, .slice SS .no, .slice PP .no]) rfl (still _ (by decide) (by decide) (by decide)) (fun _ => by simp [OcWp, isCall, opWp]) ?_
  refine y_q (ds := [.ip [.int .i64 i, .slice SS .no, .slice PP .no]]) (.int .i64 i) rfl (still _ (by decide) (by decide) (by decide)) (fun _ => by simp [OcWp, isCall, opWp]) ?_
  refine y_q (ds := []) (.slice [] .full) rfl (still _ (by decide) (by decide) (by decide)) (fun _ => by simp [OcWp, isCall, opWp, elemsK, D.closedL, D.erL]) ?_
  refine y_q (ds := [.ip [.int .i64 i, .slice SS .no, .slice PP .no]]) (.ip [.slice SS .no, .slice PP .no]) rfl (still _ (by decide) (by decide) (by decide)) (fun _ => by simp [OcWp, isCall, opWp]) ?_
  refine y_q (ds := [.ip [.slice SS .no, .slice PP .no]]) (.slice SS .no) rfl (still _ (by decide) (by decide) (by decide)) (fun _ => by simp [OcWp, isCall, opWp]) ?_
  refine y_c (ds := [.slice [] .full, .slice SS .no]) (d := .gs 0 18) rfl (hS ▸ any_resv (t := 0) (es := SS) (fun _ => rfl) v1 (room _ (by omega)) (by omega) (fun E hE => ?_)) ?_
  · have hE' : E 5 = false := hE
    refine ⟨by simp [hE'], ?_⟩
    rw [w1]; simp [hE']
  refine y_q (ds := []) (.slice [] .full) rfl (still _ (by decide) (by decide) (by decide)) (fun _ => by simp [OcWp, isCall, opWp, elemsK, D.closedL, D.erL]) ?_
  refine y_q (ds := [.ip [.int .i64 i, .slice SS .no, .slice PP .no]]) (.ip [.slice PP .no]) rfl (still _ (by decide) (by decide) (by decide)) (fun _ => by simp [OcWp, isCall, opWp]) ?_
  refine y_q (ds := [.ip [.slice PP .no]]) (.slice PP .no) rfl (still _ (by decide) (by decide) (by decide)) (fun _ => by simp [OcWp, isCall, opWp]) ?_
  refine y_c (ds := [.slice [] .full, .slice PP .no]) (d := .gs 1 h) rfl (hP ▸ any_resv (t := 1) (es := PP) (fun _ => rfl) v2 (room _ (by omega)) (by omega) (fun E hE => ?_)) ?_
  · have hE' : E 9 = false := hE
    refine ⟨by simp [hE'], ?_⟩
    rw [w2]; simp [hE']
  refine y_q (ds := [.int .i64 i, .gs 0 18, .gs 1 h]) (.agg [.int .i64 i, .gs 0 18, .gs 1 h]) rfl (still _ (by decide) (by decide) (by decide)) (fun _ => by simp [OcWp, isCall, opWp, fillL, D.isVal, D.cells, setL]) ?_
  refine y_c (ds := []) (d := .ptr 1 0) rfl (any_newb (fun E hE => ?_)) ?_
  · have hE' : E 11 = false := hE
    exact ⟨by simp [hE'], by simp [hE']⟩
  refine y_end (hp' := ⟨[.gone, .cells [.int .i64 0, .lit (.slice none 0 0), .lit (.slice none 0 0)]], [.chg 1 SS, .chg 1 PP]⟩) rfl ?_
  repeat' (first
    | with_reducible first | apply swp_seq | apply swp_reg | apply swp_regD | apply swp_block | apply swp_exit | apply swp_ret | apply swp_skip | apply swp_cd
    | simp only [go_sem, seval, P7, q7]
    | simp (disch := omega) only [w64, w32, wu8, wu16, wu32, wu64]
    | ((with_reducible apply s_appT); (case he => rfl); (case hK | hc | hr | hV => first | rfl | assumption | omega | ((first | refine ⟨?_, ?_⟩ | skip) <;> first | omega | (simp only [lN, d1, d2, d3, d4] <;> omega)) | (simp [elemsK, D.isVal, D.cells, D.closedL, D.closed, d1, d2, d3, d4]; first | done | omega)))
    | ((with_reducible apply s_appG); (case he => rfl); (case hV | hK | hr | hl => first | rfl | assumption | omega | ((first | refine ⟨?_, ?_⟩ | skip) <;> first | omega | (simp only [lN, d1, d2, d3, d4] <;> omega)) | (simp [elemsK, D.isVal, D.cells, D.closedL, D.closed, d1, d2, d3, d4]; first | done | omega)))
    | ((with_reducible first | apply s_app0 | apply t_app0); (case he => rfl); (case hK | hc | hr => first | rfl | assumption | omega | ((first | refine ⟨?_, ?_⟩ | skip) <;> first | omega | (simp only [lN, d1, d2, d3, d4] <;> omega)) | (simp [elemsK, D.isVal, D.cells, D.closedL, D.closed, d1, d2, d3, d4]; first | done | omega)))
    | ((with_reducible first | apply s_appF | apply t_appF); (case he => rfl); (case hK | hc | hr | hx | hn => first | rfl | assumption | omega | ((first | refine ⟨?_, ?_⟩ | skip) <;> first | omega | (simp only [lN, d1, d2, d3, d4] <;> omega)) | (simp [elemsK, D.isVal, D.cells, D.closedL, D.closed, d1, d2, d3, d4]; first | done | omega)))
    | ((with_reducible first | apply s_bsl | apply t_bsl); (case he | hl | hc => first | rfl | assumption | omega | ((first | refine ⟨?_, ?_⟩ | skip) <;> first | omega | (simp only [lN, d1, d2, d3, d4] <;> omega)) | (simp [elemsK, D.isVal, D.cells, D.closedL, D.closed, d1, d2, d3, d4]; first | done | omega)))
    | with_reducible first | apply cd_dec | apply cd_eq | apply cd_ne | apply cd_split | apply gd_dec | apply gd_eq | apply gd_ne | apply gd_split | apply gq_dec | apply gq_eq | apply gq_ne | apply gq_split
    | ((with_reducible refine And.intro ?hw ?_); (case hw => first | omega | rfl | exact ⟨_, _, rfl⟩ | assumption | (simp only [lN, d1, d2, d3, d4] <;> omega)))
    | with_reducible intro _)
  all_goals try omega
set_option maxHeartbeats 4000000 in
theorem l7_reg0 {s m x PU : List UInt8} {c i : Int} {h : Nat} {SS PP : List D} (hS : SS.length = 18) (hP : PP.length = h) (d1 : D.closedL SS = true) (d2 : D.closedL PP = true) (d3 : D.erL SS = SS) (d4 : D.erL PP = PP) (v1 : elemsK 1 SS = true) (v2 : elemsK 1 PP = true) (w1 : flatD SS = SS) (w2 : flatD PP = PP) (hh : h < 3)
    (Q : Ex → St → Prop) (hQ : Q .normal ⟨[.str s, .undef, .undef, .str m, .int .u8 c, .str x, .undef, .bool true, .int .i64 (h : Nat), .undef, .str PU, .undef, .ip [.int .i64 i, .slice SS .no, .slice [] .no], .undef, .ptr 1 0, .undef, .undef, .undef, .undef, .undef, .undef], [], ⟨[.gone, .cells [.int .i64 i, .gs 0 18, .slice [] .no]], [.chg 1 SS]⟩⟩) :
    SWp C7 (.regD r7_10 r7_11) Q ⟨[.str s, .undef, .undef, .str m, .int .u8 c, .str x, .undef, .bool true, .int .i64 (h : Nat), .undef, .str PU, .undef, .ip [.int .i64 i, .slice SS .no, .slice [] .no], .undef, .undef, .undef, .undef, .undef, .undef, .undef, .undef], [], ⟨[.gone], [.chg 1 []]⟩⟩ := by
  have room : ∀ n : Nat, n ≤ 18 → roomOk n 16 := fun n hn => ⟨by omega, by omega⟩
  have still : ∀ i, i ≠ 5 → i ≠ 9 → i ≠ 11 → Still ((fun E => ⟨if E 11 then [.gone, .cells [.int .i64 0, .lit (.slice none 0 0), .lit (.slice none 0 0)]] else [.gone], [if E 5 then .chg 1 SS else .chg 1 []]⟩) : (Nat → Bool) → Hp) i := fun i h5 h9 h11 E _ => by
    have q5 : (5 == i) = false := beq_false_of_ne (Ne.symm h5)
    have q9 : (9 == i) = false := beq_false_of_ne (Ne.symm h9)
    have q11 : (11 == i) = false := beq_false_of_ne (Ne.symm h11)
    simp only [q5, q9, q11, Bool.or_false]
  refine swp_regDF (fun E => ⟨if E 11 then [.gone, .cells [.int .i64 0, .lit (.slice none 0 0), .lit (.slice none 0 0)]] else [.gone], [if E 5 then .chg 1 SS else .chg 1 []]⟩) rfl ?_
  rw [P7]
  refine y_q (ds := [.ip [.int .i64 i, .slice SS .no, .slice [] .no]]) (.ip [.int .i64 i, .slice SS .no, .slice [] .no]) rfl (still _ (by decide) (by decide) (by decide)) (fun _ => by simp [OcWp, isCall, opWp]) ?_
  refine y_q (ds := [.ip [.int .i64 i, .slice SS .no, .slice [] .no]]) (.int .i64 i) rfl (still _ (by decide) (by decide) (by decide)) (fun _ => by simp [OcWp, isCall, opWp]) ?_
  refine y_q (ds := []) (.slice [] .full) rfl (still _ (by decide) (by decide) (by decide)) (fun _ => by simp [OcWp, isCall, opWp, elemsK, D.closedL, D.erL]) ?_
  refine y_q (ds := [.ip [.int .i64 i, .slice SS .no, .slice [] .no]]) (.ip [.slice SS .no, .slice [] .no]) rfl (still _ (by decide) (by decide) (by decide)) (fun _ => by simp [OcWp, isCall, opWp]) ?_
  refine y_q (ds := [.ip [.slice SS .no, .slice [] .no]]) (.slice SS .no) rfl (still _ (by decide) (by decide) (by decide)) (fun _ => by simp [OcWp, isCall, opWp]) ?_
  refine y_c (ds := [.slice [] .full, .slice SS .no]) (d := .gs 0 18) rfl (hS ▸ any_resv (t := 0) (es := SS) (fun _ => rfl) v1 (room _ (by omega)) (by omega) (fun E hE => ?_)) ?_
  · have hE' : E 5 = false := hE
    refine ⟨by simp [hE'], ?_⟩
    rw [w1]; simp [hE']
  refine y_q (ds := []) (.slice [] .full) rfl (still _ (by decide) (by decide) (by decide)) (fun _ => by simp [OcWp, isCall, opWp, elemsK, D.closedL, D.erL]) ?_
  refine y_q (ds := [.ip [.int .i64 i, .slice SS .no, .slice [] .no]]) (.ip [.slice [] .no]) rfl (still _ (by decide) (by decide) (by decide)) (fun _ => by simp [OcWp, isCall, opWp]) ?_
  refine y_q (ds := [.ip [.slice [] .no]]) (.slice [] .no) rfl (still _ (by decide) (by decide) (by decide)) (fun _ => by simp [OcWp, isCall, opWp]) ?_
  refine y_q (ds := [.slice [] .full, .slice [] .no]) (.slice [] .no) rfl (fun E _ => by simp) (fun _ => by simp [OcWp, isCall, opWp, appWp, elemsOf, elemsK, D.closedL, D.erL, roomOk]) ?_
  refine y_q (ds := [.int .i64 i, .gs 0 18, .slice [] .no]) (.agg [.int .i64 i, .gs 0 18, .slice [] .no]) rfl (still _ (by decide) (by decide) (by decide)) (fun _ => by simp [OcWp, isCall, opWp, fillL, D.isVal, D.cells, setL]) ?_
  refine y_c (ds := []) (d := .ptr 1 0) rfl (any_newb (fun E hE => ?_)) ?_
  · have hE' : E 11 = false := hE
    exact ⟨by simp [hE'], by simp [hE']⟩
  refine y_end (hp' := ⟨[.gone, .cells [.int .i64 0, .lit (.slice none 0 0), .lit (.slice none 0 0)]], [.chg 1 SS]⟩) rfl ?_
  repeat' (first
    | with_reducible first | apply swp_seq | apply swp_reg | apply swp_regD | apply swp_block | apply swp_exit | apply swp_ret | apply swp_skip | apply swp_cd
    | simp only [go_sem, seval, P7, q7]
    | simp (disch := omega) only [w64, w32, wu8, wu16, wu32, wu64]
    | ((with_reducible apply s_appT); (case he => rfl); (case hK | hc | hr | hV => first | rfl | assumption | omega | ((first | refine ⟨?_, ?_⟩ | skip) <;> first | omega | (simp only [lN, d1, d2, d3, d4] <;> omega)) | (simp [elemsK, D.isVal, D.cells, D.closedL, D.closed, d1, d2, d3, d4]; first | done | omega)))
    | ((with_reducible apply s_appG); (case he => rfl); (case hV | hK | hr | hl => first | rfl | assumption | omega | ((first | refine ⟨?_, ?_⟩ | skip) <;> first | omega | (simp only [lN, d1, d2, d3, d4] <;> omega)) | (simp [elemsK, D.isVal, D.cells, D.closedL, D.closed, d1, d2, d3, d4]; first | done | omega)))
    | ((with_reducible first | apply s_app0 | apply t_app0); (case he => rfl); (case hK | hc | hr => first | rfl | assumption | omega | ((first | refine ⟨?_, ?_⟩ | skip) <;> first | omega | (simp only [lN, d1, d2, d3, d4] <;> omega)) | (simp [elemsK, D.isVal, D.cells, D.closedL, D.closed, d1, d2, d3, d4]; first | done | omega)))
    | ((with_reducible first | apply s_appF | apply t_appF); (case he => rfl); (case hK | hc | hr | hx | hn => first | rfl | assumption | omega | ((first | refine ⟨?_, ?_⟩ | skip) <;> first | omega | (simp only [lN, d1, d2, d3, d4] <;> omega)) | (simp [elemsK, D.isVal, D.cells, D.closedL, D.closed, d1, d2, d3, d4]; first | done | omega)))
    | ((with_reducible first | apply s_bsl | apply t_bsl); (case he | hl | hc => first | rfl | assumption | omega | ((first | refine ⟨?_, ?_⟩ | skip) <;> first | omega | (simp only [lN, d1, d2, d3, d4] <;> omega)) | (simp [elemsK, D.isVal, D.cells, D.closedL, D.closed, d1, d2, d3, d4]; first | done | omega)))
    | with_reducible first | apply cd_dec | apply cd_eq | apply cd_ne | apply cd_split | apply gd_dec | apply gd_eq | apply gd_ne | apply gd_split | apply gq_dec | apply gq_eq | apply gq_ne | apply gq_split
    | ((with_reducible refine And.intro ?hw ?_); (case hw => first | omega | rfl | exact ⟨_, _, rfl⟩ | assumption | (simp only [lN, d1, d2, d3, d4] <;> omega)))
    | with_reducible intro _)
  all_goals try omega
end Go.Proofs.YtgjkhlnpplajjaaDoor
end
section
set_option maxRecDepth 100000
set_option linter.unusedSimpArgs false
set_option linter.unusedVariables false
namespace Go.Proofs.YtgjkhlnpplajjaaDoor
open Go GoV Go.RowKit
theorem flatD_strs : ∀ l : List (List UInt8), flatD (strs l) = strs l
  | [] => rfl
  | a :: l => by
    have := flatD_strs l
    simp only [strs, List.map_cons, flatD, D.cells] at this ⊢
    rw [this]; rfl
theorem set_strs (l : List (List UInt8)) (k : Nat) (x : List UInt8) : (strs l).set k (.str x) = strs (l.set k x) := by
  simp [strs, List.map_set]
theorem small_set {x : Seal} {k : Nat} {t : List UInt8} (h : SmallS x) (ht : t.length ≤ 300) : SmallS ⟨x.idx, x.sig.set k t, x.path⟩ ∧ SmallS ⟨x.idx, x.sig, x.path.set k t⟩ :=
  ⟨⟨by simp only [List.length_set]; exact h.sl, fun y hy => by rcases List.mem_or_eq_of_mem_set hy with q | rfl; exact h.sx y q; omega, h.pl, h.px⟩,
    ⟨h.sl, h.sx, by simp only [List.length_set]; exact h.pl, fun y hy => by rcases List.mem_or_eq_of_mem_set hy with q | rfl; exact h.px y q; omega⟩⟩
theorem map_fzt (t k n : Nat) (cs : List D) : ∀ l : List (List UInt8), (strs l).map (D.fzt t k n cs) = strs l
  | [] => rfl
  | a :: l => by
    have := map_fzt t k n cs l
    simp only [strs, List.map_cons, D.fzt] at this ⊢
    rw [this]
theorem l7_nrm1 {s m PU : List UInt8} {h : Nat} {bi : Int} {SA SB X : List D} {e4 e5 e15 e16 e17 e18 e19 e20 : D} (a1 : SA.length = 18) (a2 : D.erL SA = SA) (a3 : D.closedL SA = true) (a4 : elemsK 1 SA = true) (a5 : chunk 1 18 SA = SA) (b1 : SB.length = h) (b2 : D.erL SB = SB) (b3 : D.closedL SB = true) (b4 : elemsK 1 SB = true) (b5 : chunk 1 h SB = SB) (b6 : SB.map (D.fzt 0 1 18 SA) = SB) {rr : RC} {Q : Ex → St → Prop}
    (hq : SWp C7 rr Q ⟨[.str s, .undef, .undef, .str m, .undef, .undef, .undef, .bool true, .int .i64 (h : Nat), .undef, .str PU, .undef, .ip X, .undef, .ip [.int .i64 bi, .slice SA .no, .slice SB .no], .undef, .undef, .undef, .undef, .undef, .undef], [], ⟨[], []⟩⟩) :
    SWp C7 rr Q ⟨[.str s, .undef, .undef, .str m, e4, e5, .undef, .bool true, .int .i64 (h : Nat), .undef, .str PU, .undef, .ip X, .undef, .ptr 1 0, e15, e16, e17, e18, e19, e20], [], ⟨[.gone, .cells [.int .i64 bi, .gs 0 18, .gs 1 h]], [.chg 1 SA, .chg 1 SB]⟩⟩ := by
  refine swp_weak (s1 := ⟨[.str s, .undef, .undef, .str m, .undef, .undef, .undef, .bool true, .int .i64 (h : Nat), .undef, .str PU, .undef, .ip X, .undef, .ptr 1 0, .undef, .undef, .undef, .undef, .undef, .undef], [], ⟨[.gone, .cells [.int .i64 bi, .gs 0 18, .gs 1 h]], [.chg 1 SA, .chg 1 SB]⟩⟩) (weak_keep [0, 3, 7, 8, 10, 12, 14]) ?_
  have f1 := weak_frzT (C := C7) (s := ⟨[.str s, .undef, .undef, .str m, .undef, .undef, .undef, .bool true, .int .i64 (h : Nat), .undef, .str PU, .undef, .ip X, .undef, .ptr 1 0, .undef, .undef, .undef, .undef, .undef, .undef], [], ⟨[.gone, .cells [.int .i64 bi, .gs 0 18, .gs 1 h]], [.chg 1 SA, .chg 1 SB]⟩⟩) 0 1 18 SA rfl (by omega) (Nat.le_refl 0) a3 (by rw [a2, a5]; exact a4)
  rw [a2, show St.frzT _ 0 1 18 SA = ⟨[.str s, .undef, .undef, .str m, .undef, .undef, .undef, .bool true, .int .i64 (h : Nat), .undef, .str PU, .undef, .ip X, .undef, .ptr 1 0, .undef, .undef, .undef, .undef, .undef, .undef], [], ⟨[.gone, .cells [.int .i64 bi, .slice SA (.tok 0), .gs 1 h]], [.per 1 18, .chg 1 SB]⟩⟩ by simp [St.frzT, D.fzt, Blk.mapD, Tv.mapD, a5, b6]] at f1
  refine swp_weak f1 ?_
  have f2 := weak_frzT (C := C7) (s := ⟨[.str s, .undef, .undef, .str m, .undef, .undef, .undef, .bool true, .int .i64 (h : Nat), .undef, .str PU, .undef, .ip X, .undef, .ptr 1 0, .undef, .undef, .undef, .undef, .undef, .undef], [], ⟨[.gone, .cells [.int .i64 bi, .slice SA (.tok 0), .gs 1 h]], [.per 1 18, .chg 1 SB]⟩⟩) 1 1 h SB rfl (by omega) (Nat.zero_le 1) b3 (by rw [b2, b5]; exact b4)
  rw [b2, show St.frzT _ 1 1 h SB = ⟨[.str s, .undef, .undef, .str m, .undef, .undef, .undef, .bool true, .int .i64 (h : Nat), .undef, .str PU, .undef, .ip X, .undef, .ptr 1 0, .undef, .undef, .undef, .undef, .undef, .undef], [], ⟨[.gone, .cells [.int .i64 bi, .slice SA (.tok 0), .slice SB (.tok 1)]], [.per 1 18, .per 1 h]⟩⟩ by simp [St.frzT, D.fzt, Blk.mapD, Tv.mapD, b5]] at f2
  refine swp_weak f2 ?_
  have f3 := weak_frz (C := C7) (s := ⟨[.str s, .undef, .undef, .str m, .undef, .undef, .undef, .bool true, .int .i64 (h : Nat), .undef, .str PU, .undef, .ip X, .undef, .ptr 1 0, .undef, .undef, .undef, .undef, .undef, .undef], [], ⟨[.gone, .cells [.int .i64 bi, .slice SA (.tok 0), .slice SB (.tok 1)]], [.per 1 18, .per 1 h]⟩⟩) 1 [.int .i64 bi, .slice SA (.tok 0), .slice SB (.tok 1)] rfl (Nat.zero_le 1) (by simp [D.closedL, D.closed, a3, b3])
  rw [show St.frz _ 1 (D.erL [.int .i64 bi, .slice SA (.tok 0), .slice SB (.tok 1)]) = ⟨[.str s, .undef, .undef, .str m, .undef, .undef, .undef, .bool true, .int .i64 (h : Nat), .undef, .str PU, .undef, .ip X, .undef, .ip [.int .i64 bi, .slice SA .no, .slice SB .no], .undef, .undef, .undef, .undef, .undef, .undef], [], ⟨[.gone, .gone], [.per 1 18, .per 1 h]⟩⟩ by simp [St.frz, D.fz, Blk.mapD, Tv.mapD, D.erL, D.er, a2, b2]] at f3
  refine swp_weak f3 ?_
  refine swp_weak (weak_gc 0 0 (Nat.le_refl _) (Nat.le_refl _)) ?_
  rw [show St.gc _ 0 0 = ⟨[.str s, .undef, .undef, .str m, .undef, .undef, .undef, .bool true, .int .i64 (h : Nat), .undef, .str PU, .undef, .ip X, .undef, .ip [.int .i64 bi, .slice SA .no, .slice SB .no], .undef, .undef, .undef, .undef, .undef, .undef], [], ⟨[], []⟩⟩ by simp [St.gc, D.rnL, D.rn, Hp.cut, Blk.rnL, Tv.rnL]]
  exact hq
theorem l7_nrm0 {s m PU : List UInt8} {h : Nat} {bi : Int} {SA X : List D} {e4 e5 e15 e16 e17 e18 e19 e20 : D} (a1 : SA.length = 18) (a2 : D.erL SA = SA) (a3 : D.closedL SA = true) (a4 : elemsK 1 SA = true) (a5 : chunk 1 18 SA = SA) {rr : RC} {Q : Ex → St → Prop}
    (hq : SWp C7 rr Q ⟨[.str s, .undef, .undef, .str m, .undef, .undef, .undef, .bool true, .int .i64 (h : Nat), .undef, .str PU, .undef, .ip X, .undef, .ip [.int .i64 bi, .slice SA .no, .slice [] .no], .undef, .undef, .undef, .undef, .undef, .undef], [], ⟨[], []⟩⟩) :
    SWp C7 rr Q ⟨[.str s, .undef, .undef, .str m, e4, e5, .undef, .bool true, .int .i64 (h : Nat), .undef, .str PU, .undef, .ip X, .undef, .ptr 1 0, e15, e16, e17, e18, e19, e20], [], ⟨[.gone, .cells [.int .i64 bi, .gs 0 18, .slice [] .no]], [.chg 1 SA]⟩⟩ := by
  refine swp_weak (s1 := ⟨[.str s, .undef, .undef, .str m, .undef, .undef, .undef, .bool true, .int .i64 (h : Nat), .undef, .str PU, .undef, .ip X, .undef, .ptr 1 0, .undef, .undef, .undef, .undef, .undef, .undef], [], ⟨[.gone, .cells [.int .i64 bi, .gs 0 18, .slice [] .no]], [.chg 1 SA]⟩⟩) (weak_keep [0, 3, 7, 8, 10, 12, 14]) ?_
  have f1 := weak_frzT (C := C7) (s := ⟨[.str s, .undef, .undef, .str m, .undef, .undef, .undef, .bool true, .int .i64 (h : Nat), .undef, .str PU, .undef, .ip X, .undef, .ptr 1 0, .undef, .undef, .undef, .undef, .undef, .undef], [], ⟨[.gone, .cells [.int .i64 bi, .gs 0 18, .slice [] .no]], [.chg 1 SA]⟩⟩) 0 1 18 SA rfl (by omega) (Nat.le_refl 0) a3 (by rw [a2, a5]; exact a4)
  rw [a2, show St.frzT _ 0 1 18 SA = ⟨[.str s, .undef, .undef, .str m, .undef, .undef, .undef, .bool true, .int .i64 (h : Nat), .undef, .str PU, .undef, .ip X, .undef, .ptr 1 0, .undef, .undef, .undef, .undef, .undef, .undef], [], ⟨[.gone, .cells [.int .i64 bi, .slice SA (.tok 0), .slice [] .no]], [.per 1 18]⟩⟩ by simp [St.frzT, D.fzt, Blk.mapD, Tv.mapD, a5]] at f1
  refine swp_weak f1 ?_
  have f3 := weak_frz (C := C7) (s := ⟨[.str s, .undef, .undef, .str m, .undef, .undef, .undef, .bool true, .int .i64 (h : Nat), .undef, .str PU, .undef, .ip X, .undef, .ptr 1 0, .undef, .undef, .undef, .undef, .undef, .undef], [], ⟨[.gone, .cells [.int .i64 bi, .slice SA (.tok 0), .slice [] .no]], [.per 1 18]⟩⟩) 1 [.int .i64 bi, .slice SA (.tok 0), .slice [] .no] rfl (Nat.zero_le 1) (by simp [D.closedL, D.closed, a3])
  rw [show St.frz _ 1 (D.erL [.int .i64 bi, .slice SA (.tok 0), .slice [] .no]) = ⟨[.str s, .undef, .undef, .str m, .undef, .undef, .undef, .bool true, .int .i64 (h : Nat), .undef, .str PU, .undef, .ip X, .undef, .ip [.int .i64 bi, .slice SA .no, .slice [] .no], .undef, .undef, .undef, .undef, .undef, .undef], [], ⟨[.gone, .gone], [.per 1 18]⟩⟩ by simp [St.frz, D.fz, Blk.mapD, Tv.mapD, D.erL, D.er, a2]] at f3
  refine swp_weak f3 ?_
  refine swp_weak (weak_gc 0 0 (Nat.le_refl _) (Nat.le_refl _)) ?_
  rw [show St.gc _ 0 0 = ⟨[.str s, .undef, .undef, .str m, .undef, .undef, .undef, .bool true, .int .i64 (h : Nat), .undef, .str PU, .undef, .ip X, .undef, .ip [.int .i64 bi, .slice SA .no, .slice [] .no], .undef, .undef, .undef, .undef, .undef, .undef], [], ⟨[], []⟩⟩ by simp [St.gc, D.rnL, D.rn, Hp.cut, Blk.rnL, Tv.rnL]]
  exact hq
set_option maxHeartbeats 8000000 in
theorem l7_p (s : List UInt8) (a b : Int) (m : List UInt8) (c : Int) (x : List UInt8) (ha : 0 ≤ a ∧ a ≤ 255) (hb : 0 ≤ b ∧ b ≤ 255) (hc : 0 ≤ c ∧ c ≤ 255) : Pur M 7 [.str s, .int .u8 a, .int .u8 b, .str m, .int .u8 c, .str x] (.bool true) := by
  refine ow7 rfl ?_
  rw [i7]
  unfold c7
  obtain ⟨rr, hrr⟩ : ∃ rr : RC, rr = (.seq (.seq (.reg r7_19) (.cond (.var 20) (.seq (.reg r7_20) .ret) .skip)) (.seq (.regD r7_21 r7_22) .ret)) := ⟨_, rfl⟩
  rw [← hrr]
  obtain ⟨rc, hrc⟩ : ∃ rc, rc = RC.regD r7_10 r7_11 := ⟨_, rfl⟩
  rw [← hrc]
  have c0 := head_p
  have c1 := short_p [s, m, x] (by simp)
  have s1 : strs [s, m, x] = [.str s, .str m, .str x] := rfl
  rw [s1] at c1
  obtain ⟨h, t1, hh⟩ := mod_nat5 (n := 3) ha.1 (by omega)
  have t1' : a.tmod 3 = (h : Int) := t1
  have hw := shl_one (h := h) (by omega)
  have hN : 2 ^ h ≤ 2 ^ 8 := Nat.pow_le_pow_right (by omega) (by omega)
  have h256 : (2 : Nat) ^ 8 = 256 := by decide
  have hN0 : 0 < 2 ^ h := Nat.pow_pos (by omega)
  obtain ⟨i, t2, hi⟩ := mod_nat5 (a := b) (n := 2 ^ h) hb.1 hN0
  cases h1 : ([s, m, x].all fun x => decide (x.length ≤ 300))
  · rw [h1] at c1
    generalize 2 ^ h = N at *
    repeat' (first
    | with_reducible first | apply swp_seq | apply swp_reg | apply swp_regD | apply swp_block | apply swp_exit | apply swp_ret | apply swp_skip | apply swp_cd
    | simp only [go_sem, seval, P7, q7, t1', hw, t2]
    | simp (disch := omega) only [w64, w32, wu8, wu16, wu32, wu64]
    | ((with_reducible first | refine o_call (c0) ?he ?hc ?_ | refine p_call (c0) ?he ?hc ?_ | refine c_call (c0) ?he ?hc ?_); (case he | hc => first | rfl | (simp [D.erL, D.er, D.closedL, D.closed]; done)))
    | ((with_reducible first | refine o_call (c1) ?he ?hc ?_ | refine p_call (c1) ?he ?hc ?_ | refine c_call (c1) ?he ?hc ?_); (case he | hc => first | rfl | (simp [D.erL, D.er, D.closedL, D.closed]; done)))
    | ((with_reducible apply s_appT); (case he => rfl); (case hK | hc | hr | hV => first | rfl | assumption | omega | ((first | refine ⟨?_, ?_⟩ | skip) <;> first | omega | (simp only [lN] <;> omega)) | (simp [elemsK, D.isVal, D.cells, D.closedL, D.closed]; first | done | omega)))
    | ((with_reducible apply s_appG); (case he => rfl); (case hV | hK | hr | hl => first | rfl | assumption | omega | ((first | refine ⟨?_, ?_⟩ | skip) <;> first | omega | (simp only [lN] <;> omega)) | (simp [elemsK, D.isVal, D.cells, D.closedL, D.closed]; first | done | omega)))
    | ((with_reducible first | apply s_app0 | apply t_app0); (case he => rfl); (case hK | hc | hr => first | rfl | assumption | omega | ((first | refine ⟨?_, ?_⟩ | skip) <;> first | omega | (simp only [lN] <;> omega)) | (simp [elemsK, D.isVal, D.cells, D.closedL, D.closed]; first | done | omega)))
    | ((with_reducible first | apply s_appF | apply t_appF); (case he => rfl); (case hK | hc | hr | hx | hn => first | rfl | assumption | omega | ((first | refine ⟨?_, ?_⟩ | skip) <;> first | omega | (simp only [lN] <;> omega)) | (simp [elemsK, D.isVal, D.cells, D.closedL, D.closed]; first | done | omega)))
    | ((with_reducible first | apply s_bsl | apply t_bsl); (case he | hl | hc => first | rfl | assumption | omega | ((first | refine ⟨?_, ?_⟩ | skip) <;> first | omega | (simp only [lN] <;> omega)) | (simp [elemsK, D.isVal, D.cells, D.closedL, D.closed]; first | done | omega)))
    | with_reducible first | apply cd_dec | apply cd_eq | apply cd_ne | apply cd_split | apply gd_dec | apply gd_eq | apply gd_ne | apply gd_split | apply gq_dec | apply gq_eq | apply gq_ne | apply gq_split
    | ((with_reducible refine And.intro ?hw ?_); (case hw => first | omega | rfl | exact ⟨_, _, rfl⟩ | assumption | (simp only [lN] <;> omega)))
    | with_reducible intro _)
    all_goals try omega
    exact ⟨_, weak_refl, by simp [D.closed, D.er]⟩
  rw [h1] at c1
  have hp : s.length ≤ 300 ∧ m.length ≤ 300 ∧ x.length ≤ 300 := by simpa using h1
  have e1 := public_p s h hp.1
  rw [pubR_ok5 (by omega)] at e1
  have e2 := sign_p s h i m hp.1 hp.2.1 (by omega)
  rw [sgnR_ok5 (by omega) hi] at e2
  have hsm := small_sgn s (h := h) (i := i) m (by omega) hi
  obtain ⟨z1, z2, z3, z4⟩ := sgn_parts s (h := h) (i := i) m (by omega) hi
  have z6 : (sgn s h i m).idx = (i : Int) := rfl
  obtain ⟨k, t3, hk⟩ := mod_nat5 (n := 19 + h) hc.1 (by omega)
  have t3' : c.tmod (19 + (h : Int)) = (k : Int) := by rw [← t3]; congr 1
  obtain ⟨j, t4, hj⟩ := mod_nat5 (a := (i : Int) + 1) (n := 2 ^ h) (by omega) hN0
  have rest := l7_rest s h i m
  have hi0 := hi
  unfold sgnD sealD at e2
  unfold pubD at e1
  have d1 := closed_strs (sgn s h i m).sig
  have d2 := closed_strs (sgn s h i m).path
  have d3 := erL_strs (sgn s h i m).sig
  have d4 := erL_strs (sgn s h i m).path
  have u1 := strs_len (sgn s h i m).sig
  have u2 := strs_len (sgn s h i m).path
  have v1 := elems_strs (sgn s h i m).sig
  have v2 := elems_strs (sgn s h i m).path
  have w1 := flatD_strs (sgn s h i m).sig
  have w2 := flatD_strs (sgn s h i m).path
  generalize hX : sgn s h i m = X at *
  generalize pub s h = PU at *
  obtain ⟨xi, xs, xp⟩ := X
  simp only at e1 e2 d1 d2 d3 d4 u1 u2 v1 v2 w1 w2 z1 z2 z6
  subst z6
  rw [z1] at u1
  rw [z2] at u2
  obtain ⟨SS, hSS⟩ : ∃ SS, SS = strs xs := ⟨_, rfl⟩
  obtain ⟨PP, hPP⟩ : ∃ PP, PP = strs xp := ⟨_, rfl⟩
  rw [← hSS] at e2 d1 d3 u1 v1 w1
  rw [← hPP] at e2 d2 d4 u2 v2 w2
  obtain ⟨N, hNe⟩ : ∃ N, N = 2 ^ h := ⟨_, rfl⟩
  rw [← hNe] at hw t2 hN hN0 t4 hj
  repeat' (first
    | with_reducible first | apply swp_seq | apply swp_reg | apply swp_regD | apply swp_block | apply swp_exit | apply swp_ret | apply swp_skip | apply swp_cd
    | simp only [go_sem, seval, P7, q7, t1', hw, t2, u1, u2]
    | simp (disch := omega) only [w64, w32, wu8, wu16, wu32, wu64]
    | ((with_reducible first | refine o_call (c0) ?he ?hc ?_ | refine p_call (c0) ?he ?hc ?_ | refine c_call (c0) ?he ?hc ?_); (case he | hc => first | rfl | (simp [D.erL, D.er, D.closedL, D.closed, d1, d2, d3, d4]; done)))
    | ((with_reducible first | refine o_call (c1) ?he ?hc ?_ | refine p_call (c1) ?he ?hc ?_ | refine c_call (c1) ?he ?hc ?_); (case he | hc => first | rfl | (simp [D.erL, D.er, D.closedL, D.closed, d1, d2, d3, d4]; done)))
    | ((with_reducible first | refine o_call (e1) ?he ?hc ?_ | refine p_call (e1) ?he ?hc ?_ | refine c_call (e1) ?he ?hc ?_); (case he | hc => first | rfl | (simp [D.erL, D.er, D.closedL, D.closed, d1, d2, d3, d4]; done)))
    | ((with_reducible first | refine o_call (e2) ?he ?hc ?_ | refine p_call (e2) ?he ?hc ?_ | refine c_call (e2) ?he ?hc ?_); (case he | hc => first | rfl | (simp [D.erL, D.er, D.closedL, D.closed, d1, d2, d3, d4]; done)))
    | ((with_reducible apply s_appT); (case he => rfl); (case hK | hc | hr | hV => first | rfl | assumption | omega | ((first | refine ⟨?_, ?_⟩ | skip) <;> first | omega | (simp only [lN, d1, d2, d3, d4] <;> omega)) | (simp [elemsK, D.isVal, D.cells, D.closedL, D.closed, d1, d2, d3, d4]; first | done | omega)))
    | ((with_reducible apply s_appG); (case he => rfl); (case hV | hK | hr | hl => first | rfl | assumption | omega | ((first | refine ⟨?_, ?_⟩ | skip) <;> first | omega | (simp only [lN, d1, d2, d3, d4] <;> omega)) | (simp [elemsK, D.isVal, D.cells, D.closedL, D.closed, d1, d2, d3, d4]; first | done | omega)))
    | ((with_reducible first | apply s_app0 | apply t_app0); (case he => rfl); (case hK | hc | hr => first | rfl | assumption | omega | ((first | refine ⟨?_, ?_⟩ | skip) <;> first | omega | (simp only [lN, d1, d2, d3, d4] <;> omega)) | (simp [elemsK, D.isVal, D.cells, D.closedL, D.closed, d1, d2, d3, d4]; first | done | omega)))
    | ((with_reducible first | apply s_appF | apply t_appF); (case he => rfl); (case hK | hc | hr | hx | hn => first | rfl | assumption | omega | ((first | refine ⟨?_, ?_⟩ | skip) <;> first | omega | (simp only [lN, d1, d2, d3, d4] <;> omega)) | (simp [elemsK, D.isVal, D.cells, D.closedL, D.closed, d1, d2, d3, d4]; first | done | omega)))
    | ((with_reducible first | apply s_bsl | apply t_bsl); (case he | hl | hc => first | rfl | assumption | omega | ((first | refine ⟨?_, ?_⟩ | skip) <;> first | omega | (simp only [lN, d1, d2, d3, d4] <;> omega)) | (simp [elemsK, D.isVal, D.cells, D.closedL, D.closed, d1, d2, d3, d4]; first | done | omega)))
    | with_reducible first | apply cd_dec | apply cd_eq | apply cd_ne | apply cd_split | apply gd_dec | apply gd_eq | apply gd_ne | apply gd_split | apply gq_dec | apply gq_eq | apply gq_ne | apply gq_split
    | ((with_reducible refine And.intro ?hw ?_); (case hw => first | omega | rfl | exact ⟨_, _, rfl⟩ | assumption | (simp only [lN, d1, d2, d3, d4] <;> omega)))
    | with_reducible intro _)
  all_goals try first | omega | (exfalso; omega)
  by_cases h0 : h = 0
  · have hxp : xp = [] := List.eq_nil_of_length_eq_zero (by omega)
    subst hxp
    have hPP0 : PP = [] := hPP
    subst hPP0
    refine swp_weak (weak_trans (weak_keep [0, 3, 4, 5, 7, 8, 10, 12]) (weak_trans (weak_frz 0 [.int .i64 (i : Nat), .slice SS .no, .slice [] .no] rfl (Nat.le_refl 0) (by simp [D.closedL, D.closed, d1, d2])) (weak_resv 1 (by decide)))) ?_
    simp only [St.frz, keepE, D.erL, D.er, d3, d4]
    rw [hrc]
    refine l7_reg0 u1 u2 d1 d2 d3 d4 v1 v2 w1 w2 hh _ ?_
    by_cases hk1 : k < 18
    · have kk : decide ((k : Int) < 18) = true := decide_eq_true (by omega)
      have hset : setL SS (k * 1) [.str x] = strs (xs.set k x) := by rw [hSS, Nat.mul_one]; exact set_strs _ _ _
      repeat' (first
    | with_reducible first | apply swp_seq | apply swp_reg | apply swp_regD | apply swp_block | apply swp_exit | apply swp_ret | apply swp_skip | apply swp_cd
    | simp only [go_sem, seval, P7, q7, t3', kk, u1, u2, hset]
    | simp (disch := omega) only [w64, w32, wu8, wu16, wu32, wu64]
    | ((with_reducible apply s_appT); (case he => rfl); (case hK | hc | hr | hV => first | rfl | assumption | omega | ((first | refine ⟨?_, ?_⟩ | skip) <;> first | omega | (simp only [lN] <;> omega)) | (simp [elemsK, D.isVal, D.cells, D.closedL, D.closed]; first | done | omega)))
    | ((with_reducible apply s_appG); (case he => rfl); (case hV | hK | hr | hl => first | rfl | assumption | omega | ((first | refine ⟨?_, ?_⟩ | skip) <;> first | omega | (simp only [lN] <;> omega)) | (simp [elemsK, D.isVal, D.cells, D.closedL, D.closed]; first | done | omega)))
    | ((with_reducible first | apply s_app0 | apply t_app0); (case he => rfl); (case hK | hc | hr => first | rfl | assumption | omega | ((first | refine ⟨?_, ?_⟩ | skip) <;> first | omega | (simp only [lN] <;> omega)) | (simp [elemsK, D.isVal, D.cells, D.closedL, D.closed]; first | done | omega)))
    | ((with_reducible first | apply s_appF | apply t_appF); (case he => rfl); (case hK | hc | hr | hx | hn => first | rfl | assumption | omega | ((first | refine ⟨?_, ?_⟩ | skip) <;> first | omega | (simp only [lN] <;> omega)) | (simp [elemsK, D.isVal, D.cells, D.closedL, D.closed]; first | done | omega)))
    | ((with_reducible first | apply s_bsl | apply t_bsl); (case he | hl | hc => first | rfl | assumption | omega | ((first | refine ⟨?_, ?_⟩ | skip) <;> first | omega | (simp only [lN] <;> omega)) | (simp [elemsK, D.isVal, D.cells, D.closedL, D.closed]; first | done | omega)))
    | with_reducible first | apply cd_dec | apply cd_eq | apply cd_ne | apply cd_split | apply gd_dec | apply gd_eq | apply gd_ne | apply gd_split | apply gq_dec | apply gq_eq | apply gq_ne | apply gq_split
    | ((with_reducible refine And.intro ?hw ?_); (case hw => first | omega | rfl | exact ⟨_, _, rfl⟩ | assumption | (simp only [lN] <;> omega)))
    | with_reducible intro _)
      all_goals try first | omega | (exfalso; omega)
      subst hSS
      refine l7_nrm0 (h := h) (SA := strs (xs.set k x)) (by rw [strs_len]; exact (by rw [List.length_set]; exact z1)) (erL_strs _) (closed_strs _) (elems_strs _) (by have q := chunk_strs (xs.set k x); rwa [show (xs.set k x).length = 18 from (by rw [List.length_set]; exact z1)] at q) ?_
      rw [hrr]
      exact rest ⟨(i : Int), xs.set k x, []⟩ hp.1 hp.2.1 hh hi0 (small_set hsm hp.2.2).1 (by rw [List.length_set]; exact z1) z2 i rfl hi0 (.inl rfl)
    have kk1 : decide ((k : Int) < 18) = false := decide_eq_false (by omega)
    have kk2 : decide ((k : Int) < 18 + (h : Int)) = false := decide_eq_false (by omega)
    repeat' (first
    | with_reducible first | apply swp_seq | apply swp_reg | apply swp_regD | apply swp_block | apply swp_exit | apply swp_ret | apply swp_skip | apply swp_cd
    | simp only [go_sem, seval, P7, q7, t3', kk1, kk2, u1, u2, hw, t4, q_shl]
    | simp (disch := omega) only [w64, w32, wu8, wu16, wu32, wu64]
    | ((with_reducible apply s_appT); (case he => rfl); (case hK | hc | hr | hV => first | rfl | assumption | omega | ((first | refine ⟨?_, ?_⟩ | skip) <;> first | omega | (simp only [lN] <;> omega)) | (simp [elemsK, D.isVal, D.cells, D.closedL, D.closed]; first | done | omega)))
    | ((with_reducible apply s_appG); (case he => rfl); (case hV | hK | hr | hl => first | rfl | assumption | omega | ((first | refine ⟨?_, ?_⟩ | skip) <;> first | omega | (simp only [lN] <;> omega)) | (simp [elemsK, D.isVal, D.cells, D.closedL, D.closed]; first | done | omega)))
    | ((with_reducible first | apply s_app0 | apply t_app0); (case he => rfl); (case hK | hc | hr => first | rfl | assumption | omega | ((first | refine ⟨?_, ?_⟩ | skip) <;> first | omega | (simp only [lN] <;> omega)) | (simp [elemsK, D.isVal, D.cells, D.closedL, D.closed]; first | done | omega)))
    | ((with_reducible first | apply s_appF | apply t_appF); (case he => rfl); (case hK | hc | hr | hx | hn => first | rfl | assumption | omega | ((first | refine ⟨?_, ?_⟩ | skip) <;> first | omega | (simp only [lN] <;> omega)) | (simp [elemsK, D.isVal, D.cells, D.closedL, D.closed]; first | done | omega)))
    | ((with_reducible first | apply s_bsl | apply t_bsl); (case he | hl | hc => first | rfl | assumption | omega | ((first | refine ⟨?_, ?_⟩ | skip) <;> first | omega | (simp only [lN] <;> omega)) | (simp [elemsK, D.isVal, D.cells, D.closedL, D.closed]; first | done | omega)))
    | with_reducible first | apply cd_dec | apply cd_eq | apply cd_ne | apply cd_split | apply gd_dec | apply gd_eq | apply gd_ne | apply gd_split | apply gq_dec | apply gq_eq | apply gq_ne | apply gq_split
    | ((with_reducible refine And.intro ?hw ?_); (case hw => first | omega | rfl | exact ⟨_, _, rfl⟩ | assumption | (simp only [lN] <;> omega)))
    | with_reducible intro _)
    all_goals try first | omega | (exfalso; omega)
    subst hSS
    refine l7_nrm0 (h := h) (SA := strs (xs)) (by rw [strs_len]; exact z1) (erL_strs _) (closed_strs _) (elems_strs _) (by have q := chunk_strs (xs); rwa [show (xs).length = 18 from z1] at q) ?_
    rw [hrr]
    exact rest ⟨(j : Int), xs, []⟩ hp.1 hp.2.1 hh hi0 ⟨hsm.sl, hsm.sx, hsm.pl, hsm.px⟩ z1 z2 j rfl (hNe ▸ hj) (.inr rfl)
  refine swp_weak (weak_trans (weak_keep [0, 3, 4, 5, 7, 8, 10, 12]) (weak_trans (weak_frz 0 [.int .i64 (i : Nat), .slice SS .no, .slice PP .no] rfl (Nat.le_refl 0) (by simp [D.closedL, D.closed, d1, d2])) (weak_trans (weak_resv 1 (by decide)) (weak_resv 1 (by decide))))) ?_
  simp only [St.frz, keepE, D.erL, D.er, d3, d4]
  rw [hrc]
  refine l7_reg1 u1 u2 d1 d2 d3 d4 v1 v2 w1 w2 hh (by omega) _ ?_
  by_cases hk1 : k < 18
  · have kk : decide ((k : Int) < 18) = true := decide_eq_true (by omega)
    have hset : setL SS (k * 1) [.str x] = strs (xs.set k x) := by rw [hSS, Nat.mul_one]; exact set_strs _ _ _
    repeat' (first
    | with_reducible first | apply swp_seq | apply swp_reg | apply swp_regD | apply swp_block | apply swp_exit | apply swp_ret | apply swp_skip | apply swp_cd
    | simp only [go_sem, seval, P7, q7, t3', kk, u1, u2, hset]
    | simp (disch := omega) only [w64, w32, wu8, wu16, wu32, wu64]
    | ((with_reducible apply s_appT); (case he => rfl); (case hK | hc | hr | hV => first | rfl | assumption | omega | ((first | refine ⟨?_, ?_⟩ | skip) <;> first | omega | (simp only [lN] <;> omega)) | (simp [elemsK, D.isVal, D.cells, D.closedL, D.closed]; first | done | omega)))
    | ((with_reducible apply s_appG); (case he => rfl); (case hV | hK | hr | hl => first | rfl | assumption | omega | ((first | refine ⟨?_, ?_⟩ | skip) <;> first | omega | (simp only [lN] <;> omega)) | (simp [elemsK, D.isVal, D.cells, D.closedL, D.closed]; first | done | omega)))
    | ((with_reducible first | apply s_app0 | apply t_app0); (case he => rfl); (case hK | hc | hr => first | rfl | assumption | omega | ((first | refine ⟨?_, ?_⟩ | skip) <;> first | omega | (simp only [lN] <;> omega)) | (simp [elemsK, D.isVal, D.cells, D.closedL, D.closed]; first | done | omega)))
    | ((with_reducible first | apply s_appF | apply t_appF); (case he => rfl); (case hK | hc | hr | hx | hn => first | rfl | assumption | omega | ((first | refine ⟨?_, ?_⟩ | skip) <;> first | omega | (simp only [lN] <;> omega)) | (simp [elemsK, D.isVal, D.cells, D.closedL, D.closed]; first | done | omega)))
    | ((with_reducible first | apply s_bsl | apply t_bsl); (case he | hl | hc => first | rfl | assumption | omega | ((first | refine ⟨?_, ?_⟩ | skip) <;> first | omega | (simp only [lN] <;> omega)) | (simp [elemsK, D.isVal, D.cells, D.closedL, D.closed]; first | done | omega)))
    | with_reducible first | apply cd_dec | apply cd_eq | apply cd_ne | apply cd_split | apply gd_dec | apply gd_eq | apply gd_ne | apply gd_split | apply gq_dec | apply gq_eq | apply gq_ne | apply gq_split
    | ((with_reducible refine And.intro ?hw ?_); (case hw => first | omega | rfl | exact ⟨_, _, rfl⟩ | assumption | (simp only [lN] <;> omega)))
    | with_reducible intro _)
    all_goals try first | omega | (exfalso; omega)
    subst hSS hPP
    refine l7_nrm1 (h := h) (SA := strs (xs.set k x)) (SB := strs (xp)) (by rw [strs_len]; exact (by rw [List.length_set]; exact z1)) (erL_strs _) (closed_strs _) (elems_strs _) (by have q := chunk_strs (xs.set k x); rwa [show (xs.set k x).length = 18 from (by rw [List.length_set]; exact z1)] at q) (by rw [strs_len]; exact z2) (erL_strs _) (closed_strs _) (elems_strs _) (by have q := chunk_strs (xp); rwa [show (xp).length = h from z2] at q) (map_fzt _ _ _ _ _) ?_
    rw [hrr]
    exact rest ⟨(i : Int), xs.set k x, xp⟩ hp.1 hp.2.1 hh hi0 (small_set hsm hp.2.2).1 (by rw [List.length_set]; exact z1) z2 i rfl hi0 (.inl rfl)
  by_cases hk2 : k < 18 + h
  · obtain ⟨k', rfl⟩ : ∃ k', k = 18 + k' := ⟨k - 18, by omega⟩
    have t3'' : c.tmod (19 + (h : Int)) = 18 + (k' : Int) := by rw [t3']; omega
    have kk1 : decide (18 + (k' : Int) < 18) = false := decide_eq_false (by omega)
    have kk2 : decide (18 + (k' : Int) < 18 + (h : Int)) = true := decide_eq_true (by omega)
    have kk3 : (18 + (k' : Int)) - 18 = k' := by omega
    have hset : setL PP (k' * 1) [.str x] = strs (xp.set k' x) := by rw [hPP, Nat.mul_one]; exact set_strs _ _ _
    repeat' (first
    | with_reducible first | apply swp_seq | apply swp_reg | apply swp_regD | apply swp_block | apply swp_exit | apply swp_ret | apply swp_skip | apply swp_cd
    | simp only [go_sem, seval, P7, q7, t3'', kk1, kk2, kk3, u1, u2, hset]
    | simp (disch := omega) only [w64, w32, wu8, wu16, wu32, wu64]
    | ((with_reducible apply s_appT); (case he => rfl); (case hK | hc | hr | hV => first | rfl | assumption | omega | ((first | refine ⟨?_, ?_⟩ | skip) <;> first | omega | (simp only [lN] <;> omega)) | (simp [elemsK, D.isVal, D.cells, D.closedL, D.closed]; first | done | omega)))
    | ((with_reducible apply s_appG); (case he => rfl); (case hV | hK | hr | hl => first | rfl | assumption | omega | ((first | refine ⟨?_, ?_⟩ | skip) <;> first | omega | (simp only [lN] <;> omega)) | (simp [elemsK, D.isVal, D.cells, D.closedL, D.closed]; first | done | omega)))
    | ((with_reducible first | apply s_app0 | apply t_app0); (case he => rfl); (case hK | hc | hr => first | rfl | assumption | omega | ((first | refine ⟨?_, ?_⟩ | skip) <;> first | omega | (simp only [lN] <;> omega)) | (simp [elemsK, D.isVal, D.cells, D.closedL, D.closed]; first | done | omega)))
    | ((with_reducible first | apply s_appF | apply t_appF); (case he => rfl); (case hK | hc | hr | hx | hn => first | rfl | assumption | omega | ((first | refine ⟨?_, ?_⟩ | skip) <;> first | omega | (simp only [lN] <;> omega)) | (simp [elemsK, D.isVal, D.cells, D.closedL, D.closed]; first | done | omega)))
    | ((with_reducible first | apply s_bsl | apply t_bsl); (case he | hl | hc => first | rfl | assumption | omega | ((first | refine ⟨?_, ?_⟩ | skip) <;> first | omega | (simp only [lN] <;> omega)) | (simp [elemsK, D.isVal, D.cells, D.closedL, D.closed]; first | done | omega)))
    | with_reducible first | apply cd_dec | apply cd_eq | apply cd_ne | apply cd_split | apply gd_dec | apply gd_eq | apply gd_ne | apply gd_split | apply gq_dec | apply gq_eq | apply gq_ne | apply gq_split
    | ((with_reducible refine And.intro ?hw ?_); (case hw => first | omega | rfl | exact ⟨_, _, rfl⟩ | assumption | (simp only [lN] <;> omega)))
    | with_reducible intro _)
    all_goals try first | omega | (exfalso; omega)
    subst hSS hPP
    rw [Nat.mul_one, set_strs]
    refine l7_nrm1 (h := h) (SA := strs (xs)) (SB := strs (xp.set k' x)) (by rw [strs_len]; exact z1) (erL_strs _) (closed_strs _) (elems_strs _) (by have q := chunk_strs (xs); rwa [show (xs).length = 18 from z1] at q) (by rw [strs_len]; exact (by rw [List.length_set]; exact z2)) (erL_strs _) (closed_strs _) (elems_strs _) (by have q := chunk_strs (xp.set k' x); rwa [show (xp.set k' x).length = h from (by rw [List.length_set]; exact z2)] at q) (map_fzt _ _ _ _ _) ?_
    rw [hrr]
    exact rest ⟨(i : Int), xs, xp.set k' x⟩ hp.1 hp.2.1 hh hi0 (small_set hsm hp.2.2).2 z1 (by rw [List.length_set]; exact z2) i rfl hi0 (.inl rfl)
  have kk1 : decide ((k : Int) < 18) = false := decide_eq_false (by omega)
  have kk2 : decide ((k : Int) < 18 + (h : Int)) = false := decide_eq_false (by omega)
  repeat' (first
    | with_reducible first | apply swp_seq | apply swp_reg | apply swp_regD | apply swp_block | apply swp_exit | apply swp_ret | apply swp_skip | apply swp_cd
    | simp only [go_sem, seval, P7, q7, t3', kk1, kk2, u1, u2, hw, t4, q_shl]
    | simp (disch := omega) only [w64, w32, wu8, wu16, wu32, wu64]
    | ((with_reducible apply s_appT); (case he => rfl); (case hK | hc | hr | hV => first | rfl | assumption | omega | ((first | refine ⟨?_, ?_⟩ | skip) <;> first | omega | (simp only [lN] <;> omega)) | (simp [elemsK, D.isVal, D.cells, D.closedL, D.closed]; first | done | omega)))
    | ((with_reducible apply s_appG); (case he => rfl); (case hV | hK | hr | hl => first | rfl | assumption | omega | ((first | refine ⟨?_, ?_⟩ | skip) <;> first | omega | (simp only [lN] <;> omega)) | (simp [elemsK, D.isVal, D.cells, D.closedL, D.closed]; first | done | omega)))
    | ((with_reducible first | apply s_app0 | apply t_app0); (case he => rfl); (case hK | hc | hr => first | rfl | assumption | omega | ((first | refine ⟨?_, ?_⟩ | skip) <;> first | omega | (simp only [lN] <;> omega)) | (simp [elemsK, D.isVal, D.cells, D.closedL, D.closed]; first | done | omega)))
    | ((with_reducible first | apply s_appF | apply t_appF); (case he => rfl); (case hK | hc | hr | hx | hn => first | rfl | assumption | omega | ((first | refine ⟨?_, ?_⟩ | skip) <;> first | omega | (simp only [lN] <;> omega)) | (simp [elemsK, D.isVal, D.cells, D.closedL, D.closed]; first | done | omega)))
    | ((with_reducible first | apply s_bsl | apply t_bsl); (case he | hl | hc => first | rfl | assumption | omega | ((first | refine ⟨?_, ?_⟩ | skip) <;> first | omega | (simp only [lN] <;> omega)) | (simp [elemsK, D.isVal, D.cells, D.closedL, D.closed]; first | done | omega)))
    | with_reducible first | apply cd_dec | apply cd_eq | apply cd_ne | apply cd_split | apply gd_dec | apply gd_eq | apply gd_ne | apply gd_split | apply gq_dec | apply gq_eq | apply gq_ne | apply gq_split
    | ((with_reducible refine And.intro ?hw ?_); (case hw => first | omega | rfl | exact ⟨_, _, rfl⟩ | assumption | (simp only [lN] <;> omega)))
    | with_reducible intro _)
  all_goals try first | omega | (exfalso; omega)
  subst hSS hPP
  refine l7_nrm1 (h := h) (SA := strs (xs)) (SB := strs (xp)) (by rw [strs_len]; exact z1) (erL_strs _) (closed_strs _) (elems_strs _) (by have q := chunk_strs (xs); rwa [show (xs).length = 18 from z1] at q) (by rw [strs_len]; exact z2) (erL_strs _) (closed_strs _) (elems_strs _) (by have q := chunk_strs (xp); rwa [show (xp).length = h from z2] at q) (map_fzt _ _ _ _ _) ?_
  rw [hrr]
  exact rest ⟨(j : Int), xs, xp⟩ hp.1 hp.2.1 hh hi0 ⟨hsm.sl, hsm.sx, hsm.pl, hsm.px⟩ z1 z2 j rfl (hNe ▸ hj) (.inr rfl)
end Go.Proofs.YtgjkhlnpplajjaaDoor
end
