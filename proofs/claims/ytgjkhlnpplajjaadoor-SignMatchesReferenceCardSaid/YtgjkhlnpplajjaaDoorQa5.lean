/- Own texts, merged by a program: the engine that walks the code, and what the functions that the law reaches compute. -/
import Derived.Test.YtgjkhlnpplajjaaDoorQa4
import Derived.Test.YtgjkhlnpplajjaaDoorProg
import Derived.KernelRfl
import Derived.Lib.ItoaNum
section
set_option maxRecDepth 100000
set_option linter.unusedSimpArgs false
set_option linter.unusedVariables false
namespace Go.Proofs.YtgjkhlnpplajjaaDoor
open Go GoV Go.RowKit
theorem chunk_p (l : List (List UInt8)) : Pur M 53 [.slice (strs l) .no, .int .i64 2] (.fn (.func 71) [] [.ip [.slice (strs l) .no], .ip [.int .i64 2]]) := by
  refine ow53 rfl ?_
  rw [i53]
  unfold c53
  have hcl := closed_strs l
  have her := erL_strs l
  generalize strs l = L at *
  repeat' (first
    | with_reducible first | apply swp_seq | apply swp_reg | apply swp_regD | apply swp_block | apply swp_exit | apply swp_ret | apply swp_skip | apply swp_cd
    | simp only [go_sem, Nat.reduceAdd, Nat.reduceSub, Nat.reduceMul, Nat.reduceEqDiff, Nat.reduceLeDiff, Nat.reduceLT, Int.reduceEq, Int.reduceNe, Int.reduceLT, Int.reduceLE, Int.reduceAdd, Int.reduceSub, Int.reduceMul, Int.reduceNeg, Int.reduceToNat, Int.reduceTDiv, Int.reduceTMod, Int.reduceBEq, Int.reduceBNe, decide_true, decide_false, reduceCtorEq, reduceIte, P53, q53]
    | simp (disch := omega) only [w64, w32, wu8, wu16, wu32, wu64]
    | with_reducible first | apply cd_dec | apply cd_eq | apply cd_ne | apply cd_split
    | ((with_reducible refine And.intro ?hw ?_); (case hw => first | omega | rfl | exact ⟨_, _, rfl⟩ | assumption | (simp only [lN1, lN2, lN3, lN4, lN5, lN6, lN7] <;> omega)))
    | with_reducible intro _)
  all_goals try omega
  refine ⟨_, weak_trans (weak_keep [4]) (weak_trans (weak_frz 0 [.slice L .no] rfl (Nat.le_refl 0) (by simp [D.closedL, D.closed, hcl])) (weak_frz 1 [.int .i64 2] rfl (Nat.zero_le _) (by simp [D.closedL, D.closed]))), ?_⟩
  simp [St.frz, keepE, D.fz, D.fzL, D.closed, D.er, D.closedL, D.erL, hcl, her]
theorem get_small {l : List (List UInt8)} (h : ∀ x ∈ l, x.length ≤ 1000) {i : Nat} : (l.getD i []).length ≤ 1000 := by
  by_cases hi : i < l.length
  · have : l.getD i [] = l[i] := by simp [List.getD, hi]
    rw [this]; exact h _ (List.getElem_mem hi)
  · have : l.getD i [] = [] := by simp [List.getD, List.getElem?_eq_none (Nat.le_of_not_lt hi)]
    rw [this]; simp
def hpA (l : List (List UInt8)) (k : Nat) : Hp := ⟨[.cells [.slice (strs ((up l).take k)) (.tok 0)]], [.per 1 k]⟩
set_option maxHeartbeats 1000000 in
theorem above_p (l : List (List UInt8)) (hl : l.length ≤ 1000) (he : l.length % 2 = 0) (hx : ∀ x ∈ l, x.length ≤ 1000) : Pur M 27 [.slice (strs l) .no] (.slice (strs (up l)) .no) := by
  refine oT27 rfl ?_
  rw [i27]
  unfold c27
  have h1 := chunk_p l
  have hit := chunk_it l hl he
  have hul := up_len l
  repeat' (first
    | with_reducible first | apply swp_seq | apply swp_reg | apply swp_regD | apply swp_block | apply swp_exit | apply swp_ret | apply swp_skip | apply swp_cd
    | with_reducible apply twp_seq
    | with_reducible apply twp_block
    | ((with_reducible refine twp_reg ?hb ?_); (case hb => exact fun _ _ => trivial); with_reducible intro _)
    | ((with_reducible refine twp_regD ?hb ?_); (case hb => exact fun _ _ => trivial); with_reducible intro _)
    | ((with_reducible refine twp_cond ?hb ?_); (case hb => exact fun _ _ => trivial); with_reducible intro _)
    | ((with_reducible refine twp_ret ?hb ?_); (case hb => exact fun _ _ => trivial))
    | simp only [go_sem, Nat.reduceAdd, Nat.reduceSub, Nat.reduceMul, Nat.reduceEqDiff, Nat.reduceLeDiff, Nat.reduceLT, Int.reduceEq, Int.reduceNe, Int.reduceLT, Int.reduceLE, Int.reduceAdd, Int.reduceSub, Int.reduceMul, Int.reduceNeg, Int.reduceToNat, Int.reduceTDiv, Int.reduceTMod, Int.reduceBEq, Int.reduceBNe, decide_true, decide_false, reduceCtorEq, reduceIte, P27, q27]
    | simp (disch := omega) only [w64, w32, wu8, wu16, wu32, wu64]
    | ((with_reducible first | refine o_call (h1) ?he ?hc ?_ | refine p_call (h1) ?he ?hc ?_ | refine c_call (h1) ?he ?hc ?_); (case he | hc => first | rfl | (simp [D.erL, D.er, D.closedL, D.closed]; done)))
    | ((with_reducible apply s_appT); (case he => rfl); (case hK | hc | hr | hV => first | rfl | assumption | omega | ((first | refine ⟨?_, ?_⟩ | skip) <;> first | omega | (simp only [lN1, lN2, lN3, lN4, lN5, lN6, lN7] <;> omega)) | (simp [elemsK, D.isVal, D.cells, D.closedL, D.closed]; first | done | omega)))
    | ((with_reducible apply s_appG); (case he => rfl); (case hV | hK | hr | hl => first | rfl | assumption | omega | ((first | refine ⟨?_, ?_⟩ | skip) <;> first | omega | (simp only [lN1, lN2, lN3, lN4, lN5, lN6, lN7] <;> omega)) | (simp [elemsK, D.isVal, D.cells, D.closedL, D.closed]; first | done | omega)))
    | ((with_reducible apply s_app0); (case he => rfl); (case hK | hc | hr => first | rfl | assumption | omega | ((first | refine ⟨?_, ?_⟩ | skip) <;> first | omega | (simp only [lN1, lN2, lN3, lN4, lN5, lN6, lN7] <;> omega)) | (simp [elemsK, D.isVal, D.cells, D.closedL, D.closed]; first | done | omega)))
    | ((with_reducible apply s_appF); (case he => rfl); (case hK | hc | hr | hx | hn => first | rfl | assumption | omega | ((first | refine ⟨?_, ?_⟩ | skip) <;> first | omega | (simp only [lN1, lN2, lN3, lN4, lN5, lN6, lN7] <;> omega)) | (simp [elemsK, D.isVal, D.cells, D.closedL, D.closed]; first | done | omega)))
    | ((with_reducible first | apply s_bsl | apply t_bsl); (case he | hl | hc => first | rfl | assumption | omega | ((first | refine ⟨?_, ?_⟩ | skip) <;> first | omega | (simp only [lN1, lN2, lN3, lN4, lN5, lN6, lN7] <;> omega)) | (simp [elemsK, D.isVal, D.cells, D.closedL, D.closed]; first | done | omega)))
    | with_reducible first | apply cd_dec | apply cd_eq | apply cd_ne | apply cd_split
    | ((with_reducible refine And.intro ?hw ?_); (case hw => first | omega | rfl | exact ⟨_, _, rfl⟩ | assumption | (simp only [lN1, lN2, lN3, lN4, lN5, lN6, lN7] <;> omega)))
    | with_reducible intro _)
  refine twp_weak (fun _ => weak_newC 0 0 1 (by decide) rfl rfl) (show TWp C27 0 0 _ _ ⟨[.slice (strs l) .no, .lit (.slice none 0 0), .ptr 0 0, .undef, .fn (.func 71) [] [.ip [.slice (strs l) .no], .ip [.int .i64 2]], .undef], [], hpA l 0⟩ from ?_)
  refine twp_range (fun _ _ => trivial) hit (hpA l) rfl ?_ rfl ?_ ?_
  · intro r hr
    obtain ⟨k, _, rfl⟩ := List.mem_map.1 hr
    rfl
  · intro k r hk
    have hlt : k < l.length / 2 := by rw [← crows_len]; exact (List.getElem?_eq_some_iff.1 hk).1
    rw [crows_get hlt] at hk
    cases hk
    have h2 := node_p (l.getD (2 * k) []) (l.getD (2 * k + 1) []) false (get_small hx) (get_small hx)
    have hut := up_take (l := l) (j := k) (by omega)
    have hT : ((up l).take k).length = k := by rw [List.length_take]; omega
    have hp : par (l.getD (2 * k) []) (l.getD (2 * k + 1) []) false = nod (l.getD (2 * k) []) (l.getD (2 * k + 1) []) := rfl
    rw [hp] at h2
    simp only [hpA, hut]
    generalize nod (l.getD (2 * k) []) (l.getD (2 * k + 1) []) = z at *
    generalize l.getD (2 * k) [] = p at *
    generalize l.getD (2 * k + 1) [] = q at *
    generalize (up l).take k = T at *
    have hT' := strs_len T
    have hs : strs (T ++ [z]) = strs T ++ [.str z] := by simp
    rw [hs]
    simp only [binds]
    repeat' (first
    | with_reducible first | apply swp_seq | apply swp_reg | apply swp_regD | apply swp_block | apply swp_exit | apply swp_ret | apply swp_skip | apply swp_cd
    | with_reducible apply twp_seq
    | with_reducible apply twp_block
    | ((with_reducible refine twp_reg ?hb ?_); (case hb => exact fun _ _ => trivial); with_reducible intro _)
    | ((with_reducible refine twp_regD ?hb ?_); (case hb => exact fun _ _ => trivial); with_reducible intro _)
    | ((with_reducible refine twp_cond ?hb ?_); (case hb => exact fun _ _ => trivial); with_reducible intro _)
    | ((with_reducible refine twp_ret ?hb ?_); (case hb => exact fun _ _ => trivial))
    | simp only [go_sem, Nat.reduceAdd, Nat.reduceSub, Nat.reduceMul, Nat.reduceEqDiff, Nat.reduceLeDiff, Nat.reduceLT, Int.reduceEq, Int.reduceNe, Int.reduceLT, Int.reduceLE, Int.reduceAdd, Int.reduceSub, Int.reduceMul, Int.reduceNeg, Int.reduceToNat, Int.reduceTDiv, Int.reduceTMod, Int.reduceBEq, Int.reduceBNe, decide_true, decide_false, reduceCtorEq, reduceIte, P27, q27]
    | simp (disch := omega) only [w64, w32, wu8, wu16, wu32, wu64]
    | ((with_reducible first | refine o_call (h2) ?he ?hc ?_ | refine p_call (h2) ?he ?hc ?_ | refine c_call (h2) ?he ?hc ?_); (case he | hc => first | rfl | (simp [D.erL, D.er, D.closedL, D.closed, hT', hT]; done)))
    | ((with_reducible apply s_appT); (case he => rfl); (case hK | hc | hr | hV => first | rfl | assumption | omega | ((first | refine ⟨?_, ?_⟩ | skip) <;> first | omega | (simp only [lN1, lN2, lN3, lN4, lN5, lN6, lN7, hT', hT] <;> omega)) | (simp [elemsK, D.isVal, D.cells, D.closedL, D.closed, hT', hT]; first | done | omega)))
    | ((with_reducible apply s_appG); (case he => rfl); (case hV | hK | hr | hl => first | rfl | assumption | omega | ((first | refine ⟨?_, ?_⟩ | skip) <;> first | omega | (simp only [lN1, lN2, lN3, lN4, lN5, lN6, lN7, hT', hT] <;> omega)) | (simp [elemsK, D.isVal, D.cells, D.closedL, D.closed, hT', hT]; first | done | omega)))
    | ((with_reducible apply s_app0); (case he => rfl); (case hK | hc | hr => first | rfl | assumption | omega | ((first | refine ⟨?_, ?_⟩ | skip) <;> first | omega | (simp only [lN1, lN2, lN3, lN4, lN5, lN6, lN7, hT', hT] <;> omega)) | (simp [elemsK, D.isVal, D.cells, D.closedL, D.closed, hT', hT]; first | done | omega)))
    | ((with_reducible apply s_appF); (case he => rfl); (case hK | hc | hr | hx | hn => first | rfl | assumption | omega | ((first | refine ⟨?_, ?_⟩ | skip) <;> first | omega | (simp only [lN1, lN2, lN3, lN4, lN5, lN6, lN7, hT', hT] <;> omega)) | (simp [elemsK, D.isVal, D.cells, D.closedL, D.closed, hT', hT]; first | done | omega)))
    | ((with_reducible first | apply s_bsl | apply t_bsl); (case he | hl | hc => first | rfl | assumption | omega | ((first | refine ⟨?_, ?_⟩ | skip) <;> first | omega | (simp only [lN1, lN2, lN3, lN4, lN5, lN6, lN7, hT', hT] <;> omega)) | (simp [elemsK, D.isVal, D.cells, D.closedL, D.closed, hT', hT]; first | done | omega)))
    | with_reducible first | apply cd_dec | apply cd_eq | apply cd_ne | apply cd_split
    | ((with_reducible refine And.intro ?hw ?_); (case hw => first | omega | rfl | exact ⟨_, _, rfl⟩ | assumption | (simp only [lN1, lN2, lN3, lN4, lN5, lN6, lN7, hT', hT] <;> omega)))
    | with_reducible intro _)
    all_goals try omega
    exact ⟨_, weak_refl, by simp [hT', hT]⟩
  · have hh : hpA l (crows l).length = ⟨[.cells [.slice (strs (up l)) (.tok 0)]], [.per 1 (l.length / 2)]⟩ := by
      rw [crows_len]
      unfold hpA
      rw [List.take_of_length_le (by omega)]
    rw [hh]
    simp only []
    have hcl := closed_strs (up l)
    have her := erL_strs (up l)
    generalize strs (up l) = L at *
    repeat' (first
    | with_reducible first | apply swp_seq | apply swp_reg | apply swp_regD | apply swp_block | apply swp_exit | apply swp_ret | apply swp_skip | apply swp_cd
    | with_reducible apply twp_seq
    | with_reducible apply twp_block
    | ((with_reducible refine twp_reg ?hb ?_); (case hb => exact fun _ _ => trivial); with_reducible intro _)
    | ((with_reducible refine twp_regD ?hb ?_); (case hb => exact fun _ _ => trivial); with_reducible intro _)
    | ((with_reducible refine twp_cond ?hb ?_); (case hb => exact fun _ _ => trivial); with_reducible intro _)
    | ((with_reducible refine twp_ret ?hb ?_); (case hb => exact fun _ _ => trivial))
    | simp only [go_sem, Nat.reduceAdd, Nat.reduceSub, Nat.reduceMul, Nat.reduceEqDiff, Nat.reduceLeDiff, Nat.reduceLT, Int.reduceEq, Int.reduceNe, Int.reduceLT, Int.reduceLE, Int.reduceAdd, Int.reduceSub, Int.reduceMul, Int.reduceNeg, Int.reduceToNat, Int.reduceTDiv, Int.reduceTMod, Int.reduceBEq, Int.reduceBNe, decide_true, decide_false, reduceCtorEq, reduceIte, P27, q27]
    | simp (disch := omega) only [w64, w32, wu8, wu16, wu32, wu64]
    | ((with_reducible apply s_appT); (case he => rfl); (case hK | hc | hr | hV => first | rfl | assumption | omega | ((first | refine ⟨?_, ?_⟩ | skip) <;> first | omega | (simp only [lN1, lN2, lN3, lN4, lN5, lN6, lN7] <;> omega)) | (simp [elemsK, D.isVal, D.cells, D.closedL, D.closed]; first | done | omega)))
    | ((with_reducible apply s_appG); (case he => rfl); (case hV | hK | hr | hl => first | rfl | assumption | omega | ((first | refine ⟨?_, ?_⟩ | skip) <;> first | omega | (simp only [lN1, lN2, lN3, lN4, lN5, lN6, lN7] <;> omega)) | (simp [elemsK, D.isVal, D.cells, D.closedL, D.closed]; first | done | omega)))
    | ((with_reducible apply s_app0); (case he => rfl); (case hK | hc | hr => first | rfl | assumption | omega | ((first | refine ⟨?_, ?_⟩ | skip) <;> first | omega | (simp only [lN1, lN2, lN3, lN4, lN5, lN6, lN7] <;> omega)) | (simp [elemsK, D.isVal, D.cells, D.closedL, D.closed]; first | done | omega)))
    | ((with_reducible apply s_appF); (case he => rfl); (case hK | hc | hr | hx | hn => first | rfl | assumption | omega | ((first | refine ⟨?_, ?_⟩ | skip) <;> first | omega | (simp only [lN1, lN2, lN3, lN4, lN5, lN6, lN7] <;> omega)) | (simp [elemsK, D.isVal, D.cells, D.closedL, D.closed]; first | done | omega)))
    | ((with_reducible first | apply s_bsl | apply t_bsl); (case he | hl | hc => first | rfl | assumption | omega | ((first | refine ⟨?_, ?_⟩ | skip) <;> first | omega | (simp only [lN1, lN2, lN3, lN4, lN5, lN6, lN7] <;> omega)) | (simp [elemsK, D.isVal, D.cells, D.closedL, D.closed]; first | done | omega)))
    | with_reducible first | apply cd_dec | apply cd_eq | apply cd_ne | apply cd_split
    | ((with_reducible refine And.intro ?hw ?_); (case hw => first | omega | rfl | exact ⟨_, _, rfl⟩ | assumption | (simp only [lN1, lN2, lN3, lN4, lN5, lN6, lN7] <;> omega)))
    | with_reducible intro _)
    refine ⟨_, fun _ => weak_refl, ?_⟩
    simp [D.closed, D.er, hcl, her]
end Go.Proofs.YtgjkhlnpplajjaaDoor
end
section
set_option linter.unusedSimpArgs false
set_option linter.unusedVariables false
namespace Go.Proofs.YtgjkhlnpplajjaaDoor
open Go GoV
def Inj (S : List UInt8 → Prop) : Prop := ∀ a b, S a → S b → sumN a = sumN b → a = b
theorem chn_back {S : List UInt8 → Prop} (hS : Inj S) : ∀ (e d : Nat) (g s : List UInt8), (∀ j, j < e → S (chn j g)) → (∀ j, j < d + e → S (chn j s)) → chn e g = chn (d + e) s → g = chn d s
  | 0, d, g, s, _, _, h => h
  | e + 1, d, g, s, h1, h2, h => by
    rw [chn_succ, show d + (e + 1) = (d + e) + 1 by omega, chn_succ] at h
    have := hS _ _ (h1 e (by omega)) (h2 (d + e) (by omega)) h
    exact chn_back hS e d g s (fun j hj => h1 j (by omega)) (fun j hj => h2 j (by omega)) this
/-! ### Trees, from above -/

def nodeR (s : List UInt8) : Nat → Nat → List UInt8
  | 0, o => key s o
  | h + 1, o => nod (nodeR s h o) (nodeR s h (o + 2 ^ h))
def pathR (s : List UInt8) : Nat → Nat → Nat → List (List UInt8)
  | 0, _, _ => []
  | h + 1, o, i => pathR s h (if (i / 2 ^ h) % 2 == 1 then o + 2 ^ h else o) (i % 2 ^ h) ++ [nodeR s h (if (i / 2 ^ h) % 2 == 1 then o else o + 2 ^ h)]
def nodeS (s : List UInt8) : Nat → Nat → List UInt8 → Prop
  | 0, o, t => t = keyT s o
  | h + 1, o, t => t = nodT (nodeR s h o) (nodeR s h (o + 2 ^ h)) ∨ nodeS s h o t ∨ nodeS s h (o + 2 ^ h) t
def climbT : List UInt8 → List (List UInt8) → Nat → List (List UInt8)
  | _, [], _ => []
  | a, x :: p, i => (if i % 2 == 1 then nodT x a else nodT a x) :: climbT (par a x (i % 2 == 1)) p (i / 2)
theorem par_sum (a x : List UInt8) (b : Bool) : par a x b = sumN (if b then nodT x a else nodT a x) := by cases b <;> rfl
theorem climb_snoc : ∀ (p : List (List UInt8)) (a x : List UInt8) (i : Nat), climb a (p ++ [x]) i = par (climb a p i) x ((i / 2 ^ p.length) % 2 == 1)
  | [], a, x, i => by simp [climb]
  | y :: p, a, x, i => by
    simp only [List.cons_append, climb, climb_snoc p, List.length_cons]
    rw [Nat.div_div_eq_div_mul, show 2 * 2 ^ p.length = 2 ^ (p.length + 1) by rw [Nat.pow_succ, Nat.mul_comm]]
theorem climbT_snoc : ∀ (p : List (List UInt8)) (a x : List UInt8) (i : Nat), climbT a (p ++ [x]) i = climbT a p i ++ [if (i / 2 ^ p.length) % 2 == 1 then nodT x (climb a p i) else nodT (climb a p i) x]
  | [], a, x, i => by simp [climb, climbT]
  | y :: p, a, x, i => by
    simp only [List.cons_append, climb, climbT, climbT_snoc p, List.length_cons]
    rw [Nat.div_div_eq_div_mul, show 2 * 2 ^ p.length = 2 ^ (p.length + 1) by rw [Nat.pow_succ, Nat.mul_comm]]
theorem mod_half (i n : Nat) : (i % 2 ^ (n + 1)) % 2 = i % 2 ∧ (i % 2 ^ (n + 1)) / 2 = (i / 2) % 2 ^ n := by
  have h : 2 ^ (n + 1) = 2 * 2 ^ n := by rw [Nat.pow_succ, Nat.mul_comm]
  rw [h]
  constructor
  · exact Nat.mod_mul_right_mod i 2 (2 ^ n)
  · exact Nat.mod_mul_right_div_self i 2 (2 ^ n)
theorem climb_low : ∀ (p : List (List UInt8)) (a : List UInt8) (i : Nat), climb a p i = climb a p (i % 2 ^ p.length)
  | [], a, i => rfl
  | y :: p, a, i => by
    obtain ⟨h1, h2⟩ := mod_half i p.length
    simp only [climb, List.length_cons, h1, h2]
    exact climb_low p _ _
theorem climbT_low : ∀ (p : List (List UInt8)) (a : List UInt8) (i : Nat), climbT a p i = climbT a p (i % 2 ^ p.length)
  | [], a, i => rfl
  | y :: p, a, i => by
    obtain ⟨h1, h2⟩ := mod_half i p.length
    simp only [climbT, List.length_cons, h1, h2]
    rw [climbT_low p _ (i / 2)]
theorem nodT_ne {a b : List UInt8} {l : List (List UInt8)} (h : l.length = 18) : nodT a b ≠ joined l := by
  intro e
  have := joined_inj _ _ e
  rw [← this] at h
  simp at h
theorem topdown {S : List UInt8 → Prop} (hS : Inj S) (s : List UInt8) {l : List (List UInt8)} (hl : l.length = 18) (hT : S (joined l)) :
    ∀ (h o : Nat) (p : List (List UInt8)) (i : Nat), (∀ t, nodeS s h o t → S t) → (∀ t ∈ climbT (sumN (joined l)) p i, S t) → i < 2 ^ p.length →
      climb (sumN (joined l)) p i = nodeR s h o → p.length = h ∧ l = ends s (o + i) ∧ p = pathR s h o i
  | 0, o, p, i, h1, h2, hi, he => by
    have hk : S (keyT s o) := h1 _ rfl
    rcases List.eq_nil_or_concat p with rfl | ⟨q, x, rfl⟩
    · have hi0 : i = 0 := by simpa using hi
      subst hi0
      have := hS _ _ hT hk he
      exact ⟨rfl, joined_inj _ _ this, rfl⟩
    · exfalso
      simp only [List.concat_eq_append] at *
      rw [climb_snoc, par_sum] at he
      rw [climbT_snoc] at h2
      have h3 := h2 _ (List.mem_append.2 (.inr (List.mem_singleton.2 rfl)))
      have := hS _ _ h3 hk he
      have he18 : (ends s o).length = 18 := by simp [ends]
      split at this <;> exact nodT_ne he18 this
  | h + 1, o, p, i, h1, h2, hi, he => by
    have hk : S (nodT (nodeR s h o) (nodeR s h (o + 2 ^ h))) := h1 _ (.inl rfl)
    rcases List.eq_nil_or_concat p with rfl | ⟨q, x, rfl⟩
    · exfalso
      exact nodT_ne hl (hS _ _ hk hT he.symm)
    · simp only [List.concat_eq_append] at *
      rw [climb_snoc, par_sum] at he
      rw [climbT_snoc] at h2
      have h3 := h2 _ (List.mem_append.2 (.inr (List.mem_singleton.2 rfl)))
      have h4 := hS _ _ h3 hk he
      have hlen : (q ++ [x]).length = q.length + 1 := by simp
      rw [hlen] at hi ⊢
      have hq : 0 < 2 ^ q.length := Nat.pow_pos (by omega)
      have hp : 2 ^ (q.length + 1) = 2 ^ q.length * 2 := Nat.pow_succ ..
      have hlow : ∀ t ∈ climbT (sumN (joined l)) q (i % 2 ^ q.length), S t := by
        intro t ht
        rw [← climbT_low] at ht
        exact h2 t (List.mem_append.2 (.inl ht))
      have hmod : i % 2 ^ q.length < 2 ^ q.length := Nat.mod_lt _ hq
      have hdm := Nat.div_add_mod i (2 ^ q.length)
      have hd2 : i / 2 ^ q.length < 2 := by rw [Nat.div_lt_iff_lt_mul hq]; omega
      by_cases hb : (i / 2 ^ q.length) % 2 = 1
      · have hb1 : i / 2 ^ q.length = 1 := by
          revert hb hd2; generalize i / 2 ^ q.length = z; intro hb hd2; omega
        have hb' : ((i / 2 ^ q.length) % 2 == 1) = true := by simp [hb]
        rw [if_pos hb'] at h4
        obtain ⟨e1, e2⟩ := nodT_inj h4
        rw [climb_low] at e2
        obtain ⟨r1, r2, r3⟩ := topdown hS s hl hT h (o + 2 ^ h) q (i % 2 ^ q.length) (fun t ht => h1 t (.inr (.inr ht))) hlow hmod e2
        subst r1
        rw [hb1] at hdm
        refine ⟨rfl, by rw [r2]; congr 1; omega, ?_⟩
        simp only [pathR]
        rw [if_pos hb', if_pos hb', ← e1, ← r3]
      · have hb1 : i / 2 ^ q.length = 0 := by
          revert hb hd2; generalize i / 2 ^ q.length = z; intro hb hd2; omega
        have hb' : ¬((i / 2 ^ q.length) % 2 == 1) = true := by simp [hb]
        rw [if_neg hb'] at h4
        obtain ⟨e1, e2⟩ := nodT_inj h4
        rw [climb_low] at e1
        obtain ⟨r1, r2, r3⟩ := topdown hS s hl hT h o q (i % 2 ^ q.length) (fun t ht => h1 t (.inr (.inl ht))) hlow hmod e1
        subst r1
        rw [hb1] at hdm
        refine ⟨rfl, by rw [r2]; congr 1; omega, ?_⟩
        simp only [pathR]
        rw [if_neg hb', if_neg hb', ← e2, ← r3]
theorem range_two (f : Nat → List UInt8) : (List.range 2).map f = [f 0, f 1] := rfl
theorem range_four (f : Nat → List UInt8) : (List.range 4).map f = [f 0, f 1, f 2, f 3] := rfl
theorem pub_R {s : List UInt8} {h : Nat} (hh : h ≤ 2) : pub s h = nodeR s h 0 := by
  unfold pub keys
  have : h = 0 ∨ h = 1 ∨ h = 2 := by omega
  rcases this with rfl | rfl | rfl
  · rw [rootL_one (by simp)]; rfl
  · show rootL ((List.range 2).map (key s)) = _
    rw [range_two, rootL_up (by simp), rootL_one (by simp [up])]
    rfl
  · show rootL ((List.range 4).map (key s)) = _
    rw [range_four, rootL_up (by simp), rootL_up (by simp [up]), rootL_one (by simp [up])]
    rfl
theorem path_R {s : List UInt8} {h i : Nat} (hh : h ≤ 2) (hi : i < 2 ^ h) : pathL (keys s (2 ^ h)) i = pathR s h 0 i := by
  unfold keys
  have : h = 0 ∨ h = 1 ∨ h = 2 := by omega
  rcases this with rfl | rfl | rfl
  · rw [pathL_one (by simp)]; rfl
  · show pathL ((List.range 2).map (key s)) i = _
    rw [range_two, pathL_up (by simp), pathL_one (by simp [up])]
    have : i = 0 ∨ i = 1 := by simp at hi; omega
    rcases this with rfl | rfl <;> simp [pathR, nodeR]
  · show pathL ((List.range 4).map (key s)) i = _
    rw [range_four, pathL_up (by simp), pathL_up (by simp [up]), pathL_one (by simp [up])]
    have : i = 0 ∨ i = 1 ∨ i = 2 ∨ i = 3 := by simp at hi; omega
    rcases this with rfl | rfl | rfl | rfl <;> simp [pathR, nodeR, up]
/-! ### What is digested -/

def chnL (t : List UInt8) (n : Nat) : List (List UInt8) := (List.range (n + 1)).map fun j => chn j t
theorem mem_chnL {t : List UInt8} {n j : Nat} (h : j ≤ n) : chn j t ∈ chnL t n := List.mem_map.2 ⟨j, by simp; omega, rfl⟩
def pairsT : List (List UInt8) → List (List UInt8)
  | a :: b :: l => nodT a b :: pairsT l
  | _ => []
def nodesL (l : List (List UInt8)) : List (List UInt8) := if 1 < l.length then pairsT l ++ nodesL (up l) else []
  termination_by l.length
  decreasing_by rw [up_len]; omega
theorem nodesL_up {l : List (List UInt8)} (h : 1 < l.length) : nodesL l = pairsT l ++ nodesL (up l) := by rw [nodesL, if_pos h]
theorem nodesL_one {l : List (List UInt8)} (h : l.length ≤ 1) : nodesL l = [] := by rw [nodesL, if_neg (by omega)]
def madeK (s : List UInt8) (i n k : Nat) : List (List UInt8) := startT s i k :: chnL (start s i k) n
def madeI (s : List UInt8) (n i : Nat) : List (List UInt8) := ((List.range 18).map (madeK s i n)).flatten ++ [keyT s i]
def made (s : List UInt8) (h n : Nat) : List (List UInt8) := ((List.range (2 ^ h)).map (madeI s n)).flatten ++ nodesL (keys s (2 ^ h))
def checked (m : List UInt8) (x : Seal) : List (List UInt8) :=
  ((List.range 18).map fun k => chnL (x.sig.getD k []) (15 - (dgt m).getD k 0)).flatten ++ [joined (ends' m x.sig)] ++ climbT (sumN (joined (ends' m x.sig))) x.path x.idx.toNat
theorem made_start {s : List UInt8} {h n i k : Nat} (hi : i < 2 ^ h) (hk : k < 18) : startT s i k ∈ made s h n := by
  refine List.mem_append.2 (.inl (List.mem_flatten.2 ⟨madeI s n i, List.mem_map.2 ⟨i, by simpa using hi, rfl⟩, ?_⟩))
  exact List.mem_append.2 (.inl (List.mem_flatten.2 ⟨madeK s i n k, List.mem_map.2 ⟨k, by simpa using hk, rfl⟩, List.mem_cons_self ..⟩))
theorem made_chn {s : List UInt8} {h n i k j : Nat} (hi : i < 2 ^ h) (hk : k < 18) (hj : j ≤ n) : chn j (start s i k) ∈ made s h n := by
  refine List.mem_append.2 (.inl (List.mem_flatten.2 ⟨madeI s n i, List.mem_map.2 ⟨i, by simpa using hi, rfl⟩, ?_⟩))
  exact List.mem_append.2 (.inl (List.mem_flatten.2 ⟨madeK s i n k, List.mem_map.2 ⟨k, by simpa using hk, rfl⟩, List.mem_cons_of_mem _ (mem_chnL hj)⟩))
theorem made_key {s : List UInt8} {h n i : Nat} (hi : i < 2 ^ h) : keyT s i ∈ made s h n := by
  refine List.mem_append.2 (.inl (List.mem_flatten.2 ⟨madeI s n i, List.mem_map.2 ⟨i, by simpa using hi, rfl⟩, ?_⟩))
  exact List.mem_append.2 (.inr (List.mem_singleton.2 rfl))
theorem made_nodes {s : List UInt8} {h n : Nat} (hh : h ≤ 2) : ∀ t, nodeS s h 0 t → t ∈ made s h n := by
  have : h = 0 ∨ h = 1 ∨ h = 2 := by omega
  intro t ht
  have hn : ∀ t, t ∈ nodesL (keys s (2 ^ h)) → t ∈ made s h n := fun t h => List.mem_append.2 (.inr h)
  unfold keys at hn
  rcases this with rfl | rfl | rfl
  · simp only [nodeS] at ht; subst ht; exact made_key (by omega)
  · have e : nodesL ((List.range (2 ^ 1)).map (key s)) = [nodT (key s 0) (key s 1)] := by
      show nodesL ((List.range 2).map (key s)) = _
      rw [range_two, nodesL_up (by simp), nodesL_one (by simp [up])]; rfl
    rw [e] at hn
    simp only [nodeS, nodeR] at ht
    rcases ht with rfl | rfl | rfl
    · exact hn _ (by simp)
    · exact made_key (by omega)
    · exact made_key (by omega)
  · have e : nodesL ((List.range (2 ^ 2)).map (key s)) = [nodT (key s 0) (key s 1), nodT (key s 2) (key s 3), nodT (nod (key s 0) (key s 1)) (nod (key s 2) (key s 3))] := by
      show nodesL ((List.range 4).map (key s)) = _
      rw [range_four, nodesL_up (by simp), nodesL_up (by simp [up]), nodesL_one (by simp [up])]; rfl
    rw [e] at hn
    simp only [nodeS, nodeR] at ht
    rcases ht with rfl | (rfl | rfl | rfl) | (rfl | rfl | rfl)
    · exact hn _ (by simp)
    · exact hn _ (by simp)
    · exact made_key (by omega)
    · exact made_key (by omega)
    · exact hn _ (by simp)
    · exact made_key (by omega)
    · exact made_key (by omega)
theorem checked_chn {m : List UInt8} {x : Seal} {k j : Nat} (hk : k < 18) (hj : j ≤ 15 - (dgt m).getD k 0) : chn j (x.sig.getD k []) ∈ checked m x :=
  List.mem_append.2 (.inl (List.mem_append.2 (.inl (List.mem_flatten.2 ⟨_, List.mem_map.2 ⟨k, by simpa using hk, rfl⟩, mem_chnL hj⟩))))
theorem checked_key {m : List UInt8} {x : Seal} : joined (ends' m x.sig) ∈ checked m x :=
  List.mem_append.2 (.inl (List.mem_append.2 (.inr (List.mem_singleton.2 rfl))))
theorem checked_climb {m : List UInt8} {x : Seal} : ∀ t ∈ climbT (sumN (joined (ends' m x.sig))) x.path x.idx.toNat, t ∈ checked m x := fun t ht => List.mem_append.2 (.inr ht)
/-! ### The laws -/

theorem okS_parts {x : Seal} (h : okS x = true) : x.sig.length = 18 ∧ x.path.length ≤ 8 ∧ (∀ t ∈ x.sig, isD t = true) ∧ (∀ t ∈ x.path, isD t = true) ∧ 0 ≤ x.idx ∧ x.idx < 2 ^ x.path.length := by
  unfold okS at h
  simp only [Bool.and_eq_true, decide_eq_true_eq, List.all_eq_true] at h
  obtain ⟨⟨⟨⟨⟨h1, h2⟩, h3⟩, h4⟩, h5⟩, h6⟩ := h
  exact ⟨h1, h2, h3, h4, h5, h6⟩
theorem map_ext18 {f g : Nat → List UInt8} (h : (List.range 18).map f = (List.range 18).map g) : ∀ k, k < 18 → f k = g k := by
  intro k hk
  have := congrArg (fun l => l[k]?) h
  simpa [hk] using this
theorem sound {S : List UInt8 → Prop} (hS : Inj S) {s m : List UInt8} {h n : Nat} (hh : h ≤ 2) (hn : 15 ≤ n) {x : Seal} (hm : ∀ t ∈ made s h n, S t) (hc : ∀ t ∈ checked m x, S t) (hv : ver (pub s h) m x = true) :
    ∃ i, i < 2 ^ h ∧ x = sgn s h i m := by
  unfold ver at hv
  simp only [Bool.and_eq_true, beq_iff_eq] at hv
  obtain ⟨h1, h2⟩ := hv
  obtain ⟨c1, c2, c3, c4, c5, c6⟩ := okS_parts h1
  have hi : x.idx.toNat < 2 ^ x.path.length := by
    have : ((x.idx.toNat : Nat) : Int) < ((2 ^ x.path.length : Nat) : Int) := by
      rw [Int.toNat_of_nonneg c5]; exact_mod_cast c6
    exact_mod_cast this
  have hl : (ends' m x.sig).length = 18 := by simp [ends']
  rw [pub_R hh] at h2
  obtain ⟨r1, r2, r3⟩ := topdown hS s hl (hc _ checked_key) h 0 x.path x.idx.toNat (fun t ht => hm _ (made_nodes hh t ht)) (fun t ht => hc _ (checked_climb t ht)) hi h2
  rw [Nat.zero_add] at r2
  rw [r1] at hi
  refine ⟨x.idx.toNat, hi, ?_⟩
  have hk : ∀ k, k < 18 → x.sig.getD k [] = chn ((dgt m).getD k 0) (start s x.idx.toNat k) := by
    intro k hk
    have e := map_ext18 r2 k hk
    have hd := dgt_get m k
    refine chn_back hS (15 - (dgt m).getD k 0) _ _ _ (fun j hj => hc _ (checked_chn hk (by omega))) (fun j hj => hm _ (made_chn hi hk (by omega))) ?_
    rw [e, show (dgt m).getD k 0 + (15 - (dgt m).getD k 0) = 15 by omega]
  have hsig : x.sig = (List.range 18).map fun k => chn ((dgt m).getD k 0) (start s x.idx.toNat k) := by
    apply List.ext_getElem
    · simp [c1]
    · intro k hk1 hk2
      have := hk k (by omega)
      simp only [List.getD, List.getElem?_eq_getElem hk1, Option.getD_some] at this
      simp [this]
  obtain ⟨xi, xs, xp⟩ := x
  simp only at hsig r3 c5 hi ⊢
  unfold sgn
  rw [path_R hh hi, ← r3, ← hsig]
  congr 1
  omega
theorem chn_circle {S : List UInt8 → Prop} (hS : Inj S) {s : List UInt8} {i k a b : Nat} (hst : S (startT s i k)) (hc : ∀ j, j ≤ 15 → S (chn j (start s i k))) (ha : a < b) (hb : b ≤ 15)
    (h : chn a (start s i k) = chn b (start s i k)) : False := by
  have h1 := chn_back hS a (b - a) (start s i k) (start s i k) (fun j hj => hc j (by omega)) (fun j hj => hc j (by omega)) (by rw [h]; congr 1; omega)
  obtain ⟨c, hc'⟩ : ∃ c, b - a = c + 1 := ⟨b - a - 1, by omega⟩
  rw [hc', chn_succ] at h1
  have h2 := hS _ _ hst (hc c (by omega)) h1
  cases c with
  | zero => exact joined_sum _ _ _ h2
  | succ c => rw [chn_succ] at h2; exact joined_sum _ _ _ h2
theorem hex_inj : ∀ a b : List UInt8, (∀ c ∈ a, hx c = true) → (∀ c ∈ b, hx c = true) → (a.map fun c => (hxv c).toNat) = (b.map fun c => (hxv c).toNat) → a = b
  | [], [], _, _, _ => rfl
  | [], y :: b, _, _, h => by simp at h
  | x :: a, [], _, _, h => by simp at h
  | x :: a, y :: b, h1, h2, h => by
    simp only [List.map_cons, List.cons.injEq] at h
    have hx := h1 x (List.mem_cons_self ..)
    have hy := h2 y (List.mem_cons_self ..)
    have l1 := hxv_lt hx
    have l2 := hxv_lt hy
    have e := hxv_inj hx hy (by omega)
    rw [e, hex_inj a b (fun z hz => h1 z (List.mem_cons_of_mem _ hz)) (fun z hz => h2 z (List.mem_cons_of_mem _ hz)) h.2]
theorem hexs16_inj {m o : List UInt8} (h : hexs16 m = hexs16 o) : sumN m = sumN o :=
  hex_inj _ _ (List.all_eq_true.1 (sumN_all m)) (List.all_eq_true.1 (sumN_all o)) h
theorem dgt_ne {m o : List UInt8} (h : sumN m ≠ sumN o) : ∃ k, k < 18 ∧ (dgt m).getD k 0 ≠ (dgt o).getD k 0 := by
  by_cases hx : ∃ k, k < 18 ∧ (dgt m).getD k 0 ≠ (dgt o).getD k 0
  · exact hx
  · exfalso
    refine h (hexs16_inj ?_)
    apply List.ext_getElem
    · rw [hexs16_len, hexs16_len]
    · intro k h1 h2
      have h3 : k < 18 := by rw [hexs16_len] at h1; omega
      have : (dgt m).getD k 0 = (dgt o).getD k 0 := by
        by_cases q : (dgt m).getD k 0 = (dgt o).getD k 0
        · exact q
        · exact absurd ⟨k, h3, q⟩ hx
      simpa [dgt, List.getD, List.getElem?_append_left h1, List.getElem?_append_left h2, h1, h2] using this
theorem binds {S : List UInt8 → Prop} (hS : Inj S) {s m o : List UInt8} {h n i : Nat} (hh : h ≤ 2) (hn : 15 ≤ n) (hi : i < 2 ^ h) (hm : ∀ t ∈ made s h n, S t) (hc : ∀ t ∈ checked o (sgn s h i m), S t) (hne : sumN m ≠ sumN o)
    (hv : ver (pub s h) o (sgn s h i m) = true) : False := by
  obtain ⟨j, hj, e⟩ := sound hS hh hn hm hc hv
  have e0 : (i : Int) = (j : Int) := congrArg Seal.idx e
  have : i = j := by omega
  subst this
  have e1 := map_ext18 (f := fun k => chn ((dgt m).getD k 0) (start s i k)) (g := fun k => chn ((dgt o).getD k 0) (start s i k)) (congrArg Seal.sig e)
  obtain ⟨k, hk, hd⟩ := dgt_ne hne
  have h1 := dgt_get m k
  have h2 := dgt_get o k
  have e2 := e1 k hk
  have hst := hm _ (made_start (n := n) hi hk (s := s))
  have hch : ∀ j, j ≤ 15 → S (chn j (start s i k)) := fun j hj => hm _ (made_chn hi hk (by omega))
  rcases Nat.lt_or_gt_of_ne hd with q | q
  · exact chn_circle hS hst hch q (by omega) e2
  · exact chn_circle hS hst hch q (by omega) e2.symm
end Go.Proofs.YtgjkhlnpplajjaaDoor
end
section
set_option maxRecDepth 100000
set_option linter.unusedSimpArgs false
set_option linter.unusedVariables false
namespace Go.Proofs.YtgjkhlnpplajjaaDoor
open Go GoV Go.RowKit
def pubR (s : List UInt8) (h : Int) : List UInt8 × Int := if 0 ≤ h ∧ h ≤ 8 then (pub s h.toNat, 0) else ([], 1)
abbrev pubD (x : List UInt8 × Int) : D := .tup [.str x.1, .int .i64 x.2]
theorem keys_small (s : List UInt8) (n : Nat) : ∀ x ∈ keys s n, x.length ≤ 1000 := by
  intro x hx
  obtain ⟨i, _, rfl⟩ := List.mem_map.1 hx
  unfold key
  rw [sumN_len]
  omega
theorem rpublic_p (s : List UInt8) (h : Int) (hs : s.length ≤ 300) : Pur M 14 [.str s, .int .i64 h] (pubD (pubR s h)) := by
  refine ok14 rfl ?_
  rw [i14]
  unfold c14
  unfold pubR
  by_cases hh : 0 ≤ h ∧ h ≤ 8
  · rw [if_pos hh]
    obtain ⟨h0, h8⟩ := hh
    obtain ⟨n, rfl⟩ : ∃ n : Nat, h = n := ⟨h.toNat, by omega⟩
    have e1 : decide ((n : Int) < 0) = false := decide_eq_false (by omega)
    have e2 : decide (8 < (n : Int)) = false := decide_eq_false (by omega)
    have e3 : ((n : Nat) : Int).toNat = n := Int.toNat_natCast n
    rw [e3]
    have h1 := rkeys_p s n hs (by omega)
    have h2 := rroot_p n (keys s (2 ^ n)) (by omega) (keys_len _ _) (keys_small _ _)
    unfold pub
    generalize keys s (2 ^ n) = l at *
    have he := erL_strs l
    repeat' (first
    | with_reducible first | apply swp_seq | apply swp_reg | apply swp_regD | apply swp_block | apply swp_exit | apply swp_ret | apply swp_skip | apply swp_cd
    | simp only [go_sem, Nat.reduceAdd, Nat.reduceSub, Nat.reduceMul, Nat.reduceEqDiff, Nat.reduceLeDiff, Nat.reduceLT, Int.reduceEq, Int.reduceNe, Int.reduceLT, Int.reduceLE, Int.reduceAdd, Int.reduceSub, Int.reduceMul, Int.reduceNeg, Int.reduceToNat, Int.reduceTDiv, Int.reduceTMod, Int.reduceBEq, Int.reduceBNe, decide_true, decide_false, reduceCtorEq, reduceIte, P14, q14, e1, e2]
    | simp (disch := omega) only [w64, w32, wu8, wu16, wu32, wu64]
    | ((with_reducible refine o_call (h1) ?he ?hc ?_); (case he | hc => first | rfl | (simp [D.erL, D.er, D.closedL, D.closed]; done)))
    | ((with_reducible refine o_call (h2) ?he ?hc ?_); (case he | hc => first | rfl | (simp [D.erL, D.er, D.closedL, D.closed]; done)))
    | with_reducible first | apply cd_dec | apply cd_eq | apply cd_ne | apply cd_split | apply gd_dec | apply gd_eq | apply gd_ne | apply gd_split
    | ((with_reducible refine And.intro ?hw ?_); (case hw => first | omega | rfl | exact ⟨_, _, rfl⟩ | assumption | (simp only [lN1, lN2, lN3, lN4, lN5, lN6, lN7] <;> omega)))
    | with_reducible intro _)
    all_goals first
      | omega
      | (simp [D.closed, D.closedL, D.er, D.erL]; done)
  · rw [if_neg hh]
    by_cases hn : h < 0
    · have e1 : decide (h < 0) = true := decide_eq_true hn
      repeat' (first
    | with_reducible first | apply swp_seq | apply swp_reg | apply swp_regD | apply swp_block | apply swp_exit | apply swp_ret | apply swp_skip | apply swp_cd
    | simp only [go_sem, Nat.reduceAdd, Nat.reduceSub, Nat.reduceMul, Nat.reduceEqDiff, Nat.reduceLeDiff, Nat.reduceLT, Int.reduceEq, Int.reduceNe, Int.reduceLT, Int.reduceLE, Int.reduceAdd, Int.reduceSub, Int.reduceMul, Int.reduceNeg, Int.reduceToNat, Int.reduceTDiv, Int.reduceTMod, Int.reduceBEq, Int.reduceBNe, decide_true, decide_false, reduceCtorEq, reduceIte, P14, q14, e1]
    | simp (disch := omega) only [w64, w32, wu8, wu16, wu32, wu64]
    | with_reducible first | apply cd_dec | apply cd_eq | apply cd_ne | apply cd_split | apply gd_dec | apply gd_eq | apply gd_ne | apply gd_split
    | ((with_reducible refine And.intro ?hw ?_); (case hw => first | omega | rfl | exact ⟨_, _, rfl⟩ | assumption | (simp only [lN1, lN2, lN3, lN4, lN5, lN6, lN7] <;> omega)))
    | with_reducible intro _)
      all_goals first
        | omega
        | (simp [D.closed, D.closedL, D.er, D.erL]; done)
    · have e1 : decide (h < 0) = false := decide_eq_false hn
      have e2 : decide (8 < h) = true := decide_eq_true (by omega)
      repeat' (first
    | with_reducible first | apply swp_seq | apply swp_reg | apply swp_regD | apply swp_block | apply swp_exit | apply swp_ret | apply swp_skip | apply swp_cd
    | simp only [go_sem, Nat.reduceAdd, Nat.reduceSub, Nat.reduceMul, Nat.reduceEqDiff, Nat.reduceLeDiff, Nat.reduceLT, Int.reduceEq, Int.reduceNe, Int.reduceLT, Int.reduceLE, Int.reduceAdd, Int.reduceSub, Int.reduceMul, Int.reduceNeg, Int.reduceToNat, Int.reduceTDiv, Int.reduceTMod, Int.reduceBEq, Int.reduceBNe, decide_true, decide_false, reduceCtorEq, reduceIte, P14, q14, e1, e2]
    | simp (disch := omega) only [w64, w32, wu8, wu16, wu32, wu64]
    | with_reducible first | apply cd_dec | apply cd_eq | apply cd_ne | apply cd_split | apply gd_dec | apply gd_eq | apply gd_ne | apply gd_split
    | ((with_reducible refine And.intro ?hw ?_); (case hw => first | omega | rfl | exact ⟨_, _, rfl⟩ | assumption | (simp only [lN1, lN2, lN3, lN4, lN5, lN6, lN7] <;> omega)))
    | with_reducible intro _)
      all_goals first
        | omega
        | (simp [D.closed, D.closedL, D.er, D.erL]; done)
set_option maxHeartbeats 1000000 in
theorem public_p (s : List UInt8) (h : Int) (hs : s.length ≤ 300) : Pur M 13 [.str s, .int .i64 h] (pubD (pubR s h)) := by
  refine ok13 rfl ?_
  rw [i13]
  unfold c13
  unfold pubR
  by_cases hh : 0 ≤ h ∧ h ≤ 8
  · rw [if_pos hh]
    obtain ⟨h0, h8⟩ := hh
    obtain ⟨n, rfl⟩ : ∃ n : Nat, h = n := ⟨h.toNat, by omega⟩
    have e1 : decide ((n : Int) < 0) = false := decide_eq_false (by omega)
    have e2 : decide (8 < (n : Int)) = false := decide_eq_false (by omega)
    have e3 : ((n : Nat) : Int).toNat = n := Int.toNat_natCast n
    rw [e3]
    have h1 := keys_p s n hs (by omega)
    have hl := keys_len s (2 ^ n)
    have hx := keys_small s (2 ^ n)
    unfold pub
    generalize keys s (2 ^ n) = l at *
    have hn : n ≤ 8 := by omega
    clear h0 h8
    repeat' (first
    | with_reducible first | apply swp_seq | apply swp_reg | apply swp_regD | apply swp_block | apply swp_exit | apply swp_ret | apply swp_skip | apply swp_cd
    | simp only [go_sem, Nat.reduceAdd, Nat.reduceSub, Nat.reduceMul, Nat.reduceEqDiff, Nat.reduceLeDiff, Nat.reduceLT, Int.reduceEq, Int.reduceNe, Int.reduceLT, Int.reduceLE, Int.reduceAdd, Int.reduceSub, Int.reduceMul, Int.reduceNeg, Int.reduceToNat, Int.reduceTDiv, Int.reduceTMod, Int.reduceBEq, Int.reduceBNe, decide_true, decide_false, reduceCtorEq, reduceIte, P13, q13, e1, e2]
    | simp (disch := omega) only [w64, w32, wu8, wu16, wu32, wu64]
    | ((with_reducible refine o_call (h1) ?he ?hc ?_); (case he | hc => first | rfl | (simp [D.erL, D.er, D.closedL, D.closed]; done)))
    | with_reducible first | apply cd_dec | apply cd_eq | apply cd_ne | apply cd_split | apply gd_dec | apply gd_eq | apply gd_ne | apply gd_split
    | ((with_reducible refine And.intro ?hw ?_); (case hw => first | omega | rfl | exact ⟨_, _, rfl⟩ | assumption | (simp only [lN1, lN2, lN3, lN4, lN5, lN6, lN7] <;> omega)))
    | with_reducible intro _)
    all_goals try omega
    refine swp_fam [0, 1, 2, 3, 4] (fun p : Nat × List (List UInt8) => ⟨[.str s, .int .i64 (n : Nat), .str [], .int .i64 0, .slice (strs p.2) .no, .undef, .undef], [], ⟨[], []⟩⟩)
      (fun p => p.1 ≤ 8 ∧ p.2.length = 2 ^ p.1 ∧ (∀ x ∈ p.2, x.length ≤ 1000) ∧ rootL p.2 = rootL l) (fun p => p.1) (n, l) ⟨hn, hl, hx, rfl⟩ ?_ ?_
    · simp [keepE, St.keep]
    · rintro ⟨k, u⟩ ⟨g0, g1, g2, g3⟩
      simp only at g0 g1 g2 g3 ⊢
      have hul : (strs u).length = u.length := strs_len u
      have hp : 2 ^ k ≤ 2 ^ 8 := Nat.pow_le_pow_right (by omega) g0
      have h4 : (2 : Nat) ^ 8 = 256 := by decide
      rw [h4] at hp
      rcases k with _ | k
      · have hu1 : u.length = 1 := by simpa using g1
        have hg := strs_get (l := u) (i := 0) (by omega)
        have hr := rootL_one (l := u) (by omega)
        rw [← g3, hr]
        have t1 : (0 : Int).toNat = 0 := rfl
        generalize u.getD 0 [] = x at *
        repeat' (first
    | with_reducible first | apply swp_seq | apply swp_reg | apply swp_regD | apply swp_block | apply swp_exit | apply swp_ret | apply swp_skip | apply swp_cd
    | simp only [go_sem, Nat.reduceAdd, Nat.reduceSub, Nat.reduceMul, Nat.reduceEqDiff, Nat.reduceLeDiff, Nat.reduceLT, Int.reduceEq, Int.reduceNe, Int.reduceLT, Int.reduceLE, Int.reduceAdd, Int.reduceSub, Int.reduceMul, Int.reduceNeg, Int.reduceToNat, Int.reduceTDiv, Int.reduceTMod, Int.reduceBEq, Int.reduceBNe, decide_true, decide_false, reduceCtorEq, reduceIte, P13, q13, hul, t1, hg]
    | simp (disch := omega) only [w64, w32, wu8, wu16, wu32, wu64]
    | with_reducible first | apply cd_dec | apply cd_eq | apply cd_ne | apply cd_split | apply gd_dec | apply gd_eq | apply gd_ne | apply gd_split
    | ((with_reducible refine And.intro ?hw ?_); (case hw => first | omega | rfl | exact ⟨_, _, rfl⟩ | assumption | (simp only [lN1, lN2, lN3, lN4, lN5, lN6, lN7, hul] <;> omega)))
    | with_reducible intro _)
        all_goals first
          | omega
          | (simp [D.closed, D.er]; done)
      · have h2 : 2 ^ (k + 1) = 2 * 2 ^ k := by rw [Nat.pow_succ, Nat.mul_comm]
        have hp2 : 0 < 2 ^ k := Nat.pow_pos (by omega)
        have h3 := above_p u (by omega) (by omega) g2
        have hr := rootL_up (l := u) (by omega)
        have hle := up_len u
        repeat' (first
    | with_reducible first | apply swp_seq | apply swp_reg | apply swp_regD | apply swp_block | apply swp_exit | apply swp_ret | apply swp_skip | apply swp_cd
    | simp only [go_sem, Nat.reduceAdd, Nat.reduceSub, Nat.reduceMul, Nat.reduceEqDiff, Nat.reduceLeDiff, Nat.reduceLT, Int.reduceEq, Int.reduceNe, Int.reduceLT, Int.reduceLE, Int.reduceAdd, Int.reduceSub, Int.reduceMul, Int.reduceNeg, Int.reduceToNat, Int.reduceTDiv, Int.reduceTMod, Int.reduceBEq, Int.reduceBNe, decide_true, decide_false, reduceCtorEq, reduceIte, P13, q13, hul]
    | simp (disch := omega) only [w64, w32, wu8, wu16, wu32, wu64]
    | ((with_reducible refine o_call (h3) ?he ?hc ?_); (case he | hc => first | rfl | (simp [D.erL, D.er, D.closedL, D.closed, hul]; done)))
    | with_reducible first | apply cd_dec | apply cd_eq | apply cd_ne | apply cd_split | apply gd_dec | apply gd_eq | apply gd_ne | apply gd_split
    | ((with_reducible refine And.intro ?hw ?_); (case hw => first | omega | rfl | exact ⟨_, _, rfl⟩ | assumption | (simp only [lN1, lN2, lN3, lN4, lN5, lN6, lN7, hul] <;> omega)))
    | with_reducible intro _)
        all_goals try omega
        refine ⟨(k, up u), ⟨by simp only; omega, by simp only; omega, up_small u, by simp only; rw [← g3, hr]⟩, by simp only; omega, ?_⟩
        simp [keepE, St.keep]
  · rw [if_neg hh]
    by_cases hn : h < 0
    · have e1 : decide (h < 0) = true := decide_eq_true hn
      repeat' (first
    | with_reducible first | apply swp_seq | apply swp_reg | apply swp_regD | apply swp_block | apply swp_exit | apply swp_ret | apply swp_skip | apply swp_cd
    | simp only [go_sem, Nat.reduceAdd, Nat.reduceSub, Nat.reduceMul, Nat.reduceEqDiff, Nat.reduceLeDiff, Nat.reduceLT, Int.reduceEq, Int.reduceNe, Int.reduceLT, Int.reduceLE, Int.reduceAdd, Int.reduceSub, Int.reduceMul, Int.reduceNeg, Int.reduceToNat, Int.reduceTDiv, Int.reduceTMod, Int.reduceBEq, Int.reduceBNe, decide_true, decide_false, reduceCtorEq, reduceIte, P13, q13, e1]
    | simp (disch := omega) only [w64, w32, wu8, wu16, wu32, wu64]
    | with_reducible first | apply cd_dec | apply cd_eq | apply cd_ne | apply cd_split | apply gd_dec | apply gd_eq | apply gd_ne | apply gd_split
    | ((with_reducible refine And.intro ?hw ?_); (case hw => first | omega | rfl | exact ⟨_, _, rfl⟩ | assumption | (simp only [lN1, lN2, lN3, lN4, lN5, lN6, lN7] <;> omega)))
    | with_reducible intro _)
      all_goals first
        | omega
        | (simp [D.closed, D.closedL, D.er, D.erL]; done)
    · have e1 : decide (h < 0) = false := decide_eq_false hn
      have e2 : decide (8 < h) = true := decide_eq_true (by omega)
      repeat' (first
    | with_reducible first | apply swp_seq | apply swp_reg | apply swp_regD | apply swp_block | apply swp_exit | apply swp_ret | apply swp_skip | apply swp_cd
    | simp only [go_sem, Nat.reduceAdd, Nat.reduceSub, Nat.reduceMul, Nat.reduceEqDiff, Nat.reduceLeDiff, Nat.reduceLT, Int.reduceEq, Int.reduceNe, Int.reduceLT, Int.reduceLE, Int.reduceAdd, Int.reduceSub, Int.reduceMul, Int.reduceNeg, Int.reduceToNat, Int.reduceTDiv, Int.reduceTMod, Int.reduceBEq, Int.reduceBNe, decide_true, decide_false, reduceCtorEq, reduceIte, P13, q13, e1, e2]
    | simp (disch := omega) only [w64, w32, wu8, wu16, wu32, wu64]
    | with_reducible first | apply cd_dec | apply cd_eq | apply cd_ne | apply cd_split | apply gd_dec | apply gd_eq | apply gd_ne | apply gd_split
    | ((with_reducible refine And.intro ?hw ?_); (case hw => first | omega | rfl | exact ⟨_, _, rfl⟩ | assumption | (simp only [lN1, lN2, lN3, lN4, lN5, lN6, lN7] <;> omega)))
    | with_reducible intro _)
      all_goals first
        | omega
        | (simp [D.closed, D.closedL, D.er, D.erL]; done)
theorem short_p (l : List (List UInt8)) (hl : l.length ≤ 1000) : Pur M 11 [.slice (strs l) .no] (.bool (l.all fun x => decide (x.length ≤ 300))) := by
  refine ok11 rfl ?_
  rw [i11]
  unfold c11
  repeat' (first
    | with_reducible first | apply swp_seq | apply swp_reg | apply swp_regD | apply swp_block | apply swp_exit | apply swp_ret | apply swp_skip | apply swp_cd
    | simp only [go_sem, Nat.reduceAdd, Nat.reduceSub, Nat.reduceMul, Nat.reduceEqDiff, Nat.reduceLeDiff, Nat.reduceLT, Int.reduceEq, Int.reduceNe, Int.reduceLT, Int.reduceLE, Int.reduceAdd, Int.reduceSub, Int.reduceMul, Int.reduceNeg, Int.reduceToNat, Int.reduceTDiv, Int.reduceTMod, Int.reduceBEq, Int.reduceBNe, decide_true, decide_false, reduceCtorEq, reduceIte, P11, q11]
    | simp (disch := omega) only [w64, w32, wu8, wu16, wu32, wu64]
    | with_reducible first | apply cd_dec | apply cd_eq | apply cd_ne | apply cd_split
    | ((with_reducible refine And.intro ?hw ?_); (case hw => first | omega | rfl | exact ⟨_, _, rfl⟩ | assumption | (simp only [lN1, lN2, lN3, lN4, lN5, lN6, lN7] <;> omega)))
    | with_reducible intro _)
  refine swp_fam [0, 1, 2] (fun j : Nat => ⟨[.slice (strs l) .no, .bool false, .int .i64 j, .undef, .undef], [], ⟨[], []⟩⟩)
    (fun j => j ≤ l.length ∧ (l.take j).all (fun x => decide (x.length ≤ 300)) = true) (fun j => l.length - j) 0 ⟨by omega, rfl⟩ ?_ ?_
  · simp [keepE, St.keep]
  · rintro j ⟨g0, g1⟩
    have hsl := strs_len l
    by_cases hlt : j < l.length
    · have hg := strs_get hlt
      have t1 : ((j : Nat) : Int).toNat = j := Int.toNat_natCast j
      have htk : l.take (j + 1) = l.take j ++ [l.getD j []] := by
        rw [List.take_succ_eq_append_getElem hlt]; simp [List.getD, hlt]
      have hmem : l.getD j [] ∈ l := by simp [List.getD, hlt]
      by_cases hb : (l.getD j []).length ≤ 300
      · have e1 : decide (300 < ((l.getD j []).length : Int)) = false := decide_eq_false (by omega)
        generalize l.getD j [] = x at *
        generalize strs l = L at *
        repeat' (first
    | with_reducible first | apply swp_seq | apply swp_reg | apply swp_regD | apply swp_block | apply swp_exit | apply swp_ret | apply swp_skip | apply swp_cd
    | simp only [go_sem, Nat.reduceAdd, Nat.reduceSub, Nat.reduceMul, Nat.reduceEqDiff, Nat.reduceLeDiff, Nat.reduceLT, Int.reduceEq, Int.reduceNe, Int.reduceLT, Int.reduceLE, Int.reduceAdd, Int.reduceSub, Int.reduceMul, Int.reduceNeg, Int.reduceToNat, Int.reduceTDiv, Int.reduceTMod, Int.reduceBEq, Int.reduceBNe, decide_true, decide_false, reduceCtorEq, reduceIte, P11, q11, hsl, hg, t1, e1]
    | simp (disch := omega) only [w64, w32, wu8, wu16, wu32, wu64]
    | with_reducible first | apply cd_dec | apply cd_eq | apply cd_ne | apply cd_split
    | ((with_reducible refine And.intro ?hw ?_); (case hw => first | omega | rfl | exact ⟨_, _, rfl⟩ | assumption | (simp only [lN1, lN2, lN3, lN4, lN5, lN6, lN7, hsl] <;> omega)))
    | with_reducible intro _)
        all_goals try omega
        refine ⟨j + 1, ⟨by omega, by rw [htk, List.all_append, g1]; simp [hb]⟩, by omega, ?_⟩
        simp [keepE, St.keep]
      · have e1 : decide (300 < ((l.getD j []).length : Int)) = true := decide_eq_true (by omega)
        have hf : l.all (fun x => decide (x.length ≤ 300)) = false := by
          rw [List.all_eq_false]
          exact ⟨_, hmem, fun q => hb (of_decide_eq_true q)⟩
        rw [hf]
        generalize l.getD j [] = x at *
        generalize strs l = L at *
        repeat' (first
    | with_reducible first | apply swp_seq | apply swp_reg | apply swp_regD | apply swp_block | apply swp_exit | apply swp_ret | apply swp_skip | apply swp_cd
    | simp only [go_sem, Nat.reduceAdd, Nat.reduceSub, Nat.reduceMul, Nat.reduceEqDiff, Nat.reduceLeDiff, Nat.reduceLT, Int.reduceEq, Int.reduceNe, Int.reduceLT, Int.reduceLE, Int.reduceAdd, Int.reduceSub, Int.reduceMul, Int.reduceNeg, Int.reduceToNat, Int.reduceTDiv, Int.reduceTMod, Int.reduceBEq, Int.reduceBNe, decide_true, decide_false, reduceCtorEq, reduceIte, P11, q11, hsl, hg, t1, e1]
    | simp (disch := omega) only [w64, w32, wu8, wu16, wu32, wu64]
    | with_reducible first | apply cd_dec | apply cd_eq | apply cd_ne | apply cd_split
    | ((with_reducible refine And.intro ?hw ?_); (case hw => first | omega | rfl | exact ⟨_, _, rfl⟩ | assumption | (simp only [lN1, lN2, lN3, lN4, lN5, lN6, lN7, hsl] <;> omega)))
    | with_reducible intro _)
        all_goals first
          | omega
          | (simp [D.closed, D.er]; done)
    · have e : j = l.length := by omega
      subst e
      rw [List.take_length] at g1
      rw [g1]
      generalize strs l = L at *
      repeat' (first
    | with_reducible first | apply swp_seq | apply swp_reg | apply swp_regD | apply swp_block | apply swp_exit | apply swp_ret | apply swp_skip | apply swp_cd
    | simp only [go_sem, Nat.reduceAdd, Nat.reduceSub, Nat.reduceMul, Nat.reduceEqDiff, Nat.reduceLeDiff, Nat.reduceLT, Int.reduceEq, Int.reduceNe, Int.reduceLT, Int.reduceLE, Int.reduceAdd, Int.reduceSub, Int.reduceMul, Int.reduceNeg, Int.reduceToNat, Int.reduceTDiv, Int.reduceTMod, Int.reduceBEq, Int.reduceBNe, decide_true, decide_false, reduceCtorEq, reduceIte, P11, q11, hsl]
    | simp (disch := omega) only [w64, w32, wu8, wu16, wu32, wu64]
    | with_reducible first | apply cd_dec | apply cd_eq | apply cd_ne | apply cd_split
    | ((with_reducible refine And.intro ?hw ?_); (case hw => first | omega | rfl | exact ⟨_, _, rfl⟩ | assumption | (simp only [lN1, lN2, lN3, lN4, lN5, lN6, lN7, hsl] <;> omega)))
    | with_reducible intro _)
      all_goals first
        | omega
        | (simp [D.closed, D.er]; done)
theorem notis_p (s : List UInt8) (hs : s.length ≤ 1000) : Pur M 40 [.str s] (.bool (!isD s)) := by
  refine ok40 rfl ?_
  rw [i40]
  unfold c40
  have h1 := is_p s (by omega)
  repeat' (first
    | with_reducible first | apply swp_seq | apply swp_reg | apply swp_regD | apply swp_block | apply swp_exit | apply swp_ret | apply swp_skip | apply swp_cd
    | simp only [go_sem, Nat.reduceAdd, Nat.reduceSub, Nat.reduceMul, Nat.reduceEqDiff, Nat.reduceLeDiff, Nat.reduceLT, Int.reduceEq, Int.reduceNe, Int.reduceLT, Int.reduceLE, Int.reduceAdd, Int.reduceSub, Int.reduceMul, Int.reduceNeg, Int.reduceToNat, Int.reduceTDiv, Int.reduceTMod, Int.reduceBEq, Int.reduceBNe, decide_true, decide_false, reduceCtorEq, reduceIte, P40, q40]
    | simp (disch := omega) only [w64, w32, wu8, wu16, wu32, wu64]
    | ((with_reducible refine o_call (h1) ?he ?hc ?_); (case he | hc => first | rfl | (simp [D.erL, D.er, D.closedL, D.closed]; done)))
    | with_reducible first | apply cd_dec | apply cd_eq | apply cd_ne | apply cd_split
    | ((with_reducible refine And.intro ?hw ?_); (case hw => first | omega | rfl | exact ⟨_, _, rfl⟩ | assumption | (simp only [lN1, lN2, lN3, lN4, lN5, lN6, lN7] <;> omega)))
    | with_reducible intro _)
  all_goals first
    | omega
    | (simp [D.closed, D.er]; done)
def idxN : List (List UInt8) → Nat → Int
  | [], _ => -1
  | x :: l, i => if isD x then idxN l (i + 1) else i
theorem idxN_all : ∀ (l : List (List UInt8)) (i : Nat), decide (0 ≤ idxN l i) = !(l.all isD)
  | [], i => by simp [idxN]
  | x :: l, i => by
    by_cases h : isD x = true
    · have e1 : idxN (x :: l) i = idxN l (i + 1) := by simp [idxN, h]
      simp only [e1, List.all_cons, h, Bool.true_and]
      exact idxN_all l (i + 1)
    · have e1 : idxN (x :: l) i = (i : Int) := by simp [idxN, h]
      simp [e1, h]
theorem idxN_drop {l : List (List UInt8)} {j : Nat} (h : j < l.length) : idxN (l.drop j) j = if isD (l.getD j []) then idxN (l.drop (j + 1)) (j + 1) else (j : Int) := by
  rw [List.drop_eq_getElem_cons h]
  simp [idxN, List.getD, h]
set_option maxHeartbeats 1000000 in
theorem indexf_p (l : List (List UInt8)) (hl : l.length ≤ 1000) (hx : ∀ x ∈ l, x.length ≤ 1000) : Pur M 61 [.slice (strs l) .no, .fn (.func 40) [] []] (.int .i64 (idxN l 0)) := by
  refine ok61 rfl ?_
  rw [i61]
  unfold c61
  have hsl := strs_len l
  repeat' (first
    | with_reducible first | apply swp_seq | apply swp_reg | apply swp_regD | apply swp_block | apply swp_exit | apply swp_ret | apply swp_skip | apply swp_cd
    | simp only [go_sem, Nat.reduceAdd, Nat.reduceSub, Nat.reduceMul, Nat.reduceEqDiff, Nat.reduceLeDiff, Nat.reduceLT, Int.reduceEq, Int.reduceNe, Int.reduceLT, Int.reduceLE, Int.reduceAdd, Int.reduceSub, Int.reduceMul, Int.reduceNeg, Int.reduceToNat, Int.reduceTDiv, Int.reduceTMod, Int.reduceBEq, Int.reduceBNe, decide_true, decide_false, reduceCtorEq, reduceIte, P61, q61, hsl]
    | simp (disch := omega) only [w64, w32, wu8, wu16, wu32, wu64]
    | with_reducible first | apply cd_dec | apply cd_eq | apply cd_ne | apply cd_split
    | ((with_reducible refine And.intro ?hw ?_); (case hw => first | omega | rfl | exact ⟨_, _, rfl⟩ | assumption | (simp only [lN1, lN2, lN3, lN4, lN5, lN6, lN7] <;> omega)))
    | with_reducible intro _)
  refine swp_fam [0, 1, 2, 4, 5] (fun j : Nat => ⟨[.slice (strs l) .no, .fn (.func 40) [] [], .int .i64 0, .undef, .int .i64 l.length, .int .i64 j, .undef, .undef], [], ⟨[], []⟩⟩)
    (fun j => j ≤ l.length ∧ idxN (l.drop j) j = idxN l 0) (fun j => l.length - j) 0 ⟨by omega, rfl⟩ ?_ ?_
  · simp [keepE, St.keep]
  · rintro j ⟨g0, g1⟩
    by_cases hlt : j < l.length
    · have hg := strs_get hlt
      have t1 : ((j : Nat) : Int).toNat = j := Int.toNat_natCast j
      have h1 := notis_p (l.getD j []) (get_small hx)
      have hd := idxN_drop hlt
      by_cases hb : isD (l.getD j []) = true
      · rw [hb] at h1 hd
        rw [if_pos rfl] at hd
        generalize l.getD j [] = x at *
        generalize strs l = L at *
        repeat' (first
    | with_reducible first | apply swp_seq | apply swp_reg | apply swp_regD | apply swp_block | apply swp_exit | apply swp_ret | apply swp_skip | apply swp_cd
    | simp only [go_sem, Nat.reduceAdd, Nat.reduceSub, Nat.reduceMul, Nat.reduceEqDiff, Nat.reduceLeDiff, Nat.reduceLT, Int.reduceEq, Int.reduceNe, Int.reduceLT, Int.reduceLE, Int.reduceAdd, Int.reduceSub, Int.reduceMul, Int.reduceNeg, Int.reduceToNat, Int.reduceTDiv, Int.reduceTMod, Int.reduceBEq, Int.reduceBNe, decide_true, decide_false, reduceCtorEq, reduceIte, P61, q61, hsl, hg, t1]
    | simp (disch := omega) only [w64, w32, wu8, wu16, wu32, wu64]
    | ((with_reducible refine o_call (h1) ?he ?hc ?_); (case he | hc => first | rfl | (simp [D.erL, D.er, D.closedL, D.closed, hsl]; done)))
    | with_reducible first | apply cd_dec | apply cd_eq | apply cd_ne | apply cd_split
    | ((with_reducible refine And.intro ?hw ?_); (case hw => first | omega | rfl | exact ⟨_, _, rfl⟩ | assumption | (simp only [lN1, lN2, lN3, lN4, lN5, lN6, lN7, hsl] <;> omega)))
    | with_reducible intro _)
        all_goals try omega
        refine ⟨j + 1, ⟨by omega, by rw [← hd]; exact g1⟩, by omega, ?_⟩
        simp [keepE, St.keep]
      · have hb' : isD (l.getD j []) = false := by simpa using hb
        rw [hb'] at h1 hd
        rw [if_neg (by simp)] at hd
        rw [← g1, hd]
        generalize l.getD j [] = x at *
        generalize strs l = L at *
        repeat' (first
    | with_reducible first | apply swp_seq | apply swp_reg | apply swp_regD | apply swp_block | apply swp_exit | apply swp_ret | apply swp_skip | apply swp_cd
    | simp only [go_sem, Nat.reduceAdd, Nat.reduceSub, Nat.reduceMul, Nat.reduceEqDiff, Nat.reduceLeDiff, Nat.reduceLT, Int.reduceEq, Int.reduceNe, Int.reduceLT, Int.reduceLE, Int.reduceAdd, Int.reduceSub, Int.reduceMul, Int.reduceNeg, Int.reduceToNat, Int.reduceTDiv, Int.reduceTMod, Int.reduceBEq, Int.reduceBNe, decide_true, decide_false, reduceCtorEq, reduceIte, P61, q61, hsl, hg, t1]
    | simp (disch := omega) only [w64, w32, wu8, wu16, wu32, wu64]
    | ((with_reducible refine o_call (h1) ?he ?hc ?_); (case he | hc => first | rfl | (simp [D.erL, D.er, D.closedL, D.closed, hsl]; done)))
    | with_reducible first | apply cd_dec | apply cd_eq | apply cd_ne | apply cd_split
    | ((with_reducible refine And.intro ?hw ?_); (case hw => first | omega | rfl | exact ⟨_, _, rfl⟩ | assumption | (simp only [lN1, lN2, lN3, lN4, lN5, lN6, lN7, hsl] <;> omega)))
    | with_reducible intro _)
        all_goals first
          | omega
          | (simp [D.closed, D.er]; done)
    · have e : j = l.length := by omega
      subst e
      rw [List.drop_length] at g1
      rw [← g1]
      generalize strs l = L at *
      repeat' (first
    | with_reducible first | apply swp_seq | apply swp_reg | apply swp_regD | apply swp_block | apply swp_exit | apply swp_ret | apply swp_skip | apply swp_cd
    | simp only [go_sem, Nat.reduceAdd, Nat.reduceSub, Nat.reduceMul, Nat.reduceEqDiff, Nat.reduceLeDiff, Nat.reduceLT, Int.reduceEq, Int.reduceNe, Int.reduceLT, Int.reduceLE, Int.reduceAdd, Int.reduceSub, Int.reduceMul, Int.reduceNeg, Int.reduceToNat, Int.reduceTDiv, Int.reduceTMod, Int.reduceBEq, Int.reduceBNe, decide_true, decide_false, reduceCtorEq, reduceIte, P61, q61, hsl]
    | simp (disch := omega) only [w64, w32, wu8, wu16, wu32, wu64]
    | with_reducible first | apply cd_dec | apply cd_eq | apply cd_ne | apply cd_split
    | ((with_reducible refine And.intro ?hw ?_); (case hw => first | omega | rfl | exact ⟨_, _, rfl⟩ | assumption | (simp only [lN1, lN2, lN3, lN4, lN5, lN6, lN7, hsl] <;> omega)))
    | with_reducible intro _)
      all_goals first
        | omega
        | (simp [D.closed, D.er, idxN]; done)
theorem contains_p (l : List (List UInt8)) (hl : l.length ≤ 1000) (hx : ∀ x ∈ l, x.length ≤ 1000) : Pur M 39 [.slice (strs l) .no, .fn (.func 40) [] []] (.bool (!(l.all isD))) := by
  refine ok39 rfl ?_
  rw [i39]
  unfold c39
  have h1 := indexf_p l hl hx
  have h2 := idxN_all l 0
  rw [← h2]
  have he := erL_strs l
  have hc := closed_strs l
  generalize idxN l 0 = n at *
  generalize strs l = L at *
  repeat' (first
    | with_reducible first | apply swp_seq | apply swp_reg | apply swp_regD | apply swp_block | apply swp_exit | apply swp_ret | apply swp_skip | apply swp_cd
    | simp only [go_sem, Nat.reduceAdd, Nat.reduceSub, Nat.reduceMul, Nat.reduceEqDiff, Nat.reduceLeDiff, Nat.reduceLT, Int.reduceEq, Int.reduceNe, Int.reduceLT, Int.reduceLE, Int.reduceAdd, Int.reduceSub, Int.reduceMul, Int.reduceNeg, Int.reduceToNat, Int.reduceTDiv, Int.reduceTMod, Int.reduceBEq, Int.reduceBNe, decide_true, decide_false, reduceCtorEq, reduceIte, P39, q39]
    | simp (disch := omega) only [w64, w32, wu8, wu16, wu32, wu64]
    | ((with_reducible refine o_call (h1) ?he ?hc ?_); (case he | hc => first | rfl | (simp [D.erL, D.er, D.closedL, D.closed, he, hc]; done)))
    | with_reducible first | apply cd_dec | apply cd_eq | apply cd_ne | apply cd_split
    | ((with_reducible refine And.intro ?hw ?_); (case hw => first | omega | rfl | exact ⟨_, _, rfl⟩ | assumption | (simp only [lN1, lN2, lN3, lN4, lN5, lN6, lN7, he, hc] <;> omega)))
    | with_reducible intro _)
  all_goals first
    | omega
    | (simp [D.closed, D.er]; done)
theorem odd_p (l : List (List UInt8)) (hl : l.length ≤ 1000) (hx : ∀ x ∈ l, x.length ≤ 1000) : Pur M 38 [.slice (strs l) .no] (.bool (!(l.all isD))) := by
  refine ok38 rfl ?_
  rw [i38]
  unfold c38
  have h1 := contains_p l hl hx
  have he := erL_strs l
  have hc := closed_strs l
  generalize strs l = L at *
  repeat' (first
    | with_reducible first | apply swp_seq | apply swp_reg | apply swp_regD | apply swp_block | apply swp_exit | apply swp_ret | apply swp_skip | apply swp_cd
    | simp only [go_sem, Nat.reduceAdd, Nat.reduceSub, Nat.reduceMul, Nat.reduceEqDiff, Nat.reduceLeDiff, Nat.reduceLT, Int.reduceEq, Int.reduceNe, Int.reduceLT, Int.reduceLE, Int.reduceAdd, Int.reduceSub, Int.reduceMul, Int.reduceNeg, Int.reduceToNat, Int.reduceTDiv, Int.reduceTMod, Int.reduceBEq, Int.reduceBNe, decide_true, decide_false, reduceCtorEq, reduceIte, P38, q38]
    | simp (disch := omega) only [w64, w32, wu8, wu16, wu32, wu64]
    | ((with_reducible refine o_call (h1) ?he ?hc ?_); (case he | hc => first | rfl | (simp [D.erL, D.er, D.closedL, D.closed, he, hc]; done)))
    | with_reducible first | apply cd_dec | apply cd_eq | apply cd_ne | apply cd_split
    | ((with_reducible refine And.intro ?hw ?_); (case hw => first | omega | rfl | exact ⟨_, _, rfl⟩ | assumption | (simp only [lN1, lN2, lN3, lN4, lN5, lN6, lN7, he, hc] <;> omega)))
    | with_reducible intro _)
  all_goals first
    | omega
    | (simp [D.closed, D.er]; done)
end Go.Proofs.YtgjkhlnpplajjaaDoor
end
section
set_option maxRecDepth 100000
set_option linter.unusedSimpArgs false
set_option linter.unusedVariables false
namespace Go.Proofs.YtgjkhlnpplajjaaDoor
open Go GoV Go.RowKit
theorem ints_get {l : List Nat} {k : Nat} (h : k < l.length) : (ints l).getD k .undef = .int .i64 (l.getD k 0 : Nat) := by
  simp [List.getD, h]
abbrev sealD (x : Seal) : D := .agg [.int .i64 x.idx, .slice (strs x.sig) .no, .slice (strs x.path) .no]
def sgnR (s : List UInt8) (h i : Int) (m : List UInt8) : Seal × Int := if 0 ≤ h ∧ h ≤ 8 ∧ 0 ≤ i ∧ i < 2 ^ h.toNat then (sgn s h.toNat i.toNat m, 0) else (⟨0, [], []⟩, 1)
abbrev sgnD (x : Seal × Int) : D := .tup [sealD x.1, .int .i64 x.2]
def sigP (s : List UInt8) (i : Nat) (m : List UInt8) (k : Nat) : List (List UInt8) := (List.range k).map fun k => chn ((dgt m).getD k 0) (start s i k)
theorem sigP_len (s : List UInt8) (i : Nat) (m : List UInt8) (k : Nat) : (sigP s i m k).length = k := by simp [sigP]
theorem sigP_succ (s : List UInt8) (i : Nat) (m : List UInt8) (k : Nat) : sigP s i m (k + 1) = sigP s i m k ++ [chn ((dgt m).getD k 0) (start s i k)] := by simp [sigP, List.range_succ]
set_option maxHeartbeats 2000000 in
theorem rsign_p (s : List UInt8) (h i : Int) (m : List UInt8) (hs : s.length ≤ 300) (hm : m.length ≤ 300) :
    Pur M 16 [.str s, .int .i64 h, .int .i64 i, .str m] (sgnD (sgnR s h i m)) := by
  refine ow16 rfl ?_
  rw [i16]
  unfold c16
  unfold sgnR
  by_cases hh : 0 ≤ h ∧ h ≤ 8
  case neg =>
    rw [if_neg (by intro q; exact hh ⟨q.1, q.2.1⟩)]
    by_cases hn : h < 0
    · have e1 : decide (h < 0) = true := decide_eq_true hn
      repeat' (first
    | with_reducible first | apply swp_seq | apply swp_reg | apply swp_regD | apply swp_block | apply swp_exit | apply swp_ret | apply swp_skip | apply swp_cd
    | simp only [go_sem, Nat.reduceAdd, Nat.reduceSub, Nat.reduceMul, Nat.reduceEqDiff, Nat.reduceLeDiff, Nat.reduceLT, Int.reduceEq, Int.reduceNe, Int.reduceLT, Int.reduceLE, Int.reduceAdd, Int.reduceSub, Int.reduceMul, Int.reduceNeg, Int.reduceToNat, Int.reduceTDiv, Int.reduceTMod, Int.reduceBEq, Int.reduceBNe, decide_true, decide_false, reduceCtorEq, reduceIte, P16, q16, e1]
    | simp (disch := omega) only [w64, w32, wu8, wu16, wu32, wu64]
    | ((with_reducible apply s_appT); (case he => rfl); (case hK | hc | hr | hV => first | rfl | assumption | omega | ((first | refine ⟨?_, ?_⟩ | skip) <;> first | omega | (simp only [lN1, lN2, lN3, lN4, lN5, lN6, lN7] <;> omega)) | (simp [elemsK, D.isVal, D.cells, D.closedL, D.closed]; first | done | omega)))
    | ((with_reducible apply s_appG); (case he => rfl); (case hV | hK | hr | hl => first | rfl | assumption | omega | ((first | refine ⟨?_, ?_⟩ | skip) <;> first | omega | (simp only [lN1, lN2, lN3, lN4, lN5, lN6, lN7] <;> omega)) | (simp [elemsK, D.isVal, D.cells, D.closedL, D.closed]; first | done | omega)))
    | ((with_reducible apply s_app0); (case he => rfl); (case hK | hc | hr => first | rfl | assumption | omega | ((first | refine ⟨?_, ?_⟩ | skip) <;> first | omega | (simp only [lN1, lN2, lN3, lN4, lN5, lN6, lN7] <;> omega)) | (simp [elemsK, D.isVal, D.cells, D.closedL, D.closed]; first | done | omega)))
    | ((with_reducible apply s_appF); (case he => rfl); (case hK | hc | hr | hx | hn => first | rfl | assumption | omega | ((first | refine ⟨?_, ?_⟩ | skip) <;> first | omega | (simp only [lN1, lN2, lN3, lN4, lN5, lN6, lN7] <;> omega)) | (simp [elemsK, D.isVal, D.cells, D.closedL, D.closed]; first | done | omega)))
    | ((with_reducible first | apply s_bsl | apply t_bsl); (case he | hl | hc => first | rfl | assumption | omega | ((first | refine ⟨?_, ?_⟩ | skip) <;> first | omega | (simp only [lN1, lN2, lN3, lN4, lN5, lN6, lN7] <;> omega)) | (simp [elemsK, D.isVal, D.cells, D.closedL, D.closed]; first | done | omega)))
    | with_reducible first | apply cd_dec | apply cd_eq | apply cd_ne | apply cd_split | apply gd_dec | apply gd_eq | apply gd_ne | apply gd_split
    | ((with_reducible refine And.intro ?hw ?_); (case hw => first | omega | rfl | exact ⟨_, _, rfl⟩ | assumption | (simp only [lN1, lN2, lN3, lN4, lN5, lN6, lN7] <;> omega)))
    | with_reducible intro _)
      all_goals try omega
      refine ⟨_, weak_trans (weak_newC 0 1 1 (by decide) rfl rfl) (weak_newC 0 2 1 (by decide) rfl rfl), ?_⟩
      simp [go_sem, D.closed, D.closedL, D.er, D.erL]
    · have e1 : decide (h < 0) = false := decide_eq_false hn
      have e2 : decide (8 < h) = true := decide_eq_true (by omega)
      repeat' (first
    | with_reducible first | apply swp_seq | apply swp_reg | apply swp_regD | apply swp_block | apply swp_exit | apply swp_ret | apply swp_skip | apply swp_cd
    | simp only [go_sem, Nat.reduceAdd, Nat.reduceSub, Nat.reduceMul, Nat.reduceEqDiff, Nat.reduceLeDiff, Nat.reduceLT, Int.reduceEq, Int.reduceNe, Int.reduceLT, Int.reduceLE, Int.reduceAdd, Int.reduceSub, Int.reduceMul, Int.reduceNeg, Int.reduceToNat, Int.reduceTDiv, Int.reduceTMod, Int.reduceBEq, Int.reduceBNe, decide_true, decide_false, reduceCtorEq, reduceIte, P16, q16, e1, e2]
    | simp (disch := omega) only [w64, w32, wu8, wu16, wu32, wu64]
    | ((with_reducible apply s_appT); (case he => rfl); (case hK | hc | hr | hV => first | rfl | assumption | omega | ((first | refine ⟨?_, ?_⟩ | skip) <;> first | omega | (simp only [lN1, lN2, lN3, lN4, lN5, lN6, lN7] <;> omega)) | (simp [elemsK, D.isVal, D.cells, D.closedL, D.closed]; first | done | omega)))
    | ((with_reducible apply s_appG); (case he => rfl); (case hV | hK | hr | hl => first | rfl | assumption | omega | ((first | refine ⟨?_, ?_⟩ | skip) <;> first | omega | (simp only [lN1, lN2, lN3, lN4, lN5, lN6, lN7] <;> omega)) | (simp [elemsK, D.isVal, D.cells, D.closedL, D.closed]; first | done | omega)))
    | ((with_reducible apply s_app0); (case he => rfl); (case hK | hc | hr => first | rfl | assumption | omega | ((first | refine ⟨?_, ?_⟩ | skip) <;> first | omega | (simp only [lN1, lN2, lN3, lN4, lN5, lN6, lN7] <;> omega)) | (simp [elemsK, D.isVal, D.cells, D.closedL, D.closed]; first | done | omega)))
    | ((with_reducible apply s_appF); (case he => rfl); (case hK | hc | hr | hx | hn => first | rfl | assumption | omega | ((first | refine ⟨?_, ?_⟩ | skip) <;> first | omega | (simp only [lN1, lN2, lN3, lN4, lN5, lN6, lN7] <;> omega)) | (simp [elemsK, D.isVal, D.cells, D.closedL, D.closed]; first | done | omega)))
    | ((with_reducible first | apply s_bsl | apply t_bsl); (case he | hl | hc => first | rfl | assumption | omega | ((first | refine ⟨?_, ?_⟩ | skip) <;> first | omega | (simp only [lN1, lN2, lN3, lN4, lN5, lN6, lN7] <;> omega)) | (simp [elemsK, D.isVal, D.cells, D.closedL, D.closed]; first | done | omega)))
    | with_reducible first | apply cd_dec | apply cd_eq | apply cd_ne | apply cd_split | apply gd_dec | apply gd_eq | apply gd_ne | apply gd_split
    | ((with_reducible refine And.intro ?hw ?_); (case hw => first | omega | rfl | exact ⟨_, _, rfl⟩ | assumption | (simp only [lN1, lN2, lN3, lN4, lN5, lN6, lN7] <;> omega)))
    | with_reducible intro _)
      all_goals try omega
      refine ⟨_, weak_trans (weak_newC 0 1 1 (by decide) rfl rfl) (weak_newC 0 2 1 (by decide) rfl rfl), ?_⟩
      simp [go_sem, D.closed, D.closedL, D.er, D.erL]
  case pos =>
    obtain ⟨h0, h8⟩ := hh
    obtain ⟨n, rfl⟩ : ∃ n : Nat, h = n := ⟨h.toNat, by omega⟩
    have e1 : decide ((n : Int) < 0) = false := decide_eq_false (by omega)
    have e2 : decide (8 < (n : Int)) = false := decide_eq_false (by omega)
    have e3 : ((n : Nat) : Int).toNat = n := Int.toNat_natCast n
    have c1 := power_p n (by omega)
    rw [e3]
    have e4 : (2 : Int) ^ n = ((2 ^ n : Nat) : Int) := by simp
    rw [e4]
    by_cases hi : 0 ≤ i ∧ i < ((2 ^ n : Nat) : Int)
    case neg =>
      rw [if_neg (by intro q; exact hi q.2.2)]
      by_cases hn : i < 0
      · have e5 : decide (i < 0) = true := decide_eq_true hn
        generalize 2 ^ n = N at *
        repeat' (first
    | with_reducible first | apply swp_seq | apply swp_reg | apply swp_regD | apply swp_block | apply swp_exit | apply swp_ret | apply swp_skip | apply swp_cd
    | simp only [go_sem, Nat.reduceAdd, Nat.reduceSub, Nat.reduceMul, Nat.reduceEqDiff, Nat.reduceLeDiff, Nat.reduceLT, Int.reduceEq, Int.reduceNe, Int.reduceLT, Int.reduceLE, Int.reduceAdd, Int.reduceSub, Int.reduceMul, Int.reduceNeg, Int.reduceToNat, Int.reduceTDiv, Int.reduceTMod, Int.reduceBEq, Int.reduceBNe, decide_true, decide_false, reduceCtorEq, reduceIte, P16, q16, e1, e2, e5]
    | simp (disch := omega) only [w64, w32, wu8, wu16, wu32, wu64]
    | ((with_reducible first | refine o_call (c1) ?he ?hc ?_ | refine p_call (c1) ?he ?hc ?_ | refine c_call (c1) ?he ?hc ?_); (case he | hc => first | rfl | (simp [D.erL, D.er, D.closedL, D.closed]; done)))
    | ((with_reducible apply s_appT); (case he => rfl); (case hK | hc | hr | hV => first | rfl | assumption | omega | ((first | refine ⟨?_, ?_⟩ | skip) <;> first | omega | (simp only [lN1, lN2, lN3, lN4, lN5, lN6, lN7] <;> omega)) | (simp [elemsK, D.isVal, D.cells, D.closedL, D.closed]; first | done | omega)))
    | ((with_reducible apply s_appG); (case he => rfl); (case hV | hK | hr | hl => first | rfl | assumption | omega | ((first | refine ⟨?_, ?_⟩ | skip) <;> first | omega | (simp only [lN1, lN2, lN3, lN4, lN5, lN6, lN7] <;> omega)) | (simp [elemsK, D.isVal, D.cells, D.closedL, D.closed]; first | done | omega)))
    | ((with_reducible apply s_app0); (case he => rfl); (case hK | hc | hr => first | rfl | assumption | omega | ((first | refine ⟨?_, ?_⟩ | skip) <;> first | omega | (simp only [lN1, lN2, lN3, lN4, lN5, lN6, lN7] <;> omega)) | (simp [elemsK, D.isVal, D.cells, D.closedL, D.closed]; first | done | omega)))
    | ((with_reducible apply s_appF); (case he => rfl); (case hK | hc | hr | hx | hn => first | rfl | assumption | omega | ((first | refine ⟨?_, ?_⟩ | skip) <;> first | omega | (simp only [lN1, lN2, lN3, lN4, lN5, lN6, lN7] <;> omega)) | (simp [elemsK, D.isVal, D.cells, D.closedL, D.closed]; first | done | omega)))
    | ((with_reducible first | apply s_bsl | apply t_bsl); (case he | hl | hc => first | rfl | assumption | omega | ((first | refine ⟨?_, ?_⟩ | skip) <;> first | omega | (simp only [lN1, lN2, lN3, lN4, lN5, lN6, lN7] <;> omega)) | (simp [elemsK, D.isVal, D.cells, D.closedL, D.closed]; first | done | omega)))
    | with_reducible first | apply cd_dec | apply cd_eq | apply cd_ne | apply cd_split | apply gd_dec | apply gd_eq | apply gd_ne | apply gd_split
    | ((with_reducible refine And.intro ?hw ?_); (case hw => first | omega | rfl | exact ⟨_, _, rfl⟩ | assumption | (simp only [lN1, lN2, lN3, lN4, lN5, lN6, lN7] <;> omega)))
    | with_reducible intro _)
        all_goals try omega
        refine ⟨_, weak_trans (weak_newC 0 1 1 (by decide) rfl rfl) (weak_newC 0 2 1 (by decide) rfl rfl), ?_⟩
        simp [go_sem, D.closed, D.closedL, D.er, D.erL]
      · have e5 : decide (i < 0) = false := decide_eq_false hn
        have e6 : decide (((2 ^ n : Nat) : Int) ≤ i) = true := decide_eq_true (by omega)
        generalize 2 ^ n = N at *
        repeat' (first
    | with_reducible first | apply swp_seq | apply swp_reg | apply swp_regD | apply swp_block | apply swp_exit | apply swp_ret | apply swp_skip | apply swp_cd
    | simp only [go_sem, Nat.reduceAdd, Nat.reduceSub, Nat.reduceMul, Nat.reduceEqDiff, Nat.reduceLeDiff, Nat.reduceLT, Int.reduceEq, Int.reduceNe, Int.reduceLT, Int.reduceLE, Int.reduceAdd, Int.reduceSub, Int.reduceMul, Int.reduceNeg, Int.reduceToNat, Int.reduceTDiv, Int.reduceTMod, Int.reduceBEq, Int.reduceBNe, decide_true, decide_false, reduceCtorEq, reduceIte, P16, q16, e1, e2, e5, e6]
    | simp (disch := omega) only [w64, w32, wu8, wu16, wu32, wu64]
    | ((with_reducible first | refine o_call (c1) ?he ?hc ?_ | refine p_call (c1) ?he ?hc ?_ | refine c_call (c1) ?he ?hc ?_); (case he | hc => first | rfl | (simp [D.erL, D.er, D.closedL, D.closed]; done)))
    | ((with_reducible apply s_appT); (case he => rfl); (case hK | hc | hr | hV => first | rfl | assumption | omega | ((first | refine ⟨?_, ?_⟩ | skip) <;> first | omega | (simp only [lN1, lN2, lN3, lN4, lN5, lN6, lN7] <;> omega)) | (simp [elemsK, D.isVal, D.cells, D.closedL, D.closed]; first | done | omega)))
    | ((with_reducible apply s_appG); (case he => rfl); (case hV | hK | hr | hl => first | rfl | assumption | omega | ((first | refine ⟨?_, ?_⟩ | skip) <;> first | omega | (simp only [lN1, lN2, lN3, lN4, lN5, lN6, lN7] <;> omega)) | (simp [elemsK, D.isVal, D.cells, D.closedL, D.closed]; first | done | omega)))
    | ((with_reducible apply s_app0); (case he => rfl); (case hK | hc | hr => first | rfl | assumption | omega | ((first | refine ⟨?_, ?_⟩ | skip) <;> first | omega | (simp only [lN1, lN2, lN3, lN4, lN5, lN6, lN7] <;> omega)) | (simp [elemsK, D.isVal, D.cells, D.closedL, D.closed]; first | done | omega)))
    | ((with_reducible apply s_appF); (case he => rfl); (case hK | hc | hr | hx | hn => first | rfl | assumption | omega | ((first | refine ⟨?_, ?_⟩ | skip) <;> first | omega | (simp only [lN1, lN2, lN3, lN4, lN5, lN6, lN7] <;> omega)) | (simp [elemsK, D.isVal, D.cells, D.closedL, D.closed]; first | done | omega)))
    | ((with_reducible first | apply s_bsl | apply t_bsl); (case he | hl | hc => first | rfl | assumption | omega | ((first | refine ⟨?_, ?_⟩ | skip) <;> first | omega | (simp only [lN1, lN2, lN3, lN4, lN5, lN6, lN7] <;> omega)) | (simp [elemsK, D.isVal, D.cells, D.closedL, D.closed]; first | done | omega)))
    | with_reducible first | apply cd_dec | apply cd_eq | apply cd_ne | apply cd_split | apply gd_dec | apply gd_eq | apply gd_ne | apply gd_split
    | ((with_reducible refine And.intro ?hw ?_); (case hw => first | omega | rfl | exact ⟨_, _, rfl⟩ | assumption | (simp only [lN1, lN2, lN3, lN4, lN5, lN6, lN7] <;> omega)))
    | with_reducible intro _)
        all_goals try omega
        refine ⟨_, weak_trans (weak_newC 0 1 1 (by decide) rfl rfl) (weak_newC 0 2 1 (by decide) rfl rfl), ?_⟩
        simp [go_sem, D.closed, D.closedL, D.er, D.erL]
    case pos =>
      rw [if_pos ⟨h0, h8, hi⟩]
      obtain ⟨i0, i1⟩ := hi
      obtain ⟨j, rfl⟩ : ∃ j : Nat, i = j := ⟨i.toNat, by omega⟩
      have e5 : decide ((j : Int) < 0) = false := decide_eq_false (by omega)
      have e6 : decide (((2 ^ n : Nat) : Int) ≤ (j : Int)) = false := decide_eq_false (by omega)
      have e7 : ((j : Nat) : Int).toNat = j := Int.toNat_natCast j
      rw [e7]
      have hN : 2 ^ n ≤ 2 ^ 8 := Nat.pow_le_pow_right (by omega) (by omega)
      have h256 : (2 : Nat) ^ 8 = 256 := by decide
      have c2 := rdgt_p m (by omega)
      have c3 := rkeys_p s n hs (by omega)
      have c4 := rpath_p n (keys s (2 ^ n)) j (by omega) (keys_len _ _) (by omega) (keys_small _ _)
      have hpl := pathL_len n (keys s (2 ^ n)) j (keys_len _ _)
      have hdl := dgt_len m
      have hsg : sgn s n j m = ⟨(j : Nat), sigP s j m 18, pathL (keys s (2 ^ n)) j⟩ := rfl
      rw [hsg]
      generalize pathL (keys s (2 ^ n)) j = P at *
      generalize keys s (2 ^ n) = K at *
      have hj : j < 256 := by omega
      generalize hN2 : 2 ^ n = N at *
      repeat' (first
    | with_reducible first | apply swp_seq | apply swp_reg | apply swp_regD | apply swp_block | apply swp_exit | apply swp_ret | apply swp_skip | apply swp_cd
    | simp only [go_sem, Nat.reduceAdd, Nat.reduceSub, Nat.reduceMul, Nat.reduceEqDiff, Nat.reduceLeDiff, Nat.reduceLT, Int.reduceEq, Int.reduceNe, Int.reduceLT, Int.reduceLE, Int.reduceAdd, Int.reduceSub, Int.reduceMul, Int.reduceNeg, Int.reduceToNat, Int.reduceTDiv, Int.reduceTMod, Int.reduceBEq, Int.reduceBNe, decide_true, decide_false, reduceCtorEq, reduceIte, P16, q16, e1, e2, e5, e6]
    | simp (disch := omega) only [w64, w32, wu8, wu16, wu32, wu64]
    | ((with_reducible first | refine o_call (c1) ?he ?hc ?_ | refine p_call (c1) ?he ?hc ?_ | refine c_call (c1) ?he ?hc ?_); (case he | hc => first | rfl | (simp [D.erL, D.er, D.closedL, D.closed]; done)))
    | ((with_reducible first | refine o_call (c2) ?he ?hc ?_ | refine p_call (c2) ?he ?hc ?_ | refine c_call (c2) ?he ?hc ?_); (case he | hc => first | rfl | (simp [D.erL, D.er, D.closedL, D.closed]; done)))
    | ((with_reducible apply s_appT); (case he => rfl); (case hK | hc | hr | hV => first | rfl | assumption | omega | ((first | refine ⟨?_, ?_⟩ | skip) <;> first | omega | (simp only [lN1, lN2, lN3, lN4, lN5, lN6, lN7] <;> omega)) | (simp [elemsK, D.isVal, D.cells, D.closedL, D.closed]; first | done | omega)))
    | ((with_reducible apply s_appG); (case he => rfl); (case hV | hK | hr | hl => first | rfl | assumption | omega | ((first | refine ⟨?_, ?_⟩ | skip) <;> first | omega | (simp only [lN1, lN2, lN3, lN4, lN5, lN6, lN7] <;> omega)) | (simp [elemsK, D.isVal, D.cells, D.closedL, D.closed]; first | done | omega)))
    | ((with_reducible apply s_app0); (case he => rfl); (case hK | hc | hr => first | rfl | assumption | omega | ((first | refine ⟨?_, ?_⟩ | skip) <;> first | omega | (simp only [lN1, lN2, lN3, lN4, lN5, lN6, lN7] <;> omega)) | (simp [elemsK, D.isVal, D.cells, D.closedL, D.closed]; first | done | omega)))
    | ((with_reducible apply s_appF); (case he => rfl); (case hK | hc | hr | hx | hn => first | rfl | assumption | omega | ((first | refine ⟨?_, ?_⟩ | skip) <;> first | omega | (simp only [lN1, lN2, lN3, lN4, lN5, lN6, lN7] <;> omega)) | (simp [elemsK, D.isVal, D.cells, D.closedL, D.closed]; first | done | omega)))
    | ((with_reducible first | apply s_bsl | apply t_bsl); (case he | hl | hc => first | rfl | assumption | omega | ((first | refine ⟨?_, ?_⟩ | skip) <;> first | omega | (simp only [lN1, lN2, lN3, lN4, lN5, lN6, lN7] <;> omega)) | (simp [elemsK, D.isVal, D.cells, D.closedL, D.closed]; first | done | omega)))
    | with_reducible first | apply cd_dec | apply cd_eq | apply cd_ne | apply cd_split | apply gd_dec | apply gd_eq | apply gd_ne | apply gd_split
    | ((with_reducible refine And.intro ?hw ?_); (case hw => first | omega | rfl | exact ⟨_, _, rfl⟩ | assumption | (simp only [lN1, lN2, lN3, lN4, lN5, lN6, lN7] <;> omega)))
    | with_reducible intro _)
      all_goals try omega
      refine swp_weak (weak_newC 1 1 1 (by decide) rfl rfl) ?_
      refine swp_fam [0, 1, 2, 3, 4, 5, 6, 7, 8] (fun k : Nat => ⟨[.str s, .int .i64 (n : Nat), .int .i64 (j : Nat), .str m, .ptr 0 0, .int .i64 0, .ptr 1 0, .slice (ints (dgt m)) .no, .int .i64 (k : Nat), .undef, .undef], [],
          ⟨[.cells [.int .i64 0, .lit (.slice none 0 0), .lit (.slice none 0 0)], .cells [.int .i64 (j : Nat), .slice (strs (sigP s j m k)) (.tok 0), .lit (.slice none 0 0)]], [.per 1 k]⟩⟩)
        (fun k => k ≤ 18) (fun k => 18 - k) 0 (by omega) ?_ ?_
      · simp [keepE, St.keep, sigP]
      · intro k hk
        have hsl := sigP_len s j m k
        by_cases hlt : k < 18
        · have c5 := rstart_p s j k hs (by omega) (by omega)
          have c6 := rchain_p (start s j k) ((dgt m).getD k 0) (by rw [start_len]; omega) (by have := dgt_get m k; omega)
          have hg : (ints (dgt m)).getD k .undef = .int .i64 ((dgt m).getD k 0 : Nat) := ints_get (by omega)
          have hss := sigP_succ s j m k
          have t1 : ((k : Nat) : Int).toNat = k := Int.toNat_natCast k
          have hil := ints_len (dgt m)
          generalize chn ((dgt m).getD k 0) (start s j k) = z at *
          generalize start s j k = st at *
          generalize (dgt m).getD k 0 = d at *
          generalize ints (dgt m) = DL at *
          generalize hT0 : sigP s j m k = T at *
          have hT := strs_len T
          repeat' (first
    | with_reducible first | apply swp_seq | apply swp_reg | apply swp_regD | apply swp_block | apply swp_exit | apply swp_ret | apply swp_skip | apply swp_cd
    | simp only [go_sem, Nat.reduceAdd, Nat.reduceSub, Nat.reduceMul, Nat.reduceEqDiff, Nat.reduceLeDiff, Nat.reduceLT, Int.reduceEq, Int.reduceNe, Int.reduceLT, Int.reduceLE, Int.reduceAdd, Int.reduceSub, Int.reduceMul, Int.reduceNeg, Int.reduceToNat, Int.reduceTDiv, Int.reduceTMod, Int.reduceBEq, Int.reduceBNe, decide_true, decide_false, reduceCtorEq, reduceIte, P16, q16, t1, hg]
    | simp (disch := omega) only [w64, w32, wu8, wu16, wu32, wu64]
    | ((with_reducible first | refine o_call (c5) ?he ?hc ?_ | refine p_call (c5) ?he ?hc ?_ | refine c_call (c5) ?he ?hc ?_); (case he | hc => first | rfl | (simp [D.erL, D.er, D.closedL, D.closed, hT, hsl, hil, hdl]; done)))
    | ((with_reducible first | refine o_call (c6) ?he ?hc ?_ | refine p_call (c6) ?he ?hc ?_ | refine c_call (c6) ?he ?hc ?_); (case he | hc => first | rfl | (simp [D.erL, D.er, D.closedL, D.closed, hT, hsl, hil, hdl]; done)))
    | ((with_reducible apply s_appT); (case he => rfl); (case hK | hc | hr | hV => first | rfl | assumption | omega | ((first | refine ⟨?_, ?_⟩ | skip) <;> first | omega | (simp only [lN1, lN2, lN3, lN4, lN5, lN6, lN7, hT, hsl, hil, hdl] <;> omega)) | (simp [elemsK, D.isVal, D.cells, D.closedL, D.closed, hT, hsl, hil, hdl]; first | done | omega)))
    | ((with_reducible apply s_appG); (case he => rfl); (case hV | hK | hr | hl => first | rfl | assumption | omega | ((first | refine ⟨?_, ?_⟩ | skip) <;> first | omega | (simp only [lN1, lN2, lN3, lN4, lN5, lN6, lN7, hT, hsl, hil, hdl] <;> omega)) | (simp [elemsK, D.isVal, D.cells, D.closedL, D.closed, hT, hsl, hil, hdl]; first | done | omega)))
    | ((with_reducible apply s_app0); (case he => rfl); (case hK | hc | hr => first | rfl | assumption | omega | ((first | refine ⟨?_, ?_⟩ | skip) <;> first | omega | (simp only [lN1, lN2, lN3, lN4, lN5, lN6, lN7, hT, hsl, hil, hdl] <;> omega)) | (simp [elemsK, D.isVal, D.cells, D.closedL, D.closed, hT, hsl, hil, hdl]; first | done | omega)))
    | ((with_reducible apply s_appF); (case he => rfl); (case hK | hc | hr | hx | hn => first | rfl | assumption | omega | ((first | refine ⟨?_, ?_⟩ | skip) <;> first | omega | (simp only [lN1, lN2, lN3, lN4, lN5, lN6, lN7, hT, hsl, hil, hdl] <;> omega)) | (simp [elemsK, D.isVal, D.cells, D.closedL, D.closed, hT, hsl, hil, hdl]; first | done | omega)))
    | ((with_reducible first | apply s_bsl | apply t_bsl); (case he | hl | hc => first | rfl | assumption | omega | ((first | refine ⟨?_, ?_⟩ | skip) <;> first | omega | (simp only [lN1, lN2, lN3, lN4, lN5, lN6, lN7, hT, hsl, hil, hdl] <;> omega)) | (simp [elemsK, D.isVal, D.cells, D.closedL, D.closed, hT, hsl, hil, hdl]; first | done | omega)))
    | with_reducible first | apply cd_dec | apply cd_eq | apply cd_ne | apply cd_split | apply gd_dec | apply gd_eq | apply gd_ne | apply gd_split
    | ((with_reducible refine And.intro ?hw ?_); (case hw => first | omega | rfl | exact ⟨_, _, rfl⟩ | assumption | (simp only [lN1, lN2, lN3, lN4, lN5, lN6, lN7, hT, hsl, hil, hdl] <;> omega)))
    | with_reducible intro _)
          all_goals try omega
          refine ⟨k + 1, by omega, by omega, ?_⟩
          rw [hss]
          simp [keepE, St.keep]
          try omega
        · have e : k = 18 := by omega
          subst e
          have hP := strs_len P
          have hcP := closed_strs P
          have heP := erL_strs P
          have hcS := closed_strs (sigP s j m 18)
          have heS := erL_strs (sigP s j m 18)
          have heK := erL_strs K
          generalize sigP s j m 18 = T at *
          repeat' (first
    | with_reducible first | apply swp_seq | apply swp_reg | apply swp_regD | apply swp_block | apply swp_exit | apply swp_ret | apply swp_skip | apply swp_cd
    | simp only [go_sem, Nat.reduceAdd, Nat.reduceSub, Nat.reduceMul, Nat.reduceEqDiff, Nat.reduceLeDiff, Nat.reduceLT, Int.reduceEq, Int.reduceNe, Int.reduceLT, Int.reduceLE, Int.reduceAdd, Int.reduceSub, Int.reduceMul, Int.reduceNeg, Int.reduceToNat, Int.reduceTDiv, Int.reduceTMod, Int.reduceBEq, Int.reduceBNe, decide_true, decide_false, reduceCtorEq, reduceIte, P16, q16]
    | simp (disch := omega) only [w64, w32, wu8, wu16, wu32, wu64]
    | ((with_reducible first | refine o_call (c3) ?he ?hc ?_ | refine p_call (c3) ?he ?hc ?_ | refine c_call (c3) ?he ?hc ?_); (case he | hc => first | rfl | (simp [D.erL, D.er, D.closedL, D.closed, heK]; done)))
    | ((with_reducible first | refine o_call (c4) ?he ?hc ?_ | refine p_call (c4) ?he ?hc ?_ | refine c_call (c4) ?he ?hc ?_); (case he | hc => first | rfl | (simp [D.erL, D.er, D.closedL, D.closed, heK]; done)))
    | ((with_reducible apply s_appT); (case he => rfl); (case hK | hc | hr | hV => first | rfl | assumption | omega | ((first | refine ⟨?_, ?_⟩ | skip) <;> first | omega | (simp only [lN1, lN2, lN3, lN4, lN5, lN6, lN7, heK] <;> omega)) | (simp [elemsK, D.isVal, D.cells, D.closedL, D.closed, heK]; first | done | omega)))
    | ((with_reducible apply s_appG); (case he => rfl); (case hV | hK | hr | hl => first | rfl | assumption | omega | ((first | refine ⟨?_, ?_⟩ | skip) <;> first | omega | (simp only [lN1, lN2, lN3, lN4, lN5, lN6, lN7, heK] <;> omega)) | (simp [elemsK, D.isVal, D.cells, D.closedL, D.closed, heK]; first | done | omega)))
    | ((with_reducible apply s_app0); (case he => rfl); (case hK | hc | hr => first | rfl | assumption | omega | ((first | refine ⟨?_, ?_⟩ | skip) <;> first | omega | (simp only [lN1, lN2, lN3, lN4, lN5, lN6, lN7, heK] <;> omega)) | (simp [elemsK, D.isVal, D.cells, D.closedL, D.closed, heK]; first | done | omega)))
    | ((with_reducible apply s_appF); (case he => rfl); (case hK | hc | hr | hx | hn => first | rfl | assumption | omega | ((first | refine ⟨?_, ?_⟩ | skip) <;> first | omega | (simp only [lN1, lN2, lN3, lN4, lN5, lN6, lN7, heK] <;> omega)) | (simp [elemsK, D.isVal, D.cells, D.closedL, D.closed, heK]; first | done | omega)))
    | ((with_reducible first | apply s_bsl | apply t_bsl); (case he | hl | hc => first | rfl | assumption | omega | ((first | refine ⟨?_, ?_⟩ | skip) <;> first | omega | (simp only [lN1, lN2, lN3, lN4, lN5, lN6, lN7, heK] <;> omega)) | (simp [elemsK, D.isVal, D.cells, D.closedL, D.closed, heK]; first | done | omega)))
    | with_reducible first | apply cd_dec | apply cd_eq | apply cd_ne | apply cd_split | apply gd_dec | apply gd_eq | apply gd_ne | apply gd_split
    | ((with_reducible refine And.intro ?hw ?_); (case hw => first | omega | rfl | exact ⟨_, _, rfl⟩ | assumption | (simp only [lN1, lN2, lN3, lN4, lN5, lN6, lN7, heK] <;> omega)))
    | with_reducible intro _)
          all_goals try omega
          refine ⟨_, weak_refl, ?_⟩
          simp [go_sem, D.closed, D.closedL, D.er, D.erL, hcP, heP, hcS, heS]
end Go.Proofs.YtgjkhlnpplajjaaDoor
end
section
set_option maxRecDepth 100000
set_option linter.unusedSimpArgs false
set_option linter.unusedVariables false
namespace Go.Proofs.YtgjkhlnpplajjaaDoor
open Go GoV Go.RowKit
theorem q_shl {Q : Mod} {rq : List (RO × Bool)} {K : St → Prop} {s : St} {dst : Dst} {k k' : IntKind} {a b : Int} : OpQ Q (.bin .shl) [.int k a, .int k' b] dst rq K s = (0 ≤ b ∧ opsQ Q rq K (s.put dst (.int k (k.wrap (a * 2 ^ (min b.toNat k.bits)))))) := by simp [OpQ, quietWp, isCall, opWp, binWp]
theorem q_xor {Q : Mod} {rq : List (RO × Bool)} {K : St → Prop} {s : St} {dst : Dst} {k : IntKind} {a b : Int} : OpQ Q (.bin .xor) [.int k a, .int k b] dst rq K s = opsQ Q rq K (s.put dst (.int k (bitsV .xor k a b))) := by simp [OpQ, quietWp, isCall, opWp, binWp]
theorem xor_one {j : Nat} (h : j < 256) : Go.bits .xor .i64 (j : Int) 1 = ((if j % 2 = 0 then j + 1 else j - 1 : Nat) : Int) := by
  have key : ∀ n : Fin 256, Go.bits .xor .i64 ((n.val : Nat) : Int) 1 = ((if n.val % 2 = 0 then n.val + 1 else n.val - 1 : Nat) : Int) := by decide +kernel
  exact key ⟨j, h⟩
theorem and_one {j : Nat} (h : j < 256) : Go.bits .and .i64 (j : Int) 1 = ((j % 2 : Nat) : Int) := by
  have key : ∀ n : Fin 256, Go.bits .and .i64 ((n.val : Nat) : Int) 1 = ((n.val % 2 : Nat) : Int) := by decide +kernel
  exact key ⟨j, h⟩
def hpS (s : List UInt8) (j : Nat) (m : List UInt8) (k : Nat) : Hp :=
  ⟨[.cells [.str s], .cells [.int .i64 (j : Nat)], .cells [.int .i64 0, .lit (.slice none 0 0), .lit (.slice none 0 0)], .cells [.int .i64 (j : Nat), .slice (strs (sigP s j m k)) (.tok 0), .lit (.slice none 0 0)]], [.per 1 k]⟩
set_option maxHeartbeats 2000000 in
theorem sign_p (s : List UInt8) (h i : Int) (m : List UInt8) (hs : s.length ≤ 300) (hm : m.length ≤ 300) (hb : -9223372036854775808 ≤ i) :
    Pur M 15 [.str s, .int .i64 h, .int .i64 i, .str m] (sgnD (sgnR s h i m)) := by
  refine oT15 rfl ?_
  rw [i15]
  unfold c15
  unfold sgnR
  by_cases hh : 0 ≤ h ∧ h ≤ 8
  case neg =>
    rw [if_neg (by intro q; exact hh ⟨q.1, q.2.1⟩)]
    by_cases hn : h < 0
    · have e1 : decide (h < 0) = true := decide_eq_true hn
      repeat' (first
    | with_reducible first | apply swp_seq | apply swp_reg | apply swp_regD | apply swp_block | apply swp_exit | apply swp_ret | apply swp_skip | apply swp_cd
    | with_reducible apply twp_seq
    | with_reducible apply twp_block
    | ((with_reducible refine twp_reg ?hb ?_); (case hb => exact fun _ _ => trivial); with_reducible intro _)
    | ((with_reducible refine twp_regD ?hb ?_); (case hb => exact fun _ _ => trivial); with_reducible intro _)
    | ((with_reducible refine twp_cond ?hb ?_); (case hb => exact fun _ _ => trivial); with_reducible intro _)
    | ((with_reducible refine twp_ret ?hb ?_); (case hb => exact fun _ _ => trivial))
    | simp only [go_sem, Nat.reduceAdd, Nat.reduceSub, Nat.reduceMul, Nat.reduceEqDiff, Nat.reduceLeDiff, Nat.reduceLT, Int.reduceEq, Int.reduceNe, Int.reduceLT, Int.reduceLE, Int.reduceAdd, Int.reduceSub, Int.reduceMul, Int.reduceNeg, Int.reduceToNat, Int.reduceTDiv, Int.reduceTMod, Int.reduceBEq, Int.reduceBNe, decide_true, decide_false, reduceCtorEq, reduceIte, P15, q15, q_shl, q_xor, e1]
    | simp (disch := omega) only [w64, w32, wu8, wu16, wu32, wu64]
    | ((with_reducible apply s_appT); (case he => rfl); (case hK | hc | hr | hV => first | rfl | assumption | omega | ((first | refine ⟨?_, ?_⟩ | skip) <;> first | omega | (simp only [lN1, lN2, lN3, lN4, lN5, lN6, lN7] <;> omega)) | (simp [elemsK, D.isVal, D.cells, D.closedL, D.closed]; first | done | omega)))
    | ((with_reducible apply s_appG); (case he => rfl); (case hV | hK | hr | hl => first | rfl | assumption | omega | ((first | refine ⟨?_, ?_⟩ | skip) <;> first | omega | (simp only [lN1, lN2, lN3, lN4, lN5, lN6, lN7] <;> omega)) | (simp [elemsK, D.isVal, D.cells, D.closedL, D.closed]; first | done | omega)))
    | ((with_reducible apply s_app0); (case he => rfl); (case hK | hc | hr => first | rfl | assumption | omega | ((first | refine ⟨?_, ?_⟩ | skip) <;> first | omega | (simp only [lN1, lN2, lN3, lN4, lN5, lN6, lN7] <;> omega)) | (simp [elemsK, D.isVal, D.cells, D.closedL, D.closed]; first | done | omega)))
    | ((with_reducible apply s_appF); (case he => rfl); (case hK | hc | hr | hx | hn => first | rfl | assumption | omega | ((first | refine ⟨?_, ?_⟩ | skip) <;> first | omega | (simp only [lN1, lN2, lN3, lN4, lN5, lN6, lN7] <;> omega)) | (simp [elemsK, D.isVal, D.cells, D.closedL, D.closed]; first | done | omega)))
    | ((with_reducible first | apply s_bsl | apply t_bsl); (case he | hl | hc => first | rfl | assumption | omega | ((first | refine ⟨?_, ?_⟩ | skip) <;> first | omega | (simp only [lN1, lN2, lN3, lN4, lN5, lN6, lN7] <;> omega)) | (simp [elemsK, D.isVal, D.cells, D.closedL, D.closed]; first | done | omega)))
    | with_reducible first | apply cd_dec | apply cd_eq | apply cd_ne | apply cd_split | apply gd_dec | apply gd_eq | apply gd_ne | apply gd_split | apply gq_dec | apply gq_eq | apply gq_ne | apply gq_split
    | ((with_reducible refine And.intro ?hw ?_); (case hw => first | omega | rfl | exact ⟨_, _, rfl⟩ | assumption | (simp only [lN1, lN2, lN3, lN4, lN5, lN6, lN7] <;> omega)))
    | with_reducible intro _)
      all_goals try omega
      refine ⟨_, fun _ => weak_trans (weak_newC 2 1 1 (by decide) rfl rfl) (weak_newC 2 2 1 (by decide) rfl rfl), ?_⟩
      simp [go_sem, D.closed, D.closedL, D.er, D.erL]
    · have e1 : decide (h < 0) = false := decide_eq_false hn
      have e2 : decide (8 < h) = true := decide_eq_true (by omega)
      repeat' (first
    | with_reducible first | apply swp_seq | apply swp_reg | apply swp_regD | apply swp_block | apply swp_exit | apply swp_ret | apply swp_skip | apply swp_cd
    | with_reducible apply twp_seq
    | with_reducible apply twp_block
    | ((with_reducible refine twp_reg ?hb ?_); (case hb => exact fun _ _ => trivial); with_reducible intro _)
    | ((with_reducible refine twp_regD ?hb ?_); (case hb => exact fun _ _ => trivial); with_reducible intro _)
    | ((with_reducible refine twp_cond ?hb ?_); (case hb => exact fun _ _ => trivial); with_reducible intro _)
    | ((with_reducible refine twp_ret ?hb ?_); (case hb => exact fun _ _ => trivial))
    | simp only [go_sem, Nat.reduceAdd, Nat.reduceSub, Nat.reduceMul, Nat.reduceEqDiff, Nat.reduceLeDiff, Nat.reduceLT, Int.reduceEq, Int.reduceNe, Int.reduceLT, Int.reduceLE, Int.reduceAdd, Int.reduceSub, Int.reduceMul, Int.reduceNeg, Int.reduceToNat, Int.reduceTDiv, Int.reduceTMod, Int.reduceBEq, Int.reduceBNe, decide_true, decide_false, reduceCtorEq, reduceIte, P15, q15, q_shl, q_xor, e1, e2]
    | simp (disch := omega) only [w64, w32, wu8, wu16, wu32, wu64]
    | ((with_reducible apply s_appT); (case he => rfl); (case hK | hc | hr | hV => first | rfl | assumption | omega | ((first | refine ⟨?_, ?_⟩ | skip) <;> first | omega | (simp only [lN1, lN2, lN3, lN4, lN5, lN6, lN7] <;> omega)) | (simp [elemsK, D.isVal, D.cells, D.closedL, D.closed]; first | done | omega)))
    | ((with_reducible apply s_appG); (case he => rfl); (case hV | hK | hr | hl => first | rfl | assumption | omega | ((first | refine ⟨?_, ?_⟩ | skip) <;> first | omega | (simp only [lN1, lN2, lN3, lN4, lN5, lN6, lN7] <;> omega)) | (simp [elemsK, D.isVal, D.cells, D.closedL, D.closed]; first | done | omega)))
    | ((with_reducible apply s_app0); (case he => rfl); (case hK | hc | hr => first | rfl | assumption | omega | ((first | refine ⟨?_, ?_⟩ | skip) <;> first | omega | (simp only [lN1, lN2, lN3, lN4, lN5, lN6, lN7] <;> omega)) | (simp [elemsK, D.isVal, D.cells, D.closedL, D.closed]; first | done | omega)))
    | ((with_reducible apply s_appF); (case he => rfl); (case hK | hc | hr | hx | hn => first | rfl | assumption | omega | ((first | refine ⟨?_, ?_⟩ | skip) <;> first | omega | (simp only [lN1, lN2, lN3, lN4, lN5, lN6, lN7] <;> omega)) | (simp [elemsK, D.isVal, D.cells, D.closedL, D.closed]; first | done | omega)))
    | ((with_reducible first | apply s_bsl | apply t_bsl); (case he | hl | hc => first | rfl | assumption | omega | ((first | refine ⟨?_, ?_⟩ | skip) <;> first | omega | (simp only [lN1, lN2, lN3, lN4, lN5, lN6, lN7] <;> omega)) | (simp [elemsK, D.isVal, D.cells, D.closedL, D.closed]; first | done | omega)))
    | with_reducible first | apply cd_dec | apply cd_eq | apply cd_ne | apply cd_split | apply gd_dec | apply gd_eq | apply gd_ne | apply gd_split | apply gq_dec | apply gq_eq | apply gq_ne | apply gq_split
    | ((with_reducible refine And.intro ?hw ?_); (case hw => first | omega | rfl | exact ⟨_, _, rfl⟩ | assumption | (simp only [lN1, lN2, lN3, lN4, lN5, lN6, lN7] <;> omega)))
    | with_reducible intro _)
      all_goals try omega
      refine ⟨_, fun _ => weak_trans (weak_newC 2 1 1 (by decide) rfl rfl) (weak_newC 2 2 1 (by decide) rfl rfl), ?_⟩
      simp [go_sem, D.closed, D.closedL, D.er, D.erL]
  case pos =>
    obtain ⟨h0, h8⟩ := hh
    obtain ⟨n, rfl⟩ : ∃ n : Nat, h = n := ⟨h.toNat, by omega⟩
    have e1 : decide ((n : Int) < 0) = false := decide_eq_false (by omega)
    have e2 : decide (8 < (n : Int)) = false := decide_eq_false (by omega)
    have e3 : ((n : Nat) : Int).toNat = n := Int.toNat_natCast n
    rw [e3]
    have e4 : (2 : Int) ^ n = ((2 ^ n : Nat) : Int) := by simp
    rw [e4]
    have hw := shl_one (h := n) (by omega)
    by_cases hi : 0 ≤ i ∧ i < ((2 ^ n : Nat) : Int)
    case neg =>
      rw [if_neg (by intro q; exact hi q.2.2)]
      by_cases hn : i < 0
      · have e5 : decide (i < 0) = true := decide_eq_true hn
        generalize 2 ^ n = N at *
        repeat' (first
    | with_reducible first | apply swp_seq | apply swp_reg | apply swp_regD | apply swp_block | apply swp_exit | apply swp_ret | apply swp_skip | apply swp_cd
    | with_reducible apply twp_seq
    | with_reducible apply twp_block
    | ((with_reducible refine twp_reg ?hb ?_); (case hb => exact fun _ _ => trivial); with_reducible intro _)
    | ((with_reducible refine twp_regD ?hb ?_); (case hb => exact fun _ _ => trivial); with_reducible intro _)
    | ((with_reducible refine twp_cond ?hb ?_); (case hb => exact fun _ _ => trivial); with_reducible intro _)
    | ((with_reducible refine twp_ret ?hb ?_); (case hb => exact fun _ _ => trivial))
    | simp only [go_sem, Nat.reduceAdd, Nat.reduceSub, Nat.reduceMul, Nat.reduceEqDiff, Nat.reduceLeDiff, Nat.reduceLT, Int.reduceEq, Int.reduceNe, Int.reduceLT, Int.reduceLE, Int.reduceAdd, Int.reduceSub, Int.reduceMul, Int.reduceNeg, Int.reduceToNat, Int.reduceTDiv, Int.reduceTMod, Int.reduceBEq, Int.reduceBNe, decide_true, decide_false, reduceCtorEq, reduceIte, P15, q15, q_shl, q_xor, e1, e2, e5, hw]
    | simp (disch := omega) only [w64, w32, wu8, wu16, wu32, wu64]
    | ((with_reducible apply s_appT); (case he => rfl); (case hK | hc | hr | hV => first | rfl | assumption | omega | ((first | refine ⟨?_, ?_⟩ | skip) <;> first | omega | (simp only [lN1, lN2, lN3, lN4, lN5, lN6, lN7] <;> omega)) | (simp [elemsK, D.isVal, D.cells, D.closedL, D.closed]; first | done | omega)))
    | ((with_reducible apply s_appG); (case he => rfl); (case hV | hK | hr | hl => first | rfl | assumption | omega | ((first | refine ⟨?_, ?_⟩ | skip) <;> first | omega | (simp only [lN1, lN2, lN3, lN4, lN5, lN6, lN7] <;> omega)) | (simp [elemsK, D.isVal, D.cells, D.closedL, D.closed]; first | done | omega)))
    | ((with_reducible apply s_app0); (case he => rfl); (case hK | hc | hr => first | rfl | assumption | omega | ((first | refine ⟨?_, ?_⟩ | skip) <;> first | omega | (simp only [lN1, lN2, lN3, lN4, lN5, lN6, lN7] <;> omega)) | (simp [elemsK, D.isVal, D.cells, D.closedL, D.closed]; first | done | omega)))
    | ((with_reducible apply s_appF); (case he => rfl); (case hK | hc | hr | hx | hn => first | rfl | assumption | omega | ((first | refine ⟨?_, ?_⟩ | skip) <;> first | omega | (simp only [lN1, lN2, lN3, lN4, lN5, lN6, lN7] <;> omega)) | (simp [elemsK, D.isVal, D.cells, D.closedL, D.closed]; first | done | omega)))
    | ((with_reducible first | apply s_bsl | apply t_bsl); (case he | hl | hc => first | rfl | assumption | omega | ((first | refine ⟨?_, ?_⟩ | skip) <;> first | omega | (simp only [lN1, lN2, lN3, lN4, lN5, lN6, lN7] <;> omega)) | (simp [elemsK, D.isVal, D.cells, D.closedL, D.closed]; first | done | omega)))
    | with_reducible first | apply cd_dec | apply cd_eq | apply cd_ne | apply cd_split | apply gd_dec | apply gd_eq | apply gd_ne | apply gd_split | apply gq_dec | apply gq_eq | apply gq_ne | apply gq_split
    | ((with_reducible refine And.intro ?hw ?_); (case hw => first | omega | rfl | exact ⟨_, _, rfl⟩ | assumption | (simp only [lN1, lN2, lN3, lN4, lN5, lN6, lN7] <;> omega)))
    | with_reducible intro _)
        all_goals try omega
        refine ⟨_, fun _ => weak_trans (weak_newC 2 1 1 (by decide) rfl rfl) (weak_newC 2 2 1 (by decide) rfl rfl), ?_⟩
        simp [go_sem, D.closed, D.closedL, D.er, D.erL]
      · have e5 : decide (i < 0) = false := decide_eq_false hn
        have e6 : decide (((2 ^ n : Nat) : Int) ≤ i) = true := decide_eq_true (by omega)
        generalize 2 ^ n = N at *
        repeat' (first
    | with_reducible first | apply swp_seq | apply swp_reg | apply swp_regD | apply swp_block | apply swp_exit | apply swp_ret | apply swp_skip | apply swp_cd
    | with_reducible apply twp_seq
    | with_reducible apply twp_block
    | ((with_reducible refine twp_reg ?hb ?_); (case hb => exact fun _ _ => trivial); with_reducible intro _)
    | ((with_reducible refine twp_regD ?hb ?_); (case hb => exact fun _ _ => trivial); with_reducible intro _)
    | ((with_reducible refine twp_cond ?hb ?_); (case hb => exact fun _ _ => trivial); with_reducible intro _)
    | ((with_reducible refine twp_ret ?hb ?_); (case hb => exact fun _ _ => trivial))
    | simp only [go_sem, Nat.reduceAdd, Nat.reduceSub, Nat.reduceMul, Nat.reduceEqDiff, Nat.reduceLeDiff, Nat.reduceLT, Int.reduceEq, Int.reduceNe, Int.reduceLT, Int.reduceLE, Int.reduceAdd, Int.reduceSub, Int.reduceMul, Int.reduceNeg, Int.reduceToNat, Int.reduceTDiv, Int.reduceTMod, Int.reduceBEq, Int.reduceBNe, decide_true, decide_false, reduceCtorEq, reduceIte, P15, q15, q_shl, q_xor, e1, e2, e5, e6, hw]
    | simp (disch := omega) only [w64, w32, wu8, wu16, wu32, wu64]
    | ((with_reducible apply s_appT); (case he => rfl); (case hK | hc | hr | hV => first | rfl | assumption | omega | ((first | refine ⟨?_, ?_⟩ | skip) <;> first | omega | (simp only [lN1, lN2, lN3, lN4, lN5, lN6, lN7] <;> omega)) | (simp [elemsK, D.isVal, D.cells, D.closedL, D.closed]; first | done | omega)))
    | ((with_reducible apply s_appG); (case he => rfl); (case hV | hK | hr | hl => first | rfl | assumption | omega | ((first | refine ⟨?_, ?_⟩ | skip) <;> first | omega | (simp only [lN1, lN2, lN3, lN4, lN5, lN6, lN7] <;> omega)) | (simp [elemsK, D.isVal, D.cells, D.closedL, D.closed]; first | done | omega)))
    | ((with_reducible apply s_app0); (case he => rfl); (case hK | hc | hr => first | rfl | assumption | omega | ((first | refine ⟨?_, ?_⟩ | skip) <;> first | omega | (simp only [lN1, lN2, lN3, lN4, lN5, lN6, lN7] <;> omega)) | (simp [elemsK, D.isVal, D.cells, D.closedL, D.closed]; first | done | omega)))
    | ((with_reducible apply s_appF); (case he => rfl); (case hK | hc | hr | hx | hn => first | rfl | assumption | omega | ((first | refine ⟨?_, ?_⟩ | skip) <;> first | omega | (simp only [lN1, lN2, lN3, lN4, lN5, lN6, lN7] <;> omega)) | (simp [elemsK, D.isVal, D.cells, D.closedL, D.closed]; first | done | omega)))
    | ((with_reducible first | apply s_bsl | apply t_bsl); (case he | hl | hc => first | rfl | assumption | omega | ((first | refine ⟨?_, ?_⟩ | skip) <;> first | omega | (simp only [lN1, lN2, lN3, lN4, lN5, lN6, lN7] <;> omega)) | (simp [elemsK, D.isVal, D.cells, D.closedL, D.closed]; first | done | omega)))
    | with_reducible first | apply cd_dec | apply cd_eq | apply cd_ne | apply cd_split | apply gd_dec | apply gd_eq | apply gd_ne | apply gd_split | apply gq_dec | apply gq_eq | apply gq_ne | apply gq_split
    | ((with_reducible refine And.intro ?hw ?_); (case hw => first | omega | rfl | exact ⟨_, _, rfl⟩ | assumption | (simp only [lN1, lN2, lN3, lN4, lN5, lN6, lN7] <;> omega)))
    | with_reducible intro _)
        all_goals try omega
        refine ⟨_, fun _ => weak_trans (weak_newC 2 1 1 (by decide) rfl rfl) (weak_newC 2 2 1 (by decide) rfl rfl), ?_⟩
        simp [go_sem, D.closed, D.closedL, D.er, D.erL]
    case pos =>
      rw [if_pos ⟨h0, h8, hi⟩]
      obtain ⟨i0, i1⟩ := hi
      obtain ⟨j, rfl⟩ : ∃ j : Nat, i = j := ⟨i.toNat, by omega⟩
      have e5 : decide ((j : Int) < 0) = false := decide_eq_false (by omega)
      have e6 : decide (((2 ^ n : Nat) : Int) ≤ (j : Int)) = false := decide_eq_false (by omega)
      have e7 : ((j : Nat) : Int).toNat = j := Int.toNat_natCast j
      rw [e7]
      have hN : 2 ^ n ≤ 2 ^ 8 := Nat.pow_le_pow_right (by omega) (by omega)
      have h256 : (2 : Nat) ^ 8 = 256 := by decide
      have c1 := sdigits_p m
      have hit := digits_it m (by omega)
      have c3 := keys_p s n hs (by omega)
      have hkl := keys_len s (2 ^ n)
      have hks := keys_small s (2 ^ n)
      have hsg : sgn s n j m = ⟨(j : Nat), sigP s j m 18, pathL (keys s (2 ^ n)) j⟩ := rfl
      rw [hsg]
      generalize keys s (2 ^ n) = K at *
      have hj : j < 256 := by omega
      have hjn : j < 2 ^ n := by omega
      have hn8 : n ≤ 8 := by omega
      generalize hN2 : 2 ^ n = N at *
      repeat' (first
    | with_reducible first | apply swp_seq | apply swp_reg | apply swp_regD | apply swp_block | apply swp_exit | apply swp_ret | apply swp_skip | apply swp_cd
    | with_reducible apply twp_seq
    | with_reducible apply twp_block
    | ((with_reducible refine twp_reg ?hb ?_); (case hb => exact fun _ _ => trivial); with_reducible intro _)
    | ((with_reducible refine twp_regD ?hb ?_); (case hb => exact fun _ _ => trivial); with_reducible intro _)
    | ((with_reducible refine twp_cond ?hb ?_); (case hb => exact fun _ _ => trivial); with_reducible intro _)
    | ((with_reducible refine twp_ret ?hb ?_); (case hb => exact fun _ _ => trivial))
    | simp only [go_sem, Nat.reduceAdd, Nat.reduceSub, Nat.reduceMul, Nat.reduceEqDiff, Nat.reduceLeDiff, Nat.reduceLT, Int.reduceEq, Int.reduceNe, Int.reduceLT, Int.reduceLE, Int.reduceAdd, Int.reduceSub, Int.reduceMul, Int.reduceNeg, Int.reduceToNat, Int.reduceTDiv, Int.reduceTMod, Int.reduceBEq, Int.reduceBNe, decide_true, decide_false, reduceCtorEq, reduceIte, P15, q15, q_shl, q_xor, e1, e2, e5, e6, hw]
    | simp (disch := omega) only [w64, w32, wu8, wu16, wu32, wu64]
    | ((with_reducible first | refine o_call (c1) ?he ?hc ?_ | refine p_call (c1) ?he ?hc ?_ | refine c_call (c1) ?he ?hc ?_); (case he | hc => first | rfl | (simp [D.erL, D.er, D.closedL, D.closed]; done)))
    | ((with_reducible apply s_appT); (case he => rfl); (case hK | hc | hr | hV => first | rfl | assumption | omega | ((first | refine ⟨?_, ?_⟩ | skip) <;> first | omega | (simp only [lN1, lN2, lN3, lN4, lN5, lN6, lN7] <;> omega)) | (simp [elemsK, D.isVal, D.cells, D.closedL, D.closed]; first | done | omega)))
    | ((with_reducible apply s_appG); (case he => rfl); (case hV | hK | hr | hl => first | rfl | assumption | omega | ((first | refine ⟨?_, ?_⟩ | skip) <;> first | omega | (simp only [lN1, lN2, lN3, lN4, lN5, lN6, lN7] <;> omega)) | (simp [elemsK, D.isVal, D.cells, D.closedL, D.closed]; first | done | omega)))
    | ((with_reducible apply s_app0); (case he => rfl); (case hK | hc | hr => first | rfl | assumption | omega | ((first | refine ⟨?_, ?_⟩ | skip) <;> first | omega | (simp only [lN1, lN2, lN3, lN4, lN5, lN6, lN7] <;> omega)) | (simp [elemsK, D.isVal, D.cells, D.closedL, D.closed]; first | done | omega)))
    | ((with_reducible apply s_appF); (case he => rfl); (case hK | hc | hr | hx | hn => first | rfl | assumption | omega | ((first | refine ⟨?_, ?_⟩ | skip) <;> first | omega | (simp only [lN1, lN2, lN3, lN4, lN5, lN6, lN7] <;> omega)) | (simp [elemsK, D.isVal, D.cells, D.closedL, D.closed]; first | done | omega)))
    | ((with_reducible first | apply s_bsl | apply t_bsl); (case he | hl | hc => first | rfl | assumption | omega | ((first | refine ⟨?_, ?_⟩ | skip) <;> first | omega | (simp only [lN1, lN2, lN3, lN4, lN5, lN6, lN7] <;> omega)) | (simp [elemsK, D.isVal, D.cells, D.closedL, D.closed]; first | done | omega)))
    | with_reducible first | apply cd_dec | apply cd_eq | apply cd_ne | apply cd_split | apply gd_dec | apply gd_eq | apply gd_ne | apply gd_split | apply gq_dec | apply gq_eq | apply gq_ne | apply gq_split
    | ((with_reducible refine And.intro ?hw ?_); (case hw => first | omega | rfl | exact ⟨_, _, rfl⟩ | assumption | (simp only [lN1, lN2, lN3, lN4, lN5, lN6, lN7] <;> omega)))
    | with_reducible intro _)
      all_goals try omega
      refine twp_weak (fun _ => weak_newC 3 1 1 (by decide) rfl rfl) (show TWp C15 0 0 _ _ ⟨[.str s, .int .i64 (n : Nat), .int .i64 (j : Nat), .str m, .ptr 0 0, .ptr 1 0, .ptr 2 0, .int .i64 0, .ptr 3 0, .undef, .undef, .undef, .undef, .bool false, .fn (.func 56) [] [.ip [.str m]], .undef, .undef, .undef], [], hpS s j m 0⟩ from ?_)
      refine twp_range (fun _ _ => trivial) hit (hpS s j m) rfl ?_ rfl ?_ ?_
      · intro r hr
        obtain ⟨k, _, rfl⟩ := List.mem_map.1 hr
        rfl
      · intro k r hk
        have hlt : k < 18 := by rw [← drows_len m]; exact (List.getElem?_eq_some_iff.1 hk).1
        rw [drows_get hlt] at hk
        cases hk
        have c5 := start_p s j k hs (by omega) (by omega)
        have c6 := chain_p (start s j k) ((dgt m).getD k 0) (by rw [start_len]; omega) (by have := dgt_get m k; omega)
        have hss := sigP_succ s j m k
        have hsl := sigP_len s j m k
        simp only [hpS, hss]
        generalize chn ((dgt m).getD k 0) (start s j k) = z at *
        generalize start s j k = st at *
        generalize (dgt m).getD k 0 = d at *
        generalize hT0 : sigP s j m k = T at *
        have hT := strs_len T
        have hs2 : strs (T ++ [z]) = strs T ++ [.str z] := by simp
        rw [hs2]
        simp only [GoV.binds]
        repeat' (first
    | with_reducible first | apply swp_seq | apply swp_reg | apply swp_regD | apply swp_block | apply swp_exit | apply swp_ret | apply swp_skip | apply swp_cd
    | with_reducible apply twp_seq
    | with_reducible apply twp_block
    | ((with_reducible refine twp_reg ?hb ?_); (case hb => exact fun _ _ => trivial); with_reducible intro _)
    | ((with_reducible refine twp_regD ?hb ?_); (case hb => exact fun _ _ => trivial); with_reducible intro _)
    | ((with_reducible refine twp_cond ?hb ?_); (case hb => exact fun _ _ => trivial); with_reducible intro _)
    | ((with_reducible refine twp_ret ?hb ?_); (case hb => exact fun _ _ => trivial))
    | simp only [go_sem, Nat.reduceAdd, Nat.reduceSub, Nat.reduceMul, Nat.reduceEqDiff, Nat.reduceLeDiff, Nat.reduceLT, Int.reduceEq, Int.reduceNe, Int.reduceLT, Int.reduceLE, Int.reduceAdd, Int.reduceSub, Int.reduceMul, Int.reduceNeg, Int.reduceToNat, Int.reduceTDiv, Int.reduceTMod, Int.reduceBEq, Int.reduceBNe, decide_true, decide_false, reduceCtorEq, reduceIte, P15, q15, q_shl, q_xor]
    | simp (disch := omega) only [w64, w32, wu8, wu16, wu32, wu64]
    | ((with_reducible first | refine o_call (c5) ?he ?hc ?_ | refine p_call (c5) ?he ?hc ?_ | refine c_call (c5) ?he ?hc ?_); (case he | hc => first | rfl | (simp [D.erL, D.er, D.closedL, D.closed, hT, hsl]; done)))
    | ((with_reducible first | refine o_call (c6) ?he ?hc ?_ | refine p_call (c6) ?he ?hc ?_ | refine c_call (c6) ?he ?hc ?_); (case he | hc => first | rfl | (simp [D.erL, D.er, D.closedL, D.closed, hT, hsl]; done)))
    | ((with_reducible apply s_appT); (case he => rfl); (case hK | hc | hr | hV => first | rfl | assumption | omega | ((first | refine ⟨?_, ?_⟩ | skip) <;> first | omega | (simp only [lN1, lN2, lN3, lN4, lN5, lN6, lN7, hT, hsl] <;> omega)) | (simp [elemsK, D.isVal, D.cells, D.closedL, D.closed, hT, hsl]; first | done | omega)))
    | ((with_reducible apply s_appG); (case he => rfl); (case hV | hK | hr | hl => first | rfl | assumption | omega | ((first | refine ⟨?_, ?_⟩ | skip) <;> first | omega | (simp only [lN1, lN2, lN3, lN4, lN5, lN6, lN7, hT, hsl] <;> omega)) | (simp [elemsK, D.isVal, D.cells, D.closedL, D.closed, hT, hsl]; first | done | omega)))
    | ((with_reducible apply s_app0); (case he => rfl); (case hK | hc | hr => first | rfl | assumption | omega | ((first | refine ⟨?_, ?_⟩ | skip) <;> first | omega | (simp only [lN1, lN2, lN3, lN4, lN5, lN6, lN7, hT, hsl] <;> omega)) | (simp [elemsK, D.isVal, D.cells, D.closedL, D.closed, hT, hsl]; first | done | omega)))
    | ((with_reducible apply s_appF); (case he => rfl); (case hK | hc | hr | hx | hn => first | rfl | assumption | omega | ((first | refine ⟨?_, ?_⟩ | skip) <;> first | omega | (simp only [lN1, lN2, lN3, lN4, lN5, lN6, lN7, hT, hsl] <;> omega)) | (simp [elemsK, D.isVal, D.cells, D.closedL, D.closed, hT, hsl]; first | done | omega)))
    | ((with_reducible first | apply s_bsl | apply t_bsl); (case he | hl | hc => first | rfl | assumption | omega | ((first | refine ⟨?_, ?_⟩ | skip) <;> first | omega | (simp only [lN1, lN2, lN3, lN4, lN5, lN6, lN7, hT, hsl] <;> omega)) | (simp [elemsK, D.isVal, D.cells, D.closedL, D.closed, hT, hsl]; first | done | omega)))
    | with_reducible first | apply cd_dec | apply cd_eq | apply cd_ne | apply cd_split | apply gd_dec | apply gd_eq | apply gd_ne | apply gd_split | apply gq_dec | apply gq_eq | apply gq_ne | apply gq_split
    | ((with_reducible refine And.intro ?hw ?_); (case hw => first | omega | rfl | exact ⟨_, _, rfl⟩ | assumption | (simp only [lN1, lN2, lN3, lN4, lN5, lN6, lN7, hT, hsl] <;> omega)))
    | with_reducible intro _)
        all_goals try omega
        exact ⟨_, weak_refl, by simp [hT, hsl]⟩
      · rw [drows_len]
        have hh : hpS s j m 18 = ⟨[.cells [.str s], .cells [.int .i64 (j : Nat)], .cells [.int .i64 0, .lit (.slice none 0 0), .lit (.slice none 0 0)], .cells [.int .i64 (j : Nat), .slice (strs (sigP s j m 18)) (.tok 0), .lit (.slice none 0 0)]], [.per 1 18]⟩ := rfl
        rw [hh]
        have hcS := closed_strs (sigP s j m 18)
        have heS := erL_strs (sigP s j m 18)
        generalize sigP s j m 18 = T at *
        try simp only [List.length_cons, List.length_nil]
        repeat' (first
    | with_reducible first | apply swp_seq | apply swp_reg | apply swp_regD | apply swp_block | apply swp_exit | apply swp_ret | apply swp_skip | apply swp_cd
    | with_reducible apply twp_seq
    | with_reducible apply twp_block
    | ((with_reducible refine twp_reg ?hb ?_); (case hb => exact fun _ _ => trivial); with_reducible intro _)
    | ((with_reducible refine twp_regD ?hb ?_); (case hb => exact fun _ _ => trivial); with_reducible intro _)
    | ((with_reducible refine twp_cond ?hb ?_); (case hb => exact fun _ _ => trivial); with_reducible intro _)
    | ((with_reducible refine twp_ret ?hb ?_); (case hb => exact fun _ _ => trivial))
    | simp only [go_sem, Nat.reduceAdd, Nat.reduceSub, Nat.reduceMul, Nat.reduceEqDiff, Nat.reduceLeDiff, Nat.reduceLT, Int.reduceEq, Int.reduceNe, Int.reduceLT, Int.reduceLE, Int.reduceAdd, Int.reduceSub, Int.reduceMul, Int.reduceNeg, Int.reduceToNat, Int.reduceTDiv, Int.reduceTMod, Int.reduceBEq, Int.reduceBNe, decide_true, decide_false, reduceCtorEq, reduceIte, P15, q15, q_shl, q_xor]
    | simp (disch := omega) only [w64, w32, wu8, wu16, wu32, wu64]
    | ((with_reducible first | refine o_call (c3) ?he ?hc ?_ | refine p_call (c3) ?he ?hc ?_ | refine c_call (c3) ?he ?hc ?_); (case he | hc => first | rfl | (simp [D.erL, D.er, D.closedL, D.closed]; done)))
    | ((with_reducible apply s_appT); (case he => rfl); (case hK | hc | hr | hV => first | rfl | assumption | omega | ((first | refine ⟨?_, ?_⟩ | skip) <;> first | omega | (simp only [lN1, lN2, lN3, lN4, lN5, lN6, lN7] <;> omega)) | (simp [elemsK, D.isVal, D.cells, D.closedL, D.closed]; first | done | omega)))
    | ((with_reducible apply s_appG); (case he => rfl); (case hV | hK | hr | hl => first | rfl | assumption | omega | ((first | refine ⟨?_, ?_⟩ | skip) <;> first | omega | (simp only [lN1, lN2, lN3, lN4, lN5, lN6, lN7] <;> omega)) | (simp [elemsK, D.isVal, D.cells, D.closedL, D.closed]; first | done | omega)))
    | ((with_reducible apply s_app0); (case he => rfl); (case hK | hc | hr => first | rfl | assumption | omega | ((first | refine ⟨?_, ?_⟩ | skip) <;> first | omega | (simp only [lN1, lN2, lN3, lN4, lN5, lN6, lN7] <;> omega)) | (simp [elemsK, D.isVal, D.cells, D.closedL, D.closed]; first | done | omega)))
    | ((with_reducible apply s_appF); (case he => rfl); (case hK | hc | hr | hx | hn => first | rfl | assumption | omega | ((first | refine ⟨?_, ?_⟩ | skip) <;> first | omega | (simp only [lN1, lN2, lN3, lN4, lN5, lN6, lN7] <;> omega)) | (simp [elemsK, D.isVal, D.cells, D.closedL, D.closed]; first | done | omega)))
    | ((with_reducible first | apply s_bsl | apply t_bsl); (case he | hl | hc => first | rfl | assumption | omega | ((first | refine ⟨?_, ?_⟩ | skip) <;> first | omega | (simp only [lN1, lN2, lN3, lN4, lN5, lN6, lN7] <;> omega)) | (simp [elemsK, D.isVal, D.cells, D.closedL, D.closed]; first | done | omega)))
    | with_reducible first | apply cd_dec | apply cd_eq | apply cd_ne | apply cd_split | apply gd_dec | apply gd_eq | apply gd_ne | apply gd_split | apply gq_dec | apply gq_eq | apply gq_ne | apply gq_split
    | ((with_reducible refine And.intro ?hw ?_); (case hw => first | omega | rfl | exact ⟨_, _, rfl⟩ | assumption | (simp only [lN1, lN2, lN3, lN4, lN5, lN6, lN7] <;> omega)))
    | with_reducible intro _)
        all_goals try omega
        refine twp_weak (fun _ => weak_newC 3 2 1 (by decide) rfl rfl) ?_
        refine twp_of (fun _ _ => trivial) fun ds => ?_
        refine swp_fam [0, 1, 2, 3, 4, 5, 6, 7, 8, 11, 12] (fun p : Nat × List (List UInt8) × Nat × List (List UInt8) => ⟨[.str s, .int .i64 (n : Nat), .int .i64 (j : Nat), .str m, .ptr 0 0, .ptr 1 0, .ptr 2 0, .int .i64 0, .ptr 3 0, .undef, .undef, .slice (strs p.2.1) .no, .int .i64 p.2.2.1, .undef, .undef, .undef, .undef, .undef], [],
            ⟨[.cells [.str s], .cells [.int .i64 (j : Nat)], .cells [.int .i64 0, .lit (.slice none 0 0), .lit (.slice none 0 0)], .cells [.int .i64 (j : Nat), .slice (strs T) (.tok 0), .slice (strs p.2.2.2) (.tok 1)]], [.per 1 18, .per 1 p.2.2.2.length]⟩⟩)
          (fun p => p.1 ≤ 8 ∧ p.2.1.length = 2 ^ p.1 ∧ p.2.2.1 < 2 ^ p.1 ∧ (∀ x ∈ p.2.1, x.length ≤ 1000) ∧ p.2.2.2.length + p.1 ≤ 8 ∧ p.2.2.2 ++ pathL p.2.1 p.2.2.1 = pathL K j) (fun p => p.1) (n, K, j, []) ⟨hn8, by simp only; omega, by simp only; omega, hks, by simpa using hn8, by simp⟩ ?_ ?_
        · simp [keepE, St.keep]
        · rintro ⟨q, u, k, acc⟩ ⟨g0, g1, g2, g3, g5, g4⟩
          simp only at g0 g1 g2 g3 g4 g5 ⊢
          have hul : (strs u).length = u.length := strs_len u
          have hal : (strs acc).length = acc.length := strs_len acc
          have hp : 2 ^ q ≤ 2 ^ 8 := Nat.pow_le_pow_right (by omega) g0
          rw [h256] at hp
          rcases q with _ | q
          · have hu1 : u.length = 1 := by simpa using g1
            have hr := pathL_one (l := u) (i := k) (by omega)
            rw [hr, List.append_nil] at g4
            rw [← g4]
            have heA := erL_strs acc
            have hcA := closed_strs acc
            repeat' (first
    | with_reducible first | apply swp_seq | apply swp_reg | apply swp_regD | apply swp_block | apply swp_exit | apply swp_ret | apply swp_skip | apply swp_cd
    | with_reducible apply twp_seq
    | with_reducible apply twp_block
    | ((with_reducible refine twp_reg ?hb ?_); (case hb => exact fun _ _ => trivial); with_reducible intro _)
    | ((with_reducible refine twp_regD ?hb ?_); (case hb => exact fun _ _ => trivial); with_reducible intro _)
    | ((with_reducible refine twp_cond ?hb ?_); (case hb => exact fun _ _ => trivial); with_reducible intro _)
    | ((with_reducible refine twp_ret ?hb ?_); (case hb => exact fun _ _ => trivial))
    | simp only [go_sem, Nat.reduceAdd, Nat.reduceSub, Nat.reduceMul, Nat.reduceEqDiff, Nat.reduceLeDiff, Nat.reduceLT, Int.reduceEq, Int.reduceNe, Int.reduceLT, Int.reduceLE, Int.reduceAdd, Int.reduceSub, Int.reduceMul, Int.reduceNeg, Int.reduceToNat, Int.reduceTDiv, Int.reduceTMod, Int.reduceBEq, Int.reduceBNe, decide_true, decide_false, reduceCtorEq, reduceIte, P15, q15, hul]
    | simp (disch := omega) only [w64, w32, wu8, wu16, wu32, wu64]
    | ((with_reducible apply s_appT); (case he => rfl); (case hK | hc | hr | hV => first | rfl | assumption | omega | ((first | refine ⟨?_, ?_⟩ | skip) <;> first | omega | (simp only [lN1, lN2, lN3, lN4, lN5, lN6, lN7, hul] <;> omega)) | (simp [elemsK, D.isVal, D.cells, D.closedL, D.closed, hul]; first | done | omega)))
    | ((with_reducible apply s_appG); (case he => rfl); (case hV | hK | hr | hl => first | rfl | assumption | omega | ((first | refine ⟨?_, ?_⟩ | skip) <;> first | omega | (simp only [lN1, lN2, lN3, lN4, lN5, lN6, lN7, hul] <;> omega)) | (simp [elemsK, D.isVal, D.cells, D.closedL, D.closed, hul]; first | done | omega)))
    | ((with_reducible apply s_app0); (case he => rfl); (case hK | hc | hr => first | rfl | assumption | omega | ((first | refine ⟨?_, ?_⟩ | skip) <;> first | omega | (simp only [lN1, lN2, lN3, lN4, lN5, lN6, lN7, hul] <;> omega)) | (simp [elemsK, D.isVal, D.cells, D.closedL, D.closed, hul]; first | done | omega)))
    | ((with_reducible apply s_appF); (case he => rfl); (case hK | hc | hr | hx | hn => first | rfl | assumption | omega | ((first | refine ⟨?_, ?_⟩ | skip) <;> first | omega | (simp only [lN1, lN2, lN3, lN4, lN5, lN6, lN7, hul] <;> omega)) | (simp [elemsK, D.isVal, D.cells, D.closedL, D.closed, hul]; first | done | omega)))
    | ((with_reducible first | apply s_bsl | apply t_bsl); (case he | hl | hc => first | rfl | assumption | omega | ((first | refine ⟨?_, ?_⟩ | skip) <;> first | omega | (simp only [lN1, lN2, lN3, lN4, lN5, lN6, lN7, hul] <;> omega)) | (simp [elemsK, D.isVal, D.cells, D.closedL, D.closed, hul]; first | done | omega)))
    | with_reducible first | apply cd_dec | apply cd_eq | apply cd_ne | apply cd_split | apply gd_dec | apply gd_eq | apply gd_ne | apply gd_split | apply gq_dec | apply gq_eq | apply gq_ne | apply gq_split
    | ((with_reducible refine And.intro ?hw ?_); (case hw => first | omega | rfl | exact ⟨_, _, rfl⟩ | assumption | (simp only [lN1, lN2, lN3, lN4, lN5, lN6, lN7, hul] <;> omega)))
    | with_reducible intro _)
            all_goals try omega
            refine ⟨_, fun _ => weak_refl, ?_⟩
            simp [go_sem, D.closed, D.closedL, D.er, D.erL, hcS, heS, heA, hcA]
          · have h2 : 2 ^ (q + 1) = 2 * 2 ^ q := by rw [Nat.pow_succ, Nat.mul_comm]
            have hp2 : 0 < 2 ^ q := Nat.pow_pos (by omega)
            have h1 := above_p u (by omega) (by omega) g3
            have hr := pathL_up (l := u) (i := k) (by omega)
            have hle := up_len u
            have t2 : (k : Int).tdiv 2 = ((k / 2 : Nat) : Int) := by rw [Int.tdiv_eq_ediv_of_nonneg (by omega)]; omega
            have hx : bitsV .xor .i64 (k : Int) 1 = _ := xor_one (j := k) (by omega)
            have hlt : (if k % 2 = 0 then k + 1 else k - 1) < u.length := by split <;> omega
            have hg := strs_get (l := u) hlt
            have t3 : (((if k % 2 = 0 then k + 1 else k - 1 : Nat)) : Int).toNat = (if k % 2 = 0 then k + 1 else k - 1) := Int.toNat_natCast _
            generalize (if k % 2 = 0 then k + 1 else k - 1) = e at *
            generalize u.getD e [] = x at *
            repeat' (first
    | with_reducible first | apply swp_seq | apply swp_reg | apply swp_regD | apply swp_block | apply swp_exit | apply swp_ret | apply swp_skip | apply swp_cd
    | with_reducible apply twp_seq
    | with_reducible apply twp_block
    | ((with_reducible refine twp_reg ?hb ?_); (case hb => exact fun _ _ => trivial); with_reducible intro _)
    | ((with_reducible refine twp_regD ?hb ?_); (case hb => exact fun _ _ => trivial); with_reducible intro _)
    | ((with_reducible refine twp_cond ?hb ?_); (case hb => exact fun _ _ => trivial); with_reducible intro _)
    | ((with_reducible refine twp_ret ?hb ?_); (case hb => exact fun _ _ => trivial))
    | simp only [go_sem, Nat.reduceAdd, Nat.reduceSub, Nat.reduceMul, Nat.reduceEqDiff, Nat.reduceLeDiff, Nat.reduceLT, Int.reduceEq, Int.reduceNe, Int.reduceLT, Int.reduceLE, Int.reduceAdd, Int.reduceSub, Int.reduceMul, Int.reduceNeg, Int.reduceToNat, Int.reduceTDiv, Int.reduceTMod, Int.reduceBEq, Int.reduceBNe, decide_true, decide_false, reduceCtorEq, reduceIte, P15, q15, q_xor, hx, hul, t2, t3, hg]
    | simp (disch := omega) only [w64, w32, wu8, wu16, wu32, wu64]
    | ((with_reducible first | refine o_call (h1) ?he ?hc ?_ | refine p_call (h1) ?he ?hc ?_ | refine c_call (h1) ?he ?hc ?_); (case he | hc => first | rfl | (simp [D.erL, D.er, D.closedL, D.closed, hul, hal]; done)))
    | ((with_reducible apply s_appT); (case he => rfl); (case hK | hc | hr | hV => first | rfl | assumption | omega | ((first | refine ⟨?_, ?_⟩ | skip) <;> first | omega | (simp only [lN1, lN2, lN3, lN4, lN5, lN6, lN7, hul, hal] <;> omega)) | (simp [elemsK, D.isVal, D.cells, D.closedL, D.closed, hul, hal]; first | done | omega)))
    | ((with_reducible apply s_appG); (case he => rfl); (case hV | hK | hr | hl => first | rfl | assumption | omega | ((first | refine ⟨?_, ?_⟩ | skip) <;> first | omega | (simp only [lN1, lN2, lN3, lN4, lN5, lN6, lN7, hul, hal] <;> omega)) | (simp [elemsK, D.isVal, D.cells, D.closedL, D.closed, hul, hal]; first | done | omega)))
    | ((with_reducible apply s_app0); (case he => rfl); (case hK | hc | hr => first | rfl | assumption | omega | ((first | refine ⟨?_, ?_⟩ | skip) <;> first | omega | (simp only [lN1, lN2, lN3, lN4, lN5, lN6, lN7, hul, hal] <;> omega)) | (simp [elemsK, D.isVal, D.cells, D.closedL, D.closed, hul, hal]; first | done | omega)))
    | ((with_reducible apply s_appF); (case he => rfl); (case hK | hc | hr | hx | hn => first | rfl | assumption | omega | ((first | refine ⟨?_, ?_⟩ | skip) <;> first | omega | (simp only [lN1, lN2, lN3, lN4, lN5, lN6, lN7, hul, hal] <;> omega)) | (simp [elemsK, D.isVal, D.cells, D.closedL, D.closed, hul, hal]; first | done | omega)))
    | ((with_reducible first | apply s_bsl | apply t_bsl); (case he | hl | hc => first | rfl | assumption | omega | ((first | refine ⟨?_, ?_⟩ | skip) <;> first | omega | (simp only [lN1, lN2, lN3, lN4, lN5, lN6, lN7, hul, hal] <;> omega)) | (simp [elemsK, D.isVal, D.cells, D.closedL, D.closed, hul, hal]; first | done | omega)))
    | with_reducible first | apply cd_dec | apply cd_eq | apply cd_ne | apply cd_split | apply gd_dec | apply gd_eq | apply gd_ne | apply gd_split | apply gq_dec | apply gq_eq | apply gq_ne | apply gq_split
    | ((with_reducible refine And.intro ?hw ?_); (case hw => first | omega | rfl | exact ⟨_, _, rfl⟩ | assumption | (simp only [lN1, lN2, lN3, lN4, lN5, lN6, lN7, hul, hal] <;> omega)))
    | with_reducible intro _)
            all_goals try omega
            refine ⟨(q, up u, k / 2, acc ++ [x]), ⟨by simp only; omega, by simp only; omega, by simp only; omega, up_small u, by simp only [List.length_append, List.length_cons, List.length_nil]; omega, by simp only; rw [← g4, hr]; simp⟩, by simp only; omega, ?_⟩
            simp [keepE, St.keep, strs]
            try omega
end Go.Proofs.YtgjkhlnpplajjaaDoor
end
section
set_option maxRecDepth 100000
set_option linter.unusedSimpArgs false
set_option linter.unusedVariables false
namespace Go.Proofs.YtgjkhlnpplajjaaDoor
open Go GoV Go.RowKit
structure SmallS (x : Seal) : Prop where
  sl : x.sig.length ≤ 1000
  sx : ∀ t ∈ x.sig, t.length ≤ 1000
  pl : x.path.length ≤ 1000
  px : ∀ t ∈ x.path, t.length ≤ 1000
def endsV (m : List UInt8) (g : List (List UInt8)) (k : Nat) : List (List UInt8) := (List.range k).map fun k => chn (15 - (dgt m).getD k 0) (g.getD k [])
theorem endsV_len (m : List UInt8) (g : List (List UInt8)) (k : Nat) : (endsV m g k).length = k := by simp [endsV]
theorem endsV_succ (m : List UInt8) (g : List (List UInt8)) (k : Nat) : endsV m g (k + 1) = endsV m g k ++ [chn (15 - (dgt m).getD k 0) (g.getD k [])] := by simp [endsV, List.range_succ]
theorem endsV_all (m : List UInt8) (g : List (List UInt8)) : endsV m g 18 = ends' m g := rfl
theorem isD_len {t : List UInt8} (h : isD t = true) : t.length = 16 := by
  unfold isD at h
  simp only [Bool.and_eq_true, decide_eq_true_eq, beq_iff_eq] at h
  exact h.1
theorem okL_ends' {m : List UInt8} {g : List (List UInt8)} (h : ∀ t ∈ g, t.length ≤ 1000) : okL (ends' m g) := by
  refine ⟨by simp [ends'], fun t ht => ?_⟩
  obtain ⟨k, _, rfl⟩ := List.mem_map.1 ht
  by_cases e : 15 - (dgt m).getD k 0 = 0
  · rw [e]; exact get_small h
  · rw [chn_len e]; omega
theorem climb_len {p : List (List UInt8)} {a : List UInt8} {i : Nat} (ha : a.length = 16) : (climb a p i).length = 16 := by
  induction p generalizing a i with
  | nil => exact ha
  | cons x p ih => exact ih (by rw [par_sum]; exact sumN_len _)
theorem shr_nat {j k : Nat} (hk : k ≤ 40) : ((j : Nat) : Int).fdiv (2 ^ (min k 64)) = ((j / 2 ^ k : Nat) : Int) := by
  rw [Nat.min_eq_left (by omega), Int.fdiv_eq_ediv_of_nonneg _ (by exact_mod_cast Nat.zero_le _)]
  simp
def hpV (x : Seal) (m : List UInt8) (k : Nat) : Hp :=
  ⟨[.cells [.int .i64 x.idx, .slice (strs x.sig) .no, .slice (strs x.path) .no], .cells [.slice (strs (endsV m x.sig k)) (.tok 0)]], [.per 1 k]⟩
set_option maxHeartbeats 4000000 in
theorem verify_p (p m : List UInt8) (x : Seal) (hx : SmallS x) (hm : m.length ≤ 300) : Pur M 18 [.str p, .str m, sealD x] (.bool (ver p m x)) := by
  refine oT18 rfl ?_
  rw [i18]
  unfold c18 sealD
  have hsl := strs_len x.sig
  have hpl := strs_len x.path
  have heS := erL_strs x.sig
  have hcS := closed_strs x.sig
  have heP := erL_strs x.path
  have hcP := closed_strs x.path
  have o1 := odd_p x.sig hx.sl hx.sx
  have o2 := odd_p x.path hx.pl hx.px
  by_cases q1 : x.sig.length = 18
  case neg =>
    have hf : ver p m x = false := by unfold ver okS; simp [q1]
    rw [hf]
    have e1 : decide (((x.sig.length : Nat) : Int) ≠ 18) = true := decide_eq_true (by omega)
    generalize strs x.sig = S at *
    generalize strs x.path = P at *
    repeat' (first
    | with_reducible first | apply swp_seq | apply swp_reg | apply swp_regD | apply swp_block | apply swp_exit | apply swp_ret | apply swp_skip | apply swp_cd
    | with_reducible apply twp_seq
    | with_reducible apply twp_block
    | ((with_reducible refine twp_reg ?hb ?_); (case hb => exact fun _ _ => trivial); with_reducible intro _)
    | ((with_reducible refine twp_regD ?hb ?_); (case hb => exact fun _ _ => trivial); with_reducible intro _)
    | ((with_reducible refine twp_cond ?hb ?_); (case hb => exact fun _ _ => trivial); with_reducible intro _)
    | ((with_reducible refine twp_ret ?hb ?_); (case hb => exact fun _ _ => trivial))
    | simp only [go_sem, Nat.reduceAdd, Nat.reduceSub, Nat.reduceMul, Nat.reduceEqDiff, Nat.reduceLeDiff, Nat.reduceLT, Int.reduceEq, Int.reduceNe, Int.reduceLT, Int.reduceLE, Int.reduceAdd, Int.reduceSub, Int.reduceMul, Int.reduceNeg, Int.reduceToNat, Int.reduceTDiv, Int.reduceTMod, Int.reduceBEq, Int.reduceBNe, decide_true, decide_false, reduceCtorEq, reduceIte, P18, q18, q_shl, hsl, hpl, e1]
    | simp (disch := omega) only [w64, w32, wu8, wu16, wu32, wu64]
    | ((with_reducible apply s_appT); (case he => rfl); (case hK | hc | hr | hV => first | rfl | assumption | omega | ((first | refine ⟨?_, ?_⟩ | skip) <;> first | omega | (simp only [lN1, lN2, lN3, lN4, lN5, lN6, lN7, heS, hcS, heP, hcP] <;> omega)) | (simp [elemsK, D.isVal, D.cells, D.closedL, D.closed, heS, hcS, heP, hcP]; first | done | omega)))
    | ((with_reducible apply s_appG); (case he => rfl); (case hV | hK | hr | hl => first | rfl | assumption | omega | ((first | refine ⟨?_, ?_⟩ | skip) <;> first | omega | (simp only [lN1, lN2, lN3, lN4, lN5, lN6, lN7, heS, hcS, heP, hcP] <;> omega)) | (simp [elemsK, D.isVal, D.cells, D.closedL, D.closed, heS, hcS, heP, hcP]; first | done | omega)))
    | ((with_reducible apply s_app0); (case he => rfl); (case hK | hc | hr => first | rfl | assumption | omega | ((first | refine ⟨?_, ?_⟩ | skip) <;> first | omega | (simp only [lN1, lN2, lN3, lN4, lN5, lN6, lN7, heS, hcS, heP, hcP] <;> omega)) | (simp [elemsK, D.isVal, D.cells, D.closedL, D.closed, heS, hcS, heP, hcP]; first | done | omega)))
    | ((with_reducible apply s_appF); (case he => rfl); (case hK | hc | hr | hx | hn => first | rfl | assumption | omega | ((first | refine ⟨?_, ?_⟩ | skip) <;> first | omega | (simp only [lN1, lN2, lN3, lN4, lN5, lN6, lN7, heS, hcS, heP, hcP] <;> omega)) | (simp [elemsK, D.isVal, D.cells, D.closedL, D.closed, heS, hcS, heP, hcP]; first | done | omega)))
    | ((with_reducible first | apply s_bsl | apply t_bsl); (case he | hl | hc => first | rfl | assumption | omega | ((first | refine ⟨?_, ?_⟩ | skip) <;> first | omega | (simp only [lN1, lN2, lN3, lN4, lN5, lN6, lN7, heS, hcS, heP, hcP] <;> omega)) | (simp [elemsK, D.isVal, D.cells, D.closedL, D.closed, heS, hcS, heP, hcP]; first | done | omega)))
    | with_reducible first | apply cd_dec | apply cd_eq | apply cd_ne | apply cd_split | apply gd_dec | apply gd_eq | apply gd_ne | apply gd_split | apply gq_dec | apply gq_eq | apply gq_ne | apply gq_split
    | ((with_reducible refine And.intro ?hw ?_); (case hw => first | omega | rfl | exact ⟨_, _, rfl⟩ | assumption | (simp only [lN1, lN2, lN3, lN4, lN5, lN6, lN7, heS, hcS, heP, hcP] <;> omega)))
    | with_reducible intro _)
    all_goals try omega
    refine ⟨_, fun _ => weak_refl, ?_⟩
    simp [go_sem, D.closed, D.er]
  case pos =>
  rw [q1] at hsl
  by_cases q2 : x.path.length ≤ 8
  case neg =>
    have hf : ver p m x = false := by unfold ver okS; simp [q2]
    rw [hf]
    have e2 : decide (8 < ((x.path.length : Nat) : Int)) = true := decide_eq_true (by omega)
    generalize strs x.sig = S at *
    generalize strs x.path = P at *
    repeat' (first
    | with_reducible first | apply swp_seq | apply swp_reg | apply swp_regD | apply swp_block | apply swp_exit | apply swp_ret | apply swp_skip | apply swp_cd
    | with_reducible apply twp_seq
    | with_reducible apply twp_block
    | ((with_reducible refine twp_reg ?hb ?_); (case hb => exact fun _ _ => trivial); with_reducible intro _)
    | ((with_reducible refine twp_regD ?hb ?_); (case hb => exact fun _ _ => trivial); with_reducible intro _)
    | ((with_reducible refine twp_cond ?hb ?_); (case hb => exact fun _ _ => trivial); with_reducible intro _)
    | ((with_reducible refine twp_ret ?hb ?_); (case hb => exact fun _ _ => trivial))
    | simp only [go_sem, Nat.reduceAdd, Nat.reduceSub, Nat.reduceMul, Nat.reduceEqDiff, Nat.reduceLeDiff, Nat.reduceLT, Int.reduceEq, Int.reduceNe, Int.reduceLT, Int.reduceLE, Int.reduceAdd, Int.reduceSub, Int.reduceMul, Int.reduceNeg, Int.reduceToNat, Int.reduceTDiv, Int.reduceTMod, Int.reduceBEq, Int.reduceBNe, decide_true, decide_false, reduceCtorEq, reduceIte, P18, q18, q_shl, hsl, hpl, e2]
    | simp (disch := omega) only [w64, w32, wu8, wu16, wu32, wu64]
    | ((with_reducible apply s_appT); (case he => rfl); (case hK | hc | hr | hV => first | rfl | assumption | omega | ((first | refine ⟨?_, ?_⟩ | skip) <;> first | omega | (simp only [lN1, lN2, lN3, lN4, lN5, lN6, lN7, heS, hcS, heP, hcP] <;> omega)) | (simp [elemsK, D.isVal, D.cells, D.closedL, D.closed, heS, hcS, heP, hcP]; first | done | omega)))
    | ((with_reducible apply s_appG); (case he => rfl); (case hV | hK | hr | hl => first | rfl | assumption | omega | ((first | refine ⟨?_, ?_⟩ | skip) <;> first | omega | (simp only [lN1, lN2, lN3, lN4, lN5, lN6, lN7, heS, hcS, heP, hcP] <;> omega)) | (simp [elemsK, D.isVal, D.cells, D.closedL, D.closed, heS, hcS, heP, hcP]; first | done | omega)))
    | ((with_reducible apply s_app0); (case he => rfl); (case hK | hc | hr => first | rfl | assumption | omega | ((first | refine ⟨?_, ?_⟩ | skip) <;> first | omega | (simp only [lN1, lN2, lN3, lN4, lN5, lN6, lN7, heS, hcS, heP, hcP] <;> omega)) | (simp [elemsK, D.isVal, D.cells, D.closedL, D.closed, heS, hcS, heP, hcP]; first | done | omega)))
    | ((with_reducible apply s_appF); (case he => rfl); (case hK | hc | hr | hx | hn => first | rfl | assumption | omega | ((first | refine ⟨?_, ?_⟩ | skip) <;> first | omega | (simp only [lN1, lN2, lN3, lN4, lN5, lN6, lN7, heS, hcS, heP, hcP] <;> omega)) | (simp [elemsK, D.isVal, D.cells, D.closedL, D.closed, heS, hcS, heP, hcP]; first | done | omega)))
    | ((with_reducible first | apply s_bsl | apply t_bsl); (case he | hl | hc => first | rfl | assumption | omega | ((first | refine ⟨?_, ?_⟩ | skip) <;> first | omega | (simp only [lN1, lN2, lN3, lN4, lN5, lN6, lN7, heS, hcS, heP, hcP] <;> omega)) | (simp [elemsK, D.isVal, D.cells, D.closedL, D.closed, heS, hcS, heP, hcP]; first | done | omega)))
    | with_reducible first | apply cd_dec | apply cd_eq | apply cd_ne | apply cd_split | apply gd_dec | apply gd_eq | apply gd_ne | apply gd_split | apply gq_dec | apply gq_eq | apply gq_ne | apply gq_split
    | ((with_reducible refine And.intro ?hw ?_); (case hw => first | omega | rfl | exact ⟨_, _, rfl⟩ | assumption | (simp only [lN1, lN2, lN3, lN4, lN5, lN6, lN7, heS, hcS, heP, hcP] <;> omega)))
    | with_reducible intro _)
    all_goals try omega
    refine ⟨_, fun _ => weak_refl, ?_⟩
    simp [go_sem, D.closed, D.er]
  case pos =>
  have e2 : decide (8 < ((x.path.length : Nat) : Int)) = false := decide_eq_false (by omega)
  by_cases q3 : x.sig.all isD = true
  case neg =>
    have hf : ver p m x = false := by unfold ver okS; simp [q3]
    rw [hf]
    have q3' : x.sig.all isD = false := by simpa using q3
    rw [q3'] at o1
    generalize strs x.sig = S at *
    generalize strs x.path = P at *
    repeat' (first
    | with_reducible first | apply swp_seq | apply swp_reg | apply swp_regD | apply swp_block | apply swp_exit | apply swp_ret | apply swp_skip | apply swp_cd
    | with_reducible apply twp_seq
    | with_reducible apply twp_block
    | ((with_reducible refine twp_reg ?hb ?_); (case hb => exact fun _ _ => trivial); with_reducible intro _)
    | ((with_reducible refine twp_regD ?hb ?_); (case hb => exact fun _ _ => trivial); with_reducible intro _)
    | ((with_reducible refine twp_cond ?hb ?_); (case hb => exact fun _ _ => trivial); with_reducible intro _)
    | ((with_reducible refine twp_ret ?hb ?_); (case hb => exact fun _ _ => trivial))
    | simp only [go_sem, Nat.reduceAdd, Nat.reduceSub, Nat.reduceMul, Nat.reduceEqDiff, Nat.reduceLeDiff, Nat.reduceLT, Int.reduceEq, Int.reduceNe, Int.reduceLT, Int.reduceLE, Int.reduceAdd, Int.reduceSub, Int.reduceMul, Int.reduceNeg, Int.reduceToNat, Int.reduceTDiv, Int.reduceTMod, Int.reduceBEq, Int.reduceBNe, decide_true, decide_false, reduceCtorEq, reduceIte, P18, q18, q_shl, hsl, hpl, e2]
    | simp (disch := omega) only [w64, w32, wu8, wu16, wu32, wu64]
    | ((with_reducible first | refine o_call (o1) ?he ?hc ?_ | refine p_call (o1) ?he ?hc ?_ | refine c_call (o1) ?he ?hc ?_); (case he | hc => first | rfl | (simp [D.erL, D.er, D.closedL, D.closed, heS, hcS, heP, hcP]; done)))
    | ((with_reducible apply s_appT); (case he => rfl); (case hK | hc | hr | hV => first | rfl | assumption | omega | ((first | refine ⟨?_, ?_⟩ | skip) <;> first | omega | (simp only [lN1, lN2, lN3, lN4, lN5, lN6, lN7, heS, hcS, heP, hcP] <;> omega)) | (simp [elemsK, D.isVal, D.cells, D.closedL, D.closed, heS, hcS, heP, hcP]; first | done | omega)))
    | ((with_reducible apply s_appG); (case he => rfl); (case hV | hK | hr | hl => first | rfl | assumption | omega | ((first | refine ⟨?_, ?_⟩ | skip) <;> first | omega | (simp only [lN1, lN2, lN3, lN4, lN5, lN6, lN7, heS, hcS, heP, hcP] <;> omega)) | (simp [elemsK, D.isVal, D.cells, D.closedL, D.closed, heS, hcS, heP, hcP]; first | done | omega)))
    | ((with_reducible apply s_app0); (case he => rfl); (case hK | hc | hr => first | rfl | assumption | omega | ((first | refine ⟨?_, ?_⟩ | skip) <;> first | omega | (simp only [lN1, lN2, lN3, lN4, lN5, lN6, lN7, heS, hcS, heP, hcP] <;> omega)) | (simp [elemsK, D.isVal, D.cells, D.closedL, D.closed, heS, hcS, heP, hcP]; first | done | omega)))
    | ((with_reducible apply s_appF); (case he => rfl); (case hK | hc | hr | hx | hn => first | rfl | assumption | omega | ((first | refine ⟨?_, ?_⟩ | skip) <;> first | omega | (simp only [lN1, lN2, lN3, lN4, lN5, lN6, lN7, heS, hcS, heP, hcP] <;> omega)) | (simp [elemsK, D.isVal, D.cells, D.closedL, D.closed, heS, hcS, heP, hcP]; first | done | omega)))
    | ((with_reducible first | apply s_bsl | apply t_bsl); (case he | hl | hc => first | rfl | assumption | omega | ((first | refine ⟨?_, ?_⟩ | skip) <;> first | omega | (simp only [lN1, lN2, lN3, lN4, lN5, lN6, lN7, heS, hcS, heP, hcP] <;> omega)) | (simp [elemsK, D.isVal, D.cells, D.closedL, D.closed, heS, hcS, heP, hcP]; first | done | omega)))
    | with_reducible first | apply cd_dec | apply cd_eq | apply cd_ne | apply cd_split | apply gd_dec | apply gd_eq | apply gd_ne | apply gd_split | apply gq_dec | apply gq_eq | apply gq_ne | apply gq_split
    | ((with_reducible refine And.intro ?hw ?_); (case hw => first | omega | rfl | exact ⟨_, _, rfl⟩ | assumption | (simp only [lN1, lN2, lN3, lN4, lN5, lN6, lN7, heS, hcS, heP, hcP] <;> omega)))
    | with_reducible intro _)
    all_goals try omega
    refine ⟨_, fun _ => weak_refl, ?_⟩
    simp [go_sem, D.closed, D.er]
  case pos =>
  rw [q3] at o1
  by_cases q4 : x.path.all isD = true
  case neg =>
    have hf : ver p m x = false := by unfold ver okS; simp [q4]
    rw [hf]
    have q4' : x.path.all isD = false := by simpa using q4
    rw [q4'] at o2
    generalize strs x.sig = S at *
    generalize strs x.path = P at *
    repeat' (first
    | with_reducible first | apply swp_seq | apply swp_reg | apply swp_regD | apply swp_block | apply swp_exit | apply swp_ret | apply swp_skip | apply swp_cd
    | with_reducible apply twp_seq
    | with_reducible apply twp_block
    | ((with_reducible refine twp_reg ?hb ?_); (case hb => exact fun _ _ => trivial); with_reducible intro _)
    | ((with_reducible refine twp_regD ?hb ?_); (case hb => exact fun _ _ => trivial); with_reducible intro _)
    | ((with_reducible refine twp_cond ?hb ?_); (case hb => exact fun _ _ => trivial); with_reducible intro _)
    | ((with_reducible refine twp_ret ?hb ?_); (case hb => exact fun _ _ => trivial))
    | simp only [go_sem, Nat.reduceAdd, Nat.reduceSub, Nat.reduceMul, Nat.reduceEqDiff, Nat.reduceLeDiff, Nat.reduceLT, Int.reduceEq, Int.reduceNe, Int.reduceLT, Int.reduceLE, Int.reduceAdd, Int.reduceSub, Int.reduceMul, Int.reduceNeg, Int.reduceToNat, Int.reduceTDiv, Int.reduceTMod, Int.reduceBEq, Int.reduceBNe, decide_true, decide_false, reduceCtorEq, reduceIte, P18, q18, q_shl, hsl, hpl, e2]
    | simp (disch := omega) only [w64, w32, wu8, wu16, wu32, wu64]
    | ((with_reducible first | refine o_call (o1) ?he ?hc ?_ | refine p_call (o1) ?he ?hc ?_ | refine c_call (o1) ?he ?hc ?_); (case he | hc => first | rfl | (simp [D.erL, D.er, D.closedL, D.closed, heS, hcS, heP, hcP]; done)))
    | ((with_reducible first | refine o_call (o2) ?he ?hc ?_ | refine p_call (o2) ?he ?hc ?_ | refine c_call (o2) ?he ?hc ?_); (case he | hc => first | rfl | (simp [D.erL, D.er, D.closedL, D.closed, heS, hcS, heP, hcP]; done)))
    | ((with_reducible apply s_appT); (case he => rfl); (case hK | hc | hr | hV => first | rfl | assumption | omega | ((first | refine ⟨?_, ?_⟩ | skip) <;> first | omega | (simp only [lN1, lN2, lN3, lN4, lN5, lN6, lN7, heS, hcS, heP, hcP] <;> omega)) | (simp [elemsK, D.isVal, D.cells, D.closedL, D.closed, heS, hcS, heP, hcP]; first | done | omega)))
    | ((with_reducible apply s_appG); (case he => rfl); (case hV | hK | hr | hl => first | rfl | assumption | omega | ((first | refine ⟨?_, ?_⟩ | skip) <;> first | omega | (simp only [lN1, lN2, lN3, lN4, lN5, lN6, lN7, heS, hcS, heP, hcP] <;> omega)) | (simp [elemsK, D.isVal, D.cells, D.closedL, D.closed, heS, hcS, heP, hcP]; first | done | omega)))
    | ((with_reducible apply s_app0); (case he => rfl); (case hK | hc | hr => first | rfl | assumption | omega | ((first | refine ⟨?_, ?_⟩ | skip) <;> first | omega | (simp only [lN1, lN2, lN3, lN4, lN5, lN6, lN7, heS, hcS, heP, hcP] <;> omega)) | (simp [elemsK, D.isVal, D.cells, D.closedL, D.closed, heS, hcS, heP, hcP]; first | done | omega)))
    | ((with_reducible apply s_appF); (case he => rfl); (case hK | hc | hr | hx | hn => first | rfl | assumption | omega | ((first | refine ⟨?_, ?_⟩ | skip) <;> first | omega | (simp only [lN1, lN2, lN3, lN4, lN5, lN6, lN7, heS, hcS, heP, hcP] <;> omega)) | (simp [elemsK, D.isVal, D.cells, D.closedL, D.closed, heS, hcS, heP, hcP]; first | done | omega)))
    | ((with_reducible first | apply s_bsl | apply t_bsl); (case he | hl | hc => first | rfl | assumption | omega | ((first | refine ⟨?_, ?_⟩ | skip) <;> first | omega | (simp only [lN1, lN2, lN3, lN4, lN5, lN6, lN7, heS, hcS, heP, hcP] <;> omega)) | (simp [elemsK, D.isVal, D.cells, D.closedL, D.closed, heS, hcS, heP, hcP]; first | done | omega)))
    | with_reducible first | apply cd_dec | apply cd_eq | apply cd_ne | apply cd_split | apply gd_dec | apply gd_eq | apply gd_ne | apply gd_split | apply gq_dec | apply gq_eq | apply gq_ne | apply gq_split
    | ((with_reducible refine And.intro ?hw ?_); (case hw => first | omega | rfl | exact ⟨_, _, rfl⟩ | assumption | (simp only [lN1, lN2, lN3, lN4, lN5, lN6, lN7, heS, hcS, heP, hcP] <;> omega)))
    | with_reducible intro _)
    all_goals try omega
    refine ⟨_, fun _ => weak_refl, ?_⟩
    simp [go_sem, D.closed, D.er]
  case pos =>
  rw [q4] at o2
  by_cases q5 : 0 ≤ x.idx
  case neg =>
    have hf : ver p m x = false := by unfold ver okS; simp [q5]
    rw [hf]
    have e5 : decide (x.idx < 0) = true := decide_eq_true (by omega)
    generalize strs x.sig = S at *
    generalize strs x.path = P at *
    repeat' (first
    | with_reducible first | apply swp_seq | apply swp_reg | apply swp_regD | apply swp_block | apply swp_exit | apply swp_ret | apply swp_skip | apply swp_cd
    | with_reducible apply twp_seq
    | with_reducible apply twp_block
    | ((with_reducible refine twp_reg ?hb ?_); (case hb => exact fun _ _ => trivial); with_reducible intro _)
    | ((with_reducible refine twp_regD ?hb ?_); (case hb => exact fun _ _ => trivial); with_reducible intro _)
    | ((with_reducible refine twp_cond ?hb ?_); (case hb => exact fun _ _ => trivial); with_reducible intro _)
    | ((with_reducible refine twp_ret ?hb ?_); (case hb => exact fun _ _ => trivial))
    | simp only [go_sem, Nat.reduceAdd, Nat.reduceSub, Nat.reduceMul, Nat.reduceEqDiff, Nat.reduceLeDiff, Nat.reduceLT, Int.reduceEq, Int.reduceNe, Int.reduceLT, Int.reduceLE, Int.reduceAdd, Int.reduceSub, Int.reduceMul, Int.reduceNeg, Int.reduceToNat, Int.reduceTDiv, Int.reduceTMod, Int.reduceBEq, Int.reduceBNe, decide_true, decide_false, reduceCtorEq, reduceIte, P18, q18, q_shl, hsl, hpl, e2, e5]
    | simp (disch := omega) only [w64, w32, wu8, wu16, wu32, wu64]
    | ((with_reducible first | refine o_call (o1) ?he ?hc ?_ | refine p_call (o1) ?he ?hc ?_ | refine c_call (o1) ?he ?hc ?_); (case he | hc => first | rfl | (simp [D.erL, D.er, D.closedL, D.closed, heS, hcS, heP, hcP]; done)))
    | ((with_reducible first | refine o_call (o2) ?he ?hc ?_ | refine p_call (o2) ?he ?hc ?_ | refine c_call (o2) ?he ?hc ?_); (case he | hc => first | rfl | (simp [D.erL, D.er, D.closedL, D.closed, heS, hcS, heP, hcP]; done)))
    | ((with_reducible apply s_appT); (case he => rfl); (case hK | hc | hr | hV => first | rfl | assumption | omega | ((first | refine ⟨?_, ?_⟩ | skip) <;> first | omega | (simp only [lN1, lN2, lN3, lN4, lN5, lN6, lN7, heS, hcS, heP, hcP] <;> omega)) | (simp [elemsK, D.isVal, D.cells, D.closedL, D.closed, heS, hcS, heP, hcP]; first | done | omega)))
    | ((with_reducible apply s_appG); (case he => rfl); (case hV | hK | hr | hl => first | rfl | assumption | omega | ((first | refine ⟨?_, ?_⟩ | skip) <;> first | omega | (simp only [lN1, lN2, lN3, lN4, lN5, lN6, lN7, heS, hcS, heP, hcP] <;> omega)) | (simp [elemsK, D.isVal, D.cells, D.closedL, D.closed, heS, hcS, heP, hcP]; first | done | omega)))
    | ((with_reducible apply s_app0); (case he => rfl); (case hK | hc | hr => first | rfl | assumption | omega | ((first | refine ⟨?_, ?_⟩ | skip) <;> first | omega | (simp only [lN1, lN2, lN3, lN4, lN5, lN6, lN7, heS, hcS, heP, hcP] <;> omega)) | (simp [elemsK, D.isVal, D.cells, D.closedL, D.closed, heS, hcS, heP, hcP]; first | done | omega)))
    | ((with_reducible apply s_appF); (case he => rfl); (case hK | hc | hr | hx | hn => first | rfl | assumption | omega | ((first | refine ⟨?_, ?_⟩ | skip) <;> first | omega | (simp only [lN1, lN2, lN3, lN4, lN5, lN6, lN7, heS, hcS, heP, hcP] <;> omega)) | (simp [elemsK, D.isVal, D.cells, D.closedL, D.closed, heS, hcS, heP, hcP]; first | done | omega)))
    | ((with_reducible first | apply s_bsl | apply t_bsl); (case he | hl | hc => first | rfl | assumption | omega | ((first | refine ⟨?_, ?_⟩ | skip) <;> first | omega | (simp only [lN1, lN2, lN3, lN4, lN5, lN6, lN7, heS, hcS, heP, hcP] <;> omega)) | (simp [elemsK, D.isVal, D.cells, D.closedL, D.closed, heS, hcS, heP, hcP]; first | done | omega)))
    | with_reducible first | apply cd_dec | apply cd_eq | apply cd_ne | apply cd_split | apply gd_dec | apply gd_eq | apply gd_ne | apply gd_split | apply gq_dec | apply gq_eq | apply gq_ne | apply gq_split
    | ((with_reducible refine And.intro ?hw ?_); (case hw => first | omega | rfl | exact ⟨_, _, rfl⟩ | assumption | (simp only [lN1, lN2, lN3, lN4, lN5, lN6, lN7, heS, hcS, heP, hcP] <;> omega)))
    | with_reducible intro _)
    all_goals try omega
    refine ⟨_, fun _ => weak_refl, ?_⟩
    simp [go_sem, D.closed, D.er]
  case pos =>
  have e5 : decide (x.idx < 0) = false := decide_eq_false (by omega)
  have hw := shl_one (h := x.path.length) (by omega)
  have e4 : (2 : Int) ^ x.path.length = ((2 ^ x.path.length : Nat) : Int) := by simp
  by_cases q6 : x.idx < ((2 ^ x.path.length : Nat) : Int)
  case neg =>
    have hf : ver p m x = false := by unfold ver okS; rw [e4, decide_eq_false q6, Bool.and_false, Bool.false_and]
    rw [hf]
    have e6 : decide (((2 ^ x.path.length : Nat) : Int) ≤ x.idx) = true := decide_eq_true (by omega)
    generalize 2 ^ x.path.length = N at *
    generalize strs x.sig = S at *
    generalize strs x.path = P at *
    repeat' (first
    | with_reducible first | apply swp_seq | apply swp_reg | apply swp_regD | apply swp_block | apply swp_exit | apply swp_ret | apply swp_skip | apply swp_cd
    | with_reducible apply twp_seq
    | with_reducible apply twp_block
    | ((with_reducible refine twp_reg ?hb ?_); (case hb => exact fun _ _ => trivial); with_reducible intro _)
    | ((with_reducible refine twp_regD ?hb ?_); (case hb => exact fun _ _ => trivial); with_reducible intro _)
    | ((with_reducible refine twp_cond ?hb ?_); (case hb => exact fun _ _ => trivial); with_reducible intro _)
    | ((with_reducible refine twp_ret ?hb ?_); (case hb => exact fun _ _ => trivial))
    | simp only [go_sem, Nat.reduceAdd, Nat.reduceSub, Nat.reduceMul, Nat.reduceEqDiff, Nat.reduceLeDiff, Nat.reduceLT, Int.reduceEq, Int.reduceNe, Int.reduceLT, Int.reduceLE, Int.reduceAdd, Int.reduceSub, Int.reduceMul, Int.reduceNeg, Int.reduceToNat, Int.reduceTDiv, Int.reduceTMod, Int.reduceBEq, Int.reduceBNe, decide_true, decide_false, reduceCtorEq, reduceIte, P18, q18, q_shl, hsl, hpl, e2, e5, hw, e6]
    | simp (disch := omega) only [w64, w32, wu8, wu16, wu32, wu64]
    | ((with_reducible first | refine o_call (o1) ?he ?hc ?_ | refine p_call (o1) ?he ?hc ?_ | refine c_call (o1) ?he ?hc ?_); (case he | hc => first | rfl | (simp [D.erL, D.er, D.closedL, D.closed, heS, hcS, heP, hcP]; done)))
    | ((with_reducible first | refine o_call (o2) ?he ?hc ?_ | refine p_call (o2) ?he ?hc ?_ | refine c_call (o2) ?he ?hc ?_); (case he | hc => first | rfl | (simp [D.erL, D.er, D.closedL, D.closed, heS, hcS, heP, hcP]; done)))
    | ((with_reducible apply s_appT); (case he => rfl); (case hK | hc | hr | hV => first | rfl | assumption | omega | ((first | refine ⟨?_, ?_⟩ | skip) <;> first | omega | (simp only [lN1, lN2, lN3, lN4, lN5, lN6, lN7, heS, hcS, heP, hcP] <;> omega)) | (simp [elemsK, D.isVal, D.cells, D.closedL, D.closed, heS, hcS, heP, hcP]; first | done | omega)))
    | ((with_reducible apply s_appG); (case he => rfl); (case hV | hK | hr | hl => first | rfl | assumption | omega | ((first | refine ⟨?_, ?_⟩ | skip) <;> first | omega | (simp only [lN1, lN2, lN3, lN4, lN5, lN6, lN7, heS, hcS, heP, hcP] <;> omega)) | (simp [elemsK, D.isVal, D.cells, D.closedL, D.closed, heS, hcS, heP, hcP]; first | done | omega)))
    | ((with_reducible apply s_app0); (case he => rfl); (case hK | hc | hr => first | rfl | assumption | omega | ((first | refine ⟨?_, ?_⟩ | skip) <;> first | omega | (simp only [lN1, lN2, lN3, lN4, lN5, lN6, lN7, heS, hcS, heP, hcP] <;> omega)) | (simp [elemsK, D.isVal, D.cells, D.closedL, D.closed, heS, hcS, heP, hcP]; first | done | omega)))
    | ((with_reducible apply s_appF); (case he => rfl); (case hK | hc | hr | hx | hn => first | rfl | assumption | omega | ((first | refine ⟨?_, ?_⟩ | skip) <;> first | omega | (simp only [lN1, lN2, lN3, lN4, lN5, lN6, lN7, heS, hcS, heP, hcP] <;> omega)) | (simp [elemsK, D.isVal, D.cells, D.closedL, D.closed, heS, hcS, heP, hcP]; first | done | omega)))
    | ((with_reducible first | apply s_bsl | apply t_bsl); (case he | hl | hc => first | rfl | assumption | omega | ((first | refine ⟨?_, ?_⟩ | skip) <;> first | omega | (simp only [lN1, lN2, lN3, lN4, lN5, lN6, lN7, heS, hcS, heP, hcP] <;> omega)) | (simp [elemsK, D.isVal, D.cells, D.closedL, D.closed, heS, hcS, heP, hcP]; first | done | omega)))
    | with_reducible first | apply cd_dec | apply cd_eq | apply cd_ne | apply cd_split | apply gd_dec | apply gd_eq | apply gd_ne | apply gd_split | apply gq_dec | apply gq_eq | apply gq_ne | apply gq_split
    | ((with_reducible refine And.intro ?hw ?_); (case hw => first | omega | rfl | exact ⟨_, _, rfl⟩ | assumption | (simp only [lN1, lN2, lN3, lN4, lN5, lN6, lN7, heS, hcS, heP, hcP] <;> omega)))
    | with_reducible intro _)
    all_goals try omega
    refine ⟨_, fun _ => weak_refl, ?_⟩
    simp [go_sem, D.closed, D.er]
  case pos =>
  have e6 : decide (((2 ^ x.path.length : Nat) : Int) ≤ x.idx) = false := decide_eq_false (by omega)
  have hok : okS x = true := by
    unfold okS
    rw [e4]
    rw [q3, q4, decide_eq_true q1, decide_eq_true q2, decide_eq_true q5, decide_eq_true q6]
    rfl
  unfold ver
  rw [hok, Bool.true_and]
  have c1 := sdigits_p m
  have hit := digits_it m (by omega)
  have c3 := of_p (ends' m x.sig) (okL_ends' hx.sx)
  have hN : 2 ^ x.path.length ≤ 2 ^ 8 := Nat.pow_le_pow_right (by omega) (by omega)
  have h256 : (2 : Nat) ^ 8 = 256 := by decide
  generalize hN2 : 2 ^ x.path.length = N at *
  repeat' (first
    | with_reducible first | apply swp_seq | apply swp_reg | apply swp_regD | apply swp_block | apply swp_exit | apply swp_ret | apply swp_skip | apply swp_cd
    | with_reducible apply twp_seq
    | with_reducible apply twp_block
    | ((with_reducible refine twp_reg ?hb ?_); (case hb => exact fun _ _ => trivial); with_reducible intro _)
    | ((with_reducible refine twp_regD ?hb ?_); (case hb => exact fun _ _ => trivial); with_reducible intro _)
    | ((with_reducible refine twp_cond ?hb ?_); (case hb => exact fun _ _ => trivial); with_reducible intro _)
    | ((with_reducible refine twp_ret ?hb ?_); (case hb => exact fun _ _ => trivial))
    | simp only [go_sem, Nat.reduceAdd, Nat.reduceSub, Nat.reduceMul, Nat.reduceEqDiff, Nat.reduceLeDiff, Nat.reduceLT, Int.reduceEq, Int.reduceNe, Int.reduceLT, Int.reduceLE, Int.reduceAdd, Int.reduceSub, Int.reduceMul, Int.reduceNeg, Int.reduceToNat, Int.reduceTDiv, Int.reduceTMod, Int.reduceBEq, Int.reduceBNe, decide_true, decide_false, reduceCtorEq, reduceIte, P18, q18, q_shl, hsl, hpl, e2, e5, hw, e6]
    | simp (disch := omega) only [w64, w32, wu8, wu16, wu32, wu64]
    | ((with_reducible first | refine o_call (o1) ?he ?hc ?_ | refine p_call (o1) ?he ?hc ?_ | refine c_call (o1) ?he ?hc ?_); (case he | hc => first | rfl | (simp [D.erL, D.er, D.closedL, D.closed, heS, hcS, heP, hcP]; done)))
    | ((with_reducible first | refine o_call (o2) ?he ?hc ?_ | refine p_call (o2) ?he ?hc ?_ | refine c_call (o2) ?he ?hc ?_); (case he | hc => first | rfl | (simp [D.erL, D.er, D.closedL, D.closed, heS, hcS, heP, hcP]; done)))
    | ((with_reducible first | refine o_call (c1) ?he ?hc ?_ | refine p_call (c1) ?he ?hc ?_ | refine c_call (c1) ?he ?hc ?_); (case he | hc => first | rfl | (simp [D.erL, D.er, D.closedL, D.closed, heS, hcS, heP, hcP]; done)))
    | ((with_reducible apply s_appT); (case he => rfl); (case hK | hc | hr | hV => first | rfl | assumption | omega | ((first | refine ⟨?_, ?_⟩ | skip) <;> first | omega | (simp only [lN1, lN2, lN3, lN4, lN5, lN6, lN7, heS, hcS, heP, hcP] <;> omega)) | (simp [elemsK, D.isVal, D.cells, D.closedL, D.closed, heS, hcS, heP, hcP]; first | done | omega)))
    | ((with_reducible apply s_appG); (case he => rfl); (case hV | hK | hr | hl => first | rfl | assumption | omega | ((first | refine ⟨?_, ?_⟩ | skip) <;> first | omega | (simp only [lN1, lN2, lN3, lN4, lN5, lN6, lN7, heS, hcS, heP, hcP] <;> omega)) | (simp [elemsK, D.isVal, D.cells, D.closedL, D.closed, heS, hcS, heP, hcP]; first | done | omega)))
    | ((with_reducible apply s_app0); (case he => rfl); (case hK | hc | hr => first | rfl | assumption | omega | ((first | refine ⟨?_, ?_⟩ | skip) <;> first | omega | (simp only [lN1, lN2, lN3, lN4, lN5, lN6, lN7, heS, hcS, heP, hcP] <;> omega)) | (simp [elemsK, D.isVal, D.cells, D.closedL, D.closed, heS, hcS, heP, hcP]; first | done | omega)))
    | ((with_reducible apply s_appF); (case he => rfl); (case hK | hc | hr | hx | hn => first | rfl | assumption | omega | ((first | refine ⟨?_, ?_⟩ | skip) <;> first | omega | (simp only [lN1, lN2, lN3, lN4, lN5, lN6, lN7, heS, hcS, heP, hcP] <;> omega)) | (simp [elemsK, D.isVal, D.cells, D.closedL, D.closed, heS, hcS, heP, hcP]; first | done | omega)))
    | ((with_reducible first | apply s_bsl | apply t_bsl); (case he | hl | hc => first | rfl | assumption | omega | ((first | refine ⟨?_, ?_⟩ | skip) <;> first | omega | (simp only [lN1, lN2, lN3, lN4, lN5, lN6, lN7, heS, hcS, heP, hcP] <;> omega)) | (simp [elemsK, D.isVal, D.cells, D.closedL, D.closed, heS, hcS, heP, hcP]; first | done | omega)))
    | with_reducible first | apply cd_dec | apply cd_eq | apply cd_ne | apply cd_split | apply gd_dec | apply gd_eq | apply gd_ne | apply gd_split | apply gq_dec | apply gq_eq | apply gq_ne | apply gq_split
    | ((with_reducible refine And.intro ?hw ?_); (case hw => first | omega | rfl | exact ⟨_, _, rfl⟩ | assumption | (simp only [lN1, lN2, lN3, lN4, lN5, lN6, lN7, heS, hcS, heP, hcP] <;> omega)))
    | with_reducible intro _)
  all_goals try omega
  obtain ⟨j, hj⟩ : ∃ j : Nat, x.idx = j := ⟨x.idx.toNat, by omega⟩
  have hj8 : j < 256 := by omega
  have e7 : x.idx.toNat = j := by omega
  rw [e7]
  refine twp_weak (fun _ => weak_newC 1 0 1 (by decide) rfl rfl) (show TWp C18 0 0 _ _ ⟨[.str p, .str m, sealD x, .ptr 0 0, .bool false, .int .i64 (x.path.length : Nat), .fn (.func 38) [] [], .ptr 1 0, .undef, .undef, .undef, .undef, .undef, .bool false, .fn (.func 56) [] [.ip [.str m]], .undef, .undef, .undef, .undef, .undef, .undef], [], hpV x m 0⟩ from ?_)
  refine twp_range (fun _ _ => trivial) hit (hpV x m) rfl ?_ rfl ?_ ?_
  · intro r hr
    obtain ⟨k, _, rfl⟩ := List.mem_map.1 hr
    rfl
  · intro k r hk
    have hlt : k < 18 := by rw [← drows_len m]; exact (List.getElem?_eq_some_iff.1 hk).1
    rw [drows_get hlt] at hk
    cases hk
    have hd := dgt_get m k
    have c6 := chain_p (x.sig.getD k []) (15 - (dgt m).getD k 0) (by have := get_small (i := k) hx.sx; omega) (by omega)
    have hg := strs_get (l := x.sig) (i := k) (by omega)
    have hss := endsV_succ m x.sig k
    have hvl := endsV_len m x.sig k
    have t1 : ((k : Nat) : Int).toNat = k := Int.toNat_natCast k
    have t2 : (15 : Int) - (((dgt m).getD k 0 : Nat) : Int) = ((15 - (dgt m).getD k 0 : Nat) : Int) := by omega
    simp only [hpV, hss]
    generalize chn (15 - (dgt m).getD k 0) (x.sig.getD k []) = z at *
    generalize x.sig.getD k [] = g at *
    generalize hD2 : 15 - (dgt m).getD k 0 = e at *
    generalize (dgt m).getD k 0 = d at *
    generalize endsV m x.sig k = T at *
    generalize strs x.sig = S at *
    generalize strs x.path = P at *
    have hT := strs_len T
    have hs2 : strs (T ++ [z]) = strs T ++ [.str z] := by simp
    rw [hs2]
    simp only [GoV.binds]
    repeat' (first
    | with_reducible first | apply swp_seq | apply swp_reg | apply swp_regD | apply swp_block | apply swp_exit | apply swp_ret | apply swp_skip | apply swp_cd
    | with_reducible apply twp_seq
    | with_reducible apply twp_block
    | ((with_reducible refine twp_reg ?hb ?_); (case hb => exact fun _ _ => trivial); with_reducible intro _)
    | ((with_reducible refine twp_regD ?hb ?_); (case hb => exact fun _ _ => trivial); with_reducible intro _)
    | ((with_reducible refine twp_cond ?hb ?_); (case hb => exact fun _ _ => trivial); with_reducible intro _)
    | ((with_reducible refine twp_ret ?hb ?_); (case hb => exact fun _ _ => trivial))
    | simp only [go_sem, Nat.reduceAdd, Nat.reduceSub, Nat.reduceMul, Nat.reduceEqDiff, Nat.reduceLeDiff, Nat.reduceLT, Int.reduceEq, Int.reduceNe, Int.reduceLT, Int.reduceLE, Int.reduceAdd, Int.reduceSub, Int.reduceMul, Int.reduceNeg, Int.reduceToNat, Int.reduceTDiv, Int.reduceTMod, Int.reduceBEq, Int.reduceBNe, decide_true, decide_false, reduceCtorEq, reduceIte, P18, q18, t1, hg, hsl, t2]
    | simp (disch := omega) only [w64, w32, wu8, wu16, wu32, wu64]
    | ((with_reducible first | refine o_call (c6) ?he ?hc ?_ | refine p_call (c6) ?he ?hc ?_ | refine c_call (c6) ?he ?hc ?_); (case he | hc => first | rfl | (simp [D.erL, D.er, D.closedL, D.closed, hT, hvl, hsl]; done)))
    | ((with_reducible apply s_appT); (case he => rfl); (case hK | hc | hr | hV => first | rfl | assumption | omega | ((first | refine ⟨?_, ?_⟩ | skip) <;> first | omega | (simp only [lN1, lN2, lN3, lN4, lN5, lN6, lN7, hT, hvl, hsl] <;> omega)) | (simp [elemsK, D.isVal, D.cells, D.closedL, D.closed, hT, hvl, hsl]; first | done | omega)))
    | ((with_reducible apply s_appG); (case he => rfl); (case hV | hK | hr | hl => first | rfl | assumption | omega | ((first | refine ⟨?_, ?_⟩ | skip) <;> first | omega | (simp only [lN1, lN2, lN3, lN4, lN5, lN6, lN7, hT, hvl, hsl] <;> omega)) | (simp [elemsK, D.isVal, D.cells, D.closedL, D.closed, hT, hvl, hsl]; first | done | omega)))
    | ((with_reducible apply s_app0); (case he => rfl); (case hK | hc | hr => first | rfl | assumption | omega | ((first | refine ⟨?_, ?_⟩ | skip) <;> first | omega | (simp only [lN1, lN2, lN3, lN4, lN5, lN6, lN7, hT, hvl, hsl] <;> omega)) | (simp [elemsK, D.isVal, D.cells, D.closedL, D.closed, hT, hvl, hsl]; first | done | omega)))
    | ((with_reducible apply s_appF); (case he => rfl); (case hK | hc | hr | hx | hn => first | rfl | assumption | omega | ((first | refine ⟨?_, ?_⟩ | skip) <;> first | omega | (simp only [lN1, lN2, lN3, lN4, lN5, lN6, lN7, hT, hvl, hsl] <;> omega)) | (simp [elemsK, D.isVal, D.cells, D.closedL, D.closed, hT, hvl, hsl]; first | done | omega)))
    | ((with_reducible first | apply s_bsl | apply t_bsl); (case he | hl | hc => first | rfl | assumption | omega | ((first | refine ⟨?_, ?_⟩ | skip) <;> first | omega | (simp only [lN1, lN2, lN3, lN4, lN5, lN6, lN7, hT, hvl, hsl] <;> omega)) | (simp [elemsK, D.isVal, D.cells, D.closedL, D.closed, hT, hvl, hsl]; first | done | omega)))
    | with_reducible first | apply cd_dec | apply cd_eq | apply cd_ne | apply cd_split | apply gd_dec | apply gd_eq | apply gd_ne | apply gd_split | apply gq_dec | apply gq_eq | apply gq_ne | apply gq_split
    | ((with_reducible refine And.intro ?hw ?_); (case hw => first | omega | rfl | exact ⟨_, _, rfl⟩ | assumption | (simp only [lN1, lN2, lN3, lN4, lN5, lN6, lN7, hT, hvl, hsl] <;> omega)))
    | with_reducible intro _)
    all_goals try omega
    exact ⟨_, weak_refl, by simp [hT, hvl]⟩
  · rw [drows_len]
    have hh : hpV x m 18 = ⟨[.cells [.int .i64 x.idx, .slice (strs x.sig) .no, .slice (strs x.path) .no], .cells [.slice (strs (ends' m x.sig)) (.tok 0)]], [.per 1 18]⟩ := rfl
    rw [hh]
    have hcE := closed_strs (ends' m x.sig)
    have heE := erL_strs (ends' m x.sig)
    have ha := sumN_len (joined (ends' m x.sig))
    generalize sumN (joined (ends' m x.sig)) = a at *
    generalize ends' m x.sig = T at *
    repeat' (first
    | with_reducible first | apply swp_seq | apply swp_reg | apply swp_regD | apply swp_block | apply swp_exit | apply swp_ret | apply swp_skip | apply swp_cd
    | with_reducible apply twp_seq
    | with_reducible apply twp_block
    | ((with_reducible refine twp_reg ?hb ?_); (case hb => exact fun _ _ => trivial); with_reducible intro _)
    | ((with_reducible refine twp_regD ?hb ?_); (case hb => exact fun _ _ => trivial); with_reducible intro _)
    | ((with_reducible refine twp_cond ?hb ?_); (case hb => exact fun _ _ => trivial); with_reducible intro _)
    | ((with_reducible refine twp_ret ?hb ?_); (case hb => exact fun _ _ => trivial))
    | simp only [go_sem, Nat.reduceAdd, Nat.reduceSub, Nat.reduceMul, Nat.reduceEqDiff, Nat.reduceLeDiff, Nat.reduceLT, Int.reduceEq, Int.reduceNe, Int.reduceLT, Int.reduceLE, Int.reduceAdd, Int.reduceSub, Int.reduceMul, Int.reduceNeg, Int.reduceToNat, Int.reduceTDiv, Int.reduceTMod, Int.reduceBEq, Int.reduceBNe, decide_true, decide_false, reduceCtorEq, reduceIte, P18, q18, hpl]
    | simp (disch := omega) only [w64, w32, wu8, wu16, wu32, wu64]
    | ((with_reducible first | refine o_call (c3) ?he ?hc ?_ | refine p_call (c3) ?he ?hc ?_ | refine c_call (c3) ?he ?hc ?_); (case he | hc => first | rfl | (simp [D.erL, D.er, D.closedL, D.closed, heE, hcE]; done)))
    | ((with_reducible apply s_appT); (case he => rfl); (case hK | hc | hr | hV => first | rfl | assumption | omega | ((first | refine ⟨?_, ?_⟩ | skip) <;> first | omega | (simp only [lN1, lN2, lN3, lN4, lN5, lN6, lN7, heE, hcE] <;> omega)) | (simp [elemsK, D.isVal, D.cells, D.closedL, D.closed, heE, hcE]; first | done | omega)))
    | ((with_reducible apply s_appG); (case he => rfl); (case hV | hK | hr | hl => first | rfl | assumption | omega | ((first | refine ⟨?_, ?_⟩ | skip) <;> first | omega | (simp only [lN1, lN2, lN3, lN4, lN5, lN6, lN7, heE, hcE] <;> omega)) | (simp [elemsK, D.isVal, D.cells, D.closedL, D.closed, heE, hcE]; first | done | omega)))
    | ((with_reducible apply s_app0); (case he => rfl); (case hK | hc | hr => first | rfl | assumption | omega | ((first | refine ⟨?_, ?_⟩ | skip) <;> first | omega | (simp only [lN1, lN2, lN3, lN4, lN5, lN6, lN7, heE, hcE] <;> omega)) | (simp [elemsK, D.isVal, D.cells, D.closedL, D.closed, heE, hcE]; first | done | omega)))
    | ((with_reducible apply s_appF); (case he => rfl); (case hK | hc | hr | hx | hn => first | rfl | assumption | omega | ((first | refine ⟨?_, ?_⟩ | skip) <;> first | omega | (simp only [lN1, lN2, lN3, lN4, lN5, lN6, lN7, heE, hcE] <;> omega)) | (simp [elemsK, D.isVal, D.cells, D.closedL, D.closed, heE, hcE]; first | done | omega)))
    | ((with_reducible first | apply s_bsl | apply t_bsl); (case he | hl | hc => first | rfl | assumption | omega | ((first | refine ⟨?_, ?_⟩ | skip) <;> first | omega | (simp only [lN1, lN2, lN3, lN4, lN5, lN6, lN7, heE, hcE] <;> omega)) | (simp [elemsK, D.isVal, D.cells, D.closedL, D.closed, heE, hcE]; first | done | omega)))
    | with_reducible first | apply cd_dec | apply cd_eq | apply cd_ne | apply cd_split | apply gd_dec | apply gd_eq | apply gd_ne | apply gd_split | apply gq_dec | apply gq_eq | apply gq_ne | apply gq_split
    | ((with_reducible refine And.intro ?hw ?_); (case hw => first | omega | rfl | exact ⟨_, _, rfl⟩ | assumption | (simp only [lN1, lN2, lN3, lN4, lN5, lN6, lN7, heE, hcE] <;> omega)))
    | with_reducible intro _)
    all_goals try omega
    refine twp_of (fun _ _ => trivial) fun ds => ?_
    refine swp_fam [0, 1, 2, 3, 4, 17, 18, 19, 10] (fun k : Nat => ⟨[.str p, .str m, sealD x, .ptr 0 0, .bool false, .undef, .undef, .undef, .undef, .undef, .str (climb a (x.path.take k) j), .undef, .undef, .undef, .undef, .undef, .undef, .slice (strs x.path) .no, .int .i64 (x.path.length : Nat), .int .i64 (k : Nat), .undef], [],
        ⟨[.cells [.int .i64 x.idx, .slice (strs x.sig) .no, .slice (strs x.path) .no], .cells [.slice (strs T) (.tok 0)]], [.per 1 18]⟩⟩)
      (fun k => k ≤ x.path.length) (fun k => x.path.length - k) 0 (by omega) ?_ ?_
    · simp [keepE, St.keep, climb, hpl]
    · intro k hk
      rw [hj]
      by_cases hlt : k < x.path.length
      · have hcl := climb_len (p := x.path.take k) (i := j) ha
        have htk : x.path.take (k + 1) = x.path.take k ++ [x.path.getD k []] := by
          rw [List.take_succ_eq_append_getElem hlt]; simp [List.getD, hlt]
        have hsn := climb_snoc (x.path.take k) a (x.path.getD k []) j
        rw [← htk] at hsn
        have htl : (x.path.take k).length = k := by rw [List.length_take]; omega
        rw [htl] at hsn
        have c7 := node_p (climb a (x.path.take k) j) (x.path.getD k []) ((j / 2 ^ k) % 2 == 1) (by omega) (get_small hx.px)
        rw [← hsn] at c7
        have hg := strs_get (l := x.path) hlt
        have hs := shr_nat (j := j) (k := k) (by omega)
        have hja : j / 2 ^ k < 256 := Nat.lt_of_le_of_lt (Nat.div_le_self _ _) hj8
        have hb : bitsV .and .i64 ((j / 2 ^ k : Nat) : Int) 1 = _ := and_one hja
        have hbb : ((((j / 2 ^ k) % 2 : Nat) : Int) == 1) = ((j / 2 ^ k) % 2 == 1) := by
          generalize (j / 2 ^ k) % 2 = w
          by_cases hw : w = 1
          · subst hw; rfl
          · have h1 : ((w : Int) == 1) = false := by simp; omega
            have h2 : (w == 1) = false := by simp [hw]
            rw [h1, h2]
        have t1 : ((k : Nat) : Int).toNat = k := Int.toNat_natCast k
        generalize hz : climb a (x.path.take (k + 1)) j = z at *
        generalize climb a (x.path.take k) j = y at *
        generalize ((j / 2 ^ k) % 2 == 1) = bb at *
        generalize (j / 2 ^ k) % 2 = w at *
        generalize j / 2 ^ k = v at *
        generalize x.path.getD k [] = o at *
        generalize strs x.sig = S at *
        generalize strs x.path = P at *
        repeat' (first
    | with_reducible first | apply swp_seq | apply swp_reg | apply swp_regD | apply swp_block | apply swp_exit | apply swp_ret | apply swp_skip | apply swp_cd
    | with_reducible apply twp_seq
    | with_reducible apply twp_block
    | ((with_reducible refine twp_reg ?hb ?_); (case hb => exact fun _ _ => trivial); with_reducible intro _)
    | ((with_reducible refine twp_regD ?hb ?_); (case hb => exact fun _ _ => trivial); with_reducible intro _)
    | ((with_reducible refine twp_cond ?hb ?_); (case hb => exact fun _ _ => trivial); with_reducible intro _)
    | ((with_reducible refine twp_ret ?hb ?_); (case hb => exact fun _ _ => trivial))
    | simp only [go_sem, Nat.reduceAdd, Nat.reduceSub, Nat.reduceMul, Nat.reduceEqDiff, Nat.reduceLeDiff, Nat.reduceLT, Int.reduceEq, Int.reduceNe, Int.reduceLT, Int.reduceLE, Int.reduceAdd, Int.reduceSub, Int.reduceMul, Int.reduceNeg, Int.reduceToNat, Int.reduceTDiv, Int.reduceTMod, Int.reduceBEq, Int.reduceBNe, decide_true, decide_false, reduceCtorEq, reduceIte, P18, q18, hpl, t1, hg, hs, hb, hbb]
    | simp (disch := omega) only [w64, w32, wu8, wu16, wu32, wu64]
    | ((with_reducible first | refine o_call (c7) ?he ?hc ?_ | refine p_call (c7) ?he ?hc ?_ | refine c_call (c7) ?he ?hc ?_); (case he | hc => first | rfl | (simp [D.erL, D.er, D.closedL, D.closed, hpl]; done)))
    | ((with_reducible apply s_appT); (case he => rfl); (case hK | hc | hr | hV => first | rfl | assumption | omega | ((first | refine ⟨?_, ?_⟩ | skip) <;> first | omega | (simp only [lN1, lN2, lN3, lN4, lN5, lN6, lN7, hpl] <;> omega)) | (simp [elemsK, D.isVal, D.cells, D.closedL, D.closed, hpl]; first | done | omega)))
    | ((with_reducible apply s_appG); (case he => rfl); (case hV | hK | hr | hl => first | rfl | assumption | omega | ((first | refine ⟨?_, ?_⟩ | skip) <;> first | omega | (simp only [lN1, lN2, lN3, lN4, lN5, lN6, lN7, hpl] <;> omega)) | (simp [elemsK, D.isVal, D.cells, D.closedL, D.closed, hpl]; first | done | omega)))
    | ((with_reducible apply s_app0); (case he => rfl); (case hK | hc | hr => first | rfl | assumption | omega | ((first | refine ⟨?_, ?_⟩ | skip) <;> first | omega | (simp only [lN1, lN2, lN3, lN4, lN5, lN6, lN7, hpl] <;> omega)) | (simp [elemsK, D.isVal, D.cells, D.closedL, D.closed, hpl]; first | done | omega)))
    | ((with_reducible apply s_appF); (case he => rfl); (case hK | hc | hr | hx | hn => first | rfl | assumption | omega | ((first | refine ⟨?_, ?_⟩ | skip) <;> first | omega | (simp only [lN1, lN2, lN3, lN4, lN5, lN6, lN7, hpl] <;> omega)) | (simp [elemsK, D.isVal, D.cells, D.closedL, D.closed, hpl]; first | done | omega)))
    | ((with_reducible first | apply s_bsl | apply t_bsl); (case he | hl | hc => first | rfl | assumption | omega | ((first | refine ⟨?_, ?_⟩ | skip) <;> first | omega | (simp only [lN1, lN2, lN3, lN4, lN5, lN6, lN7, hpl] <;> omega)) | (simp [elemsK, D.isVal, D.cells, D.closedL, D.closed, hpl]; first | done | omega)))
    | with_reducible first | apply cd_dec | apply cd_eq | apply cd_ne | apply cd_split | apply gd_dec | apply gd_eq | apply gd_ne | apply gd_split | apply gq_dec | apply gq_eq | apply gq_ne | apply gq_split
    | ((with_reducible refine And.intro ?hw ?_); (case hw => first | omega | rfl | exact ⟨_, _, rfl⟩ | assumption | (simp only [lN1, lN2, lN3, lN4, lN5, lN6, lN7, hpl] <;> omega)))
    | with_reducible intro _)
        all_goals try omega
        refine ⟨k + 1, by omega, by omega, ?_⟩
        rw [hz]
        simp [keepE, St.keep]
      · have e : k = x.path.length := by omega
        subst e
        rw [List.take_length]
        generalize strs x.sig = S at *
        generalize strs x.path = P at *
        generalize climb a x.path j = y at *
        repeat' (first
    | with_reducible first | apply swp_seq | apply swp_reg | apply swp_regD | apply swp_block | apply swp_exit | apply swp_ret | apply swp_skip | apply swp_cd
    | with_reducible apply twp_seq
    | with_reducible apply twp_block
    | ((with_reducible refine twp_reg ?hb ?_); (case hb => exact fun _ _ => trivial); with_reducible intro _)
    | ((with_reducible refine twp_regD ?hb ?_); (case hb => exact fun _ _ => trivial); with_reducible intro _)
    | ((with_reducible refine twp_cond ?hb ?_); (case hb => exact fun _ _ => trivial); with_reducible intro _)
    | ((with_reducible refine twp_ret ?hb ?_); (case hb => exact fun _ _ => trivial))
    | simp only [go_sem, Nat.reduceAdd, Nat.reduceSub, Nat.reduceMul, Nat.reduceEqDiff, Nat.reduceLeDiff, Nat.reduceLT, Int.reduceEq, Int.reduceNe, Int.reduceLT, Int.reduceLE, Int.reduceAdd, Int.reduceSub, Int.reduceMul, Int.reduceNeg, Int.reduceToNat, Int.reduceTDiv, Int.reduceTMod, Int.reduceBEq, Int.reduceBNe, decide_true, decide_false, reduceCtorEq, reduceIte, P18, q18, hpl]
    | simp (disch := omega) only [w64, w32, wu8, wu16, wu32, wu64]
    | ((with_reducible apply s_appT); (case he => rfl); (case hK | hc | hr | hV => first | rfl | assumption | omega | ((first | refine ⟨?_, ?_⟩ | skip) <;> first | omega | (simp only [lN1, lN2, lN3, lN4, lN5, lN6, lN7, hpl] <;> omega)) | (simp [elemsK, D.isVal, D.cells, D.closedL, D.closed, hpl]; first | done | omega)))
    | ((with_reducible apply s_appG); (case he => rfl); (case hV | hK | hr | hl => first | rfl | assumption | omega | ((first | refine ⟨?_, ?_⟩ | skip) <;> first | omega | (simp only [lN1, lN2, lN3, lN4, lN5, lN6, lN7, hpl] <;> omega)) | (simp [elemsK, D.isVal, D.cells, D.closedL, D.closed, hpl]; first | done | omega)))
    | ((with_reducible apply s_app0); (case he => rfl); (case hK | hc | hr => first | rfl | assumption | omega | ((first | refine ⟨?_, ?_⟩ | skip) <;> first | omega | (simp only [lN1, lN2, lN3, lN4, lN5, lN6, lN7, hpl] <;> omega)) | (simp [elemsK, D.isVal, D.cells, D.closedL, D.closed, hpl]; first | done | omega)))
    | ((with_reducible apply s_appF); (case he => rfl); (case hK | hc | hr | hx | hn => first | rfl | assumption | omega | ((first | refine ⟨?_, ?_⟩ | skip) <;> first | omega | (simp only [lN1, lN2, lN3, lN4, lN5, lN6, lN7, hpl] <;> omega)) | (simp [elemsK, D.isVal, D.cells, D.closedL, D.closed, hpl]; first | done | omega)))
    | ((with_reducible first | apply s_bsl | apply t_bsl); (case he | hl | hc => first | rfl | assumption | omega | ((first | refine ⟨?_, ?_⟩ | skip) <;> first | omega | (simp only [lN1, lN2, lN3, lN4, lN5, lN6, lN7, hpl] <;> omega)) | (simp [elemsK, D.isVal, D.cells, D.closedL, D.closed, hpl]; first | done | omega)))
    | with_reducible first | apply cd_dec | apply cd_eq | apply cd_ne | apply cd_split | apply gd_dec | apply gd_eq | apply gd_ne | apply gd_split | apply gq_dec | apply gq_eq | apply gq_ne | apply gq_split
    | ((with_reducible refine And.intro ?hw ?_); (case hw => first | omega | rfl | exact ⟨_, _, rfl⟩ | assumption | (simp only [lN1, lN2, lN3, lN4, lN5, lN6, lN7, hpl] <;> omega)))
    | with_reducible intro _)
        all_goals try omega
        refine ⟨_, fun _ => weak_refl, ?_⟩
        simp [go_sem, D.closed, D.er]
end Go.Proofs.YtgjkhlnpplajjaaDoor
end
section
set_option maxRecDepth 100000
set_option linter.unusedSimpArgs false
set_option linter.unusedVariables false
namespace Go.Proofs.YtgjkhlnpplajjaaDoor
open Go GoV Go.RowKit
theorem all_take {l : List (List UInt8)} {k : Nat} (h : k < l.length) (h1 : (l.take k).all isD = true) (h2 : isD (l.getD k []) = true) : (l.take (k + 1)).all isD = true := by
  have htk : l.take (k + 1) = l.take k ++ [l.getD k []] := by
    rw [List.take_succ_eq_append_getElem h]; simp [List.getD, h]
  rw [htk, List.all_append, h1, List.all_cons, h2]
  rfl
theorem tmod2 (n : Nat) : ((n : Nat) : Int).tmod 2 = ((n % 2 : Nat) : Int) := by rw [Int.tmod_eq_emod_of_nonneg (by omega)]; omega
theorem tdiv2 (n : Nat) : ((n : Nat) : Int).tdiv 2 = ((n / 2 : Nat) : Int) := by rw [Int.tdiv_eq_ediv_of_nonneg (by omega)]; omega
theorem all_not {l : List (List UInt8)} {k : Nat} (h : k < l.length) (h2 : isD (l.getD k []) = false) : l.all isD = false := by
  rw [List.all_eq_false]
  refine ⟨l.getD k [], by simp [List.getD, h], by rw [h2]; simp⟩
set_option maxHeartbeats 4000000 in
theorem rverify_p (p m : List UInt8) (x : Seal) (hx : SmallS x) (hm : m.length ≤ 300) : Pur M 19 [.str p, .str m, sealD x] (.bool (ver p m x)) := by
  refine ok19 rfl ?_
  rw [i19]
  unfold c19 sealD
  have hsl := strs_len x.sig
  have hpl := strs_len x.path
  by_cases q1 : x.sig.length = 18
  case neg =>
    have hf : ver p m x = false := by unfold ver okS; simp [q1]
    rw [hf]
    have e1 : decide (((x.sig.length : Nat) : Int) ≠ 18) = true := decide_eq_true (by omega)
    generalize strs x.sig = S at *
    generalize strs x.path = P at *
    repeat' (first
    | with_reducible first | apply swp_seq | apply swp_reg | apply swp_regD | apply swp_block | apply swp_exit | apply swp_ret | apply swp_skip | apply swp_cd
    | simp only [go_sem, Nat.reduceAdd, Nat.reduceSub, Nat.reduceMul, Nat.reduceEqDiff, Nat.reduceLeDiff, Nat.reduceLT, Int.reduceEq, Int.reduceNe, Int.reduceLT, Int.reduceLE, Int.reduceAdd, Int.reduceSub, Int.reduceMul, Int.reduceNeg, Int.reduceToNat, Int.reduceTDiv, Int.reduceTMod, Int.reduceBEq, Int.reduceBNe, decide_true, decide_false, reduceCtorEq, reduceIte, P19, q19, hsl, hpl, e1]
    | simp (disch := omega) only [w64, w32, wu8, wu16, wu32, wu64]
    | ((with_reducible apply s_appT); (case he => rfl); (case hK | hc | hr | hV => first | rfl | assumption | omega | ((first | refine ⟨?_, ?_⟩ | skip) <;> first | omega | (simp only [lN1, lN2, lN3, lN4, lN5, lN6, lN7] <;> omega)) | (simp [elemsK, D.isVal, D.cells, D.closedL, D.closed]; first | done | omega)))
    | ((with_reducible apply s_appG); (case he => rfl); (case hV | hK | hr | hl => first | rfl | assumption | omega | ((first | refine ⟨?_, ?_⟩ | skip) <;> first | omega | (simp only [lN1, lN2, lN3, lN4, lN5, lN6, lN7] <;> omega)) | (simp [elemsK, D.isVal, D.cells, D.closedL, D.closed]; first | done | omega)))
    | ((with_reducible apply s_app0); (case he => rfl); (case hK | hc | hr => first | rfl | assumption | omega | ((first | refine ⟨?_, ?_⟩ | skip) <;> first | omega | (simp only [lN1, lN2, lN3, lN4, lN5, lN6, lN7] <;> omega)) | (simp [elemsK, D.isVal, D.cells, D.closedL, D.closed]; first | done | omega)))
    | ((with_reducible apply s_appF); (case he => rfl); (case hK | hc | hr | hx | hn => first | rfl | assumption | omega | ((first | refine ⟨?_, ?_⟩ | skip) <;> first | omega | (simp only [lN1, lN2, lN3, lN4, lN5, lN6, lN7] <;> omega)) | (simp [elemsK, D.isVal, D.cells, D.closedL, D.closed]; first | done | omega)))
    | ((with_reducible first | apply s_bsl | apply t_bsl); (case he | hl | hc => first | rfl | assumption | omega | ((first | refine ⟨?_, ?_⟩ | skip) <;> first | omega | (simp only [lN1, lN2, lN3, lN4, lN5, lN6, lN7] <;> omega)) | (simp [elemsK, D.isVal, D.cells, D.closedL, D.closed]; first | done | omega)))
    | with_reducible first | apply cd_dec | apply cd_eq | apply cd_ne | apply cd_split | apply gd_dec | apply gd_eq | apply gd_ne | apply gd_split | apply gq_dec | apply gq_eq | apply gq_ne | apply gq_split
    | ((with_reducible refine And.intro ?hw ?_); (case hw => first | omega | rfl | exact ⟨_, _, rfl⟩ | assumption | (simp only [lN1, lN2, lN3, lN4, lN5, lN6, lN7] <;> omega)))
    | with_reducible intro _)
    all_goals first
      | omega
      | (simp [D.closed, D.er]; done)
  case pos =>
  rw [q1] at hsl
  by_cases q2 : x.path.length ≤ 8
  case neg =>
    have hf : ver p m x = false := by unfold ver okS; simp [q2]
    rw [hf]
    have e2 : decide (8 < ((x.path.length : Nat) : Int)) = true := decide_eq_true (by omega)
    generalize strs x.sig = S at *
    generalize strs x.path = P at *
    repeat' (first
    | with_reducible first | apply swp_seq | apply swp_reg | apply swp_regD | apply swp_block | apply swp_exit | apply swp_ret | apply swp_skip | apply swp_cd
    | simp only [go_sem, Nat.reduceAdd, Nat.reduceSub, Nat.reduceMul, Nat.reduceEqDiff, Nat.reduceLeDiff, Nat.reduceLT, Int.reduceEq, Int.reduceNe, Int.reduceLT, Int.reduceLE, Int.reduceAdd, Int.reduceSub, Int.reduceMul, Int.reduceNeg, Int.reduceToNat, Int.reduceTDiv, Int.reduceTMod, Int.reduceBEq, Int.reduceBNe, decide_true, decide_false, reduceCtorEq, reduceIte, P19, q19, hsl, hpl, e2]
    | simp (disch := omega) only [w64, w32, wu8, wu16, wu32, wu64]
    | ((with_reducible apply s_appT); (case he => rfl); (case hK | hc | hr | hV => first | rfl | assumption | omega | ((first | refine ⟨?_, ?_⟩ | skip) <;> first | omega | (simp only [lN1, lN2, lN3, lN4, lN5, lN6, lN7] <;> omega)) | (simp [elemsK, D.isVal, D.cells, D.closedL, D.closed]; first | done | omega)))
    | ((with_reducible apply s_appG); (case he => rfl); (case hV | hK | hr | hl => first | rfl | assumption | omega | ((first | refine ⟨?_, ?_⟩ | skip) <;> first | omega | (simp only [lN1, lN2, lN3, lN4, lN5, lN6, lN7] <;> omega)) | (simp [elemsK, D.isVal, D.cells, D.closedL, D.closed]; first | done | omega)))
    | ((with_reducible apply s_app0); (case he => rfl); (case hK | hc | hr => first | rfl | assumption | omega | ((first | refine ⟨?_, ?_⟩ | skip) <;> first | omega | (simp only [lN1, lN2, lN3, lN4, lN5, lN6, lN7] <;> omega)) | (simp [elemsK, D.isVal, D.cells, D.closedL, D.closed]; first | done | omega)))
    | ((with_reducible apply s_appF); (case he => rfl); (case hK | hc | hr | hx | hn => first | rfl | assumption | omega | ((first | refine ⟨?_, ?_⟩ | skip) <;> first | omega | (simp only [lN1, lN2, lN3, lN4, lN5, lN6, lN7] <;> omega)) | (simp [elemsK, D.isVal, D.cells, D.closedL, D.closed]; first | done | omega)))
    | ((with_reducible first | apply s_bsl | apply t_bsl); (case he | hl | hc => first | rfl | assumption | omega | ((first | refine ⟨?_, ?_⟩ | skip) <;> first | omega | (simp only [lN1, lN2, lN3, lN4, lN5, lN6, lN7] <;> omega)) | (simp [elemsK, D.isVal, D.cells, D.closedL, D.closed]; first | done | omega)))
    | with_reducible first | apply cd_dec | apply cd_eq | apply cd_ne | apply cd_split | apply gd_dec | apply gd_eq | apply gd_ne | apply gd_split | apply gq_dec | apply gq_eq | apply gq_ne | apply gq_split
    | ((with_reducible refine And.intro ?hw ?_); (case hw => first | omega | rfl | exact ⟨_, _, rfl⟩ | assumption | (simp only [lN1, lN2, lN3, lN4, lN5, lN6, lN7] <;> omega)))
    | with_reducible intro _)
    all_goals first
      | omega
      | (simp [D.closed, D.er]; done)
  case pos =>
  have e2 : decide (8 < ((x.path.length : Nat) : Int)) = false := decide_eq_false (by omega)
  by_cases q5 : 0 ≤ x.idx
  case neg =>
    have hf : ver p m x = false := by unfold ver okS; simp [q5]
    rw [hf]
    have e5 : decide (x.idx < 0) = true := decide_eq_true (by omega)
    generalize strs x.sig = S at *
    generalize strs x.path = P at *
    repeat' (first
    | with_reducible first | apply swp_seq | apply swp_reg | apply swp_regD | apply swp_block | apply swp_exit | apply swp_ret | apply swp_skip | apply swp_cd
    | simp only [go_sem, Nat.reduceAdd, Nat.reduceSub, Nat.reduceMul, Nat.reduceEqDiff, Nat.reduceLeDiff, Nat.reduceLT, Int.reduceEq, Int.reduceNe, Int.reduceLT, Int.reduceLE, Int.reduceAdd, Int.reduceSub, Int.reduceMul, Int.reduceNeg, Int.reduceToNat, Int.reduceTDiv, Int.reduceTMod, Int.reduceBEq, Int.reduceBNe, decide_true, decide_false, reduceCtorEq, reduceIte, P19, q19, hsl, hpl, e2, e5]
    | simp (disch := omega) only [w64, w32, wu8, wu16, wu32, wu64]
    | ((with_reducible apply s_appT); (case he => rfl); (case hK | hc | hr | hV => first | rfl | assumption | omega | ((first | refine ⟨?_, ?_⟩ | skip) <;> first | omega | (simp only [lN1, lN2, lN3, lN4, lN5, lN6, lN7] <;> omega)) | (simp [elemsK, D.isVal, D.cells, D.closedL, D.closed]; first | done | omega)))
    | ((with_reducible apply s_appG); (case he => rfl); (case hV | hK | hr | hl => first | rfl | assumption | omega | ((first | refine ⟨?_, ?_⟩ | skip) <;> first | omega | (simp only [lN1, lN2, lN3, lN4, lN5, lN6, lN7] <;> omega)) | (simp [elemsK, D.isVal, D.cells, D.closedL, D.closed]; first | done | omega)))
    | ((with_reducible apply s_app0); (case he => rfl); (case hK | hc | hr => first | rfl | assumption | omega | ((first | refine ⟨?_, ?_⟩ | skip) <;> first | omega | (simp only [lN1, lN2, lN3, lN4, lN5, lN6, lN7] <;> omega)) | (simp [elemsK, D.isVal, D.cells, D.closedL, D.closed]; first | done | omega)))
    | ((with_reducible apply s_appF); (case he => rfl); (case hK | hc | hr | hx | hn => first | rfl | assumption | omega | ((first | refine ⟨?_, ?_⟩ | skip) <;> first | omega | (simp only [lN1, lN2, lN3, lN4, lN5, lN6, lN7] <;> omega)) | (simp [elemsK, D.isVal, D.cells, D.closedL, D.closed]; first | done | omega)))
    | ((with_reducible first | apply s_bsl | apply t_bsl); (case he | hl | hc => first | rfl | assumption | omega | ((first | refine ⟨?_, ?_⟩ | skip) <;> first | omega | (simp only [lN1, lN2, lN3, lN4, lN5, lN6, lN7] <;> omega)) | (simp [elemsK, D.isVal, D.cells, D.closedL, D.closed]; first | done | omega)))
    | with_reducible first | apply cd_dec | apply cd_eq | apply cd_ne | apply cd_split | apply gd_dec | apply gd_eq | apply gd_ne | apply gd_split | apply gq_dec | apply gq_eq | apply gq_ne | apply gq_split
    | ((with_reducible refine And.intro ?hw ?_); (case hw => first | omega | rfl | exact ⟨_, _, rfl⟩ | assumption | (simp only [lN1, lN2, lN3, lN4, lN5, lN6, lN7] <;> omega)))
    | with_reducible intro _)
    all_goals first
      | omega
      | (simp [D.closed, D.er]; done)
  case pos =>
  have e5 : decide (x.idx < 0) = false := decide_eq_false (by omega)
  have c0 := power_p x.path.length (by omega)
  have e4 : (2 : Int) ^ x.path.length = ((2 ^ x.path.length : Nat) : Int) := by simp
  by_cases q6 : x.idx < ((2 ^ x.path.length : Nat) : Int)
  case neg =>
    have hf : ver p m x = false := by unfold ver okS; rw [e4, decide_eq_false q6, Bool.and_false, Bool.false_and]
    rw [hf]
    have e6 : decide (((2 ^ x.path.length : Nat) : Int) ≤ x.idx) = true := decide_eq_true (by omega)
    generalize 2 ^ x.path.length = N at *
    generalize strs x.sig = S at *
    generalize strs x.path = P at *
    repeat' (first
    | with_reducible first | apply swp_seq | apply swp_reg | apply swp_regD | apply swp_block | apply swp_exit | apply swp_ret | apply swp_skip | apply swp_cd
    | simp only [go_sem, Nat.reduceAdd, Nat.reduceSub, Nat.reduceMul, Nat.reduceEqDiff, Nat.reduceLeDiff, Nat.reduceLT, Int.reduceEq, Int.reduceNe, Int.reduceLT, Int.reduceLE, Int.reduceAdd, Int.reduceSub, Int.reduceMul, Int.reduceNeg, Int.reduceToNat, Int.reduceTDiv, Int.reduceTMod, Int.reduceBEq, Int.reduceBNe, decide_true, decide_false, reduceCtorEq, reduceIte, P19, q19, hsl, hpl, e2, e5, e6]
    | simp (disch := omega) only [w64, w32, wu8, wu16, wu32, wu64]
    | ((with_reducible first | refine o_call (c0) ?he ?hc ?_ | refine p_call (c0) ?he ?hc ?_ | refine c_call (c0) ?he ?hc ?_); (case he | hc => first | rfl | (simp [D.erL, D.er, D.closedL, D.closed]; done)))
    | ((with_reducible apply s_appT); (case he => rfl); (case hK | hc | hr | hV => first | rfl | assumption | omega | ((first | refine ⟨?_, ?_⟩ | skip) <;> first | omega | (simp only [lN1, lN2, lN3, lN4, lN5, lN6, lN7] <;> omega)) | (simp [elemsK, D.isVal, D.cells, D.closedL, D.closed]; first | done | omega)))
    | ((with_reducible apply s_appG); (case he => rfl); (case hV | hK | hr | hl => first | rfl | assumption | omega | ((first | refine ⟨?_, ?_⟩ | skip) <;> first | omega | (simp only [lN1, lN2, lN3, lN4, lN5, lN6, lN7] <;> omega)) | (simp [elemsK, D.isVal, D.cells, D.closedL, D.closed]; first | done | omega)))
    | ((with_reducible apply s_app0); (case he => rfl); (case hK | hc | hr => first | rfl | assumption | omega | ((first | refine ⟨?_, ?_⟩ | skip) <;> first | omega | (simp only [lN1, lN2, lN3, lN4, lN5, lN6, lN7] <;> omega)) | (simp [elemsK, D.isVal, D.cells, D.closedL, D.closed]; first | done | omega)))
    | ((with_reducible apply s_appF); (case he => rfl); (case hK | hc | hr | hx | hn => first | rfl | assumption | omega | ((first | refine ⟨?_, ?_⟩ | skip) <;> first | omega | (simp only [lN1, lN2, lN3, lN4, lN5, lN6, lN7] <;> omega)) | (simp [elemsK, D.isVal, D.cells, D.closedL, D.closed]; first | done | omega)))
    | ((with_reducible first | apply s_bsl | apply t_bsl); (case he | hl | hc => first | rfl | assumption | omega | ((first | refine ⟨?_, ?_⟩ | skip) <;> first | omega | (simp only [lN1, lN2, lN3, lN4, lN5, lN6, lN7] <;> omega)) | (simp [elemsK, D.isVal, D.cells, D.closedL, D.closed]; first | done | omega)))
    | with_reducible first | apply cd_dec | apply cd_eq | apply cd_ne | apply cd_split | apply gd_dec | apply gd_eq | apply gd_ne | apply gd_split | apply gq_dec | apply gq_eq | apply gq_ne | apply gq_split
    | ((with_reducible refine And.intro ?hw ?_); (case hw => first | omega | rfl | exact ⟨_, _, rfl⟩ | assumption | (simp only [lN1, lN2, lN3, lN4, lN5, lN6, lN7] <;> omega)))
    | with_reducible intro _)
    all_goals first
      | omega
      | (simp [D.closed, D.er]; done)
  case pos =>
  have e6 : decide (((2 ^ x.path.length : Nat) : Int) ≤ x.idx) = false := decide_eq_false (by omega)
  have c1 := rdgt_p m (by omega)
  have c3 := rlist_p (ends' m x.sig) (okL_ends' hx.sx)
  have hN : 2 ^ x.path.length ≤ 2 ^ 8 := Nat.pow_le_pow_right (by omega) (by omega)
  have h256 : (2 : Nat) ^ 8 = 256 := by decide
  have hV : x.sig.all isD = true → x.path.all isD = true → ver p m x = (climb (sumN (joined (ends' m x.sig))) x.path x.idx.toNat == p) := by
    intro q3 q4
    unfold ver okS
    rw [e4, q3, q4, decide_eq_true q1, decide_eq_true q2, decide_eq_true q5, decide_eq_true q6]
    rfl
  have hV1 : x.sig.all isD = false → ver p m x = false := by intro q; unfold ver okS; simp only [q, Bool.and_false, Bool.false_and]
  have hV2 : x.path.all isD = false → ver p m x = false := by intro q; unfold ver okS; simp only [q, Bool.and_false, Bool.false_and]
  generalize hN2 : 2 ^ x.path.length = N at *
  repeat' (first
    | with_reducible first | apply swp_seq | apply swp_reg | apply swp_regD | apply swp_block | apply swp_exit | apply swp_ret | apply swp_skip | apply swp_cd
    | simp only [go_sem, Nat.reduceAdd, Nat.reduceSub, Nat.reduceMul, Nat.reduceEqDiff, Nat.reduceLeDiff, Nat.reduceLT, Int.reduceEq, Int.reduceNe, Int.reduceLT, Int.reduceLE, Int.reduceAdd, Int.reduceSub, Int.reduceMul, Int.reduceNeg, Int.reduceToNat, Int.reduceTDiv, Int.reduceTMod, Int.reduceBEq, Int.reduceBNe, decide_true, decide_false, reduceCtorEq, reduceIte, P19, q19, hsl, hpl, e2, e5, e6]
    | simp (disch := omega) only [w64, w32, wu8, wu16, wu32, wu64]
    | ((with_reducible first | refine o_call (c0) ?he ?hc ?_ | refine p_call (c0) ?he ?hc ?_ | refine c_call (c0) ?he ?hc ?_); (case he | hc => first | rfl | (simp [D.erL, D.er, D.closedL, D.closed]; done)))
    | ((with_reducible first | refine o_call (c1) ?he ?hc ?_ | refine p_call (c1) ?he ?hc ?_ | refine c_call (c1) ?he ?hc ?_); (case he | hc => first | rfl | (simp [D.erL, D.er, D.closedL, D.closed]; done)))
    | ((with_reducible apply s_appT); (case he => rfl); (case hK | hc | hr | hV => first | rfl | assumption | omega | ((first | refine ⟨?_, ?_⟩ | skip) <;> first | omega | (simp only [lN1, lN2, lN3, lN4, lN5, lN6, lN7] <;> omega)) | (simp [elemsK, D.isVal, D.cells, D.closedL, D.closed]; first | done | omega)))
    | ((with_reducible apply s_appG); (case he => rfl); (case hV | hK | hr | hl => first | rfl | assumption | omega | ((first | refine ⟨?_, ?_⟩ | skip) <;> first | omega | (simp only [lN1, lN2, lN3, lN4, lN5, lN6, lN7] <;> omega)) | (simp [elemsK, D.isVal, D.cells, D.closedL, D.closed]; first | done | omega)))
    | ((with_reducible apply s_app0); (case he => rfl); (case hK | hc | hr => first | rfl | assumption | omega | ((first | refine ⟨?_, ?_⟩ | skip) <;> first | omega | (simp only [lN1, lN2, lN3, lN4, lN5, lN6, lN7] <;> omega)) | (simp [elemsK, D.isVal, D.cells, D.closedL, D.closed]; first | done | omega)))
    | ((with_reducible apply s_appF); (case he => rfl); (case hK | hc | hr | hx | hn => first | rfl | assumption | omega | ((first | refine ⟨?_, ?_⟩ | skip) <;> first | omega | (simp only [lN1, lN2, lN3, lN4, lN5, lN6, lN7] <;> omega)) | (simp [elemsK, D.isVal, D.cells, D.closedL, D.closed]; first | done | omega)))
    | ((with_reducible first | apply s_bsl | apply t_bsl); (case he | hl | hc => first | rfl | assumption | omega | ((first | refine ⟨?_, ?_⟩ | skip) <;> first | omega | (simp only [lN1, lN2, lN3, lN4, lN5, lN6, lN7] <;> omega)) | (simp [elemsK, D.isVal, D.cells, D.closedL, D.closed]; first | done | omega)))
    | with_reducible first | apply cd_dec | apply cd_eq | apply cd_ne | apply cd_split | apply gd_dec | apply gd_eq | apply gd_ne | apply gd_split | apply gq_dec | apply gq_eq | apply gq_ne | apply gq_split
    | ((with_reducible refine And.intro ?hw ?_); (case hw => first | omega | rfl | exact ⟨_, _, rfl⟩ | assumption | (simp only [lN1, lN2, lN3, lN4, lN5, lN6, lN7] <;> omega)))
    | with_reducible intro _)
  all_goals try omega
  refine swp_weak (weak_new 6 1 (by decide) false rfl) ?_
  refine swp_fam [0, 1, 2, 3, 4, 5, 6, 7] (fun k : Nat => ⟨[.str p, .str m, sealD x, .ptr 0 0, .bool false, .slice (ints (dgt m)) .no, .slice (strs (endsV m x.sig k)) (.tok 0), .int .i64 (k : Nat), .undef, .undef, .undef, .undef, .undef, .undef, .undef, .undef, .undef, .undef], [],
      ⟨[.cells [.int .i64 x.idx, .slice (strs x.sig) .no, .slice (strs x.path) .no]], [.per 1 k]⟩⟩)
    (fun k => k ≤ 18 ∧ (x.sig.take k).all isD = true) (fun k => 18 - k) 0 ⟨by omega, rfl⟩ ?_ ?_
  · simp [keepE, St.keep, endsV]
  rintro k ⟨hk, hk2⟩
  by_cases hlt : k < 18
  · have hd := dgt_get m k
    have hdl := dgt_len m
    have hil := ints_len (dgt m)
    have c5 := ris_p (x.sig.getD k []) (by have := get_small (i := k) hx.sx; omega)
    have c6 := rchain_p (x.sig.getD k []) (15 - (dgt m).getD k 0) (by have := get_small (i := k) hx.sx; omega) (by omega)
    have hg := strs_get (l := x.sig) (i := k) (by omega)
    have hgi : (ints (dgt m)).getD k .undef = .int .i64 ((dgt m).getD k 0 : Nat) := ints_get (by omega)
    have hss := endsV_succ m x.sig k
    have hvl := endsV_len m x.sig k
    have t1 : ((k : Nat) : Int).toNat = k := Int.toNat_natCast k
    have t2 : (15 : Int) - (((dgt m).getD k 0 : Nat) : Int) = ((15 - (dgt m).getD k 0 : Nat) : Int) := by omega
    have hal := fun h => all_take (l := x.sig) (k := k) (by omega) hk2 h
    have han := fun h => hV1 (all_not (l := x.sig) (k := k) (by omega) h)
    generalize chn (15 - (dgt m).getD k 0) (x.sig.getD k []) = z at *
    generalize x.sig.getD k [] = g at *
    generalize hD2 : 15 - (dgt m).getD k 0 = e at *
    generalize (dgt m).getD k 0 = d at *
    generalize ints (dgt m) = DL at *
    generalize hT0 : endsV m x.sig k = T at *
    have hT := strs_len T
    by_cases hb : isD g = true
    · rw [hb] at c5
      generalize hS0 : strs x.sig = S at *
      generalize hP0 : strs x.path = P at *
      repeat' (first
    | with_reducible first | apply swp_seq | apply swp_reg | apply swp_regD | apply swp_block | apply swp_exit | apply swp_ret | apply swp_skip | apply swp_cd
    | simp only [go_sem, Nat.reduceAdd, Nat.reduceSub, Nat.reduceMul, Nat.reduceEqDiff, Nat.reduceLeDiff, Nat.reduceLT, Int.reduceEq, Int.reduceNe, Int.reduceLT, Int.reduceLE, Int.reduceAdd, Int.reduceSub, Int.reduceMul, Int.reduceNeg, Int.reduceToNat, Int.reduceTDiv, Int.reduceTMod, Int.reduceBEq, Int.reduceBNe, decide_true, decide_false, reduceCtorEq, reduceIte, P19, q19, t1, hg, hgi, hsl, t2]
    | simp (disch := omega) only [w64, w32, wu8, wu16, wu32, wu64]
    | ((with_reducible first | refine o_call (c5) ?he ?hc ?_ | refine p_call (c5) ?he ?hc ?_ | refine c_call (c5) ?he ?hc ?_); (case he | hc => first | rfl | (simp [D.erL, D.er, D.closedL, D.closed, hT, hvl, hsl, hil, hdl]; done)))
    | ((with_reducible first | refine o_call (c6) ?he ?hc ?_ | refine p_call (c6) ?he ?hc ?_ | refine c_call (c6) ?he ?hc ?_); (case he | hc => first | rfl | (simp [D.erL, D.er, D.closedL, D.closed, hT, hvl, hsl, hil, hdl]; done)))
    | ((with_reducible apply s_appT); (case he => rfl); (case hK | hc | hr | hV => first | rfl | assumption | omega | ((first | refine ⟨?_, ?_⟩ | skip) <;> first | omega | (simp only [lN1, lN2, lN3, lN4, lN5, lN6, lN7, hT, hvl, hsl, hil, hdl] <;> omega)) | (simp [elemsK, D.isVal, D.cells, D.closedL, D.closed, hT, hvl, hsl, hil, hdl]; first | done | omega)))
    | ((with_reducible apply s_appG); (case he => rfl); (case hV | hK | hr | hl => first | rfl | assumption | omega | ((first | refine ⟨?_, ?_⟩ | skip) <;> first | omega | (simp only [lN1, lN2, lN3, lN4, lN5, lN6, lN7, hT, hvl, hsl, hil, hdl] <;> omega)) | (simp [elemsK, D.isVal, D.cells, D.closedL, D.closed, hT, hvl, hsl, hil, hdl]; first | done | omega)))
    | ((with_reducible apply s_app0); (case he => rfl); (case hK | hc | hr => first | rfl | assumption | omega | ((first | refine ⟨?_, ?_⟩ | skip) <;> first | omega | (simp only [lN1, lN2, lN3, lN4, lN5, lN6, lN7, hT, hvl, hsl, hil, hdl] <;> omega)) | (simp [elemsK, D.isVal, D.cells, D.closedL, D.closed, hT, hvl, hsl, hil, hdl]; first | done | omega)))
    | ((with_reducible apply s_appF); (case he => rfl); (case hK | hc | hr | hx | hn => first | rfl | assumption | omega | ((first | refine ⟨?_, ?_⟩ | skip) <;> first | omega | (simp only [lN1, lN2, lN3, lN4, lN5, lN6, lN7, hT, hvl, hsl, hil, hdl] <;> omega)) | (simp [elemsK, D.isVal, D.cells, D.closedL, D.closed, hT, hvl, hsl, hil, hdl]; first | done | omega)))
    | ((with_reducible first | apply s_bsl | apply t_bsl); (case he | hl | hc => first | rfl | assumption | omega | ((first | refine ⟨?_, ?_⟩ | skip) <;> first | omega | (simp only [lN1, lN2, lN3, lN4, lN5, lN6, lN7, hT, hvl, hsl, hil, hdl] <;> omega)) | (simp [elemsK, D.isVal, D.cells, D.closedL, D.closed, hT, hvl, hsl, hil, hdl]; first | done | omega)))
    | with_reducible first | apply cd_dec | apply cd_eq | apply cd_ne | apply cd_split | apply gd_dec | apply gd_eq | apply gd_ne | apply gd_split | apply gq_dec | apply gq_eq | apply gq_ne | apply gq_split
    | ((with_reducible refine And.intro ?hw ?_); (case hw => first | omega | rfl | exact ⟨_, _, rfl⟩ | assumption | (simp only [lN1, lN2, lN3, lN4, lN5, lN6, lN7, hT, hvl, hsl, hil, hdl] <;> omega)))
    | with_reducible intro _)
      all_goals try omega
      refine ⟨k + 1, ⟨by omega, hal hb⟩, by omega, ?_⟩
      rw [hss]
      simp [keepE, St.keep, hS0, hP0]
      try omega
    · have hb' : isD g = false := by simpa using hb
      rw [hb'] at c5
      rw [han hb']
      generalize strs x.sig = S at *
      generalize strs x.path = P at *
      repeat' (first
    | with_reducible first | apply swp_seq | apply swp_reg | apply swp_regD | apply swp_block | apply swp_exit | apply swp_ret | apply swp_skip | apply swp_cd
    | simp only [go_sem, Nat.reduceAdd, Nat.reduceSub, Nat.reduceMul, Nat.reduceEqDiff, Nat.reduceLeDiff, Nat.reduceLT, Int.reduceEq, Int.reduceNe, Int.reduceLT, Int.reduceLE, Int.reduceAdd, Int.reduceSub, Int.reduceMul, Int.reduceNeg, Int.reduceToNat, Int.reduceTDiv, Int.reduceTMod, Int.reduceBEq, Int.reduceBNe, decide_true, decide_false, reduceCtorEq, reduceIte, P19, q19, t1, hg, hgi, hsl, t2]
    | simp (disch := omega) only [w64, w32, wu8, wu16, wu32, wu64]
    | ((with_reducible first | refine o_call (c5) ?he ?hc ?_ | refine p_call (c5) ?he ?hc ?_ | refine c_call (c5) ?he ?hc ?_); (case he | hc => first | rfl | (simp [D.erL, D.er, D.closedL, D.closed, hT, hvl, hsl, hil, hdl]; done)))
    | ((with_reducible first | refine o_call (c6) ?he ?hc ?_ | refine p_call (c6) ?he ?hc ?_ | refine c_call (c6) ?he ?hc ?_); (case he | hc => first | rfl | (simp [D.erL, D.er, D.closedL, D.closed, hT, hvl, hsl, hil, hdl]; done)))
    | ((with_reducible apply s_appT); (case he => rfl); (case hK | hc | hr | hV => first | rfl | assumption | omega | ((first | refine ⟨?_, ?_⟩ | skip) <;> first | omega | (simp only [lN1, lN2, lN3, lN4, lN5, lN6, lN7, hT, hvl, hsl, hil, hdl] <;> omega)) | (simp [elemsK, D.isVal, D.cells, D.closedL, D.closed, hT, hvl, hsl, hil, hdl]; first | done | omega)))
    | ((with_reducible apply s_appG); (case he => rfl); (case hV | hK | hr | hl => first | rfl | assumption | omega | ((first | refine ⟨?_, ?_⟩ | skip) <;> first | omega | (simp only [lN1, lN2, lN3, lN4, lN5, lN6, lN7, hT, hvl, hsl, hil, hdl] <;> omega)) | (simp [elemsK, D.isVal, D.cells, D.closedL, D.closed, hT, hvl, hsl, hil, hdl]; first | done | omega)))
    | ((with_reducible apply s_app0); (case he => rfl); (case hK | hc | hr => first | rfl | assumption | omega | ((first | refine ⟨?_, ?_⟩ | skip) <;> first | omega | (simp only [lN1, lN2, lN3, lN4, lN5, lN6, lN7, hT, hvl, hsl, hil, hdl] <;> omega)) | (simp [elemsK, D.isVal, D.cells, D.closedL, D.closed, hT, hvl, hsl, hil, hdl]; first | done | omega)))
    | ((with_reducible apply s_appF); (case he => rfl); (case hK | hc | hr | hx | hn => first | rfl | assumption | omega | ((first | refine ⟨?_, ?_⟩ | skip) <;> first | omega | (simp only [lN1, lN2, lN3, lN4, lN5, lN6, lN7, hT, hvl, hsl, hil, hdl] <;> omega)) | (simp [elemsK, D.isVal, D.cells, D.closedL, D.closed, hT, hvl, hsl, hil, hdl]; first | done | omega)))
    | ((with_reducible first | apply s_bsl | apply t_bsl); (case he | hl | hc => first | rfl | assumption | omega | ((first | refine ⟨?_, ?_⟩ | skip) <;> first | omega | (simp only [lN1, lN2, lN3, lN4, lN5, lN6, lN7, hT, hvl, hsl, hil, hdl] <;> omega)) | (simp [elemsK, D.isVal, D.cells, D.closedL, D.closed, hT, hvl, hsl, hil, hdl]; first | done | omega)))
    | with_reducible first | apply cd_dec | apply cd_eq | apply cd_ne | apply cd_split | apply gd_dec | apply gd_eq | apply gd_ne | apply gd_split | apply gq_dec | apply gq_eq | apply gq_ne | apply gq_split
    | ((with_reducible refine And.intro ?hw ?_); (case hw => first | omega | rfl | exact ⟨_, _, rfl⟩ | assumption | (simp only [lN1, lN2, lN3, lN4, lN5, lN6, lN7, hT, hvl, hsl, hil, hdl] <;> omega)))
    | with_reducible intro _)
      all_goals first
        | omega
        | (simp [D.closed, D.er]; done)
  have e : k = 18 := by omega
  subst e
  rw [List.take_of_length_le (by omega)] at hk2
  rw [endsV_all] at *
  have ha := sumN_len (joined (ends' m x.sig))
  have heE := erL_strs (ends' m x.sig)
  have hcE := closed_strs (ends' m x.sig)
  obtain ⟨j, hj⟩ : ∃ j : Nat, x.idx = j := ⟨x.idx.toNat, by omega⟩
  have e7 : x.idx.toNat = j := by omega
  rw [e7] at hV
  generalize sumN (joined (ends' m x.sig)) = a at *
  generalize ends' m x.sig = T at *
  repeat' (first
    | with_reducible first | apply swp_seq | apply swp_reg | apply swp_regD | apply swp_block | apply swp_exit | apply swp_ret | apply swp_skip | apply swp_cd
    | simp only [go_sem, Nat.reduceAdd, Nat.reduceSub, Nat.reduceMul, Nat.reduceEqDiff, Nat.reduceLeDiff, Nat.reduceLT, Int.reduceEq, Int.reduceNe, Int.reduceLT, Int.reduceLE, Int.reduceAdd, Int.reduceSub, Int.reduceMul, Int.reduceNeg, Int.reduceToNat, Int.reduceTDiv, Int.reduceTMod, Int.reduceBEq, Int.reduceBNe, decide_true, decide_false, reduceCtorEq, reduceIte, P19, q19]
    | simp (disch := omega) only [w64, w32, wu8, wu16, wu32, wu64]
    | ((with_reducible apply s_appT); (case he => rfl); (case hK | hc | hr | hV => first | rfl | assumption | omega | ((first | refine ⟨?_, ?_⟩ | skip) <;> first | omega | (simp only [lN1, lN2, lN3, lN4, lN5, lN6, lN7] <;> omega)) | (simp [elemsK, D.isVal, D.cells, D.closedL, D.closed]; first | done | omega)))
    | ((with_reducible apply s_appG); (case he => rfl); (case hV | hK | hr | hl => first | rfl | assumption | omega | ((first | refine ⟨?_, ?_⟩ | skip) <;> first | omega | (simp only [lN1, lN2, lN3, lN4, lN5, lN6, lN7] <;> omega)) | (simp [elemsK, D.isVal, D.cells, D.closedL, D.closed]; first | done | omega)))
    | ((with_reducible apply s_app0); (case he => rfl); (case hK | hc | hr => first | rfl | assumption | omega | ((first | refine ⟨?_, ?_⟩ | skip) <;> first | omega | (simp only [lN1, lN2, lN3, lN4, lN5, lN6, lN7] <;> omega)) | (simp [elemsK, D.isVal, D.cells, D.closedL, D.closed]; first | done | omega)))
    | ((with_reducible apply s_appF); (case he => rfl); (case hK | hc | hr | hx | hn => first | rfl | assumption | omega | ((first | refine ⟨?_, ?_⟩ | skip) <;> first | omega | (simp only [lN1, lN2, lN3, lN4, lN5, lN6, lN7] <;> omega)) | (simp [elemsK, D.isVal, D.cells, D.closedL, D.closed]; first | done | omega)))
    | ((with_reducible first | apply s_bsl | apply t_bsl); (case he | hl | hc => first | rfl | assumption | omega | ((first | refine ⟨?_, ?_⟩ | skip) <;> first | omega | (simp only [lN1, lN2, lN3, lN4, lN5, lN6, lN7] <;> omega)) | (simp [elemsK, D.isVal, D.cells, D.closedL, D.closed]; first | done | omega)))
    | with_reducible first | apply cd_dec | apply cd_eq | apply cd_ne | apply cd_split | apply gd_dec | apply gd_eq | apply gd_ne | apply gd_split | apply gq_dec | apply gq_eq | apply gq_ne | apply gq_split
    | ((with_reducible refine And.intro ?hw ?_); (case hw => first | omega | rfl | exact ⟨_, _, rfl⟩ | assumption | (simp only [lN1, lN2, lN3, lN4, lN5, lN6, lN7] <;> omega)))
    | with_reducible intro _)
  all_goals try omega
  refine swp_fam [0, 1, 2, 3, 4, 6, 8] (fun k : Nat => ⟨[.str p, .str m, sealD x, .ptr 0 0, .bool false, .undef, .slice (strs T) (.tok 0), .undef, .int .i64 (k : Nat), .undef, .undef, .undef, .undef, .undef, .undef, .undef, .undef, .undef], [],
      ⟨[.cells [.int .i64 x.idx, .slice (strs x.sig) .no, .slice (strs x.path) .no]], [.per 1 18]⟩⟩)
    (fun k => k ≤ x.path.length ∧ (x.path.take k).all isD = true) (fun k => x.path.length - k) 0 ⟨by omega, rfl⟩ ?_ ?_
  · simp [keepE, St.keep]
  rintro k ⟨hk, hk3⟩
  by_cases hlt : k < x.path.length
  · have c5 := ris_p (x.path.getD k []) (by have := get_small (i := k) hx.px; omega)
    have hg := strs_get (l := x.path) (i := k) (by omega)
    have t1 : ((k : Nat) : Int).toNat = k := Int.toNat_natCast k
    have hal := fun h => all_take (l := x.path) (k := k) (by omega) hk3 h
    have han := fun h => hV2 (all_not (l := x.path) (k := k) (by omega) h)
    generalize x.path.getD k [] = g at *
    by_cases hb : isD g = true
    · rw [hb] at c5
      generalize hS0 : strs x.sig = S at *
      generalize hP0 : strs x.path = P at *
      repeat' (first
    | with_reducible first | apply swp_seq | apply swp_reg | apply swp_regD | apply swp_block | apply swp_exit | apply swp_ret | apply swp_skip | apply swp_cd
    | simp only [go_sem, Nat.reduceAdd, Nat.reduceSub, Nat.reduceMul, Nat.reduceEqDiff, Nat.reduceLeDiff, Nat.reduceLT, Int.reduceEq, Int.reduceNe, Int.reduceLT, Int.reduceLE, Int.reduceAdd, Int.reduceSub, Int.reduceMul, Int.reduceNeg, Int.reduceToNat, Int.reduceTDiv, Int.reduceTMod, Int.reduceBEq, Int.reduceBNe, decide_true, decide_false, reduceCtorEq, reduceIte, P19, q19, t1, hg, hpl]
    | simp (disch := omega) only [w64, w32, wu8, wu16, wu32, wu64]
    | ((with_reducible first | refine o_call (c5) ?he ?hc ?_ | refine p_call (c5) ?he ?hc ?_ | refine c_call (c5) ?he ?hc ?_); (case he | hc => first | rfl | (simp [D.erL, D.er, D.closedL, D.closed, hpl]; done)))
    | ((with_reducible apply s_appT); (case he => rfl); (case hK | hc | hr | hV => first | rfl | assumption | omega | ((first | refine ⟨?_, ?_⟩ | skip) <;> first | omega | (simp only [lN1, lN2, lN3, lN4, lN5, lN6, lN7, hpl] <;> omega)) | (simp [elemsK, D.isVal, D.cells, D.closedL, D.closed, hpl]; first | done | omega)))
    | ((with_reducible apply s_appG); (case he => rfl); (case hV | hK | hr | hl => first | rfl | assumption | omega | ((first | refine ⟨?_, ?_⟩ | skip) <;> first | omega | (simp only [lN1, lN2, lN3, lN4, lN5, lN6, lN7, hpl] <;> omega)) | (simp [elemsK, D.isVal, D.cells, D.closedL, D.closed, hpl]; first | done | omega)))
    | ((with_reducible apply s_app0); (case he => rfl); (case hK | hc | hr => first | rfl | assumption | omega | ((first | refine ⟨?_, ?_⟩ | skip) <;> first | omega | (simp only [lN1, lN2, lN3, lN4, lN5, lN6, lN7, hpl] <;> omega)) | (simp [elemsK, D.isVal, D.cells, D.closedL, D.closed, hpl]; first | done | omega)))
    | ((with_reducible apply s_appF); (case he => rfl); (case hK | hc | hr | hx | hn => first | rfl | assumption | omega | ((first | refine ⟨?_, ?_⟩ | skip) <;> first | omega | (simp only [lN1, lN2, lN3, lN4, lN5, lN6, lN7, hpl] <;> omega)) | (simp [elemsK, D.isVal, D.cells, D.closedL, D.closed, hpl]; first | done | omega)))
    | ((with_reducible first | apply s_bsl | apply t_bsl); (case he | hl | hc => first | rfl | assumption | omega | ((first | refine ⟨?_, ?_⟩ | skip) <;> first | omega | (simp only [lN1, lN2, lN3, lN4, lN5, lN6, lN7, hpl] <;> omega)) | (simp [elemsK, D.isVal, D.cells, D.closedL, D.closed, hpl]; first | done | omega)))
    | with_reducible first | apply cd_dec | apply cd_eq | apply cd_ne | apply cd_split | apply gd_dec | apply gd_eq | apply gd_ne | apply gd_split | apply gq_dec | apply gq_eq | apply gq_ne | apply gq_split
    | ((with_reducible refine And.intro ?hw ?_); (case hw => first | omega | rfl | exact ⟨_, _, rfl⟩ | assumption | (simp only [lN1, lN2, lN3, lN4, lN5, lN6, lN7, hpl] <;> omega)))
    | with_reducible intro _)
      all_goals try omega
      refine ⟨k + 1, ⟨by omega, hal hb⟩, by omega, ?_⟩
      simp [keepE, St.keep, hS0, hP0]
    · have hb' : isD g = false := by simpa using hb
      rw [hb'] at c5
      rw [han hb']
      generalize strs x.sig = S at *
      generalize strs x.path = P at *
      repeat' (first
    | with_reducible first | apply swp_seq | apply swp_reg | apply swp_regD | apply swp_block | apply swp_exit | apply swp_ret | apply swp_skip | apply swp_cd
    | simp only [go_sem, Nat.reduceAdd, Nat.reduceSub, Nat.reduceMul, Nat.reduceEqDiff, Nat.reduceLeDiff, Nat.reduceLT, Int.reduceEq, Int.reduceNe, Int.reduceLT, Int.reduceLE, Int.reduceAdd, Int.reduceSub, Int.reduceMul, Int.reduceNeg, Int.reduceToNat, Int.reduceTDiv, Int.reduceTMod, Int.reduceBEq, Int.reduceBNe, decide_true, decide_false, reduceCtorEq, reduceIte, P19, q19, t1, hg, hpl]
    | simp (disch := omega) only [w64, w32, wu8, wu16, wu32, wu64]
    | ((with_reducible first | refine o_call (c5) ?he ?hc ?_ | refine p_call (c5) ?he ?hc ?_ | refine c_call (c5) ?he ?hc ?_); (case he | hc => first | rfl | (simp [D.erL, D.er, D.closedL, D.closed, hpl]; done)))
    | ((with_reducible apply s_appT); (case he => rfl); (case hK | hc | hr | hV => first | rfl | assumption | omega | ((first | refine ⟨?_, ?_⟩ | skip) <;> first | omega | (simp only [lN1, lN2, lN3, lN4, lN5, lN6, lN7, hpl] <;> omega)) | (simp [elemsK, D.isVal, D.cells, D.closedL, D.closed, hpl]; first | done | omega)))
    | ((with_reducible apply s_appG); (case he => rfl); (case hV | hK | hr | hl => first | rfl | assumption | omega | ((first | refine ⟨?_, ?_⟩ | skip) <;> first | omega | (simp only [lN1, lN2, lN3, lN4, lN5, lN6, lN7, hpl] <;> omega)) | (simp [elemsK, D.isVal, D.cells, D.closedL, D.closed, hpl]; first | done | omega)))
    | ((with_reducible apply s_app0); (case he => rfl); (case hK | hc | hr => first | rfl | assumption | omega | ((first | refine ⟨?_, ?_⟩ | skip) <;> first | omega | (simp only [lN1, lN2, lN3, lN4, lN5, lN6, lN7, hpl] <;> omega)) | (simp [elemsK, D.isVal, D.cells, D.closedL, D.closed, hpl]; first | done | omega)))
    | ((with_reducible apply s_appF); (case he => rfl); (case hK | hc | hr | hx | hn => first | rfl | assumption | omega | ((first | refine ⟨?_, ?_⟩ | skip) <;> first | omega | (simp only [lN1, lN2, lN3, lN4, lN5, lN6, lN7, hpl] <;> omega)) | (simp [elemsK, D.isVal, D.cells, D.closedL, D.closed, hpl]; first | done | omega)))
    | ((with_reducible first | apply s_bsl | apply t_bsl); (case he | hl | hc => first | rfl | assumption | omega | ((first | refine ⟨?_, ?_⟩ | skip) <;> first | omega | (simp only [lN1, lN2, lN3, lN4, lN5, lN6, lN7, hpl] <;> omega)) | (simp [elemsK, D.isVal, D.cells, D.closedL, D.closed, hpl]; first | done | omega)))
    | with_reducible first | apply cd_dec | apply cd_eq | apply cd_ne | apply cd_split | apply gd_dec | apply gd_eq | apply gd_ne | apply gd_split | apply gq_dec | apply gq_eq | apply gq_ne | apply gq_split
    | ((with_reducible refine And.intro ?hw ?_); (case hw => first | omega | rfl | exact ⟨_, _, rfl⟩ | assumption | (simp only [lN1, lN2, lN3, lN4, lN5, lN6, lN7, hpl] <;> omega)))
    | with_reducible intro _)
      all_goals first
        | omega
        | (simp [D.closed, D.er]; done)
  have e : k = x.path.length := by omega
  subst e
  rw [List.take_of_length_le (by omega)] at hk3
  rw [hV hk2 hk3]
  repeat' (first
    | with_reducible first | apply swp_seq | apply swp_reg | apply swp_regD | apply swp_block | apply swp_exit | apply swp_ret | apply swp_skip | apply swp_cd
    | simp only [go_sem, Nat.reduceAdd, Nat.reduceSub, Nat.reduceMul, Nat.reduceEqDiff, Nat.reduceLeDiff, Nat.reduceLT, Int.reduceEq, Int.reduceNe, Int.reduceLT, Int.reduceLE, Int.reduceAdd, Int.reduceSub, Int.reduceMul, Int.reduceNeg, Int.reduceToNat, Int.reduceTDiv, Int.reduceTMod, Int.reduceBEq, Int.reduceBNe, decide_true, decide_false, reduceCtorEq, reduceIte, P19, q19, hpl]
    | simp (disch := omega) only [w64, w32, wu8, wu16, wu32, wu64]
    | ((with_reducible first | refine o_call (c3) ?he ?hc ?_ | refine p_call (c3) ?he ?hc ?_ | refine c_call (c3) ?he ?hc ?_); (case he | hc => first | rfl | (simp [D.erL, D.er, D.closedL, D.closed, heE, hcE]; done)))
    | ((with_reducible apply s_appT); (case he => rfl); (case hK | hc | hr | hV => first | rfl | assumption | omega | ((first | refine ⟨?_, ?_⟩ | skip) <;> first | omega | (simp only [lN1, lN2, lN3, lN4, lN5, lN6, lN7, heE, hcE] <;> omega)) | (simp [elemsK, D.isVal, D.cells, D.closedL, D.closed, heE, hcE]; first | done | omega)))
    | ((with_reducible apply s_appG); (case he => rfl); (case hV | hK | hr | hl => first | rfl | assumption | omega | ((first | refine ⟨?_, ?_⟩ | skip) <;> first | omega | (simp only [lN1, lN2, lN3, lN4, lN5, lN6, lN7, heE, hcE] <;> omega)) | (simp [elemsK, D.isVal, D.cells, D.closedL, D.closed, heE, hcE]; first | done | omega)))
    | ((with_reducible apply s_app0); (case he => rfl); (case hK | hc | hr => first | rfl | assumption | omega | ((first | refine ⟨?_, ?_⟩ | skip) <;> first | omega | (simp only [lN1, lN2, lN3, lN4, lN5, lN6, lN7, heE, hcE] <;> omega)) | (simp [elemsK, D.isVal, D.cells, D.closedL, D.closed, heE, hcE]; first | done | omega)))
    | ((with_reducible apply s_appF); (case he => rfl); (case hK | hc | hr | hx | hn => first | rfl | assumption | omega | ((first | refine ⟨?_, ?_⟩ | skip) <;> first | omega | (simp only [lN1, lN2, lN3, lN4, lN5, lN6, lN7, heE, hcE] <;> omega)) | (simp [elemsK, D.isVal, D.cells, D.closedL, D.closed, heE, hcE]; first | done | omega)))
    | ((with_reducible first | apply s_bsl | apply t_bsl); (case he | hl | hc => first | rfl | assumption | omega | ((first | refine ⟨?_, ?_⟩ | skip) <;> first | omega | (simp only [lN1, lN2, lN3, lN4, lN5, lN6, lN7, heE, hcE] <;> omega)) | (simp [elemsK, D.isVal, D.cells, D.closedL, D.closed, heE, hcE]; first | done | omega)))
    | with_reducible first | apply cd_dec | apply cd_eq | apply cd_ne | apply cd_split | apply gd_dec | apply gd_eq | apply gd_ne | apply gd_split | apply gq_dec | apply gq_eq | apply gq_ne | apply gq_split
    | ((with_reducible refine And.intro ?hw ?_); (case hw => first | omega | rfl | exact ⟨_, _, rfl⟩ | assumption | (simp only [lN1, lN2, lN3, lN4, lN5, lN6, lN7, heE, hcE] <;> omega)))
    | with_reducible intro _)
  all_goals try omega
  refine swp_fam [0, 1, 2, 3, 4, 9, 10, 11] (fun k : Nat => ⟨[.str p, .str m, sealD x, .ptr 0 0, .bool false, .undef, .undef, .undef, .undef, .str (climb a (x.path.take k) j), .int .i64 (j / 2 ^ k : Nat), .int .i64 (k : Nat), .undef, .undef, .undef, .undef, .undef, .undef], [],
      ⟨[.cells [.int .i64 x.idx, .slice (strs x.sig) .no, .slice (strs x.path) .no]], [.per 1 18]⟩⟩)
    (fun k => k ≤ x.path.length) (fun k => x.path.length - k) 0 (by omega) ?_ ?_
  · simp [keepE, St.keep, climb, hj]
  intro k hk
  by_cases hlt : k < x.path.length
  · have hcl := climb_len (p := x.path.take k) (i := j) ha
    have htk : x.path.take (k + 1) = x.path.take k ++ [x.path.getD k []] := by
      rw [List.take_succ_eq_append_getElem hlt]; simp [List.getD, hlt]
    have hsn := climb_snoc (x.path.take k) a (x.path.getD k []) j
    rw [← htk] at hsn
    have htl : (x.path.take k).length = k := by rw [List.length_take]; omega
    rw [htl] at hsn
    have c7 := rparent_p (climb a (x.path.take k) j) (x.path.getD k []) ((j / 2 ^ k) % 2 == 1) (by omega) (get_small hx.px)
    rw [← hsn] at c7
    have hg := strs_get (l := x.path) hlt
    have hja : j / 2 ^ k ≤ j := Nat.div_le_self _ _
    have hj2 : j / 2 ^ (k + 1) = j / 2 ^ k / 2 := by rw [Nat.pow_succ, Nat.div_div_eq_div_mul]
    have t3 : (((j / 2 ^ k : Nat)) : Int).tmod 2 = ((j / 2 ^ k % 2 : Nat) : Int) := tmod2 _
    have t4 : (((j / 2 ^ k : Nat)) : Int).tdiv 2 = ((j / 2 ^ k / 2 : Nat) : Int) := tdiv2 _
    have hbb : ((((j / 2 ^ k) % 2 : Nat) : Int) == 1) = ((j / 2 ^ k) % 2 == 1) := by
      generalize (j / 2 ^ k) % 2 = w
      by_cases hw : w = 1
      · subst hw; rfl
      · have h1 : ((w : Int) == 1) = false := by simp; omega
        have h2 : (w == 1) = false := by simp [hw]
        rw [h1, h2]
    have t1 : ((k : Nat) : Int).toNat = k := Int.toNat_natCast k
    generalize hz : climb a (x.path.take (k + 1)) j = z at *
    generalize climb a (x.path.take k) j = y at *
    generalize ((j / 2 ^ k) % 2 == 1) = bb at *
    generalize (j / 2 ^ k) % 2 = w at *
    generalize hv : j / 2 ^ k / 2 = v2 at *
    generalize j / 2 ^ k = v at *
    generalize x.path.getD k [] = o at *
    generalize hS0 : strs x.sig = S at *
    generalize hP0 : strs x.path = P at *
    repeat' (first
    | with_reducible first | apply swp_seq | apply swp_reg | apply swp_regD | apply swp_block | apply swp_exit | apply swp_ret | apply swp_skip | apply swp_cd
    | simp only [go_sem, Nat.reduceAdd, Nat.reduceSub, Nat.reduceMul, Nat.reduceEqDiff, Nat.reduceLeDiff, Nat.reduceLT, Int.reduceEq, Int.reduceNe, Int.reduceLT, Int.reduceLE, Int.reduceAdd, Int.reduceSub, Int.reduceMul, Int.reduceNeg, Int.reduceToNat, Int.reduceTDiv, Int.reduceTMod, Int.reduceBEq, Int.reduceBNe, decide_true, decide_false, reduceCtorEq, reduceIte, P19, q19, hpl, t1, hg, t3, t4, hbb]
    | simp (disch := omega) only [w64, w32, wu8, wu16, wu32, wu64]
    | ((with_reducible first | refine o_call (c7) ?he ?hc ?_ | refine p_call (c7) ?he ?hc ?_ | refine c_call (c7) ?he ?hc ?_); (case he | hc => first | rfl | (simp [D.erL, D.er, D.closedL, D.closed, hpl]; done)))
    | ((with_reducible apply s_appT); (case he => rfl); (case hK | hc | hr | hV => first | rfl | assumption | omega | ((first | refine ⟨?_, ?_⟩ | skip) <;> first | omega | (simp only [lN1, lN2, lN3, lN4, lN5, lN6, lN7, hpl] <;> omega)) | (simp [elemsK, D.isVal, D.cells, D.closedL, D.closed, hpl]; first | done | omega)))
    | ((with_reducible apply s_appG); (case he => rfl); (case hV | hK | hr | hl => first | rfl | assumption | omega | ((first | refine ⟨?_, ?_⟩ | skip) <;> first | omega | (simp only [lN1, lN2, lN3, lN4, lN5, lN6, lN7, hpl] <;> omega)) | (simp [elemsK, D.isVal, D.cells, D.closedL, D.closed, hpl]; first | done | omega)))
    | ((with_reducible apply s_app0); (case he => rfl); (case hK | hc | hr => first | rfl | assumption | omega | ((first | refine ⟨?_, ?_⟩ | skip) <;> first | omega | (simp only [lN1, lN2, lN3, lN4, lN5, lN6, lN7, hpl] <;> omega)) | (simp [elemsK, D.isVal, D.cells, D.closedL, D.closed, hpl]; first | done | omega)))
    | ((with_reducible apply s_appF); (case he => rfl); (case hK | hc | hr | hx | hn => first | rfl | assumption | omega | ((first | refine ⟨?_, ?_⟩ | skip) <;> first | omega | (simp only [lN1, lN2, lN3, lN4, lN5, lN6, lN7, hpl] <;> omega)) | (simp [elemsK, D.isVal, D.cells, D.closedL, D.closed, hpl]; first | done | omega)))
    | ((with_reducible first | apply s_bsl | apply t_bsl); (case he | hl | hc => first | rfl | assumption | omega | ((first | refine ⟨?_, ?_⟩ | skip) <;> first | omega | (simp only [lN1, lN2, lN3, lN4, lN5, lN6, lN7, hpl] <;> omega)) | (simp [elemsK, D.isVal, D.cells, D.closedL, D.closed, hpl]; first | done | omega)))
    | with_reducible first | apply cd_dec | apply cd_eq | apply cd_ne | apply cd_split | apply gd_dec | apply gd_eq | apply gd_ne | apply gd_split | apply gq_dec | apply gq_eq | apply gq_ne | apply gq_split
    | ((with_reducible refine And.intro ?hw ?_); (case hw => first | omega | rfl | exact ⟨_, _, rfl⟩ | assumption | (simp only [lN1, lN2, lN3, lN4, lN5, lN6, lN7, hpl] <;> omega)))
    | with_reducible intro _)
    all_goals try omega
    refine ⟨k + 1, by omega, by omega, ?_⟩
    rw [hz, hj2]
    simp [keepE, St.keep, hS0, hP0]
  · have e : k = x.path.length := by omega
    subst e
    rw [List.take_length]
    generalize strs x.sig = S at *
    generalize strs x.path = P at *
    generalize climb a x.path j = y at *
    repeat' (first
    | with_reducible first | apply swp_seq | apply swp_reg | apply swp_regD | apply swp_block | apply swp_exit | apply swp_ret | apply swp_skip | apply swp_cd
    | simp only [go_sem, Nat.reduceAdd, Nat.reduceSub, Nat.reduceMul, Nat.reduceEqDiff, Nat.reduceLeDiff, Nat.reduceLT, Int.reduceEq, Int.reduceNe, Int.reduceLT, Int.reduceLE, Int.reduceAdd, Int.reduceSub, Int.reduceMul, Int.reduceNeg, Int.reduceToNat, Int.reduceTDiv, Int.reduceTMod, Int.reduceBEq, Int.reduceBNe, decide_true, decide_false, reduceCtorEq, reduceIte, P19, q19, hpl]
    | simp (disch := omega) only [w64, w32, wu8, wu16, wu32, wu64]
    | ((with_reducible apply s_appT); (case he => rfl); (case hK | hc | hr | hV => first | rfl | assumption | omega | ((first | refine ⟨?_, ?_⟩ | skip) <;> first | omega | (simp only [lN1, lN2, lN3, lN4, lN5, lN6, lN7, hpl] <;> omega)) | (simp [elemsK, D.isVal, D.cells, D.closedL, D.closed, hpl]; first | done | omega)))
    | ((with_reducible apply s_appG); (case he => rfl); (case hV | hK | hr | hl => first | rfl | assumption | omega | ((first | refine ⟨?_, ?_⟩ | skip) <;> first | omega | (simp only [lN1, lN2, lN3, lN4, lN5, lN6, lN7, hpl] <;> omega)) | (simp [elemsK, D.isVal, D.cells, D.closedL, D.closed, hpl]; first | done | omega)))
    | ((with_reducible apply s_app0); (case he => rfl); (case hK | hc | hr => first | rfl | assumption | omega | ((first | refine ⟨?_, ?_⟩ | skip) <;> first | omega | (simp only [lN1, lN2, lN3, lN4, lN5, lN6, lN7, hpl] <;> omega)) | (simp [elemsK, D.isVal, D.cells, D.closedL, D.closed, hpl]; first | done | omega)))
    | ((with_reducible apply s_appF); (case he => rfl); (case hK | hc | hr | hx | hn => first | rfl | assumption | omega | ((first | refine ⟨?_, ?_⟩ | skip) <;> first | omega | (simp only [lN1, lN2, lN3, lN4, lN5, lN6, lN7, hpl] <;> omega)) | (simp [elemsK, D.isVal, D.cells, D.closedL, D.closed, hpl]; first | done | omega)))
    | ((with_reducible first | apply s_bsl | apply t_bsl); (case he | hl | hc => first | rfl | assumption | omega | ((first | refine ⟨?_, ?_⟩ | skip) <;> first | omega | (simp only [lN1, lN2, lN3, lN4, lN5, lN6, lN7, hpl] <;> omega)) | (simp [elemsK, D.isVal, D.cells, D.closedL, D.closed, hpl]; first | done | omega)))
    | with_reducible first | apply cd_dec | apply cd_eq | apply cd_ne | apply cd_split | apply gd_dec | apply gd_eq | apply gd_ne | apply gd_split | apply gq_dec | apply gq_eq | apply gq_ne | apply gq_split
    | ((with_reducible refine And.intro ?hw ?_); (case hw => first | omega | rfl | exact ⟨_, _, rfl⟩ | assumption | (simp only [lN1, lN2, lN3, lN4, lN5, lN6, lN7, hpl] <;> omega)))
    | with_reducible intro _)
    all_goals first
      | omega
      | (simp [D.closed, D.er]; done)
end Go.Proofs.YtgjkhlnpplajjaaDoor
end
section
set_option maxRecDepth 100000
set_option linter.unusedSimpArgs false
set_option linter.unusedVariables false
namespace Go.Proofs.YtgjkhlnpplajjaaDoor
open Go GoV Go.RowKit
def sameS (a b : Seal) : Bool := decide (a.idx = b.idx) && (decide (a.sig = b.sig) && decide (a.path = b.path))
theorem ssame_p (a b : Seal) (h1 : a.sig.length ≤ 4611686018427387904) (h2 : a.path.length ≤ 4611686018427387904) : Pur M 17 [sealD a, sealD b] (.bool (sameS a b)) := by
  refine ok17 rfl ?_
  rw [i17]
  unfold c17 sealD sameS
  have c1 := same_p a.sig b.sig h1
  have c2 := same_p a.path b.path h2
  have k1 := closed_strs a.sig
  have k2 := closed_strs b.sig
  have k3 := closed_strs a.path
  have k4 := closed_strs b.path
  have k5 := erL_strs a.sig
  have k6 := erL_strs b.sig
  have k7 := erL_strs a.path
  have k8 := erL_strs b.path
  generalize decide (a.sig = b.sig) = x at *
  generalize decide (a.path = b.path) = y at *
  generalize strs a.sig = A at *
  generalize strs b.sig = B at *
  generalize strs a.path = A' at *
  generalize strs b.path = B' at *
  by_cases e : a.idx = b.idx
  · have e1 : (a.idx == b.idx) = true := by simp [e]
    rw [decide_eq_true e, Bool.true_and]
    cases x <;> cases y <;>
    · repeat' (first
    | with_reducible first | apply swp_seq | apply swp_reg | apply swp_regD | apply swp_block | apply swp_exit | apply swp_ret | apply swp_skip | apply swp_cd
    | simp only [go_sem, Nat.reduceAdd, Nat.reduceSub, Nat.reduceMul, Nat.reduceEqDiff, Nat.reduceLeDiff, Nat.reduceLT, Int.reduceEq, Int.reduceNe, Int.reduceLT, Int.reduceLE, Int.reduceAdd, Int.reduceSub, Int.reduceMul, Int.reduceNeg, Int.reduceToNat, Int.reduceTDiv, Int.reduceTMod, Int.reduceBEq, Int.reduceBNe, decide_true, decide_false, reduceCtorEq, reduceIte, P17, q17, e1]
    | simp (disch := omega) only [w64, w32, wu8, wu16, wu32, wu64]
    | ((with_reducible refine o_call (c1) ?he ?hc ?_); (case he | hc => first | rfl | (simp [D.erL, D.er, D.closedL, D.closed, k1, k2, k3, k4, k5, k6, k7, k8]; done)))
    | ((with_reducible refine o_call (c2) ?he ?hc ?_); (case he | hc => first | rfl | (simp [D.erL, D.er, D.closedL, D.closed, k1, k2, k3, k4, k5, k6, k7, k8]; done)))
    | with_reducible first | apply cd_dec | apply cd_eq | apply cd_ne | apply cd_split | apply gd_dec | apply gd_eq | apply gd_ne | apply gd_split
    | ((with_reducible refine And.intro ?hw ?_); (case hw => first | omega | rfl | exact ⟨_, _, rfl⟩ | assumption | (simp only [lN1, lN2, lN3, lN4, lN5, lN6, lN7, k1, k2, k3, k4, k5, k6, k7, k8] <;> omega)))
    | with_reducible intro _)
      all_goals first
        | omega
        | (simp [D.closed, D.er]; done)
  · have e1 : (a.idx == b.idx) = false := by simp [e]
    rw [decide_eq_false e, Bool.false_and]
    repeat' (first
    | with_reducible first | apply swp_seq | apply swp_reg | apply swp_regD | apply swp_block | apply swp_exit | apply swp_ret | apply swp_skip | apply swp_cd
    | simp only [go_sem, Nat.reduceAdd, Nat.reduceSub, Nat.reduceMul, Nat.reduceEqDiff, Nat.reduceLeDiff, Nat.reduceLT, Int.reduceEq, Int.reduceNe, Int.reduceLT, Int.reduceLE, Int.reduceAdd, Int.reduceSub, Int.reduceMul, Int.reduceNeg, Int.reduceToNat, Int.reduceTDiv, Int.reduceTMod, Int.reduceBEq, Int.reduceBNe, decide_true, decide_false, reduceCtorEq, reduceIte, P17, q17, e1]
    | simp (disch := omega) only [w64, w32, wu8, wu16, wu32, wu64]
    | ((with_reducible refine o_call (c1) ?he ?hc ?_); (case he | hc => first | rfl | (simp [D.erL, D.er, D.closedL, D.closed, k1, k2, k3, k4, k5, k6, k7, k8]; done)))
    | ((with_reducible refine o_call (c2) ?he ?hc ?_); (case he | hc => first | rfl | (simp [D.erL, D.er, D.closedL, D.closed, k1, k2, k3, k4, k5, k6, k7, k8]; done)))
    | with_reducible first | apply cd_dec | apply cd_eq | apply cd_ne | apply cd_split | apply gd_dec | apply gd_eq | apply gd_ne | apply gd_split
    | ((with_reducible refine And.intro ?hw ?_); (case hw => first | omega | rfl | exact ⟨_, _, rfl⟩ | assumption | (simp only [lN1, lN2, lN3, lN4, lN5, lN6, lN7, k1, k2, k3, k4, k5, k6, k7, k8] <;> omega)))
    | with_reducible intro _)
    all_goals first
      | omega
      | (simp [D.closed, D.er]; done)
end Go.Proofs.YtgjkhlnpplajjaaDoor
end
section
set_option maxRecDepth 100000
set_option linter.unusedSimpArgs false
set_option linter.unusedVariables false
namespace Go.Proofs.YtgjkhlnpplajjaaDoor
open Go GoV Go.RowKit
def h100 (l : List (List UInt8)) : Bool := l.all fun t => decide (t.length ≤ 100)
def fewB (x : Seal) : Bool := h100 x.sig && (h100 x.path && (decide (x.sig.length ≤ 30) && decide (x.path.length ≤ 30)))
theorem h100_take {l : List (List UInt8)} {k : Nat} (h : k < l.length) (h1 : h100 (l.take k) = true) (h2 : (l.getD k []).length ≤ 100) : h100 (l.take (k + 1)) = true := by
  have htk : l.take (k + 1) = l.take k ++ [l.getD k []] := by
    rw [List.take_succ_eq_append_getElem h]; simp [List.getD, h]
  unfold h100 at *
  rw [htk, List.all_append, h1, List.all_cons, decide_eq_true h2]
  rfl
theorem h100_not {l : List (List UInt8)} {k : Nat} (h : k < l.length) (h2 : ¬(l.getD k []).length ≤ 100) : h100 l = false := by
  unfold h100
  rw [List.all_eq_false]
  refine ⟨l.getD k [], by simp [List.getD, h], fun q => h2 (of_decide_eq_true q)⟩
set_option maxHeartbeats 2000000 in
theorem few_p (x : Seal) : Pur M 12 [sealD x] (.bool (fewB x)) := by
  refine ok12 rfl ?_
  rw [i12]
  unfold c12 sealD
  have hsl := strs_len x.sig
  have hpl := strs_len x.path
  repeat' (first
    | with_reducible first | apply swp_seq | apply swp_reg | apply swp_regD | apply swp_block | apply swp_exit | apply swp_ret | apply swp_skip | apply swp_cd
    | simp only [go_sem, Nat.reduceAdd, Nat.reduceSub, Nat.reduceMul, Nat.reduceEqDiff, Nat.reduceLeDiff, Nat.reduceLT, Int.reduceEq, Int.reduceNe, Int.reduceLT, Int.reduceLE, Int.reduceAdd, Int.reduceSub, Int.reduceMul, Int.reduceNeg, Int.reduceToNat, Int.reduceTDiv, Int.reduceTMod, Int.reduceBEq, Int.reduceBNe, decide_true, decide_false, reduceCtorEq, reduceIte, P12, q12]
    | simp (disch := omega) only [w64, w32, wu8, wu16, wu32, wu64]
    | with_reducible first | apply cd_dec | apply cd_eq | apply cd_ne | apply cd_split | apply gd_dec | apply gd_eq | apply gd_ne | apply gd_split
    | ((with_reducible refine And.intro ?hw ?_); (case hw => first | omega | rfl | exact ⟨_, _, rfl⟩ | assumption | (simp only [lN1, lN2, lN3, lN4, lN5, lN6, lN7] <;> omega)))
    | with_reducible intro _)
  refine swp_fam [0, 1, 2, 3] (fun k : Nat => ⟨[sealD x, .ptr 0 0, .bool false, .int .i64 (k : Nat), .undef, .undef, .undef, .undef, .undef], [], ⟨[.cells [.int .i64 x.idx, .slice (strs x.sig) .no, .slice (strs x.path) .no]], []⟩⟩)
    (fun k => k ≤ 30 ∧ k ≤ x.sig.length ∧ h100 (x.sig.take k) = true) (fun k => 30 - k) 0 ⟨by omega, by omega, rfl⟩ ?_ ?_
  · simp [keepE, St.keep]
  rintro k ⟨hk, hk1, hk2⟩
  by_cases hlt : k < x.sig.length ∧ k < 30
  · have e1 : decide ((k : Int) < ((x.sig.length : Nat) : Int)) = true := decide_eq_true (by omega)
    have e2 : decide ((k : Int) < 30) = true := decide_eq_true (by omega)
    have hg := strs_get (l := x.sig) (i := k) (by omega)
    have t1 : ((k : Nat) : Int).toNat = k := Int.toNat_natCast k
    have hal := fun h => h100_take (l := x.sig) (k := k) (by omega) hk2 h
    have han : ¬(x.sig.getD k []).length ≤ 100 → fewB x = false := fun h => by unfold fewB; rw [h100_not (l := x.sig) (k := k) (by omega) h, Bool.false_and]
    generalize x.sig.getD k [] = g at *
    by_cases hb : g.length ≤ 100
    · have e3 : decide (100 < ((g.length : Nat) : Int)) = false := decide_eq_false (by omega)
      generalize hS0 : strs x.sig = S at *
      generalize hP0 : strs x.path = P at *
      repeat' (first
    | with_reducible first | apply swp_seq | apply swp_reg | apply swp_regD | apply swp_block | apply swp_exit | apply swp_ret | apply swp_skip | apply swp_cd
    | simp only [go_sem, Nat.reduceAdd, Nat.reduceSub, Nat.reduceMul, Nat.reduceEqDiff, Nat.reduceLeDiff, Nat.reduceLT, Int.reduceEq, Int.reduceNe, Int.reduceLT, Int.reduceLE, Int.reduceAdd, Int.reduceSub, Int.reduceMul, Int.reduceNeg, Int.reduceToNat, Int.reduceTDiv, Int.reduceTMod, Int.reduceBEq, Int.reduceBNe, decide_true, decide_false, reduceCtorEq, reduceIte, P12, q12, t1, hg, hsl, e1, e2, e3]
    | simp (disch := omega) only [w64, w32, wu8, wu16, wu32, wu64]
    | with_reducible first | apply cd_dec | apply cd_eq | apply cd_ne | apply cd_split | apply gd_dec | apply gd_eq | apply gd_ne | apply gd_split
    | ((with_reducible refine And.intro ?hw ?_); (case hw => first | omega | rfl | exact ⟨_, _, rfl⟩ | assumption | (simp only [lN1, lN2, lN3, lN4, lN5, lN6, lN7, hsl] <;> omega)))
    | with_reducible intro _)
      all_goals try omega
      refine ⟨k + 1, ⟨by omega, by omega, hal hb⟩, by omega, ?_⟩
      simp [keepE, St.keep, hS0, hP0]
    · rw [han hb]
      have e3 : decide (100 < ((g.length : Nat) : Int)) = true := decide_eq_true (by omega)
      generalize hS0 : strs x.sig = S at *
      generalize hP0 : strs x.path = P at *
      repeat' (first
    | with_reducible first | apply swp_seq | apply swp_reg | apply swp_regD | apply swp_block | apply swp_exit | apply swp_ret | apply swp_skip | apply swp_cd
    | simp only [go_sem, Nat.reduceAdd, Nat.reduceSub, Nat.reduceMul, Nat.reduceEqDiff, Nat.reduceLeDiff, Nat.reduceLT, Int.reduceEq, Int.reduceNe, Int.reduceLT, Int.reduceLE, Int.reduceAdd, Int.reduceSub, Int.reduceMul, Int.reduceNeg, Int.reduceToNat, Int.reduceTDiv, Int.reduceTMod, Int.reduceBEq, Int.reduceBNe, decide_true, decide_false, reduceCtorEq, reduceIte, P12, q12, t1, hg, hsl, e1, e2, e3]
    | simp (disch := omega) only [w64, w32, wu8, wu16, wu32, wu64]
    | with_reducible first | apply cd_dec | apply cd_eq | apply cd_ne | apply cd_split | apply gd_dec | apply gd_eq | apply gd_ne | apply gd_split
    | ((with_reducible refine And.intro ?hw ?_); (case hw => first | omega | rfl | exact ⟨_, _, rfl⟩ | assumption | (simp only [lN1, lN2, lN3, lN4, lN5, lN6, lN7, hsl] <;> omega)))
    | with_reducible intro _)
      all_goals first
        | omega
        | (simp [D.closed, D.er]; done)
  have hfin : fewB x = (h100 x.path && (decide (x.sig.length ≤ 30) && decide (x.path.length ≤ 30))) := by
    unfold fewB
    by_cases q : x.sig.length ≤ 30
    · rw [List.take_of_length_le (by omega)] at hk2
      rw [hk2, Bool.true_and]
    · rw [decide_eq_false q]; simp
  rw [hfin]
  have hlast : ∀ k2 : Nat, ¬(k2 < x.path.length ∧ k2 < 30) → k2 ≤ 30 → k2 ≤ x.path.length → h100 (x.path.take k2) = true → (h100 x.path && (decide (x.sig.length ≤ 30) && decide (x.path.length ≤ 30))) = (decide (x.sig.length ≤ 30) && decide (x.path.length ≤ 30)) := by
    intro k2 h1 h2 h3 h4
    by_cases q : x.path.length ≤ 30
    · rw [List.take_of_length_le (by omega)] at h4
      rw [h4, Bool.true_and]
    · rw [decide_eq_false q]; simp
  have loopB : ∀ k : Nat, SWp C12 (.loop (.seq (.seq (.reg r12_7) (.cond (.var 7) .skip (.exit 2))) (.seq (.block 3 (.seq (.reg r12_8) (.cond (.var 8) (.seq (.reg r12_9) .ret) .skip))) (.reg r12_10))))
      (fun e s' => match e with
        | .exit i => if i = 2 then SWp C12 (.seq (.reg r12_11) .ret) (fun e s => (match e with | .exit _ => False | _ => True) ∧ (s.env.getD 2 .undef).closed = true ∧ (s.env.getD 2 .undef).er = .bool (h100 x.path && (decide (x.sig.length ≤ 30) && decide (x.path.length ≤ 30)))) s' else False ∧ (s'.env.getD 2 .undef).closed = true ∧ (s'.env.getD 2 .undef).er = .bool (h100 x.path && (decide (x.sig.length ≤ 30) && decide (x.path.length ≤ 30)))
        | e => match e with
          | .normal => SWp C12 (.seq (.reg r12_11) .ret) (fun e s => (match e with | .exit _ => False | _ => True) ∧ (s.env.getD 2 .undef).closed = true ∧ (s.env.getD 2 .undef).er = .bool (h100 x.path && (decide (x.sig.length ≤ 30) && decide (x.path.length ≤ 30)))) s'
          | e => (match e with | .exit _ => False | _ => True) ∧ (s'.env.getD 2 .undef).closed = true ∧ (s'.env.getD 2 .undef).er = .bool (h100 x.path && (decide (x.sig.length ≤ 30) && decide (x.path.length ≤ 30))))
      ⟨[sealD x, .ptr 0 0, .bool false, .int .i64 (k : Nat), .int .i64 0, .bool false, .undef, .undef, .undef], [], ⟨[.cells [.int .i64 x.idx, .slice (strs x.sig) .no, .slice (strs x.path) .no]], []⟩⟩ := by
    intro k0
    refine swp_fam [0, 1, 2, 4] (fun k : Nat => ⟨[sealD x, .ptr 0 0, .bool false, .undef, .int .i64 (k : Nat), .undef, .undef, .undef, .undef], [], ⟨[.cells [.int .i64 x.idx, .slice (strs x.sig) .no, .slice (strs x.path) .no]], []⟩⟩)
      (fun k => k ≤ 30 ∧ k ≤ x.path.length ∧ h100 (x.path.take k) = true) (fun k => 30 - k) 0 ⟨by omega, by omega, rfl⟩ ?_ ?_
    · simp [keepE, St.keep]
    rintro k ⟨hk, hk1, hk2⟩
    by_cases hlt : k < x.path.length ∧ k < 30
    · have e1 : decide ((k : Int) < ((x.path.length : Nat) : Int)) = true := decide_eq_true (by omega)
      have e2 : decide ((k : Int) < 30) = true := decide_eq_true (by omega)
      have hg := strs_get (l := x.path) (i := k) (by omega)
      have t1 : ((k : Nat) : Int).toNat = k := Int.toNat_natCast k
      have hal := fun h => h100_take (l := x.path) (k := k) (by omega) hk2 h
      have han : ¬(x.path.getD k []).length ≤ 100 → h100 x.path = false := fun h => h100_not (l := x.path) (k := k) (by omega) h
      generalize x.path.getD k [] = g at *
      by_cases hb : g.length ≤ 100
      · have e3 : decide (100 < ((g.length : Nat) : Int)) = false := decide_eq_false (by omega)
        generalize hS0 : strs x.sig = S at *
        generalize hP0 : strs x.path = P at *
        repeat' (first
    | with_reducible first | apply swp_seq | apply swp_reg | apply swp_regD | apply swp_block | apply swp_exit | apply swp_ret | apply swp_skip | apply swp_cd
    | simp only [go_sem, Nat.reduceAdd, Nat.reduceSub, Nat.reduceMul, Nat.reduceEqDiff, Nat.reduceLeDiff, Nat.reduceLT, Int.reduceEq, Int.reduceNe, Int.reduceLT, Int.reduceLE, Int.reduceAdd, Int.reduceSub, Int.reduceMul, Int.reduceNeg, Int.reduceToNat, Int.reduceTDiv, Int.reduceTMod, Int.reduceBEq, Int.reduceBNe, decide_true, decide_false, reduceCtorEq, reduceIte, P12, q12, t1, hg, hpl, e1, e2, e3]
    | simp (disch := omega) only [w64, w32, wu8, wu16, wu32, wu64]
    | with_reducible first | apply cd_dec | apply cd_eq | apply cd_ne | apply cd_split | apply gd_dec | apply gd_eq | apply gd_ne | apply gd_split
    | ((with_reducible refine And.intro ?hw ?_); (case hw => first | omega | rfl | exact ⟨_, _, rfl⟩ | assumption | (simp only [lN1, lN2, lN3, lN4, lN5, lN6, lN7, hpl] <;> omega)))
    | with_reducible intro _)
        all_goals try omega
        refine ⟨k + 1, ⟨by omega, by omega, hal hb⟩, by omega, ?_⟩
        simp [keepE, St.keep, hS0, hP0]
      · rw [han hb]
        have e3 : decide (100 < ((g.length : Nat) : Int)) = true := decide_eq_true (by omega)
        generalize hS0 : strs x.sig = S at *
        generalize hP0 : strs x.path = P at *
        repeat' (first
    | with_reducible first | apply swp_seq | apply swp_reg | apply swp_regD | apply swp_block | apply swp_exit | apply swp_ret | apply swp_skip | apply swp_cd
    | simp only [go_sem, Nat.reduceAdd, Nat.reduceSub, Nat.reduceMul, Nat.reduceEqDiff, Nat.reduceLeDiff, Nat.reduceLT, Int.reduceEq, Int.reduceNe, Int.reduceLT, Int.reduceLE, Int.reduceAdd, Int.reduceSub, Int.reduceMul, Int.reduceNeg, Int.reduceToNat, Int.reduceTDiv, Int.reduceTMod, Int.reduceBEq, Int.reduceBNe, decide_true, decide_false, reduceCtorEq, reduceIte, P12, q12, t1, hg, hpl, e1, e2, e3]
    | simp (disch := omega) only [w64, w32, wu8, wu16, wu32, wu64]
    | with_reducible first | apply cd_dec | apply cd_eq | apply cd_ne | apply cd_split | apply gd_dec | apply gd_eq | apply gd_ne | apply gd_split
    | ((with_reducible refine And.intro ?hw ?_); (case hw => first | omega | rfl | exact ⟨_, _, rfl⟩ | assumption | (simp only [lN1, lN2, lN3, lN4, lN5, lN6, lN7, hpl] <;> omega)))
    | with_reducible intro _)
        all_goals first
          | omega
          | (simp [D.closed, D.er]; done)
    rw [hlast k hlt hk hk1 hk2]
    have w1 : decide (((x.sig.length : Nat) : Int) ≤ 30) = decide (x.sig.length ≤ 30) := by
      by_cases q : x.sig.length ≤ 30
      · rw [decide_eq_true q, decide_eq_true (by omega)]
      · rw [decide_eq_false q, decide_eq_false (by omega)]
    have w2 : decide (((x.path.length : Nat) : Int) ≤ 30) = decide (x.path.length ≤ 30) := by
      by_cases q : x.path.length ≤ 30
      · rw [decide_eq_true q, decide_eq_true (by omega)]
      · rw [decide_eq_false q, decide_eq_false (by omega)]
    generalize hS0 : strs x.sig = S at *
    generalize hP0 : strs x.path = P at *
    by_cases q : k < x.path.length
    · have e1 : decide ((k : Int) < ((x.path.length : Nat) : Int)) = true := decide_eq_true (by omega)
      have e2 : decide ((k : Int) < 30) = false := decide_eq_false (by omega)
      cases hA : decide (x.sig.length ≤ 30) <;> rw [hA] at w1 <;>
      · repeat' (first
    | with_reducible first | apply swp_seq | apply swp_reg | apply swp_regD | apply swp_block | apply swp_exit | apply swp_ret | apply swp_skip | apply swp_cd
    | simp only [go_sem, Nat.reduceAdd, Nat.reduceSub, Nat.reduceMul, Nat.reduceEqDiff, Nat.reduceLeDiff, Nat.reduceLT, Int.reduceEq, Int.reduceNe, Int.reduceLT, Int.reduceLE, Int.reduceAdd, Int.reduceSub, Int.reduceMul, Int.reduceNeg, Int.reduceToNat, Int.reduceTDiv, Int.reduceTMod, Int.reduceBEq, Int.reduceBNe, decide_true, decide_false, reduceCtorEq, reduceIte, P12, q12, hpl, hsl, e1, e2, w1, w2]
    | simp (disch := omega) only [w64, w32, wu8, wu16, wu32, wu64]
    | with_reducible first | apply cd_dec | apply cd_eq | apply cd_ne | apply cd_split | apply gd_dec | apply gd_eq | apply gd_ne | apply gd_split
    | ((with_reducible refine And.intro ?hw ?_); (case hw => first | omega | rfl | exact ⟨_, _, rfl⟩ | assumption | (simp only [lN1, lN2, lN3, lN4, lN5, lN6, lN7, hpl, hsl] <;> omega)))
    | with_reducible intro _)
        all_goals first
          | omega
          | (simp [D.closed, D.er]; done)
    · have e1 : decide ((k : Int) < ((x.path.length : Nat) : Int)) = false := decide_eq_false (by omega)
      cases hA : decide (x.sig.length ≤ 30) <;> rw [hA] at w1 <;>
      · repeat' (first
    | with_reducible first | apply swp_seq | apply swp_reg | apply swp_regD | apply swp_block | apply swp_exit | apply swp_ret | apply swp_skip | apply swp_cd
    | simp only [go_sem, Nat.reduceAdd, Nat.reduceSub, Nat.reduceMul, Nat.reduceEqDiff, Nat.reduceLeDiff, Nat.reduceLT, Int.reduceEq, Int.reduceNe, Int.reduceLT, Int.reduceLE, Int.reduceAdd, Int.reduceSub, Int.reduceMul, Int.reduceNeg, Int.reduceToNat, Int.reduceTDiv, Int.reduceTMod, Int.reduceBEq, Int.reduceBNe, decide_true, decide_false, reduceCtorEq, reduceIte, P12, q12, hpl, hsl, e1, w1, w2]
    | simp (disch := omega) only [w64, w32, wu8, wu16, wu32, wu64]
    | with_reducible first | apply cd_dec | apply cd_eq | apply cd_ne | apply cd_split | apply gd_dec | apply gd_eq | apply gd_ne | apply gd_split
    | ((with_reducible refine And.intro ?hw ?_); (case hw => first | omega | rfl | exact ⟨_, _, rfl⟩ | assumption | (simp only [lN1, lN2, lN3, lN4, lN5, lN6, lN7, hpl, hsl] <;> omega)))
    | with_reducible intro _)
        all_goals first
          | omega
          | (simp [D.closed, D.er]; done)
  by_cases q : k < x.sig.length
  · have e1 : decide ((k : Int) < ((x.sig.length : Nat) : Int)) = true := decide_eq_true (by omega)
    have e2 : decide ((k : Int) < 30) = false := decide_eq_false (by omega)
    repeat' (first
    | with_reducible first | apply swp_seq | apply swp_reg | apply swp_regD | apply swp_block | apply swp_exit | apply swp_ret | apply swp_skip | apply swp_cd
    | simp only [go_sem, Nat.reduceAdd, Nat.reduceSub, Nat.reduceMul, Nat.reduceEqDiff, Nat.reduceLeDiff, Nat.reduceLT, Int.reduceEq, Int.reduceNe, Int.reduceLT, Int.reduceLE, Int.reduceAdd, Int.reduceSub, Int.reduceMul, Int.reduceNeg, Int.reduceToNat, Int.reduceTDiv, Int.reduceTMod, Int.reduceBEq, Int.reduceBNe, decide_true, decide_false, reduceCtorEq, reduceIte, P12, q12, hsl, e1, e2]
    | simp (disch := omega) only [w64, w32, wu8, wu16, wu32, wu64]
    | with_reducible first | apply cd_dec | apply cd_eq | apply cd_ne | apply cd_split | apply gd_dec | apply gd_eq | apply gd_ne | apply gd_split
    | ((with_reducible refine And.intro ?hw ?_); (case hw => first | omega | rfl | exact ⟨_, _, rfl⟩ | assumption | (simp only [lN1, lN2, lN3, lN4, lN5, lN6, lN7, hsl] <;> omega)))
    | with_reducible intro _)
    all_goals try omega
    exact loopB k
  · have e1 : decide ((k : Int) < ((x.sig.length : Nat) : Int)) = false := decide_eq_false (by omega)
    repeat' (first
    | with_reducible first | apply swp_seq | apply swp_reg | apply swp_regD | apply swp_block | apply swp_exit | apply swp_ret | apply swp_skip | apply swp_cd
    | simp only [go_sem, Nat.reduceAdd, Nat.reduceSub, Nat.reduceMul, Nat.reduceEqDiff, Nat.reduceLeDiff, Nat.reduceLT, Int.reduceEq, Int.reduceNe, Int.reduceLT, Int.reduceLE, Int.reduceAdd, Int.reduceSub, Int.reduceMul, Int.reduceNeg, Int.reduceToNat, Int.reduceTDiv, Int.reduceTMod, Int.reduceBEq, Int.reduceBNe, decide_true, decide_false, reduceCtorEq, reduceIte, P12, q12, hsl, e1]
    | simp (disch := omega) only [w64, w32, wu8, wu16, wu32, wu64]
    | with_reducible first | apply cd_dec | apply cd_eq | apply cd_ne | apply cd_split | apply gd_dec | apply gd_eq | apply gd_ne | apply gd_split
    | ((with_reducible refine And.intro ?hw ?_); (case hw => first | omega | rfl | exact ⟨_, _, rfl⟩ | assumption | (simp only [lN1, lN2, lN3, lN4, lN5, lN6, lN7, hsl] <;> omega)))
    | with_reducible intro _)
    all_goals try omega
    exact loopB k
end Go.Proofs.YtgjkhlnpplajjaaDoor
end
section
set_option maxRecDepth 100000
namespace Go.Proofs.YtgjkhlnpplajjaaDoor
open Go GoV
/- 3 bogie.bogielaw02.SignMatchesReference · 6 arguments · kept slots [0, 1, 2, 3, 4, 5, 11, 12, 13, 14, 15, 16, 17, 18, 19, 20, 21, 22, 42] -/
noncomputable def E3 (n m : Nat) : Cfg := ⟨M, [0, 1, 2, 3, 4, 5, 11, 12, 13, 14, 15, 16, 17, 18, 19, 20, 21, 22, 42], 116, n, m, []⟩
noncomputable def C3 : Cfg := E3 0 0
@[reducible] noncomputable def r3_0 : List RO := [
  ⟨.var 6, .box, [.var 5], none⟩,
  ⟨.var 7, .mv, [.con (.bool false)], none⟩]
@[reducible] noncomputable def r3_1 : List RO := [
  ⟨.loc 23, .call, [(.con (.fn (.func 10) [] []))], none⟩,
  ⟨.var 8, .mv, [.loc 23], none⟩]
@[reducible] noncomputable def r3_2 : List RO := [
  ⟨.loc 24, .mv, [.var 0], none⟩,
  ⟨.loc 25, .mv, [.var 3], none⟩,
  ⟨.loc 26, .mv, [.var 4], none⟩,
  ⟨.loc 27, .bsl 1, [.loc 24, .loc 25, .loc 26], none⟩,
  ⟨.loc 28, .call, [(.con (.fn (.func 11) [] [])), .loc 27], none⟩,
  ⟨.loc 29, .un .not, [.loc 28], none⟩,
  ⟨.loc 30, .mv, [.loc 29], none⟩,
  ⟨.loc 31, .ld true 3, [.var 6], (some (.loc 30, false))⟩,
  ⟨.loc 32, .call, [(.con (.fn (.func 12) [] [])), .loc 31], (some (.loc 30, false))⟩,
  ⟨.loc 33, .un .not, [.loc 32], (some (.loc 30, false))⟩,
  ⟨.loc 34, .pick, [.loc 30, .con (.bool true), .loc 33], none⟩,
  ⟨.loc 35, .mv, [.loc 34], none⟩,
  ⟨.loc 36, .mv, [.var 1], (some (.loc 35, false))⟩,
  ⟨.loc 37, .bin .gtr, [.loc 36, .con (.int .i64 3)], (some (.loc 35, false))⟩,
  ⟨.loc 38, .mv, [.loc 37], (some (.loc 35, false))⟩,
  ⟨.loc 39, .mv, [.var 1], (some (.loc 38, true))⟩,
  ⟨.loc 40, .bin .leq, [.loc 39, .con (.int .i64 8)], (some (.loc 38, true))⟩,
  ⟨.loc 41, .pick, [.loc 38, .loc 40, .con (.bool false)], (some (.loc 35, false))⟩,
  ⟨.var 18, .pick, [.loc 35, .con (.bool true), .loc 41], none⟩]
@[reducible] noncomputable def r3_3 : List RO := [
  ⟨.loc 43, .mv, [.var 8], none⟩,
  ⟨.var 7, .mv, [.loc 43], none⟩]
@[reducible] noncomputable def r3_4 : List RO := [
  ⟨.loc 45, .mv, [.var 0], none⟩,
  ⟨.loc 46, .mv, [.var 1], none⟩,
  ⟨.loc 47, .call, [(.con (.fn (.func 13) [] [])), .loc 45, .loc 46], none⟩,
  ⟨.loc 44, .mv, [.loc 47], none⟩,
  ⟨.loc 48, .ext 0, [.loc 44], none⟩,
  ⟨.loc 49, .ext 1, [.loc 44], none⟩,
  ⟨.var 9, .mv, [.loc 48], none⟩,
  ⟨.var 10, .mv, [.loc 49], none⟩]
@[reducible] noncomputable def r3_5 : List RO := [
  ⟨.loc 51, .mv, [.var 0], none⟩,
  ⟨.loc 52, .mv, [.var 1], none⟩,
  ⟨.loc 53, .call, [(.con (.fn (.func 14) [] [])), .loc 51, .loc 52], none⟩,
  ⟨.loc 50, .mv, [.loc 53], none⟩,
  ⟨.loc 54, .ext 0, [.loc 50], none⟩,
  ⟨.loc 55, .ext 1, [.loc 50], none⟩,
  ⟨.var 11, .mv, [.loc 54], none⟩,
  ⟨.var 12, .mv, [.loc 55], none⟩]
@[reducible] noncomputable def r3_6 : List RO := [
  ⟨.loc 57, .mv, [.var 0], none⟩,
  ⟨.loc 58, .mv, [.var 1], none⟩,
  ⟨.loc 59, .mv, [.var 2], none⟩,
  ⟨.loc 60, .mv, [.var 3], none⟩,
  ⟨.loc 61, .call, [(.con (.fn (.func 15) [] [])), .loc 57, .loc 58, .loc 59, .loc 60], none⟩,
  ⟨.loc 56, .mv, [.loc 61], none⟩,
  ⟨.loc 62, .ext 0, [.loc 56], none⟩,
  ⟨.loc 63, .ext 1, [.loc 56], none⟩,
  ⟨.var 13, (.newb [(.int .i64 0), (.lit (.slice none 0 0)), (.lit (.slice none 0 0))]), [], none⟩,
  ⟨.none, .st 3, [.var 13, .loc 62], none⟩,
  ⟨.var 14, .mv, [.loc 63], none⟩]
@[reducible] noncomputable def r3_7 : List RO := [
  ⟨.loc 65, .mv, [.var 0], none⟩,
  ⟨.loc 66, .mv, [.var 1], none⟩,
  ⟨.loc 67, .mv, [.var 2], none⟩,
  ⟨.loc 68, .mv, [.var 3], none⟩,
  ⟨.loc 69, .call, [(.con (.fn (.func 16) [] [])), .loc 65, .loc 66, .loc 67, .loc 68], none⟩,
  ⟨.loc 64, .mv, [.loc 69], none⟩,
  ⟨.loc 70, .ext 0, [.loc 64], none⟩,
  ⟨.loc 71, .ext 1, [.loc 64], none⟩,
  ⟨.var 15, (.newb [(.int .i64 0), (.lit (.slice none 0 0)), (.lit (.slice none 0 0))]), [], none⟩,
  ⟨.none, .st 3, [.var 15, .loc 70], none⟩,
  ⟨.var 16, .mv, [.loc 71], none⟩]
@[reducible] noncomputable def r3_8 : List RO := [
  ⟨.loc 72, .mv, [.var 9], none⟩,
  ⟨.loc 73, .mv, [.var 11], none⟩,
  ⟨.loc 74, .bin .eql, [.loc 72, .loc 73], none⟩,
  ⟨.loc 75, .mv, [.loc 74], none⟩,
  ⟨.loc 76, .mv, [.var 10], (some (.loc 75, true))⟩,
  ⟨.loc 77, .mv, [.var 12], (some (.loc 75, true))⟩,
  ⟨.loc 78, .bin .eql, [.loc 76, .loc 77], (some (.loc 75, true))⟩,
  ⟨.loc 79, .pick, [.loc 75, .loc 78, .con (.bool false)], none⟩,
  ⟨.loc 80, .mv, [.loc 79], none⟩,
  ⟨.loc 81, .mv, [.var 14], (some (.loc 80, true))⟩,
  ⟨.loc 82, .mv, [.var 16], (some (.loc 80, true))⟩,
  ⟨.loc 83, .bin .eql, [.loc 81, .loc 82], (some (.loc 80, true))⟩,
  ⟨.loc 84, .pick, [.loc 80, .loc 83, .con (.bool false)], none⟩,
  ⟨.loc 85, .mv, [.loc 84], none⟩,
  ⟨.loc 86, .ld true 3, [.var 13], (some (.loc 85, true))⟩,
  ⟨.loc 87, .ld true 3, [.var 15], (some (.loc 85, true))⟩,
  ⟨.loc 88, .call, [(.con (.fn (.func 17) [] [])), .loc 86, .loc 87], (some (.loc 85, true))⟩,
  ⟨.loc 89, .pick, [.loc 85, .loc 88, .con (.bool false)], none⟩,
  ⟨.var 17, .mv, [.loc 89], none⟩]
@[reducible] noncomputable def r3_9 : List (RO × Bool) := [
  (⟨.loc 90, .mv, [.var 8], none⟩, true),
  (⟨.loc 91, .mv, [.loc 90], none⟩, true),
  (⟨.loc 92, .mv, [.var 17], (some (.loc 91, true))⟩, true),
  (⟨.loc 93, .pick, [.loc 91, .loc 92, .con (.bool false)], none⟩, true),
  (⟨.loc 94, .mv, [.loc 93], none⟩, true),
  (⟨.loc 95, .mv, [.var 4], (some (.loc 94, true))⟩, true),
  (⟨.loc 96, .mv, [.var 3], (some (.loc 94, true))⟩, true),
  (⟨.loc 97, .ld true 3, [.var 6], (some (.loc 94, true))⟩, true),
  (⟨.loc 98, .call, [(.con (.fn (.func 18) [] [])), .loc 95, .loc 96, .loc 97], (some (.loc 94, true))⟩, true),
  (⟨.loc 99, .mv, [.var 4], (some (.loc 94, true))⟩, true),
  (⟨.loc 100, .mv, [.var 3], (some (.loc 94, true))⟩, true),
  (⟨.loc 101, .ld true 3, [.var 6], (some (.loc 94, true))⟩, true),
  (⟨.loc 102, .call, [(.con (.fn (.func 19) [] [])), .loc 99, .loc 100, .loc 101], (some (.loc 94, true))⟩, false),
  (⟨.loc 103, .eqB false, [.loc 98, .loc 102], (some (.loc 94, true))⟩, true),
  (⟨.loc 104, .pick, [.loc 94, .loc 103, .con (.bool false)], none⟩, true),
  (⟨.loc 105, .mv, [.loc 104], none⟩, true),
  (⟨.loc 106, .mv, [.var 9], (some (.loc 105, true))⟩, true),
  (⟨.loc 107, .mv, [.var 3], (some (.loc 105, true))⟩, true),
  (⟨.loc 108, .ld true 3, [.var 6], (some (.loc 105, true))⟩, true),
  (⟨.loc 109, .call, [(.con (.fn (.func 18) [] [])), .loc 106, .loc 107, .loc 108], (some (.loc 105, true))⟩, true),
  (⟨.loc 110, .mv, [.var 11], (some (.loc 105, true))⟩, true),
  (⟨.loc 111, .mv, [.var 3], (some (.loc 105, true))⟩, true),
  (⟨.loc 112, .ld true 3, [.var 6], (some (.loc 105, true))⟩, true)]
@[reducible] noncomputable def r3_10 : List RO := [
  ⟨.loc 113, .call, [(.con (.fn (.func 19) [] [])), .loc 110, .loc 111, .loc 112], (some (.loc 105, true))⟩,
  ⟨.loc 114, .eqB false, [.loc 109, .loc 113], (some (.loc 105, true))⟩,
  ⟨.loc 115, .pick, [.loc 105, .loc 114, .con (.bool false)], none⟩,
  ⟨.var 7, .mv, [.loc 115], none⟩]
theorem P3 : C3.M = M := by unfold C3 E3; rfl
theorem i3 {a0 a1 a2 a3 a4 a5 : D} : St.init C3 [a0, a1, a2, a3, a4, a5] ⟨[], []⟩ = ⟨[a0, a1, a2, a3, a4, a5, .undef, .undef, .undef, .undef, .undef, .undef, .undef, .undef, .undef, .undef, .undef, .undef, .undef], [], ⟨[], []⟩⟩ := by unfold C3 E3; rfl
noncomputable def c3 : RC := (.seq (.reg r3_0) (.seq (.reg r3_1) (.seq (.seq (.reg r3_2) (.cond (.var 18) (.seq (.reg r3_3) .ret) .skip)) (.seq (.reg r3_4) (.seq (.reg r3_5) (.seq (.reg r3_6) (.seq (.reg r3_7) (.seq (.reg r3_8) (.seq (.regD r3_9 r3_10) .ret)))))))))
noncomputable def q3 : List RR := [(.slot (.var 7))]
theorem z3 {n m : Nat} : resCode (E3 n m) (Tryd.f3.body.getD .skip) = some c3 := by kernel_rfl
theorem zr3 {n m : Nat} : resRs (E3 n m) Tryd.f3.results.toList = some q3 := by kernel_rfl
theorem ok3 {args : List D} {d : D} (hl : args.length = 6) (h : SWp C3 c3 (fun e s => (match e with | .exit _ => False | _ => True) ∧ rrsWp q3 s fun ds => D.closed (oneOrTup ds) = true ∧ (oneOrTup ds).er = d) (St.init C3 args ⟨[], []⟩)) : Pur M 3 args d :=
  pur_of_body (C := C3) (fn := Tryd.f3) Tryd.func3 (by kernel_rfl) (by kernel_rfl) (rc := c3) z3 (rs := q3) zr3 (by kernel_rfl) (by rw [hl]; rfl) (by rw [hl]; decide) rfl rfl h
/- 4 bogie.bogielaw02.SignVerifies · 4 arguments · kept slots [0, 1, 2, 3, 8, 9, 10, 11, 12, 13, 14, 15, 16, 17, 18, 19, 20, 21, 27, 106, 111, 120, 125, 134] -/
/- 5 bogie.bogielaw02.SignSound · 4 arguments · kept slots [0, 1, 2, 3, 7, 8, 9, 10, 11, 12, 13, 14, 28, 37, 42, 59] -/
/- 6 bogie.bogielaw02.SignBinds · 5 arguments · kept slots [0, 1, 2, 3, 4, 10, 11, 12, 13, 14, 15, 16, 17, 39, 60, 65] -/
/- 7 bogie.bogielaw02.SignChanges · 6 arguments · kept slots [0, 1, 2, 3, 4, 5, 12, 13, 14, 15, 16, 17, 18, 19, 20, 21, 36, 70, 88, 97, 120] -/
/- 8 bogie.bogielaw02.SignSecrets · 5 arguments · kept slots [0, 1, 2, 3, 4, 10, 11, 12, 13, 14, 15, 16, 17, 37, 58, 63] -/
/- 9 bogie.bogielaw02.SignForm · 3 arguments · kept slots [0, 1, 2, 5, 6, 7, 8, 9, 10, 11, 12, 30, 60, 65, 74, 79, 88] -/
/- 10 bogie.bogielaw02.head · 0 arguments · kept slots [0, 1, 2, 4, 5, 6, 8, 9, 10, 46] -/
noncomputable def E10 (n m : Nat) : Cfg := ⟨M, [0, 1, 2, 4, 5, 6, 8, 9, 10, 46], 82, n, m, []⟩
noncomputable def C10 : Cfg := E10 0 0
@[reducible] noncomputable def r10_0 : List RO := [
  ⟨.var 0, .mv, [.con (.bool false)], none⟩]
@[reducible] noncomputable def r10_1 : List RO := [
  ⟨.loc 12, .call, [(.con (.fn (.func 13) [] [])), (.con (.str [115, 101, 99, 114, 101, 116])), .con (.int .i64 2)], none⟩,
  ⟨.loc 11, .mv, [.loc 12], none⟩,
  ⟨.loc 13, .ext 0, [.loc 11], none⟩,
  ⟨.loc 14, .ext 1, [.loc 11], none⟩,
  ⟨.var 1, .mv, [.loc 13], none⟩,
  ⟨.var 2, .mv, [.loc 14], none⟩]
@[reducible] noncomputable def r10_2 : List RO := [
  ⟨.loc 16, .call, [(.con (.fn (.func 13) [] [])), (.con (.str [115, 101, 99, 114, 101, 116])), .con (.int .i64 9)], none⟩,
  ⟨.loc 15, .mv, [.loc 16], none⟩,
  ⟨.loc 17, .ext 0, [.loc 15], none⟩,
  ⟨.loc 18, .ext 1, [.loc 15], none⟩,
  ⟨.loc 3, .mv, [.loc 17], none⟩,
  ⟨.var 3, .mv, [.loc 18], none⟩]
@[reducible] noncomputable def r10_3 : List RO := [
  ⟨.loc 20, .call, [(.con (.fn (.func 15) [] [])), (.con (.str [115, 101, 99, 114, 101, 116])), .con (.int .i64 2), .con (.int .i64 3), (.con (.str [109, 101, 115, 115, 97, 103, 101]))], none⟩,
  ⟨.loc 19, .mv, [.loc 20], none⟩,
  ⟨.loc 21, .ext 0, [.loc 19], none⟩,
  ⟨.loc 22, .ext 1, [.loc 19], none⟩,
  ⟨.var 4, (.newb [(.int .i64 0), (.lit (.slice none 0 0)), (.lit (.slice none 0 0))]), [], none⟩,
  ⟨.none, .st 3, [.var 4, .loc 21], none⟩,
  ⟨.var 5, .mv, [.loc 22], none⟩]
@[reducible] noncomputable def r10_4 : List RO := [
  ⟨.loc 24, .call, [(.con (.fn (.func 15) [] [])), (.con (.str [115, 101, 99, 114, 101, 116])), .con (.int .i64 2), .con (.int .i64 4), (.con (.str [109, 101, 115, 115, 97, 103, 101]))], none⟩,
  ⟨.loc 23, .mv, [.loc 24], none⟩,
  ⟨.loc 25, .ext 0, [.loc 23], none⟩,
  ⟨.loc 26, .ext 1, [.loc 23], none⟩,
  ⟨.loc 7, (.newb [(.int .i64 0), (.lit (.slice none 0 0)), (.lit (.slice none 0 0))]), [], none⟩,
  ⟨.none, .st 3, [.loc 7, .loc 25], none⟩,
  ⟨.var 6, .mv, [.loc 26], none⟩]
@[reducible] noncomputable def r10_5 : List RO := [
  ⟨.loc 27, .mv, [.var 2], none⟩,
  ⟨.loc 28, .bin .neq, [.loc 27, .con (.int .i64 0)], none⟩,
  ⟨.loc 29, .mv, [.loc 28], none⟩,
  ⟨.loc 30, .mv, [.var 3], (some (.loc 29, false))⟩,
  ⟨.loc 31, .bin .neq, [.loc 30, .con (.int .i64 1)], (some (.loc 29, false))⟩,
  ⟨.loc 32, .pick, [.loc 29, .con (.bool true), .loc 31], none⟩,
  ⟨.loc 33, .mv, [.loc 32], none⟩,
  ⟨.loc 34, .mv, [.var 5], (some (.loc 33, false))⟩,
  ⟨.loc 35, .bin .neq, [.loc 34, .con (.int .i64 0)], (some (.loc 33, false))⟩,
  ⟨.loc 36, .pick, [.loc 33, .con (.bool true), .loc 35], none⟩,
  ⟨.loc 37, .mv, [.loc 36], none⟩,
  ⟨.loc 38, .mv, [.var 6], (some (.loc 37, false))⟩,
  ⟨.loc 39, .bin .neq, [.loc 38, .con (.int .i64 1)], (some (.loc 37, false))⟩,
  ⟨.loc 40, .pick, [.loc 37, .con (.bool true), .loc 39], none⟩,
  ⟨.loc 41, .mv, [.loc 40], none⟩,
  ⟨.loc 42, .fld 2, [.var 4], (some (.loc 41, false))⟩,
  ⟨.loc 43, .ld false 1, [.loc 42], (some (.loc 41, false))⟩,
  ⟨.loc 44, .lenL, [.loc 43], (some (.loc 41, false))⟩,
  ⟨.loc 45, .bin .neq, [.loc 44, .con (.int .i64 2)], (some (.loc 41, false))⟩,
  ⟨.var 9, .pick, [.loc 41, .con (.bool true), .loc 45], none⟩]
@[reducible] noncomputable def r10_6 : List RO := [
  ⟨.var 0, .mv, [.con (.bool false)], none⟩]
@[reducible] noncomputable def r10_7 : List RO := [
  ⟨.loc 47, .ld true 3, [.var 4], none⟩,
  ⟨.var 7, (.newb [(.int .i64 0), (.lit (.slice none 0 0)), (.lit (.slice none 0 0))]), [], none⟩,
  ⟨.none, .st 3, [.var 7, .loc 47], none⟩]
@[reducible] noncomputable def r10_8 : List RO := [
  ⟨.loc 48, .fld 2, [.var 4], none⟩,
  ⟨.loc 49, .ld false 1, [.loc 48], none⟩,
  ⟨.loc 50, .slcL 1 false true, [.loc 49, .con (.int .i64 1)], none⟩,
  ⟨.loc 51, .fld 2, [.var 7], none⟩,
  ⟨.none, .st 1, [.loc 51, .loc 50], none⟩]
@[reducible] noncomputable def r10_9 : List RO := [
  ⟨.loc 52, .ld true 3, [.var 4], none⟩,
  ⟨.var 8, (.newb [(.int .i64 0), (.lit (.slice none 0 0)), (.lit (.slice none 0 0))]), [], none⟩,
  ⟨.none, .st 3, [.var 8, .loc 52], none⟩]
@[reducible] noncomputable def r10_10 : List RO := [
  ⟨.loc 53, .fld 1, [.var 4], none⟩,
  ⟨.loc 54, .ld false 1, [.loc 53], none⟩,
  ⟨.loc 55, .slcL 1 true false, [.loc 54, .con (.int .i64 1)], none⟩,
  ⟨.loc 56, .fld 1, [.var 8], none⟩,
  ⟨.none, .st 1, [.loc 56, .loc 55], none⟩]
@[reducible] noncomputable def r10_11 : List RO := [
  ⟨.loc 57, .fld 0, [.var 4], none⟩,
  ⟨.loc 58, .ld false 1, [.loc 57], none⟩,
  ⟨.loc 59, .bin .eql, [.loc 58, .con (.int .i64 3)], none⟩,
  ⟨.loc 60, .mv, [.loc 59], none⟩,
  ⟨.loc 61, .mv, [.var 1], (some (.loc 60, true))⟩,
  ⟨.loc 62, .ld true 3, [.var 4], (some (.loc 60, true))⟩,
  ⟨.loc 63, .call, [(.con (.fn (.func 18) [] [])), .loc 61, (.con (.str [109, 101, 115, 115, 97, 103, 101])), .loc 62], (some (.loc 60, true))⟩,
  ⟨.loc 64, .pick, [.loc 60, .loc 63, .con (.bool false)], none⟩,
  ⟨.loc 65, .mv, [.loc 64], none⟩,
  ⟨.loc 66, .mv, [.var 1], (some (.loc 65, true))⟩,
  ⟨.loc 67, .ld true 3, [.var 7], (some (.loc 65, true))⟩,
  ⟨.loc 68, .call, [(.con (.fn (.func 18) [] [])), .loc 66, (.con (.str [109, 101, 115, 115, 97, 103, 101])), .loc 67], (some (.loc 65, true))⟩,
  ⟨.loc 69, .un .not, [.loc 68], (some (.loc 65, true))⟩,
  ⟨.loc 70, .pick, [.loc 65, .loc 69, .con (.bool false)], none⟩,
  ⟨.loc 71, .mv, [.loc 70], none⟩,
  ⟨.loc 72, .mv, [.var 1], (some (.loc 71, true))⟩,
  ⟨.loc 73, .ld true 3, [.var 8], (some (.loc 71, true))⟩,
  ⟨.loc 74, .call, [(.con (.fn (.func 18) [] [])), .loc 72, (.con (.str [109, 101, 115, 115, 97, 103, 101])), .loc 73], (some (.loc 71, true))⟩,
  ⟨.loc 75, .un .not, [.loc 74], (some (.loc 71, true))⟩,
  ⟨.loc 76, .pick, [.loc 71, .loc 75, .con (.bool false)], none⟩,
  ⟨.loc 77, .mv, [.loc 76], none⟩,
  ⟨.loc 78, .ld true 3, [.var 4], (some (.loc 77, true))⟩,
  ⟨.loc 79, .call, [(.con (.fn (.func 18) [] [])), (.con (.str [])), (.con (.str [109, 101, 115, 115, 97, 103, 101])), .loc 78], (some (.loc 77, true))⟩,
  ⟨.loc 80, .un .not, [.loc 79], (some (.loc 77, true))⟩,
  ⟨.loc 81, .pick, [.loc 77, .loc 80, .con (.bool false)], none⟩,
  ⟨.var 0, .mv, [.loc 81], none⟩]
theorem P10 : C10.M = M := by unfold C10 E10; rfl
theorem i10 : St.init C10 [] ⟨[], []⟩ = ⟨[.undef, .undef, .undef, .undef, .undef, .undef, .undef, .undef, .undef, .undef], [], ⟨[], []⟩⟩ := by unfold C10 E10; rfl
noncomputable def c10 : RC := (.seq (.reg r10_0) (.seq (.reg r10_1) (.seq (.reg r10_2) (.seq (.reg r10_3) (.seq (.reg r10_4) (.seq (.seq (.reg r10_5) (.cond (.var 9) (.seq (.reg r10_6) .ret) .skip)) (.seq (.reg r10_7) (.seq (.reg r10_8) (.seq (.reg r10_9) (.seq (.reg r10_10) (.seq (.reg r10_11) .ret)))))))))))
noncomputable def q10 : List RR := [(.slot (.var 0))]
theorem z10 {n m : Nat} : resCode (E10 n m) (Tryd.f10.body.getD .skip) = some c10 := by kernel_rfl
theorem zr10 {n m : Nat} : resRs (E10 n m) Tryd.f10.results.toList = some q10 := by kernel_rfl
theorem ok10 {args : List D} {d : D} (hl : args.length = 0) (h : SWp C10 c10 (fun e s => (match e with | .exit _ => False | _ => True) ∧ rrsWp q10 s fun ds => D.closed (oneOrTup ds) = true ∧ (oneOrTup ds).er = d) (St.init C10 args ⟨[], []⟩)) : Pur M 10 args d :=
  pur_of_body (C := C10) (fn := Tryd.f10) Tryd.func10 (by kernel_rfl) (by kernel_rfl) (rc := c10) z10 (rs := q10) zr10 (by kernel_rfl) (by rw [hl]; rfl) (by rw [hl]; decide) rfl rfl h
end Go.Proofs.YtgjkhlnpplajjaaDoor
end
section
set_option maxRecDepth 100000
set_option linter.unusedSimpArgs false
set_option linter.unusedVariables false
namespace Go.Proofs.YtgjkhlnpplajjaaDoor
open Go GoV Go.RowKit
theorem small_of_is {x : Seal} (h1 : x.sig.length ≤ 1000) (h2 : ∀ t ∈ x.sig, isD t = true) (h3 : x.path.length ≤ 1000) (h4 : ∀ t ∈ x.path, isD t = true) : SmallS x :=
  ⟨h1, fun t ht => by rw [isD_len (h2 t ht)]; omega, h3, fun t ht => by rw [isD_len (h4 t ht)]; omega⟩
theorem sgn_parts (s : List UInt8) {h i : Nat} (m : List UInt8) (hh : h ≤ 8) (hi : i < 2 ^ h) : (sgn s h i m).sig.length = 18 ∧ (sgn s h i m).path.length = h ∧ (∀ t ∈ (sgn s h i m).sig, isD t = true) ∧ (∀ t ∈ (sgn s h i m).path, isD t = true) := by
  have h0 := okS_parts (okS_sgn (s := s) (m := m) hh hi)
  exact ⟨h0.1, pathL_len h _ _ (keys_len _ _), h0.2.2.1, h0.2.2.2.1⟩
theorem small_sgn (s : List UInt8) {h i : Nat} (m : List UInt8) (hh : h ≤ 8) (hi : i < 2 ^ h) : SmallS (sgn s h i m) := by
  obtain ⟨h1, h2, h3, h4⟩ := sgn_parts s m hh hi
  exact small_of_is (by omega) h3 (by omega) h4
theorem ver_len {p m : List UInt8} {x : Seal} (h : p.length ≠ 16) : ver p m x = false := by
  unfold ver
  have : (climb (sumN (joined (ends' m x.sig))) x.path x.idx.toNat == p) = false := by
    rw [beq_eq_false_iff_ne]
    intro e
    have := climb_len (p := x.path) (i := x.idx.toNat) (sumN_len (joined (ends' m x.sig)))
    rw [e] at this
    exact h this
  rw [this, Bool.and_false]
theorem ver_sig {p m : List UInt8} {x : Seal} (h : x.sig.length ≠ 18) : ver p m x = false := by unfold ver okS; simp [h]
theorem ver_idx {p m : List UInt8} {x : Seal} (h : ¬(0 ≤ x.idx ∧ x.idx < ((2 ^ x.path.length : Nat) : Int))) : ver p m x = false := by
  unfold ver okS
  have e4 : (2 : Int) ^ x.path.length = ((2 ^ x.path.length : Nat) : Int) := by simp
  rw [e4]
  by_cases q : 0 ≤ x.idx
  · have : ¬(x.idx < ((2 ^ x.path.length : Nat) : Int)) := fun q2 => h ⟨q, q2⟩
    rw [decide_eq_false this, Bool.and_false, Bool.false_and]
  · rw [decide_eq_false q]; simp
set_option maxHeartbeats 4000000 in
theorem head_p : Pur M 10 [] (.bool true) := by
  refine ok10 rfl ?_
  rw [i10]
  unfold c10
  obtain ⟨sec, hsec⟩ : ∃ l : List UInt8, l = [115, 101, 99, 114, 101, 116] := ⟨_, rfl⟩
  obtain ⟨msg, hmsg⟩ : ∃ l : List UInt8, l = [109, 101, 115, 115, 97, 103, 101] := ⟨_, rfl⟩
  have ls : sec.length ≤ 300 := by rw [hsec]; decide
  have lm : msg.length ≤ 300 := by rw [hmsg]; decide
  have a1 := public_p sec 2 ls
  have a2 := public_p sec 9 ls
  have a3 := sign_p sec 2 3 msg ls lm (by omega)
  have a4 := sign_p sec 2 4 msg ls lm (by omega)
  have e1 : pubR sec 2 = (pub sec 2, 0) := rfl
  have e2 : pubR sec 9 = ([], 1) := rfl
  have e3 : sgnR sec 2 3 msg = (sgn sec 2 3 msg, 0) := rfl
  have e4 : sgnR sec 2 4 msg = (⟨0, [], []⟩, 1) := rfl
  rw [e1] at a1
  rw [e2] at a2
  rw [e3] at a3
  rw [e4] at a4
  have hv := ver_sgn (s := sec) (m := msg) (h := 2) (i := 3) (by omega) (by decide)
  have hsm := small_sgn sec (h := 2) (i := 3) msg (by omega) (by decide)
  obtain ⟨p1, p2, p3, p4⟩ := sgn_parts sec (h := 2) (i := 3) msg (by omega) (by decide)
  have hidx : (sgn sec 2 3 msg).idx = 3 := rfl
  generalize sgn sec 2 3 msg = S at *
  generalize pub sec 2 = P at *
  obtain ⟨si, ss, sp⟩ := S
  simp only at p1 p2 p3 p4 hidx
  subst hidx
  have b1 := verify_p P msg ⟨3, ss, sp⟩ hsm lm
  rw [hv] at b1
  have b2 := verify_p P msg ⟨3, ss, sp.take 1⟩ (small_of_is (by simp only; omega) p3 (by simp; omega) (fun t ht => p4 t (List.mem_of_mem_take ht))) lm
  rw [ver_idx (by simp [p2])] at b2
  have b3 := verify_p P msg ⟨3, ss.drop 1, sp⟩ (small_of_is (by simp; omega) (fun t ht => p3 t (List.mem_of_mem_drop ht)) (by simp only; omega) p4) lm
  rw [ver_sig (by simp [p1])] at b3
  have b4 := verify_p [] msg ⟨3, ss, sp⟩ hsm lm
  rw [ver_len (by simp)] at b4
  have t1 : strs (sp.take 1) = (strs sp).take 1 := by simp [List.map_take]
  have t2 : strs (ss.drop 1) = (strs ss).drop 1 := by simp [List.map_drop]
  simp only [sealD, sgnD, pubD] at a1 a2 a3 a4 b1 b2 b3 b4
  rw [t1] at b2
  rw [t2] at b3
  have l1 := strs_len ss
  have l2 := strs_len sp
  rw [p1] at l1
  rw [p2] at l2
  have c1 := closed_strs ss
  have c2 := closed_strs sp
  have d1 := erL_strs ss
  have d2 := erL_strs sp
  have k1 := elems_strs ss
  have k2 := elems_strs sp
  have c3 : D.closedL ((strs sp).take 1) = true := by rw [← t1]; exact closed_strs _
  have c4 : D.closedL ((strs ss).drop 1) = true := by rw [← t2]; exact closed_strs _
  have d3 : D.erL ((strs sp).take 1) = (strs sp).take 1 := by rw [← t1]; exact erL_strs _
  have d4 : D.erL ((strs ss).drop 1) = (strs ss).drop 1 := by rw [← t2]; exact erL_strs _
  generalize strs ss = SS at *
  generalize strs sp = SP at *
  simp only [List.map_nil] at a4
  subst hsec
  subst hmsg
  repeat' (first
    | with_reducible first | apply swp_seq | apply swp_reg | apply swp_regD | apply swp_block | apply swp_exit | apply swp_ret | apply swp_skip | apply swp_cd
    | simp only [go_sem, Nat.reduceAdd, Nat.reduceSub, Nat.reduceMul, Nat.reduceEqDiff, Nat.reduceLeDiff, Nat.reduceLT, Int.reduceEq, Int.reduceNe, Int.reduceLT, Int.reduceLE, Int.reduceAdd, Int.reduceSub, Int.reduceMul, Int.reduceNeg, Int.reduceToNat, Int.reduceTDiv, Int.reduceTMod, Int.reduceBEq, Int.reduceBNe, decide_true, decide_false, reduceCtorEq, reduceIte, P10, q10, l1, l2]
    | simp (disch := omega) only [w64, w32, wu8, wu16, wu32, wu64]
    | ((with_reducible refine o_call (a1) ?he ?hc ?_); (case he | hc => first | rfl | (simp [D.erL, D.er, D.closedL, D.closed, l1, l2, c1, c2, c3, c4, d1, d2, d3, d4, k1, k2]; done)))
    | ((with_reducible refine o_call (a2) ?he ?hc ?_); (case he | hc => first | rfl | (simp [D.erL, D.er, D.closedL, D.closed, l1, l2, c1, c2, c3, c4, d1, d2, d3, d4, k1, k2]; done)))
    | ((with_reducible refine o_call (a3) ?he ?hc ?_); (case he | hc => first | rfl | (simp [D.erL, D.er, D.closedL, D.closed, l1, l2, c1, c2, c3, c4, d1, d2, d3, d4, k1, k2]; done)))
    | ((with_reducible refine o_call (a4) ?he ?hc ?_); (case he | hc => first | rfl | (simp [D.erL, D.er, D.closedL, D.closed, l1, l2, c1, c2, c3, c4, d1, d2, d3, d4, k1, k2]; done)))
    | ((with_reducible refine o_call (b1) ?he ?hc ?_); (case he | hc => first | rfl | (simp [D.erL, D.er, D.closedL, D.closed, l1, l2, c1, c2, c3, c4, d1, d2, d3, d4, k1, k2]; done)))
    | ((with_reducible refine o_call (b2) ?he ?hc ?_); (case he | hc => first | rfl | (simp [D.erL, D.er, D.closedL, D.closed, l1, l2, c1, c2, c3, c4, d1, d2, d3, d4, k1, k2]; done)))
    | ((with_reducible refine o_call (b3) ?he ?hc ?_); (case he | hc => first | rfl | (simp [D.erL, D.er, D.closedL, D.closed, l1, l2, c1, c2, c3, c4, d1, d2, d3, d4, k1, k2]; done)))
    | ((with_reducible refine o_call (b4) ?he ?hc ?_); (case he | hc => first | rfl | (simp [D.erL, D.er, D.closedL, D.closed, l1, l2, c1, c2, c3, c4, d1, d2, d3, d4, k1, k2]; done)))
    | ((with_reducible apply s_slFF); (case hx => first | rfl | assumption | omega | ((first | refine ⟨?_, ?_⟩ | skip) <;> first | omega | (simp only [lN1, lN2, lN3, lN4, lN5, lN6, lN7, l1, l2, c1, c2, c3, c4, d1, d2, d3, d4, k1, k2] <;> omega)) | (simp [elemsK, D.isVal, D.cells, D.closedL, D.closed, l1, l2, c1, c2, c3, c4, d1, d2, d3, d4, k1, k2]; first | done | omega)))
    | ((with_reducible first | apply s_slTF | apply s_slFT); (case h0 | h1 | hx => first | rfl | assumption | omega | ((first | refine ⟨?_, ?_⟩ | skip) <;> first | omega | (simp only [lN1, lN2, lN3, lN4, lN5, lN6, lN7, l1, l2, c1, c2, c3, c4, d1, d2, d3, d4, k1, k2] <;> omega)) | (simp [elemsK, D.isVal, D.cells, D.closedL, D.closed, l1, l2, c1, c2, c3, c4, d1, d2, d3, d4, k1, k2]; first | done | omega)))
    | ((with_reducible apply s_slTT); (case h0 | h1 | h2 | hx => first | rfl | assumption | omega | ((first | refine ⟨?_, ?_⟩ | skip) <;> first | omega | (simp only [lN1, lN2, lN3, lN4, lN5, lN6, lN7, l1, l2, c1, c2, c3, c4, d1, d2, d3, d4, k1, k2] <;> omega)) | (simp [elemsK, D.isVal, D.cells, D.closedL, D.closed, l1, l2, c1, c2, c3, c4, d1, d2, d3, d4, k1, k2]; first | done | omega)))
    | ((with_reducible first | apply s_smTF | apply s_smFT); (case h0 | h1 | hc => first | rfl | assumption | omega | ((first | refine ⟨?_, ?_⟩ | skip) <;> first | omega | (simp only [lN1, lN2, lN3, lN4, lN5, lN6, lN7, l1, l2, c1, c2, c3, c4, d1, d2, d3, d4, k1, k2] <;> omega)) | (simp [elemsK, D.isVal, D.cells, D.closedL, D.closed, l1, l2, c1, c2, c3, c4, d1, d2, d3, d4, k1, k2]; first | done | omega)))
    | ((with_reducible apply s_smTT); (case h0 | h1 | h2 | hc => first | rfl | assumption | omega | ((first | refine ⟨?_, ?_⟩ | skip) <;> first | omega | (simp only [lN1, lN2, lN3, lN4, lN5, lN6, lN7, l1, l2, c1, c2, c3, c4, d1, d2, d3, d4, k1, k2] <;> omega)) | (simp [elemsK, D.isVal, D.cells, D.closedL, D.closed, l1, l2, c1, c2, c3, c4, d1, d2, d3, d4, k1, k2]; first | done | omega)))
    | with_reducible first | apply cd_dec | apply cd_eq | apply cd_ne | apply cd_split | apply gd_dec | apply gd_eq | apply gd_ne | apply gd_split
    | ((with_reducible refine And.intro ?hw ?_); (case hw => first | omega | rfl | exact ⟨_, _, rfl⟩ | assumption | (simp only [lN1, lN2, lN3, lN4, lN5, lN6, lN7, l1, l2, c1, c2, c3, c4, d1, d2, d3, d4, k1, k2] <;> omega)))
    | with_reducible intro _)
  all_goals first
    | omega
    | (exfalso; omega)
    | (simp [D.closed, D.er]; done)
end Go.Proofs.YtgjkhlnpplajjaaDoor
end
section
set_option maxRecDepth 100000
set_option linter.unusedSimpArgs false
set_option linter.unusedVariables false
namespace Go.Proofs.YtgjkhlnpplajjaaDoor
open Go GoV Go.RowKit
theorem few_small {x : Seal} (h : fewB x = true) : SmallS x ∧ x.sig.length ≤ 30 ∧ x.path.length ≤ 30 ∧ (∀ t ∈ x.sig, t.length ≤ 100) ∧ (∀ t ∈ x.path, t.length ≤ 100) := by
  unfold fewB h100 at h
  simp only [Bool.and_eq_true, List.all_eq_true, decide_eq_true_eq] at h
  obtain ⟨h1, h2, h3, h4⟩ := h
  exact ⟨⟨by omega, fun t ht => by have := h1 t ht; omega, by omega, fun t ht => by have := h2 t ht; omega⟩, h3, h4, h1, h2⟩
end Go.Proofs.YtgjkhlnpplajjaaDoor
end
