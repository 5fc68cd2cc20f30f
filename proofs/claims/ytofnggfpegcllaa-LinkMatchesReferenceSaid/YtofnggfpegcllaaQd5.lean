/- Own texts, merged by a program: the engine that walks the code, and what the functions that the law reaches compute. -/
import Derived.Test.YtofnggfpegcllaaQd4
import Derived.Test.YtofnggfpegcllaaShelf
import Derived.Test.YtofnggfpegcllaaShelfL
import Derived.KernelRfl
section
set_option maxRecDepth 100000
set_option linter.unusedSimpArgs false
set_option linter.unusedVariables false
namespace Go.Proofs.Ytofnggfpegcllaa
open Go GoV Go.RowKit
theorem min_eq (a b : List UInt8) : (if Op.bytesLess a b || a == b then a else b) = if lt a b then a else b := by
  unfold lt
  cases h : Op.bytesLess a b
  · by_cases e : a = b
    · subst e; simp
    · simp [e]
  · simp
theorem enames_p (e : Ev) (hs : e.sh = true) (hv : evOk e = true) : Pur M 37 [evD e] (.slice (strs (evNames e)) .no) := by
  have c1 := evalid_p e hs
  rw [hv] at c1
  unfold evNames
  rw [if_pos hv]
  unfold evD at *
  have hm := min_eq e.part e.into
  refine ok37 rfl ?_
  rw [i37]
  unfold c37
  by_cases h2 : e.op = 2
  · have t0 : (e.op == 2) = true := by simp [h2]
    rw [if_pos h2]
    generalize (if lt e.part e.into then e.part else e.into) = mn at *
    generalize hx' : (if lt e.part e.into then e.into else e.part) = mx at *
    have hx : (if Op.bytesLess e.part e.into = true then e.into else e.part) = mx := hx'
    repeat' (first
    | with_reducible first | apply swp_seq | apply swp_reg | apply swp_regD | apply swp_block | apply swp_exit | apply swp_ret | apply swp_skip | apply swp_cd
    | simp only [go_sem, seval, P37, q37, Ev.cells, t0, hm, hx]
    | simp (disch := omega) only [w64, w32, wu8, wu16, wu32, wu64]
    | ((with_reducible refine o_call (c1) ?he ?hc ?_); (case he | hc => first | rfl | (simp [D.erL, D.er, D.closedL, D.closed]; done)))
    | ((with_reducible apply s_bsl); (case he | hl | hc => first | rfl | assumption | omega | ((first | refine ⟨?_, ?_⟩ | skip) <;> first | omega | (simp only [lN] <;> omega)) | (simp [elemsK, D.isVal, D.cells, D.closedL, D.closed]; first | done | omega)))
    | with_reducible first | apply cd_dec | apply cd_eq | apply cd_ne | apply cd_split
    | ((with_reducible refine And.intro ?hw ?_); (case hw => first | omega | rfl | exact ⟨_, _, rfl⟩ | assumption | (simp only [lN] <;> omega)))
    | with_reducible intro _)
    all_goals first | omega | simp [D.closed, D.er, D.closedL, D.erL, strs]
  · have t0 : (e.op == 2) = false := by simp [h2]
    rw [if_neg h2]
    repeat' (first
    | with_reducible first | apply swp_seq | apply swp_reg | apply swp_regD | apply swp_block | apply swp_exit | apply swp_ret | apply swp_skip | apply swp_cd
    | simp only [go_sem, seval, P37, q37, Ev.cells, t0]
    | simp (disch := omega) only [w64, w32, wu8, wu16, wu32, wu64]
    | ((with_reducible refine o_call (c1) ?he ?hc ?_); (case he | hc => first | rfl | (simp [D.erL, D.er, D.closedL, D.closed]; done)))
    | ((with_reducible apply s_bsl); (case he | hl | hc => first | rfl | assumption | omega | ((first | refine ⟨?_, ?_⟩ | skip) <;> first | omega | (simp only [lN] <;> omega)) | (simp [elemsK, D.isVal, D.cells, D.closedL, D.closed]; first | done | omega)))
    | with_reducible first | apply cd_dec | apply cd_eq | apply cd_ne | apply cd_split
    | ((with_reducible refine And.intro ?hw ?_); (case hw => first | omega | rfl | exact ⟨_, _, rfl⟩ | assumption | (simp only [lN] <;> omega)))
    | with_reducible intro _)
    all_goals first | omega | simp [D.closed, D.er, D.closedL, D.erL, strs]
theorem strs_len (L : List (List UInt8)) : (strs L).length = L.length := by simp [strs]
theorem strs_get {L : List (List UInt8)} {i : Nat} (h : i < L.length) : (strs L).getD i .undef = .str L[i] := by simp [strs, List.getD, h]
theorem elems_strs (L : List (List UInt8)) : elemsK 1 (strs L) = true := elemsK_map D.str 1 (fun _ => ⟨rfl, rfl⟩) L
theorem strs_app (a b : List (List UInt8)) : strs (a ++ b) = strs a ++ strs b := by simp [strs]
theorem strs_take (L : List (List UInt8)) (n : Nat) : (strs L).take n = strs (L.take n) := by simp [strs, List.map_take]
theorem strs_drop (L : List (List UInt8)) (n : Nat) : (strs L).drop n = strs (L.drop n) := by simp [strs, List.map_drop]
theorem putS_at {s : Nm} : ∀ {l : List Nm} {i : Nat}, i ≤ l.length → (∀ j (h : j < i) (g : j < l.length), lt l[j] s = true) → (∀ g : i < l.length, lt l[i] s = false) →
    putS l s = if h : i < l.length then (if l[i] == s then l else l.take i ++ s :: l.drop i) else l.take i ++ s :: l.drop i
  | [], i, hi, _, _ => by
    have : i = 0 := by simpa using hi
    subst this; simp [putS]
  | t :: l, 0, hi, h1, h2 => by
    have := h2 (by simp)
    simp only [List.getElem_cons_zero] at this
    rw [putS, this]
    simp
  | t :: l, i + 1, hi, h1, h2 => by
    have h0 := h1 0 (by omega) (by simp)
    simp only [List.getElem_cons_zero] at h0
    rw [putS, if_pos h0]
    rw [putS_at (l := l) (i := i) (by simpa using hi) (fun j h g => by have := h1 (j + 1) (by omega) (by simpa using g); simpa using this) (fun g => by have := h2 (by simpa using g); simpa using this)]
    simp only [List.length_cons, Nat.add_lt_add_iff_right, List.getElem_cons_succ, List.take_succ_cons, List.drop_succ_cons]
    split
    · split
      · rfl
      · rfl
    · rfl
theorem put_reg (l : List Nm) (s : Nm) (i : Nat) (hi : i ≤ l.length) (hl : l.length < 1000000) (Q : Ex → St → Prop)
    (hQ : Q .normal ⟨[.slice (strs l) .no, .str s, .slice (strs (l.take i ++ s :: l.drop i)) (.tok 0), .int .i64 i, .bool false, .bool false], [], ⟨[], [.per 1 (l.length + 1)]⟩⟩) :
    SWp C43 (.regD r43_6 r43_7) Q ⟨[.slice (strs l) .no, .str s, .lit (.slice none 0 0), .int .i64 i, .bool false, .bool false], [], ⟨[], []⟩⟩ := by
  have hlen := strs_len l
  have hk := elems_strs (l.take i)
  have hc := cl_strs (l.take i)
  have he := er_strs (l.take i)
  have hkd := elems_strs (l.drop i)
  have hcd := cl_strs (l.drop i)
  have hed := er_strs (l.drop i)
  have hlt := strs_len (l.take i)
  have hld := strs_len (l.drop i)
  have hkl := elems_strs l
  have htl : (l.take i).length = i := by simp; omega
  have hdl : (l.drop i).length = l.length - i := by simp
  have hst := strs_take l i
  have hsd := strs_drop l i
  have room : ∀ n : Nat, n ≤ 1000002 → roomOk n 16 := fun n hn => ⟨by omega, by omega⟩
  have still : ∀ k, k ≠ 4 → k ≠ 7 → Still (fun E : Nat → Bool => (⟨[], if E 7 then [.per 1 (i + 1)] else if E 4 then [.per 1 i] else []⟩ : Hp)) k := fun k h4 h7 E _ => by
    have q4 : (4 == k) = false := beq_false_of_ne (Ne.symm h4)
    have q7 : (7 == k) = false := beq_false_of_ne (Ne.symm h7)
    simp only [q4, q7, Bool.or_false]
  refine swp_regDG (fun E => ⟨[], if E 7 then [.per 1 (i + 1)] else if E 4 then [.per 1 i] else []⟩) [(4, 7)] (by decide) rfl ?_
  rw [P43]
  refine v_q (ds := []) (.slice [] .full) rfl (still _ (by decide) (by decide)) (fun E _ => by simp [OcWp, isCall, opWp, elemsK, D.closedL, D.erL]) ?_
  refine v_q (ds := [.slice (strs l) .no]) (.slice (strs l) .no) rfl (still _ (by decide) (by decide)) (fun E _ => by simp [OcWp, isCall, opWp]) ?_
  refine v_q (ds := [.int .i64 i]) (.int .i64 i) rfl (still _ (by decide) (by decide)) (fun E _ => by simp [OcWp, isCall, opWp]) ?_
  refine v_q (ds := [.slice (strs l) .no, .int .i64 i]) (.slice (strs (l.take i)) .no) rfl (still _ (by decide) (by decide)) (fun E _ => ?_) ?_
  · simp only [OcWp, isCall, Bool.false_eq_true, if_false, opWp]
    exact ⟨0, i, ⟨rfl, rfl⟩, by omega, by omega, by simp only [dlen, hlen]; omega, hkl, by simp [hst], trivial⟩
  refine v_c (ds := [.slice [] .full, .slice (strs (l.take i)) .no]) (d := .slice (strs (l.take i)) (.tok 0)) rfl (fun E hE hG hR => ?_) ?_
  · have h7 : E 7 = false := by
      cases h : E 7 with
      | false => rfl
      | true => have := hG (4, 7) (by simp) h; rw [hE] at this; cases this
    simp only [OcWp, isCall, Bool.false_eq_true, if_false, opWp, hE, h7]
    refine ⟨strs (l.take i), rfl, hk, ?_⟩
    simp only [List.length_nil, Nat.zero_add]
    refine ⟨room _ (by omega), .inl ⟨hc, rfl, by omega, .inr ⟨?_, ?_⟩⟩⟩
    · rw [he]; rfl
    · simp [hlt, htl]
  refine v_q (ds := [.str s]) (.str s) rfl (still _ (by decide) (by decide)) (fun E _ => by simp [OcWp, isCall, opWp]) ?_
  refine v_q (ds := [.str s]) (.slice [.str s] .full) rfl (still _ (by decide) (by decide)) (fun E _ => by simp [OcWp, isCall, opWp, elemsK, D.closedL, D.erL, D.closed, D.er, D.isVal, D.cells]) ?_
  refine v_c (ds := [.slice (strs (l.take i)) (.tok 0), .slice [.str s] .full]) (d := .slice (strs (l.take i) ++ [.str s]) (.tok 0)) rfl (fun E hE hG hR => ?_) ?_
  · have h4 : E 4 = true := hR (4, 7) (by simp) rfl
    simp only [OcWp, isCall, Bool.false_eq_true, if_false, opWp, hE, h4]
    refine ⟨[.str s], rfl, by simp [elemsK, D.isVal, D.cells], ?_⟩
    refine ⟨room _ (by simp [hlt, htl]; omega), by simp [D.closedL, D.closed], by simp [hlt, htl], ?_, ?_⟩
    · simp [D.erL, D.er]
    · simp [hlt, htl]
  refine v_q (ds := [.slice (strs l) .no]) (.slice (strs l) .no) rfl (still _ (by decide) (by decide)) (fun E _ => by simp [OcWp, isCall, opWp]) ?_
  refine v_q (ds := [.int .i64 i]) (.int .i64 i) rfl (still _ (by decide) (by decide)) (fun E _ => by simp [OcWp, isCall, opWp]) ?_
  refine v_q (ds := [.slice (strs l) .no, .int .i64 i]) (.slice (strs (l.drop i)) .no) rfl (still _ (by decide) (by decide)) (fun E _ => ?_) ?_
  · simp only [OcWp, isCall, Bool.false_eq_true, if_false, opWp]
    refine ⟨i, l.length, ⟨rfl, by simp [dlen, hlen]⟩, by omega, by omega, by simp only [dlen, hlen]; omega, hkl, ?_, trivial⟩
    have : (strs l).take (Int.toNat (l.length : Int)) = strs l := List.take_of_length_le (by rw [hlen]; omega)
    rw [this, Int.toNat_natCast, hsd]
  refine v_end (hp' := ⟨[], [.per 1 (i + 1)]⟩) (by simp) ?_
  repeat' (first
    | with_reducible first | apply swp_seq | apply swp_reg | apply swp_regD | apply swp_block | apply swp_exit | apply swp_ret | apply swp_skip | apply swp_cd
    | simp only [go_sem, seval, P43, q43]
    | ((with_reducible apply s_appT); (case he => rfl); (case hK | hc | hr | hV => first | rfl | assumption | omega | ((first | refine ⟨?_, ?_⟩ | skip) <;> first | omega | (simp only [lN, hlt, htl, hld] <;> omega)) | (simp [elemsK, D.isVal, D.cells, D.closedL, D.closed, hlt, htl, hld]; first | done | omega)))
    | ((with_reducible apply s_appG); (case he => rfl); (case hV | hK | hr | hl => first | rfl | assumption | omega | ((first | refine ⟨?_, ?_⟩ | skip) <;> first | omega | (simp only [lN, hlt, htl, hld] <;> omega)) | (simp [elemsK, D.isVal, D.cells, D.closedL, D.closed, hlt, htl, hld]; first | done | omega)))
    | ((with_reducible first | apply s_app0 | apply t_app0); (case he => rfl); (case hK | hc | hr => first | rfl | assumption | omega | ((first | refine ⟨?_, ?_⟩ | skip) <;> first | omega | (simp only [lN, hlt, htl, hld] <;> omega)) | (simp [elemsK, D.isVal, D.cells, D.closedL, D.closed, hlt, htl, hld]; first | done | omega)))
    | ((with_reducible first | apply s_appF | apply t_appF); (case he => rfl); (case hK | hc | hr | hx | hn => first | rfl | assumption | omega | ((first | refine ⟨?_, ?_⟩ | skip) <;> first | omega | (simp only [lN, hlt, htl, hld] <;> omega)) | (simp [elemsK, D.isVal, D.cells, D.closedL, D.closed, hlt, htl, hld]; first | done | omega)))
    | ((with_reducible first | apply s_bsl | apply t_bsl); (case he | hl | hc => first | rfl | assumption | omega | ((first | refine ⟨?_, ?_⟩ | skip) <;> first | omega | (simp only [lN, hlt, htl, hld] <;> omega)) | (simp [elemsK, D.isVal, D.cells, D.closedL, D.closed, hlt, htl, hld]; first | done | omega)))
    | ((with_reducible first | apply s_slFF | apply t_slFF); (case hx => first | rfl | assumption | omega | ((first | refine ⟨?_, ?_⟩ | skip) <;> first | omega | (simp only [lN, hlt, htl, hld] <;> omega)) | (simp [elemsK, D.isVal, D.cells, D.closedL, D.closed, hlt, htl, hld]; first | done | omega)))
    | ((with_reducible first | apply s_slTF | apply s_slFT | apply t_slTF | apply t_slFT); (case h0 | h1 | hx => first | rfl | assumption | omega | ((first | refine ⟨?_, ?_⟩ | skip) <;> first | omega | (simp only [lN, hlt, htl, hld] <;> omega)) | (simp [elemsK, D.isVal, D.cells, D.closedL, D.closed, hlt, htl, hld]; first | done | omega)))
    | ((with_reducible first | apply s_slTT | apply t_slTT); (case h0 | h1 | h2 | hx => first | rfl | assumption | omega | ((first | refine ⟨?_, ?_⟩ | skip) <;> first | omega | (simp only [lN, hlt, htl, hld] <;> omega)) | (simp [elemsK, D.isVal, D.cells, D.closedL, D.closed, hlt, htl, hld]; first | done | omega)))
    | ((with_reducible first | apply s_smTF | apply s_smFT); (case h0 | h1 | hc => first | rfl | assumption | omega | ((first | refine ⟨?_, ?_⟩ | skip) <;> first | omega | (simp only [lN, hlt, htl, hld] <;> omega)) | (simp [elemsK, D.isVal, D.cells, D.closedL, D.closed, hlt, htl, hld]; first | done | omega)))
    | ((with_reducible apply s_smTT); (case h0 | h1 | h2 | hc => first | rfl | assumption | omega | ((first | refine ⟨?_, ?_⟩ | skip) <;> first | omega | (simp only [lN, hlt, htl, hld] <;> omega)) | (simp [elemsK, D.isVal, D.cells, D.closedL, D.closed, hlt, htl, hld]; first | done | omega)))
    | with_reducible first | apply cd_dec | apply cd_eq | apply cd_ne | apply cd_split | apply gd_dec | apply gd_eq | apply gd_ne | apply gd_split
    | ((with_reducible refine And.intro ?hw ?_); (case hw => first | omega | rfl | exact ⟨_, _, rfl⟩ | assumption | (simp only [lN, hlt, htl, hld] <;> omega)))
    | with_reducible intro _)
  rw [hed]
  have e1 : strs (l.take i) ++ [.str s] ++ strs (l.drop i) = strs (l.take i ++ s :: l.drop i) := by simp [strs]
  have e3 : (strs (l.take i) ++ [D.str s]).length + (strs (l.drop i)).length = l.length + 1 := by simp [hlt, hld]; omega
  rw [e1, e3]
  exact hQ
theorem put_p (l : List Nm) (s : Nm) (hl : l.length < 1000000) : Pur M 43 [.slice (strs l) .no, .str s] (.slice (strs (putS l s)) .no) := by
  refine ow43 rfl ?_
  rw [i43]
  unfold c43
  have hlen := strs_len l
  repeat' (first
    | with_reducible first | apply swp_seq | apply swp_reg | apply swp_regD | apply swp_block | apply swp_exit | apply swp_ret | apply swp_skip | apply swp_cd
    | simp only [go_sem, seval, P43, q43, hlen]
    | simp (disch := omega) only [w64, w32, wu8, wu16, wu32, wu64]
    | ((with_reducible apply s_appT); (case he => rfl); (case hK | hc | hr | hV => first | rfl | assumption | omega | ((first | refine ⟨?_, ?_⟩ | skip) <;> first | omega | (simp only [lN, hlen] <;> omega)) | (simp [elemsK, D.isVal, D.cells, D.closedL, D.closed, hlen]; first | done | omega)))
    | ((with_reducible apply s_appG); (case he => rfl); (case hV | hK | hr | hl => first | rfl | assumption | omega | ((first | refine ⟨?_, ?_⟩ | skip) <;> first | omega | (simp only [lN, hlen] <;> omega)) | (simp [elemsK, D.isVal, D.cells, D.closedL, D.closed, hlen]; first | done | omega)))
    | ((with_reducible first | apply s_app0 | apply t_app0); (case he => rfl); (case hK | hc | hr => first | rfl | assumption | omega | ((first | refine ⟨?_, ?_⟩ | skip) <;> first | omega | (simp only [lN, hlen] <;> omega)) | (simp [elemsK, D.isVal, D.cells, D.closedL, D.closed, hlen]; first | done | omega)))
    | ((with_reducible first | apply s_appF | apply t_appF); (case he => rfl); (case hK | hc | hr | hx | hn => first | rfl | assumption | omega | ((first | refine ⟨?_, ?_⟩ | skip) <;> first | omega | (simp only [lN, hlen] <;> omega)) | (simp [elemsK, D.isVal, D.cells, D.closedL, D.closed, hlen]; first | done | omega)))
    | ((with_reducible first | apply s_bsl | apply t_bsl); (case he | hl | hc => first | rfl | assumption | omega | ((first | refine ⟨?_, ?_⟩ | skip) <;> first | omega | (simp only [lN, hlen] <;> omega)) | (simp [elemsK, D.isVal, D.cells, D.closedL, D.closed, hlen]; first | done | omega)))
    | ((with_reducible first | apply s_slFF | apply t_slFF); (case hx => first | rfl | assumption | omega | ((first | refine ⟨?_, ?_⟩ | skip) <;> first | omega | (simp only [lN, hlen] <;> omega)) | (simp [elemsK, D.isVal, D.cells, D.closedL, D.closed, hlen]; first | done | omega)))
    | ((with_reducible first | apply s_slTF | apply s_slFT | apply t_slTF | apply t_slFT); (case h0 | h1 | hx => first | rfl | assumption | omega | ((first | refine ⟨?_, ?_⟩ | skip) <;> first | omega | (simp only [lN, hlen] <;> omega)) | (simp [elemsK, D.isVal, D.cells, D.closedL, D.closed, hlen]; first | done | omega)))
    | ((with_reducible first | apply s_slTT | apply t_slTT); (case h0 | h1 | h2 | hx => first | rfl | assumption | omega | ((first | refine ⟨?_, ?_⟩ | skip) <;> first | omega | (simp only [lN, hlen] <;> omega)) | (simp [elemsK, D.isVal, D.cells, D.closedL, D.closed, hlen]; first | done | omega)))
    | ((with_reducible first | apply s_smTF | apply s_smFT); (case h0 | h1 | hc => first | rfl | assumption | omega | ((first | refine ⟨?_, ?_⟩ | skip) <;> first | omega | (simp only [lN, hlen] <;> omega)) | (simp [elemsK, D.isVal, D.cells, D.closedL, D.closed, hlen]; first | done | omega)))
    | ((with_reducible apply s_smTT); (case h0 | h1 | h2 | hc => first | rfl | assumption | omega | ((first | refine ⟨?_, ?_⟩ | skip) <;> first | omega | (simp only [lN, hlen] <;> omega)) | (simp [elemsK, D.isVal, D.cells, D.closedL, D.closed, hlen]; first | done | omega)))
    | with_reducible first | apply cd_dec | apply cd_eq | apply cd_ne | apply cd_split | apply gd_dec | apply gd_eq | apply gd_ne | apply gd_split
    | ((with_reducible refine And.intro ?hw ?_); (case hw => first | omega | rfl | exact ⟨_, _, rfl⟩ | assumption | (simp only [lN, hlen] <;> omega)))
    | with_reducible intro _)
  refine swp_fam [0, 1, 2, 3] (fun i : Nat => ⟨[.slice (strs l) .no, .str s, .lit (.slice none 0 0), .int .i64 i, .undef, .undef], [], ⟨[], []⟩⟩) (fun i => i ≤ l.length ∧ ∀ j (h : j < i) (g : j < l.length), lt l[j] s = true) (fun i => l.length - i) 0 ⟨by omega, fun j h => by omega⟩ ?_ ?_
  · simp [keepE, St.keep]
  · rintro i ⟨h1, h2⟩
    have hp := putS_at (s := s) h1 h2
    generalize hrc : RC.regD r43_6 r43_7 = rc at *
    have reg := fun Q => put_reg l s i h1 hl Q
    rw [hrc] at reg
    have hcr := cl_strs (l.take i ++ s :: l.drop i)
    have her := er_strs (l.take i ++ s :: l.drop i)
    by_cases hi : i < l.length
    · have t0 : decide (((i : Nat) : Int) < l.length) = true := by simp; omega
      have hg := strs_get hi
      have hb : Op.bytesLess l[i] s = lt l[i] s := rfl
      cases hlt : lt l[i] s
      · rw [hlt] at hb
        have hp := hp fun _ => hlt
        rw [dif_pos hi] at hp
        cases he : (l[i] == s)
        · rw [he] at hp
          simp only [Bool.false_eq_true, if_false] at hp
          rw [hp]
          repeat' (first
    | with_reducible first | apply swp_seq | apply swp_reg | apply swp_regD | apply swp_block | apply swp_exit | apply swp_ret | apply swp_skip | apply swp_cd
    | simp only [go_sem, seval, P43, q43, hlen, hg, t0, hb, he]
    | simp (disch := omega) only [w64, w32, wu8, wu16, wu32, wu64]
    | ((with_reducible apply s_appT); (case he => rfl); (case hK | hc | hr | hV => first | rfl | assumption | omega | ((first | refine ⟨?_, ?_⟩ | skip) <;> first | omega | (simp only [lN, hlen, hg] <;> omega)) | (simp [elemsK, D.isVal, D.cells, D.closedL, D.closed, hlen, hg]; first | done | omega)))
    | ((with_reducible apply s_appG); (case he => rfl); (case hV | hK | hr | hl => first | rfl | assumption | omega | ((first | refine ⟨?_, ?_⟩ | skip) <;> first | omega | (simp only [lN, hlen, hg] <;> omega)) | (simp [elemsK, D.isVal, D.cells, D.closedL, D.closed, hlen, hg]; first | done | omega)))
    | ((with_reducible first | apply s_app0 | apply t_app0); (case he => rfl); (case hK | hc | hr => first | rfl | assumption | omega | ((first | refine ⟨?_, ?_⟩ | skip) <;> first | omega | (simp only [lN, hlen, hg] <;> omega)) | (simp [elemsK, D.isVal, D.cells, D.closedL, D.closed, hlen, hg]; first | done | omega)))
    | ((with_reducible first | apply s_appF | apply t_appF); (case he => rfl); (case hK | hc | hr | hx | hn => first | rfl | assumption | omega | ((first | refine ⟨?_, ?_⟩ | skip) <;> first | omega | (simp only [lN, hlen, hg] <;> omega)) | (simp [elemsK, D.isVal, D.cells, D.closedL, D.closed, hlen, hg]; first | done | omega)))
    | ((with_reducible first | apply s_bsl | apply t_bsl); (case he | hl | hc => first | rfl | assumption | omega | ((first | refine ⟨?_, ?_⟩ | skip) <;> first | omega | (simp only [lN, hlen, hg] <;> omega)) | (simp [elemsK, D.isVal, D.cells, D.closedL, D.closed, hlen, hg]; first | done | omega)))
    | ((with_reducible first | apply s_slFF | apply t_slFF); (case hx => first | rfl | assumption | omega | ((first | refine ⟨?_, ?_⟩ | skip) <;> first | omega | (simp only [lN, hlen, hg] <;> omega)) | (simp [elemsK, D.isVal, D.cells, D.closedL, D.closed, hlen, hg]; first | done | omega)))
    | ((with_reducible first | apply s_slTF | apply s_slFT | apply t_slTF | apply t_slFT); (case h0 | h1 | hx => first | rfl | assumption | omega | ((first | refine ⟨?_, ?_⟩ | skip) <;> first | omega | (simp only [lN, hlen, hg] <;> omega)) | (simp [elemsK, D.isVal, D.cells, D.closedL, D.closed, hlen, hg]; first | done | omega)))
    | ((with_reducible first | apply s_slTT | apply t_slTT); (case h0 | h1 | h2 | hx => first | rfl | assumption | omega | ((first | refine ⟨?_, ?_⟩ | skip) <;> first | omega | (simp only [lN, hlen, hg] <;> omega)) | (simp [elemsK, D.isVal, D.cells, D.closedL, D.closed, hlen, hg]; first | done | omega)))
    | ((with_reducible first | apply s_smTF | apply s_smFT); (case h0 | h1 | hc => first | rfl | assumption | omega | ((first | refine ⟨?_, ?_⟩ | skip) <;> first | omega | (simp only [lN, hlen, hg] <;> omega)) | (simp [elemsK, D.isVal, D.cells, D.closedL, D.closed, hlen, hg]; first | done | omega)))
    | ((with_reducible apply s_smTT); (case h0 | h1 | h2 | hc => first | rfl | assumption | omega | ((first | refine ⟨?_, ?_⟩ | skip) <;> first | omega | (simp only [lN, hlen, hg] <;> omega)) | (simp [elemsK, D.isVal, D.cells, D.closedL, D.closed, hlen, hg]; first | done | omega)))
    | with_reducible first | apply cd_dec | apply cd_eq | apply cd_ne | apply cd_split | apply gd_dec | apply gd_eq | apply gd_ne | apply gd_split
    | ((with_reducible refine And.intro ?hw ?_); (case hw => first | omega | rfl | exact ⟨_, _, rfl⟩ | assumption | (simp only [lN, hlen, hg] <;> omega)))
    | with_reducible intro _)
          all_goals first | omega | skip
          refine reg _ ?_
          repeat' (first
    | with_reducible first | apply swp_seq | apply swp_reg | apply swp_regD | apply swp_block | apply swp_exit | apply swp_ret | apply swp_skip | apply swp_cd
    | simp only [go_sem, seval, P43, q43, hlen, hg, t0, hb, he]
    | simp (disch := omega) only [w64, w32, wu8, wu16, wu32, wu64]
    | ((with_reducible apply s_appT); (case he => rfl); (case hK | hc | hr | hV => first | rfl | assumption | omega | ((first | refine ⟨?_, ?_⟩ | skip) <;> first | omega | (simp only [lN, hlen, hg] <;> omega)) | (simp [elemsK, D.isVal, D.cells, D.closedL, D.closed, hlen, hg]; first | done | omega)))
    | ((with_reducible apply s_appG); (case he => rfl); (case hV | hK | hr | hl => first | rfl | assumption | omega | ((first | refine ⟨?_, ?_⟩ | skip) <;> first | omega | (simp only [lN, hlen, hg] <;> omega)) | (simp [elemsK, D.isVal, D.cells, D.closedL, D.closed, hlen, hg]; first | done | omega)))
    | ((with_reducible first | apply s_app0 | apply t_app0); (case he => rfl); (case hK | hc | hr => first | rfl | assumption | omega | ((first | refine ⟨?_, ?_⟩ | skip) <;> first | omega | (simp only [lN, hlen, hg] <;> omega)) | (simp [elemsK, D.isVal, D.cells, D.closedL, D.closed, hlen, hg]; first | done | omega)))
    | ((with_reducible first | apply s_appF | apply t_appF); (case he => rfl); (case hK | hc | hr | hx | hn => first | rfl | assumption | omega | ((first | refine ⟨?_, ?_⟩ | skip) <;> first | omega | (simp only [lN, hlen, hg] <;> omega)) | (simp [elemsK, D.isVal, D.cells, D.closedL, D.closed, hlen, hg]; first | done | omega)))
    | ((with_reducible first | apply s_bsl | apply t_bsl); (case he | hl | hc => first | rfl | assumption | omega | ((first | refine ⟨?_, ?_⟩ | skip) <;> first | omega | (simp only [lN, hlen, hg] <;> omega)) | (simp [elemsK, D.isVal, D.cells, D.closedL, D.closed, hlen, hg]; first | done | omega)))
    | ((with_reducible first | apply s_slFF | apply t_slFF); (case hx => first | rfl | assumption | omega | ((first | refine ⟨?_, ?_⟩ | skip) <;> first | omega | (simp only [lN, hlen, hg] <;> omega)) | (simp [elemsK, D.isVal, D.cells, D.closedL, D.closed, hlen, hg]; first | done | omega)))
    | ((with_reducible first | apply s_slTF | apply s_slFT | apply t_slTF | apply t_slFT); (case h0 | h1 | hx => first | rfl | assumption | omega | ((first | refine ⟨?_, ?_⟩ | skip) <;> first | omega | (simp only [lN, hlen, hg] <;> omega)) | (simp [elemsK, D.isVal, D.cells, D.closedL, D.closed, hlen, hg]; first | done | omega)))
    | ((with_reducible first | apply s_slTT | apply t_slTT); (case h0 | h1 | h2 | hx => first | rfl | assumption | omega | ((first | refine ⟨?_, ?_⟩ | skip) <;> first | omega | (simp only [lN, hlen, hg] <;> omega)) | (simp [elemsK, D.isVal, D.cells, D.closedL, D.closed, hlen, hg]; first | done | omega)))
    | ((with_reducible first | apply s_smTF | apply s_smFT); (case h0 | h1 | hc => first | rfl | assumption | omega | ((first | refine ⟨?_, ?_⟩ | skip) <;> first | omega | (simp only [lN, hlen, hg] <;> omega)) | (simp [elemsK, D.isVal, D.cells, D.closedL, D.closed, hlen, hg]; first | done | omega)))
    | ((with_reducible apply s_smTT); (case h0 | h1 | h2 | hc => first | rfl | assumption | omega | ((first | refine ⟨?_, ?_⟩ | skip) <;> first | omega | (simp only [lN, hlen, hg] <;> omega)) | (simp [elemsK, D.isVal, D.cells, D.closedL, D.closed, hlen, hg]; first | done | omega)))
    | with_reducible first | apply cd_dec | apply cd_eq | apply cd_ne | apply cd_split | apply gd_dec | apply gd_eq | apply gd_ne | apply gd_split
    | ((with_reducible refine And.intro ?hw ?_); (case hw => first | omega | rfl | exact ⟨_, _, rfl⟩ | assumption | (simp only [lN, hlen, hg] <;> omega)))
    | with_reducible intro _)
          exact ⟨_, weak_refl, by simp [D.closed], by simp [D.er]⟩
        · rw [he] at hp
          simp only [if_true] at hp
          rw [hp]
          repeat' (first
    | with_reducible first | apply swp_seq | apply swp_reg | apply swp_regD | apply swp_block | apply swp_exit | apply swp_ret | apply swp_skip | apply swp_cd
    | simp only [go_sem, seval, P43, q43, hlen, hg, t0, hb, he]
    | simp (disch := omega) only [w64, w32, wu8, wu16, wu32, wu64]
    | ((with_reducible apply s_appT); (case he => rfl); (case hK | hc | hr | hV => first | rfl | assumption | omega | ((first | refine ⟨?_, ?_⟩ | skip) <;> first | omega | (simp only [lN, hlen, hg] <;> omega)) | (simp [elemsK, D.isVal, D.cells, D.closedL, D.closed, hlen, hg]; first | done | omega)))
    | ((with_reducible apply s_appG); (case he => rfl); (case hV | hK | hr | hl => first | rfl | assumption | omega | ((first | refine ⟨?_, ?_⟩ | skip) <;> first | omega | (simp only [lN, hlen, hg] <;> omega)) | (simp [elemsK, D.isVal, D.cells, D.closedL, D.closed, hlen, hg]; first | done | omega)))
    | ((with_reducible first | apply s_app0 | apply t_app0); (case he => rfl); (case hK | hc | hr => first | rfl | assumption | omega | ((first | refine ⟨?_, ?_⟩ | skip) <;> first | omega | (simp only [lN, hlen, hg] <;> omega)) | (simp [elemsK, D.isVal, D.cells, D.closedL, D.closed, hlen, hg]; first | done | omega)))
    | ((with_reducible first | apply s_appF | apply t_appF); (case he => rfl); (case hK | hc | hr | hx | hn => first | rfl | assumption | omega | ((first | refine ⟨?_, ?_⟩ | skip) <;> first | omega | (simp only [lN, hlen, hg] <;> omega)) | (simp [elemsK, D.isVal, D.cells, D.closedL, D.closed, hlen, hg]; first | done | omega)))
    | ((with_reducible first | apply s_bsl | apply t_bsl); (case he | hl | hc => first | rfl | assumption | omega | ((first | refine ⟨?_, ?_⟩ | skip) <;> first | omega | (simp only [lN, hlen, hg] <;> omega)) | (simp [elemsK, D.isVal, D.cells, D.closedL, D.closed, hlen, hg]; first | done | omega)))
    | ((with_reducible first | apply s_slFF | apply t_slFF); (case hx => first | rfl | assumption | omega | ((first | refine ⟨?_, ?_⟩ | skip) <;> first | omega | (simp only [lN, hlen, hg] <;> omega)) | (simp [elemsK, D.isVal, D.cells, D.closedL, D.closed, hlen, hg]; first | done | omega)))
    | ((with_reducible first | apply s_slTF | apply s_slFT | apply t_slTF | apply t_slFT); (case h0 | h1 | hx => first | rfl | assumption | omega | ((first | refine ⟨?_, ?_⟩ | skip) <;> first | omega | (simp only [lN, hlen, hg] <;> omega)) | (simp [elemsK, D.isVal, D.cells, D.closedL, D.closed, hlen, hg]; first | done | omega)))
    | ((with_reducible first | apply s_slTT | apply t_slTT); (case h0 | h1 | h2 | hx => first | rfl | assumption | omega | ((first | refine ⟨?_, ?_⟩ | skip) <;> first | omega | (simp only [lN, hlen, hg] <;> omega)) | (simp [elemsK, D.isVal, D.cells, D.closedL, D.closed, hlen, hg]; first | done | omega)))
    | ((with_reducible first | apply s_smTF | apply s_smFT); (case h0 | h1 | hc => first | rfl | assumption | omega | ((first | refine ⟨?_, ?_⟩ | skip) <;> first | omega | (simp only [lN, hlen, hg] <;> omega)) | (simp [elemsK, D.isVal, D.cells, D.closedL, D.closed, hlen, hg]; first | done | omega)))
    | ((with_reducible apply s_smTT); (case h0 | h1 | h2 | hc => first | rfl | assumption | omega | ((first | refine ⟨?_, ?_⟩ | skip) <;> first | omega | (simp only [lN, hlen, hg] <;> omega)) | (simp [elemsK, D.isVal, D.cells, D.closedL, D.closed, hlen, hg]; first | done | omega)))
    | with_reducible first | apply cd_dec | apply cd_eq | apply cd_ne | apply cd_split | apply gd_dec | apply gd_eq | apply gd_ne | apply gd_split
    | ((with_reducible refine And.intro ?hw ?_); (case hw => first | omega | rfl | exact ⟨_, _, rfl⟩ | assumption | (simp only [lN, hlen, hg] <;> omega)))
    | with_reducible intro _)
          all_goals first | omega | skip
          exact ⟨_, weak_refl, by simp [D.closed], by simp [D.er]⟩
      · rw [hlt] at hb
        repeat' (first
    | with_reducible first | apply swp_seq | apply swp_reg | apply swp_regD | apply swp_block | apply swp_exit | apply swp_ret | apply swp_skip | apply swp_cd
    | simp only [go_sem, seval, P43, q43, hlen, hg, t0, hb]
    | simp (disch := omega) only [w64, w32, wu8, wu16, wu32, wu64]
    | ((with_reducible apply s_appT); (case he => rfl); (case hK | hc | hr | hV => first | rfl | assumption | omega | ((first | refine ⟨?_, ?_⟩ | skip) <;> first | omega | (simp only [lN, hlen, hg] <;> omega)) | (simp [elemsK, D.isVal, D.cells, D.closedL, D.closed, hlen, hg]; first | done | omega)))
    | ((with_reducible apply s_appG); (case he => rfl); (case hV | hK | hr | hl => first | rfl | assumption | omega | ((first | refine ⟨?_, ?_⟩ | skip) <;> first | omega | (simp only [lN, hlen, hg] <;> omega)) | (simp [elemsK, D.isVal, D.cells, D.closedL, D.closed, hlen, hg]; first | done | omega)))
    | ((with_reducible first | apply s_app0 | apply t_app0); (case he => rfl); (case hK | hc | hr => first | rfl | assumption | omega | ((first | refine ⟨?_, ?_⟩ | skip) <;> first | omega | (simp only [lN, hlen, hg] <;> omega)) | (simp [elemsK, D.isVal, D.cells, D.closedL, D.closed, hlen, hg]; first | done | omega)))
    | ((with_reducible first | apply s_appF | apply t_appF); (case he => rfl); (case hK | hc | hr | hx | hn => first | rfl | assumption | omega | ((first | refine ⟨?_, ?_⟩ | skip) <;> first | omega | (simp only [lN, hlen, hg] <;> omega)) | (simp [elemsK, D.isVal, D.cells, D.closedL, D.closed, hlen, hg]; first | done | omega)))
    | ((with_reducible first | apply s_bsl | apply t_bsl); (case he | hl | hc => first | rfl | assumption | omega | ((first | refine ⟨?_, ?_⟩ | skip) <;> first | omega | (simp only [lN, hlen, hg] <;> omega)) | (simp [elemsK, D.isVal, D.cells, D.closedL, D.closed, hlen, hg]; first | done | omega)))
    | ((with_reducible first | apply s_slFF | apply t_slFF); (case hx => first | rfl | assumption | omega | ((first | refine ⟨?_, ?_⟩ | skip) <;> first | omega | (simp only [lN, hlen, hg] <;> omega)) | (simp [elemsK, D.isVal, D.cells, D.closedL, D.closed, hlen, hg]; first | done | omega)))
    | ((with_reducible first | apply s_slTF | apply s_slFT | apply t_slTF | apply t_slFT); (case h0 | h1 | hx => first | rfl | assumption | omega | ((first | refine ⟨?_, ?_⟩ | skip) <;> first | omega | (simp only [lN, hlen, hg] <;> omega)) | (simp [elemsK, D.isVal, D.cells, D.closedL, D.closed, hlen, hg]; first | done | omega)))
    | ((with_reducible first | apply s_slTT | apply t_slTT); (case h0 | h1 | h2 | hx => first | rfl | assumption | omega | ((first | refine ⟨?_, ?_⟩ | skip) <;> first | omega | (simp only [lN, hlen, hg] <;> omega)) | (simp [elemsK, D.isVal, D.cells, D.closedL, D.closed, hlen, hg]; first | done | omega)))
    | ((with_reducible first | apply s_smTF | apply s_smFT); (case h0 | h1 | hc => first | rfl | assumption | omega | ((first | refine ⟨?_, ?_⟩ | skip) <;> first | omega | (simp only [lN, hlen, hg] <;> omega)) | (simp [elemsK, D.isVal, D.cells, D.closedL, D.closed, hlen, hg]; first | done | omega)))
    | ((with_reducible apply s_smTT); (case h0 | h1 | h2 | hc => first | rfl | assumption | omega | ((first | refine ⟨?_, ?_⟩ | skip) <;> first | omega | (simp only [lN, hlen, hg] <;> omega)) | (simp [elemsK, D.isVal, D.cells, D.closedL, D.closed, hlen, hg]; first | done | omega)))
    | with_reducible first | apply cd_dec | apply cd_eq | apply cd_ne | apply cd_split | apply gd_dec | apply gd_eq | apply gd_ne | apply gd_split
    | ((with_reducible refine And.intro ?hw ?_); (case hw => first | omega | rfl | exact ⟨_, _, rfl⟩ | assumption | (simp only [lN, hlen, hg] <;> omega)))
    | with_reducible intro _)
        all_goals first | omega | skip
        refine ⟨i + 1, ⟨by omega, fun j h g => ?_⟩, by omega, by simp [keepE, St.keep]⟩
        by_cases e : j = i
        · subst e; exact hlt
        · exact h2 j (by omega) g
    · have t0 : decide (((i : Nat) : Int) < l.length) = false := by simp; omega
      have hp := hp fun g => absurd g hi
      rw [dif_neg hi] at hp
      rw [hp]
      repeat' (first
    | with_reducible first | apply swp_seq | apply swp_reg | apply swp_regD | apply swp_block | apply swp_exit | apply swp_ret | apply swp_skip | apply swp_cd
    | simp only [go_sem, seval, P43, q43, hlen, t0]
    | simp (disch := omega) only [w64, w32, wu8, wu16, wu32, wu64]
    | ((with_reducible apply s_appT); (case he => rfl); (case hK | hc | hr | hV => first | rfl | assumption | omega | ((first | refine ⟨?_, ?_⟩ | skip) <;> first | omega | (simp only [lN, hlen] <;> omega)) | (simp [elemsK, D.isVal, D.cells, D.closedL, D.closed, hlen]; first | done | omega)))
    | ((with_reducible apply s_appG); (case he => rfl); (case hV | hK | hr | hl => first | rfl | assumption | omega | ((first | refine ⟨?_, ?_⟩ | skip) <;> first | omega | (simp only [lN, hlen] <;> omega)) | (simp [elemsK, D.isVal, D.cells, D.closedL, D.closed, hlen]; first | done | omega)))
    | ((with_reducible first | apply s_app0 | apply t_app0); (case he => rfl); (case hK | hc | hr => first | rfl | assumption | omega | ((first | refine ⟨?_, ?_⟩ | skip) <;> first | omega | (simp only [lN, hlen] <;> omega)) | (simp [elemsK, D.isVal, D.cells, D.closedL, D.closed, hlen]; first | done | omega)))
    | ((with_reducible first | apply s_appF | apply t_appF); (case he => rfl); (case hK | hc | hr | hx | hn => first | rfl | assumption | omega | ((first | refine ⟨?_, ?_⟩ | skip) <;> first | omega | (simp only [lN, hlen] <;> omega)) | (simp [elemsK, D.isVal, D.cells, D.closedL, D.closed, hlen]; first | done | omega)))
    | ((with_reducible first | apply s_bsl | apply t_bsl); (case he | hl | hc => first | rfl | assumption | omega | ((first | refine ⟨?_, ?_⟩ | skip) <;> first | omega | (simp only [lN, hlen] <;> omega)) | (simp [elemsK, D.isVal, D.cells, D.closedL, D.closed, hlen]; first | done | omega)))
    | ((with_reducible first | apply s_slFF | apply t_slFF); (case hx => first | rfl | assumption | omega | ((first | refine ⟨?_, ?_⟩ | skip) <;> first | omega | (simp only [lN, hlen] <;> omega)) | (simp [elemsK, D.isVal, D.cells, D.closedL, D.closed, hlen]; first | done | omega)))
    | ((with_reducible first | apply s_slTF | apply s_slFT | apply t_slTF | apply t_slFT); (case h0 | h1 | hx => first | rfl | assumption | omega | ((first | refine ⟨?_, ?_⟩ | skip) <;> first | omega | (simp only [lN, hlen] <;> omega)) | (simp [elemsK, D.isVal, D.cells, D.closedL, D.closed, hlen]; first | done | omega)))
    | ((with_reducible first | apply s_slTT | apply t_slTT); (case h0 | h1 | h2 | hx => first | rfl | assumption | omega | ((first | refine ⟨?_, ?_⟩ | skip) <;> first | omega | (simp only [lN, hlen] <;> omega)) | (simp [elemsK, D.isVal, D.cells, D.closedL, D.closed, hlen]; first | done | omega)))
    | ((with_reducible first | apply s_smTF | apply s_smFT); (case h0 | h1 | hc => first | rfl | assumption | omega | ((first | refine ⟨?_, ?_⟩ | skip) <;> first | omega | (simp only [lN, hlen] <;> omega)) | (simp [elemsK, D.isVal, D.cells, D.closedL, D.closed, hlen]; first | done | omega)))
    | ((with_reducible apply s_smTT); (case h0 | h1 | h2 | hc => first | rfl | assumption | omega | ((first | refine ⟨?_, ?_⟩ | skip) <;> first | omega | (simp only [lN, hlen] <;> omega)) | (simp [elemsK, D.isVal, D.cells, D.closedL, D.closed, hlen]; first | done | omega)))
    | with_reducible first | apply cd_dec | apply cd_eq | apply cd_ne | apply cd_split | apply gd_dec | apply gd_eq | apply gd_ne | apply gd_split
    | ((with_reducible refine And.intro ?hw ?_); (case hw => first | omega | rfl | exact ⟨_, _, rfl⟩ | assumption | (simp only [lN, hlen] <;> omega)))
    | with_reducible intro _)
      all_goals first | omega | skip
      refine reg _ ?_
      repeat' (first
    | with_reducible first | apply swp_seq | apply swp_reg | apply swp_regD | apply swp_block | apply swp_exit | apply swp_ret | apply swp_skip | apply swp_cd
    | simp only [go_sem, seval, P43, q43, hlen, t0]
    | simp (disch := omega) only [w64, w32, wu8, wu16, wu32, wu64]
    | ((with_reducible apply s_appT); (case he => rfl); (case hK | hc | hr | hV => first | rfl | assumption | omega | ((first | refine ⟨?_, ?_⟩ | skip) <;> first | omega | (simp only [lN, hlen] <;> omega)) | (simp [elemsK, D.isVal, D.cells, D.closedL, D.closed, hlen]; first | done | omega)))
    | ((with_reducible apply s_appG); (case he => rfl); (case hV | hK | hr | hl => first | rfl | assumption | omega | ((first | refine ⟨?_, ?_⟩ | skip) <;> first | omega | (simp only [lN, hlen] <;> omega)) | (simp [elemsK, D.isVal, D.cells, D.closedL, D.closed, hlen]; first | done | omega)))
    | ((with_reducible first | apply s_app0 | apply t_app0); (case he => rfl); (case hK | hc | hr => first | rfl | assumption | omega | ((first | refine ⟨?_, ?_⟩ | skip) <;> first | omega | (simp only [lN, hlen] <;> omega)) | (simp [elemsK, D.isVal, D.cells, D.closedL, D.closed, hlen]; first | done | omega)))
    | ((with_reducible first | apply s_appF | apply t_appF); (case he => rfl); (case hK | hc | hr | hx | hn => first | rfl | assumption | omega | ((first | refine ⟨?_, ?_⟩ | skip) <;> first | omega | (simp only [lN, hlen] <;> omega)) | (simp [elemsK, D.isVal, D.cells, D.closedL, D.closed, hlen]; first | done | omega)))
    | ((with_reducible first | apply s_bsl | apply t_bsl); (case he | hl | hc => first | rfl | assumption | omega | ((first | refine ⟨?_, ?_⟩ | skip) <;> first | omega | (simp only [lN, hlen] <;> omega)) | (simp [elemsK, D.isVal, D.cells, D.closedL, D.closed, hlen]; first | done | omega)))
    | ((with_reducible first | apply s_slFF | apply t_slFF); (case hx => first | rfl | assumption | omega | ((first | refine ⟨?_, ?_⟩ | skip) <;> first | omega | (simp only [lN, hlen] <;> omega)) | (simp [elemsK, D.isVal, D.cells, D.closedL, D.closed, hlen]; first | done | omega)))
    | ((with_reducible first | apply s_slTF | apply s_slFT | apply t_slTF | apply t_slFT); (case h0 | h1 | hx => first | rfl | assumption | omega | ((first | refine ⟨?_, ?_⟩ | skip) <;> first | omega | (simp only [lN, hlen] <;> omega)) | (simp [elemsK, D.isVal, D.cells, D.closedL, D.closed, hlen]; first | done | omega)))
    | ((with_reducible first | apply s_slTT | apply t_slTT); (case h0 | h1 | h2 | hx => first | rfl | assumption | omega | ((first | refine ⟨?_, ?_⟩ | skip) <;> first | omega | (simp only [lN, hlen] <;> omega)) | (simp [elemsK, D.isVal, D.cells, D.closedL, D.closed, hlen]; first | done | omega)))
    | ((with_reducible first | apply s_smTF | apply s_smFT); (case h0 | h1 | hc => first | rfl | assumption | omega | ((first | refine ⟨?_, ?_⟩ | skip) <;> first | omega | (simp only [lN, hlen] <;> omega)) | (simp [elemsK, D.isVal, D.cells, D.closedL, D.closed, hlen]; first | done | omega)))
    | ((with_reducible apply s_smTT); (case h0 | h1 | h2 | hc => first | rfl | assumption | omega | ((first | refine ⟨?_, ?_⟩ | skip) <;> first | omega | (simp only [lN, hlen] <;> omega)) | (simp [elemsK, D.isVal, D.cells, D.closedL, D.closed, hlen]; first | done | omega)))
    | with_reducible first | apply cd_dec | apply cd_eq | apply cd_ne | apply cd_split | apply gd_dec | apply gd_eq | apply gd_ne | apply gd_split
    | ((with_reducible refine And.intro ?hw ?_); (case hw => first | omega | rfl | exact ⟨_, _, rfl⟩ | assumption | (simp only [lN, hlen] <;> omega)))
    | with_reducible intro _)
      exact ⟨_, weak_refl, by simp [D.closed], by simp [D.er]⟩
end Go.Proofs.Ytofnggfpegcllaa
end
section
set_option maxRecDepth 100000
set_option linter.unusedSimpArgs false
set_option linter.unusedVariables false
namespace Go.Proofs.Ytofnggfpegcllaa
open Go GoV Go.RowKit
set_option maxHeartbeats 4000000 in
theorem revalid_p (e : Ev) (hs : e.sh = true) : Pur M 50 [evD e] (.bool (evOk e)) := by
  obtain ⟨s1, s2, s3, s4, s5, s6⟩ := sh_all hs
  have r1 := rest1 (e := e)
  have r2 := rest2 (e := e)
  have r4 := rest4 (e := e)
  have r6 := rest6 (e := e)
  have r0 := rest0 (e := e)
  have hok : evOk e = (decide (1 ≤ e.op) && decide (e.op ≤ 7) && decide (0 ≤ e.day) && decide (e.day ≤ 40000) && nameOk e.part && evRest e) := rfl
  have cu := use_p e.km e.cy e.ld
  unfold zerosB at r1 r2 r6 r0
  rw [hok]
  clear hok hs
  unfold evD
  unfold Ev.cells at *
  have c1 := refName_p e.part (by omega)
  generalize evRest e = rr at *
  have k1 := refName_p e.kind (by omega)
  have k2 := refName_p e.into (by omega)
  have k3 := refName_p e.slot (by omega)
  have k4 := refName_p e.key (by omega)
  have hv := val_nil e.val
  generalize e.op = op at *
  generalize e.day = day at *
  generalize e.part = part at *
  generalize e.kind = kind at *
  generalize e.into = into at *
  generalize e.slot = slot at *
  generalize e.key = key at *
  generalize e.val = val at *
  refine ok50 rfl ?_
  rw [i50]
  unfold c50
  generalize nameOk part = np at *
  by_cases ho : 1 ≤ op ∧ op ≤ 7
  · have t0 : decide (op < 1) = false := by simp; omega
    have t3 : decide (op > 7) = false := by simp; omega
    by_cases hd : 0 ≤ day ∧ day ≤ 40000
    · have t1 : decide (day < 0) = false := by simp; omega
      have t2 : decide (day > 40000) = false := by simp; omega
      have e1 : (decide (1 ≤ op) && decide (op ≤ 7) && decide (0 ≤ day) && decide (day ≤ 40000)) = true := by simp [ho.1, ho.2, hd.1, hd.2]
      rw [e1]
      cases np
      · repeat' (first
    | with_reducible first | apply swp_seq | apply swp_reg | apply swp_regD | apply swp_block | apply swp_exit | apply swp_ret | apply swp_skip | apply swp_cd
    | simp only [go_sem, seval, P50, q50, t0, t1, t2, t3]
    | ((with_reducible refine o_call (c1) ?he ?hc ?_); (case he | hc => first | rfl | (simp [D.erL, D.er, D.closedL, D.closed]; done)))
    | with_reducible first | apply cd_dec | apply cd_eq | apply cd_ne | apply cd_split | apply gd_dec | apply gd_eq | apply gd_ne | apply gd_split
    | ((with_reducible refine And.intro ?hw ?_); (case hw => first | omega | rfl | exact ⟨_, _, rfl⟩ | assumption | (simp only [lN] <;> omega)))
    | with_reducible intro _)
        all_goals simp [D.closed, D.er]
      · have ho7 : op = 1 ∨ op = 2 ∨ op = 3 ∨ op = 4 ∨ op = 5 ∨ op = 6 ∨ op = 7 := by omega
        simp only [Bool.true_and]
        rcases ho7 with rfl | rfl | rfl | rfl | rfl | rfl | rfl
        · rw [r1 rfl]
          generalize hb3 : (into == []) = b3 at *
          generalize hb4 : (slot == []) = b4 at *
          generalize hb5 : (key == []) = b5 at *
          generalize hb6 : (val == []) = b6 at *
          generalize hz : (e.km.low == 0 && (e.km.high == 0 && (e.cy.low == 0 && (e.cy.high == 0 && (e.ld.low == 0 && e.ld.high == 0))))) = z at *
          generalize nameOk kind = nk at *
          cases nk
          · repeat' (first
    | with_reducible first | apply swp_seq | apply swp_reg | apply swp_regD | apply swp_block | apply swp_exit | apply swp_ret | apply swp_skip | apply swp_cd
    | simp only [go_sem, seval, P50, q50, t1, t2, hb3, hb4, hb5, hb6, hz, nil_beq, zero_beq, beq_self_eq_true, Bool.true_and, Bool.and_true]
    | ((with_reducible refine o_call (c1) ?he ?hc ?_); (case he | hc => first | rfl | (simp [D.erL, D.er, D.closedL, D.closed]; done)))
    | ((with_reducible refine o_call (k1) ?he ?hc ?_); (case he | hc => first | rfl | (simp [D.erL, D.er, D.closedL, D.closed]; done)))
    | with_reducible first | apply cd_dec | apply cd_eq | apply cd_ne | apply cd_split | apply gd_dec | apply gd_eq | apply gd_ne | apply gd_split
    | ((with_reducible refine And.intro ?hw ?_); (case hw => first | omega | rfl | exact ⟨_, _, rfl⟩ | assumption | (simp only [lN] <;> omega)))
    | with_reducible intro _)
            all_goals simp [D.closed, D.er]
          · repeat' (first
    | with_reducible first | apply swp_seq | apply swp_reg | apply swp_regD | apply swp_block | apply swp_exit | apply swp_ret | apply swp_skip | apply swp_cd
    | simp only [go_sem, seval, P50, q50, t1, t2, hb3, hb4, hb5, hb6, hz, nil_beq, zero_beq, beq_self_eq_true, Bool.true_and, Bool.and_true]
    | ((with_reducible refine o_call (c1) ?he ?hc ?_); (case he | hc => first | rfl | (simp [D.erL, D.er, D.closedL, D.closed]; done)))
    | ((with_reducible refine o_call (k1) ?he ?hc ?_); (case he | hc => first | rfl | (simp [D.erL, D.er, D.closedL, D.closed]; done)))
    | with_reducible first | apply cd_dec | apply cd_eq | apply cd_ne | apply cd_split | apply gd_dec | apply gd_eq | apply gd_ne | apply gd_split
    | ((with_reducible refine And.intro ?hw ?_); (case hw => first | omega | rfl | exact ⟨_, _, rfl⟩ | assumption | (simp only [lN] <;> omega)))
    | with_reducible intro _)
            all_goals simp [D.closed, D.er]
        · rw [r2 rfl]
          generalize hb2 : (kind == []) = b2 at *
          generalize hb5 : (key == []) = b5 at *
          generalize hb6 : (val == []) = b6 at *
          generalize hz : (e.km.low == 0 && (e.km.high == 0 && (e.cy.low == 0 && (e.cy.high == 0 && (e.ld.low == 0 && e.ld.high == 0))))) = z at *
          generalize hb7 : (into == part) = b7 at *
          generalize nameOk into = nk at *
          generalize nameOk slot = nl at *
          cases nk <;> cases nl <;> cases b7 <;> skip
          all_goals (repeat' (first
    | with_reducible first | apply swp_seq | apply swp_reg | apply swp_regD | apply swp_block | apply swp_exit | apply swp_ret | apply swp_skip | apply swp_cd
    | simp only [go_sem, seval, P50, q50, t1, t2, hb2, hb5, hb6, hz, hb7, nil_beq, zero_beq, beq_self_eq_true, Bool.true_and, Bool.and_true]
    | ((with_reducible refine o_call (c1) ?he ?hc ?_); (case he | hc => first | rfl | (simp [D.erL, D.er, D.closedL, D.closed]; done)))
    | ((with_reducible refine o_call (k2) ?he ?hc ?_); (case he | hc => first | rfl | (simp [D.erL, D.er, D.closedL, D.closed]; done)))
    | ((with_reducible refine o_call (k3) ?he ?hc ?_); (case he | hc => first | rfl | (simp [D.erL, D.er, D.closedL, D.closed]; done)))
    | with_reducible first | apply cd_dec | apply cd_eq | apply cd_ne | apply cd_split | apply gd_dec | apply gd_eq | apply gd_ne | apply gd_split
    | ((with_reducible refine And.intro ?hw ?_); (case hw => first | omega | rfl | exact ⟨_, _, rfl⟩ | assumption | (simp only [lN] <;> omega)))
    | with_reducible intro _))
          all_goals simp [D.closed, D.er]
        · rw [r0 (by decide) (by decide) (by decide) (by decide)]
          generalize hb2 : (kind == []) = b2 at *
          generalize hb3 : (into == []) = b3 at *
          generalize hb4 : (slot == []) = b4 at *
          generalize hb5 : (key == []) = b5 at *
          generalize hb6 : (val == []) = b6 at *
          generalize hz : (e.km.low == 0 && (e.km.high == 0 && (e.cy.low == 0 && (e.cy.high == 0 && (e.ld.low == 0 && e.ld.high == 0))))) = z at *
          repeat' (first
    | with_reducible first | apply swp_seq | apply swp_reg | apply swp_regD | apply swp_block | apply swp_exit | apply swp_ret | apply swp_skip | apply swp_cd
    | simp only [go_sem, seval, P50, q50, t1, t2, hb2, hb3, hb4, hb5, hb6, hz, nil_beq, zero_beq, beq_self_eq_true, Bool.true_and, Bool.and_true]
    | ((with_reducible refine o_call (c1) ?he ?hc ?_); (case he | hc => first | rfl | (simp [D.erL, D.er, D.closedL, D.closed]; done)))
    | with_reducible first | apply cd_dec | apply cd_eq | apply cd_ne | apply cd_split | apply gd_dec | apply gd_eq | apply gd_ne | apply gd_split
    | ((with_reducible refine And.intro ?hw ?_); (case hw => first | omega | rfl | exact ⟨_, _, rfl⟩ | assumption | (simp only [lN] <;> omega)))
    | with_reducible intro _)
          all_goals simp [D.closed, D.er]
        · rw [r4 rfl]
          generalize hb2 : (kind == []) = b2 at *
          generalize hb3 : (into == []) = b3 at *
          generalize hb4 : (slot == []) = b4 at *
          generalize hb5 : (key == []) = b5 at *
          generalize hb6 : (val == []) = b6 at *
          generalize (ivOk e.km && ivOk e.cy && ivOk e.ld) = u at *
          cases u <;> skip
          all_goals (repeat' (first
    | with_reducible first | apply swp_seq | apply swp_reg | apply swp_regD | apply swp_block | apply swp_exit | apply swp_ret | apply swp_skip | apply swp_cd
    | simp only [go_sem, seval, P50, q50, t1, t2, hb2, hb3, hb4, hb5, hb6, nil_beq, zero_beq, beq_self_eq_true, Bool.true_and, Bool.and_true]
    | ((with_reducible refine o_call (c1) ?he ?hc ?_); (case he | hc => first | rfl | (simp [D.erL, D.er, D.closedL, D.closed]; done)))
    | ((with_reducible refine o_call (cu) ?he ?hc ?_); (case he | hc => first | rfl | (simp [D.erL, D.er, D.closedL, D.closed]; done)))
    | with_reducible first | apply cd_dec | apply cd_eq | apply cd_ne | apply cd_split | apply gd_dec | apply gd_eq | apply gd_ne | apply gd_split
    | ((with_reducible refine And.intro ?hw ?_); (case hw => first | omega | rfl | exact ⟨_, _, rfl⟩ | assumption | (simp only [lN] <;> omega)))
    | with_reducible intro _))
          all_goals simp [D.closed, D.er]
        · rw [r0 (by decide) (by decide) (by decide) (by decide)]
          generalize hb2 : (kind == []) = b2 at *
          generalize hb3 : (into == []) = b3 at *
          generalize hb4 : (slot == []) = b4 at *
          generalize hb5 : (key == []) = b5 at *
          generalize hb6 : (val == []) = b6 at *
          generalize hz : (e.km.low == 0 && (e.km.high == 0 && (e.cy.low == 0 && (e.cy.high == 0 && (e.ld.low == 0 && e.ld.high == 0))))) = z at *
          repeat' (first
    | with_reducible first | apply swp_seq | apply swp_reg | apply swp_regD | apply swp_block | apply swp_exit | apply swp_ret | apply swp_skip | apply swp_cd
    | simp only [go_sem, seval, P50, q50, t1, t2, hb2, hb3, hb4, hb5, hb6, hz, nil_beq, zero_beq, beq_self_eq_true, Bool.true_and, Bool.and_true]
    | ((with_reducible refine o_call (c1) ?he ?hc ?_); (case he | hc => first | rfl | (simp [D.erL, D.er, D.closedL, D.closed]; done)))
    | with_reducible first | apply cd_dec | apply cd_eq | apply cd_ne | apply cd_split | apply gd_dec | apply gd_eq | apply gd_ne | apply gd_split
    | ((with_reducible refine And.intro ?hw ?_); (case hw => first | omega | rfl | exact ⟨_, _, rfl⟩ | assumption | (simp only [lN] <;> omega)))
    | with_reducible intro _)
          all_goals simp [D.closed, D.er]
        · rw [r6 rfl]
          generalize hb2 : (kind == []) = b2 at *
          generalize hb3 : (into == []) = b3 at *
          generalize hb4 : (slot == []) = b4 at *
          generalize hz : (e.km.low == 0 && (e.km.high == 0 && (e.cy.low == 0 && (e.cy.high == 0 && (e.ld.low == 0 && e.ld.high == 0))))) = z at *
          generalize nameOk key = nk at *
          have v1 : decide (((val.length : Nat) : Int) ≥ 1) = decide (1 ≤ val.length) := decide_eq_decide.2 (by omega)
          have v2 : decide (((val.length : Nat) : Int) ≤ 200) = decide (val.length ≤ 200) := decide_eq_decide.2 (by omega)
          generalize decide (1 ≤ val.length) = w1 at *
          generalize decide (val.length ≤ 200) = w2 at *
          cases nk <;> cases w1 <;> cases w2 <;> skip
          all_goals (repeat' (first
    | with_reducible first | apply swp_seq | apply swp_reg | apply swp_regD | apply swp_block | apply swp_exit | apply swp_ret | apply swp_skip | apply swp_cd
    | simp only [go_sem, seval, P50, q50, t1, t2, v1, v2, hb2, hb3, hb4, hz, nil_beq, zero_beq, beq_self_eq_true, Bool.true_and, Bool.and_true]
    | ((with_reducible refine o_call (c1) ?he ?hc ?_); (case he | hc => first | rfl | (simp [D.erL, D.er, D.closedL, D.closed]; done)))
    | ((with_reducible refine o_call (k4) ?he ?hc ?_); (case he | hc => first | rfl | (simp [D.erL, D.er, D.closedL, D.closed]; done)))
    | with_reducible first | apply cd_dec | apply cd_eq | apply cd_ne | apply cd_split | apply gd_dec | apply gd_eq | apply gd_ne | apply gd_split
    | ((with_reducible refine And.intro ?hw ?_); (case hw => first | omega | rfl | exact ⟨_, _, rfl⟩ | assumption | (simp only [lN] <;> omega)))
    | with_reducible intro _))
          all_goals simp [D.closed, D.er]
        · rw [r0 (by decide) (by decide) (by decide) (by decide)]
          generalize hb2 : (kind == []) = b2 at *
          generalize hb3 : (into == []) = b3 at *
          generalize hb4 : (slot == []) = b4 at *
          generalize hb5 : (key == []) = b5 at *
          generalize hb6 : (val == []) = b6 at *
          generalize hz : (e.km.low == 0 && (e.km.high == 0 && (e.cy.low == 0 && (e.cy.high == 0 && (e.ld.low == 0 && e.ld.high == 0))))) = z at *
          repeat' (first
    | with_reducible first | apply swp_seq | apply swp_reg | apply swp_regD | apply swp_block | apply swp_exit | apply swp_ret | apply swp_skip | apply swp_cd
    | simp only [go_sem, seval, P50, q50, t1, t2, hb2, hb3, hb4, hb5, hb6, hz, nil_beq, zero_beq, beq_self_eq_true, Bool.true_and, Bool.and_true]
    | ((with_reducible refine o_call (c1) ?he ?hc ?_); (case he | hc => first | rfl | (simp [D.erL, D.er, D.closedL, D.closed]; done)))
    | with_reducible first | apply cd_dec | apply cd_eq | apply cd_ne | apply cd_split | apply gd_dec | apply gd_eq | apply gd_ne | apply gd_split
    | ((with_reducible refine And.intro ?hw ?_); (case hw => first | omega | rfl | exact ⟨_, _, rfl⟩ | assumption | (simp only [lN] <;> omega)))
    | with_reducible intro _)
          all_goals simp [D.closed, D.er]
    · have e1 : (decide (1 ≤ op) && decide (op ≤ 7) && decide (0 ≤ day) && decide (day ≤ 40000)) = false := by
        rw [Bool.and_assoc]
        have : (decide (0 ≤ day) && decide (day ≤ 40000)) = false := by rw [Bool.eq_false_iff]; simp; omega
        rw [this, Bool.and_false]
      rw [e1]
      by_cases hd0 : day < 0
      · have t1 : decide (day < 0) = true := by simp; omega
        repeat' (first
    | with_reducible first | apply swp_seq | apply swp_reg | apply swp_regD | apply swp_block | apply swp_exit | apply swp_ret | apply swp_skip | apply swp_cd
    | simp only [go_sem, seval, P50, q50, t0, t1, t3]
    | ((with_reducible refine o_call (c1) ?he ?hc ?_); (case he | hc => first | rfl | (simp [D.erL, D.er, D.closedL, D.closed]; done)))
    | with_reducible first | apply cd_dec | apply cd_eq | apply cd_ne | apply cd_split | apply gd_dec | apply gd_eq | apply gd_ne | apply gd_split
    | ((with_reducible refine And.intro ?hw ?_); (case hw => first | omega | rfl | exact ⟨_, _, rfl⟩ | assumption | (simp only [lN] <;> omega)))
    | with_reducible intro _)
        all_goals simp [D.closed, D.er]
      · have t1 : decide (day < 0) = false := by simp; omega
        have t2 : decide (day > 40000) = true := by simp; omega
        repeat' (first
    | with_reducible first | apply swp_seq | apply swp_reg | apply swp_regD | apply swp_block | apply swp_exit | apply swp_ret | apply swp_skip | apply swp_cd
    | simp only [go_sem, seval, P50, q50, t0, t1, t2, t3]
    | ((with_reducible refine o_call (c1) ?he ?hc ?_); (case he | hc => first | rfl | (simp [D.erL, D.er, D.closedL, D.closed]; done)))
    | with_reducible first | apply cd_dec | apply cd_eq | apply cd_ne | apply cd_split | apply gd_dec | apply gd_eq | apply gd_ne | apply gd_split
    | ((with_reducible refine And.intro ?hw ?_); (case hw => first | omega | rfl | exact ⟨_, _, rfl⟩ | assumption | (simp only [lN] <;> omega)))
    | with_reducible intro _)
        all_goals simp [D.closed, D.er]
  · have e1 : (decide (1 ≤ op) && decide (op ≤ 7)) = false := by rw [Bool.eq_false_iff]; simp; omega
    rw [e1]
    by_cases ho0 : op < 1
    · have t0 : decide (op < 1) = true := by simp; omega
      repeat' (first
    | with_reducible first | apply swp_seq | apply swp_reg | apply swp_regD | apply swp_block | apply swp_exit | apply swp_ret | apply swp_skip | apply swp_cd
    | simp only [go_sem, seval, P50, q50, t0]
    | ((with_reducible refine o_call (c1) ?he ?hc ?_); (case he | hc => first | rfl | (simp [D.erL, D.er, D.closedL, D.closed]; done)))
    | with_reducible first | apply cd_dec | apply cd_eq | apply cd_ne | apply cd_split | apply gd_dec | apply gd_eq | apply gd_ne | apply gd_split
    | ((with_reducible refine And.intro ?hw ?_); (case hw => first | omega | rfl | exact ⟨_, _, rfl⟩ | assumption | (simp only [lN] <;> omega)))
    | with_reducible intro _)
      all_goals simp [D.closed, D.er]
    · have t0 : decide (op < 1) = false := by simp; omega
      have t3 : decide (op > 7) = true := by simp; omega
      repeat' (first
    | with_reducible first | apply swp_seq | apply swp_reg | apply swp_regD | apply swp_block | apply swp_exit | apply swp_ret | apply swp_skip | apply swp_cd
    | simp only [go_sem, seval, P50, q50, t0, t3]
    | ((with_reducible refine o_call (c1) ?he ?hc ?_); (case he | hc => first | rfl | (simp [D.erL, D.er, D.closedL, D.closed]; done)))
    | with_reducible first | apply cd_dec | apply cd_eq | apply cd_ne | apply cd_split | apply gd_dec | apply gd_eq | apply gd_ne | apply gd_split
    | ((with_reducible refine And.intro ?hw ?_); (case hw => first | omega | rfl | exact ⟨_, _, rfl⟩ | assumption | (simp only [lN] <;> omega)))
    | with_reducible intro _)
      all_goals simp [D.closed, D.er]
theorem renames_p (e : Ev) (hs : e.sh = true) (hv : evOk e = true) : Pur M 42 [evD e] (.slice (strs (evNames e)) .no) := by
  have c1 := revalid_p e hs
  rw [hv] at c1
  unfold evNames
  rw [if_pos hv]
  unfold evD at *
  have hm := min_eq e.part e.into
  refine ok42 rfl ?_
  rw [i42]
  unfold c42
  by_cases h2 : e.op = 2
  · have t0 : (e.op != 2) = false := by simp [h2]
    rw [if_pos h2]
    generalize (if lt e.part e.into then e.part else e.into) = mn at *
    generalize hx' : (if lt e.part e.into then e.into else e.part) = mx at *
    have hx : (if Op.bytesLess e.part e.into = true then e.into else e.part) = mx := hx'
    repeat' (first
    | with_reducible first | apply swp_seq | apply swp_reg | apply swp_regD | apply swp_block | apply swp_exit | apply swp_ret | apply swp_skip | apply swp_cd
    | simp only [go_sem, seval, P42, q42, Ev.cells, t0, hm, hx]
    | simp (disch := omega) only [w64, w32, wu8, wu16, wu32, wu64]
    | ((with_reducible refine o_call (c1) ?he ?hc ?_); (case he | hc => first | rfl | (simp [D.erL, D.er, D.closedL, D.closed]; done)))
    | ((with_reducible apply s_bsl); (case he | hl | hc => first | rfl | assumption | omega | ((first | refine ⟨?_, ?_⟩ | skip) <;> first | omega | (simp only [lN] <;> omega)) | (simp [elemsK, D.isVal, D.cells, D.closedL, D.closed]; first | done | omega)))
    | with_reducible first | apply cd_dec | apply cd_eq | apply cd_ne | apply cd_split
    | ((with_reducible refine And.intro ?hw ?_); (case hw => first | omega | rfl | exact ⟨_, _, rfl⟩ | assumption | (simp only [lN] <;> omega)))
    | with_reducible intro _)
    all_goals first | omega | simp [D.closed, D.er, D.closedL, D.erL, strs]
  · have t0 : (e.op != 2) = true := by simp [h2]
    rw [if_neg h2]
    repeat' (first
    | with_reducible first | apply swp_seq | apply swp_reg | apply swp_regD | apply swp_block | apply swp_exit | apply swp_ret | apply swp_skip | apply swp_cd
    | simp only [go_sem, seval, P42, q42, Ev.cells, t0]
    | simp (disch := omega) only [w64, w32, wu8, wu16, wu32, wu64]
    | ((with_reducible refine o_call (c1) ?he ?hc ?_); (case he | hc => first | rfl | (simp [D.erL, D.er, D.closedL, D.closed]; done)))
    | ((with_reducible apply s_bsl); (case he | hl | hc => first | rfl | assumption | omega | ((first | refine ⟨?_, ?_⟩ | skip) <;> first | omega | (simp only [lN] <;> omega)) | (simp [elemsK, D.isVal, D.cells, D.closedL, D.closed]; first | done | omega)))
    | with_reducible first | apply cd_dec | apply cd_eq | apply cd_ne | apply cd_split
    | ((with_reducible refine And.intro ?hw ?_); (case hw => first | omega | rfl | exact ⟨_, _, rfl⟩ | assumption | (simp only [lN] <;> omega)))
    | with_reducible intro _)
    all_goals first | omega | simp [D.closed, D.er, D.closedL, D.erL, strs]
end Go.Proofs.Ytofnggfpegcllaa
end
section
set_option maxRecDepth 100000
set_option linter.unusedSimpArgs false
set_option linter.unusedVariables false
namespace Go.Proofs.Ytofnggfpegcllaa
open Go GoV Go.RowKit
set_option maxHeartbeats 2000000 in
theorem rrvalid_p (r : Rp) (hs : ∀ e ∈ r.opts, e.sh = true) : Pur M 41 [rpD r] (.bool (repOk r)) := by
  rcases r with ⟨l, d⟩
  simp only at hs
  rw [repOk_eq]
  simp only
  unfold rpD
  simp only
  refine ok41 rfl ?_
  rw [i41]
  unfold c41
  have hlen : (l.map evD).length = l.length := by simp
  by_cases h0 : l.length = 0
  · have t0 : decide ((l.length : Int) < 1) = true := by rw [h0]; rfl
    rw [decide_eq_false (show ¬ 1 ≤ l.length by omega)]
    repeat' (first
    | with_reducible first | apply swp_seq | apply swp_reg | apply swp_regD | apply swp_block | apply swp_exit | apply swp_ret | apply swp_skip | apply swp_cd
    | simp only [go_sem, seval, P41, q41, hlen, t0]
    | simp (disch := omega) only [w64, w32, wu8, wu16, wu32, wu64]
    | with_reducible first | apply cd_dec | apply cd_eq | apply cd_ne | apply cd_split | apply gd_dec | apply gd_eq | apply gd_ne | apply gd_split
    | ((with_reducible refine And.intro ?hw ?_); (case hw => first | omega | rfl | exact ⟨_, _, rfl⟩ | assumption | (simp only [lN, hlen] <;> omega)))
    | with_reducible intro _)
    all_goals first | omega | simp [D.closed, D.er]
  have t0 : decide ((l.length : Int) < 1) = false := by simp only [decide_eq_false_iff_not]; omega
  by_cases h4 : l.length ≤ 4
  · have t1 : decide ((l.length : Int) > 4) = false := by simp; omega
    rw [decide_eq_true (show 1 ≤ l.length by omega), decide_eq_true h4]
    repeat' (first
    | with_reducible first | apply swp_seq | apply swp_reg | apply swp_regD | apply swp_block | apply swp_exit | apply swp_ret | apply swp_skip | apply swp_cd
    | simp only [go_sem, seval, P41, q41, hlen, t0, t1]
    | simp (disch := omega) only [w64, w32, wu8, wu16, wu32, wu64]
    | with_reducible first | apply cd_dec | apply cd_eq | apply cd_ne | apply cd_split | apply gd_dec | apply gd_eq | apply gd_ne | apply gd_split
    | ((with_reducible refine And.intro ?hw ?_); (case hw => first | omega | rfl | exact ⟨_, _, rfl⟩ | assumption | (simp only [lN, hlen] <;> omega)))
    | with_reducible intro _)
    refine swp_fam [1, 3] (fun i : Nat => ⟨[.undef, .ptr 0 0, .undef, .int .i64 i, .undef, .undef, .undef, .undef, .undef, .undef], [], ⟨[.cells [evsD l, .bool d]], []⟩⟩)
      (fun i => i ≤ l.length ∧ goodN (l.take i) = true) (fun i => l.length - i) 0 ⟨by omega, rfl⟩ ?_ ?_
    · simp [keepE, St.keep]
    · rintro i ⟨h1, h2⟩
      by_cases hi : i < l.length
      · have t2 : decide (((i : Nat) : Int) < l.length) = true := by simp; omega
        have hg := ev_get hi
        have c1 := revalid_p l[i] (hs _ (List.getElem_mem _))
        have e1 : l.take (i + 1) = l.take i ++ [l[i]] := by rw [List.take_succ_eq_append_getElem hi]
        rw [show evD l[i] = .agg l[i].cells from rfl] at c1
        cases hv : evOk l[i]
        · rw [hv] at c1
          rw [good_bad hi (.inl hv)]
          repeat' (first
    | with_reducible first | apply swp_seq | apply swp_reg | apply swp_regD | apply swp_block | apply swp_exit | apply swp_ret | apply swp_skip | apply swp_cd
    | simp only [go_sem, seval, P41, q41, Ev.cells, hlen, t2, hg]
    | simp (disch := omega) only [w64, w32, wu8, wu16, wu32, wu64]
    | ((with_reducible refine o_call (c1) ?he ?hc ?_); (case he | hc => first | rfl | (simp [D.erL, D.er, D.closedL, D.closed, hlen, hg]; done)))
    | with_reducible first | apply cd_dec | apply cd_eq | apply cd_ne | apply cd_split | apply gd_dec | apply gd_eq | apply gd_ne | apply gd_split
    | ((with_reducible refine And.intro ?hw ?_); (case hw => first | omega | rfl | exact ⟨_, _, rfl⟩ | assumption | (simp only [lN, hlen, hg] <;> omega)))
    | with_reducible intro _)
          all_goals first | omega | simp [D.closed, D.er]
        · rw [hv] at c1
          repeat' (first
    | with_reducible first | apply swp_seq | apply swp_reg | apply swp_regD | apply swp_block | apply swp_exit | apply swp_ret | apply swp_skip | apply swp_cd
    | simp only [go_sem, seval, P41, q41, Ev.cells, hlen, t2, hg]
    | simp (disch := omega) only [w64, w32, wu8, wu16, wu32, wu64]
    | ((with_reducible refine o_call (c1) ?he ?hc ?_); (case he | hc => first | rfl | (simp [D.erL, D.er, D.closedL, D.closed, hlen, hg]; done)))
    | with_reducible first | apply cd_dec | apply cd_eq | apply cd_ne | apply cd_split | apply gd_dec | apply gd_eq | apply gd_ne | apply gd_split
    | ((with_reducible refine And.intro ?hw ?_); (case hw => first | omega | rfl | exact ⟨_, _, rfl⟩ | assumption | (simp only [lN, hlen, hg] <;> omega)))
    | with_reducible intro _)
          all_goals first | omega | skip
          refine swp_fam [1, 3, 4] (fun k : Nat => ⟨[.undef, .ptr 0 0, .undef, .int .i64 i, .int .i64 k, .undef, .undef, .undef, .undef, .undef], [], ⟨[.cells [evsD l, .bool d]], []⟩⟩)
            (fun k => k ≤ i ∧ ∀ j (h : j < k) (g : j < l.length), l[j] ≠ l[i]) (fun k => i - k) 0 ⟨by omega, fun j h => by omega⟩ ?_ ?_
          · simp [keepE, St.keep]
          · rintro k ⟨k1, k2⟩
            by_cases hk : k < i
            · have t3 : decide (((k : Nat) : Int) < i) = true := by simp; omega
              have hgk := ev_get (show k < l.length by omega)
              have hd := (dec_ev (a := l[k]) (b := l[i])).symm
              by_cases he : l[k] = l[i]
              · rw [decide_eq_true he] at hd
                rw [good_bad hi (.inr (List.mem_take_iff_getElem.2 ⟨k, by omega, he⟩))]
                repeat' (first
    | with_reducible first | apply swp_seq | apply swp_reg | apply swp_regD | apply swp_block | apply swp_exit | apply swp_ret | apply swp_skip | apply swp_cd
    | simp only [go_sem, seval, P41, q41, Ev.cells, hlen, t3, hg, hgk, hd]
    | simp (disch := omega) only [w64, w32, wu8, wu16, wu32, wu64]
    | with_reducible first | apply cd_dec | apply cd_eq | apply cd_ne | apply cd_split | apply gd_dec | apply gd_eq | apply gd_ne | apply gd_split
    | ((with_reducible refine And.intro ?hw ?_); (case hw => first | omega | rfl | exact ⟨_, _, rfl⟩ | assumption | (simp only [lN, hlen, hg, hgk] <;> omega)))
    | with_reducible intro _)
                all_goals first | omega | simp [D.closed, D.er]
              · rw [decide_eq_false he] at hd
                repeat' (first
    | with_reducible first | apply swp_seq | apply swp_reg | apply swp_regD | apply swp_block | apply swp_exit | apply swp_ret | apply swp_skip | apply swp_cd
    | simp only [go_sem, seval, P41, q41, Ev.cells, hlen, t3, hg, hgk, hd]
    | simp (disch := omega) only [w64, w32, wu8, wu16, wu32, wu64]
    | with_reducible first | apply cd_dec | apply cd_eq | apply cd_ne | apply cd_split | apply gd_dec | apply gd_eq | apply gd_ne | apply gd_split
    | ((with_reducible refine And.intro ?hw ?_); (case hw => first | omega | rfl | exact ⟨_, _, rfl⟩ | assumption | (simp only [lN, hlen, hg, hgk] <;> omega)))
    | with_reducible intro _)
                all_goals first | omega | skip
                refine ⟨k + 1, ⟨by omega, fun j h g => ?_⟩, by omega, by simp [keepE, St.keep]⟩
                by_cases e : j = k
                · subst e; exact he
                · exact k2 j (by omega) g
            · have t3 : decide (((k : Nat) : Int) < i) = false := by simp; omega
              repeat' (first
    | with_reducible first | apply swp_seq | apply swp_reg | apply swp_regD | apply swp_block | apply swp_exit | apply swp_ret | apply swp_skip | apply swp_cd
    | simp only [go_sem, seval, P41, q41, hlen, t3]
    | simp (disch := omega) only [w64, w32, wu8, wu16, wu32, wu64]
    | with_reducible first | apply cd_dec | apply cd_eq | apply cd_ne | apply cd_split | apply gd_dec | apply gd_eq | apply gd_ne | apply gd_split
    | ((with_reducible refine And.intro ?hw ?_); (case hw => first | omega | rfl | exact ⟨_, _, rfl⟩ | assumption | (simp only [lN, hlen] <;> omega)))
    | with_reducible intro _)
              all_goals first | omega | skip
              refine ⟨i + 1, ⟨by omega, ?_⟩, by omega, by simp [keepE, St.keep]⟩
              rw [e1, good_snoc]
              refine ⟨h2, hv, fun hm => ?_⟩
              obtain ⟨j, hj, e⟩ := List.mem_take_iff_getElem.1 hm
              exact k2 j (by omega) (by omega) e
      · have t2 : decide (((i : Nat) : Int) < l.length) = false := by simp; omega
        rw [List.take_of_length_le (by omega)] at h2
        rw [h2]
        repeat' (first
    | with_reducible first | apply swp_seq | apply swp_reg | apply swp_regD | apply swp_block | apply swp_exit | apply swp_ret | apply swp_skip | apply swp_cd
    | simp only [go_sem, seval, P41, q41, hlen, t2]
    | simp (disch := omega) only [w64, w32, wu8, wu16, wu32, wu64]
    | with_reducible first | apply cd_dec | apply cd_eq | apply cd_ne | apply cd_split | apply gd_dec | apply gd_eq | apply gd_ne | apply gd_split
    | ((with_reducible refine And.intro ?hw ?_); (case hw => first | omega | rfl | exact ⟨_, _, rfl⟩ | assumption | (simp only [lN, hlen] <;> omega)))
    | with_reducible intro _)
        all_goals first | omega | simp [D.closed, D.er]
  · have t1 : decide ((l.length : Int) > 4) = true := by simp; omega
    rw [decide_eq_false h4]
    repeat' (first
    | with_reducible first | apply swp_seq | apply swp_reg | apply swp_regD | apply swp_block | apply swp_exit | apply swp_ret | apply swp_skip | apply swp_cd
    | simp only [go_sem, seval, P41, q41, hlen, t0, t1]
    | simp (disch := omega) only [w64, w32, wu8, wu16, wu32, wu64]
    | with_reducible first | apply cd_dec | apply cd_eq | apply cd_ne | apply cd_split | apply gd_dec | apply gd_eq | apply gd_ne | apply gd_split
    | ((with_reducible refine And.intro ?hw ?_); (case hw => first | omega | rfl | exact ⟨_, _, rfl⟩ | assumption | (simp only [lN, hlen] <;> omega)))
    | with_reducible intro _)
    all_goals first | omega | simp [D.closed, D.er]
theorem choices_p (r : Rp) (hs : ∀ e ∈ r.opts, e.sh = true) : Pur M 34 [rpD r] (.int .i64 (choices r : Nat)) := by
  have c1 := rvalid_p r hs
  have h4 : repOk r = true → r.opts.length ≤ 4 := fun h => by rw [repOk_eq] at h; simp at h; exact h.1.2
  rcases r with ⟨l, d⟩
  unfold choices
  unfold rpD at *
  have hlen : (l.map evD).length = l.length := by simp
  refine ok34 rfl ?_
  rw [i34]
  unfold c34
  generalize repOk ⟨l, d⟩ = b at *
  simp only at c1 h4 ⊢
  cases b
  · repeat' (first
    | with_reducible first | apply swp_seq | apply swp_reg | apply swp_regD | apply swp_block | apply swp_exit | apply swp_ret | apply swp_skip | apply swp_cd
    | simp only [go_sem, seval, P34, q34, hlen]
    | simp (disch := omega) only [w64, w32, wu8, wu16, wu32, wu64]
    | ((with_reducible refine o_call (c1) ?he ?hc ?_); (case he | hc => first | rfl | (simp [D.erL, D.er, D.closedL, D.closed, hlen]; done)))
    | with_reducible first | apply cd_dec | apply cd_eq | apply cd_ne | apply cd_split
    | ((with_reducible refine And.intro ?hw ?_); (case hw => first | omega | rfl | exact ⟨_, _, rfl⟩ | assumption | (simp only [lN, hlen] <;> omega)))
    | with_reducible intro _)
    all_goals first | omega | simp [D.closed, D.er]
  · have := h4 rfl
    cases d
    · repeat' (first
    | with_reducible first | apply swp_seq | apply swp_reg | apply swp_regD | apply swp_block | apply swp_exit | apply swp_ret | apply swp_skip | apply swp_cd
    | simp only [go_sem, seval, P34, q34, hlen]
    | simp (disch := omega) only [w64, w32, wu8, wu16, wu32, wu64]
    | ((with_reducible refine o_call (c1) ?he ?hc ?_); (case he | hc => first | rfl | (simp [D.erL, D.er, D.closedL, D.closed, hlen]; done)))
    | with_reducible first | apply cd_dec | apply cd_eq | apply cd_ne | apply cd_split
    | ((with_reducible refine And.intro ?hw ?_); (case hw => first | omega | rfl | exact ⟨_, _, rfl⟩ | assumption | (simp only [lN, hlen] <;> omega)))
    | with_reducible intro _)
      all_goals first | omega | simp [D.closed, D.er]
    · repeat' (first
    | with_reducible first | apply swp_seq | apply swp_reg | apply swp_regD | apply swp_block | apply swp_exit | apply swp_ret | apply swp_skip | apply swp_cd
    | simp only [go_sem, seval, P34, q34, hlen]
    | simp (disch := omega) only [w64, w32, wu8, wu16, wu32, wu64]
    | ((with_reducible refine o_call (c1) ?he ?hc ?_); (case he | hc => first | rfl | (simp [D.erL, D.er, D.closedL, D.closed, hlen]; done)))
    | with_reducible first | apply cd_dec | apply cd_eq | apply cd_ne | apply cd_split
    | ((with_reducible refine And.intro ?hw ?_); (case hw => first | omega | rfl | exact ⟨_, _, rfl⟩ | assumption | (simp only [lN, hlen] <;> omega)))
    | with_reducible intro _)
      all_goals first | omega | simp [D.closed, D.er]
theorem rchoices_p (r : Rp) (hs : ∀ e ∈ r.opts, e.sh = true) : Pur M 35 [rpD r] (.int .i64 (choices r : Nat)) := by
  have c1 := rrvalid_p r hs
  have h4 : repOk r = true → r.opts.length ≤ 4 := fun h => by rw [repOk_eq] at h; simp at h; exact h.1.2
  rcases r with ⟨l, d⟩
  unfold choices
  unfold rpD at *
  have hlen : (l.map evD).length = l.length := by simp
  refine ok35 rfl ?_
  rw [i35]
  unfold c35
  generalize repOk ⟨l, d⟩ = b at *
  simp only at c1 h4 ⊢
  cases b
  · repeat' (first
    | with_reducible first | apply swp_seq | apply swp_reg | apply swp_regD | apply swp_block | apply swp_exit | apply swp_ret | apply swp_skip | apply swp_cd
    | simp only [go_sem, seval, P35, q35, hlen]
    | simp (disch := omega) only [w64, w32, wu8, wu16, wu32, wu64]
    | ((with_reducible refine o_call (c1) ?he ?hc ?_); (case he | hc => first | rfl | (simp [D.erL, D.er, D.closedL, D.closed, hlen]; done)))
    | with_reducible first | apply cd_dec | apply cd_eq | apply cd_ne | apply cd_split
    | ((with_reducible refine And.intro ?hw ?_); (case hw => first | omega | rfl | exact ⟨_, _, rfl⟩ | assumption | (simp only [lN, hlen] <;> omega)))
    | with_reducible intro _)
    all_goals first | omega | simp [D.closed, D.er]
  · have := h4 rfl
    cases d
    · repeat' (first
    | with_reducible first | apply swp_seq | apply swp_reg | apply swp_regD | apply swp_block | apply swp_exit | apply swp_ret | apply swp_skip | apply swp_cd
    | simp only [go_sem, seval, P35, q35, hlen]
    | simp (disch := omega) only [w64, w32, wu8, wu16, wu32, wu64]
    | ((with_reducible refine o_call (c1) ?he ?hc ?_); (case he | hc => first | rfl | (simp [D.erL, D.er, D.closedL, D.closed, hlen]; done)))
    | with_reducible first | apply cd_dec | apply cd_eq | apply cd_ne | apply cd_split
    | ((with_reducible refine And.intro ?hw ?_); (case hw => first | omega | rfl | exact ⟨_, _, rfl⟩ | assumption | (simp only [lN, hlen] <;> omega)))
    | with_reducible intro _)
      all_goals first | omega | simp [D.closed, D.er]
    · repeat' (first
    | with_reducible first | apply swp_seq | apply swp_reg | apply swp_regD | apply swp_block | apply swp_exit | apply swp_ret | apply swp_skip | apply swp_cd
    | simp only [go_sem, seval, P35, q35, hlen]
    | simp (disch := omega) only [w64, w32, wu8, wu16, wu32, wu64]
    | ((with_reducible refine o_call (c1) ?he ?hc ?_); (case he | hc => first | rfl | (simp [D.erL, D.er, D.closedL, D.closed, hlen]; done)))
    | with_reducible first | apply cd_dec | apply cd_eq | apply cd_ne | apply cd_split
    | ((with_reducible refine And.intro ?hw ?_); (case hw => first | omega | rfl | exact ⟨_, _, rfl⟩ | assumption | (simp only [lN, hlen] <;> omega)))
    | with_reducible intro _)
      all_goals first | omega | simp [D.closed, D.er]
theorem evNames_len (e : Ev) : (evNames e).length ≤ 2 := by unfold evNames; split <;> (try split) <;> simp
theorem putS_len (s : Nm) : ∀ l : List Nm, (putS l s).length ≤ l.length + 1
  | [] => by simp [putS]
  | t :: l => by
    have := putS_len s l
    unfold putS
    split
    · simp; omega
    · split
      · simp
      · simp
theorem puts_len : ∀ (N l : List Nm), (N.foldl putS l).length ≤ l.length + N.length
  | [], l => by simp
  | s :: N, l => by
    have := puts_len N (putS l s)
    have := putS_len s l
    rw [List.foldl_cons, List.length_cons]; omega
theorem nnL_getD : ∀ (l : List D) (i : Nat), (D.nnL l).getD i .undef = (l.getD i .undef).nn
  | [], i => by simp [D.nnL, D.nn]
  | d :: l, 0 => by simp [D.nnL]
  | d :: l, i + 1 => by simpa [D.nnL] using nnL_getD l i
theorem weak_nn {C : Cfg} {s : St} : Weak C s { s with env := D.nnL s.env } := by
  intro w0 B a w h
  obtain ⟨G, g0, gb, g1, g2, g3, g4⟩ := h
  refine ⟨G, g0, gb, g1, g2, by simpa [nnL_length] using g3, fun t => ?_⟩
  have := g4 t
  unfold St.slot at *
  split
  · rename_i i hi
    rw [hi] at this
    simp only [nnL_getD]
    exact Rel.nn _ this
  · rename_i hi; rw [hi] at this; exact this
def atN (l : List Ev) (i : Nat) : List Nm := ((l.take i).flatMap evNames).foldl putS []
theorem atN_len {l : List Ev} (h : l.length ≤ 4) (i : Nat) : (atN l i).length ≤ 8 := by
  unfold atN
  have := puts_len ((l.take i).flatMap evNames) []
  have h2 : ((l.take i).flatMap evNames).length ≤ 2 * (l.take i).length := by
    generalize l.take i = m
    induction m with
    | nil => simp
    | cons e m ih => have := evNames_len e; simp only [List.flatMap_cons, List.length_append, List.length_cons]; omega
  have h3 : (l.take i).length ≤ 4 := by rw [List.length_take]; omega
  rw [List.length_nil] at this
  omega
theorem ok_len {r : Rp} (h : repOk r = true) : r.opts.length ≤ 4 ∧ 1 ≤ r.opts.length ∧ ∀ e ∈ r.opts, evOk e = true := by
  rw [repOk_eq] at h
  simp only [Bool.and_eq_true, decide_eq_true_eq, goodN] at h
  exact ⟨h.1.2, h.1.1, List.all_eq_true.1 h.2.1⟩
theorem namesR_at {r : Rp} (h : repOk r = true) : namesR r = atN r.opts r.opts.length := by unfold namesR atN; rw [if_pos h, List.take_length]
theorem rnames_p (r : Rp) (hs : ∀ e ∈ r.opts, e.sh = true) : Pur M 29 [rpD r] (.slice (strs (namesR r)) .no) := by
  have c1 := rrvalid_p r hs
  cases hv : repOk r
  · rw [hv] at c1
    have e1 : namesR r = [] := by unfold namesR; rw [hv]; rfl
    rw [e1]
    refine pur_res (d := .lit (.slice none 0 0)) ?_ rfl
    unfold rpD at *
    refine ok29 rfl ?_
    rw [i29]
    unfold c29
    repeat' (first
    | with_reducible first | apply swp_seq | apply swp_reg | apply swp_regD | apply swp_block | apply swp_exit | apply swp_ret | apply swp_skip | apply swp_cd
    | simp only [go_sem, seval, P29, q29]
    | simp (disch := omega) only [w64, w32, wu8, wu16, wu32, wu64]
    | ((with_reducible refine o_call (c1) ?he ?hc ?_); (case he | hc => first | rfl | (simp [D.erL, D.er, D.closedL, D.closed]; done)))
    | with_reducible first | apply cd_dec | apply cd_eq | apply cd_ne | apply cd_split
    | ((with_reducible refine And.intro ?hw ?_); (case hw => first | omega | rfl | exact ⟨_, _, rfl⟩ | assumption | (simp only [lN] <;> omega)))
    | with_reducible intro _)
    all_goals simp [D.closed, D.er]
  · rw [hv] at c1
    obtain ⟨h4, h1, hev⟩ := ok_len hv
    rw [namesR_at hv]
    rcases r with ⟨l, d⟩
    simp only at h4 h1 hs hev ⊢
    unfold rpD at *
    simp only at c1 ⊢
    have hlen : (l.map evD).length = l.length := by simp
    refine ok29 rfl ?_
    rw [i29]
    unfold c29
    repeat' (first
    | with_reducible first | apply swp_seq | apply swp_reg | apply swp_regD | apply swp_block | apply swp_exit | apply swp_ret | apply swp_skip | apply swp_cd
    | simp only [go_sem, seval, P29, q29]
    | simp (disch := omega) only [w64, w32, wu8, wu16, wu32, wu64]
    | ((with_reducible refine o_call (c1) ?he ?hc ?_); (case he | hc => first | rfl | (simp [D.erL, D.er, D.closedL, D.closed]; done)))
    | with_reducible first | apply cd_dec | apply cd_eq | apply cd_ne | apply cd_split
    | ((with_reducible refine And.intro ?hw ?_); (case hw => first | omega | rfl | exact ⟨_, _, rfl⟩ | assumption | (simp only [lN] <;> omega)))
    | with_reducible intro _)
    refine swp_weak weak_nn ?_
    simp only [D.nnL, D.nn]
    refine swp_fam [1, 3, 4] (fun i : Nat => ⟨[.undef, .ptr 0 0, .undef, .slice (strs (atN l i)) .no, .int .i64 i, .undef, .undef, .undef, .undef, .undef], [], ⟨[.cells [evsD l, .bool d]], []⟩⟩)
      (fun i => i ≤ l.length) (fun i => l.length - i) 0 (by omega) ?_ ?_
    · simp [keepE, St.keep, atN, strs]
    · intro i h
      by_cases hi : i < l.length
      · have t2 : decide (((i : Nat) : Int) < l.length) = true := by simp; omega
        have hg := ev_get hi
        have c2 := renames_p l[i] (hs _ (List.getElem_mem _)) (hev _ (List.getElem_mem _))
        rw [show evD l[i] = .agg l[i].cells from rfl] at c2
        have e2 : ∀ k, k ≤ (evNames l[i]).length → ((evNames l[i]).take k).foldl putS (atN l i) = (((l.take i).flatMap evNames) ++ (evNames l[i]).take k).foldl putS [] := fun k _ => by rw [List.foldl_append]; rfl
        have e3 : atN l (i + 1) = (evNames l[i]).foldl putS (atN l i) := by
          unfold atN
          rw [List.take_succ_eq_append_getElem hi, List.flatMap_append, List.foldl_append]; simp
        have n2 := evNames_len l[i]
        have n8 := atN_len h4 i
        generalize hN : evNames l[i] = N at *
        have hnl := strs_len N
        repeat' (first
    | with_reducible first | apply swp_seq | apply swp_reg | apply swp_regD | apply swp_block | apply swp_exit | apply swp_ret | apply swp_skip | apply swp_cd
    | simp only [go_sem, seval, P29, q29, Ev.cells, hlen, t2, hg]
    | simp (disch := omega) only [w64, w32, wu8, wu16, wu32, wu64]
    | ((with_reducible refine o_call (c2) ?he ?hc ?_); (case he | hc => first | rfl | (simp [D.erL, D.er, D.closedL, D.closed, hlen, hg]; done)))
    | with_reducible first | apply cd_dec | apply cd_eq | apply cd_ne | apply cd_split
    | ((with_reducible refine And.intro ?hw ?_); (case hw => first | omega | rfl | exact ⟨_, _, rfl⟩ | assumption | (simp only [lN, hlen, hg] <;> omega)))
    | with_reducible intro _)
        all_goals first | omega | skip
        refine swp_fam [1, 3, 4, 5, 6] (fun k : Nat => ⟨[.undef, .ptr 0 0, .undef, .slice (strs ((N.take k).foldl putS (atN l i))) .no, .int .i64 i, .slice (strs N) .no, .int .i64 k, .undef, .undef, .undef], [], ⟨[.cells [evsD l, .bool d]], []⟩⟩)
          (fun k => k ≤ N.length) (fun k => N.length - k) 0 (by omega) ?_ ?_
        · simp [keepE, St.keep]
        · intro k hk
          by_cases hkl : k < N.length
          · have t3 : decide (((k : Nat) : Int) < N.length) = true := by simp; omega
            have hgk := strs_get hkl
            have hl3 := puts_len (N.take k) (atN l i)
            have hl4 : (N.take k).length ≤ 2 := by rw [List.length_take]; omega
            have c3 := put_p ((N.take k).foldl putS (atN l i)) N[k] (by omega)
            have e4 : (N.take (k + 1)).foldl putS (atN l i) = putS ((N.take k).foldl putS (atN l i)) N[k] := by
              rw [List.take_succ_eq_append_getElem hkl, List.foldl_append]; rfl
            repeat' (first
    | with_reducible first | apply swp_seq | apply swp_reg | apply swp_regD | apply swp_block | apply swp_exit | apply swp_ret | apply swp_skip | apply swp_cd
    | simp only [go_sem, seval, P29, q29, hnl, t3, hgk]
    | simp (disch := omega) only [w64, w32, wu8, wu16, wu32, wu64]
    | ((with_reducible refine o_call (c3) ?he ?hc ?_); (case he | hc => first | rfl | (simp [D.erL, D.er, D.closedL, D.closed, hnl, hgk]; done)))
    | with_reducible first | apply cd_dec | apply cd_eq | apply cd_ne | apply cd_split
    | ((with_reducible refine And.intro ?hw ?_); (case hw => first | omega | rfl | exact ⟨_, _, rfl⟩ | assumption | (simp only [lN, hnl, hgk] <;> omega)))
    | with_reducible intro _)
            all_goals first | omega | skip
            refine ⟨k + 1, by omega, by omega, ?_⟩
            simp [keepE, St.keep, e4]
          · have t3 : decide (((k : Nat) : Int) < N.length) = false := by simp; omega
            have e5 : N.take k = N := List.take_of_length_le (by omega)
            rw [e5, ← e3]
            repeat' (first
    | with_reducible first | apply swp_seq | apply swp_reg | apply swp_regD | apply swp_block | apply swp_exit | apply swp_ret | apply swp_skip | apply swp_cd
    | simp only [go_sem, seval, P29, q29, hnl, t3]
    | simp (disch := omega) only [w64, w32, wu8, wu16, wu32, wu64]
    | with_reducible first | apply cd_dec | apply cd_eq | apply cd_ne | apply cd_split
    | ((with_reducible refine And.intro ?hw ?_); (case hw => first | omega | rfl | exact ⟨_, _, rfl⟩ | assumption | (simp only [lN, hnl] <;> omega)))
    | with_reducible intro _)
            all_goals first | omega | skip
            refine ⟨i + 1, by omega, by omega, ?_⟩
            simp [keepE, St.keep]
      · have t2 : decide (((i : Nat) : Int) < l.length) = false := by simp; omega
        have : i = l.length := by omega
        subst this
        repeat' (first
    | with_reducible first | apply swp_seq | apply swp_reg | apply swp_regD | apply swp_block | apply swp_exit | apply swp_ret | apply swp_skip | apply swp_cd
    | simp only [go_sem, seval, P29, q29, hlen, t2]
    | simp (disch := omega) only [w64, w32, wu8, wu16, wu32, wu64]
    | with_reducible first | apply cd_dec | apply cd_eq | apply cd_ne | apply cd_split
    | ((with_reducible refine And.intro ?hw ?_); (case hw => first | omega | rfl | exact ⟨_, _, rfl⟩ | assumption | (simp only [lN, hlen] <;> omega)))
    | with_reducible intro _)
        all_goals first | omega | simp [D.closed, D.er]
end Go.Proofs.Ytofnggfpegcllaa
end
section
set_option maxRecDepth 100000
set_option linter.unusedSimpArgs false
set_option linter.unusedVariables false
namespace Go.Proofs.Ytofnggfpegcllaa
open Go GoV Go.RowKit
def und (n : Nat) : List D := List.replicate n .undef
theorem und_len (n : Nat) : (und n).length = n := by simp [und]
theorem rnL_app (β τ : Nat → Option Nat) : ∀ (a b : List D), D.rnL β τ (a ++ b) = D.rnL β τ a ++ D.rnL β τ b
  | [], b => rfl
  | x :: a, b => by simp [D.rnL, rnL_app β τ a b]
theorem rnL_strs (β τ : Nat → Option Nat) : ∀ l : List (List UInt8), D.rnL β τ (strs l) = strs l
  | [] => rfl
  | x :: l => by
    have := rnL_strs β τ l
    simp only [strs, List.map_cons, D.rnL, D.rn] at this ⊢
    rw [this]
theorem rnL_und (β τ : Nat → Option Nat) : ∀ n : Nat, D.rnL β τ (und n) = und n
  | 0 => rfl
  | n + 1 => by
    have := rnL_und β τ n
    simp only [und, List.replicate_succ, D.rnL, D.rn] at this ⊢
    rw [this]
theorem rnL_su (β τ : Nat → Option Nat) (l : List (List UInt8)) (n : Nat) : D.rnL β τ (strs l ++ und n) = strs l ++ und n := by rw [rnL_app, rnL_strs, rnL_und]
theorem su_len (N : List (List UInt8)) (u : Nat) : (strs N ++ und u).length = N.length + u := by rw [List.length_append, strs_len, und_len]
theorem chunk_su : ∀ (K : List (List UInt8)) (r : List D), chunk 1 K.length (strs K ++ r) = strs K
  | [], r => rfl
  | x :: K, r => by
    have := chunk_su K r
    simp only [strs, List.map_cons, List.length_cons, chunk, List.cons_append, List.drop_succ_cons, List.drop_zero] at this ⊢
    rw [this]; rfl
theorem cl_und (n : Nat) : D.closedL (und n) = true := by
  unfold und
  induction n with
  | zero => rfl
  | succ n ih => simp [List.replicate_succ, D.closedL, D.closed, ih]
theorem closedL_app : ∀ (a b : List D), D.closedL a = true → D.closedL b = true → D.closedL (a ++ b) = true
  | [], b, _, h => h
  | x :: a, b, h1, h2 => by
    simp only [D.closedL, Bool.and_eq_true, List.cons_append] at h1 ⊢
    exact ⟨h1.1, closedL_app a b h1.2 h2⟩
theorem er_und (n : Nat) : D.erL (und n) = und n := by
  unfold und
  induction n with
  | zero => rfl
  | succ n ih => simp [List.replicate_succ, D.erL, D.er, ih]
theorem erL_app : ∀ (a b : List D), D.erL (a ++ b) = D.erL a ++ D.erL b
  | [], b => rfl
  | x :: a, b => by simp [D.erL, erL_app a b]
def srtS (L : List Nm) : List Nm := L.mergeSort fun x y => decide (x ≤ y)
theorem sort_e (L : List (List UInt8)) (rest : List D) (n cap : Nat) (hn : n = L.length) (hc : n + rest.length = cap) (hl : n ≤ 1000000) :
    Eff M 47 [.sl 0 1 0 n cap] ⟨[.cells (strs L ++ rest)], []⟩ fun d hp => d = .tup [] ∧ hp = ⟨[.cells (strs (srtS L) ++ rest)], []⟩ := by
  refine eff_row (M := M) ⟨Try.f47, Try.func47, rfl, rfl⟩ Go.Proofs.encStr D.str (fun w g x => by simp [Rel, Go.Proofs.encStr]) (fun w g x y h => by simpa [Rel, Go.Proofs.encStr] using h) (fun x => by simp [oneC, Value.oneCell', Go.Proofs.encStr])
    L (srtS L) rest n cap hn (List.length_mergeSort _) hc fun w blk off hH hb => ?_
  exact (Try.slices_Sort_string blk off cap L w hH hb (by omega)).mono fun e w' hh => hh
theorem compact_len (L : List Nm) : (Lib.compact L).length ≤ L.length := by
  unfold Lib.compact Lib.compactUpTo
  rw [List.length_map]
  refine Nat.le_trans (List.length_filter_le _ _) ?_
  simp
def compS (L : List Nm) : List Nm := Lib.compact L ++ List.replicate (L.length - (Lib.compact L).length) []
theorem compS_len (L : List Nm) : (compS L).length = L.length := by
  have := compact_len L
  unfold compS; simp; omega
theorem compact_e (L : List (List UInt8)) (rest : List D) (n cap : Nat) (hn : n = L.length) (hc : n + rest.length = cap) (hl : n ≤ 1000000) :
    Eff M 48 [.sl 0 1 0 n cap] ⟨[.cells (strs L ++ rest)], []⟩ fun d hp => d = .sl 0 1 0 (Lib.compact L).length cap ∧ hp = ⟨[.cells (strs (compS L) ++ rest)], []⟩ := by
  refine eff_rowS (M := M) ⟨Try.f48, Try.func48, rfl, rfl⟩ Go.Proofs.encStr D.str (fun w g x => by simp [Rel, Go.Proofs.encStr]) (fun w g x y h => by simpa [Rel, Go.Proofs.encStr] using h) (fun x => by simp [oneC, Value.oneCell', Go.Proofs.encStr])
    L (compS L) rest n cap _ hn (compS_len L) hc fun w blk off hH hb => ?_
  refine (Try.slices_Compact_string blk off cap L w hH (by omega) (by omega)).mono fun e w' hh => ?_
  obtain ⟨h1, q, h2⟩ := hh
  exact ⟨h1, q, #[], by rw [Go.Sort.grow_empty]; exact h2⟩
theorem grow_e (n : Nat) (h0 : 0 < n) (h1 : n ≤ 1000) : Eff M 56 [.lit (.slice none 0 0), .int .i64 (n : Nat)] ⟨[], []⟩ fun d hp => d = .gs 0 0 ∧ hp = ⟨[], [.chg 1 []]⟩ := by
  have hi : (Try.prog.info? 9).map (fun i => (i.zero, i.size, i.bytes)) = some (some (Go.Value.string ⟨#[]⟩), 1, 16) := by kernel_rfl
  obtain ⟨i0, hi0, hi1⟩ := Option.map_eq_some_iff.1 hi
  simp only [Prod.mk.injEq] at hi1
  obtain ⟨z0, z1, z2⟩ := hi1
  have hz : (Go.Value.string ⟨#[]⟩).cells = #[Go.Value.string ⟨#[]⟩] := rfl
  refine eff_growG (M := M) (cap := fun w => grownCap w n 0 9) (cells := fun w => Builtin.zeroCells (Go.Value.string ⟨#[]⟩).cells n ++ Builtin.zeroCells (Go.Value.string ⟨#[]⟩).cells (grownCap w n 0 9 - n)) (ty := 9) (k := 1) ⟨Try.f56, Try.func56, rfl, rfl⟩ (by omega) (fun w => ?_) (fun w y hy => ?_) fun w => ?_
  · have := grownCap_ge w n 0 9
    rw [Array.size_append, size_zeroCells, size_zeroCells, hz]
    simp; omega
  · rw [Array.toList_append, List.mem_append] at hy
    have h1 : ∀ y ∈ (Go.Value.string ⟨#[]⟩).cells.toList, oneC y := by rw [hz]; intro y hy; simp at hy; subst hy; simp [oneC, Value.oneCell']
    rcases hy with hy | hy
    · exact zeroCells_one h1 _ y hy
    · exact zeroCells_one h1 _ y hy
  · have := Any8.slices_Grow_grow Try.growG i0 (Go.Value.string ⟨#[]⟩) hi0 z0 (by omega) none 0 0 n [] w (Nat.le_refl 0) (by omega) (by rw [z2]; omega) (by omega) (by simp) (fun _ => rfl) (by simp)
    refine this.mono fun e w' hh => ?_
    obtain ⟨h2, h3⟩ := hh
    simp only [Nat.zero_add] at h2 h3
    refine ⟨h2, ?_⟩
    rw [h3]
    simp [Try.growG_ren]
end Go.Proofs.Ytofnggfpegcllaa
end
section
set_option maxRecDepth 100000
set_option linter.unusedSimpArgs false
set_option linter.unusedVariables false
namespace Go.Proofs.Ytofnggfpegcllaa
open Go GoV Go.RowKit
def listsD (L : List (List Nm)) : List D := L.map fun N => .slice (strs N) .no
theorem lists_len (L : List (List Nm)) : (listsD L).length = L.length := by simp [listsD]
theorem lists_get {L : List (List Nm)} {i : Nat} (h : i < L.length) : (listsD L).getD i .undef = .slice (strs L[i]) .no := by simp [listsD, List.getD, h]
theorem cl_lists (L : List (List Nm)) : D.closedL (listsD L) = true := by induction L with | nil => rfl | cons x l ih => simp_all [listsD, D.closedL, D.closed]
theorem er_lists (L : List (List Nm)) : D.erL (listsD L) = listsD L := by induction L with | nil => rfl | cons x l ih => simp_all [listsD, D.erL, D.er]
theorem flat_strs : ∀ L : List Nm, flatD (strs L) = strs L
  | [] => rfl
  | x :: L => by
    have := flat_strs L
    simp only [strs, List.map_cons, flatD, D.cells] at this ⊢
    rw [this]; rfl
theorem take_flat {L : List (List Nm)} {i : Nat} (h : i < L.length) : (L.take (i + 1)).flatten = (L.take i).flatten ++ L[i] := by
  rw [List.take_succ_eq_append_getElem h, List.flatten_append]; simp
theorem flat_le (L : List (List Nm)) (i : Nat) : (L.take i).flatten.length ≤ L.flatten.length := by
  have : L.flatten = (L.take i).flatten ++ (L.drop i).flatten := by rw [← List.flatten_append, List.take_append_drop]
  rw [this, List.length_append]; omega
theorem concat_e (L : List (List Nm)) (hl : L.length ≤ 100) (h0 : 0 < L.flatten.length) (h1 : L.flatten.length ≤ 1000) :
    Eff M 46 [.slice (listsD L) .no] ⟨[], []⟩ fun d hp => d = .gs 0 L.flatten.length ∧ hp = ⟨[], [.chg 1 (strs L.flatten)]⟩ := by
  have hlen := lists_len L
  have cg := grow_e L.flatten.length h0 h1
  refine oe46 0 0 rfl rfl rfl ?_
  rw [ie46]
  unfold c46
  repeat' (first
    | with_reducible first | apply swp_seq | apply swp_reg | apply swp_regD | apply swp_block | apply swp_exit | apply swp_ret | apply swp_skip | apply swp_cd
    | simp only [go_sem, seval, pe46, q46, hlen]
    | simp (disch := omega) only [w64, w32, wu8, wu16, wu32, wu64]
    | ((with_reducible apply s_appT); (case he => rfl); (case hK | hc | hr | hV => first | rfl | assumption | omega | ((first | refine ⟨?_, ?_⟩ | skip) <;> first | omega | (simp only [lN, hlen] <;> omega)) | (simp [elemsK, D.isVal, D.cells, D.closedL, D.closed, hlen]; first | done | omega)))
    | ((with_reducible apply s_appG); (case he => rfl); (case hV | hK | hr | hl => first | rfl | assumption | omega | ((first | refine ⟨?_, ?_⟩ | skip) <;> first | omega | (simp only [lN, hlen] <;> omega)) | (simp [elemsK, D.isVal, D.cells, D.closedL, D.closed, hlen]; first | done | omega)))
    | ((with_reducible apply s_app0); (case he => rfl); (case hK | hc | hr => first | rfl | assumption | omega | ((first | refine ⟨?_, ?_⟩ | skip) <;> first | omega | (simp only [lN, hlen] <;> omega)) | (simp [elemsK, D.isVal, D.cells, D.closedL, D.closed, hlen]; first | done | omega)))
    | ((with_reducible apply s_appF); (case he => rfl); (case hK | hc | hr | hx | hn => first | rfl | assumption | omega | ((first | refine ⟨?_, ?_⟩ | skip) <;> first | omega | (simp only [lN, hlen] <;> omega)) | (simp [elemsK, D.isVal, D.cells, D.closedL, D.closed, hlen]; first | done | omega)))
    | with_reducible first | apply cd_dec | apply cd_eq | apply cd_ne | apply cd_split
    | ((with_reducible refine And.intro ?hw ?_); (case hw => first | omega | rfl | exact ⟨_, _, rfl⟩ | assumption | (simp only [lN, hlen] <;> omega)))
    | with_reducible intro _)
  refine swp_fam [0, 2, 6, 7, 8] (fun i : Nat => ⟨[.slice (listsD L) .no, .undef, .int .i64 ((L.take i).flatten.length : Nat), .undef, .undef, .undef, .slice (listsD L) .no, .int .i64 L.length, .int .i64 i, .undef, .undef, .undef, .undef, .undef, .undef], [], ⟨[], []⟩⟩) (fun i => i ≤ L.length) (fun i => L.length - i) 0 (by omega) ?_ ?_
  · simp [keepE, St.keep]
  · intro i hi
    by_cases hil : i < L.length
    · have hg := lists_get hil
      have ht := take_flat hil
      have hle := flat_le L (i + 1)
      rw [ht, List.length_append] at hle
      have hsl := strs_len L[i]
      have t0 : decide (((i : Nat) : Int) < L.length) = true := by simp; omega
      have t1 : decide ((((L.take i).flatten.length : Nat) : Int) + (L[i].length : Nat) < 0) = false := by simp only [decide_eq_false_iff_not]; omega
      repeat' (first
    | with_reducible first | apply swp_seq | apply swp_reg | apply swp_regD | apply swp_block | apply swp_exit | apply swp_ret | apply swp_skip | apply swp_cd
    | simp only [go_sem, seval, pe46, q46, hlen, hg, hsl, t0, t1]
    | simp (disch := omega) only [w64, w32, wu8, wu16, wu32, wu64]
    | ((with_reducible apply s_appT); (case he => rfl); (case hK | hc | hr | hV => first | rfl | assumption | omega | ((first | refine ⟨?_, ?_⟩ | skip) <;> first | omega | (simp only [lN, hlen, hg, hsl] <;> omega)) | (simp [elemsK, D.isVal, D.cells, D.closedL, D.closed, hlen, hg, hsl]; first | done | omega)))
    | ((with_reducible apply s_appG); (case he => rfl); (case hV | hK | hr | hl => first | rfl | assumption | omega | ((first | refine ⟨?_, ?_⟩ | skip) <;> first | omega | (simp only [lN, hlen, hg, hsl] <;> omega)) | (simp [elemsK, D.isVal, D.cells, D.closedL, D.closed, hlen, hg, hsl]; first | done | omega)))
    | ((with_reducible apply s_app0); (case he => rfl); (case hK | hc | hr => first | rfl | assumption | omega | ((first | refine ⟨?_, ?_⟩ | skip) <;> first | omega | (simp only [lN, hlen, hg, hsl] <;> omega)) | (simp [elemsK, D.isVal, D.cells, D.closedL, D.closed, hlen, hg, hsl]; first | done | omega)))
    | ((with_reducible apply s_appF); (case he => rfl); (case hK | hc | hr | hx | hn => first | rfl | assumption | omega | ((first | refine ⟨?_, ?_⟩ | skip) <;> first | omega | (simp only [lN, hlen, hg, hsl] <;> omega)) | (simp [elemsK, D.isVal, D.cells, D.closedL, D.closed, hlen, hg, hsl]; first | done | omega)))
    | with_reducible first | apply cd_dec | apply cd_eq | apply cd_ne | apply cd_split
    | ((with_reducible refine And.intro ?hw ?_); (case hw => first | omega | rfl | exact ⟨_, _, rfl⟩ | assumption | (simp only [lN, hlen, hg, hsl] <;> omega)))
    | with_reducible intro _)
      all_goals first | omega | skip
      refine ⟨i + 1, by omega, by omega, ?_⟩
      simp [keepE, St.keep, ht]
    · have t0 : decide (((i : Nat) : Int) < L.length) = false := by simp; omega
      have : i = L.length := by omega
      subst this
      rw [List.take_length]
      repeat' (first
    | with_reducible first | apply swp_seq | apply swp_reg | apply swp_regD | apply swp_block | apply swp_exit | apply swp_ret | apply swp_skip | apply swp_cd
    | simp only [go_sem, seval, pe46, q46, hlen, t0]
    | simp (disch := omega) only [w64, w32, wu8, wu16, wu32, wu64]
    | ((with_reducible refine o_eff [] [] (cg) ?hs ?he ?hh ?_); (case hs => exact ⟨by simp, by simp, by simp, by simp⟩); (case he => first | rfl | (simp [go_sem, seval, hlen, Hp.back, putAt, bakF, Blk.rnL, Tv.rnL, Tv.rn, D.rnL, D.rn, Own.rn]; done)); (case hh => first | rfl | (simp [go_sem, seval, hlen, Hp.back, putAt, bakF, Blk.rnL, Tv.rnL, Tv.rn, D.rnL, D.rn, Own.rn]; done)); rintro _ _ ⟨rfl, rfl⟩)
    | ((with_reducible apply s_appT); (case he => rfl); (case hK | hc | hr | hV => first | rfl | assumption | omega | ((first | refine ⟨?_, ?_⟩ | skip) <;> first | omega | (simp only [lN, hlen, Hp.back, putAt, bakF, Blk.rnL, Tv.rnL, Tv.rn, D.rnL, D.rn, Own.rn] <;> omega)) | (simp [elemsK, D.isVal, D.cells, D.closedL, D.closed, hlen, Hp.back, putAt, bakF, Blk.rnL, Tv.rnL, Tv.rn, D.rnL, D.rn, Own.rn]; first | done | omega)))
    | ((with_reducible apply s_appG); (case he => rfl); (case hV | hK | hr | hl => first | rfl | assumption | omega | ((first | refine ⟨?_, ?_⟩ | skip) <;> first | omega | (simp only [lN, hlen, Hp.back, putAt, bakF, Blk.rnL, Tv.rnL, Tv.rn, D.rnL, D.rn, Own.rn] <;> omega)) | (simp [elemsK, D.isVal, D.cells, D.closedL, D.closed, hlen, Hp.back, putAt, bakF, Blk.rnL, Tv.rnL, Tv.rn, D.rnL, D.rn, Own.rn]; first | done | omega)))
    | ((with_reducible apply s_app0); (case he => rfl); (case hK | hc | hr => first | rfl | assumption | omega | ((first | refine ⟨?_, ?_⟩ | skip) <;> first | omega | (simp only [lN, hlen, Hp.back, putAt, bakF, Blk.rnL, Tv.rnL, Tv.rn, D.rnL, D.rn, Own.rn] <;> omega)) | (simp [elemsK, D.isVal, D.cells, D.closedL, D.closed, hlen, Hp.back, putAt, bakF, Blk.rnL, Tv.rnL, Tv.rn, D.rnL, D.rn, Own.rn]; first | done | omega)))
    | ((with_reducible apply s_appF); (case he => rfl); (case hK | hc | hr | hx | hn => first | rfl | assumption | omega | ((first | refine ⟨?_, ?_⟩ | skip) <;> first | omega | (simp only [lN, hlen, Hp.back, putAt, bakF, Blk.rnL, Tv.rnL, Tv.rn, D.rnL, D.rn, Own.rn] <;> omega)) | (simp [elemsK, D.isVal, D.cells, D.closedL, D.closed, hlen, Hp.back, putAt, bakF, Blk.rnL, Tv.rnL, Tv.rn, D.rnL, D.rn, Own.rn]; first | done | omega)))
    | with_reducible first | apply cd_dec | apply cd_eq | apply cd_ne | apply cd_split
    | ((with_reducible refine And.intro ?hw ?_); (case hw => first | omega | rfl | exact ⟨_, _, rfl⟩ | assumption | (simp only [lN, hlen, Hp.back, putAt, bakF, Blk.rnL, Tv.rnL, Tv.rn, D.rnL, D.rn, Own.rn] <;> omega)))
    | with_reducible intro _)
      all_goals first | omega | skip
      refine swp_fam [4, 11, 12, 13] (fun i : Nat => ⟨[.undef, .undef, .undef, .undef, .gs 0 (L.take i).flatten.length, .undef, .undef, .undef, .undef, .undef, .undef, .slice (listsD L) .no, .int .i64 L.length, .int .i64 i, .undef], [], ⟨[], [.chg 1 (strs (L.take i).flatten)]⟩⟩) (fun i => i ≤ L.length) (fun i => L.length - i) 0 (by omega) ?_ ?_
      · simp [keepE, St.keep, Hp.back, putAt, bakF, Blk.rnL, Tv.rnL, Tv.rn, D.rnL, strs]
      · intro i hi
        by_cases hil : i < L.length
        · have hg := lists_get hil
          have ht := take_flat hil
          have hle := flat_le L (i + 1)
          rw [ht, List.length_append] at hle
          have hsl := strs_len L[i]
          have hsl2 := strs_len (L.take i).flatten
          have hes := elems_strs L[i]
          have hfl := flat_strs L[i]
          have t0 : decide (((i : Nat) : Int) < L.length) = true := by simp; omega
          have happ : strs (L.take i).flatten ++ strs L[i] = strs ((L.take i).flatten ++ L[i]) := (strs_app _ _).symm
          repeat' (first
    | with_reducible first | apply swp_seq | apply swp_reg | apply swp_regD | apply swp_block | apply swp_exit | apply swp_ret | apply swp_skip | apply swp_cd
    | simp only [go_sem, seval, pe46, q46, hlen, hg, hsl, t0]
    | simp (disch := omega) only [w64, w32, wu8, wu16, wu32, wu64]
    | ((with_reducible apply s_appT); (case he => rfl); (case hK | hc | hr | hV => first | rfl | assumption | omega | ((first | refine ⟨?_, ?_⟩ | skip) <;> first | omega | (simp only [lN, hlen, hg, hsl, hsl2] <;> omega)) | (simp [elemsK, D.isVal, D.cells, D.closedL, D.closed, hlen, hg, hsl, hsl2]; first | done | omega)))
    | ((with_reducible apply s_appG); (case he => rfl); (case hV | hK | hr | hl => first | rfl | assumption | omega | ((first | refine ⟨?_, ?_⟩ | skip) <;> first | omega | (simp only [lN, hlen, hg, hsl, hsl2] <;> omega)) | (simp [elemsK, D.isVal, D.cells, D.closedL, D.closed, hlen, hg, hsl, hsl2]; first | done | omega)))
    | ((with_reducible apply s_app0G); (case he => rfl); (case hK | hr => first | rfl | assumption | omega | ((first | refine ⟨?_, ?_⟩ | skip) <;> first | omega | (simp only [lN, hlen, hg, hsl, hsl2] <;> omega)) | (simp [elemsK, D.isVal, D.cells, D.closedL, D.closed, hlen, hg, hsl, hsl2]; first | done | omega)))
    | with_reducible first | apply cd_dec | apply cd_eq | apply cd_ne | apply cd_split
    | ((with_reducible refine And.intro ?hw ?_); (case hw => first | omega | rfl | exact ⟨_, _, rfl⟩ | assumption | (simp only [lN, hlen, hg, hsl, hsl2] <;> omega)))
    | with_reducible intro _)
          all_goals first | omega | skip
          refine ⟨i + 1, by omega, by omega, ?_⟩
          simp [keepE, St.keep, ht, hfl, happ, hsl]
        · have t0 : decide (((i : Nat) : Int) < L.length) = false := by simp; omega
          have : i = L.length := by omega
          subst this
          rw [List.take_length]
          repeat' (first
    | with_reducible first | apply swp_seq | apply swp_reg | apply swp_regD | apply swp_block | apply swp_exit | apply swp_ret | apply swp_skip | apply swp_cd
    | simp only [go_sem, seval, pe46, q46, hlen, t0]
    | simp (disch := omega) only [w64, w32, wu8, wu16, wu32, wu64]
    | ((with_reducible apply s_appT); (case he => rfl); (case hK | hc | hr | hV => first | rfl | assumption | omega | ((first | refine ⟨?_, ?_⟩ | skip) <;> first | omega | (simp only [lN, hlen] <;> omega)) | (simp [elemsK, D.isVal, D.cells, D.closedL, D.closed, hlen]; first | done | omega)))
    | ((with_reducible apply s_appG); (case he => rfl); (case hV | hK | hr | hl => first | rfl | assumption | omega | ((first | refine ⟨?_, ?_⟩ | skip) <;> first | omega | (simp only [lN, hlen] <;> omega)) | (simp [elemsK, D.isVal, D.cells, D.closedL, D.closed, hlen]; first | done | omega)))
    | ((with_reducible apply s_app0); (case he => rfl); (case hK | hc | hr => first | rfl | assumption | omega | ((first | refine ⟨?_, ?_⟩ | skip) <;> first | omega | (simp only [lN, hlen] <;> omega)) | (simp [elemsK, D.isVal, D.cells, D.closedL, D.closed, hlen]; first | done | omega)))
    | ((with_reducible apply s_appF); (case he => rfl); (case hK | hc | hr | hx | hn => first | rfl | assumption | omega | ((first | refine ⟨?_, ?_⟩ | skip) <;> first | omega | (simp only [lN, hlen] <;> omega)) | (simp [elemsK, D.isVal, D.cells, D.closedL, D.closed, hlen]; first | done | omega)))
    | with_reducible first | apply cd_dec | apply cd_eq | apply cd_ne | apply cd_split
    | ((with_reducible refine And.intro ?hw ?_); (case hw => first | omega | rfl | exact ⟨_, _, rfl⟩ | assumption | (simp only [lN, hlen] <;> omega)))
    | with_reducible intro _)
          all_goals first | omega | skip
          exact ⟨_, weak_refl, rfl, rfl⟩
end Go.Proofs.Ytofnggfpegcllaa
end
section
set_option maxRecDepth 100000
set_option linter.unusedSimpArgs false
set_option linter.unusedVariables false
namespace Go.Proofs.Ytofnggfpegcllaa
open Go GoV Go.RowKit
theorem comp_srt (N : List Nm) : Lib.compact (srtS N) = N.foldl putS [] := names_sorted N
set_option maxHeartbeats 1000000 in
theorem joined_p (L : List (List Nm)) (hl : L.length ≤ 100) (h0 : 0 < L.flatten.length) (h1 : L.flatten.length ≤ 1000) :
    Pur M 38 [.slice (listsD L) .no] (.slice (strs (L.flatten.foldl putS [])) .no) := by
  have cc := concat_e L hl h0 h1
  have hcl := cl_lists L
  have her := er_lists L
  refine ow38 rfl ?_
  rw [i38]
  unfold c38
  generalize hrc : RC.seq (.reg r38_2) (.seq (.reg r38_3) .ret) = rc at *
  repeat' (first
    | with_reducible first | apply swp_seq | apply swp_reg | apply swp_regD | apply swp_block | apply swp_exit | apply swp_ret | apply swp_skip | apply swp_cd
    | simp only [go_sem, seval, P38, q38]
    | simp (disch := omega) only [w64, w32, wu8, wu16, wu32, wu64]
    | ((with_reducible refine o_eff [] [] (cc) ?hs ?he ?hh ?_); (case hs => exact ⟨by simp, by simp, by simp, by simp⟩); (case he => first | rfl | (simp [go_sem, seval, hcl, her, Hp.back, putAt, bakF, Blk.rnL, Tv.rnL, Tv.rn, D.rnL, D.rn, Own.rn]; done)); (case hh => first | rfl | (simp [go_sem, seval, hcl, her, Hp.back, putAt, bakF, Blk.rnL, Tv.rnL, Tv.rn, D.rnL, D.rn, Own.rn]; done)); rintro _ _ ⟨rfl, rfl⟩)
    | with_reducible first | apply cd_dec | apply cd_eq | apply cd_ne | apply cd_split
    | ((with_reducible refine And.intro ?hw ?_); (case hw => first | omega | rfl | exact ⟨_, _, rfl⟩ | assumption | (simp only [lN, hcl, her, Hp.back, putAt, bakF, Blk.rnL, Tv.rnL, Tv.rn, D.rnL, D.rn, Own.rn] <;> omega)))
    | with_reducible intro _)
  have hr0 := fun β τ => rnL_strs β τ L.flatten
  simp only [Hp.back, putAt, bakF, Blk.rnL, Tv.rnL, Tv.rn, hr0, D.rn, List.append_nil, List.nil_append]
  rw [← comp_srt]
  generalize L.flatten = F at *
  refine swp_sl 2 0 1 F.length (strs F) rfl (by simp [List.length_nil]) (by rw [strs_len, Nat.mul_one]) (by unfold C38 E38; rfl) h0 fun cap hc => ?_
  simp only [St.toSl, List.set_cons_zero, List.set_cons_succ, List.length_cons, List.length_nil, List.nil_append, List.cons_append, Nat.mul_one]
  have hu : List.replicate (cap - F.length) D.undef = und (cap - F.length) := rfl
  rw [hu]
  have c1 := sort_e F (und (cap - F.length)) F.length cap rfl (by rw [und_len]; omega) (by omega)
  have hsl : (srtS F).length = F.length := List.length_mergeSort _
  have c2 := compact_e (srtS F) (und (cap - F.length)) F.length cap hsl.symm (by rw [und_len]; omega) (by omega)
  have hr1 := fun β τ => rnL_su β τ F (cap - F.length)
  have hr2 := fun β τ => rnL_su β τ (srtS F) (cap - F.length)
  have hr3 := fun β τ => rnL_su β τ (compS (srtS F)) (cap - F.length)
  rw [← hrc]
  repeat' (first
    | with_reducible first | apply swp_seq | apply swp_reg | apply swp_regD | apply swp_block | apply swp_exit | apply swp_ret | apply swp_skip | apply swp_cd
    | simp only [go_sem, seval, P38, q38]
    | simp (disch := omega) only [w64, w32, wu8, wu16, wu32, wu64]
    | ((with_reducible refine o_eff [0] [] (c1) ?hs ?he ?hh ?_); (case hs => exact ⟨by simp, by simp, by simp, by simp⟩); (case he => first | rfl | (simp [go_sem, seval, D.rnL, D.rn, posF, Hp.sel, Blk.rnL, Blk.rn, Tv.rnL, idx, hr1, hr2, hr3, Hp.back, putAt, bakF]; done)); (case hh => first | rfl | (simp [go_sem, seval, D.rnL, D.rn, posF, Hp.sel, Blk.rnL, Blk.rn, Tv.rnL, idx, hr1, hr2, hr3, Hp.back, putAt, bakF]; done)); rintro _ _ ⟨rfl, rfl⟩)
    | ((with_reducible refine o_eff [0] [] (c2) ?hs ?he ?hh ?_); (case hs => exact ⟨by simp, by simp, by simp, by simp⟩); (case he => first | rfl | (simp [go_sem, seval, D.rnL, D.rn, posF, Hp.sel, Blk.rnL, Blk.rn, Tv.rnL, idx, hr1, hr2, hr3, Hp.back, putAt, bakF]; done)); (case hh => first | rfl | (simp [go_sem, seval, D.rnL, D.rn, posF, Hp.sel, Blk.rnL, Blk.rn, Tv.rnL, idx, hr1, hr2, hr3, Hp.back, putAt, bakF]; done)); rintro _ _ ⟨rfl, rfl⟩)
    | with_reducible first | apply cd_dec | apply cd_eq | apply cd_ne | apply cd_split
    | ((with_reducible refine And.intro ?hw ?_); (case hw => first | omega | rfl | exact ⟨_, _, rfl⟩ | assumption | (simp only [lN, D.rnL, D.rn, posF, Hp.sel, Blk.rnL, Blk.rn, Tv.rnL, idx, hr1, hr2, hr3, Hp.back, putAt, bakF] <;> omega)))
    | with_reducible intro _)
  have hcs := cl_strs (compS (srtS F))
  have hcc := closedL_app _ _ hcs (cl_und (cap - F.length))
  refine ⟨_, weak_trans (weak_keep [1]) (weak_frz 0 (strs (compS (srtS F)) ++ und (cap - F.length)) (by simp [Hp.back, putAt, bakF, Blk.rnL, Blk.rn, hr1, hr2, hr3]) (Nat.zero_le _) hcc), ?_⟩
  have hes := er_strs (compS (srtS F))
  have he2 : D.erL (strs (compS (srtS F)) ++ und (cap - F.length)) = strs (compS (srtS F)) ++ und (cap - F.length) := by rw [erL_app, hes, er_und]
  rw [he2]
  have hlen := compS_len (srtS F)
  have hkl := compact_len (srtS F)
  have hch : chunk 1 (Lib.compact (srtS F)).length (strs (compS (srtS F)) ++ und (cap - F.length)) = strs (Lib.compact (srtS F)) := by
    unfold compS; rw [strs_app, List.append_assoc]; exact chunk_su _ _
  have hel := elems_strs (Lib.compact (srtS F))
  have hll : (strs (compS (srtS F)) ++ und (cap - F.length)).length = cap := by rw [su_len]; omega
  have hck := cl_strs (Lib.compact (srtS F))
  have hek := er_strs (Lib.compact (srtS F))
  have hle : (Lib.compact (srtS F)).length ≤ cap := by omega
  generalize Lib.compact (srtS F) = C at *
  simp [St.frz, keepE, D.fz, hch, hel, hll, hle, D.closed, D.er, D.rn, bakF]
theorem names_all {l : List Ev} (h : ∀ e ∈ l, evOk e = true) : l.length ≤ (l.flatMap evNames).length ∧ (l.flatMap evNames).length ≤ 2 * l.length := by
  induction l with
  | nil => simp
  | cons e l ih =>
    have := ih fun x hx => h x (List.mem_cons_of_mem _ hx)
    have h2 := evNames_len e
    have h1 : 1 ≤ (evNames e).length := by unfold evNames; rw [if_pos (h e (by simp))]; split <;> simp
    simp only [List.flatMap_cons, List.length_append, List.length_cons]; omega
def lsAt (l : List Ev) (i : Nat) : List D := listsD ((l.take i).map evNames)
theorem lsAt_len {l : List Ev} {i : Nat} (h : i ≤ l.length) : (lsAt l i).length = i := by unfold lsAt; rw [lists_len, List.length_map, List.length_take]; omega
set_option maxHeartbeats 1000000 in
theorem names_p (r : Rp) (hs : ∀ e ∈ r.opts, e.sh = true) : Pur M 21 [rpD r] (.slice (strs (namesR r)) .no) := by
  have c1 := rvalid_p r hs
  cases hv : repOk r
  · rw [hv] at c1
    have e1 : namesR r = [] := by unfold namesR; rw [hv]; rfl
    rw [e1]
    refine pur_res (d := .lit (.slice none 0 0)) ?_ rfl
    unfold rpD at *
    refine ok21 rfl ?_
    rw [i21]
    unfold c21
    repeat' (first
    | with_reducible first | apply swp_seq | apply swp_reg | apply swp_regD | apply swp_block | apply swp_exit | apply swp_ret | apply swp_skip | apply swp_cd
    | simp only [go_sem, seval, P21, q21]
    | simp (disch := omega) only [w64, w32, wu8, wu16, wu32, wu64]
    | ((with_reducible refine o_call (c1) ?he ?hc ?_); (case he | hc => first | rfl | (simp [D.erL, D.er, D.closedL, D.closed]; done)))
    | ((with_reducible apply s_appT); (case he => rfl); (case hK | hc | hr | hV => first | rfl | assumption | omega | ((first | refine ⟨?_, ?_⟩ | skip) <;> first | omega | (simp only [lN] <;> omega)) | (simp [elemsK, D.isVal, D.cells, D.closedL, D.closed]; first | done | omega)))
    | ((with_reducible apply s_appG); (case he => rfl); (case hV | hK | hr | hl => first | rfl | assumption | omega | ((first | refine ⟨?_, ?_⟩ | skip) <;> first | omega | (simp only [lN] <;> omega)) | (simp [elemsK, D.isVal, D.cells, D.closedL, D.closed]; first | done | omega)))
    | ((with_reducible apply s_app0); (case he => rfl); (case hK | hc | hr => first | rfl | assumption | omega | ((first | refine ⟨?_, ?_⟩ | skip) <;> first | omega | (simp only [lN] <;> omega)) | (simp [elemsK, D.isVal, D.cells, D.closedL, D.closed]; first | done | omega)))
    | ((with_reducible apply s_appF); (case he => rfl); (case hK | hc | hr | hx | hn => first | rfl | assumption | omega | ((first | refine ⟨?_, ?_⟩ | skip) <;> first | omega | (simp only [lN] <;> omega)) | (simp [elemsK, D.isVal, D.cells, D.closedL, D.closed]; first | done | omega)))
    | ((with_reducible apply s_bsl); (case he | hl | hc => first | rfl | assumption | omega | ((first | refine ⟨?_, ?_⟩ | skip) <;> first | omega | (simp only [lN] <;> omega)) | (simp [elemsK, D.isVal, D.cells, D.closedL, D.closed]; first | done | omega)))
    | with_reducible first | apply cd_dec | apply cd_eq | apply cd_ne | apply cd_split
    | ((with_reducible refine And.intro ?hw ?_); (case hw => first | omega | rfl | exact ⟨_, _, rfl⟩ | assumption | (simp only [lN] <;> omega)))
    | with_reducible intro _)
    all_goals simp [D.closed, D.er]
  · rw [hv] at c1
    obtain ⟨h4, h1, hev⟩ := ok_len hv
    have hn : namesR r = (r.opts.flatMap evNames).foldl putS [] := by unfold namesR; rw [if_pos hv]
    rw [hn]
    rcases r with ⟨l, d⟩
    simp only at h4 h1 hs hev ⊢
    obtain ⟨na1, na2⟩ := names_all hev
    have hfm : (l.map evNames).flatten = l.flatMap evNames := rfl
    have cj := joined_p (l.map evNames) (by simp; omega) (by rw [hfm]; omega) (by rw [hfm]; omega)
    rw [hfm] at cj
    have hclj := cl_lists (l.map evNames)
    have herj := er_lists (l.map evNames)
    unfold rpD at *
    simp only at c1 ⊢
    have hlen : (l.map evD).length = l.length := by simp
    have hcs := cl_strs ((l.flatMap evNames).foldl putS [])
    have hes := er_strs ((l.flatMap evNames).foldl putS [])
    refine ow21 rfl ?_
    rw [i21]
    unfold c21
    repeat' (first
    | with_reducible first | apply swp_seq | apply swp_reg | apply swp_regD | apply swp_block | apply swp_exit | apply swp_ret | apply swp_skip | apply swp_cd
    | simp only [go_sem, seval, P21, q21]
    | simp (disch := omega) only [w64, w32, wu8, wu16, wu32, wu64]
    | ((with_reducible refine o_call (c1) ?he ?hc ?_); (case he | hc => first | rfl | (simp [D.erL, D.er, D.closedL, D.closed]; done)))
    | ((with_reducible apply s_appT); (case he => rfl); (case hK | hc | hr | hV => first | rfl | assumption | omega | ((first | refine ⟨?_, ?_⟩ | skip) <;> first | omega | (simp only [lN] <;> omega)) | (simp [elemsK, D.isVal, D.cells, D.closedL, D.closed]; first | done | omega)))
    | ((with_reducible apply s_appG); (case he => rfl); (case hV | hK | hr | hl => first | rfl | assumption | omega | ((first | refine ⟨?_, ?_⟩ | skip) <;> first | omega | (simp only [lN] <;> omega)) | (simp [elemsK, D.isVal, D.cells, D.closedL, D.closed]; first | done | omega)))
    | ((with_reducible apply s_app0); (case he => rfl); (case hK | hc | hr => first | rfl | assumption | omega | ((first | refine ⟨?_, ?_⟩ | skip) <;> first | omega | (simp only [lN] <;> omega)) | (simp [elemsK, D.isVal, D.cells, D.closedL, D.closed]; first | done | omega)))
    | ((with_reducible apply s_appF); (case he => rfl); (case hK | hc | hr | hx | hn => first | rfl | assumption | omega | ((first | refine ⟨?_, ?_⟩ | skip) <;> first | omega | (simp only [lN] <;> omega)) | (simp [elemsK, D.isVal, D.cells, D.closedL, D.closed]; first | done | omega)))
    | ((with_reducible apply s_bsl); (case he | hl | hc => first | rfl | assumption | omega | ((first | refine ⟨?_, ?_⟩ | skip) <;> first | omega | (simp only [lN] <;> omega)) | (simp [elemsK, D.isVal, D.cells, D.closedL, D.closed]; first | done | omega)))
    | with_reducible first | apply cd_dec | apply cd_eq | apply cd_ne | apply cd_split
    | ((with_reducible refine And.intro ?hw ?_); (case hw => first | omega | rfl | exact ⟨_, _, rfl⟩ | assumption | (simp only [lN] <;> omega)))
    | with_reducible intro _)
    refine swp_weak (weak_trans (weak_keep [1, 3, 6, 7, 8]) (weak_new 3 1 (by omega) false rfl)) ?_
    simp only [keepE]
    refine swp_famG [1, 3, 6, 7, 8] 1 1 (Nat.zero_le 1) (Nat.zero_le 1) (fun i : Nat => ⟨[.undef, .ptr 0 0, .undef, .slice (lsAt l i) (.tok 0), .undef, .undef, evsD l, .int .i64 l.length, .int .i64 i, .undef], [], ⟨[.cells [evsD l, .bool d]], [.per 1 i]⟩⟩)
      (fun i => i ≤ l.length) (fun i => l.length - i) 0 (by omega) ?_ ?_
    · simp [keepE, St.keep, St.keepG, St.gc, Hp.cut, D.rn, D.rnL, Blk.rnL, Blk.rn, Tv.rnL, Tv.rn, cutF, Own.rn, lsAt, listsD]
    · intro i hi
      by_cases hil : i < l.length
      · have t2 : decide (((i : Nat) : Int) < l.length) = true := by simp; omega
        have hg := ev_get hil
        have c2 := enames_p l[i] (hs _ (List.getElem_mem _)) (hev _ (List.getElem_mem _))
        rw [show evD l[i] = .agg l[i].cells from rfl] at c2
        have hc2 := cl_strs (evNames l[i])
        have he2 := er_strs (evNames l[i])
        have hll := lsAt_len (show i ≤ l.length by omega)
        have e4 : lsAt l (i + 1) = lsAt l i ++ [.slice (strs (evNames l[i])) .no] := by
          unfold lsAt
          rw [List.take_succ_eq_append_getElem hil, List.map_append]; simp [listsD, -List.map_take]
        repeat' (first
    | with_reducible first | apply swp_seq | apply swp_reg | apply swp_regD | apply swp_block | apply swp_exit | apply swp_ret | apply swp_skip | apply swp_cd
    | simp only [go_sem, seval, P21, q21, Ev.cells, hlen, t2, hg]
    | simp (disch := omega) only [w64, w32, wu8, wu16, wu32, wu64]
    | ((with_reducible refine o_call (c2) ?he ?hc ?_); (case he | hc => first | rfl | (simp [D.erL, D.er, D.closedL, D.closed, hlen, hg, hll]; done)))
    | ((with_reducible apply s_appT); (case he => rfl); (case hK | hc | hr | hV => first | rfl | assumption | omega | ((first | refine ⟨?_, ?_⟩ | skip) <;> first | omega | (simp only [lN, hlen, hg, hll] <;> omega)) | (simp [elemsK, D.isVal, D.cells, D.closedL, D.closed, hlen, hg, hll]; first | done | omega)))
    | ((with_reducible apply s_appG); (case he => rfl); (case hV | hK | hr | hl => first | rfl | assumption | omega | ((first | refine ⟨?_, ?_⟩ | skip) <;> first | omega | (simp only [lN, hlen, hg, hll] <;> omega)) | (simp [elemsK, D.isVal, D.cells, D.closedL, D.closed, hlen, hg, hll]; first | done | omega)))
    | ((with_reducible apply s_app0); (case he => rfl); (case hK | hc | hr => first | rfl | assumption | omega | ((first | refine ⟨?_, ?_⟩ | skip) <;> first | omega | (simp only [lN, hlen, hg, hll] <;> omega)) | (simp [elemsK, D.isVal, D.cells, D.closedL, D.closed, hlen, hg, hll]; first | done | omega)))
    | ((with_reducible apply s_appF); (case he => rfl); (case hK | hc | hr | hx | hn => first | rfl | assumption | omega | ((first | refine ⟨?_, ?_⟩ | skip) <;> first | omega | (simp only [lN, hlen, hg, hll] <;> omega)) | (simp [elemsK, D.isVal, D.cells, D.closedL, D.closed, hlen, hg, hll]; first | done | omega)))
    | ((with_reducible apply s_bsl); (case he | hl | hc => first | rfl | assumption | omega | ((first | refine ⟨?_, ?_⟩ | skip) <;> first | omega | (simp only [lN, hlen, hg, hll] <;> omega)) | (simp [elemsK, D.isVal, D.cells, D.closedL, D.closed, hlen, hg, hll]; first | done | omega)))
    | with_reducible first | apply cd_dec | apply cd_eq | apply cd_ne | apply cd_split
    | ((with_reducible refine And.intro ?hw ?_); (case hw => first | omega | rfl | exact ⟨_, _, rfl⟩ | assumption | (simp only [lN, hlen, hg, hll] <;> omega)))
    | with_reducible intro _)
        all_goals first | omega | skip
        refine ⟨i + 1, by omega, by omega, ?_⟩
        simp [keepE, St.keep, St.keepG, St.gc, Hp.cut, D.rn, D.rnL, Blk.rnL, Blk.rn, Tv.rnL, Tv.rn, cutF, Own.rn, e4, D.erL, D.er, hll]
      · have t2 : decide (((i : Nat) : Int) < l.length) = false := by simp; omega
        have : i = l.length := by omega
        subst this
        unfold lsAt
        rw [List.take_length]
        repeat' (first
    | with_reducible first | apply swp_seq | apply swp_reg | apply swp_regD | apply swp_block | apply swp_exit | apply swp_ret | apply swp_skip | apply swp_cd
    | simp only [go_sem, seval, P21, q21, hlen, t2]
    | simp (disch := omega) only [w64, w32, wu8, wu16, wu32, wu64]
    | ((with_reducible refine o_call (cj) ?he ?hc ?_); (case he | hc => first | rfl | (simp [D.erL, D.er, D.closedL, D.closed, hlen, hclj, herj]; done)))
    | ((with_reducible apply s_appT); (case he => rfl); (case hK | hc | hr | hV => first | rfl | assumption | omega | ((first | refine ⟨?_, ?_⟩ | skip) <;> first | omega | (simp only [lN, hlen, hclj, herj] <;> omega)) | (simp [elemsK, D.isVal, D.cells, D.closedL, D.closed, hlen, hclj, herj]; first | done | omega)))
    | ((with_reducible apply s_appG); (case he => rfl); (case hV | hK | hr | hl => first | rfl | assumption | omega | ((first | refine ⟨?_, ?_⟩ | skip) <;> first | omega | (simp only [lN, hlen, hclj, herj] <;> omega)) | (simp [elemsK, D.isVal, D.cells, D.closedL, D.closed, hlen, hclj, herj]; first | done | omega)))
    | ((with_reducible apply s_app0); (case he => rfl); (case hK | hc | hr => first | rfl | assumption | omega | ((first | refine ⟨?_, ?_⟩ | skip) <;> first | omega | (simp only [lN, hlen, hclj, herj] <;> omega)) | (simp [elemsK, D.isVal, D.cells, D.closedL, D.closed, hlen, hclj, herj]; first | done | omega)))
    | ((with_reducible apply s_appF); (case he => rfl); (case hK | hc | hr | hx | hn => first | rfl | assumption | omega | ((first | refine ⟨?_, ?_⟩ | skip) <;> first | omega | (simp only [lN, hlen, hclj, herj] <;> omega)) | (simp [elemsK, D.isVal, D.cells, D.closedL, D.closed, hlen, hclj, herj]; first | done | omega)))
    | ((with_reducible apply s_bsl); (case he | hl | hc => first | rfl | assumption | omega | ((first | refine ⟨?_, ?_⟩ | skip) <;> first | omega | (simp only [lN, hlen, hclj, herj] <;> omega)) | (simp [elemsK, D.isVal, D.cells, D.closedL, D.closed, hlen, hclj, herj]; first | done | omega)))
    | with_reducible first | apply cd_dec | apply cd_eq | apply cd_ne | apply cd_split
    | ((with_reducible refine And.intro ?hw ?_); (case hw => first | omega | rfl | exact ⟨_, _, rfl⟩ | assumption | (simp only [lN, hlen, hclj, herj] <;> omega)))
    | with_reducible intro _)
        all_goals first | omega | skip
        exact ⟨_, weak_refl, by simp [D.closed], by simp [D.er]⟩
end Go.Proofs.Ytofnggfpegcllaa
end
section
set_option maxRecDepth 100000
set_option linter.unusedSimpArgs false
set_option linter.unusedVariables false
namespace Go.Proofs.Ytofnggfpegcllaa
open Go GoV Go.RowKit
def ints (F : List Nat) : List D := F.map fun n => .int .i64 (n : Nat)
theorem ints_len (F : List Nat) : (ints F).length = F.length := by simp [ints]
theorem ints_get {F : List Nat} {i : Nat} (h : i < F.length) : (ints F).getD i .undef = .int .i64 (lb F i : Nat) := by simp [ints, List.getD, h]
theorem ints_set {F : List Nat} {i x : Nat} : (ints F).set i (.int .i64 (x : Nat)) = ints (F.set i x) := by simp [ints, List.map_set]
set_option maxHeartbeats 1000000 in
theorem root_e {F L : List Nat} (hL : Lo L) (h : Fo F L) (hN : L.length < 1000000) {i : Nat} (hi : i < L.length) :
    Eff M 27 [.gs 0 F.length, .int .i64 (i : Nat)] ⟨[], [.chg 1 (ints F)]⟩ fun d hp => d = .int .i64 ((rt F i).2 : Nat) ∧ hp = ⟨[], [.chg 1 (ints (rt F i).1)]⟩ := by
  refine oe27 0 1 rfl rfl rfl ?_
  rw [ie27]
  unfold c27
  repeat' (first
    | with_reducible first | apply swp_seq | apply swp_reg | apply swp_regD | apply swp_block | apply swp_exit | apply swp_ret | apply swp_skip | apply swp_cd
    | simp only [go_sem, seval, pe27, q27]
    | with_reducible first | apply cd_dec | apply cd_eq | apply cd_ne | apply cd_split
    | ((with_reducible refine And.intro ?hw ?_); (case hw => first | omega | rfl | exact ⟨_, _, rfl⟩ | assumption | (simp only [lN] <;> omega)))
    | with_reducible intro _)
  refine swp_fam [0, 1] (fun p : List Nat × Nat => ⟨[.gs 0 F.length, .int .i64 (p.2 : Nat), .undef, .undef], [], ⟨[], [.chg 1 (ints p.1)]⟩⟩)
    (fun p => Fo p.1 L ∧ p.2 < L.length ∧ rt p.1 p.2 = rt F i) (fun p => p.2) (F, i) ⟨h, hi, rfl⟩ ?_ ?_
  · simp [keepE, St.keep]
  · rintro ⟨G, j⟩ ⟨hG, hj, hr⟩
    simp only at hG hj hr
    have hlF := h.len
    have hlG := hG.len
    have g1 := ints_get (F := G) (i := j) (by omega)
    have gl := ints_len G
    by_cases e : lb G j = j
    · rw [rt_end e] at hr
      have t0 : (((lb G j : Nat) : Int) != ((j : Nat) : Int)) = false := by rw [e]; simp
      repeat' (first
    | with_reducible first | apply swp_seq | apply swp_reg | apply swp_regD | apply swp_block | apply swp_exit | apply swp_ret | apply swp_skip | apply swp_cd
    | simp only [go_sem, seval, pe27, q27, Nat.mul_one, gl, g1, t0]
    | simp (disch := omega) only [w64, w32, wu8, wu16, wu32, wu64]
    | with_reducible first | apply cd_dec | apply cd_eq | apply cd_ne | apply cd_split
    | ((with_reducible refine And.intro ?hw ?_); (case hw => first | omega | rfl | exact ⟨_, _, rfl⟩ | assumption | (simp only [lN, gl] <;> omega)))
    | with_reducible intro _)
      all_goals try omega
      rw [← hr]
      exact ⟨_, weak_refl, rfl, rfl⟩
    · have l1 := hG.le j hj
      have l2 := hG.le (lb G j) (by omega)
      have g2 := ints_get (F := G) (i := lb G j) (by omega)
      have g3 := ints_get (F := halve G j) (i := j) (by rw [halve_len]; omega)
      have e3 : lb (halve G j) j = lb G (lb G j) := by unfold halve; rw [lb_set (by omega), if_pos rfl]
      rw [e3] at g3
      have gl3 := ints_len (halve G j)
      rw [halve_len] at gl3
      have hst : (ints G).set j (.int .i64 (lb G (lb G j) : Nat)) = ints (halve G j) := ints_set
      have t0 : (((lb G j : Nat) : Int) != ((j : Nat) : Int)) = true := by
        rw [bne_iff_ne]; omega
      have hgo := rt_go hL hG hj e
      have hH := fo_halve hG hj
      generalize lb G (lb G j) = x at *
      generalize lb G j = y at *
      generalize halve G j = G2 at *
      repeat' (first
    | with_reducible first | apply swp_seq | apply swp_reg | apply swp_regD | apply swp_block | apply swp_exit | apply swp_ret | apply swp_skip | apply swp_cd
    | simp only [go_sem, seval, pe27, q27, Nat.mul_one, gl, g1, g2, g3, gl3, hst, t0]
    | simp (disch := omega) only [w64, w32, wu8, wu16, wu32, wu64]
    | with_reducible first | apply cd_dec | apply cd_eq | apply cd_ne | apply cd_split
    | ((with_reducible refine And.intro ?hw ?_); (case hw => first | omega | rfl | exact ⟨_, _, rfl⟩ | assumption | (simp only [lN, gl, gl3] <;> omega)))
    | with_reducible intro _)
      all_goals try omega
      exact ⟨(G2, x), ⟨hH, by omega, by rw [← hgo]; exact hr⟩, by omega, by simp [keepE, St.keep]⟩
end Go.Proofs.Ytofnggfpegcllaa
end
section
set_option maxRecDepth 100000
set_option linter.unusedSimpArgs false
set_option linter.unusedVariables false
namespace Go.Proofs.Ytofnggfpegcllaa
open Go GoV Go.RowKit
theorem ints_rn (β τ : Nat → Option Nat) : ∀ F : List Nat, D.rnL β τ (ints F) = ints F
  | [] => rfl
  | x :: F => by
    have := ints_rn β τ F
    simp only [ints, List.map_cons, D.rnL, D.rn] at this ⊢
    rw [this]
set_option maxHeartbeats 1000000 in
theorem join_e {F L : List Nat} (hL : Lo L) (h : Fo F L) (hN : L.length < 1000000) {i k : Nat} (hi : i < L.length) (hk : k < L.length) :
    Eff M 40 [.gs 0 F.length, .int .i64 (i : Nat), .int .i64 (k : Nat)] ⟨[], [.chg 1 (ints F)]⟩ fun d hp => d = .tup [] ∧ hp = ⟨[], [.chg 1 (ints (joinF F i k))]⟩ := by
  have c1 := root_e hL h hN hi
  have f1 := rt_fo hL h hi
  have c2 := root_e hL f1 hN hk
  rw [rt_len] at c2
  have r1 := rt_root hL h hi
  have r2 := rt_root hL f1 hk
  have b1 := (hL i hi).1
  have b2 := (hL k hk).1
  have hl := h.len
  have hG : (rt (rt F i).1 k).1.length = F.length := by rw [rt_len, rt_len]
  have gl := ints_len (rt (rt F i).1 k).1
  have hrn := fun β τ => ints_rn β τ
  unfold joinF
  rw [r1] at c1
  rw [r2] at c2
  rw [r1, r2]
  generalize lb L i = x at *
  generalize lb L k = y at *
  generalize (rt (rt F i).1 k).1 = H at *
  generalize (rt F i).1 = G at *
  have hmx : (if ((y : Nat) : Int) > (x : Nat) then ((y : Nat) : Int) else (x : Nat)) = ((max x y : Nat) : Int) := by split <;> omega
  have hmn : (if ((y : Nat) : Int) < (x : Nat) then ((y : Nat) : Int) else (x : Nat)) = ((min x y : Nat) : Int) := by split <;> omega
  have hst : (ints H).set (max x y) (.int .i64 (min x y : Nat)) = ints (H.set (max x y) (min x y)) := ints_set
  have hm2 : max x y < F.length := by omega
  generalize max x y = mx at *
  generalize min x y = mn at *
  refine oe40 0 1 rfl rfl rfl ?_
  rw [ie40]
  unfold c40
  repeat' (first
    | with_reducible first | apply swp_seq | apply swp_reg | apply swp_regD | apply swp_block | apply swp_exit | apply swp_ret | apply swp_skip | apply swp_cd
    | simp only [go_sem, seval, pe40, q40, hrn, foldI, Nat.mul_one, hmx, hmn, hst]
    | simp (disch := omega) only [w64, w32, wu8, wu16, wu32, wu64]
    | ((with_reducible refine o_eff [] [0] (c1) ?hs ?he ?hh ?_); (case hs => exact ⟨by simp, by simp, by simp, by simp⟩); (case he => first | rfl | (simp [go_sem, seval, hrn, gl, hG]; done)); (case hh => first | rfl | (simp [go_sem, seval, hrn, gl, hG]; done)); rintro _ _ ⟨rfl, rfl⟩)
    | ((with_reducible refine o_eff [] [0] (c2) ?hs ?he ?hh ?_); (case hs => exact ⟨by simp, by simp, by simp, by simp⟩); (case he => first | rfl | (simp [go_sem, seval, hrn, gl, hG]; done)); (case hh => first | rfl | (simp [go_sem, seval, hrn, gl, hG]; done)); rintro _ _ ⟨rfl, rfl⟩)
    | with_reducible first | apply cd_dec | apply cd_eq | apply cd_ne | apply cd_split
    | ((with_reducible refine And.intro ?hw ?_); (case hw => first | omega | rfl | exact ⟨_, _, rfl⟩ | assumption | (simp only [lN, hrn, gl, hG] <;> omega)))
    | with_reducible intro _)
  all_goals first | omega | skip
  exact ⟨_, weak_refl, rfl⟩
def vF (F : List (Nm × Nat)) (s : Nm) : D := .int .i64 ((look F s).getD 0 : Nat)
def eF (F : List (Nm × Nat)) : List (D × D × Nat) := entG D.str (vF F) (F.map (·.1)) 0
theorem look_none {F : List (Nm × Nat)} {s : Nm} : look F s = none ↔ s ∉ F.map (·.1) := by
  unfold look
  rw [Option.map_eq_none_iff, List.find?_eq_none]
  simp only [List.mem_map, not_exists, not_and, beq_iff_eq]
theorem eF_none {F : List (Nm × Nat)} {s : Nm} (h : look F s = none) : findM (.str s) (eF F) 0 = none := entG_none keyStr (look_none.1 h)
theorem eF_some {F : List (Nm × Nat)} {s : Nm} {k : Nat} (h : look F s = some k) : ∃ j, findM (.str s) (eF F) 0 = some (j, .int .i64 (k : Nat)) := by
  have hm : s ∈ F.map (·.1) := by
    by_cases q : s ∈ F.map (·.1)
    · exact q
    · rw [look_none.2 q] at h; cases h
  obtain ⟨j, hj⟩ := entG_some (vf := vF F) keyStr hm
  refine ⟨j, ?_⟩
  unfold eF
  rw [hj]
  unfold vF
  rw [h]; rfl
theorem eF_put {F : List (Nm × Nat)} {s : Nm} {i : Nat} (h : look F s = none) : putM (eF F) F.length (.str s) (.int .i64 (i : Nat)) = .map (eF (F ++ [(s, i)])) (F ++ [(s, i)]).length := by
  have := entG_new (vf := vF F) keyStr (.int .i64 (i : Nat)) (look_none.1 h)
  rw [List.length_map] at this
  unfold eF
  rw [this]
  have hv : upd (vF F) s (.int .i64 (i : Nat)) = vF (F ++ [(s, i)]) := by
    funext t
    unfold upd vF
    rw [look_new h]
    split <;> rfl
  rw [hv, List.map_append, List.length_append]
  rfl
theorem eF_ok (F : List (Nm × Nat)) : ((eF F).all fun e => keyOk .str e.1) = true := entG_ok keyStr _ _
theorem eF_rn (β τ : Nat → Option Nat) (F : List (Nm × Nat)) : pairs β τ (eF F) = eF F := entG_rn keyStr (fun _ => rfl) _ _
def namesL (l : List Rp) : List (List Nm) := l.map namesR
theorem namesL_get {l : List Rp} {i : Nat} (h : i < l.length) : (namesL l).getD i [] = namesR l[i] := by simp [namesL, List.getD, h]
theorem namesL_len (l : List Rp) : (namesL l).length = l.length := by simp [namesL]
def Small (l : List Rp) : Prop := ∀ r ∈ l, ∀ e ∈ r.opts, e.sh = true
theorem namesR_len {r : Rp} : (namesR r).length ≤ 8 := by
  cases h : repOk r with
  | false => unfold namesR; rw [h]; simp
  | true => rw [namesR_at h]; exact atN_len (ok_len h).1 _
def midF (R : List (List Nm)) (i : Nat) (N : List Nm) : List Nat × List (Nm × Nat) := N.foldl (nameF i) ((lnkF R i).1 ++ [i], (lnkF R i).2)
def midL (R : List (List Nm)) (i : Nat) (N : List Nm) : List Nat × List (Nm × Nat) := N.foldl (nameStep i) ((lnk R i).1 ++ [i], (lnk R i).2)
theorem mid_fi (R : List (List Nm)) (i : Nat) (N : List Nm) (h : ∀ s ∈ N, s ∈ R.getD i []) : FI R i N (midF R i N) (midL R i N) (i + 1) := by
  have h1 := fi_lnk R i
  have hlen := h1.inv.len
  have h0 : Inv R i [] ((lnk R i).1 ++ [i], (lnk R i).2) (i + 1) := inv_push h1.inv
  have := fi_names N [] ((lnkF R i).1 ++ [i], (lnkF R i).2) ((lnk R i).1 ++ [i], (lnk R i).2) ⟨h0, by have := fo_push h1.fo h1.inv.lo; rw [hlen] at this; exact this, h1.snd⟩ h
  rw [List.nil_append] at this
  exact this
theorem midF_all (R : List (List Nm)) (i : Nat) : midF R i (R.getD i []) = lnkF R (i + 1) := rfl
theorem midF_snoc (R : List (List Nm)) (i : Nat) (N : List Nm) (s : Nm) : midF R i (N ++ [s]) = nameF i (midF R i N) s := by unfold midF; rw [List.foldl_append]; rfl
theorem ints_app (F G : List Nat) : ints (F ++ G) = ints F ++ ints G := by simp [ints]
set_option maxHeartbeats 2000000 in
theorem linked_e (l : List Rp) (hl : l.length ≤ 1000) (hs : Small l) :
    Eff M 26 [rpsD l] ⟨[], []⟩ fun d hp => d = .tup [.gs 0 l.length, .mp 0] ∧ hp = ⟨[.map (eF (lnkF (namesL l) l.length).2) (lnkF (namesL l) l.length).2.length], [.chg 1 (ints (lnkF (namesL l) l.length).1)]⟩ := by
  have hlen : (l.map rpD).length = l.length := by simp
  generalize hR : namesL l = R at *
  refine oe26 0 0 rfl rfl rfl ?_
  rw [ie26]
  unfold c26
  repeat' (first
    | with_reducible first | apply swp_seq | apply swp_reg | apply swp_regD | apply swp_block | apply swp_exit | apply swp_ret | apply swp_skip | apply swp_cd
    | simp only [go_sem, seval, pe26, q26, hlen, o_newM]
    | simp (disch := omega) only [w64, w32, wu8, wu16, wu32, wu64]
    | ((with_reducible apply s_appT); (case he => rfl); (case hK | hc | hr | hV => first | rfl | assumption | omega | ((first | refine ⟨?_, ?_⟩ | skip) <;> first | omega | (simp only [lN, hlen] <;> omega)) | (simp [elemsK, D.isVal, D.cells, D.closedL, D.closed, hlen]; first | done | omega)))
    | ((with_reducible apply s_appG); (case he => rfl); (case hV | hK | hr | hl => first | rfl | assumption | omega | ((first | refine ⟨?_, ?_⟩ | skip) <;> first | omega | (simp only [lN, hlen] <;> omega)) | (simp [elemsK, D.isVal, D.cells, D.closedL, D.closed, hlen]; first | done | omega)))
    | ((with_reducible apply s_app0); (case he => rfl); (case hK | hc | hr => first | rfl | assumption | omega | ((first | refine ⟨?_, ?_⟩ | skip) <;> first | omega | (simp only [lN, hlen] <;> omega)) | (simp [elemsK, D.isVal, D.cells, D.closedL, D.closed, hlen]; first | done | omega)))
    | ((with_reducible apply s_appF); (case he => rfl); (case hK | hc | hr | hx | hn => first | rfl | assumption | omega | ((first | refine ⟨?_, ?_⟩ | skip) <;> first | omega | (simp only [lN, hlen] <;> omega)) | (simp [elemsK, D.isVal, D.cells, D.closedL, D.closed, hlen]; first | done | omega)))
    | ((with_reducible apply s_bsl); (case he | hl | hc => first | rfl | assumption | omega | ((first | refine ⟨?_, ?_⟩ | skip) <;> first | omega | (simp only [lN, hlen] <;> omega)) | (simp [elemsK, D.isVal, D.cells, D.closedL, D.closed, hlen]; first | done | omega)))
    | ((with_reducible apply s_mpu); (case h1 | hk => rfl); (case ha | hp => first | rfl | assumption | omega | ((first | refine ⟨?_, ?_⟩ | skip) <;> first | omega | (simp only [lN, hlen] <;> omega)) | (simp [elemsK, D.isVal, D.cells, D.closedL, D.closed, hlen]; first | done | omega)))
    | ((with_reducible apply s_lkpS); (case h1 | hk => rfl); (case ha | hf => first | rfl | assumption | omega | ((first | refine ⟨?_, ?_⟩ | skip) <;> first | omega | (simp only [lN, hlen] <;> omega)) | (simp [elemsK, D.isVal, D.cells, D.closedL, D.closed, hlen]; first | done | omega)))
    | ((with_reducible apply s_lkpN); (case h1 | hk => rfl); (case hf | ha => first | rfl | assumption | omega | ((first | refine ⟨?_, ?_⟩ | skip) <;> first | omega | (simp only [lN, hlen] <;> omega)) | (simp [elemsK, D.isVal, D.cells, D.closedL, D.closed, hlen]; first | done | omega)))
    | with_reducible first | apply cd_dec | apply cd_eq | apply cd_ne | apply cd_split
    | ((with_reducible refine And.intro ?hw ?_); (case hw => first | omega | rfl | exact ⟨_, _, rfl⟩ | assumption | (simp only [lN, hlen] <;> omega)))
    | with_reducible intro _)
  refine swp_weak (weak_trans (weak_keep [0, 3, 4, 9, 10]) (weak_new 3 1 (by omega) true rfl)) ?_
  simp only [keepE]
  refine swp_fam [0, 3, 4, 9, 10] (fun i : Nat => ⟨[rpsD l, .undef, .undef, .gs 0 i, .mp 0, .undef, .undef, .undef, .undef, .int .i64 l.length, .int .i64 i, .undef, .undef, .undef, .undef, .undef, .undef], [], ⟨[.map (eF (lnkF R i).2) (lnkF R i).2.length], [.chg 1 (ints (lnkF R i).1)]⟩⟩)
    (fun i => i ≤ l.length) (fun i => l.length - i) 0 (by omega) ?_ ?_
  · simp [keepE, St.keep, lnkF, eF, entG, ints]
  · intro i hi
    have hfl : (lnkF R i).1.length = i := by have h1 := fi_lnk R i; rw [h1.fo.len, h1.inv.len]
    have hil0 := ints_len (lnkF R i).1
    rw [hfl] at hil0
    by_cases hil : i < l.length
    · have t2 : decide (((i : Nat) : Int) < l.length) = true := by simp; omega
      have hg := rp_get hil
      have c1 := names_p l[i] (hs _ (List.getElem_mem _))
      rw [show rpD l[i] = .agg [.slice (l[i].opts.map evD) .no, .bool l[i].doubt] from rfl] at c1
      have hN := namesL_get hil
      rw [hR] at hN
      have hn8 := namesR_len (r := l[i])
      have hstep := midF_all R i
      rw [hN] at hstep
      have hmid0 : midF R i [] = ((lnkF R i).1 ++ [i], (lnkF R i).2) := rfl
      have hfi := fun j => mid_fi R i ((namesR l[i]).take j) (fun s h => by rw [hN]; exact List.mem_of_mem_take h)
      generalize hNN : namesR l[i] = N at *
      have hnl := strs_len N
      have happ : ints (lnkF R i).1 ++ [.int .i64 (i : Nat)] = ints ((lnkF R i).1 ++ [i]) := by rw [ints_app]; rfl
      repeat' (first
    | with_reducible first | apply swp_seq | apply swp_reg | apply swp_regD | apply swp_block | apply swp_exit | apply swp_ret | apply swp_skip | apply swp_cd
    | simp only [go_sem, seval, pe26, q26, hlen, t2, hg, o_newM]
    | simp (disch := omega) only [w64, w32, wu8, wu16, wu32, wu64]
    | ((with_reducible refine o_call (c1) ?he ?hc ?_); (case he | hc => first | rfl | (simp [D.erL, D.er, D.closedL, D.closed, hlen, hg, hil0]; done)))
    | ((with_reducible apply s_appT); (case he => rfl); (case hK | hc | hr | hV => first | rfl | assumption | omega | ((first | refine ⟨?_, ?_⟩ | skip) <;> first | omega | (simp only [lN, hlen, hg, hil0] <;> omega)) | (simp [elemsK, D.isVal, D.cells, D.closedL, D.closed, hlen, hg, hil0]; first | done | omega)))
    | ((with_reducible apply s_appG); (case he => rfl); (case hV | hK | hr | hl => first | rfl | assumption | omega | ((first | refine ⟨?_, ?_⟩ | skip) <;> first | omega | (simp only [lN, hlen, hg, hil0] <;> omega)) | (simp [elemsK, D.isVal, D.cells, D.closedL, D.closed, hlen, hg, hil0]; first | done | omega)))
    | ((with_reducible apply s_app0G); (case he => rfl); (case hK | hr => first | rfl | assumption | omega | ((first | refine ⟨?_, ?_⟩ | skip) <;> first | omega | (simp only [lN, hlen, hg, hil0] <;> omega)) | (simp [elemsK, D.isVal, D.cells, D.closedL, D.closed, hlen, hg, hil0]; first | done | omega)))
    | ((with_reducible apply s_bsl); (case he | hl | hc => first | rfl | assumption | omega | ((first | refine ⟨?_, ?_⟩ | skip) <;> first | omega | (simp only [lN, hlen, hg, hil0] <;> omega)) | (simp [elemsK, D.isVal, D.cells, D.closedL, D.closed, hlen, hg, hil0]; first | done | omega)))
    | ((with_reducible apply s_mpu); (case h1 | hk => rfl); (case ha | hp => first | rfl | assumption | omega | ((first | refine ⟨?_, ?_⟩ | skip) <;> first | omega | (simp only [lN, hlen, hg, hil0] <;> omega)) | (simp [elemsK, D.isVal, D.cells, D.closedL, D.closed, hlen, hg, hil0]; first | done | omega)))
    | ((with_reducible apply s_lkpS); (case h1 | hk => rfl); (case ha | hf => first | rfl | assumption | omega | ((first | refine ⟨?_, ?_⟩ | skip) <;> first | omega | (simp only [lN, hlen, hg, hil0] <;> omega)) | (simp [elemsK, D.isVal, D.cells, D.closedL, D.closed, hlen, hg, hil0]; first | done | omega)))
    | ((with_reducible apply s_lkpN); (case h1 | hk => rfl); (case hf | ha => first | rfl | assumption | omega | ((first | refine ⟨?_, ?_⟩ | skip) <;> first | omega | (simp only [lN, hlen, hg, hil0] <;> omega)) | (simp [elemsK, D.isVal, D.cells, D.closedL, D.closed, hlen, hg, hil0]; first | done | omega)))
    | with_reducible first | apply cd_dec | apply cd_eq | apply cd_ne | apply cd_split
    | ((with_reducible refine And.intro ?hw ?_); (case hw => first | omega | rfl | exact ⟨_, _, rfl⟩ | assumption | (simp only [lN, hlen, hg, hil0] <;> omega)))
    | with_reducible intro _)
      all_goals first | omega | skip
      refine swp_fam [0, 3, 4, 5, 9, 10, 12, 13, 14] (fun j : Nat => ⟨[rpsD l, .undef, .undef, .gs 0 (i + 1), .mp 0, .int .i64 i, .undef, .undef, .undef, .int .i64 l.length, .int .i64 i, .undef, .slice (strs N) .no, .int .i64 N.length, .int .i64 j, .undef, .undef], [], ⟨[.map (eF (midF R i (N.take j)).2) (midF R i (N.take j)).2.length], [.chg 1 (ints (midF R i (N.take j)).1)]⟩⟩)
        (fun j => j ≤ N.length) (fun j => N.length - j) 0 (by omega) ?_ ?_
      · simp [keepE, St.keep, hmid0, flatD, D.cells, happ, hnl]
      · intro j hj
        have hF := hfi j
        have hfl2 : (midF R i (N.take j)).1.length = i + 1 := by rw [hF.fo.len, hF.inv.len]
        by_cases hjl : j < N.length
        · have t3 : decide (((j : Nat) : Int) < N.length) = true := by simp; omega
          have hgj := strs_get hjl
          have hsn : midF R i (N.take (j + 1)) = nameF i (midF R i (N.take j)) N[j] := by rw [List.take_succ_eq_append_getElem hjl, midF_snoc]
          have hfirst := hF.inv.first N[j]
          have hsnd := hF.snd
          rw [← hsnd] at hfirst
          have hnF : nameF i (midF R i (N.take j)) N[j] = match look (midF R i (N.take j)).2 N[j] with
            | some k => (joinF (midF R i (N.take j)).1 k i, (midF R i (N.take j)).2)
            | none => ((midF R i (N.take j)).1, (midF R i (N.take j)).2 ++ [(N[j], i)]) := rfl
          rw [hnF] at hsn
          have hok := eF_ok (midF R i (N.take j)).2
          cases hlk : look (midF R i (N.take j)).2 N[j] with
          | some k =>
            rw [hlk] at hsn
            simp only at hsn
            obtain ⟨q, hf⟩ := eF_some hlk
            have hk := (hfirst k hlk).1
            have hlen2 := hF.inv.len
            have c2 := join_e hF.inv.lo hF.fo (by omega) (i := k) (k := i) (by omega) (by omega)
            rw [hfl2] at c2
            generalize midF R i (N.take j) = st at *
            have hrn := fun β τ => ints_rn β τ
            repeat' (first
    | with_reducible first | apply swp_seq | apply swp_reg | apply swp_regD | apply swp_block | apply swp_exit | apply swp_ret | apply swp_skip | apply swp_cd
    | simp only [go_sem, seval, pe26, q26, hnl, t3, hgj, hrn, o_newM]
    | simp (disch := omega) only [w64, w32, wu8, wu16, wu32, wu64]
    | ((with_reducible refine o_eff [] [0] (c2) ?hs ?he ?hh ?_); (case hs => exact ⟨by simp, by simp, by simp, by simp⟩); (case he => first | rfl | (simp [go_sem, seval, hnl, hgj, hrn]; done)); (case hh => first | rfl | (simp [go_sem, seval, hnl, hgj, hrn]; done)); rintro _ _ ⟨rfl, rfl⟩)
    | ((with_reducible apply s_appT); (case he => rfl); (case hK | hc | hr | hV => first | rfl | assumption | omega | ((first | refine ⟨?_, ?_⟩ | skip) <;> first | omega | (simp only [lN, hnl, hgj, hrn] <;> omega)) | (simp [elemsK, D.isVal, D.cells, D.closedL, D.closed, hnl, hgj, hrn]; first | done | omega)))
    | ((with_reducible apply s_appG); (case he => rfl); (case hV | hK | hr | hl => first | rfl | assumption | omega | ((first | refine ⟨?_, ?_⟩ | skip) <;> first | omega | (simp only [lN, hnl, hgj, hrn] <;> omega)) | (simp [elemsK, D.isVal, D.cells, D.closedL, D.closed, hnl, hgj, hrn]; first | done | omega)))
    | ((with_reducible apply s_app0); (case he => rfl); (case hK | hc | hr => first | rfl | assumption | omega | ((first | refine ⟨?_, ?_⟩ | skip) <;> first | omega | (simp only [lN, hnl, hgj, hrn] <;> omega)) | (simp [elemsK, D.isVal, D.cells, D.closedL, D.closed, hnl, hgj, hrn]; first | done | omega)))
    | ((with_reducible apply s_appF); (case he => rfl); (case hK | hc | hr | hx | hn => first | rfl | assumption | omega | ((first | refine ⟨?_, ?_⟩ | skip) <;> first | omega | (simp only [lN, hnl, hgj, hrn] <;> omega)) | (simp [elemsK, D.isVal, D.cells, D.closedL, D.closed, hnl, hgj, hrn]; first | done | omega)))
    | ((with_reducible apply s_bsl); (case he | hl | hc => first | rfl | assumption | omega | ((first | refine ⟨?_, ?_⟩ | skip) <;> first | omega | (simp only [lN, hnl, hgj, hrn] <;> omega)) | (simp [elemsK, D.isVal, D.cells, D.closedL, D.closed, hnl, hgj, hrn]; first | done | omega)))
    | ((with_reducible apply s_mpu); (case h1 | hk => rfl); (case ha | hp => first | rfl | assumption | omega | ((first | refine ⟨?_, ?_⟩ | skip) <;> first | omega | (simp only [lN, hnl, hgj, hrn] <;> omega)) | (simp [elemsK, D.isVal, D.cells, D.closedL, D.closed, hnl, hgj, hrn]; first | done | omega)))
    | ((with_reducible apply s_lkpS); (case h1 | hk => rfl); (case ha | hf => first | rfl | assumption | omega | ((first | refine ⟨?_, ?_⟩ | skip) <;> first | omega | (simp only [lN, hnl, hgj, hrn] <;> omega)) | (simp [elemsK, D.isVal, D.cells, D.closedL, D.closed, hnl, hgj, hrn]; first | done | omega)))
    | ((with_reducible apply s_lkpN); (case h1 | hk => rfl); (case hf | ha => first | rfl | assumption | omega | ((first | refine ⟨?_, ?_⟩ | skip) <;> first | omega | (simp only [lN, hnl, hgj, hrn] <;> omega)) | (simp [elemsK, D.isVal, D.cells, D.closedL, D.closed, hnl, hgj, hrn]; first | done | omega)))
    | with_reducible first | apply cd_dec | apply cd_eq | apply cd_ne | apply cd_split
    | ((with_reducible refine And.intro ?hw ?_); (case hw => first | omega | rfl | exact ⟨_, _, rfl⟩ | assumption | (simp only [lN, hnl, hgj, hrn] <;> omega)))
    | with_reducible intro _)
            all_goals first | omega | skip
            refine ⟨j + 1, by omega, by omega, ?_⟩
            rw [hsn]
            simp [keepE, St.keep]
          | none =>
            rw [hlk] at hsn
            simp only at hsn
            have hf := eF_none hlk
            have hp := eF_put (i := i) hlk
            generalize midF R i (N.take j) = st at *
            repeat' (first
    | with_reducible first | apply swp_seq | apply swp_reg | apply swp_regD | apply swp_block | apply swp_exit | apply swp_ret | apply swp_skip | apply swp_cd
    | simp only [go_sem, seval, pe26, q26, hnl, t3, hgj, o_newM]
    | simp (disch := omega) only [w64, w32, wu8, wu16, wu32, wu64]
    | ((with_reducible apply s_appT); (case he => rfl); (case hK | hc | hr | hV => first | rfl | assumption | omega | ((first | refine ⟨?_, ?_⟩ | skip) <;> first | omega | (simp only [lN, hnl, hgj] <;> omega)) | (simp [elemsK, D.isVal, D.cells, D.closedL, D.closed, hnl, hgj]; first | done | omega)))
    | ((with_reducible apply s_appG); (case he => rfl); (case hV | hK | hr | hl => first | rfl | assumption | omega | ((first | refine ⟨?_, ?_⟩ | skip) <;> first | omega | (simp only [lN, hnl, hgj] <;> omega)) | (simp [elemsK, D.isVal, D.cells, D.closedL, D.closed, hnl, hgj]; first | done | omega)))
    | ((with_reducible apply s_app0); (case he => rfl); (case hK | hc | hr => first | rfl | assumption | omega | ((first | refine ⟨?_, ?_⟩ | skip) <;> first | omega | (simp only [lN, hnl, hgj] <;> omega)) | (simp [elemsK, D.isVal, D.cells, D.closedL, D.closed, hnl, hgj]; first | done | omega)))
    | ((with_reducible apply s_appF); (case he => rfl); (case hK | hc | hr | hx | hn => first | rfl | assumption | omega | ((first | refine ⟨?_, ?_⟩ | skip) <;> first | omega | (simp only [lN, hnl, hgj] <;> omega)) | (simp [elemsK, D.isVal, D.cells, D.closedL, D.closed, hnl, hgj]; first | done | omega)))
    | ((with_reducible apply s_bsl); (case he | hl | hc => first | rfl | assumption | omega | ((first | refine ⟨?_, ?_⟩ | skip) <;> first | omega | (simp only [lN, hnl, hgj] <;> omega)) | (simp [elemsK, D.isVal, D.cells, D.closedL, D.closed, hnl, hgj]; first | done | omega)))
    | ((with_reducible apply s_mpu); (case h1 | hk => rfl); (case ha | hp => first | rfl | assumption | omega | ((first | refine ⟨?_, ?_⟩ | skip) <;> first | omega | (simp only [lN, hnl, hgj] <;> omega)) | (simp [elemsK, D.isVal, D.cells, D.closedL, D.closed, hnl, hgj]; first | done | omega)))
    | ((with_reducible apply s_lkpS); (case h1 | hk => rfl); (case ha | hf => first | rfl | assumption | omega | ((first | refine ⟨?_, ?_⟩ | skip) <;> first | omega | (simp only [lN, hnl, hgj] <;> omega)) | (simp [elemsK, D.isVal, D.cells, D.closedL, D.closed, hnl, hgj]; first | done | omega)))
    | ((with_reducible apply s_lkpN); (case h1 | hk => rfl); (case hf | ha => first | rfl | assumption | omega | ((first | refine ⟨?_, ?_⟩ | skip) <;> first | omega | (simp only [lN, hnl, hgj] <;> omega)) | (simp [elemsK, D.isVal, D.cells, D.closedL, D.closed, hnl, hgj]; first | done | omega)))
    | with_reducible first | apply cd_dec | apply cd_eq | apply cd_ne | apply cd_split
    | ((with_reducible refine And.intro ?hw ?_); (case hw => first | omega | rfl | exact ⟨_, _, rfl⟩ | assumption | (simp only [lN, hnl, hgj] <;> omega)))
    | with_reducible intro _)
            all_goals first | omega | skip
            refine ⟨j + 1, by omega, by omega, ?_⟩
            rw [hsn]
            simp [keepE, St.keep, hp]
        · have t3 : decide (((j : Nat) : Int) < N.length) = false := by simp; omega
          have e5 : N.take j = N := List.take_of_length_le (by omega)
          rw [e5, hstep]
          repeat' (first
    | with_reducible first | apply swp_seq | apply swp_reg | apply swp_regD | apply swp_block | apply swp_exit | apply swp_ret | apply swp_skip | apply swp_cd
    | simp only [go_sem, seval, pe26, q26, hnl, t3, o_newM]
    | simp (disch := omega) only [w64, w32, wu8, wu16, wu32, wu64]
    | ((with_reducible apply s_appT); (case he => rfl); (case hK | hc | hr | hV => first | rfl | assumption | omega | ((first | refine ⟨?_, ?_⟩ | skip) <;> first | omega | (simp only [lN, hnl] <;> omega)) | (simp [elemsK, D.isVal, D.cells, D.closedL, D.closed, hnl]; first | done | omega)))
    | ((with_reducible apply s_appG); (case he => rfl); (case hV | hK | hr | hl => first | rfl | assumption | omega | ((first | refine ⟨?_, ?_⟩ | skip) <;> first | omega | (simp only [lN, hnl] <;> omega)) | (simp [elemsK, D.isVal, D.cells, D.closedL, D.closed, hnl]; first | done | omega)))
    | ((with_reducible apply s_app0); (case he => rfl); (case hK | hc | hr => first | rfl | assumption | omega | ((first | refine ⟨?_, ?_⟩ | skip) <;> first | omega | (simp only [lN, hnl] <;> omega)) | (simp [elemsK, D.isVal, D.cells, D.closedL, D.closed, hnl]; first | done | omega)))
    | ((with_reducible apply s_appF); (case he => rfl); (case hK | hc | hr | hx | hn => first | rfl | assumption | omega | ((first | refine ⟨?_, ?_⟩ | skip) <;> first | omega | (simp only [lN, hnl] <;> omega)) | (simp [elemsK, D.isVal, D.cells, D.closedL, D.closed, hnl]; first | done | omega)))
    | ((with_reducible apply s_bsl); (case he | hl | hc => first | rfl | assumption | omega | ((first | refine ⟨?_, ?_⟩ | skip) <;> first | omega | (simp only [lN, hnl] <;> omega)) | (simp [elemsK, D.isVal, D.cells, D.closedL, D.closed, hnl]; first | done | omega)))
    | ((with_reducible apply s_mpu); (case h1 | hk => rfl); (case ha | hp => first | rfl | assumption | omega | ((first | refine ⟨?_, ?_⟩ | skip) <;> first | omega | (simp only [lN, hnl] <;> omega)) | (simp [elemsK, D.isVal, D.cells, D.closedL, D.closed, hnl]; first | done | omega)))
    | ((with_reducible apply s_lkpS); (case h1 | hk => rfl); (case ha | hf => first | rfl | assumption | omega | ((first | refine ⟨?_, ?_⟩ | skip) <;> first | omega | (simp only [lN, hnl] <;> omega)) | (simp [elemsK, D.isVal, D.cells, D.closedL, D.closed, hnl]; first | done | omega)))
    | ((with_reducible apply s_lkpN); (case h1 | hk => rfl); (case hf | ha => first | rfl | assumption | omega | ((first | refine ⟨?_, ?_⟩ | skip) <;> first | omega | (simp only [lN, hnl] <;> omega)) | (simp [elemsK, D.isVal, D.cells, D.closedL, D.closed, hnl]; first | done | omega)))
    | with_reducible first | apply cd_dec | apply cd_eq | apply cd_ne | apply cd_split
    | ((with_reducible refine And.intro ?hw ?_); (case hw => first | omega | rfl | exact ⟨_, _, rfl⟩ | assumption | (simp only [lN, hnl] <;> omega)))
    | with_reducible intro _)
          all_goals first | omega | skip
          refine ⟨i + 1, by omega, by omega, ?_⟩
          simp [keepE, St.keep]
    · have t2 : decide (((i : Nat) : Int) < l.length) = false := by simp; omega
      have : i = l.length := by omega
      subst this
      repeat' (first
    | with_reducible first | apply swp_seq | apply swp_reg | apply swp_regD | apply swp_block | apply swp_exit | apply swp_ret | apply swp_skip | apply swp_cd
    | simp only [go_sem, seval, pe26, q26, hlen, t2, o_newM]
    | simp (disch := omega) only [w64, w32, wu8, wu16, wu32, wu64]
    | ((with_reducible apply s_appT); (case he => rfl); (case hK | hc | hr | hV => first | rfl | assumption | omega | ((first | refine ⟨?_, ?_⟩ | skip) <;> first | omega | (simp only [lN, hlen] <;> omega)) | (simp [elemsK, D.isVal, D.cells, D.closedL, D.closed, hlen]; first | done | omega)))
    | ((with_reducible apply s_appG); (case he => rfl); (case hV | hK | hr | hl => first | rfl | assumption | omega | ((first | refine ⟨?_, ?_⟩ | skip) <;> first | omega | (simp only [lN, hlen] <;> omega)) | (simp [elemsK, D.isVal, D.cells, D.closedL, D.closed, hlen]; first | done | omega)))
    | ((with_reducible apply s_app0); (case he => rfl); (case hK | hc | hr => first | rfl | assumption | omega | ((first | refine ⟨?_, ?_⟩ | skip) <;> first | omega | (simp only [lN, hlen] <;> omega)) | (simp [elemsK, D.isVal, D.cells, D.closedL, D.closed, hlen]; first | done | omega)))
    | ((with_reducible apply s_appF); (case he => rfl); (case hK | hc | hr | hx | hn => first | rfl | assumption | omega | ((first | refine ⟨?_, ?_⟩ | skip) <;> first | omega | (simp only [lN, hlen] <;> omega)) | (simp [elemsK, D.isVal, D.cells, D.closedL, D.closed, hlen]; first | done | omega)))
    | ((with_reducible apply s_bsl); (case he | hl | hc => first | rfl | assumption | omega | ((first | refine ⟨?_, ?_⟩ | skip) <;> first | omega | (simp only [lN, hlen] <;> omega)) | (simp [elemsK, D.isVal, D.cells, D.closedL, D.closed, hlen]; first | done | omega)))
    | ((with_reducible apply s_mpu); (case h1 | hk => rfl); (case ha | hp => first | rfl | assumption | omega | ((first | refine ⟨?_, ?_⟩ | skip) <;> first | omega | (simp only [lN, hlen] <;> omega)) | (simp [elemsK, D.isVal, D.cells, D.closedL, D.closed, hlen]; first | done | omega)))
    | ((with_reducible apply s_lkpS); (case h1 | hk => rfl); (case ha | hf => first | rfl | assumption | omega | ((first | refine ⟨?_, ?_⟩ | skip) <;> first | omega | (simp only [lN, hlen] <;> omega)) | (simp [elemsK, D.isVal, D.cells, D.closedL, D.closed, hlen]; first | done | omega)))
    | ((with_reducible apply s_lkpN); (case h1 | hk => rfl); (case hf | ha => first | rfl | assumption | omega | ((first | refine ⟨?_, ?_⟩ | skip) <;> first | omega | (simp only [lN, hlen] <;> omega)) | (simp [elemsK, D.isVal, D.cells, D.closedL, D.closed, hlen]; first | done | omega)))
    | with_reducible first | apply cd_dec | apply cd_eq | apply cd_ne | apply cd_split
    | ((with_reducible refine And.intro ?hw ?_); (case hw => first | omega | rfl | exact ⟨_, _, rfl⟩ | assumption | (simp only [lN, hlen] <;> omega)))
    | with_reducible intro _)
      all_goals first | omega | skip
      exact ⟨_, weak_refl, rfl, rfl⟩
end Go.Proofs.Ytofnggfpegcllaa
end
section
set_option maxRecDepth 100000
set_option linter.unusedSimpArgs false
set_option linter.unusedVariables false
namespace Go.Proofs.Ytofnggfpegcllaa
open Go GoV Go.RowKit
theorem add_reg {n0 m0 : Nat} (hp0 hp1 : Hp) (x b5 b6 : D) (ys : List D) (o : GoV.Own) (cs : List D) (m k i r : Nat) (Q : Ex → St → Prop) (hH : hp1.H = hp0.H) (h2 : hp0.H[2]? = some (.cells [.gs 1 m])) (t0 : hp0.tk[1]? = some (.chg 1 cs)) (t1 : hp1.tk[1]? = some (.chg 1 cs))
    (hm : cs.length = m) (hk : k < m) (hx : cs.getD k .undef = x) (happ : opWp (.app 1 8 3) [x, .slice [.int .i64 (i : Nat)] .full] hp0 fun d hp => d = .slice ys o ∧ hp = hp1)
    (hQ : Q .normal ⟨[.int .i64 (i : Nat), .int .i64 (r : Nat), .ptr 1 0, .ptr 2 0, .int .i64 (k : Nat), b5, b6], [], ⟨hp1.H, hp1.tk.set 1 (.chg 1 (cs.set k (.slice ys o)))⟩⟩) :
    SWp (E28 n0 m0) (.regD r28_5 r28_6) Q ⟨[.int .i64 (i : Nat), .int .i64 (r : Nat), .ptr 1 0, .ptr 2 0, .int .i64 (k : Nat), b5, b6], [], hp0⟩ := by
  have still : ∀ k, k ≠ 8 → Still (fun E : Nat → Bool => if E 8 then hp1 else hp0) k := fun k h8 E _ => by
    have q8 : (8 == k) = false := beq_false_of_ne (Ne.symm h8)
    simp only [q8, Bool.or_false]
  have ld : ∀ E : Nat → Bool, OcWp M (.ld false 1) [.ptr 2 0] ((fun E : Nat → Bool => if E 8 then hp1 else hp0) E) (fun d' hp' => d' = .gs 1 m ∧ hp' = (fun E : Nat → Bool => if E 8 then hp1 else hp0) E) := fun E => by
    simp only [OcWp, isCall, Bool.false_eq_true, if_false, opWp]
    refine ⟨.cells [.gs 1 m], [.gs 1 m], ?_, rfl, by simp, rfl, trivial⟩
    split
    · rw [hH]; exact h2
    · exact h2
  refine swp_regDG (fun E => if E 8 then hp1 else hp0) [] (by decide) rfl ?_
  rw [pe28]
  refine v_q (ds := [.ptr 2 0]) (.gs 1 m) rfl (still _ (by decide)) (fun E _ => ld E) ?_
  refine v_q (ds := [.int .i64 (k : Nat)]) (.int .i64 (k : Nat)) rfl (still _ (by decide)) (fun E _ => by simp [OcWp, isCall, opWp]) ?_
  refine v_q (ds := [.ptr 2 0]) (.gs 1 m) rfl (still _ (by decide)) (fun E _ => ld E) ?_
  refine v_q (ds := [.int .i64 (k : Nat)]) (.int .i64 (k : Nat)) rfl (still _ (by decide)) (fun E _ => by simp [OcWp, isCall, opWp]) ?_
  refine v_q (ds := [.gs 1 m, .int .i64 (k : Nat)]) (.gp 1 m k) rfl (still _ (by decide)) (fun E _ => ?_) ?_
  · simp only [OcWp, isCall, Bool.false_eq_true, if_false, opWp]
    exact ⟨by omega, by omega, by simp, trivial⟩
  refine v_q (ds := [.gp 1 m k]) x rfl (still _ (by decide)) (fun E _ => ?_) ?_
  · simp only [OcWp, isCall, Bool.false_eq_true, if_false, opWp]
    refine ⟨1, cs, ?_, by omega, by omega, hx, trivial⟩
    split
    · exact t1
    · exact t0
  refine v_q (ds := [.int .i64 (i : Nat)]) (.int .i64 (i : Nat)) rfl (still _ (by decide)) (fun E _ => by simp [OcWp, isCall, opWp]) ?_
  refine v_q (ds := [.int .i64 (i : Nat)]) (.slice [.int .i64 (i : Nat)] .full) rfl (still _ (by decide)) (fun E _ => by simp [OcWp, isCall, opWp, elemsK, D.closedL, D.erL, D.closed, D.er, D.isVal, D.cells]) ?_
  refine v_c (ds := [x, .slice [.int .i64 (i : Nat)] .full]) (d := .slice ys o) rfl (fun E hE hG hR => ?_) ?_
  · simp only [hE, Bool.false_or, beq_self_eq_true, if_true, Bool.false_eq_true, if_false, OcWp, isCall]
    exact happ
  refine v_end (hp' := hp1) (by simp) ?_
  have hg := t1
  have hl1 : k + 1 ≤ cs.length := by omega
  obtain ⟨H1, T1⟩ := hp1
  simp only at hg hQ ⊢
  repeat' (first
    | with_reducible first | apply swp_seq | apply swp_reg | apply swp_regD | apply swp_block | apply swp_exit | apply swp_ret | apply swp_skip | apply swp_cd
    | simp only [go_sem, seval, pe28, q28, Nat.mul_one, hg, setL]
    | ((with_reducible apply s_appT); (case he => rfl); (case hK | hc | hr | hV => first | rfl | assumption | omega | ((first | refine ⟨?_, ?_⟩ | skip) <;> first | omega | (simp only [lN, hg] <;> omega)) | (simp [elemsK, D.isVal, D.cells, D.closedL, D.closed, hg]; first | done | omega)))
    | ((with_reducible apply s_appG); (case he => rfl); (case hV | hK | hr | hl => first | rfl | assumption | omega | ((first | refine ⟨?_, ?_⟩ | skip) <;> first | omega | (simp only [lN, hg] <;> omega)) | (simp [elemsK, D.isVal, D.cells, D.closedL, D.closed, hg]; first | done | omega)))
    | ((with_reducible first | apply s_app0 | apply t_app0); (case he => rfl); (case hK | hc | hr => first | rfl | assumption | omega | ((first | refine ⟨?_, ?_⟩ | skip) <;> first | omega | (simp only [lN, hg] <;> omega)) | (simp [elemsK, D.isVal, D.cells, D.closedL, D.closed, hg]; first | done | omega)))
    | ((with_reducible first | apply s_appF | apply t_appF); (case he => rfl); (case hK | hc | hr | hx | hn => first | rfl | assumption | omega | ((first | refine ⟨?_, ?_⟩ | skip) <;> first | omega | (simp only [lN, hg] <;> omega)) | (simp [elemsK, D.isVal, D.cells, D.closedL, D.closed, hg]; first | done | omega)))
    | ((with_reducible first | apply s_bsl | apply t_bsl); (case he | hl | hc => first | rfl | assumption | omega | ((first | refine ⟨?_, ?_⟩ | skip) <;> first | omega | (simp only [lN, hg] <;> omega)) | (simp [elemsK, D.isVal, D.cells, D.closedL, D.closed, hg]; first | done | omega)))
    | ((with_reducible apply s_mpu); (case h1 | hk => rfl); (case ha | hp => first | rfl | assumption | omega | ((first | refine ⟨?_, ?_⟩ | skip) <;> first | omega | (simp only [lN, hg] <;> omega)) | (simp [elemsK, D.isVal, D.cells, D.closedL, D.closed, hg]; first | done | omega)))
    | ((with_reducible apply s_lkpS); (case h1 | hk => rfl); (case ha | hf => first | rfl | assumption | omega | ((first | refine ⟨?_, ?_⟩ | skip) <;> first | omega | (simp only [lN, hg] <;> omega)) | (simp [elemsK, D.isVal, D.cells, D.closedL, D.closed, hg]; first | done | omega)))
    | ((with_reducible apply s_lkpN); (case h1 | hk => rfl); (case hf | ha => first | rfl | assumption | omega | ((first | refine ⟨?_, ?_⟩ | skip) <;> first | omega | (simp only [lN, hg] <;> omega)) | (simp [elemsK, D.isVal, D.cells, D.closedL, D.closed, hg]; first | done | omega)))
    | with_reducible first | apply cd_dec | apply cd_eq | apply cd_ne | apply cd_split
    | ((with_reducible refine And.intro ?hw ?_); (case hw => first | omega | rfl | exact ⟨_, _, rfl⟩ | assumption | (simp only [lN, hg] <;> omega)))
    | with_reducible intro _)
  all_goals first | omega | trivial | skip
  all_goals first | exact hQ | trace_state
set_option maxHeartbeats 1000000 in
theorem add_new {E E' : List (D × D × Nat)} {n r i : Nat} {outs : List D} {T : List Tv} {fd : Tv} (hok : (E.all fun e => keyOk (.int .i64) e.1) = true) (hf : findM (.int .i64 (r : Nat)) E 0 = none) (hp : putM E n (.int .i64 (r : Nat)) (.int .i64 (n : Nat)) = .map E' (n + 1))
    (ho : outs.length = n) (hT : T.length = n) (hn : n ≤ 1000) :
    Eff M 28 [.int .i64 (i : Nat), .int .i64 (r : Nat), .ptr 1 0, .ptr 2 0] ⟨[.map E n, .cells [.mp 0], .cells [.gs 1 n]], fd :: .chg 1 outs :: T⟩
      fun d hp => d = .tup [] ∧ hp = ⟨[.map E' (n + 1), .cells [.mp 0], .cells [.gs 1 (n + 1)]], fd :: .chg 1 (outs ++ [.slice [.int .i64 (i : Nat)] (.tok (n + 2))]) :: (T ++ [.per 1 1])⟩ := by
  refine oe28 3 (n + 2) rfl rfl (by simp [hT]) ?_
  rw [ie28]
  unfold c28
  generalize hrc : RC.regD r28_5 r28_6 = rc at *
  repeat' (first
    | with_reducible first | apply swp_seq | apply swp_reg | apply swp_regD | apply swp_block | apply swp_exit | apply swp_ret | apply swp_skip | apply swp_cd
    | simp only [go_sem, seval, pe28, q28, hp]
    | simp (disch := omega) only [w64, w32, wu8, wu16, wu32, wu64]
    | ((with_reducible apply s_appT); (case he => rfl); (case hK | hc | hr | hV => first | rfl | assumption | omega | ((first | refine ⟨?_, ?_⟩ | skip) <;> first | omega | (simp only [lN, ho] <;> omega)) | (simp [elemsK, D.isVal, D.cells, D.closedL, D.closed, ho]; first | done | omega)))
    | ((with_reducible apply s_appG); (case he => rfl); (case hV | hK | hr | hl => first | rfl | assumption | omega | ((first | refine ⟨?_, ?_⟩ | skip) <;> first | omega | (simp only [lN, ho] <;> omega)) | (simp [elemsK, D.isVal, D.cells, D.closedL, D.closed, ho]; first | done | omega)))
    | ((with_reducible apply s_app0G); (case he => rfl); (case hK | hr => first | rfl | assumption | omega | ((first | refine ⟨?_, ?_⟩ | skip) <;> first | omega | (simp only [lN, ho] <;> omega)) | (simp [elemsK, D.isVal, D.cells, D.closedL, D.closed, ho]; first | done | omega)))
    | ((with_reducible first | apply s_bsl | apply t_bsl); (case he | hl | hc => first | rfl | assumption | omega | ((first | refine ⟨?_, ?_⟩ | skip) <;> first | omega | (simp only [lN, ho] <;> omega)) | (simp [elemsK, D.isVal, D.cells, D.closedL, D.closed, ho]; first | done | omega)))
    | ((with_reducible apply s_mpu); (case h1 | hk => rfl); (case ha | hp => first | rfl | assumption | omega | ((first | refine ⟨?_, ?_⟩ | skip) <;> first | omega | (simp only [lN, ho] <;> omega)) | (simp [elemsK, D.isVal, D.cells, D.closedL, D.closed, ho]; first | done | omega)))
    | ((with_reducible apply s_lkpS); (case h1 | hk => rfl); (case ha | hf => first | rfl | assumption | omega | ((first | refine ⟨?_, ?_⟩ | skip) <;> first | omega | (simp only [lN, ho] <;> omega)) | (simp [elemsK, D.isVal, D.cells, D.closedL, D.closed, ho]; first | done | omega)))
    | ((with_reducible apply s_lkpN); (case h1 | hk => rfl); (case hf | ha => first | rfl | assumption | omega | ((first | refine ⟨?_, ?_⟩ | skip) <;> first | omega | (simp only [lN, ho] <;> omega)) | (simp [elemsK, D.isVal, D.cells, D.closedL, D.closed, ho]; first | done | omega)))
    | with_reducible first | apply cd_dec | apply cd_eq | apply cd_ne | apply cd_split
    | ((with_reducible refine And.intro ?hw ?_); (case hw => first | omega | rfl | exact ⟨_, _, rfl⟩ | assumption | (simp only [lN, ho] <;> omega)))
    | with_reducible intro _)
  all_goals first | omega | skip
  have hcat : flatD [D.lit (.slice none 0 0)] = [.lit (.slice none 0 0)] := rfl
  rw [← hrc]
  refine add_reg _ ⟨[.map E' (n + 1), .cells [.mp 0], .cells [.gs 1 (n + 1)]], fd :: .chg 1 (outs ++ [.lit (.slice none 0 0)]) :: (T ++ [.per 1 1])⟩ (.lit (.slice none 0 0)) _ _ [.int .i64 (i : Nat)] (.tok (n + 2)) (outs ++ [.lit (.slice none 0 0)]) (n + 1) n i r _ rfl rfl rfl rfl (by simp [ho]) (by omega) (by simp [List.getD, ho]) ?_ ?_
  · simp only [opWp]
    refine ⟨[.int .i64 (i : Nat)], rfl, rfl, ⟨by simp, by simp⟩, .inl ⟨rfl, .inr ⟨?_, ?_⟩⟩⟩
    · simp [D.erL, D.er, hT]
    · simp
  · refine ⟨trivial, _, weak_refl, ?_⟩
    have : (outs ++ [D.lit (.slice none 0 0)]).set n (.slice [.int .i64 (i : Nat)] (.tok (n + 2))) = outs ++ [.slice [.int .i64 (i : Nat)] (.tok (n + 2))] := by
      rw [List.set_append_right _ _ (by omega)]; simp [ho]
    simp [this]
set_option maxHeartbeats 1000000 in
theorem add_first {E E' : List (D × D × Nat)} {r i : Nat} {fd : Tv} (hok : (E.all fun e => keyOk (.int .i64) e.1) = true) (hf : findM (.int .i64 (r : Nat)) E 0 = none) (hp : putM E 0 (.int .i64 (r : Nat)) (.int .i64 0) = .map E' 1) :
    Eff M 28 [.int .i64 (i : Nat), .int .i64 (r : Nat), .ptr 1 0, .ptr 2 0] ⟨[.map E 0, .cells [.mp 0], .cells [.lit (.slice none 0 0)]], [fd]⟩
      fun d hp => d = .tup [] ∧ hp = ⟨[.map E' 1, .cells [.mp 0], .cells [.gs 1 1]], [fd, .chg 1 [.slice [.int .i64 (i : Nat)] (.tok 2)], .per 1 1]⟩ := by
  refine oe28 3 1 rfl rfl rfl ?_
  rw [ie28]
  unfold c28
  generalize hrc : RC.regD r28_5 r28_6 = rc at *
  repeat' (first
    | with_reducible first | apply swp_seq | apply swp_reg | apply swp_regD | apply swp_block | apply swp_exit | apply swp_ret | apply swp_skip | apply swp_cd
    | simp only [go_sem, seval, pe28, q28, hp, flatD, D.cells]
    | simp (disch := omega) only [w64, w32, wu8, wu16, wu32, wu64]
    | ((with_reducible apply s_appT); (case he => rfl); (case hK | hc | hr | hV => first | rfl | assumption | omega | ((first | refine ⟨?_, ?_⟩ | skip) <;> first | omega | (simp only [lN] <;> omega)) | (simp [elemsK, D.isVal, D.cells, D.closedL, D.closed]; first | done | omega)))
    | ((with_reducible apply s_appG); (case he => rfl); (case hV | hK | hr | hl => first | rfl | assumption | omega | ((first | refine ⟨?_, ?_⟩ | skip) <;> first | omega | (simp only [lN] <;> omega)) | (simp [elemsK, D.isVal, D.cells, D.closedL, D.closed]; first | done | omega)))
    | ((with_reducible apply s_app0G); (case he => rfl); (case hK | hr => first | rfl | assumption | omega | ((first | refine ⟨?_, ?_⟩ | skip) <;> first | omega | (simp only [lN] <;> omega)) | (simp [elemsK, D.isVal, D.cells, D.closedL, D.closed]; first | done | omega)))
    | ((with_reducible first | apply s_bsl | apply t_bsl); (case he | hl | hc => first | rfl | assumption | omega | ((first | refine ⟨?_, ?_⟩ | skip) <;> first | omega | (simp only [lN] <;> omega)) | (simp [elemsK, D.isVal, D.cells, D.closedL, D.closed]; first | done | omega)))
    | ((with_reducible apply s_mpu); (case h1 | hk => rfl); (case ha | hp => first | rfl | assumption | omega | ((first | refine ⟨?_, ?_⟩ | skip) <;> first | omega | (simp only [lN] <;> omega)) | (simp [elemsK, D.isVal, D.cells, D.closedL, D.closed]; first | done | omega)))
    | ((with_reducible apply s_lkpS); (case h1 | hk => rfl); (case ha | hf => first | rfl | assumption | omega | ((first | refine ⟨?_, ?_⟩ | skip) <;> first | omega | (simp only [lN] <;> omega)) | (simp [elemsK, D.isVal, D.cells, D.closedL, D.closed]; first | done | omega)))
    | ((with_reducible apply s_lkpN); (case h1 | hk => rfl); (case hf | ha => first | rfl | assumption | omega | ((first | refine ⟨?_, ?_⟩ | skip) <;> first | omega | (simp only [lN] <;> omega)) | (simp [elemsK, D.isVal, D.cells, D.closedL, D.closed]; first | done | omega)))
    | with_reducible first | apply cd_dec | apply cd_eq | apply cd_ne | apply cd_split
    | ((with_reducible refine And.intro ?hw ?_); (case hw => first | omega | rfl | exact ⟨_, _, rfl⟩ | assumption | (simp only [lN] <;> omega)))
    | with_reducible intro _)
  all_goals first | omega | skip
  rw [← hrc]
  refine add_reg (k := 0) _ ⟨[.map E' 1, .cells [.mp 0], .cells [.gs 1 1]], [fd, .chg 1 [.lit (.slice none 0 0)], .per 1 1]⟩ (.lit (.slice none 0 0)) _ _ [.int .i64 (i : Nat)] (.tok 2) [.lit (.slice none 0 0)] 1 i r _ rfl rfl rfl rfl rfl (by omega) rfl ?_ ?_
  · simp only [opWp]
    refine ⟨[.int .i64 (i : Nat)], rfl, rfl, ⟨by simp, by simp⟩, .inl ⟨rfl, .inr ⟨?_, ?_⟩⟩⟩
    · simp [D.erL, D.er]
    · simp
  · refine ⟨trivial, _, weak_refl, ?_⟩
    simp
set_option maxHeartbeats 1000000 in
theorem add_old {E : List (D × D × Nat)} {n r i c j : Nat} {outs xs : List D} {T : List Tv} {fd : Tv} (hok : (E.all fun e => keyOk (.int .i64) e.1) = true) (hf : findM (.int .i64 (r : Nat)) E 0 = some (j, .int .i64 (c : Nat)))
    (ho : outs.length = n) (hT : T.length = n) (hn : n ≤ 1000) (hc : c < n) (hx : outs.getD c .undef = .slice xs (.tok (c + 2))) (hTc : T[c]? = some (.per 1 xs.length)) (hxl : xs.length ≤ 1000) :
    Eff M 28 [.int .i64 (i : Nat), .int .i64 (r : Nat), .ptr 1 0, .ptr 2 0] ⟨[.map E n, .cells [.mp 0], .cells [.gs 1 n]], fd :: .chg 1 outs :: T⟩
      fun d hp => d = .tup [] ∧ hp = ⟨[.map E n, .cells [.mp 0], .cells [.gs 1 n]], fd :: .chg 1 (outs.set c (.slice (xs ++ [.int .i64 (i : Nat)]) (.tok (c + 2)))) :: T.set c (.per 1 (xs.length + 1))⟩ := by
  refine oe28 3 (n + 2) rfl rfl (by simp [hT]) ?_
  rw [ie28]
  unfold c28
  generalize hrc : RC.regD r28_5 r28_6 = rc at *
  repeat' (first
    | with_reducible first | apply swp_seq | apply swp_reg | apply swp_regD | apply swp_block | apply swp_exit | apply swp_ret | apply swp_skip | apply swp_cd
    | simp only [go_sem, seval, pe28, q28]
    | simp (disch := omega) only [w64, w32, wu8, wu16, wu32, wu64]
    | ((with_reducible apply s_appT); (case he => rfl); (case hK | hc | hr | hV => first | rfl | assumption | omega | ((first | refine ⟨?_, ?_⟩ | skip) <;> first | omega | (simp only [lN, ho] <;> omega)) | (simp [elemsK, D.isVal, D.cells, D.closedL, D.closed, ho]; first | done | omega)))
    | ((with_reducible apply s_appG); (case he => rfl); (case hV | hK | hr | hl => first | rfl | assumption | omega | ((first | refine ⟨?_, ?_⟩ | skip) <;> first | omega | (simp only [lN, ho] <;> omega)) | (simp [elemsK, D.isVal, D.cells, D.closedL, D.closed, ho]; first | done | omega)))
    | ((with_reducible apply s_app0G); (case he => rfl); (case hK | hr => first | rfl | assumption | omega | ((first | refine ⟨?_, ?_⟩ | skip) <;> first | omega | (simp only [lN, ho] <;> omega)) | (simp [elemsK, D.isVal, D.cells, D.closedL, D.closed, ho]; first | done | omega)))
    | ((with_reducible first | apply s_bsl | apply t_bsl); (case he | hl | hc => first | rfl | assumption | omega | ((first | refine ⟨?_, ?_⟩ | skip) <;> first | omega | (simp only [lN, ho] <;> omega)) | (simp [elemsK, D.isVal, D.cells, D.closedL, D.closed, ho]; first | done | omega)))
    | ((with_reducible apply s_mpu); (case h1 | hk => rfl); (case ha | hp => first | rfl | assumption | omega | ((first | refine ⟨?_, ?_⟩ | skip) <;> first | omega | (simp only [lN, ho] <;> omega)) | (simp [elemsK, D.isVal, D.cells, D.closedL, D.closed, ho]; first | done | omega)))
    | ((with_reducible apply s_lkpS); (case h1 | hk => rfl); (case ha | hf => first | rfl | assumption | omega | ((first | refine ⟨?_, ?_⟩ | skip) <;> first | omega | (simp only [lN, ho] <;> omega)) | (simp [elemsK, D.isVal, D.cells, D.closedL, D.closed, ho]; first | done | omega)))
    | ((with_reducible apply s_lkpN); (case h1 | hk => rfl); (case hf | ha => first | rfl | assumption | omega | ((first | refine ⟨?_, ?_⟩ | skip) <;> first | omega | (simp only [lN, ho] <;> omega)) | (simp [elemsK, D.isVal, D.cells, D.closedL, D.closed, ho]; first | done | omega)))
    | with_reducible first | apply cd_dec | apply cd_eq | apply cd_ne | apply cd_split
    | ((with_reducible refine And.intro ?hw ?_); (case hw => first | omega | rfl | exact ⟨_, _, rfl⟩ | assumption | (simp only [lN, ho] <;> omega)))
    | with_reducible intro _)
  all_goals first | omega | skip
  rw [← hrc]
  refine add_reg _ ⟨[.map E n, .cells [.mp 0], .cells [.gs 1 n]], fd :: .chg 1 outs :: T.set c (.per 1 (xs.length + 1))⟩ (.slice xs (.tok (c + 2))) _ _ (xs ++ [.int .i64 (i : Nat)]) (.tok (c + 2)) outs n c i r _ rfl rfl rfl rfl ho hc hx ?_ ?_
  · simp only [opWp]
    refine ⟨[.int .i64 (i : Nat)], rfl, rfl, ⟨?_, ?_⟩, rfl, ?_, ?_⟩
    · simp; omega
    · simp; omega
    · simpa using hTc
    · simp [D.erL, D.er]
  · refine ⟨trivial, _, weak_refl, ?_⟩
    simp
end Go.Proofs.Ytofnggfpegcllaa
end
section
set_option maxRecDepth 100000
set_option linter.unusedSimpArgs false
set_option linter.unusedVariables false
namespace Go.Proofs.Ytofnggfpegcllaa
open Go GoV Go.RowKit
def ixC (L : List Nat) (r : Nat) : Nat := (rtsC L L.length).idxOf r
def plE (L : List Nat) (i : Nat) : List (D × D × Nat) := entG (fun n : Nat => .int .i64 (n : Nat)) (fun r => .int .i64 (ixC L r : Nat)) (rtsC L i) 0
def outD (C : List (List Nat)) : List D := C.mapIdx fun j c => .slice (ints c) (.tok (j + 2))
def perC (C : List (List Nat)) : List Tv := C.map fun c => .per 1 c.length
def compsD (C : List (List Nat)) : List D := C.map fun c => .slice (ints c) .no
theorem rtsC_pre (L : List Nat) {i j : Nat} (h : i ≤ j) : rtsC L i <+: rtsC L j := by
  unfold rtsC
  refine List.IsPrefix.filter _ ?_
  refine ⟨List.range' i (j - i), ?_⟩
  rw [List.range_eq_range', List.range_eq_range']
  have := List.range'_append (s := 0) (m := i) (n := j - i) (step := 1)
  simp at this
  rw [this]; congr 1; omega
theorem rtsC_new {L : List Nat} {i : Nat} (e : lb L i = i) : rtsC L (i + 1) = rtsC L i ++ [i] := by
  unfold rtsC
  rw [List.range_succ, List.filter_append, List.filter_cons, if_pos (by rw [beq_iff_eq]; exact e)]; rfl
theorem rtsC_old {L : List Nat} {i : Nat} (e : lb L i ≠ i) : rtsC L (i + 1) = rtsC L i := by
  unfold rtsC
  rw [List.range_succ, List.filter_append, List.filter_cons, if_neg (by rw [beq_iff_eq]; exact e)]; simp
theorem rtsC_mem {L : List Nat} {i r : Nat} : r ∈ rtsC L i ↔ r < i ∧ lb L r = r := by unfold rtsC; rw [List.mem_filter]; simp
theorem rtsC_nodup (L : List Nat) (i : Nat) : (rtsC L i).Nodup := by unfold rtsC; exact List.nodup_range.filter _
theorem rtsC_le (L : List Nat) (i : Nat) : (rtsC L i).length ≤ i := by
  unfold rtsC
  refine Nat.le_trans (List.length_filter_le _ _) ?_
  simp
theorem ixC_get {L : List Nat} {i c : Nat} (hi : i ≤ L.length) (hc : c < (rtsC L i).length) : ixC L (rtsC L i)[c] = c := by
  obtain ⟨t, ht⟩ := rtsC_pre L hi
  unfold ixC
  have e : (rtsC L i)[c] = (rtsC L L.length)[c]'(by rw [← ht, List.length_append]; omega) := by
    simp only [← ht]
    rw [List.getElem_append_left hc]
  rw [e, (rtsC_nodup L L.length).idxOf_getElem]
theorem outC_len (L : List Nat) (i : Nat) : (outC L i).length = (rtsC L i).length := by simp [outC, rtsC]
theorem outD_len (C : List (List Nat)) : (outD C).length = C.length := by simp [outD]
theorem plE_ok (L : List Nat) (i : Nat) : ((plE L i).all fun e => keyOk (.int .i64) e.1) = true := entG_ok keyInt _ _
theorem plE_new {L : List Nat} {i : Nat} (hi : i < L.length) (e : lb L i = i) : findM (.int .i64 (i : Nat)) (plE L i) 0 = none ∧ putM (plE L i) (rtsC L i).length (.int .i64 (i : Nat)) (.int .i64 ((rtsC L i).length : Nat)) = .map (plE L (i + 1)) ((rtsC L i).length + 1) := by
  have hn : i ∉ rtsC L i := fun h => by have := (rtsC_mem.1 h).1; omega
  refine ⟨entG_none keyInt hn, ?_⟩
  have := entG_new (vf := fun r : Nat => .int .i64 (ixC L r : Nat)) keyInt (.int .i64 ((rtsC L i).length : Nat)) hn
  unfold plE
  rw [this, rtsC_new e]
  have hix : ixC L i = (rtsC L i).length := by
    have h1 : (rtsC L (i + 1)).length = (rtsC L i).length + 1 := by rw [rtsC_new e, List.length_append]; rfl
    have := ixC_get (L := L) (i := i + 1) (c := (rtsC L i).length) (by omega) (by omega)
    simp only [rtsC_new e] at this
    simpa using this
  have hu : upd (fun r : Nat => D.int .i64 (ixC L r : Nat)) i (.int .i64 ((rtsC L i).length : Nat)) = fun r => .int .i64 (ixC L r : Nat) := by
    funext r
    unfold upd
    split
    · rename_i q; subst q; rw [hix]
    · rfl
  rw [hu]
theorem plE_old {L : List Nat} (hL : Lo L) {i : Nat} (hi : i < L.length) (e : lb L i ≠ i) : ∃ j c, findM (.int .i64 (lb L i : Nat)) (plE L i) 0 = some (j, .int .i64 (c : Nat)) ∧ ∃ h : c < (rtsC L i).length, (rtsC L i)[c] = lb L i := by
  obtain ⟨h1, h2⟩ := hL i hi
  have hm : lb L i ∈ rtsC L i := rtsC_mem.2 ⟨by omega, h2⟩
  obtain ⟨j, hj⟩ := entG_some (vf := fun r : Nat => .int .i64 (ixC L r : Nat)) keyInt hm
  obtain ⟨c, hc, hcr⟩ := List.getElem_of_mem hm
  refine ⟨j, c, ?_, hc, hcr⟩
  unfold plE
  rw [hj, ← hcr, ixC_get (by omega) hc]
def cH (L : List Nat) (i : Nat) (F : List Nat) : Hp :=
  if i = 0 then ⟨[.map [] 0, .cells [.mp 0], .cells [.lit (.slice none 0 0)]], [.chg 1 (ints F)]⟩
  else ⟨[.map (plE L i) (rtsC L i).length, .cells [.mp 0], .cells [.gs 1 (rtsC L i).length]], .chg 1 (ints F) :: .chg 1 (outD (outC L i)) :: perC (outC L i)⟩
theorem add_e {L : List Nat} (hL : Lo L) {i : Nat} (hi : i < L.length) (hN : L.length ≤ 1000) (F : List Nat) :
    Eff M 28 [.int .i64 (i : Nat), .int .i64 (lb L i : Nat), .ptr 1 0, .ptr 2 0] (cH L i F) fun d hp => d = .tup [] ∧ hp = cH L (i + 1) F := by
  have hok := plE_ok L i
  have hol := outC_len L i
  have hle := rtsC_le L i
  unfold cH
  rw [if_neg (show i + 1 ≠ 0 by omega)]
  by_cases e : lb L i = i
  · obtain ⟨h1, h2⟩ := plE_new hi e
    have ho := outC_new hL hi e
    rw [rtsC_new e, ho, e]
    have d1 : outD (outC L i ++ [[i]]) = outD (outC L i) ++ [.slice [.int .i64 (i : Nat)] (.tok ((rtsC L i).length + 2))] := by
      unfold outD; rw [List.mapIdx_append]; simp [ints, hol]
    have d2 : perC (outC L i ++ [[i]]) = perC (outC L i) ++ [.per 1 1] := by simp [perC]
    rw [d1, d2, List.length_append]
    by_cases h0 : i = 0
    · subst h0
      have r0 : rtsC L 0 = [] := rfl
      have o0 : outC L 0 = [] := rfl
      have p0 : plE L 0 = [] := rfl
      rw [if_pos rfl, r0, o0]
      rw [r0, p0] at h2
      rw [p0] at h1 hok
      exact add_first (i := 0) hok h1 h2
    · rw [if_neg h0]
      exact add_new hok h1 h2 (by rw [outD_len, hol]) (by simp [perC, hol]) (by omega)
  · obtain ⟨j, c, h1, hc, hcr⟩ := plE_old hL hi e
    have h0 : i ≠ 0 := fun q => by subst q; have := (hL 0 hi).1; omega
    have ho := outC_old hL hi e hc hcr
    have hpl : plE L (i + 1) = plE L i := by unfold plE; rw [rtsC_old e]
    rw [if_neg h0, rtsC_old e, hpl, ho]
    have hco : c < (outC L i).length := by omega
    have hget : (outC L i).getD c [] = (outC L i)[c] := by simp [List.getD, hco]
    have hx : (outD (outC L i)).getD c .undef = .slice (ints (outC L i)[c]) (.tok (c + 2)) := by simp [outD, List.getD, hco]
    have hl1 : ((outC L i)[c]).length ≤ 1000 := by
      have : (outC L i)[c] = (List.range i).filter fun x => lb L x == (rtsC L i)[c] := by simp [outC, rtsC]
      rw [this]
      refine Nat.le_trans (List.length_filter_le _ _) ?_
      simp; omega
    have := add_old (i := i) (r := lb L i) (T := perC (outC L i)) (fd := .chg 1 (ints F)) hok h1 (by rw [outD_len, hol]) (by simp [perC, hol]) (by omega) hc hx (by simp [perC, hco, ints_len]) (by rw [ints_len]; exact hl1)
    have d1 : outD ((outC L i).set c ((outC L i).getD c [] ++ [i])) = (outD (outC L i)).set c (.slice (ints (outC L i)[c] ++ [.int .i64 (i : Nat)]) (.tok (c + 2))) := by
      unfold outD; rw [List.mapIdx_set, hget]; simp [ints]
    have d2 : perC ((outC L i).set c ((outC L i).getD c [] ++ [i])) = (perC (outC L i)).set c (.per 1 ((ints (outC L i)[c]).length + 1)) := by
      unfold perC; rw [List.map_set, hget]; simp [ints_len]
    rw [d1, d2]
    exact this
end Go.Proofs.Ytofnggfpegcllaa
end
section
set_option maxRecDepth 100000
set_option linter.unusedSimpArgs false
set_option linter.unusedVariables false
namespace Go.Proofs.Ytofnggfpegcllaa
open Go GoV Go.RowKit
set_option maxHeartbeats 2000000 in
theorem components_p (l : List Rp) (hl : l.length ≤ 1000) (hs : Small l) : Pur M 13 [rpsD l] (.slice (compsD (comps (namesL l))) .no) := by
  have cl := linked_e l hl hs
  have hfo := foF_fo (namesL l)
  have hlo := labs_lo (namesL l)
  have hln : (labs (namesL l)).length = l.length := by rw [labs_len, namesL_len]
  have hlen : (l.map rpD).length = l.length := by simp
  unfold comps
  have hcomps : compsL (labs (namesL l)) = outC (labs (namesL l)) l.length := by rw [← hln]; rfl
  rw [hcomps]
  have hF0 : (lnkF (namesL l) l.length).1 = foF (namesL l) := by unfold foF; rw [namesL_len]
  rw [hF0] at cl
  have hrnE := fun β τ => eF_rn β τ (lnkF (namesL l) l.length).2
  generalize (lnkF (namesL l) l.length).2 = MF at *
  generalize foF (namesL l) = F0 at *
  generalize labs (namesL l) = L at *
  generalize eF MF = EF at *
  have hclr := closedL_R l
  have herr := erL_R l
  have hcl2 : ∀ C : List (List Nat), D.closedL (compsD C) = true ∧ D.erL (compsD C) = compsD C := fun C => by
    induction C with
    | nil => exact ⟨rfl, rfl⟩
    | cons c C ih => simp [compsD, D.closedL, D.erL, D.closed, D.er] at ih ⊢; exact ih
  have hrn := fun β τ F => ints_rn β τ F
  by_cases h0 : l.length = 0
  · have ho : outC L l.length = [] := by rw [h0]; rfl
    rw [ho]
    refine pur_res (d := .lit (.slice none 0 0)) ?_ rfl
    refine ow13 rfl ?_
    rw [i13]
    unfold c13
    repeat' (first
    | with_reducible first | apply swp_seq | apply swp_reg | apply swp_regD | apply swp_block | apply swp_exit | apply swp_ret | apply swp_skip | apply swp_cd
    | simp only [go_sem, seval, P13, q13, hrn, hrnE, o_newM]
    | simp (disch := omega) only [w64, w32, wu8, wu16, wu32, wu64]
    | ((with_reducible refine o_eff [] [] (cl) ?hs ?he ?hh ?_); (case hs => exact ⟨by simp, by simp, by simp, by simp⟩); (case he => first | rfl | (simp [go_sem, seval, hrn, Hp.back, putAt, bakF, Blk.rnL, Blk.rn, Tv.rnL, Tv.rn, D.rnL, D.rn, Own.rn, hrnE]; done)); (case hh => first | rfl | (simp [go_sem, seval, hrn, Hp.back, putAt, bakF, Blk.rnL, Blk.rn, Tv.rnL, Tv.rn, D.rnL, D.rn, Own.rn, hrnE]; done)); rintro _ _ ⟨rfl, rfl⟩)
    | with_reducible first | apply cd_dec | apply cd_eq | apply cd_ne | apply cd_split
    | ((with_reducible refine And.intro ?hw ?_); (case hw => first | omega | rfl | exact ⟨_, _, rfl⟩ | assumption | (simp only [lN, hrn, Hp.back, putAt, bakF, Blk.rnL, Blk.rn, Tv.rnL, Tv.rn, D.rnL, D.rn, Own.rn, hrnE] <;> omega)))
    | with_reducible intro _)
    all_goals first | omega | skip
    refine swp_fam [2, 3, 4, 5, 6, 8, 9] (fun _ : Unit => ⟨[.undef, .undef, .gs 0 l.length, .fn (.func 27) [.gs 0 l.length] [], .ptr 2 0, .ptr 3 0, .fn (.func 28) [] [.ptr 2 0, .ptr 3 0], .undef, .int .i64 l.length, .int .i64 0, .undef], [], ⟨[.map EF MF.length, .map [] 0, .cells [.mp 1], .cells [.lit (.slice none 0 0)]], [.chg 1 (ints F0)]⟩⟩) (fun _ => True) (fun _ => 0) () trivial ?_ ?_
    · simp [keepE, St.keep]
    · intro _ _
      have t0 : decide ((0 : Int) < l.length) = false := by rw [h0]; rfl
      repeat' (first
    | with_reducible first | apply swp_seq | apply swp_reg | apply swp_regD | apply swp_block | apply swp_exit | apply swp_ret | apply swp_skip | apply swp_cd
    | simp only [go_sem, seval, P13, q13, t0, o_newM]
    | simp (disch := omega) only [w64, w32, wu8, wu16, wu32, wu64]
    | with_reducible first | apply cd_dec | apply cd_eq | apply cd_ne | apply cd_split
    | ((with_reducible refine And.intro ?hw ?_); (case hw => first | omega | rfl | exact ⟨_, _, rfl⟩ | assumption | (simp only [lN] <;> omega)))
    | with_reducible intro _)
      all_goals first | omega | skip
      exact ⟨_, weak_refl, by simp [D.closed], by simp [D.er]⟩
  · refine ow13 rfl ?_
    rw [i13]
    unfold c13
    repeat' (first
    | with_reducible first | apply swp_seq | apply swp_reg | apply swp_regD | apply swp_block | apply swp_exit | apply swp_ret | apply swp_skip | apply swp_cd
    | simp only [go_sem, seval, P13, q13, hrn, hrnE, o_newM]
    | simp (disch := omega) only [w64, w32, wu8, wu16, wu32, wu64]
    | ((with_reducible refine o_eff [] [] (cl) ?hs ?he ?hh ?_); (case hs => exact ⟨by simp, by simp, by simp, by simp⟩); (case he => first | rfl | (simp [go_sem, seval, hrn, Hp.back, putAt, bakF, Blk.rnL, Blk.rn, Tv.rnL, Tv.rn, D.rnL, D.rn, Own.rn, hrnE]; done)); (case hh => first | rfl | (simp [go_sem, seval, hrn, Hp.back, putAt, bakF, Blk.rnL, Blk.rn, Tv.rnL, Tv.rn, D.rnL, D.rn, Own.rn, hrnE]; done)); rintro _ _ ⟨rfl, rfl⟩)
    | with_reducible first | apply cd_dec | apply cd_eq | apply cd_ne | apply cd_split
    | ((with_reducible refine And.intro ?hw ?_); (case hw => first | omega | rfl | exact ⟨_, _, rfl⟩ | assumption | (simp only [lN, hrn, Hp.back, putAt, bakF, Blk.rnL, Blk.rn, Tv.rnL, Tv.rn, D.rnL, D.rn, Own.rn, hrnE] <;> omega)))
    | with_reducible intro _)
    all_goals first | omega | skip
    refine swp_weak (weak_trans (weak_keep [2, 3, 4, 5, 6, 8, 9]) (weak_sel [1, 2, 3] [0] ⟨by simp, by simp, by simp, by simp⟩ rfl rfl)) ?_
    simp only [keepE, St.sel, Hp.sel, D.rnL, D.rn, posF, idx, Blk.rn, Blk.rnL, Tv.rnL, Own.rn, pairs, List.map_cons, List.map_nil, List.getD_cons_zero, List.getD_cons_succ, Tv.rn, hrn]
    refine swp_fam [2, 3, 4, 5, 6, 8, 9] (fun p : Nat × List Nat => ⟨[.undef, .undef, .gs 0 l.length, .fn (.func 27) [.gs 0 l.length] [], .ptr 1 0, .ptr 2 0, .fn (.func 28) [] [.ptr 1 0, .ptr 2 0], .undef, .int .i64 l.length, .int .i64 p.1, .undef], [], cH L p.1 p.2⟩) (fun p => p.1 ≤ l.length ∧ Fo p.2 L) (fun p => l.length - p.1) (0, F0) ⟨by omega, hfo⟩ ?_ ?_
    · simp [keepE, St.keep, cH, D.rn, D.rnL, posF, idx]
    · rintro ⟨i, F⟩ ⟨hi, hF⟩
      simp only at hi hF ⊢
      by_cases hil : i < l.length
      · have t0 : decide (((i : Nat) : Int) < l.length) = true := by simp; omega
        have cr := root_e hlo hF (by omega) (i := i) (by omega)
        rw [rt_root hlo hF (by omega), hF.len, hln] at cr
        have ca := add_e hlo (i := i) (by omega) (by omega) (rt F i).1
        have hF2 := rt_fo hlo hF (i := i) (by omega)
        have hsel : (cH L i F).sel [] [0] = ⟨[], [.chg 1 (ints F)]⟩ := by
          unfold cH; split <;> simp [Hp.sel, Blk.rnL, Tv.rnL, Tv.rn, hrn]
        have hbk : (cH L i F).back [] [0] ⟨[], [.chg 1 (ints (rt F i).1)]⟩ = cH L i (rt F i).1 := by
          unfold cH; split <;> simp [Hp.back, putAt, bakF, Blk.rnL, Tv.rnL, Tv.rn, hrn]
        have hso : SelOk (cH L i F) [] [0] := by unfold cH; split <;> exact ⟨by simp, by simp, by simp, by simp⟩
        repeat' (first
    | with_reducible first | apply swp_seq | apply swp_reg | apply swp_regD | apply swp_block | apply swp_exit | apply swp_ret | apply swp_skip | apply swp_cd
    | simp only [go_sem, seval, P13, q13, t0, o_newM]
    | simp (disch := omega) only [w64, w32, wu8, wu16, wu32, wu64]
    | with_reducible first | apply cd_dec | apply cd_eq | apply cd_ne | apply cd_split
    | ((with_reducible refine And.intro ?hw ?_); (case hw => first | omega | rfl | exact ⟨_, _, rfl⟩ | assumption | (simp only [lN] <;> omega)))
    | with_reducible intro _)
        refine o_eff [] [0] cr hso rfl hsel ?_
        rintro _ _ ⟨rfl, rfl⟩
        simp only
        rw [hbk]
        simp only [D.rn]
        repeat' (first
    | with_reducible first | apply swp_seq | apply swp_reg | apply swp_regD | apply swp_block | apply swp_exit | apply swp_ret | apply swp_skip | apply swp_cd
    | simp only [go_sem, seval, P13, q13, t0, o_newM]
    | simp (disch := omega) only [w64, w32, wu8, wu16, wu32, wu64]
    | ((with_reducible refine o_same (ca) ?he ?hh ?_); (case he => first | rfl | (simp [go_sem, seval]; done)); (case hh => first | rfl | (simp [go_sem, seval]; done)))
    | with_reducible first | apply cd_dec | apply cd_eq | apply cd_ne | apply cd_split
    | ((with_reducible refine And.intro ?hw ?_); (case hw => first | omega | rfl | exact ⟨_, _, rfl⟩ | assumption | (simp only [lN] <;> omega)))
    | with_reducible intro _)
        all_goals first | omega | skip
        exact ⟨(i + 1, (rt F i).1), ⟨by simp only; omega, hF2⟩, by simp only; omega, by simp [keepE, St.keep]⟩
      · have t0 : decide (((i : Nat) : Int) < l.length) = false := by simp; omega
        have : i = l.length := by omega
        subst this
        have hcH : cH L l.length F = ⟨[.map (plE L l.length) (rtsC L l.length).length, .cells [.mp 0], .cells [.gs 1 (rtsC L l.length).length]], .chg 1 (ints F) :: .chg 1 (outD (outC L l.length)) :: perC (outC L l.length)⟩ := by unfold cH; rw [if_neg h0]
        rw [hcH]
        have hol := outC_len L l.length
        rw [← hol]
        generalize outC L l.length = C at *
        clear hcH
        repeat' (first
    | with_reducible first | apply swp_seq | apply swp_reg | apply swp_regD | apply swp_block | apply swp_exit | apply swp_ret | apply swp_skip | apply swp_cd
    | simp only [go_sem, seval, P13, q13, t0, o_newM]
    | simp (disch := omega) only [w64, w32, wu8, wu16, wu32, wu64]
    | with_reducible first | apply cd_dec | apply cd_eq | apply cd_ne | apply cd_split
    | ((with_reducible refine And.intro ?hw ?_); (case hw => first | omega | rfl | exact ⟨_, _, rfl⟩ | assumption | (simp only [lN] <;> omega)))
    | with_reducible intro _)
        all_goals first | omega | skip
        have hdl := outD_len C
        have hcc : ∀ (C : List (List Nat)) (f : Nat → GoV.Own), D.closedL (C.mapIdx fun j c => .slice (ints c) (f j)) = true ∧ D.erL (C.mapIdx fun j c => .slice (ints c) (f j)) = compsD C := fun C => by
          induction C with
          | nil => exact fun _ => ⟨rfl, rfl⟩
          | cons c C ih =>
            intro f
            have := ih fun j => f (j + 1)
            rw [List.mapIdx_cons]
            simp only [D.closedL, D.erL, D.closed, D.er, Bool.true_and, compsD, List.map_cons] at this ⊢
            exact ⟨this.1, by rw [this.2]⟩
        obtain ⟨k1, k2⟩ := hcc C fun j => .tok (j + 2)
        have hch : ∀ C : List (List Nat), chunk 1 C.length (compsD C) = compsD C := fun C => by
          induction C with
          | nil => rfl
          | cons c C ih =>
            simp only [compsD, List.map_cons, List.length_cons, chunk, List.drop_succ_cons, List.drop_zero] at ih ⊢
            rw [ih]; rfl
        have hel : ∀ C : List (List Nat), elemsK 1 (compsD C) = true := fun C => elemsK_map (fun c : List Nat => D.slice (ints c) .no) 1 (fun _ => ⟨rfl, rfl⟩) C
        have k2' : D.erL (outD C) = compsD C := k2
        refine ⟨_, weak_trans (weak_keep [1]) (weak_frzT 1 1 C.length (outD C) rfl (by rw [hdl, Nat.mul_one]) (Nat.zero_le _) k1 ?_), ?_⟩
        · rw [k2', hch]; exact hel C
        · rw [k2']
          obtain ⟨m1, m2⟩ := hcl2 C
          simp [St.frzT, keepE, D.fzt, hch, D.closed, D.er]
end Go.Proofs.Ytofnggfpegcllaa
end
section
set_option maxRecDepth 100000
set_option linter.unusedSimpArgs false
set_option linter.unusedVariables false
namespace Go.Proofs.Ytofnggfpegcllaa
open Go GoV Go.RowKit
theorem cl_ints (F : List Nat) : D.closedL (ints F) = true := by induction F with | nil => rfl | cons x l ih => simp_all [ints, D.closedL, D.closed]
theorem er_ints (F : List Nat) : D.erL (ints F) = ints F := by induction F with | nil => rfl | cons x l ih => simp_all [ints, D.erL, D.er]
def filtL (L : List Nat) (k i : Nat) : List Nat := (List.range i).filter fun j => lb L j == lb L k
theorem filtL_le (L : List Nat) (k i : Nat) : (filtL L k i).length ≤ i := by
  unfold filtL
  refine Nat.le_trans (List.length_filter_le _ _) ?_
  simp
theorem filtL_in {L : List Nat} {k i : Nat} (h : lb L i = lb L k) : filtL L k (i + 1) = filtL L k i ++ [i] := by
  unfold filtL
  rw [List.range_succ, List.filter_append, List.filter_cons, if_pos (by rw [beq_iff_eq]; exact h)]; rfl
theorem filtL_out {L : List Nat} {k i : Nat} (h : lb L i ≠ lb L k) : filtL L k (i + 1) = filtL L k i := by
  unfold filtL
  rw [List.range_succ, List.filter_append, List.filter_cons, if_neg (by rw [beq_iff_eq]; exact h)]; simp
set_option maxHeartbeats 2000000 in
theorem of_p (l : List Rp) (hl : l.length ≤ 1000) (hs : Small l) (part : Nm) : Pur M 16 [rpsD l, .str part] (.slice (ints (ofP (namesL l) part)) .no) := by
  have cl := linked_e l hl hs
  have hfo := foF_fo (namesL l)
  have hlo := labs_lo (namesL l)
  have hln : (labs (namesL l)).length = l.length := by rw [labs_len, namesL_len]
  have hlen : (l.map rpD).length = l.length := by simp
  have hF0 : (lnkF (namesL l) l.length).1 = foF (namesL l) := by unfold foF; rw [namesL_len]
  have hfirst := (inv_lnk (namesL l) l.length).first part
  have hlk : look (lnk (namesL l) (namesL l).length).2 part = look (lnkF (namesL l) l.length).2 part := by rw [lnkF_first, namesL_len]
  rw [← lnkF_first] at hfirst
  unfold ofP
  rw [hlk, namesL_len]
  rw [hF0] at cl
  have hok := eF_ok (lnkF (namesL l) l.length).2
  have hN := eF_none (F := (lnkF (namesL l) l.length).2) (s := part)
  have hS := fun k => eF_some (F := (lnkF (namesL l) l.length).2) (s := part) (k := k)
  have hrnE := fun β τ => eF_rn β τ (lnkF (namesL l) l.length).2
  generalize (lnkF (namesL l) l.length).2 = MF at *
  generalize foF (namesL l) = F0 at *
  generalize labs (namesL l) = L at *
  generalize eF MF = EF at *
  have hclr := closedL_R l
  have herr := erL_R l
  have hrn := fun β τ F => ints_rn β τ F
  refine ow16 rfl ?_
  rw [i16]
  unfold c16
  cases hk : look MF part with
  | none =>
    have hf := hN hk
    repeat' (first
    | with_reducible first | apply swp_seq | apply swp_reg | apply swp_regD | apply swp_block | apply swp_exit | apply swp_ret | apply swp_skip | apply swp_cd
    | simp only [go_sem, seval, P16, q16, hrn, hrnE]
    | simp (disch := omega) only [w64, w32, wu8, wu16, wu32, wu64]
    | ((with_reducible refine o_eff [] [] (cl) ?hs ?he ?hh ?_); (case hs => exact ⟨by simp, by simp, by simp, by simp⟩); (case he => first | rfl | (simp [go_sem, seval, hrn, Hp.back, putAt, bakF, Blk.rnL, Blk.rn, Tv.rnL, Tv.rn, D.rnL, D.rn, Own.rn, hrnE, hok, hf]; done)); (case hh => first | rfl | (simp [go_sem, seval, hrn, Hp.back, putAt, bakF, Blk.rnL, Blk.rn, Tv.rnL, Tv.rn, D.rnL, D.rn, Own.rn, hrnE, hok, hf]; done)); rintro _ _ ⟨rfl, rfl⟩)
    | ((with_reducible apply s_appT); (case he => rfl); (case hK | hc | hr | hV => first | rfl | assumption | omega | ((first | refine ⟨?_, ?_⟩ | skip) <;> first | omega | (simp only [lN, hrn, Hp.back, putAt, bakF, Blk.rnL, Blk.rn, Tv.rnL, Tv.rn, D.rnL, D.rn, Own.rn, hrnE, hok, hf] <;> omega)) | (simp [elemsK, D.isVal, D.cells, D.closedL, D.closed, hrn, Hp.back, putAt, bakF, Blk.rnL, Blk.rn, Tv.rnL, Tv.rn, D.rnL, D.rn, Own.rn, hrnE, hok, hf]; first | done | omega)))
    | ((with_reducible apply s_appG); (case he => rfl); (case hV | hK | hr | hl => first | rfl | assumption | omega | ((first | refine ⟨?_, ?_⟩ | skip) <;> first | omega | (simp only [lN, hrn, Hp.back, putAt, bakF, Blk.rnL, Blk.rn, Tv.rnL, Tv.rn, D.rnL, D.rn, Own.rn, hrnE, hok, hf] <;> omega)) | (simp [elemsK, D.isVal, D.cells, D.closedL, D.closed, hrn, Hp.back, putAt, bakF, Blk.rnL, Blk.rn, Tv.rnL, Tv.rn, D.rnL, D.rn, Own.rn, hrnE, hok, hf]; first | done | omega)))
    | ((with_reducible apply s_app0); (case he => rfl); (case hK | hc | hr => first | rfl | assumption | omega | ((first | refine ⟨?_, ?_⟩ | skip) <;> first | omega | (simp only [lN, hrn, Hp.back, putAt, bakF, Blk.rnL, Blk.rn, Tv.rnL, Tv.rn, D.rnL, D.rn, Own.rn, hrnE, hok, hf] <;> omega)) | (simp [elemsK, D.isVal, D.cells, D.closedL, D.closed, hrn, Hp.back, putAt, bakF, Blk.rnL, Blk.rn, Tv.rnL, Tv.rn, D.rnL, D.rn, Own.rn, hrnE, hok, hf]; first | done | omega)))
    | ((with_reducible apply s_appF); (case he => rfl); (case hK | hc | hr | hx | hn => first | rfl | assumption | omega | ((first | refine ⟨?_, ?_⟩ | skip) <;> first | omega | (simp only [lN, hrn, Hp.back, putAt, bakF, Blk.rnL, Blk.rn, Tv.rnL, Tv.rn, D.rnL, D.rn, Own.rn, hrnE, hok, hf] <;> omega)) | (simp [elemsK, D.isVal, D.cells, D.closedL, D.closed, hrn, Hp.back, putAt, bakF, Blk.rnL, Blk.rn, Tv.rnL, Tv.rn, D.rnL, D.rn, Own.rn, hrnE, hok, hf]; first | done | omega)))
    | ((with_reducible apply s_bsl); (case he | hl | hc => first | rfl | assumption | omega | ((first | refine ⟨?_, ?_⟩ | skip) <;> first | omega | (simp only [lN, hrn, Hp.back, putAt, bakF, Blk.rnL, Blk.rn, Tv.rnL, Tv.rn, D.rnL, D.rn, Own.rn, hrnE, hok, hf] <;> omega)) | (simp [elemsK, D.isVal, D.cells, D.closedL, D.closed, hrn, Hp.back, putAt, bakF, Blk.rnL, Blk.rn, Tv.rnL, Tv.rn, D.rnL, D.rn, Own.rn, hrnE, hok, hf]; first | done | omega)))
    | ((with_reducible apply s_lkpS); (case h1 | hk => rfl); (case ha | hf => first | rfl | assumption | omega | ((first | refine ⟨?_, ?_⟩ | skip) <;> first | omega | (simp only [lN, hrn, Hp.back, putAt, bakF, Blk.rnL, Blk.rn, Tv.rnL, Tv.rn, D.rnL, D.rn, Own.rn, hrnE, hok, hf] <;> omega)) | (simp [elemsK, D.isVal, D.cells, D.closedL, D.closed, hrn, Hp.back, putAt, bakF, Blk.rnL, Blk.rn, Tv.rnL, Tv.rn, D.rnL, D.rn, Own.rn, hrnE, hok, hf]; first | done | omega)))
    | ((with_reducible apply s_lkpN); (case h1 | hk => rfl); (case hf | ha => first | rfl | assumption | omega | ((first | refine ⟨?_, ?_⟩ | skip) <;> first | omega | (simp only [lN, hrn, Hp.back, putAt, bakF, Blk.rnL, Blk.rn, Tv.rnL, Tv.rn, D.rnL, D.rn, Own.rn, hrnE, hok, hf] <;> omega)) | (simp [elemsK, D.isVal, D.cells, D.closedL, D.closed, hrn, Hp.back, putAt, bakF, Blk.rnL, Blk.rn, Tv.rnL, Tv.rn, D.rnL, D.rn, Own.rn, hrnE, hok, hf]; first | done | omega)))
    | with_reducible first | apply cd_dec | apply cd_eq | apply cd_ne | apply cd_split
    | ((with_reducible refine And.intro ?hw ?_); (case hw => first | omega | rfl | exact ⟨_, _, rfl⟩ | assumption | (simp only [lN, hrn, Hp.back, putAt, bakF, Blk.rnL, Blk.rn, Tv.rnL, Tv.rn, D.rnL, D.rn, Own.rn, hrnE, hok, hf] <;> omega)))
    | with_reducible intro _)
    all_goals first | omega | skip
    exact ⟨_, weak_nn, by simp [D.nnL, D.nn, D.closed], by simp [D.nnL, D.nn, D.er, ints]⟩
  | some k =>
    obtain ⟨q, hf⟩ := hS k hk
    have hkl := (hfirst k hk).1
    show SWp C16 _ (fun e s => _ ∧ ∃ s1, Weak C16 s s1 ∧ rrsWp q16 s1 fun ds => D.closed (oneOrTup ds) = true ∧ (oneOrTup ds).er = .slice (ints (filtL L k l.length)) .no) _
    repeat' (first
    | with_reducible first | apply swp_seq | apply swp_reg | apply swp_regD | apply swp_block | apply swp_exit | apply swp_ret | apply swp_skip | apply swp_cd
    | simp only [go_sem, seval, P16, q16, hrn, hrnE]
    | simp (disch := omega) only [w64, w32, wu8, wu16, wu32, wu64]
    | ((with_reducible refine o_eff [] [] (cl) ?hs ?he ?hh ?_); (case hs => exact ⟨by simp, by simp, by simp, by simp⟩); (case he => first | rfl | (simp [go_sem, seval, hrn, Hp.back, putAt, bakF, Blk.rnL, Blk.rn, Tv.rnL, Tv.rn, D.rnL, D.rn, Own.rn, hrnE, hok, hf]; done)); (case hh => first | rfl | (simp [go_sem, seval, hrn, Hp.back, putAt, bakF, Blk.rnL, Blk.rn, Tv.rnL, Tv.rn, D.rnL, D.rn, Own.rn, hrnE, hok, hf]; done)); rintro _ _ ⟨rfl, rfl⟩)
    | ((with_reducible apply s_appT); (case he => rfl); (case hK | hc | hr | hV => first | rfl | assumption | omega | ((first | refine ⟨?_, ?_⟩ | skip) <;> first | omega | (simp only [lN, hrn, Hp.back, putAt, bakF, Blk.rnL, Blk.rn, Tv.rnL, Tv.rn, D.rnL, D.rn, Own.rn, hrnE, hok, hf] <;> omega)) | (simp [elemsK, D.isVal, D.cells, D.closedL, D.closed, hrn, Hp.back, putAt, bakF, Blk.rnL, Blk.rn, Tv.rnL, Tv.rn, D.rnL, D.rn, Own.rn, hrnE, hok, hf]; first | done | omega)))
    | ((with_reducible apply s_appG); (case he => rfl); (case hV | hK | hr | hl => first | rfl | assumption | omega | ((first | refine ⟨?_, ?_⟩ | skip) <;> first | omega | (simp only [lN, hrn, Hp.back, putAt, bakF, Blk.rnL, Blk.rn, Tv.rnL, Tv.rn, D.rnL, D.rn, Own.rn, hrnE, hok, hf] <;> omega)) | (simp [elemsK, D.isVal, D.cells, D.closedL, D.closed, hrn, Hp.back, putAt, bakF, Blk.rnL, Blk.rn, Tv.rnL, Tv.rn, D.rnL, D.rn, Own.rn, hrnE, hok, hf]; first | done | omega)))
    | ((with_reducible apply s_app0); (case he => rfl); (case hK | hc | hr => first | rfl | assumption | omega | ((first | refine ⟨?_, ?_⟩ | skip) <;> first | omega | (simp only [lN, hrn, Hp.back, putAt, bakF, Blk.rnL, Blk.rn, Tv.rnL, Tv.rn, D.rnL, D.rn, Own.rn, hrnE, hok, hf] <;> omega)) | (simp [elemsK, D.isVal, D.cells, D.closedL, D.closed, hrn, Hp.back, putAt, bakF, Blk.rnL, Blk.rn, Tv.rnL, Tv.rn, D.rnL, D.rn, Own.rn, hrnE, hok, hf]; first | done | omega)))
    | ((with_reducible apply s_appF); (case he => rfl); (case hK | hc | hr | hx | hn => first | rfl | assumption | omega | ((first | refine ⟨?_, ?_⟩ | skip) <;> first | omega | (simp only [lN, hrn, Hp.back, putAt, bakF, Blk.rnL, Blk.rn, Tv.rnL, Tv.rn, D.rnL, D.rn, Own.rn, hrnE, hok, hf] <;> omega)) | (simp [elemsK, D.isVal, D.cells, D.closedL, D.closed, hrn, Hp.back, putAt, bakF, Blk.rnL, Blk.rn, Tv.rnL, Tv.rn, D.rnL, D.rn, Own.rn, hrnE, hok, hf]; first | done | omega)))
    | ((with_reducible apply s_bsl); (case he | hl | hc => first | rfl | assumption | omega | ((first | refine ⟨?_, ?_⟩ | skip) <;> first | omega | (simp only [lN, hrn, Hp.back, putAt, bakF, Blk.rnL, Blk.rn, Tv.rnL, Tv.rn, D.rnL, D.rn, Own.rn, hrnE, hok, hf] <;> omega)) | (simp [elemsK, D.isVal, D.cells, D.closedL, D.closed, hrn, Hp.back, putAt, bakF, Blk.rnL, Blk.rn, Tv.rnL, Tv.rn, D.rnL, D.rn, Own.rn, hrnE, hok, hf]; first | done | omega)))
    | ((with_reducible apply s_lkpS); (case h1 | hk => rfl); (case ha | hf => first | rfl | assumption | omega | ((first | refine ⟨?_, ?_⟩ | skip) <;> first | omega | (simp only [lN, hrn, Hp.back, putAt, bakF, Blk.rnL, Blk.rn, Tv.rnL, Tv.rn, D.rnL, D.rn, Own.rn, hrnE, hok, hf] <;> omega)) | (simp [elemsK, D.isVal, D.cells, D.closedL, D.closed, hrn, Hp.back, putAt, bakF, Blk.rnL, Blk.rn, Tv.rnL, Tv.rn, D.rnL, D.rn, Own.rn, hrnE, hok, hf]; first | done | omega)))
    | ((with_reducible apply s_lkpN); (case h1 | hk => rfl); (case hf | ha => first | rfl | assumption | omega | ((first | refine ⟨?_, ?_⟩ | skip) <;> first | omega | (simp only [lN, hrn, Hp.back, putAt, bakF, Blk.rnL, Blk.rn, Tv.rnL, Tv.rn, D.rnL, D.rn, Own.rn, hrnE, hok, hf] <;> omega)) | (simp [elemsK, D.isVal, D.cells, D.closedL, D.closed, hrn, Hp.back, putAt, bakF, Blk.rnL, Blk.rn, Tv.rnL, Tv.rn, D.rnL, D.rn, Own.rn, hrnE, hok, hf]; first | done | omega)))
    | with_reducible first | apply cd_dec | apply cd_eq | apply cd_ne | apply cd_split
    | ((with_reducible refine And.intro ?hw ?_); (case hw => first | omega | rfl | exact ⟨_, _, rfl⟩ | assumption | (simp only [lN, hrn, Hp.back, putAt, bakF, Blk.rnL, Blk.rn, Tv.rnL, Tv.rn, D.rnL, D.rn, Own.rn, hrnE, hok, hf] <;> omega)))
    | with_reducible intro _)
    all_goals first | omega | skip
    refine swp_weak (weak_trans (weak_keep [3, 5, 7, 10, 11]) (weak_new 7 1 (by omega) false rfl)) ?_
    simp only [keepE]
    refine swp_fam [3, 5, 7, 10, 11] (fun p : Nat × List Nat => ⟨[.undef, .undef, .undef, .gs 0 l.length, .undef, .int .i64 (k : Nat), .undef, .slice (ints (filtL L k p.1)) (.tok 1), .undef, .undef, .int .i64 l.length, .int .i64 p.1, .undef, .undef], [], ⟨[.map EF MF.length], [.chg 1 (ints p.2), .per 1 (filtL L k p.1).length]⟩⟩) (fun p => p.1 ≤ l.length ∧ Fo p.2 L) (fun p => l.length - p.1) (0, F0) ⟨by omega, hfo⟩ ?_ ?_
    · simp [keepE, St.keep, filtL, ints]
    · rintro ⟨i, F⟩ ⟨hi, hF⟩
      simp only at hi hF ⊢
      have hfl := ints_len (filtL L k i)
      have hle := filtL_le L k i
      by_cases hil : i < l.length
      · have t0 : decide (((i : Nat) : Int) < l.length) = true := by simp; omega
        have cr := root_e hlo hF (by omega) (i := i) (by omega)
        have hF2 := rt_fo hlo hF (i := i) (by omega)
        have cr2 := root_e hlo hF2 (by omega) (i := k) (by omega)
        have hF3 := rt_fo hlo hF2 (i := k) (by omega)
        rw [rt_root hlo hF (by omega), hF.len, hln] at cr
        rw [rt_root hlo hF2 (by omega), hF2.len, hln] at cr2
        by_cases he : lb L i = lb L k
        · have t1 : (((lb L i : Nat) : Int) == (lb L k : Nat)) = true := by rw [he]; simp
          have ha := ints_app (filtL L k i) [i]
          rw [← filtL_in he, show ints [i] = [.int .i64 (i : Nat)] from rfl] at ha
          have hl2 : (filtL L k (i + 1)).length = (filtL L k i).length + 1 := by rw [filtL_in he, List.length_append]; rfl
          repeat' (first
    | with_reducible first | apply swp_seq | apply swp_reg | apply swp_regD | apply swp_block | apply swp_exit | apply swp_ret | apply swp_skip | apply swp_cd
    | simp only [go_sem, seval, P16, q16, t0, t1, hrn, hrnE]
    | simp (disch := omega) only [w64, w32, wu8, wu16, wu32, wu64]
    | ((with_reducible refine o_eff [] [0] (cr) ?hs ?he ?hh ?_); (case hs => exact ⟨by simp, by simp, by simp, by simp⟩); (case he => first | rfl | (simp [go_sem, seval, hrn, hrnE, hfl, Hp.back, putAt, bakF, Blk.rnL, Blk.rn, Tv.rnL, Tv.rn, D.rnL, D.rn, Own.rn]; done)); (case hh => first | rfl | (simp [go_sem, seval, hrn, hrnE, hfl, Hp.back, putAt, bakF, Blk.rnL, Blk.rn, Tv.rnL, Tv.rn, D.rnL, D.rn, Own.rn]; done)); rintro _ _ ⟨rfl, rfl⟩)
    | ((with_reducible refine o_eff [] [0] (cr2) ?hs ?he ?hh ?_); (case hs => exact ⟨by simp, by simp, by simp, by simp⟩); (case he => first | rfl | (simp [go_sem, seval, hrn, hrnE, hfl, Hp.back, putAt, bakF, Blk.rnL, Blk.rn, Tv.rnL, Tv.rn, D.rnL, D.rn, Own.rn]; done)); (case hh => first | rfl | (simp [go_sem, seval, hrn, hrnE, hfl, Hp.back, putAt, bakF, Blk.rnL, Blk.rn, Tv.rnL, Tv.rn, D.rnL, D.rn, Own.rn]; done)); rintro _ _ ⟨rfl, rfl⟩)
    | ((with_reducible apply s_appT); (case he => rfl); (case hK | hc | hr | hV => first | rfl | assumption | omega | ((first | refine ⟨?_, ?_⟩ | skip) <;> first | omega | (simp only [lN, hrn, hrnE, hfl, Hp.back, putAt, bakF, Blk.rnL, Blk.rn, Tv.rnL, Tv.rn, D.rnL, D.rn, Own.rn] <;> omega)) | (simp [elemsK, D.isVal, D.cells, D.closedL, D.closed, hrn, hrnE, hfl, Hp.back, putAt, bakF, Blk.rnL, Blk.rn, Tv.rnL, Tv.rn, D.rnL, D.rn, Own.rn]; first | done | omega)))
    | ((with_reducible apply s_appG); (case he => rfl); (case hV | hK | hr | hl => first | rfl | assumption | omega | ((first | refine ⟨?_, ?_⟩ | skip) <;> first | omega | (simp only [lN, hrn, hrnE, hfl, Hp.back, putAt, bakF, Blk.rnL, Blk.rn, Tv.rnL, Tv.rn, D.rnL, D.rn, Own.rn] <;> omega)) | (simp [elemsK, D.isVal, D.cells, D.closedL, D.closed, hrn, hrnE, hfl, Hp.back, putAt, bakF, Blk.rnL, Blk.rn, Tv.rnL, Tv.rn, D.rnL, D.rn, Own.rn]; first | done | omega)))
    | ((with_reducible apply s_app0); (case he => rfl); (case hK | hc | hr => first | rfl | assumption | omega | ((first | refine ⟨?_, ?_⟩ | skip) <;> first | omega | (simp only [lN, hrn, hrnE, hfl, Hp.back, putAt, bakF, Blk.rnL, Blk.rn, Tv.rnL, Tv.rn, D.rnL, D.rn, Own.rn] <;> omega)) | (simp [elemsK, D.isVal, D.cells, D.closedL, D.closed, hrn, hrnE, hfl, Hp.back, putAt, bakF, Blk.rnL, Blk.rn, Tv.rnL, Tv.rn, D.rnL, D.rn, Own.rn]; first | done | omega)))
    | ((with_reducible apply s_appF); (case he => rfl); (case hK | hc | hr | hx | hn => first | rfl | assumption | omega | ((first | refine ⟨?_, ?_⟩ | skip) <;> first | omega | (simp only [lN, hrn, hrnE, hfl, Hp.back, putAt, bakF, Blk.rnL, Blk.rn, Tv.rnL, Tv.rn, D.rnL, D.rn, Own.rn] <;> omega)) | (simp [elemsK, D.isVal, D.cells, D.closedL, D.closed, hrn, hrnE, hfl, Hp.back, putAt, bakF, Blk.rnL, Blk.rn, Tv.rnL, Tv.rn, D.rnL, D.rn, Own.rn]; first | done | omega)))
    | ((with_reducible apply s_bsl); (case he | hl | hc => first | rfl | assumption | omega | ((first | refine ⟨?_, ?_⟩ | skip) <;> first | omega | (simp only [lN, hrn, hrnE, hfl, Hp.back, putAt, bakF, Blk.rnL, Blk.rn, Tv.rnL, Tv.rn, D.rnL, D.rn, Own.rn] <;> omega)) | (simp [elemsK, D.isVal, D.cells, D.closedL, D.closed, hrn, hrnE, hfl, Hp.back, putAt, bakF, Blk.rnL, Blk.rn, Tv.rnL, Tv.rn, D.rnL, D.rn, Own.rn]; first | done | omega)))
    | ((with_reducible apply s_lkpS); (case h1 | hk => rfl); (case ha | hf => first | rfl | assumption | omega | ((first | refine ⟨?_, ?_⟩ | skip) <;> first | omega | (simp only [lN, hrn, hrnE, hfl, Hp.back, putAt, bakF, Blk.rnL, Blk.rn, Tv.rnL, Tv.rn, D.rnL, D.rn, Own.rn] <;> omega)) | (simp [elemsK, D.isVal, D.cells, D.closedL, D.closed, hrn, hrnE, hfl, Hp.back, putAt, bakF, Blk.rnL, Blk.rn, Tv.rnL, Tv.rn, D.rnL, D.rn, Own.rn]; first | done | omega)))
    | ((with_reducible apply s_lkpN); (case h1 | hk => rfl); (case hf | ha => first | rfl | assumption | omega | ((first | refine ⟨?_, ?_⟩ | skip) <;> first | omega | (simp only [lN, hrn, hrnE, hfl, Hp.back, putAt, bakF, Blk.rnL, Blk.rn, Tv.rnL, Tv.rn, D.rnL, D.rn, Own.rn] <;> omega)) | (simp [elemsK, D.isVal, D.cells, D.closedL, D.closed, hrn, hrnE, hfl, Hp.back, putAt, bakF, Blk.rnL, Blk.rn, Tv.rnL, Tv.rn, D.rnL, D.rn, Own.rn]; first | done | omega)))
    | with_reducible first | apply cd_dec | apply cd_eq | apply cd_ne | apply cd_split
    | ((with_reducible refine And.intro ?hw ?_); (case hw => first | omega | rfl | exact ⟨_, _, rfl⟩ | assumption | (simp only [lN, hrn, hrnE, hfl, Hp.back, putAt, bakF, Blk.rnL, Blk.rn, Tv.rnL, Tv.rn, D.rnL, D.rn, Own.rn] <;> omega)))
    | with_reducible intro _)
          all_goals first | omega | skip
          exact ⟨(i + 1, (rt (rt F i).1 k).1), ⟨by simp only; omega, hF3⟩, by simp only; omega, by simp [keepE, St.keep, ha, hl2, hfl, D.erL, D.er]⟩
        · have t1 : (((lb L i : Nat) : Int) == (lb L k : Nat)) = false := by rw [beq_eq_false_iff_ne]; omega
          repeat' (first
    | with_reducible first | apply swp_seq | apply swp_reg | apply swp_regD | apply swp_block | apply swp_exit | apply swp_ret | apply swp_skip | apply swp_cd
    | simp only [go_sem, seval, P16, q16, t0, t1, hrn, hrnE]
    | simp (disch := omega) only [w64, w32, wu8, wu16, wu32, wu64]
    | ((with_reducible refine o_eff [] [0] (cr) ?hs ?he ?hh ?_); (case hs => exact ⟨by simp, by simp, by simp, by simp⟩); (case he => first | rfl | (simp [go_sem, seval, hrn, hrnE, hfl, Hp.back, putAt, bakF, Blk.rnL, Blk.rn, Tv.rnL, Tv.rn, D.rnL, D.rn, Own.rn]; done)); (case hh => first | rfl | (simp [go_sem, seval, hrn, hrnE, hfl, Hp.back, putAt, bakF, Blk.rnL, Blk.rn, Tv.rnL, Tv.rn, D.rnL, D.rn, Own.rn]; done)); rintro _ _ ⟨rfl, rfl⟩)
    | ((with_reducible refine o_eff [] [0] (cr2) ?hs ?he ?hh ?_); (case hs => exact ⟨by simp, by simp, by simp, by simp⟩); (case he => first | rfl | (simp [go_sem, seval, hrn, hrnE, hfl, Hp.back, putAt, bakF, Blk.rnL, Blk.rn, Tv.rnL, Tv.rn, D.rnL, D.rn, Own.rn]; done)); (case hh => first | rfl | (simp [go_sem, seval, hrn, hrnE, hfl, Hp.back, putAt, bakF, Blk.rnL, Blk.rn, Tv.rnL, Tv.rn, D.rnL, D.rn, Own.rn]; done)); rintro _ _ ⟨rfl, rfl⟩)
    | ((with_reducible apply s_appT); (case he => rfl); (case hK | hc | hr | hV => first | rfl | assumption | omega | ((first | refine ⟨?_, ?_⟩ | skip) <;> first | omega | (simp only [lN, hrn, hrnE, hfl, Hp.back, putAt, bakF, Blk.rnL, Blk.rn, Tv.rnL, Tv.rn, D.rnL, D.rn, Own.rn] <;> omega)) | (simp [elemsK, D.isVal, D.cells, D.closedL, D.closed, hrn, hrnE, hfl, Hp.back, putAt, bakF, Blk.rnL, Blk.rn, Tv.rnL, Tv.rn, D.rnL, D.rn, Own.rn]; first | done | omega)))
    | ((with_reducible apply s_appG); (case he => rfl); (case hV | hK | hr | hl => first | rfl | assumption | omega | ((first | refine ⟨?_, ?_⟩ | skip) <;> first | omega | (simp only [lN, hrn, hrnE, hfl, Hp.back, putAt, bakF, Blk.rnL, Blk.rn, Tv.rnL, Tv.rn, D.rnL, D.rn, Own.rn] <;> omega)) | (simp [elemsK, D.isVal, D.cells, D.closedL, D.closed, hrn, hrnE, hfl, Hp.back, putAt, bakF, Blk.rnL, Blk.rn, Tv.rnL, Tv.rn, D.rnL, D.rn, Own.rn]; first | done | omega)))
    | ((with_reducible apply s_app0); (case he => rfl); (case hK | hc | hr => first | rfl | assumption | omega | ((first | refine ⟨?_, ?_⟩ | skip) <;> first | omega | (simp only [lN, hrn, hrnE, hfl, Hp.back, putAt, bakF, Blk.rnL, Blk.rn, Tv.rnL, Tv.rn, D.rnL, D.rn, Own.rn] <;> omega)) | (simp [elemsK, D.isVal, D.cells, D.closedL, D.closed, hrn, hrnE, hfl, Hp.back, putAt, bakF, Blk.rnL, Blk.rn, Tv.rnL, Tv.rn, D.rnL, D.rn, Own.rn]; first | done | omega)))
    | ((with_reducible apply s_appF); (case he => rfl); (case hK | hc | hr | hx | hn => first | rfl | assumption | omega | ((first | refine ⟨?_, ?_⟩ | skip) <;> first | omega | (simp only [lN, hrn, hrnE, hfl, Hp.back, putAt, bakF, Blk.rnL, Blk.rn, Tv.rnL, Tv.rn, D.rnL, D.rn, Own.rn] <;> omega)) | (simp [elemsK, D.isVal, D.cells, D.closedL, D.closed, hrn, hrnE, hfl, Hp.back, putAt, bakF, Blk.rnL, Blk.rn, Tv.rnL, Tv.rn, D.rnL, D.rn, Own.rn]; first | done | omega)))
    | ((with_reducible apply s_bsl); (case he | hl | hc => first | rfl | assumption | omega | ((first | refine ⟨?_, ?_⟩ | skip) <;> first | omega | (simp only [lN, hrn, hrnE, hfl, Hp.back, putAt, bakF, Blk.rnL, Blk.rn, Tv.rnL, Tv.rn, D.rnL, D.rn, Own.rn] <;> omega)) | (simp [elemsK, D.isVal, D.cells, D.closedL, D.closed, hrn, hrnE, hfl, Hp.back, putAt, bakF, Blk.rnL, Blk.rn, Tv.rnL, Tv.rn, D.rnL, D.rn, Own.rn]; first | done | omega)))
    | ((with_reducible apply s_lkpS); (case h1 | hk => rfl); (case ha | hf => first | rfl | assumption | omega | ((first | refine ⟨?_, ?_⟩ | skip) <;> first | omega | (simp only [lN, hrn, hrnE, hfl, Hp.back, putAt, bakF, Blk.rnL, Blk.rn, Tv.rnL, Tv.rn, D.rnL, D.rn, Own.rn] <;> omega)) | (simp [elemsK, D.isVal, D.cells, D.closedL, D.closed, hrn, hrnE, hfl, Hp.back, putAt, bakF, Blk.rnL, Blk.rn, Tv.rnL, Tv.rn, D.rnL, D.rn, Own.rn]; first | done | omega)))
    | ((with_reducible apply s_lkpN); (case h1 | hk => rfl); (case hf | ha => first | rfl | assumption | omega | ((first | refine ⟨?_, ?_⟩ | skip) <;> first | omega | (simp only [lN, hrn, hrnE, hfl, Hp.back, putAt, bakF, Blk.rnL, Blk.rn, Tv.rnL, Tv.rn, D.rnL, D.rn, Own.rn] <;> omega)) | (simp [elemsK, D.isVal, D.cells, D.closedL, D.closed, hrn, hrnE, hfl, Hp.back, putAt, bakF, Blk.rnL, Blk.rn, Tv.rnL, Tv.rn, D.rnL, D.rn, Own.rn]; first | done | omega)))
    | with_reducible first | apply cd_dec | apply cd_eq | apply cd_ne | apply cd_split
    | ((with_reducible refine And.intro ?hw ?_); (case hw => first | omega | rfl | exact ⟨_, _, rfl⟩ | assumption | (simp only [lN, hrn, hrnE, hfl, Hp.back, putAt, bakF, Blk.rnL, Blk.rn, Tv.rnL, Tv.rn, D.rnL, D.rn, Own.rn] <;> omega)))
    | with_reducible intro _)
          all_goals first | omega | skip
          exact ⟨(i + 1, (rt (rt F i).1 k).1), ⟨by simp only; omega, hF3⟩, by simp only; omega, by simp [keepE, St.keep, filtL_out he]⟩
      · have t0 : decide (((i : Nat) : Int) < l.length) = false := by simp; omega
        have : i = l.length := by omega
        subst this
        repeat' (first
    | with_reducible first | apply swp_seq | apply swp_reg | apply swp_regD | apply swp_block | apply swp_exit | apply swp_ret | apply swp_skip | apply swp_cd
    | simp only [go_sem, seval, P16, q16, t0]
    | simp (disch := omega) only [w64, w32, wu8, wu16, wu32, wu64]
    | ((with_reducible apply s_appT); (case he => rfl); (case hK | hc | hr | hV => first | rfl | assumption | omega | ((first | refine ⟨?_, ?_⟩ | skip) <;> first | omega | (simp only [lN] <;> omega)) | (simp [elemsK, D.isVal, D.cells, D.closedL, D.closed]; first | done | omega)))
    | ((with_reducible apply s_appG); (case he => rfl); (case hV | hK | hr | hl => first | rfl | assumption | omega | ((first | refine ⟨?_, ?_⟩ | skip) <;> first | omega | (simp only [lN] <;> omega)) | (simp [elemsK, D.isVal, D.cells, D.closedL, D.closed]; first | done | omega)))
    | ((with_reducible apply s_app0); (case he => rfl); (case hK | hc | hr => first | rfl | assumption | omega | ((first | refine ⟨?_, ?_⟩ | skip) <;> first | omega | (simp only [lN] <;> omega)) | (simp [elemsK, D.isVal, D.cells, D.closedL, D.closed]; first | done | omega)))
    | ((with_reducible apply s_appF); (case he => rfl); (case hK | hc | hr | hx | hn => first | rfl | assumption | omega | ((first | refine ⟨?_, ?_⟩ | skip) <;> first | omega | (simp only [lN] <;> omega)) | (simp [elemsK, D.isVal, D.cells, D.closedL, D.closed]; first | done | omega)))
    | ((with_reducible apply s_bsl); (case he | hl | hc => first | rfl | assumption | omega | ((first | refine ⟨?_, ?_⟩ | skip) <;> first | omega | (simp only [lN] <;> omega)) | (simp [elemsK, D.isVal, D.cells, D.closedL, D.closed]; first | done | omega)))
    | ((with_reducible apply s_lkpS); (case h1 | hk => rfl); (case ha | hf => first | rfl | assumption | omega | ((first | refine ⟨?_, ?_⟩ | skip) <;> first | omega | (simp only [lN] <;> omega)) | (simp [elemsK, D.isVal, D.cells, D.closedL, D.closed]; first | done | omega)))
    | ((with_reducible apply s_lkpN); (case h1 | hk => rfl); (case hf | ha => first | rfl | assumption | omega | ((first | refine ⟨?_, ?_⟩ | skip) <;> first | omega | (simp only [lN] <;> omega)) | (simp [elemsK, D.isVal, D.cells, D.closedL, D.closed]; first | done | omega)))
    | with_reducible first | apply cd_dec | apply cd_eq | apply cd_ne | apply cd_split
    | ((with_reducible refine And.intro ?hw ?_); (case hw => first | omega | rfl | exact ⟨_, _, rfl⟩ | assumption | (simp only [lN] <;> omega)))
    | with_reducible intro _)
        all_goals first | omega | skip
        exact ⟨_, weak_refl, by simp [D.closed], by simp [D.er]⟩
end Go.Proofs.Ytofnggfpegcllaa
end
section
set_option maxRecDepth 100000
set_option linter.unusedSimpArgs false
set_option linter.unusedVariables false
namespace Go.Proofs.Ytofnggfpegcllaa
open Go GoV Go.RowKit
def rcL : List Rp → List D
  | [] => []
  | r :: l => .slice (r.opts.map evD) .no :: .bool r.doubt :: rcL l
theorem rcL_flat : ∀ l : List Rp, flatD (l.map rpD) = rcL l
  | [] => rfl
  | r :: l => by simp [flatD, rcL, rcL_flat l, rpD, D.cells]
theorem rcL_len : ∀ l : List Rp, (rcL l).length = l.length * 2
  | [] => rfl
  | r :: l => by simp [rcL, rcL_len l]; omega
theorem rcL_rn (β τ : Nat → Option Nat) : ∀ l : List Rp, D.rnL β τ (rcL l) = rcL l
  | [] => rfl
  | r :: l => by simp [rcL, D.rnL, D.rn, rcL_rn β τ l, Own.rn]
theorem rc_get (U : List D) : ∀ {l : List Rp} {i : Nat} (h : i < l.length), ((rcL l ++ U).drop (i * 2)).take 2 = [.slice (l[i].opts.map evD) .no, .bool l[i].doubt]
  | r :: l, 0, _ => by simp [rcL]
  | r :: l, i + 1, h => by
    have := rc_get U (l := l) (i := i) (by simpa using h)
    have e : (i + 1) * 2 = i * 2 + 1 + 1 := by omega
    rw [e]
    simpa [rcL] using this
theorem rc_set (U : List D) (v : Rp) : ∀ {l : List Rp} {i : Nat} (h : i < l.length), ((rcL l ++ U).set (i * 2) (.slice (v.opts.map evD) .no)).set (i * 2 + 1) (.bool v.doubt) = rcL (l.set i v) ++ U
  | r :: l, 0, _ => by simp [rcL]
  | r :: l, i + 1, h => by
    have := rc_set U v (l := l) (i := i) (by simpa using h)
    have e : (i + 1) * 2 = i * 2 + 1 + 1 := by omega
    rw [e]
    simpa [rcL] using this
def del (r : Rp) : Bool := decide (choices r < 2)
theorem del_p (r : Rp) (hs : ∀ e ∈ r.opts, e.sh = true) : Pur M 33 [rpD r] (.bool (del r)) := by
  have c1 := choices_p r hs
  have hd : decide (((choices r : Nat) : Int) < 2) = del r := decide_eq_decide.2 (by omega)
  generalize choices r = c at *
  generalize del r = b at *
  unfold rpD at *
  refine ok33 rfl ?_
  rw [i33]
  unfold c33
  repeat' (first
    | with_reducible first | apply swp_seq | apply swp_reg | apply swp_regD | apply swp_block | apply swp_exit | apply swp_ret | apply swp_skip | apply swp_cd
    | simp only [go_sem, seval, P33, q33, hd]
    | simp (disch := omega) only [w64, w32, wu8, wu16, wu32, wu64]
    | ((with_reducible refine o_call (c1) ?he ?hc ?_); (case he | hc => first | rfl | (simp [D.erL, D.er, D.closedL, D.closed]; done)))
    | with_reducible first | apply cd_dec | apply cd_eq | apply cd_ne | apply cd_split
    | ((with_reducible refine And.intro ?hw ?_); (case hw => first | omega | rfl | exact ⟨_, _, rfl⟩ | assumption | (simp only [lN] <;> omega)))
    | with_reducible intro _)
  all_goals first | omega | simp [D.closed, D.er]
section
variable {P : Mod} {dst : Dst} {r : List RO} {K : St → Prop} {s : St} {n bytes : Nat} {ety : TypeId} {x : D} {es : List D}
theorem s_appR (t : Nat) (he : elemsOf s.hp n x = some es) (hK : elemsK n es = true) (hr : roomOk es.length bytes) (h0 : 0 < es.length) (ht : s.hp.tk[t]? = some (.chg n []))
    (h : opsWp P r K ({ s with hp := { s.hp with tk := s.hp.tk.set t (.chg n (flatD es)) } }.put dst (.gs t es.length))) : OpS P (.app n bytes ety) [.slice [] .full, x] dst r K s := by
  simp only [OpS, OcWp, isCall, Bool.false_eq_true, if_false, opWp]
  exact ⟨es, he, hK, by simpa using hr, .inr ⟨rfl, h0, t, ht, h⟩⟩
end
set_option maxHeartbeats 1000000 in
theorem clone_r (l : List Rp) (hl : l.length ≤ 1000) (h0 : 0 < l.length) : Eff M 32 [rpsD l] ⟨[], []⟩ fun d hp => ∃ cap, l.length ≤ cap ∧ d = .sl 0 2 0 l.length cap ∧ hp = ⟨[.cells (rcL l ++ und ((cap - l.length) * 2))], []⟩ := by
  have hlen : (l.map rpD).length = l.length := by simp
  have hfl := rcL_flat l
  have hel : elemsK 2 (l.map rpD) = true := elemsK_map rpD 2 R_isVal l
  have hrl := rcL_len l
  have hrn := fun β τ => rcL_rn β τ l
  refine oe32 0 0 rfl rfl rfl ?_
  rw [ie32]
  unfold c32
  obtain ⟨x, xs, hx⟩ : ∃ x xs, l.map rpD = x :: xs := by cases l with | nil => simp at h0 | cons a b => exact ⟨_, _, rfl⟩
  refine swp_weak (weak_resv 2 (by omega)) ?_
  generalize hrt : RC.ret = rt at *
  unfold rpsD
  rw [hx]
  simp only [List.nil_append]
  repeat' (first
    | with_reducible first | apply swp_seq | apply swp_reg | apply swp_regD | apply swp_block | apply swp_exit | apply swp_ret | apply swp_skip | apply swp_cd
    | simp only [go_sem, seval, pe32, q32]
    | simp (disch := omega) only [w64, w32, wu8, wu16, wu32, wu64]
    | ((with_reducible apply s_appT); (case he => rfl); (case hK | hc | hr | hV => first | rfl | assumption | omega | ((first | refine ⟨?_, ?_⟩ | skip) <;> first | omega | (simp only [lN, hlen] <;> omega)) | (simp [elemsK, D.isVal, D.cells, D.closedL, D.closed, hlen]; first | done | omega)))
    | ((with_reducible apply s_appG); (case he => rfl); (case hV | hK | hr | hl => first | rfl | assumption | omega | ((first | refine ⟨?_, ?_⟩ | skip) <;> first | omega | (simp only [lN, hlen] <;> omega)) | (simp [elemsK, D.isVal, D.cells, D.closedL, D.closed, hlen]; first | done | omega)))
    | ((with_reducible apply s_app0G); (case he => rfl); (case hK | hr => first | rfl | assumption | omega | ((first | refine ⟨?_, ?_⟩ | skip) <;> first | omega | (simp only [lN, hlen] <;> omega)) | (simp [elemsK, D.isVal, D.cells, D.closedL, D.closed, hlen]; first | done | omega)))
    | ((with_reducible apply s_bsl); (case he | hl | hc => first | rfl | assumption | omega | ((first | refine ⟨?_, ?_⟩ | skip) <;> first | omega | (simp only [lN, hlen] <;> omega)) | (simp [elemsK, D.isVal, D.cells, D.closedL, D.closed, hlen]; first | done | omega)))
    | with_reducible first | apply cd_dec | apply cd_eq | apply cd_ne | apply cd_split
    | ((with_reducible refine And.intro ?hw ?_); (case hw => first | omega | rfl | exact ⟨_, _, rfl⟩ | assumption | (simp only [lN, hlen] <;> omega)))
    | with_reducible intro _)
  refine s_appR 0 (x := .slice (x :: xs) .no) (es := x :: xs) rfl (by rw [← hx]; exact hel) (by rw [← hx, hlen]; exact ⟨by omega, by omega⟩) (by simp) rfl ?_
  rw [← hx, hfl, hlen]
  repeat' (first
    | with_reducible first | apply swp_seq | apply swp_reg | apply swp_regD | apply swp_block | apply swp_exit | apply swp_ret | apply swp_skip | apply swp_cd
    | simp only [go_sem, seval, pe32, q32]
    | simp (disch := omega) only [w64, w32, wu8, wu16, wu32, wu64]
    | ((with_reducible apply s_appT); (case he => rfl); (case hK | hc | hr | hV => first | rfl | assumption | omega | ((first | refine ⟨?_, ?_⟩ | skip) <;> first | omega | (simp only [lN, hlen] <;> omega)) | (simp [elemsK, D.isVal, D.cells, D.closedL, D.closed, hlen]; first | done | omega)))
    | ((with_reducible apply s_appG); (case he => rfl); (case hV | hK | hr | hl => first | rfl | assumption | omega | ((first | refine ⟨?_, ?_⟩ | skip) <;> first | omega | (simp only [lN, hlen] <;> omega)) | (simp [elemsK, D.isVal, D.cells, D.closedL, D.closed, hlen]; first | done | omega)))
    | ((with_reducible apply s_app0G); (case he => rfl); (case hK | hr => first | rfl | assumption | omega | ((first | refine ⟨?_, ?_⟩ | skip) <;> first | omega | (simp only [lN, hlen] <;> omega)) | (simp [elemsK, D.isVal, D.cells, D.closedL, D.closed, hlen]; first | done | omega)))
    | ((with_reducible apply s_bsl); (case he | hl | hc => first | rfl | assumption | omega | ((first | refine ⟨?_, ?_⟩ | skip) <;> first | omega | (simp only [lN, hlen] <;> omega)) | (simp [elemsK, D.isVal, D.cells, D.closedL, D.closed, hlen]; first | done | omega)))
    | with_reducible first | apply cd_dec | apply cd_eq | apply cd_ne | apply cd_split
    | ((with_reducible refine And.intro ?hw ?_); (case hw => first | omega | rfl | exact ⟨_, _, rfl⟩ | assumption | (simp only [lN, hlen] <;> omega)))
    | with_reducible intro _)
  rw [← hrt]
  refine swp_sl 1 0 2 l.length (rcL l) rfl rfl hrl (by unfold E32; rfl) h0 fun cap hc => ?_
  simp only [St.toSl, List.set_cons_zero, List.set_cons_succ, List.length_cons, List.length_nil, List.nil_append]
  have hu : List.replicate ((cap - l.length) * 2) D.undef = und ((cap - l.length) * 2) := rfl
  rw [hu]
  repeat' (first
    | with_reducible first | apply swp_seq | apply swp_reg | apply swp_regD | apply swp_block | apply swp_exit | apply swp_ret | apply swp_skip | apply swp_cd
    | simp only [go_sem, seval, pe32, q32]
    | simp (disch := omega) only [w64, w32, wu8, wu16, wu32, wu64]
    | ((with_reducible apply s_appT); (case he => rfl); (case hK | hc | hr | hV => first | rfl | assumption | omega | ((first | refine ⟨?_, ?_⟩ | skip) <;> first | omega | (simp only [lN, hlen] <;> omega)) | (simp [elemsK, D.isVal, D.cells, D.closedL, D.closed, hlen]; first | done | omega)))
    | ((with_reducible apply s_appG); (case he => rfl); (case hV | hK | hr | hl => first | rfl | assumption | omega | ((first | refine ⟨?_, ?_⟩ | skip) <;> first | omega | (simp only [lN, hlen] <;> omega)) | (simp [elemsK, D.isVal, D.cells, D.closedL, D.closed, hlen]; first | done | omega)))
    | ((with_reducible apply s_app0G); (case he => rfl); (case hK | hr => first | rfl | assumption | omega | ((first | refine ⟨?_, ?_⟩ | skip) <;> first | omega | (simp only [lN, hlen] <;> omega)) | (simp [elemsK, D.isVal, D.cells, D.closedL, D.closed, hlen]; first | done | omega)))
    | ((with_reducible apply s_bsl); (case he | hl | hc => first | rfl | assumption | omega | ((first | refine ⟨?_, ?_⟩ | skip) <;> first | omega | (simp only [lN, hlen] <;> omega)) | (simp [elemsK, D.isVal, D.cells, D.closedL, D.closed, hlen]; first | done | omega)))
    | with_reducible first | apply cd_dec | apply cd_eq | apply cd_ne | apply cd_split
    | ((with_reducible refine And.intro ?hw ?_); (case hw => first | omega | rfl | exact ⟨_, _, rfl⟩ | assumption | (simp only [lN, hlen] <;> omega)))
    | with_reducible intro _)
  refine ⟨_, weak_trans (weak_keep [1]) (weak_sel [0] [] ⟨by simp, by simp, by simp, by simp⟩ rfl rfl), ?_⟩
  have hrs : ∀ β τ, D.rnL β τ (rcL l ++ und ((cap - l.length) * 2)) = rcL l ++ und ((cap - l.length) * 2) := fun β τ => by rw [rnL_app, hrn, rnL_und]
  simp [St.sel, Hp.sel, keepE, D.rnL, D.rn, posF, idx, Blk.rn, Blk.rnL, Tv.rnL, Own.rn, hrs]
  exact ⟨cap, hc, rfl, rfl⟩
theorem dfirst (l : List Rp) : (∃ i, ∃ h : i < l.length, del l[i] = true ∧ ∀ j (g : j < i), del l[j] = false) ∨ ∀ r ∈ l, del r = false := by
  rcases first_of (p := fun r => del r = true) l with ⟨i, h, h1, h2⟩ | h
  · exact .inl ⟨i, h, h1, fun j g => by have := h2 j g; simpa using this⟩
  · refine .inr fun r hr => ?_
    obtain ⟨j, hj, rfl⟩ := List.getElem_of_mem hr
    have := h j hj; simpa using this
theorem ix44 (l : List Rp) (U : List D) (cap : Nat) (hl : l.length ≤ 1000) (hcap : l.length ≤ cap) (hs : Small l) (i : Nat) (hi : i < l.length) (he : del l[i] = true) (hm : ∀ j (h : j < i), del l[j] = false) :
    Eff M 44 [.sl 0 2 0 l.length cap, .fn (.func 33) [] []] ⟨[.cells (rcL l ++ U)], []⟩ fun d hp => d = .int .i64 (i : Nat) ∧ hp = ⟨[.cells (rcL l ++ U)], []⟩ := by
  refine oe44 1 0 rfl rfl rfl ?_
  rw [ie44]
  unfold c44
  have hrl := rcL_len l
  repeat' (first
    | with_reducible first | apply swp_seq | apply swp_reg | apply swp_regD | apply swp_block | apply swp_exit | apply swp_ret | apply swp_skip | apply swp_cd
    | simp only [go_sem, seval, pe44, q44]
    | simp (disch := omega) only [w64, w32, wu8, wu16, wu32, wu64]
    | with_reducible first | apply cd_dec | apply cd_eq | apply cd_ne | apply cd_split
    | ((with_reducible refine And.intro ?hw ?_); (case hw => first | omega | rfl | exact ⟨_, _, rfl⟩ | assumption | (simp only [lN] <;> omega)))
    | with_reducible intro _)
  refine swp_fam [0, 1, 4, 5] (fun j : Nat => ⟨[.sl 0 2 0 l.length cap, .fn (.func 33) [] [], .undef, .undef, .int .i64 l.length, .int .i64 j, .undef, .undef], [], ⟨[.cells (rcL l ++ U)], []⟩⟩) (fun j => j ≤ i) (fun j => l.length - j) 0 (by omega) ?_ ?_
  · simp [keepE, St.keep]
  · intro j hj
    have hjl : j < l.length := by omega
    have hg := rc_get U hjl
    have hgl : j * 2 + 2 ≤ (rcL l ++ U).length := by rw [List.length_append, hrl]; omega
    have c1 := del_p l[j] (hs _ (List.getElem_mem _))
    rw [show rpD l[j] = .agg [.slice (l[j].opts.map evD) .no, .bool l[j].doubt] from rfl] at c1
    have t0 : decide (((j : Nat) : Int) < l.length) = true := by simp; omega
    generalize rcL l ++ U = C at *
    by_cases e : j = i
    · subst e
      rw [he] at c1
      repeat' (first
    | with_reducible first | apply swp_seq | apply swp_reg | apply swp_regD | apply swp_block | apply swp_exit | apply swp_ret | apply swp_skip | apply swp_cd
    | simp only [go_sem, seval, pe44, q44, hg, t0, Nat.zero_add]
    | simp (disch := omega) only [w64, w32, wu8, wu16, wu32, wu64]
    | ((with_reducible refine o_call (c1) ?he ?hc ?_); (case he | hc => first | rfl | (simp [D.erL, D.er, D.closedL, D.closed]; done)))
    | with_reducible first | apply cd_dec | apply cd_eq | apply cd_ne | apply cd_split
    | ((with_reducible refine And.intro ?hw ?_); (case hw => first | omega | rfl | exact ⟨_, _, rfl⟩ | assumption | (simp only [lN] <;> omega)))
    | with_reducible intro _)
      all_goals first | omega | skip
      exact ⟨_, weak_refl, rfl, rfl⟩
    · rw [hm j (by omega)] at c1
      repeat' (first
    | with_reducible first | apply swp_seq | apply swp_reg | apply swp_regD | apply swp_block | apply swp_exit | apply swp_ret | apply swp_skip | apply swp_cd
    | simp only [go_sem, seval, pe44, q44, hg, t0, Nat.zero_add]
    | simp (disch := omega) only [w64, w32, wu8, wu16, wu32, wu64]
    | ((with_reducible refine o_call (c1) ?he ?hc ?_); (case he | hc => first | rfl | (simp [D.erL, D.er, D.closedL, D.closed]; done)))
    | with_reducible first | apply cd_dec | apply cd_eq | apply cd_ne | apply cd_split
    | ((with_reducible refine And.intro ?hw ?_); (case hw => first | omega | rfl | exact ⟨_, _, rfl⟩ | assumption | (simp only [lN] <;> omega)))
    | with_reducible intro _)
      all_goals first | omega | skip
      exact ⟨j + 1, by omega, by omega, by simp [St.keep, keepE]⟩
theorem ix44n (l : List Rp) (U : List D) (cap : Nat) (hl : l.length ≤ 1000) (hcap : l.length ≤ cap) (hs : Small l) (hm : ∀ r ∈ l, del r = false) :
    Eff M 44 [.sl 0 2 0 l.length cap, .fn (.func 33) [] []] ⟨[.cells (rcL l ++ U)], []⟩ fun d hp => d = .int .i64 (-1) ∧ hp = ⟨[.cells (rcL l ++ U)], []⟩ := by
  refine oe44 1 0 rfl rfl rfl ?_
  rw [ie44]
  unfold c44
  have hrl := rcL_len l
  repeat' (first
    | with_reducible first | apply swp_seq | apply swp_reg | apply swp_regD | apply swp_block | apply swp_exit | apply swp_ret | apply swp_skip | apply swp_cd
    | simp only [go_sem, seval, pe44, q44]
    | simp (disch := omega) only [w64, w32, wu8, wu16, wu32, wu64]
    | with_reducible first | apply cd_dec | apply cd_eq | apply cd_ne | apply cd_split
    | ((with_reducible refine And.intro ?hw ?_); (case hw => first | omega | rfl | exact ⟨_, _, rfl⟩ | assumption | (simp only [lN] <;> omega)))
    | with_reducible intro _)
  refine swp_fam [0, 1, 4, 5] (fun j : Nat => ⟨[.sl 0 2 0 l.length cap, .fn (.func 33) [] [], .undef, .undef, .int .i64 l.length, .int .i64 j, .undef, .undef], [], ⟨[.cells (rcL l ++ U)], []⟩⟩) (fun j => j ≤ l.length) (fun j => l.length - j) 0 (by omega) ?_ ?_
  · simp [keepE, St.keep]
  · intro j hj
    by_cases hjl : j < l.length
    · have hg := rc_get U hjl
      have hgl : j * 2 + 2 ≤ (rcL l ++ U).length := by rw [List.length_append, hrl]; omega
      have c1 := del_p l[j] (hs _ (List.getElem_mem _))
      rw [show rpD l[j] = .agg [.slice (l[j].opts.map evD) .no, .bool l[j].doubt] from rfl] at c1
      have t0 : decide (((j : Nat) : Int) < l.length) = true := by simp; omega
      generalize rcL l ++ U = C at *
      rw [hm _ (List.getElem_mem _)] at c1
      repeat' (first
    | with_reducible first | apply swp_seq | apply swp_reg | apply swp_regD | apply swp_block | apply swp_exit | apply swp_ret | apply swp_skip | apply swp_cd
    | simp only [go_sem, seval, pe44, q44, hg, t0, Nat.zero_add]
    | simp (disch := omega) only [w64, w32, wu8, wu16, wu32, wu64]
    | ((with_reducible refine o_call (c1) ?he ?hc ?_); (case he | hc => first | rfl | (simp [D.erL, D.er, D.closedL, D.closed]; done)))
    | with_reducible first | apply cd_dec | apply cd_eq | apply cd_ne | apply cd_split
    | ((with_reducible refine And.intro ?hw ?_); (case hw => first | omega | rfl | exact ⟨_, _, rfl⟩ | assumption | (simp only [lN] <;> omega)))
    | with_reducible intro _)
      all_goals first | omega | skip
      exact ⟨j + 1, by omega, by omega, by simp [St.keep, keepE]⟩
    · have t0 : decide (((j : Nat) : Int) < l.length) = false := by simp; omega
      repeat' (first
    | with_reducible first | apply swp_seq | apply swp_reg | apply swp_regD | apply swp_block | apply swp_exit | apply swp_ret | apply swp_skip | apply swp_cd
    | simp only [go_sem, seval, pe44, q44, t0]
    | simp (disch := omega) only [w64, w32, wu8, wu16, wu32, wu64]
    | with_reducible first | apply cd_dec | apply cd_eq | apply cd_ne | apply cd_split
    | ((with_reducible refine And.intro ?hw ?_); (case hw => first | omega | rfl | exact ⟨_, _, rfl⟩ | assumption | (simp only [lN] <;> omega)))
    | with_reducible intro _)
      all_goals first | omega | skip
      exact ⟨_, weak_refl, rfl, rfl⟩
theorem keeps_snoc {l : List Rp} {j : Nat} (h : j < l.length) : (l.take (j + 1)).countP (fun r => !(del r)) = (l.take j).countP (fun r => !(del r)) + if del l[j] then 0 else 1 := by
  rw [List.take_succ_eq_append_getElem h, List.countP_append, List.countP_cons, List.countP_nil]
  cases del l[j] <;> simp
theorem doubts_keep (l : List Rp) : l.countP (fun r => !(del r)) = doubtsR l := by
  unfold doubtsR
  congr 1
  funext r
  unfold del
  rw [Bool.eq_iff_iff]
  simp
set_option maxHeartbeats 2000000 in
theorem del31 (l : List Rp) (u cap : Nat) (hl : l.length ≤ 1000) (hcap : l.length + u = cap) (hs : Small l) :
    Eff M 31 [.sl 0 2 0 l.length cap, .fn (.func 33) [] []] ⟨[.cells (rcL l ++ und (u * 2))], []⟩ fun d hp => d = .sl 0 2 0 (doubtsR l) cap ∧ ∃ Z, hp = ⟨[.cells Z], []⟩ := by
  have hrl := rcL_len l
  rw [← doubts_keep]
  rcases dfirst l with ⟨i, hi, h1, h2⟩ | h
  · have c1 := ix44 l (und (u * 2)) cap hl (by omega) hs i hi h1 h2
    have hrn : ∀ β τ l, D.rnL β τ (rcL l ++ und (u * 2)) = rcL l ++ und (u * 2) := fun β τ l => by rw [rnL_app, rcL_rn, rnL_und]
    refine oe31 1 0 rfl rfl rfl ?_
    rw [ie31]
    unfold c31
    have t1 : (((i : Nat) : Int) == -1) = false := by rw [beq_eq_false_iff_ne]; omega
    repeat' (first
    | with_reducible first | apply swp_seq | apply swp_reg | apply swp_regD | apply swp_block | apply swp_exit | apply swp_ret | apply swp_skip | apply swp_cd
    | simp only [go_sem, seval, pe31, q31, t1, hrn]
    | simp (disch := omega) only [w64, w32, wu8, wu16, wu32, wu64]
    | ((with_reducible refine o_same (c1) ?he ?hh ?_); (case he => first | rfl | (simp [go_sem, seval, hrn]; done)); (case hh => first | rfl | (simp [go_sem, seval, hrn]; done)))
    | ((with_reducible apply s_slFF); (case hx => first | rfl | assumption | omega | ((first | refine ⟨?_, ?_⟩ | skip) <;> first | omega | (simp only [lN, hrn] <;> omega)) | (simp [elemsK, D.isVal, D.cells, D.closedL, D.closed, hrn]; first | done | omega)))
    | ((with_reducible first | apply s_slTF | apply s_slFT); (case h0 | h1 | hx => first | rfl | assumption | omega | ((first | refine ⟨?_, ?_⟩ | skip) <;> first | omega | (simp only [lN, hrn] <;> omega)) | (simp [elemsK, D.isVal, D.cells, D.closedL, D.closed, hrn]; first | done | omega)))
    | ((with_reducible apply s_slTT); (case h0 | h1 | h2 | hx => first | rfl | assumption | omega | ((first | refine ⟨?_, ?_⟩ | skip) <;> first | omega | (simp only [lN, hrn] <;> omega)) | (simp [elemsK, D.isVal, D.cells, D.closedL, D.closed, hrn]; first | done | omega)))
    | ((with_reducible first | apply s_smTF | apply s_smFT); (case h0 | h1 | hc => first | rfl | assumption | omega | ((first | refine ⟨?_, ?_⟩ | skip) <;> first | omega | (simp only [lN, hrn] <;> omega)) | (simp [elemsK, D.isVal, D.cells, D.closedL, D.closed, hrn]; first | done | omega)))
    | ((with_reducible apply s_smTT); (case h0 | h1 | h2 | hc => first | rfl | assumption | omega | ((first | refine ⟨?_, ?_⟩ | skip) <;> first | omega | (simp only [lN, hrn] <;> omega)) | (simp [elemsK, D.isVal, D.cells, D.closedL, D.closed, hrn]; first | done | omega)))
    | ((with_reducible apply s_clr); (case h1 => rfl); (case h2 | h3 => first | rfl | assumption | omega | ((first | refine ⟨?_, ?_⟩ | skip) <;> first | omega | (simp only [lN, hrn] <;> omega)) | (simp [elemsK, D.isVal, D.cells, D.closedL, D.closed, hrn]; first | done | omega)))
    | with_reducible first | apply cd_dec | apply cd_eq | apply cd_ne | apply cd_split
    | ((with_reducible refine And.intro ?hw ?_); (case hw => first | omega | rfl | exact ⟨_, _, rfl⟩ | assumption | (simp only [lN, hrn] <;> omega)))
    | with_reducible intro _)
    all_goals first | omega | skip
    refine swp_famG [0, 1, 3, 4] 1 0 (by unfold E31; exact Nat.le_refl 1) (by unfold E31; exact Nat.le_refl 0) (fun p : Nat × Nat × List Rp => ⟨[.sl 0 2 0 l.length cap, .fn (.func 33) [] [], .undef, .int .i64 (p.1 : Nat), .int .i64 (p.2.1 : Nat), .undef, .undef, .undef, .undef], [], ⟨[.cells (rcL p.2.2 ++ und (u * 2))], []⟩⟩)
      (fun p => p.1 < p.2.1 ∧ p.2.1 ≤ l.length ∧ p.2.2.length = l.length ∧ p.2.2.drop p.2.1 = l.drop p.2.1 ∧ p.1 = (l.take p.2.1).countP (fun r => !(del r))) (fun p => l.length - p.2.1) (i, i + 1, l) ⟨by simp only; omega, by simp only; omega, rfl, rfl, ?_⟩ ?_ ?_
    · simp only
      rw [keeps_snoc hi, h1]
      simp only [if_true, Nat.add_zero]
      symm
      have : ∀ j, j ≤ i → (l.take j).countP (fun r => !(del r)) = j := fun j => by
        induction j with
        | zero => intro _; simp
        | succ j ih => intro hj; rw [keeps_snoc (by omega), ih (by omega), h2 j (by omega)]; rfl
      exact this i (Nat.le_refl i)
    · simp [keepE, St.keep, St.keepG, St.gc, Hp.cut, D.rn, D.rnL, Blk.rnL, Blk.rn, Tv.rnL, cutF, hrn]
    · rintro ⟨a, j, S⟩ ⟨g1, g2, g3, g4, g5⟩
      simp only at g1 g2 g3 g4 g5 ⊢
      have hrS := rcL_len S
      by_cases hj : j < l.length
      · have t0 : decide (((j : Nat) : Int) < l.length) = true := by simp; omega
        have hSj : S[j]'(by omega) = l[j] := by
          have e1 : (S.drop j)[0]? = (l.drop j)[0]? := by rw [g4]
          simpa [List.getElem?_drop, show j < S.length by omega, hj] using e1
        have hg := rc_get (und (u * 2)) (l := S) (i := j) (by omega)
        rw [hSj] at hg
        have hgl : j * 2 + 2 ≤ (rcL S ++ und (u * 2)).length := by rw [List.length_append, hrS]; omega
        have hgl2 : a * 2 + 2 ≤ (rcL S ++ und (u * 2)).length := by omega
        have hst := rc_set (und (u * 2)) l[j] (l := S) (i := a) (by omega)
        have c2 := del_p l[j] (hs _ (List.getElem_mem _))
        rw [show rpD l[j] = .agg [.slice (l[j].opts.map evD) .no, .bool l[j].doubt] from rfl] at c2
        have hk := keeps_snoc hj
        have hrS1 := fun β τ => hrn β τ S
        have hrS2 := fun β τ => hrn β τ (S.set a l[j])
        cases hd : del l[j]
        · rw [hd] at c2 hk
          rw [← hst] at hrS2
          generalize rcL S ++ und (u * 2) = C at *
          repeat' (first
    | with_reducible first | apply swp_seq | apply swp_reg | apply swp_regD | apply swp_block | apply swp_exit | apply swp_ret | apply swp_skip | apply swp_cd
    | simp only [go_sem, seval, pe31, q31, hg, t0, Nat.zero_add, setL]
    | simp (disch := omega) only [w64, w32, wu8, wu16, wu32, wu64]
    | ((with_reducible refine o_call (c2) ?he ?hc ?_); (case he | hc => first | rfl | (simp [D.erL, D.er, D.closedL, D.closed]; done)))
    | ((with_reducible apply s_slFF); (case hx => first | rfl | assumption | omega | ((first | refine ⟨?_, ?_⟩ | skip) <;> first | omega | (simp only [lN] <;> omega)) | (simp [elemsK, D.isVal, D.cells, D.closedL, D.closed]; first | done | omega)))
    | ((with_reducible first | apply s_slTF | apply s_slFT); (case h0 | h1 | hx => first | rfl | assumption | omega | ((first | refine ⟨?_, ?_⟩ | skip) <;> first | omega | (simp only [lN] <;> omega)) | (simp [elemsK, D.isVal, D.cells, D.closedL, D.closed]; first | done | omega)))
    | ((with_reducible apply s_slTT); (case h0 | h1 | h2 | hx => first | rfl | assumption | omega | ((first | refine ⟨?_, ?_⟩ | skip) <;> first | omega | (simp only [lN] <;> omega)) | (simp [elemsK, D.isVal, D.cells, D.closedL, D.closed]; first | done | omega)))
    | ((with_reducible first | apply s_smTF | apply s_smFT); (case h0 | h1 | hc => first | rfl | assumption | omega | ((first | refine ⟨?_, ?_⟩ | skip) <;> first | omega | (simp only [lN] <;> omega)) | (simp [elemsK, D.isVal, D.cells, D.closedL, D.closed]; first | done | omega)))
    | ((with_reducible apply s_smTT); (case h0 | h1 | h2 | hc => first | rfl | assumption | omega | ((first | refine ⟨?_, ?_⟩ | skip) <;> first | omega | (simp only [lN] <;> omega)) | (simp [elemsK, D.isVal, D.cells, D.closedL, D.closed]; first | done | omega)))
    | ((with_reducible apply s_clr); (case h1 => rfl); (case h2 | h3 => first | rfl | assumption | omega | ((first | refine ⟨?_, ?_⟩ | skip) <;> first | omega | (simp only [lN] <;> omega)) | (simp [elemsK, D.isVal, D.cells, D.closedL, D.closed]; first | done | omega)))
    | with_reducible first | apply cd_dec | apply cd_eq | apply cd_ne | apply cd_split
    | ((with_reducible refine And.intro ?hw ?_); (case hw => first | omega | rfl | exact ⟨_, _, rfl⟩ | assumption | (simp only [lN] <;> omega)))
    | with_reducible intro _)
          all_goals first | omega | skip
          refine ⟨(a + 1, j + 1, S.set a l[j]), ⟨by simp only; omega, by simp only; omega, by simp [g3], ?_, by simp only [Bool.false_eq_true, if_false] at hk; simp only; omega⟩, by simp only; omega, ?_⟩
          · simp only
            rw [List.drop_set_of_lt (by omega)]
            have := congrArg (List.drop 1) g4
            simpa [List.drop_drop] using this
          · simp only
            rw [← hst]
            simp [keepE, St.keep, St.keepG, St.gc, Hp.cut, D.rn, D.rnL, Blk.rnL, Blk.rn, Tv.rnL, cutF, hrS2]
        · rw [hd] at c2 hk
          have hC : rcL S ++ und (u * 2) = rcL S ++ und (u * 2) := rfl
          generalize hCe : rcL S ++ und (u * 2) = C at *
          repeat' (first
    | with_reducible first | apply swp_seq | apply swp_reg | apply swp_regD | apply swp_block | apply swp_exit | apply swp_ret | apply swp_skip | apply swp_cd
    | simp only [go_sem, seval, pe31, q31, hg, t0, Nat.zero_add, setL]
    | simp (disch := omega) only [w64, w32, wu8, wu16, wu32, wu64]
    | ((with_reducible refine o_call (c2) ?he ?hc ?_); (case he | hc => first | rfl | (simp [D.erL, D.er, D.closedL, D.closed]; done)))
    | ((with_reducible apply s_slFF); (case hx => first | rfl | assumption | omega | ((first | refine ⟨?_, ?_⟩ | skip) <;> first | omega | (simp only [lN] <;> omega)) | (simp [elemsK, D.isVal, D.cells, D.closedL, D.closed]; first | done | omega)))
    | ((with_reducible first | apply s_slTF | apply s_slFT); (case h0 | h1 | hx => first | rfl | assumption | omega | ((first | refine ⟨?_, ?_⟩ | skip) <;> first | omega | (simp only [lN] <;> omega)) | (simp [elemsK, D.isVal, D.cells, D.closedL, D.closed]; first | done | omega)))
    | ((with_reducible apply s_slTT); (case h0 | h1 | h2 | hx => first | rfl | assumption | omega | ((first | refine ⟨?_, ?_⟩ | skip) <;> first | omega | (simp only [lN] <;> omega)) | (simp [elemsK, D.isVal, D.cells, D.closedL, D.closed]; first | done | omega)))
    | ((with_reducible first | apply s_smTF | apply s_smFT); (case h0 | h1 | hc => first | rfl | assumption | omega | ((first | refine ⟨?_, ?_⟩ | skip) <;> first | omega | (simp only [lN] <;> omega)) | (simp [elemsK, D.isVal, D.cells, D.closedL, D.closed]; first | done | omega)))
    | ((with_reducible apply s_smTT); (case h0 | h1 | h2 | hc => first | rfl | assumption | omega | ((first | refine ⟨?_, ?_⟩ | skip) <;> first | omega | (simp only [lN] <;> omega)) | (simp [elemsK, D.isVal, D.cells, D.closedL, D.closed]; first | done | omega)))
    | ((with_reducible apply s_clr); (case h1 => rfl); (case h2 | h3 => first | rfl | assumption | omega | ((first | refine ⟨?_, ?_⟩ | skip) <;> first | omega | (simp only [lN] <;> omega)) | (simp [elemsK, D.isVal, D.cells, D.closedL, D.closed]; first | done | omega)))
    | with_reducible first | apply cd_dec | apply cd_eq | apply cd_ne | apply cd_split
    | ((with_reducible refine And.intro ?hw ?_); (case hw => first | omega | rfl | exact ⟨_, _, rfl⟩ | assumption | (simp only [lN] <;> omega)))
    | with_reducible intro _)
          all_goals first | omega | skip
          refine ⟨(a, j + 1, S), ⟨by simp only; omega, by simp only; omega, g3, ?_, by simp only [if_true] at hk; simp only; omega⟩, by simp only; omega, ?_⟩
          · simp only
            have := congrArg (List.drop 1) g4
            simpa [List.drop_drop] using this
          · simp only
            rw [hCe]
            simp [keepE, St.keep, St.keepG, St.gc, Hp.cut, D.rn, D.rnL, Blk.rnL, Blk.rn, Tv.rnL, cutF, hrS1]
      · have t0 : decide (((j : Nat) : Int) < l.length) = false := by simp; omega
        have : j = l.length := by omega
        subst this
        rw [List.take_length] at g5
        have hgl : (rcL S ++ und (u * 2)).length = cap * 2 := by rw [List.length_append, hrS, und_len]; omega
        subst g5
        generalize l.countP (fun r => !(del r)) = a at *
        generalize rcL S ++ und (u * 2) = C at *
        repeat' (first
    | with_reducible first | apply swp_seq | apply swp_reg | apply swp_regD | apply swp_block | apply swp_exit | apply swp_ret | apply swp_skip | apply swp_cd
    | simp only [go_sem, seval, pe31, q31, t0, dlen, Nat.zero_add]
    | simp (disch := omega) only [w64, w32, wu8, wu16, wu32, wu64]
    | ((with_reducible apply s_slFF); (case hx => first | rfl | assumption | omega | ((first | refine ⟨?_, ?_⟩ | skip) <;> first | omega | (simp only [lN, hgl, dlen] <;> omega)) | (simp [elemsK, D.isVal, D.cells, D.closedL, D.closed, hgl, dlen]; first | done | omega)))
    | ((with_reducible first | apply s_slTF | apply s_slFT); (case h0 | h1 | hx => first | rfl | assumption | omega | ((first | refine ⟨?_, ?_⟩ | skip) <;> first | omega | (simp only [lN, hgl, dlen] <;> omega)) | (simp [elemsK, D.isVal, D.cells, D.closedL, D.closed, hgl, dlen]; first | done | omega)))
    | ((with_reducible apply s_slTT); (case h0 | h1 | h2 | hx => first | rfl | assumption | omega | ((first | refine ⟨?_, ?_⟩ | skip) <;> first | omega | (simp only [lN, hgl, dlen] <;> omega)) | (simp [elemsK, D.isVal, D.cells, D.closedL, D.closed, hgl, dlen]; first | done | omega)))
    | ((with_reducible first | apply s_smTF | apply s_smFT); (case h0 | h1 | hc => first | rfl | assumption | omega | ((first | refine ⟨?_, ?_⟩ | skip) <;> first | omega | (simp only [lN, hgl, dlen] <;> omega)) | (simp [elemsK, D.isVal, D.cells, D.closedL, D.closed, hgl, dlen]; first | done | omega)))
    | ((with_reducible apply s_smTT); (case h0 | h1 | h2 | hc => first | rfl | assumption | omega | ((first | refine ⟨?_, ?_⟩ | skip) <;> first | omega | (simp only [lN, hgl, dlen] <;> omega)) | (simp [elemsK, D.isVal, D.cells, D.closedL, D.closed, hgl, dlen]; first | done | omega)))
    | ((with_reducible apply s_clr); (case h1 => rfl); (case h2 | h3 => first | rfl | assumption | omega | ((first | refine ⟨?_, ?_⟩ | skip) <;> first | omega | (simp only [lN, hgl, dlen] <;> omega)) | (simp [elemsK, D.isVal, D.cells, D.closedL, D.closed, hgl, dlen]; first | done | omega)))
    | with_reducible first | apply cd_dec | apply cd_eq | apply cd_ne | apply cd_split
    | ((with_reducible refine And.intro ?hw ?_); (case hw => first | omega | rfl | exact ⟨_, _, rfl⟩ | assumption | (simp only [lN, hgl, dlen] <;> omega)))
    | with_reducible intro _)
        all_goals first | omega | skip
        exact ⟨_, weak_refl, rfl, _, rfl⟩
  · have c1 := ix44n l (und (u * 2)) cap hl (by omega) hs h
    have hrn : ∀ β τ l, D.rnL β τ (rcL l ++ und (u * 2)) = rcL l ++ und (u * 2) := fun β τ l => by rw [rnL_app, rcL_rn, rnL_und]
    have hall : l.countP (fun r => !(del r)) = l.length := List.countP_eq_length.2 fun r hr => by rw [h r hr]; rfl
    rw [hall]
    refine oe31 1 0 rfl rfl rfl ?_
    rw [ie31]
    unfold c31
    repeat' (first
    | with_reducible first | apply swp_seq | apply swp_reg | apply swp_regD | apply swp_block | apply swp_exit | apply swp_ret | apply swp_skip | apply swp_cd
    | simp only [go_sem, seval, pe31, q31, hrn]
    | simp (disch := omega) only [w64, w32, wu8, wu16, wu32, wu64]
    | ((with_reducible refine o_same (c1) ?he ?hh ?_); (case he => first | rfl | (simp [go_sem, seval, hrn]; done)); (case hh => first | rfl | (simp [go_sem, seval, hrn]; done)))
    | ((with_reducible apply s_slFF); (case hx => first | rfl | assumption | omega | ((first | refine ⟨?_, ?_⟩ | skip) <;> first | omega | (simp only [lN, hrn] <;> omega)) | (simp [elemsK, D.isVal, D.cells, D.closedL, D.closed, hrn]; first | done | omega)))
    | ((with_reducible first | apply s_slTF | apply s_slFT); (case h0 | h1 | hx => first | rfl | assumption | omega | ((first | refine ⟨?_, ?_⟩ | skip) <;> first | omega | (simp only [lN, hrn] <;> omega)) | (simp [elemsK, D.isVal, D.cells, D.closedL, D.closed, hrn]; first | done | omega)))
    | ((with_reducible apply s_slTT); (case h0 | h1 | h2 | hx => first | rfl | assumption | omega | ((first | refine ⟨?_, ?_⟩ | skip) <;> first | omega | (simp only [lN, hrn] <;> omega)) | (simp [elemsK, D.isVal, D.cells, D.closedL, D.closed, hrn]; first | done | omega)))
    | ((with_reducible first | apply s_smTF | apply s_smFT); (case h0 | h1 | hc => first | rfl | assumption | omega | ((first | refine ⟨?_, ?_⟩ | skip) <;> first | omega | (simp only [lN, hrn] <;> omega)) | (simp [elemsK, D.isVal, D.cells, D.closedL, D.closed, hrn]; first | done | omega)))
    | ((with_reducible apply s_smTT); (case h0 | h1 | h2 | hc => first | rfl | assumption | omega | ((first | refine ⟨?_, ?_⟩ | skip) <;> first | omega | (simp only [lN, hrn] <;> omega)) | (simp [elemsK, D.isVal, D.cells, D.closedL, D.closed, hrn]; first | done | omega)))
    | ((with_reducible apply s_clr); (case h1 => rfl); (case h2 | h3 => first | rfl | assumption | omega | ((first | refine ⟨?_, ?_⟩ | skip) <;> first | omega | (simp only [lN, hrn] <;> omega)) | (simp [elemsK, D.isVal, D.cells, D.closedL, D.closed, hrn]; first | done | omega)))
    | with_reducible first | apply cd_dec | apply cd_eq | apply cd_ne | apply cd_split
    | ((with_reducible refine And.intro ?hw ?_); (case hw => first | omega | rfl | exact ⟨_, _, rfl⟩ | assumption | (simp only [lN, hrn] <;> omega)))
    | with_reducible intro _)
    all_goals first | omega | skip
    exact ⟨_, weak_refl, rfl, _, rfl⟩
theorem o_sameR {P : Mod} {f : FuncId} {first cap args ds : List D} {hp0 : Hp} {R : D → Hp → Prop} {dst : Dst} {r : List RO} {K : St → Prop} {s : St} (h : Eff P f args hp0 R) (he : first ++ ds ++ cap = args) (hh : s.hp = hp0)
    (hk : ∀ d hp1, R d hp1 → opsWp P r K ({ s with hp := hp1 }.put dst d)) : OpS P .call (.fn (.func f) first cap :: ds) dst r K s := by
  unfold OpS OcWp
  simp only [isCall, if_true]
  subst he; subst hh
  exact call_same h hk
theorem clone_nil : Pur M 32 [.slice [] .no] (.slice [] .no) := by
  refine ow32 rfl ?_
  rw [i32]
  unfold c32
  repeat' (first
    | with_reducible first | apply swp_seq | apply swp_reg | apply swp_regD | apply swp_block | apply swp_exit | apply swp_ret | apply swp_skip | apply swp_cd
    | simp only [go_sem, seval, P32, q32]
    | simp (disch := omega) only [w64, w32, wu8, wu16, wu32, wu64]
    | ((with_reducible apply s_appT); (case he => rfl); (case hK | hc | hr | hV => first | rfl | assumption | omega | ((first | refine ⟨?_, ?_⟩ | skip) <;> first | omega | (simp only [lN] <;> omega)) | (simp [elemsK, D.isVal, D.cells, D.closedL, D.closed]; first | done | omega)))
    | ((with_reducible apply s_appG); (case he => rfl); (case hV | hK | hr | hl => first | rfl | assumption | omega | ((first | refine ⟨?_, ?_⟩ | skip) <;> first | omega | (simp only [lN] <;> omega)) | (simp [elemsK, D.isVal, D.cells, D.closedL, D.closed]; first | done | omega)))
    | ((with_reducible apply s_app0); (case he => rfl); (case hK | hc | hr => first | rfl | assumption | omega | ((first | refine ⟨?_, ?_⟩ | skip) <;> first | omega | (simp only [lN] <;> omega)) | (simp [elemsK, D.isVal, D.cells, D.closedL, D.closed]; first | done | omega)))
    | ((with_reducible apply s_appF); (case he => rfl); (case hK | hc | hr | hx | hn => first | rfl | assumption | omega | ((first | refine ⟨?_, ?_⟩ | skip) <;> first | omega | (simp only [lN] <;> omega)) | (simp [elemsK, D.isVal, D.cells, D.closedL, D.closed]; first | done | omega)))
    | ((with_reducible apply s_bsl); (case he | hl | hc => first | rfl | assumption | omega | ((first | refine ⟨?_, ?_⟩ | skip) <;> first | omega | (simp only [lN] <;> omega)) | (simp [elemsK, D.isVal, D.cells, D.closedL, D.closed]; first | done | omega)))
    | with_reducible first | apply cd_dec | apply cd_eq | apply cd_ne | apply cd_split
    | ((with_reducible refine And.intro ?hw ?_); (case hw => first | omega | rfl | exact ⟨_, _, rfl⟩ | assumption | (simp only [lN] <;> omega)))
    | with_reducible intro _)
  all_goals refine ⟨_, weak_nn, ?_, ?_⟩
  all_goals simp [D.nnL, D.nn, D.closed, D.er, D.erL]
theorem ix44_nil : Pur M 44 [.slice [] .no, .fn (.func 33) [] []] (.int .i64 (-1)) := by
  refine ok44 rfl ?_
  rw [i44]
  unfold c44
  repeat' (first
    | with_reducible first | apply swp_seq | apply swp_reg | apply swp_regD | apply swp_block | apply swp_exit | apply swp_ret | apply swp_skip | apply swp_cd
    | simp only [go_sem, seval, P44, q44]
    | simp (disch := omega) only [w64, w32, wu8, wu16, wu32, wu64]
    | with_reducible first | apply cd_dec | apply cd_eq | apply cd_ne | apply cd_split
    | ((with_reducible refine And.intro ?hw ?_); (case hw => first | omega | rfl | exact ⟨_, _, rfl⟩ | assumption | (simp only [lN] <;> omega)))
    | with_reducible intro _)
  refine swp_fam [0, 1, 4, 5] (fun _ : Unit => ⟨[.slice [] .no, .fn (.func 33) [] [], .undef, .undef, .int .i64 0, .int .i64 0, .undef, .undef], [], ⟨[], []⟩⟩) (fun _ => True) (fun _ => 0) () trivial ?_ ?_
  · simp [keepE, St.keep]
  · intro _ _
    repeat' (first
    | with_reducible first | apply swp_seq | apply swp_reg | apply swp_regD | apply swp_block | apply swp_exit | apply swp_ret | apply swp_skip | apply swp_cd
    | simp only [go_sem, seval, P44, q44]
    | simp (disch := omega) only [w64, w32, wu8, wu16, wu32, wu64]
    | with_reducible first | apply cd_dec | apply cd_eq | apply cd_ne | apply cd_split
    | ((with_reducible refine And.intro ?hw ?_); (case hw => first | omega | rfl | exact ⟨_, _, rfl⟩ | assumption | (simp only [lN] <;> omega)))
    | with_reducible intro _)
    all_goals first | omega | simp [D.closed, D.er]
theorem del31_nil : Pur M 31 [.slice [] .no, .fn (.func 33) [] []] (.slice [] .no) := by
  have c1 := ix44_nil
  refine ok31 rfl ?_
  rw [i31]
  unfold c31
  repeat' (first
    | with_reducible first | apply swp_seq | apply swp_reg | apply swp_regD | apply swp_block | apply swp_exit | apply swp_ret | apply swp_skip | apply swp_cd
    | simp only [go_sem, seval, P31, q31]
    | simp (disch := omega) only [w64, w32, wu8, wu16, wu32, wu64]
    | ((with_reducible refine o_call (c1) ?he ?hc ?_); (case he | hc => first | rfl | (simp [D.erL, D.er, D.closedL, D.closed]; done)))
    | ((with_reducible apply s_slFF); (case hx => first | rfl | assumption | omega | ((first | refine ⟨?_, ?_⟩ | skip) <;> first | omega | (simp only [lN] <;> omega)) | (simp [elemsK, D.isVal, D.cells, D.closedL, D.closed]; first | done | omega)))
    | ((with_reducible first | apply s_slTF | apply s_slFT); (case h0 | h1 | hx => first | rfl | assumption | omega | ((first | refine ⟨?_, ?_⟩ | skip) <;> first | omega | (simp only [lN] <;> omega)) | (simp [elemsK, D.isVal, D.cells, D.closedL, D.closed]; first | done | omega)))
    | ((with_reducible apply s_slTT); (case h0 | h1 | h2 | hx => first | rfl | assumption | omega | ((first | refine ⟨?_, ?_⟩ | skip) <;> first | omega | (simp only [lN] <;> omega)) | (simp [elemsK, D.isVal, D.cells, D.closedL, D.closed]; first | done | omega)))
    | ((with_reducible first | apply s_smTF | apply s_smFT); (case h0 | h1 | hc => first | rfl | assumption | omega | ((first | refine ⟨?_, ?_⟩ | skip) <;> first | omega | (simp only [lN] <;> omega)) | (simp [elemsK, D.isVal, D.cells, D.closedL, D.closed]; first | done | omega)))
    | ((with_reducible apply s_smTT); (case h0 | h1 | h2 | hc => first | rfl | assumption | omega | ((first | refine ⟨?_, ?_⟩ | skip) <;> first | omega | (simp only [lN] <;> omega)) | (simp [elemsK, D.isVal, D.cells, D.closedL, D.closed]; first | done | omega)))
    | ((with_reducible apply s_clr); (case h1 => rfl); (case h2 | h3 => first | rfl | assumption | omega | ((first | refine ⟨?_, ?_⟩ | skip) <;> first | omega | (simp only [lN] <;> omega)) | (simp [elemsK, D.isVal, D.cells, D.closedL, D.closed]; first | done | omega)))
    | with_reducible first | apply cd_dec | apply cd_eq | apply cd_ne | apply cd_split
    | ((with_reducible refine And.intro ?hw ?_); (case hw => first | omega | rfl | exact ⟨_, _, rfl⟩ | assumption | (simp only [lN] <;> omega)))
    | with_reducible intro _)
  all_goals first | omega | simp [D.closed, D.er]
theorem doubts_p (l : List Rp) (hl : l.length ≤ 1000) (hs : Small l) : Pur M 18 [rpsD l] (.int .i64 (doubtsR l : Nat)) := by
  by_cases h0 : l.length = 0
  · have : l = [] := List.eq_nil_of_length_eq_zero h0
    subst this
    have c1 := clone_nil
    have c2 := del31_nil
    refine ok18 rfl ?_
    rw [i18]
    unfold c18
    repeat' (first
    | with_reducible first | apply swp_seq | apply swp_reg | apply swp_regD | apply swp_block | apply swp_exit | apply swp_ret | apply swp_skip | apply swp_cd
    | simp only [go_sem, seval, P18, q18]
    | simp (disch := omega) only [w64, w32, wu8, wu16, wu32, wu64]
    | ((with_reducible refine o_call (c1) ?he ?hc ?_); (case he | hc => first | rfl | (simp [D.erL, D.er, D.closedL, D.closed]; done)))
    | ((with_reducible refine o_call (c2) ?he ?hc ?_); (case he | hc => first | rfl | (simp [D.erL, D.er, D.closedL, D.closed]; done)))
    | with_reducible first | apply cd_dec | apply cd_eq | apply cd_ne | apply cd_split
    | ((with_reducible refine And.intro ?hw ?_); (case hw => first | omega | rfl | exact ⟨_, _, rfl⟩ | assumption | (simp only [lN] <;> omega)))
    | with_reducible intro _)
    all_goals first | omega | simp [D.closed, D.er, doubtsR]
  · have c1 := clone_r l hl (by omega)
    refine ow18 rfl ?_
    rw [i18]
    unfold c18
    repeat' (first
    | with_reducible first | apply swp_seq | apply swp_reg | apply swp_regD | apply swp_block | apply swp_exit | apply swp_ret | apply swp_skip | apply swp_cd
    | simp only [go_sem, seval, P18, q18]
    | simp (disch := omega) only [w64, w32, wu8, wu16, wu32, wu64]
    | with_reducible first | apply cd_dec | apply cd_eq | apply cd_ne | apply cd_split
    | ((with_reducible refine And.intro ?hw ?_); (case hw => first | omega | rfl | exact ⟨_, _, rfl⟩ | assumption | (simp only [lN] <;> omega)))
    | with_reducible intro _)
    refine o_sameR c1 rfl rfl fun d hp1 hR => ?_
    obtain ⟨cap, hc, rfl, rfl⟩ := hR
    have c2 := del31 l (cap - l.length) cap hl (by omega) hs
    repeat' (first
    | with_reducible first | apply swp_seq | apply swp_reg | apply swp_regD | apply swp_block | apply swp_exit | apply swp_ret | apply swp_skip | apply swp_cd
    | simp only [go_sem, seval, P18, q18]
    | simp (disch := omega) only [w64, w32, wu8, wu16, wu32, wu64]
    | with_reducible first | apply cd_dec | apply cd_eq | apply cd_ne | apply cd_split
    | ((with_reducible refine And.intro ?hw ?_); (case hw => first | omega | rfl | exact ⟨_, _, rfl⟩ | assumption | (simp only [lN] <;> omega)))
    | with_reducible intro _)
    refine o_sameR c2 rfl rfl fun d hp1 hR => ?_
    obtain ⟨rfl, Z, rfl⟩ := hR
    repeat' (first
    | with_reducible first | apply swp_seq | apply swp_reg | apply swp_regD | apply swp_block | apply swp_exit | apply swp_ret | apply swp_skip | apply swp_cd
    | simp only [go_sem, seval, P18, q18]
    | simp (disch := omega) only [w64, w32, wu8, wu16, wu32, wu64]
    | with_reducible first | apply cd_dec | apply cd_eq | apply cd_ne | apply cd_split
    | ((with_reducible refine And.intro ?hw ?_); (case hw => first | omega | rfl | exact ⟨_, _, rfl⟩ | assumption | (simp only [lN] <;> omega)))
    | with_reducible intro _)
    all_goals first | omega | skip
    exact ⟨_, weak_refl, by simp [D.closed], by simp [D.er]⟩
end Go.Proofs.Ytofnggfpegcllaa
end
section
set_option maxRecDepth 100000
set_option linter.unusedSimpArgs false
set_option linter.unusedVariables false
namespace Go.Proofs.Ytofnggfpegcllaa
open Go GoV Go.RowKit
theorem compsD_len (C : List (List Nat)) : (compsD C).length = C.length := by simp [compsD]
theorem compsD_get {C : List (List Nat)} {i : Nat} (h : i < C.length) : (compsD C).getD i .undef = .slice (ints (C.getD i [])) .no := by simp [compsD, List.getD, h]
theorem cl_comps (C : List (List Nat)) : D.closedL (compsD C) = true := by
  induction C with
  | nil => rfl
  | cons c C ih => simp [compsD, D.closedL, D.closed] at ih ⊢; exact ih
theorem er_comps (C : List (List Nat)) : D.erL (compsD C) = compsD C := by
  induction C with
  | nil => rfl
  | cons c C ih => simp [compsD, D.erL, D.er] at ih ⊢; exact ih
theorem ints_getD {F : List Nat} {i : Nat} (h : i < F.length) : (ints F).getD i .undef = .int .i64 (F[i] : Nat) := by simp [ints, List.getD, h]
theorem ints_p (a b : List Nat) (hl : a.length ≤ 1000) (hl2 : b.length ≤ 1000) : Pur M 15 [.slice (ints a) .no, .slice (ints b) .no] (.bool (a == b)) := by
  refine ok15 rfl ?_
  rw [i15]
  unfold c15
  have ha := ints_len a
  have hb := ints_len b
  by_cases he : a.length = b.length
  · have t0 : (((a.length : Nat) : Int) != (b.length : Nat)) = false := by rw [he]; simp
    repeat' (first
    | with_reducible first | apply swp_seq | apply swp_reg | apply swp_regD | apply swp_block | apply swp_exit | apply swp_ret | apply swp_skip | apply swp_cd
    | simp only [go_sem, seval, P15, q15, ha, hb, t0]
    | simp (disch := omega) only [w64, w32, wu8, wu16, wu32, wu64]
    | with_reducible first | apply cd_dec | apply cd_eq | apply cd_ne | apply cd_split
    | ((with_reducible refine And.intro ?hw ?_); (case hw => first | omega | rfl | exact ⟨_, _, rfl⟩ | assumption | (simp only [lN, ha, hb] <;> omega)))
    | with_reducible intro _)
    refine swp_fam [0, 1, 3] (fun i : Nat => ⟨[.slice (ints a) .no, .slice (ints b) .no, .undef, .int .i64 i, .undef, .undef, .undef], [], ⟨[], []⟩⟩) (fun i => i ≤ a.length ∧ ∀ j (h : j < i) (g : j < a.length), a[j] = b[j]'(by omega)) (fun i => a.length - i) 0 ⟨by omega, fun j h => by omega⟩ ?_ ?_
    · simp [keepE, St.keep]
    · rintro i ⟨h1, h2⟩
      by_cases hi : i < a.length
      · have t1 : decide (((i : Nat) : Int) < a.length) = true := by simp; omega
        have g1 := ints_getD hi
        have g2 := ints_getD (F := b) (i := i) (by omega)
        by_cases e : a[i] = b[i]
        · have t2 : (((a[i] : Nat) : Int) != (b[i] : Nat)) = false := by rw [e]; simp
          repeat' (first
    | with_reducible first | apply swp_seq | apply swp_reg | apply swp_regD | apply swp_block | apply swp_exit | apply swp_ret | apply swp_skip | apply swp_cd
    | simp only [go_sem, seval, P15, q15, ha, hb, t1, t2, g1, g2]
    | simp (disch := omega) only [w64, w32, wu8, wu16, wu32, wu64]
    | with_reducible first | apply cd_dec | apply cd_eq | apply cd_ne | apply cd_split
    | ((with_reducible refine And.intro ?hw ?_); (case hw => first | omega | rfl | exact ⟨_, _, rfl⟩ | assumption | (simp only [lN, ha, hb, g1, g2] <;> omega)))
    | with_reducible intro _)
          all_goals first | omega | skip
          refine ⟨i + 1, ⟨by omega, fun j h g => ?_⟩, by omega, by simp [keepE, St.keep]⟩
          by_cases q : j = i
          · subst q; exact e
          · exact h2 j (by omega) g
        · have t2 : (((a[i] : Nat) : Int) != (b[i] : Nat)) = true := by rw [bne_iff_ne]; omega
          have hc : (a == b) = false := by rw [beq_eq_false_iff_ne]; intro q; subst q; exact e rfl
          rw [hc]
          repeat' (first
    | with_reducible first | apply swp_seq | apply swp_reg | apply swp_regD | apply swp_block | apply swp_exit | apply swp_ret | apply swp_skip | apply swp_cd
    | simp only [go_sem, seval, P15, q15, ha, hb, t1, t2, g1, g2]
    | simp (disch := omega) only [w64, w32, wu8, wu16, wu32, wu64]
    | with_reducible first | apply cd_dec | apply cd_eq | apply cd_ne | apply cd_split
    | ((with_reducible refine And.intro ?hw ?_); (case hw => first | omega | rfl | exact ⟨_, _, rfl⟩ | assumption | (simp only [lN, ha, hb, g1, g2] <;> omega)))
    | with_reducible intro _)
          all_goals first | omega | simp [D.closed, D.er]
      · have t1 : decide (((i : Nat) : Int) < a.length) = false := by simp; omega
        have hc : (a == b) = true := by
          rw [beq_iff_eq]
          exact List.ext_getElem he fun j g1 g2 => h2 j (by omega) g1
        rw [hc]
        repeat' (first
    | with_reducible first | apply swp_seq | apply swp_reg | apply swp_regD | apply swp_block | apply swp_exit | apply swp_ret | apply swp_skip | apply swp_cd
    | simp only [go_sem, seval, P15, q15, ha, hb, t1]
    | simp (disch := omega) only [w64, w32, wu8, wu16, wu32, wu64]
    | with_reducible first | apply cd_dec | apply cd_eq | apply cd_ne | apply cd_split
    | ((with_reducible refine And.intro ?hw ?_); (case hw => first | omega | rfl | exact ⟨_, _, rfl⟩ | assumption | (simp only [lN, ha, hb] <;> omega)))
    | with_reducible intro _)
        all_goals first | omega | simp [D.closed, D.er]
  · have t0 : (((a.length : Nat) : Int) != (b.length : Nat)) = true := by rw [bne_iff_ne]; omega
    have hc : (a == b) = false := by rw [beq_eq_false_iff_ne]; intro q; subst q; exact he rfl
    rw [hc]
    repeat' (first
    | with_reducible first | apply swp_seq | apply swp_reg | apply swp_regD | apply swp_block | apply swp_exit | apply swp_ret | apply swp_skip | apply swp_cd
    | simp only [go_sem, seval, P15, q15, ha, hb, t0]
    | simp (disch := omega) only [w64, w32, wu8, wu16, wu32, wu64]
    | with_reducible first | apply cd_dec | apply cd_eq | apply cd_ne | apply cd_split
    | ((with_reducible refine And.intro ?hw ?_); (case hw => first | omega | rfl | exact ⟨_, _, rfl⟩ | assumption | (simp only [lN, ha, hb] <;> omega)))
    | with_reducible intro _)
    all_goals first | omega | simp [D.closed, D.er]
theorem same_p (a : List (List Nat)) (hl : a.length ≤ 1000) (hs : ∀ c ∈ a, c.length ≤ 1000) : Pur M 12 [.slice (compsD a) .no, .slice (compsD a) .no] (.bool true) := by
  refine ok12 rfl ?_
  rw [i12]
  unfold c12
  have ha := compsD_len a
  have t0 : (((a.length : Nat) : Int) != (a.length : Nat)) = false := by simp
  repeat' (first
    | with_reducible first | apply swp_seq | apply swp_reg | apply swp_regD | apply swp_block | apply swp_exit | apply swp_ret | apply swp_skip | apply swp_cd
    | simp only [go_sem, seval, P12, q12, ha, t0]
    | simp (disch := omega) only [w64, w32, wu8, wu16, wu32, wu64]
    | with_reducible first | apply cd_dec | apply cd_eq | apply cd_ne | apply cd_split
    | ((with_reducible refine And.intro ?hw ?_); (case hw => first | omega | rfl | exact ⟨_, _, rfl⟩ | assumption | (simp only [lN, ha] <;> omega)))
    | with_reducible intro _)
  refine swp_fam [0, 1, 3] (fun i : Nat => ⟨[.slice (compsD a) .no, .slice (compsD a) .no, .undef, .int .i64 i, .undef, .undef, .undef], [], ⟨[], []⟩⟩) (fun i => i ≤ a.length) (fun i => a.length - i) 0 (by omega) ?_ ?_
  · simp [keepE, St.keep]
  · intro i h1
    by_cases hi : i < a.length
    · have t1 : decide (((i : Nat) : Int) < a.length) = true := by simp; omega
      have g1 := compsD_get hi
      have hm : (a.getD i []).length ≤ 1000 := by
        have : a.getD i [] = a[i] := by simp [List.getD, hi]
        rw [this]; exact hs _ (List.getElem_mem hi)
      have c1 := ints_p (a.getD i []) (a.getD i []) hm hm
      rw [beq_self_eq_true] at c1
      have hcl := cl_ints (a.getD i [])
      have her := er_ints (a.getD i [])
      repeat' (first
    | with_reducible first | apply swp_seq | apply swp_reg | apply swp_regD | apply swp_block | apply swp_exit | apply swp_ret | apply swp_skip | apply swp_cd
    | simp only [go_sem, seval, P12, q12, ha, t1, g1]
    | simp (disch := omega) only [w64, w32, wu8, wu16, wu32, wu64]
    | ((with_reducible refine o_call (c1) ?he ?hc ?_); (case he | hc => first | rfl | (simp [D.erL, D.er, D.closedL, D.closed, ha, g1, hcl, her]; done)))
    | with_reducible first | apply cd_dec | apply cd_eq | apply cd_ne | apply cd_split
    | ((with_reducible refine And.intro ?hw ?_); (case hw => first | omega | rfl | exact ⟨_, _, rfl⟩ | assumption | (simp only [lN, ha, g1, hcl, her] <;> omega)))
    | with_reducible intro _)
      all_goals first | omega | skip
      exact ⟨i + 1, by omega, by omega, by simp [keepE, St.keep]⟩
    · have t1 : decide (((i : Nat) : Int) < a.length) = false := by simp; omega
      repeat' (first
    | with_reducible first | apply swp_seq | apply swp_reg | apply swp_regD | apply swp_block | apply swp_exit | apply swp_ret | apply swp_skip | apply swp_cd
    | simp only [go_sem, seval, P12, q12, ha, t1]
    | simp (disch := omega) only [w64, w32, wu8, wu16, wu32, wu64]
    | with_reducible first | apply cd_dec | apply cd_eq | apply cd_ne | apply cd_split
    | ((with_reducible refine And.intro ?hw ?_); (case hw => first | omega | rfl | exact ⟨_, _, rfl⟩ | assumption | (simp only [lN, ha] <;> omega)))
    | with_reducible intro _)
      all_goals first | omega | simp [D.closed, D.er]
def madeR (s : Nm) : Rp := ⟨[⟨1, 0, s, [107], [], [], [], [], ⟨0, 0⟩, ⟨0, 0⟩, ⟨0, 0⟩⟩], false⟩
theorem made_p (s : Nm) : Pur M 24 [.str s] (.agg [.slice [.agg [.int .i64 1, .int .i64 0, .str s, .str [107], .str [], .str [], .str [], .str [], .int .i64 0, .int .i64 0, .int .i64 0, .int .i64 0, .int .i64 0, .int .i64 0]] .no, .bool false]) := by
  refine ok24 rfl ?_
  rw [i24]
  unfold c24
  repeat' (first
    | with_reducible first | apply swp_seq | apply swp_reg | apply swp_regD | apply swp_block | apply swp_exit | apply swp_ret | apply swp_skip | apply swp_cd
    | simp only [go_sem, seval, P24, q24, fillL]
    | simp (disch := omega) only [w64, w32, wu8, wu16, wu32, wu64]
    | ((with_reducible apply s_bsl); (case he | hl | hc => first | rfl | assumption | omega | ((first | refine ⟨?_, ?_⟩ | skip) <;> first | omega | (simp only [lN] <;> omega)) | (simp [elemsK, D.isVal, D.cells, D.closedL, D.closed]; first | done | omega)))
    | with_reducible first | apply cd_dec | apply cd_eq | apply cd_ne | apply cd_split
    | ((with_reducible refine And.intro ?hw ?_); (case hw => first | omega | rfl | exact ⟨_, _, rfl⟩ | assumption | (simp only [lN] <;> omega)))
    | with_reducible intro _)
  all_goals simp [D.closed, D.er, D.closedL, D.erL]
def headL : List Rp := [madeR [97], madeR [98], ⟨[⟨2, 0, [97], [], [99], [115], [], [], ⟨0, 0⟩, ⟨0, 0⟩, ⟨0, 0⟩⟩], true⟩, madeR [99]]
theorem head_c : comps (namesL headL) = [[0, 2, 3], [1]] := by kernel_rfl
theorem head_o1 : ofP (namesL headL) [99] = [0, 2, 3] := by kernel_rfl
theorem head_o2 : ofP (namesL headL) [120] = [] := by kernel_rfl
theorem head_d : doubtsR headL = 1 := by kernel_rfl
set_option maxHeartbeats 1000000 in
theorem head_p : Pur M 10 [] (.bool true) := by
  have hs : Small headL := by
    intro r hr e he
    have : (headL.all fun r => r.opts.all Ev.sh) = true := by kernel_rfl
    exact List.all_eq_true.1 (List.all_eq_true.1 this r hr) e he
  have c1 := components_p headL (by decide) hs
  have c2 := of_p headL (by decide) hs [99]
  have c3 := of_p headL (by decide) hs [120]
  have c4 := doubts_p headL (by decide) hs
  have c5 := same_p [[0, 2, 3], [1]] (by decide) (by decide)
  have c6 := ints_p [0, 2, 3] [0, 2, 3] (by decide) (by decide)
  rw [head_c] at c1
  rw [head_o1] at c2
  rw [head_o2] at c3
  rw [head_d] at c4
  rw [beq_self_eq_true] at c6
  simp only [compsD, ints, List.map_cons, List.map_nil] at c1 c2 c3 c5 c6
  have m1 := made_p [97]
  have m2 := made_p [98]
  have m3 := made_p [99]
  simp only [headL, madeR, rpsD, List.map_cons, List.map_nil, rpD, evD, Ev.cells] at c1 c2 c3 c4
  refine ok10 rfl ?_
  rw [i10]
  unfold c10
  repeat' (first
    | with_reducible first | apply swp_seq | apply swp_reg | apply swp_regD | apply swp_block | apply swp_exit | apply swp_ret | apply swp_skip | apply swp_cd
    | simp only [go_sem, seval, P10, q10, fillL, nc0, nc1, nc2, nc3]
    | simp (disch := omega) only [w64, w32, wu8, wu16, wu32, wu64]
    | ((with_reducible first | refine o_call (m1) ?he ?hc ?_ | refine p_call (m1) ?he ?hc ?_ | refine c_call (m1) ?he ?hc ?_); (case he | hc => first | rfl | (simp [D.erL, D.er, D.closedL, D.closed, nc0, nc1, nc2, nc3]; done)))
    | ((with_reducible first | refine o_call (m2) ?he ?hc ?_ | refine p_call (m2) ?he ?hc ?_ | refine c_call (m2) ?he ?hc ?_); (case he | hc => first | rfl | (simp [D.erL, D.er, D.closedL, D.closed, nc0, nc1, nc2, nc3]; done)))
    | ((with_reducible first | refine o_call (m3) ?he ?hc ?_ | refine p_call (m3) ?he ?hc ?_ | refine c_call (m3) ?he ?hc ?_); (case he | hc => first | rfl | (simp [D.erL, D.er, D.closedL, D.closed, nc0, nc1, nc2, nc3]; done)))
    | ((with_reducible first | refine o_call (c1) ?he ?hc ?_ | refine p_call (c1) ?he ?hc ?_ | refine c_call (c1) ?he ?hc ?_); (case he | hc => first | rfl | (simp [D.erL, D.er, D.closedL, D.closed, nc0, nc1, nc2, nc3]; done)))
    | ((with_reducible first | refine o_call (c2) ?he ?hc ?_ | refine p_call (c2) ?he ?hc ?_ | refine c_call (c2) ?he ?hc ?_); (case he | hc => first | rfl | (simp [D.erL, D.er, D.closedL, D.closed, nc0, nc1, nc2, nc3]; done)))
    | ((with_reducible first | refine o_call (c3) ?he ?hc ?_ | refine p_call (c3) ?he ?hc ?_ | refine c_call (c3) ?he ?hc ?_); (case he | hc => first | rfl | (simp [D.erL, D.er, D.closedL, D.closed, nc0, nc1, nc2, nc3]; done)))
    | ((with_reducible first | refine o_call (c4) ?he ?hc ?_ | refine p_call (c4) ?he ?hc ?_ | refine c_call (c4) ?he ?hc ?_); (case he | hc => first | rfl | (simp [D.erL, D.er, D.closedL, D.closed, nc0, nc1, nc2, nc3]; done)))
    | ((with_reducible first | refine o_call (c5) ?he ?hc ?_ | refine p_call (c5) ?he ?hc ?_ | refine c_call (c5) ?he ?hc ?_); (case he | hc => first | rfl | (simp [D.erL, D.er, D.closedL, D.closed, nc0, nc1, nc2, nc3]; done)))
    | ((with_reducible first | refine o_call (c6) ?he ?hc ?_ | refine p_call (c6) ?he ?hc ?_ | refine c_call (c6) ?he ?hc ?_); (case he | hc => first | rfl | (simp [D.erL, D.er, D.closedL, D.closed, nc0, nc1, nc2, nc3]; done)))
    | ((with_reducible apply s_bsl); (case he | hl | hc => first | rfl | assumption | omega | ((first | refine ⟨?_, ?_⟩ | skip) <;> first | omega | (simp only [lN, nc0, nc1, nc2, nc3] <;> omega)) | (simp [elemsK, D.isVal, D.cells, D.closedL, D.closed, nc0, nc1, nc2, nc3]; first | done | omega)))
    | with_reducible first | apply cd_dec | apply cd_eq | apply cd_ne | apply cd_split | apply gd_dec | apply gd_eq | apply gd_ne | apply gd_split
    | ((with_reducible refine And.intro ?hw ?_); (case hw => first | omega | rfl | exact ⟨_, _, rfl⟩ | assumption | (simp only [lN, nc0, nc1, nc2, nc3] <;> omega)))
    | with_reducible intro _)
  all_goals trace_state
  all_goals first | omega | simp [D.closed, D.er]
end Go.Proofs.Ytofnggfpegcllaa
end
section
set_option maxRecDepth 100000
set_option linter.unusedSimpArgs false
set_option linter.unusedVariables false
namespace Go.Proofs.Ytofnggfpegcllaa
open Go GoV Go.RowKit
theorem zeros_ints : ∀ n : Nat, zeros [.int .i64 0] n = ints (List.replicate n 0)
  | 0 => rfl
  | n + 1 => by
    have := zeros_ints n
    simp only [zeros, List.replicate_succ, ints, List.map_cons, List.cons_append, List.nil_append] at this ⊢
    rw [this]; rfl
theorem cno_app {L : List Nat} (h : Lo L) {i : Nat} (hi : i < (roots L).length) : (compsL L).getD i [] = mem L ((roots L).getD i 0) := by
  have hc : i < (compsL L).length := by rw [comps_len]; exact hi
  have h1 : (compsL L).getD i [] = (compsL L)[i] := by simp [List.getD, hc]
  have h2 : (roots L).getD i 0 = (roots L)[i] := by simp [List.getD, hi]
  rw [h1, h2, comps_get hi]
end Go.Proofs.Ytofnggfpegcllaa
end
