/- Own texts, merged by a program: the engine that walks the code, and what the functions that the law reaches compute. -/
import Derived.Test.YtofnggfpegcllaaQc4
section
set_option maxRecDepth 100000
set_option linter.unusedSimpArgs false
set_option linter.unusedVariables false
namespace Go.Proofs.Ytofnggfpegcllaa
open Go GoV Go.RowKit
theorem ints_rn (β τ : Nat → Option Nat) : ∀ F : List Nat, D.rnL β τ (ints F) = ints F
  | [] => rfl
  | x :: F => by
    have := ints_rn β τ F
    simp only [ints, List.map_cons, D.rnL, D.rn] at this ⊢
    rw [this]
set_option maxHeartbeats 1000000 in
theorem join_e {F L : List Nat} (hL : Lo L) (h : Fo F L) (hN : L.length < 1000000) {i k : Nat} (hi : i < L.length) (hk : k < L.length) :
    Eff M 40 [.gs 0 F.length, .int .i64 (i : Nat), .int .i64 (k : Nat)] ⟨[], [.chg 1 (ints F)]⟩ fun d hp => d = .tup [] ∧ hp = ⟨[], [.chg 1 (ints (joinF F i k))]⟩ := by
  have c1 := root_e hL h hN hi
  have f1 := rt_fo hL h hi
  have c2 := root_e hL f1 hN hk
  rw [rt_len] at c2
  have r1 := rt_root hL h hi
  have r2 := rt_root hL f1 hk
  have b1 := (hL i hi).1
  have b2 := (hL k hk).1
  have hl := h.len
  have hG : (rt (rt F i).1 k).1.length = F.length := by rw [rt_len, rt_len]
  have gl := ints_len (rt (rt F i).1 k).1
  have hrn := fun β τ => ints_rn β τ
  unfold joinF
  rw [r1] at c1
  rw [r2] at c2
  rw [r1, r2]
  generalize lb L i = x at *
  generalize lb L k = y at *
  generalize (rt (rt F i).1 k).1 = H at *
  generalize (rt F i).1 = G at *
  have hmx : (if ((y : Nat) : Int) > (x : Nat) then ((y : Nat) : Int) else (x : Nat)) = ((max x y : Nat) : Int) := by split <;> omega
  have hmn : (if ((y : Nat) : Int) < (x : Nat) then ((y : Nat) : Int) else (x : Nat)) = ((min x y : Nat) : Int) := by split <;> omega
  have hst : (ints H).set (max x y) (.int .i64 (min x y : Nat)) = ints (H.set (max x y) (min x y)) := ints_set
  have hm2 : max x y < F.length := by omega
  generalize max x y = mx at *
  generalize min x y = mn at *
  refine oe40 0 1 rfl rfl rfl ?_
  rw [ie40]
  unfold c40
  repeat' (first
    | with_reducible first | apply swp_seq | apply swp_reg | apply swp_regD | apply swp_block | apply swp_exit | apply swp_ret | apply swp_skip | apply swp_cd
    | simp only [go_sem, seval, pe40, q40, hrn, foldI, Nat.mul_one, hmx, hmn, hst]
    | simp (disch := omega) only [w64, w32, wu8, wu16, wu32, wu64]
    | ((with_reducible refine o_eff [] [0] (c1) ?hs ?he ?hh ?_); (case hs => exact ⟨by simp, by simp, by simp, by simp⟩); (case he => first | rfl | (simp [go_sem, seval, hrn, gl, hG]; done)); (case hh => first | rfl | (simp [go_sem, seval, hrn, gl, hG]; done)); rintro _ _ ⟨rfl, rfl⟩)
    | ((with_reducible refine o_eff [] [0] (c2) ?hs ?he ?hh ?_); (case hs => exact ⟨by simp, by simp, by simp, by simp⟩); (case he => first | rfl | (simp [go_sem, seval, hrn, gl, hG]; done)); (case hh => first | rfl | (simp [go_sem, seval, hrn, gl, hG]; done)); rintro _ _ ⟨rfl, rfl⟩)
    | with_reducible first | apply cd_dec | apply cd_eq | apply cd_ne | apply cd_split
    | ((with_reducible refine And.intro ?hw ?_); (case hw => first | omega | rfl | exact ⟨_, _, rfl⟩ | assumption | (simp only [lN, hrn, gl, hG] <;> omega)))
    | with_reducible intro _)
  all_goals first | omega | skip
  exact ⟨_, weak_refl, rfl⟩
/-! ### What is linked -/
def vF (F : List (Nm × Nat)) (s : Nm) : D := .int .i64 ((look F s).getD 0 : Nat)
def eF (F : List (Nm × Nat)) : List (D × D × Nat) := entG D.str (vF F) (F.map (·.1)) 0
theorem look_none {F : List (Nm × Nat)} {s : Nm} : look F s = none ↔ s ∉ F.map (·.1) := by
  unfold look
  rw [Option.map_eq_none_iff, List.find?_eq_none]
  simp only [List.mem_map, not_exists, not_and, beq_iff_eq]
theorem eF_none {F : List (Nm × Nat)} {s : Nm} (h : look F s = none) : findM (.str s) (eF F) 0 = none := entG_none keyStr (look_none.1 h)
theorem eF_some {F : List (Nm × Nat)} {s : Nm} {k : Nat} (h : look F s = some k) : ∃ j, findM (.str s) (eF F) 0 = some (j, .int .i64 (k : Nat)) := by
  have hm : s ∈ F.map (·.1) := by
    by_cases q : s ∈ F.map (·.1)
    · exact q
    · rw [look_none.2 q] at h; cases h
  obtain ⟨j, hj⟩ := entG_some (vf := vF F) keyStr hm
  refine ⟨j, ?_⟩
  unfold eF
  rw [hj]
  unfold vF
  rw [h]; rfl
theorem eF_put {F : List (Nm × Nat)} {s : Nm} {i : Nat} (h : look F s = none) : putM (eF F) F.length (.str s) (.int .i64 (i : Nat)) = .map (eF (F ++ [(s, i)])) (F ++ [(s, i)]).length := by
  have := entG_new (vf := vF F) keyStr (.int .i64 (i : Nat)) (look_none.1 h)
  rw [List.length_map] at this
  unfold eF
  rw [this]
  have hv : upd (vF F) s (.int .i64 (i : Nat)) = vF (F ++ [(s, i)]) := by
    funext t
    unfold upd vF
    rw [look_new h]
    split <;> rfl
  rw [hv, List.map_append, List.length_append]
  rfl
theorem eF_ok (F : List (Nm × Nat)) : ((eF F).all fun e => keyOk .str e.1) = true := entG_ok keyStr _ _
theorem eF_rn (β τ : Nat → Option Nat) (F : List (Nm × Nat)) : pairs β τ (eF F) = eF F := entG_rn keyStr (fun _ => rfl) _ _
def namesL (l : List Rp) : List (List Nm) := l.map namesR
theorem namesL_get {l : List Rp} {i : Nat} (h : i < l.length) : (namesL l).getD i [] = namesR l[i] := by simp [namesL, List.getD, h]
theorem namesL_len (l : List Rp) : (namesL l).length = l.length := by simp [namesL]
def Small (l : List Rp) : Prop := ∀ r ∈ l, ∀ e ∈ r.opts, e.sh = true
theorem namesR_len {r : Rp} : (namesR r).length ≤ 8 := by
  cases h : repOk r with
  | false => unfold namesR; rw [h]; simp
  | true => rw [namesR_at h]; exact atN_len (ok_len h).1 _
def midF (R : List (List Nm)) (i : Nat) (N : List Nm) : List Nat × List (Nm × Nat) := N.foldl (nameF i) ((lnkF R i).1 ++ [i], (lnkF R i).2)
def midL (R : List (List Nm)) (i : Nat) (N : List Nm) : List Nat × List (Nm × Nat) := N.foldl (nameStep i) ((lnk R i).1 ++ [i], (lnk R i).2)
theorem mid_fi (R : List (List Nm)) (i : Nat) (N : List Nm) (h : ∀ s ∈ N, s ∈ R.getD i []) : FI R i N (midF R i N) (midL R i N) (i + 1) := by
  have h1 := fi_lnk R i
  have hlen := h1.inv.len
  have h0 : Inv R i [] ((lnk R i).1 ++ [i], (lnk R i).2) (i + 1) := inv_push h1.inv
  have := fi_names N [] ((lnkF R i).1 ++ [i], (lnkF R i).2) ((lnk R i).1 ++ [i], (lnk R i).2) ⟨h0, by have := fo_push h1.fo h1.inv.lo; rw [hlen] at this; exact this, h1.snd⟩ h
  rw [List.nil_append] at this
  exact this
theorem midF_all (R : List (List Nm)) (i : Nat) : midF R i (R.getD i []) = lnkF R (i + 1) := rfl
theorem midF_snoc (R : List (List Nm)) (i : Nat) (N : List Nm) (s : Nm) : midF R i (N ++ [s]) = nameF i (midF R i N) s := by unfold midF; rw [List.foldl_append]; rfl
theorem ints_app (F G : List Nat) : ints (F ++ G) = ints F ++ ints G := by simp [ints]
set_option maxHeartbeats 2000000 in
theorem linked_e (l : List Rp) (hl : l.length ≤ 1000) (hs : Small l) :
    Eff M 26 [rpsD l] ⟨[], []⟩ fun d hp => d = .tup [.gs 0 l.length, .mp 0] ∧ hp = ⟨[.map (eF (lnkF (namesL l) l.length).2) (lnkF (namesL l) l.length).2.length], [.chg 1 (ints (lnkF (namesL l) l.length).1)]⟩ := by
  have hlen : (l.map rpD).length = l.length := by simp
  generalize hR : namesL l = R at *
  refine oe26 0 0 rfl rfl rfl ?_
  rw [ie26]
  unfold c26
  repeat' (first
    | with_reducible first | apply swp_seq | apply swp_reg | apply swp_regD | apply swp_block | apply swp_exit | apply swp_ret | apply swp_skip | apply swp_cd
    | simp only [go_sem, seval, pe26, q26, hlen, o_newM]
    | simp (disch := omega) only [w64, w32, wu8, wu16, wu32, wu64]
    | ((with_reducible apply s_appT); (case he => rfl); (case hK | hc | hr | hV => first | rfl | assumption | omega | ((first | refine ⟨?_, ?_⟩ | skip) <;> first | omega | (simp only [lN, hlen] <;> omega)) | (simp [elemsK, D.isVal, D.cells, D.closedL, D.closed, hlen]; first | done | omega)))
    | ((with_reducible apply s_appG); (case he => rfl); (case hV | hK | hr | hl => first | rfl | assumption | omega | ((first | refine ⟨?_, ?_⟩ | skip) <;> first | omega | (simp only [lN, hlen] <;> omega)) | (simp [elemsK, D.isVal, D.cells, D.closedL, D.closed, hlen]; first | done | omega)))
    | ((with_reducible apply s_app0); (case he => rfl); (case hK | hc | hr => first | rfl | assumption | omega | ((first | refine ⟨?_, ?_⟩ | skip) <;> first | omega | (simp only [lN, hlen] <;> omega)) | (simp [elemsK, D.isVal, D.cells, D.closedL, D.closed, hlen]; first | done | omega)))
    | ((with_reducible apply s_appF); (case he => rfl); (case hK | hc | hr | hx | hn => first | rfl | assumption | omega | ((first | refine ⟨?_, ?_⟩ | skip) <;> first | omega | (simp only [lN, hlen] <;> omega)) | (simp [elemsK, D.isVal, D.cells, D.closedL, D.closed, hlen]; first | done | omega)))
    | ((with_reducible apply s_bsl); (case he | hl | hc => first | rfl | assumption | omega | ((first | refine ⟨?_, ?_⟩ | skip) <;> first | omega | (simp only [lN, hlen] <;> omega)) | (simp [elemsK, D.isVal, D.cells, D.closedL, D.closed, hlen]; first | done | omega)))
    | ((with_reducible apply s_mpu); (case h1 | hk => rfl); (case ha | hp => first | rfl | assumption | omega | ((first | refine ⟨?_, ?_⟩ | skip) <;> first | omega | (simp only [lN, hlen] <;> omega)) | (simp [elemsK, D.isVal, D.cells, D.closedL, D.closed, hlen]; first | done | omega)))
    | ((with_reducible apply s_lkpS); (case h1 | hk => rfl); (case ha | hf => first | rfl | assumption | omega | ((first | refine ⟨?_, ?_⟩ | skip) <;> first | omega | (simp only [lN, hlen] <;> omega)) | (simp [elemsK, D.isVal, D.cells, D.closedL, D.closed, hlen]; first | done | omega)))
    | ((with_reducible apply s_lkpN); (case h1 | hk => rfl); (case hf | ha => first | rfl | assumption | omega | ((first | refine ⟨?_, ?_⟩ | skip) <;> first | omega | (simp only [lN, hlen] <;> omega)) | (simp [elemsK, D.isVal, D.cells, D.closedL, D.closed, hlen]; first | done | omega)))
    | with_reducible first | apply cd_dec | apply cd_eq | apply cd_ne | apply cd_split
    | ((with_reducible refine And.intro ?hw ?_); (case hw => first | omega | rfl | exact ⟨_, _, rfl⟩ | assumption | (simp only [lN, hlen] <;> omega)))
    | with_reducible intro _)
  refine swp_weak (weak_trans (weak_keep [0, 3, 4, 9, 10]) (weak_new 3 1 (by omega) true rfl)) ?_
  simp only [keepE]
  refine swp_fam [0, 3, 4, 9, 10] (fun i : Nat => ⟨[rpsD l, .undef, .undef, .gs 0 i, .mp 0, .undef, .undef, .undef, .undef, .int .i64 l.length, .int .i64 i, .undef, .undef, .undef, .undef, .undef, .undef], [], ⟨[.map (eF (lnkF R i).2) (lnkF R i).2.length], [.chg 1 (ints (lnkF R i).1)]⟩⟩)
    (fun i => i ≤ l.length) (fun i => l.length - i) 0 (by omega) ?_ ?_
  · simp [keepE, St.keep, lnkF, eF, entG, ints]
  · intro i hi
    have hfl : (lnkF R i).1.length = i := by have h1 := fi_lnk R i; rw [h1.fo.len, h1.inv.len]
    have hil0 := ints_len (lnkF R i).1
    rw [hfl] at hil0
    by_cases hil : i < l.length
    · have t2 : decide (((i : Nat) : Int) < l.length) = true := by simp; omega
      have hg := rp_get hil
      have c1 := names_p l[i] (hs _ (List.getElem_mem _))
      rw [show rpD l[i] = .agg [.slice (l[i].opts.map evD) .no, .bool l[i].doubt] from rfl] at c1
      have hN := namesL_get hil
      rw [hR] at hN
      have hn8 := namesR_len (r := l[i])
      have hstep := midF_all R i
      rw [hN] at hstep
      have hmid0 : midF R i [] = ((lnkF R i).1 ++ [i], (lnkF R i).2) := rfl
      have hfi := fun j => mid_fi R i ((namesR l[i]).take j) (fun s h => by rw [hN]; exact List.mem_of_mem_take h)
      generalize hNN : namesR l[i] = N at *
      have hnl := strs_len N
      have happ : ints (lnkF R i).1 ++ [.int .i64 (i : Nat)] = ints ((lnkF R i).1 ++ [i]) := by rw [ints_app]; rfl
      repeat' (first
    | with_reducible first | apply swp_seq | apply swp_reg | apply swp_regD | apply swp_block | apply swp_exit | apply swp_ret | apply swp_skip | apply swp_cd
    | simp only [go_sem, seval, pe26, q26, hlen, t2, hg, o_newM]
    | simp (disch := omega) only [w64, w32, wu8, wu16, wu32, wu64]
    | ((with_reducible refine o_call (c1) ?he ?hc ?_); (case he | hc => first | rfl | (simp [D.erL, D.er, D.closedL, D.closed, hlen, hg, hil0]; done)))
    | ((with_reducible apply s_appT); (case he => rfl); (case hK | hc | hr | hV => first | rfl | assumption | omega | ((first | refine ⟨?_, ?_⟩ | skip) <;> first | omega | (simp only [lN, hlen, hg, hil0] <;> omega)) | (simp [elemsK, D.isVal, D.cells, D.closedL, D.closed, hlen, hg, hil0]; first | done | omega)))
    | ((with_reducible apply s_appG); (case he => rfl); (case hV | hK | hr | hl => first | rfl | assumption | omega | ((first | refine ⟨?_, ?_⟩ | skip) <;> first | omega | (simp only [lN, hlen, hg, hil0] <;> omega)) | (simp [elemsK, D.isVal, D.cells, D.closedL, D.closed, hlen, hg, hil0]; first | done | omega)))
    | ((with_reducible apply s_app0G); (case he => rfl); (case hK | hr => first | rfl | assumption | omega | ((first | refine ⟨?_, ?_⟩ | skip) <;> first | omega | (simp only [lN, hlen, hg, hil0] <;> omega)) | (simp [elemsK, D.isVal, D.cells, D.closedL, D.closed, hlen, hg, hil0]; first | done | omega)))
    | ((with_reducible apply s_bsl); (case he | hl | hc => first | rfl | assumption | omega | ((first | refine ⟨?_, ?_⟩ | skip) <;> first | omega | (simp only [lN, hlen, hg, hil0] <;> omega)) | (simp [elemsK, D.isVal, D.cells, D.closedL, D.closed, hlen, hg, hil0]; first | done | omega)))
    | ((with_reducible apply s_mpu); (case h1 | hk => rfl); (case ha | hp => first | rfl | assumption | omega | ((first | refine ⟨?_, ?_⟩ | skip) <;> first | omega | (simp only [lN, hlen, hg, hil0] <;> omega)) | (simp [elemsK, D.isVal, D.cells, D.closedL, D.closed, hlen, hg, hil0]; first | done | omega)))
    | ((with_reducible apply s_lkpS); (case h1 | hk => rfl); (case ha | hf => first | rfl | assumption | omega | ((first | refine ⟨?_, ?_⟩ | skip) <;> first | omega | (simp only [lN, hlen, hg, hil0] <;> omega)) | (simp [elemsK, D.isVal, D.cells, D.closedL, D.closed, hlen, hg, hil0]; first | done | omega)))
    | ((with_reducible apply s_lkpN); (case h1 | hk => rfl); (case hf | ha => first | rfl | assumption | omega | ((first | refine ⟨?_, ?_⟩ | skip) <;> first | omega | (simp only [lN, hlen, hg, hil0] <;> omega)) | (simp [elemsK, D.isVal, D.cells, D.closedL, D.closed, hlen, hg, hil0]; first | done | omega)))
    | with_reducible first | apply cd_dec | apply cd_eq | apply cd_ne | apply cd_split
    | ((with_reducible refine And.intro ?hw ?_); (case hw => first | omega | rfl | exact ⟨_, _, rfl⟩ | assumption | (simp only [lN, hlen, hg, hil0] <;> omega)))
    | with_reducible intro _)
      all_goals first | omega | skip
      refine swp_fam [0, 3, 4, 5, 9, 10, 12, 13, 14] (fun j : Nat => ⟨[rpsD l, .undef, .undef, .gs 0 (i + 1), .mp 0, .int .i64 i, .undef, .undef, .undef, .int .i64 l.length, .int .i64 i, .undef, .slice (strs N) .no, .int .i64 N.length, .int .i64 j, .undef, .undef], [], ⟨[.map (eF (midF R i (N.take j)).2) (midF R i (N.take j)).2.length], [.chg 1 (ints (midF R i (N.take j)).1)]⟩⟩)
        (fun j => j ≤ N.length) (fun j => N.length - j) 0 (by omega) ?_ ?_
      · simp [keepE, St.keep, hmid0, flatD, D.cells, happ, hnl]
      · intro j hj
        have hF := hfi j
        have hfl2 : (midF R i (N.take j)).1.length = i + 1 := by rw [hF.fo.len, hF.inv.len]
        by_cases hjl : j < N.length
        · have t3 : decide (((j : Nat) : Int) < N.length) = true := by simp; omega
          have hgj := strs_get hjl
          have hsn : midF R i (N.take (j + 1)) = nameF i (midF R i (N.take j)) N[j] := by rw [List.take_succ_eq_append_getElem hjl, midF_snoc]
          have hfirst := hF.inv.first N[j]
          have hsnd := hF.snd
          rw [← hsnd] at hfirst
          have hnF : nameF i (midF R i (N.take j)) N[j] = match look (midF R i (N.take j)).2 N[j] with
            | some k => (joinF (midF R i (N.take j)).1 k i, (midF R i (N.take j)).2)
            | none => ((midF R i (N.take j)).1, (midF R i (N.take j)).2 ++ [(N[j], i)]) := rfl
          rw [hnF] at hsn
          have hok := eF_ok (midF R i (N.take j)).2
          cases hlk : look (midF R i (N.take j)).2 N[j] with
          | some k =>
            rw [hlk] at hsn
            simp only at hsn
            obtain ⟨q, hf⟩ := eF_some hlk
            have hk := (hfirst k hlk).1
            have hlen2 := hF.inv.len
            have c2 := join_e hF.inv.lo hF.fo (by omega) (i := k) (k := i) (by omega) (by omega)
            rw [hfl2] at c2
            generalize midF R i (N.take j) = st at *
            have hrn := fun β τ => ints_rn β τ
            repeat' (first
    | with_reducible first | apply swp_seq | apply swp_reg | apply swp_regD | apply swp_block | apply swp_exit | apply swp_ret | apply swp_skip | apply swp_cd
    | simp only [go_sem, seval, pe26, q26, hnl, t3, hgj, hrn, o_newM]
    | simp (disch := omega) only [w64, w32, wu8, wu16, wu32, wu64]
    | ((with_reducible refine o_eff [] [0] (c2) ?hs ?he ?hh ?_); (case hs => exact ⟨by simp, by simp, by simp, by simp⟩); (case he => first | rfl | (simp [go_sem, seval, hnl, hgj, hrn]; done)); (case hh => first | rfl | (simp [go_sem, seval, hnl, hgj, hrn]; done)); rintro _ _ ⟨rfl, rfl⟩)
    | ((with_reducible apply s_appT); (case he => rfl); (case hK | hc | hr | hV => first | rfl | assumption | omega | ((first | refine ⟨?_, ?_⟩ | skip) <;> first | omega | (simp only [lN, hnl, hgj, hrn] <;> omega)) | (simp [elemsK, D.isVal, D.cells, D.closedL, D.closed, hnl, hgj, hrn]; first | done | omega)))
    | ((with_reducible apply s_appG); (case he => rfl); (case hV | hK | hr | hl => first | rfl | assumption | omega | ((first | refine ⟨?_, ?_⟩ | skip) <;> first | omega | (simp only [lN, hnl, hgj, hrn] <;> omega)) | (simp [elemsK, D.isVal, D.cells, D.closedL, D.closed, hnl, hgj, hrn]; first | done | omega)))
    | ((with_reducible apply s_app0); (case he => rfl); (case hK | hc | hr => first | rfl | assumption | omega | ((first | refine ⟨?_, ?_⟩ | skip) <;> first | omega | (simp only [lN, hnl, hgj, hrn] <;> omega)) | (simp [elemsK, D.isVal, D.cells, D.closedL, D.closed, hnl, hgj, hrn]; first | done | omega)))
    | ((with_reducible apply s_appF); (case he => rfl); (case hK | hc | hr | hx | hn => first | rfl | assumption | omega | ((first | refine ⟨?_, ?_⟩ | skip) <;> first | omega | (simp only [lN, hnl, hgj, hrn] <;> omega)) | (simp [elemsK, D.isVal, D.cells, D.closedL, D.closed, hnl, hgj, hrn]; first | done | omega)))
    | ((with_reducible apply s_bsl); (case he | hl | hc => first | rfl | assumption | omega | ((first | refine ⟨?_, ?_⟩ | skip) <;> first | omega | (simp only [lN, hnl, hgj, hrn] <;> omega)) | (simp [elemsK, D.isVal, D.cells, D.closedL, D.closed, hnl, hgj, hrn]; first | done | omega)))
    | ((with_reducible apply s_mpu); (case h1 | hk => rfl); (case ha | hp => first | rfl | assumption | omega | ((first | refine ⟨?_, ?_⟩ | skip) <;> first | omega | (simp only [lN, hnl, hgj, hrn] <;> omega)) | (simp [elemsK, D.isVal, D.cells, D.closedL, D.closed, hnl, hgj, hrn]; first | done | omega)))
    | ((with_reducible apply s_lkpS); (case h1 | hk => rfl); (case ha | hf => first | rfl | assumption | omega | ((first | refine ⟨?_, ?_⟩ | skip) <;> first | omega | (simp only [lN, hnl, hgj, hrn] <;> omega)) | (simp [elemsK, D.isVal, D.cells, D.closedL, D.closed, hnl, hgj, hrn]; first | done | omega)))
    | ((with_reducible apply s_lkpN); (case h1 | hk => rfl); (case hf | ha => first | rfl | assumption | omega | ((first | refine ⟨?_, ?_⟩ | skip) <;> first | omega | (simp only [lN, hnl, hgj, hrn] <;> omega)) | (simp [elemsK, D.isVal, D.cells, D.closedL, D.closed, hnl, hgj, hrn]; first | done | omega)))
    | with_reducible first | apply cd_dec | apply cd_eq | apply cd_ne | apply cd_split
    | ((with_reducible refine And.intro ?hw ?_); (case hw => first | omega | rfl | exact ⟨_, _, rfl⟩ | assumption | (simp only [lN, hnl, hgj, hrn] <;> omega)))
    | with_reducible intro _)
            all_goals first | omega | skip
            refine ⟨j + 1, by omega, by omega, ?_⟩
            rw [hsn]
            simp [keepE, St.keep]
          | none =>
            rw [hlk] at hsn
            simp only at hsn
            have hf := eF_none hlk
            have hp := eF_put (i := i) hlk
            generalize midF R i (N.take j) = st at *
            repeat' (first
    | with_reducible first | apply swp_seq | apply swp_reg | apply swp_regD | apply swp_block | apply swp_exit | apply swp_ret | apply swp_skip | apply swp_cd
    | simp only [go_sem, seval, pe26, q26, hnl, t3, hgj, o_newM]
    | simp (disch := omega) only [w64, w32, wu8, wu16, wu32, wu64]
    | ((with_reducible apply s_appT); (case he => rfl); (case hK | hc | hr | hV => first | rfl | assumption | omega | ((first | refine ⟨?_, ?_⟩ | skip) <;> first | omega | (simp only [lN, hnl, hgj] <;> omega)) | (simp [elemsK, D.isVal, D.cells, D.closedL, D.closed, hnl, hgj]; first | done | omega)))
    | ((with_reducible apply s_appG); (case he => rfl); (case hV | hK | hr | hl => first | rfl | assumption | omega | ((first | refine ⟨?_, ?_⟩ | skip) <;> first | omega | (simp only [lN, hnl, hgj] <;> omega)) | (simp [elemsK, D.isVal, D.cells, D.closedL, D.closed, hnl, hgj]; first | done | omega)))
    | ((with_reducible apply s_app0); (case he => rfl); (case hK | hc | hr => first | rfl | assumption | omega | ((first | refine ⟨?_, ?_⟩ | skip) <;> first | omega | (simp only [lN, hnl, hgj] <;> omega)) | (simp [elemsK, D.isVal, D.cells, D.closedL, D.closed, hnl, hgj]; first | done | omega)))
    | ((with_reducible apply s_appF); (case he => rfl); (case hK | hc | hr | hx | hn => first | rfl | assumption | omega | ((first | refine ⟨?_, ?_⟩ | skip) <;> first | omega | (simp only [lN, hnl, hgj] <;> omega)) | (simp [elemsK, D.isVal, D.cells, D.closedL, D.closed, hnl, hgj]; first | done | omega)))
    | ((with_reducible apply s_bsl); (case he | hl | hc => first | rfl | assumption | omega | ((first | refine ⟨?_, ?_⟩ | skip) <;> first | omega | (simp only [lN, hnl, hgj] <;> omega)) | (simp [elemsK, D.isVal, D.cells, D.closedL, D.closed, hnl, hgj]; first | done | omega)))
    | ((with_reducible apply s_mpu); (case h1 | hk => rfl); (case ha | hp => first | rfl | assumption | omega | ((first | refine ⟨?_, ?_⟩ | skip) <;> first | omega | (simp only [lN, hnl, hgj] <;> omega)) | (simp [elemsK, D.isVal, D.cells, D.closedL, D.closed, hnl, hgj]; first | done | omega)))
    | ((with_reducible apply s_lkpS); (case h1 | hk => rfl); (case ha | hf => first | rfl | assumption | omega | ((first | refine ⟨?_, ?_⟩ | skip) <;> first | omega | (simp only [lN, hnl, hgj] <;> omega)) | (simp [elemsK, D.isVal, D.cells, D.closedL, D.closed, hnl, hgj]; first | done | omega)))
    | ((with_reducible apply s_lkpN); (case h1 | hk => rfl); (case hf | ha => first | rfl | assumption | omega | ((first | refine ⟨?_, ?_⟩ | skip) <;> first | omega | (simp only [lN, hnl, hgj] <;> omega)) | (simp [elemsK, D.isVal, D.cells, D.closedL, D.closed, hnl, hgj]; first | done | omega)))
    | with_reducible first | apply cd_dec | apply cd_eq | apply cd_ne | apply cd_split
    | ((with_reducible refine And.intro ?hw ?_); (case hw => first | omega | rfl | exact ⟨_, _, rfl⟩ | assumption | (simp only [lN, hnl, hgj] <;> omega)))
    | with_reducible intro _)
            all_goals first | omega | skip
            refine ⟨j + 1, by omega, by omega, ?_⟩
            rw [hsn]
            simp [keepE, St.keep, hp]
        · have t3 : decide (((j : Nat) : Int) < N.length) = false := by simp; omega
          have e5 : N.take j = N := List.take_of_length_le (by omega)
          rw [e5, hstep]
          repeat' (first
    | with_reducible first | apply swp_seq | apply swp_reg | apply swp_regD | apply swp_block | apply swp_exit | apply swp_ret | apply swp_skip | apply swp_cd
    | simp only [go_sem, seval, pe26, q26, hnl, t3, o_newM]
    | simp (disch := omega) only [w64, w32, wu8, wu16, wu32, wu64]
    | ((with_reducible apply s_appT); (case he => rfl); (case hK | hc | hr | hV => first | rfl | assumption | omega | ((first | refine ⟨?_, ?_⟩ | skip) <;> first | omega | (simp only [lN, hnl] <;> omega)) | (simp [elemsK, D.isVal, D.cells, D.closedL, D.closed, hnl]; first | done | omega)))
    | ((with_reducible apply s_appG); (case he => rfl); (case hV | hK | hr | hl => first | rfl | assumption | omega | ((first | refine ⟨?_, ?_⟩ | skip) <;> first | omega | (simp only [lN, hnl] <;> omega)) | (simp [elemsK, D.isVal, D.cells, D.closedL, D.closed, hnl]; first | done | omega)))
    | ((with_reducible apply s_app0); (case he => rfl); (case hK | hc | hr => first | rfl | assumption | omega | ((first | refine ⟨?_, ?_⟩ | skip) <;> first | omega | (simp only [lN, hnl] <;> omega)) | (simp [elemsK, D.isVal, D.cells, D.closedL, D.closed, hnl]; first | done | omega)))
    | ((with_reducible apply s_appF); (case he => rfl); (case hK | hc | hr | hx | hn => first | rfl | assumption | omega | ((first | refine ⟨?_, ?_⟩ | skip) <;> first | omega | (simp only [lN, hnl] <;> omega)) | (simp [elemsK, D.isVal, D.cells, D.closedL, D.closed, hnl]; first | done | omega)))
    | ((with_reducible apply s_bsl); (case he | hl | hc => first | rfl | assumption | omega | ((first | refine ⟨?_, ?_⟩ | skip) <;> first | omega | (simp only [lN, hnl] <;> omega)) | (simp [elemsK, D.isVal, D.cells, D.closedL, D.closed, hnl]; first | done | omega)))
    | ((with_reducible apply s_mpu); (case h1 | hk => rfl); (case ha | hp => first | rfl | assumption | omega | ((first | refine ⟨?_, ?_⟩ | skip) <;> first | omega | (simp only [lN, hnl] <;> omega)) | (simp [elemsK, D.isVal, D.cells, D.closedL, D.closed, hnl]; first | done | omega)))
    | ((with_reducible apply s_lkpS); (case h1 | hk => rfl); (case ha | hf => first | rfl | assumption | omega | ((first | refine ⟨?_, ?_⟩ | skip) <;> first | omega | (simp only [lN, hnl] <;> omega)) | (simp [elemsK, D.isVal, D.cells, D.closedL, D.closed, hnl]; first | done | omega)))
    | ((with_reducible apply s_lkpN); (case h1 | hk => rfl); (case hf | ha => first | rfl | assumption | omega | ((first | refine ⟨?_, ?_⟩ | skip) <;> first | omega | (simp only [lN, hnl] <;> omega)) | (simp [elemsK, D.isVal, D.cells, D.closedL, D.closed, hnl]; first | done | omega)))
    | with_reducible first | apply cd_dec | apply cd_eq | apply cd_ne | apply cd_split
    | ((with_reducible refine And.intro ?hw ?_); (case hw => first | omega | rfl | exact ⟨_, _, rfl⟩ | assumption | (simp only [lN, hnl] <;> omega)))
    | with_reducible intro _)
          all_goals first | omega | skip
          refine ⟨i + 1, by omega, by omega, ?_⟩
          simp [keepE, St.keep]
    · have t2 : decide (((i : Nat) : Int) < l.length) = false := by simp; omega
      have : i = l.length := by omega
      subst this
      repeat' (first
    | with_reducible first | apply swp_seq | apply swp_reg | apply swp_regD | apply swp_block | apply swp_exit | apply swp_ret | apply swp_skip | apply swp_cd
    | simp only [go_sem, seval, pe26, q26, hlen, t2, o_newM]
    | simp (disch := omega) only [w64, w32, wu8, wu16, wu32, wu64]
    | ((with_reducible apply s_appT); (case he => rfl); (case hK | hc | hr | hV => first | rfl | assumption | omega | ((first | refine ⟨?_, ?_⟩ | skip) <;> first | omega | (simp only [lN, hlen] <;> omega)) | (simp [elemsK, D.isVal, D.cells, D.closedL, D.closed, hlen]; first | done | omega)))
    | ((with_reducible apply s_appG); (case he => rfl); (case hV | hK | hr | hl => first | rfl | assumption | omega | ((first | refine ⟨?_, ?_⟩ | skip) <;> first | omega | (simp only [lN, hlen] <;> omega)) | (simp [elemsK, D.isVal, D.cells, D.closedL, D.closed, hlen]; first | done | omega)))
    | ((with_reducible apply s_app0); (case he => rfl); (case hK | hc | hr => first | rfl | assumption | omega | ((first | refine ⟨?_, ?_⟩ | skip) <;> first | omega | (simp only [lN, hlen] <;> omega)) | (simp [elemsK, D.isVal, D.cells, D.closedL, D.closed, hlen]; first | done | omega)))
    | ((with_reducible apply s_appF); (case he => rfl); (case hK | hc | hr | hx | hn => first | rfl | assumption | omega | ((first | refine ⟨?_, ?_⟩ | skip) <;> first | omega | (simp only [lN, hlen] <;> omega)) | (simp [elemsK, D.isVal, D.cells, D.closedL, D.closed, hlen]; first | done | omega)))
    | ((with_reducible apply s_bsl); (case he | hl | hc => first | rfl | assumption | omega | ((first | refine ⟨?_, ?_⟩ | skip) <;> first | omega | (simp only [lN, hlen] <;> omega)) | (simp [elemsK, D.isVal, D.cells, D.closedL, D.closed, hlen]; first | done | omega)))
    | ((with_reducible apply s_mpu); (case h1 | hk => rfl); (case ha | hp => first | rfl | assumption | omega | ((first | refine ⟨?_, ?_⟩ | skip) <;> first | omega | (simp only [lN, hlen] <;> omega)) | (simp [elemsK, D.isVal, D.cells, D.closedL, D.closed, hlen]; first | done | omega)))
    | ((with_reducible apply s_lkpS); (case h1 | hk => rfl); (case ha | hf => first | rfl | assumption | omega | ((first | refine ⟨?_, ?_⟩ | skip) <;> first | omega | (simp only [lN, hlen] <;> omega)) | (simp [elemsK, D.isVal, D.cells, D.closedL, D.closed, hlen]; first | done | omega)))
    | ((with_reducible apply s_lkpN); (case h1 | hk => rfl); (case hf | ha => first | rfl | assumption | omega | ((first | refine ⟨?_, ?_⟩ | skip) <;> first | omega | (simp only [lN, hlen] <;> omega)) | (simp [elemsK, D.isVal, D.cells, D.closedL, D.closed, hlen]; first | done | omega)))
    | with_reducible first | apply cd_dec | apply cd_eq | apply cd_ne | apply cd_split
    | ((with_reducible refine And.intro ?hw ?_); (case hw => first | omega | rfl | exact ⟨_, _, rfl⟩ | assumption | (simp only [lN, hlen] <;> omega)))
    | with_reducible intro _)
      all_goals first | omega | skip
      exact ⟨_, weak_refl, rfl, rfl⟩
end Go.Proofs.Ytofnggfpegcllaa
end
section
set_option maxRecDepth 100000
set_option linter.unusedSimpArgs false
set_option linter.unusedVariables false
namespace Go.Proofs.Ytofnggfpegcllaa
open Go GoV Go.RowKit
theorem add_reg {n0 m0 : Nat} (hp0 hp1 : Hp) (x b5 b6 : D) (ys : List D) (o : GoV.Own) (cs : List D) (m k i r : Nat) (Q : Ex → St → Prop) (hH : hp1.H = hp0.H) (h2 : hp0.H[2]? = some (.cells [.gs 1 m])) (t0 : hp0.tk[1]? = some (.chg 1 cs)) (t1 : hp1.tk[1]? = some (.chg 1 cs))
    (hm : cs.length = m) (hk : k < m) (hx : cs.getD k .undef = x) (happ : opWp (.app 1 8 3) [x, .slice [.int .i64 (i : Nat)] .full] hp0 fun d hp => d = .slice ys o ∧ hp = hp1)
    (hQ : Q .normal ⟨[.int .i64 (i : Nat), .int .i64 (r : Nat), .ptr 1 0, .ptr 2 0, .int .i64 (k : Nat), b5, b6], [], ⟨hp1.H, hp1.tk.set 1 (.chg 1 (cs.set k (.slice ys o)))⟩⟩) :
    SWp (E28 n0 m0) (.regD r28_5 r28_6) Q ⟨[.int .i64 (i : Nat), .int .i64 (r : Nat), .ptr 1 0, .ptr 2 0, .int .i64 (k : Nat), b5, b6], [], hp0⟩ := by
  have still : ∀ k, k ≠ 8 → Still (fun E : Nat → Bool => if E 8 then hp1 else hp0) k := fun k h8 E _ => by
    have q8 : (8 == k) = false := beq_false_of_ne (Ne.symm h8)
    simp only [q8, Bool.or_false]
  have ld : ∀ E : Nat → Bool, OcWp M (.ld false 1) [.ptr 2 0] ((fun E : Nat → Bool => if E 8 then hp1 else hp0) E) (fun d' hp' => d' = .gs 1 m ∧ hp' = (fun E : Nat → Bool => if E 8 then hp1 else hp0) E) := fun E => by
    simp only [OcWp, isCall, Bool.false_eq_true, if_false, opWp]
    refine ⟨.cells [.gs 1 m], [.gs 1 m], ?_, rfl, by simp, rfl, trivial⟩
    split
    · rw [hH]; exact h2
    · exact h2
  refine swp_regDG (fun E => if E 8 then hp1 else hp0) [] (by decide) rfl ?_
  rw [pe28]
  refine v_q (ds := [.ptr 2 0]) (.gs 1 m) rfl (still _ (by decide)) (fun E _ => ld E) ?_
  refine v_q (ds := [.int .i64 (k : Nat)]) (.int .i64 (k : Nat)) rfl (still _ (by decide)) (fun E _ => by simp [OcWp, isCall, opWp]) ?_
  refine v_q (ds := [.ptr 2 0]) (.gs 1 m) rfl (still _ (by decide)) (fun E _ => ld E) ?_
  refine v_q (ds := [.int .i64 (k : Nat)]) (.int .i64 (k : Nat)) rfl (still _ (by decide)) (fun E _ => by simp [OcWp, isCall, opWp]) ?_
  refine v_q (ds := [.gs 1 m, .int .i64 (k : Nat)]) (.gp 1 m k) rfl (still _ (by decide)) (fun E _ => ?_) ?_
  · simp only [OcWp, isCall, Bool.false_eq_true, if_false, opWp]
    exact ⟨by omega, by omega, by simp, trivial⟩
  refine v_q (ds := [.gp 1 m k]) x rfl (still _ (by decide)) (fun E _ => ?_) ?_
  · simp only [OcWp, isCall, Bool.false_eq_true, if_false, opWp]
    refine ⟨1, cs, ?_, by omega, by omega, hx, trivial⟩
    split
    · exact t1
    · exact t0
  refine v_q (ds := [.int .i64 (i : Nat)]) (.int .i64 (i : Nat)) rfl (still _ (by decide)) (fun E _ => by simp [OcWp, isCall, opWp]) ?_
  refine v_q (ds := [.int .i64 (i : Nat)]) (.slice [.int .i64 (i : Nat)] .full) rfl (still _ (by decide)) (fun E _ => by simp [OcWp, isCall, opWp, elemsK, D.closedL, D.erL, D.closed, D.er, D.isVal, D.cells]) ?_
  refine v_c (ds := [x, .slice [.int .i64 (i : Nat)] .full]) (d := .slice ys o) rfl (fun E hE hG hR => ?_) ?_
  · simp only [hE, Bool.false_or, beq_self_eq_true, if_true, Bool.false_eq_true, if_false, OcWp, isCall]
    exact happ
  refine v_end (hp' := hp1) (by simp) ?_
  have hg := t1
  have hl1 : k + 1 ≤ cs.length := by omega
  obtain ⟨H1, T1⟩ := hp1
  simp only at hg hQ ⊢
  repeat' (first
    | with_reducible first | apply swp_seq | apply swp_reg | apply swp_regD | apply swp_block | apply swp_exit | apply swp_ret | apply swp_skip | apply swp_cd
    | simp only [go_sem, seval, pe28, q28, Nat.mul_one, hg, setL]
    | ((with_reducible apply s_appT); (case he => rfl); (case hK | hc | hr | hV => first | rfl | assumption | omega | ((first | refine ⟨?_, ?_⟩ | skip) <;> first | omega | (simp only [lN, hg] <;> omega)) | (simp [elemsK, D.isVal, D.cells, D.closedL, D.closed, hg]; first | done | omega)))
    | ((with_reducible apply s_appG); (case he => rfl); (case hV | hK | hr | hl => first | rfl | assumption | omega | ((first | refine ⟨?_, ?_⟩ | skip) <;> first | omega | (simp only [lN, hg] <;> omega)) | (simp [elemsK, D.isVal, D.cells, D.closedL, D.closed, hg]; first | done | omega)))
    | ((with_reducible first | apply s_app0 | apply t_app0); (case he => rfl); (case hK | hc | hr => first | rfl | assumption | omega | ((first | refine ⟨?_, ?_⟩ | skip) <;> first | omega | (simp only [lN, hg] <;> omega)) | (simp [elemsK, D.isVal, D.cells, D.closedL, D.closed, hg]; first | done | omega)))
    | ((with_reducible first | apply s_appF | apply t_appF); (case he => rfl); (case hK | hc | hr | hx | hn => first | rfl | assumption | omega | ((first | refine ⟨?_, ?_⟩ | skip) <;> first | omega | (simp only [lN, hg] <;> omega)) | (simp [elemsK, D.isVal, D.cells, D.closedL, D.closed, hg]; first | done | omega)))
    | ((with_reducible first | apply s_bsl | apply t_bsl); (case he | hl | hc => first | rfl | assumption | omega | ((first | refine ⟨?_, ?_⟩ | skip) <;> first | omega | (simp only [lN, hg] <;> omega)) | (simp [elemsK, D.isVal, D.cells, D.closedL, D.closed, hg]; first | done | omega)))
    | ((with_reducible apply s_mpu); (case h1 | hk => rfl); (case ha | hp => first | rfl | assumption | omega | ((first | refine ⟨?_, ?_⟩ | skip) <;> first | omega | (simp only [lN, hg] <;> omega)) | (simp [elemsK, D.isVal, D.cells, D.closedL, D.closed, hg]; first | done | omega)))
    | ((with_reducible apply s_lkpS); (case h1 | hk => rfl); (case ha | hf => first | rfl | assumption | omega | ((first | refine ⟨?_, ?_⟩ | skip) <;> first | omega | (simp only [lN, hg] <;> omega)) | (simp [elemsK, D.isVal, D.cells, D.closedL, D.closed, hg]; first | done | omega)))
    | ((with_reducible apply s_lkpN); (case h1 | hk => rfl); (case hf | ha => first | rfl | assumption | omega | ((first | refine ⟨?_, ?_⟩ | skip) <;> first | omega | (simp only [lN, hg] <;> omega)) | (simp [elemsK, D.isVal, D.cells, D.closedL, D.closed, hg]; first | done | omega)))
    | with_reducible first | apply cd_dec | apply cd_eq | apply cd_ne | apply cd_split
    | ((with_reducible refine And.intro ?hw ?_); (case hw => first | omega | rfl | exact ⟨_, _, rfl⟩ | assumption | (simp only [lN, hg] <;> omega)))
    | with_reducible intro _)
  all_goals first | omega | trivial | skip
  all_goals first | exact hQ | trace_state
set_option maxHeartbeats 1000000 in
theorem add_new {E E' : List (D × D × Nat)} {n r i : Nat} {outs : List D} {T : List Tv} {fd : Tv} (hok : (E.all fun e => keyOk (.int .i64) e.1) = true) (hf : findM (.int .i64 (r : Nat)) E 0 = none) (hp : putM E n (.int .i64 (r : Nat)) (.int .i64 (n : Nat)) = .map E' (n + 1))
    (ho : outs.length = n) (hT : T.length = n) (hn : n ≤ 1000) :
    Eff M 28 [.int .i64 (i : Nat), .int .i64 (r : Nat), .ptr 1 0, .ptr 2 0] ⟨[.map E n, .cells [.mp 0], .cells [.gs 1 n]], fd :: .chg 1 outs :: T⟩
      fun d hp => d = .tup [] ∧ hp = ⟨[.map E' (n + 1), .cells [.mp 0], .cells [.gs 1 (n + 1)]], fd :: .chg 1 (outs ++ [.slice [.int .i64 (i : Nat)] (.tok (n + 2))]) :: (T ++ [.per 1 1])⟩ := by
  refine oe28 3 (n + 2) rfl rfl (by simp [hT]) ?_
  rw [ie28]
  unfold c28
  generalize hrc : RC.regD r28_5 r28_6 = rc at *
  repeat' (first
    | with_reducible first | apply swp_seq | apply swp_reg | apply swp_regD | apply swp_block | apply swp_exit | apply swp_ret | apply swp_skip | apply swp_cd
    | simp only [go_sem, seval, pe28, q28, hp]
    | simp (disch := omega) only [w64, w32, wu8, wu16, wu32, wu64]
    | ((with_reducible apply s_appT); (case he => rfl); (case hK | hc | hr | hV => first | rfl | assumption | omega | ((first | refine ⟨?_, ?_⟩ | skip) <;> first | omega | (simp only [lN, ho] <;> omega)) | (simp [elemsK, D.isVal, D.cells, D.closedL, D.closed, ho]; first | done | omega)))
    | ((with_reducible apply s_appG); (case he => rfl); (case hV | hK | hr | hl => first | rfl | assumption | omega | ((first | refine ⟨?_, ?_⟩ | skip) <;> first | omega | (simp only [lN, ho] <;> omega)) | (simp [elemsK, D.isVal, D.cells, D.closedL, D.closed, ho]; first | done | omega)))
    | ((with_reducible apply s_app0G); (case he => rfl); (case hK | hr => first | rfl | assumption | omega | ((first | refine ⟨?_, ?_⟩ | skip) <;> first | omega | (simp only [lN, ho] <;> omega)) | (simp [elemsK, D.isVal, D.cells, D.closedL, D.closed, ho]; first | done | omega)))
    | ((with_reducible first | apply s_bsl | apply t_bsl); (case he | hl | hc => first | rfl | assumption | omega | ((first | refine ⟨?_, ?_⟩ | skip) <;> first | omega | (simp only [lN, ho] <;> omega)) | (simp [elemsK, D.isVal, D.cells, D.closedL, D.closed, ho]; first | done | omega)))
    | ((with_reducible apply s_mpu); (case h1 | hk => rfl); (case ha | hp => first | rfl | assumption | omega | ((first | refine ⟨?_, ?_⟩ | skip) <;> first | omega | (simp only [lN, ho] <;> omega)) | (simp [elemsK, D.isVal, D.cells, D.closedL, D.closed, ho]; first | done | omega)))
    | ((with_reducible apply s_lkpS); (case h1 | hk => rfl); (case ha | hf => first | rfl | assumption | omega | ((first | refine ⟨?_, ?_⟩ | skip) <;> first | omega | (simp only [lN, ho] <;> omega)) | (simp [elemsK, D.isVal, D.cells, D.closedL, D.closed, ho]; first | done | omega)))
    | ((with_reducible apply s_lkpN); (case h1 | hk => rfl); (case hf | ha => first | rfl | assumption | omega | ((first | refine ⟨?_, ?_⟩ | skip) <;> first | omega | (simp only [lN, ho] <;> omega)) | (simp [elemsK, D.isVal, D.cells, D.closedL, D.closed, ho]; first | done | omega)))
    | with_reducible first | apply cd_dec | apply cd_eq | apply cd_ne | apply cd_split
    | ((with_reducible refine And.intro ?hw ?_); (case hw => first | omega | rfl | exact ⟨_, _, rfl⟩ | assumption | (simp only [lN, ho] <;> omega)))
    | with_reducible intro _)
  all_goals first | omega | skip
  have hcat : flatD [D.lit (.slice none 0 0)] = [.lit (.slice none 0 0)] := rfl
  rw [← hrc]
  refine add_reg _ ⟨[.map E' (n + 1), .cells [.mp 0], .cells [.gs 1 (n + 1)]], fd :: .chg 1 (outs ++ [.lit (.slice none 0 0)]) :: (T ++ [.per 1 1])⟩ (.lit (.slice none 0 0)) _ _ [.int .i64 (i : Nat)] (.tok (n + 2)) (outs ++ [.lit (.slice none 0 0)]) (n + 1) n i r _ rfl rfl rfl rfl (by simp [ho]) (by omega) (by simp [List.getD, ho]) ?_ ?_
  · simp only [opWp]
    refine ⟨[.int .i64 (i : Nat)], rfl, rfl, ⟨by simp, by simp⟩, .inl ⟨rfl, .inr ⟨?_, ?_⟩⟩⟩
    · simp [D.erL, D.er, hT]
    · simp
  · refine ⟨trivial, _, weak_refl, ?_⟩
    have : (outs ++ [D.lit (.slice none 0 0)]).set n (.slice [.int .i64 (i : Nat)] (.tok (n + 2))) = outs ++ [.slice [.int .i64 (i : Nat)] (.tok (n + 2))] := by
      rw [List.set_append_right _ _ (by omega)]; simp [ho]
    simp [this]
set_option maxHeartbeats 1000000 in
theorem add_first {E E' : List (D × D × Nat)} {r i : Nat} {fd : Tv} (hok : (E.all fun e => keyOk (.int .i64) e.1) = true) (hf : findM (.int .i64 (r : Nat)) E 0 = none) (hp : putM E 0 (.int .i64 (r : Nat)) (.int .i64 0) = .map E' 1) :
    Eff M 28 [.int .i64 (i : Nat), .int .i64 (r : Nat), .ptr 1 0, .ptr 2 0] ⟨[.map E 0, .cells [.mp 0], .cells [.lit (.slice none 0 0)]], [fd]⟩
      fun d hp => d = .tup [] ∧ hp = ⟨[.map E' 1, .cells [.mp 0], .cells [.gs 1 1]], [fd, .chg 1 [.slice [.int .i64 (i : Nat)] (.tok 2)], .per 1 1]⟩ := by
  refine oe28 3 1 rfl rfl rfl ?_
  rw [ie28]
  unfold c28
  generalize hrc : RC.regD r28_5 r28_6 = rc at *
  repeat' (first
    | with_reducible first | apply swp_seq | apply swp_reg | apply swp_regD | apply swp_block | apply swp_exit | apply swp_ret | apply swp_skip | apply swp_cd
    | simp only [go_sem, seval, pe28, q28, hp, flatD, D.cells]
    | simp (disch := omega) only [w64, w32, wu8, wu16, wu32, wu64]
    | ((with_reducible apply s_appT); (case he => rfl); (case hK | hc | hr | hV => first | rfl | assumption | omega | ((first | refine ⟨?_, ?_⟩ | skip) <;> first | omega | (simp only [lN] <;> omega)) | (simp [elemsK, D.isVal, D.cells, D.closedL, D.closed]; first | done | omega)))
    | ((with_reducible apply s_appG); (case he => rfl); (case hV | hK | hr | hl => first | rfl | assumption | omega | ((first | refine ⟨?_, ?_⟩ | skip) <;> first | omega | (simp only [lN] <;> omega)) | (simp [elemsK, D.isVal, D.cells, D.closedL, D.closed]; first | done | omega)))
    | ((with_reducible apply s_app0G); (case he => rfl); (case hK | hr => first | rfl | assumption | omega | ((first | refine ⟨?_, ?_⟩ | skip) <;> first | omega | (simp only [lN] <;> omega)) | (simp [elemsK, D.isVal, D.cells, D.closedL, D.closed]; first | done | omega)))
    | ((with_reducible first | apply s_bsl | apply t_bsl); (case he | hl | hc => first | rfl | assumption | omega | ((first | refine ⟨?_, ?_⟩ | skip) <;> first | omega | (simp only [lN] <;> omega)) | (simp [elemsK, D.isVal, D.cells, D.closedL, D.closed]; first | done | omega)))
    | ((with_reducible apply s_mpu); (case h1 | hk => rfl); (case ha | hp => first | rfl | assumption | omega | ((first | refine ⟨?_, ?_⟩ | skip) <;> first | omega | (simp only [lN] <;> omega)) | (simp [elemsK, D.isVal, D.cells, D.closedL, D.closed]; first | done | omega)))
    | ((with_reducible apply s_lkpS); (case h1 | hk => rfl); (case ha | hf => first | rfl | assumption | omega | ((first | refine ⟨?_, ?_⟩ | skip) <;> first | omega | (simp only [lN] <;> omega)) | (simp [elemsK, D.isVal, D.cells, D.closedL, D.closed]; first | done | omega)))
    | ((with_reducible apply s_lkpN); (case h1 | hk => rfl); (case hf | ha => first | rfl | assumption | omega | ((first | refine ⟨?_, ?_⟩ | skip) <;> first | omega | (simp only [lN] <;> omega)) | (simp [elemsK, D.isVal, D.cells, D.closedL, D.closed]; first | done | omega)))
    | with_reducible first | apply cd_dec | apply cd_eq | apply cd_ne | apply cd_split
    | ((with_reducible refine And.intro ?hw ?_); (case hw => first | omega | rfl | exact ⟨_, _, rfl⟩ | assumption | (simp only [lN] <;> omega)))
    | with_reducible intro _)
  all_goals first | omega | skip
  rw [← hrc]
  refine add_reg (k := 0) _ ⟨[.map E' 1, .cells [.mp 0], .cells [.gs 1 1]], [fd, .chg 1 [.lit (.slice none 0 0)], .per 1 1]⟩ (.lit (.slice none 0 0)) _ _ [.int .i64 (i : Nat)] (.tok 2) [.lit (.slice none 0 0)] 1 i r _ rfl rfl rfl rfl rfl (by omega) rfl ?_ ?_
  · simp only [opWp]
    refine ⟨[.int .i64 (i : Nat)], rfl, rfl, ⟨by simp, by simp⟩, .inl ⟨rfl, .inr ⟨?_, ?_⟩⟩⟩
    · simp [D.erL, D.er]
    · simp
  · refine ⟨trivial, _, weak_refl, ?_⟩
    simp
set_option maxHeartbeats 1000000 in
theorem add_old {E : List (D × D × Nat)} {n r i c j : Nat} {outs xs : List D} {T : List Tv} {fd : Tv} (hok : (E.all fun e => keyOk (.int .i64) e.1) = true) (hf : findM (.int .i64 (r : Nat)) E 0 = some (j, .int .i64 (c : Nat)))
    (ho : outs.length = n) (hT : T.length = n) (hn : n ≤ 1000) (hc : c < n) (hx : outs.getD c .undef = .slice xs (.tok (c + 2))) (hTc : T[c]? = some (.per 1 xs.length)) (hxl : xs.length ≤ 1000) :
    Eff M 28 [.int .i64 (i : Nat), .int .i64 (r : Nat), .ptr 1 0, .ptr 2 0] ⟨[.map E n, .cells [.mp 0], .cells [.gs 1 n]], fd :: .chg 1 outs :: T⟩
      fun d hp => d = .tup [] ∧ hp = ⟨[.map E n, .cells [.mp 0], .cells [.gs 1 n]], fd :: .chg 1 (outs.set c (.slice (xs ++ [.int .i64 (i : Nat)]) (.tok (c + 2)))) :: T.set c (.per 1 (xs.length + 1))⟩ := by
  refine oe28 3 (n + 2) rfl rfl (by simp [hT]) ?_
  rw [ie28]
  unfold c28
  generalize hrc : RC.regD r28_5 r28_6 = rc at *
  repeat' (first
    | with_reducible first | apply swp_seq | apply swp_reg | apply swp_regD | apply swp_block | apply swp_exit | apply swp_ret | apply swp_skip | apply swp_cd
    | simp only [go_sem, seval, pe28, q28]
    | simp (disch := omega) only [w64, w32, wu8, wu16, wu32, wu64]
    | ((with_reducible apply s_appT); (case he => rfl); (case hK | hc | hr | hV => first | rfl | assumption | omega | ((first | refine ⟨?_, ?_⟩ | skip) <;> first | omega | (simp only [lN, ho] <;> omega)) | (simp [elemsK, D.isVal, D.cells, D.closedL, D.closed, ho]; first | done | omega)))
    | ((with_reducible apply s_appG); (case he => rfl); (case hV | hK | hr | hl => first | rfl | assumption | omega | ((first | refine ⟨?_, ?_⟩ | skip) <;> first | omega | (simp only [lN, ho] <;> omega)) | (simp [elemsK, D.isVal, D.cells, D.closedL, D.closed, ho]; first | done | omega)))
    | ((with_reducible apply s_app0G); (case he => rfl); (case hK | hr => first | rfl | assumption | omega | ((first | refine ⟨?_, ?_⟩ | skip) <;> first | omega | (simp only [lN, ho] <;> omega)) | (simp [elemsK, D.isVal, D.cells, D.closedL, D.closed, ho]; first | done | omega)))
    | ((with_reducible first | apply s_bsl | apply t_bsl); (case he | hl | hc => first | rfl | assumption | omega | ((first | refine ⟨?_, ?_⟩ | skip) <;> first | omega | (simp only [lN, ho] <;> omega)) | (simp [elemsK, D.isVal, D.cells, D.closedL, D.closed, ho]; first | done | omega)))
    | ((with_reducible apply s_mpu); (case h1 | hk => rfl); (case ha | hp => first | rfl | assumption | omega | ((first | refine ⟨?_, ?_⟩ | skip) <;> first | omega | (simp only [lN, ho] <;> omega)) | (simp [elemsK, D.isVal, D.cells, D.closedL, D.closed, ho]; first | done | omega)))
    | ((with_reducible apply s_lkpS); (case h1 | hk => rfl); (case ha | hf => first | rfl | assumption | omega | ((first | refine ⟨?_, ?_⟩ | skip) <;> first | omega | (simp only [lN, ho] <;> omega)) | (simp [elemsK, D.isVal, D.cells, D.closedL, D.closed, ho]; first | done | omega)))
    | ((with_reducible apply s_lkpN); (case h1 | hk => rfl); (case hf | ha => first | rfl | assumption | omega | ((first | refine ⟨?_, ?_⟩ | skip) <;> first | omega | (simp only [lN, ho] <;> omega)) | (simp [elemsK, D.isVal, D.cells, D.closedL, D.closed, ho]; first | done | omega)))
    | with_reducible first | apply cd_dec | apply cd_eq | apply cd_ne | apply cd_split
    | ((with_reducible refine And.intro ?hw ?_); (case hw => first | omega | rfl | exact ⟨_, _, rfl⟩ | assumption | (simp only [lN, ho] <;> omega)))
    | with_reducible intro _)
  all_goals first | omega | skip
  rw [← hrc]
  refine add_reg _ ⟨[.map E n, .cells [.mp 0], .cells [.gs 1 n]], fd :: .chg 1 outs :: T.set c (.per 1 (xs.length + 1))⟩ (.slice xs (.tok (c + 2))) _ _ (xs ++ [.int .i64 (i : Nat)]) (.tok (c + 2)) outs n c i r _ rfl rfl rfl rfl ho hc hx ?_ ?_
  · simp only [opWp]
    refine ⟨[.int .i64 (i : Nat)], rfl, rfl, ⟨?_, ?_⟩, rfl, ?_, ?_⟩
    · simp; omega
    · simp; omega
    · simpa using hTc
    · simp [D.erL, D.er]
  · refine ⟨trivial, _, weak_refl, ?_⟩
    simp
end Go.Proofs.Ytofnggfpegcllaa
end
section
set_option maxRecDepth 100000
set_option linter.unusedSimpArgs false
set_option linter.unusedVariables false
namespace Go.Proofs.Ytofnggfpegcllaa
open Go GoV Go.RowKit
def ixC (L : List Nat) (r : Nat) : Nat := (rtsC L L.length).idxOf r
def plE (L : List Nat) (i : Nat) : List (D × D × Nat) := entG (fun n : Nat => .int .i64 (n : Nat)) (fun r => .int .i64 (ixC L r : Nat)) (rtsC L i) 0
def outD (C : List (List Nat)) : List D := C.mapIdx fun j c => .slice (ints c) (.tok (j + 2))
def perC (C : List (List Nat)) : List Tv := C.map fun c => .per 1 c.length
def compsD (C : List (List Nat)) : List D := C.map fun c => .slice (ints c) .no
theorem rtsC_pre (L : List Nat) {i j : Nat} (h : i ≤ j) : rtsC L i <+: rtsC L j := by
  unfold rtsC
  refine List.IsPrefix.filter _ ?_
  refine ⟨List.range' i (j - i), ?_⟩
  rw [List.range_eq_range', List.range_eq_range']
  have := List.range'_append (s := 0) (m := i) (n := j - i) (step := 1)
  simp at this
  rw [this]; congr 1; omega
theorem rtsC_new {L : List Nat} {i : Nat} (e : lb L i = i) : rtsC L (i + 1) = rtsC L i ++ [i] := by
  unfold rtsC
  rw [List.range_succ, List.filter_append, List.filter_cons, if_pos (by rw [beq_iff_eq]; exact e)]; rfl
theorem rtsC_old {L : List Nat} {i : Nat} (e : lb L i ≠ i) : rtsC L (i + 1) = rtsC L i := by
  unfold rtsC
  rw [List.range_succ, List.filter_append, List.filter_cons, if_neg (by rw [beq_iff_eq]; exact e)]; simp
theorem rtsC_mem {L : List Nat} {i r : Nat} : r ∈ rtsC L i ↔ r < i ∧ lb L r = r := by unfold rtsC; rw [List.mem_filter]; simp
theorem rtsC_nodup (L : List Nat) (i : Nat) : (rtsC L i).Nodup := by unfold rtsC; exact List.nodup_range.filter _
theorem rtsC_le (L : List Nat) (i : Nat) : (rtsC L i).length ≤ i := by
  unfold rtsC
  refine Nat.le_trans (List.length_filter_le _ _) ?_
  simp
theorem ixC_get {L : List Nat} {i c : Nat} (hi : i ≤ L.length) (hc : c < (rtsC L i).length) : ixC L (rtsC L i)[c] = c := by
  obtain ⟨t, ht⟩ := rtsC_pre L hi
  unfold ixC
  have e : (rtsC L i)[c] = (rtsC L L.length)[c]'(by rw [← ht, List.length_append]; omega) := by
    simp only [← ht]
    rw [List.getElem_append_left hc]
  rw [e, (rtsC_nodup L L.length).idxOf_getElem]
theorem outC_len (L : List Nat) (i : Nat) : (outC L i).length = (rtsC L i).length := by simp [outC, rtsC]
theorem outD_len (C : List (List Nat)) : (outD C).length = C.length := by simp [outD]
theorem plE_ok (L : List Nat) (i : Nat) : ((plE L i).all fun e => keyOk (.int .i64) e.1) = true := entG_ok keyInt _ _
theorem plE_new {L : List Nat} {i : Nat} (hi : i < L.length) (e : lb L i = i) : findM (.int .i64 (i : Nat)) (plE L i) 0 = none ∧ putM (plE L i) (rtsC L i).length (.int .i64 (i : Nat)) (.int .i64 ((rtsC L i).length : Nat)) = .map (plE L (i + 1)) ((rtsC L i).length + 1) := by
  have hn : i ∉ rtsC L i := fun h => by have := (rtsC_mem.1 h).1; omega
  refine ⟨entG_none keyInt hn, ?_⟩
  have := entG_new (vf := fun r : Nat => .int .i64 (ixC L r : Nat)) keyInt (.int .i64 ((rtsC L i).length : Nat)) hn
  unfold plE
  rw [this, rtsC_new e]
  have hix : ixC L i = (rtsC L i).length := by
    have h1 : (rtsC L (i + 1)).length = (rtsC L i).length + 1 := by rw [rtsC_new e, List.length_append]; rfl
    have := ixC_get (L := L) (i := i + 1) (c := (rtsC L i).length) (by omega) (by omega)
    simp only [rtsC_new e] at this
    simpa using this
  have hu : upd (fun r : Nat => D.int .i64 (ixC L r : Nat)) i (.int .i64 ((rtsC L i).length : Nat)) = fun r => .int .i64 (ixC L r : Nat) := by
    funext r
    unfold upd
    split
    · rename_i q; subst q; rw [hix]
    · rfl
  rw [hu]
theorem plE_old {L : List Nat} (hL : Lo L) {i : Nat} (hi : i < L.length) (e : lb L i ≠ i) : ∃ j c, findM (.int .i64 (lb L i : Nat)) (plE L i) 0 = some (j, .int .i64 (c : Nat)) ∧ ∃ h : c < (rtsC L i).length, (rtsC L i)[c] = lb L i := by
  obtain ⟨h1, h2⟩ := hL i hi
  have hm : lb L i ∈ rtsC L i := rtsC_mem.2 ⟨by omega, h2⟩
  obtain ⟨j, hj⟩ := entG_some (vf := fun r : Nat => .int .i64 (ixC L r : Nat)) keyInt hm
  obtain ⟨c, hc, hcr⟩ := List.getElem_of_mem hm
  refine ⟨j, c, ?_, hc, hcr⟩
  unfold plE
  rw [hj, ← hcr, ixC_get (by omega) hc]
def cH (L : List Nat) (i : Nat) (F : List Nat) : Hp :=
  if i = 0 then ⟨[.map [] 0, .cells [.mp 0], .cells [.lit (.slice none 0 0)]], [.chg 1 (ints F)]⟩
  else ⟨[.map (plE L i) (rtsC L i).length, .cells [.mp 0], .cells [.gs 1 (rtsC L i).length]], .chg 1 (ints F) :: .chg 1 (outD (outC L i)) :: perC (outC L i)⟩
theorem add_e {L : List Nat} (hL : Lo L) {i : Nat} (hi : i < L.length) (hN : L.length ≤ 1000) (F : List Nat) :
    Eff M 28 [.int .i64 (i : Nat), .int .i64 (lb L i : Nat), .ptr 1 0, .ptr 2 0] (cH L i F) fun d hp => d = .tup [] ∧ hp = cH L (i + 1) F := by
  have hok := plE_ok L i
  have hol := outC_len L i
  have hle := rtsC_le L i
  unfold cH
  rw [if_neg (show i + 1 ≠ 0 by omega)]
  by_cases e : lb L i = i
  · obtain ⟨h1, h2⟩ := plE_new hi e
    have ho := outC_new hL hi e
    rw [rtsC_new e, ho, e]
    have d1 : outD (outC L i ++ [[i]]) = outD (outC L i) ++ [.slice [.int .i64 (i : Nat)] (.tok ((rtsC L i).length + 2))] := by
      unfold outD; rw [List.mapIdx_append]; simp [ints, hol]
    have d2 : perC (outC L i ++ [[i]]) = perC (outC L i) ++ [.per 1 1] := by simp [perC]
    rw [d1, d2, List.length_append]
    by_cases h0 : i = 0
    · subst h0
      have r0 : rtsC L 0 = [] := rfl
      have o0 : outC L 0 = [] := rfl
      have p0 : plE L 0 = [] := rfl
      rw [if_pos rfl, r0, o0]
      rw [r0, p0] at h2
      rw [p0] at h1 hok
      exact add_first (i := 0) hok h1 h2
    · rw [if_neg h0]
      exact add_new hok h1 h2 (by rw [outD_len, hol]) (by simp [perC, hol]) (by omega)
  · obtain ⟨j, c, h1, hc, hcr⟩ := plE_old hL hi e
    have h0 : i ≠ 0 := fun q => by subst q; have := (hL 0 hi).1; omega
    have ho := outC_old hL hi e hc hcr
    have hpl : plE L (i + 1) = plE L i := by unfold plE; rw [rtsC_old e]
    rw [if_neg h0, rtsC_old e, hpl, ho]
    have hco : c < (outC L i).length := by omega
    have hget : (outC L i).getD c [] = (outC L i)[c] := by simp [List.getD, hco]
    have hx : (outD (outC L i)).getD c .undef = .slice (ints (outC L i)[c]) (.tok (c + 2)) := by simp [outD, List.getD, hco]
    have hl1 : ((outC L i)[c]).length ≤ 1000 := by
      have : (outC L i)[c] = (List.range i).filter fun x => lb L x == (rtsC L i)[c] := by simp [outC, rtsC]
      rw [this]
      refine Nat.le_trans (List.length_filter_le _ _) ?_
      simp; omega
    have := add_old (i := i) (r := lb L i) (T := perC (outC L i)) (fd := .chg 1 (ints F)) hok h1 (by rw [outD_len, hol]) (by simp [perC, hol]) (by omega) hc hx (by simp [perC, hco, ints_len]) (by rw [ints_len]; exact hl1)
    have d1 : outD ((outC L i).set c ((outC L i).getD c [] ++ [i])) = (outD (outC L i)).set c (.slice (ints (outC L i)[c] ++ [.int .i64 (i : Nat)]) (.tok (c + 2))) := by
      unfold outD; rw [List.mapIdx_set, hget]; simp [ints]
    have d2 : perC ((outC L i).set c ((outC L i).getD c [] ++ [i])) = (perC (outC L i)).set c (.per 1 ((ints (outC L i)[c]).length + 1)) := by
      unfold perC; rw [List.map_set, hget]; simp [ints_len]
    rw [d1, d2]
    exact this
end Go.Proofs.Ytofnggfpegcllaa
end
section
set_option maxRecDepth 100000
set_option linter.unusedSimpArgs false
set_option linter.unusedVariables false
namespace Go.Proofs.Ytofnggfpegcllaa
open Go GoV Go.RowKit
set_option maxHeartbeats 2000000 in
theorem components_p (l : List Rp) (hl : l.length ≤ 1000) (hs : Small l) : Pur M 13 [rpsD l] (.slice (compsD (comps (namesL l))) .no) := by
  have cl := linked_e l hl hs
  have hfo := foF_fo (namesL l)
  have hlo := labs_lo (namesL l)
  have hln : (labs (namesL l)).length = l.length := by rw [labs_len, namesL_len]
  have hlen : (l.map rpD).length = l.length := by simp
  unfold comps
  have hcomps : compsL (labs (namesL l)) = outC (labs (namesL l)) l.length := by rw [← hln]; rfl
  rw [hcomps]
  have hF0 : (lnkF (namesL l) l.length).1 = foF (namesL l) := by unfold foF; rw [namesL_len]
  rw [hF0] at cl
  have hrnE := fun β τ => eF_rn β τ (lnkF (namesL l) l.length).2
  generalize (lnkF (namesL l) l.length).2 = MF at *
  generalize foF (namesL l) = F0 at *
  generalize labs (namesL l) = L at *
  generalize eF MF = EF at *
  have hclr := closedL_R l
  have herr := erL_R l
  have hcl2 : ∀ C : List (List Nat), D.closedL (compsD C) = true ∧ D.erL (compsD C) = compsD C := fun C => by
    induction C with
    | nil => exact ⟨rfl, rfl⟩
    | cons c C ih => simp [compsD, D.closedL, D.erL, D.closed, D.er] at ih ⊢; exact ih
  have hrn := fun β τ F => ints_rn β τ F
  by_cases h0 : l.length = 0
  · have ho : outC L l.length = [] := by rw [h0]; rfl
    rw [ho]
    refine pur_res (d := .lit (.slice none 0 0)) ?_ rfl
    refine ow13 rfl ?_
    rw [i13]
    unfold c13
    repeat' (first
    | with_reducible first | apply swp_seq | apply swp_reg | apply swp_regD | apply swp_block | apply swp_exit | apply swp_ret | apply swp_skip | apply swp_cd
    | simp only [go_sem, seval, P13, q13, hrn, hrnE, o_newM]
    | simp (disch := omega) only [w64, w32, wu8, wu16, wu32, wu64]
    | ((with_reducible refine o_eff [] [] (cl) ?hs ?he ?hh ?_); (case hs => exact ⟨by simp, by simp, by simp, by simp⟩); (case he => first | rfl | (simp [go_sem, seval, hrn, Hp.back, putAt, bakF, Blk.rnL, Blk.rn, Tv.rnL, Tv.rn, D.rnL, D.rn, Own.rn, hrnE]; done)); (case hh => first | rfl | (simp [go_sem, seval, hrn, Hp.back, putAt, bakF, Blk.rnL, Blk.rn, Tv.rnL, Tv.rn, D.rnL, D.rn, Own.rn, hrnE]; done)); rintro _ _ ⟨rfl, rfl⟩)
    | with_reducible first | apply cd_dec | apply cd_eq | apply cd_ne | apply cd_split
    | ((with_reducible refine And.intro ?hw ?_); (case hw => first | omega | rfl | exact ⟨_, _, rfl⟩ | assumption | (simp only [lN, hrn, Hp.back, putAt, bakF, Blk.rnL, Blk.rn, Tv.rnL, Tv.rn, D.rnL, D.rn, Own.rn, hrnE] <;> omega)))
    | with_reducible intro _)
    all_goals first | omega | skip
    refine swp_fam [2, 3, 4, 5, 6, 8, 9] (fun _ : Unit => ⟨[.undef, .undef, .gs 0 l.length, .fn (.func 27) [.gs 0 l.length] [], .ptr 2 0, .ptr 3 0, .fn (.func 28) [] [.ptr 2 0, .ptr 3 0], .undef, .int .i64 l.length, .int .i64 0, .undef], [], ⟨[.map EF MF.length, .map [] 0, .cells [.mp 1], .cells [.lit (.slice none 0 0)]], [.chg 1 (ints F0)]⟩⟩) (fun _ => True) (fun _ => 0) () trivial ?_ ?_
    · simp [keepE, St.keep]
    · intro _ _
      have t0 : decide ((0 : Int) < l.length) = false := by rw [h0]; rfl
      repeat' (first
    | with_reducible first | apply swp_seq | apply swp_reg | apply swp_regD | apply swp_block | apply swp_exit | apply swp_ret | apply swp_skip | apply swp_cd
    | simp only [go_sem, seval, P13, q13, t0, o_newM]
    | simp (disch := omega) only [w64, w32, wu8, wu16, wu32, wu64]
    | with_reducible first | apply cd_dec | apply cd_eq | apply cd_ne | apply cd_split
    | ((with_reducible refine And.intro ?hw ?_); (case hw => first | omega | rfl | exact ⟨_, _, rfl⟩ | assumption | (simp only [lN] <;> omega)))
    | with_reducible intro _)
      all_goals first | omega | skip
      exact ⟨_, weak_refl, by simp [D.closed], by simp [D.er]⟩
  · refine ow13 rfl ?_
    rw [i13]
    unfold c13
    repeat' (first
    | with_reducible first | apply swp_seq | apply swp_reg | apply swp_regD | apply swp_block | apply swp_exit | apply swp_ret | apply swp_skip | apply swp_cd
    | simp only [go_sem, seval, P13, q13, hrn, hrnE, o_newM]
    | simp (disch := omega) only [w64, w32, wu8, wu16, wu32, wu64]
    | ((with_reducible refine o_eff [] [] (cl) ?hs ?he ?hh ?_); (case hs => exact ⟨by simp, by simp, by simp, by simp⟩); (case he => first | rfl | (simp [go_sem, seval, hrn, Hp.back, putAt, bakF, Blk.rnL, Blk.rn, Tv.rnL, Tv.rn, D.rnL, D.rn, Own.rn, hrnE]; done)); (case hh => first | rfl | (simp [go_sem, seval, hrn, Hp.back, putAt, bakF, Blk.rnL, Blk.rn, Tv.rnL, Tv.rn, D.rnL, D.rn, Own.rn, hrnE]; done)); rintro _ _ ⟨rfl, rfl⟩)
    | with_reducible first | apply cd_dec | apply cd_eq | apply cd_ne | apply cd_split
    | ((with_reducible refine And.intro ?hw ?_); (case hw => first | omega | rfl | exact ⟨_, _, rfl⟩ | assumption | (simp only [lN, hrn, Hp.back, putAt, bakF, Blk.rnL, Blk.rn, Tv.rnL, Tv.rn, D.rnL, D.rn, Own.rn, hrnE] <;> omega)))
    | with_reducible intro _)
    all_goals first | omega | skip
    refine swp_weak (weak_trans (weak_keep [2, 3, 4, 5, 6, 8, 9]) (weak_sel [1, 2, 3] [0] ⟨by simp, by simp, by simp, by simp⟩ rfl rfl)) ?_
    simp only [keepE, St.sel, Hp.sel, D.rnL, D.rn, posF, idx, Blk.rn, Blk.rnL, Tv.rnL, Own.rn, pairs, List.map_cons, List.map_nil, List.getD_cons_zero, List.getD_cons_succ, Tv.rn, hrn]
    refine swp_fam [2, 3, 4, 5, 6, 8, 9] (fun p : Nat × List Nat => ⟨[.undef, .undef, .gs 0 l.length, .fn (.func 27) [.gs 0 l.length] [], .ptr 1 0, .ptr 2 0, .fn (.func 28) [] [.ptr 1 0, .ptr 2 0], .undef, .int .i64 l.length, .int .i64 p.1, .undef], [], cH L p.1 p.2⟩) (fun p => p.1 ≤ l.length ∧ Fo p.2 L) (fun p => l.length - p.1) (0, F0) ⟨by omega, hfo⟩ ?_ ?_
    · simp [keepE, St.keep, cH, D.rn, D.rnL, posF, idx]
    · rintro ⟨i, F⟩ ⟨hi, hF⟩
      simp only at hi hF ⊢
      by_cases hil : i < l.length
      · have t0 : decide (((i : Nat) : Int) < l.length) = true := by simp; omega
        have cr := root_e hlo hF (by omega) (i := i) (by omega)
        rw [rt_root hlo hF (by omega), hF.len, hln] at cr
        have ca := add_e hlo (i := i) (by omega) (by omega) (rt F i).1
        have hF2 := rt_fo hlo hF (i := i) (by omega)
        have hsel : (cH L i F).sel [] [0] = ⟨[], [.chg 1 (ints F)]⟩ := by
          unfold cH; split <;> simp [Hp.sel, Blk.rnL, Tv.rnL, Tv.rn, hrn]
        have hbk : (cH L i F).back [] [0] ⟨[], [.chg 1 (ints (rt F i).1)]⟩ = cH L i (rt F i).1 := by
          unfold cH; split <;> simp [Hp.back, putAt, bakF, Blk.rnL, Tv.rnL, Tv.rn, hrn]
        have hso : SelOk (cH L i F) [] [0] := by unfold cH; split <;> exact ⟨by simp, by simp, by simp, by simp⟩
        repeat' (first
    | with_reducible first | apply swp_seq | apply swp_reg | apply swp_regD | apply swp_block | apply swp_exit | apply swp_ret | apply swp_skip | apply swp_cd
    | simp only [go_sem, seval, P13, q13, t0, o_newM]
    | simp (disch := omega) only [w64, w32, wu8, wu16, wu32, wu64]
    | with_reducible first | apply cd_dec | apply cd_eq | apply cd_ne | apply cd_split
    | ((with_reducible refine And.intro ?hw ?_); (case hw => first | omega | rfl | exact ⟨_, _, rfl⟩ | assumption | (simp only [lN] <;> omega)))
    | with_reducible intro _)
        refine o_eff [] [0] cr hso rfl hsel ?_
        rintro _ _ ⟨rfl, rfl⟩
        simp only
        rw [hbk]
        simp only [D.rn]
        repeat' (first
    | with_reducible first | apply swp_seq | apply swp_reg | apply swp_regD | apply swp_block | apply swp_exit | apply swp_ret | apply swp_skip | apply swp_cd
    | simp only [go_sem, seval, P13, q13, t0, o_newM]
    | simp (disch := omega) only [w64, w32, wu8, wu16, wu32, wu64]
    | ((with_reducible refine o_same (ca) ?he ?hh ?_); (case he => first | rfl | (simp [go_sem, seval]; done)); (case hh => first | rfl | (simp [go_sem, seval]; done)))
    | with_reducible first | apply cd_dec | apply cd_eq | apply cd_ne | apply cd_split
    | ((with_reducible refine And.intro ?hw ?_); (case hw => first | omega | rfl | exact ⟨_, _, rfl⟩ | assumption | (simp only [lN] <;> omega)))
    | with_reducible intro _)
        all_goals first | omega | skip
        exact ⟨(i + 1, (rt F i).1), ⟨by simp only; omega, hF2⟩, by simp only; omega, by simp [keepE, St.keep]⟩
      · have t0 : decide (((i : Nat) : Int) < l.length) = false := by simp; omega
        have : i = l.length := by omega
        subst this
        have hcH : cH L l.length F = ⟨[.map (plE L l.length) (rtsC L l.length).length, .cells [.mp 0], .cells [.gs 1 (rtsC L l.length).length]], .chg 1 (ints F) :: .chg 1 (outD (outC L l.length)) :: perC (outC L l.length)⟩ := by unfold cH; rw [if_neg h0]
        rw [hcH]
        have hol := outC_len L l.length
        rw [← hol]
        generalize outC L l.length = C at *
        clear hcH
        repeat' (first
    | with_reducible first | apply swp_seq | apply swp_reg | apply swp_regD | apply swp_block | apply swp_exit | apply swp_ret | apply swp_skip | apply swp_cd
    | simp only [go_sem, seval, P13, q13, t0, o_newM]
    | simp (disch := omega) only [w64, w32, wu8, wu16, wu32, wu64]
    | with_reducible first | apply cd_dec | apply cd_eq | apply cd_ne | apply cd_split
    | ((with_reducible refine And.intro ?hw ?_); (case hw => first | omega | rfl | exact ⟨_, _, rfl⟩ | assumption | (simp only [lN] <;> omega)))
    | with_reducible intro _)
        all_goals first | omega | skip
        have hdl := outD_len C
        have hcc : ∀ (C : List (List Nat)) (f : Nat → GoV.Own), D.closedL (C.mapIdx fun j c => .slice (ints c) (f j)) = true ∧ D.erL (C.mapIdx fun j c => .slice (ints c) (f j)) = compsD C := fun C => by
          induction C with
          | nil => exact fun _ => ⟨rfl, rfl⟩
          | cons c C ih =>
            intro f
            have := ih fun j => f (j + 1)
            rw [List.mapIdx_cons]
            simp only [D.closedL, D.erL, D.closed, D.er, Bool.true_and, compsD, List.map_cons] at this ⊢
            exact ⟨this.1, by rw [this.2]⟩
        obtain ⟨k1, k2⟩ := hcc C fun j => .tok (j + 2)
        have hch : ∀ C : List (List Nat), chunk 1 C.length (compsD C) = compsD C := fun C => by
          induction C with
          | nil => rfl
          | cons c C ih =>
            simp only [compsD, List.map_cons, List.length_cons, chunk, List.drop_succ_cons, List.drop_zero] at ih ⊢
            rw [ih]; rfl
        have hel : ∀ C : List (List Nat), elemsK 1 (compsD C) = true := fun C => elemsK_map (fun c : List Nat => D.slice (ints c) .no) 1 (fun _ => ⟨rfl, rfl⟩) C
        have k2' : D.erL (outD C) = compsD C := k2
        refine ⟨_, weak_trans (weak_keep [1]) (weak_frzT 1 1 C.length (outD C) rfl (by rw [hdl, Nat.mul_one]) (Nat.zero_le _) k1 ?_), ?_⟩
        · rw [k2', hch]; exact hel C
        · rw [k2']
          obtain ⟨m1, m2⟩ := hcl2 C
          simp [St.frzT, keepE, D.fzt, hch, D.closed, D.er]
end Go.Proofs.Ytofnggfpegcllaa
end
section
set_option maxRecDepth 100000
set_option linter.unusedSimpArgs false
set_option linter.unusedVariables false
namespace Go.Proofs.Ytofnggfpegcllaa
open Go GoV Go.RowKit
theorem cl_ints (F : List Nat) : D.closedL (ints F) = true := by induction F with | nil => rfl | cons x l ih => simp_all [ints, D.closedL, D.closed]
theorem er_ints (F : List Nat) : D.erL (ints F) = ints F := by induction F with | nil => rfl | cons x l ih => simp_all [ints, D.erL, D.er]
theorem elems_ints (F : List Nat) : elemsK 1 (ints F) = true := elemsK_map (fun n : Nat => D.int .i64 (n : Nat)) 1 (fun _ => ⟨rfl, rfl⟩) F
def filtL (L : List Nat) (k i : Nat) : List Nat := (List.range i).filter fun j => lb L j == lb L k
theorem filtL_le (L : List Nat) (k i : Nat) : (filtL L k i).length ≤ i := by
  unfold filtL
  refine Nat.le_trans (List.length_filter_le _ _) ?_
  simp
theorem filtL_in {L : List Nat} {k i : Nat} (h : lb L i = lb L k) : filtL L k (i + 1) = filtL L k i ++ [i] := by
  unfold filtL
  rw [List.range_succ, List.filter_append, List.filter_cons, if_pos (by rw [beq_iff_eq]; exact h)]; rfl
theorem filtL_out {L : List Nat} {k i : Nat} (h : lb L i ≠ lb L k) : filtL L k (i + 1) = filtL L k i := by
  unfold filtL
  rw [List.range_succ, List.filter_append, List.filter_cons, if_neg (by rw [beq_iff_eq]; exact h)]; simp
set_option maxHeartbeats 2000000 in
theorem of_p (l : List Rp) (hl : l.length ≤ 1000) (hs : Small l) (part : Nm) : Pur M 16 [rpsD l, .str part] (.slice (ints (ofP (namesL l) part)) .no) := by
  have cl := linked_e l hl hs
  have hfo := foF_fo (namesL l)
  have hlo := labs_lo (namesL l)
  have hln : (labs (namesL l)).length = l.length := by rw [labs_len, namesL_len]
  have hlen : (l.map rpD).length = l.length := by simp
  have hF0 : (lnkF (namesL l) l.length).1 = foF (namesL l) := by unfold foF; rw [namesL_len]
  have hfirst := (inv_lnk (namesL l) l.length).first part
  have hlk : look (lnk (namesL l) (namesL l).length).2 part = look (lnkF (namesL l) l.length).2 part := by rw [lnkF_first, namesL_len]
  rw [← lnkF_first] at hfirst
  unfold ofP
  rw [hlk, namesL_len]
  rw [hF0] at cl
  have hok := eF_ok (lnkF (namesL l) l.length).2
  have hN := eF_none (F := (lnkF (namesL l) l.length).2) (s := part)
  have hS := fun k => eF_some (F := (lnkF (namesL l) l.length).2) (s := part) (k := k)
  have hrnE := fun β τ => eF_rn β τ (lnkF (namesL l) l.length).2
  generalize (lnkF (namesL l) l.length).2 = MF at *
  generalize foF (namesL l) = F0 at *
  generalize labs (namesL l) = L at *
  generalize eF MF = EF at *
  have hclr := closedL_R l
  have herr := erL_R l
  have hrn := fun β τ F => ints_rn β τ F
  refine ow16 rfl ?_
  rw [i16]
  unfold c16
  cases hk : look MF part with
  | none =>
    have hf := hN hk
    repeat' (first
    | with_reducible first | apply swp_seq | apply swp_reg | apply swp_regD | apply swp_block | apply swp_exit | apply swp_ret | apply swp_skip | apply swp_cd
    | simp only [go_sem, seval, P16, q16, hrn, hrnE]
    | simp (disch := omega) only [w64, w32, wu8, wu16, wu32, wu64]
    | ((with_reducible refine o_eff [] [] (cl) ?hs ?he ?hh ?_); (case hs => exact ⟨by simp, by simp, by simp, by simp⟩); (case he => first | rfl | (simp [go_sem, seval, hrn, Hp.back, putAt, bakF, Blk.rnL, Blk.rn, Tv.rnL, Tv.rn, D.rnL, D.rn, Own.rn, hrnE, hok, hf]; done)); (case hh => first | rfl | (simp [go_sem, seval, hrn, Hp.back, putAt, bakF, Blk.rnL, Blk.rn, Tv.rnL, Tv.rn, D.rnL, D.rn, Own.rn, hrnE, hok, hf]; done)); rintro _ _ ⟨rfl, rfl⟩)
    | ((with_reducible apply s_appT); (case he => rfl); (case hK | hc | hr | hV => first | rfl | assumption | omega | ((first | refine ⟨?_, ?_⟩ | skip) <;> first | omega | (simp only [lN, hrn, Hp.back, putAt, bakF, Blk.rnL, Blk.rn, Tv.rnL, Tv.rn, D.rnL, D.rn, Own.rn, hrnE, hok, hf] <;> omega)) | (simp [elemsK, D.isVal, D.cells, D.closedL, D.closed, hrn, Hp.back, putAt, bakF, Blk.rnL, Blk.rn, Tv.rnL, Tv.rn, D.rnL, D.rn, Own.rn, hrnE, hok, hf]; first | done | omega)))
    | ((with_reducible apply s_appG); (case he => rfl); (case hV | hK | hr | hl => first | rfl | assumption | omega | ((first | refine ⟨?_, ?_⟩ | skip) <;> first | omega | (simp only [lN, hrn, Hp.back, putAt, bakF, Blk.rnL, Blk.rn, Tv.rnL, Tv.rn, D.rnL, D.rn, Own.rn, hrnE, hok, hf] <;> omega)) | (simp [elemsK, D.isVal, D.cells, D.closedL, D.closed, hrn, Hp.back, putAt, bakF, Blk.rnL, Blk.rn, Tv.rnL, Tv.rn, D.rnL, D.rn, Own.rn, hrnE, hok, hf]; first | done | omega)))
    | ((with_reducible apply s_app0); (case he => rfl); (case hK | hc | hr => first | rfl | assumption | omega | ((first | refine ⟨?_, ?_⟩ | skip) <;> first | omega | (simp only [lN, hrn, Hp.back, putAt, bakF, Blk.rnL, Blk.rn, Tv.rnL, Tv.rn, D.rnL, D.rn, Own.rn, hrnE, hok, hf] <;> omega)) | (simp [elemsK, D.isVal, D.cells, D.closedL, D.closed, hrn, Hp.back, putAt, bakF, Blk.rnL, Blk.rn, Tv.rnL, Tv.rn, D.rnL, D.rn, Own.rn, hrnE, hok, hf]; first | done | omega)))
    | ((with_reducible apply s_appF); (case he => rfl); (case hK | hc | hr | hx | hn => first | rfl | assumption | omega | ((first | refine ⟨?_, ?_⟩ | skip) <;> first | omega | (simp only [lN, hrn, Hp.back, putAt, bakF, Blk.rnL, Blk.rn, Tv.rnL, Tv.rn, D.rnL, D.rn, Own.rn, hrnE, hok, hf] <;> omega)) | (simp [elemsK, D.isVal, D.cells, D.closedL, D.closed, hrn, Hp.back, putAt, bakF, Blk.rnL, Blk.rn, Tv.rnL, Tv.rn, D.rnL, D.rn, Own.rn, hrnE, hok, hf]; first | done | omega)))
    | ((with_reducible apply s_bsl); (case he | hl | hc => first | rfl | assumption | omega | ((first | refine ⟨?_, ?_⟩ | skip) <;> first | omega | (simp only [lN, hrn, Hp.back, putAt, bakF, Blk.rnL, Blk.rn, Tv.rnL, Tv.rn, D.rnL, D.rn, Own.rn, hrnE, hok, hf] <;> omega)) | (simp [elemsK, D.isVal, D.cells, D.closedL, D.closed, hrn, Hp.back, putAt, bakF, Blk.rnL, Blk.rn, Tv.rnL, Tv.rn, D.rnL, D.rn, Own.rn, hrnE, hok, hf]; first | done | omega)))
    | ((with_reducible apply s_lkpS); (case h1 | hk => rfl); (case ha | hf => first | rfl | assumption | omega | ((first | refine ⟨?_, ?_⟩ | skip) <;> first | omega | (simp only [lN, hrn, Hp.back, putAt, bakF, Blk.rnL, Blk.rn, Tv.rnL, Tv.rn, D.rnL, D.rn, Own.rn, hrnE, hok, hf] <;> omega)) | (simp [elemsK, D.isVal, D.cells, D.closedL, D.closed, hrn, Hp.back, putAt, bakF, Blk.rnL, Blk.rn, Tv.rnL, Tv.rn, D.rnL, D.rn, Own.rn, hrnE, hok, hf]; first | done | omega)))
    | ((with_reducible apply s_lkpN); (case h1 | hk => rfl); (case hf | ha => first | rfl | assumption | omega | ((first | refine ⟨?_, ?_⟩ | skip) <;> first | omega | (simp only [lN, hrn, Hp.back, putAt, bakF, Blk.rnL, Blk.rn, Tv.rnL, Tv.rn, D.rnL, D.rn, Own.rn, hrnE, hok, hf] <;> omega)) | (simp [elemsK, D.isVal, D.cells, D.closedL, D.closed, hrn, Hp.back, putAt, bakF, Blk.rnL, Blk.rn, Tv.rnL, Tv.rn, D.rnL, D.rn, Own.rn, hrnE, hok, hf]; first | done | omega)))
    | with_reducible first | apply cd_dec | apply cd_eq | apply cd_ne | apply cd_split
    | ((with_reducible refine And.intro ?hw ?_); (case hw => first | omega | rfl | exact ⟨_, _, rfl⟩ | assumption | (simp only [lN, hrn, Hp.back, putAt, bakF, Blk.rnL, Blk.rn, Tv.rnL, Tv.rn, D.rnL, D.rn, Own.rn, hrnE, hok, hf] <;> omega)))
    | with_reducible intro _)
    all_goals first | omega | skip
    exact ⟨_, weak_nn, by simp [D.nnL, D.nn, D.closed], by simp [D.nnL, D.nn, D.er, ints]⟩
  | some k =>
    obtain ⟨q, hf⟩ := hS k hk
    have hkl := (hfirst k hk).1
    show SWp C16 _ (fun e s => _ ∧ ∃ s1, Weak C16 s s1 ∧ rrsWp q16 s1 fun ds => D.closed (oneOrTup ds) = true ∧ (oneOrTup ds).er = .slice (ints (filtL L k l.length)) .no) _
    repeat' (first
    | with_reducible first | apply swp_seq | apply swp_reg | apply swp_regD | apply swp_block | apply swp_exit | apply swp_ret | apply swp_skip | apply swp_cd
    | simp only [go_sem, seval, P16, q16, hrn, hrnE]
    | simp (disch := omega) only [w64, w32, wu8, wu16, wu32, wu64]
    | ((with_reducible refine o_eff [] [] (cl) ?hs ?he ?hh ?_); (case hs => exact ⟨by simp, by simp, by simp, by simp⟩); (case he => first | rfl | (simp [go_sem, seval, hrn, Hp.back, putAt, bakF, Blk.rnL, Blk.rn, Tv.rnL, Tv.rn, D.rnL, D.rn, Own.rn, hrnE, hok, hf]; done)); (case hh => first | rfl | (simp [go_sem, seval, hrn, Hp.back, putAt, bakF, Blk.rnL, Blk.rn, Tv.rnL, Tv.rn, D.rnL, D.rn, Own.rn, hrnE, hok, hf]; done)); rintro _ _ ⟨rfl, rfl⟩)
    | ((with_reducible apply s_appT); (case he => rfl); (case hK | hc | hr | hV => first | rfl | assumption | omega | ((first | refine ⟨?_, ?_⟩ | skip) <;> first | omega | (simp only [lN, hrn, Hp.back, putAt, bakF, Blk.rnL, Blk.rn, Tv.rnL, Tv.rn, D.rnL, D.rn, Own.rn, hrnE, hok, hf] <;> omega)) | (simp [elemsK, D.isVal, D.cells, D.closedL, D.closed, hrn, Hp.back, putAt, bakF, Blk.rnL, Blk.rn, Tv.rnL, Tv.rn, D.rnL, D.rn, Own.rn, hrnE, hok, hf]; first | done | omega)))
    | ((with_reducible apply s_appG); (case he => rfl); (case hV | hK | hr | hl => first | rfl | assumption | omega | ((first | refine ⟨?_, ?_⟩ | skip) <;> first | omega | (simp only [lN, hrn, Hp.back, putAt, bakF, Blk.rnL, Blk.rn, Tv.rnL, Tv.rn, D.rnL, D.rn, Own.rn, hrnE, hok, hf] <;> omega)) | (simp [elemsK, D.isVal, D.cells, D.closedL, D.closed, hrn, Hp.back, putAt, bakF, Blk.rnL, Blk.rn, Tv.rnL, Tv.rn, D.rnL, D.rn, Own.rn, hrnE, hok, hf]; first | done | omega)))
    | ((with_reducible apply s_app0); (case he => rfl); (case hK | hc | hr => first | rfl | assumption | omega | ((first | refine ⟨?_, ?_⟩ | skip) <;> first | omega | (simp only [lN, hrn, Hp.back, putAt, bakF, Blk.rnL, Blk.rn, Tv.rnL, Tv.rn, D.rnL, D.rn, Own.rn, hrnE, hok, hf] <;> omega)) | (simp [elemsK, D.isVal, D.cells, D.closedL, D.closed, hrn, Hp.back, putAt, bakF, Blk.rnL, Blk.rn, Tv.rnL, Tv.rn, D.rnL, D.rn, Own.rn, hrnE, hok, hf]; first | done | omega)))
    | ((with_reducible apply s_appF); (case he => rfl); (case hK | hc | hr | hx | hn => first | rfl | assumption | omega | ((first | refine ⟨?_, ?_⟩ | skip) <;> first | omega | (simp only [lN, hrn, Hp.back, putAt, bakF, Blk.rnL, Blk.rn, Tv.rnL, Tv.rn, D.rnL, D.rn, Own.rn, hrnE, hok, hf] <;> omega)) | (simp [elemsK, D.isVal, D.cells, D.closedL, D.closed, hrn, Hp.back, putAt, bakF, Blk.rnL, Blk.rn, Tv.rnL, Tv.rn, D.rnL, D.rn, Own.rn, hrnE, hok, hf]; first | done | omega)))
    | ((with_reducible apply s_bsl); (case he | hl | hc => first | rfl | assumption | omega | ((first | refine ⟨?_, ?_⟩ | skip) <;> first | omega | (simp only [lN, hrn, Hp.back, putAt, bakF, Blk.rnL, Blk.rn, Tv.rnL, Tv.rn, D.rnL, D.rn, Own.rn, hrnE, hok, hf] <;> omega)) | (simp [elemsK, D.isVal, D.cells, D.closedL, D.closed, hrn, Hp.back, putAt, bakF, Blk.rnL, Blk.rn, Tv.rnL, Tv.rn, D.rnL, D.rn, Own.rn, hrnE, hok, hf]; first | done | omega)))
    | ((with_reducible apply s_lkpS); (case h1 | hk => rfl); (case ha | hf => first | rfl | assumption | omega | ((first | refine ⟨?_, ?_⟩ | skip) <;> first | omega | (simp only [lN, hrn, Hp.back, putAt, bakF, Blk.rnL, Blk.rn, Tv.rnL, Tv.rn, D.rnL, D.rn, Own.rn, hrnE, hok, hf] <;> omega)) | (simp [elemsK, D.isVal, D.cells, D.closedL, D.closed, hrn, Hp.back, putAt, bakF, Blk.rnL, Blk.rn, Tv.rnL, Tv.rn, D.rnL, D.rn, Own.rn, hrnE, hok, hf]; first | done | omega)))
    | ((with_reducible apply s_lkpN); (case h1 | hk => rfl); (case hf | ha => first | rfl | assumption | omega | ((first | refine ⟨?_, ?_⟩ | skip) <;> first | omega | (simp only [lN, hrn, Hp.back, putAt, bakF, Blk.rnL, Blk.rn, Tv.rnL, Tv.rn, D.rnL, D.rn, Own.rn, hrnE, hok, hf] <;> omega)) | (simp [elemsK, D.isVal, D.cells, D.closedL, D.closed, hrn, Hp.back, putAt, bakF, Blk.rnL, Blk.rn, Tv.rnL, Tv.rn, D.rnL, D.rn, Own.rn, hrnE, hok, hf]; first | done | omega)))
    | with_reducible first | apply cd_dec | apply cd_eq | apply cd_ne | apply cd_split
    | ((with_reducible refine And.intro ?hw ?_); (case hw => first | omega | rfl | exact ⟨_, _, rfl⟩ | assumption | (simp only [lN, hrn, Hp.back, putAt, bakF, Blk.rnL, Blk.rn, Tv.rnL, Tv.rn, D.rnL, D.rn, Own.rn, hrnE, hok, hf] <;> omega)))
    | with_reducible intro _)
    all_goals first | omega | skip
    refine swp_weak (weak_trans (weak_keep [3, 5, 7, 10, 11]) (weak_new 7 1 (by omega) false rfl)) ?_
    simp only [keepE]
    refine swp_fam [3, 5, 7, 10, 11] (fun p : Nat × List Nat => ⟨[.undef, .undef, .undef, .gs 0 l.length, .undef, .int .i64 (k : Nat), .undef, .slice (ints (filtL L k p.1)) (.tok 1), .undef, .undef, .int .i64 l.length, .int .i64 p.1, .undef, .undef], [], ⟨[.map EF MF.length], [.chg 1 (ints p.2), .per 1 (filtL L k p.1).length]⟩⟩) (fun p => p.1 ≤ l.length ∧ Fo p.2 L) (fun p => l.length - p.1) (0, F0) ⟨by omega, hfo⟩ ?_ ?_
    · simp [keepE, St.keep, filtL, ints]
    · rintro ⟨i, F⟩ ⟨hi, hF⟩
      simp only at hi hF ⊢
      have hfl := ints_len (filtL L k i)
      have hle := filtL_le L k i
      by_cases hil : i < l.length
      · have t0 : decide (((i : Nat) : Int) < l.length) = true := by simp; omega
        have cr := root_e hlo hF (by omega) (i := i) (by omega)
        have hF2 := rt_fo hlo hF (i := i) (by omega)
        have cr2 := root_e hlo hF2 (by omega) (i := k) (by omega)
        have hF3 := rt_fo hlo hF2 (i := k) (by omega)
        rw [rt_root hlo hF (by omega), hF.len, hln] at cr
        rw [rt_root hlo hF2 (by omega), hF2.len, hln] at cr2
        by_cases he : lb L i = lb L k
        · have t1 : (((lb L i : Nat) : Int) == (lb L k : Nat)) = true := by rw [he]; simp
          have ha := ints_app (filtL L k i) [i]
          rw [← filtL_in he, show ints [i] = [.int .i64 (i : Nat)] from rfl] at ha
          have hl2 : (filtL L k (i + 1)).length = (filtL L k i).length + 1 := by rw [filtL_in he, List.length_append]; rfl
          repeat' (first
    | with_reducible first | apply swp_seq | apply swp_reg | apply swp_regD | apply swp_block | apply swp_exit | apply swp_ret | apply swp_skip | apply swp_cd
    | simp only [go_sem, seval, P16, q16, t0, t1, hrn, hrnE]
    | simp (disch := omega) only [w64, w32, wu8, wu16, wu32, wu64]
    | ((with_reducible refine o_eff [] [0] (cr) ?hs ?he ?hh ?_); (case hs => exact ⟨by simp, by simp, by simp, by simp⟩); (case he => first | rfl | (simp [go_sem, seval, hrn, hrnE, hfl, Hp.back, putAt, bakF, Blk.rnL, Blk.rn, Tv.rnL, Tv.rn, D.rnL, D.rn, Own.rn]; done)); (case hh => first | rfl | (simp [go_sem, seval, hrn, hrnE, hfl, Hp.back, putAt, bakF, Blk.rnL, Blk.rn, Tv.rnL, Tv.rn, D.rnL, D.rn, Own.rn]; done)); rintro _ _ ⟨rfl, rfl⟩)
    | ((with_reducible refine o_eff [] [0] (cr2) ?hs ?he ?hh ?_); (case hs => exact ⟨by simp, by simp, by simp, by simp⟩); (case he => first | rfl | (simp [go_sem, seval, hrn, hrnE, hfl, Hp.back, putAt, bakF, Blk.rnL, Blk.rn, Tv.rnL, Tv.rn, D.rnL, D.rn, Own.rn]; done)); (case hh => first | rfl | (simp [go_sem, seval, hrn, hrnE, hfl, Hp.back, putAt, bakF, Blk.rnL, Blk.rn, Tv.rnL, Tv.rn, D.rnL, D.rn, Own.rn]; done)); rintro _ _ ⟨rfl, rfl⟩)
    | ((with_reducible apply s_appT); (case he => rfl); (case hK | hc | hr | hV => first | rfl | assumption | omega | ((first | refine ⟨?_, ?_⟩ | skip) <;> first | omega | (simp only [lN, hrn, hrnE, hfl, Hp.back, putAt, bakF, Blk.rnL, Blk.rn, Tv.rnL, Tv.rn, D.rnL, D.rn, Own.rn] <;> omega)) | (simp [elemsK, D.isVal, D.cells, D.closedL, D.closed, hrn, hrnE, hfl, Hp.back, putAt, bakF, Blk.rnL, Blk.rn, Tv.rnL, Tv.rn, D.rnL, D.rn, Own.rn]; first | done | omega)))
    | ((with_reducible apply s_appG); (case he => rfl); (case hV | hK | hr | hl => first | rfl | assumption | omega | ((first | refine ⟨?_, ?_⟩ | skip) <;> first | omega | (simp only [lN, hrn, hrnE, hfl, Hp.back, putAt, bakF, Blk.rnL, Blk.rn, Tv.rnL, Tv.rn, D.rnL, D.rn, Own.rn] <;> omega)) | (simp [elemsK, D.isVal, D.cells, D.closedL, D.closed, hrn, hrnE, hfl, Hp.back, putAt, bakF, Blk.rnL, Blk.rn, Tv.rnL, Tv.rn, D.rnL, D.rn, Own.rn]; first | done | omega)))
    | ((with_reducible apply s_app0); (case he => rfl); (case hK | hc | hr => first | rfl | assumption | omega | ((first | refine ⟨?_, ?_⟩ | skip) <;> first | omega | (simp only [lN, hrn, hrnE, hfl, Hp.back, putAt, bakF, Blk.rnL, Blk.rn, Tv.rnL, Tv.rn, D.rnL, D.rn, Own.rn] <;> omega)) | (simp [elemsK, D.isVal, D.cells, D.closedL, D.closed, hrn, hrnE, hfl, Hp.back, putAt, bakF, Blk.rnL, Blk.rn, Tv.rnL, Tv.rn, D.rnL, D.rn, Own.rn]; first | done | omega)))
    | ((with_reducible apply s_appF); (case he => rfl); (case hK | hc | hr | hx | hn => first | rfl | assumption | omega | ((first | refine ⟨?_, ?_⟩ | skip) <;> first | omega | (simp only [lN, hrn, hrnE, hfl, Hp.back, putAt, bakF, Blk.rnL, Blk.rn, Tv.rnL, Tv.rn, D.rnL, D.rn, Own.rn] <;> omega)) | (simp [elemsK, D.isVal, D.cells, D.closedL, D.closed, hrn, hrnE, hfl, Hp.back, putAt, bakF, Blk.rnL, Blk.rn, Tv.rnL, Tv.rn, D.rnL, D.rn, Own.rn]; first | done | omega)))
    | ((with_reducible apply s_bsl); (case he | hl | hc => first | rfl | assumption | omega | ((first | refine ⟨?_, ?_⟩ | skip) <;> first | omega | (simp only [lN, hrn, hrnE, hfl, Hp.back, putAt, bakF, Blk.rnL, Blk.rn, Tv.rnL, Tv.rn, D.rnL, D.rn, Own.rn] <;> omega)) | (simp [elemsK, D.isVal, D.cells, D.closedL, D.closed, hrn, hrnE, hfl, Hp.back, putAt, bakF, Blk.rnL, Blk.rn, Tv.rnL, Tv.rn, D.rnL, D.rn, Own.rn]; first | done | omega)))
    | ((with_reducible apply s_lkpS); (case h1 | hk => rfl); (case ha | hf => first | rfl | assumption | omega | ((first | refine ⟨?_, ?_⟩ | skip) <;> first | omega | (simp only [lN, hrn, hrnE, hfl, Hp.back, putAt, bakF, Blk.rnL, Blk.rn, Tv.rnL, Tv.rn, D.rnL, D.rn, Own.rn] <;> omega)) | (simp [elemsK, D.isVal, D.cells, D.closedL, D.closed, hrn, hrnE, hfl, Hp.back, putAt, bakF, Blk.rnL, Blk.rn, Tv.rnL, Tv.rn, D.rnL, D.rn, Own.rn]; first | done | omega)))
    | ((with_reducible apply s_lkpN); (case h1 | hk => rfl); (case hf | ha => first | rfl | assumption | omega | ((first | refine ⟨?_, ?_⟩ | skip) <;> first | omega | (simp only [lN, hrn, hrnE, hfl, Hp.back, putAt, bakF, Blk.rnL, Blk.rn, Tv.rnL, Tv.rn, D.rnL, D.rn, Own.rn] <;> omega)) | (simp [elemsK, D.isVal, D.cells, D.closedL, D.closed, hrn, hrnE, hfl, Hp.back, putAt, bakF, Blk.rnL, Blk.rn, Tv.rnL, Tv.rn, D.rnL, D.rn, Own.rn]; first | done | omega)))
    | with_reducible first | apply cd_dec | apply cd_eq | apply cd_ne | apply cd_split
    | ((with_reducible refine And.intro ?hw ?_); (case hw => first | omega | rfl | exact ⟨_, _, rfl⟩ | assumption | (simp only [lN, hrn, hrnE, hfl, Hp.back, putAt, bakF, Blk.rnL, Blk.rn, Tv.rnL, Tv.rn, D.rnL, D.rn, Own.rn] <;> omega)))
    | with_reducible intro _)
          all_goals first | omega | skip
          exact ⟨(i + 1, (rt (rt F i).1 k).1), ⟨by simp only; omega, hF3⟩, by simp only; omega, by simp [keepE, St.keep, ha, hl2, hfl, D.erL, D.er]⟩
        · have t1 : (((lb L i : Nat) : Int) == (lb L k : Nat)) = false := by rw [beq_eq_false_iff_ne]; omega
          repeat' (first
    | with_reducible first | apply swp_seq | apply swp_reg | apply swp_regD | apply swp_block | apply swp_exit | apply swp_ret | apply swp_skip | apply swp_cd
    | simp only [go_sem, seval, P16, q16, t0, t1, hrn, hrnE]
    | simp (disch := omega) only [w64, w32, wu8, wu16, wu32, wu64]
    | ((with_reducible refine o_eff [] [0] (cr) ?hs ?he ?hh ?_); (case hs => exact ⟨by simp, by simp, by simp, by simp⟩); (case he => first | rfl | (simp [go_sem, seval, hrn, hrnE, hfl, Hp.back, putAt, bakF, Blk.rnL, Blk.rn, Tv.rnL, Tv.rn, D.rnL, D.rn, Own.rn]; done)); (case hh => first | rfl | (simp [go_sem, seval, hrn, hrnE, hfl, Hp.back, putAt, bakF, Blk.rnL, Blk.rn, Tv.rnL, Tv.rn, D.rnL, D.rn, Own.rn]; done)); rintro _ _ ⟨rfl, rfl⟩)
    | ((with_reducible refine o_eff [] [0] (cr2) ?hs ?he ?hh ?_); (case hs => exact ⟨by simp, by simp, by simp, by simp⟩); (case he => first | rfl | (simp [go_sem, seval, hrn, hrnE, hfl, Hp.back, putAt, bakF, Blk.rnL, Blk.rn, Tv.rnL, Tv.rn, D.rnL, D.rn, Own.rn]; done)); (case hh => first | rfl | (simp [go_sem, seval, hrn, hrnE, hfl, Hp.back, putAt, bakF, Blk.rnL, Blk.rn, Tv.rnL, Tv.rn, D.rnL, D.rn, Own.rn]; done)); rintro _ _ ⟨rfl, rfl⟩)
    | ((with_reducible apply s_appT); (case he => rfl); (case hK | hc | hr | hV => first | rfl | assumption | omega | ((first | refine ⟨?_, ?_⟩ | skip) <;> first | omega | (simp only [lN, hrn, hrnE, hfl, Hp.back, putAt, bakF, Blk.rnL, Blk.rn, Tv.rnL, Tv.rn, D.rnL, D.rn, Own.rn] <;> omega)) | (simp [elemsK, D.isVal, D.cells, D.closedL, D.closed, hrn, hrnE, hfl, Hp.back, putAt, bakF, Blk.rnL, Blk.rn, Tv.rnL, Tv.rn, D.rnL, D.rn, Own.rn]; first | done | omega)))
    | ((with_reducible apply s_appG); (case he => rfl); (case hV | hK | hr | hl => first | rfl | assumption | omega | ((first | refine ⟨?_, ?_⟩ | skip) <;> first | omega | (simp only [lN, hrn, hrnE, hfl, Hp.back, putAt, bakF, Blk.rnL, Blk.rn, Tv.rnL, Tv.rn, D.rnL, D.rn, Own.rn] <;> omega)) | (simp [elemsK, D.isVal, D.cells, D.closedL, D.closed, hrn, hrnE, hfl, Hp.back, putAt, bakF, Blk.rnL, Blk.rn, Tv.rnL, Tv.rn, D.rnL, D.rn, Own.rn]; first | done | omega)))
    | ((with_reducible apply s_app0); (case he => rfl); (case hK | hc | hr => first | rfl | assumption | omega | ((first | refine ⟨?_, ?_⟩ | skip) <;> first | omega | (simp only [lN, hrn, hrnE, hfl, Hp.back, putAt, bakF, Blk.rnL, Blk.rn, Tv.rnL, Tv.rn, D.rnL, D.rn, Own.rn] <;> omega)) | (simp [elemsK, D.isVal, D.cells, D.closedL, D.closed, hrn, hrnE, hfl, Hp.back, putAt, bakF, Blk.rnL, Blk.rn, Tv.rnL, Tv.rn, D.rnL, D.rn, Own.rn]; first | done | omega)))
    | ((with_reducible apply s_appF); (case he => rfl); (case hK | hc | hr | hx | hn => first | rfl | assumption | omega | ((first | refine ⟨?_, ?_⟩ | skip) <;> first | omega | (simp only [lN, hrn, hrnE, hfl, Hp.back, putAt, bakF, Blk.rnL, Blk.rn, Tv.rnL, Tv.rn, D.rnL, D.rn, Own.rn] <;> omega)) | (simp [elemsK, D.isVal, D.cells, D.closedL, D.closed, hrn, hrnE, hfl, Hp.back, putAt, bakF, Blk.rnL, Blk.rn, Tv.rnL, Tv.rn, D.rnL, D.rn, Own.rn]; first | done | omega)))
    | ((with_reducible apply s_bsl); (case he | hl | hc => first | rfl | assumption | omega | ((first | refine ⟨?_, ?_⟩ | skip) <;> first | omega | (simp only [lN, hrn, hrnE, hfl, Hp.back, putAt, bakF, Blk.rnL, Blk.rn, Tv.rnL, Tv.rn, D.rnL, D.rn, Own.rn] <;> omega)) | (simp [elemsK, D.isVal, D.cells, D.closedL, D.closed, hrn, hrnE, hfl, Hp.back, putAt, bakF, Blk.rnL, Blk.rn, Tv.rnL, Tv.rn, D.rnL, D.rn, Own.rn]; first | done | omega)))
    | ((with_reducible apply s_lkpS); (case h1 | hk => rfl); (case ha | hf => first | rfl | assumption | omega | ((first | refine ⟨?_, ?_⟩ | skip) <;> first | omega | (simp only [lN, hrn, hrnE, hfl, Hp.back, putAt, bakF, Blk.rnL, Blk.rn, Tv.rnL, Tv.rn, D.rnL, D.rn, Own.rn] <;> omega)) | (simp [elemsK, D.isVal, D.cells, D.closedL, D.closed, hrn, hrnE, hfl, Hp.back, putAt, bakF, Blk.rnL, Blk.rn, Tv.rnL, Tv.rn, D.rnL, D.rn, Own.rn]; first | done | omega)))
    | ((with_reducible apply s_lkpN); (case h1 | hk => rfl); (case hf | ha => first | rfl | assumption | omega | ((first | refine ⟨?_, ?_⟩ | skip) <;> first | omega | (simp only [lN, hrn, hrnE, hfl, Hp.back, putAt, bakF, Blk.rnL, Blk.rn, Tv.rnL, Tv.rn, D.rnL, D.rn, Own.rn] <;> omega)) | (simp [elemsK, D.isVal, D.cells, D.closedL, D.closed, hrn, hrnE, hfl, Hp.back, putAt, bakF, Blk.rnL, Blk.rn, Tv.rnL, Tv.rn, D.rnL, D.rn, Own.rn]; first | done | omega)))
    | with_reducible first | apply cd_dec | apply cd_eq | apply cd_ne | apply cd_split
    | ((with_reducible refine And.intro ?hw ?_); (case hw => first | omega | rfl | exact ⟨_, _, rfl⟩ | assumption | (simp only [lN, hrn, hrnE, hfl, Hp.back, putAt, bakF, Blk.rnL, Blk.rn, Tv.rnL, Tv.rn, D.rnL, D.rn, Own.rn] <;> omega)))
    | with_reducible intro _)
          all_goals first | omega | skip
          exact ⟨(i + 1, (rt (rt F i).1 k).1), ⟨by simp only; omega, hF3⟩, by simp only; omega, by simp [keepE, St.keep, filtL_out he]⟩
      · have t0 : decide (((i : Nat) : Int) < l.length) = false := by simp; omega
        have : i = l.length := by omega
        subst this
        repeat' (first
    | with_reducible first | apply swp_seq | apply swp_reg | apply swp_regD | apply swp_block | apply swp_exit | apply swp_ret | apply swp_skip | apply swp_cd
    | simp only [go_sem, seval, P16, q16, t0]
    | simp (disch := omega) only [w64, w32, wu8, wu16, wu32, wu64]
    | ((with_reducible apply s_appT); (case he => rfl); (case hK | hc | hr | hV => first | rfl | assumption | omega | ((first | refine ⟨?_, ?_⟩ | skip) <;> first | omega | (simp only [lN] <;> omega)) | (simp [elemsK, D.isVal, D.cells, D.closedL, D.closed]; first | done | omega)))
    | ((with_reducible apply s_appG); (case he => rfl); (case hV | hK | hr | hl => first | rfl | assumption | omega | ((first | refine ⟨?_, ?_⟩ | skip) <;> first | omega | (simp only [lN] <;> omega)) | (simp [elemsK, D.isVal, D.cells, D.closedL, D.closed]; first | done | omega)))
    | ((with_reducible apply s_app0); (case he => rfl); (case hK | hc | hr => first | rfl | assumption | omega | ((first | refine ⟨?_, ?_⟩ | skip) <;> first | omega | (simp only [lN] <;> omega)) | (simp [elemsK, D.isVal, D.cells, D.closedL, D.closed]; first | done | omega)))
    | ((with_reducible apply s_appF); (case he => rfl); (case hK | hc | hr | hx | hn => first | rfl | assumption | omega | ((first | refine ⟨?_, ?_⟩ | skip) <;> first | omega | (simp only [lN] <;> omega)) | (simp [elemsK, D.isVal, D.cells, D.closedL, D.closed]; first | done | omega)))
    | ((with_reducible apply s_bsl); (case he | hl | hc => first | rfl | assumption | omega | ((first | refine ⟨?_, ?_⟩ | skip) <;> first | omega | (simp only [lN] <;> omega)) | (simp [elemsK, D.isVal, D.cells, D.closedL, D.closed]; first | done | omega)))
    | ((with_reducible apply s_lkpS); (case h1 | hk => rfl); (case ha | hf => first | rfl | assumption | omega | ((first | refine ⟨?_, ?_⟩ | skip) <;> first | omega | (simp only [lN] <;> omega)) | (simp [elemsK, D.isVal, D.cells, D.closedL, D.closed]; first | done | omega)))
    | ((with_reducible apply s_lkpN); (case h1 | hk => rfl); (case hf | ha => first | rfl | assumption | omega | ((first | refine ⟨?_, ?_⟩ | skip) <;> first | omega | (simp only [lN] <;> omega)) | (simp [elemsK, D.isVal, D.cells, D.closedL, D.closed]; first | done | omega)))
    | with_reducible first | apply cd_dec | apply cd_eq | apply cd_ne | apply cd_split
    | ((with_reducible refine And.intro ?hw ?_); (case hw => first | omega | rfl | exact ⟨_, _, rfl⟩ | assumption | (simp only [lN] <;> omega)))
    | with_reducible intro _)
        all_goals first | omega | skip
        exact ⟨_, weak_refl, by simp [D.closed], by simp [D.er]⟩
end Go.Proofs.Ytofnggfpegcllaa
end
section
set_option maxRecDepth 100000
set_option linter.unusedSimpArgs false
set_option linter.unusedVariables false
namespace Go.Proofs.Ytofnggfpegcllaa
open Go GoV Go.RowKit
def rcL : List Rp → List D
  | [] => []
  | r :: l => .slice (r.opts.map evD) .no :: .bool r.doubt :: rcL l
theorem rcL_flat : ∀ l : List Rp, flatD (l.map rpD) = rcL l
  | [] => rfl
  | r :: l => by simp [flatD, rcL, rcL_flat l, rpD, D.cells]
theorem rcL_len : ∀ l : List Rp, (rcL l).length = l.length * 2
  | [] => rfl
  | r :: l => by simp [rcL, rcL_len l]; omega
theorem rcL_rn (β τ : Nat → Option Nat) : ∀ l : List Rp, D.rnL β τ (rcL l) = rcL l
  | [] => rfl
  | r :: l => by simp [rcL, D.rnL, D.rn, rcL_rn β τ l, Own.rn]
theorem rc_get (U : List D) : ∀ {l : List Rp} {i : Nat} (h : i < l.length), ((rcL l ++ U).drop (i * 2)).take 2 = [.slice (l[i].opts.map evD) .no, .bool l[i].doubt]
  | r :: l, 0, _ => by simp [rcL]
  | r :: l, i + 1, h => by
    have := rc_get U (l := l) (i := i) (by simpa using h)
    have e : (i + 1) * 2 = i * 2 + 1 + 1 := by omega
    rw [e]
    simpa [rcL] using this
theorem rc_set (U : List D) (v : Rp) : ∀ {l : List Rp} {i : Nat} (h : i < l.length), ((rcL l ++ U).set (i * 2) (.slice (v.opts.map evD) .no)).set (i * 2 + 1) (.bool v.doubt) = rcL (l.set i v) ++ U
  | r :: l, 0, _ => by simp [rcL]
  | r :: l, i + 1, h => by
    have := rc_set U v (l := l) (i := i) (by simpa using h)
    have e : (i + 1) * 2 = i * 2 + 1 + 1 := by omega
    rw [e]
    simpa [rcL] using this
def del (r : Rp) : Bool := decide (choices r < 2)
theorem del_p (r : Rp) (hs : ∀ e ∈ r.opts, e.sh = true) : Pur M 33 [rpD r] (.bool (del r)) := by
  have c1 := choices_p r hs
  have hd : decide (((choices r : Nat) : Int) < 2) = del r := decide_eq_decide.2 (by omega)
  generalize choices r = c at *
  generalize del r = b at *
  unfold rpD at *
  refine ok33 rfl ?_
  rw [i33]
  unfold c33
  repeat' (first
    | with_reducible first | apply swp_seq | apply swp_reg | apply swp_regD | apply swp_block | apply swp_exit | apply swp_ret | apply swp_skip | apply swp_cd
    | simp only [go_sem, seval, P33, q33, hd]
    | simp (disch := omega) only [w64, w32, wu8, wu16, wu32, wu64]
    | ((with_reducible refine o_call (c1) ?he ?hc ?_); (case he | hc => first | rfl | (simp [D.erL, D.er, D.closedL, D.closed]; done)))
    | with_reducible first | apply cd_dec | apply cd_eq | apply cd_ne | apply cd_split
    | ((with_reducible refine And.intro ?hw ?_); (case hw => first | omega | rfl | exact ⟨_, _, rfl⟩ | assumption | (simp only [lN] <;> omega)))
    | with_reducible intro _)
  all_goals first | omega | simp [D.closed, D.er]
section
variable {P : Mod} {dst : Dst} {r : List RO} {K : St → Prop} {s : St} {n bytes : Nat} {ety : TypeId} {x : D} {es : List D}
theorem s_appR (t : Nat) (he : elemsOf s.hp n x = some es) (hK : elemsK n es = true) (hr : roomOk es.length bytes) (h0 : 0 < es.length) (ht : s.hp.tk[t]? = some (.chg n []))
    (h : opsWp P r K ({ s with hp := { s.hp with tk := s.hp.tk.set t (.chg n (flatD es)) } }.put dst (.gs t es.length))) : OpS P (.app n bytes ety) [.slice [] .full, x] dst r K s := by
  simp only [OpS, OcWp, isCall, Bool.false_eq_true, if_false, opWp]
  exact ⟨es, he, hK, by simpa using hr, .inr ⟨rfl, h0, t, ht, h⟩⟩
end
set_option maxHeartbeats 1000000 in
theorem clone_r (l : List Rp) (hl : l.length ≤ 1000) (h0 : 0 < l.length) : Eff M 32 [rpsD l] ⟨[], []⟩ fun d hp => ∃ cap, l.length ≤ cap ∧ d = .sl 0 2 0 l.length cap ∧ hp = ⟨[.cells (rcL l ++ und ((cap - l.length) * 2))], []⟩ := by
  have hlen : (l.map rpD).length = l.length := by simp
  have hfl := rcL_flat l
  have hel : elemsK 2 (l.map rpD) = true := elemsK_map rpD 2 R_isVal l
  have hrl := rcL_len l
  have hrn := fun β τ => rcL_rn β τ l
  refine oe32 0 0 rfl rfl rfl ?_
  rw [ie32]
  unfold c32
  obtain ⟨x, xs, hx⟩ : ∃ x xs, l.map rpD = x :: xs := by cases l with | nil => simp at h0 | cons a b => exact ⟨_, _, rfl⟩
  refine swp_weak (weak_resv 2 (by omega)) ?_
  generalize hrt : RC.ret = rt at *
  unfold rpsD
  rw [hx]
  simp only [List.nil_append]
  repeat' (first
    | with_reducible first | apply swp_seq | apply swp_reg | apply swp_regD | apply swp_block | apply swp_exit | apply swp_ret | apply swp_skip | apply swp_cd
    | simp only [go_sem, seval, pe32, q32]
    | simp (disch := omega) only [w64, w32, wu8, wu16, wu32, wu64]
    | ((with_reducible apply s_appT); (case he => rfl); (case hK | hc | hr | hV => first | rfl | assumption | omega | ((first | refine ⟨?_, ?_⟩ | skip) <;> first | omega | (simp only [lN, hlen] <;> omega)) | (simp [elemsK, D.isVal, D.cells, D.closedL, D.closed, hlen]; first | done | omega)))
    | ((with_reducible apply s_appG); (case he => rfl); (case hV | hK | hr | hl => first | rfl | assumption | omega | ((first | refine ⟨?_, ?_⟩ | skip) <;> first | omega | (simp only [lN, hlen] <;> omega)) | (simp [elemsK, D.isVal, D.cells, D.closedL, D.closed, hlen]; first | done | omega)))
    | ((with_reducible apply s_app0G); (case he => rfl); (case hK | hr => first | rfl | assumption | omega | ((first | refine ⟨?_, ?_⟩ | skip) <;> first | omega | (simp only [lN, hlen] <;> omega)) | (simp [elemsK, D.isVal, D.cells, D.closedL, D.closed, hlen]; first | done | omega)))
    | ((with_reducible apply s_bsl); (case he | hl | hc => first | rfl | assumption | omega | ((first | refine ⟨?_, ?_⟩ | skip) <;> first | omega | (simp only [lN, hlen] <;> omega)) | (simp [elemsK, D.isVal, D.cells, D.closedL, D.closed, hlen]; first | done | omega)))
    | with_reducible first | apply cd_dec | apply cd_eq | apply cd_ne | apply cd_split
    | ((with_reducible refine And.intro ?hw ?_); (case hw => first | omega | rfl | exact ⟨_, _, rfl⟩ | assumption | (simp only [lN, hlen] <;> omega)))
    | with_reducible intro _)
  refine s_appR 0 (x := .slice (x :: xs) .no) (es := x :: xs) rfl (by rw [← hx]; exact hel) (by rw [← hx, hlen]; exact ⟨by omega, by omega⟩) (by simp) rfl ?_
  rw [← hx, hfl, hlen]
  repeat' (first
    | with_reducible first | apply swp_seq | apply swp_reg | apply swp_regD | apply swp_block | apply swp_exit | apply swp_ret | apply swp_skip | apply swp_cd
    | simp only [go_sem, seval, pe32, q32]
    | simp (disch := omega) only [w64, w32, wu8, wu16, wu32, wu64]
    | ((with_reducible apply s_appT); (case he => rfl); (case hK | hc | hr | hV => first | rfl | assumption | omega | ((first | refine ⟨?_, ?_⟩ | skip) <;> first | omega | (simp only [lN, hlen] <;> omega)) | (simp [elemsK, D.isVal, D.cells, D.closedL, D.closed, hlen]; first | done | omega)))
    | ((with_reducible apply s_appG); (case he => rfl); (case hV | hK | hr | hl => first | rfl | assumption | omega | ((first | refine ⟨?_, ?_⟩ | skip) <;> first | omega | (simp only [lN, hlen] <;> omega)) | (simp [elemsK, D.isVal, D.cells, D.closedL, D.closed, hlen]; first | done | omega)))
    | ((with_reducible apply s_app0G); (case he => rfl); (case hK | hr => first | rfl | assumption | omega | ((first | refine ⟨?_, ?_⟩ | skip) <;> first | omega | (simp only [lN, hlen] <;> omega)) | (simp [elemsK, D.isVal, D.cells, D.closedL, D.closed, hlen]; first | done | omega)))
    | ((with_reducible apply s_bsl); (case he | hl | hc => first | rfl | assumption | omega | ((first | refine ⟨?_, ?_⟩ | skip) <;> first | omega | (simp only [lN, hlen] <;> omega)) | (simp [elemsK, D.isVal, D.cells, D.closedL, D.closed, hlen]; first | done | omega)))
    | with_reducible first | apply cd_dec | apply cd_eq | apply cd_ne | apply cd_split
    | ((with_reducible refine And.intro ?hw ?_); (case hw => first | omega | rfl | exact ⟨_, _, rfl⟩ | assumption | (simp only [lN, hlen] <;> omega)))
    | with_reducible intro _)
  rw [← hrt]
  refine swp_sl 1 0 2 l.length (rcL l) rfl rfl hrl (by unfold E32; rfl) h0 fun cap hc => ?_
  simp only [St.toSl, List.set_cons_zero, List.set_cons_succ, List.length_cons, List.length_nil, List.nil_append]
  have hu : List.replicate ((cap - l.length) * 2) D.undef = und ((cap - l.length) * 2) := rfl
  rw [hu]
  repeat' (first
    | with_reducible first | apply swp_seq | apply swp_reg | apply swp_regD | apply swp_block | apply swp_exit | apply swp_ret | apply swp_skip | apply swp_cd
    | simp only [go_sem, seval, pe32, q32]
    | simp (disch := omega) only [w64, w32, wu8, wu16, wu32, wu64]
    | ((with_reducible apply s_appT); (case he => rfl); (case hK | hc | hr | hV => first | rfl | assumption | omega | ((first | refine ⟨?_, ?_⟩ | skip) <;> first | omega | (simp only [lN, hlen] <;> omega)) | (simp [elemsK, D.isVal, D.cells, D.closedL, D.closed, hlen]; first | done | omega)))
    | ((with_reducible apply s_appG); (case he => rfl); (case hV | hK | hr | hl => first | rfl | assumption | omega | ((first | refine ⟨?_, ?_⟩ | skip) <;> first | omega | (simp only [lN, hlen] <;> omega)) | (simp [elemsK, D.isVal, D.cells, D.closedL, D.closed, hlen]; first | done | omega)))
    | ((with_reducible apply s_app0G); (case he => rfl); (case hK | hr => first | rfl | assumption | omega | ((first | refine ⟨?_, ?_⟩ | skip) <;> first | omega | (simp only [lN, hlen] <;> omega)) | (simp [elemsK, D.isVal, D.cells, D.closedL, D.closed, hlen]; first | done | omega)))
    | ((with_reducible apply s_bsl); (case he | hl | hc => first | rfl | assumption | omega | ((first | refine ⟨?_, ?_⟩ | skip) <;> first | omega | (simp only [lN, hlen] <;> omega)) | (simp [elemsK, D.isVal, D.cells, D.closedL, D.closed, hlen]; first | done | omega)))
    | with_reducible first | apply cd_dec | apply cd_eq | apply cd_ne | apply cd_split
    | ((with_reducible refine And.intro ?hw ?_); (case hw => first | omega | rfl | exact ⟨_, _, rfl⟩ | assumption | (simp only [lN, hlen] <;> omega)))
    | with_reducible intro _)
  refine ⟨_, weak_trans (weak_keep [1]) (weak_sel [0] [] ⟨by simp, by simp, by simp, by simp⟩ rfl rfl), ?_⟩
  have hrs : ∀ β τ, D.rnL β τ (rcL l ++ und ((cap - l.length) * 2)) = rcL l ++ und ((cap - l.length) * 2) := fun β τ => by rw [rnL_app, hrn, rnL_und]
  simp [St.sel, Hp.sel, keepE, D.rnL, D.rn, posF, idx, Blk.rn, Blk.rnL, Tv.rnL, Own.rn, hrs]
  exact ⟨cap, hc, rfl, rfl⟩
theorem dfirst (l : List Rp) : (∃ i, ∃ h : i < l.length, del l[i] = true ∧ ∀ j (g : j < i), del l[j] = false) ∨ ∀ r ∈ l, del r = false := by
  rcases first_of (p := fun r => del r = true) l with ⟨i, h, h1, h2⟩ | h
  · exact .inl ⟨i, h, h1, fun j g => by have := h2 j g; simpa using this⟩
  · refine .inr fun r hr => ?_
    obtain ⟨j, hj, rfl⟩ := List.getElem_of_mem hr
    have := h j hj; simpa using this
theorem ix44 (l : List Rp) (U : List D) (cap : Nat) (hl : l.length ≤ 1000) (hcap : l.length ≤ cap) (hs : Small l) (i : Nat) (hi : i < l.length) (he : del l[i] = true) (hm : ∀ j (h : j < i), del l[j] = false) :
    Eff M 44 [.sl 0 2 0 l.length cap, .fn (.func 33) [] []] ⟨[.cells (rcL l ++ U)], []⟩ fun d hp => d = .int .i64 (i : Nat) ∧ hp = ⟨[.cells (rcL l ++ U)], []⟩ := by
  refine oe44 1 0 rfl rfl rfl ?_
  rw [ie44]
  unfold c44
  have hrl := rcL_len l
  repeat' (first
    | with_reducible first | apply swp_seq | apply swp_reg | apply swp_regD | apply swp_block | apply swp_exit | apply swp_ret | apply swp_skip | apply swp_cd
    | simp only [go_sem, seval, pe44, q44]
    | simp (disch := omega) only [w64, w32, wu8, wu16, wu32, wu64]
    | with_reducible first | apply cd_dec | apply cd_eq | apply cd_ne | apply cd_split
    | ((with_reducible refine And.intro ?hw ?_); (case hw => first | omega | rfl | exact ⟨_, _, rfl⟩ | assumption | (simp only [lN] <;> omega)))
    | with_reducible intro _)
  refine swp_fam [0, 1, 4, 5] (fun j : Nat => ⟨[.sl 0 2 0 l.length cap, .fn (.func 33) [] [], .undef, .undef, .int .i64 l.length, .int .i64 j, .undef, .undef], [], ⟨[.cells (rcL l ++ U)], []⟩⟩) (fun j => j ≤ i) (fun j => l.length - j) 0 (by omega) ?_ ?_
  · simp [keepE, St.keep]
  · intro j hj
    have hjl : j < l.length := by omega
    have hg := rc_get U hjl
    have hgl : j * 2 + 2 ≤ (rcL l ++ U).length := by rw [List.length_append, hrl]; omega
    have c1 := del_p l[j] (hs _ (List.getElem_mem _))
    rw [show rpD l[j] = .agg [.slice (l[j].opts.map evD) .no, .bool l[j].doubt] from rfl] at c1
    have t0 : decide (((j : Nat) : Int) < l.length) = true := by simp; omega
    generalize rcL l ++ U = C at *
    by_cases e : j = i
    · subst e
      rw [he] at c1
      repeat' (first
    | with_reducible first | apply swp_seq | apply swp_reg | apply swp_regD | apply swp_block | apply swp_exit | apply swp_ret | apply swp_skip | apply swp_cd
    | simp only [go_sem, seval, pe44, q44, hg, t0, Nat.zero_add]
    | simp (disch := omega) only [w64, w32, wu8, wu16, wu32, wu64]
    | ((with_reducible refine o_call (c1) ?he ?hc ?_); (case he | hc => first | rfl | (simp [D.erL, D.er, D.closedL, D.closed]; done)))
    | with_reducible first | apply cd_dec | apply cd_eq | apply cd_ne | apply cd_split
    | ((with_reducible refine And.intro ?hw ?_); (case hw => first | omega | rfl | exact ⟨_, _, rfl⟩ | assumption | (simp only [lN] <;> omega)))
    | with_reducible intro _)
      all_goals first | omega | skip
      exact ⟨_, weak_refl, rfl, rfl⟩
    · rw [hm j (by omega)] at c1
      repeat' (first
    | with_reducible first | apply swp_seq | apply swp_reg | apply swp_regD | apply swp_block | apply swp_exit | apply swp_ret | apply swp_skip | apply swp_cd
    | simp only [go_sem, seval, pe44, q44, hg, t0, Nat.zero_add]
    | simp (disch := omega) only [w64, w32, wu8, wu16, wu32, wu64]
    | ((with_reducible refine o_call (c1) ?he ?hc ?_); (case he | hc => first | rfl | (simp [D.erL, D.er, D.closedL, D.closed]; done)))
    | with_reducible first | apply cd_dec | apply cd_eq | apply cd_ne | apply cd_split
    | ((with_reducible refine And.intro ?hw ?_); (case hw => first | omega | rfl | exact ⟨_, _, rfl⟩ | assumption | (simp only [lN] <;> omega)))
    | with_reducible intro _)
      all_goals first | omega | skip
      exact ⟨j + 1, by omega, by omega, by simp [St.keep, keepE]⟩
theorem ix44n (l : List Rp) (U : List D) (cap : Nat) (hl : l.length ≤ 1000) (hcap : l.length ≤ cap) (hs : Small l) (hm : ∀ r ∈ l, del r = false) :
    Eff M 44 [.sl 0 2 0 l.length cap, .fn (.func 33) [] []] ⟨[.cells (rcL l ++ U)], []⟩ fun d hp => d = .int .i64 (-1) ∧ hp = ⟨[.cells (rcL l ++ U)], []⟩ := by
  refine oe44 1 0 rfl rfl rfl ?_
  rw [ie44]
  unfold c44
  have hrl := rcL_len l
  repeat' (first
    | with_reducible first | apply swp_seq | apply swp_reg | apply swp_regD | apply swp_block | apply swp_exit | apply swp_ret | apply swp_skip | apply swp_cd
    | simp only [go_sem, seval, pe44, q44]
    | simp (disch := omega) only [w64, w32, wu8, wu16, wu32, wu64]
    | with_reducible first | apply cd_dec | apply cd_eq | apply cd_ne | apply cd_split
    | ((with_reducible refine And.intro ?hw ?_); (case hw => first | omega | rfl | exact ⟨_, _, rfl⟩ | assumption | (simp only [lN] <;> omega)))
    | with_reducible intro _)
  refine swp_fam [0, 1, 4, 5] (fun j : Nat => ⟨[.sl 0 2 0 l.length cap, .fn (.func 33) [] [], .undef, .undef, .int .i64 l.length, .int .i64 j, .undef, .undef], [], ⟨[.cells (rcL l ++ U)], []⟩⟩) (fun j => j ≤ l.length) (fun j => l.length - j) 0 (by omega) ?_ ?_
  · simp [keepE, St.keep]
  · intro j hj
    by_cases hjl : j < l.length
    · have hg := rc_get U hjl
      have hgl : j * 2 + 2 ≤ (rcL l ++ U).length := by rw [List.length_append, hrl]; omega
      have c1 := del_p l[j] (hs _ (List.getElem_mem _))
      rw [show rpD l[j] = .agg [.slice (l[j].opts.map evD) .no, .bool l[j].doubt] from rfl] at c1
      have t0 : decide (((j : Nat) : Int) < l.length) = true := by simp; omega
      generalize rcL l ++ U = C at *
      rw [hm _ (List.getElem_mem _)] at c1
      repeat' (first
    | with_reducible first | apply swp_seq | apply swp_reg | apply swp_regD | apply swp_block | apply swp_exit | apply swp_ret | apply swp_skip | apply swp_cd
    | simp only [go_sem, seval, pe44, q44, hg, t0, Nat.zero_add]
    | simp (disch := omega) only [w64, w32, wu8, wu16, wu32, wu64]
    | ((with_reducible refine o_call (c1) ?he ?hc ?_); (case he | hc => first | rfl | (simp [D.erL, D.er, D.closedL, D.closed]; done)))
    | with_reducible first | apply cd_dec | apply cd_eq | apply cd_ne | apply cd_split
    | ((with_reducible refine And.intro ?hw ?_); (case hw => first | omega | rfl | exact ⟨_, _, rfl⟩ | assumption | (simp only [lN] <;> omega)))
    | with_reducible intro _)
      all_goals first | omega | skip
      exact ⟨j + 1, by omega, by omega, by simp [St.keep, keepE]⟩
    · have t0 : decide (((j : Nat) : Int) < l.length) = false := by simp; omega
      repeat' (first
    | with_reducible first | apply swp_seq | apply swp_reg | apply swp_regD | apply swp_block | apply swp_exit | apply swp_ret | apply swp_skip | apply swp_cd
    | simp only [go_sem, seval, pe44, q44, t0]
    | simp (disch := omega) only [w64, w32, wu8, wu16, wu32, wu64]
    | with_reducible first | apply cd_dec | apply cd_eq | apply cd_ne | apply cd_split
    | ((with_reducible refine And.intro ?hw ?_); (case hw => first | omega | rfl | exact ⟨_, _, rfl⟩ | assumption | (simp only [lN] <;> omega)))
    | with_reducible intro _)
      all_goals first | omega | skip
      exact ⟨_, weak_refl, rfl, rfl⟩
theorem keeps_snoc {l : List Rp} {j : Nat} (h : j < l.length) : (l.take (j + 1)).countP (fun r => !(del r)) = (l.take j).countP (fun r => !(del r)) + if del l[j] then 0 else 1 := by
  rw [List.take_succ_eq_append_getElem h, List.countP_append, List.countP_cons, List.countP_nil]
  cases del l[j] <;> simp
theorem doubts_keep (l : List Rp) : l.countP (fun r => !(del r)) = doubtsR l := by
  unfold doubtsR
  congr 1
  funext r
  unfold del
  rw [Bool.eq_iff_iff]
  simp
set_option maxHeartbeats 2000000 in
theorem del31 (l : List Rp) (u cap : Nat) (hl : l.length ≤ 1000) (hcap : l.length + u = cap) (hs : Small l) :
    Eff M 31 [.sl 0 2 0 l.length cap, .fn (.func 33) [] []] ⟨[.cells (rcL l ++ und (u * 2))], []⟩ fun d hp => d = .sl 0 2 0 (doubtsR l) cap ∧ ∃ Z, hp = ⟨[.cells Z], []⟩ := by
  have hrl := rcL_len l
  rw [← doubts_keep]
  rcases dfirst l with ⟨i, hi, h1, h2⟩ | h
  · have c1 := ix44 l (und (u * 2)) cap hl (by omega) hs i hi h1 h2
    have hrn : ∀ β τ l, D.rnL β τ (rcL l ++ und (u * 2)) = rcL l ++ und (u * 2) := fun β τ l => by rw [rnL_app, rcL_rn, rnL_und]
    refine oe31 1 0 rfl rfl rfl ?_
    rw [ie31]
    unfold c31
    have t1 : (((i : Nat) : Int) == -1) = false := by rw [beq_eq_false_iff_ne]; omega
    repeat' (first
    | with_reducible first | apply swp_seq | apply swp_reg | apply swp_regD | apply swp_block | apply swp_exit | apply swp_ret | apply swp_skip | apply swp_cd
    | simp only [go_sem, seval, pe31, q31, t1, hrn]
    | simp (disch := omega) only [w64, w32, wu8, wu16, wu32, wu64]
    | ((with_reducible refine o_same (c1) ?he ?hh ?_); (case he => first | rfl | (simp [go_sem, seval, hrn]; done)); (case hh => first | rfl | (simp [go_sem, seval, hrn]; done)))
    | ((with_reducible apply s_slFF); (case hx => first | rfl | assumption | omega | ((first | refine ⟨?_, ?_⟩ | skip) <;> first | omega | (simp only [lN, hrn] <;> omega)) | (simp [elemsK, D.isVal, D.cells, D.closedL, D.closed, hrn]; first | done | omega)))
    | ((with_reducible first | apply s_slTF | apply s_slFT); (case h0 | h1 | hx => first | rfl | assumption | omega | ((first | refine ⟨?_, ?_⟩ | skip) <;> first | omega | (simp only [lN, hrn] <;> omega)) | (simp [elemsK, D.isVal, D.cells, D.closedL, D.closed, hrn]; first | done | omega)))
    | ((with_reducible apply s_slTT); (case h0 | h1 | h2 | hx => first | rfl | assumption | omega | ((first | refine ⟨?_, ?_⟩ | skip) <;> first | omega | (simp only [lN, hrn] <;> omega)) | (simp [elemsK, D.isVal, D.cells, D.closedL, D.closed, hrn]; first | done | omega)))
    | ((with_reducible first | apply s_smTF | apply s_smFT); (case h0 | h1 | hc => first | rfl | assumption | omega | ((first | refine ⟨?_, ?_⟩ | skip) <;> first | omega | (simp only [lN, hrn] <;> omega)) | (simp [elemsK, D.isVal, D.cells, D.closedL, D.closed, hrn]; first | done | omega)))
    | ((with_reducible apply s_smTT); (case h0 | h1 | h2 | hc => first | rfl | assumption | omega | ((first | refine ⟨?_, ?_⟩ | skip) <;> first | omega | (simp only [lN, hrn] <;> omega)) | (simp [elemsK, D.isVal, D.cells, D.closedL, D.closed, hrn]; first | done | omega)))
    | ((with_reducible apply s_clr); (case h1 => rfl); (case h2 | h3 => first | rfl | assumption | omega | ((first | refine ⟨?_, ?_⟩ | skip) <;> first | omega | (simp only [lN, hrn] <;> omega)) | (simp [elemsK, D.isVal, D.cells, D.closedL, D.closed, hrn]; first | done | omega)))
    | with_reducible first | apply cd_dec | apply cd_eq | apply cd_ne | apply cd_split
    | ((with_reducible refine And.intro ?hw ?_); (case hw => first | omega | rfl | exact ⟨_, _, rfl⟩ | assumption | (simp only [lN, hrn] <;> omega)))
    | with_reducible intro _)
    all_goals first | omega | skip
    refine swp_famG [0, 1, 3, 4] 1 0 (by unfold E31; exact Nat.le_refl 1) (by unfold E31; exact Nat.le_refl 0) (fun p : Nat × Nat × List Rp => ⟨[.sl 0 2 0 l.length cap, .fn (.func 33) [] [], .undef, .int .i64 (p.1 : Nat), .int .i64 (p.2.1 : Nat), .undef, .undef, .undef, .undef], [], ⟨[.cells (rcL p.2.2 ++ und (u * 2))], []⟩⟩)
      (fun p => p.1 < p.2.1 ∧ p.2.1 ≤ l.length ∧ p.2.2.length = l.length ∧ p.2.2.drop p.2.1 = l.drop p.2.1 ∧ p.1 = (l.take p.2.1).countP (fun r => !(del r))) (fun p => l.length - p.2.1) (i, i + 1, l) ⟨by simp only; omega, by simp only; omega, rfl, rfl, ?_⟩ ?_ ?_
    · simp only
      rw [keeps_snoc hi, h1]
      simp only [if_true, Nat.add_zero]
      symm
      have : ∀ j, j ≤ i → (l.take j).countP (fun r => !(del r)) = j := fun j => by
        induction j with
        | zero => intro _; simp
        | succ j ih => intro hj; rw [keeps_snoc (by omega), ih (by omega), h2 j (by omega)]; rfl
      exact this i (Nat.le_refl i)
    · simp [keepE, St.keep, St.keepG, St.gc, Hp.cut, D.rn, D.rnL, Blk.rnL, Blk.rn, Tv.rnL, cutF, hrn]
    · rintro ⟨a, j, S⟩ ⟨g1, g2, g3, g4, g5⟩
      simp only at g1 g2 g3 g4 g5 ⊢
      have hrS := rcL_len S
      by_cases hj : j < l.length
      · have t0 : decide (((j : Nat) : Int) < l.length) = true := by simp; omega
        have hSj : S[j]'(by omega) = l[j] := by
          have e1 : (S.drop j)[0]? = (l.drop j)[0]? := by rw [g4]
          simpa [List.getElem?_drop, show j < S.length by omega, hj] using e1
        have hg := rc_get (und (u * 2)) (l := S) (i := j) (by omega)
        rw [hSj] at hg
        have hgl : j * 2 + 2 ≤ (rcL S ++ und (u * 2)).length := by rw [List.length_append, hrS]; omega
        have hgl2 : a * 2 + 2 ≤ (rcL S ++ und (u * 2)).length := by omega
        have hst := rc_set (und (u * 2)) l[j] (l := S) (i := a) (by omega)
        have c2 := del_p l[j] (hs _ (List.getElem_mem _))
        rw [show rpD l[j] = .agg [.slice (l[j].opts.map evD) .no, .bool l[j].doubt] from rfl] at c2
        have hk := keeps_snoc hj
        have hrS1 := fun β τ => hrn β τ S
        have hrS2 := fun β τ => hrn β τ (S.set a l[j])
        cases hd : del l[j]
        · rw [hd] at c2 hk
          rw [← hst] at hrS2
          generalize rcL S ++ und (u * 2) = C at *
          repeat' (first
    | with_reducible first | apply swp_seq | apply swp_reg | apply swp_regD | apply swp_block | apply swp_exit | apply swp_ret | apply swp_skip | apply swp_cd
    | simp only [go_sem, seval, pe31, q31, hg, t0, Nat.zero_add, setL]
    | simp (disch := omega) only [w64, w32, wu8, wu16, wu32, wu64]
    | ((with_reducible refine o_call (c2) ?he ?hc ?_); (case he | hc => first | rfl | (simp [D.erL, D.er, D.closedL, D.closed]; done)))
    | ((with_reducible apply s_slFF); (case hx => first | rfl | assumption | omega | ((first | refine ⟨?_, ?_⟩ | skip) <;> first | omega | (simp only [lN] <;> omega)) | (simp [elemsK, D.isVal, D.cells, D.closedL, D.closed]; first | done | omega)))
    | ((with_reducible first | apply s_slTF | apply s_slFT); (case h0 | h1 | hx => first | rfl | assumption | omega | ((first | refine ⟨?_, ?_⟩ | skip) <;> first | omega | (simp only [lN] <;> omega)) | (simp [elemsK, D.isVal, D.cells, D.closedL, D.closed]; first | done | omega)))
    | ((with_reducible apply s_slTT); (case h0 | h1 | h2 | hx => first | rfl | assumption | omega | ((first | refine ⟨?_, ?_⟩ | skip) <;> first | omega | (simp only [lN] <;> omega)) | (simp [elemsK, D.isVal, D.cells, D.closedL, D.closed]; first | done | omega)))
    | ((with_reducible first | apply s_smTF | apply s_smFT); (case h0 | h1 | hc => first | rfl | assumption | omega | ((first | refine ⟨?_, ?_⟩ | skip) <;> first | omega | (simp only [lN] <;> omega)) | (simp [elemsK, D.isVal, D.cells, D.closedL, D.closed]; first | done | omega)))
    | ((with_reducible apply s_smTT); (case h0 | h1 | h2 | hc => first | rfl | assumption | omega | ((first | refine ⟨?_, ?_⟩ | skip) <;> first | omega | (simp only [lN] <;> omega)) | (simp [elemsK, D.isVal, D.cells, D.closedL, D.closed]; first | done | omega)))
    | ((with_reducible apply s_clr); (case h1 => rfl); (case h2 | h3 => first | rfl | assumption | omega | ((first | refine ⟨?_, ?_⟩ | skip) <;> first | omega | (simp only [lN] <;> omega)) | (simp [elemsK, D.isVal, D.cells, D.closedL, D.closed]; first | done | omega)))
    | with_reducible first | apply cd_dec | apply cd_eq | apply cd_ne | apply cd_split
    | ((with_reducible refine And.intro ?hw ?_); (case hw => first | omega | rfl | exact ⟨_, _, rfl⟩ | assumption | (simp only [lN] <;> omega)))
    | with_reducible intro _)
          all_goals first | omega | skip
          refine ⟨(a + 1, j + 1, S.set a l[j]), ⟨by simp only; omega, by simp only; omega, by simp [g3], ?_, by simp only [Bool.false_eq_true, if_false] at hk; simp only; omega⟩, by simp only; omega, ?_⟩
          · simp only
            rw [List.drop_set_of_lt (by omega)]
            have := congrArg (List.drop 1) g4
            simpa [List.drop_drop] using this
          · simp only
            rw [← hst]
            simp [keepE, St.keep, St.keepG, St.gc, Hp.cut, D.rn, D.rnL, Blk.rnL, Blk.rn, Tv.rnL, cutF, hrS2]
        · rw [hd] at c2 hk
          have hC : rcL S ++ und (u * 2) = rcL S ++ und (u * 2) := rfl
          generalize hCe : rcL S ++ und (u * 2) = C at *
          repeat' (first
    | with_reducible first | apply swp_seq | apply swp_reg | apply swp_regD | apply swp_block | apply swp_exit | apply swp_ret | apply swp_skip | apply swp_cd
    | simp only [go_sem, seval, pe31, q31, hg, t0, Nat.zero_add, setL]
    | simp (disch := omega) only [w64, w32, wu8, wu16, wu32, wu64]
    | ((with_reducible refine o_call (c2) ?he ?hc ?_); (case he | hc => first | rfl | (simp [D.erL, D.er, D.closedL, D.closed]; done)))
    | ((with_reducible apply s_slFF); (case hx => first | rfl | assumption | omega | ((first | refine ⟨?_, ?_⟩ | skip) <;> first | omega | (simp only [lN] <;> omega)) | (simp [elemsK, D.isVal, D.cells, D.closedL, D.closed]; first | done | omega)))
    | ((with_reducible first | apply s_slTF | apply s_slFT); (case h0 | h1 | hx => first | rfl | assumption | omega | ((first | refine ⟨?_, ?_⟩ | skip) <;> first | omega | (simp only [lN] <;> omega)) | (simp [elemsK, D.isVal, D.cells, D.closedL, D.closed]; first | done | omega)))
    | ((with_reducible apply s_slTT); (case h0 | h1 | h2 | hx => first | rfl | assumption | omega | ((first | refine ⟨?_, ?_⟩ | skip) <;> first | omega | (simp only [lN] <;> omega)) | (simp [elemsK, D.isVal, D.cells, D.closedL, D.closed]; first | done | omega)))
    | ((with_reducible first | apply s_smTF | apply s_smFT); (case h0 | h1 | hc => first | rfl | assumption | omega | ((first | refine ⟨?_, ?_⟩ | skip) <;> first | omega | (simp only [lN] <;> omega)) | (simp [elemsK, D.isVal, D.cells, D.closedL, D.closed]; first | done | omega)))
    | ((with_reducible apply s_smTT); (case h0 | h1 | h2 | hc => first | rfl | assumption | omega | ((first | refine ⟨?_, ?_⟩ | skip) <;> first | omega | (simp only [lN] <;> omega)) | (simp [elemsK, D.isVal, D.cells, D.closedL, D.closed]; first | done | omega)))
    | ((with_reducible apply s_clr); (case h1 => rfl); (case h2 | h3 => first | rfl | assumption | omega | ((first | refine ⟨?_, ?_⟩ | skip) <;> first | omega | (simp only [lN] <;> omega)) | (simp [elemsK, D.isVal, D.cells, D.closedL, D.closed]; first | done | omega)))
    | with_reducible first | apply cd_dec | apply cd_eq | apply cd_ne | apply cd_split
    | ((with_reducible refine And.intro ?hw ?_); (case hw => first | omega | rfl | exact ⟨_, _, rfl⟩ | assumption | (simp only [lN] <;> omega)))
    | with_reducible intro _)
          all_goals first | omega | skip
          refine ⟨(a, j + 1, S), ⟨by simp only; omega, by simp only; omega, g3, ?_, by simp only [if_true] at hk; simp only; omega⟩, by simp only; omega, ?_⟩
          · simp only
            have := congrArg (List.drop 1) g4
            simpa [List.drop_drop] using this
          · simp only
            rw [hCe]
            simp [keepE, St.keep, St.keepG, St.gc, Hp.cut, D.rn, D.rnL, Blk.rnL, Blk.rn, Tv.rnL, cutF, hrS1]
      · have t0 : decide (((j : Nat) : Int) < l.length) = false := by simp; omega
        have : j = l.length := by omega
        subst this
        rw [List.take_length] at g5
        have hgl : (rcL S ++ und (u * 2)).length = cap * 2 := by rw [List.length_append, hrS, und_len]; omega
        subst g5
        generalize l.countP (fun r => !(del r)) = a at *
        generalize rcL S ++ und (u * 2) = C at *
        repeat' (first
    | with_reducible first | apply swp_seq | apply swp_reg | apply swp_regD | apply swp_block | apply swp_exit | apply swp_ret | apply swp_skip | apply swp_cd
    | simp only [go_sem, seval, pe31, q31, t0, dlen, Nat.zero_add]
    | simp (disch := omega) only [w64, w32, wu8, wu16, wu32, wu64]
    | ((with_reducible apply s_slFF); (case hx => first | rfl | assumption | omega | ((first | refine ⟨?_, ?_⟩ | skip) <;> first | omega | (simp only [lN, hgl, dlen] <;> omega)) | (simp [elemsK, D.isVal, D.cells, D.closedL, D.closed, hgl, dlen]; first | done | omega)))
    | ((with_reducible first | apply s_slTF | apply s_slFT); (case h0 | h1 | hx => first | rfl | assumption | omega | ((first | refine ⟨?_, ?_⟩ | skip) <;> first | omega | (simp only [lN, hgl, dlen] <;> omega)) | (simp [elemsK, D.isVal, D.cells, D.closedL, D.closed, hgl, dlen]; first | done | omega)))
    | ((with_reducible apply s_slTT); (case h0 | h1 | h2 | hx => first | rfl | assumption | omega | ((first | refine ⟨?_, ?_⟩ | skip) <;> first | omega | (simp only [lN, hgl, dlen] <;> omega)) | (simp [elemsK, D.isVal, D.cells, D.closedL, D.closed, hgl, dlen]; first | done | omega)))
    | ((with_reducible first | apply s_smTF | apply s_smFT); (case h0 | h1 | hc => first | rfl | assumption | omega | ((first | refine ⟨?_, ?_⟩ | skip) <;> first | omega | (simp only [lN, hgl, dlen] <;> omega)) | (simp [elemsK, D.isVal, D.cells, D.closedL, D.closed, hgl, dlen]; first | done | omega)))
    | ((with_reducible apply s_smTT); (case h0 | h1 | h2 | hc => first | rfl | assumption | omega | ((first | refine ⟨?_, ?_⟩ | skip) <;> first | omega | (simp only [lN, hgl, dlen] <;> omega)) | (simp [elemsK, D.isVal, D.cells, D.closedL, D.closed, hgl, dlen]; first | done | omega)))
    | ((with_reducible apply s_clr); (case h1 => rfl); (case h2 | h3 => first | rfl | assumption | omega | ((first | refine ⟨?_, ?_⟩ | skip) <;> first | omega | (simp only [lN, hgl, dlen] <;> omega)) | (simp [elemsK, D.isVal, D.cells, D.closedL, D.closed, hgl, dlen]; first | done | omega)))
    | with_reducible first | apply cd_dec | apply cd_eq | apply cd_ne | apply cd_split
    | ((with_reducible refine And.intro ?hw ?_); (case hw => first | omega | rfl | exact ⟨_, _, rfl⟩ | assumption | (simp only [lN, hgl, dlen] <;> omega)))
    | with_reducible intro _)
        all_goals first | omega | skip
        exact ⟨_, weak_refl, rfl, _, rfl⟩
  · have c1 := ix44n l (und (u * 2)) cap hl (by omega) hs h
    have hrn : ∀ β τ l, D.rnL β τ (rcL l ++ und (u * 2)) = rcL l ++ und (u * 2) := fun β τ l => by rw [rnL_app, rcL_rn, rnL_und]
    have hall : l.countP (fun r => !(del r)) = l.length := List.countP_eq_length.2 fun r hr => by rw [h r hr]; rfl
    rw [hall]
    refine oe31 1 0 rfl rfl rfl ?_
    rw [ie31]
    unfold c31
    repeat' (first
    | with_reducible first | apply swp_seq | apply swp_reg | apply swp_regD | apply swp_block | apply swp_exit | apply swp_ret | apply swp_skip | apply swp_cd
    | simp only [go_sem, seval, pe31, q31, hrn]
    | simp (disch := omega) only [w64, w32, wu8, wu16, wu32, wu64]
    | ((with_reducible refine o_same (c1) ?he ?hh ?_); (case he => first | rfl | (simp [go_sem, seval, hrn]; done)); (case hh => first | rfl | (simp [go_sem, seval, hrn]; done)))
    | ((with_reducible apply s_slFF); (case hx => first | rfl | assumption | omega | ((first | refine ⟨?_, ?_⟩ | skip) <;> first | omega | (simp only [lN, hrn] <;> omega)) | (simp [elemsK, D.isVal, D.cells, D.closedL, D.closed, hrn]; first | done | omega)))
    | ((with_reducible first | apply s_slTF | apply s_slFT); (case h0 | h1 | hx => first | rfl | assumption | omega | ((first | refine ⟨?_, ?_⟩ | skip) <;> first | omega | (simp only [lN, hrn] <;> omega)) | (simp [elemsK, D.isVal, D.cells, D.closedL, D.closed, hrn]; first | done | omega)))
    | ((with_reducible apply s_slTT); (case h0 | h1 | h2 | hx => first | rfl | assumption | omega | ((first | refine ⟨?_, ?_⟩ | skip) <;> first | omega | (simp only [lN, hrn] <;> omega)) | (simp [elemsK, D.isVal, D.cells, D.closedL, D.closed, hrn]; first | done | omega)))
    | ((with_reducible first | apply s_smTF | apply s_smFT); (case h0 | h1 | hc => first | rfl | assumption | omega | ((first | refine ⟨?_, ?_⟩ | skip) <;> first | omega | (simp only [lN, hrn] <;> omega)) | (simp [elemsK, D.isVal, D.cells, D.closedL, D.closed, hrn]; first | done | omega)))
    | ((with_reducible apply s_smTT); (case h0 | h1 | h2 | hc => first | rfl | assumption | omega | ((first | refine ⟨?_, ?_⟩ | skip) <;> first | omega | (simp only [lN, hrn] <;> omega)) | (simp [elemsK, D.isVal, D.cells, D.closedL, D.closed, hrn]; first | done | omega)))
    | ((with_reducible apply s_clr); (case h1 => rfl); (case h2 | h3 => first | rfl | assumption | omega | ((first | refine ⟨?_, ?_⟩ | skip) <;> first | omega | (simp only [lN, hrn] <;> omega)) | (simp [elemsK, D.isVal, D.cells, D.closedL, D.closed, hrn]; first | done | omega)))
    | with_reducible first | apply cd_dec | apply cd_eq | apply cd_ne | apply cd_split
    | ((with_reducible refine And.intro ?hw ?_); (case hw => first | omega | rfl | exact ⟨_, _, rfl⟩ | assumption | (simp only [lN, hrn] <;> omega)))
    | with_reducible intro _)
    all_goals first | omega | skip
    exact ⟨_, weak_refl, rfl, _, rfl⟩
theorem o_sameR {P : Mod} {f : FuncId} {first cap args ds : List D} {hp0 : Hp} {R : D → Hp → Prop} {dst : Dst} {r : List RO} {K : St → Prop} {s : St} (h : Eff P f args hp0 R) (he : first ++ ds ++ cap = args) (hh : s.hp = hp0)
    (hk : ∀ d hp1, R d hp1 → opsWp P r K ({ s with hp := hp1 }.put dst d)) : OpS P .call (.fn (.func f) first cap :: ds) dst r K s := by
  unfold OpS OcWp
  simp only [isCall, if_true]
  subst he; subst hh
  exact call_same h hk
theorem clone_nil : Pur M 32 [.slice [] .no] (.slice [] .no) := by
  refine ow32 rfl ?_
  rw [i32]
  unfold c32
  repeat' (first
    | with_reducible first | apply swp_seq | apply swp_reg | apply swp_regD | apply swp_block | apply swp_exit | apply swp_ret | apply swp_skip | apply swp_cd
    | simp only [go_sem, seval, P32, q32]
    | simp (disch := omega) only [w64, w32, wu8, wu16, wu32, wu64]
    | ((with_reducible apply s_appT); (case he => rfl); (case hK | hc | hr | hV => first | rfl | assumption | omega | ((first | refine ⟨?_, ?_⟩ | skip) <;> first | omega | (simp only [lN] <;> omega)) | (simp [elemsK, D.isVal, D.cells, D.closedL, D.closed]; first | done | omega)))
    | ((with_reducible apply s_appG); (case he => rfl); (case hV | hK | hr | hl => first | rfl | assumption | omega | ((first | refine ⟨?_, ?_⟩ | skip) <;> first | omega | (simp only [lN] <;> omega)) | (simp [elemsK, D.isVal, D.cells, D.closedL, D.closed]; first | done | omega)))
    | ((with_reducible apply s_app0); (case he => rfl); (case hK | hc | hr => first | rfl | assumption | omega | ((first | refine ⟨?_, ?_⟩ | skip) <;> first | omega | (simp only [lN] <;> omega)) | (simp [elemsK, D.isVal, D.cells, D.closedL, D.closed]; first | done | omega)))
    | ((with_reducible apply s_appF); (case he => rfl); (case hK | hc | hr | hx | hn => first | rfl | assumption | omega | ((first | refine ⟨?_, ?_⟩ | skip) <;> first | omega | (simp only [lN] <;> omega)) | (simp [elemsK, D.isVal, D.cells, D.closedL, D.closed]; first | done | omega)))
    | ((with_reducible apply s_bsl); (case he | hl | hc => first | rfl | assumption | omega | ((first | refine ⟨?_, ?_⟩ | skip) <;> first | omega | (simp only [lN] <;> omega)) | (simp [elemsK, D.isVal, D.cells, D.closedL, D.closed]; first | done | omega)))
    | with_reducible first | apply cd_dec | apply cd_eq | apply cd_ne | apply cd_split
    | ((with_reducible refine And.intro ?hw ?_); (case hw => first | omega | rfl | exact ⟨_, _, rfl⟩ | assumption | (simp only [lN] <;> omega)))
    | with_reducible intro _)
  all_goals refine ⟨_, weak_nn, ?_, ?_⟩
  all_goals simp [D.nnL, D.nn, D.closed, D.er, D.erL]
theorem ix44_nil : Pur M 44 [.slice [] .no, .fn (.func 33) [] []] (.int .i64 (-1)) := by
  refine ok44 rfl ?_
  rw [i44]
  unfold c44
  repeat' (first
    | with_reducible first | apply swp_seq | apply swp_reg | apply swp_regD | apply swp_block | apply swp_exit | apply swp_ret | apply swp_skip | apply swp_cd
    | simp only [go_sem, seval, P44, q44]
    | simp (disch := omega) only [w64, w32, wu8, wu16, wu32, wu64]
    | with_reducible first | apply cd_dec | apply cd_eq | apply cd_ne | apply cd_split
    | ((with_reducible refine And.intro ?hw ?_); (case hw => first | omega | rfl | exact ⟨_, _, rfl⟩ | assumption | (simp only [lN] <;> omega)))
    | with_reducible intro _)
  refine swp_fam [0, 1, 4, 5] (fun _ : Unit => ⟨[.slice [] .no, .fn (.func 33) [] [], .undef, .undef, .int .i64 0, .int .i64 0, .undef, .undef], [], ⟨[], []⟩⟩) (fun _ => True) (fun _ => 0) () trivial ?_ ?_
  · simp [keepE, St.keep]
  · intro _ _
    repeat' (first
    | with_reducible first | apply swp_seq | apply swp_reg | apply swp_regD | apply swp_block | apply swp_exit | apply swp_ret | apply swp_skip | apply swp_cd
    | simp only [go_sem, seval, P44, q44]
    | simp (disch := omega) only [w64, w32, wu8, wu16, wu32, wu64]
    | with_reducible first | apply cd_dec | apply cd_eq | apply cd_ne | apply cd_split
    | ((with_reducible refine And.intro ?hw ?_); (case hw => first | omega | rfl | exact ⟨_, _, rfl⟩ | assumption | (simp only [lN] <;> omega)))
    | with_reducible intro _)
    all_goals first | omega | simp [D.closed, D.er]
theorem del31_nil : Pur M 31 [.slice [] .no, .fn (.func 33) [] []] (.slice [] .no) := by
  have c1 := ix44_nil
  refine ok31 rfl ?_
  rw [i31]
  unfold c31
  repeat' (first
    | with_reducible first | apply swp_seq | apply swp_reg | apply swp_regD | apply swp_block | apply swp_exit | apply swp_ret | apply swp_skip | apply swp_cd
    | simp only [go_sem, seval, P31, q31]
    | simp (disch := omega) only [w64, w32, wu8, wu16, wu32, wu64]
    | ((with_reducible refine o_call (c1) ?he ?hc ?_); (case he | hc => first | rfl | (simp [D.erL, D.er, D.closedL, D.closed]; done)))
    | ((with_reducible apply s_slFF); (case hx => first | rfl | assumption | omega | ((first | refine ⟨?_, ?_⟩ | skip) <;> first | omega | (simp only [lN] <;> omega)) | (simp [elemsK, D.isVal, D.cells, D.closedL, D.closed]; first | done | omega)))
    | ((with_reducible first | apply s_slTF | apply s_slFT); (case h0 | h1 | hx => first | rfl | assumption | omega | ((first | refine ⟨?_, ?_⟩ | skip) <;> first | omega | (simp only [lN] <;> omega)) | (simp [elemsK, D.isVal, D.cells, D.closedL, D.closed]; first | done | omega)))
    | ((with_reducible apply s_slTT); (case h0 | h1 | h2 | hx => first | rfl | assumption | omega | ((first | refine ⟨?_, ?_⟩ | skip) <;> first | omega | (simp only [lN] <;> omega)) | (simp [elemsK, D.isVal, D.cells, D.closedL, D.closed]; first | done | omega)))
    | ((with_reducible first | apply s_smTF | apply s_smFT); (case h0 | h1 | hc => first | rfl | assumption | omega | ((first | refine ⟨?_, ?_⟩ | skip) <;> first | omega | (simp only [lN] <;> omega)) | (simp [elemsK, D.isVal, D.cells, D.closedL, D.closed]; first | done | omega)))
    | ((with_reducible apply s_smTT); (case h0 | h1 | h2 | hc => first | rfl | assumption | omega | ((first | refine ⟨?_, ?_⟩ | skip) <;> first | omega | (simp only [lN] <;> omega)) | (simp [elemsK, D.isVal, D.cells, D.closedL, D.closed]; first | done | omega)))
    | ((with_reducible apply s_clr); (case h1 => rfl); (case h2 | h3 => first | rfl | assumption | omega | ((first | refine ⟨?_, ?_⟩ | skip) <;> first | omega | (simp only [lN] <;> omega)) | (simp [elemsK, D.isVal, D.cells, D.closedL, D.closed]; first | done | omega)))
    | with_reducible first | apply cd_dec | apply cd_eq | apply cd_ne | apply cd_split
    | ((with_reducible refine And.intro ?hw ?_); (case hw => first | omega | rfl | exact ⟨_, _, rfl⟩ | assumption | (simp only [lN] <;> omega)))
    | with_reducible intro _)
  all_goals first | omega | simp [D.closed, D.er]
theorem doubts_p (l : List Rp) (hl : l.length ≤ 1000) (hs : Small l) : Pur M 18 [rpsD l] (.int .i64 (doubtsR l : Nat)) := by
  by_cases h0 : l.length = 0
  · have : l = [] := List.eq_nil_of_length_eq_zero h0
    subst this
    have c1 := clone_nil
    have c2 := del31_nil
    refine ok18 rfl ?_
    rw [i18]
    unfold c18
    repeat' (first
    | with_reducible first | apply swp_seq | apply swp_reg | apply swp_regD | apply swp_block | apply swp_exit | apply swp_ret | apply swp_skip | apply swp_cd
    | simp only [go_sem, seval, P18, q18]
    | simp (disch := omega) only [w64, w32, wu8, wu16, wu32, wu64]
    | ((with_reducible refine o_call (c1) ?he ?hc ?_); (case he | hc => first | rfl | (simp [D.erL, D.er, D.closedL, D.closed]; done)))
    | ((with_reducible refine o_call (c2) ?he ?hc ?_); (case he | hc => first | rfl | (simp [D.erL, D.er, D.closedL, D.closed]; done)))
    | with_reducible first | apply cd_dec | apply cd_eq | apply cd_ne | apply cd_split
    | ((with_reducible refine And.intro ?hw ?_); (case hw => first | omega | rfl | exact ⟨_, _, rfl⟩ | assumption | (simp only [lN] <;> omega)))
    | with_reducible intro _)
    all_goals first | omega | simp [D.closed, D.er, doubtsR]
  · have c1 := clone_r l hl (by omega)
    refine ow18 rfl ?_
    rw [i18]
    unfold c18
    repeat' (first
    | with_reducible first | apply swp_seq | apply swp_reg | apply swp_regD | apply swp_block | apply swp_exit | apply swp_ret | apply swp_skip | apply swp_cd
    | simp only [go_sem, seval, P18, q18]
    | simp (disch := omega) only [w64, w32, wu8, wu16, wu32, wu64]
    | with_reducible first | apply cd_dec | apply cd_eq | apply cd_ne | apply cd_split
    | ((with_reducible refine And.intro ?hw ?_); (case hw => first | omega | rfl | exact ⟨_, _, rfl⟩ | assumption | (simp only [lN] <;> omega)))
    | with_reducible intro _)
    refine o_sameR c1 rfl rfl fun d hp1 hR => ?_
    obtain ⟨cap, hc, rfl, rfl⟩ := hR
    have c2 := del31 l (cap - l.length) cap hl (by omega) hs
    repeat' (first
    | with_reducible first | apply swp_seq | apply swp_reg | apply swp_regD | apply swp_block | apply swp_exit | apply swp_ret | apply swp_skip | apply swp_cd
    | simp only [go_sem, seval, P18, q18]
    | simp (disch := omega) only [w64, w32, wu8, wu16, wu32, wu64]
    | with_reducible first | apply cd_dec | apply cd_eq | apply cd_ne | apply cd_split
    | ((with_reducible refine And.intro ?hw ?_); (case hw => first | omega | rfl | exact ⟨_, _, rfl⟩ | assumption | (simp only [lN] <;> omega)))
    | with_reducible intro _)
    refine o_sameR c2 rfl rfl fun d hp1 hR => ?_
    obtain ⟨rfl, Z, rfl⟩ := hR
    repeat' (first
    | with_reducible first | apply swp_seq | apply swp_reg | apply swp_regD | apply swp_block | apply swp_exit | apply swp_ret | apply swp_skip | apply swp_cd
    | simp only [go_sem, seval, P18, q18]
    | simp (disch := omega) only [w64, w32, wu8, wu16, wu32, wu64]
    | with_reducible first | apply cd_dec | apply cd_eq | apply cd_ne | apply cd_split
    | ((with_reducible refine And.intro ?hw ?_); (case hw => first | omega | rfl | exact ⟨_, _, rfl⟩ | assumption | (simp only [lN] <;> omega)))
    | with_reducible intro _)
    all_goals first | omega | skip
    exact ⟨_, weak_refl, by simp [D.closed], by simp [D.er]⟩
end Go.Proofs.Ytofnggfpegcllaa
end
section
set_option maxRecDepth 100000
set_option linter.unusedSimpArgs false
set_option linter.unusedVariables false
namespace Go.Proofs.Ytofnggfpegcllaa
open Go GoV Go.RowKit
theorem compsD_len (C : List (List Nat)) : (compsD C).length = C.length := by simp [compsD]
theorem compsD_get {C : List (List Nat)} {i : Nat} (h : i < C.length) : (compsD C).getD i .undef = .slice (ints (C.getD i [])) .no := by simp [compsD, List.getD, h]
theorem cl_comps (C : List (List Nat)) : D.closedL (compsD C) = true := by
  induction C with
  | nil => rfl
  | cons c C ih => simp [compsD, D.closedL, D.closed] at ih ⊢; exact ih
theorem er_comps (C : List (List Nat)) : D.erL (compsD C) = compsD C := by
  induction C with
  | nil => rfl
  | cons c C ih => simp [compsD, D.erL, D.er] at ih ⊢; exact ih
theorem ints_getD {F : List Nat} {i : Nat} (h : i < F.length) : (ints F).getD i .undef = .int .i64 (F[i] : Nat) := by simp [ints, List.getD, h]
theorem ints_p (a b : List Nat) (hl : a.length ≤ 1000) (hl2 : b.length ≤ 1000) : Pur M 15 [.slice (ints a) .no, .slice (ints b) .no] (.bool (a == b)) := by
  refine ok15 rfl ?_
  rw [i15]
  unfold c15
  have ha := ints_len a
  have hb := ints_len b
  by_cases he : a.length = b.length
  · have t0 : (((a.length : Nat) : Int) != (b.length : Nat)) = false := by rw [he]; simp
    repeat' (first
    | with_reducible first | apply swp_seq | apply swp_reg | apply swp_regD | apply swp_block | apply swp_exit | apply swp_ret | apply swp_skip | apply swp_cd
    | simp only [go_sem, seval, P15, q15, ha, hb, t0]
    | simp (disch := omega) only [w64, w32, wu8, wu16, wu32, wu64]
    | with_reducible first | apply cd_dec | apply cd_eq | apply cd_ne | apply cd_split
    | ((with_reducible refine And.intro ?hw ?_); (case hw => first | omega | rfl | exact ⟨_, _, rfl⟩ | assumption | (simp only [lN, ha, hb] <;> omega)))
    | with_reducible intro _)
    refine swp_fam [0, 1, 3] (fun i : Nat => ⟨[.slice (ints a) .no, .slice (ints b) .no, .undef, .int .i64 i, .undef, .undef, .undef], [], ⟨[], []⟩⟩) (fun i => i ≤ a.length ∧ ∀ j (h : j < i) (g : j < a.length), a[j] = b[j]'(by omega)) (fun i => a.length - i) 0 ⟨by omega, fun j h => by omega⟩ ?_ ?_
    · simp [keepE, St.keep]
    · rintro i ⟨h1, h2⟩
      by_cases hi : i < a.length
      · have t1 : decide (((i : Nat) : Int) < a.length) = true := by simp; omega
        have g1 := ints_getD hi
        have g2 := ints_getD (F := b) (i := i) (by omega)
        by_cases e : a[i] = b[i]
        · have t2 : (((a[i] : Nat) : Int) != (b[i] : Nat)) = false := by rw [e]; simp
          repeat' (first
    | with_reducible first | apply swp_seq | apply swp_reg | apply swp_regD | apply swp_block | apply swp_exit | apply swp_ret | apply swp_skip | apply swp_cd
    | simp only [go_sem, seval, P15, q15, ha, hb, t1, t2, g1, g2]
    | simp (disch := omega) only [w64, w32, wu8, wu16, wu32, wu64]
    | with_reducible first | apply cd_dec | apply cd_eq | apply cd_ne | apply cd_split
    | ((with_reducible refine And.intro ?hw ?_); (case hw => first | omega | rfl | exact ⟨_, _, rfl⟩ | assumption | (simp only [lN, ha, hb, g1, g2] <;> omega)))
    | with_reducible intro _)
          all_goals first | omega | skip
          refine ⟨i + 1, ⟨by omega, fun j h g => ?_⟩, by omega, by simp [keepE, St.keep]⟩
          by_cases q : j = i
          · subst q; exact e
          · exact h2 j (by omega) g
        · have t2 : (((a[i] : Nat) : Int) != (b[i] : Nat)) = true := by rw [bne_iff_ne]; omega
          have hc : (a == b) = false := by rw [beq_eq_false_iff_ne]; intro q; subst q; exact e rfl
          rw [hc]
          repeat' (first
    | with_reducible first | apply swp_seq | apply swp_reg | apply swp_regD | apply swp_block | apply swp_exit | apply swp_ret | apply swp_skip | apply swp_cd
    | simp only [go_sem, seval, P15, q15, ha, hb, t1, t2, g1, g2]
    | simp (disch := omega) only [w64, w32, wu8, wu16, wu32, wu64]
    | with_reducible first | apply cd_dec | apply cd_eq | apply cd_ne | apply cd_split
    | ((with_reducible refine And.intro ?hw ?_); (case hw => first | omega | rfl | exact ⟨_, _, rfl⟩ | assumption | (simp only [lN, ha, hb, g1, g2] <;> omega)))
    | with_reducible intro _)
          all_goals first | omega | simp [D.closed, D.er]
      · have t1 : decide (((i : Nat) : Int) < a.length) = false := by simp; omega
        have hc : (a == b) = true := by
          rw [beq_iff_eq]
          exact List.ext_getElem he fun j g1 g2 => h2 j (by omega) g1
        rw [hc]
        repeat' (first
    | with_reducible first | apply swp_seq | apply swp_reg | apply swp_regD | apply swp_block | apply swp_exit | apply swp_ret | apply swp_skip | apply swp_cd
    | simp only [go_sem, seval, P15, q15, ha, hb, t1]
    | simp (disch := omega) only [w64, w32, wu8, wu16, wu32, wu64]
    | with_reducible first | apply cd_dec | apply cd_eq | apply cd_ne | apply cd_split
    | ((with_reducible refine And.intro ?hw ?_); (case hw => first | omega | rfl | exact ⟨_, _, rfl⟩ | assumption | (simp only [lN, ha, hb] <;> omega)))
    | with_reducible intro _)
        all_goals first | omega | simp [D.closed, D.er]
  · have t0 : (((a.length : Nat) : Int) != (b.length : Nat)) = true := by rw [bne_iff_ne]; omega
    have hc : (a == b) = false := by rw [beq_eq_false_iff_ne]; intro q; subst q; exact he rfl
    rw [hc]
    repeat' (first
    | with_reducible first | apply swp_seq | apply swp_reg | apply swp_regD | apply swp_block | apply swp_exit | apply swp_ret | apply swp_skip | apply swp_cd
    | simp only [go_sem, seval, P15, q15, ha, hb, t0]
    | simp (disch := omega) only [w64, w32, wu8, wu16, wu32, wu64]
    | with_reducible first | apply cd_dec | apply cd_eq | apply cd_ne | apply cd_split
    | ((with_reducible refine And.intro ?hw ?_); (case hw => first | omega | rfl | exact ⟨_, _, rfl⟩ | assumption | (simp only [lN, ha, hb] <;> omega)))
    | with_reducible intro _)
    all_goals first | omega | simp [D.closed, D.er]
theorem same_p (a : List (List Nat)) (hl : a.length ≤ 1000) (hs : ∀ c ∈ a, c.length ≤ 1000) : Pur M 12 [.slice (compsD a) .no, .slice (compsD a) .no] (.bool true) := by
  refine ok12 rfl ?_
  rw [i12]
  unfold c12
  have ha := compsD_len a
  have t0 : (((a.length : Nat) : Int) != (a.length : Nat)) = false := by simp
  repeat' (first
    | with_reducible first | apply swp_seq | apply swp_reg | apply swp_regD | apply swp_block | apply swp_exit | apply swp_ret | apply swp_skip | apply swp_cd
    | simp only [go_sem, seval, P12, q12, ha, t0]
    | simp (disch := omega) only [w64, w32, wu8, wu16, wu32, wu64]
    | with_reducible first | apply cd_dec | apply cd_eq | apply cd_ne | apply cd_split
    | ((with_reducible refine And.intro ?hw ?_); (case hw => first | omega | rfl | exact ⟨_, _, rfl⟩ | assumption | (simp only [lN, ha] <;> omega)))
    | with_reducible intro _)
  refine swp_fam [0, 1, 3] (fun i : Nat => ⟨[.slice (compsD a) .no, .slice (compsD a) .no, .undef, .int .i64 i, .undef, .undef, .undef], [], ⟨[], []⟩⟩) (fun i => i ≤ a.length) (fun i => a.length - i) 0 (by omega) ?_ ?_
  · simp [keepE, St.keep]
  · intro i h1
    by_cases hi : i < a.length
    · have t1 : decide (((i : Nat) : Int) < a.length) = true := by simp; omega
      have g1 := compsD_get hi
      have hm : (a.getD i []).length ≤ 1000 := by
        have : a.getD i [] = a[i] := by simp [List.getD, hi]
        rw [this]; exact hs _ (List.getElem_mem hi)
      have c1 := ints_p (a.getD i []) (a.getD i []) hm hm
      rw [beq_self_eq_true] at c1
      have hcl := cl_ints (a.getD i [])
      have her := er_ints (a.getD i [])
      repeat' (first
    | with_reducible first | apply swp_seq | apply swp_reg | apply swp_regD | apply swp_block | apply swp_exit | apply swp_ret | apply swp_skip | apply swp_cd
    | simp only [go_sem, seval, P12, q12, ha, t1, g1]
    | simp (disch := omega) only [w64, w32, wu8, wu16, wu32, wu64]
    | ((with_reducible refine o_call (c1) ?he ?hc ?_); (case he | hc => first | rfl | (simp [D.erL, D.er, D.closedL, D.closed, ha, g1, hcl, her]; done)))
    | with_reducible first | apply cd_dec | apply cd_eq | apply cd_ne | apply cd_split
    | ((with_reducible refine And.intro ?hw ?_); (case hw => first | omega | rfl | exact ⟨_, _, rfl⟩ | assumption | (simp only [lN, ha, g1, hcl, her] <;> omega)))
    | with_reducible intro _)
      all_goals first | omega | skip
      exact ⟨i + 1, by omega, by omega, by simp [keepE, St.keep]⟩
    · have t1 : decide (((i : Nat) : Int) < a.length) = false := by simp; omega
      repeat' (first
    | with_reducible first | apply swp_seq | apply swp_reg | apply swp_regD | apply swp_block | apply swp_exit | apply swp_ret | apply swp_skip | apply swp_cd
    | simp only [go_sem, seval, P12, q12, ha, t1]
    | simp (disch := omega) only [w64, w32, wu8, wu16, wu32, wu64]
    | with_reducible first | apply cd_dec | apply cd_eq | apply cd_ne | apply cd_split
    | ((with_reducible refine And.intro ?hw ?_); (case hw => first | omega | rfl | exact ⟨_, _, rfl⟩ | assumption | (simp only [lN, ha] <;> omega)))
    | with_reducible intro _)
      all_goals first | omega | simp [D.closed, D.er]
def madeR (s : Nm) : Rp := ⟨[⟨1, 0, s, [107], [], [], [], [], ⟨0, 0⟩, ⟨0, 0⟩, ⟨0, 0⟩⟩], false⟩
theorem made_p (s : Nm) : Pur M 24 [.str s] (.agg [.slice [.agg [.int .i64 1, .int .i64 0, .str s, .str [107], .str [], .str [], .str [], .str [], .int .i64 0, .int .i64 0, .int .i64 0, .int .i64 0, .int .i64 0, .int .i64 0]] .no, .bool false]) := by
  refine ok24 rfl ?_
  rw [i24]
  unfold c24
  repeat' (first
    | with_reducible first | apply swp_seq | apply swp_reg | apply swp_regD | apply swp_block | apply swp_exit | apply swp_ret | apply swp_skip | apply swp_cd
    | simp only [go_sem, seval, P24, q24, fillL]
    | simp (disch := omega) only [w64, w32, wu8, wu16, wu32, wu64]
    | ((with_reducible apply s_bsl); (case he | hl | hc => first | rfl | assumption | omega | ((first | refine ⟨?_, ?_⟩ | skip) <;> first | omega | (simp only [lN] <;> omega)) | (simp [elemsK, D.isVal, D.cells, D.closedL, D.closed]; first | done | omega)))
    | with_reducible first | apply cd_dec | apply cd_eq | apply cd_ne | apply cd_split
    | ((with_reducible refine And.intro ?hw ?_); (case hw => first | omega | rfl | exact ⟨_, _, rfl⟩ | assumption | (simp only [lN] <;> omega)))
    | with_reducible intro _)
  all_goals simp [D.closed, D.er, D.closedL, D.erL]
def headL : List Rp := [madeR [97], madeR [98], ⟨[⟨2, 0, [97], [], [99], [115], [], [], ⟨0, 0⟩, ⟨0, 0⟩, ⟨0, 0⟩⟩], true⟩, madeR [99]]
theorem head_c : comps (namesL headL) = [[0, 2, 3], [1]] := by kernel_rfl
theorem head_o1 : ofP (namesL headL) [99] = [0, 2, 3] := by kernel_rfl
theorem head_o2 : ofP (namesL headL) [120] = [] := by kernel_rfl
theorem head_d : doubtsR headL = 1 := by kernel_rfl
set_option maxHeartbeats 1000000 in
theorem head_p : Pur M 10 [] (.bool true) := by
  have hs : Small headL := by
    intro r hr e he
    have : (headL.all fun r => r.opts.all Ev.sh) = true := by kernel_rfl
    exact List.all_eq_true.1 (List.all_eq_true.1 this r hr) e he
  have c1 := components_p headL (by decide) hs
  have c2 := of_p headL (by decide) hs [99]
  have c3 := of_p headL (by decide) hs [120]
  have c4 := doubts_p headL (by decide) hs
  have c5 := same_p [[0, 2, 3], [1]] (by decide) (by decide)
  have c6 := ints_p [0, 2, 3] [0, 2, 3] (by decide) (by decide)
  rw [head_c] at c1
  rw [head_o1] at c2
  rw [head_o2] at c3
  rw [head_d] at c4
  rw [beq_self_eq_true] at c6
  simp only [compsD, ints, List.map_cons, List.map_nil] at c1 c2 c3 c5 c6
  have m1 := made_p [97]
  have m2 := made_p [98]
  have m3 := made_p [99]
  simp only [headL, madeR, rpsD, List.map_cons, List.map_nil, rpD, evD, Ev.cells] at c1 c2 c3 c4
  refine ok10 rfl ?_
  rw [i10]
  unfold c10
  repeat' (first
    | with_reducible first | apply swp_seq | apply swp_reg | apply swp_regD | apply swp_block | apply swp_exit | apply swp_ret | apply swp_skip | apply swp_cd
    | simp only [go_sem, seval, P10, q10, fillL, nc0, nc1, nc2, nc3]
    | simp (disch := omega) only [w64, w32, wu8, wu16, wu32, wu64]
    | ((with_reducible first | refine o_call (m1) ?he ?hc ?_ | refine p_call (m1) ?he ?hc ?_ | refine c_call (m1) ?he ?hc ?_); (case he | hc => first | rfl | (simp [D.erL, D.er, D.closedL, D.closed, nc0, nc1, nc2, nc3]; done)))
    | ((with_reducible first | refine o_call (m2) ?he ?hc ?_ | refine p_call (m2) ?he ?hc ?_ | refine c_call (m2) ?he ?hc ?_); (case he | hc => first | rfl | (simp [D.erL, D.er, D.closedL, D.closed, nc0, nc1, nc2, nc3]; done)))
    | ((with_reducible first | refine o_call (m3) ?he ?hc ?_ | refine p_call (m3) ?he ?hc ?_ | refine c_call (m3) ?he ?hc ?_); (case he | hc => first | rfl | (simp [D.erL, D.er, D.closedL, D.closed, nc0, nc1, nc2, nc3]; done)))
    | ((with_reducible first | refine o_call (c1) ?he ?hc ?_ | refine p_call (c1) ?he ?hc ?_ | refine c_call (c1) ?he ?hc ?_); (case he | hc => first | rfl | (simp [D.erL, D.er, D.closedL, D.closed, nc0, nc1, nc2, nc3]; done)))
    | ((with_reducible first | refine o_call (c2) ?he ?hc ?_ | refine p_call (c2) ?he ?hc ?_ | refine c_call (c2) ?he ?hc ?_); (case he | hc => first | rfl | (simp [D.erL, D.er, D.closedL, D.closed, nc0, nc1, nc2, nc3]; done)))
    | ((with_reducible first | refine o_call (c3) ?he ?hc ?_ | refine p_call (c3) ?he ?hc ?_ | refine c_call (c3) ?he ?hc ?_); (case he | hc => first | rfl | (simp [D.erL, D.er, D.closedL, D.closed, nc0, nc1, nc2, nc3]; done)))
    | ((with_reducible first | refine o_call (c4) ?he ?hc ?_ | refine p_call (c4) ?he ?hc ?_ | refine c_call (c4) ?he ?hc ?_); (case he | hc => first | rfl | (simp [D.erL, D.er, D.closedL, D.closed, nc0, nc1, nc2, nc3]; done)))
    | ((with_reducible first | refine o_call (c5) ?he ?hc ?_ | refine p_call (c5) ?he ?hc ?_ | refine c_call (c5) ?he ?hc ?_); (case he | hc => first | rfl | (simp [D.erL, D.er, D.closedL, D.closed, nc0, nc1, nc2, nc3]; done)))
    | ((with_reducible first | refine o_call (c6) ?he ?hc ?_ | refine p_call (c6) ?he ?hc ?_ | refine c_call (c6) ?he ?hc ?_); (case he | hc => first | rfl | (simp [D.erL, D.er, D.closedL, D.closed, nc0, nc1, nc2, nc3]; done)))
    | ((with_reducible apply s_bsl); (case he | hl | hc => first | rfl | assumption | omega | ((first | refine ⟨?_, ?_⟩ | skip) <;> first | omega | (simp only [lN, nc0, nc1, nc2, nc3] <;> omega)) | (simp [elemsK, D.isVal, D.cells, D.closedL, D.closed, nc0, nc1, nc2, nc3]; first | done | omega)))
    | with_reducible first | apply cd_dec | apply cd_eq | apply cd_ne | apply cd_split | apply gd_dec | apply gd_eq | apply gd_ne | apply gd_split
    | ((with_reducible refine And.intro ?hw ?_); (case hw => first | omega | rfl | exact ⟨_, _, rfl⟩ | assumption | (simp only [lN, nc0, nc1, nc2, nc3] <;> omega)))
    | with_reducible intro _)
  all_goals trace_state
  all_goals first | omega | simp [D.closed, D.er]
end Go.Proofs.Ytofnggfpegcllaa
end
section
set_option maxRecDepth 100000
set_option linter.unusedSimpArgs false
set_option linter.unusedVariables false
namespace Go.Proofs.Ytofnggfpegcllaa
open Go GoV Go.RowKit
theorem zeros_ints : ∀ n : Nat, zeros [.int .i64 0] n = ints (List.replicate n 0)
  | 0 => rfl
  | n + 1 => by
    have := zeros_ints n
    simp only [zeros, List.replicate_succ, ints, List.map_cons, List.cons_append, List.nil_append] at this ⊢
    rw [this]; rfl
theorem chunk_ints : ∀ F : List Nat, chunk 1 F.length (ints F) = ints F
  | [] => rfl
  | x :: F => by
    have := chunk_ints F
    simp only [ints, List.map_cons, List.length_cons, chunk, List.drop_succ_cons, List.drop_zero] at this ⊢
    rw [this]; rfl
theorem cno_app {L : List Nat} (h : Lo L) {i : Nat} (hi : i < (roots L).length) : (compsL L).getD i [] = mem L ((roots L).getD i 0) := by
  have hc : i < (compsL L).length := by rw [comps_len]; exact hi
  have h1 : (compsL L).getD i [] = (compsL L)[i] := by simp [List.getD, hc]
  have h2 : (roots L).getD i 0 = (roots L)[i] := by simp [List.getD, hi]
  rw [h1, h2, comps_get hi]
@[reducible] noncomputable def atLoop : RC := RC.loop (((RC.reg r20_9).seq (RC.cond (Opd.var 11) RC.skip (RC.exit 2))).seq ((RC.block 3 ((RC.reg r20_10).seq (((RC.reg r20_11).seq (RC.cond (Opd.var 12) ((RC.reg r20_12).seq RC.ret) RC.skip)).seq ((RC.reg r20_13).seq (RC.reg r20_14))))).seq (RC.reg r20_15)))
set_option maxHeartbeats 1000000 in
theorem at_inner {n i : Nat} (A : List D) (C : List Nat) (O : Nat → List Nat) (cn : Nat → Nat) (hi : i < A.length) (hi2 : i ≤ 1000) (hA : A.getD i .undef = .slice (ints C) .no) (hlen : ∀ k, (O k).length = n) (hC : ∀ k, k < C.length → lb C k < n) (hn : n ≤ 1000) (hCl : C.length ≤ n) (hcn : ∀ k, cn k ≤ n)
    (hinc : ∀ k, 0 < k → k < C.length → lb C (k - 1) < lb C k) (hO : ∀ k, k < C.length → O (k + 1) = (O k).set (lb C k) (i + 1) ∧ lb (O k) (lb C k) = 0 ∧ cn (k + 1) = cn k + 1) (b9 b10 : D) (Q : Ex → St → Prop)
    (hQ : Q (.exit 2) ⟨[.int .i64 n, .slice A .no, .undef, .undef, .sl 0 1 0 n n, .int .i64 (cn C.length : Nat), .int .i64 i, .int .i64 C.length, .undef, .undef, .undef, .bool false, .undef], [], ⟨[.cells (ints (O C.length))], []⟩⟩) :
    SWp C20 atLoop Q ⟨[.int .i64 n, .slice A .no, .undef, .undef, .sl 0 1 0 n n, .int .i64 (cn 0 : Nat), .int .i64 i, .int .i64 0, .undef, b9, b10, .undef, .undef], [], ⟨[.cells (ints (O 0))], []⟩⟩ := by
  have lp := ints_len C
  refine swp_fam [0, 1, 4, 5, 6, 7] (fun k : Nat => ⟨[.int .i64 n, .slice A .no, .undef, .undef, .sl 0 1 0 n n, .int .i64 (cn k : Nat), .int .i64 i, .int .i64 k, .undef, .undef, .undef, .undef, .undef], [], ⟨[.cells (ints (O k))], []⟩⟩) (fun k => k ≤ C.length) (fun k => C.length - k) 0 (by omega) ?_ ?_
  · simp [keepE, St.keep]
  · intro k hk
    by_cases hkl : k < C.length
    · have t2 : decide (((k : Nat) : Int) < C.length) = true := by simp; omega
      have gk := ints_get hkl
      have gkm := ints_get (F := C) (i := k - 1) (by omega)
      have tki : (((k : Nat) : Int) - 1).toNat = k - 1 := by omega
      have hx := hC k hkl
      have hkk := fun h => hinc k h hkl
      obtain ⟨hs, ho, hc⟩ := hO k hkl
      have hol := ints_len (O k)
      rw [hlen] at hol
      have hst : (ints (O k)).set (lb C k) (.int .i64 ((i : Int) + 1)) = ints (O (k + 1)) := by
        rw [hs]
        have := ints_set (F := O k) (i := lb C k) (x := i + 1)
        simpa using this
      have go : (ints (O k)).getD (lb C k) .undef = .int .i64 0 := by
        rw [ints_get (by rw [hlen]; exact hx), ho]; rfl
      have hcl := hcn k
      generalize O k = Ok at *
      generalize lb C k = x at *
      generalize lb C (k - 1) = y at *
      have t3 : decide (((x : Nat) : Int) < 0) = false := by simp only [decide_eq_false_iff_not]; omega
      have t4 : decide (((x : Nat) : Int) ≥ (n : Nat)) = false := by simp only [decide_eq_false_iff_not]; omega
      repeat' (first
    | with_reducible first | apply swp_seq | apply swp_reg | apply swp_regD | apply swp_block | apply swp_exit | apply swp_ret | apply swp_skip | apply swp_cd
    | simp only [go_sem, seval, P20, q20, hA, lp, t2, t3, t4, gk, gkm, tki, go, hst, Nat.mul_one, Nat.zero_add]
    | simp (disch := omega) only [w64, w32, wu8, wu16, wu32, wu64]
    | ((with_reducible apply s_mks); (case h0 | h1 | h2 => first | rfl | assumption | omega | ((first | refine ⟨?_, ?_⟩ | skip) <;> first | omega | (simp only [lN, hA, lp, gk, gkm, tki, hol] <;> omega)) | (simp [elemsK, D.isVal, D.cells, D.closedL, D.closed, hA, lp, gk, gkm, tki, hol]; first | done | omega)))
    | with_reducible first | apply cd_dec | apply cd_eq | apply cd_ne | apply cd_split | apply gd_dec | apply gd_eq | apply gd_ne | apply gd_split | apply gq_dec | apply gq_eq | apply gq_ne | apply gq_split
    | ((with_reducible refine And.intro ?hw ?_); (case hw => first | omega | rfl | exact ⟨_, _, rfl⟩ | assumption | (simp only [lN, hA, lp, gk, gkm, tki, hol] <;> omega)))
    | with_reducible intro _)
      all_goals first | omega | (exfalso; omega) | skip
      all_goals exact ⟨k + 1, by omega, by omega, by simp [keepE, St.keep, hc]⟩
    · have t2 : decide (((k : Nat) : Int) < C.length) = false := by simp; omega
      have : k = C.length := by omega
      subst this
      repeat' (first
    | with_reducible first | apply swp_seq | apply swp_reg | apply swp_regD | apply swp_block | apply swp_exit | apply swp_ret | apply swp_skip | apply swp_cd
    | simp only [go_sem, seval, P20, q20, hA, lp, t2]
    | simp (disch := omega) only [w64, w32, wu8, wu16, wu32, wu64]
    | ((with_reducible apply s_mks); (case h0 | h1 | h2 => first | rfl | assumption | omega | ((first | refine ⟨?_, ?_⟩ | skip) <;> first | omega | (simp only [lN, hA, lp] <;> omega)) | (simp [elemsK, D.isVal, D.cells, D.closedL, D.closed, hA, lp]; first | done | omega)))
    | with_reducible first | apply cd_dec | apply cd_eq | apply cd_ne | apply cd_split | apply gd_dec | apply gd_eq | apply gd_ne | apply gd_split | apply gq_dec | apply gq_eq | apply gq_ne | apply gq_split
    | ((with_reducible refine And.intro ?hw ?_); (case hw => first | omega | rfl | exact ⟨_, _, rfl⟩ | assumption | (simp only [lN, hA, lp] <;> omega)))
    | with_reducible intro _)
      all_goals first | omega | exact hQ
set_option maxHeartbeats 4000000 in
theorem at_p {L : List Nat} (hL : Lo L) (hN : L.length ≤ 1000) : Pur M 20 [.int .i64 (L.length : Nat), .slice (compsD (compsL L)) .no] (.tup [.slice (ints (atL L)) .no, .bool true]) := by
  have hcl := compsD_len (compsL L)
  rw [comps_len] at hcl
  have hrt : (roots L).length ≤ L.length := by unfold roots; refine Nat.le_trans (List.length_filter_le _ _) ?_; simp
  have hz := zeros_ints L.length
  rw [← outTo_zero L] at hz
  refine ow20 rfl ?_
  rw [i20]
  unfold c20
  repeat' (first
    | with_reducible first | apply swp_seq | apply swp_reg | apply swp_regD | apply swp_block | apply swp_exit | apply swp_ret | apply swp_skip | apply swp_cd
    | simp only [go_sem, seval, P20, q20, hz, hcl]
    | simp (disch := omega) only [w64, w32, wu8, wu16, wu32, wu64]
    | ((with_reducible apply s_mks); (case h0 | h1 | h2 => first | rfl | assumption | omega | ((first | refine ⟨?_, ?_⟩ | skip) <;> first | omega | (simp only [lN] <;> omega)) | (simp [elemsK, D.isVal, D.cells, D.closedL, D.closed]; first | done | omega)))
    | with_reducible first | apply cd_dec | apply cd_eq | apply cd_ne | apply cd_split | apply gd_dec | apply gd_eq | apply gd_ne | apply gd_split | apply gq_dec | apply gq_eq | apply gq_ne | apply gq_split
    | ((with_reducible refine And.intro ?hw ?_); (case hw => first | omega | rfl | exact ⟨_, _, rfl⟩ | assumption | (simp only [lN] <;> omega)))
    | with_reducible intro _)
  refine swp_fam [0, 1, 4, 5, 6] (fun i : Nat => ⟨[.int .i64 (L.length : Nat), .slice (compsD (compsL L)) .no, .undef, .undef, .sl 0 1 0 L.length L.length, .int .i64 (cntTo L i 0 : Nat), .int .i64 i, .undef, .undef, .undef, .undef, .undef, .undef], [], ⟨[.cells (ints (outTo L i 0))], []⟩⟩) (fun i => i ≤ (roots L).length) (fun i => (roots L).length - i) 0 (by omega) ?_ ?_
  · simp [keepE, St.keep, cnt_zero]
  · intro i hi
    by_cases hil : i < (roots L).length
    · have t0 : decide (((i : Nat) : Int) < (roots L).length) = true := by simp; omega
      have hg := compsD_get (C := compsL L) (i := i) (by rw [comps_len]; exact hil)
      have hgm := compsD_get (C := compsL L) (i := i - 1) (by rw [comps_len]; omega)
      have hti : (((i : Nat) : Int) - 1).toNat = i - 1 := by omega
      rw [cno_app hL hil] at hg
      rw [cno_app hL (by omega)] at hgm
      have hr0 : (roots L).getD i 0 = (roots L)[i] := by simp [List.getD, hil]
      have hr1 : (roots L).getD (i - 1) 0 = (roots L)[i - 1] := by simp [List.getD, show i - 1 < (roots L).length by omega]
      rw [hr0] at hg
      rw [hr1] at hgm
      obtain ⟨p0, p1⟩ := mem_head hL (List.getElem_mem hil)
      obtain ⟨q0, q1⟩ := mem_head hL (List.getElem_mem (show i - 1 < (roots L).length by omega))
      have hlt : 0 < i → (roots L)[i - 1] < (roots L)[i] := fun h => incr_get (roots_incr L) hil (by omega)
      have gp := ints_getD p0
      have gq := ints_getD q0
      rw [p1] at gp
      rw [q1] at gq
      have lp := ints_len (mem L (roots L)[i])
      have lq := ints_len (mem L (roots L)[i - 1])
      have hml : (mem L (roots L)[i]).length ≤ L.length := by unfold mem; refine Nat.le_trans (List.length_filter_le _ _) ?_; simp
      have hinc := mem_incr L (roots L)[i]
      have hmm := fun k (hk : k < (mem L (roots L)[i]).length) => (mem_mem.1 (List.getElem_mem hk)).1
      have hos := fun k (hk : k < (mem L (roots L)[i]).length) => outTo_step hL hil hk
      have hof := fun k (hk : k < (mem L (roots L)[i]).length) => outTo_fresh hL hil hk
      have hcs := fun k (hk : k < (mem L (roots L)[i]).length) => cnt_step hL hil hk
      have hor := outTo_row hL hil
      have hcr := cnt_row hL hil
      have hcle := fun k => cnt_le (L := L) (i := i) (k := k)
      have t1 : (((mem L (roots L)[i]).length : Int) == 0) = false := by rw [beq_eq_false_iff_ne]; omega
      repeat' (first
    | with_reducible first | apply swp_seq | apply swp_reg | apply swp_regD | apply swp_block | apply swp_exit | apply swp_ret | apply swp_skip | apply swp_cd
    | simp only [go_sem, seval, P20, q20, hcl, t0, hg, hgm, hti, lp, lq, t1, gp, gq]
    | simp (disch := omega) only [w64, w32, wu8, wu16, wu32, wu64]
    | ((with_reducible apply s_mks); (case h0 | h1 | h2 => first | rfl | assumption | omega | ((first | refine ⟨?_, ?_⟩ | skip) <;> first | omega | (simp only [lN, hcl, hg, hgm, hti, lp, lq, gp, gq] <;> omega)) | (simp [elemsK, D.isVal, D.cells, D.closedL, D.closed, hcl, hg, hgm, hti, lp, lq, gp, gq]; first | done | omega)))
    | with_reducible first | apply cd_dec | apply cd_eq | apply cd_ne | apply cd_split | apply gd_dec | apply gd_eq | apply gd_ne | apply gd_split | apply gq_dec | apply gq_eq | apply gq_ne | apply gq_split
    | ((with_reducible refine And.intro ?hw ?_); (case hw => first | omega | rfl | exact ⟨_, _, rfl⟩ | assumption | (simp only [lN, hcl, hg, hgm, hti, lp, lq, gp, gq] <;> omega)))
    | with_reducible intro _)
      all_goals first | omega | (exfalso; omega) | skip
      all_goals (
        refine at_inner (compsD (compsL L)) (mem L (roots L)[i]) (fun k => outTo L i k) (fun k => cntTo L i k) (by rw [hcl]; exact hil) (by omega) hg (fun k => outTo_len) (fun k hk => by rw [lb_lt hk]; exact hmm k hk) hN hml hcle (fun k h hk => by rw [lb_lt hk, lb_lt (by omega)]; exact incr_get hinc hk (by omega)) (fun k hk => by rw [lb_lt hk]; exact ⟨hos k hk, hof k hk, hcs k hk⟩) _ _ _ ?_
        simp only [hor, hcr]
        repeat' (first
    | with_reducible first | apply swp_seq | apply swp_reg | apply swp_regD | apply swp_block | apply swp_exit | apply swp_ret | apply swp_skip | apply swp_cd
    | simp only [go_sem, seval, P20, q20]
    | simp (disch := omega) only [w64, w32, wu8, wu16, wu32, wu64]
    | ((with_reducible apply s_mks); (case h0 | h1 | h2 => first | rfl | assumption | omega | ((first | refine ⟨?_, ?_⟩ | skip) <;> first | omega | (simp only [lN] <;> omega)) | (simp [elemsK, D.isVal, D.cells, D.closedL, D.closed]; first | done | omega)))
    | with_reducible first | apply cd_dec | apply cd_eq | apply cd_ne | apply cd_split | apply gd_dec | apply gd_eq | apply gd_ne | apply gd_split | apply gq_dec | apply gq_eq | apply gq_ne | apply gq_split
    | ((with_reducible refine And.intro ?hw ?_); (case hw => first | omega | rfl | exact ⟨_, _, rfl⟩ | assumption | (simp only [lN] <;> omega)))
    | with_reducible intro _)
        all_goals first | omega | skip
        exact ⟨i + 1, by omega, by omega, by simp [keepE, St.keep]⟩)
    · have t0 : decide (((i : Nat) : Int) < (roots L).length) = false := by simp; omega
      have : i = (roots L).length := by omega
      subst this
      rw [outTo_end hL, cnt_end hL]
      have t1 : (((L.length : Nat) : Int) == (L.length : Nat)) = true := by simp
      repeat' (first
    | with_reducible first | apply swp_seq | apply swp_reg | apply swp_regD | apply swp_block | apply swp_exit | apply swp_ret | apply swp_skip | apply swp_cd
    | simp only [go_sem, seval, P20, q20, hcl, t0, t1]
    | simp (disch := omega) only [w64, w32, wu8, wu16, wu32, wu64]
    | ((with_reducible apply s_mks); (case h0 | h1 | h2 => first | rfl | assumption | omega | ((first | refine ⟨?_, ?_⟩ | skip) <;> first | omega | (simp only [lN, hcl] <;> omega)) | (simp [elemsK, D.isVal, D.cells, D.closedL, D.closed, hcl]; first | done | omega)))
    | with_reducible first | apply cd_dec | apply cd_eq | apply cd_ne | apply cd_split | apply gd_dec | apply gd_eq | apply gd_ne | apply gd_split | apply gq_dec | apply gq_eq | apply gq_ne | apply gq_split
    | ((with_reducible refine And.intro ?hw ?_); (case hw => first | omega | rfl | exact ⟨_, _, rfl⟩ | assumption | (simp only [lN, hcl] <;> omega)))
    | with_reducible intro _)
      all_goals first | omega | skip
      have ha : (atL L).length = L.length := by simp [atL]
      have hci := chunk_ints (atL L)
      rw [ha] at hci
      have hel := elems_ints (atL L)
      refine ⟨_, weak_trans (weak_keep [2, 3]) (weak_frz 0 (ints (atL L)) rfl (Nat.zero_le _) (cl_ints _)), ?_⟩
      rw [er_ints]
      have hll := ints_len (atL L)
      rw [ha] at hll
      simp [St.frz, keepE, D.fz, hci, hel, hll, D.closed, D.closedL, D.er, D.erL]
end Go.Proofs.Ytofnggfpegcllaa
end
section
set_option maxRecDepth 100000
set_option linter.unusedSimpArgs false
set_option linter.unusedVariables false
namespace Go.Proofs.Ytofnggfpegcllaa
open Go GoV Go.RowKit
section
variable {P : Mod} {dst : Dst} {rq : List (RO × Bool)} {K : St → Prop} {s : St}
end
theorem few_p (l : List Rp) : Pur M 11 [rpsD l] (.bool (few13 l 40)) := by
  have c1 := few13_p l 40 (by omega)
  have hcl := closedL_R l
  have her := erL_R l
  refine ok11 rfl ?_
  rw [i11]
  unfold c11
  repeat' (first
    | with_reducible first | apply swp_seq | apply swp_reg | apply swp_regD | apply swp_block | apply swp_exit | apply swp_ret | apply swp_skip | apply swp_cd
    | simp only [go_sem, seval, P11, q11]
    | simp (disch := omega) only [w64, w32, wu8, wu16, wu32, wu64]
    | ((with_reducible refine o_call (c1) ?he ?hc ?_); (case he | hc => first | rfl | (simp [D.erL, D.er, D.closedL, D.closed, hcl, her]; done)))
    | with_reducible first | apply cd_dec | apply cd_eq | apply cd_ne | apply cd_split
    | ((with_reducible refine And.intro ?hw ?_); (case hw => first | omega | rfl | exact ⟨_, _, rfl⟩ | assumption | (simp only [lN, hcl, her] <;> omega)))
    | with_reducible intro _)
  all_goals first | omega | simp [D.closed, D.er]
theorem few_small {l : List Rp} (h : few13 l 40 = true) : l.length ≤ 40 ∧ Small l := by
  unfold few13 at h
  simp only [Bool.and_eq_true, decide_eq_true_eq] at h
  refine ⟨h.1, fun r hr e he => ?_⟩
  have := List.all_eq_true.1 h.2 r hr
  unfold few9 at this
  simp only [Bool.and_eq_true] at this
  exact List.all_eq_true.1 this.2 e he
def pick (l : List Rp) (C : List Nat) : List Rp := C.map fun i => l.getD i default
end Go.Proofs.Ytofnggfpegcllaa
end
section
set_option maxRecDepth 100000
set_option linter.unusedSimpArgs false
set_option linter.unusedVariables false
namespace Go.Proofs.Ytofnggfpegcllaa
open Go GoV Go.RowKit
theorem comps_mem {L : List Nat} {i : Nat} (hi : i < (roots L).length) (hL : Lo L) : (∀ x ∈ (compsL L).getD i [], x < L.length) ∧ ((compsL L).getD i []).length ≤ L.length := by
  rw [cno_app hL hi]
  refine ⟨fun x hx => (mem_mem.1 hx).1, ?_⟩
  unfold mem
  refine Nat.le_trans (List.length_filter_le _ _) ?_
  simp
end Go.Proofs.Ytofnggfpegcllaa
end
section
set_option maxRecDepth 100000
set_option linter.unusedSimpArgs false
set_option linter.unusedVariables false
namespace Go.Proofs.Ytofnggfpegcllaa
open Go GoV Go.RowKit
end Go.Proofs.Ytofnggfpegcllaa
end
section
set_option maxRecDepth 100000
set_option linter.unusedSimpArgs false
set_option linter.unusedVariables false
namespace Go.Proofs.Ytofnggfpegcllaa
open Go GoV Go.RowKit
theorem opens_iv {w : World} : ∀ n, Opens Try.prog w n 48 (fun i : Iv => [.int .i64 i.low, .int .i64 i.high]) (fun _ => True) := by
  refine opens_all fun n => ?_
  have hF : OpensF Try.prog w n [⟨"Low", 3, 0, false, "", "", 0⟩, ⟨"High", 3, 1, false, "", "", 8⟩] 0 _ _ :=
    opensF_cons (c := 1) rfl (by kernel_rfl) (opens_i64 Try.underlying3) (opensF_cons (c := 1) rfl (by kernel_rfl) (opens_i64 Try.underlying3) opensF_nil)
  exact (opens_struct Try.underlying48 (by kernel_rfl) hF).imp (fun a => ⟨a.1, a.2.1⟩) (fun a _ => by simp) (fun a h => trivial)
theorem opens_use {w : World} : ∀ n, Opens Try.prog w n 50 (fun u : Iv × Iv × Iv => [.int .i64 u.1.low, .int .i64 u.1.high, .int .i64 u.2.1.low, .int .i64 u.2.1.high, .int .i64 u.2.2.low, .int .i64 u.2.2.high]) (fun _ => True) := by
  refine opens_all fun n => ?_
  have hF : OpensF Try.prog w n [⟨"Km", 48, 0, false, "", "", 0⟩, ⟨"Cycles", 48, 2, false, "", "", 16⟩, ⟨"Load", 48, 4, false, "", "", 32⟩] 0 _ _ :=
    opensF_cons (c := 2) rfl (by kernel_rfl) (opens_iv n) (opensF_cons (c := 2) rfl (by kernel_rfl) (opens_iv n) (opensF_cons (c := 2) rfl (by kernel_rfl) (opens_iv n) opensF_nil))
  exact (opens_struct Try.underlying50 (by kernel_rfl) hF).imp (fun a => (a.1, a.2.1, a.2.2.1)) (fun a _ => by simp) (fun a h => trivial)
theorem opens_ev {w : World} : ∀ n, Opens Try.prog w n 52 Ev.cells (fun _ => True) := by
  refine opens_all fun n => ?_
  have hF : OpensF Try.prog w n [⟨"Op", 3, 0, false, "", "", 0⟩, ⟨"Day", 3, 1, false, "", "", 8⟩, ⟨"Part", 9, 2, false, "", "", 16⟩, ⟨"Kind", 9, 3, false, "", "", 32⟩, ⟨"Into", 9, 4, false, "", "", 48⟩, ⟨"Slot", 9, 5, false, "", "", 64⟩, ⟨"Key", 9, 6, false, "", "", 80⟩, ⟨"Value", 9, 7, false, "", "", 96⟩, ⟨"Use", 50, 8, false, "", "", 112⟩] 0 _ _ :=
    opensF_cons (c := 1) rfl (by kernel_rfl) (opens_i64 Try.underlying3) (opensF_cons (c := 1) rfl (by kernel_rfl) (opens_i64 Try.underlying3) (opensF_cons (c := 1) rfl (by kernel_rfl) (opens_str Try.underlying9) (opensF_cons (c := 1) rfl (by kernel_rfl) (opens_str Try.underlying9)
      (opensF_cons (c := 1) rfl (by kernel_rfl) (opens_str Try.underlying9) (opensF_cons (c := 1) rfl (by kernel_rfl) (opens_str Try.underlying9) (opensF_cons (c := 1) rfl (by kernel_rfl) (opens_str Try.underlying9) (opensF_cons (c := 1) rfl (by kernel_rfl) (opens_str Try.underlying9)
      (opensF_cons (c := 6) rfl (by kernel_rfl) (opens_use n) opensF_nil))))))))
  exact (opens_struct Try.underlying52 (by kernel_rfl) hF).imp (fun a => ⟨a.1, a.2.1, a.2.2.1, a.2.2.2.1, a.2.2.2.2.1, a.2.2.2.2.2.1, a.2.2.2.2.2.2.1, a.2.2.2.2.2.2.2.1, a.2.2.2.2.2.2.2.2.1.1, a.2.2.2.2.2.2.2.2.1.2.1, a.2.2.2.2.2.2.2.2.1.2.2⟩) (fun a _ => by simp [Ev.cells]) (fun a h => trivial)
theorem opens_evs {w : World} : ∀ n, Opens Try.prog w n 38 (fun l : List Ev => [evsD l]) (fun _ => True) :=
  opens_all fun n => (opens_slice Try.underlying38 (show 0 < Try.prog.cellsOf 52 by rw [show Try.prog.cellsOf 52 = 14 by kernel_rfl]; omega) (opens_ev n)).imp id (fun a _ => rfl) (fun a h => trivial)
@[reducible] def Rp.cells (r : Rp) : List D := [.slice (r.opts.map evD) .no, .bool r.doubt]
theorem opens_rp {w : World} : ∀ n, Opens Try.prog w n 40 Rp.cells (fun _ => True) := by
  refine opens_all fun n => ?_
  have hF : OpensF Try.prog w n [⟨"Options", 38, 0, false, "", "", 0⟩, ⟨"Doubtful", 4, 1, false, "", "", 24⟩] 0 _ _ :=
    opensF_cons (c := 1) rfl (by kernel_rfl) (opens_evs n) (opensF_cons (c := 1) rfl (by kernel_rfl) (opens_bool Try.underlying4) opensF_nil)
  exact (opens_struct Try.underlying40 (by kernel_rfl) hF).imp (fun a => ⟨a.1, a.2.1⟩) (fun a _ => by simp [Rp.cells]) (fun a h => trivial)
theorem opens_rps {w : World} : ∀ n, Opens Try.prog w n 22 (fun l : List Rp => [rpsD l]) (fun _ => True) :=
  opens_all fun n => (opens_slice Try.underlying22 (show 0 < Try.prog.cellsOf 40 by rw [show Try.prog.cellsOf 40 = 2 by kernel_rfl]; omega) (opens_rp n)).imp id (fun a _ => rfl) (fun a h => trivial)
end Go.Proofs.Ytofnggfpegcllaa
end
section
set_option maxRecDepth 100000
set_option linter.unusedSimpArgs false
set_option linter.unusedVariables false
namespace Go.Proofs.Ytofnggfpegcllaa
open Go GoV Go.RowKit
def boolsD (B : List Bool) : List D := B.map .bool
theorem boolsD_len (B : List Bool) : (boolsD B).length = B.length := by simp [boolsD]
theorem boolsD_get {B : List Bool} {k : Nat} (h : k < B.length) : (boolsD B).getD k .undef = .bool (B.getD k false) := by simp [boolsD, List.getD, h]
theorem boolsD_set (B : List Bool) (k : Nat) (v w : Bool) : (boolsD (B.set k v)).set k (.bool w) = boolsD (B.set k w) := by simp [boolsD, List.map_set]
theorem bset_get {B : List Bool} {k : Nat} (h : k < B.length) (v : Bool) : (boolsD (B.set k v)).getD k .undef = .bool v := by simp [boolsD, List.getD, h]
theorem bset_self {B : List Bool} {k : Nat} (h : k < B.length) : B.set k (B.getD k false) = B := by
  have : B.getD k false = B[k] := by simp [List.getD, h]
  rw [this]; exact List.set_getElem_self h
theorem zeros_bools : ∀ n : Nat, zeros [.bool false] n = boolsD (List.replicate n false)
  | 0 => rfl
  | n + 1 => by
    have := zeros_bools n
    simp only [zeros, List.replicate_succ, boolsD, List.map_cons, List.cons_append, List.nil_append] at this ⊢
    rw [this]
def entB (H : List Nm) : List (D × D × Nat) := entG D.str (fun _ => .bool true) H 0
theorem entB_ok (H : List Nm) : ((entB H).all fun e => keyOk .str e.1) = true := entG_ok keyStr _ _
theorem nodup_addS {H : List Nm} (h : H.Nodup) (s : Nm) : (addS H s).Nodup := by
  unfold addS
  split
  · exact h
  · rename_i hc
    rw [List.contains_iff_mem] at hc
    exact List.nodup_append.2 ⟨h, by simp, fun a ha b hb => by simp at hb; subst hb; exact fun q => hc (q ▸ ha)⟩
theorem nodup_addAll : ∀ {N H : List Nm}, H.Nodup → (addAll H N).Nodup
  | [], H, h => h
  | s :: N, H, h => nodup_addAll (N := N) (nodup_addS h s)
theorem entB_put {H : List Nm} (hH : H.Nodup) (s : Nm) : putM (entB H) H.length (.str s) (.bool true) = .map (entB (addS H s)) (addS H s).length := by
  unfold addS
  by_cases h : s ∈ H
  · rw [if_pos (by rw [List.contains_iff_mem]; exact h)]
    have := entG_put (vf := fun _ => .bool true) keyStr (.bool true) h hH
    have hu : upd (fun _ : Nm => D.bool true) s (.bool true) = fun _ => .bool true := by funext m; unfold upd; split <;> rfl
    rw [hu] at this
    exact this
  · rw [if_neg (by rw [List.contains_iff_mem]; exact h)]
    have := entG_new (vf := fun _ => .bool true) keyStr (.bool true) h
    have hu : upd (fun _ : Nm => D.bool true) s (.bool true) = fun _ => .bool true := by funext m; unfold upd; split <;> rfl
    rw [hu] at this
    rw [List.length_append]
    exact this
theorem entB_find {H : List Nm} (s : Nm) : (H.contains s = false ∧ findM (.str s) (entB H) 0 = none) ∨ (H.contains s = true ∧ ∃ j, findM (.str s) (entB H) 0 = some (j, .bool true)) := by
  by_cases h : s ∈ H
  · exact .inr ⟨by rw [List.contains_iff_mem]; exact h, entG_some (vf := fun _ => .bool true) keyStr h⟩
  · refine .inl ⟨?_, entG_none keyStr h⟩
    cases e : H.contains s with
    | false => rfl
    | true => rw [List.contains_iff_mem] at e; exact absurd e h
theorem rows_nodup (N : Nat → List Nm) : ∀ (m : Nat) (st : List Bool × List Nm), st.2.Nodup → (roundP N st m).2.Nodup
  | 0, st, h => h
  | m + 1, st, h => by
    unfold roundP
    rw [List.range_succ, List.foldl_append]
    have := rows_nodup N m st h
    unfold roundP at this
    simp only [List.foldl_cons, List.foldl_nil]
    unfold kStep
    split
    · exact nodup_addAll this
    · exact this
theorem rounds_nodup (N : Nat → List Nm) (n : Nat) : ∀ m, (roundsP N n m).2.Nodup
  | 0 => List.nodup_nil
  | m + 1 => rows_nodup N n _ (rounds_nodup N n m)
theorem round_succ (N : Nat → List Nm) (st : List Bool × List Nm) (k : Nat) : roundP N st (k + 1) = kStep N (roundP N st k) k := by
  unfold roundP; rw [List.range_succ, List.foldl_append]; rfl
theorem addAll_snoc (H N : List Nm) (s : Nm) : addAll H (N ++ [s]) = addS (addAll H N) s := by unfold addAll; rw [List.foldl_append]; rfl
@[reducible] noncomputable def connOne : RC := (.seq (.reg r5_10) (.seq (.reg r5_11) (.seq (.seq (.reg r5_12) (.block 2 (.loop (.seq (.seq (.reg r5_13) (.cond (.var 17) .skip (.exit 2))) (.seq (.block 3 (.seq (.reg r5_14) (.block 4 (.loop (.seq (.seq (.reg r5_15) (.cond (.var 18) .skip (.exit 4))) (.seq (.block 5 (.seq (.reg r5_16) (.seq (.seq (.reg r5_17) (.block 6 (.loop (.seq (.seq (.reg r5_18) (.cond (.var 19) .skip (.exit 6))) (.seq (.block 7 (.reg r5_19)) (.reg r5_20)))))) (.seq (.reg r5_21) (.cond (.var 20) (.seq (.reg r5_22) (.seq (.reg r5_23) (.block 8 (.loop (.seq (.seq (.reg r5_24) (.cond (.var 21) .skip (.exit 8))) (.seq (.block 9 (.reg r5_25)) (.reg r5_26))))))) .skip))))) (.reg r5_27))))))) (.reg r5_28)))))) (.seq (.reg r5_29) (.block 10 (.loop (.seq (.seq (.reg r5_30) (.cond (.var 22) .skip (.exit 10))) (.seq (.block 11 (.seq (.reg r5_31) (.cond (.var 23) (.seq (.reg r5_32) .ret) .skip))) (.reg r5_33)))))))))
set_option maxHeartbeats 4000000 in
theorem conn_one (l : List Rp) (hs : Small l) (h40 : l.length ≤ 40) (R : List (List Nm)) (hnm : ∀ i (h : i < l.length), R.getD i [] = namesR l[i]) (L : List Nat) (C : List Nat) (i : Nat) (hg : (compsD (compsL L)).getD i .undef = .slice (ints C) .no) (hiA : i < (compsD (compsL L)).length) (hi40 : i ≤ 40)
    (m1 : ∀ x ∈ C, x < l.length) (m2 : C.length ≤ 40) (NN : Nat → List Nm) (hNN : ∀ k, NN k = R.getD (C.getD k 0) []) (hcx : ∀ k, k < C.length → (roundsP NN C.length C.length).1.getD k false = true)
    (Q : Ex → St → Prop) (hQ : ∀ HH BB, Q .normal (⟨[rpsD l, .undef, .bool true, .slice (compsD (compsL L)) .no, .undef, .int .i64 i, .undef, .sl 1 1 0 C.length C.length, .undef, .undef, .undef, .undef, .undef, .int .i64 (C.length : Nat), .undef, .undef, .undef, .undef, .undef, .undef, .undef, .undef, .bool false, .undef], [], ⟨[.map (entB HH) HH.length, .cells (boolsD BB)], []⟩⟩)) :
    SWp C5 connOne Q (⟨[rpsD l, .undef, .bool true, .slice (compsD (compsL L)) .no, .undef, .int .i64 i, .undef, .undef, .undef, .undef, .undef, .undef, .undef, .undef, .undef, .undef, .bool true, .undef, .undef, .undef, .undef, .undef, .undef, .undef], [], ⟨[], []⟩⟩) := by
  have hlr : (l.map rpD).length = l.length := by simp
  have hzb := zeros_bools C.length
  have lc := ints_len C
  have hrd := rd_rounds NN C.length
  have hnd := rounds_nodup NN C.length
  have hR0 : roundsP NN C.length 0 = (List.replicate C.length false, []) := rfl
  have hRs : ∀ m, roundsP NN C.length (m + 1) = roundP NN (roundsP NN C.length m) C.length := fun m => rfl
  have hNk : ∀ k (h : k < C.length), NN k = namesR (l[C[k]]'(m1 _ (List.getElem_mem h))) := fun k h => by
    have hx : C.getD k 0 = C[k] := by simp [List.getD, h]
    rw [hNN, hx, hnm]
  generalize hRP : roundsP NN C.length = RP at *
  unfold connOne
  repeat' (first
    | with_reducible first | apply swp_seq | apply swp_reg | apply swp_regD | apply swp_block | apply swp_exit | apply swp_ret | apply swp_skip | apply swp_cd
    | simp only [go_sem, seval, P5, q5, hg, lc, hzb, o_newM]
    | simp (disch := omega) only [w64, w32, wu8, wu16, wu32, wu64]
    | ((with_reducible apply s_mks); (case h0 | h1 | h2 => first | rfl | assumption | omega | ((first | refine ⟨?_, ?_⟩ | skip) <;> first | omega | (simp only [lN, hg, lc] <;> omega)) | (simp [elemsK, D.isVal, D.cells, D.closedL, D.closed, hg, lc]; first | done | omega)))
    | ((with_reducible apply s_mpu); (case h1 | hk => rfl); (case ha | hp => first | rfl | assumption | omega | ((first | refine ⟨?_, ?_⟩ | skip) <;> first | omega | (simp only [lN, hg, lc] <;> omega)) | (simp [elemsK, D.isVal, D.cells, D.closedL, D.closed, hg, lc]; first | done | omega)))
    | ((with_reducible apply s_lkpS); (case h1 | hk => rfl); (case ha | hf => first | rfl | assumption | omega | ((first | refine ⟨?_, ?_⟩ | skip) <;> first | omega | (simp only [lN, hg, lc] <;> omega)) | (simp [elemsK, D.isVal, D.cells, D.closedL, D.closed, hg, lc]; first | done | omega)))
    | ((with_reducible apply s_lkpN); (case h1 | hk => rfl); (case hf | ha => first | rfl | assumption | omega | ((first | refine ⟨?_, ?_⟩ | skip) <;> first | omega | (simp only [lN, hg, lc] <;> omega)) | (simp [elemsK, D.isVal, D.cells, D.closedL, D.closed, hg, lc]; first | done | omega)))
    | with_reducible first | apply cd_dec | apply cd_eq | apply cd_ne | apply cd_split | apply gd_dec | apply gd_eq | apply gd_ne | apply gd_split
    | ((with_reducible refine And.intro ?hw ?_); (case hw => first | omega | rfl | exact ⟨_, _, rfl⟩ | assumption | (simp only [lN, hg, lc] <;> omega)))
    | with_reducible intro _)
  all_goals first | omega | skip
  refine swp_mono (Q := fun e s' => e = .exit 2 ∧ s'.keep [0, 2, 3, 5, 6, 7, 8] = ((fun m : Nat => ⟨[rpsD l, .undef, .bool true, .slice (compsD (compsL L)) .no, .undef, .int .i64 i, .mp 0, .sl 1 1 0 C.length C.length, .int .i64 m, .undef, .undef, .undef, .undef, .undef, .undef, .undef, .undef, .undef, .undef, .undef, .undef, .undef, .undef, .undef], [], ⟨[.map (entB (RP m).2) (RP m).2.length, .cells (boolsD (RP m).1)], []⟩⟩)) (C.length)) ?_ fun e s' hq => ?_
  · refine swp_fam [0, 2, 3, 5, 6, 7, 8] (fun m : Nat => ⟨[rpsD l, .undef, .bool true, .slice (compsD (compsL L)) .no, .undef, .int .i64 i, .mp 0, .sl 1 1 0 C.length C.length, .int .i64 m, .undef, .undef, .undef, .undef, .undef, .undef, .undef, .undef, .undef, .undef, .undef, .undef, .undef, .undef, .undef], [], ⟨[.map (entB (RP m).2) (RP m).2.length, .cells (boolsD (RP m).1)], []⟩⟩) (fun m => m ≤ C.length) (fun m => C.length - m) 0 (by omega) ?_ ?_
    · simp [keepE, St.keep, hR0, entB, entG]
    · intro m hm
      by_cases hml : m < C.length
      · have t1 : decide (((m : Nat) : Int) < C.length) = true := by simp; omega
        have hrdm := hrd m
        have hndm := hnd m
        have hRsm := hRs m
        generalize RP m = st0 at *
        repeat' (first
    | with_reducible first | apply swp_seq | apply swp_reg | apply swp_regD | apply swp_block | apply swp_exit | apply swp_ret | apply swp_skip | apply swp_cd
    | simp only [go_sem, seval, P5, q5, hg, t1, lc, o_newM]
    | simp (disch := omega) only [w64, w32, wu8, wu16, wu32, wu64]
    | ((with_reducible apply s_mks); (case h0 | h1 | h2 => first | rfl | assumption | omega | ((first | refine ⟨?_, ?_⟩ | skip) <;> first | omega | (simp only [lN, hg, lc] <;> omega)) | (simp [elemsK, D.isVal, D.cells, D.closedL, D.closed, hg, lc]; first | done | omega)))
    | ((with_reducible apply s_mpu); (case h1 | hk => rfl); (case ha | hp => first | rfl | assumption | omega | ((first | refine ⟨?_, ?_⟩ | skip) <;> first | omega | (simp only [lN, hg, lc] <;> omega)) | (simp [elemsK, D.isVal, D.cells, D.closedL, D.closed, hg, lc]; first | done | omega)))
    | ((with_reducible apply s_lkpS); (case h1 | hk => rfl); (case ha | hf => first | rfl | assumption | omega | ((first | refine ⟨?_, ?_⟩ | skip) <;> first | omega | (simp only [lN, hg, lc] <;> omega)) | (simp [elemsK, D.isVal, D.cells, D.closedL, D.closed, hg, lc]; first | done | omega)))
    | ((with_reducible apply s_lkpN); (case h1 | hk => rfl); (case hf | ha => first | rfl | assumption | omega | ((first | refine ⟨?_, ?_⟩ | skip) <;> first | omega | (simp only [lN, hg, lc] <;> omega)) | (simp [elemsK, D.isVal, D.cells, D.closedL, D.closed, hg, lc]; first | done | omega)))
    | with_reducible first | apply cd_dec | apply cd_eq | apply cd_ne | apply cd_split | apply gd_dec | apply gd_eq | apply gd_ne | apply gd_split
    | ((with_reducible refine And.intro ?hw ?_); (case hw => first | omega | rfl | exact ⟨_, _, rfl⟩ | assumption | (simp only [lN, hg, lc] <;> omega)))
    | with_reducible intro _)
        all_goals first | omega | skip
        refine swp_mono (Q := fun e s' => e = .exit 4 ∧ s'.keep [0, 2, 3, 5, 6, 7, 8, 9] = ((fun k : Nat => ⟨[rpsD l, .undef, .bool true, .slice (compsD (compsL L)) .no, .undef, .int .i64 i, .mp 0, .sl 1 1 0 C.length C.length, .int .i64 m, .int .i64 k, .undef, .undef, .undef, .undef, .undef, .undef, .undef, .undef, .undef, .undef, .undef, .undef, .undef, .undef], [], ⟨[.map (entB (roundP NN st0 k).2) (roundP NN st0 k).2.length, .cells (boolsD (roundP NN st0 k).1)], []⟩⟩)) (C.length)) ?_ fun e s' hq => ?_
        · refine swp_fam [0, 2, 3, 5, 6, 7, 8, 9] (fun k : Nat => ⟨[rpsD l, .undef, .bool true, .slice (compsD (compsL L)) .no, .undef, .int .i64 i, .mp 0, .sl 1 1 0 C.length C.length, .int .i64 m, .int .i64 k, .undef, .undef, .undef, .undef, .undef, .undef, .undef, .undef, .undef, .undef, .undef, .undef, .undef, .undef], [], ⟨[.map (entB (roundP NN st0 k).2) (roundP NN st0 k).2.length, .cells (boolsD (roundP NN st0 k).1)], []⟩⟩) (fun k => k ≤ C.length) (fun k => C.length - k) 0 (by omega) ?_ ?_
          · simp [keepE, St.keep, roundP]
          · intro k hk
            by_cases hkl : k < C.length
            · have t2 : decide (((k : Nat) : Int) < C.length) = true := by simp; omega
              have gk := ints_getD hkl
              have hx := m1 _ (List.getElem_mem hkl)
              have hgx := rp_get hx
              have n1 := names_p l[C[k]] (hs _ (List.getElem_mem _))
              rw [show rpD l[C[k]] = .agg [.slice (l[C[k]].opts.map evD) .no, .bool l[C[k]].doubt] from rfl] at n1
              have hn8 := namesR_len (r := l[C[k]])
              have hNNk := hNk k hkl
              have hks := round_succ NN st0 k
              have hBl := (rows_mono k st0 (by omega) hrdm).1.len
              have hHn := rows_nodup NN k st0 hndm
              unfold kStep at hks
              rw [hNNk] at hks
              generalize namesR l[C[k]] = N at *
              generalize hst : roundP NN st0 k = st at *
              obtain ⟨B, HH⟩ := st
              simp only at hBl hHn hks
              have lB : ∀ v, (boolsD (B.set k v)).length = C.length := fun v => by rw [boolsD_len, List.length_set]; exact hBl
              have gB := fun v => bset_get (B := B) (k := k) (by omega) v
              have sB := boolsD_set B k
              have ln := strs_len N
              have hok := entB_ok HH
              have hself := bset_self (B := B) (k := k) (by omega)
              repeat' (first
    | with_reducible first | apply swp_seq | apply swp_reg | apply swp_regD | apply swp_block | apply swp_exit | apply swp_ret | apply swp_skip | apply swp_cd
    | simp only [go_sem, seval, P5, q5, hg, t2, lc, hlr, gk, hgx, o_newM]
    | simp (disch := omega) only [w64, w32, wu8, wu16, wu32, wu64]
    | ((with_reducible refine o_call (n1) ?he ?hc ?_); (case he | hc => first | rfl | (simp [D.erL, D.er, D.closedL, D.closed, hg, lc, hlr, gk, hgx]; done)))
    | ((with_reducible apply s_mks); (case h0 | h1 | h2 => first | rfl | assumption | omega | ((first | refine ⟨?_, ?_⟩ | skip) <;> first | omega | (simp only [lN, hg, lc, hlr, gk, hgx] <;> omega)) | (simp [elemsK, D.isVal, D.cells, D.closedL, D.closed, hg, lc, hlr, gk, hgx]; first | done | omega)))
    | ((with_reducible apply s_mpu); (case h1 | hk => rfl); (case ha | hp => first | rfl | assumption | omega | ((first | refine ⟨?_, ?_⟩ | skip) <;> first | omega | (simp only [lN, hg, lc, hlr, gk, hgx] <;> omega)) | (simp [elemsK, D.isVal, D.cells, D.closedL, D.closed, hg, lc, hlr, gk, hgx]; first | done | omega)))
    | ((with_reducible apply s_lkpS); (case h1 | hk => rfl); (case ha | hf => first | rfl | assumption | omega | ((first | refine ⟨?_, ?_⟩ | skip) <;> first | omega | (simp only [lN, hg, lc, hlr, gk, hgx] <;> omega)) | (simp [elemsK, D.isVal, D.cells, D.closedL, D.closed, hg, lc, hlr, gk, hgx]; first | done | omega)))
    | ((with_reducible apply s_lkpN); (case h1 | hk => rfl); (case hf | ha => first | rfl | assumption | omega | ((first | refine ⟨?_, ?_⟩ | skip) <;> first | omega | (simp only [lN, hg, lc, hlr, gk, hgx] <;> omega)) | (simp [elemsK, D.isVal, D.cells, D.closedL, D.closed, hg, lc, hlr, gk, hgx]; first | done | omega)))
    | with_reducible first | apply cd_dec | apply cd_eq | apply cd_ne | apply cd_split | apply gd_dec | apply gd_eq | apply gd_ne | apply gd_split
    | ((with_reducible refine And.intro ?hw ?_); (case hw => first | omega | rfl | exact ⟨_, _, rfl⟩ | assumption | (simp only [lN, hg, lc, hlr, gk, hgx] <;> omega)))
    | with_reducible intro _)
              all_goals first | omega | skip
              refine swp_mono (Q := fun e s' => e = .exit 6 ∧ s'.keep [0, 2, 3, 5, 6, 7, 8, 9, 10, 11] = ((fun j : Nat => ⟨[rpsD l, .undef, .bool true, .slice (compsD (compsL L)) .no, .undef, .int .i64 i, .mp 0, .sl 1 1 0 C.length C.length, .int .i64 m, .int .i64 k, .slice (strs N) .no, .int .i64 j, .undef, .undef, .undef, .undef, .undef, .undef, .undef, .undef, .undef, .undef, .undef, .undef], [], ⟨[.map (entB HH) HH.length, .cells (boolsD (B.set k (B.getD k false || (N.take j).any fun s => HH.contains s)))], []⟩⟩)) (N.length)) ?_ fun e s' hq => ?_
              · refine swp_fam [0, 2, 3, 5, 6, 7, 8, 9, 10, 11] (fun j : Nat => ⟨[rpsD l, .undef, .bool true, .slice (compsD (compsL L)) .no, .undef, .int .i64 i, .mp 0, .sl 1 1 0 C.length C.length, .int .i64 m, .int .i64 k, .slice (strs N) .no, .int .i64 j, .undef, .undef, .undef, .undef, .undef, .undef, .undef, .undef, .undef, .undef, .undef, .undef], [], ⟨[.map (entB HH) HH.length, .cells (boolsD (B.set k (B.getD k false || (N.take j).any fun s => HH.contains s)))], []⟩⟩) (fun j => j ≤ N.length) (fun j => N.length - j) 0 (by omega) ?_ ?_
                · simp only [List.take_zero, List.any_nil, Bool.or_false, hself]
                  simp [keepE, St.keep]
                · intro j hj
                  by_cases hjl : j < N.length
                  · have t3 : decide (((j : Nat) : Int) < N.length) = true := by simp; omega
                    have gj := strs_get hjl
                    have e1 : (N.take (j + 1)).any (fun s => HH.contains s) = ((N.take j).any (fun s => HH.contains s) || HH.contains N[j]) := by rw [List.take_succ_eq_append_getElem hjl, List.any_append]; simp
                    have e2 : (B.getD k false || (N.take (j + 1)).any fun s => HH.contains s) = ((B.getD k false || (N.take j).any fun s => HH.contains s) || HH.contains N[j]) := by rw [e1, Bool.or_assoc]
                    clear e1
                    generalize (B.getD k false || (N.take j).any fun s => HH.contains s) = v at *
                    cases v
                    · rcases entB_find (H := HH) N[j] with ⟨h0, hf⟩ | ⟨h0, q, hf⟩
                      · rw [h0] at e2
                        generalize entB HH = E at *
                        repeat' (first
    | with_reducible first | apply swp_seq | apply swp_reg | apply swp_regD | apply swp_block | apply swp_exit | apply swp_ret | apply swp_skip | apply swp_cd
    | simp only [go_sem, seval, P5, q5, ln, gj, t3, gB, sB, Nat.mul_one, Nat.zero_add, o_newM]
    | simp (disch := omega) only [w64, w32, wu8, wu16, wu32, wu64]
    | ((with_reducible apply s_mks); (case h0 | h1 | h2 => first | rfl | assumption | omega | ((first | refine ⟨?_, ?_⟩ | skip) <;> first | omega | (simp only [lN, ln, gj, lB] <;> omega)) | (simp [elemsK, D.isVal, D.cells, D.closedL, D.closed, ln, gj, lB]; first | done | omega)))
    | ((with_reducible apply s_mpu); (case h1 | hk => rfl); (case ha | hp => first | rfl | assumption | omega | ((first | refine ⟨?_, ?_⟩ | skip) <;> first | omega | (simp only [lN, ln, gj, lB] <;> omega)) | (simp [elemsK, D.isVal, D.cells, D.closedL, D.closed, ln, gj, lB]; first | done | omega)))
    | ((with_reducible apply s_lkpS); (case h1 | hk => rfl); (case ha | hf => first | rfl | assumption | omega | ((first | refine ⟨?_, ?_⟩ | skip) <;> first | omega | (simp only [lN, ln, gj, lB] <;> omega)) | (simp [elemsK, D.isVal, D.cells, D.closedL, D.closed, ln, gj, lB]; first | done | omega)))
    | ((with_reducible apply s_lkpN); (case h1 | hk => rfl); (case hf | ha => first | rfl | assumption | omega | ((first | refine ⟨?_, ?_⟩ | skip) <;> first | omega | (simp only [lN, ln, gj, lB] <;> omega)) | (simp [elemsK, D.isVal, D.cells, D.closedL, D.closed, ln, gj, lB]; first | done | omega)))
    | with_reducible first | apply cd_dec | apply cd_eq | apply cd_ne | apply cd_split | apply gd_dec | apply gd_eq | apply gd_ne | apply gd_split
    | ((with_reducible refine And.intro ?hw ?_); (case hw => first | omega | rfl | exact ⟨_, _, rfl⟩ | assumption | (simp only [lN, ln, gj, lB] <;> omega)))
    | with_reducible intro _)
                        all_goals first | omega | skip
                        refine ⟨j + 1, by omega, by omega, ?_⟩
                        simp only [e2]
                        simp [keepE, St.keep]
                      · rw [h0] at e2
                        generalize entB HH = E at *
                        repeat' (first
    | with_reducible first | apply swp_seq | apply swp_reg | apply swp_regD | apply swp_block | apply swp_exit | apply swp_ret | apply swp_skip | apply swp_cd
    | simp only [go_sem, seval, P5, q5, ln, gj, t3, gB, sB, Nat.mul_one, Nat.zero_add, o_newM]
    | simp (disch := omega) only [w64, w32, wu8, wu16, wu32, wu64]
    | ((with_reducible apply s_mks); (case h0 | h1 | h2 => first | rfl | assumption | omega | ((first | refine ⟨?_, ?_⟩ | skip) <;> first | omega | (simp only [lN, ln, gj, lB] <;> omega)) | (simp [elemsK, D.isVal, D.cells, D.closedL, D.closed, ln, gj, lB]; first | done | omega)))
    | ((with_reducible apply s_mpu); (case h1 | hk => rfl); (case ha | hp => first | rfl | assumption | omega | ((first | refine ⟨?_, ?_⟩ | skip) <;> first | omega | (simp only [lN, ln, gj, lB] <;> omega)) | (simp [elemsK, D.isVal, D.cells, D.closedL, D.closed, ln, gj, lB]; first | done | omega)))
    | ((with_reducible apply s_lkpS); (case h1 | hk => rfl); (case ha | hf => first | rfl | assumption | omega | ((first | refine ⟨?_, ?_⟩ | skip) <;> first | omega | (simp only [lN, ln, gj, lB] <;> omega)) | (simp [elemsK, D.isVal, D.cells, D.closedL, D.closed, ln, gj, lB]; first | done | omega)))
    | ((with_reducible apply s_lkpN); (case h1 | hk => rfl); (case hf | ha => first | rfl | assumption | omega | ((first | refine ⟨?_, ?_⟩ | skip) <;> first | omega | (simp only [lN, ln, gj, lB] <;> omega)) | (simp [elemsK, D.isVal, D.cells, D.closedL, D.closed, ln, gj, lB]; first | done | omega)))
    | with_reducible first | apply cd_dec | apply cd_eq | apply cd_ne | apply cd_split | apply gd_dec | apply gd_eq | apply gd_ne | apply gd_split
    | ((with_reducible refine And.intro ?hw ?_); (case hw => first | omega | rfl | exact ⟨_, _, rfl⟩ | assumption | (simp only [lN, ln, gj, lB] <;> omega)))
    | with_reducible intro _)
                        all_goals first | omega | skip
                        refine ⟨j + 1, by omega, by omega, ?_⟩
                        simp only [e2]
                        simp [keepE, St.keep]
                    · repeat' (first
    | with_reducible first | apply swp_seq | apply swp_reg | apply swp_regD | apply swp_block | apply swp_exit | apply swp_ret | apply swp_skip | apply swp_cd
    | simp only [go_sem, seval, P5, q5, ln, gj, t3, gB, sB, Nat.mul_one, Nat.zero_add, o_newM]
    | simp (disch := omega) only [w64, w32, wu8, wu16, wu32, wu64]
    | ((with_reducible apply s_mks); (case h0 | h1 | h2 => first | rfl | assumption | omega | ((first | refine ⟨?_, ?_⟩ | skip) <;> first | omega | (simp only [lN, ln, gj, lB] <;> omega)) | (simp [elemsK, D.isVal, D.cells, D.closedL, D.closed, ln, gj, lB]; first | done | omega)))
    | ((with_reducible apply s_mpu); (case h1 | hk => rfl); (case ha | hp => first | rfl | assumption | omega | ((first | refine ⟨?_, ?_⟩ | skip) <;> first | omega | (simp only [lN, ln, gj, lB] <;> omega)) | (simp [elemsK, D.isVal, D.cells, D.closedL, D.closed, ln, gj, lB]; first | done | omega)))
    | ((with_reducible apply s_lkpS); (case h1 | hk => rfl); (case ha | hf => first | rfl | assumption | omega | ((first | refine ⟨?_, ?_⟩ | skip) <;> first | omega | (simp only [lN, ln, gj, lB] <;> omega)) | (simp [elemsK, D.isVal, D.cells, D.closedL, D.closed, ln, gj, lB]; first | done | omega)))
    | ((with_reducible apply s_lkpN); (case h1 | hk => rfl); (case hf | ha => first | rfl | assumption | omega | ((first | refine ⟨?_, ?_⟩ | skip) <;> first | omega | (simp only [lN, ln, gj, lB] <;> omega)) | (simp [elemsK, D.isVal, D.cells, D.closedL, D.closed, ln, gj, lB]; first | done | omega)))
    | with_reducible first | apply cd_dec | apply cd_eq | apply cd_ne | apply cd_split | apply gd_dec | apply gd_eq | apply gd_ne | apply gd_split
    | ((with_reducible refine And.intro ?hw ?_); (case hw => first | omega | rfl | exact ⟨_, _, rfl⟩ | assumption | (simp only [lN, ln, gj, lB] <;> omega)))
    | with_reducible intro _)
                      all_goals first | omega | skip
                      refine ⟨j + 1, by omega, by omega, ?_⟩
                      simp only [e2]
                      simp [keepE, St.keep]
                  · have t3 : decide (((j : Nat) : Int) < N.length) = false := by simp; omega
                    have : j = N.length := by omega
                    subst this
                    repeat' (first
    | with_reducible first | apply swp_seq | apply swp_reg | apply swp_regD | apply swp_block | apply swp_exit | apply swp_ret | apply swp_skip | apply swp_cd
    | simp only [go_sem, seval, P5, q5, ln, t3, o_newM]
    | simp (disch := omega) only [w64, w32, wu8, wu16, wu32, wu64]
    | ((with_reducible apply s_mks); (case h0 | h1 | h2 => first | rfl | assumption | omega | ((first | refine ⟨?_, ?_⟩ | skip) <;> first | omega | (simp only [lN, ln] <;> omega)) | (simp [elemsK, D.isVal, D.cells, D.closedL, D.closed, ln]; first | done | omega)))
    | ((with_reducible apply s_mpu); (case h1 | hk => rfl); (case ha | hp => first | rfl | assumption | omega | ((first | refine ⟨?_, ?_⟩ | skip) <;> first | omega | (simp only [lN, ln] <;> omega)) | (simp [elemsK, D.isVal, D.cells, D.closedL, D.closed, ln]; first | done | omega)))
    | ((with_reducible apply s_lkpS); (case h1 | hk => rfl); (case ha | hf => first | rfl | assumption | omega | ((first | refine ⟨?_, ?_⟩ | skip) <;> first | omega | (simp only [lN, ln] <;> omega)) | (simp [elemsK, D.isVal, D.cells, D.closedL, D.closed, ln]; first | done | omega)))
    | ((with_reducible apply s_lkpN); (case h1 | hk => rfl); (case hf | ha => first | rfl | assumption | omega | ((first | refine ⟨?_, ?_⟩ | skip) <;> first | omega | (simp only [lN, ln] <;> omega)) | (simp [elemsK, D.isVal, D.cells, D.closedL, D.closed, ln]; first | done | omega)))
    | with_reducible first | apply cd_dec | apply cd_eq | apply cd_ne | apply cd_split | apply gd_dec | apply gd_eq | apply gd_ne | apply gd_split
    | ((with_reducible refine And.intro ?hw ?_); (case hw => first | omega | rfl | exact ⟨_, _, rfl⟩ | assumption | (simp only [lN, ln] <;> omega)))
    | with_reducible intro _)
                    all_goals first | omega | skip
                    all_goals simp [keepE, St.keep]
              · obtain ⟨rfl, hq⟩ := hq
                refine ⟨_, weak_keep [0, 2, 3, 5, 6, 7, 8, 9, 10, 11], ?_⟩
                rw [show ({ s' with env := keepE [0, 2, 3, 5, 6, 7, 8, 9, 10, 11] 0 s'.env } : St) = s'.keep [0, 2, 3, 5, 6, 7, 8, 9, 10, 11] from rfl, hq]
                simp only [List.take_length]
                have hcom : (B.getD k false || N.any fun s => HH.contains s) = (B.getD k false || com N HH) := rfl
                rw [hcom]
                generalize hv : (B.getD k false || com N HH) = v at *
                by_cases hc : (k == 0 || v) = true
                · rw [if_pos hc] at hks
                  have tk : (((k : Nat) : Int) == 0) = (k == 0) := by rw [Bool.eq_iff_iff, beq_iff_eq, beq_iff_eq]; omega
                  generalize hk0 : (k == 0) = kb at *
                  have fin : ∀ (Qz : Ex → St → Prop), True := fun _ => trivial
                  cases kb <;> cases v <;> first
                    | (exact absurd hc (by decide))
                    | skip
                  all_goals (
                    repeat' (first
    | with_reducible first | apply swp_seq | apply swp_reg | apply swp_regD | apply swp_block | apply swp_exit | apply swp_ret | apply swp_skip | apply swp_cd
    | simp only [go_sem, seval, P5, q5, tk, gB, sB, Nat.mul_one, Nat.zero_add, o_newM]
    | simp (disch := omega) only [w64, w32, wu8, wu16, wu32, wu64]
    | ((with_reducible apply s_mks); (case h0 | h1 | h2 => first | rfl | assumption | omega | ((first | refine ⟨?_, ?_⟩ | skip) <;> first | omega | (simp only [lN, lB] <;> omega)) | (simp [elemsK, D.isVal, D.cells, D.closedL, D.closed, lB]; first | done | omega)))
    | ((with_reducible apply s_mpu); (case h1 | hk => rfl); (case ha | hp => first | rfl | assumption | omega | ((first | refine ⟨?_, ?_⟩ | skip) <;> first | omega | (simp only [lN, lB] <;> omega)) | (simp [elemsK, D.isVal, D.cells, D.closedL, D.closed, lB]; first | done | omega)))
    | ((with_reducible apply s_lkpS); (case h1 | hk => rfl); (case ha | hf => first | rfl | assumption | omega | ((first | refine ⟨?_, ?_⟩ | skip) <;> first | omega | (simp only [lN, lB] <;> omega)) | (simp [elemsK, D.isVal, D.cells, D.closedL, D.closed, lB]; first | done | omega)))
    | ((with_reducible apply s_lkpN); (case h1 | hk => rfl); (case hf | ha => first | rfl | assumption | omega | ((first | refine ⟨?_, ?_⟩ | skip) <;> first | omega | (simp only [lN, lB] <;> omega)) | (simp [elemsK, D.isVal, D.cells, D.closedL, D.closed, lB]; first | done | omega)))
    | with_reducible first | apply cd_dec | apply cd_eq | apply cd_ne | apply cd_split | apply gd_dec | apply gd_eq | apply gd_ne | apply gd_split
    | ((with_reducible refine And.intro ?hw ?_); (case hw => first | omega | rfl | exact ⟨_, _, rfl⟩ | assumption | (simp only [lN, lB] <;> omega)))
    | with_reducible intro _)
                    all_goals first | omega | skip
                    refine swp_mono (Q := fun e s' => e = .exit 8 ∧ s'.keep [0, 2, 3, 5, 6, 7, 8, 9, 10, 12] = ((fun j : Nat => ⟨[rpsD l, .undef, .bool true, .slice (compsD (compsL L)) .no, .undef, .int .i64 i, .mp 0, .sl 1 1 0 C.length C.length, .int .i64 m, .int .i64 k, .slice (strs N) .no, .undef, .int .i64 j, .undef, .undef, .undef, .undef, .undef, .undef, .undef, .undef, .undef, .undef, .undef], [], ⟨[.map (entB (addAll HH (N.take j))) (addAll HH (N.take j)).length, .cells (boolsD (B.set k true))], []⟩⟩)) (N.length)) ?_ fun e s' hq => ?_
                    · refine swp_fam [0, 2, 3, 5, 6, 7, 8, 9, 10, 12] (fun j : Nat => ⟨[rpsD l, .undef, .bool true, .slice (compsD (compsL L)) .no, .undef, .int .i64 i, .mp 0, .sl 1 1 0 C.length C.length, .int .i64 m, .int .i64 k, .slice (strs N) .no, .undef, .int .i64 j, .undef, .undef, .undef, .undef, .undef, .undef, .undef, .undef, .undef, .undef, .undef], [], ⟨[.map (entB (addAll HH (N.take j))) (addAll HH (N.take j)).length, .cells (boolsD (B.set k true))], []⟩⟩) (fun j => j ≤ N.length) (fun j => N.length - j) 0 (by omega) ?_ ?_
                      · simp [keepE, St.keep, addAll]
                      · intro j hj
                        by_cases hjl : j < N.length
                        · have t3 : decide (((j : Nat) : Int) < N.length) = true := by simp; omega
                          have gj := strs_get hjl
                          have hp := entB_put (nodup_addAll (N := N.take j) hHn) N[j]
                          have hok2 := entB_ok (addAll HH (N.take j))
                          rw [← addAll_snoc, ← List.take_succ_eq_append_getElem hjl] at hp
                          repeat' (first
    | with_reducible first | apply swp_seq | apply swp_reg | apply swp_regD | apply swp_block | apply swp_exit | apply swp_ret | apply swp_skip | apply swp_cd
    | simp only [go_sem, seval, P5, q5, ln, gj, t3, o_newM]
    | simp (disch := omega) only [w64, w32, wu8, wu16, wu32, wu64]
    | ((with_reducible apply s_mks); (case h0 | h1 | h2 => first | rfl | assumption | omega | ((first | refine ⟨?_, ?_⟩ | skip) <;> first | omega | (simp only [lN, ln, gj] <;> omega)) | (simp [elemsK, D.isVal, D.cells, D.closedL, D.closed, ln, gj]; first | done | omega)))
    | ((with_reducible apply s_mpu); (case h1 | hk => rfl); (case ha | hp => first | rfl | assumption | omega | ((first | refine ⟨?_, ?_⟩ | skip) <;> first | omega | (simp only [lN, ln, gj] <;> omega)) | (simp [elemsK, D.isVal, D.cells, D.closedL, D.closed, ln, gj]; first | done | omega)))
    | ((with_reducible apply s_lkpS); (case h1 | hk => rfl); (case ha | hf => first | rfl | assumption | omega | ((first | refine ⟨?_, ?_⟩ | skip) <;> first | omega | (simp only [lN, ln, gj] <;> omega)) | (simp [elemsK, D.isVal, D.cells, D.closedL, D.closed, ln, gj]; first | done | omega)))
    | ((with_reducible apply s_lkpN); (case h1 | hk => rfl); (case hf | ha => first | rfl | assumption | omega | ((first | refine ⟨?_, ?_⟩ | skip) <;> first | omega | (simp only [lN, ln, gj] <;> omega)) | (simp [elemsK, D.isVal, D.cells, D.closedL, D.closed, ln, gj]; first | done | omega)))
    | with_reducible first | apply cd_dec | apply cd_eq | apply cd_ne | apply cd_split | apply gd_dec | apply gd_eq | apply gd_ne | apply gd_split
    | ((with_reducible refine And.intro ?hw ?_); (case hw => first | omega | rfl | exact ⟨_, _, rfl⟩ | assumption | (simp only [lN, ln, gj] <;> omega)))
    | with_reducible intro _)
                          all_goals first | omega | skip
                          refine ⟨j + 1, by omega, by omega, ?_⟩
                          simp [keepE, St.keep, hp]
                        · have t3 : decide (((j : Nat) : Int) < N.length) = false := by simp; omega
                          have : j = N.length := by omega
                          subst this
                          repeat' (first
    | with_reducible first | apply swp_seq | apply swp_reg | apply swp_regD | apply swp_block | apply swp_exit | apply swp_ret | apply swp_skip | apply swp_cd
    | simp only [go_sem, seval, P5, q5, ln, t3, o_newM]
    | simp (disch := omega) only [w64, w32, wu8, wu16, wu32, wu64]
    | ((with_reducible apply s_mks); (case h0 | h1 | h2 => first | rfl | assumption | omega | ((first | refine ⟨?_, ?_⟩ | skip) <;> first | omega | (simp only [lN, ln] <;> omega)) | (simp [elemsK, D.isVal, D.cells, D.closedL, D.closed, ln]; first | done | omega)))
    | ((with_reducible apply s_mpu); (case h1 | hk => rfl); (case ha | hp => first | rfl | assumption | omega | ((first | refine ⟨?_, ?_⟩ | skip) <;> first | omega | (simp only [lN, ln] <;> omega)) | (simp [elemsK, D.isVal, D.cells, D.closedL, D.closed, ln]; first | done | omega)))
    | ((with_reducible apply s_lkpS); (case h1 | hk => rfl); (case ha | hf => first | rfl | assumption | omega | ((first | refine ⟨?_, ?_⟩ | skip) <;> first | omega | (simp only [lN, ln] <;> omega)) | (simp [elemsK, D.isVal, D.cells, D.closedL, D.closed, ln]; first | done | omega)))
    | ((with_reducible apply s_lkpN); (case h1 | hk => rfl); (case hf | ha => first | rfl | assumption | omega | ((first | refine ⟨?_, ?_⟩ | skip) <;> first | omega | (simp only [lN, ln] <;> omega)) | (simp [elemsK, D.isVal, D.cells, D.closedL, D.closed, ln]; first | done | omega)))
    | with_reducible first | apply cd_dec | apply cd_eq | apply cd_ne | apply cd_split | apply gd_dec | apply gd_eq | apply gd_ne | apply gd_split
    | ((with_reducible refine And.intro ?hw ?_); (case hw => first | omega | rfl | exact ⟨_, _, rfl⟩ | assumption | (simp only [lN, ln] <;> omega)))
    | with_reducible intro _)
                          all_goals first | omega | skip
                          all_goals simp [keepE, St.keep]
                    · obtain ⟨rfl, hq⟩ := hq
                      refine ⟨_, weak_keep [0, 2, 3, 5, 6, 7, 8, 9, 10, 12], ?_⟩
                      rw [show ({ s' with env := keepE [0, 2, 3, 5, 6, 7, 8, 9, 10, 12] 0 s'.env } : St) = s'.keep [0, 2, 3, 5, 6, 7, 8, 9, 10, 12] from rfl, hq]
                      simp only [List.take_length]
                      repeat' (first
    | with_reducible first | apply swp_seq | apply swp_reg | apply swp_regD | apply swp_block | apply swp_exit | apply swp_ret | apply swp_skip | apply swp_cd
    | simp only [go_sem, seval, P5, q5, o_newM]
    | simp (disch := omega) only [w64, w32, wu8, wu16, wu32, wu64]
    | ((with_reducible apply s_mks); (case h0 | h1 | h2 => first | rfl | assumption | omega | ((first | refine ⟨?_, ?_⟩ | skip) <;> first | omega | (simp only [lN] <;> omega)) | (simp [elemsK, D.isVal, D.cells, D.closedL, D.closed]; first | done | omega)))
    | ((with_reducible apply s_mpu); (case h1 | hk => rfl); (case ha | hp => first | rfl | assumption | omega | ((first | refine ⟨?_, ?_⟩ | skip) <;> first | omega | (simp only [lN] <;> omega)) | (simp [elemsK, D.isVal, D.cells, D.closedL, D.closed]; first | done | omega)))
    | ((with_reducible apply s_lkpS); (case h1 | hk => rfl); (case ha | hf => first | rfl | assumption | omega | ((first | refine ⟨?_, ?_⟩ | skip) <;> first | omega | (simp only [lN] <;> omega)) | (simp [elemsK, D.isVal, D.cells, D.closedL, D.closed]; first | done | omega)))
    | ((with_reducible apply s_lkpN); (case h1 | hk => rfl); (case hf | ha => first | rfl | assumption | omega | ((first | refine ⟨?_, ?_⟩ | skip) <;> first | omega | (simp only [lN] <;> omega)) | (simp [elemsK, D.isVal, D.cells, D.closedL, D.closed]; first | done | omega)))
    | with_reducible first | apply cd_dec | apply cd_eq | apply cd_ne | apply cd_split | apply gd_dec | apply gd_eq | apply gd_ne | apply gd_split
    | ((with_reducible refine And.intro ?hw ?_); (case hw => first | omega | rfl | exact ⟨_, _, rfl⟩ | assumption | (simp only [lN] <;> omega)))
    | with_reducible intro _)
                      all_goals first | omega | skip
                      refine ⟨k + 1, by omega, by omega, ?_⟩
                      rw [hks]
                      simp [keepE, St.keep])
                · rw [if_neg hc] at hks
                  simp only [Bool.not_eq_true, Bool.or_eq_false_iff] at hc
                  obtain ⟨hk0, rfl⟩ := hc
                  have tk : (((k : Nat) : Int) == 0) = false := by rw [beq_eq_false_iff_ne]; rw [beq_eq_false_iff_ne] at hk0; omega
                  rw [Bool.or_eq_false_iff] at hv
                  rw [hv.1] at hself
                  repeat' (first
    | with_reducible first | apply swp_seq | apply swp_reg | apply swp_regD | apply swp_block | apply swp_exit | apply swp_ret | apply swp_skip | apply swp_cd
    | simp only [go_sem, seval, P5, q5, tk, gB, Nat.mul_one, Nat.zero_add, o_newM]
    | simp (disch := omega) only [w64, w32, wu8, wu16, wu32, wu64]
    | ((with_reducible apply s_mks); (case h0 | h1 | h2 => first | rfl | assumption | omega | ((first | refine ⟨?_, ?_⟩ | skip) <;> first | omega | (simp only [lN, lB] <;> omega)) | (simp [elemsK, D.isVal, D.cells, D.closedL, D.closed, lB]; first | done | omega)))
    | ((with_reducible apply s_mpu); (case h1 | hk => rfl); (case ha | hp => first | rfl | assumption | omega | ((first | refine ⟨?_, ?_⟩ | skip) <;> first | omega | (simp only [lN, lB] <;> omega)) | (simp [elemsK, D.isVal, D.cells, D.closedL, D.closed, lB]; first | done | omega)))
    | ((with_reducible apply s_lkpS); (case h1 | hk => rfl); (case ha | hf => first | rfl | assumption | omega | ((first | refine ⟨?_, ?_⟩ | skip) <;> first | omega | (simp only [lN, lB] <;> omega)) | (simp [elemsK, D.isVal, D.cells, D.closedL, D.closed, lB]; first | done | omega)))
    | ((with_reducible apply s_lkpN); (case h1 | hk => rfl); (case hf | ha => first | rfl | assumption | omega | ((first | refine ⟨?_, ?_⟩ | skip) <;> first | omega | (simp only [lN, lB] <;> omega)) | (simp [elemsK, D.isVal, D.cells, D.closedL, D.closed, lB]; first | done | omega)))
    | with_reducible first | apply cd_dec | apply cd_eq | apply cd_ne | apply cd_split | apply gd_dec | apply gd_eq | apply gd_ne | apply gd_split
    | ((with_reducible refine And.intro ?hw ?_); (case hw => first | omega | rfl | exact ⟨_, _, rfl⟩ | assumption | (simp only [lN, lB] <;> omega)))
    | with_reducible intro _)
                  all_goals first | omega | skip
                  refine ⟨k + 1, by omega, by omega, ?_⟩
                  rw [hks]
                  simp [keepE, St.keep, hself]
            · have t2 : decide (((k : Nat) : Int) < C.length) = false := by simp; omega
              have : k = C.length := by omega
              subst this
              repeat' (first
    | with_reducible first | apply swp_seq | apply swp_reg | apply swp_regD | apply swp_block | apply swp_exit | apply swp_ret | apply swp_skip | apply swp_cd
    | simp only [go_sem, seval, P5, q5, hg, t2, lc, o_newM]
    | simp (disch := omega) only [w64, w32, wu8, wu16, wu32, wu64]
    | ((with_reducible apply s_mks); (case h0 | h1 | h2 => first | rfl | assumption | omega | ((first | refine ⟨?_, ?_⟩ | skip) <;> first | omega | (simp only [lN, hg, lc] <;> omega)) | (simp [elemsK, D.isVal, D.cells, D.closedL, D.closed, hg, lc]; first | done | omega)))
    | ((with_reducible apply s_mpu); (case h1 | hk => rfl); (case ha | hp => first | rfl | assumption | omega | ((first | refine ⟨?_, ?_⟩ | skip) <;> first | omega | (simp only [lN, hg, lc] <;> omega)) | (simp [elemsK, D.isVal, D.cells, D.closedL, D.closed, hg, lc]; first | done | omega)))
    | ((with_reducible apply s_lkpS); (case h1 | hk => rfl); (case ha | hf => first | rfl | assumption | omega | ((first | refine ⟨?_, ?_⟩ | skip) <;> first | omega | (simp only [lN, hg, lc] <;> omega)) | (simp [elemsK, D.isVal, D.cells, D.closedL, D.closed, hg, lc]; first | done | omega)))
    | ((with_reducible apply s_lkpN); (case h1 | hk => rfl); (case hf | ha => first | rfl | assumption | omega | ((first | refine ⟨?_, ?_⟩ | skip) <;> first | omega | (simp only [lN, hg, lc] <;> omega)) | (simp [elemsK, D.isVal, D.cells, D.closedL, D.closed, hg, lc]; first | done | omega)))
    | with_reducible first | apply cd_dec | apply cd_eq | apply cd_ne | apply cd_split | apply gd_dec | apply gd_eq | apply gd_ne | apply gd_split
    | ((with_reducible refine And.intro ?hw ?_); (case hw => first | omega | rfl | exact ⟨_, _, rfl⟩ | assumption | (simp only [lN, hg, lc] <;> omega)))
    | with_reducible intro _)
              all_goals first | omega | skip
              all_goals simp [keepE, St.keep]
        · obtain ⟨rfl, hq⟩ := hq
          refine ⟨_, weak_keep [0, 2, 3, 5, 6, 7, 8, 9], ?_⟩
          rw [show ({ s' with env := keepE [0, 2, 3, 5, 6, 7, 8, 9] 0 s'.env } : St) = s'.keep [0, 2, 3, 5, 6, 7, 8, 9] from rfl, hq]
          simp only
          rw [← hRsm]
          repeat' (first
    | with_reducible first | apply swp_seq | apply swp_reg | apply swp_regD | apply swp_block | apply swp_exit | apply swp_ret | apply swp_skip | apply swp_cd
    | simp only [go_sem, seval, P5, q5, o_newM]
    | simp (disch := omega) only [w64, w32, wu8, wu16, wu32, wu64]
    | ((with_reducible apply s_mks); (case h0 | h1 | h2 => first | rfl | assumption | omega | ((first | refine ⟨?_, ?_⟩ | skip) <;> first | omega | (simp only [lN] <;> omega)) | (simp [elemsK, D.isVal, D.cells, D.closedL, D.closed]; first | done | omega)))
    | ((with_reducible apply s_mpu); (case h1 | hk => rfl); (case ha | hp => first | rfl | assumption | omega | ((first | refine ⟨?_, ?_⟩ | skip) <;> first | omega | (simp only [lN] <;> omega)) | (simp [elemsK, D.isVal, D.cells, D.closedL, D.closed]; first | done | omega)))
    | ((with_reducible apply s_lkpS); (case h1 | hk => rfl); (case ha | hf => first | rfl | assumption | omega | ((first | refine ⟨?_, ?_⟩ | skip) <;> first | omega | (simp only [lN] <;> omega)) | (simp [elemsK, D.isVal, D.cells, D.closedL, D.closed]; first | done | omega)))
    | ((with_reducible apply s_lkpN); (case h1 | hk => rfl); (case hf | ha => first | rfl | assumption | omega | ((first | refine ⟨?_, ?_⟩ | skip) <;> first | omega | (simp only [lN] <;> omega)) | (simp [elemsK, D.isVal, D.cells, D.closedL, D.closed]; first | done | omega)))
    | with_reducible first | apply cd_dec | apply cd_eq | apply cd_ne | apply cd_split | apply gd_dec | apply gd_eq | apply gd_ne | apply gd_split
    | ((with_reducible refine And.intro ?hw ?_); (case hw => first | omega | rfl | exact ⟨_, _, rfl⟩ | assumption | (simp only [lN] <;> omega)))
    | with_reducible intro _)
          all_goals first | omega | skip
          exact ⟨m + 1, by omega, by omega, by simp [keepE, St.keep]⟩
      · have t1 : decide (((m : Nat) : Int) < C.length) = false := by simp; omega
        have : m = C.length := by omega
        subst this
        repeat' (first
    | with_reducible first | apply swp_seq | apply swp_reg | apply swp_regD | apply swp_block | apply swp_exit | apply swp_ret | apply swp_skip | apply swp_cd
    | simp only [go_sem, seval, P5, q5, hg, t1, lc, o_newM]
    | simp (disch := omega) only [w64, w32, wu8, wu16, wu32, wu64]
    | ((with_reducible apply s_mks); (case h0 | h1 | h2 => first | rfl | assumption | omega | ((first | refine ⟨?_, ?_⟩ | skip) <;> first | omega | (simp only [lN, hg, lc] <;> omega)) | (simp [elemsK, D.isVal, D.cells, D.closedL, D.closed, hg, lc]; first | done | omega)))
    | ((with_reducible apply s_mpu); (case h1 | hk => rfl); (case ha | hp => first | rfl | assumption | omega | ((first | refine ⟨?_, ?_⟩ | skip) <;> first | omega | (simp only [lN, hg, lc] <;> omega)) | (simp [elemsK, D.isVal, D.cells, D.closedL, D.closed, hg, lc]; first | done | omega)))
    | ((with_reducible apply s_lkpS); (case h1 | hk => rfl); (case ha | hf => first | rfl | assumption | omega | ((first | refine ⟨?_, ?_⟩ | skip) <;> first | omega | (simp only [lN, hg, lc] <;> omega)) | (simp [elemsK, D.isVal, D.cells, D.closedL, D.closed, hg, lc]; first | done | omega)))
    | ((with_reducible apply s_lkpN); (case h1 | hk => rfl); (case hf | ha => first | rfl | assumption | omega | ((first | refine ⟨?_, ?_⟩ | skip) <;> first | omega | (simp only [lN, hg, lc] <;> omega)) | (simp [elemsK, D.isVal, D.cells, D.closedL, D.closed, hg, lc]; first | done | omega)))
    | with_reducible first | apply cd_dec | apply cd_eq | apply cd_ne | apply cd_split | apply gd_dec | apply gd_eq | apply gd_ne | apply gd_split
    | ((with_reducible refine And.intro ?hw ?_); (case hw => first | omega | rfl | exact ⟨_, _, rfl⟩ | assumption | (simp only [lN, hg, lc] <;> omega)))
    | with_reducible intro _)
        all_goals first | omega | skip
        all_goals simp [keepE, St.keep]
  · obtain ⟨rfl, hq⟩ := hq
    refine ⟨_, weak_keep [0, 2, 3, 5, 6, 7, 8], ?_⟩
    rw [show ({ s' with env := keepE [0, 2, 3, 5, 6, 7, 8] 0 s'.env } : St) = s'.keep [0, 2, 3, 5, 6, 7, 8] from rfl, hq]
    simp only
    have hBl := (hrd C.length).len
    generalize RP C.length = st at *
    obtain ⟨B, HH⟩ := st
    simp only at hcx hBl ⊢
    have lB := boolsD_len B
    rw [hBl] at lB
    repeat' (first
    | with_reducible first | apply swp_seq | apply swp_reg | apply swp_regD | apply swp_block | apply swp_exit | apply swp_ret | apply swp_skip | apply swp_cd
    | simp only [go_sem, seval, P5, q5, o_newM]
    | simp (disch := omega) only [w64, w32, wu8, wu16, wu32, wu64]
    | ((with_reducible apply s_mks); (case h0 | h1 | h2 => first | rfl | assumption | omega | ((first | refine ⟨?_, ?_⟩ | skip) <;> first | omega | (simp only [lN] <;> omega)) | (simp [elemsK, D.isVal, D.cells, D.closedL, D.closed]; first | done | omega)))
    | ((with_reducible apply s_mpu); (case h1 | hk => rfl); (case ha | hp => first | rfl | assumption | omega | ((first | refine ⟨?_, ?_⟩ | skip) <;> first | omega | (simp only [lN] <;> omega)) | (simp [elemsK, D.isVal, D.cells, D.closedL, D.closed]; first | done | omega)))
    | ((with_reducible apply s_lkpS); (case h1 | hk => rfl); (case ha | hf => first | rfl | assumption | omega | ((first | refine ⟨?_, ?_⟩ | skip) <;> first | omega | (simp only [lN] <;> omega)) | (simp [elemsK, D.isVal, D.cells, D.closedL, D.closed]; first | done | omega)))
    | ((with_reducible apply s_lkpN); (case h1 | hk => rfl); (case hf | ha => first | rfl | assumption | omega | ((first | refine ⟨?_, ?_⟩ | skip) <;> first | omega | (simp only [lN] <;> omega)) | (simp [elemsK, D.isVal, D.cells, D.closedL, D.closed]; first | done | omega)))
    | with_reducible first | apply cd_dec | apply cd_eq | apply cd_ne | apply cd_split | apply gd_dec | apply gd_eq | apply gd_ne | apply gd_split
    | ((with_reducible refine And.intro ?hw ?_); (case hw => first | omega | rfl | exact ⟨_, _, rfl⟩ | assumption | (simp only [lN] <;> omega)))
    | with_reducible intro _)
    all_goals first | omega | skip
    refine swp_fam [0, 2, 3, 5, 7, 13] (fun k : Nat => ⟨[rpsD l, .undef, .bool true, .slice (compsD (compsL L)) .no, .undef, .int .i64 i, .undef, .sl 1 1 0 C.length C.length, .undef, .undef, .undef, .undef, .undef, .int .i64 k, .undef, .undef, .undef, .undef, .undef, .undef, .undef, .undef, .undef, .undef], [], ⟨[.map (entB HH) HH.length, .cells (boolsD B)], []⟩⟩) (fun k => k ≤ C.length) (fun k => C.length - k) 0 (by omega) ?_ ?_
    · simp [keepE, St.keep]
    · intro k hk
      by_cases hkl : k < C.length
      · have t2 : decide (((k : Nat) : Int) < C.length) = true := by simp; omega
        have gB := boolsD_get (B := B) (k := k) (by omega)
        rw [hcx k hkl] at gB
        repeat' (first
    | with_reducible first | apply swp_seq | apply swp_reg | apply swp_regD | apply swp_block | apply swp_exit | apply swp_ret | apply swp_skip | apply swp_cd
    | simp only [go_sem, seval, P5, q5, t2, gB, Nat.mul_one, Nat.zero_add, o_newM]
    | simp (disch := omega) only [w64, w32, wu8, wu16, wu32, wu64]
    | ((with_reducible apply s_mks); (case h0 | h1 | h2 => first | rfl | assumption | omega | ((first | refine ⟨?_, ?_⟩ | skip) <;> first | omega | (simp only [lN, lB] <;> omega)) | (simp [elemsK, D.isVal, D.cells, D.closedL, D.closed, lB]; first | done | omega)))
    | ((with_reducible apply s_mpu); (case h1 | hk => rfl); (case ha | hp => first | rfl | assumption | omega | ((first | refine ⟨?_, ?_⟩ | skip) <;> first | omega | (simp only [lN, lB] <;> omega)) | (simp [elemsK, D.isVal, D.cells, D.closedL, D.closed, lB]; first | done | omega)))
    | ((with_reducible apply s_lkpS); (case h1 | hk => rfl); (case ha | hf => first | rfl | assumption | omega | ((first | refine ⟨?_, ?_⟩ | skip) <;> first | omega | (simp only [lN, lB] <;> omega)) | (simp [elemsK, D.isVal, D.cells, D.closedL, D.closed, lB]; first | done | omega)))
    | ((with_reducible apply s_lkpN); (case h1 | hk => rfl); (case hf | ha => first | rfl | assumption | omega | ((first | refine ⟨?_, ?_⟩ | skip) <;> first | omega | (simp only [lN, lB] <;> omega)) | (simp [elemsK, D.isVal, D.cells, D.closedL, D.closed, lB]; first | done | omega)))
    | with_reducible first | apply cd_dec | apply cd_eq | apply cd_ne | apply cd_split | apply gd_dec | apply gd_eq | apply gd_ne | apply gd_split
    | ((with_reducible refine And.intro ?hw ?_); (case hw => first | omega | rfl | exact ⟨_, _, rfl⟩ | assumption | (simp only [lN, lB] <;> omega)))
    | with_reducible intro _)
        all_goals first | omega | skip
        exact ⟨k + 1, by omega, by omega, by simp [keepE, St.keep]⟩
      · have t2 : decide (((k : Nat) : Int) < C.length) = false := by simp; omega
        have : k = C.length := by omega
        subst this
        repeat' (first
    | with_reducible first | apply swp_seq | apply swp_reg | apply swp_regD | apply swp_block | apply swp_exit | apply swp_ret | apply swp_skip | apply swp_cd
    | simp only [go_sem, seval, P5, q5, t2, o_newM]
    | simp (disch := omega) only [w64, w32, wu8, wu16, wu32, wu64]
    | ((with_reducible apply s_mks); (case h0 | h1 | h2 => first | rfl | assumption | omega | ((first | refine ⟨?_, ?_⟩ | skip) <;> first | omega | (simp only [lN] <;> omega)) | (simp [elemsK, D.isVal, D.cells, D.closedL, D.closed]; first | done | omega)))
    | ((with_reducible apply s_mpu); (case h1 | hk => rfl); (case ha | hp => first | rfl | assumption | omega | ((first | refine ⟨?_, ?_⟩ | skip) <;> first | omega | (simp only [lN] <;> omega)) | (simp [elemsK, D.isVal, D.cells, D.closedL, D.closed]; first | done | omega)))
    | ((with_reducible apply s_lkpS); (case h1 | hk => rfl); (case ha | hf => first | rfl | assumption | omega | ((first | refine ⟨?_, ?_⟩ | skip) <;> first | omega | (simp only [lN] <;> omega)) | (simp [elemsK, D.isVal, D.cells, D.closedL, D.closed]; first | done | omega)))
    | ((with_reducible apply s_lkpN); (case h1 | hk => rfl); (case hf | ha => first | rfl | assumption | omega | ((first | refine ⟨?_, ?_⟩ | skip) <;> first | omega | (simp only [lN] <;> omega)) | (simp [elemsK, D.isVal, D.cells, D.closedL, D.closed]; first | done | omega)))
    | with_reducible first | apply cd_dec | apply cd_eq | apply cd_ne | apply cd_split | apply gd_dec | apply gd_eq | apply gd_ne | apply gd_split
    | ((with_reducible refine And.intro ?hw ?_); (case hw => first | omega | rfl | exact ⟨_, _, rfl⟩ | assumption | (simp only [lN] <;> omega)))
    | with_reducible intro _)
        all_goals first | omega | skip
        all_goals exact hQ HH B
end Go.Proofs.Ytofnggfpegcllaa
end
section
set_option maxRecDepth 100000
set_option linter.unusedSimpArgs false
set_option linter.unusedVariables false
namespace Go.Proofs.Ytofnggfpegcllaa
open Go GoV Go.RowKit
end Go.Proofs.Ytofnggfpegcllaa
end
section
set_option maxRecDepth 100000
set_option linter.unusedSimpArgs false
set_option linter.unusedVariables false
namespace Go.Proofs.Ytofnggfpegcllaa
open Go GoV Go.RowKit
end Go.Proofs.Ytofnggfpegcllaa
end
section
set_option maxRecDepth 100000
set_option linter.unusedSimpArgs false
set_option linter.unusedVariables false
namespace Go.Proofs.Ytofnggfpegcllaa
open Go GoV Go.RowKit
set_option maxHeartbeats 4000000 in
theorem l5_p (l : List Rp) : Pur M 5 [rpsD l] (.bool true) := by
  have c0 := head_p
  have c1 := few_p l
  have hlr : (l.map rpD).length = l.length := by simp
  have hclr := closedL_R l
  have herr := erL_R l
  refine ok5 rfl ?_
  rw [i5]
  unfold c5
  generalize hco : ((.seq (.reg r5_10) (.seq (.reg r5_11) (.seq (.seq (.reg r5_12) (.block 2 (.loop (.seq (.seq (.reg r5_13) (.cond (.var 17) .skip (.exit 2))) (.seq (.block 3 (.seq (.reg r5_14) (.block 4 (.loop (.seq (.seq (.reg r5_15) (.cond (.var 18) .skip (.exit 4))) (.seq (.block 5 (.seq (.reg r5_16) (.seq (.seq (.reg r5_17) (.block 6 (.loop (.seq (.seq (.reg r5_18) (.cond (.var 19) .skip (.exit 6))) (.seq (.block 7 (.reg r5_19)) (.reg r5_20)))))) (.seq (.reg r5_21) (.cond (.var 20) (.seq (.reg r5_22) (.seq (.reg r5_23) (.block 8 (.loop (.seq (.seq (.reg r5_24) (.cond (.var 21) .skip (.exit 8))) (.seq (.block 9 (.reg r5_25)) (.reg r5_26))))))) .skip))))) (.reg r5_27))))))) (.reg r5_28)))))) (.seq (.reg r5_29) (.block 10 (.loop (.seq (.seq (.reg r5_30) (.cond (.var 22) .skip (.exit 10))) (.seq (.block 11 (.seq (.reg r5_31) (.cond (.var 23) (.seq (.reg r5_32) .ret) .skip))) (.reg r5_33))))))))) : RC) = co at *
  cases hf : few13 l 40
  · rw [hf] at c1
    repeat' (first
    | with_reducible first | apply swp_seq | apply swp_reg | apply swp_regD | apply swp_block | apply swp_exit | apply swp_ret | apply swp_skip | apply swp_cd
    | simp only [go_sem, seval, P5, q5, o_newM]
    | simp (disch := omega) only [w64, w32, wu8, wu16, wu32, wu64]
    | ((with_reducible refine o_call (c0) ?he ?hc ?_); (case he | hc => first | rfl | (simp [D.erL, D.er, D.closedL, D.closed, hclr, herr]; done)))
    | ((with_reducible refine o_call (c1) ?he ?hc ?_); (case he | hc => first | rfl | (simp [D.erL, D.er, D.closedL, D.closed, hclr, herr]; done)))
    | ((with_reducible apply s_mks); (case h0 | h1 | h2 => first | rfl | assumption | omega | ((first | refine ⟨?_, ?_⟩ | skip) <;> first | omega | (simp only [lN, hclr, herr] <;> omega)) | (simp [elemsK, D.isVal, D.cells, D.closedL, D.closed, hclr, herr]; first | done | omega)))
    | ((with_reducible apply s_mpu); (case h1 | hk => rfl); (case ha | hp => first | rfl | assumption | omega | ((first | refine ⟨?_, ?_⟩ | skip) <;> first | omega | (simp only [lN, hclr, herr] <;> omega)) | (simp [elemsK, D.isVal, D.cells, D.closedL, D.closed, hclr, herr]; first | done | omega)))
    | ((with_reducible apply s_lkpS); (case h1 | hk => rfl); (case ha | hf => first | rfl | assumption | omega | ((first | refine ⟨?_, ?_⟩ | skip) <;> first | omega | (simp only [lN, hclr, herr] <;> omega)) | (simp [elemsK, D.isVal, D.cells, D.closedL, D.closed, hclr, herr]; first | done | omega)))
    | ((with_reducible apply s_lkpN); (case h1 | hk => rfl); (case hf | ha => first | rfl | assumption | omega | ((first | refine ⟨?_, ?_⟩ | skip) <;> first | omega | (simp only [lN, hclr, herr] <;> omega)) | (simp [elemsK, D.isVal, D.cells, D.closedL, D.closed, hclr, herr]; first | done | omega)))
    | with_reducible first | apply cd_dec | apply cd_eq | apply cd_ne | apply cd_split | apply gd_dec | apply gd_eq | apply gd_ne | apply gd_split
    | ((with_reducible refine And.intro ?hw ?_); (case hw => first | omega | rfl | exact ⟨_, _, rfl⟩ | assumption | (simp only [lN, hclr, herr] <;> omega)))
    | with_reducible intro _)
    all_goals first | omega | simp [D.closed, D.er]
  · rw [hf] at c1
    obtain ⟨h40, hs⟩ := few_small hf
    have hL := labs_lo (namesL l)
    have hln : (labs (namesL l)).length = l.length := by rw [labs_len, namesL_len]
    have k1 := components_p l (by omega) hs
    have hC1 : comps (namesL l) = compsL (labs (namesL l)) := rfl
    rw [hC1] at k1
    have k3 := at_p hL (by omega)
    rw [hln] at k3
    have hnm := fun i (h : i < l.length) => namesL_get h
    have hcon := fun r (h : r ∈ roots (labs (namesL l))) => connects (R := namesL l) h
    have hr40 : (roots (labs (namesL l))).length ≤ (labs (namesL l)).length := by unfold roots; refine Nat.le_trans (List.length_filter_le _ _) ?_; simp
    generalize hR : namesL l = R at *
    generalize labs R = L at *
    have u1 := cl_comps (compsL L)
    have u2 := er_comps (compsL L)
    have hcl := compsD_len (compsL L)
    rw [comps_len] at hcl
    repeat' (first
    | with_reducible first | apply swp_seq | apply swp_reg | apply swp_regD | apply swp_block | apply swp_exit | apply swp_ret | apply swp_skip | apply swp_cd
    | simp only [go_sem, seval, P5, q5, o_newM]
    | simp (disch := omega) only [w64, w32, wu8, wu16, wu32, wu64]
    | ((with_reducible refine o_call (c0) ?he ?hc ?_); (case he | hc => first | rfl | (simp [D.erL, D.er, D.closedL, D.closed, hclr, herr, hlr, u1, u2]; done)))
    | ((with_reducible refine o_call (c1) ?he ?hc ?_); (case he | hc => first | rfl | (simp [D.erL, D.er, D.closedL, D.closed, hclr, herr, hlr, u1, u2]; done)))
    | ((with_reducible refine o_call (k1) ?he ?hc ?_); (case he | hc => first | rfl | (simp [D.erL, D.er, D.closedL, D.closed, hclr, herr, hlr, u1, u2]; done)))
    | ((with_reducible refine o_call (k3) ?he ?hc ?_); (case he | hc => first | rfl | (simp [D.erL, D.er, D.closedL, D.closed, hclr, herr, hlr, u1, u2]; done)))
    | ((with_reducible apply s_mks); (case h0 | h1 | h2 => first | rfl | assumption | omega | ((first | refine ⟨?_, ?_⟩ | skip) <;> first | omega | (simp only [lN, hclr, herr, hlr, u1, u2] <;> omega)) | (simp [elemsK, D.isVal, D.cells, D.closedL, D.closed, hclr, herr, hlr, u1, u2]; first | done | omega)))
    | ((with_reducible apply s_mpu); (case h1 | hk => rfl); (case ha | hp => first | rfl | assumption | omega | ((first | refine ⟨?_, ?_⟩ | skip) <;> first | omega | (simp only [lN, hclr, herr, hlr, u1, u2] <;> omega)) | (simp [elemsK, D.isVal, D.cells, D.closedL, D.closed, hclr, herr, hlr, u1, u2]; first | done | omega)))
    | ((with_reducible apply s_lkpS); (case h1 | hk => rfl); (case ha | hf => first | rfl | assumption | omega | ((first | refine ⟨?_, ?_⟩ | skip) <;> first | omega | (simp only [lN, hclr, herr, hlr, u1, u2] <;> omega)) | (simp [elemsK, D.isVal, D.cells, D.closedL, D.closed, hclr, herr, hlr, u1, u2]; first | done | omega)))
    | ((with_reducible apply s_lkpN); (case h1 | hk => rfl); (case hf | ha => first | rfl | assumption | omega | ((first | refine ⟨?_, ?_⟩ | skip) <;> first | omega | (simp only [lN, hclr, herr, hlr, u1, u2] <;> omega)) | (simp [elemsK, D.isVal, D.cells, D.closedL, D.closed, hclr, herr, hlr, u1, u2]; first | done | omega)))
    | with_reducible first | apply cd_dec | apply cd_eq | apply cd_ne | apply cd_split | apply gd_dec | apply gd_eq | apply gd_ne | apply gd_split
    | ((with_reducible refine And.intro ?hw ?_); (case hw => first | omega | rfl | exact ⟨_, _, rfl⟩ | assumption | (simp only [lN, hclr, herr, hlr, u1, u2] <;> omega)))
    | with_reducible intro _)
    all_goals first | omega | skip
    refine swp_famG [0, 2, 3, 5] 0 0 (Nat.le_refl 0) (Nat.le_refl 0) (fun i : Nat => ⟨[rpsD l, .undef, .bool true, .slice (compsD (compsL L)) .no, .undef, .int .i64 i, .undef, .undef, .undef, .undef, .undef, .undef, .undef, .undef, .undef, .undef, .undef, .undef, .undef, .undef, .undef, .undef, .undef, .undef], [], ⟨[], []⟩⟩) (fun i => i ≤ (roots L).length) (fun i => (roots L).length - i) 0 (by omega) ?_ ?_
    · simp [keepE, St.keep, St.keepG, St.gc, Hp.cut, D.rn, D.rnL, Blk.rnL, Tv.rnL, Own.rn]
    · intro i hi
      by_cases hil : i < (roots L).length
      · have t0 : decide (((i : Nat) : Int) < (roots L).length) = true := by simp; omega
        have hg := compsD_get (C := compsL L) (i := i) (by rw [comps_len]; exact hil)
        obtain ⟨m1, m2⟩ := comps_mem hil hL
        have hr0 : (roots L).getD i 0 = (roots L)[i] := by simp [List.getD, hil]
        have hcx := hcon _ (List.getElem_mem hil)
        have hca := cno_app hL hil
        rw [hr0] at hca
        rw [← hca] at hcx
        generalize (compsL L).getD i [] = C at *
        clear hca hcon
        repeat' (first
    | with_reducible first | apply swp_seq | apply swp_reg | apply swp_regD | apply swp_block | apply swp_exit | apply swp_ret | apply swp_skip | apply swp_cd
    | simp only [go_sem, seval, P5, q5, hcl, t0, o_newM]
    | simp (disch := omega) only [w64, w32, wu8, wu16, wu32, wu64]
    | ((with_reducible apply s_mks); (case h0 | h1 | h2 => first | rfl | assumption | omega | ((first | refine ⟨?_, ?_⟩ | skip) <;> first | omega | (simp only [lN, hcl] <;> omega)) | (simp [elemsK, D.isVal, D.cells, D.closedL, D.closed, hcl]; first | done | omega)))
    | ((with_reducible apply s_mpu); (case h1 | hk => rfl); (case ha | hp => first | rfl | assumption | omega | ((first | refine ⟨?_, ?_⟩ | skip) <;> first | omega | (simp only [lN, hcl] <;> omega)) | (simp [elemsK, D.isVal, D.cells, D.closedL, D.closed, hcl]; first | done | omega)))
    | ((with_reducible apply s_lkpS); (case h1 | hk => rfl); (case ha | hf => first | rfl | assumption | omega | ((first | refine ⟨?_, ?_⟩ | skip) <;> first | omega | (simp only [lN, hcl] <;> omega)) | (simp [elemsK, D.isVal, D.cells, D.closedL, D.closed, hcl]; first | done | omega)))
    | ((with_reducible apply s_lkpN); (case h1 | hk => rfl); (case hf | ha => first | rfl | assumption | omega | ((first | refine ⟨?_, ?_⟩ | skip) <;> first | omega | (simp only [lN, hcl] <;> omega)) | (simp [elemsK, D.isVal, D.cells, D.closedL, D.closed, hcl]; first | done | omega)))
    | with_reducible first | apply cd_dec | apply cd_eq | apply cd_ne | apply cd_split | apply gd_dec | apply gd_eq | apply gd_ne | apply gd_split
    | ((with_reducible refine And.intro ?hw ?_); (case hw => first | omega | rfl | exact ⟨_, _, rfl⟩ | assumption | (simp only [lN, hcl] <;> omega)))
    | with_reducible intro _)
        all_goals first | omega | skip
        rw [← hco]
        refine conn_one l hs h40 R hnm L C i hg (by rw [hcl]; exact hil) (by omega) (fun x hx => by have := m1 x hx; omega) (by omega) (fun k => R.getD (C.getD k 0) []) (fun k => rfl) hcx _ fun HH BB => ?_
        repeat' (first
    | with_reducible first | apply swp_seq | apply swp_reg | apply swp_regD | apply swp_block | apply swp_exit | apply swp_ret | apply swp_skip | apply swp_cd
    | simp only [go_sem, seval, P5, q5, o_newM]
    | simp (disch := omega) only [w64, w32, wu8, wu16, wu32, wu64]
    | ((with_reducible apply s_mks); (case h0 | h1 | h2 => first | rfl | assumption | omega | ((first | refine ⟨?_, ?_⟩ | skip) <;> first | omega | (simp only [lN] <;> omega)) | (simp [elemsK, D.isVal, D.cells, D.closedL, D.closed]; first | done | omega)))
    | ((with_reducible apply s_mpu); (case h1 | hk => rfl); (case ha | hp => first | rfl | assumption | omega | ((first | refine ⟨?_, ?_⟩ | skip) <;> first | omega | (simp only [lN] <;> omega)) | (simp [elemsK, D.isVal, D.cells, D.closedL, D.closed]; first | done | omega)))
    | ((with_reducible apply s_lkpS); (case h1 | hk => rfl); (case ha | hf => first | rfl | assumption | omega | ((first | refine ⟨?_, ?_⟩ | skip) <;> first | omega | (simp only [lN] <;> omega)) | (simp [elemsK, D.isVal, D.cells, D.closedL, D.closed]; first | done | omega)))
    | ((with_reducible apply s_lkpN); (case h1 | hk => rfl); (case hf | ha => first | rfl | assumption | omega | ((first | refine ⟨?_, ?_⟩ | skip) <;> first | omega | (simp only [lN] <;> omega)) | (simp [elemsK, D.isVal, D.cells, D.closedL, D.closed]; first | done | omega)))
    | with_reducible first | apply cd_dec | apply cd_eq | apply cd_ne | apply cd_split | apply gd_dec | apply gd_eq | apply gd_ne | apply gd_split
    | ((with_reducible refine And.intro ?hw ?_); (case hw => first | omega | rfl | exact ⟨_, _, rfl⟩ | assumption | (simp only [lN] <;> omega)))
    | with_reducible intro _)
        all_goals first | omega | skip
        exact ⟨i + 1, by omega, by omega, by simp [keepE, St.keep, St.keepG, St.gc, Hp.cut, D.rn, D.rnL, Blk.rnL, Tv.rnL, Own.rn]⟩
      · have t0 : decide (((i : Nat) : Int) < (roots L).length) = false := by simp; omega
        repeat' (first
    | with_reducible first | apply swp_seq | apply swp_reg | apply swp_regD | apply swp_block | apply swp_exit | apply swp_ret | apply swp_skip | apply swp_cd
    | simp only [go_sem, seval, P5, q5, hcl, t0, o_newM]
    | simp (disch := omega) only [w64, w32, wu8, wu16, wu32, wu64]
    | ((with_reducible apply s_mks); (case h0 | h1 | h2 => first | rfl | assumption | omega | ((first | refine ⟨?_, ?_⟩ | skip) <;> first | omega | (simp only [lN, hcl] <;> omega)) | (simp [elemsK, D.isVal, D.cells, D.closedL, D.closed, hcl]; first | done | omega)))
    | ((with_reducible apply s_mpu); (case h1 | hk => rfl); (case ha | hp => first | rfl | assumption | omega | ((first | refine ⟨?_, ?_⟩ | skip) <;> first | omega | (simp only [lN, hcl] <;> omega)) | (simp [elemsK, D.isVal, D.cells, D.closedL, D.closed, hcl]; first | done | omega)))
    | ((with_reducible apply s_lkpS); (case h1 | hk => rfl); (case ha | hf => first | rfl | assumption | omega | ((first | refine ⟨?_, ?_⟩ | skip) <;> first | omega | (simp only [lN, hcl] <;> omega)) | (simp [elemsK, D.isVal, D.cells, D.closedL, D.closed, hcl]; first | done | omega)))
    | ((with_reducible apply s_lkpN); (case h1 | hk => rfl); (case hf | ha => first | rfl | assumption | omega | ((first | refine ⟨?_, ?_⟩ | skip) <;> first | omega | (simp only [lN, hcl] <;> omega)) | (simp [elemsK, D.isVal, D.cells, D.closedL, D.closed, hcl]; first | done | omega)))
    | with_reducible first | apply cd_dec | apply cd_eq | apply cd_ne | apply cd_split | apply gd_dec | apply gd_eq | apply gd_ne | apply gd_split
    | ((with_reducible refine And.intro ?hw ?_); (case hw => first | omega | rfl | exact ⟨_, _, rfl⟩ | assumption | (simp only [lN, hcl] <;> omega)))
    | with_reducible intro _)
        all_goals first | omega | simp [D.closed, D.er]
end Go.Proofs.Ytofnggfpegcllaa
end
section
set_option maxRecDepth 100000
set_option linter.unusedSimpArgs false
set_option linter.unusedVariables false
namespace Go.Proofs.Ytofnggfpegcllaa
open Go GoV Go.RowKit
end Go.Proofs.Ytofnggfpegcllaa
end
section
set_option linter.unusedVariables false
namespace Go.Proofs.Ytofnggfpegcllaa
open Go GoV
theorem connects_c (l : List Rp) : Pur M 5 [rpsD l] (.bool true) := l5_p l
end Go.Proofs.Ytofnggfpegcllaa
end
