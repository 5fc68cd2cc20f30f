/- Own texts, merged by a program: the engine that walks the code, and what the functions that the law reaches compute. -/
import Derived.Test.YtofnggfpegcllaaQb4
section
set_option maxRecDepth 100000
set_option linter.unusedSimpArgs false
set_option linter.unusedVariables false
namespace Go.Proofs.Ytofnggfpegcllaa
open Go GoV Go.RowKit
theorem ints_rn (β τ : Nat → Option Nat) : ∀ F : List Nat, D.rnL β τ (ints F) = ints F
  | [] => rfl
  | x :: F => by
    have := ints_rn β τ F
    simp only [ints, List.map_cons, D.rnL, D.rn] at this ⊢
    rw [this]
set_option maxHeartbeats 1000000 in
theorem join_e {F L : List Nat} (hL : Lo L) (h : Fo F L) (hN : L.length < 1000000) {i k : Nat} (hi : i < L.length) (hk : k < L.length) :
    Eff M 40 [.gs 0 F.length, .int .i64 (i : Nat), .int .i64 (k : Nat)] ⟨[], [.chg 1 (ints F)]⟩ fun d hp => d = .tup [] ∧ hp = ⟨[], [.chg 1 (ints (joinF F i k))]⟩ := by
  have c1 := root_e hL h hN hi
  have f1 := rt_fo hL h hi
  have c2 := root_e hL f1 hN hk
  rw [rt_len] at c2
  have r1 := rt_root hL h hi
  have r2 := rt_root hL f1 hk
  have b1 := (hL i hi).1
  have b2 := (hL k hk).1
  have hl := h.len
  have hG : (rt (rt F i).1 k).1.length = F.length := by rw [rt_len, rt_len]
  have gl := ints_len (rt (rt F i).1 k).1
  have hrn := fun β τ => ints_rn β τ
  unfold joinF
  rw [r1] at c1
  rw [r2] at c2
  rw [r1, r2]
  generalize lb L i = x at *
  generalize lb L k = y at *
  generalize (rt (rt F i).1 k).1 = H at *
  generalize (rt F i).1 = G at *
  have hmx : (if ((y : Nat) : Int) > (x : Nat) then ((y : Nat) : Int) else (x : Nat)) = ((max x y : Nat) : Int) := by split <;> omega
  have hmn : (if ((y : Nat) : Int) < (x : Nat) then ((y : Nat) : Int) else (x : Nat)) = ((min x y : Nat) : Int) := by split <;> omega
  have hst : (ints H).set (max x y) (.int .i64 (min x y : Nat)) = ints (H.set (max x y) (min x y)) := ints_set
  have hm2 : max x y < F.length := by omega
  generalize max x y = mx at *
  generalize min x y = mn at *
  refine oe40 0 1 rfl rfl rfl ?_
  rw [ie40]
  unfold c40
  repeat' (first
    | with_reducible first | apply swp_seq | apply swp_reg | apply swp_regD | apply swp_block | apply swp_exit | apply swp_ret | apply swp_skip | apply swp_cd
    | simp only [go_sem, seval, pe40, q40, hrn, foldI, Nat.mul_one, hmx, hmn, hst]
    | simp (disch := omega) only [w64, w32, wu8, wu16, wu32, wu64]
    | ((with_reducible refine o_eff [] [0] (c1) ?hs ?he ?hh ?_); (case hs => exact ⟨by simp, by simp, by simp, by simp⟩); (case he => first | rfl | (simp [go_sem, seval, hrn, gl, hG]; done)); (case hh => first | rfl | (simp [go_sem, seval, hrn, gl, hG]; done)); rintro _ _ ⟨rfl, rfl⟩)
    | ((with_reducible refine o_eff [] [0] (c2) ?hs ?he ?hh ?_); (case hs => exact ⟨by simp, by simp, by simp, by simp⟩); (case he => first | rfl | (simp [go_sem, seval, hrn, gl, hG]; done)); (case hh => first | rfl | (simp [go_sem, seval, hrn, gl, hG]; done)); rintro _ _ ⟨rfl, rfl⟩)
    | with_reducible first | apply cd_dec | apply cd_eq | apply cd_ne | apply cd_split
    | ((with_reducible refine And.intro ?hw ?_); (case hw => first | omega | rfl | exact ⟨_, _, rfl⟩ | assumption | (simp only [lN, hrn, gl, hG] <;> omega)))
    | with_reducible intro _)
  all_goals first | omega | skip
  exact ⟨_, weak_refl, rfl⟩
/-! ### What is linked -/
def vF (F : List (Nm × Nat)) (s : Nm) : D := .int .i64 ((look F s).getD 0 : Nat)
def eF (F : List (Nm × Nat)) : List (D × D × Nat) := entG D.str (vF F) (F.map (·.1)) 0
theorem look_none {F : List (Nm × Nat)} {s : Nm} : look F s = none ↔ s ∉ F.map (·.1) := by
  unfold look
  rw [Option.map_eq_none_iff, List.find?_eq_none]
  simp only [List.mem_map, not_exists, not_and, beq_iff_eq]
theorem eF_none {F : List (Nm × Nat)} {s : Nm} (h : look F s = none) : findM (.str s) (eF F) 0 = none := entG_none keyStr (look_none.1 h)
theorem eF_some {F : List (Nm × Nat)} {s : Nm} {k : Nat} (h : look F s = some k) : ∃ j, findM (.str s) (eF F) 0 = some (j, .int .i64 (k : Nat)) := by
  have hm : s ∈ F.map (·.1) := by
    by_cases q : s ∈ F.map (·.1)
    · exact q
    · rw [look_none.2 q] at h; cases h
  obtain ⟨j, hj⟩ := entG_some (vf := vF F) keyStr hm
  refine ⟨j, ?_⟩
  unfold eF
  rw [hj]
  unfold vF
  rw [h]; rfl
theorem eF_put {F : List (Nm × Nat)} {s : Nm} {i : Nat} (h : look F s = none) : putM (eF F) F.length (.str s) (.int .i64 (i : Nat)) = .map (eF (F ++ [(s, i)])) (F ++ [(s, i)]).length := by
  have := entG_new (vf := vF F) keyStr (.int .i64 (i : Nat)) (look_none.1 h)
  rw [List.length_map] at this
  unfold eF
  rw [this]
  have hv : upd (vF F) s (.int .i64 (i : Nat)) = vF (F ++ [(s, i)]) := by
    funext t
    unfold upd vF
    rw [look_new h]
    split <;> rfl
  rw [hv, List.map_append, List.length_append]
  rfl
theorem eF_ok (F : List (Nm × Nat)) : ((eF F).all fun e => keyOk .str e.1) = true := entG_ok keyStr _ _
theorem eF_rn (β τ : Nat → Option Nat) (F : List (Nm × Nat)) : pairs β τ (eF F) = eF F := entG_rn keyStr (fun _ => rfl) _ _
def namesL (l : List Rp) : List (List Nm) := l.map namesR
theorem namesL_get {l : List Rp} {i : Nat} (h : i < l.length) : (namesL l).getD i [] = namesR l[i] := by simp [namesL, List.getD, h]
theorem namesL_len (l : List Rp) : (namesL l).length = l.length := by simp [namesL]
def Small (l : List Rp) : Prop := ∀ r ∈ l, ∀ e ∈ r.opts, e.sh = true
theorem namesR_len {r : Rp} : (namesR r).length ≤ 8 := by
  cases h : repOk r with
  | false => unfold namesR; rw [h]; simp
  | true => rw [namesR_at h]; exact atN_len (ok_len h).1 _
def midF (R : List (List Nm)) (i : Nat) (N : List Nm) : List Nat × List (Nm × Nat) := N.foldl (nameF i) ((lnkF R i).1 ++ [i], (lnkF R i).2)
def midL (R : List (List Nm)) (i : Nat) (N : List Nm) : List Nat × List (Nm × Nat) := N.foldl (nameStep i) ((lnk R i).1 ++ [i], (lnk R i).2)
theorem mid_fi (R : List (List Nm)) (i : Nat) (N : List Nm) (h : ∀ s ∈ N, s ∈ R.getD i []) : FI R i N (midF R i N) (midL R i N) (i + 1) := by
  have h1 := fi_lnk R i
  have hlen := h1.inv.len
  have h0 : Inv R i [] ((lnk R i).1 ++ [i], (lnk R i).2) (i + 1) := inv_push h1.inv
  have := fi_names N [] ((lnkF R i).1 ++ [i], (lnkF R i).2) ((lnk R i).1 ++ [i], (lnk R i).2) ⟨h0, by have := fo_push h1.fo h1.inv.lo; rw [hlen] at this; exact this, h1.snd⟩ h
  rw [List.nil_append] at this
  exact this
theorem midF_all (R : List (List Nm)) (i : Nat) : midF R i (R.getD i []) = lnkF R (i + 1) := rfl
theorem midF_snoc (R : List (List Nm)) (i : Nat) (N : List Nm) (s : Nm) : midF R i (N ++ [s]) = nameF i (midF R i N) s := by unfold midF; rw [List.foldl_append]; rfl
theorem ints_app (F G : List Nat) : ints (F ++ G) = ints F ++ ints G := by simp [ints]
set_option maxHeartbeats 2000000 in
theorem linked_e (l : List Rp) (hl : l.length ≤ 1000) (hs : Small l) :
    Eff M 26 [rpsD l] ⟨[], []⟩ fun d hp => d = .tup [.gs 0 l.length, .mp 0] ∧ hp = ⟨[.map (eF (lnkF (namesL l) l.length).2) (lnkF (namesL l) l.length).2.length], [.chg 1 (ints (lnkF (namesL l) l.length).1)]⟩ := by
  have hlen : (l.map rpD).length = l.length := by simp
  generalize hR : namesL l = R at *
  refine oe26 0 0 rfl rfl rfl ?_
  rw [ie26]
  unfold c26
  repeat' (first
    | with_reducible first | apply swp_seq | apply swp_reg | apply swp_regD | apply swp_block | apply swp_exit | apply swp_ret | apply swp_skip | apply swp_cd
    | simp only [go_sem, seval, pe26, q26, hlen, o_newM]
    | simp (disch := omega) only [w64, w32, wu8, wu16, wu32, wu64]
    | ((with_reducible apply s_appT); (case he => rfl); (case hK | hc | hr | hV => first | rfl | assumption | omega | ((first | refine ⟨?_, ?_⟩ | skip) <;> first | omega | (simp only [lN, hlen] <;> omega)) | (simp [elemsK, D.isVal, D.cells, D.closedL, D.closed, hlen]; first | done | omega)))
    | ((with_reducible apply s_appG); (case he => rfl); (case hV | hK | hr | hl => first | rfl | assumption | omega | ((first | refine ⟨?_, ?_⟩ | skip) <;> first | omega | (simp only [lN, hlen] <;> omega)) | (simp [elemsK, D.isVal, D.cells, D.closedL, D.closed, hlen]; first | done | omega)))
    | ((with_reducible apply s_app0); (case he => rfl); (case hK | hc | hr => first | rfl | assumption | omega | ((first | refine ⟨?_, ?_⟩ | skip) <;> first | omega | (simp only [lN, hlen] <;> omega)) | (simp [elemsK, D.isVal, D.cells, D.closedL, D.closed, hlen]; first | done | omega)))
    | ((with_reducible apply s_appF); (case he => rfl); (case hK | hc | hr | hx | hn => first | rfl | assumption | omega | ((first | refine ⟨?_, ?_⟩ | skip) <;> first | omega | (simp only [lN, hlen] <;> omega)) | (simp [elemsK, D.isVal, D.cells, D.closedL, D.closed, hlen]; first | done | omega)))
    | ((with_reducible apply s_bsl); (case he | hl | hc => first | rfl | assumption | omega | ((first | refine ⟨?_, ?_⟩ | skip) <;> first | omega | (simp only [lN, hlen] <;> omega)) | (simp [elemsK, D.isVal, D.cells, D.closedL, D.closed, hlen]; first | done | omega)))
    | ((with_reducible apply s_mpu); (case h1 | hk => rfl); (case ha | hp => first | rfl | assumption | omega | ((first | refine ⟨?_, ?_⟩ | skip) <;> first | omega | (simp only [lN, hlen] <;> omega)) | (simp [elemsK, D.isVal, D.cells, D.closedL, D.closed, hlen]; first | done | omega)))
    | ((with_reducible apply s_lkpS); (case h1 | hk => rfl); (case ha | hf => first | rfl | assumption | omega | ((first | refine ⟨?_, ?_⟩ | skip) <;> first | omega | (simp only [lN, hlen] <;> omega)) | (simp [elemsK, D.isVal, D.cells, D.closedL, D.closed, hlen]; first | done | omega)))
    | ((with_reducible apply s_lkpN); (case h1 | hk => rfl); (case hf | ha => first | rfl | assumption | omega | ((first | refine ⟨?_, ?_⟩ | skip) <;> first | omega | (simp only [lN, hlen] <;> omega)) | (simp [elemsK, D.isVal, D.cells, D.closedL, D.closed, hlen]; first | done | omega)))
    | with_reducible first | apply cd_dec | apply cd_eq | apply cd_ne | apply cd_split
    | ((with_reducible refine And.intro ?hw ?_); (case hw => first | omega | rfl | exact ⟨_, _, rfl⟩ | assumption | (simp only [lN, hlen] <;> omega)))
    | with_reducible intro _)
  refine swp_weak (weak_trans (weak_keep [0, 3, 4, 9, 10]) (weak_new 3 1 (by omega) true rfl)) ?_
  simp only [keepE]
  refine swp_fam [0, 3, 4, 9, 10] (fun i : Nat => ⟨[rpsD l, .undef, .undef, .gs 0 i, .mp 0, .undef, .undef, .undef, .undef, .int .i64 l.length, .int .i64 i, .undef, .undef, .undef, .undef, .undef, .undef], [], ⟨[.map (eF (lnkF R i).2) (lnkF R i).2.length], [.chg 1 (ints (lnkF R i).1)]⟩⟩)
    (fun i => i ≤ l.length) (fun i => l.length - i) 0 (by omega) ?_ ?_
  · simp [keepE, St.keep, lnkF, eF, entG, ints]
  · intro i hi
    have hfl : (lnkF R i).1.length = i := by have h1 := fi_lnk R i; rw [h1.fo.len, h1.inv.len]
    have hil0 := ints_len (lnkF R i).1
    rw [hfl] at hil0
    by_cases hil : i < l.length
    · have t2 : decide (((i : Nat) : Int) < l.length) = true := by simp; omega
      have hg := rp_get hil
      have c1 := names_p l[i] (hs _ (List.getElem_mem _))
      rw [show rpD l[i] = .agg [.slice (l[i].opts.map evD) .no, .bool l[i].doubt] from rfl] at c1
      have hN := namesL_get hil
      rw [hR] at hN
      have hn8 := namesR_len (r := l[i])
      have hstep := midF_all R i
      rw [hN] at hstep
      have hmid0 : midF R i [] = ((lnkF R i).1 ++ [i], (lnkF R i).2) := rfl
      have hfi := fun j => mid_fi R i ((namesR l[i]).take j) (fun s h => by rw [hN]; exact List.mem_of_mem_take h)
      generalize hNN : namesR l[i] = N at *
      have hnl := strs_len N
      have happ : ints (lnkF R i).1 ++ [.int .i64 (i : Nat)] = ints ((lnkF R i).1 ++ [i]) := by rw [ints_app]; rfl
      repeat' (first
    | with_reducible first | apply swp_seq | apply swp_reg | apply swp_regD | apply swp_block | apply swp_exit | apply swp_ret | apply swp_skip | apply swp_cd
    | simp only [go_sem, seval, pe26, q26, hlen, t2, hg, o_newM]
    | simp (disch := omega) only [w64, w32, wu8, wu16, wu32, wu64]
    | ((with_reducible refine o_call (c1) ?he ?hc ?_); (case he | hc => first | rfl | (simp [D.erL, D.er, D.closedL, D.closed, hlen, hg, hil0]; done)))
    | ((with_reducible apply s_appT); (case he => rfl); (case hK | hc | hr | hV => first | rfl | assumption | omega | ((first | refine ⟨?_, ?_⟩ | skip) <;> first | omega | (simp only [lN, hlen, hg, hil0] <;> omega)) | (simp [elemsK, D.isVal, D.cells, D.closedL, D.closed, hlen, hg, hil0]; first | done | omega)))
    | ((with_reducible apply s_appG); (case he => rfl); (case hV | hK | hr | hl => first | rfl | assumption | omega | ((first | refine ⟨?_, ?_⟩ | skip) <;> first | omega | (simp only [lN, hlen, hg, hil0] <;> omega)) | (simp [elemsK, D.isVal, D.cells, D.closedL, D.closed, hlen, hg, hil0]; first | done | omega)))
    | ((with_reducible apply s_app0G); (case he => rfl); (case hK | hr => first | rfl | assumption | omega | ((first | refine ⟨?_, ?_⟩ | skip) <;> first | omega | (simp only [lN, hlen, hg, hil0] <;> omega)) | (simp [elemsK, D.isVal, D.cells, D.closedL, D.closed, hlen, hg, hil0]; first | done | omega)))
    | ((with_reducible apply s_bsl); (case he | hl | hc => first | rfl | assumption | omega | ((first | refine ⟨?_, ?_⟩ | skip) <;> first | omega | (simp only [lN, hlen, hg, hil0] <;> omega)) | (simp [elemsK, D.isVal, D.cells, D.closedL, D.closed, hlen, hg, hil0]; first | done | omega)))
    | ((with_reducible apply s_mpu); (case h1 | hk => rfl); (case ha | hp => first | rfl | assumption | omega | ((first | refine ⟨?_, ?_⟩ | skip) <;> first | omega | (simp only [lN, hlen, hg, hil0] <;> omega)) | (simp [elemsK, D.isVal, D.cells, D.closedL, D.closed, hlen, hg, hil0]; first | done | omega)))
    | ((with_reducible apply s_lkpS); (case h1 | hk => rfl); (case ha | hf => first | rfl | assumption | omega | ((first | refine ⟨?_, ?_⟩ | skip) <;> first | omega | (simp only [lN, hlen, hg, hil0] <;> omega)) | (simp [elemsK, D.isVal, D.cells, D.closedL, D.closed, hlen, hg, hil0]; first | done | omega)))
    | ((with_reducible apply s_lkpN); (case h1 | hk => rfl); (case hf | ha => first | rfl | assumption | omega | ((first | refine ⟨?_, ?_⟩ | skip) <;> first | omega | (simp only [lN, hlen, hg, hil0] <;> omega)) | (simp [elemsK, D.isVal, D.cells, D.closedL, D.closed, hlen, hg, hil0]; first | done | omega)))
    | with_reducible first | apply cd_dec | apply cd_eq | apply cd_ne | apply cd_split
    | ((with_reducible refine And.intro ?hw ?_); (case hw => first | omega | rfl | exact ⟨_, _, rfl⟩ | assumption | (simp only [lN, hlen, hg, hil0] <;> omega)))
    | with_reducible intro _)
      all_goals first | omega | skip
      refine swp_fam [0, 3, 4, 5, 9, 10, 12, 13, 14] (fun j : Nat => ⟨[rpsD l, .undef, .undef, .gs 0 (i + 1), .mp 0, .int .i64 i, .undef, .undef, .undef, .int .i64 l.length, .int .i64 i, .undef, .slice (strs N) .no, .int .i64 N.length, .int .i64 j, .undef, .undef], [], ⟨[.map (eF (midF R i (N.take j)).2) (midF R i (N.take j)).2.length], [.chg 1 (ints (midF R i (N.take j)).1)]⟩⟩)
        (fun j => j ≤ N.length) (fun j => N.length - j) 0 (by omega) ?_ ?_
      · simp [keepE, St.keep, hmid0, flatD, D.cells, happ, hnl]
      · intro j hj
        have hF := hfi j
        have hfl2 : (midF R i (N.take j)).1.length = i + 1 := by rw [hF.fo.len, hF.inv.len]
        by_cases hjl : j < N.length
        · have t3 : decide (((j : Nat) : Int) < N.length) = true := by simp; omega
          have hgj := strs_get hjl
          have hsn : midF R i (N.take (j + 1)) = nameF i (midF R i (N.take j)) N[j] := by rw [List.take_succ_eq_append_getElem hjl, midF_snoc]
          have hfirst := hF.inv.first N[j]
          have hsnd := hF.snd
          rw [← hsnd] at hfirst
          have hnF : nameF i (midF R i (N.take j)) N[j] = match look (midF R i (N.take j)).2 N[j] with
            | some k => (joinF (midF R i (N.take j)).1 k i, (midF R i (N.take j)).2)
            | none => ((midF R i (N.take j)).1, (midF R i (N.take j)).2 ++ [(N[j], i)]) := rfl
          rw [hnF] at hsn
          have hok := eF_ok (midF R i (N.take j)).2
          cases hlk : look (midF R i (N.take j)).2 N[j] with
          | some k =>
            rw [hlk] at hsn
            simp only at hsn
            obtain ⟨q, hf⟩ := eF_some hlk
            have hk := (hfirst k hlk).1
            have hlen2 := hF.inv.len
            have c2 := join_e hF.inv.lo hF.fo (by omega) (i := k) (k := i) (by omega) (by omega)
            rw [hfl2] at c2
            generalize midF R i (N.take j) = st at *
            have hrn := fun β τ => ints_rn β τ
            repeat' (first
    | with_reducible first | apply swp_seq | apply swp_reg | apply swp_regD | apply swp_block | apply swp_exit | apply swp_ret | apply swp_skip | apply swp_cd
    | simp only [go_sem, seval, pe26, q26, hnl, t3, hgj, hrn, o_newM]
    | simp (disch := omega) only [w64, w32, wu8, wu16, wu32, wu64]
    | ((with_reducible refine o_eff [] [0] (c2) ?hs ?he ?hh ?_); (case hs => exact ⟨by simp, by simp, by simp, by simp⟩); (case he => first | rfl | (simp [go_sem, seval, hnl, hgj, hrn]; done)); (case hh => first | rfl | (simp [go_sem, seval, hnl, hgj, hrn]; done)); rintro _ _ ⟨rfl, rfl⟩)
    | ((with_reducible apply s_appT); (case he => rfl); (case hK | hc | hr | hV => first | rfl | assumption | omega | ((first | refine ⟨?_, ?_⟩ | skip) <;> first | omega | (simp only [lN, hnl, hgj, hrn] <;> omega)) | (simp [elemsK, D.isVal, D.cells, D.closedL, D.closed, hnl, hgj, hrn]; first | done | omega)))
    | ((with_reducible apply s_appG); (case he => rfl); (case hV | hK | hr | hl => first | rfl | assumption | omega | ((first | refine ⟨?_, ?_⟩ | skip) <;> first | omega | (simp only [lN, hnl, hgj, hrn] <;> omega)) | (simp [elemsK, D.isVal, D.cells, D.closedL, D.closed, hnl, hgj, hrn]; first | done | omega)))
    | ((with_reducible apply s_app0); (case he => rfl); (case hK | hc | hr => first | rfl | assumption | omega | ((first | refine ⟨?_, ?_⟩ | skip) <;> first | omega | (simp only [lN, hnl, hgj, hrn] <;> omega)) | (simp [elemsK, D.isVal, D.cells, D.closedL, D.closed, hnl, hgj, hrn]; first | done | omega)))
    | ((with_reducible apply s_appF); (case he => rfl); (case hK | hc | hr | hx | hn => first | rfl | assumption | omega | ((first | refine ⟨?_, ?_⟩ | skip) <;> first | omega | (simp only [lN, hnl, hgj, hrn] <;> omega)) | (simp [elemsK, D.isVal, D.cells, D.closedL, D.closed, hnl, hgj, hrn]; first | done | omega)))
    | ((with_reducible apply s_bsl); (case he | hl | hc => first | rfl | assumption | omega | ((first | refine ⟨?_, ?_⟩ | skip) <;> first | omega | (simp only [lN, hnl, hgj, hrn] <;> omega)) | (simp [elemsK, D.isVal, D.cells, D.closedL, D.closed, hnl, hgj, hrn]; first | done | omega)))
    | ((with_reducible apply s_mpu); (case h1 | hk => rfl); (case ha | hp => first | rfl | assumption | omega | ((first | refine ⟨?_, ?_⟩ | skip) <;> first | omega | (simp only [lN, hnl, hgj, hrn] <;> omega)) | (simp [elemsK, D.isVal, D.cells, D.closedL, D.closed, hnl, hgj, hrn]; first | done | omega)))
    | ((with_reducible apply s_lkpS); (case h1 | hk => rfl); (case ha | hf => first | rfl | assumption | omega | ((first | refine ⟨?_, ?_⟩ | skip) <;> first | omega | (simp only [lN, hnl, hgj, hrn] <;> omega)) | (simp [elemsK, D.isVal, D.cells, D.closedL, D.closed, hnl, hgj, hrn]; first | done | omega)))
    | ((with_reducible apply s_lkpN); (case h1 | hk => rfl); (case hf | ha => first | rfl | assumption | omega | ((first | refine ⟨?_, ?_⟩ | skip) <;> first | omega | (simp only [lN, hnl, hgj, hrn] <;> omega)) | (simp [elemsK, D.isVal, D.cells, D.closedL, D.closed, hnl, hgj, hrn]; first | done | omega)))
    | with_reducible first | apply cd_dec | apply cd_eq | apply cd_ne | apply cd_split
    | ((with_reducible refine And.intro ?hw ?_); (case hw => first | omega | rfl | exact ⟨_, _, rfl⟩ | assumption | (simp only [lN, hnl, hgj, hrn] <;> omega)))
    | with_reducible intro _)
            all_goals first | omega | skip
            refine ⟨j + 1, by omega, by omega, ?_⟩
            rw [hsn]
            simp [keepE, St.keep]
          | none =>
            rw [hlk] at hsn
            simp only at hsn
            have hf := eF_none hlk
            have hp := eF_put (i := i) hlk
            generalize midF R i (N.take j) = st at *
            repeat' (first
    | with_reducible first | apply swp_seq | apply swp_reg | apply swp_regD | apply swp_block | apply swp_exit | apply swp_ret | apply swp_skip | apply swp_cd
    | simp only [go_sem, seval, pe26, q26, hnl, t3, hgj, o_newM]
    | simp (disch := omega) only [w64, w32, wu8, wu16, wu32, wu64]
    | ((with_reducible apply s_appT); (case he => rfl); (case hK | hc | hr | hV => first | rfl | assumption | omega | ((first | refine ⟨?_, ?_⟩ | skip) <;> first | omega | (simp only [lN, hnl, hgj] <;> omega)) | (simp [elemsK, D.isVal, D.cells, D.closedL, D.closed, hnl, hgj]; first | done | omega)))
    | ((with_reducible apply s_appG); (case he => rfl); (case hV | hK | hr | hl => first | rfl | assumption | omega | ((first | refine ⟨?_, ?_⟩ | skip) <;> first | omega | (simp only [lN, hnl, hgj] <;> omega)) | (simp [elemsK, D.isVal, D.cells, D.closedL, D.closed, hnl, hgj]; first | done | omega)))
    | ((with_reducible apply s_app0); (case he => rfl); (case hK | hc | hr => first | rfl | assumption | omega | ((first | refine ⟨?_, ?_⟩ | skip) <;> first | omega | (simp only [lN, hnl, hgj] <;> omega)) | (simp [elemsK, D.isVal, D.cells, D.closedL, D.closed, hnl, hgj]; first | done | omega)))
    | ((with_reducible apply s_appF); (case he => rfl); (case hK | hc | hr | hx | hn => first | rfl | assumption | omega | ((first | refine ⟨?_, ?_⟩ | skip) <;> first | omega | (simp only [lN, hnl, hgj] <;> omega)) | (simp [elemsK, D.isVal, D.cells, D.closedL, D.closed, hnl, hgj]; first | done | omega)))
    | ((with_reducible apply s_bsl); (case he | hl | hc => first | rfl | assumption | omega | ((first | refine ⟨?_, ?_⟩ | skip) <;> first | omega | (simp only [lN, hnl, hgj] <;> omega)) | (simp [elemsK, D.isVal, D.cells, D.closedL, D.closed, hnl, hgj]; first | done | omega)))
    | ((with_reducible apply s_mpu); (case h1 | hk => rfl); (case ha | hp => first | rfl | assumption | omega | ((first | refine ⟨?_, ?_⟩ | skip) <;> first | omega | (simp only [lN, hnl, hgj] <;> omega)) | (simp [elemsK, D.isVal, D.cells, D.closedL, D.closed, hnl, hgj]; first | done | omega)))
    | ((with_reducible apply s_lkpS); (case h1 | hk => rfl); (case ha | hf => first | rfl | assumption | omega | ((first | refine ⟨?_, ?_⟩ | skip) <;> first | omega | (simp only [lN, hnl, hgj] <;> omega)) | (simp [elemsK, D.isVal, D.cells, D.closedL, D.closed, hnl, hgj]; first | done | omega)))
    | ((with_reducible apply s_lkpN); (case h1 | hk => rfl); (case hf | ha => first | rfl | assumption | omega | ((first | refine ⟨?_, ?_⟩ | skip) <;> first | omega | (simp only [lN, hnl, hgj] <;> omega)) | (simp [elemsK, D.isVal, D.cells, D.closedL, D.closed, hnl, hgj]; first | done | omega)))
    | with_reducible first | apply cd_dec | apply cd_eq | apply cd_ne | apply cd_split
    | ((with_reducible refine And.intro ?hw ?_); (case hw => first | omega | rfl | exact ⟨_, _, rfl⟩ | assumption | (simp only [lN, hnl, hgj] <;> omega)))
    | with_reducible intro _)
            all_goals first | omega | skip
            refine ⟨j + 1, by omega, by omega, ?_⟩
            rw [hsn]
            simp [keepE, St.keep, hp]
        · have t3 : decide (((j : Nat) : Int) < N.length) = false := by simp; omega
          have e5 : N.take j = N := List.take_of_length_le (by omega)
          rw [e5, hstep]
          repeat' (first
    | with_reducible first | apply swp_seq | apply swp_reg | apply swp_regD | apply swp_block | apply swp_exit | apply swp_ret | apply swp_skip | apply swp_cd
    | simp only [go_sem, seval, pe26, q26, hnl, t3, o_newM]
    | simp (disch := omega) only [w64, w32, wu8, wu16, wu32, wu64]
    | ((with_reducible apply s_appT); (case he => rfl); (case hK | hc | hr | hV => first | rfl | assumption | omega | ((first | refine ⟨?_, ?_⟩ | skip) <;> first | omega | (simp only [lN, hnl] <;> omega)) | (simp [elemsK, D.isVal, D.cells, D.closedL, D.closed, hnl]; first | done | omega)))
    | ((with_reducible apply s_appG); (case he => rfl); (case hV | hK | hr | hl => first | rfl | assumption | omega | ((first | refine ⟨?_, ?_⟩ | skip) <;> first | omega | (simp only [lN, hnl] <;> omega)) | (simp [elemsK, D.isVal, D.cells, D.closedL, D.closed, hnl]; first | done | omega)))
    | ((with_reducible apply s_app0); (case he => rfl); (case hK | hc | hr => first | rfl | assumption | omega | ((first | refine ⟨?_, ?_⟩ | skip) <;> first | omega | (simp only [lN, hnl] <;> omega)) | (simp [elemsK, D.isVal, D.cells, D.closedL, D.closed, hnl]; first | done | omega)))
    | ((with_reducible apply s_appF); (case he => rfl); (case hK | hc | hr | hx | hn => first | rfl | assumption | omega | ((first | refine ⟨?_, ?_⟩ | skip) <;> first | omega | (simp only [lN, hnl] <;> omega)) | (simp [elemsK, D.isVal, D.cells, D.closedL, D.closed, hnl]; first | done | omega)))
    | ((with_reducible apply s_bsl); (case he | hl | hc => first | rfl | assumption | omega | ((first | refine ⟨?_, ?_⟩ | skip) <;> first | omega | (simp only [lN, hnl] <;> omega)) | (simp [elemsK, D.isVal, D.cells, D.closedL, D.closed, hnl]; first | done | omega)))
    | ((with_reducible apply s_mpu); (case h1 | hk => rfl); (case ha | hp => first | rfl | assumption | omega | ((first | refine ⟨?_, ?_⟩ | skip) <;> first | omega | (simp only [lN, hnl] <;> omega)) | (simp [elemsK, D.isVal, D.cells, D.closedL, D.closed, hnl]; first | done | omega)))
    | ((with_reducible apply s_lkpS); (case h1 | hk => rfl); (case ha | hf => first | rfl | assumption | omega | ((first | refine ⟨?_, ?_⟩ | skip) <;> first | omega | (simp only [lN, hnl] <;> omega)) | (simp [elemsK, D.isVal, D.cells, D.closedL, D.closed, hnl]; first | done | omega)))
    | ((with_reducible apply s_lkpN); (case h1 | hk => rfl); (case hf | ha => first | rfl | assumption | omega | ((first | refine ⟨?_, ?_⟩ | skip) <;> first | omega | (simp only [lN, hnl] <;> omega)) | (simp [elemsK, D.isVal, D.cells, D.closedL, D.closed, hnl]; first | done | omega)))
    | with_reducible first | apply cd_dec | apply cd_eq | apply cd_ne | apply cd_split
    | ((with_reducible refine And.intro ?hw ?_); (case hw => first | omega | rfl | exact ⟨_, _, rfl⟩ | assumption | (simp only [lN, hnl] <;> omega)))
    | with_reducible intro _)
          all_goals first | omega | skip
          refine ⟨i + 1, by omega, by omega, ?_⟩
          simp [keepE, St.keep]
    · have t2 : decide (((i : Nat) : Int) < l.length) = false := by simp; omega
      have : i = l.length := by omega
      subst this
      repeat' (first
    | with_reducible first | apply swp_seq | apply swp_reg | apply swp_regD | apply swp_block | apply swp_exit | apply swp_ret | apply swp_skip | apply swp_cd
    | simp only [go_sem, seval, pe26, q26, hlen, t2, o_newM]
    | simp (disch := omega) only [w64, w32, wu8, wu16, wu32, wu64]
    | ((with_reducible apply s_appT); (case he => rfl); (case hK | hc | hr | hV => first | rfl | assumption | omega | ((first | refine ⟨?_, ?_⟩ | skip) <;> first | omega | (simp only [lN, hlen] <;> omega)) | (simp [elemsK, D.isVal, D.cells, D.closedL, D.closed, hlen]; first | done | omega)))
    | ((with_reducible apply s_appG); (case he => rfl); (case hV | hK | hr | hl => first | rfl | assumption | omega | ((first | refine ⟨?_, ?_⟩ | skip) <;> first | omega | (simp only [lN, hlen] <;> omega)) | (simp [elemsK, D.isVal, D.cells, D.closedL, D.closed, hlen]; first | done | omega)))
    | ((with_reducible apply s_app0); (case he => rfl); (case hK | hc | hr => first | rfl | assumption | omega | ((first | refine ⟨?_, ?_⟩ | skip) <;> first | omega | (simp only [lN, hlen] <;> omega)) | (simp [elemsK, D.isVal, D.cells, D.closedL, D.closed, hlen]; first | done | omega)))
    | ((with_reducible apply s_appF); (case he => rfl); (case hK | hc | hr | hx | hn => first | rfl | assumption | omega | ((first | refine ⟨?_, ?_⟩ | skip) <;> first | omega | (simp only [lN, hlen] <;> omega)) | (simp [elemsK, D.isVal, D.cells, D.closedL, D.closed, hlen]; first | done | omega)))
    | ((with_reducible apply s_bsl); (case he | hl | hc => first | rfl | assumption | omega | ((first | refine ⟨?_, ?_⟩ | skip) <;> first | omega | (simp only [lN, hlen] <;> omega)) | (simp [elemsK, D.isVal, D.cells, D.closedL, D.closed, hlen]; first | done | omega)))
    | ((with_reducible apply s_mpu); (case h1 | hk => rfl); (case ha | hp => first | rfl | assumption | omega | ((first | refine ⟨?_, ?_⟩ | skip) <;> first | omega | (simp only [lN, hlen] <;> omega)) | (simp [elemsK, D.isVal, D.cells, D.closedL, D.closed, hlen]; first | done | omega)))
    | ((with_reducible apply s_lkpS); (case h1 | hk => rfl); (case ha | hf => first | rfl | assumption | omega | ((first | refine ⟨?_, ?_⟩ | skip) <;> first | omega | (simp only [lN, hlen] <;> omega)) | (simp [elemsK, D.isVal, D.cells, D.closedL, D.closed, hlen]; first | done | omega)))
    | ((with_reducible apply s_lkpN); (case h1 | hk => rfl); (case hf | ha => first | rfl | assumption | omega | ((first | refine ⟨?_, ?_⟩ | skip) <;> first | omega | (simp only [lN, hlen] <;> omega)) | (simp [elemsK, D.isVal, D.cells, D.closedL, D.closed, hlen]; first | done | omega)))
    | with_reducible first | apply cd_dec | apply cd_eq | apply cd_ne | apply cd_split
    | ((with_reducible refine And.intro ?hw ?_); (case hw => first | omega | rfl | exact ⟨_, _, rfl⟩ | assumption | (simp only [lN, hlen] <;> omega)))
    | with_reducible intro _)
      all_goals first | omega | skip
      exact ⟨_, weak_refl, rfl, rfl⟩
end Go.Proofs.Ytofnggfpegcllaa
end
section
set_option maxRecDepth 100000
set_option linter.unusedSimpArgs false
set_option linter.unusedVariables false
namespace Go.Proofs.Ytofnggfpegcllaa
open Go GoV Go.RowKit
theorem add_reg {n0 m0 : Nat} (hp0 hp1 : Hp) (x b5 b6 : D) (ys : List D) (o : GoV.Own) (cs : List D) (m k i r : Nat) (Q : Ex → St → Prop) (hH : hp1.H = hp0.H) (h2 : hp0.H[2]? = some (.cells [.gs 1 m])) (t0 : hp0.tk[1]? = some (.chg 1 cs)) (t1 : hp1.tk[1]? = some (.chg 1 cs))
    (hm : cs.length = m) (hk : k < m) (hx : cs.getD k .undef = x) (happ : opWp (.app 1 8 3) [x, .slice [.int .i64 (i : Nat)] .full] hp0 fun d hp => d = .slice ys o ∧ hp = hp1)
    (hQ : Q .normal ⟨[.int .i64 (i : Nat), .int .i64 (r : Nat), .ptr 1 0, .ptr 2 0, .int .i64 (k : Nat), b5, b6], [], ⟨hp1.H, hp1.tk.set 1 (.chg 1 (cs.set k (.slice ys o)))⟩⟩) :
    SWp (E28 n0 m0) (.regD r28_5 r28_6) Q ⟨[.int .i64 (i : Nat), .int .i64 (r : Nat), .ptr 1 0, .ptr 2 0, .int .i64 (k : Nat), b5, b6], [], hp0⟩ := by
  have still : ∀ k, k ≠ 8 → Still (fun E : Nat → Bool => if E 8 then hp1 else hp0) k := fun k h8 E _ => by
    have q8 : (8 == k) = false := beq_false_of_ne (Ne.symm h8)
    simp only [q8, Bool.or_false]
  have ld : ∀ E : Nat → Bool, OcWp M (.ld false 1) [.ptr 2 0] ((fun E : Nat → Bool => if E 8 then hp1 else hp0) E) (fun d' hp' => d' = .gs 1 m ∧ hp' = (fun E : Nat → Bool => if E 8 then hp1 else hp0) E) := fun E => by
    simp only [OcWp, isCall, Bool.false_eq_true, if_false, opWp]
    refine ⟨.cells [.gs 1 m], [.gs 1 m], ?_, rfl, by simp, rfl, trivial⟩
    split
    · rw [hH]; exact h2
    · exact h2
  refine swp_regDG (fun E => if E 8 then hp1 else hp0) [] (by decide) rfl ?_
  rw [pe28]
  refine v_q (ds := [.ptr 2 0]) (.gs 1 m) rfl (still _ (by decide)) (fun E _ => ld E) ?_
  refine v_q (ds := [.int .i64 (k : Nat)]) (.int .i64 (k : Nat)) rfl (still _ (by decide)) (fun E _ => by simp [OcWp, isCall, opWp]) ?_
  refine v_q (ds := [.ptr 2 0]) (.gs 1 m) rfl (still _ (by decide)) (fun E _ => ld E) ?_
  refine v_q (ds := [.int .i64 (k : Nat)]) (.int .i64 (k : Nat)) rfl (still _ (by decide)) (fun E _ => by simp [OcWp, isCall, opWp]) ?_
  refine v_q (ds := [.gs 1 m, .int .i64 (k : Nat)]) (.gp 1 m k) rfl (still _ (by decide)) (fun E _ => ?_) ?_
  · simp only [OcWp, isCall, Bool.false_eq_true, if_false, opWp]
    exact ⟨by omega, by omega, by simp, trivial⟩
  refine v_q (ds := [.gp 1 m k]) x rfl (still _ (by decide)) (fun E _ => ?_) ?_
  · simp only [OcWp, isCall, Bool.false_eq_true, if_false, opWp]
    refine ⟨1, cs, ?_, by omega, by omega, hx, trivial⟩
    split
    · exact t1
    · exact t0
  refine v_q (ds := [.int .i64 (i : Nat)]) (.int .i64 (i : Nat)) rfl (still _ (by decide)) (fun E _ => by simp [OcWp, isCall, opWp]) ?_
  refine v_q (ds := [.int .i64 (i : Nat)]) (.slice [.int .i64 (i : Nat)] .full) rfl (still _ (by decide)) (fun E _ => by simp [OcWp, isCall, opWp, elemsK, D.closedL, D.erL, D.closed, D.er, D.isVal, D.cells]) ?_
  refine v_c (ds := [x, .slice [.int .i64 (i : Nat)] .full]) (d := .slice ys o) rfl (fun E hE hG hR => ?_) ?_
  · simp only [hE, Bool.false_or, beq_self_eq_true, if_true, Bool.false_eq_true, if_false, OcWp, isCall]
    exact happ
  refine v_end (hp' := hp1) (by simp) ?_
  have hg := t1
  have hl1 : k + 1 ≤ cs.length := by omega
  obtain ⟨H1, T1⟩ := hp1
  simp only at hg hQ ⊢
  repeat' (first
    | with_reducible first | apply swp_seq | apply swp_reg | apply swp_regD | apply swp_block | apply swp_exit | apply swp_ret | apply swp_skip | apply swp_cd
    | simp only [go_sem, seval, pe28, q28, Nat.mul_one, hg, setL]
    | ((with_reducible apply s_appT); (case he => rfl); (case hK | hc | hr | hV => first | rfl | assumption | omega | ((first | refine ⟨?_, ?_⟩ | skip) <;> first | omega | (simp only [lN, hg] <;> omega)) | (simp [elemsK, D.isVal, D.cells, D.closedL, D.closed, hg]; first | done | omega)))
    | ((with_reducible apply s_appG); (case he => rfl); (case hV | hK | hr | hl => first | rfl | assumption | omega | ((first | refine ⟨?_, ?_⟩ | skip) <;> first | omega | (simp only [lN, hg] <;> omega)) | (simp [elemsK, D.isVal, D.cells, D.closedL, D.closed, hg]; first | done | omega)))
    | ((with_reducible first | apply s_app0 | apply t_app0); (case he => rfl); (case hK | hc | hr => first | rfl | assumption | omega | ((first | refine ⟨?_, ?_⟩ | skip) <;> first | omega | (simp only [lN, hg] <;> omega)) | (simp [elemsK, D.isVal, D.cells, D.closedL, D.closed, hg]; first | done | omega)))
    | ((with_reducible first | apply s_appF | apply t_appF); (case he => rfl); (case hK | hc | hr | hx | hn => first | rfl | assumption | omega | ((first | refine ⟨?_, ?_⟩ | skip) <;> first | omega | (simp only [lN, hg] <;> omega)) | (simp [elemsK, D.isVal, D.cells, D.closedL, D.closed, hg]; first | done | omega)))
    | ((with_reducible first | apply s_bsl | apply t_bsl); (case he | hl | hc => first | rfl | assumption | omega | ((first | refine ⟨?_, ?_⟩ | skip) <;> first | omega | (simp only [lN, hg] <;> omega)) | (simp [elemsK, D.isVal, D.cells, D.closedL, D.closed, hg]; first | done | omega)))
    | ((with_reducible apply s_mpu); (case h1 | hk => rfl); (case ha | hp => first | rfl | assumption | omega | ((first | refine ⟨?_, ?_⟩ | skip) <;> first | omega | (simp only [lN, hg] <;> omega)) | (simp [elemsK, D.isVal, D.cells, D.closedL, D.closed, hg]; first | done | omega)))
    | ((with_reducible apply s_lkpS); (case h1 | hk => rfl); (case ha | hf => first | rfl | assumption | omega | ((first | refine ⟨?_, ?_⟩ | skip) <;> first | omega | (simp only [lN, hg] <;> omega)) | (simp [elemsK, D.isVal, D.cells, D.closedL, D.closed, hg]; first | done | omega)))
    | ((with_reducible apply s_lkpN); (case h1 | hk => rfl); (case hf | ha => first | rfl | assumption | omega | ((first | refine ⟨?_, ?_⟩ | skip) <;> first | omega | (simp only [lN, hg] <;> omega)) | (simp [elemsK, D.isVal, D.cells, D.closedL, D.closed, hg]; first | done | omega)))
    | with_reducible first | apply cd_dec | apply cd_eq | apply cd_ne | apply cd_split
    | ((with_reducible refine And.intro ?hw ?_); (case hw => first | omega | rfl | exact ⟨_, _, rfl⟩ | assumption | (simp only [lN, hg] <;> omega)))
    | with_reducible intro _)
  all_goals first | omega | trivial | skip
  all_goals first | exact hQ | trace_state
set_option maxHeartbeats 1000000 in
theorem add_new {E E' : List (D × D × Nat)} {n r i : Nat} {outs : List D} {T : List Tv} {fd : Tv} (hok : (E.all fun e => keyOk (.int .i64) e.1) = true) (hf : findM (.int .i64 (r : Nat)) E 0 = none) (hp : putM E n (.int .i64 (r : Nat)) (.int .i64 (n : Nat)) = .map E' (n + 1))
    (ho : outs.length = n) (hT : T.length = n) (hn : n ≤ 1000) :
    Eff M 28 [.int .i64 (i : Nat), .int .i64 (r : Nat), .ptr 1 0, .ptr 2 0] ⟨[.map E n, .cells [.mp 0], .cells [.gs 1 n]], fd :: .chg 1 outs :: T⟩
      fun d hp => d = .tup [] ∧ hp = ⟨[.map E' (n + 1), .cells [.mp 0], .cells [.gs 1 (n + 1)]], fd :: .chg 1 (outs ++ [.slice [.int .i64 (i : Nat)] (.tok (n + 2))]) :: (T ++ [.per 1 1])⟩ := by
  refine oe28 3 (n + 2) rfl rfl (by simp [hT]) ?_
  rw [ie28]
  unfold c28
  generalize hrc : RC.regD r28_5 r28_6 = rc at *
  repeat' (first
    | with_reducible first | apply swp_seq | apply swp_reg | apply swp_regD | apply swp_block | apply swp_exit | apply swp_ret | apply swp_skip | apply swp_cd
    | simp only [go_sem, seval, pe28, q28, hp]
    | simp (disch := omega) only [w64, w32, wu8, wu16, wu32, wu64]
    | ((with_reducible apply s_appT); (case he => rfl); (case hK | hc | hr | hV => first | rfl | assumption | omega | ((first | refine ⟨?_, ?_⟩ | skip) <;> first | omega | (simp only [lN, ho] <;> omega)) | (simp [elemsK, D.isVal, D.cells, D.closedL, D.closed, ho]; first | done | omega)))
    | ((with_reducible apply s_appG); (case he => rfl); (case hV | hK | hr | hl => first | rfl | assumption | omega | ((first | refine ⟨?_, ?_⟩ | skip) <;> first | omega | (simp only [lN, ho] <;> omega)) | (simp [elemsK, D.isVal, D.cells, D.closedL, D.closed, ho]; first | done | omega)))
    | ((with_reducible apply s_app0G); (case he => rfl); (case hK | hr => first | rfl | assumption | omega | ((first | refine ⟨?_, ?_⟩ | skip) <;> first | omega | (simp only [lN, ho] <;> omega)) | (simp [elemsK, D.isVal, D.cells, D.closedL, D.closed, ho]; first | done | omega)))
    | ((with_reducible first | apply s_bsl | apply t_bsl); (case he | hl | hc => first | rfl | assumption | omega | ((first | refine ⟨?_, ?_⟩ | skip) <;> first | omega | (simp only [lN, ho] <;> omega)) | (simp [elemsK, D.isVal, D.cells, D.closedL, D.closed, ho]; first | done | omega)))
    | ((with_reducible apply s_mpu); (case h1 | hk => rfl); (case ha | hp => first | rfl | assumption | omega | ((first | refine ⟨?_, ?_⟩ | skip) <;> first | omega | (simp only [lN, ho] <;> omega)) | (simp [elemsK, D.isVal, D.cells, D.closedL, D.closed, ho]; first | done | omega)))
    | ((with_reducible apply s_lkpS); (case h1 | hk => rfl); (case ha | hf => first | rfl | assumption | omega | ((first | refine ⟨?_, ?_⟩ | skip) <;> first | omega | (simp only [lN, ho] <;> omega)) | (simp [elemsK, D.isVal, D.cells, D.closedL, D.closed, ho]; first | done | omega)))
    | ((with_reducible apply s_lkpN); (case h1 | hk => rfl); (case hf | ha => first | rfl | assumption | omega | ((first | refine ⟨?_, ?_⟩ | skip) <;> first | omega | (simp only [lN, ho] <;> omega)) | (simp [elemsK, D.isVal, D.cells, D.closedL, D.closed, ho]; first | done | omega)))
    | with_reducible first | apply cd_dec | apply cd_eq | apply cd_ne | apply cd_split
    | ((with_reducible refine And.intro ?hw ?_); (case hw => first | omega | rfl | exact ⟨_, _, rfl⟩ | assumption | (simp only [lN, ho] <;> omega)))
    | with_reducible intro _)
  all_goals first | omega | skip
  have hcat : flatD [D.lit (.slice none 0 0)] = [.lit (.slice none 0 0)] := rfl
  rw [← hrc]
  refine add_reg _ ⟨[.map E' (n + 1), .cells [.mp 0], .cells [.gs 1 (n + 1)]], fd :: .chg 1 (outs ++ [.lit (.slice none 0 0)]) :: (T ++ [.per 1 1])⟩ (.lit (.slice none 0 0)) _ _ [.int .i64 (i : Nat)] (.tok (n + 2)) (outs ++ [.lit (.slice none 0 0)]) (n + 1) n i r _ rfl rfl rfl rfl (by simp [ho]) (by omega) (by simp [List.getD, ho]) ?_ ?_
  · simp only [opWp]
    refine ⟨[.int .i64 (i : Nat)], rfl, rfl, ⟨by simp, by simp⟩, .inl ⟨rfl, .inr ⟨?_, ?_⟩⟩⟩
    · simp [D.erL, D.er, hT]
    · simp
  · refine ⟨trivial, _, weak_refl, ?_⟩
    have : (outs ++ [D.lit (.slice none 0 0)]).set n (.slice [.int .i64 (i : Nat)] (.tok (n + 2))) = outs ++ [.slice [.int .i64 (i : Nat)] (.tok (n + 2))] := by
      rw [List.set_append_right _ _ (by omega)]; simp [ho]
    simp [this]
set_option maxHeartbeats 1000000 in
theorem add_first {E E' : List (D × D × Nat)} {r i : Nat} {fd : Tv} (hok : (E.all fun e => keyOk (.int .i64) e.1) = true) (hf : findM (.int .i64 (r : Nat)) E 0 = none) (hp : putM E 0 (.int .i64 (r : Nat)) (.int .i64 0) = .map E' 1) :
    Eff M 28 [.int .i64 (i : Nat), .int .i64 (r : Nat), .ptr 1 0, .ptr 2 0] ⟨[.map E 0, .cells [.mp 0], .cells [.lit (.slice none 0 0)]], [fd]⟩
      fun d hp => d = .tup [] ∧ hp = ⟨[.map E' 1, .cells [.mp 0], .cells [.gs 1 1]], [fd, .chg 1 [.slice [.int .i64 (i : Nat)] (.tok 2)], .per 1 1]⟩ := by
  refine oe28 3 1 rfl rfl rfl ?_
  rw [ie28]
  unfold c28
  generalize hrc : RC.regD r28_5 r28_6 = rc at *
  repeat' (first
    | with_reducible first | apply swp_seq | apply swp_reg | apply swp_regD | apply swp_block | apply swp_exit | apply swp_ret | apply swp_skip | apply swp_cd
    | simp only [go_sem, seval, pe28, q28, hp, flatD, D.cells]
    | simp (disch := omega) only [w64, w32, wu8, wu16, wu32, wu64]
    | ((with_reducible apply s_appT); (case he => rfl); (case hK | hc | hr | hV => first | rfl | assumption | omega | ((first | refine ⟨?_, ?_⟩ | skip) <;> first | omega | (simp only [lN] <;> omega)) | (simp [elemsK, D.isVal, D.cells, D.closedL, D.closed]; first | done | omega)))
    | ((with_reducible apply s_appG); (case he => rfl); (case hV | hK | hr | hl => first | rfl | assumption | omega | ((first | refine ⟨?_, ?_⟩ | skip) <;> first | omega | (simp only [lN] <;> omega)) | (simp [elemsK, D.isVal, D.cells, D.closedL, D.closed]; first | done | omega)))
    | ((with_reducible apply s_app0G); (case he => rfl); (case hK | hr => first | rfl | assumption | omega | ((first | refine ⟨?_, ?_⟩ | skip) <;> first | omega | (simp only [lN] <;> omega)) | (simp [elemsK, D.isVal, D.cells, D.closedL, D.closed]; first | done | omega)))
    | ((with_reducible first | apply s_bsl | apply t_bsl); (case he | hl | hc => first | rfl | assumption | omega | ((first | refine ⟨?_, ?_⟩ | skip) <;> first | omega | (simp only [lN] <;> omega)) | (simp [elemsK, D.isVal, D.cells, D.closedL, D.closed]; first | done | omega)))
    | ((with_reducible apply s_mpu); (case h1 | hk => rfl); (case ha | hp => first | rfl | assumption | omega | ((first | refine ⟨?_, ?_⟩ | skip) <;> first | omega | (simp only [lN] <;> omega)) | (simp [elemsK, D.isVal, D.cells, D.closedL, D.closed]; first | done | omega)))
    | ((with_reducible apply s_lkpS); (case h1 | hk => rfl); (case ha | hf => first | rfl | assumption | omega | ((first | refine ⟨?_, ?_⟩ | skip) <;> first | omega | (simp only [lN] <;> omega)) | (simp [elemsK, D.isVal, D.cells, D.closedL, D.closed]; first | done | omega)))
    | ((with_reducible apply s_lkpN); (case h1 | hk => rfl); (case hf | ha => first | rfl | assumption | omega | ((first | refine ⟨?_, ?_⟩ | skip) <;> first | omega | (simp only [lN] <;> omega)) | (simp [elemsK, D.isVal, D.cells, D.closedL, D.closed]; first | done | omega)))
    | with_reducible first | apply cd_dec | apply cd_eq | apply cd_ne | apply cd_split
    | ((with_reducible refine And.intro ?hw ?_); (case hw => first | omega | rfl | exact ⟨_, _, rfl⟩ | assumption | (simp only [lN] <;> omega)))
    | with_reducible intro _)
  all_goals first | omega | skip
  rw [← hrc]
  refine add_reg (k := 0) _ ⟨[.map E' 1, .cells [.mp 0], .cells [.gs 1 1]], [fd, .chg 1 [.lit (.slice none 0 0)], .per 1 1]⟩ (.lit (.slice none 0 0)) _ _ [.int .i64 (i : Nat)] (.tok 2) [.lit (.slice none 0 0)] 1 i r _ rfl rfl rfl rfl rfl (by omega) rfl ?_ ?_
  · simp only [opWp]
    refine ⟨[.int .i64 (i : Nat)], rfl, rfl, ⟨by simp, by simp⟩, .inl ⟨rfl, .inr ⟨?_, ?_⟩⟩⟩
    · simp [D.erL, D.er]
    · simp
  · refine ⟨trivial, _, weak_refl, ?_⟩
    simp
set_option maxHeartbeats 1000000 in
theorem add_old {E : List (D × D × Nat)} {n r i c j : Nat} {outs xs : List D} {T : List Tv} {fd : Tv} (hok : (E.all fun e => keyOk (.int .i64) e.1) = true) (hf : findM (.int .i64 (r : Nat)) E 0 = some (j, .int .i64 (c : Nat)))
    (ho : outs.length = n) (hT : T.length = n) (hn : n ≤ 1000) (hc : c < n) (hx : outs.getD c .undef = .slice xs (.tok (c + 2))) (hTc : T[c]? = some (.per 1 xs.length)) (hxl : xs.length ≤ 1000) :
    Eff M 28 [.int .i64 (i : Nat), .int .i64 (r : Nat), .ptr 1 0, .ptr 2 0] ⟨[.map E n, .cells [.mp 0], .cells [.gs 1 n]], fd :: .chg 1 outs :: T⟩
      fun d hp => d = .tup [] ∧ hp = ⟨[.map E n, .cells [.mp 0], .cells [.gs 1 n]], fd :: .chg 1 (outs.set c (.slice (xs ++ [.int .i64 (i : Nat)]) (.tok (c + 2)))) :: T.set c (.per 1 (xs.length + 1))⟩ := by
  refine oe28 3 (n + 2) rfl rfl (by simp [hT]) ?_
  rw [ie28]
  unfold c28
  generalize hrc : RC.regD r28_5 r28_6 = rc at *
  repeat' (first
    | with_reducible first | apply swp_seq | apply swp_reg | apply swp_regD | apply swp_block | apply swp_exit | apply swp_ret | apply swp_skip | apply swp_cd
    | simp only [go_sem, seval, pe28, q28]
    | simp (disch := omega) only [w64, w32, wu8, wu16, wu32, wu64]
    | ((with_reducible apply s_appT); (case he => rfl); (case hK | hc | hr | hV => first | rfl | assumption | omega | ((first | refine ⟨?_, ?_⟩ | skip) <;> first | omega | (simp only [lN, ho] <;> omega)) | (simp [elemsK, D.isVal, D.cells, D.closedL, D.closed, ho]; first | done | omega)))
    | ((with_reducible apply s_appG); (case he => rfl); (case hV | hK | hr | hl => first | rfl | assumption | omega | ((first | refine ⟨?_, ?_⟩ | skip) <;> first | omega | (simp only [lN, ho] <;> omega)) | (simp [elemsK, D.isVal, D.cells, D.closedL, D.closed, ho]; first | done | omega)))
    | ((with_reducible apply s_app0G); (case he => rfl); (case hK | hr => first | rfl | assumption | omega | ((first | refine ⟨?_, ?_⟩ | skip) <;> first | omega | (simp only [lN, ho] <;> omega)) | (simp [elemsK, D.isVal, D.cells, D.closedL, D.closed, ho]; first | done | omega)))
    | ((with_reducible first | apply s_bsl | apply t_bsl); (case he | hl | hc => first | rfl | assumption | omega | ((first | refine ⟨?_, ?_⟩ | skip) <;> first | omega | (simp only [lN, ho] <;> omega)) | (simp [elemsK, D.isVal, D.cells, D.closedL, D.closed, ho]; first | done | omega)))
    | ((with_reducible apply s_mpu); (case h1 | hk => rfl); (case ha | hp => first | rfl | assumption | omega | ((first | refine ⟨?_, ?_⟩ | skip) <;> first | omega | (simp only [lN, ho] <;> omega)) | (simp [elemsK, D.isVal, D.cells, D.closedL, D.closed, ho]; first | done | omega)))
    | ((with_reducible apply s_lkpS); (case h1 | hk => rfl); (case ha | hf => first | rfl | assumption | omega | ((first | refine ⟨?_, ?_⟩ | skip) <;> first | omega | (simp only [lN, ho] <;> omega)) | (simp [elemsK, D.isVal, D.cells, D.closedL, D.closed, ho]; first | done | omega)))
    | ((with_reducible apply s_lkpN); (case h1 | hk => rfl); (case hf | ha => first | rfl | assumption | omega | ((first | refine ⟨?_, ?_⟩ | skip) <;> first | omega | (simp only [lN, ho] <;> omega)) | (simp [elemsK, D.isVal, D.cells, D.closedL, D.closed, ho]; first | done | omega)))
    | with_reducible first | apply cd_dec | apply cd_eq | apply cd_ne | apply cd_split
    | ((with_reducible refine And.intro ?hw ?_); (case hw => first | omega | rfl | exact ⟨_, _, rfl⟩ | assumption | (simp only [lN, ho] <;> omega)))
    | with_reducible intro _)
  all_goals first | omega | skip
  rw [← hrc]
  refine add_reg _ ⟨[.map E n, .cells [.mp 0], .cells [.gs 1 n]], fd :: .chg 1 outs :: T.set c (.per 1 (xs.length + 1))⟩ (.slice xs (.tok (c + 2))) _ _ (xs ++ [.int .i64 (i : Nat)]) (.tok (c + 2)) outs n c i r _ rfl rfl rfl rfl ho hc hx ?_ ?_
  · simp only [opWp]
    refine ⟨[.int .i64 (i : Nat)], rfl, rfl, ⟨?_, ?_⟩, rfl, ?_, ?_⟩
    · simp; omega
    · simp; omega
    · simpa using hTc
    · simp [D.erL, D.er]
  · refine ⟨trivial, _, weak_refl, ?_⟩
    simp
end Go.Proofs.Ytofnggfpegcllaa
end
section
set_option maxRecDepth 100000
set_option linter.unusedSimpArgs false
set_option linter.unusedVariables false
namespace Go.Proofs.Ytofnggfpegcllaa
open Go GoV Go.RowKit
def ixC (L : List Nat) (r : Nat) : Nat := (rtsC L L.length).idxOf r
def plE (L : List Nat) (i : Nat) : List (D × D × Nat) := entG (fun n : Nat => .int .i64 (n : Nat)) (fun r => .int .i64 (ixC L r : Nat)) (rtsC L i) 0
def outD (C : List (List Nat)) : List D := C.mapIdx fun j c => .slice (ints c) (.tok (j + 2))
def perC (C : List (List Nat)) : List Tv := C.map fun c => .per 1 c.length
def compsD (C : List (List Nat)) : List D := C.map fun c => .slice (ints c) .no
theorem rtsC_pre (L : List Nat) {i j : Nat} (h : i ≤ j) : rtsC L i <+: rtsC L j := by
  unfold rtsC
  refine List.IsPrefix.filter _ ?_
  refine ⟨List.range' i (j - i), ?_⟩
  rw [List.range_eq_range', List.range_eq_range']
  have := List.range'_append (s := 0) (m := i) (n := j - i) (step := 1)
  simp at this
  rw [this]; congr 1; omega
theorem rtsC_new {L : List Nat} {i : Nat} (e : lb L i = i) : rtsC L (i + 1) = rtsC L i ++ [i] := by
  unfold rtsC
  rw [List.range_succ, List.filter_append, List.filter_cons, if_pos (by rw [beq_iff_eq]; exact e)]; rfl
theorem rtsC_old {L : List Nat} {i : Nat} (e : lb L i ≠ i) : rtsC L (i + 1) = rtsC L i := by
  unfold rtsC
  rw [List.range_succ, List.filter_append, List.filter_cons, if_neg (by rw [beq_iff_eq]; exact e)]; simp
theorem rtsC_mem {L : List Nat} {i r : Nat} : r ∈ rtsC L i ↔ r < i ∧ lb L r = r := by unfold rtsC; rw [List.mem_filter]; simp
theorem rtsC_nodup (L : List Nat) (i : Nat) : (rtsC L i).Nodup := by unfold rtsC; exact List.nodup_range.filter _
theorem rtsC_le (L : List Nat) (i : Nat) : (rtsC L i).length ≤ i := by
  unfold rtsC
  refine Nat.le_trans (List.length_filter_le _ _) ?_
  simp
theorem ixC_get {L : List Nat} {i c : Nat} (hi : i ≤ L.length) (hc : c < (rtsC L i).length) : ixC L (rtsC L i)[c] = c := by
  obtain ⟨t, ht⟩ := rtsC_pre L hi
  unfold ixC
  have e : (rtsC L i)[c] = (rtsC L L.length)[c]'(by rw [← ht, List.length_append]; omega) := by
    simp only [← ht]
    rw [List.getElem_append_left hc]
  rw [e, (rtsC_nodup L L.length).idxOf_getElem]
theorem outC_len (L : List Nat) (i : Nat) : (outC L i).length = (rtsC L i).length := by simp [outC, rtsC]
theorem outD_len (C : List (List Nat)) : (outD C).length = C.length := by simp [outD]
theorem plE_ok (L : List Nat) (i : Nat) : ((plE L i).all fun e => keyOk (.int .i64) e.1) = true := entG_ok keyInt _ _
theorem plE_new {L : List Nat} {i : Nat} (hi : i < L.length) (e : lb L i = i) : findM (.int .i64 (i : Nat)) (plE L i) 0 = none ∧ putM (plE L i) (rtsC L i).length (.int .i64 (i : Nat)) (.int .i64 ((rtsC L i).length : Nat)) = .map (plE L (i + 1)) ((rtsC L i).length + 1) := by
  have hn : i ∉ rtsC L i := fun h => by have := (rtsC_mem.1 h).1; omega
  refine ⟨entG_none keyInt hn, ?_⟩
  have := entG_new (vf := fun r : Nat => .int .i64 (ixC L r : Nat)) keyInt (.int .i64 ((rtsC L i).length : Nat)) hn
  unfold plE
  rw [this, rtsC_new e]
  have hix : ixC L i = (rtsC L i).length := by
    have h1 : (rtsC L (i + 1)).length = (rtsC L i).length + 1 := by rw [rtsC_new e, List.length_append]; rfl
    have := ixC_get (L := L) (i := i + 1) (c := (rtsC L i).length) (by omega) (by omega)
    simp only [rtsC_new e] at this
    simpa using this
  have hu : upd (fun r : Nat => D.int .i64 (ixC L r : Nat)) i (.int .i64 ((rtsC L i).length : Nat)) = fun r => .int .i64 (ixC L r : Nat) := by
    funext r
    unfold upd
    split
    · rename_i q; subst q; rw [hix]
    · rfl
  rw [hu]
theorem plE_old {L : List Nat} (hL : Lo L) {i : Nat} (hi : i < L.length) (e : lb L i ≠ i) : ∃ j c, findM (.int .i64 (lb L i : Nat)) (plE L i) 0 = some (j, .int .i64 (c : Nat)) ∧ ∃ h : c < (rtsC L i).length, (rtsC L i)[c] = lb L i := by
  obtain ⟨h1, h2⟩ := hL i hi
  have hm : lb L i ∈ rtsC L i := rtsC_mem.2 ⟨by omega, h2⟩
  obtain ⟨j, hj⟩ := entG_some (vf := fun r : Nat => .int .i64 (ixC L r : Nat)) keyInt hm
  obtain ⟨c, hc, hcr⟩ := List.getElem_of_mem hm
  refine ⟨j, c, ?_, hc, hcr⟩
  unfold plE
  rw [hj, ← hcr, ixC_get (by omega) hc]
def cH (L : List Nat) (i : Nat) (F : List Nat) : Hp :=
  if i = 0 then ⟨[.map [] 0, .cells [.mp 0], .cells [.lit (.slice none 0 0)]], [.chg 1 (ints F)]⟩
  else ⟨[.map (plE L i) (rtsC L i).length, .cells [.mp 0], .cells [.gs 1 (rtsC L i).length]], .chg 1 (ints F) :: .chg 1 (outD (outC L i)) :: perC (outC L i)⟩
theorem add_e {L : List Nat} (hL : Lo L) {i : Nat} (hi : i < L.length) (hN : L.length ≤ 1000) (F : List Nat) :
    Eff M 28 [.int .i64 (i : Nat), .int .i64 (lb L i : Nat), .ptr 1 0, .ptr 2 0] (cH L i F) fun d hp => d = .tup [] ∧ hp = cH L (i + 1) F := by
  have hok := plE_ok L i
  have hol := outC_len L i
  have hle := rtsC_le L i
  unfold cH
  rw [if_neg (show i + 1 ≠ 0 by omega)]
  by_cases e : lb L i = i
  · obtain ⟨h1, h2⟩ := plE_new hi e
    have ho := outC_new hL hi e
    rw [rtsC_new e, ho, e]
    have d1 : outD (outC L i ++ [[i]]) = outD (outC L i) ++ [.slice [.int .i64 (i : Nat)] (.tok ((rtsC L i).length + 2))] := by
      unfold outD; rw [List.mapIdx_append]; simp [ints, hol]
    have d2 : perC (outC L i ++ [[i]]) = perC (outC L i) ++ [.per 1 1] := by simp [perC]
    rw [d1, d2, List.length_append]
    by_cases h0 : i = 0
    · subst h0
      have r0 : rtsC L 0 = [] := rfl
      have o0 : outC L 0 = [] := rfl
      have p0 : plE L 0 = [] := rfl
      rw [if_pos rfl, r0, o0]
      rw [r0, p0] at h2
      rw [p0] at h1 hok
      exact add_first (i := 0) hok h1 h2
    · rw [if_neg h0]
      exact add_new hok h1 h2 (by rw [outD_len, hol]) (by simp [perC, hol]) (by omega)
  · obtain ⟨j, c, h1, hc, hcr⟩ := plE_old hL hi e
    have h0 : i ≠ 0 := fun q => by subst q; have := (hL 0 hi).1; omega
    have ho := outC_old hL hi e hc hcr
    have hpl : plE L (i + 1) = plE L i := by unfold plE; rw [rtsC_old e]
    rw [if_neg h0, rtsC_old e, hpl, ho]
    have hco : c < (outC L i).length := by omega
    have hget : (outC L i).getD c [] = (outC L i)[c] := by simp [List.getD, hco]
    have hx : (outD (outC L i)).getD c .undef = .slice (ints (outC L i)[c]) (.tok (c + 2)) := by simp [outD, List.getD, hco]
    have hl1 : ((outC L i)[c]).length ≤ 1000 := by
      have : (outC L i)[c] = (List.range i).filter fun x => lb L x == (rtsC L i)[c] := by simp [outC, rtsC]
      rw [this]
      refine Nat.le_trans (List.length_filter_le _ _) ?_
      simp; omega
    have := add_old (i := i) (r := lb L i) (T := perC (outC L i)) (fd := .chg 1 (ints F)) hok h1 (by rw [outD_len, hol]) (by simp [perC, hol]) (by omega) hc hx (by simp [perC, hco, ints_len]) (by rw [ints_len]; exact hl1)
    have d1 : outD ((outC L i).set c ((outC L i).getD c [] ++ [i])) = (outD (outC L i)).set c (.slice (ints (outC L i)[c] ++ [.int .i64 (i : Nat)]) (.tok (c + 2))) := by
      unfold outD; rw [List.mapIdx_set, hget]; simp [ints]
    have d2 : perC ((outC L i).set c ((outC L i).getD c [] ++ [i])) = (perC (outC L i)).set c (.per 1 ((ints (outC L i)[c]).length + 1)) := by
      unfold perC; rw [List.map_set, hget]; simp [ints_len]
    rw [d1, d2]
    exact this
end Go.Proofs.Ytofnggfpegcllaa
end
section
set_option maxRecDepth 100000
set_option linter.unusedSimpArgs false
set_option linter.unusedVariables false
namespace Go.Proofs.Ytofnggfpegcllaa
open Go GoV Go.RowKit
set_option maxHeartbeats 2000000 in
theorem components_p (l : List Rp) (hl : l.length ≤ 1000) (hs : Small l) : Pur M 13 [rpsD l] (.slice (compsD (comps (namesL l))) .no) := by
  have cl := linked_e l hl hs
  have hfo := foF_fo (namesL l)
  have hlo := labs_lo (namesL l)
  have hln : (labs (namesL l)).length = l.length := by rw [labs_len, namesL_len]
  have hlen : (l.map rpD).length = l.length := by simp
  unfold comps
  have hcomps : compsL (labs (namesL l)) = outC (labs (namesL l)) l.length := by rw [← hln]; rfl
  rw [hcomps]
  have hF0 : (lnkF (namesL l) l.length).1 = foF (namesL l) := by unfold foF; rw [namesL_len]
  rw [hF0] at cl
  have hrnE := fun β τ => eF_rn β τ (lnkF (namesL l) l.length).2
  generalize (lnkF (namesL l) l.length).2 = MF at *
  generalize foF (namesL l) = F0 at *
  generalize labs (namesL l) = L at *
  generalize eF MF = EF at *
  have hclr := closedL_R l
  have herr := erL_R l
  have hcl2 : ∀ C : List (List Nat), D.closedL (compsD C) = true ∧ D.erL (compsD C) = compsD C := fun C => by
    induction C with
    | nil => exact ⟨rfl, rfl⟩
    | cons c C ih => simp [compsD, D.closedL, D.erL, D.closed, D.er] at ih ⊢; exact ih
  have hrn := fun β τ F => ints_rn β τ F
  by_cases h0 : l.length = 0
  · have ho : outC L l.length = [] := by rw [h0]; rfl
    rw [ho]
    refine pur_res (d := .lit (.slice none 0 0)) ?_ rfl
    refine ow13 rfl ?_
    rw [i13]
    unfold c13
    repeat' (first
    | with_reducible first | apply swp_seq | apply swp_reg | apply swp_regD | apply swp_block | apply swp_exit | apply swp_ret | apply swp_skip | apply swp_cd
    | simp only [go_sem, seval, P13, q13, hrn, hrnE, o_newM]
    | simp (disch := omega) only [w64, w32, wu8, wu16, wu32, wu64]
    | ((with_reducible refine o_eff [] [] (cl) ?hs ?he ?hh ?_); (case hs => exact ⟨by simp, by simp, by simp, by simp⟩); (case he => first | rfl | (simp [go_sem, seval, hrn, Hp.back, putAt, bakF, Blk.rnL, Blk.rn, Tv.rnL, Tv.rn, D.rnL, D.rn, Own.rn, hrnE]; done)); (case hh => first | rfl | (simp [go_sem, seval, hrn, Hp.back, putAt, bakF, Blk.rnL, Blk.rn, Tv.rnL, Tv.rn, D.rnL, D.rn, Own.rn, hrnE]; done)); rintro _ _ ⟨rfl, rfl⟩)
    | with_reducible first | apply cd_dec | apply cd_eq | apply cd_ne | apply cd_split
    | ((with_reducible refine And.intro ?hw ?_); (case hw => first | omega | rfl | exact ⟨_, _, rfl⟩ | assumption | (simp only [lN, hrn, Hp.back, putAt, bakF, Blk.rnL, Blk.rn, Tv.rnL, Tv.rn, D.rnL, D.rn, Own.rn, hrnE] <;> omega)))
    | with_reducible intro _)
    all_goals first | omega | skip
    refine swp_fam [2, 3, 4, 5, 6, 8, 9] (fun _ : Unit => ⟨[.undef, .undef, .gs 0 l.length, .fn (.func 27) [.gs 0 l.length] [], .ptr 2 0, .ptr 3 0, .fn (.func 28) [] [.ptr 2 0, .ptr 3 0], .undef, .int .i64 l.length, .int .i64 0, .undef], [], ⟨[.map EF MF.length, .map [] 0, .cells [.mp 1], .cells [.lit (.slice none 0 0)]], [.chg 1 (ints F0)]⟩⟩) (fun _ => True) (fun _ => 0) () trivial ?_ ?_
    · simp [keepE, St.keep]
    · intro _ _
      have t0 : decide ((0 : Int) < l.length) = false := by rw [h0]; rfl
      repeat' (first
    | with_reducible first | apply swp_seq | apply swp_reg | apply swp_regD | apply swp_block | apply swp_exit | apply swp_ret | apply swp_skip | apply swp_cd
    | simp only [go_sem, seval, P13, q13, t0, o_newM]
    | simp (disch := omega) only [w64, w32, wu8, wu16, wu32, wu64]
    | with_reducible first | apply cd_dec | apply cd_eq | apply cd_ne | apply cd_split
    | ((with_reducible refine And.intro ?hw ?_); (case hw => first | omega | rfl | exact ⟨_, _, rfl⟩ | assumption | (simp only [lN] <;> omega)))
    | with_reducible intro _)
      all_goals first | omega | skip
      exact ⟨_, weak_refl, by simp [D.closed], by simp [D.er]⟩
  · refine ow13 rfl ?_
    rw [i13]
    unfold c13
    repeat' (first
    | with_reducible first | apply swp_seq | apply swp_reg | apply swp_regD | apply swp_block | apply swp_exit | apply swp_ret | apply swp_skip | apply swp_cd
    | simp only [go_sem, seval, P13, q13, hrn, hrnE, o_newM]
    | simp (disch := omega) only [w64, w32, wu8, wu16, wu32, wu64]
    | ((with_reducible refine o_eff [] [] (cl) ?hs ?he ?hh ?_); (case hs => exact ⟨by simp, by simp, by simp, by simp⟩); (case he => first | rfl | (simp [go_sem, seval, hrn, Hp.back, putAt, bakF, Blk.rnL, Blk.rn, Tv.rnL, Tv.rn, D.rnL, D.rn, Own.rn, hrnE]; done)); (case hh => first | rfl | (simp [go_sem, seval, hrn, Hp.back, putAt, bakF, Blk.rnL, Blk.rn, Tv.rnL, Tv.rn, D.rnL, D.rn, Own.rn, hrnE]; done)); rintro _ _ ⟨rfl, rfl⟩)
    | with_reducible first | apply cd_dec | apply cd_eq | apply cd_ne | apply cd_split
    | ((with_reducible refine And.intro ?hw ?_); (case hw => first | omega | rfl | exact ⟨_, _, rfl⟩ | assumption | (simp only [lN, hrn, Hp.back, putAt, bakF, Blk.rnL, Blk.rn, Tv.rnL, Tv.rn, D.rnL, D.rn, Own.rn, hrnE] <;> omega)))
    | with_reducible intro _)
    all_goals first | omega | skip
    refine swp_weak (weak_trans (weak_keep [2, 3, 4, 5, 6, 8, 9]) (weak_sel [1, 2, 3] [0] ⟨by simp, by simp, by simp, by simp⟩ rfl rfl)) ?_
    simp only [keepE, St.sel, Hp.sel, D.rnL, D.rn, posF, idx, Blk.rn, Blk.rnL, Tv.rnL, Own.rn, pairs, List.map_cons, List.map_nil, List.getD_cons_zero, List.getD_cons_succ, Tv.rn, hrn]
    refine swp_fam [2, 3, 4, 5, 6, 8, 9] (fun p : Nat × List Nat => ⟨[.undef, .undef, .gs 0 l.length, .fn (.func 27) [.gs 0 l.length] [], .ptr 1 0, .ptr 2 0, .fn (.func 28) [] [.ptr 1 0, .ptr 2 0], .undef, .int .i64 l.length, .int .i64 p.1, .undef], [], cH L p.1 p.2⟩) (fun p => p.1 ≤ l.length ∧ Fo p.2 L) (fun p => l.length - p.1) (0, F0) ⟨by omega, hfo⟩ ?_ ?_
    · simp [keepE, St.keep, cH, D.rn, D.rnL, posF, idx]
    · rintro ⟨i, F⟩ ⟨hi, hF⟩
      simp only at hi hF ⊢
      by_cases hil : i < l.length
      · have t0 : decide (((i : Nat) : Int) < l.length) = true := by simp; omega
        have cr := root_e hlo hF (by omega) (i := i) (by omega)
        rw [rt_root hlo hF (by omega), hF.len, hln] at cr
        have ca := add_e hlo (i := i) (by omega) (by omega) (rt F i).1
        have hF2 := rt_fo hlo hF (i := i) (by omega)
        have hsel : (cH L i F).sel [] [0] = ⟨[], [.chg 1 (ints F)]⟩ := by
          unfold cH; split <;> simp [Hp.sel, Blk.rnL, Tv.rnL, Tv.rn, hrn]
        have hbk : (cH L i F).back [] [0] ⟨[], [.chg 1 (ints (rt F i).1)]⟩ = cH L i (rt F i).1 := by
          unfold cH; split <;> simp [Hp.back, putAt, bakF, Blk.rnL, Tv.rnL, Tv.rn, hrn]
        have hso : SelOk (cH L i F) [] [0] := by unfold cH; split <;> exact ⟨by simp, by simp, by simp, by simp⟩
        repeat' (first
    | with_reducible first | apply swp_seq | apply swp_reg | apply swp_regD | apply swp_block | apply swp_exit | apply swp_ret | apply swp_skip | apply swp_cd
    | simp only [go_sem, seval, P13, q13, t0, o_newM]
    | simp (disch := omega) only [w64, w32, wu8, wu16, wu32, wu64]
    | with_reducible first | apply cd_dec | apply cd_eq | apply cd_ne | apply cd_split
    | ((with_reducible refine And.intro ?hw ?_); (case hw => first | omega | rfl | exact ⟨_, _, rfl⟩ | assumption | (simp only [lN] <;> omega)))
    | with_reducible intro _)
        refine o_eff [] [0] cr hso rfl hsel ?_
        rintro _ _ ⟨rfl, rfl⟩
        simp only
        rw [hbk]
        simp only [D.rn]
        repeat' (first
    | with_reducible first | apply swp_seq | apply swp_reg | apply swp_regD | apply swp_block | apply swp_exit | apply swp_ret | apply swp_skip | apply swp_cd
    | simp only [go_sem, seval, P13, q13, t0, o_newM]
    | simp (disch := omega) only [w64, w32, wu8, wu16, wu32, wu64]
    | ((with_reducible refine o_same (ca) ?he ?hh ?_); (case he => first | rfl | (simp [go_sem, seval]; done)); (case hh => first | rfl | (simp [go_sem, seval]; done)))
    | with_reducible first | apply cd_dec | apply cd_eq | apply cd_ne | apply cd_split
    | ((with_reducible refine And.intro ?hw ?_); (case hw => first | omega | rfl | exact ⟨_, _, rfl⟩ | assumption | (simp only [lN] <;> omega)))
    | with_reducible intro _)
        all_goals first | omega | skip
        exact ⟨(i + 1, (rt F i).1), ⟨by simp only; omega, hF2⟩, by simp only; omega, by simp [keepE, St.keep]⟩
      · have t0 : decide (((i : Nat) : Int) < l.length) = false := by simp; omega
        have : i = l.length := by omega
        subst this
        have hcH : cH L l.length F = ⟨[.map (plE L l.length) (rtsC L l.length).length, .cells [.mp 0], .cells [.gs 1 (rtsC L l.length).length]], .chg 1 (ints F) :: .chg 1 (outD (outC L l.length)) :: perC (outC L l.length)⟩ := by unfold cH; rw [if_neg h0]
        rw [hcH]
        have hol := outC_len L l.length
        rw [← hol]
        generalize outC L l.length = C at *
        clear hcH
        repeat' (first
    | with_reducible first | apply swp_seq | apply swp_reg | apply swp_regD | apply swp_block | apply swp_exit | apply swp_ret | apply swp_skip | apply swp_cd
    | simp only [go_sem, seval, P13, q13, t0, o_newM]
    | simp (disch := omega) only [w64, w32, wu8, wu16, wu32, wu64]
    | with_reducible first | apply cd_dec | apply cd_eq | apply cd_ne | apply cd_split
    | ((with_reducible refine And.intro ?hw ?_); (case hw => first | omega | rfl | exact ⟨_, _, rfl⟩ | assumption | (simp only [lN] <;> omega)))
    | with_reducible intro _)
        all_goals first | omega | skip
        have hdl := outD_len C
        have hcc : ∀ (C : List (List Nat)) (f : Nat → GoV.Own), D.closedL (C.mapIdx fun j c => .slice (ints c) (f j)) = true ∧ D.erL (C.mapIdx fun j c => .slice (ints c) (f j)) = compsD C := fun C => by
          induction C with
          | nil => exact fun _ => ⟨rfl, rfl⟩
          | cons c C ih =>
            intro f
            have := ih fun j => f (j + 1)
            rw [List.mapIdx_cons]
            simp only [D.closedL, D.erL, D.closed, D.er, Bool.true_and, compsD, List.map_cons] at this ⊢
            exact ⟨this.1, by rw [this.2]⟩
        obtain ⟨k1, k2⟩ := hcc C fun j => .tok (j + 2)
        have hch : ∀ C : List (List Nat), chunk 1 C.length (compsD C) = compsD C := fun C => by
          induction C with
          | nil => rfl
          | cons c C ih =>
            simp only [compsD, List.map_cons, List.length_cons, chunk, List.drop_succ_cons, List.drop_zero] at ih ⊢
            rw [ih]; rfl
        have hel : ∀ C : List (List Nat), elemsK 1 (compsD C) = true := fun C => elemsK_map (fun c : List Nat => D.slice (ints c) .no) 1 (fun _ => ⟨rfl, rfl⟩) C
        have k2' : D.erL (outD C) = compsD C := k2
        refine ⟨_, weak_trans (weak_keep [1]) (weak_frzT 1 1 C.length (outD C) rfl (by rw [hdl, Nat.mul_one]) (Nat.zero_le _) k1 ?_), ?_⟩
        · rw [k2', hch]; exact hel C
        · rw [k2']
          obtain ⟨m1, m2⟩ := hcl2 C
          simp [St.frzT, keepE, D.fzt, hch, D.closed, D.er]
end Go.Proofs.Ytofnggfpegcllaa
end
section
set_option maxRecDepth 100000
set_option linter.unusedSimpArgs false
set_option linter.unusedVariables false
namespace Go.Proofs.Ytofnggfpegcllaa
open Go GoV Go.RowKit
theorem cl_ints (F : List Nat) : D.closedL (ints F) = true := by induction F with | nil => rfl | cons x l ih => simp_all [ints, D.closedL, D.closed]
theorem er_ints (F : List Nat) : D.erL (ints F) = ints F := by induction F with | nil => rfl | cons x l ih => simp_all [ints, D.erL, D.er]
theorem elems_ints (F : List Nat) : elemsK 1 (ints F) = true := elemsK_map (fun n : Nat => D.int .i64 (n : Nat)) 1 (fun _ => ⟨rfl, rfl⟩) F
def filtL (L : List Nat) (k i : Nat) : List Nat := (List.range i).filter fun j => lb L j == lb L k
theorem filtL_le (L : List Nat) (k i : Nat) : (filtL L k i).length ≤ i := by
  unfold filtL
  refine Nat.le_trans (List.length_filter_le _ _) ?_
  simp
theorem filtL_in {L : List Nat} {k i : Nat} (h : lb L i = lb L k) : filtL L k (i + 1) = filtL L k i ++ [i] := by
  unfold filtL
  rw [List.range_succ, List.filter_append, List.filter_cons, if_pos (by rw [beq_iff_eq]; exact h)]; rfl
theorem filtL_out {L : List Nat} {k i : Nat} (h : lb L i ≠ lb L k) : filtL L k (i + 1) = filtL L k i := by
  unfold filtL
  rw [List.range_succ, List.filter_append, List.filter_cons, if_neg (by rw [beq_iff_eq]; exact h)]; simp
set_option maxHeartbeats 2000000 in
theorem of_p (l : List Rp) (hl : l.length ≤ 1000) (hs : Small l) (part : Nm) : Pur M 16 [rpsD l, .str part] (.slice (ints (ofP (namesL l) part)) .no) := by
  have cl := linked_e l hl hs
  have hfo := foF_fo (namesL l)
  have hlo := labs_lo (namesL l)
  have hln : (labs (namesL l)).length = l.length := by rw [labs_len, namesL_len]
  have hlen : (l.map rpD).length = l.length := by simp
  have hF0 : (lnkF (namesL l) l.length).1 = foF (namesL l) := by unfold foF; rw [namesL_len]
  have hfirst := (inv_lnk (namesL l) l.length).first part
  have hlk : look (lnk (namesL l) (namesL l).length).2 part = look (lnkF (namesL l) l.length).2 part := by rw [lnkF_first, namesL_len]
  rw [← lnkF_first] at hfirst
  unfold ofP
  rw [hlk, namesL_len]
  rw [hF0] at cl
  have hok := eF_ok (lnkF (namesL l) l.length).2
  have hN := eF_none (F := (lnkF (namesL l) l.length).2) (s := part)
  have hS := fun k => eF_some (F := (lnkF (namesL l) l.length).2) (s := part) (k := k)
  have hrnE := fun β τ => eF_rn β τ (lnkF (namesL l) l.length).2
  generalize (lnkF (namesL l) l.length).2 = MF at *
  generalize foF (namesL l) = F0 at *
  generalize labs (namesL l) = L at *
  generalize eF MF = EF at *
  have hclr := closedL_R l
  have herr := erL_R l
  have hrn := fun β τ F => ints_rn β τ F
  refine ow16 rfl ?_
  rw [i16]
  unfold c16
  cases hk : look MF part with
  | none =>
    have hf := hN hk
    repeat' (first
    | with_reducible first | apply swp_seq | apply swp_reg | apply swp_regD | apply swp_block | apply swp_exit | apply swp_ret | apply swp_skip | apply swp_cd
    | simp only [go_sem, seval, P16, q16, hrn, hrnE]
    | simp (disch := omega) only [w64, w32, wu8, wu16, wu32, wu64]
    | ((with_reducible refine o_eff [] [] (cl) ?hs ?he ?hh ?_); (case hs => exact ⟨by simp, by simp, by simp, by simp⟩); (case he => first | rfl | (simp [go_sem, seval, hrn, Hp.back, putAt, bakF, Blk.rnL, Blk.rn, Tv.rnL, Tv.rn, D.rnL, D.rn, Own.rn, hrnE, hok, hf]; done)); (case hh => first | rfl | (simp [go_sem, seval, hrn, Hp.back, putAt, bakF, Blk.rnL, Blk.rn, Tv.rnL, Tv.rn, D.rnL, D.rn, Own.rn, hrnE, hok, hf]; done)); rintro _ _ ⟨rfl, rfl⟩)
    | ((with_reducible apply s_appT); (case he => rfl); (case hK | hc | hr | hV => first | rfl | assumption | omega | ((first | refine ⟨?_, ?_⟩ | skip) <;> first | omega | (simp only [lN, hrn, Hp.back, putAt, bakF, Blk.rnL, Blk.rn, Tv.rnL, Tv.rn, D.rnL, D.rn, Own.rn, hrnE, hok, hf] <;> omega)) | (simp [elemsK, D.isVal, D.cells, D.closedL, D.closed, hrn, Hp.back, putAt, bakF, Blk.rnL, Blk.rn, Tv.rnL, Tv.rn, D.rnL, D.rn, Own.rn, hrnE, hok, hf]; first | done | omega)))
    | ((with_reducible apply s_appG); (case he => rfl); (case hV | hK | hr | hl => first | rfl | assumption | omega | ((first | refine ⟨?_, ?_⟩ | skip) <;> first | omega | (simp only [lN, hrn, Hp.back, putAt, bakF, Blk.rnL, Blk.rn, Tv.rnL, Tv.rn, D.rnL, D.rn, Own.rn, hrnE, hok, hf] <;> omega)) | (simp [elemsK, D.isVal, D.cells, D.closedL, D.closed, hrn, Hp.back, putAt, bakF, Blk.rnL, Blk.rn, Tv.rnL, Tv.rn, D.rnL, D.rn, Own.rn, hrnE, hok, hf]; first | done | omega)))
    | ((with_reducible apply s_app0); (case he => rfl); (case hK | hc | hr => first | rfl | assumption | omega | ((first | refine ⟨?_, ?_⟩ | skip) <;> first | omega | (simp only [lN, hrn, Hp.back, putAt, bakF, Blk.rnL, Blk.rn, Tv.rnL, Tv.rn, D.rnL, D.rn, Own.rn, hrnE, hok, hf] <;> omega)) | (simp [elemsK, D.isVal, D.cells, D.closedL, D.closed, hrn, Hp.back, putAt, bakF, Blk.rnL, Blk.rn, Tv.rnL, Tv.rn, D.rnL, D.rn, Own.rn, hrnE, hok, hf]; first | done | omega)))
    | ((with_reducible apply s_appF); (case he => rfl); (case hK | hc | hr | hx | hn => first | rfl | assumption | omega | ((first | refine ⟨?_, ?_⟩ | skip) <;> first | omega | (simp only [lN, hrn, Hp.back, putAt, bakF, Blk.rnL, Blk.rn, Tv.rnL, Tv.rn, D.rnL, D.rn, Own.rn, hrnE, hok, hf] <;> omega)) | (simp [elemsK, D.isVal, D.cells, D.closedL, D.closed, hrn, Hp.back, putAt, bakF, Blk.rnL, Blk.rn, Tv.rnL, Tv.rn, D.rnL, D.rn, Own.rn, hrnE, hok, hf]; first | done | omega)))
    | ((with_reducible apply s_bsl); (case he | hl | hc => first | rfl | assumption | omega | ((first | refine ⟨?_, ?_⟩ | skip) <;> first | omega | (simp only [lN, hrn, Hp.back, putAt, bakF, Blk.rnL, Blk.rn, Tv.rnL, Tv.rn, D.rnL, D.rn, Own.rn, hrnE, hok, hf] <;> omega)) | (simp [elemsK, D.isVal, D.cells, D.closedL, D.closed, hrn, Hp.back, putAt, bakF, Blk.rnL, Blk.rn, Tv.rnL, Tv.rn, D.rnL, D.rn, Own.rn, hrnE, hok, hf]; first | done | omega)))
    | ((with_reducible apply s_lkpS); (case h1 | hk => rfl); (case ha | hf => first | rfl | assumption | omega | ((first | refine ⟨?_, ?_⟩ | skip) <;> first | omega | (simp only [lN, hrn, Hp.back, putAt, bakF, Blk.rnL, Blk.rn, Tv.rnL, Tv.rn, D.rnL, D.rn, Own.rn, hrnE, hok, hf] <;> omega)) | (simp [elemsK, D.isVal, D.cells, D.closedL, D.closed, hrn, Hp.back, putAt, bakF, Blk.rnL, Blk.rn, Tv.rnL, Tv.rn, D.rnL, D.rn, Own.rn, hrnE, hok, hf]; first | done | omega)))
    | ((with_reducible apply s_lkpN); (case h1 | hk => rfl); (case hf | ha => first | rfl | assumption | omega | ((first | refine ⟨?_, ?_⟩ | skip) <;> first | omega | (simp only [lN, hrn, Hp.back, putAt, bakF, Blk.rnL, Blk.rn, Tv.rnL, Tv.rn, D.rnL, D.rn, Own.rn, hrnE, hok, hf] <;> omega)) | (simp [elemsK, D.isVal, D.cells, D.closedL, D.closed, hrn, Hp.back, putAt, bakF, Blk.rnL, Blk.rn, Tv.rnL, Tv.rn, D.rnL, D.rn, Own.rn, hrnE, hok, hf]; first | done | omega)))
    | with_reducible first | apply cd_dec | apply cd_eq | apply cd_ne | apply cd_split
    | ((with_reducible refine And.intro ?hw ?_); (case hw => first | omega | rfl | exact ⟨_, _, rfl⟩ | assumption | (simp only [lN, hrn, Hp.back, putAt, bakF, Blk.rnL, Blk.rn, Tv.rnL, Tv.rn, D.rnL, D.rn, Own.rn, hrnE, hok, hf] <;> omega)))
    | with_reducible intro _)
    all_goals first | omega | skip
    exact ⟨_, weak_nn, by simp [D.nnL, D.nn, D.closed], by simp [D.nnL, D.nn, D.er, ints]⟩
  | some k =>
    obtain ⟨q, hf⟩ := hS k hk
    have hkl := (hfirst k hk).1
    show SWp C16 _ (fun e s => _ ∧ ∃ s1, Weak C16 s s1 ∧ rrsWp q16 s1 fun ds => D.closed (oneOrTup ds) = true ∧ (oneOrTup ds).er = .slice (ints (filtL L k l.length)) .no) _
    repeat' (first
    | with_reducible first | apply swp_seq | apply swp_reg | apply swp_regD | apply swp_block | apply swp_exit | apply swp_ret | apply swp_skip | apply swp_cd
    | simp only [go_sem, seval, P16, q16, hrn, hrnE]
    | simp (disch := omega) only [w64, w32, wu8, wu16, wu32, wu64]
    | ((with_reducible refine o_eff [] [] (cl) ?hs ?he ?hh ?_); (case hs => exact ⟨by simp, by simp, by simp, by simp⟩); (case he => first | rfl | (simp [go_sem, seval, hrn, Hp.back, putAt, bakF, Blk.rnL, Blk.rn, Tv.rnL, Tv.rn, D.rnL, D.rn, Own.rn, hrnE, hok, hf]; done)); (case hh => first | rfl | (simp [go_sem, seval, hrn, Hp.back, putAt, bakF, Blk.rnL, Blk.rn, Tv.rnL, Tv.rn, D.rnL, D.rn, Own.rn, hrnE, hok, hf]; done)); rintro _ _ ⟨rfl, rfl⟩)
    | ((with_reducible apply s_appT); (case he => rfl); (case hK | hc | hr | hV => first | rfl | assumption | omega | ((first | refine ⟨?_, ?_⟩ | skip) <;> first | omega | (simp only [lN, hrn, Hp.back, putAt, bakF, Blk.rnL, Blk.rn, Tv.rnL, Tv.rn, D.rnL, D.rn, Own.rn, hrnE, hok, hf] <;> omega)) | (simp [elemsK, D.isVal, D.cells, D.closedL, D.closed, hrn, Hp.back, putAt, bakF, Blk.rnL, Blk.rn, Tv.rnL, Tv.rn, D.rnL, D.rn, Own.rn, hrnE, hok, hf]; first | done | omega)))
    | ((with_reducible apply s_appG); (case he => rfl); (case hV | hK | hr | hl => first | rfl | assumption | omega | ((first | refine ⟨?_, ?_⟩ | skip) <;> first | omega | (simp only [lN, hrn, Hp.back, putAt, bakF, Blk.rnL, Blk.rn, Tv.rnL, Tv.rn, D.rnL, D.rn, Own.rn, hrnE, hok, hf] <;> omega)) | (simp [elemsK, D.isVal, D.cells, D.closedL, D.closed, hrn, Hp.back, putAt, bakF, Blk.rnL, Blk.rn, Tv.rnL, Tv.rn, D.rnL, D.rn, Own.rn, hrnE, hok, hf]; first | done | omega)))
    | ((with_reducible apply s_app0); (case he => rfl); (case hK | hc | hr => first | rfl | assumption | omega | ((first | refine ⟨?_, ?_⟩ | skip) <;> first | omega | (simp only [lN, hrn, Hp.back, putAt, bakF, Blk.rnL, Blk.rn, Tv.rnL, Tv.rn, D.rnL, D.rn, Own.rn, hrnE, hok, hf] <;> omega)) | (simp [elemsK, D.isVal, D.cells, D.closedL, D.closed, hrn, Hp.back, putAt, bakF, Blk.rnL, Blk.rn, Tv.rnL, Tv.rn, D.rnL, D.rn, Own.rn, hrnE, hok, hf]; first | done | omega)))
    | ((with_reducible apply s_appF); (case he => rfl); (case hK | hc | hr | hx | hn => first | rfl | assumption | omega | ((first | refine ⟨?_, ?_⟩ | skip) <;> first | omega | (simp only [lN, hrn, Hp.back, putAt, bakF, Blk.rnL, Blk.rn, Tv.rnL, Tv.rn, D.rnL, D.rn, Own.rn, hrnE, hok, hf] <;> omega)) | (simp [elemsK, D.isVal, D.cells, D.closedL, D.closed, hrn, Hp.back, putAt, bakF, Blk.rnL, Blk.rn, Tv.rnL, Tv.rn, D.rnL, D.rn, Own.rn, hrnE, hok, hf]; first | done | omega)))
    | ((with_reducible apply s_bsl); (case he | hl | hc => first | rfl | assumption | omega | ((first | refine ⟨?_, ?_⟩ | skip) <;> first | omega | (simp only [lN, hrn, Hp.back, putAt, bakF, Blk.rnL, Blk.rn, Tv.rnL, Tv.rn, D.rnL, D.rn, Own.rn, hrnE, hok, hf] <;> omega)) | (simp [elemsK, D.isVal, D.cells, D.closedL, D.closed, hrn, Hp.back, putAt, bakF, Blk.rnL, Blk.rn, Tv.rnL, Tv.rn, D.rnL, D.rn, Own.rn, hrnE, hok, hf]; first | done | omega)))
    | ((with_reducible apply s_lkpS); (case h1 | hk => rfl); (case ha | hf => first | rfl | assumption | omega | ((first | refine ⟨?_, ?_⟩ | skip) <;> first | omega | (simp only [lN, hrn, Hp.back, putAt, bakF, Blk.rnL, Blk.rn, Tv.rnL, Tv.rn, D.rnL, D.rn, Own.rn, hrnE, hok, hf] <;> omega)) | (simp [elemsK, D.isVal, D.cells, D.closedL, D.closed, hrn, Hp.back, putAt, bakF, Blk.rnL, Blk.rn, Tv.rnL, Tv.rn, D.rnL, D.rn, Own.rn, hrnE, hok, hf]; first | done | omega)))
    | ((with_reducible apply s_lkpN); (case h1 | hk => rfl); (case hf | ha => first | rfl | assumption | omega | ((first | refine ⟨?_, ?_⟩ | skip) <;> first | omega | (simp only [lN, hrn, Hp.back, putAt, bakF, Blk.rnL, Blk.rn, Tv.rnL, Tv.rn, D.rnL, D.rn, Own.rn, hrnE, hok, hf] <;> omega)) | (simp [elemsK, D.isVal, D.cells, D.closedL, D.closed, hrn, Hp.back, putAt, bakF, Blk.rnL, Blk.rn, Tv.rnL, Tv.rn, D.rnL, D.rn, Own.rn, hrnE, hok, hf]; first | done | omega)))
    | with_reducible first | apply cd_dec | apply cd_eq | apply cd_ne | apply cd_split
    | ((with_reducible refine And.intro ?hw ?_); (case hw => first | omega | rfl | exact ⟨_, _, rfl⟩ | assumption | (simp only [lN, hrn, Hp.back, putAt, bakF, Blk.rnL, Blk.rn, Tv.rnL, Tv.rn, D.rnL, D.rn, Own.rn, hrnE, hok, hf] <;> omega)))
    | with_reducible intro _)
    all_goals first | omega | skip
    refine swp_weak (weak_trans (weak_keep [3, 5, 7, 10, 11]) (weak_new 7 1 (by omega) false rfl)) ?_
    simp only [keepE]
    refine swp_fam [3, 5, 7, 10, 11] (fun p : Nat × List Nat => ⟨[.undef, .undef, .undef, .gs 0 l.length, .undef, .int .i64 (k : Nat), .undef, .slice (ints (filtL L k p.1)) (.tok 1), .undef, .undef, .int .i64 l.length, .int .i64 p.1, .undef, .undef], [], ⟨[.map EF MF.length], [.chg 1 (ints p.2), .per 1 (filtL L k p.1).length]⟩⟩) (fun p => p.1 ≤ l.length ∧ Fo p.2 L) (fun p => l.length - p.1) (0, F0) ⟨by omega, hfo⟩ ?_ ?_
    · simp [keepE, St.keep, filtL, ints]
    · rintro ⟨i, F⟩ ⟨hi, hF⟩
      simp only at hi hF ⊢
      have hfl := ints_len (filtL L k i)
      have hle := filtL_le L k i
      by_cases hil : i < l.length
      · have t0 : decide (((i : Nat) : Int) < l.length) = true := by simp; omega
        have cr := root_e hlo hF (by omega) (i := i) (by omega)
        have hF2 := rt_fo hlo hF (i := i) (by omega)
        have cr2 := root_e hlo hF2 (by omega) (i := k) (by omega)
        have hF3 := rt_fo hlo hF2 (i := k) (by omega)
        rw [rt_root hlo hF (by omega), hF.len, hln] at cr
        rw [rt_root hlo hF2 (by omega), hF2.len, hln] at cr2
        by_cases he : lb L i = lb L k
        · have t1 : (((lb L i : Nat) : Int) == (lb L k : Nat)) = true := by rw [he]; simp
          have ha := ints_app (filtL L k i) [i]
          rw [← filtL_in he, show ints [i] = [.int .i64 (i : Nat)] from rfl] at ha
          have hl2 : (filtL L k (i + 1)).length = (filtL L k i).length + 1 := by rw [filtL_in he, List.length_append]; rfl
          repeat' (first
    | with_reducible first | apply swp_seq | apply swp_reg | apply swp_regD | apply swp_block | apply swp_exit | apply swp_ret | apply swp_skip | apply swp_cd
    | simp only [go_sem, seval, P16, q16, t0, t1, hrn, hrnE]
    | simp (disch := omega) only [w64, w32, wu8, wu16, wu32, wu64]
    | ((with_reducible refine o_eff [] [0] (cr) ?hs ?he ?hh ?_); (case hs => exact ⟨by simp, by simp, by simp, by simp⟩); (case he => first | rfl | (simp [go_sem, seval, hrn, hrnE, hfl, Hp.back, putAt, bakF, Blk.rnL, Blk.rn, Tv.rnL, Tv.rn, D.rnL, D.rn, Own.rn]; done)); (case hh => first | rfl | (simp [go_sem, seval, hrn, hrnE, hfl, Hp.back, putAt, bakF, Blk.rnL, Blk.rn, Tv.rnL, Tv.rn, D.rnL, D.rn, Own.rn]; done)); rintro _ _ ⟨rfl, rfl⟩)
    | ((with_reducible refine o_eff [] [0] (cr2) ?hs ?he ?hh ?_); (case hs => exact ⟨by simp, by simp, by simp, by simp⟩); (case he => first | rfl | (simp [go_sem, seval, hrn, hrnE, hfl, Hp.back, putAt, bakF, Blk.rnL, Blk.rn, Tv.rnL, Tv.rn, D.rnL, D.rn, Own.rn]; done)); (case hh => first | rfl | (simp [go_sem, seval, hrn, hrnE, hfl, Hp.back, putAt, bakF, Blk.rnL, Blk.rn, Tv.rnL, Tv.rn, D.rnL, D.rn, Own.rn]; done)); rintro _ _ ⟨rfl, rfl⟩)
    | ((with_reducible apply s_appT); (case he => rfl); (case hK | hc | hr | hV => first | rfl | assumption | omega | ((first | refine ⟨?_, ?_⟩ | skip) <;> first | omega | (simp only [lN, hrn, hrnE, hfl, Hp.back, putAt, bakF, Blk.rnL, Blk.rn, Tv.rnL, Tv.rn, D.rnL, D.rn, Own.rn] <;> omega)) | (simp [elemsK, D.isVal, D.cells, D.closedL, D.closed, hrn, hrnE, hfl, Hp.back, putAt, bakF, Blk.rnL, Blk.rn, Tv.rnL, Tv.rn, D.rnL, D.rn, Own.rn]; first | done | omega)))
    | ((with_reducible apply s_appG); (case he => rfl); (case hV | hK | hr | hl => first | rfl | assumption | omega | ((first | refine ⟨?_, ?_⟩ | skip) <;> first | omega | (simp only [lN, hrn, hrnE, hfl, Hp.back, putAt, bakF, Blk.rnL, Blk.rn, Tv.rnL, Tv.rn, D.rnL, D.rn, Own.rn] <;> omega)) | (simp [elemsK, D.isVal, D.cells, D.closedL, D.closed, hrn, hrnE, hfl, Hp.back, putAt, bakF, Blk.rnL, Blk.rn, Tv.rnL, Tv.rn, D.rnL, D.rn, Own.rn]; first | done | omega)))
    | ((with_reducible apply s_app0); (case he => rfl); (case hK | hc | hr => first | rfl | assumption | omega | ((first | refine ⟨?_, ?_⟩ | skip) <;> first | omega | (simp only [lN, hrn, hrnE, hfl, Hp.back, putAt, bakF, Blk.rnL, Blk.rn, Tv.rnL, Tv.rn, D.rnL, D.rn, Own.rn] <;> omega)) | (simp [elemsK, D.isVal, D.cells, D.closedL, D.closed, hrn, hrnE, hfl, Hp.back, putAt, bakF, Blk.rnL, Blk.rn, Tv.rnL, Tv.rn, D.rnL, D.rn, Own.rn]; first | done | omega)))
    | ((with_reducible apply s_appF); (case he => rfl); (case hK | hc | hr | hx | hn => first | rfl | assumption | omega | ((first | refine ⟨?_, ?_⟩ | skip) <;> first | omega | (simp only [lN, hrn, hrnE, hfl, Hp.back, putAt, bakF, Blk.rnL, Blk.rn, Tv.rnL, Tv.rn, D.rnL, D.rn, Own.rn] <;> omega)) | (simp [elemsK, D.isVal, D.cells, D.closedL, D.closed, hrn, hrnE, hfl, Hp.back, putAt, bakF, Blk.rnL, Blk.rn, Tv.rnL, Tv.rn, D.rnL, D.rn, Own.rn]; first | done | omega)))
    | ((with_reducible apply s_bsl); (case he | hl | hc => first | rfl | assumption | omega | ((first | refine ⟨?_, ?_⟩ | skip) <;> first | omega | (simp only [lN, hrn, hrnE, hfl, Hp.back, putAt, bakF, Blk.rnL, Blk.rn, Tv.rnL, Tv.rn, D.rnL, D.rn, Own.rn] <;> omega)) | (simp [elemsK, D.isVal, D.cells, D.closedL, D.closed, hrn, hrnE, hfl, Hp.back, putAt, bakF, Blk.rnL, Blk.rn, Tv.rnL, Tv.rn, D.rnL, D.rn, Own.rn]; first | done | omega)))
    | ((with_reducible apply s_lkpS); (case h1 | hk => rfl); (case ha | hf => first | rfl | assumption | omega | ((first | refine ⟨?_, ?_⟩ | skip) <;> first | omega | (simp only [lN, hrn, hrnE, hfl, Hp.back, putAt, bakF, Blk.rnL, Blk.rn, Tv.rnL, Tv.rn, D.rnL, D.rn, Own.rn] <;> omega)) | (simp [elemsK, D.isVal, D.cells, D.closedL, D.closed, hrn, hrnE, hfl, Hp.back, putAt, bakF, Blk.rnL, Blk.rn, Tv.rnL, Tv.rn, D.rnL, D.rn, Own.rn]; first | done | omega)))
    | ((with_reducible apply s_lkpN); (case h1 | hk => rfl); (case hf | ha => first | rfl | assumption | omega | ((first | refine ⟨?_, ?_⟩ | skip) <;> first | omega | (simp only [lN, hrn, hrnE, hfl, Hp.back, putAt, bakF, Blk.rnL, Blk.rn, Tv.rnL, Tv.rn, D.rnL, D.rn, Own.rn] <;> omega)) | (simp [elemsK, D.isVal, D.cells, D.closedL, D.closed, hrn, hrnE, hfl, Hp.back, putAt, bakF, Blk.rnL, Blk.rn, Tv.rnL, Tv.rn, D.rnL, D.rn, Own.rn]; first | done | omega)))
    | with_reducible first | apply cd_dec | apply cd_eq | apply cd_ne | apply cd_split
    | ((with_reducible refine And.intro ?hw ?_); (case hw => first | omega | rfl | exact ⟨_, _, rfl⟩ | assumption | (simp only [lN, hrn, hrnE, hfl, Hp.back, putAt, bakF, Blk.rnL, Blk.rn, Tv.rnL, Tv.rn, D.rnL, D.rn, Own.rn] <;> omega)))
    | with_reducible intro _)
          all_goals first | omega | skip
          exact ⟨(i + 1, (rt (rt F i).1 k).1), ⟨by simp only; omega, hF3⟩, by simp only; omega, by simp [keepE, St.keep, ha, hl2, hfl, D.erL, D.er]⟩
        · have t1 : (((lb L i : Nat) : Int) == (lb L k : Nat)) = false := by rw [beq_eq_false_iff_ne]; omega
          repeat' (first
    | with_reducible first | apply swp_seq | apply swp_reg | apply swp_regD | apply swp_block | apply swp_exit | apply swp_ret | apply swp_skip | apply swp_cd
    | simp only [go_sem, seval, P16, q16, t0, t1, hrn, hrnE]
    | simp (disch := omega) only [w64, w32, wu8, wu16, wu32, wu64]
    | ((with_reducible refine o_eff [] [0] (cr) ?hs ?he ?hh ?_); (case hs => exact ⟨by simp, by simp, by simp, by simp⟩); (case he => first | rfl | (simp [go_sem, seval, hrn, hrnE, hfl, Hp.back, putAt, bakF, Blk.rnL, Blk.rn, Tv.rnL, Tv.rn, D.rnL, D.rn, Own.rn]; done)); (case hh => first | rfl | (simp [go_sem, seval, hrn, hrnE, hfl, Hp.back, putAt, bakF, Blk.rnL, Blk.rn, Tv.rnL, Tv.rn, D.rnL, D.rn, Own.rn]; done)); rintro _ _ ⟨rfl, rfl⟩)
    | ((with_reducible refine o_eff [] [0] (cr2) ?hs ?he ?hh ?_); (case hs => exact ⟨by simp, by simp, by simp, by simp⟩); (case he => first | rfl | (simp [go_sem, seval, hrn, hrnE, hfl, Hp.back, putAt, bakF, Blk.rnL, Blk.rn, Tv.rnL, Tv.rn, D.rnL, D.rn, Own.rn]; done)); (case hh => first | rfl | (simp [go_sem, seval, hrn, hrnE, hfl, Hp.back, putAt, bakF, Blk.rnL, Blk.rn, Tv.rnL, Tv.rn, D.rnL, D.rn, Own.rn]; done)); rintro _ _ ⟨rfl, rfl⟩)
    | ((with_reducible apply s_appT); (case he => rfl); (case hK | hc | hr | hV => first | rfl | assumption | omega | ((first | refine ⟨?_, ?_⟩ | skip) <;> first | omega | (simp only [lN, hrn, hrnE, hfl, Hp.back, putAt, bakF, Blk.rnL, Blk.rn, Tv.rnL, Tv.rn, D.rnL, D.rn, Own.rn] <;> omega)) | (simp [elemsK, D.isVal, D.cells, D.closedL, D.closed, hrn, hrnE, hfl, Hp.back, putAt, bakF, Blk.rnL, Blk.rn, Tv.rnL, Tv.rn, D.rnL, D.rn, Own.rn]; first | done | omega)))
    | ((with_reducible apply s_appG); (case he => rfl); (case hV | hK | hr | hl => first | rfl | assumption | omega | ((first | refine ⟨?_, ?_⟩ | skip) <;> first | omega | (simp only [lN, hrn, hrnE, hfl, Hp.back, putAt, bakF, Blk.rnL, Blk.rn, Tv.rnL, Tv.rn, D.rnL, D.rn, Own.rn] <;> omega)) | (simp [elemsK, D.isVal, D.cells, D.closedL, D.closed, hrn, hrnE, hfl, Hp.back, putAt, bakF, Blk.rnL, Blk.rn, Tv.rnL, Tv.rn, D.rnL, D.rn, Own.rn]; first | done | omega)))
    | ((with_reducible apply s_app0); (case he => rfl); (case hK | hc | hr => first | rfl | assumption | omega | ((first | refine ⟨?_, ?_⟩ | skip) <;> first | omega | (simp only [lN, hrn, hrnE, hfl, Hp.back, putAt, bakF, Blk.rnL, Blk.rn, Tv.rnL, Tv.rn, D.rnL, D.rn, Own.rn] <;> omega)) | (simp [elemsK, D.isVal, D.cells, D.closedL, D.closed, hrn, hrnE, hfl, Hp.back, putAt, bakF, Blk.rnL, Blk.rn, Tv.rnL, Tv.rn, D.rnL, D.rn, Own.rn]; first | done | omega)))
    | ((with_reducible apply s_appF); (case he => rfl); (case hK | hc | hr | hx | hn => first | rfl | assumption | omega | ((first | refine ⟨?_, ?_⟩ | skip) <;> first | omega | (simp only [lN, hrn, hrnE, hfl, Hp.back, putAt, bakF, Blk.rnL, Blk.rn, Tv.rnL, Tv.rn, D.rnL, D.rn, Own.rn] <;> omega)) | (simp [elemsK, D.isVal, D.cells, D.closedL, D.closed, hrn, hrnE, hfl, Hp.back, putAt, bakF, Blk.rnL, Blk.rn, Tv.rnL, Tv.rn, D.rnL, D.rn, Own.rn]; first | done | omega)))
    | ((with_reducible apply s_bsl); (case he | hl | hc => first | rfl | assumption | omega | ((first | refine ⟨?_, ?_⟩ | skip) <;> first | omega | (simp only [lN, hrn, hrnE, hfl, Hp.back, putAt, bakF, Blk.rnL, Blk.rn, Tv.rnL, Tv.rn, D.rnL, D.rn, Own.rn] <;> omega)) | (simp [elemsK, D.isVal, D.cells, D.closedL, D.closed, hrn, hrnE, hfl, Hp.back, putAt, bakF, Blk.rnL, Blk.rn, Tv.rnL, Tv.rn, D.rnL, D.rn, Own.rn]; first | done | omega)))
    | ((with_reducible apply s_lkpS); (case h1 | hk => rfl); (case ha | hf => first | rfl | assumption | omega | ((first | refine ⟨?_, ?_⟩ | skip) <;> first | omega | (simp only [lN, hrn, hrnE, hfl, Hp.back, putAt, bakF, Blk.rnL, Blk.rn, Tv.rnL, Tv.rn, D.rnL, D.rn, Own.rn] <;> omega)) | (simp [elemsK, D.isVal, D.cells, D.closedL, D.closed, hrn, hrnE, hfl, Hp.back, putAt, bakF, Blk.rnL, Blk.rn, Tv.rnL, Tv.rn, D.rnL, D.rn, Own.rn]; first | done | omega)))
    | ((with_reducible apply s_lkpN); (case h1 | hk => rfl); (case hf | ha => first | rfl | assumption | omega | ((first | refine ⟨?_, ?_⟩ | skip) <;> first | omega | (simp only [lN, hrn, hrnE, hfl, Hp.back, putAt, bakF, Blk.rnL, Blk.rn, Tv.rnL, Tv.rn, D.rnL, D.rn, Own.rn] <;> omega)) | (simp [elemsK, D.isVal, D.cells, D.closedL, D.closed, hrn, hrnE, hfl, Hp.back, putAt, bakF, Blk.rnL, Blk.rn, Tv.rnL, Tv.rn, D.rnL, D.rn, Own.rn]; first | done | omega)))
    | with_reducible first | apply cd_dec | apply cd_eq | apply cd_ne | apply cd_split
    | ((with_reducible refine And.intro ?hw ?_); (case hw => first | omega | rfl | exact ⟨_, _, rfl⟩ | assumption | (simp only [lN, hrn, hrnE, hfl, Hp.back, putAt, bakF, Blk.rnL, Blk.rn, Tv.rnL, Tv.rn, D.rnL, D.rn, Own.rn] <;> omega)))
    | with_reducible intro _)
          all_goals first | omega | skip
          exact ⟨(i + 1, (rt (rt F i).1 k).1), ⟨by simp only; omega, hF3⟩, by simp only; omega, by simp [keepE, St.keep, filtL_out he]⟩
      · have t0 : decide (((i : Nat) : Int) < l.length) = false := by simp; omega
        have : i = l.length := by omega
        subst this
        repeat' (first
    | with_reducible first | apply swp_seq | apply swp_reg | apply swp_regD | apply swp_block | apply swp_exit | apply swp_ret | apply swp_skip | apply swp_cd
    | simp only [go_sem, seval, P16, q16, t0]
    | simp (disch := omega) only [w64, w32, wu8, wu16, wu32, wu64]
    | ((with_reducible apply s_appT); (case he => rfl); (case hK | hc | hr | hV => first | rfl | assumption | omega | ((first | refine ⟨?_, ?_⟩ | skip) <;> first | omega | (simp only [lN] <;> omega)) | (simp [elemsK, D.isVal, D.cells, D.closedL, D.closed]; first | done | omega)))
    | ((with_reducible apply s_appG); (case he => rfl); (case hV | hK | hr | hl => first | rfl | assumption | omega | ((first | refine ⟨?_, ?_⟩ | skip) <;> first | omega | (simp only [lN] <;> omega)) | (simp [elemsK, D.isVal, D.cells, D.closedL, D.closed]; first | done | omega)))
    | ((with_reducible apply s_app0); (case he => rfl); (case hK | hc | hr => first | rfl | assumption | omega | ((first | refine ⟨?_, ?_⟩ | skip) <;> first | omega | (simp only [lN] <;> omega)) | (simp [elemsK, D.isVal, D.cells, D.closedL, D.closed]; first | done | omega)))
    | ((with_reducible apply s_appF); (case he => rfl); (case hK | hc | hr | hx | hn => first | rfl | assumption | omega | ((first | refine ⟨?_, ?_⟩ | skip) <;> first | omega | (simp only [lN] <;> omega)) | (simp [elemsK, D.isVal, D.cells, D.closedL, D.closed]; first | done | omega)))
    | ((with_reducible apply s_bsl); (case he | hl | hc => first | rfl | assumption | omega | ((first | refine ⟨?_, ?_⟩ | skip) <;> first | omega | (simp only [lN] <;> omega)) | (simp [elemsK, D.isVal, D.cells, D.closedL, D.closed]; first | done | omega)))
    | ((with_reducible apply s_lkpS); (case h1 | hk => rfl); (case ha | hf => first | rfl | assumption | omega | ((first | refine ⟨?_, ?_⟩ | skip) <;> first | omega | (simp only [lN] <;> omega)) | (simp [elemsK, D.isVal, D.cells, D.closedL, D.closed]; first | done | omega)))
    | ((with_reducible apply s_lkpN); (case h1 | hk => rfl); (case hf | ha => first | rfl | assumption | omega | ((first | refine ⟨?_, ?_⟩ | skip) <;> first | omega | (simp only [lN] <;> omega)) | (simp [elemsK, D.isVal, D.cells, D.closedL, D.closed]; first | done | omega)))
    | with_reducible first | apply cd_dec | apply cd_eq | apply cd_ne | apply cd_split
    | ((with_reducible refine And.intro ?hw ?_); (case hw => first | omega | rfl | exact ⟨_, _, rfl⟩ | assumption | (simp only [lN] <;> omega)))
    | with_reducible intro _)
        all_goals first | omega | skip
        exact ⟨_, weak_refl, by simp [D.closed], by simp [D.er]⟩
end Go.Proofs.Ytofnggfpegcllaa
end
section
set_option maxRecDepth 100000
set_option linter.unusedSimpArgs false
set_option linter.unusedVariables false
namespace Go.Proofs.Ytofnggfpegcllaa
open Go GoV Go.RowKit
def rcL : List Rp → List D
  | [] => []
  | r :: l => .slice (r.opts.map evD) .no :: .bool r.doubt :: rcL l
theorem rcL_flat : ∀ l : List Rp, flatD (l.map rpD) = rcL l
  | [] => rfl
  | r :: l => by simp [flatD, rcL, rcL_flat l, rpD, D.cells]
theorem rcL_len : ∀ l : List Rp, (rcL l).length = l.length * 2
  | [] => rfl
  | r :: l => by simp [rcL, rcL_len l]; omega
theorem rcL_rn (β τ : Nat → Option Nat) : ∀ l : List Rp, D.rnL β τ (rcL l) = rcL l
  | [] => rfl
  | r :: l => by simp [rcL, D.rnL, D.rn, rcL_rn β τ l, Own.rn]
theorem rc_get (U : List D) : ∀ {l : List Rp} {i : Nat} (h : i < l.length), ((rcL l ++ U).drop (i * 2)).take 2 = [.slice (l[i].opts.map evD) .no, .bool l[i].doubt]
  | r :: l, 0, _ => by simp [rcL]
  | r :: l, i + 1, h => by
    have := rc_get U (l := l) (i := i) (by simpa using h)
    have e : (i + 1) * 2 = i * 2 + 1 + 1 := by omega
    rw [e]
    simpa [rcL] using this
theorem rc_set (U : List D) (v : Rp) : ∀ {l : List Rp} {i : Nat} (h : i < l.length), ((rcL l ++ U).set (i * 2) (.slice (v.opts.map evD) .no)).set (i * 2 + 1) (.bool v.doubt) = rcL (l.set i v) ++ U
  | r :: l, 0, _ => by simp [rcL]
  | r :: l, i + 1, h => by
    have := rc_set U v (l := l) (i := i) (by simpa using h)
    have e : (i + 1) * 2 = i * 2 + 1 + 1 := by omega
    rw [e]
    simpa [rcL] using this
def del (r : Rp) : Bool := decide (choices r < 2)
theorem del_p (r : Rp) (hs : ∀ e ∈ r.opts, e.sh = true) : Pur M 33 [rpD r] (.bool (del r)) := by
  have c1 := choices_p r hs
  have hd : decide (((choices r : Nat) : Int) < 2) = del r := decide_eq_decide.2 (by omega)
  generalize choices r = c at *
  generalize del r = b at *
  unfold rpD at *
  refine ok33 rfl ?_
  rw [i33]
  unfold c33
  repeat' (first
    | with_reducible first | apply swp_seq | apply swp_reg | apply swp_regD | apply swp_block | apply swp_exit | apply swp_ret | apply swp_skip | apply swp_cd
    | simp only [go_sem, seval, P33, q33, hd]
    | simp (disch := omega) only [w64, w32, wu8, wu16, wu32, wu64]
    | ((with_reducible refine o_call (c1) ?he ?hc ?_); (case he | hc => first | rfl | (simp [D.erL, D.er, D.closedL, D.closed]; done)))
    | with_reducible first | apply cd_dec | apply cd_eq | apply cd_ne | apply cd_split
    | ((with_reducible refine And.intro ?hw ?_); (case hw => first | omega | rfl | exact ⟨_, _, rfl⟩ | assumption | (simp only [lN] <;> omega)))
    | with_reducible intro _)
  all_goals first | omega | simp [D.closed, D.er]
section
variable {P : Mod} {dst : Dst} {r : List RO} {K : St → Prop} {s : St} {n bytes : Nat} {ety : TypeId} {x : D} {es : List D}
theorem s_appR (t : Nat) (he : elemsOf s.hp n x = some es) (hK : elemsK n es = true) (hr : roomOk es.length bytes) (h0 : 0 < es.length) (ht : s.hp.tk[t]? = some (.chg n []))
    (h : opsWp P r K ({ s with hp := { s.hp with tk := s.hp.tk.set t (.chg n (flatD es)) } }.put dst (.gs t es.length))) : OpS P (.app n bytes ety) [.slice [] .full, x] dst r K s := by
  simp only [OpS, OcWp, isCall, Bool.false_eq_true, if_false, opWp]
  exact ⟨es, he, hK, by simpa using hr, .inr ⟨rfl, h0, t, ht, h⟩⟩
end
set_option maxHeartbeats 1000000 in
theorem clone_r (l : List Rp) (hl : l.length ≤ 1000) (h0 : 0 < l.length) : Eff M 32 [rpsD l] ⟨[], []⟩ fun d hp => ∃ cap, l.length ≤ cap ∧ d = .sl 0 2 0 l.length cap ∧ hp = ⟨[.cells (rcL l ++ und ((cap - l.length) * 2))], []⟩ := by
  have hlen : (l.map rpD).length = l.length := by simp
  have hfl := rcL_flat l
  have hel : elemsK 2 (l.map rpD) = true := elemsK_map rpD 2 R_isVal l
  have hrl := rcL_len l
  have hrn := fun β τ => rcL_rn β τ l
  refine oe32 0 0 rfl rfl rfl ?_
  rw [ie32]
  unfold c32
  obtain ⟨x, xs, hx⟩ : ∃ x xs, l.map rpD = x :: xs := by cases l with | nil => simp at h0 | cons a b => exact ⟨_, _, rfl⟩
  refine swp_weak (weak_resv 2 (by omega)) ?_
  generalize hrt : RC.ret = rt at *
  unfold rpsD
  rw [hx]
  simp only [List.nil_append]
  repeat' (first
    | with_reducible first | apply swp_seq | apply swp_reg | apply swp_regD | apply swp_block | apply swp_exit | apply swp_ret | apply swp_skip | apply swp_cd
    | simp only [go_sem, seval, pe32, q32]
    | simp (disch := omega) only [w64, w32, wu8, wu16, wu32, wu64]
    | ((with_reducible apply s_appT); (case he => rfl); (case hK | hc | hr | hV => first | rfl | assumption | omega | ((first | refine ⟨?_, ?_⟩ | skip) <;> first | omega | (simp only [lN, hlen] <;> omega)) | (simp [elemsK, D.isVal, D.cells, D.closedL, D.closed, hlen]; first | done | omega)))
    | ((with_reducible apply s_appG); (case he => rfl); (case hV | hK | hr | hl => first | rfl | assumption | omega | ((first | refine ⟨?_, ?_⟩ | skip) <;> first | omega | (simp only [lN, hlen] <;> omega)) | (simp [elemsK, D.isVal, D.cells, D.closedL, D.closed, hlen]; first | done | omega)))
    | ((with_reducible apply s_app0G); (case he => rfl); (case hK | hr => first | rfl | assumption | omega | ((first | refine ⟨?_, ?_⟩ | skip) <;> first | omega | (simp only [lN, hlen] <;> omega)) | (simp [elemsK, D.isVal, D.cells, D.closedL, D.closed, hlen]; first | done | omega)))
    | ((with_reducible apply s_bsl); (case he | hl | hc => first | rfl | assumption | omega | ((first | refine ⟨?_, ?_⟩ | skip) <;> first | omega | (simp only [lN, hlen] <;> omega)) | (simp [elemsK, D.isVal, D.cells, D.closedL, D.closed, hlen]; first | done | omega)))
    | with_reducible first | apply cd_dec | apply cd_eq | apply cd_ne | apply cd_split
    | ((with_reducible refine And.intro ?hw ?_); (case hw => first | omega | rfl | exact ⟨_, _, rfl⟩ | assumption | (simp only [lN, hlen] <;> omega)))
    | with_reducible intro _)
  refine s_appR 0 (x := .slice (x :: xs) .no) (es := x :: xs) rfl (by rw [← hx]; exact hel) (by rw [← hx, hlen]; exact ⟨by omega, by omega⟩) (by simp) rfl ?_
  rw [← hx, hfl, hlen]
  repeat' (first
    | with_reducible first | apply swp_seq | apply swp_reg | apply swp_regD | apply swp_block | apply swp_exit | apply swp_ret | apply swp_skip | apply swp_cd
    | simp only [go_sem, seval, pe32, q32]
    | simp (disch := omega) only [w64, w32, wu8, wu16, wu32, wu64]
    | ((with_reducible apply s_appT); (case he => rfl); (case hK | hc | hr | hV => first | rfl | assumption | omega | ((first | refine ⟨?_, ?_⟩ | skip) <;> first | omega | (simp only [lN, hlen] <;> omega)) | (simp [elemsK, D.isVal, D.cells, D.closedL, D.closed, hlen]; first | done | omega)))
    | ((with_reducible apply s_appG); (case he => rfl); (case hV | hK | hr | hl => first | rfl | assumption | omega | ((first | refine ⟨?_, ?_⟩ | skip) <;> first | omega | (simp only [lN, hlen] <;> omega)) | (simp [elemsK, D.isVal, D.cells, D.closedL, D.closed, hlen]; first | done | omega)))
    | ((with_reducible apply s_app0G); (case he => rfl); (case hK | hr => first | rfl | assumption | omega | ((first | refine ⟨?_, ?_⟩ | skip) <;> first | omega | (simp only [lN, hlen] <;> omega)) | (simp [elemsK, D.isVal, D.cells, D.closedL, D.closed, hlen]; first | done | omega)))
    | ((with_reducible apply s_bsl); (case he | hl | hc => first | rfl | assumption | omega | ((first | refine ⟨?_, ?_⟩ | skip) <;> first | omega | (simp only [lN, hlen] <;> omega)) | (simp [elemsK, D.isVal, D.cells, D.closedL, D.closed, hlen]; first | done | omega)))
    | with_reducible first | apply cd_dec | apply cd_eq | apply cd_ne | apply cd_split
    | ((with_reducible refine And.intro ?hw ?_); (case hw => first | omega | rfl | exact ⟨_, _, rfl⟩ | assumption | (simp only [lN, hlen] <;> omega)))
    | with_reducible intro _)
  rw [← hrt]
  refine swp_sl 1 0 2 l.length (rcL l) rfl rfl hrl (by unfold E32; rfl) h0 fun cap hc => ?_
  simp only [St.toSl, List.set_cons_zero, List.set_cons_succ, List.length_cons, List.length_nil, List.nil_append]
  have hu : List.replicate ((cap - l.length) * 2) D.undef = und ((cap - l.length) * 2) := rfl
  rw [hu]
  repeat' (first
    | with_reducible first | apply swp_seq | apply swp_reg | apply swp_regD | apply swp_block | apply swp_exit | apply swp_ret | apply swp_skip | apply swp_cd
    | simp only [go_sem, seval, pe32, q32]
    | simp (disch := omega) only [w64, w32, wu8, wu16, wu32, wu64]
    | ((with_reducible apply s_appT); (case he => rfl); (case hK | hc | hr | hV => first | rfl | assumption | omega | ((first | refine ⟨?_, ?_⟩ | skip) <;> first | omega | (simp only [lN, hlen] <;> omega)) | (simp [elemsK, D.isVal, D.cells, D.closedL, D.closed, hlen]; first | done | omega)))
    | ((with_reducible apply s_appG); (case he => rfl); (case hV | hK | hr | hl => first | rfl | assumption | omega | ((first | refine ⟨?_, ?_⟩ | skip) <;> first | omega | (simp only [lN, hlen] <;> omega)) | (simp [elemsK, D.isVal, D.cells, D.closedL, D.closed, hlen]; first | done | omega)))
    | ((with_reducible apply s_app0G); (case he => rfl); (case hK | hr => first | rfl | assumption | omega | ((first | refine ⟨?_, ?_⟩ | skip) <;> first | omega | (simp only [lN, hlen] <;> omega)) | (simp [elemsK, D.isVal, D.cells, D.closedL, D.closed, hlen]; first | done | omega)))
    | ((with_reducible apply s_bsl); (case he | hl | hc => first | rfl | assumption | omega | ((first | refine ⟨?_, ?_⟩ | skip) <;> first | omega | (simp only [lN, hlen] <;> omega)) | (simp [elemsK, D.isVal, D.cells, D.closedL, D.closed, hlen]; first | done | omega)))
    | with_reducible first | apply cd_dec | apply cd_eq | apply cd_ne | apply cd_split
    | ((with_reducible refine And.intro ?hw ?_); (case hw => first | omega | rfl | exact ⟨_, _, rfl⟩ | assumption | (simp only [lN, hlen] <;> omega)))
    | with_reducible intro _)
  refine ⟨_, weak_trans (weak_keep [1]) (weak_sel [0] [] ⟨by simp, by simp, by simp, by simp⟩ rfl rfl), ?_⟩
  have hrs : ∀ β τ, D.rnL β τ (rcL l ++ und ((cap - l.length) * 2)) = rcL l ++ und ((cap - l.length) * 2) := fun β τ => by rw [rnL_app, hrn, rnL_und]
  simp [St.sel, Hp.sel, keepE, D.rnL, D.rn, posF, idx, Blk.rn, Blk.rnL, Tv.rnL, Own.rn, hrs]
  exact ⟨cap, hc, rfl, rfl⟩
theorem dfirst (l : List Rp) : (∃ i, ∃ h : i < l.length, del l[i] = true ∧ ∀ j (g : j < i), del l[j] = false) ∨ ∀ r ∈ l, del r = false := by
  rcases first_of (p := fun r => del r = true) l with ⟨i, h, h1, h2⟩ | h
  · exact .inl ⟨i, h, h1, fun j g => by have := h2 j g; simpa using this⟩
  · refine .inr fun r hr => ?_
    obtain ⟨j, hj, rfl⟩ := List.getElem_of_mem hr
    have := h j hj; simpa using this
theorem ix44 (l : List Rp) (U : List D) (cap : Nat) (hl : l.length ≤ 1000) (hcap : l.length ≤ cap) (hs : Small l) (i : Nat) (hi : i < l.length) (he : del l[i] = true) (hm : ∀ j (h : j < i), del l[j] = false) :
    Eff M 44 [.sl 0 2 0 l.length cap, .fn (.func 33) [] []] ⟨[.cells (rcL l ++ U)], []⟩ fun d hp => d = .int .i64 (i : Nat) ∧ hp = ⟨[.cells (rcL l ++ U)], []⟩ := by
  refine oe44 1 0 rfl rfl rfl ?_
  rw [ie44]
  unfold c44
  have hrl := rcL_len l
  repeat' (first
    | with_reducible first | apply swp_seq | apply swp_reg | apply swp_regD | apply swp_block | apply swp_exit | apply swp_ret | apply swp_skip | apply swp_cd
    | simp only [go_sem, seval, pe44, q44]
    | simp (disch := omega) only [w64, w32, wu8, wu16, wu32, wu64]
    | with_reducible first | apply cd_dec | apply cd_eq | apply cd_ne | apply cd_split
    | ((with_reducible refine And.intro ?hw ?_); (case hw => first | omega | rfl | exact ⟨_, _, rfl⟩ | assumption | (simp only [lN] <;> omega)))
    | with_reducible intro _)
  refine swp_fam [0, 1, 4, 5] (fun j : Nat => ⟨[.sl 0 2 0 l.length cap, .fn (.func 33) [] [], .undef, .undef, .int .i64 l.length, .int .i64 j, .undef, .undef], [], ⟨[.cells (rcL l ++ U)], []⟩⟩) (fun j => j ≤ i) (fun j => l.length - j) 0 (by omega) ?_ ?_
  · simp [keepE, St.keep]
  · intro j hj
    have hjl : j < l.length := by omega
    have hg := rc_get U hjl
    have hgl : j * 2 + 2 ≤ (rcL l ++ U).length := by rw [List.length_append, hrl]; omega
    have c1 := del_p l[j] (hs _ (List.getElem_mem _))
    rw [show rpD l[j] = .agg [.slice (l[j].opts.map evD) .no, .bool l[j].doubt] from rfl] at c1
    have t0 : decide (((j : Nat) : Int) < l.length) = true := by simp; omega
    generalize rcL l ++ U = C at *
    by_cases e : j = i
    · subst e
      rw [he] at c1
      repeat' (first
    | with_reducible first | apply swp_seq | apply swp_reg | apply swp_regD | apply swp_block | apply swp_exit | apply swp_ret | apply swp_skip | apply swp_cd
    | simp only [go_sem, seval, pe44, q44, hg, t0, Nat.zero_add]
    | simp (disch := omega) only [w64, w32, wu8, wu16, wu32, wu64]
    | ((with_reducible refine o_call (c1) ?he ?hc ?_); (case he | hc => first | rfl | (simp [D.erL, D.er, D.closedL, D.closed]; done)))
    | with_reducible first | apply cd_dec | apply cd_eq | apply cd_ne | apply cd_split
    | ((with_reducible refine And.intro ?hw ?_); (case hw => first | omega | rfl | exact ⟨_, _, rfl⟩ | assumption | (simp only [lN] <;> omega)))
    | with_reducible intro _)
      all_goals first | omega | skip
      exact ⟨_, weak_refl, rfl, rfl⟩
    · rw [hm j (by omega)] at c1
      repeat' (first
    | with_reducible first | apply swp_seq | apply swp_reg | apply swp_regD | apply swp_block | apply swp_exit | apply swp_ret | apply swp_skip | apply swp_cd
    | simp only [go_sem, seval, pe44, q44, hg, t0, Nat.zero_add]
    | simp (disch := omega) only [w64, w32, wu8, wu16, wu32, wu64]
    | ((with_reducible refine o_call (c1) ?he ?hc ?_); (case he | hc => first | rfl | (simp [D.erL, D.er, D.closedL, D.closed]; done)))
    | with_reducible first | apply cd_dec | apply cd_eq | apply cd_ne | apply cd_split
    | ((with_reducible refine And.intro ?hw ?_); (case hw => first | omega | rfl | exact ⟨_, _, rfl⟩ | assumption | (simp only [lN] <;> omega)))
    | with_reducible intro _)
      all_goals first | omega | skip
      exact ⟨j + 1, by omega, by omega, by simp [St.keep, keepE]⟩
theorem ix44n (l : List Rp) (U : List D) (cap : Nat) (hl : l.length ≤ 1000) (hcap : l.length ≤ cap) (hs : Small l) (hm : ∀ r ∈ l, del r = false) :
    Eff M 44 [.sl 0 2 0 l.length cap, .fn (.func 33) [] []] ⟨[.cells (rcL l ++ U)], []⟩ fun d hp => d = .int .i64 (-1) ∧ hp = ⟨[.cells (rcL l ++ U)], []⟩ := by
  refine oe44 1 0 rfl rfl rfl ?_
  rw [ie44]
  unfold c44
  have hrl := rcL_len l
  repeat' (first
    | with_reducible first | apply swp_seq | apply swp_reg | apply swp_regD | apply swp_block | apply swp_exit | apply swp_ret | apply swp_skip | apply swp_cd
    | simp only [go_sem, seval, pe44, q44]
    | simp (disch := omega) only [w64, w32, wu8, wu16, wu32, wu64]
    | with_reducible first | apply cd_dec | apply cd_eq | apply cd_ne | apply cd_split
    | ((with_reducible refine And.intro ?hw ?_); (case hw => first | omega | rfl | exact ⟨_, _, rfl⟩ | assumption | (simp only [lN] <;> omega)))
    | with_reducible intro _)
  refine swp_fam [0, 1, 4, 5] (fun j : Nat => ⟨[.sl 0 2 0 l.length cap, .fn (.func 33) [] [], .undef, .undef, .int .i64 l.length, .int .i64 j, .undef, .undef], [], ⟨[.cells (rcL l ++ U)], []⟩⟩) (fun j => j ≤ l.length) (fun j => l.length - j) 0 (by omega) ?_ ?_
  · simp [keepE, St.keep]
  · intro j hj
    by_cases hjl : j < l.length
    · have hg := rc_get U hjl
      have hgl : j * 2 + 2 ≤ (rcL l ++ U).length := by rw [List.length_append, hrl]; omega
      have c1 := del_p l[j] (hs _ (List.getElem_mem _))
      rw [show rpD l[j] = .agg [.slice (l[j].opts.map evD) .no, .bool l[j].doubt] from rfl] at c1
      have t0 : decide (((j : Nat) : Int) < l.length) = true := by simp; omega
      generalize rcL l ++ U = C at *
      rw [hm _ (List.getElem_mem _)] at c1
      repeat' (first
    | with_reducible first | apply swp_seq | apply swp_reg | apply swp_regD | apply swp_block | apply swp_exit | apply swp_ret | apply swp_skip | apply swp_cd
    | simp only [go_sem, seval, pe44, q44, hg, t0, Nat.zero_add]
    | simp (disch := omega) only [w64, w32, wu8, wu16, wu32, wu64]
    | ((with_reducible refine o_call (c1) ?he ?hc ?_); (case he | hc => first | rfl | (simp [D.erL, D.er, D.closedL, D.closed]; done)))
    | with_reducible first | apply cd_dec | apply cd_eq | apply cd_ne | apply cd_split
    | ((with_reducible refine And.intro ?hw ?_); (case hw => first | omega | rfl | exact ⟨_, _, rfl⟩ | assumption | (simp only [lN] <;> omega)))
    | with_reducible intro _)
      all_goals first | omega | skip
      exact ⟨j + 1, by omega, by omega, by simp [St.keep, keepE]⟩
    · have t0 : decide (((j : Nat) : Int) < l.length) = false := by simp; omega
      repeat' (first
    | with_reducible first | apply swp_seq | apply swp_reg | apply swp_regD | apply swp_block | apply swp_exit | apply swp_ret | apply swp_skip | apply swp_cd
    | simp only [go_sem, seval, pe44, q44, t0]
    | simp (disch := omega) only [w64, w32, wu8, wu16, wu32, wu64]
    | with_reducible first | apply cd_dec | apply cd_eq | apply cd_ne | apply cd_split
    | ((with_reducible refine And.intro ?hw ?_); (case hw => first | omega | rfl | exact ⟨_, _, rfl⟩ | assumption | (simp only [lN] <;> omega)))
    | with_reducible intro _)
      all_goals first | omega | skip
      exact ⟨_, weak_refl, rfl, rfl⟩
theorem keeps_snoc {l : List Rp} {j : Nat} (h : j < l.length) : (l.take (j + 1)).countP (fun r => !(del r)) = (l.take j).countP (fun r => !(del r)) + if del l[j] then 0 else 1 := by
  rw [List.take_succ_eq_append_getElem h, List.countP_append, List.countP_cons, List.countP_nil]
  cases del l[j] <;> simp
theorem doubts_keep (l : List Rp) : l.countP (fun r => !(del r)) = doubtsR l := by
  unfold doubtsR
  congr 1
  funext r
  unfold del
  rw [Bool.eq_iff_iff]
  simp
set_option maxHeartbeats 2000000 in
theorem del31 (l : List Rp) (u cap : Nat) (hl : l.length ≤ 1000) (hcap : l.length + u = cap) (hs : Small l) :
    Eff M 31 [.sl 0 2 0 l.length cap, .fn (.func 33) [] []] ⟨[.cells (rcL l ++ und (u * 2))], []⟩ fun d hp => d = .sl 0 2 0 (doubtsR l) cap ∧ ∃ Z, hp = ⟨[.cells Z], []⟩ := by
  have hrl := rcL_len l
  rw [← doubts_keep]
  rcases dfirst l with ⟨i, hi, h1, h2⟩ | h
  · have c1 := ix44 l (und (u * 2)) cap hl (by omega) hs i hi h1 h2
    have hrn : ∀ β τ l, D.rnL β τ (rcL l ++ und (u * 2)) = rcL l ++ und (u * 2) := fun β τ l => by rw [rnL_app, rcL_rn, rnL_und]
    refine oe31 1 0 rfl rfl rfl ?_
    rw [ie31]
    unfold c31
    have t1 : (((i : Nat) : Int) == -1) = false := by rw [beq_eq_false_iff_ne]; omega
    repeat' (first
    | with_reducible first | apply swp_seq | apply swp_reg | apply swp_regD | apply swp_block | apply swp_exit | apply swp_ret | apply swp_skip | apply swp_cd
    | simp only [go_sem, seval, pe31, q31, t1, hrn]
    | simp (disch := omega) only [w64, w32, wu8, wu16, wu32, wu64]
    | ((with_reducible refine o_same (c1) ?he ?hh ?_); (case he => first | rfl | (simp [go_sem, seval, hrn]; done)); (case hh => first | rfl | (simp [go_sem, seval, hrn]; done)))
    | ((with_reducible apply s_slFF); (case hx => first | rfl | assumption | omega | ((first | refine ⟨?_, ?_⟩ | skip) <;> first | omega | (simp only [lN, hrn] <;> omega)) | (simp [elemsK, D.isVal, D.cells, D.closedL, D.closed, hrn]; first | done | omega)))
    | ((with_reducible first | apply s_slTF | apply s_slFT); (case h0 | h1 | hx => first | rfl | assumption | omega | ((first | refine ⟨?_, ?_⟩ | skip) <;> first | omega | (simp only [lN, hrn] <;> omega)) | (simp [elemsK, D.isVal, D.cells, D.closedL, D.closed, hrn]; first | done | omega)))
    | ((with_reducible apply s_slTT); (case h0 | h1 | h2 | hx => first | rfl | assumption | omega | ((first | refine ⟨?_, ?_⟩ | skip) <;> first | omega | (simp only [lN, hrn] <;> omega)) | (simp [elemsK, D.isVal, D.cells, D.closedL, D.closed, hrn]; first | done | omega)))
    | ((with_reducible first | apply s_smTF | apply s_smFT); (case h0 | h1 | hc => first | rfl | assumption | omega | ((first | refine ⟨?_, ?_⟩ | skip) <;> first | omega | (simp only [lN, hrn] <;> omega)) | (simp [elemsK, D.isVal, D.cells, D.closedL, D.closed, hrn]; first | done | omega)))
    | ((with_reducible apply s_smTT); (case h0 | h1 | h2 | hc => first | rfl | assumption | omega | ((first | refine ⟨?_, ?_⟩ | skip) <;> first | omega | (simp only [lN, hrn] <;> omega)) | (simp [elemsK, D.isVal, D.cells, D.closedL, D.closed, hrn]; first | done | omega)))
    | ((with_reducible apply s_clr); (case h1 => rfl); (case h2 | h3 => first | rfl | assumption | omega | ((first | refine ⟨?_, ?_⟩ | skip) <;> first | omega | (simp only [lN, hrn] <;> omega)) | (simp [elemsK, D.isVal, D.cells, D.closedL, D.closed, hrn]; first | done | omega)))
    | with_reducible first | apply cd_dec | apply cd_eq | apply cd_ne | apply cd_split
    | ((with_reducible refine And.intro ?hw ?_); (case hw => first | omega | rfl | exact ⟨_, _, rfl⟩ | assumption | (simp only [lN, hrn] <;> omega)))
    | with_reducible intro _)
    all_goals first | omega | skip
    refine swp_famG [0, 1, 3, 4] 1 0 (by unfold E31; exact Nat.le_refl 1) (by unfold E31; exact Nat.le_refl 0) (fun p : Nat × Nat × List Rp => ⟨[.sl 0 2 0 l.length cap, .fn (.func 33) [] [], .undef, .int .i64 (p.1 : Nat), .int .i64 (p.2.1 : Nat), .undef, .undef, .undef, .undef], [], ⟨[.cells (rcL p.2.2 ++ und (u * 2))], []⟩⟩)
      (fun p => p.1 < p.2.1 ∧ p.2.1 ≤ l.length ∧ p.2.2.length = l.length ∧ p.2.2.drop p.2.1 = l.drop p.2.1 ∧ p.1 = (l.take p.2.1).countP (fun r => !(del r))) (fun p => l.length - p.2.1) (i, i + 1, l) ⟨by simp only; omega, by simp only; omega, rfl, rfl, ?_⟩ ?_ ?_
    · simp only
      rw [keeps_snoc hi, h1]
      simp only [if_true, Nat.add_zero]
      symm
      have : ∀ j, j ≤ i → (l.take j).countP (fun r => !(del r)) = j := fun j => by
        induction j with
        | zero => intro _; simp
        | succ j ih => intro hj; rw [keeps_snoc (by omega), ih (by omega), h2 j (by omega)]; rfl
      exact this i (Nat.le_refl i)
    · simp [keepE, St.keep, St.keepG, St.gc, Hp.cut, D.rn, D.rnL, Blk.rnL, Blk.rn, Tv.rnL, cutF, hrn]
    · rintro ⟨a, j, S⟩ ⟨g1, g2, g3, g4, g5⟩
      simp only at g1 g2 g3 g4 g5 ⊢
      have hrS := rcL_len S
      by_cases hj : j < l.length
      · have t0 : decide (((j : Nat) : Int) < l.length) = true := by simp; omega
        have hSj : S[j]'(by omega) = l[j] := by
          have e1 : (S.drop j)[0]? = (l.drop j)[0]? := by rw [g4]
          simpa [List.getElem?_drop, show j < S.length by omega, hj] using e1
        have hg := rc_get (und (u * 2)) (l := S) (i := j) (by omega)
        rw [hSj] at hg
        have hgl : j * 2 + 2 ≤ (rcL S ++ und (u * 2)).length := by rw [List.length_append, hrS]; omega
        have hgl2 : a * 2 + 2 ≤ (rcL S ++ und (u * 2)).length := by omega
        have hst := rc_set (und (u * 2)) l[j] (l := S) (i := a) (by omega)
        have c2 := del_p l[j] (hs _ (List.getElem_mem _))
        rw [show rpD l[j] = .agg [.slice (l[j].opts.map evD) .no, .bool l[j].doubt] from rfl] at c2
        have hk := keeps_snoc hj
        have hrS1 := fun β τ => hrn β τ S
        have hrS2 := fun β τ => hrn β τ (S.set a l[j])
        cases hd : del l[j]
        · rw [hd] at c2 hk
          rw [← hst] at hrS2
          generalize rcL S ++ und (u * 2) = C at *
          repeat' (first
    | with_reducible first | apply swp_seq | apply swp_reg | apply swp_regD | apply swp_block | apply swp_exit | apply swp_ret | apply swp_skip | apply swp_cd
    | simp only [go_sem, seval, pe31, q31, hg, t0, Nat.zero_add, setL]
    | simp (disch := omega) only [w64, w32, wu8, wu16, wu32, wu64]
    | ((with_reducible refine o_call (c2) ?he ?hc ?_); (case he | hc => first | rfl | (simp [D.erL, D.er, D.closedL, D.closed]; done)))
    | ((with_reducible apply s_slFF); (case hx => first | rfl | assumption | omega | ((first | refine ⟨?_, ?_⟩ | skip) <;> first | omega | (simp only [lN] <;> omega)) | (simp [elemsK, D.isVal, D.cells, D.closedL, D.closed]; first | done | omega)))
    | ((with_reducible first | apply s_slTF | apply s_slFT); (case h0 | h1 | hx => first | rfl | assumption | omega | ((first | refine ⟨?_, ?_⟩ | skip) <;> first | omega | (simp only [lN] <;> omega)) | (simp [elemsK, D.isVal, D.cells, D.closedL, D.closed]; first | done | omega)))
    | ((with_reducible apply s_slTT); (case h0 | h1 | h2 | hx => first | rfl | assumption | omega | ((first | refine ⟨?_, ?_⟩ | skip) <;> first | omega | (simp only [lN] <;> omega)) | (simp [elemsK, D.isVal, D.cells, D.closedL, D.closed]; first | done | omega)))
    | ((with_reducible first | apply s_smTF | apply s_smFT); (case h0 | h1 | hc => first | rfl | assumption | omega | ((first | refine ⟨?_, ?_⟩ | skip) <;> first | omega | (simp only [lN] <;> omega)) | (simp [elemsK, D.isVal, D.cells, D.closedL, D.closed]; first | done | omega)))
    | ((with_reducible apply s_smTT); (case h0 | h1 | h2 | hc => first | rfl | assumption | omega | ((first | refine ⟨?_, ?_⟩ | skip) <;> first | omega | (simp only [lN] <;> omega)) | (simp [elemsK, D.isVal, D.cells, D.closedL, D.closed]; first | done | omega)))
    | ((with_reducible apply s_clr); (case h1 => rfl); (case h2 | h3 => first | rfl | assumption | omega | ((first | refine ⟨?_, ?_⟩ | skip) <;> first | omega | (simp only [lN] <;> omega)) | (simp [elemsK, D.isVal, D.cells, D.closedL, D.closed]; first | done | omega)))
    | with_reducible first | apply cd_dec | apply cd_eq | apply cd_ne | apply cd_split
    | ((with_reducible refine And.intro ?hw ?_); (case hw => first | omega | rfl | exact ⟨_, _, rfl⟩ | assumption | (simp only [lN] <;> omega)))
    | with_reducible intro _)
          all_goals first | omega | skip
          refine ⟨(a + 1, j + 1, S.set a l[j]), ⟨by simp only; omega, by simp only; omega, by simp [g3], ?_, by simp only [Bool.false_eq_true, if_false] at hk; simp only; omega⟩, by simp only; omega, ?_⟩
          · simp only
            rw [List.drop_set_of_lt (by omega)]
            have := congrArg (List.drop 1) g4
            simpa [List.drop_drop] using this
          · simp only
            rw [← hst]
            simp [keepE, St.keep, St.keepG, St.gc, Hp.cut, D.rn, D.rnL, Blk.rnL, Blk.rn, Tv.rnL, cutF, hrS2]
        · rw [hd] at c2 hk
          have hC : rcL S ++ und (u * 2) = rcL S ++ und (u * 2) := rfl
          generalize hCe : rcL S ++ und (u * 2) = C at *
          repeat' (first
    | with_reducible first | apply swp_seq | apply swp_reg | apply swp_regD | apply swp_block | apply swp_exit | apply swp_ret | apply swp_skip | apply swp_cd
    | simp only [go_sem, seval, pe31, q31, hg, t0, Nat.zero_add, setL]
    | simp (disch := omega) only [w64, w32, wu8, wu16, wu32, wu64]
    | ((with_reducible refine o_call (c2) ?he ?hc ?_); (case he | hc => first | rfl | (simp [D.erL, D.er, D.closedL, D.closed]; done)))
    | ((with_reducible apply s_slFF); (case hx => first | rfl | assumption | omega | ((first | refine ⟨?_, ?_⟩ | skip) <;> first | omega | (simp only [lN] <;> omega)) | (simp [elemsK, D.isVal, D.cells, D.closedL, D.closed]; first | done | omega)))
    | ((with_reducible first | apply s_slTF | apply s_slFT); (case h0 | h1 | hx => first | rfl | assumption | omega | ((first | refine ⟨?_, ?_⟩ | skip) <;> first | omega | (simp only [lN] <;> omega)) | (simp [elemsK, D.isVal, D.cells, D.closedL, D.closed]; first | done | omega)))
    | ((with_reducible apply s_slTT); (case h0 | h1 | h2 | hx => first | rfl | assumption | omega | ((first | refine ⟨?_, ?_⟩ | skip) <;> first | omega | (simp only [lN] <;> omega)) | (simp [elemsK, D.isVal, D.cells, D.closedL, D.closed]; first | done | omega)))
    | ((with_reducible first | apply s_smTF | apply s_smFT); (case h0 | h1 | hc => first | rfl | assumption | omega | ((first | refine ⟨?_, ?_⟩ | skip) <;> first | omega | (simp only [lN] <;> omega)) | (simp [elemsK, D.isVal, D.cells, D.closedL, D.closed]; first | done | omega)))
    | ((with_reducible apply s_smTT); (case h0 | h1 | h2 | hc => first | rfl | assumption | omega | ((first | refine ⟨?_, ?_⟩ | skip) <;> first | omega | (simp only [lN] <;> omega)) | (simp [elemsK, D.isVal, D.cells, D.closedL, D.closed]; first | done | omega)))
    | ((with_reducible apply s_clr); (case h1 => rfl); (case h2 | h3 => first | rfl | assumption | omega | ((first | refine ⟨?_, ?_⟩ | skip) <;> first | omega | (simp only [lN] <;> omega)) | (simp [elemsK, D.isVal, D.cells, D.closedL, D.closed]; first | done | omega)))
    | with_reducible first | apply cd_dec | apply cd_eq | apply cd_ne | apply cd_split
    | ((with_reducible refine And.intro ?hw ?_); (case hw => first | omega | rfl | exact ⟨_, _, rfl⟩ | assumption | (simp only [lN] <;> omega)))
    | with_reducible intro _)
          all_goals first | omega | skip
          refine ⟨(a, j + 1, S), ⟨by simp only; omega, by simp only; omega, g3, ?_, by simp only [if_true] at hk; simp only; omega⟩, by simp only; omega, ?_⟩
          · simp only
            have := congrArg (List.drop 1) g4
            simpa [List.drop_drop] using this
          · simp only
            rw [hCe]
            simp [keepE, St.keep, St.keepG, St.gc, Hp.cut, D.rn, D.rnL, Blk.rnL, Blk.rn, Tv.rnL, cutF, hrS1]
      · have t0 : decide (((j : Nat) : Int) < l.length) = false := by simp; omega
        have : j = l.length := by omega
        subst this
        rw [List.take_length] at g5
        have hgl : (rcL S ++ und (u * 2)).length = cap * 2 := by rw [List.length_append, hrS, und_len]; omega
        subst g5
        generalize l.countP (fun r => !(del r)) = a at *
        generalize rcL S ++ und (u * 2) = C at *
        repeat' (first
    | with_reducible first | apply swp_seq | apply swp_reg | apply swp_regD | apply swp_block | apply swp_exit | apply swp_ret | apply swp_skip | apply swp_cd
    | simp only [go_sem, seval, pe31, q31, t0, dlen, Nat.zero_add]
    | simp (disch := omega) only [w64, w32, wu8, wu16, wu32, wu64]
    | ((with_reducible apply s_slFF); (case hx => first | rfl | assumption | omega | ((first | refine ⟨?_, ?_⟩ | skip) <;> first | omega | (simp only [lN, hgl, dlen] <;> omega)) | (simp [elemsK, D.isVal, D.cells, D.closedL, D.closed, hgl, dlen]; first | done | omega)))
    | ((with_reducible first | apply s_slTF | apply s_slFT); (case h0 | h1 | hx => first | rfl | assumption | omega | ((first | refine ⟨?_, ?_⟩ | skip) <;> first | omega | (simp only [lN, hgl, dlen] <;> omega)) | (simp [elemsK, D.isVal, D.cells, D.closedL, D.closed, hgl, dlen]; first | done | omega)))
    | ((with_reducible apply s_slTT); (case h0 | h1 | h2 | hx => first | rfl | assumption | omega | ((first | refine ⟨?_, ?_⟩ | skip) <;> first | omega | (simp only [lN, hgl, dlen] <;> omega)) | (simp [elemsK, D.isVal, D.cells, D.closedL, D.closed, hgl, dlen]; first | done | omega)))
    | ((with_reducible first | apply s_smTF | apply s_smFT); (case h0 | h1 | hc => first | rfl | assumption | omega | ((first | refine ⟨?_, ?_⟩ | skip) <;> first | omega | (simp only [lN, hgl, dlen] <;> omega)) | (simp [elemsK, D.isVal, D.cells, D.closedL, D.closed, hgl, dlen]; first | done | omega)))
    | ((with_reducible apply s_smTT); (case h0 | h1 | h2 | hc => first | rfl | assumption | omega | ((first | refine ⟨?_, ?_⟩ | skip) <;> first | omega | (simp only [lN, hgl, dlen] <;> omega)) | (simp [elemsK, D.isVal, D.cells, D.closedL, D.closed, hgl, dlen]; first | done | omega)))
    | ((with_reducible apply s_clr); (case h1 => rfl); (case h2 | h3 => first | rfl | assumption | omega | ((first | refine ⟨?_, ?_⟩ | skip) <;> first | omega | (simp only [lN, hgl, dlen] <;> omega)) | (simp [elemsK, D.isVal, D.cells, D.closedL, D.closed, hgl, dlen]; first | done | omega)))
    | with_reducible first | apply cd_dec | apply cd_eq | apply cd_ne | apply cd_split
    | ((with_reducible refine And.intro ?hw ?_); (case hw => first | omega | rfl | exact ⟨_, _, rfl⟩ | assumption | (simp only [lN, hgl, dlen] <;> omega)))
    | with_reducible intro _)
        all_goals first | omega | skip
        exact ⟨_, weak_refl, rfl, _, rfl⟩
  · have c1 := ix44n l (und (u * 2)) cap hl (by omega) hs h
    have hrn : ∀ β τ l, D.rnL β τ (rcL l ++ und (u * 2)) = rcL l ++ und (u * 2) := fun β τ l => by rw [rnL_app, rcL_rn, rnL_und]
    have hall : l.countP (fun r => !(del r)) = l.length := List.countP_eq_length.2 fun r hr => by rw [h r hr]; rfl
    rw [hall]
    refine oe31 1 0 rfl rfl rfl ?_
    rw [ie31]
    unfold c31
    repeat' (first
    | with_reducible first | apply swp_seq | apply swp_reg | apply swp_regD | apply swp_block | apply swp_exit | apply swp_ret | apply swp_skip | apply swp_cd
    | simp only [go_sem, seval, pe31, q31, hrn]
    | simp (disch := omega) only [w64, w32, wu8, wu16, wu32, wu64]
    | ((with_reducible refine o_same (c1) ?he ?hh ?_); (case he => first | rfl | (simp [go_sem, seval, hrn]; done)); (case hh => first | rfl | (simp [go_sem, seval, hrn]; done)))
    | ((with_reducible apply s_slFF); (case hx => first | rfl | assumption | omega | ((first | refine ⟨?_, ?_⟩ | skip) <;> first | omega | (simp only [lN, hrn] <;> omega)) | (simp [elemsK, D.isVal, D.cells, D.closedL, D.closed, hrn]; first | done | omega)))
    | ((with_reducible first | apply s_slTF | apply s_slFT); (case h0 | h1 | hx => first | rfl | assumption | omega | ((first | refine ⟨?_, ?_⟩ | skip) <;> first | omega | (simp only [lN, hrn] <;> omega)) | (simp [elemsK, D.isVal, D.cells, D.closedL, D.closed, hrn]; first | done | omega)))
    | ((with_reducible apply s_slTT); (case h0 | h1 | h2 | hx => first | rfl | assumption | omega | ((first | refine ⟨?_, ?_⟩ | skip) <;> first | omega | (simp only [lN, hrn] <;> omega)) | (simp [elemsK, D.isVal, D.cells, D.closedL, D.closed, hrn]; first | done | omega)))
    | ((with_reducible first | apply s_smTF | apply s_smFT); (case h0 | h1 | hc => first | rfl | assumption | omega | ((first | refine ⟨?_, ?_⟩ | skip) <;> first | omega | (simp only [lN, hrn] <;> omega)) | (simp [elemsK, D.isVal, D.cells, D.closedL, D.closed, hrn]; first | done | omega)))
    | ((with_reducible apply s_smTT); (case h0 | h1 | h2 | hc => first | rfl | assumption | omega | ((first | refine ⟨?_, ?_⟩ | skip) <;> first | omega | (simp only [lN, hrn] <;> omega)) | (simp [elemsK, D.isVal, D.cells, D.closedL, D.closed, hrn]; first | done | omega)))
    | ((with_reducible apply s_clr); (case h1 => rfl); (case h2 | h3 => first | rfl | assumption | omega | ((first | refine ⟨?_, ?_⟩ | skip) <;> first | omega | (simp only [lN, hrn] <;> omega)) | (simp [elemsK, D.isVal, D.cells, D.closedL, D.closed, hrn]; first | done | omega)))
    | with_reducible first | apply cd_dec | apply cd_eq | apply cd_ne | apply cd_split
    | ((with_reducible refine And.intro ?hw ?_); (case hw => first | omega | rfl | exact ⟨_, _, rfl⟩ | assumption | (simp only [lN, hrn] <;> omega)))
    | with_reducible intro _)
    all_goals first | omega | skip
    exact ⟨_, weak_refl, rfl, _, rfl⟩
theorem o_sameR {P : Mod} {f : FuncId} {first cap args ds : List D} {hp0 : Hp} {R : D → Hp → Prop} {dst : Dst} {r : List RO} {K : St → Prop} {s : St} (h : Eff P f args hp0 R) (he : first ++ ds ++ cap = args) (hh : s.hp = hp0)
    (hk : ∀ d hp1, R d hp1 → opsWp P r K ({ s with hp := hp1 }.put dst d)) : OpS P .call (.fn (.func f) first cap :: ds) dst r K s := by
  unfold OpS OcWp
  simp only [isCall, if_true]
  subst he; subst hh
  exact call_same h hk
theorem clone_nil : Pur M 32 [.slice [] .no] (.slice [] .no) := by
  refine ow32 rfl ?_
  rw [i32]
  unfold c32
  repeat' (first
    | with_reducible first | apply swp_seq | apply swp_reg | apply swp_regD | apply swp_block | apply swp_exit | apply swp_ret | apply swp_skip | apply swp_cd
    | simp only [go_sem, seval, P32, q32]
    | simp (disch := omega) only [w64, w32, wu8, wu16, wu32, wu64]
    | ((with_reducible apply s_appT); (case he => rfl); (case hK | hc | hr | hV => first | rfl | assumption | omega | ((first | refine ⟨?_, ?_⟩ | skip) <;> first | omega | (simp only [lN] <;> omega)) | (simp [elemsK, D.isVal, D.cells, D.closedL, D.closed]; first | done | omega)))
    | ((with_reducible apply s_appG); (case he => rfl); (case hV | hK | hr | hl => first | rfl | assumption | omega | ((first | refine ⟨?_, ?_⟩ | skip) <;> first | omega | (simp only [lN] <;> omega)) | (simp [elemsK, D.isVal, D.cells, D.closedL, D.closed]; first | done | omega)))
    | ((with_reducible apply s_app0); (case he => rfl); (case hK | hc | hr => first | rfl | assumption | omega | ((first | refine ⟨?_, ?_⟩ | skip) <;> first | omega | (simp only [lN] <;> omega)) | (simp [elemsK, D.isVal, D.cells, D.closedL, D.closed]; first | done | omega)))
    | ((with_reducible apply s_appF); (case he => rfl); (case hK | hc | hr | hx | hn => first | rfl | assumption | omega | ((first | refine ⟨?_, ?_⟩ | skip) <;> first | omega | (simp only [lN] <;> omega)) | (simp [elemsK, D.isVal, D.cells, D.closedL, D.closed]; first | done | omega)))
    | ((with_reducible apply s_bsl); (case he | hl | hc => first | rfl | assumption | omega | ((first | refine ⟨?_, ?_⟩ | skip) <;> first | omega | (simp only [lN] <;> omega)) | (simp [elemsK, D.isVal, D.cells, D.closedL, D.closed]; first | done | omega)))
    | with_reducible first | apply cd_dec | apply cd_eq | apply cd_ne | apply cd_split
    | ((with_reducible refine And.intro ?hw ?_); (case hw => first | omega | rfl | exact ⟨_, _, rfl⟩ | assumption | (simp only [lN] <;> omega)))
    | with_reducible intro _)
  all_goals refine ⟨_, weak_nn, ?_, ?_⟩
  all_goals simp [D.nnL, D.nn, D.closed, D.er, D.erL]
theorem ix44_nil : Pur M 44 [.slice [] .no, .fn (.func 33) [] []] (.int .i64 (-1)) := by
  refine ok44 rfl ?_
  rw [i44]
  unfold c44
  repeat' (first
    | with_reducible first | apply swp_seq | apply swp_reg | apply swp_regD | apply swp_block | apply swp_exit | apply swp_ret | apply swp_skip | apply swp_cd
    | simp only [go_sem, seval, P44, q44]
    | simp (disch := omega) only [w64, w32, wu8, wu16, wu32, wu64]
    | with_reducible first | apply cd_dec | apply cd_eq | apply cd_ne | apply cd_split
    | ((with_reducible refine And.intro ?hw ?_); (case hw => first | omega | rfl | exact ⟨_, _, rfl⟩ | assumption | (simp only [lN] <;> omega)))
    | with_reducible intro _)
  refine swp_fam [0, 1, 4, 5] (fun _ : Unit => ⟨[.slice [] .no, .fn (.func 33) [] [], .undef, .undef, .int .i64 0, .int .i64 0, .undef, .undef], [], ⟨[], []⟩⟩) (fun _ => True) (fun _ => 0) () trivial ?_ ?_
  · simp [keepE, St.keep]
  · intro _ _
    repeat' (first
    | with_reducible first | apply swp_seq | apply swp_reg | apply swp_regD | apply swp_block | apply swp_exit | apply swp_ret | apply swp_skip | apply swp_cd
    | simp only [go_sem, seval, P44, q44]
    | simp (disch := omega) only [w64, w32, wu8, wu16, wu32, wu64]
    | with_reducible first | apply cd_dec | apply cd_eq | apply cd_ne | apply cd_split
    | ((with_reducible refine And.intro ?hw ?_); (case hw => first | omega | rfl | exact ⟨_, _, rfl⟩ | assumption | (simp only [lN] <;> omega)))
    | with_reducible intro _)
    all_goals first | omega | simp [D.closed, D.er]
theorem del31_nil : Pur M 31 [.slice [] .no, .fn (.func 33) [] []] (.slice [] .no) := by
  have c1 := ix44_nil
  refine ok31 rfl ?_
  rw [i31]
  unfold c31
  repeat' (first
    | with_reducible first | apply swp_seq | apply swp_reg | apply swp_regD | apply swp_block | apply swp_exit | apply swp_ret | apply swp_skip | apply swp_cd
    | simp only [go_sem, seval, P31, q31]
    | simp (disch := omega) only [w64, w32, wu8, wu16, wu32, wu64]
    | ((with_reducible refine o_call (c1) ?he ?hc ?_); (case he | hc => first | rfl | (simp [D.erL, D.er, D.closedL, D.closed]; done)))
    | ((with_reducible apply s_slFF); (case hx => first | rfl | assumption | omega | ((first | refine ⟨?_, ?_⟩ | skip) <;> first | omega | (simp only [lN] <;> omega)) | (simp [elemsK, D.isVal, D.cells, D.closedL, D.closed]; first | done | omega)))
    | ((with_reducible first | apply s_slTF | apply s_slFT); (case h0 | h1 | hx => first | rfl | assumption | omega | ((first | refine ⟨?_, ?_⟩ | skip) <;> first | omega | (simp only [lN] <;> omega)) | (simp [elemsK, D.isVal, D.cells, D.closedL, D.closed]; first | done | omega)))
    | ((with_reducible apply s_slTT); (case h0 | h1 | h2 | hx => first | rfl | assumption | omega | ((first | refine ⟨?_, ?_⟩ | skip) <;> first | omega | (simp only [lN] <;> omega)) | (simp [elemsK, D.isVal, D.cells, D.closedL, D.closed]; first | done | omega)))
    | ((with_reducible first | apply s_smTF | apply s_smFT); (case h0 | h1 | hc => first | rfl | assumption | omega | ((first | refine ⟨?_, ?_⟩ | skip) <;> first | omega | (simp only [lN] <;> omega)) | (simp [elemsK, D.isVal, D.cells, D.closedL, D.closed]; first | done | omega)))
    | ((with_reducible apply s_smTT); (case h0 | h1 | h2 | hc => first | rfl | assumption | omega | ((first | refine ⟨?_, ?_⟩ | skip) <;> first | omega | (simp only [lN] <;> omega)) | (simp [elemsK, D.isVal, D.cells, D.closedL, D.closed]; first | done | omega)))
    | ((with_reducible apply s_clr); (case h1 => rfl); (case h2 | h3 => first | rfl | assumption | omega | ((first | refine ⟨?_, ?_⟩ | skip) <;> first | omega | (simp only [lN] <;> omega)) | (simp [elemsK, D.isVal, D.cells, D.closedL, D.closed]; first | done | omega)))
    | with_reducible first | apply cd_dec | apply cd_eq | apply cd_ne | apply cd_split
    | ((with_reducible refine And.intro ?hw ?_); (case hw => first | omega | rfl | exact ⟨_, _, rfl⟩ | assumption | (simp only [lN] <;> omega)))
    | with_reducible intro _)
  all_goals first | omega | simp [D.closed, D.er]
theorem doubts_p (l : List Rp) (hl : l.length ≤ 1000) (hs : Small l) : Pur M 18 [rpsD l] (.int .i64 (doubtsR l : Nat)) := by
  by_cases h0 : l.length = 0
  · have : l = [] := List.eq_nil_of_length_eq_zero h0
    subst this
    have c1 := clone_nil
    have c2 := del31_nil
    refine ok18 rfl ?_
    rw [i18]
    unfold c18
    repeat' (first
    | with_reducible first | apply swp_seq | apply swp_reg | apply swp_regD | apply swp_block | apply swp_exit | apply swp_ret | apply swp_skip | apply swp_cd
    | simp only [go_sem, seval, P18, q18]
    | simp (disch := omega) only [w64, w32, wu8, wu16, wu32, wu64]
    | ((with_reducible refine o_call (c1) ?he ?hc ?_); (case he | hc => first | rfl | (simp [D.erL, D.er, D.closedL, D.closed]; done)))
    | ((with_reducible refine o_call (c2) ?he ?hc ?_); (case he | hc => first | rfl | (simp [D.erL, D.er, D.closedL, D.closed]; done)))
    | with_reducible first | apply cd_dec | apply cd_eq | apply cd_ne | apply cd_split
    | ((with_reducible refine And.intro ?hw ?_); (case hw => first | omega | rfl | exact ⟨_, _, rfl⟩ | assumption | (simp only [lN] <;> omega)))
    | with_reducible intro _)
    all_goals first | omega | simp [D.closed, D.er, doubtsR]
  · have c1 := clone_r l hl (by omega)
    refine ow18 rfl ?_
    rw [i18]
    unfold c18
    repeat' (first
    | with_reducible first | apply swp_seq | apply swp_reg | apply swp_regD | apply swp_block | apply swp_exit | apply swp_ret | apply swp_skip | apply swp_cd
    | simp only [go_sem, seval, P18, q18]
    | simp (disch := omega) only [w64, w32, wu8, wu16, wu32, wu64]
    | with_reducible first | apply cd_dec | apply cd_eq | apply cd_ne | apply cd_split
    | ((with_reducible refine And.intro ?hw ?_); (case hw => first | omega | rfl | exact ⟨_, _, rfl⟩ | assumption | (simp only [lN] <;> omega)))
    | with_reducible intro _)
    refine o_sameR c1 rfl rfl fun d hp1 hR => ?_
    obtain ⟨cap, hc, rfl, rfl⟩ := hR
    have c2 := del31 l (cap - l.length) cap hl (by omega) hs
    repeat' (first
    | with_reducible first | apply swp_seq | apply swp_reg | apply swp_regD | apply swp_block | apply swp_exit | apply swp_ret | apply swp_skip | apply swp_cd
    | simp only [go_sem, seval, P18, q18]
    | simp (disch := omega) only [w64, w32, wu8, wu16, wu32, wu64]
    | with_reducible first | apply cd_dec | apply cd_eq | apply cd_ne | apply cd_split
    | ((with_reducible refine And.intro ?hw ?_); (case hw => first | omega | rfl | exact ⟨_, _, rfl⟩ | assumption | (simp only [lN] <;> omega)))
    | with_reducible intro _)
    refine o_sameR c2 rfl rfl fun d hp1 hR => ?_
    obtain ⟨rfl, Z, rfl⟩ := hR
    repeat' (first
    | with_reducible first | apply swp_seq | apply swp_reg | apply swp_regD | apply swp_block | apply swp_exit | apply swp_ret | apply swp_skip | apply swp_cd
    | simp only [go_sem, seval, P18, q18]
    | simp (disch := omega) only [w64, w32, wu8, wu16, wu32, wu64]
    | with_reducible first | apply cd_dec | apply cd_eq | apply cd_ne | apply cd_split
    | ((with_reducible refine And.intro ?hw ?_); (case hw => first | omega | rfl | exact ⟨_, _, rfl⟩ | assumption | (simp only [lN] <;> omega)))
    | with_reducible intro _)
    all_goals first | omega | skip
    exact ⟨_, weak_refl, by simp [D.closed], by simp [D.er]⟩
end Go.Proofs.Ytofnggfpegcllaa
end
section
set_option maxRecDepth 100000
set_option linter.unusedSimpArgs false
set_option linter.unusedVariables false
namespace Go.Proofs.Ytofnggfpegcllaa
open Go GoV Go.RowKit
theorem compsD_len (C : List (List Nat)) : (compsD C).length = C.length := by simp [compsD]
theorem compsD_get {C : List (List Nat)} {i : Nat} (h : i < C.length) : (compsD C).getD i .undef = .slice (ints (C.getD i [])) .no := by simp [compsD, List.getD, h]
theorem cl_comps (C : List (List Nat)) : D.closedL (compsD C) = true := by
  induction C with
  | nil => rfl
  | cons c C ih => simp [compsD, D.closedL, D.closed] at ih ⊢; exact ih
theorem er_comps (C : List (List Nat)) : D.erL (compsD C) = compsD C := by
  induction C with
  | nil => rfl
  | cons c C ih => simp [compsD, D.erL, D.er] at ih ⊢; exact ih
theorem in_p (N : List Nm) (s : Nm) (hl : N.length ≤ 1000) : Pur M 22 [.slice (strs N) .no, .str s] (.bool (N.contains s)) := by
  refine ok22 rfl ?_
  rw [i22]
  unfold c22
  have hn := strs_len N
  repeat' (first
    | with_reducible first | apply swp_seq | apply swp_reg | apply swp_regD | apply swp_block | apply swp_exit | apply swp_ret | apply swp_skip | apply swp_cd
    | simp only [go_sem, seval, P22, q22]
    | simp (disch := omega) only [w64, w32, wu8, wu16, wu32, wu64]
    | with_reducible first | apply cd_dec | apply cd_eq | apply cd_ne | apply cd_split
    | ((with_reducible refine And.intro ?hw ?_); (case hw => first | omega | rfl | exact ⟨_, _, rfl⟩ | assumption | (simp only [lN] <;> omega)))
    | with_reducible intro _)
  refine swp_fam [0, 1, 3] (fun i : Nat => ⟨[.slice (strs N) .no, .str s, .undef, .int .i64 i, .undef, .undef], [], ⟨[], []⟩⟩) (fun i => i ≤ N.length ∧ ∀ j (h : j < i) (g : j < N.length), N[j] ≠ s) (fun i => N.length - i) 0 ⟨by omega, fun j h => by omega⟩ ?_ ?_
  · simp [keepE, St.keep]
  · rintro i ⟨h1, h2⟩
    by_cases hi : i < N.length
    · have hg := strs_get hi
      have t0 : decide (((i : Nat) : Int) < N.length) = true := by simp; omega
      by_cases he : N[i] = s
      · have hb : (N[i] == s) = true := by rw [beq_iff_eq]; exact he
        have hc : N.contains s = true := by rw [List.contains_iff_mem, ← he]; exact List.getElem_mem hi
        rw [hc]
        repeat' (first
    | with_reducible first | apply swp_seq | apply swp_reg | apply swp_regD | apply swp_block | apply swp_exit | apply swp_ret | apply swp_skip | apply swp_cd
    | simp only [go_sem, seval, P22, q22, hn, hg, t0, hb]
    | simp (disch := omega) only [w64, w32, wu8, wu16, wu32, wu64]
    | with_reducible first | apply cd_dec | apply cd_eq | apply cd_ne | apply cd_split
    | ((with_reducible refine And.intro ?hw ?_); (case hw => first | omega | rfl | exact ⟨_, _, rfl⟩ | assumption | (simp only [lN, hn, hg] <;> omega)))
    | with_reducible intro _)
        all_goals first | omega | simp [D.closed, D.er]
      · have hb : (N[i] == s) = false := by rw [beq_eq_false_iff_ne]; exact he
        repeat' (first
    | with_reducible first | apply swp_seq | apply swp_reg | apply swp_regD | apply swp_block | apply swp_exit | apply swp_ret | apply swp_skip | apply swp_cd
    | simp only [go_sem, seval, P22, q22, hn, hg, t0, hb]
    | simp (disch := omega) only [w64, w32, wu8, wu16, wu32, wu64]
    | with_reducible first | apply cd_dec | apply cd_eq | apply cd_ne | apply cd_split
    | ((with_reducible refine And.intro ?hw ?_); (case hw => first | omega | rfl | exact ⟨_, _, rfl⟩ | assumption | (simp only [lN, hn, hg] <;> omega)))
    | with_reducible intro _)
        all_goals first | omega | skip
        refine ⟨i + 1, ⟨by omega, fun j h g => ?_⟩, by omega, by simp [keepE, St.keep]⟩
        by_cases e : j = i
        · subst e; exact he
        · exact h2 j (by omega) g
    · have t0 : decide (((i : Nat) : Int) < N.length) = false := by simp; omega
      have hc : N.contains s = false := by
        cases e : N.contains s with
        | false => rfl
        | true =>
          rw [List.contains_iff_mem] at e
          obtain ⟨j, hj, e⟩ := List.getElem_of_mem e
          exact absurd e (h2 j (by omega) hj)
      rw [hc]
      repeat' (first
    | with_reducible first | apply swp_seq | apply swp_reg | apply swp_regD | apply swp_block | apply swp_exit | apply swp_ret | apply swp_skip | apply swp_cd
    | simp only [go_sem, seval, P22, q22, hn, t0]
    | simp (disch := omega) only [w64, w32, wu8, wu16, wu32, wu64]
    | with_reducible first | apply cd_dec | apply cd_eq | apply cd_ne | apply cd_split
    | ((with_reducible refine And.intro ?hw ?_); (case hw => first | omega | rfl | exact ⟨_, _, rfl⟩ | assumption | (simp only [lN, hn] <;> omega)))
    | with_reducible intro _)
      all_goals first | omega | simp [D.closed, D.er]
theorem ints_getD {F : List Nat} {i : Nat} (h : i < F.length) : (ints F).getD i .undef = .int .i64 (F[i] : Nat) := by simp [ints, List.getD, h]
theorem ints_p (a b : List Nat) (hl : a.length ≤ 1000) (hl2 : b.length ≤ 1000) : Pur M 15 [.slice (ints a) .no, .slice (ints b) .no] (.bool (a == b)) := by
  refine ok15 rfl ?_
  rw [i15]
  unfold c15
  have ha := ints_len a
  have hb := ints_len b
  by_cases he : a.length = b.length
  · have t0 : (((a.length : Nat) : Int) != (b.length : Nat)) = false := by rw [he]; simp
    repeat' (first
    | with_reducible first | apply swp_seq | apply swp_reg | apply swp_regD | apply swp_block | apply swp_exit | apply swp_ret | apply swp_skip | apply swp_cd
    | simp only [go_sem, seval, P15, q15, ha, hb, t0]
    | simp (disch := omega) only [w64, w32, wu8, wu16, wu32, wu64]
    | with_reducible first | apply cd_dec | apply cd_eq | apply cd_ne | apply cd_split
    | ((with_reducible refine And.intro ?hw ?_); (case hw => first | omega | rfl | exact ⟨_, _, rfl⟩ | assumption | (simp only [lN, ha, hb] <;> omega)))
    | with_reducible intro _)
    refine swp_fam [0, 1, 3] (fun i : Nat => ⟨[.slice (ints a) .no, .slice (ints b) .no, .undef, .int .i64 i, .undef, .undef, .undef], [], ⟨[], []⟩⟩) (fun i => i ≤ a.length ∧ ∀ j (h : j < i) (g : j < a.length), a[j] = b[j]'(by omega)) (fun i => a.length - i) 0 ⟨by omega, fun j h => by omega⟩ ?_ ?_
    · simp [keepE, St.keep]
    · rintro i ⟨h1, h2⟩
      by_cases hi : i < a.length
      · have t1 : decide (((i : Nat) : Int) < a.length) = true := by simp; omega
        have g1 := ints_getD hi
        have g2 := ints_getD (F := b) (i := i) (by omega)
        by_cases e : a[i] = b[i]
        · have t2 : (((a[i] : Nat) : Int) != (b[i] : Nat)) = false := by rw [e]; simp
          repeat' (first
    | with_reducible first | apply swp_seq | apply swp_reg | apply swp_regD | apply swp_block | apply swp_exit | apply swp_ret | apply swp_skip | apply swp_cd
    | simp only [go_sem, seval, P15, q15, ha, hb, t1, t2, g1, g2]
    | simp (disch := omega) only [w64, w32, wu8, wu16, wu32, wu64]
    | with_reducible first | apply cd_dec | apply cd_eq | apply cd_ne | apply cd_split
    | ((with_reducible refine And.intro ?hw ?_); (case hw => first | omega | rfl | exact ⟨_, _, rfl⟩ | assumption | (simp only [lN, ha, hb, g1, g2] <;> omega)))
    | with_reducible intro _)
          all_goals first | omega | skip
          refine ⟨i + 1, ⟨by omega, fun j h g => ?_⟩, by omega, by simp [keepE, St.keep]⟩
          by_cases q : j = i
          · subst q; exact e
          · exact h2 j (by omega) g
        · have t2 : (((a[i] : Nat) : Int) != (b[i] : Nat)) = true := by rw [bne_iff_ne]; omega
          have hc : (a == b) = false := by rw [beq_eq_false_iff_ne]; intro q; subst q; exact e rfl
          rw [hc]
          repeat' (first
    | with_reducible first | apply swp_seq | apply swp_reg | apply swp_regD | apply swp_block | apply swp_exit | apply swp_ret | apply swp_skip | apply swp_cd
    | simp only [go_sem, seval, P15, q15, ha, hb, t1, t2, g1, g2]
    | simp (disch := omega) only [w64, w32, wu8, wu16, wu32, wu64]
    | with_reducible first | apply cd_dec | apply cd_eq | apply cd_ne | apply cd_split
    | ((with_reducible refine And.intro ?hw ?_); (case hw => first | omega | rfl | exact ⟨_, _, rfl⟩ | assumption | (simp only [lN, ha, hb, g1, g2] <;> omega)))
    | with_reducible intro _)
          all_goals first | omega | simp [D.closed, D.er]
      · have t1 : decide (((i : Nat) : Int) < a.length) = false := by simp; omega
        have hc : (a == b) = true := by
          rw [beq_iff_eq]
          exact List.ext_getElem he fun j g1 g2 => h2 j (by omega) g1
        rw [hc]
        repeat' (first
    | with_reducible first | apply swp_seq | apply swp_reg | apply swp_regD | apply swp_block | apply swp_exit | apply swp_ret | apply swp_skip | apply swp_cd
    | simp only [go_sem, seval, P15, q15, ha, hb, t1]
    | simp (disch := omega) only [w64, w32, wu8, wu16, wu32, wu64]
    | with_reducible first | apply cd_dec | apply cd_eq | apply cd_ne | apply cd_split
    | ((with_reducible refine And.intro ?hw ?_); (case hw => first | omega | rfl | exact ⟨_, _, rfl⟩ | assumption | (simp only [lN, ha, hb] <;> omega)))
    | with_reducible intro _)
        all_goals first | omega | simp [D.closed, D.er]
  · have t0 : (((a.length : Nat) : Int) != (b.length : Nat)) = true := by rw [bne_iff_ne]; omega
    have hc : (a == b) = false := by rw [beq_eq_false_iff_ne]; intro q; subst q; exact he rfl
    rw [hc]
    repeat' (first
    | with_reducible first | apply swp_seq | apply swp_reg | apply swp_regD | apply swp_block | apply swp_exit | apply swp_ret | apply swp_skip | apply swp_cd
    | simp only [go_sem, seval, P15, q15, ha, hb, t0]
    | simp (disch := omega) only [w64, w32, wu8, wu16, wu32, wu64]
    | with_reducible first | apply cd_dec | apply cd_eq | apply cd_ne | apply cd_split
    | ((with_reducible refine And.intro ?hw ?_); (case hw => first | omega | rfl | exact ⟨_, _, rfl⟩ | assumption | (simp only [lN, ha, hb] <;> omega)))
    | with_reducible intro _)
    all_goals first | omega | simp [D.closed, D.er]
theorem same_p (a : List (List Nat)) (hl : a.length ≤ 1000) (hs : ∀ c ∈ a, c.length ≤ 1000) : Pur M 12 [.slice (compsD a) .no, .slice (compsD a) .no] (.bool true) := by
  refine ok12 rfl ?_
  rw [i12]
  unfold c12
  have ha := compsD_len a
  have t0 : (((a.length : Nat) : Int) != (a.length : Nat)) = false := by simp
  repeat' (first
    | with_reducible first | apply swp_seq | apply swp_reg | apply swp_regD | apply swp_block | apply swp_exit | apply swp_ret | apply swp_skip | apply swp_cd
    | simp only [go_sem, seval, P12, q12, ha, t0]
    | simp (disch := omega) only [w64, w32, wu8, wu16, wu32, wu64]
    | with_reducible first | apply cd_dec | apply cd_eq | apply cd_ne | apply cd_split
    | ((with_reducible refine And.intro ?hw ?_); (case hw => first | omega | rfl | exact ⟨_, _, rfl⟩ | assumption | (simp only [lN, ha] <;> omega)))
    | with_reducible intro _)
  refine swp_fam [0, 1, 3] (fun i : Nat => ⟨[.slice (compsD a) .no, .slice (compsD a) .no, .undef, .int .i64 i, .undef, .undef, .undef], [], ⟨[], []⟩⟩) (fun i => i ≤ a.length) (fun i => a.length - i) 0 (by omega) ?_ ?_
  · simp [keepE, St.keep]
  · intro i h1
    by_cases hi : i < a.length
    · have t1 : decide (((i : Nat) : Int) < a.length) = true := by simp; omega
      have g1 := compsD_get hi
      have hm : (a.getD i []).length ≤ 1000 := by
        have : a.getD i [] = a[i] := by simp [List.getD, hi]
        rw [this]; exact hs _ (List.getElem_mem hi)
      have c1 := ints_p (a.getD i []) (a.getD i []) hm hm
      rw [beq_self_eq_true] at c1
      have hcl := cl_ints (a.getD i [])
      have her := er_ints (a.getD i [])
      repeat' (first
    | with_reducible first | apply swp_seq | apply swp_reg | apply swp_regD | apply swp_block | apply swp_exit | apply swp_ret | apply swp_skip | apply swp_cd
    | simp only [go_sem, seval, P12, q12, ha, t1, g1]
    | simp (disch := omega) only [w64, w32, wu8, wu16, wu32, wu64]
    | ((with_reducible refine o_call (c1) ?he ?hc ?_); (case he | hc => first | rfl | (simp [D.erL, D.er, D.closedL, D.closed, ha, g1, hcl, her]; done)))
    | with_reducible first | apply cd_dec | apply cd_eq | apply cd_ne | apply cd_split
    | ((with_reducible refine And.intro ?hw ?_); (case hw => first | omega | rfl | exact ⟨_, _, rfl⟩ | assumption | (simp only [lN, ha, g1, hcl, her] <;> omega)))
    | with_reducible intro _)
      all_goals first | omega | skip
      exact ⟨i + 1, by omega, by omega, by simp [keepE, St.keep]⟩
    · have t1 : decide (((i : Nat) : Int) < a.length) = false := by simp; omega
      repeat' (first
    | with_reducible first | apply swp_seq | apply swp_reg | apply swp_regD | apply swp_block | apply swp_exit | apply swp_ret | apply swp_skip | apply swp_cd
    | simp only [go_sem, seval, P12, q12, ha, t1]
    | simp (disch := omega) only [w64, w32, wu8, wu16, wu32, wu64]
    | with_reducible first | apply cd_dec | apply cd_eq | apply cd_ne | apply cd_split
    | ((with_reducible refine And.intro ?hw ?_); (case hw => first | omega | rfl | exact ⟨_, _, rfl⟩ | assumption | (simp only [lN, ha] <;> omega)))
    | with_reducible intro _)
      all_goals first | omega | simp [D.closed, D.er]
def madeR (s : Nm) : Rp := ⟨[⟨1, 0, s, [107], [], [], [], [], ⟨0, 0⟩, ⟨0, 0⟩, ⟨0, 0⟩⟩], false⟩
theorem made_p (s : Nm) : Pur M 24 [.str s] (.agg [.slice [.agg [.int .i64 1, .int .i64 0, .str s, .str [107], .str [], .str [], .str [], .str [], .int .i64 0, .int .i64 0, .int .i64 0, .int .i64 0, .int .i64 0, .int .i64 0]] .no, .bool false]) := by
  refine ok24 rfl ?_
  rw [i24]
  unfold c24
  repeat' (first
    | with_reducible first | apply swp_seq | apply swp_reg | apply swp_regD | apply swp_block | apply swp_exit | apply swp_ret | apply swp_skip | apply swp_cd
    | simp only [go_sem, seval, P24, q24, fillL]
    | simp (disch := omega) only [w64, w32, wu8, wu16, wu32, wu64]
    | ((with_reducible apply s_bsl); (case he | hl | hc => first | rfl | assumption | omega | ((first | refine ⟨?_, ?_⟩ | skip) <;> first | omega | (simp only [lN] <;> omega)) | (simp [elemsK, D.isVal, D.cells, D.closedL, D.closed]; first | done | omega)))
    | with_reducible first | apply cd_dec | apply cd_eq | apply cd_ne | apply cd_split
    | ((with_reducible refine And.intro ?hw ?_); (case hw => first | omega | rfl | exact ⟨_, _, rfl⟩ | assumption | (simp only [lN] <;> omega)))
    | with_reducible intro _)
  all_goals simp [D.closed, D.er, D.closedL, D.erL]
def headL : List Rp := [madeR [97], madeR [98], ⟨[⟨2, 0, [97], [], [99], [115], [], [], ⟨0, 0⟩, ⟨0, 0⟩, ⟨0, 0⟩⟩], true⟩, madeR [99]]
theorem head_c : comps (namesL headL) = [[0, 2, 3], [1]] := by kernel_rfl
theorem head_o1 : ofP (namesL headL) [99] = [0, 2, 3] := by kernel_rfl
theorem head_o2 : ofP (namesL headL) [120] = [] := by kernel_rfl
theorem head_d : doubtsR headL = 1 := by kernel_rfl
set_option maxHeartbeats 1000000 in
theorem head_p : Pur M 10 [] (.bool true) := by
  have hs : Small headL := by
    intro r hr e he
    have : (headL.all fun r => r.opts.all Ev.sh) = true := by kernel_rfl
    exact List.all_eq_true.1 (List.all_eq_true.1 this r hr) e he
  have c1 := components_p headL (by decide) hs
  have c2 := of_p headL (by decide) hs [99]
  have c3 := of_p headL (by decide) hs [120]
  have c4 := doubts_p headL (by decide) hs
  have c5 := same_p [[0, 2, 3], [1]] (by decide) (by decide)
  have c6 := ints_p [0, 2, 3] [0, 2, 3] (by decide) (by decide)
  rw [head_c] at c1
  rw [head_o1] at c2
  rw [head_o2] at c3
  rw [head_d] at c4
  rw [beq_self_eq_true] at c6
  simp only [compsD, ints, List.map_cons, List.map_nil] at c1 c2 c3 c5 c6
  have m1 := made_p [97]
  have m2 := made_p [98]
  have m3 := made_p [99]
  simp only [headL, madeR, rpsD, List.map_cons, List.map_nil, rpD, evD, Ev.cells] at c1 c2 c3 c4
  refine ok10 rfl ?_
  rw [i10]
  unfold c10
  repeat' (first
    | with_reducible first | apply swp_seq | apply swp_reg | apply swp_regD | apply swp_block | apply swp_exit | apply swp_ret | apply swp_skip | apply swp_cd
    | simp only [go_sem, seval, P10, q10, fillL, nc0, nc1, nc2, nc3]
    | simp (disch := omega) only [w64, w32, wu8, wu16, wu32, wu64]
    | ((with_reducible first | refine o_call (m1) ?he ?hc ?_ | refine p_call (m1) ?he ?hc ?_ | refine c_call (m1) ?he ?hc ?_); (case he | hc => first | rfl | (simp [D.erL, D.er, D.closedL, D.closed, nc0, nc1, nc2, nc3]; done)))
    | ((with_reducible first | refine o_call (m2) ?he ?hc ?_ | refine p_call (m2) ?he ?hc ?_ | refine c_call (m2) ?he ?hc ?_); (case he | hc => first | rfl | (simp [D.erL, D.er, D.closedL, D.closed, nc0, nc1, nc2, nc3]; done)))
    | ((with_reducible first | refine o_call (m3) ?he ?hc ?_ | refine p_call (m3) ?he ?hc ?_ | refine c_call (m3) ?he ?hc ?_); (case he | hc => first | rfl | (simp [D.erL, D.er, D.closedL, D.closed, nc0, nc1, nc2, nc3]; done)))
    | ((with_reducible first | refine o_call (c1) ?he ?hc ?_ | refine p_call (c1) ?he ?hc ?_ | refine c_call (c1) ?he ?hc ?_); (case he | hc => first | rfl | (simp [D.erL, D.er, D.closedL, D.closed, nc0, nc1, nc2, nc3]; done)))
    | ((with_reducible first | refine o_call (c2) ?he ?hc ?_ | refine p_call (c2) ?he ?hc ?_ | refine c_call (c2) ?he ?hc ?_); (case he | hc => first | rfl | (simp [D.erL, D.er, D.closedL, D.closed, nc0, nc1, nc2, nc3]; done)))
    | ((with_reducible first | refine o_call (c3) ?he ?hc ?_ | refine p_call (c3) ?he ?hc ?_ | refine c_call (c3) ?he ?hc ?_); (case he | hc => first | rfl | (simp [D.erL, D.er, D.closedL, D.closed, nc0, nc1, nc2, nc3]; done)))
    | ((with_reducible first | refine o_call (c4) ?he ?hc ?_ | refine p_call (c4) ?he ?hc ?_ | refine c_call (c4) ?he ?hc ?_); (case he | hc => first | rfl | (simp [D.erL, D.er, D.closedL, D.closed, nc0, nc1, nc2, nc3]; done)))
    | ((with_reducible first | refine o_call (c5) ?he ?hc ?_ | refine p_call (c5) ?he ?hc ?_ | refine c_call (c5) ?he ?hc ?_); (case he | hc => first | rfl | (simp [D.erL, D.er, D.closedL, D.closed, nc0, nc1, nc2, nc3]; done)))
    | ((with_reducible first | refine o_call (c6) ?he ?hc ?_ | refine p_call (c6) ?he ?hc ?_ | refine c_call (c6) ?he ?hc ?_); (case he | hc => first | rfl | (simp [D.erL, D.er, D.closedL, D.closed, nc0, nc1, nc2, nc3]; done)))
    | ((with_reducible apply s_bsl); (case he | hl | hc => first | rfl | assumption | omega | ((first | refine ⟨?_, ?_⟩ | skip) <;> first | omega | (simp only [lN, nc0, nc1, nc2, nc3] <;> omega)) | (simp [elemsK, D.isVal, D.cells, D.closedL, D.closed, nc0, nc1, nc2, nc3]; first | done | omega)))
    | with_reducible first | apply cd_dec | apply cd_eq | apply cd_ne | apply cd_split | apply gd_dec | apply gd_eq | apply gd_ne | apply gd_split
    | ((with_reducible refine And.intro ?hw ?_); (case hw => first | omega | rfl | exact ⟨_, _, rfl⟩ | assumption | (simp only [lN, nc0, nc1, nc2, nc3] <;> omega)))
    | with_reducible intro _)
  all_goals trace_state
  all_goals first | omega | simp [D.closed, D.er]
end Go.Proofs.Ytofnggfpegcllaa
end
section
set_option maxRecDepth 100000
set_option linter.unusedSimpArgs false
set_option linter.unusedVariables false
namespace Go.Proofs.Ytofnggfpegcllaa
open Go GoV Go.RowKit
theorem zeros_ints : ∀ n : Nat, zeros [.int .i64 0] n = ints (List.replicate n 0)
  | 0 => rfl
  | n + 1 => by
    have := zeros_ints n
    simp only [zeros, List.replicate_succ, ints, List.map_cons, List.cons_append, List.nil_append] at this ⊢
    rw [this]; rfl
theorem chunk_ints : ∀ F : List Nat, chunk 1 F.length (ints F) = ints F
  | [] => rfl
  | x :: F => by
    have := chunk_ints F
    simp only [ints, List.map_cons, List.length_cons, chunk, List.drop_succ_cons, List.drop_zero] at this ⊢
    rw [this]; rfl
theorem cno_app {L : List Nat} (h : Lo L) {i : Nat} (hi : i < (roots L).length) : (compsL L).getD i [] = mem L ((roots L).getD i 0) := by
  have hc : i < (compsL L).length := by rw [comps_len]; exact hi
  have h1 : (compsL L).getD i [] = (compsL L)[i] := by simp [List.getD, hc]
  have h2 : (roots L).getD i 0 = (roots L)[i] := by simp [List.getD, hi]
  rw [h1, h2, comps_get hi]
@[reducible] noncomputable def atLoop : RC := RC.loop (((RC.reg r20_9).seq (RC.cond (Opd.var 11) RC.skip (RC.exit 2))).seq ((RC.block 3 ((RC.reg r20_10).seq (((RC.reg r20_11).seq (RC.cond (Opd.var 12) ((RC.reg r20_12).seq RC.ret) RC.skip)).seq ((RC.reg r20_13).seq (RC.reg r20_14))))).seq (RC.reg r20_15)))
set_option maxHeartbeats 1000000 in
theorem at_inner {n i : Nat} (A : List D) (C : List Nat) (O : Nat → List Nat) (cn : Nat → Nat) (hi : i < A.length) (hi2 : i ≤ 1000) (hA : A.getD i .undef = .slice (ints C) .no) (hlen : ∀ k, (O k).length = n) (hC : ∀ k, k < C.length → lb C k < n) (hn : n ≤ 1000) (hCl : C.length ≤ n) (hcn : ∀ k, cn k ≤ n)
    (hinc : ∀ k, 0 < k → k < C.length → lb C (k - 1) < lb C k) (hO : ∀ k, k < C.length → O (k + 1) = (O k).set (lb C k) (i + 1) ∧ lb (O k) (lb C k) = 0 ∧ cn (k + 1) = cn k + 1) (b9 b10 : D) (Q : Ex → St → Prop)
    (hQ : Q (.exit 2) ⟨[.int .i64 n, .slice A .no, .undef, .undef, .sl 0 1 0 n n, .int .i64 (cn C.length : Nat), .int .i64 i, .int .i64 C.length, .undef, .undef, .undef, .bool false, .undef], [], ⟨[.cells (ints (O C.length))], []⟩⟩) :
    SWp C20 atLoop Q ⟨[.int .i64 n, .slice A .no, .undef, .undef, .sl 0 1 0 n n, .int .i64 (cn 0 : Nat), .int .i64 i, .int .i64 0, .undef, b9, b10, .undef, .undef], [], ⟨[.cells (ints (O 0))], []⟩⟩ := by
  have lp := ints_len C
  refine swp_fam [0, 1, 4, 5, 6, 7] (fun k : Nat => ⟨[.int .i64 n, .slice A .no, .undef, .undef, .sl 0 1 0 n n, .int .i64 (cn k : Nat), .int .i64 i, .int .i64 k, .undef, .undef, .undef, .undef, .undef], [], ⟨[.cells (ints (O k))], []⟩⟩) (fun k => k ≤ C.length) (fun k => C.length - k) 0 (by omega) ?_ ?_
  · simp [keepE, St.keep]
  · intro k hk
    by_cases hkl : k < C.length
    · have t2 : decide (((k : Nat) : Int) < C.length) = true := by simp; omega
      have gk := ints_get hkl
      have gkm := ints_get (F := C) (i := k - 1) (by omega)
      have tki : (((k : Nat) : Int) - 1).toNat = k - 1 := by omega
      have hx := hC k hkl
      have hkk := fun h => hinc k h hkl
      obtain ⟨hs, ho, hc⟩ := hO k hkl
      have hol := ints_len (O k)
      rw [hlen] at hol
      have hst : (ints (O k)).set (lb C k) (.int .i64 ((i : Int) + 1)) = ints (O (k + 1)) := by
        rw [hs]
        have := ints_set (F := O k) (i := lb C k) (x := i + 1)
        simpa using this
      have go : (ints (O k)).getD (lb C k) .undef = .int .i64 0 := by
        rw [ints_get (by rw [hlen]; exact hx), ho]; rfl
      have hcl := hcn k
      generalize O k = Ok at *
      generalize lb C k = x at *
      generalize lb C (k - 1) = y at *
      have t3 : decide (((x : Nat) : Int) < 0) = false := by simp only [decide_eq_false_iff_not]; omega
      have t4 : decide (((x : Nat) : Int) ≥ (n : Nat)) = false := by simp only [decide_eq_false_iff_not]; omega
      repeat' (first
    | with_reducible first | apply swp_seq | apply swp_reg | apply swp_regD | apply swp_block | apply swp_exit | apply swp_ret | apply swp_skip | apply swp_cd
    | simp only [go_sem, seval, P20, q20, hA, lp, t2, t3, t4, gk, gkm, tki, go, hst, Nat.mul_one, Nat.zero_add]
    | simp (disch := omega) only [w64, w32, wu8, wu16, wu32, wu64]
    | ((with_reducible apply s_mks); (case h0 | h1 | h2 => first | rfl | assumption | omega | ((first | refine ⟨?_, ?_⟩ | skip) <;> first | omega | (simp only [lN, hA, lp, gk, gkm, tki, hol] <;> omega)) | (simp [elemsK, D.isVal, D.cells, D.closedL, D.closed, hA, lp, gk, gkm, tki, hol]; first | done | omega)))
    | with_reducible first | apply cd_dec | apply cd_eq | apply cd_ne | apply cd_split | apply gd_dec | apply gd_eq | apply gd_ne | apply gd_split | apply gq_dec | apply gq_eq | apply gq_ne | apply gq_split
    | ((with_reducible refine And.intro ?hw ?_); (case hw => first | omega | rfl | exact ⟨_, _, rfl⟩ | assumption | (simp only [lN, hA, lp, gk, gkm, tki, hol] <;> omega)))
    | with_reducible intro _)
      all_goals first | omega | (exfalso; omega) | skip
      all_goals exact ⟨k + 1, by omega, by omega, by simp [keepE, St.keep, hc]⟩
    · have t2 : decide (((k : Nat) : Int) < C.length) = false := by simp; omega
      have : k = C.length := by omega
      subst this
      repeat' (first
    | with_reducible first | apply swp_seq | apply swp_reg | apply swp_regD | apply swp_block | apply swp_exit | apply swp_ret | apply swp_skip | apply swp_cd
    | simp only [go_sem, seval, P20, q20, hA, lp, t2]
    | simp (disch := omega) only [w64, w32, wu8, wu16, wu32, wu64]
    | ((with_reducible apply s_mks); (case h0 | h1 | h2 => first | rfl | assumption | omega | ((first | refine ⟨?_, ?_⟩ | skip) <;> first | omega | (simp only [lN, hA, lp] <;> omega)) | (simp [elemsK, D.isVal, D.cells, D.closedL, D.closed, hA, lp]; first | done | omega)))
    | with_reducible first | apply cd_dec | apply cd_eq | apply cd_ne | apply cd_split | apply gd_dec | apply gd_eq | apply gd_ne | apply gd_split | apply gq_dec | apply gq_eq | apply gq_ne | apply gq_split
    | ((with_reducible refine And.intro ?hw ?_); (case hw => first | omega | rfl | exact ⟨_, _, rfl⟩ | assumption | (simp only [lN, hA, lp] <;> omega)))
    | with_reducible intro _)
      all_goals first | omega | exact hQ
set_option maxHeartbeats 4000000 in
theorem at_p {L : List Nat} (hL : Lo L) (hN : L.length ≤ 1000) : Pur M 20 [.int .i64 (L.length : Nat), .slice (compsD (compsL L)) .no] (.tup [.slice (ints (atL L)) .no, .bool true]) := by
  have hcl := compsD_len (compsL L)
  rw [comps_len] at hcl
  have hrt : (roots L).length ≤ L.length := by unfold roots; refine Nat.le_trans (List.length_filter_le _ _) ?_; simp
  have hz := zeros_ints L.length
  rw [← outTo_zero L] at hz
  refine ow20 rfl ?_
  rw [i20]
  unfold c20
  repeat' (first
    | with_reducible first | apply swp_seq | apply swp_reg | apply swp_regD | apply swp_block | apply swp_exit | apply swp_ret | apply swp_skip | apply swp_cd
    | simp only [go_sem, seval, P20, q20, hz, hcl]
    | simp (disch := omega) only [w64, w32, wu8, wu16, wu32, wu64]
    | ((with_reducible apply s_mks); (case h0 | h1 | h2 => first | rfl | assumption | omega | ((first | refine ⟨?_, ?_⟩ | skip) <;> first | omega | (simp only [lN] <;> omega)) | (simp [elemsK, D.isVal, D.cells, D.closedL, D.closed]; first | done | omega)))
    | with_reducible first | apply cd_dec | apply cd_eq | apply cd_ne | apply cd_split | apply gd_dec | apply gd_eq | apply gd_ne | apply gd_split | apply gq_dec | apply gq_eq | apply gq_ne | apply gq_split
    | ((with_reducible refine And.intro ?hw ?_); (case hw => first | omega | rfl | exact ⟨_, _, rfl⟩ | assumption | (simp only [lN] <;> omega)))
    | with_reducible intro _)
  refine swp_fam [0, 1, 4, 5, 6] (fun i : Nat => ⟨[.int .i64 (L.length : Nat), .slice (compsD (compsL L)) .no, .undef, .undef, .sl 0 1 0 L.length L.length, .int .i64 (cntTo L i 0 : Nat), .int .i64 i, .undef, .undef, .undef, .undef, .undef, .undef], [], ⟨[.cells (ints (outTo L i 0))], []⟩⟩) (fun i => i ≤ (roots L).length) (fun i => (roots L).length - i) 0 (by omega) ?_ ?_
  · simp [keepE, St.keep, cnt_zero]
  · intro i hi
    by_cases hil : i < (roots L).length
    · have t0 : decide (((i : Nat) : Int) < (roots L).length) = true := by simp; omega
      have hg := compsD_get (C := compsL L) (i := i) (by rw [comps_len]; exact hil)
      have hgm := compsD_get (C := compsL L) (i := i - 1) (by rw [comps_len]; omega)
      have hti : (((i : Nat) : Int) - 1).toNat = i - 1 := by omega
      rw [cno_app hL hil] at hg
      rw [cno_app hL (by omega)] at hgm
      have hr0 : (roots L).getD i 0 = (roots L)[i] := by simp [List.getD, hil]
      have hr1 : (roots L).getD (i - 1) 0 = (roots L)[i - 1] := by simp [List.getD, show i - 1 < (roots L).length by omega]
      rw [hr0] at hg
      rw [hr1] at hgm
      obtain ⟨p0, p1⟩ := mem_head hL (List.getElem_mem hil)
      obtain ⟨q0, q1⟩ := mem_head hL (List.getElem_mem (show i - 1 < (roots L).length by omega))
      have hlt : 0 < i → (roots L)[i - 1] < (roots L)[i] := fun h => incr_get (roots_incr L) hil (by omega)
      have gp := ints_getD p0
      have gq := ints_getD q0
      rw [p1] at gp
      rw [q1] at gq
      have lp := ints_len (mem L (roots L)[i])
      have lq := ints_len (mem L (roots L)[i - 1])
      have hml : (mem L (roots L)[i]).length ≤ L.length := by unfold mem; refine Nat.le_trans (List.length_filter_le _ _) ?_; simp
      have hinc := mem_incr L (roots L)[i]
      have hmm := fun k (hk : k < (mem L (roots L)[i]).length) => (mem_mem.1 (List.getElem_mem hk)).1
      have hos := fun k (hk : k < (mem L (roots L)[i]).length) => outTo_step hL hil hk
      have hof := fun k (hk : k < (mem L (roots L)[i]).length) => outTo_fresh hL hil hk
      have hcs := fun k (hk : k < (mem L (roots L)[i]).length) => cnt_step hL hil hk
      have hor := outTo_row hL hil
      have hcr := cnt_row hL hil
      have hcle := fun k => cnt_le (L := L) (i := i) (k := k)
      have t1 : (((mem L (roots L)[i]).length : Int) == 0) = false := by rw [beq_eq_false_iff_ne]; omega
      repeat' (first
    | with_reducible first | apply swp_seq | apply swp_reg | apply swp_regD | apply swp_block | apply swp_exit | apply swp_ret | apply swp_skip | apply swp_cd
    | simp only [go_sem, seval, P20, q20, hcl, t0, hg, hgm, hti, lp, lq, t1, gp, gq]
    | simp (disch := omega) only [w64, w32, wu8, wu16, wu32, wu64]
    | ((with_reducible apply s_mks); (case h0 | h1 | h2 => first | rfl | assumption | omega | ((first | refine ⟨?_, ?_⟩ | skip) <;> first | omega | (simp only [lN, hcl, hg, hgm, hti, lp, lq, gp, gq] <;> omega)) | (simp [elemsK, D.isVal, D.cells, D.closedL, D.closed, hcl, hg, hgm, hti, lp, lq, gp, gq]; first | done | omega)))
    | with_reducible first | apply cd_dec | apply cd_eq | apply cd_ne | apply cd_split | apply gd_dec | apply gd_eq | apply gd_ne | apply gd_split | apply gq_dec | apply gq_eq | apply gq_ne | apply gq_split
    | ((with_reducible refine And.intro ?hw ?_); (case hw => first | omega | rfl | exact ⟨_, _, rfl⟩ | assumption | (simp only [lN, hcl, hg, hgm, hti, lp, lq, gp, gq] <;> omega)))
    | with_reducible intro _)
      all_goals first | omega | (exfalso; omega) | skip
      all_goals (
        refine at_inner (compsD (compsL L)) (mem L (roots L)[i]) (fun k => outTo L i k) (fun k => cntTo L i k) (by rw [hcl]; exact hil) (by omega) hg (fun k => outTo_len) (fun k hk => by rw [lb_lt hk]; exact hmm k hk) hN hml hcle (fun k h hk => by rw [lb_lt hk, lb_lt (by omega)]; exact incr_get hinc hk (by omega)) (fun k hk => by rw [lb_lt hk]; exact ⟨hos k hk, hof k hk, hcs k hk⟩) _ _ _ ?_
        simp only [hor, hcr]
        repeat' (first
    | with_reducible first | apply swp_seq | apply swp_reg | apply swp_regD | apply swp_block | apply swp_exit | apply swp_ret | apply swp_skip | apply swp_cd
    | simp only [go_sem, seval, P20, q20]
    | simp (disch := omega) only [w64, w32, wu8, wu16, wu32, wu64]
    | ((with_reducible apply s_mks); (case h0 | h1 | h2 => first | rfl | assumption | omega | ((first | refine ⟨?_, ?_⟩ | skip) <;> first | omega | (simp only [lN] <;> omega)) | (simp [elemsK, D.isVal, D.cells, D.closedL, D.closed]; first | done | omega)))
    | with_reducible first | apply cd_dec | apply cd_eq | apply cd_ne | apply cd_split | apply gd_dec | apply gd_eq | apply gd_ne | apply gd_split | apply gq_dec | apply gq_eq | apply gq_ne | apply gq_split
    | ((with_reducible refine And.intro ?hw ?_); (case hw => first | omega | rfl | exact ⟨_, _, rfl⟩ | assumption | (simp only [lN] <;> omega)))
    | with_reducible intro _)
        all_goals first | omega | skip
        exact ⟨i + 1, by omega, by omega, by simp [keepE, St.keep]⟩)
    · have t0 : decide (((i : Nat) : Int) < (roots L).length) = false := by simp; omega
      have : i = (roots L).length := by omega
      subst this
      rw [outTo_end hL, cnt_end hL]
      have t1 : (((L.length : Nat) : Int) == (L.length : Nat)) = true := by simp
      repeat' (first
    | with_reducible first | apply swp_seq | apply swp_reg | apply swp_regD | apply swp_block | apply swp_exit | apply swp_ret | apply swp_skip | apply swp_cd
    | simp only [go_sem, seval, P20, q20, hcl, t0, t1]
    | simp (disch := omega) only [w64, w32, wu8, wu16, wu32, wu64]
    | ((with_reducible apply s_mks); (case h0 | h1 | h2 => first | rfl | assumption | omega | ((first | refine ⟨?_, ?_⟩ | skip) <;> first | omega | (simp only [lN, hcl] <;> omega)) | (simp [elemsK, D.isVal, D.cells, D.closedL, D.closed, hcl]; first | done | omega)))
    | with_reducible first | apply cd_dec | apply cd_eq | apply cd_ne | apply cd_split | apply gd_dec | apply gd_eq | apply gd_ne | apply gd_split | apply gq_dec | apply gq_eq | apply gq_ne | apply gq_split
    | ((with_reducible refine And.intro ?hw ?_); (case hw => first | omega | rfl | exact ⟨_, _, rfl⟩ | assumption | (simp only [lN, hcl] <;> omega)))
    | with_reducible intro _)
      all_goals first | omega | skip
      have ha : (atL L).length = L.length := by simp [atL]
      have hci := chunk_ints (atL L)
      rw [ha] at hci
      have hel := elems_ints (atL L)
      refine ⟨_, weak_trans (weak_keep [2, 3]) (weak_frz 0 (ints (atL L)) rfl (Nat.zero_le _) (cl_ints _)), ?_⟩
      rw [er_ints]
      have hll := ints_len (atL L)
      rw [ha] at hll
      simp [St.frz, keepE, D.fz, hci, hel, hll, D.closed, D.closedL, D.er, D.erL]
end Go.Proofs.Ytofnggfpegcllaa
end
section
set_option maxRecDepth 100000
set_option linter.unusedSimpArgs false
set_option linter.unusedVariables false
namespace Go.Proofs.Ytofnggfpegcllaa
open Go GoV Go.RowKit
section
variable {P : Mod} {dst : Dst} {rq : List (RO × Bool)} {K : St → Prop} {s : St}
theorem t_lkpS {kd : MK} {ok : Bool} {zero : D} {bk clock i : Nat} {es : List (D × D × Nat)} {k v : D} (h1 : s.hp.H[bk]? = some (.map es clock)) (hk : keyOk kd k = true) (ha : (es.all fun e => keyOk kd e.1) = true) (hf : findM k es 0 = some (i, v))
    (h : opsQ P rq K (s.put dst (if ok then .tup [v, .bool true] else v))) : OpQ P (.lkp kd ok zero) [.mp bk, k] dst rq K s := by
  simp only [OpQ, quietWp, isCall, Bool.false_eq_true, if_false, opWp]
  refine ⟨es, clock, h1, hk, ha, fun j x hx => ?_, fun hx => ?_⟩
  · rw [hf] at hx; cases hx; exact ⟨by trivial, h⟩
  · rw [hf] at hx; cases hx
theorem t_lkpN {kd : MK} {ok : Bool} {zero : D} {bk clock : Nat} {es : List (D × D × Nat)} {k : D} (h1 : s.hp.H[bk]? = some (.map es clock)) (hk : keyOk kd k = true) (ha : (es.all fun e => keyOk kd e.1) = true) (hf : findM k es 0 = none)
    (h : opsQ P rq K (s.put dst (if ok then .tup [zero, .bool false] else zero))) : OpQ P (.lkp kd ok zero) [.mp bk, k] dst rq K s := by
  simp only [OpQ, quietWp, isCall, Bool.false_eq_true, if_false, opWp]
  refine ⟨es, clock, h1, hk, ha, fun j x hx => ?_, fun hx => ?_⟩
  · rw [hf] at hx; cases hx
  · exact ⟨by trivial, h⟩
end
theorem few_p (l : List Rp) : Pur M 11 [rpsD l] (.bool (few13 l 40)) := by
  have c1 := few13_p l 40 (by omega)
  have hcl := closedL_R l
  have her := erL_R l
  refine ok11 rfl ?_
  rw [i11]
  unfold c11
  repeat' (first
    | with_reducible first | apply swp_seq | apply swp_reg | apply swp_regD | apply swp_block | apply swp_exit | apply swp_ret | apply swp_skip | apply swp_cd
    | simp only [go_sem, seval, P11, q11]
    | simp (disch := omega) only [w64, w32, wu8, wu16, wu32, wu64]
    | ((with_reducible refine o_call (c1) ?he ?hc ?_); (case he | hc => first | rfl | (simp [D.erL, D.er, D.closedL, D.closed, hcl, her]; done)))
    | with_reducible first | apply cd_dec | apply cd_eq | apply cd_ne | apply cd_split
    | ((with_reducible refine And.intro ?hw ?_); (case hw => first | omega | rfl | exact ⟨_, _, rfl⟩ | assumption | (simp only [lN, hcl, her] <;> omega)))
    | with_reducible intro _)
  all_goals first | omega | simp [D.closed, D.er]
theorem few_small {l : List Rp} (h : few13 l 40 = true) : l.length ≤ 40 ∧ Small l := by
  unfold few13 at h
  simp only [Bool.and_eq_true, decide_eq_true_eq] at h
  refine ⟨h.1, fun r hr e he => ?_⟩
  have := List.all_eq_true.1 h.2 r hr
  unfold few9 at this
  simp only [Bool.and_eq_true] at this
  exact List.all_eq_true.1 this.2 e he
def pick (l : List Rp) (C : List Nat) : List Rp := C.map fun i => l.getD i default
theorem pick_small {l : List Rp} (h : Small l) (C : List Nat) : Small (pick l C) := by
  intro r hr e he
  obtain ⟨i, _, rfl⟩ := List.mem_map.1 hr
  rcases Nat.lt_or_ge i l.length with q | q
  · have e1 : l.getD i default = l[i] := by simp [List.getD, q]
    rw [e1] at he
    exact h _ (List.getElem_mem q) e he
  · have e1 : l.getD i default = default := by simp [List.getD, List.getElem?_eq_none q]
    rw [e1] at he
    exact absurd he (by simp [default, instInhabitedRp.default])
def dbt (l : List Rp) (i : Nat) : Bool := decide (2 ≤ choices (l.getD i default))
theorem pick_len (l : List Rp) (C : List Nat) : (pick l C).length = C.length := by simp [pick]
theorem pick_doubts (l : List Rp) (C : List Nat) : doubtsR (pick l C) = C.countP (dbt l) := by
  unfold doubtsR pick
  rw [List.countP_map]; rfl
theorem elems_rps (l : List Rp) : elemsK 2 (l.map rpD) = true := elemsK_map rpD 2 R_isVal l
theorem picked_p (l : List Rp) (C : List Nat) (hC : ∀ i ∈ C, i < l.length) (hl : C.length ≤ 1000) : Pur M 23 [rpsD l, .slice (ints C) .no] (rpsD (pick l C)) := by
  have hcl := closedL_R (pick l C)
  have her := erL_R (pick l C)
  have hlc := ints_len C
  have hlr : (l.map rpD).length = l.length := by simp
  refine ow23 rfl ?_
  rw [i23]
  unfold c23
  repeat' (first
    | with_reducible first | apply swp_seq | apply swp_reg | apply swp_regD | apply swp_block | apply swp_exit | apply swp_ret | apply swp_skip | apply swp_cd
    | simp only [go_sem, seval, P23, q23]
    | simp (disch := omega) only [w64, w32, wu8, wu16, wu32, wu64]
    | ((with_reducible apply s_appT); (case he => rfl); (case hK | hc | hr | hV => first | rfl | assumption | omega | ((first | refine ⟨?_, ?_⟩ | skip) <;> first | omega | (simp only [lN] <;> omega)) | (simp [elemsK, D.isVal, D.cells, D.closedL, D.closed]; first | done | omega)))
    | ((with_reducible apply s_appG); (case he => rfl); (case hV | hK | hr | hl => first | rfl | assumption | omega | ((first | refine ⟨?_, ?_⟩ | skip) <;> first | omega | (simp only [lN] <;> omega)) | (simp [elemsK, D.isVal, D.cells, D.closedL, D.closed]; first | done | omega)))
    | ((with_reducible apply s_app0); (case he => rfl); (case hK | hc | hr => first | rfl | assumption | omega | ((first | refine ⟨?_, ?_⟩ | skip) <;> first | omega | (simp only [lN] <;> omega)) | (simp [elemsK, D.isVal, D.cells, D.closedL, D.closed]; first | done | omega)))
    | ((with_reducible apply s_appF); (case he => rfl); (case hK | hc | hr | hx | hn => first | rfl | assumption | omega | ((first | refine ⟨?_, ?_⟩ | skip) <;> first | omega | (simp only [lN] <;> omega)) | (simp [elemsK, D.isVal, D.cells, D.closedL, D.closed]; first | done | omega)))
    | ((with_reducible apply s_bsl); (case he | hl | hc => first | rfl | assumption | omega | ((first | refine ⟨?_, ?_⟩ | skip) <;> first | omega | (simp only [lN] <;> omega)) | (simp [elemsK, D.isVal, D.cells, D.closedL, D.closed]; first | done | omega)))
    | with_reducible first | apply cd_dec | apply cd_eq | apply cd_ne | apply cd_split
    | ((with_reducible refine And.intro ?hw ?_); (case hw => first | omega | rfl | exact ⟨_, _, rfl⟩ | assumption | (simp only [lN] <;> omega)))
    | with_reducible intro _)
  refine swp_weak (weak_trans (weak_keep [0, 1, 3, 4]) (weak_new 3 2 (by omega) false rfl)) ?_
  simp only [keepE]
  refine swp_fam [0, 1, 3, 4] (fun i : Nat => ⟨[rpsD l, .slice (ints C) .no, .undef, .slice ((pick l (C.take i)).map rpD) (.tok 0), .int .i64 i, .undef], [], ⟨[], [.per 2 (pick l (C.take i)).length]⟩⟩) (fun i => i ≤ C.length) (fun i => C.length - i) 0 (by omega) ?_ ?_
  · simp [keepE, St.keep, pick]
  · intro i hi
    by_cases hil : i < C.length
    · have t0 : decide (((i : Nat) : Int) < C.length) = true := by simp; omega
      have g1 := ints_getD hil
      have hx := hC _ (List.getElem_mem hil)
      have g2 := rp_get hx
      have hpl : (pick l (C.take i)).length = i := by simp [pick]; omega
      have hml : ((pick l (C.take i)).map rpD).length = i := by rw [List.length_map, hpl]
      have hpn : (pick l (C.take (i + 1))).map rpD = (pick l (C.take i)).map rpD ++ [.agg [.slice (l[C[i]].opts.map evD) .no, .bool l[C[i]].doubt]] := by
        unfold pick
        rw [List.take_succ_eq_append_getElem hil, List.map_append, List.map_append]
        congr 1
        simp [List.getD, hx, rpD]
      have hpl2 : (pick l (C.take (i + 1))).length = i + 1 := by simp [pick]; omega
      rw [hpl]
      generalize (pick l (C.take i)).map rpD = W at *
      repeat' (first
    | with_reducible first | apply swp_seq | apply swp_reg | apply swp_regD | apply swp_block | apply swp_exit | apply swp_ret | apply swp_skip | apply swp_cd
    | simp only [go_sem, seval, P23, q23, hlc, hlr, t0, g1, g2]
    | simp (disch := omega) only [w64, w32, wu8, wu16, wu32, wu64]
    | ((with_reducible apply s_appT); (case he => rfl); (case hK | hc | hr | hV => first | rfl | assumption | omega | ((first | refine ⟨?_, ?_⟩ | skip) <;> first | omega | (simp only [lN, hlc, hlr, g1, g2, hml] <;> omega)) | (simp [elemsK, D.isVal, D.cells, D.closedL, D.closed, hlc, hlr, g1, g2, hml]; first | done | omega)))
    | ((with_reducible apply s_appG); (case he => rfl); (case hV | hK | hr | hl => first | rfl | assumption | omega | ((first | refine ⟨?_, ?_⟩ | skip) <;> first | omega | (simp only [lN, hlc, hlr, g1, g2, hml] <;> omega)) | (simp [elemsK, D.isVal, D.cells, D.closedL, D.closed, hlc, hlr, g1, g2, hml]; first | done | omega)))
    | ((with_reducible apply s_app0); (case he => rfl); (case hK | hc | hr => first | rfl | assumption | omega | ((first | refine ⟨?_, ?_⟩ | skip) <;> first | omega | (simp only [lN, hlc, hlr, g1, g2, hml] <;> omega)) | (simp [elemsK, D.isVal, D.cells, D.closedL, D.closed, hlc, hlr, g1, g2, hml]; first | done | omega)))
    | ((with_reducible apply s_appF); (case he => rfl); (case hK | hc | hr | hx | hn => first | rfl | assumption | omega | ((first | refine ⟨?_, ?_⟩ | skip) <;> first | omega | (simp only [lN, hlc, hlr, g1, g2, hml] <;> omega)) | (simp [elemsK, D.isVal, D.cells, D.closedL, D.closed, hlc, hlr, g1, g2, hml]; first | done | omega)))
    | ((with_reducible apply s_bsl); (case he | hl | hc => first | rfl | assumption | omega | ((first | refine ⟨?_, ?_⟩ | skip) <;> first | omega | (simp only [lN, hlc, hlr, g1, g2, hml] <;> omega)) | (simp [elemsK, D.isVal, D.cells, D.closedL, D.closed, hlc, hlr, g1, g2, hml]; first | done | omega)))
    | with_reducible first | apply cd_dec | apply cd_eq | apply cd_ne | apply cd_split
    | ((with_reducible refine And.intro ?hw ?_); (case hw => first | omega | rfl | exact ⟨_, _, rfl⟩ | assumption | (simp only [lN, hlc, hlr, g1, g2, hml] <;> omega)))
    | with_reducible intro _)
      all_goals first | omega | skip
      refine ⟨i + 1, by omega, by omega, ?_⟩
      simp [keepE, St.keep, hpn, hpl2, D.erL, D.er, hml]
    · have t0 : decide (((i : Nat) : Int) < C.length) = false := by simp; omega
      have : i = C.length := by omega
      subst this
      rw [List.take_length]
      repeat' (first
    | with_reducible first | apply swp_seq | apply swp_reg | apply swp_regD | apply swp_block | apply swp_exit | apply swp_ret | apply swp_skip | apply swp_cd
    | simp only [go_sem, seval, P23, q23, hlc, t0]
    | simp (disch := omega) only [w64, w32, wu8, wu16, wu32, wu64]
    | ((with_reducible apply s_appT); (case he => rfl); (case hK | hc | hr | hV => first | rfl | assumption | omega | ((first | refine ⟨?_, ?_⟩ | skip) <;> first | omega | (simp only [lN, hlc] <;> omega)) | (simp [elemsK, D.isVal, D.cells, D.closedL, D.closed, hlc]; first | done | omega)))
    | ((with_reducible apply s_appG); (case he => rfl); (case hV | hK | hr | hl => first | rfl | assumption | omega | ((first | refine ⟨?_, ?_⟩ | skip) <;> first | omega | (simp only [lN, hlc] <;> omega)) | (simp [elemsK, D.isVal, D.cells, D.closedL, D.closed, hlc]; first | done | omega)))
    | ((with_reducible apply s_app0); (case he => rfl); (case hK | hc | hr => first | rfl | assumption | omega | ((first | refine ⟨?_, ?_⟩ | skip) <;> first | omega | (simp only [lN, hlc] <;> omega)) | (simp [elemsK, D.isVal, D.cells, D.closedL, D.closed, hlc]; first | done | omega)))
    | ((with_reducible apply s_appF); (case he => rfl); (case hK | hc | hr | hx | hn => first | rfl | assumption | omega | ((first | refine ⟨?_, ?_⟩ | skip) <;> first | omega | (simp only [lN, hlc] <;> omega)) | (simp [elemsK, D.isVal, D.cells, D.closedL, D.closed, hlc]; first | done | omega)))
    | ((with_reducible apply s_bsl); (case he | hl | hc => first | rfl | assumption | omega | ((first | refine ⟨?_, ?_⟩ | skip) <;> first | omega | (simp only [lN, hlc] <;> omega)) | (simp [elemsK, D.isVal, D.cells, D.closedL, D.closed, hlc]; first | done | omega)))
    | with_reducible first | apply cd_dec | apply cd_eq | apply cd_ne | apply cd_split
    | ((with_reducible refine And.intro ?hw ?_); (case hw => first | omega | rfl | exact ⟨_, _, rfl⟩ | assumption | (simp only [lN, hlc] <;> omega)))
    | with_reducible intro _)
      all_goals first | omega | skip
      exact ⟨_, weak_refl, by simp [D.closed], by simp [D.er]⟩
end Go.Proofs.Ytofnggfpegcllaa
end
section
set_option maxRecDepth 100000
set_option linter.unusedSimpArgs false
set_option linter.unusedVariables false
namespace Go.Proofs.Ytofnggfpegcllaa
open Go GoV Go.RowKit
theorem comps_mem {L : List Nat} {i : Nat} (hi : i < (roots L).length) (hL : Lo L) : (∀ x ∈ (compsL L).getD i [], x < L.length) ∧ ((compsL L).getD i []).length ≤ L.length := by
  rw [cno_app hL hi]
  refine ⟨fun x hx => (mem_mem.1 hx).1, ?_⟩
  unfold mem
  refine Nat.le_trans (List.length_filter_le _ _) ?_
  simp
def sumTo (C : List (List Nat)) (p : Nat → Bool) (i : Nat) : Nat := ((C.take i).map fun c => c.countP p).sum
theorem sumTo_le (C : List (List Nat)) (p : Nat → Bool) (i : Nat) : sumTo C p i ≤ (C.map fun c => c.countP p).sum := by
  unfold sumTo
  have : C.map (fun c => c.countP p) = (C.take i).map (fun c => c.countP p) ++ (C.drop i).map (fun c => c.countP p) := by rw [← List.map_append, List.take_append_drop]
  rw [this, List.sum_append]; omega
theorem sumTo_succ {C : List (List Nat)} (p : Nat → Bool) {i : Nat} (h : i < C.length) : sumTo C p (i + 1) = sumTo C p i + (C.getD i []).countP p := by
  unfold sumTo
  rw [List.take_succ_eq_append_getElem h, List.map_append, List.sum_append]
  simp [List.getD, h]
theorem one_doubt (r : Rp) : doubtsR [r] = if 2 ≤ choices r then 1 else 0 := by
  unfold doubtsR
  rw [List.countP_cons, List.countP_nil]
  by_cases h : 2 ≤ choices r <;> simp [h]
set_option maxHeartbeats 2000000 in
theorem l9_p (l : List Rp) : Pur M 9 [rpsD l] (.bool true) := by
  have c0 := head_p
  have c1 := few_p l
  have hlr : (l.map rpD).length = l.length := by simp
  have hclr := closedL_R l
  have herr := erL_R l
  refine ok9 rfl ?_
  rw [i9]
  unfold c9
  cases hf : few13 l 40
  · rw [hf] at c1
    repeat' (first
    | with_reducible first | apply swp_seq | apply swp_reg | apply swp_regD | apply swp_block | apply swp_exit | apply swp_ret | apply swp_skip | apply swp_cd
    | simp only [go_sem, seval, P9, q9]
    | simp (disch := omega) only [w64, w32, wu8, wu16, wu32, wu64]
    | ((with_reducible refine o_call (c0) ?he ?hc ?_); (case he | hc => first | rfl | (simp [D.erL, D.er, D.closedL, D.closed, hclr, herr]; done)))
    | ((with_reducible refine o_call (c1) ?he ?hc ?_); (case he | hc => first | rfl | (simp [D.erL, D.er, D.closedL, D.closed, hclr, herr]; done)))
    | ((with_reducible apply s_slFF); (case hx => first | rfl | assumption | omega | ((first | refine ⟨?_, ?_⟩ | skip) <;> first | omega | (simp only [lN, hclr, herr] <;> omega)) | (simp [elemsK, D.isVal, D.cells, D.closedL, D.closed, hclr, herr]; first | done | omega)))
    | ((with_reducible first | apply s_slTF | apply s_slFT); (case h0 | h1 | hx => first | rfl | assumption | omega | ((first | refine ⟨?_, ?_⟩ | skip) <;> first | omega | (simp only [lN, hclr, herr] <;> omega)) | (simp [elemsK, D.isVal, D.cells, D.closedL, D.closed, hclr, herr]; first | done | omega)))
    | ((with_reducible apply s_slTT); (case h0 | h1 | h2 | hx => first | rfl | assumption | omega | ((first | refine ⟨?_, ?_⟩ | skip) <;> first | omega | (simp only [lN, hclr, herr] <;> omega)) | (simp [elemsK, D.isVal, D.cells, D.closedL, D.closed, hclr, herr]; first | done | omega)))
    | ((with_reducible first | apply s_smTF | apply s_smFT); (case h0 | h1 | hc => first | rfl | assumption | omega | ((first | refine ⟨?_, ?_⟩ | skip) <;> first | omega | (simp only [lN, hclr, herr] <;> omega)) | (simp [elemsK, D.isVal, D.cells, D.closedL, D.closed, hclr, herr]; first | done | omega)))
    | ((with_reducible apply s_smTT); (case h0 | h1 | h2 | hc => first | rfl | assumption | omega | ((first | refine ⟨?_, ?_⟩ | skip) <;> first | omega | (simp only [lN, hclr, herr] <;> omega)) | (simp [elemsK, D.isVal, D.cells, D.closedL, D.closed, hclr, herr]; first | done | omega)))
    | with_reducible first | apply cd_dec | apply cd_eq | apply cd_ne | apply cd_split | apply gd_dec | apply gd_eq | apply gd_ne | apply gd_split
    | ((with_reducible refine And.intro ?hw ?_); (case hw => first | omega | rfl | exact ⟨_, _, rfl⟩ | assumption | (simp only [lN, hclr, herr] <;> omega)))
    | with_reducible intro _)
    all_goals first | omega | simp [D.closed, D.er]
  · rw [hf] at c1
    obtain ⟨h40, hs⟩ := few_small hf
    have c2 := components_p l (by omega) hs
    have hL := labs_lo (namesL l)
    have hln : (labs (namesL l)).length = l.length := by rw [labs_len, namesL_len]
    have c3 := at_p hL (by omega)
    rw [hln] at c3
    have c4 := doubts_p l (by omega) hs
    have hC : comps (namesL l) = compsL (labs (namesL l)) := rfl
    rw [hC] at c2
    have htot := doubts_parts hL (dbt l)
    have hcr := countP_range (fun r => decide (2 ≤ choices r)) default l
    have hcr2 : (List.range l.length).countP (dbt l) = l.countP fun r => decide (2 ≤ choices r) := hcr
    rw [hln, hcr2] at htot
    clear hcr hcr2
    have hdl : doubtsR l = l.countP fun r => decide (2 ≤ choices r) := rfl
    have hdle : doubtsR l ≤ l.length := List.countP_le_length
    rw [← hdl] at htot
    generalize labs (namesL l) = L at *
    have hcl := compsD_len (compsL L)
    rw [comps_len] at hcl
    have hrl : (roots L).length ≤ 40 := by
      have : (roots L).length ≤ L.length := by unfold roots; refine Nat.le_trans (List.length_filter_le _ _) ?_; simp
      omega
    have hcc := cl_comps (compsL L)
    have hec := er_comps (compsL L)
    have hsl := sumTo_le (compsL L) (dbt l)
    rw [htot] at hsl
    have hs0 : sumTo (compsL L) (dbt l) 0 = 0 := rfl
    have hsE : sumTo (compsL L) (dbt l) (roots L).length = doubtsR l := by
      unfold sumTo; rw [List.take_of_length_le (by rw [comps_len]; omega)]; exact htot
    repeat' (first
    | with_reducible first | apply swp_seq | apply swp_reg | apply swp_regD | apply swp_block | apply swp_exit | apply swp_ret | apply swp_skip | apply swp_cd
    | simp only [go_sem, seval, P9, q9]
    | simp (disch := omega) only [w64, w32, wu8, wu16, wu32, wu64]
    | ((with_reducible refine o_call (c0) ?he ?hc ?_); (case he | hc => first | rfl | (simp [D.erL, D.er, D.closedL, D.closed, hclr, herr, hlr, hcl, hcc, hec]; done)))
    | ((with_reducible refine o_call (c1) ?he ?hc ?_); (case he | hc => first | rfl | (simp [D.erL, D.er, D.closedL, D.closed, hclr, herr, hlr, hcl, hcc, hec]; done)))
    | ((with_reducible refine o_call (c2) ?he ?hc ?_); (case he | hc => first | rfl | (simp [D.erL, D.er, D.closedL, D.closed, hclr, herr, hlr, hcl, hcc, hec]; done)))
    | ((with_reducible refine o_call (c3) ?he ?hc ?_); (case he | hc => first | rfl | (simp [D.erL, D.er, D.closedL, D.closed, hclr, herr, hlr, hcl, hcc, hec]; done)))
    | ((with_reducible apply s_slFF); (case hx => first | rfl | assumption | omega | ((first | refine ⟨?_, ?_⟩ | skip) <;> first | omega | (simp only [lN, hclr, herr, hlr, hcl, hcc, hec] <;> omega)) | (simp [elemsK, D.isVal, D.cells, D.closedL, D.closed, hclr, herr, hlr, hcl, hcc, hec]; first | done | omega)))
    | ((with_reducible first | apply s_slTF | apply s_slFT); (case h0 | h1 | hx => first | rfl | assumption | omega | ((first | refine ⟨?_, ?_⟩ | skip) <;> first | omega | (simp only [lN, hclr, herr, hlr, hcl, hcc, hec] <;> omega)) | (simp [elemsK, D.isVal, D.cells, D.closedL, D.closed, hclr, herr, hlr, hcl, hcc, hec]; first | done | omega)))
    | ((with_reducible apply s_slTT); (case h0 | h1 | h2 | hx => first | rfl | assumption | omega | ((first | refine ⟨?_, ?_⟩ | skip) <;> first | omega | (simp only [lN, hclr, herr, hlr, hcl, hcc, hec] <;> omega)) | (simp [elemsK, D.isVal, D.cells, D.closedL, D.closed, hclr, herr, hlr, hcl, hcc, hec]; first | done | omega)))
    | ((with_reducible first | apply s_smTF | apply s_smFT); (case h0 | h1 | hc => first | rfl | assumption | omega | ((first | refine ⟨?_, ?_⟩ | skip) <;> first | omega | (simp only [lN, hclr, herr, hlr, hcl, hcc, hec] <;> omega)) | (simp [elemsK, D.isVal, D.cells, D.closedL, D.closed, hclr, herr, hlr, hcl, hcc, hec]; first | done | omega)))
    | ((with_reducible apply s_smTT); (case h0 | h1 | h2 | hc => first | rfl | assumption | omega | ((first | refine ⟨?_, ?_⟩ | skip) <;> first | omega | (simp only [lN, hclr, herr, hlr, hcl, hcc, hec] <;> omega)) | (simp [elemsK, D.isVal, D.cells, D.closedL, D.closed, hclr, herr, hlr, hcl, hcc, hec]; first | done | omega)))
    | with_reducible first | apply cd_dec | apply cd_eq | apply cd_ne | apply cd_split | apply gd_dec | apply gd_eq | apply gd_ne | apply gd_split
    | ((with_reducible refine And.intro ?hw ?_); (case hw => first | omega | rfl | exact ⟨_, _, rfl⟩ | assumption | (simp only [lN, hclr, herr, hlr, hcl, hcc, hec] <;> omega)))
    | with_reducible intro _)
    all_goals first | omega | skip
    refine swp_fam [0, 2, 3, 5, 6] (fun i : Nat => ⟨[rpsD l, .undef, .bool true, .slice (compsD (compsL L)) .no, .undef, .int .i64 (sumTo (compsL L) (dbt l) i : Nat), .int .i64 i, .undef, .undef, .undef, .undef, .undef, .undef], [], ⟨[], []⟩⟩) (fun i => i ≤ (roots L).length) (fun i => (roots L).length - i) 0 (by omega) ?_ ?_
    · simp [keepE, St.keep, hs0]
    · intro i hi
      by_cases hil : i < (roots L).length
      · have t0 : decide (((i : Nat) : Int) < (roots L).length) = true := by simp; omega
        have hg := compsD_get (C := compsL L) (i := i) (by rw [comps_len]; exact hil)
        obtain ⟨m1, m2⟩ := comps_mem hil hL
        have p1 := picked_p l ((compsL L).getD i []) (fun x hx => by have := m1 x hx; omega) (by omega)
        have p2 := doubts_p (pick l ((compsL L).getD i [])) (by rw [pick_len]; omega) (pick_small hs _)
        rw [pick_doubts] at p2
        have hsu := sumTo_succ (C := compsL L) (dbt l) (i := i) (by rw [comps_len]; exact hil)
        have hs1 := hsl (i + 1)
        rw [hsu] at hs1
        generalize (compsL L).getD i [] = Ci at *
        have k1 := cl_ints ((compsL L).getD i [])
        have k2 := er_ints ((compsL L).getD i [])
        have k3 := closedL_R (pick l ((compsL L).getD i []))
        have k4 := erL_R (pick l ((compsL L).getD i []))
        repeat' (first
    | with_reducible first | apply swp_seq | apply swp_reg | apply swp_regD | apply swp_block | apply swp_exit | apply swp_ret | apply swp_skip | apply swp_cd
    | simp only [go_sem, seval, P9, q9, t0, hcl, hg]
    | simp (disch := omega) only [w64, w32, wu8, wu16, wu32, wu64]
    | ((with_reducible refine o_call (p1) ?he ?hc ?_); (case he | hc => first | rfl | (simp [D.erL, D.er, D.closedL, D.closed, hclr, herr, hcl, hg, k1, k2, k3, k4]; done)))
    | ((with_reducible refine o_call (p2) ?he ?hc ?_); (case he | hc => first | rfl | (simp [D.erL, D.er, D.closedL, D.closed, hclr, herr, hcl, hg, k1, k2, k3, k4]; done)))
    | ((with_reducible apply s_slFF); (case hx => first | rfl | assumption | omega | ((first | refine ⟨?_, ?_⟩ | skip) <;> first | omega | (simp only [lN, hclr, herr, hcl, hg, k1, k2, k3, k4] <;> omega)) | (simp [elemsK, D.isVal, D.cells, D.closedL, D.closed, hclr, herr, hcl, hg, k1, k2, k3, k4]; first | done | omega)))
    | ((with_reducible first | apply s_slTF | apply s_slFT); (case h0 | h1 | hx => first | rfl | assumption | omega | ((first | refine ⟨?_, ?_⟩ | skip) <;> first | omega | (simp only [lN, hclr, herr, hcl, hg, k1, k2, k3, k4] <;> omega)) | (simp [elemsK, D.isVal, D.cells, D.closedL, D.closed, hclr, herr, hcl, hg, k1, k2, k3, k4]; first | done | omega)))
    | ((with_reducible apply s_slTT); (case h0 | h1 | h2 | hx => first | rfl | assumption | omega | ((first | refine ⟨?_, ?_⟩ | skip) <;> first | omega | (simp only [lN, hclr, herr, hcl, hg, k1, k2, k3, k4] <;> omega)) | (simp [elemsK, D.isVal, D.cells, D.closedL, D.closed, hclr, herr, hcl, hg, k1, k2, k3, k4]; first | done | omega)))
    | ((with_reducible first | apply s_smTF | apply s_smFT); (case h0 | h1 | hc => first | rfl | assumption | omega | ((first | refine ⟨?_, ?_⟩ | skip) <;> first | omega | (simp only [lN, hclr, herr, hcl, hg, k1, k2, k3, k4] <;> omega)) | (simp [elemsK, D.isVal, D.cells, D.closedL, D.closed, hclr, herr, hcl, hg, k1, k2, k3, k4]; first | done | omega)))
    | ((with_reducible apply s_smTT); (case h0 | h1 | h2 | hc => first | rfl | assumption | omega | ((first | refine ⟨?_, ?_⟩ | skip) <;> first | omega | (simp only [lN, hclr, herr, hcl, hg, k1, k2, k3, k4] <;> omega)) | (simp [elemsK, D.isVal, D.cells, D.closedL, D.closed, hclr, herr, hcl, hg, k1, k2, k3, k4]; first | done | omega)))
    | with_reducible first | apply cd_dec | apply cd_eq | apply cd_ne | apply cd_split | apply gd_dec | apply gd_eq | apply gd_ne | apply gd_split
    | ((with_reducible refine And.intro ?hw ?_); (case hw => first | omega | rfl | exact ⟨_, _, rfl⟩ | assumption | (simp only [lN, hclr, herr, hcl, hg, k1, k2, k3, k4] <;> omega)))
    | with_reducible intro _)
        all_goals first | omega | skip
        exact ⟨i + 1, by omega, by omega, by simp [keepE, St.keep, hsu]⟩
      · have t0 : decide (((i : Nat) : Int) < (roots L).length) = false := by simp; omega
        have : i = (roots L).length := by omega
        subst this
        rw [hsE]
        repeat' (first
    | with_reducible first | apply swp_seq | apply swp_reg | apply swp_regD | apply swp_block | apply swp_exit | apply swp_ret | apply swp_skip | apply swp_cd
    | simp only [go_sem, seval, P9, q9, t0, hcl]
    | simp (disch := omega) only [w64, w32, wu8, wu16, wu32, wu64]
    | ((with_reducible apply s_slFF); (case hx => first | rfl | assumption | omega | ((first | refine ⟨?_, ?_⟩ | skip) <;> first | omega | (simp only [lN, hcl] <;> omega)) | (simp [elemsK, D.isVal, D.cells, D.closedL, D.closed, hcl]; first | done | omega)))
    | ((with_reducible first | apply s_slTF | apply s_slFT); (case h0 | h1 | hx => first | rfl | assumption | omega | ((first | refine ⟨?_, ?_⟩ | skip) <;> first | omega | (simp only [lN, hcl] <;> omega)) | (simp [elemsK, D.isVal, D.cells, D.closedL, D.closed, hcl]; first | done | omega)))
    | ((with_reducible apply s_slTT); (case h0 | h1 | h2 | hx => first | rfl | assumption | omega | ((first | refine ⟨?_, ?_⟩ | skip) <;> first | omega | (simp only [lN, hcl] <;> omega)) | (simp [elemsK, D.isVal, D.cells, D.closedL, D.closed, hcl]; first | done | omega)))
    | ((with_reducible first | apply s_smTF | apply s_smFT); (case h0 | h1 | hc => first | rfl | assumption | omega | ((first | refine ⟨?_, ?_⟩ | skip) <;> first | omega | (simp only [lN, hcl] <;> omega)) | (simp [elemsK, D.isVal, D.cells, D.closedL, D.closed, hcl]; first | done | omega)))
    | ((with_reducible apply s_smTT); (case h0 | h1 | h2 | hc => first | rfl | assumption | omega | ((first | refine ⟨?_, ?_⟩ | skip) <;> first | omega | (simp only [lN, hcl] <;> omega)) | (simp [elemsK, D.isVal, D.cells, D.closedL, D.closed, hcl]; first | done | omega)))
    | with_reducible first | apply cd_dec | apply cd_eq | apply cd_ne | apply cd_split | apply gd_dec | apply gd_eq | apply gd_ne | apply gd_split
    | ((with_reducible refine And.intro ?hw ?_); (case hw => first | omega | rfl | exact ⟨_, _, rfl⟩ | assumption | (simp only [lN, hcl] <;> omega)))
    | with_reducible intro _)
        all_goals first | omega | skip
        refine swp_fam [0, 2, 5, 7] (fun i : Nat => ⟨[rpsD l, .undef, .bool true, .undef, .undef, .int .i64 (doubtsR l : Nat), .undef, .int .i64 i, .undef, .undef, .undef, .undef, .undef], [], ⟨[], []⟩⟩) (fun i => i ≤ l.length) (fun i => l.length - i) 0 (by omega) ?_ ?_
        · simp [keepE, St.keep]
        · intro j hj
          by_cases hjl : j < l.length
          · have t1 : decide (((j : Nat) : Int) < l.length) = true := by simp; omega
            have hg := rp_get hjl
            have p3 := doubts_p [l[j]] (by simp) (fun r hr e he => by simp at hr; subst hr; exact hs _ (List.getElem_mem _) e he)
            have ht : ((l.map rpD).take (((j : Nat) : Int) + 1).toNat).drop j = [rpD l[j]] := by
              rw [show (((j : Nat) : Int) + 1).toNat = j + 1 by omega, List.take_succ_eq_append_getElem (by rw [hlr]; exact hjl), List.drop_append_of_le_length (by simp; omega), List.drop_of_length_le (by simp; omega)]
              simp
            have hk := elems_rps l
            have hnd := no_doubt (r := l[j])
            rw [one_doubt] at p3
            have hlo : (l[j].opts.map evD).length = l[j].opts.length := by simp
            have hcr := cl_R l[j]
            have her := er_R l[j]
            by_cases h2 : 2 ≤ choices l[j]
            · rw [if_pos h2] at p3
              obtain ⟨n1, n2⟩ := hnd h2
              have t2 : (((l[j].opts.length : Nat) : Int) == 0) = false := by
                rw [beq_eq_false_iff_ne]; intro q; exact n1 (List.eq_nil_of_length_eq_zero (by omega))
              by_cases h1 : l[j].opts.length = 1
              · have t3 : (((l[j].opts.length : Nat) : Int) == 1) = true := by rw [h1]; rfl
                have t4 := n2 h1
                repeat' (first
    | with_reducible first | apply swp_seq | apply swp_reg | apply swp_regD | apply swp_block | apply swp_exit | apply swp_ret | apply swp_skip | apply swp_cd
    | simp only [go_sem, seval, P9, q9, t1, hlr, hg, ht, t2, t3, t4, hlo, nc1]
    | simp (disch := omega) only [w64, w32, wu8, wu16, wu32, wu64]
    | ((with_reducible refine o_call (p3) ?he ?hc ?_); (case he | hc => first | rfl | (simp [D.erL, D.er, D.closedL, D.closed, hlr, hg, ht, hk, hcr, her, hlo]; done)))
    | ((with_reducible apply s_slFF); (case hx => first | rfl | assumption | omega | ((first | refine ⟨?_, ?_⟩ | skip) <;> first | omega | (simp only [lN, hlr, hg, ht, hk, hcr, her, hlo] <;> omega)) | (simp [elemsK, D.isVal, D.cells, D.closedL, D.closed, hlr, hg, ht, hk, hcr, her, hlo]; first | done | omega)))
    | ((with_reducible first | apply s_slTF | apply s_slFT); (case h0 | h1 | hx => first | rfl | assumption | omega | ((first | refine ⟨?_, ?_⟩ | skip) <;> first | omega | (simp only [lN, hlr, hg, ht, hk, hcr, her, hlo] <;> omega)) | (simp [elemsK, D.isVal, D.cells, D.closedL, D.closed, hlr, hg, ht, hk, hcr, her, hlo]; first | done | omega)))
    | ((with_reducible apply s_slTT); (case h0 | h1 | h2 | hx => first | rfl | assumption | omega | ((first | refine ⟨?_, ?_⟩ | skip) <;> first | omega | (simp only [lN, hlr, hg, ht, hk, hcr, her, hlo] <;> omega)) | (simp [elemsK, D.isVal, D.cells, D.closedL, D.closed, hlr, hg, ht, hk, hcr, her, hlo]; first | done | omega)))
    | ((with_reducible first | apply s_smTF | apply s_smFT); (case h0 | h1 | hc => first | rfl | assumption | omega | ((first | refine ⟨?_, ?_⟩ | skip) <;> first | omega | (simp only [lN, hlr, hg, ht, hk, hcr, her, hlo] <;> omega)) | (simp [elemsK, D.isVal, D.cells, D.closedL, D.closed, hlr, hg, ht, hk, hcr, her, hlo]; first | done | omega)))
    | ((with_reducible apply s_smTT); (case h0 | h1 | h2 | hc => first | rfl | assumption | omega | ((first | refine ⟨?_, ?_⟩ | skip) <;> first | omega | (simp only [lN, hlr, hg, ht, hk, hcr, her, hlo] <;> omega)) | (simp [elemsK, D.isVal, D.cells, D.closedL, D.closed, hlr, hg, ht, hk, hcr, her, hlo]; first | done | omega)))
    | with_reducible first | apply cd_dec | apply cd_eq | apply cd_ne | apply cd_split | apply gd_dec | apply gd_eq | apply gd_ne | apply gd_split
    | ((with_reducible refine And.intro ?hw ?_); (case hw => first | omega | rfl | exact ⟨_, _, rfl⟩ | assumption | (simp only [lN, hlr, hg, ht, hk, hcr, her, hlo] <;> omega)))
    | with_reducible intro _)
                all_goals first | omega | skip
                exact ⟨j + 1, by omega, by omega, by simp [keepE, St.keep]⟩
              · have t3 : (((l[j].opts.length : Nat) : Int) == 1) = false := by rw [beq_eq_false_iff_ne]; omega
                repeat' (first
    | with_reducible first | apply swp_seq | apply swp_reg | apply swp_regD | apply swp_block | apply swp_exit | apply swp_ret | apply swp_skip | apply swp_cd
    | simp only [go_sem, seval, P9, q9, t1, hlr, hg, ht, t2, t3, hlo, nc1]
    | simp (disch := omega) only [w64, w32, wu8, wu16, wu32, wu64]
    | ((with_reducible refine o_call (p3) ?he ?hc ?_); (case he | hc => first | rfl | (simp [D.erL, D.er, D.closedL, D.closed, hlr, hg, ht, hk, hcr, her, hlo]; done)))
    | ((with_reducible apply s_slFF); (case hx => first | rfl | assumption | omega | ((first | refine ⟨?_, ?_⟩ | skip) <;> first | omega | (simp only [lN, hlr, hg, ht, hk, hcr, her, hlo] <;> omega)) | (simp [elemsK, D.isVal, D.cells, D.closedL, D.closed, hlr, hg, ht, hk, hcr, her, hlo]; first | done | omega)))
    | ((with_reducible first | apply s_slTF | apply s_slFT); (case h0 | h1 | hx => first | rfl | assumption | omega | ((first | refine ⟨?_, ?_⟩ | skip) <;> first | omega | (simp only [lN, hlr, hg, ht, hk, hcr, her, hlo] <;> omega)) | (simp [elemsK, D.isVal, D.cells, D.closedL, D.closed, hlr, hg, ht, hk, hcr, her, hlo]; first | done | omega)))
    | ((with_reducible apply s_slTT); (case h0 | h1 | h2 | hx => first | rfl | assumption | omega | ((first | refine ⟨?_, ?_⟩ | skip) <;> first | omega | (simp only [lN, hlr, hg, ht, hk, hcr, her, hlo] <;> omega)) | (simp [elemsK, D.isVal, D.cells, D.closedL, D.closed, hlr, hg, ht, hk, hcr, her, hlo]; first | done | omega)))
    | ((with_reducible first | apply s_smTF | apply s_smFT); (case h0 | h1 | hc => first | rfl | assumption | omega | ((first | refine ⟨?_, ?_⟩ | skip) <;> first | omega | (simp only [lN, hlr, hg, ht, hk, hcr, her, hlo] <;> omega)) | (simp [elemsK, D.isVal, D.cells, D.closedL, D.closed, hlr, hg, ht, hk, hcr, her, hlo]; first | done | omega)))
    | ((with_reducible apply s_smTT); (case h0 | h1 | h2 | hc => first | rfl | assumption | omega | ((first | refine ⟨?_, ?_⟩ | skip) <;> first | omega | (simp only [lN, hlr, hg, ht, hk, hcr, her, hlo] <;> omega)) | (simp [elemsK, D.isVal, D.cells, D.closedL, D.closed, hlr, hg, ht, hk, hcr, her, hlo]; first | done | omega)))
    | with_reducible first | apply cd_dec | apply cd_eq | apply cd_ne | apply cd_split | apply gd_dec | apply gd_eq | apply gd_ne | apply gd_split
    | ((with_reducible refine And.intro ?hw ?_); (case hw => first | omega | rfl | exact ⟨_, _, rfl⟩ | assumption | (simp only [lN, hlr, hg, ht, hk, hcr, her, hlo] <;> omega)))
    | with_reducible intro _)
                all_goals first | omega | skip
                exact ⟨j + 1, by omega, by omega, by simp [keepE, St.keep]⟩
            · rw [if_neg h2] at p3
              repeat' (first
    | with_reducible first | apply swp_seq | apply swp_reg | apply swp_regD | apply swp_block | apply swp_exit | apply swp_ret | apply swp_skip | apply swp_cd
    | simp only [go_sem, seval, P9, q9, t1, hlr, hg, ht, hlo, nc0]
    | simp (disch := omega) only [w64, w32, wu8, wu16, wu32, wu64]
    | ((with_reducible refine o_call (p3) ?he ?hc ?_); (case he | hc => first | rfl | (simp [D.erL, D.er, D.closedL, D.closed, hlr, hg, ht, hk, hcr, her, hlo]; done)))
    | ((with_reducible apply s_slFF); (case hx => first | rfl | assumption | omega | ((first | refine ⟨?_, ?_⟩ | skip) <;> first | omega | (simp only [lN, hlr, hg, ht, hk, hcr, her, hlo] <;> omega)) | (simp [elemsK, D.isVal, D.cells, D.closedL, D.closed, hlr, hg, ht, hk, hcr, her, hlo]; first | done | omega)))
    | ((with_reducible first | apply s_slTF | apply s_slFT); (case h0 | h1 | hx => first | rfl | assumption | omega | ((first | refine ⟨?_, ?_⟩ | skip) <;> first | omega | (simp only [lN, hlr, hg, ht, hk, hcr, her, hlo] <;> omega)) | (simp [elemsK, D.isVal, D.cells, D.closedL, D.closed, hlr, hg, ht, hk, hcr, her, hlo]; first | done | omega)))
    | ((with_reducible apply s_slTT); (case h0 | h1 | h2 | hx => first | rfl | assumption | omega | ((first | refine ⟨?_, ?_⟩ | skip) <;> first | omega | (simp only [lN, hlr, hg, ht, hk, hcr, her, hlo] <;> omega)) | (simp [elemsK, D.isVal, D.cells, D.closedL, D.closed, hlr, hg, ht, hk, hcr, her, hlo]; first | done | omega)))
    | ((with_reducible first | apply s_smTF | apply s_smFT); (case h0 | h1 | hc => first | rfl | assumption | omega | ((first | refine ⟨?_, ?_⟩ | skip) <;> first | omega | (simp only [lN, hlr, hg, ht, hk, hcr, her, hlo] <;> omega)) | (simp [elemsK, D.isVal, D.cells, D.closedL, D.closed, hlr, hg, ht, hk, hcr, her, hlo]; first | done | omega)))
    | ((with_reducible apply s_smTT); (case h0 | h1 | h2 | hc => first | rfl | assumption | omega | ((first | refine ⟨?_, ?_⟩ | skip) <;> first | omega | (simp only [lN, hlr, hg, ht, hk, hcr, her, hlo] <;> omega)) | (simp [elemsK, D.isVal, D.cells, D.closedL, D.closed, hlr, hg, ht, hk, hcr, her, hlo]; first | done | omega)))
    | with_reducible first | apply cd_dec | apply cd_eq | apply cd_ne | apply cd_split | apply gd_dec | apply gd_eq | apply gd_ne | apply gd_split
    | ((with_reducible refine And.intro ?hw ?_); (case hw => first | omega | rfl | exact ⟨_, _, rfl⟩ | assumption | (simp only [lN, hlr, hg, ht, hk, hcr, her, hlo] <;> omega)))
    | with_reducible intro _)
              all_goals first | omega | skip
              exact ⟨j + 1, by omega, by omega, by simp [keepE, St.keep]⟩
          · have t1 : decide (((j : Nat) : Int) < l.length) = false := by simp; omega
            have t2 : (((doubtsR l : Nat) : Int) == (doubtsR l : Nat)) = true := by simp
            have t3 : decide (((doubtsR l : Nat) : Int) ≤ (l.length : Nat)) = true := by simp; omega
            repeat' (first
    | with_reducible first | apply swp_seq | apply swp_reg | apply swp_regD | apply swp_block | apply swp_exit | apply swp_ret | apply swp_skip | apply swp_cd
    | simp only [go_sem, seval, P9, q9, t1, t2, t3, hlr]
    | simp (disch := omega) only [w64, w32, wu8, wu16, wu32, wu64]
    | ((with_reducible refine o_call (c4) ?he ?hc ?_); (case he | hc => first | rfl | (simp [D.erL, D.er, D.closedL, D.closed, hlr, hclr, herr]; done)))
    | ((with_reducible apply s_slFF); (case hx => first | rfl | assumption | omega | ((first | refine ⟨?_, ?_⟩ | skip) <;> first | omega | (simp only [lN, hlr, hclr, herr] <;> omega)) | (simp [elemsK, D.isVal, D.cells, D.closedL, D.closed, hlr, hclr, herr]; first | done | omega)))
    | ((with_reducible first | apply s_slTF | apply s_slFT); (case h0 | h1 | hx => first | rfl | assumption | omega | ((first | refine ⟨?_, ?_⟩ | skip) <;> first | omega | (simp only [lN, hlr, hclr, herr] <;> omega)) | (simp [elemsK, D.isVal, D.cells, D.closedL, D.closed, hlr, hclr, herr]; first | done | omega)))
    | ((with_reducible apply s_slTT); (case h0 | h1 | h2 | hx => first | rfl | assumption | omega | ((first | refine ⟨?_, ?_⟩ | skip) <;> first | omega | (simp only [lN, hlr, hclr, herr] <;> omega)) | (simp [elemsK, D.isVal, D.cells, D.closedL, D.closed, hlr, hclr, herr]; first | done | omega)))
    | ((with_reducible first | apply s_smTF | apply s_smFT); (case h0 | h1 | hc => first | rfl | assumption | omega | ((first | refine ⟨?_, ?_⟩ | skip) <;> first | omega | (simp only [lN, hlr, hclr, herr] <;> omega)) | (simp [elemsK, D.isVal, D.cells, D.closedL, D.closed, hlr, hclr, herr]; first | done | omega)))
    | ((with_reducible apply s_smTT); (case h0 | h1 | h2 | hc => first | rfl | assumption | omega | ((first | refine ⟨?_, ?_⟩ | skip) <;> first | omega | (simp only [lN, hlr, hclr, herr] <;> omega)) | (simp [elemsK, D.isVal, D.cells, D.closedL, D.closed, hlr, hclr, herr]; first | done | omega)))
    | with_reducible first | apply cd_dec | apply cd_eq | apply cd_ne | apply cd_split | apply gd_dec | apply gd_eq | apply gd_ne | apply gd_split
    | ((with_reducible refine And.intro ?hw ?_); (case hw => first | omega | rfl | exact ⟨_, _, rfl⟩ | assumption | (simp only [lN, hlr, hclr, herr] <;> omega)))
    | with_reducible intro _)
            all_goals first | omega | simp [D.closed, D.er]
end Go.Proofs.Ytofnggfpegcllaa
end
section
set_option maxRecDepth 100000
set_option linter.unusedSimpArgs false
set_option linter.unusedVariables false
namespace Go.Proofs.Ytofnggfpegcllaa
open Go GoV Go.RowKit
theorem atL_len (L : List Nat) : (atL L).length = L.length := by simp [atL]
theorem atL_lb {L : List Nat} {i : Nat} (h : i < L.length) : lb (atL L) i = cno L i + 1 := by simp [atL, lb, List.getD, h]
theorem at_iff {L : List Nat} (hL : Lo L) {i k : Nat} (hi : i < L.length) (hk : k < L.length) : (((lb (atL L) i : Nat) : Int) == (lb (atL L) k : Nat)) = decide (lb L i = lb L k) := by
  rw [atL_lb hi, atL_lb hk, Bool.eq_iff_iff, beq_iff_eq, decide_eq_true_eq, ← cno_iff hL hi hk]
  omega
theorem names_rev (l : List Rp) : namesL l.reverse = (namesL l).reverse := by simp [namesL]
theorem doubts_rev (l : List Rp) : doubtsR l.reverse = doubtsR l := by unfold doubtsR; rw [List.countP_reverse]
theorem small_rev {l : List Rp} (h : Small l) : Small l.reverse := fun r hr => h r (List.mem_reverse.1 hr)
def backD (l : List Rp) (i : Nat) : List D := (l.reverse.take i).map rpD
theorem backD_len {l : List Rp} {i : Nat} (h : i ≤ l.length) : (backD l i).length = i := by unfold backD; rw [List.length_map, List.length_take, List.length_reverse]; omega
theorem backD_succ {l : List Rp} {i : Nat} (h : i < l.length) : backD l (i + 1) = backD l i ++ [.agg [.slice (l[l.length - 1 - i].opts.map evD) .no, .bool l[l.length - 1 - i].doubt]] := by
  unfold backD
  rw [List.take_succ_eq_append_getElem (by rw [List.length_reverse]; exact h), List.map_append]
  congr 1
  simp [rpD, List.getElem_reverse]
theorem backD_end (l : List Rp) : backD l l.length = l.reverse.map rpD := by unfold backD; rw [List.take_of_length_le (by rw [List.length_reverse]; omega)]
set_option maxHeartbeats 4000000 in
theorem l7_p (l : List Rp) : Pur M 7 [rpsD l] (.bool true) := by
  have c0 := head_p
  have c1 := few_p l
  have hlr : (l.map rpD).length = l.length := by simp
  have hclr := closedL_R l
  have herr := erL_R l
  refine ow7 rfl ?_
  rw [i7]
  unfold c7
  cases hf : few13 l 40
  · rw [hf] at c1
    repeat' (first
    | with_reducible first | apply swp_seq | apply swp_reg | apply swp_regD | apply swp_block | apply swp_exit | apply swp_ret | apply swp_skip | apply swp_cd
    | simp only [go_sem, seval, P7, q7]
    | simp (disch := omega) only [w64, w32, wu8, wu16, wu32, wu64]
    | ((with_reducible refine o_call (c0) ?he ?hc ?_); (case he | hc => first | rfl | (simp [D.erL, D.er, D.closedL, D.closed, hclr, herr]; done)))
    | ((with_reducible refine o_call (c1) ?he ?hc ?_); (case he | hc => first | rfl | (simp [D.erL, D.er, D.closedL, D.closed, hclr, herr]; done)))
    | ((with_reducible apply s_appT); (case he => rfl); (case hK | hc | hr | hV => first | rfl | assumption | omega | ((first | refine ⟨?_, ?_⟩ | skip) <;> first | omega | (simp only [lN, hclr, herr] <;> omega)) | (simp [elemsK, D.isVal, D.cells, D.closedL, D.closed, hclr, herr]; first | done | omega)))
    | ((with_reducible apply s_appG); (case he => rfl); (case hV | hK | hr | hl => first | rfl | assumption | omega | ((first | refine ⟨?_, ?_⟩ | skip) <;> first | omega | (simp only [lN, hclr, herr] <;> omega)) | (simp [elemsK, D.isVal, D.cells, D.closedL, D.closed, hclr, herr]; first | done | omega)))
    | ((with_reducible apply s_app0); (case he => rfl); (case hK | hc | hr => first | rfl | assumption | omega | ((first | refine ⟨?_, ?_⟩ | skip) <;> first | omega | (simp only [lN, hclr, herr] <;> omega)) | (simp [elemsK, D.isVal, D.cells, D.closedL, D.closed, hclr, herr]; first | done | omega)))
    | ((with_reducible apply s_appF); (case he => rfl); (case hK | hc | hr | hx | hn => first | rfl | assumption | omega | ((first | refine ⟨?_, ?_⟩ | skip) <;> first | omega | (simp only [lN, hclr, herr] <;> omega)) | (simp [elemsK, D.isVal, D.cells, D.closedL, D.closed, hclr, herr]; first | done | omega)))
    | ((with_reducible apply s_bsl); (case he | hl | hc => first | rfl | assumption | omega | ((first | refine ⟨?_, ?_⟩ | skip) <;> first | omega | (simp only [lN, hclr, herr] <;> omega)) | (simp [elemsK, D.isVal, D.cells, D.closedL, D.closed, hclr, herr]; first | done | omega)))
    | with_reducible first | apply cd_dec | apply cd_eq | apply cd_ne | apply cd_split | apply gd_dec | apply gd_eq | apply gd_ne | apply gd_split
    | ((with_reducible refine And.intro ?hw ?_); (case hw => first | omega | rfl | exact ⟨_, _, rfl⟩ | assumption | (simp only [lN, hclr, herr] <;> omega)))
    | with_reducible intro _)
    all_goals first | omega | skip
    exact ⟨_, weak_refl, by simp [D.closed], by simp [D.er]⟩
  · rw [hf] at c1
    obtain ⟨h40, hs⟩ := few_small hf
    have hclb := closedL_R l.reverse
    have herb := erL_R l.reverse
    have hL := labs_lo (namesL l)
    have hln : (labs (namesL l)).length = l.length := by rw [labs_len, namesL_len]
    have hK := labs_lo (namesL l.reverse)
    have hkn : (labs (namesL l.reverse)).length = l.length := by rw [labs_len, namesL_len, List.length_reverse]
    have hrev : ∀ i k, i < l.length → k < l.length → (lb (labs (namesL l)) i = lb (labs (namesL l)) k ↔ lb (labs (namesL l.reverse)) (l.length - 1 - i) = lb (labs (namesL l.reverse)) (l.length - 1 - k)) := fun i k hi hk => by
      rw [labs_iff (namesL l) (by rw [namesL_len]; exact hi) (by rw [namesL_len]; exact hk), labs_iff (namesL l.reverse) (by rw [namesL_len, List.length_reverse]; omega) (by rw [namesL_len, List.length_reverse]; omega), names_rev]
      have := cn_rev_iff (R := namesL l) (i := i) (k := k) (by rw [namesL_len]; exact hi) (by rw [namesL_len]; exact hk)
      rw [namesL_len] at this
      exact this.symm
    have k1 := components_p l (by omega) hs
    have k2 := components_p l.reverse (by rw [List.length_reverse]; omega) (small_rev hs)
    have hC1 : comps (namesL l) = compsL (labs (namesL l)) := rfl
    have hC2 : comps (namesL l.reverse) = compsL (labs (namesL l.reverse)) := rfl
    rw [hC1] at k1
    rw [hC2] at k2
    have k3 := at_p hL (by omega)
    rw [hln] at k3
    have k4 := at_p hK (by omega)
    rw [hkn] at k4
    have k5 := doubts_p l (by omega) hs
    have k6 := doubts_p l.reverse (by rw [List.length_reverse]; omega) (small_rev hs)
    rw [doubts_rev] at k6
    clear hC1 hC2
    generalize labs (namesL l) = L at *
    generalize labs (namesL l.reverse) = B at *
    have u1 := cl_comps (compsL L)
    have u2 := er_comps (compsL L)
    have u3 := cl_comps (compsL B)
    have u4 := er_comps (compsL B)
    have td : (((doubtsR l : Nat) : Int) != (doubtsR l : Nat)) = false := by simp
    generalize doubtsR l = dn at *
    repeat' (first
    | with_reducible first | apply swp_seq | apply swp_reg | apply swp_regD | apply swp_block | apply swp_exit | apply swp_ret | apply swp_skip | apply swp_cd
    | simp only [go_sem, seval, P7, q7]
    | simp (disch := omega) only [w64, w32, wu8, wu16, wu32, wu64]
    | ((with_reducible refine o_call (c0) ?he ?hc ?_); (case he | hc => first | rfl | (simp [D.erL, D.er, D.closedL, D.closed, hclr, herr, hlr]; done)))
    | ((with_reducible refine o_call (c1) ?he ?hc ?_); (case he | hc => first | rfl | (simp [D.erL, D.er, D.closedL, D.closed, hclr, herr, hlr]; done)))
    | ((with_reducible apply s_appT); (case he => rfl); (case hK | hc | hr | hV => first | rfl | assumption | omega | ((first | refine ⟨?_, ?_⟩ | skip) <;> first | omega | (simp only [lN, hclr, herr, hlr] <;> omega)) | (simp [elemsK, D.isVal, D.cells, D.closedL, D.closed, hclr, herr, hlr]; first | done | omega)))
    | ((with_reducible apply s_appG); (case he => rfl); (case hV | hK | hr | hl => first | rfl | assumption | omega | ((first | refine ⟨?_, ?_⟩ | skip) <;> first | omega | (simp only [lN, hclr, herr, hlr] <;> omega)) | (simp [elemsK, D.isVal, D.cells, D.closedL, D.closed, hclr, herr, hlr]; first | done | omega)))
    | ((with_reducible apply s_app0); (case he => rfl); (case hK | hc | hr => first | rfl | assumption | omega | ((first | refine ⟨?_, ?_⟩ | skip) <;> first | omega | (simp only [lN, hclr, herr, hlr] <;> omega)) | (simp [elemsK, D.isVal, D.cells, D.closedL, D.closed, hclr, herr, hlr]; first | done | omega)))
    | ((with_reducible apply s_appF); (case he => rfl); (case hK | hc | hr | hx | hn => first | rfl | assumption | omega | ((first | refine ⟨?_, ?_⟩ | skip) <;> first | omega | (simp only [lN, hclr, herr, hlr] <;> omega)) | (simp [elemsK, D.isVal, D.cells, D.closedL, D.closed, hclr, herr, hlr]; first | done | omega)))
    | ((with_reducible apply s_bsl); (case he | hl | hc => first | rfl | assumption | omega | ((first | refine ⟨?_, ?_⟩ | skip) <;> first | omega | (simp only [lN, hclr, herr, hlr] <;> omega)) | (simp [elemsK, D.isVal, D.cells, D.closedL, D.closed, hclr, herr, hlr]; first | done | omega)))
    | with_reducible first | apply cd_dec | apply cd_eq | apply cd_ne | apply cd_split | apply gd_dec | apply gd_eq | apply gd_ne | apply gd_split
    | ((with_reducible refine And.intro ?hw ?_); (case hw => first | omega | rfl | exact ⟨_, _, rfl⟩ | assumption | (simp only [lN, hclr, herr, hlr] <;> omega)))
    | with_reducible intro _)
    all_goals first | omega | skip
    refine swp_weak (weak_trans (weak_keep [0, 2, 3, 4, 5]) (weak_new 3 2 (by omega) false rfl)) ?_
    simp only [keepE]
    refine swp_fam [0, 2, 3, 4, 5] (fun i : Nat => ⟨[rpsD l, .undef, .bool true, .slice (backD l i) (.tok 0), .int .i64 l.length, .int .i64 ((l.length : Int) - 1 - i), .undef, .undef, .undef, .undef, .undef, .undef, .undef, .undef, .undef, .undef, .undef, .undef], [], ⟨[], [.per 2 i]⟩⟩) (fun i => i ≤ l.length) (fun i => l.length - i) 0 (by omega) ?_ ?_
    · simp [keepE, St.keep, backD]
    · intro i hi
      by_cases hil : i < l.length
      · have t0 : decide (((l.length : Int) - 1 - i) ≥ 0) = true := by simp; omega
        have hti : ((l.length : Int) - 1 - i).toNat = l.length - 1 - i := by omega
        have hg := rp_get (l := l) (i := l.length - 1 - i) (by omega)
        have hml := backD_len (l := l) (i := i) (by omega)
        have hpn := backD_succ hil
        repeat' (first
    | with_reducible first | apply swp_seq | apply swp_reg | apply swp_regD | apply swp_block | apply swp_exit | apply swp_ret | apply swp_skip | apply swp_cd
    | simp only [go_sem, seval, P7, q7, hlr, t0, hti, hg]
    | simp (disch := omega) only [w64, w32, wu8, wu16, wu32, wu64]
    | ((with_reducible apply s_appT); (case he => rfl); (case hK | hc | hr | hV => first | rfl | assumption | omega | ((first | refine ⟨?_, ?_⟩ | skip) <;> first | omega | (simp only [lN, hlr, hti, hg, hml] <;> omega)) | (simp [elemsK, D.isVal, D.cells, D.closedL, D.closed, hlr, hti, hg, hml]; first | done | omega)))
    | ((with_reducible apply s_appG); (case he => rfl); (case hV | hK | hr | hl => first | rfl | assumption | omega | ((first | refine ⟨?_, ?_⟩ | skip) <;> first | omega | (simp only [lN, hlr, hti, hg, hml] <;> omega)) | (simp [elemsK, D.isVal, D.cells, D.closedL, D.closed, hlr, hti, hg, hml]; first | done | omega)))
    | ((with_reducible apply s_app0); (case he => rfl); (case hK | hc | hr => first | rfl | assumption | omega | ((first | refine ⟨?_, ?_⟩ | skip) <;> first | omega | (simp only [lN, hlr, hti, hg, hml] <;> omega)) | (simp [elemsK, D.isVal, D.cells, D.closedL, D.closed, hlr, hti, hg, hml]; first | done | omega)))
    | ((with_reducible apply s_appF); (case he => rfl); (case hK | hc | hr | hx | hn => first | rfl | assumption | omega | ((first | refine ⟨?_, ?_⟩ | skip) <;> first | omega | (simp only [lN, hlr, hti, hg, hml] <;> omega)) | (simp [elemsK, D.isVal, D.cells, D.closedL, D.closed, hlr, hti, hg, hml]; first | done | omega)))
    | ((with_reducible apply s_bsl); (case he | hl | hc => first | rfl | assumption | omega | ((first | refine ⟨?_, ?_⟩ | skip) <;> first | omega | (simp only [lN, hlr, hti, hg, hml] <;> omega)) | (simp [elemsK, D.isVal, D.cells, D.closedL, D.closed, hlr, hti, hg, hml]; first | done | omega)))
    | with_reducible first | apply cd_dec | apply cd_eq | apply cd_ne | apply cd_split | apply gd_dec | apply gd_eq | apply gd_ne | apply gd_split
    | ((with_reducible refine And.intro ?hw ?_); (case hw => first | omega | rfl | exact ⟨_, _, rfl⟩ | assumption | (simp only [lN, hlr, hti, hg, hml] <;> omega)))
    | with_reducible intro _)
        all_goals first | omega | skip
        refine ⟨i + 1, by omega, by omega, ?_⟩
        simp [keepE, St.keep, hpn, D.erL, D.er, hml]
        omega
      · have t0 : decide (((l.length : Int) - 1 - i) ≥ 0) = false := by simp; omega
        have : i = l.length := by omega
        subst this
        rw [backD_end]
        repeat' (first
    | with_reducible first | apply swp_seq | apply swp_reg | apply swp_regD | apply swp_block | apply swp_exit | apply swp_ret | apply swp_skip | apply swp_cd
    | simp only [go_sem, seval, P7, q7, hlr, t0, td]
    | simp (disch := omega) only [w64, w32, wu8, wu16, wu32, wu64]
    | ((with_reducible refine o_call (k1) ?he ?hc ?_); (case he | hc => first | rfl | (simp [D.erL, D.er, D.closedL, D.closed, hlr, hclr, herr, hclb, herb, u1, u2, u3, u4]; done)))
    | ((with_reducible refine o_call (k2) ?he ?hc ?_); (case he | hc => first | rfl | (simp [D.erL, D.er, D.closedL, D.closed, hlr, hclr, herr, hclb, herb, u1, u2, u3, u4]; done)))
    | ((with_reducible refine o_call (k3) ?he ?hc ?_); (case he | hc => first | rfl | (simp [D.erL, D.er, D.closedL, D.closed, hlr, hclr, herr, hclb, herb, u1, u2, u3, u4]; done)))
    | ((with_reducible refine o_call (k4) ?he ?hc ?_); (case he | hc => first | rfl | (simp [D.erL, D.er, D.closedL, D.closed, hlr, hclr, herr, hclb, herb, u1, u2, u3, u4]; done)))
    | ((with_reducible refine o_call (k5) ?he ?hc ?_); (case he | hc => first | rfl | (simp [D.erL, D.er, D.closedL, D.closed, hlr, hclr, herr, hclb, herb, u1, u2, u3, u4]; done)))
    | ((with_reducible refine o_call (k6) ?he ?hc ?_); (case he | hc => first | rfl | (simp [D.erL, D.er, D.closedL, D.closed, hlr, hclr, herr, hclb, herb, u1, u2, u3, u4]; done)))
    | ((with_reducible apply s_appT); (case he => rfl); (case hK | hc | hr | hV => first | rfl | assumption | omega | ((first | refine ⟨?_, ?_⟩ | skip) <;> first | omega | (simp only [lN, hlr, hclr, herr, hclb, herb, u1, u2, u3, u4] <;> omega)) | (simp [elemsK, D.isVal, D.cells, D.closedL, D.closed, hlr, hclr, herr, hclb, herb, u1, u2, u3, u4]; first | done | omega)))
    | ((with_reducible apply s_appG); (case he => rfl); (case hV | hK | hr | hl => first | rfl | assumption | omega | ((first | refine ⟨?_, ?_⟩ | skip) <;> first | omega | (simp only [lN, hlr, hclr, herr, hclb, herb, u1, u2, u3, u4] <;> omega)) | (simp [elemsK, D.isVal, D.cells, D.closedL, D.closed, hlr, hclr, herr, hclb, herb, u1, u2, u3, u4]; first | done | omega)))
    | ((with_reducible apply s_app0); (case he => rfl); (case hK | hc | hr => first | rfl | assumption | omega | ((first | refine ⟨?_, ?_⟩ | skip) <;> first | omega | (simp only [lN, hlr, hclr, herr, hclb, herb, u1, u2, u3, u4] <;> omega)) | (simp [elemsK, D.isVal, D.cells, D.closedL, D.closed, hlr, hclr, herr, hclb, herb, u1, u2, u3, u4]; first | done | omega)))
    | ((with_reducible apply s_appF); (case he => rfl); (case hK | hc | hr | hx | hn => first | rfl | assumption | omega | ((first | refine ⟨?_, ?_⟩ | skip) <;> first | omega | (simp only [lN, hlr, hclr, herr, hclb, herb, u1, u2, u3, u4] <;> omega)) | (simp [elemsK, D.isVal, D.cells, D.closedL, D.closed, hlr, hclr, herr, hclb, herb, u1, u2, u3, u4]; first | done | omega)))
    | ((with_reducible apply s_bsl); (case he | hl | hc => first | rfl | assumption | omega | ((first | refine ⟨?_, ?_⟩ | skip) <;> first | omega | (simp only [lN, hlr, hclr, herr, hclb, herb, u1, u2, u3, u4] <;> omega)) | (simp [elemsK, D.isVal, D.cells, D.closedL, D.closed, hlr, hclr, herr, hclb, herb, u1, u2, u3, u4]; first | done | omega)))
    | with_reducible first | apply cd_dec | apply cd_eq | apply cd_ne | apply cd_split | apply gd_dec | apply gd_eq | apply gd_ne | apply gd_split
    | ((with_reducible refine And.intro ?hw ?_); (case hw => first | omega | rfl | exact ⟨_, _, rfl⟩ | assumption | (simp only [lN, hlr, hclr, herr, hclb, herb, u1, u2, u3, u4] <;> omega)))
    | with_reducible intro _)
        all_goals first | omega | skip
        refine swp_fam [2, 4, 6, 8, 10] (fun i : Nat => ⟨[.undef, .undef, .bool true, .undef, .int .i64 l.length, .undef, .slice (ints (atL L)) .no, .undef, .slice (ints (atL B)) .no, .undef, .int .i64 i, .undef, .undef, .undef, .undef, .undef, .undef, .undef], [], ⟨[], [.per 2 l.length]⟩⟩) (fun i => i ≤ l.length) (fun i => l.length - i) 0 (by omega) ?_ ?_
        · simp [keepE, St.keep]
        · intro i hi
          by_cases hil : i < l.length
          · have t1 : decide (((i : Nat) : Int) < l.length) = true := by simp; omega
            repeat' (first
    | with_reducible first | apply swp_seq | apply swp_reg | apply swp_regD | apply swp_block | apply swp_exit | apply swp_ret | apply swp_skip | apply swp_cd
    | simp only [go_sem, seval, P7, q7, t1]
    | simp (disch := omega) only [w64, w32, wu8, wu16, wu32, wu64]
    | ((with_reducible apply s_appT); (case he => rfl); (case hK | hc | hr | hV => first | rfl | assumption | omega | ((first | refine ⟨?_, ?_⟩ | skip) <;> first | omega | (simp only [lN] <;> omega)) | (simp [elemsK, D.isVal, D.cells, D.closedL, D.closed]; first | done | omega)))
    | ((with_reducible apply s_appG); (case he => rfl); (case hV | hK | hr | hl => first | rfl | assumption | omega | ((first | refine ⟨?_, ?_⟩ | skip) <;> first | omega | (simp only [lN] <;> omega)) | (simp [elemsK, D.isVal, D.cells, D.closedL, D.closed]; first | done | omega)))
    | ((with_reducible apply s_app0); (case he => rfl); (case hK | hc | hr => first | rfl | assumption | omega | ((first | refine ⟨?_, ?_⟩ | skip) <;> first | omega | (simp only [lN] <;> omega)) | (simp [elemsK, D.isVal, D.cells, D.closedL, D.closed]; first | done | omega)))
    | ((with_reducible apply s_appF); (case he => rfl); (case hK | hc | hr | hx | hn => first | rfl | assumption | omega | ((first | refine ⟨?_, ?_⟩ | skip) <;> first | omega | (simp only [lN] <;> omega)) | (simp [elemsK, D.isVal, D.cells, D.closedL, D.closed]; first | done | omega)))
    | ((with_reducible apply s_bsl); (case he | hl | hc => first | rfl | assumption | omega | ((first | refine ⟨?_, ?_⟩ | skip) <;> first | omega | (simp only [lN] <;> omega)) | (simp [elemsK, D.isVal, D.cells, D.closedL, D.closed]; first | done | omega)))
    | with_reducible first | apply cd_dec | apply cd_eq | apply cd_ne | apply cd_split | apply gd_dec | apply gd_eq | apply gd_ne | apply gd_split
    | ((with_reducible refine And.intro ?hw ?_); (case hw => first | omega | rfl | exact ⟨_, _, rfl⟩ | assumption | (simp only [lN] <;> omega)))
    | with_reducible intro _)
            all_goals first | omega | skip
            refine swp_fam [2, 4, 6, 8, 10, 11] (fun k : Nat => ⟨[.undef, .undef, .bool true, .undef, .int .i64 l.length, .undef, .slice (ints (atL L)) .no, .undef, .slice (ints (atL B)) .no, .undef, .int .i64 i, .int .i64 k, .undef, .undef, .undef, .undef, .undef, .undef], [], ⟨[], [.per 2 l.length]⟩⟩) (fun k => k ≤ i) (fun k => i - k) 0 (by omega) ?_ ?_
            · simp [keepE, St.keep]
            · intro k hk
              by_cases hki : k < i
              · have t2 : decide (((k : Nat) : Int) < i) = true := by simp; omega
                have la := ints_len (atL L)
                have lB := ints_len (atL B)
                rw [atL_len, hln] at la
                rw [atL_len, hkn] at lB
                have g1 := ints_get (F := atL L) (i := i) (by rw [atL_len]; omega)
                have g2 := ints_get (F := atL L) (i := k) (by rw [atL_len]; omega)
                have g3 := ints_get (F := atL B) (i := l.length - 1 - i) (by rw [atL_len]; omega)
                have g4 := ints_get (F := atL B) (i := l.length - 1 - k) (by rw [atL_len]; omega)
                have ti : ((l.length : Int) - 1 - i).toNat = l.length - 1 - i := by omega
                have tk : ((l.length : Int) - 1 - k).toNat = l.length - 1 - k := by omega
                have e1 := at_iff hL (i := i) (k := k) (by omega) (by omega)
                have e2 := at_iff hK (i := l.length - 1 - i) (k := l.length - 1 - k) (by omega) (by omega)
                have e3 : decide (lb B (l.length - 1 - i) = lb B (l.length - 1 - k)) = decide (lb L i = lb L k) := decide_eq_decide.2 (hrev i k (by omega) (by omega)).symm
                rw [e3] at e2
                generalize decide (lb L i = lb L k) = b at *
                have tb : (b == b) = true := by simp
                repeat' (first
    | with_reducible first | apply swp_seq | apply swp_reg | apply swp_regD | apply swp_block | apply swp_exit | apply swp_ret | apply swp_skip | apply swp_cd
    | simp only [go_sem, seval, P7, q7, t2, la, lB, g1, g2, ti, g3, tk, g4, e1, e2, tb, Bool.not_true]
    | simp (disch := omega) only [w64, w32, wu8, wu16, wu32, wu64]
    | ((with_reducible apply s_appT); (case he => rfl); (case hK | hc | hr | hV => first | rfl | assumption | omega | ((first | refine ⟨?_, ?_⟩ | skip) <;> first | omega | (simp only [lN, la, lB, g1, g2, ti, tk, g3, g4] <;> omega)) | (simp [elemsK, D.isVal, D.cells, D.closedL, D.closed, la, lB, g1, g2, ti, tk, g3, g4]; first | done | omega)))
    | ((with_reducible apply s_appG); (case he => rfl); (case hV | hK | hr | hl => first | rfl | assumption | omega | ((first | refine ⟨?_, ?_⟩ | skip) <;> first | omega | (simp only [lN, la, lB, g1, g2, ti, tk, g3, g4] <;> omega)) | (simp [elemsK, D.isVal, D.cells, D.closedL, D.closed, la, lB, g1, g2, ti, tk, g3, g4]; first | done | omega)))
    | ((with_reducible apply s_app0); (case he => rfl); (case hK | hc | hr => first | rfl | assumption | omega | ((first | refine ⟨?_, ?_⟩ | skip) <;> first | omega | (simp only [lN, la, lB, g1, g2, ti, tk, g3, g4] <;> omega)) | (simp [elemsK, D.isVal, D.cells, D.closedL, D.closed, la, lB, g1, g2, ti, tk, g3, g4]; first | done | omega)))
    | ((with_reducible apply s_appF); (case he => rfl); (case hK | hc | hr | hx | hn => first | rfl | assumption | omega | ((first | refine ⟨?_, ?_⟩ | skip) <;> first | omega | (simp only [lN, la, lB, g1, g2, ti, tk, g3, g4] <;> omega)) | (simp [elemsK, D.isVal, D.cells, D.closedL, D.closed, la, lB, g1, g2, ti, tk, g3, g4]; first | done | omega)))
    | ((with_reducible apply s_bsl); (case he | hl | hc => first | rfl | assumption | omega | ((first | refine ⟨?_, ?_⟩ | skip) <;> first | omega | (simp only [lN, la, lB, g1, g2, ti, tk, g3, g4] <;> omega)) | (simp [elemsK, D.isVal, D.cells, D.closedL, D.closed, la, lB, g1, g2, ti, tk, g3, g4]; first | done | omega)))
    | with_reducible first | apply cd_dec | apply cd_eq | apply cd_ne | apply cd_split | apply gd_dec | apply gd_eq | apply gd_ne | apply gd_split
    | ((with_reducible refine And.intro ?hw ?_); (case hw => first | omega | rfl | exact ⟨_, _, rfl⟩ | assumption | (simp only [lN, la, lB, g1, g2, ti, tk, g3, g4] <;> omega)))
    | with_reducible intro _)
                all_goals first | omega | skip
                exact ⟨k + 1, by omega, by omega, by simp [keepE, St.keep]⟩
              · have t2 : decide (((k : Nat) : Int) < i) = false := by simp; omega
                repeat' (first
    | with_reducible first | apply swp_seq | apply swp_reg | apply swp_regD | apply swp_block | apply swp_exit | apply swp_ret | apply swp_skip | apply swp_cd
    | simp only [go_sem, seval, P7, q7, t2]
    | simp (disch := omega) only [w64, w32, wu8, wu16, wu32, wu64]
    | ((with_reducible apply s_appT); (case he => rfl); (case hK | hc | hr | hV => first | rfl | assumption | omega | ((first | refine ⟨?_, ?_⟩ | skip) <;> first | omega | (simp only [lN] <;> omega)) | (simp [elemsK, D.isVal, D.cells, D.closedL, D.closed]; first | done | omega)))
    | ((with_reducible apply s_appG); (case he => rfl); (case hV | hK | hr | hl => first | rfl | assumption | omega | ((first | refine ⟨?_, ?_⟩ | skip) <;> first | omega | (simp only [lN] <;> omega)) | (simp [elemsK, D.isVal, D.cells, D.closedL, D.closed]; first | done | omega)))
    | ((with_reducible apply s_app0); (case he => rfl); (case hK | hc | hr => first | rfl | assumption | omega | ((first | refine ⟨?_, ?_⟩ | skip) <;> first | omega | (simp only [lN] <;> omega)) | (simp [elemsK, D.isVal, D.cells, D.closedL, D.closed]; first | done | omega)))
    | ((with_reducible apply s_appF); (case he => rfl); (case hK | hc | hr | hx | hn => first | rfl | assumption | omega | ((first | refine ⟨?_, ?_⟩ | skip) <;> first | omega | (simp only [lN] <;> omega)) | (simp [elemsK, D.isVal, D.cells, D.closedL, D.closed]; first | done | omega)))
    | ((with_reducible apply s_bsl); (case he | hl | hc => first | rfl | assumption | omega | ((first | refine ⟨?_, ?_⟩ | skip) <;> first | omega | (simp only [lN] <;> omega)) | (simp [elemsK, D.isVal, D.cells, D.closedL, D.closed]; first | done | omega)))
    | with_reducible first | apply cd_dec | apply cd_eq | apply cd_ne | apply cd_split | apply gd_dec | apply gd_eq | apply gd_ne | apply gd_split
    | ((with_reducible refine And.intro ?hw ?_); (case hw => first | omega | rfl | exact ⟨_, _, rfl⟩ | assumption | (simp only [lN] <;> omega)))
    | with_reducible intro _)
                all_goals first | omega | skip
                exact ⟨i + 1, by omega, by omega, by simp [keepE, St.keep]⟩
          · have t1 : decide (((i : Nat) : Int) < l.length) = false := by simp; omega
            repeat' (first
    | with_reducible first | apply swp_seq | apply swp_reg | apply swp_regD | apply swp_block | apply swp_exit | apply swp_ret | apply swp_skip | apply swp_cd
    | simp only [go_sem, seval, P7, q7, t1]
    | simp (disch := omega) only [w64, w32, wu8, wu16, wu32, wu64]
    | ((with_reducible apply s_appT); (case he => rfl); (case hK | hc | hr | hV => first | rfl | assumption | omega | ((first | refine ⟨?_, ?_⟩ | skip) <;> first | omega | (simp only [lN] <;> omega)) | (simp [elemsK, D.isVal, D.cells, D.closedL, D.closed]; first | done | omega)))
    | ((with_reducible apply s_appG); (case he => rfl); (case hV | hK | hr | hl => first | rfl | assumption | omega | ((first | refine ⟨?_, ?_⟩ | skip) <;> first | omega | (simp only [lN] <;> omega)) | (simp [elemsK, D.isVal, D.cells, D.closedL, D.closed]; first | done | omega)))
    | ((with_reducible apply s_app0); (case he => rfl); (case hK | hc | hr => first | rfl | assumption | omega | ((first | refine ⟨?_, ?_⟩ | skip) <;> first | omega | (simp only [lN] <;> omega)) | (simp [elemsK, D.isVal, D.cells, D.closedL, D.closed]; first | done | omega)))
    | ((with_reducible apply s_appF); (case he => rfl); (case hK | hc | hr | hx | hn => first | rfl | assumption | omega | ((first | refine ⟨?_, ?_⟩ | skip) <;> first | omega | (simp only [lN] <;> omega)) | (simp [elemsK, D.isVal, D.cells, D.closedL, D.closed]; first | done | omega)))
    | ((with_reducible apply s_bsl); (case he | hl | hc => first | rfl | assumption | omega | ((first | refine ⟨?_, ?_⟩ | skip) <;> first | omega | (simp only [lN] <;> omega)) | (simp [elemsK, D.isVal, D.cells, D.closedL, D.closed]; first | done | omega)))
    | with_reducible first | apply cd_dec | apply cd_eq | apply cd_ne | apply cd_split | apply gd_dec | apply gd_eq | apply gd_ne | apply gd_split
    | ((with_reducible refine And.intro ?hw ?_); (case hw => first | omega | rfl | exact ⟨_, _, rfl⟩ | assumption | (simp only [lN] <;> omega)))
    | with_reducible intro _)
            all_goals first | omega | skip
            exact ⟨_, weak_refl, by simp [D.closed], by simp [D.er]⟩
end Go.Proofs.Ytofnggfpegcllaa
end
section
set_option maxRecDepth 100000
set_option linter.unusedSimpArgs false
set_option linter.unusedVariables false
namespace Go.Proofs.Ytofnggfpegcllaa
open Go GoV Go.RowKit
theorem opens_iv {w : World} : ∀ n, Opens Try.prog w n 48 (fun i : Iv => [.int .i64 i.low, .int .i64 i.high]) (fun _ => True) := by
  refine opens_all fun n => ?_
  have hF : OpensF Try.prog w n [⟨"Low", 3, 0, false, "", "", 0⟩, ⟨"High", 3, 1, false, "", "", 8⟩] 0 _ _ :=
    opensF_cons (c := 1) rfl (by kernel_rfl) (opens_i64 Try.underlying3) (opensF_cons (c := 1) rfl (by kernel_rfl) (opens_i64 Try.underlying3) opensF_nil)
  exact (opens_struct Try.underlying48 (by kernel_rfl) hF).imp (fun a => ⟨a.1, a.2.1⟩) (fun a _ => by simp) (fun a h => trivial)
theorem opens_use {w : World} : ∀ n, Opens Try.prog w n 50 (fun u : Iv × Iv × Iv => [.int .i64 u.1.low, .int .i64 u.1.high, .int .i64 u.2.1.low, .int .i64 u.2.1.high, .int .i64 u.2.2.low, .int .i64 u.2.2.high]) (fun _ => True) := by
  refine opens_all fun n => ?_
  have hF : OpensF Try.prog w n [⟨"Km", 48, 0, false, "", "", 0⟩, ⟨"Cycles", 48, 2, false, "", "", 16⟩, ⟨"Load", 48, 4, false, "", "", 32⟩] 0 _ _ :=
    opensF_cons (c := 2) rfl (by kernel_rfl) (opens_iv n) (opensF_cons (c := 2) rfl (by kernel_rfl) (opens_iv n) (opensF_cons (c := 2) rfl (by kernel_rfl) (opens_iv n) opensF_nil))
  exact (opens_struct Try.underlying50 (by kernel_rfl) hF).imp (fun a => (a.1, a.2.1, a.2.2.1)) (fun a _ => by simp) (fun a h => trivial)
theorem opens_ev {w : World} : ∀ n, Opens Try.prog w n 52 Ev.cells (fun _ => True) := by
  refine opens_all fun n => ?_
  have hF : OpensF Try.prog w n [⟨"Op", 3, 0, false, "", "", 0⟩, ⟨"Day", 3, 1, false, "", "", 8⟩, ⟨"Part", 9, 2, false, "", "", 16⟩, ⟨"Kind", 9, 3, false, "", "", 32⟩, ⟨"Into", 9, 4, false, "", "", 48⟩, ⟨"Slot", 9, 5, false, "", "", 64⟩, ⟨"Key", 9, 6, false, "", "", 80⟩, ⟨"Value", 9, 7, false, "", "", 96⟩, ⟨"Use", 50, 8, false, "", "", 112⟩] 0 _ _ :=
    opensF_cons (c := 1) rfl (by kernel_rfl) (opens_i64 Try.underlying3) (opensF_cons (c := 1) rfl (by kernel_rfl) (opens_i64 Try.underlying3) (opensF_cons (c := 1) rfl (by kernel_rfl) (opens_str Try.underlying9) (opensF_cons (c := 1) rfl (by kernel_rfl) (opens_str Try.underlying9)
      (opensF_cons (c := 1) rfl (by kernel_rfl) (opens_str Try.underlying9) (opensF_cons (c := 1) rfl (by kernel_rfl) (opens_str Try.underlying9) (opensF_cons (c := 1) rfl (by kernel_rfl) (opens_str Try.underlying9) (opensF_cons (c := 1) rfl (by kernel_rfl) (opens_str Try.underlying9)
      (opensF_cons (c := 6) rfl (by kernel_rfl) (opens_use n) opensF_nil))))))))
  exact (opens_struct Try.underlying52 (by kernel_rfl) hF).imp (fun a => ⟨a.1, a.2.1, a.2.2.1, a.2.2.2.1, a.2.2.2.2.1, a.2.2.2.2.2.1, a.2.2.2.2.2.2.1, a.2.2.2.2.2.2.2.1, a.2.2.2.2.2.2.2.2.1.1, a.2.2.2.2.2.2.2.2.1.2.1, a.2.2.2.2.2.2.2.2.1.2.2⟩) (fun a _ => by simp [Ev.cells]) (fun a h => trivial)
theorem opens_evs {w : World} : ∀ n, Opens Try.prog w n 38 (fun l : List Ev => [evsD l]) (fun _ => True) :=
  opens_all fun n => (opens_slice Try.underlying38 (show 0 < Try.prog.cellsOf 52 by rw [show Try.prog.cellsOf 52 = 14 by kernel_rfl]; omega) (opens_ev n)).imp id (fun a _ => rfl) (fun a h => trivial)
@[reducible] def Rp.cells (r : Rp) : List D := [.slice (r.opts.map evD) .no, .bool r.doubt]
theorem opens_rp {w : World} : ∀ n, Opens Try.prog w n 40 Rp.cells (fun _ => True) := by
  refine opens_all fun n => ?_
  have hF : OpensF Try.prog w n [⟨"Options", 38, 0, false, "", "", 0⟩, ⟨"Doubtful", 4, 1, false, "", "", 24⟩] 0 _ _ :=
    opensF_cons (c := 1) rfl (by kernel_rfl) (opens_evs n) (opensF_cons (c := 1) rfl (by kernel_rfl) (opens_bool Try.underlying4) opensF_nil)
  exact (opens_struct Try.underlying40 (by kernel_rfl) hF).imp (fun a => ⟨a.1, a.2.1⟩) (fun a _ => by simp [Rp.cells]) (fun a h => trivial)
theorem opens_rps {w : World} : ∀ n, Opens Try.prog w n 22 (fun l : List Rp => [rpsD l]) (fun _ => True) :=
  opens_all fun n => (opens_slice Try.underlying22 (show 0 < Try.prog.cellsOf 40 by rw [show Try.prog.cellsOf 40 = 2 by kernel_rfl]; omega) (opens_rp n)).imp id (fun a _ => rfl) (fun a h => trivial)
end Go.Proofs.Ytofnggfpegcllaa
end
section
set_option maxRecDepth 100000
set_option linter.unusedSimpArgs false
set_option linter.unusedVariables false
namespace Go.Proofs.Ytofnggfpegcllaa
open Go GoV Go.RowKit
set_option maxHeartbeats 4000000 in
theorem l6_p (l : List Rp) (part : Nm) : Pur M 6 [rpsD l, .str part] (.bool true) := by
  have c0 := head_p
  have c1 := few_p l
  have hlr : (l.map rpD).length = l.length := by simp
  have hclr := closedL_R l
  have herr := erL_R l
  refine ok6 rfl ?_
  rw [i6]
  unfold c6
  cases hf : few13 l 40
  · rw [hf] at c1
    repeat' (first
    | with_reducible first | apply swp_seq | apply swp_reg | apply swp_regD | apply swp_block | apply swp_exit | apply swp_ret | apply swp_skip | apply swp_cd
    | simp only [go_sem, seval, P6, q6]
    | simp (disch := omega) only [w64, w32, wu8, wu16, wu32, wu64]
    | ((with_reducible refine o_call (c0) ?he ?hc ?_); (case he | hc => first | rfl | (simp [D.erL, D.er, D.closedL, D.closed, hclr, herr]; done)))
    | ((with_reducible refine o_call (c1) ?he ?hc ?_); (case he | hc => first | rfl | (simp [D.erL, D.er, D.closedL, D.closed, hclr, herr]; done)))
    | with_reducible first | apply cd_dec | apply cd_eq | apply cd_ne | apply cd_split | apply gd_dec | apply gd_eq | apply gd_ne | apply gd_split
    | ((with_reducible refine And.intro ?hw ?_); (case hw => first | omega | rfl | exact ⟨_, _, rfl⟩ | assumption | (simp only [lN, hclr, herr] <;> omega)))
    | with_reducible intro _)
    all_goals first | omega | simp [D.closed, D.er]
  · rw [hf] at c1
    obtain ⟨h40, hs⟩ := few_small hf
    by_cases h100 : part.length ≤ 100
    rotate_left
    · have tp : decide (((part.length : Nat) : Int) > 100) = true := by simp; omega
      repeat' (first
    | with_reducible first | apply swp_seq | apply swp_reg | apply swp_regD | apply swp_block | apply swp_exit | apply swp_ret | apply swp_skip | apply swp_cd
    | simp only [go_sem, seval, P6, q6, tp]
    | simp (disch := omega) only [w64, w32, wu8, wu16, wu32, wu64]
    | ((with_reducible refine o_call (c0) ?he ?hc ?_); (case he | hc => first | rfl | (simp [D.erL, D.er, D.closedL, D.closed, hclr, herr]; done)))
    | ((with_reducible refine o_call (c1) ?he ?hc ?_); (case he | hc => first | rfl | (simp [D.erL, D.er, D.closedL, D.closed, hclr, herr]; done)))
    | with_reducible first | apply cd_dec | apply cd_eq | apply cd_ne | apply cd_split | apply gd_dec | apply gd_eq | apply gd_ne | apply gd_split
    | ((with_reducible refine And.intro ?hw ?_); (case hw => first | omega | rfl | exact ⟨_, _, rfl⟩ | assumption | (simp only [lN, hclr, herr] <;> omega)))
    | with_reducible intro _)
      all_goals first | omega | simp [D.closed, D.er]
    have tp : decide (((part.length : Nat) : Int) > 100) = false := by simp; omega
    have hRl := namesL_len l
    have hL := labs_lo (namesL l)
    have hln : (labs (namesL l)).length = l.length := by rw [labs_len, namesL_len]
    have k1 := components_p l (by omega) hs
    have hC1 : comps (namesL l) = compsL (labs (namesL l)) := rfl
    rw [hC1] at k1
    have k3 := at_p hL (by omega)
    rw [hln] at k3
    have k4 := of_p l (by omega) hs
    have k5 := k4 part
    have hsome := fun i (h : part ∈ (namesL l).getD i []) => of_some h
    have hnone := of_none (R := namesL l) (s := part)
    have hsame := fun t k => of_same (R := namesL l) (s := part) (t := t) (k := k)
    have hgl := fun i (h : part ∈ (namesL l).getD i []) => (hsome i h)
    have hnm := fun i (h : i < l.length) => namesL_get h
    generalize hG : ofP (namesL l) part = G at *
    generalize hLL : labs (namesL l) = L at *
    have u1 := cl_comps (compsL L)
    have u2 := er_comps (compsL L)
    have ug := cl_ints G
    have ug2 := er_ints G
    have hcl := compsD_len (compsL L)
    rw [comps_len] at hcl
    have la := ints_len (atL L)
    rw [atL_len, hln] at la
    have lg := ints_len G
    repeat' (first
    | with_reducible first | apply swp_seq | apply swp_reg | apply swp_regD | apply swp_block | apply swp_exit | apply swp_ret | apply swp_skip | apply swp_cd
    | simp only [go_sem, seval, P6, q6, tp]
    | simp (disch := omega) only [w64, w32, wu8, wu16, wu32, wu64]
    | ((with_reducible refine o_call (c0) ?he ?hc ?_); (case he | hc => first | rfl | (simp [D.erL, D.er, D.closedL, D.closed, hclr, herr, hlr, u1, u2]; done)))
    | ((with_reducible refine o_call (c1) ?he ?hc ?_); (case he | hc => first | rfl | (simp [D.erL, D.er, D.closedL, D.closed, hclr, herr, hlr, u1, u2]; done)))
    | ((with_reducible refine o_call (k1) ?he ?hc ?_); (case he | hc => first | rfl | (simp [D.erL, D.er, D.closedL, D.closed, hclr, herr, hlr, u1, u2]; done)))
    | ((with_reducible refine o_call (k3) ?he ?hc ?_); (case he | hc => first | rfl | (simp [D.erL, D.er, D.closedL, D.closed, hclr, herr, hlr, u1, u2]; done)))
    | ((with_reducible refine o_call (k5) ?he ?hc ?_); (case he | hc => first | rfl | (simp [D.erL, D.er, D.closedL, D.closed, hclr, herr, hlr, u1, u2]; done)))
    | with_reducible first | apply cd_dec | apply cd_eq | apply cd_ne | apply cd_split | apply gd_dec | apply gd_eq | apply gd_ne | apply gd_split
    | ((with_reducible refine And.intro ?hw ?_); (case hw => first | omega | rfl | exact ⟨_, _, rfl⟩ | assumption | (simp only [lN, hclr, herr, hlr, u1, u2] <;> omega)))
    | with_reducible intro _)
    all_goals first | omega | skip
    refine swp_fam [0, 1, 3, 4, 5, 7, 8] (fun i : Nat => ⟨[rpsD l, .str part, .undef, .bool true, .slice (compsD (compsL L)) .no, .slice (ints (atL L)) .no, .undef, .slice (ints G) .no, .int .i64 i, .undef, .undef, .undef, .undef, .undef, .undef, .undef, .undef, .undef, .undef, .undef], [], ⟨[], []⟩⟩)
      (fun i => i ≤ l.length ∧ ∀ j (h : j < i) (g : j < l.length), part ∉ namesR l[j]) (fun i => l.length - i) 0 ⟨by omega, fun j h => by omega⟩ ?_ ?_
    · simp [keepE, St.keep]
    · rintro i ⟨hi, hno⟩
      by_cases hil : i < l.length
      · have t0 : decide (((i : Nat) : Int) < l.length) = true := by simp; omega
        have hg := rp_get hil
        have n1 := names_p l[i] (hs _ (List.getElem_mem _))
        rw [show rpD l[i] = .agg [.slice (l[i].opts.map evD) .no, .bool l[i].doubt] from rfl] at n1
        have hn8 := namesR_len (r := l[i])
        have n2 := in_p (namesR l[i]) part (by omega)
        have v1 := cl_strs (namesR l[i])
        have v2 := er_strs (namesR l[i])
        cases hc : (namesR l[i]).contains part
        · rw [hc] at n2
          repeat' (first
    | with_reducible first | apply swp_seq | apply swp_reg | apply swp_regD | apply swp_block | apply swp_exit | apply swp_ret | apply swp_skip | apply swp_cd
    | simp only [go_sem, seval, P6, q6, hlr, hg, t0]
    | simp (disch := omega) only [w64, w32, wu8, wu16, wu32, wu64]
    | ((with_reducible refine o_call (n1) ?he ?hc ?_); (case he | hc => first | rfl | (simp [D.erL, D.er, D.closedL, D.closed, hlr, hg, v1, v2]; done)))
    | ((with_reducible refine o_call (n2) ?he ?hc ?_); (case he | hc => first | rfl | (simp [D.erL, D.er, D.closedL, D.closed, hlr, hg, v1, v2]; done)))
    | with_reducible first | apply cd_dec | apply cd_eq | apply cd_ne | apply cd_split | apply gd_dec | apply gd_eq | apply gd_ne | apply gd_split
    | ((with_reducible refine And.intro ?hw ?_); (case hw => first | omega | rfl | exact ⟨_, _, rfl⟩ | assumption | (simp only [lN, hlr, hg, v1, v2] <;> omega)))
    | with_reducible intro _)
          all_goals first | omega | skip
          refine ⟨i + 1, ⟨by omega, fun j h g => ?_⟩, by omega, by simp [keepE, St.keep]⟩
          by_cases e : j = i
          · subst e
            intro q
            rw [← List.contains_iff_mem, hc] at q
            cases q
          · exact hno j (by omega) g
        · rw [hc] at n2
          have hin : part ∈ (namesL l).getD i [] := by rw [hnm i hil]; rw [List.contains_iff_mem] at hc; exact hc
          have hGm := hsome i hin
          have hca := comps_at hL (i := i) (by omega)
          rw [← hGm] at hca
          have hcn := cno_lt hL (i := i) (by omega)
          have hr40 : (roots L).length ≤ L.length := by unfold roots; refine Nat.le_trans (List.length_filter_le _ _) ?_; simp
          have gat := ints_get (F := atL L) (i := i) (by rw [atL_len]; omega)
          rw [atL_lb (by omega)] at gat
          have hti : (((cno L i + 1 : Nat) : Int) - 1).toNat = cno L i := by omega
          have gco := compsD_get (C := compsL L) (i := cno L i) (by rw [comps_len]; exact hcn)
          rw [hca] at gco
          have hGle : G.length ≤ 40 ∧ ∀ x ∈ G, x < l.length := by
            rw [hGm]
            refine ⟨?_, fun x hx => by have := (mem_mem.1 hx).1; omega⟩
            have : (mem L (lb L i)).length ≤ L.length := by unfold mem; refine Nat.le_trans (List.length_filter_le _ _) ?_; simp
            omega
          have gi := ints_p G G (by omega) (by omega)
          rw [beq_self_eq_true] at gi
          clear hsome hgl hnone hca hGm hno
          generalize cno L i = cx at *
          repeat' (first
    | with_reducible first | apply swp_seq | apply swp_reg | apply swp_regD | apply swp_block | apply swp_exit | apply swp_ret | apply swp_skip | apply swp_cd
    | simp only [go_sem, seval, P6, q6, hlr, hg, t0, gat, hti, gco, la, hcl]
    | simp (disch := omega) only [w64, w32, wu8, wu16, wu32, wu64]
    | ((with_reducible refine o_call (n1) ?he ?hc ?_); (case he | hc => first | rfl | (simp [D.erL, D.er, D.closedL, D.closed, hlr, hg, v1, v2, gat, hti, gco, la, hcl, ug, ug2]; done)))
    | ((with_reducible refine o_call (n2) ?he ?hc ?_); (case he | hc => first | rfl | (simp [D.erL, D.er, D.closedL, D.closed, hlr, hg, v1, v2, gat, hti, gco, la, hcl, ug, ug2]; done)))
    | ((with_reducible refine o_call (gi) ?he ?hc ?_); (case he | hc => first | rfl | (simp [D.erL, D.er, D.closedL, D.closed, hlr, hg, v1, v2, gat, hti, gco, la, hcl, ug, ug2]; done)))
    | with_reducible first | apply cd_dec | apply cd_eq | apply cd_ne | apply cd_split | apply gd_dec | apply gd_eq | apply gd_ne | apply gd_split
    | ((with_reducible refine And.intro ?hw ?_); (case hw => first | omega | rfl | exact ⟨_, _, rfl⟩ | assumption | (simp only [lN, hlr, hg, v1, v2, gat, hti, gco, la, hcl, ug, ug2] <;> omega)))
    | with_reducible intro _)
          all_goals first | omega | skip
          refine swp_fam [0, 3, 7, 9] (fun k : Nat => ⟨[rpsD l, .undef, .undef, .bool true, .undef, .undef, .undef, .slice (ints G) .no, .undef, .int .i64 k, .undef, .undef, .undef, .undef, .undef, .undef, .undef, .undef, .undef, .undef], [], ⟨[], []⟩⟩) (fun k => k ≤ G.length) (fun k => G.length - k) 0 (by omega) ?_ ?_
          · simp [keepE, St.keep]
          · intro k hk
            by_cases hkl : k < G.length
            · have t1 : decide (((k : Nat) : Int) < G.length) = true := by simp; omega
              have gk := ints_getD hkl
              have hx := hGle.2 _ (List.getElem_mem hkl)
              have hgx := rp_get hx
              have m1 := names_p l[G[k]] (hs _ (List.getElem_mem _))
              rw [show rpD l[G[k]] = .agg [.slice (l[G[k]].opts.map evD) .no, .bool l[G[k]].doubt] from rfl] at m1
              have hm8 := namesR_len (r := l[G[k]])
              have hsm := fun t (ht : t ∈ namesR l[G[k]]) => hsame t G[k] (List.getElem_mem hkl) (by rw [hnm _ hx]; exact ht)
              generalize namesR l[G[k]] = N at *
              have ln := strs_len N
              repeat' (first
    | with_reducible first | apply swp_seq | apply swp_reg | apply swp_regD | apply swp_block | apply swp_exit | apply swp_ret | apply swp_skip | apply swp_cd
    | simp only [go_sem, seval, P6, q6, hlr, gk, hgx, t1, lg]
    | simp (disch := omega) only [w64, w32, wu8, wu16, wu32, wu64]
    | ((with_reducible refine o_call (m1) ?he ?hc ?_); (case he | hc => first | rfl | (simp [D.erL, D.er, D.closedL, D.closed, hlr, gk, hgx, lg]; done)))
    | with_reducible first | apply cd_dec | apply cd_eq | apply cd_ne | apply cd_split | apply gd_dec | apply gd_eq | apply gd_ne | apply gd_split
    | ((with_reducible refine And.intro ?hw ?_); (case hw => first | omega | rfl | exact ⟨_, _, rfl⟩ | assumption | (simp only [lN, hlr, gk, hgx, lg] <;> omega)))
    | with_reducible intro _)
              all_goals first | omega | skip
              refine swp_fam [0, 3, 7, 9, 10, 11] (fun j : Nat => ⟨[rpsD l, .undef, .undef, .bool true, .undef, .undef, .undef, .slice (ints G) .no, .undef, .int .i64 k, .slice (strs N) .no, .int .i64 j, .undef, .undef, .undef, .undef, .undef, .undef, .undef, .undef], [], ⟨[], []⟩⟩) (fun j => j ≤ N.length) (fun j => N.length - j) 0 (by omega) ?_ ?_
              · simp [keepE, St.keep]
              · intro j hj
                by_cases hjl : j < N.length
                · have t2 : decide (((j : Nat) : Int) < N.length) = true := by simp; omega
                  have gj := strs_get hjl
                  have o1 := k4 N[j]
                  rw [hsm _ (List.getElem_mem hjl)] at o1
                  repeat' (first
    | with_reducible first | apply swp_seq | apply swp_reg | apply swp_regD | apply swp_block | apply swp_exit | apply swp_ret | apply swp_skip | apply swp_cd
    | simp only [go_sem, seval, P6, q6, ln, gj, t2]
    | simp (disch := omega) only [w64, w32, wu8, wu16, wu32, wu64]
    | ((with_reducible refine o_call (o1) ?he ?hc ?_); (case he | hc => first | rfl | (simp [D.erL, D.er, D.closedL, D.closed, hclr, herr, ln, gj, ug, ug2]; done)))
    | ((with_reducible refine o_call (gi) ?he ?hc ?_); (case he | hc => first | rfl | (simp [D.erL, D.er, D.closedL, D.closed, hclr, herr, ln, gj, ug, ug2]; done)))
    | with_reducible first | apply cd_dec | apply cd_eq | apply cd_ne | apply cd_split | apply gd_dec | apply gd_eq | apply gd_ne | apply gd_split
    | ((with_reducible refine And.intro ?hw ?_); (case hw => first | omega | rfl | exact ⟨_, _, rfl⟩ | assumption | (simp only [lN, hclr, herr, ln, gj, ug, ug2] <;> omega)))
    | with_reducible intro _)
                  all_goals first | omega | skip
                  exact ⟨j + 1, by omega, by omega, by simp [keepE, St.keep]⟩
                · have t2 : decide (((j : Nat) : Int) < N.length) = false := by simp; omega
                  repeat' (first
    | with_reducible first | apply swp_seq | apply swp_reg | apply swp_regD | apply swp_block | apply swp_exit | apply swp_ret | apply swp_skip | apply swp_cd
    | simp only [go_sem, seval, P6, q6, ln, t2]
    | simp (disch := omega) only [w64, w32, wu8, wu16, wu32, wu64]
    | with_reducible first | apply cd_dec | apply cd_eq | apply cd_ne | apply cd_split | apply gd_dec | apply gd_eq | apply gd_ne | apply gd_split
    | ((with_reducible refine And.intro ?hw ?_); (case hw => first | omega | rfl | exact ⟨_, _, rfl⟩ | assumption | (simp only [lN, ln] <;> omega)))
    | with_reducible intro _)
                  all_goals first | omega | skip
                  exact ⟨k + 1, by omega, by omega, by simp [keepE, St.keep]⟩
            · have t1 : decide (((k : Nat) : Int) < G.length) = false := by simp; omega
              repeat' (first
    | with_reducible first | apply swp_seq | apply swp_reg | apply swp_regD | apply swp_block | apply swp_exit | apply swp_ret | apply swp_skip | apply swp_cd
    | simp only [go_sem, seval, P6, q6, t1, lg]
    | simp (disch := omega) only [w64, w32, wu8, wu16, wu32, wu64]
    | with_reducible first | apply cd_dec | apply cd_eq | apply cd_ne | apply cd_split | apply gd_dec | apply gd_eq | apply gd_ne | apply gd_split
    | ((with_reducible refine And.intro ?hw ?_); (case hw => first | omega | rfl | exact ⟨_, _, rfl⟩ | assumption | (simp only [lN, lg] <;> omega)))
    | with_reducible intro _)
              all_goals first | omega | simp [D.closed, D.er]
      · have t0 : decide (((i : Nat) : Int) < l.length) = false := by simp; omega
        have hG0 : G = [] := hnone fun j hj => by
          rcases Nat.lt_or_ge j l.length with q | q
          · rw [hnm j q] at hj; exact hno j (by omega) q hj
          · simp [List.getD, List.getElem?_eq_none (show (namesL l).length ≤ j by omega)] at hj
        subst hG0
        repeat' (first
    | with_reducible first | apply swp_seq | apply swp_reg | apply swp_regD | apply swp_block | apply swp_exit | apply swp_ret | apply swp_skip | apply swp_cd
    | simp only [go_sem, seval, P6, q6, hlr, t0, ints]
    | simp (disch := omega) only [w64, w32, wu8, wu16, wu32, wu64]
    | with_reducible first | apply cd_dec | apply cd_eq | apply cd_ne | apply cd_split | apply gd_dec | apply gd_eq | apply gd_ne | apply gd_split
    | ((with_reducible refine And.intro ?hw ?_); (case hw => first | omega | rfl | exact ⟨_, _, rfl⟩ | assumption | (simp only [lN, hlr] <;> omega)))
    | with_reducible intro _)
        all_goals first | omega | simp [D.closed, D.er]
end Go.Proofs.Ytofnggfpegcllaa
end
section
set_option maxRecDepth 100000
set_option linter.unusedSimpArgs false
set_option linter.unusedVariables false
namespace Go.Proofs.Ytofnggfpegcllaa
open Go GoV Go.RowKit
def valP (R : List (List Nm)) (s : Nm) : Nat := cno (labs R) ((look (lnk R R.length).2 s).getD 0) + 1
theorem valP_eq {R : List (List Nm)} {s : Nm} {i : Nat} (h : s ∈ R.getD i []) : lb (atL (labs R)) i = valP R s := by
  have hi := (sh_lt (R := R) (i := i) (k := i) ⟨s, h, h⟩).1
  have hl := labs_len R
  rw [atL_lb (by omega)]
  unfold valP
  rcases labs_first R (s := s) with ⟨k, e, hk, hks⟩ | ⟨_, q⟩
  · rw [e]
    have : cno (labs R) i = cno (labs R) k := (cno_iff (labs_lo R) (by omega) (by omega)).2 ((labs_iff R hi hk).2 (.base ⟨s, h, hks⟩))
    rw [this]; rfl
  · exact absurd h (q i)
def dvE (R : List (List Nm)) (K : List Nm) : List (D × D × Nat) := entG D.str (fun s => .int .i64 (valP R s : Nat)) K 0
theorem dvE_ok (R : List (List Nm)) (K : List Nm) : ((dvE R K).all fun e => keyOk .str e.1) = true := entG_ok keyStr _ _
theorem upd_same {α β : Type} [DecidableEq α] (f : α → β) (n : α) : upd f n (f n) = f := by
  funext m; unfold upd; split
  · rename_i h; rw [h]
  · rfl
theorem dvE_put (R : List (List Nm)) {K : List Nm} (hK : K.Nodup) (s : Nm) : ∃ K' : List Nm, K'.Nodup ∧ putM (dvE R K) K.length (.str s) (.int .i64 (valP R s : Nat)) = .map (dvE R K') K'.length := by
  by_cases h : s ∈ K
  · refine ⟨K, hK, ?_⟩
    have := entG_put (vf := fun s => .int .i64 (valP R s : Nat)) keyStr (.int .i64 (valP R s : Nat)) h hK
    rw [upd_same (fun s => D.int .i64 (valP R s : Nat)) s] at this
    exact this
  · refine ⟨K ++ [s], List.nodup_append.2 ⟨hK, by simp, fun a ha b hb => by simp at hb; subst hb; exact fun q => h (q ▸ ha)⟩, ?_⟩
    have := entG_new (vf := fun s => .int .i64 (valP R s : Nat)) keyStr (.int .i64 (valP R s : Nat)) h
    rw [upd_same (fun s => D.int .i64 (valP R s : Nat)) s] at this
    rw [List.length_append]
    exact this
theorem dvE_find (R : List (List Nm)) (K : List Nm) (s : Nm) : findM (.str s) (dvE R K) 0 = none ∨ ∃ j, findM (.str s) (dvE R K) 0 = some (j, .int .i64 (valP R s : Nat)) := by
  by_cases h : s ∈ K
  · exact .inr (entG_some (vf := fun s => .int .i64 (valP R s : Nat)) keyStr h)
  · exact .inl (entG_none keyStr h)
set_option maxHeartbeats 4000000 in
theorem l4_p (l : List Rp) : Pur M 4 [rpsD l] (.bool true) := by
  have c0 := head_p
  have c1 := few_p l
  have hlr : (l.map rpD).length = l.length := by simp
  have hclr := closedL_R l
  have herr := erL_R l
  refine ok4 rfl ?_
  rw [i4]
  unfold c4
  cases hf : few13 l 40
  · rw [hf] at c1
    repeat' (first
    | with_reducible first | apply swp_seq | apply swp_reg | apply swp_regD | apply swp_block | apply swp_exit | apply swp_ret | apply swp_skip | apply swp_cd
    | simp only [go_sem, seval, P4, q4, o_newM]
    | simp (disch := omega) only [w64, w32, wu8, wu16, wu32, wu64]
    | ((with_reducible refine o_call (c0) ?he ?hc ?_); (case he | hc => first | rfl | (simp [D.erL, D.er, D.closedL, D.closed, hclr, herr]; done)))
    | ((with_reducible refine o_call (c1) ?he ?hc ?_); (case he | hc => first | rfl | (simp [D.erL, D.er, D.closedL, D.closed, hclr, herr]; done)))
    | ((with_reducible apply s_mpu); (case h1 | hk => rfl); (case ha | hp => first | rfl | assumption | omega | ((first | refine ⟨?_, ?_⟩ | skip) <;> first | omega | (simp only [lN, hclr, herr] <;> omega)) | (simp [elemsK, D.isVal, D.cells, D.closedL, D.closed, hclr, herr]; first | done | omega)))
    | ((with_reducible first | apply s_lkpS | apply t_lkpS); (case h1 | hk => rfl); (case ha | hf => first | rfl | assumption | omega | ((first | refine ⟨?_, ?_⟩ | skip) <;> first | omega | (simp only [lN, hclr, herr] <;> omega)) | (simp [elemsK, D.isVal, D.cells, D.closedL, D.closed, hclr, herr]; first | done | omega)))
    | ((with_reducible first | apply s_lkpN | apply t_lkpN); (case h1 | hk => rfl); (case hf | ha => first | rfl | assumption | omega | ((first | refine ⟨?_, ?_⟩ | skip) <;> first | omega | (simp only [lN, hclr, herr] <;> omega)) | (simp [elemsK, D.isVal, D.cells, D.closedL, D.closed, hclr, herr]; first | done | omega)))
    | with_reducible first | apply cd_dec | apply cd_eq | apply cd_ne | apply cd_split | apply gd_dec | apply gd_eq | apply gd_ne | apply gd_split | apply gq_dec | apply gq_eq | apply gq_ne | apply gq_split
    | ((with_reducible refine And.intro ?hw ?_); (case hw => first | omega | rfl | exact ⟨_, _, rfl⟩ | assumption | (simp only [lN, hclr, herr] <;> omega)))
    | with_reducible intro _)
    all_goals first | omega | simp [D.closed, D.er]
  · rw [hf] at c1
    obtain ⟨h40, hs⟩ := few_small hf
    have hL := labs_lo (namesL l)
    have hln : (labs (namesL l)).length = l.length := by rw [labs_len, namesL_len]
    have k1 := components_p l (by omega) hs
    have hC1 : comps (namesL l) = compsL (labs (namesL l)) := rfl
    rw [hC1] at k1
    have k3 := at_p hL (by omega)
    rw [hln] at k3
    have hnm := fun i (h : i < l.length) => namesL_get h
    have hval := fun s i => valP_eq (R := namesL l) (s := s) (i := i)
    have hle := fun i (h : i < (labs (namesL l)).length) => cno_lt hL h
    have hr40 : (roots (labs (namesL l))).length ≤ (labs (namesL l)).length := by unfold roots; refine Nat.le_trans (List.length_filter_le _ _) ?_; simp
    generalize hR : namesL l = R at *
    generalize labs R = L at *
    have u1 := cl_comps (compsL L)
    have u2 := er_comps (compsL L)
    have la := ints_len (atL L)
    rw [atL_len, hln] at la
    repeat' (first
    | with_reducible first | apply swp_seq | apply swp_reg | apply swp_regD | apply swp_block | apply swp_exit | apply swp_ret | apply swp_skip | apply swp_cd
    | simp only [go_sem, seval, P4, q4, o_newM]
    | simp (disch := omega) only [w64, w32, wu8, wu16, wu32, wu64]
    | ((with_reducible refine o_call (c0) ?he ?hc ?_); (case he | hc => first | rfl | (simp [D.erL, D.er, D.closedL, D.closed, hclr, herr, hlr, u1, u2]; done)))
    | ((with_reducible refine o_call (c1) ?he ?hc ?_); (case he | hc => first | rfl | (simp [D.erL, D.er, D.closedL, D.closed, hclr, herr, hlr, u1, u2]; done)))
    | ((with_reducible refine o_call (k1) ?he ?hc ?_); (case he | hc => first | rfl | (simp [D.erL, D.er, D.closedL, D.closed, hclr, herr, hlr, u1, u2]; done)))
    | ((with_reducible refine o_call (k3) ?he ?hc ?_); (case he | hc => first | rfl | (simp [D.erL, D.er, D.closedL, D.closed, hclr, herr, hlr, u1, u2]; done)))
    | ((with_reducible apply s_mpu); (case h1 | hk => rfl); (case ha | hp => first | rfl | assumption | omega | ((first | refine ⟨?_, ?_⟩ | skip) <;> first | omega | (simp only [lN, hclr, herr, hlr, u1, u2] <;> omega)) | (simp [elemsK, D.isVal, D.cells, D.closedL, D.closed, hclr, herr, hlr, u1, u2]; first | done | omega)))
    | ((with_reducible first | apply s_lkpS | apply t_lkpS); (case h1 | hk => rfl); (case ha | hf => first | rfl | assumption | omega | ((first | refine ⟨?_, ?_⟩ | skip) <;> first | omega | (simp only [lN, hclr, herr, hlr, u1, u2] <;> omega)) | (simp [elemsK, D.isVal, D.cells, D.closedL, D.closed, hclr, herr, hlr, u1, u2]; first | done | omega)))
    | ((with_reducible first | apply s_lkpN | apply t_lkpN); (case h1 | hk => rfl); (case hf | ha => first | rfl | assumption | omega | ((first | refine ⟨?_, ?_⟩ | skip) <;> first | omega | (simp only [lN, hclr, herr, hlr, u1, u2] <;> omega)) | (simp [elemsK, D.isVal, D.cells, D.closedL, D.closed, hclr, herr, hlr, u1, u2]; first | done | omega)))
    | with_reducible first | apply cd_dec | apply cd_eq | apply cd_ne | apply cd_split | apply gd_dec | apply gd_eq | apply gd_ne | apply gd_split | apply gq_dec | apply gq_eq | apply gq_ne | apply gq_split
    | ((with_reducible refine And.intro ?hw ?_); (case hw => first | omega | rfl | exact ⟨_, _, rfl⟩ | assumption | (simp only [lN, hclr, herr, hlr, u1, u2] <;> omega)))
    | with_reducible intro _)
    all_goals first | omega | skip
    refine swp_fam [0, 2, 3, 5, 6] (fun p : Nat × List Nm => ⟨[rpsD l, .undef, .bool true, .slice (ints (atL L)) .no, .undef, .mp 0, .int .i64 p.1, .undef, .undef, .undef, .undef, .undef, .undef, .undef], [], ⟨[.map (dvE R p.2) p.2.length], []⟩⟩)
      (fun p => p.1 ≤ l.length ∧ p.2.Nodup) (fun p => l.length - p.1) (0, []) ⟨by simp only; omega, List.nodup_nil⟩ ?_ ?_
    · simp [keepE, St.keep, dvE, entG]
    · rintro ⟨i, K0⟩ ⟨hi, hK0⟩
      simp only at hi hK0 ⊢
      by_cases hil : i < l.length
      · have t0 : decide (((i : Nat) : Int) < l.length) = true := by simp; omega
        have hg := rp_get hil
        have n1 := names_p l[i] (hs _ (List.getElem_mem _))
        rw [show rpD l[i] = .agg [.slice (l[i].opts.map evD) .no, .bool l[i].doubt] from rfl] at n1
        have hn8 := namesR_len (r := l[i])
        have hv := fun s (h : s ∈ namesR l[i]) => hval s i (by rw [hnm i hil]; exact h)
        generalize namesR l[i] = N at *
        have ln := strs_len N
        have gat := ints_get (F := atL L) (i := i) (by rw [atL_len]; omega)
        have hpos : 0 < lb (atL L) i := by rw [atL_lb (by omega)]; omega
        generalize lb (atL L) i = x at *
        repeat' (first
    | with_reducible first | apply swp_seq | apply swp_reg | apply swp_regD | apply swp_block | apply swp_exit | apply swp_ret | apply swp_skip | apply swp_cd
    | simp only [go_sem, seval, P4, q4, hlr, hg, t0, o_newM]
    | simp (disch := omega) only [w64, w32, wu8, wu16, wu32, wu64]
    | ((with_reducible refine o_call (n1) ?he ?hc ?_); (case he | hc => first | rfl | (simp [D.erL, D.er, D.closedL, D.closed, hlr, hg]; done)))
    | ((with_reducible apply s_mpu); (case h1 | hk => rfl); (case ha | hp => first | rfl | assumption | omega | ((first | refine ⟨?_, ?_⟩ | skip) <;> first | omega | (simp only [lN, hlr, hg] <;> omega)) | (simp [elemsK, D.isVal, D.cells, D.closedL, D.closed, hlr, hg]; first | done | omega)))
    | ((with_reducible first | apply s_lkpS | apply t_lkpS); (case h1 | hk => rfl); (case ha | hf => first | rfl | assumption | omega | ((first | refine ⟨?_, ?_⟩ | skip) <;> first | omega | (simp only [lN, hlr, hg] <;> omega)) | (simp [elemsK, D.isVal, D.cells, D.closedL, D.closed, hlr, hg]; first | done | omega)))
    | ((with_reducible first | apply s_lkpN | apply t_lkpN); (case h1 | hk => rfl); (case hf | ha => first | rfl | assumption | omega | ((first | refine ⟨?_, ?_⟩ | skip) <;> first | omega | (simp only [lN, hlr, hg] <;> omega)) | (simp [elemsK, D.isVal, D.cells, D.closedL, D.closed, hlr, hg]; first | done | omega)))
    | with_reducible first | apply cd_dec | apply cd_eq | apply cd_ne | apply cd_split | apply gd_dec | apply gd_eq | apply gd_ne | apply gd_split | apply gq_dec | apply gq_eq | apply gq_ne | apply gq_split
    | ((with_reducible refine And.intro ?hw ?_); (case hw => first | omega | rfl | exact ⟨_, _, rfl⟩ | assumption | (simp only [lN, hlr, hg] <;> omega)))
    | with_reducible intro _)
        all_goals first | omega | skip
        refine swp_fam [0, 2, 3, 5, 6, 7, 8] (fun p : Nat × List Nm => ⟨[rpsD l, .undef, .bool true, .slice (ints (atL L)) .no, .undef, .mp 0, .int .i64 i, .slice (strs N) .no, .int .i64 p.1, .undef, .undef, .undef, .undef, .undef], [], ⟨[.map (dvE R p.2) p.2.length], []⟩⟩)
          (fun p => p.1 ≤ N.length ∧ p.2.Nodup) (fun p => N.length - p.1) (0, K0) ⟨by simp only; omega, hK0⟩ ?_ ?_
        · simp [keepE, St.keep]
        · rintro ⟨j, K⟩ ⟨hj, hK⟩
          simp only at hj hK ⊢
          by_cases hjl : j < N.length
          · have t2 : decide (((j : Nat) : Int) < N.length) = true := by simp; omega
            have gj := strs_get hjl
            have hvx := hv _ (List.getElem_mem hjl)
            obtain ⟨K', hK', hp⟩ := dvE_put R hK N[j]
            rw [← hvx] at hp
            have hok := dvE_ok R K
            have hne : (((x : Nat) : Int) != (x : Nat)) = false := by simp
            have hx0 : (((x : Nat) : Int) != 0) = true := by rw [bne_iff_ne]; omega
            rcases dvE_find R K N[j] with hf | ⟨q, hf⟩
            · generalize dvE R K = E at *
              repeat' (first
    | with_reducible first | apply swp_seq | apply swp_reg | apply swp_regD | apply swp_block | apply swp_exit | apply swp_ret | apply swp_skip | apply swp_cd
    | simp only [go_sem, seval, P4, q4, ln, gj, t2, gat, la, o_newM]
    | simp (disch := omega) only [w64, w32, wu8, wu16, wu32, wu64]
    | ((with_reducible apply s_mpu); (case h1 | hk => rfl); (case ha | hp => first | rfl | assumption | omega | ((first | refine ⟨?_, ?_⟩ | skip) <;> first | omega | (simp only [lN, ln, gj, gat, la] <;> omega)) | (simp [elemsK, D.isVal, D.cells, D.closedL, D.closed, ln, gj, gat, la]; first | done | omega)))
    | ((with_reducible first | apply s_lkpS | apply t_lkpS); (case h1 | hk => rfl); (case ha | hf => first | rfl | assumption | omega | ((first | refine ⟨?_, ?_⟩ | skip) <;> first | omega | (simp only [lN, ln, gj, gat, la] <;> omega)) | (simp [elemsK, D.isVal, D.cells, D.closedL, D.closed, ln, gj, gat, la]; first | done | omega)))
    | ((with_reducible first | apply s_lkpN | apply t_lkpN); (case h1 | hk => rfl); (case hf | ha => first | rfl | assumption | omega | ((first | refine ⟨?_, ?_⟩ | skip) <;> first | omega | (simp only [lN, ln, gj, gat, la] <;> omega)) | (simp [elemsK, D.isVal, D.cells, D.closedL, D.closed, ln, gj, gat, la]; first | done | omega)))
    | with_reducible first | apply cd_dec | apply cd_eq | apply cd_ne | apply cd_split | apply gd_dec | apply gd_eq | apply gd_ne | apply gd_split | apply gq_dec | apply gq_eq | apply gq_ne | apply gq_split
    | ((with_reducible refine And.intro ?hw ?_); (case hw => first | omega | rfl | exact ⟨_, _, rfl⟩ | assumption | (simp only [lN, ln, gj, gat, la] <;> omega)))
    | with_reducible intro _)
              all_goals first | omega | skip
              refine ⟨(j + 1, K'), ⟨by simp only; omega, hK'⟩, by simp only; omega, ?_⟩
              simp [keepE, St.keep, hp]
            · rw [← hvx] at hf
              generalize dvE R K = E at *
              repeat' (first
    | with_reducible first | apply swp_seq | apply swp_reg | apply swp_regD | apply swp_block | apply swp_exit | apply swp_ret | apply swp_skip | apply swp_cd
    | simp only [go_sem, seval, P4, q4, ln, gj, t2, gat, la, hne, hx0, o_newM]
    | simp (disch := omega) only [w64, w32, wu8, wu16, wu32, wu64]
    | ((with_reducible apply s_mpu); (case h1 | hk => rfl); (case ha | hp => first | rfl | assumption | omega | ((first | refine ⟨?_, ?_⟩ | skip) <;> first | omega | (simp only [lN, ln, gj, gat, la] <;> omega)) | (simp [elemsK, D.isVal, D.cells, D.closedL, D.closed, ln, gj, gat, la]; first | done | omega)))
    | ((with_reducible first | apply s_lkpS | apply t_lkpS); (case h1 | hk => rfl); (case ha | hf => first | rfl | assumption | omega | ((first | refine ⟨?_, ?_⟩ | skip) <;> first | omega | (simp only [lN, ln, gj, gat, la] <;> omega)) | (simp [elemsK, D.isVal, D.cells, D.closedL, D.closed, ln, gj, gat, la]; first | done | omega)))
    | ((with_reducible first | apply s_lkpN | apply t_lkpN); (case h1 | hk => rfl); (case hf | ha => first | rfl | assumption | omega | ((first | refine ⟨?_, ?_⟩ | skip) <;> first | omega | (simp only [lN, ln, gj, gat, la] <;> omega)) | (simp [elemsK, D.isVal, D.cells, D.closedL, D.closed, ln, gj, gat, la]; first | done | omega)))
    | with_reducible first | apply cd_dec | apply cd_eq | apply cd_ne | apply cd_split | apply gd_dec | apply gd_eq | apply gd_ne | apply gd_split | apply gq_dec | apply gq_eq | apply gq_ne | apply gq_split
    | ((with_reducible refine And.intro ?hw ?_); (case hw => first | omega | rfl | exact ⟨_, _, rfl⟩ | assumption | (simp only [lN, ln, gj, gat, la] <;> omega)))
    | with_reducible intro _)
              all_goals first | omega | skip
              refine ⟨(j + 1, K'), ⟨by simp only; omega, hK'⟩, by simp only; omega, ?_⟩
              simp [keepE, St.keep, hp]
          · have t2 : decide (((j : Nat) : Int) < N.length) = false := by simp; omega
            repeat' (first
    | with_reducible first | apply swp_seq | apply swp_reg | apply swp_regD | apply swp_block | apply swp_exit | apply swp_ret | apply swp_skip | apply swp_cd
    | simp only [go_sem, seval, P4, q4, ln, t2, o_newM]
    | simp (disch := omega) only [w64, w32, wu8, wu16, wu32, wu64]
    | ((with_reducible apply s_mpu); (case h1 | hk => rfl); (case ha | hp => first | rfl | assumption | omega | ((first | refine ⟨?_, ?_⟩ | skip) <;> first | omega | (simp only [lN, ln] <;> omega)) | (simp [elemsK, D.isVal, D.cells, D.closedL, D.closed, ln]; first | done | omega)))
    | ((with_reducible first | apply s_lkpS | apply t_lkpS); (case h1 | hk => rfl); (case ha | hf => first | rfl | assumption | omega | ((first | refine ⟨?_, ?_⟩ | skip) <;> first | omega | (simp only [lN, ln] <;> omega)) | (simp [elemsK, D.isVal, D.cells, D.closedL, D.closed, ln]; first | done | omega)))
    | ((with_reducible first | apply s_lkpN | apply t_lkpN); (case h1 | hk => rfl); (case hf | ha => first | rfl | assumption | omega | ((first | refine ⟨?_, ?_⟩ | skip) <;> first | omega | (simp only [lN, ln] <;> omega)) | (simp [elemsK, D.isVal, D.cells, D.closedL, D.closed, ln]; first | done | omega)))
    | with_reducible first | apply cd_dec | apply cd_eq | apply cd_ne | apply cd_split | apply gd_dec | apply gd_eq | apply gd_ne | apply gd_split | apply gq_dec | apply gq_eq | apply gq_ne | apply gq_split
    | ((with_reducible refine And.intro ?hw ?_); (case hw => first | omega | rfl | exact ⟨_, _, rfl⟩ | assumption | (simp only [lN, ln] <;> omega)))
    | with_reducible intro _)
            all_goals first | omega | skip
            exact ⟨(i + 1, K), ⟨by simp only; omega, hK⟩, by simp only; omega, by simp [keepE, St.keep]⟩
      · have t0 : decide (((i : Nat) : Int) < l.length) = false := by simp; omega
        repeat' (first
    | with_reducible first | apply swp_seq | apply swp_reg | apply swp_regD | apply swp_block | apply swp_exit | apply swp_ret | apply swp_skip | apply swp_cd
    | simp only [go_sem, seval, P4, q4, hlr, t0, o_newM]
    | simp (disch := omega) only [w64, w32, wu8, wu16, wu32, wu64]
    | ((with_reducible apply s_mpu); (case h1 | hk => rfl); (case ha | hp => first | rfl | assumption | omega | ((first | refine ⟨?_, ?_⟩ | skip) <;> first | omega | (simp only [lN, hlr] <;> omega)) | (simp [elemsK, D.isVal, D.cells, D.closedL, D.closed, hlr]; first | done | omega)))
    | ((with_reducible first | apply s_lkpS | apply t_lkpS); (case h1 | hk => rfl); (case ha | hf => first | rfl | assumption | omega | ((first | refine ⟨?_, ?_⟩ | skip) <;> first | omega | (simp only [lN, hlr] <;> omega)) | (simp [elemsK, D.isVal, D.cells, D.closedL, D.closed, hlr]; first | done | omega)))
    | ((with_reducible first | apply s_lkpN | apply t_lkpN); (case h1 | hk => rfl); (case hf | ha => first | rfl | assumption | omega | ((first | refine ⟨?_, ?_⟩ | skip) <;> first | omega | (simp only [lN, hlr] <;> omega)) | (simp [elemsK, D.isVal, D.cells, D.closedL, D.closed, hlr]; first | done | omega)))
    | with_reducible first | apply cd_dec | apply cd_eq | apply cd_ne | apply cd_split | apply gd_dec | apply gd_eq | apply gd_ne | apply gd_split | apply gq_dec | apply gq_eq | apply gq_ne | apply gq_split
    | ((with_reducible refine And.intro ?hw ?_); (case hw => first | omega | rfl | exact ⟨_, _, rfl⟩ | assumption | (simp only [lN, hlr] <;> omega)))
    | with_reducible intro _)
        all_goals first | omega | simp [D.closed, D.er]
end Go.Proofs.Ytofnggfpegcllaa
end
section
set_option linter.unusedVariables false
namespace Go.Proofs.Ytofnggfpegcllaa
open Go GoV
theorem divides_c (l : List Rp) : Pur M 4 [rpsD l] (.bool true) := l4_p l
theorem turns_c (l : List Rp) : Pur M 7 [rpsD l] (.bool true) := l7_p l
theorem of_c (l : List Rp) (part : Nm) : Pur M 6 [rpsD l, .str part] (.bool true) := l6_p l part
theorem doubts_c (l : List Rp) : Pur M 9 [rpsD l] (.bool true) := l9_p l
end Go.Proofs.Ytofnggfpegcllaa
end
