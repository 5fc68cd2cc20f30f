/- Own texts, merged by a program: the engine that walks the code, and what the functions that the law reaches compute. -/
import Derived.Test.YtofnggfpegcllaaQe4
import Derived.SizedLaws
section
set_option maxRecDepth 100000
set_option linter.unusedSimpArgs false
set_option linter.unusedVariables false
namespace Go.Proofs.Ytofnggfpegcllaa
open Go GoV Go.RowKit
def ints (F : List Nat) : List D := F.map fun n => .int .i64 (n : Nat)
theorem ints_len (F : List Nat) : (ints F).length = F.length := by simp [ints]
theorem ints_get {F : List Nat} {i : Nat} (h : i < F.length) : (ints F).getD i .undef = .int .i64 (lb F i : Nat) := by simp [ints, List.getD, h]
theorem ints_set {F : List Nat} {i x : Nat} : (ints F).set i (.int .i64 (x : Nat)) = ints (F.set i x) := by simp [ints, List.map_set]
set_option maxHeartbeats 1000000 in
theorem root_e {F L : List Nat} (hL : Lo L) (h : Fo F L) (hN : L.length < 1000000) {i : Nat} (hi : i < L.length) :
    Eff M 27 [.gs 0 F.length, .int .i64 (i : Nat)] ⟨[], [.chg 1 (ints F)]⟩ fun d hp => d = .int .i64 ((rt F i).2 : Nat) ∧ hp = ⟨[], [.chg 1 (ints (rt F i).1)]⟩ := by
  refine oe27 0 1 rfl rfl rfl ?_
  rw [ie27]
  unfold c27
  repeat' (first
    | with_reducible first | apply swp_seq | apply swp_reg | apply swp_regD | apply swp_block | apply swp_exit | apply swp_ret | apply swp_skip | apply swp_cd
    | simp only [go_sem, seval, pe27, q27]
    | with_reducible first | apply cd_dec | apply cd_eq | apply cd_ne | apply cd_split
    | ((with_reducible refine And.intro ?hw ?_); (case hw => first | omega | rfl | exact ⟨_, _, rfl⟩ | assumption | (simp only [lN] <;> omega)))
    | with_reducible intro _)
  refine swp_fam [0, 1] (fun p : List Nat × Nat => ⟨[.gs 0 F.length, .int .i64 (p.2 : Nat), .undef, .undef], [], ⟨[], [.chg 1 (ints p.1)]⟩⟩)
    (fun p => Fo p.1 L ∧ p.2 < L.length ∧ rt p.1 p.2 = rt F i) (fun p => p.2) (F, i) ⟨h, hi, rfl⟩ ?_ ?_
  · simp [keepE, St.keep]
  · rintro ⟨G, j⟩ ⟨hG, hj, hr⟩
    simp only at hG hj hr
    have hlF := h.len
    have hlG := hG.len
    have g1 := ints_get (F := G) (i := j) (by omega)
    have gl := ints_len G
    by_cases e : lb G j = j
    · rw [rt_end e] at hr
      have t0 : (((lb G j : Nat) : Int) != ((j : Nat) : Int)) = false := by rw [e]; simp
      repeat' (first
    | with_reducible first | apply swp_seq | apply swp_reg | apply swp_regD | apply swp_block | apply swp_exit | apply swp_ret | apply swp_skip | apply swp_cd
    | simp only [go_sem, seval, pe27, q27, Nat.mul_one, gl, g1, t0]
    | simp (disch := omega) only [w64, w32, wu8, wu16, wu32, wu64]
    | with_reducible first | apply cd_dec | apply cd_eq | apply cd_ne | apply cd_split
    | ((with_reducible refine And.intro ?hw ?_); (case hw => first | omega | rfl | exact ⟨_, _, rfl⟩ | assumption | (simp only [lN, gl] <;> omega)))
    | with_reducible intro _)
      all_goals try omega
      rw [← hr]
      exact ⟨_, weak_refl, rfl, rfl⟩
    · have l1 := hG.le j hj
      have l2 := hG.le (lb G j) (by omega)
      have g2 := ints_get (F := G) (i := lb G j) (by omega)
      have g3 := ints_get (F := halve G j) (i := j) (by rw [halve_len]; omega)
      have e3 : lb (halve G j) j = lb G (lb G j) := by unfold halve; rw [lb_set (by omega), if_pos rfl]
      rw [e3] at g3
      have gl3 := ints_len (halve G j)
      rw [halve_len] at gl3
      have hst : (ints G).set j (.int .i64 (lb G (lb G j) : Nat)) = ints (halve G j) := ints_set
      have t0 : (((lb G j : Nat) : Int) != ((j : Nat) : Int)) = true := by
        rw [bne_iff_ne]; omega
      have hgo := rt_go hL hG hj e
      have hH := fo_halve hG hj
      generalize lb G (lb G j) = x at *
      generalize lb G j = y at *
      generalize halve G j = G2 at *
      repeat' (first
    | with_reducible first | apply swp_seq | apply swp_reg | apply swp_regD | apply swp_block | apply swp_exit | apply swp_ret | apply swp_skip | apply swp_cd
    | simp only [go_sem, seval, pe27, q27, Nat.mul_one, gl, g1, g2, g3, gl3, hst, t0]
    | simp (disch := omega) only [w64, w32, wu8, wu16, wu32, wu64]
    | with_reducible first | apply cd_dec | apply cd_eq | apply cd_ne | apply cd_split
    | ((with_reducible refine And.intro ?hw ?_); (case hw => first | omega | rfl | exact ⟨_, _, rfl⟩ | assumption | (simp only [lN, gl, gl3] <;> omega)))
    | with_reducible intro _)
      all_goals try omega
      exact ⟨(G2, x), ⟨hH, by omega, by rw [← hgo]; exact hr⟩, by omega, by simp [keepE, St.keep]⟩
end Go.Proofs.Ytofnggfpegcllaa
end
section
set_option maxRecDepth 100000
set_option linter.unusedSimpArgs false
set_option linter.unusedVariables false
namespace Go.Proofs.Ytofnggfpegcllaa
open Go GoV Go.RowKit
theorem ints_rn (β τ : Nat → Option Nat) : ∀ F : List Nat, D.rnL β τ (ints F) = ints F
  | [] => rfl
  | x :: F => by
    have := ints_rn β τ F
    simp only [ints, List.map_cons, D.rnL, D.rn] at this ⊢
    rw [this]
set_option maxHeartbeats 1000000 in
theorem join_e {F L : List Nat} (hL : Lo L) (h : Fo F L) (hN : L.length < 1000000) {i k : Nat} (hi : i < L.length) (hk : k < L.length) :
    Eff M 40 [.gs 0 F.length, .int .i64 (i : Nat), .int .i64 (k : Nat)] ⟨[], [.chg 1 (ints F)]⟩ fun d hp => d = .tup [] ∧ hp = ⟨[], [.chg 1 (ints (joinF F i k))]⟩ := by
  have c1 := root_e hL h hN hi
  have f1 := rt_fo hL h hi
  have c2 := root_e hL f1 hN hk
  rw [rt_len] at c2
  have r1 := rt_root hL h hi
  have r2 := rt_root hL f1 hk
  have b1 := (hL i hi).1
  have b2 := (hL k hk).1
  have hl := h.len
  have hG : (rt (rt F i).1 k).1.length = F.length := by rw [rt_len, rt_len]
  have gl := ints_len (rt (rt F i).1 k).1
  have hrn := fun β τ => ints_rn β τ
  unfold joinF
  rw [r1] at c1
  rw [r2] at c2
  rw [r1, r2]
  generalize lb L i = x at *
  generalize lb L k = y at *
  generalize (rt (rt F i).1 k).1 = H at *
  generalize (rt F i).1 = G at *
  have hmx : (if ((y : Nat) : Int) > (x : Nat) then ((y : Nat) : Int) else (x : Nat)) = ((max x y : Nat) : Int) := by split <;> omega
  have hmn : (if ((y : Nat) : Int) < (x : Nat) then ((y : Nat) : Int) else (x : Nat)) = ((min x y : Nat) : Int) := by split <;> omega
  have hst : (ints H).set (max x y) (.int .i64 (min x y : Nat)) = ints (H.set (max x y) (min x y)) := ints_set
  have hm2 : max x y < F.length := by omega
  generalize max x y = mx at *
  generalize min x y = mn at *
  refine oe40 0 1 rfl rfl rfl ?_
  rw [ie40]
  unfold c40
  repeat' (first
    | with_reducible first | apply swp_seq | apply swp_reg | apply swp_regD | apply swp_block | apply swp_exit | apply swp_ret | apply swp_skip | apply swp_cd
    | simp only [go_sem, seval, pe40, q40, hrn, foldI, Nat.mul_one, hmx, hmn, hst]
    | simp (disch := omega) only [w64, w32, wu8, wu16, wu32, wu64]
    | ((with_reducible refine o_eff [] [0] (c1) ?hs ?he ?hh ?_); (case hs => exact ⟨by simp, by simp, by simp, by simp⟩); (case he => first | rfl | (simp [go_sem, seval, hrn, gl, hG]; done)); (case hh => first | rfl | (simp [go_sem, seval, hrn, gl, hG]; done)); rintro _ _ ⟨rfl, rfl⟩)
    | ((with_reducible refine o_eff [] [0] (c2) ?hs ?he ?hh ?_); (case hs => exact ⟨by simp, by simp, by simp, by simp⟩); (case he => first | rfl | (simp [go_sem, seval, hrn, gl, hG]; done)); (case hh => first | rfl | (simp [go_sem, seval, hrn, gl, hG]; done)); rintro _ _ ⟨rfl, rfl⟩)
    | with_reducible first | apply cd_dec | apply cd_eq | apply cd_ne | apply cd_split
    | ((with_reducible refine And.intro ?hw ?_); (case hw => first | omega | rfl | exact ⟨_, _, rfl⟩ | assumption | (simp only [lN, hrn, gl, hG] <;> omega)))
    | with_reducible intro _)
  all_goals first | omega | skip
  exact ⟨_, weak_refl, rfl⟩
def vF (F : List (Nm × Nat)) (s : Nm) : D := .int .i64 ((look F s).getD 0 : Nat)
def eF (F : List (Nm × Nat)) : List (D × D × Nat) := entG D.str (vF F) (F.map (·.1)) 0
theorem look_none {F : List (Nm × Nat)} {s : Nm} : look F s = none ↔ s ∉ F.map (·.1) := by
  unfold look
  rw [Option.map_eq_none_iff, List.find?_eq_none]
  simp only [List.mem_map, not_exists, not_and, beq_iff_eq]
theorem eF_none {F : List (Nm × Nat)} {s : Nm} (h : look F s = none) : findM (.str s) (eF F) 0 = none := entG_none keyStr (look_none.1 h)
theorem eF_some {F : List (Nm × Nat)} {s : Nm} {k : Nat} (h : look F s = some k) : ∃ j, findM (.str s) (eF F) 0 = some (j, .int .i64 (k : Nat)) := by
  have hm : s ∈ F.map (·.1) := by
    by_cases q : s ∈ F.map (·.1)
    · exact q
    · rw [look_none.2 q] at h; cases h
  obtain ⟨j, hj⟩ := entG_some (vf := vF F) keyStr hm
  refine ⟨j, ?_⟩
  unfold eF
  rw [hj]
  unfold vF
  rw [h]; rfl
theorem eF_put {F : List (Nm × Nat)} {s : Nm} {i : Nat} (h : look F s = none) : putM (eF F) F.length (.str s) (.int .i64 (i : Nat)) = .map (eF (F ++ [(s, i)])) (F ++ [(s, i)]).length := by
  have := entG_new (vf := vF F) keyStr (.int .i64 (i : Nat)) (look_none.1 h)
  rw [List.length_map] at this
  unfold eF
  rw [this]
  have hv : upd (vF F) s (.int .i64 (i : Nat)) = vF (F ++ [(s, i)]) := by
    funext t
    unfold upd vF
    rw [look_new h]
    split <;> rfl
  rw [hv, List.map_append, List.length_append]
  rfl
theorem eF_ok (F : List (Nm × Nat)) : ((eF F).all fun e => keyOk .str e.1) = true := entG_ok keyStr _ _
theorem eF_rn (β τ : Nat → Option Nat) (F : List (Nm × Nat)) : pairs β τ (eF F) = eF F := entG_rn keyStr (fun _ => rfl) _ _
def namesL (l : List Rp) : List (List Nm) := l.map namesR
theorem namesL_get {l : List Rp} {i : Nat} (h : i < l.length) : (namesL l).getD i [] = namesR l[i] := by simp [namesL, List.getD, h]
theorem namesL_len (l : List Rp) : (namesL l).length = l.length := by simp [namesL]
def Small (l : List Rp) : Prop := ∀ r ∈ l, ∀ e ∈ r.opts, e.sh = true
theorem namesR_len {r : Rp} : (namesR r).length ≤ 8 := by
  cases h : repOk r with
  | false => unfold namesR; rw [h]; simp
  | true => rw [namesR_at h]; exact atN_len (ok_len h).1 _
def midF (R : List (List Nm)) (i : Nat) (N : List Nm) : List Nat × List (Nm × Nat) := N.foldl (nameF i) ((lnkF R i).1 ++ [i], (lnkF R i).2)
def midL (R : List (List Nm)) (i : Nat) (N : List Nm) : List Nat × List (Nm × Nat) := N.foldl (nameStep i) ((lnk R i).1 ++ [i], (lnk R i).2)
theorem mid_fi (R : List (List Nm)) (i : Nat) (N : List Nm) (h : ∀ s ∈ N, s ∈ R.getD i []) : FI R i N (midF R i N) (midL R i N) (i + 1) := by
  have h1 := fi_lnk R i
  have hlen := h1.inv.len
  have h0 : Inv R i [] ((lnk R i).1 ++ [i], (lnk R i).2) (i + 1) := inv_push h1.inv
  have := fi_names N [] ((lnkF R i).1 ++ [i], (lnkF R i).2) ((lnk R i).1 ++ [i], (lnk R i).2) ⟨h0, by have := fo_push h1.fo h1.inv.lo; rw [hlen] at this; exact this, h1.snd⟩ h
  rw [List.nil_append] at this
  exact this
theorem midF_all (R : List (List Nm)) (i : Nat) : midF R i (R.getD i []) = lnkF R (i + 1) := rfl
theorem midF_snoc (R : List (List Nm)) (i : Nat) (N : List Nm) (s : Nm) : midF R i (N ++ [s]) = nameF i (midF R i N) s := by unfold midF; rw [List.foldl_append]; rfl
theorem ints_app (F G : List Nat) : ints (F ++ G) = ints F ++ ints G := by simp [ints]
set_option maxHeartbeats 2000000 in
theorem linked_e (l : List Rp) (hl : l.length ≤ 1000) (hs : Small l) :
    Eff M 26 [rpsD l] ⟨[], []⟩ fun d hp => d = .tup [.gs 0 l.length, .mp 0] ∧ hp = ⟨[.map (eF (lnkF (namesL l) l.length).2) (lnkF (namesL l) l.length).2.length], [.chg 1 (ints (lnkF (namesL l) l.length).1)]⟩ := by
  have hlen : (l.map rpD).length = l.length := by simp
  generalize hR : namesL l = R at *
  refine oe26 0 0 rfl rfl rfl ?_
  rw [ie26]
  unfold c26
  repeat' (first
    | with_reducible first | apply swp_seq | apply swp_reg | apply swp_regD | apply swp_block | apply swp_exit | apply swp_ret | apply swp_skip | apply swp_cd
    | simp only [go_sem, seval, pe26, q26, hlen, o_newM]
    | simp (disch := omega) only [w64, w32, wu8, wu16, wu32, wu64]
    | ((with_reducible apply s_appT); (case he => rfl); (case hK | hc | hr | hV => first | rfl | assumption | omega | ((first | refine ⟨?_, ?_⟩ | skip) <;> first | omega | (simp only [lN, hlen] <;> omega)) | (simp [elemsK, D.isVal, D.cells, D.closedL, D.closed, hlen]; first | done | omega)))
    | ((with_reducible apply s_appG); (case he => rfl); (case hV | hK | hr | hl => first | rfl | assumption | omega | ((first | refine ⟨?_, ?_⟩ | skip) <;> first | omega | (simp only [lN, hlen] <;> omega)) | (simp [elemsK, D.isVal, D.cells, D.closedL, D.closed, hlen]; first | done | omega)))
    | ((with_reducible apply s_app0); (case he => rfl); (case hK | hc | hr => first | rfl | assumption | omega | ((first | refine ⟨?_, ?_⟩ | skip) <;> first | omega | (simp only [lN, hlen] <;> omega)) | (simp [elemsK, D.isVal, D.cells, D.closedL, D.closed, hlen]; first | done | omega)))
    | ((with_reducible apply s_appF); (case he => rfl); (case hK | hc | hr | hx | hn => first | rfl | assumption | omega | ((first | refine ⟨?_, ?_⟩ | skip) <;> first | omega | (simp only [lN, hlen] <;> omega)) | (simp [elemsK, D.isVal, D.cells, D.closedL, D.closed, hlen]; first | done | omega)))
    | ((with_reducible apply s_bsl); (case he | hl | hc => first | rfl | assumption | omega | ((first | refine ⟨?_, ?_⟩ | skip) <;> first | omega | (simp only [lN, hlen] <;> omega)) | (simp [elemsK, D.isVal, D.cells, D.closedL, D.closed, hlen]; first | done | omega)))
    | ((with_reducible apply s_mpu); (case h1 | hk => rfl); (case ha | hp => first | rfl | assumption | omega | ((first | refine ⟨?_, ?_⟩ | skip) <;> first | omega | (simp only [lN, hlen] <;> omega)) | (simp [elemsK, D.isVal, D.cells, D.closedL, D.closed, hlen]; first | done | omega)))
    | ((with_reducible apply s_lkpS); (case h1 | hk => rfl); (case ha | hf => first | rfl | assumption | omega | ((first | refine ⟨?_, ?_⟩ | skip) <;> first | omega | (simp only [lN, hlen] <;> omega)) | (simp [elemsK, D.isVal, D.cells, D.closedL, D.closed, hlen]; first | done | omega)))
    | ((with_reducible apply s_lkpN); (case h1 | hk => rfl); (case hf | ha => first | rfl | assumption | omega | ((first | refine ⟨?_, ?_⟩ | skip) <;> first | omega | (simp only [lN, hlen] <;> omega)) | (simp [elemsK, D.isVal, D.cells, D.closedL, D.closed, hlen]; first | done | omega)))
    | with_reducible first | apply cd_dec | apply cd_eq | apply cd_ne | apply cd_split
    | ((with_reducible refine And.intro ?hw ?_); (case hw => first | omega | rfl | exact ⟨_, _, rfl⟩ | assumption | (simp only [lN, hlen] <;> omega)))
    | with_reducible intro _)
  refine swp_weak (weak_trans (weak_keep [0, 3, 4, 9, 10]) (weak_new 3 1 (by omega) true rfl)) ?_
  simp only [keepE]
  refine swp_fam [0, 3, 4, 9, 10] (fun i : Nat => ⟨[rpsD l, .undef, .undef, .gs 0 i, .mp 0, .undef, .undef, .undef, .undef, .int .i64 l.length, .int .i64 i, .undef, .undef, .undef, .undef, .undef, .undef], [], ⟨[.map (eF (lnkF R i).2) (lnkF R i).2.length], [.chg 1 (ints (lnkF R i).1)]⟩⟩)
    (fun i => i ≤ l.length) (fun i => l.length - i) 0 (by omega) ?_ ?_
  · simp [keepE, St.keep, lnkF, eF, entG, ints]
  · intro i hi
    have hfl : (lnkF R i).1.length = i := by have h1 := fi_lnk R i; rw [h1.fo.len, h1.inv.len]
    have hil0 := ints_len (lnkF R i).1
    rw [hfl] at hil0
    by_cases hil : i < l.length
    · have t2 : decide (((i : Nat) : Int) < l.length) = true := by simp; omega
      have hg := rp_get hil
      have c1 := names_p l[i] (hs _ (List.getElem_mem _))
      rw [show rpD l[i] = .agg [.slice (l[i].opts.map evD) .no, .bool l[i].doubt] from rfl] at c1
      have hN := namesL_get hil
      rw [hR] at hN
      have hn8 := namesR_len (r := l[i])
      have hstep := midF_all R i
      rw [hN] at hstep
      have hmid0 : midF R i [] = ((lnkF R i).1 ++ [i], (lnkF R i).2) := rfl
      have hfi := fun j => mid_fi R i ((namesR l[i]).take j) (fun s h => by rw [hN]; exact List.mem_of_mem_take h)
      generalize hNN : namesR l[i] = N at *
      have hnl := strs_len N
      have happ : ints (lnkF R i).1 ++ [.int .i64 (i : Nat)] = ints ((lnkF R i).1 ++ [i]) := by rw [ints_app]; rfl
      repeat' (first
    | with_reducible first | apply swp_seq | apply swp_reg | apply swp_regD | apply swp_block | apply swp_exit | apply swp_ret | apply swp_skip | apply swp_cd
    | simp only [go_sem, seval, pe26, q26, hlen, t2, hg, o_newM]
    | simp (disch := omega) only [w64, w32, wu8, wu16, wu32, wu64]
    | ((with_reducible refine o_call (c1) ?he ?hc ?_); (case he | hc => first | rfl | (simp [D.erL, D.er, D.closedL, D.closed, hlen, hg, hil0]; done)))
    | ((with_reducible apply s_appT); (case he => rfl); (case hK | hc | hr | hV => first | rfl | assumption | omega | ((first | refine ⟨?_, ?_⟩ | skip) <;> first | omega | (simp only [lN, hlen, hg, hil0] <;> omega)) | (simp [elemsK, D.isVal, D.cells, D.closedL, D.closed, hlen, hg, hil0]; first | done | omega)))
    | ((with_reducible apply s_appG); (case he => rfl); (case hV | hK | hr | hl => first | rfl | assumption | omega | ((first | refine ⟨?_, ?_⟩ | skip) <;> first | omega | (simp only [lN, hlen, hg, hil0] <;> omega)) | (simp [elemsK, D.isVal, D.cells, D.closedL, D.closed, hlen, hg, hil0]; first | done | omega)))
    | ((with_reducible apply s_app0G); (case he => rfl); (case hK | hr => first | rfl | assumption | omega | ((first | refine ⟨?_, ?_⟩ | skip) <;> first | omega | (simp only [lN, hlen, hg, hil0] <;> omega)) | (simp [elemsK, D.isVal, D.cells, D.closedL, D.closed, hlen, hg, hil0]; first | done | omega)))
    | ((with_reducible apply s_bsl); (case he | hl | hc => first | rfl | assumption | omega | ((first | refine ⟨?_, ?_⟩ | skip) <;> first | omega | (simp only [lN, hlen, hg, hil0] <;> omega)) | (simp [elemsK, D.isVal, D.cells, D.closedL, D.closed, hlen, hg, hil0]; first | done | omega)))
    | ((with_reducible apply s_mpu); (case h1 | hk => rfl); (case ha | hp => first | rfl | assumption | omega | ((first | refine ⟨?_, ?_⟩ | skip) <;> first | omega | (simp only [lN, hlen, hg, hil0] <;> omega)) | (simp [elemsK, D.isVal, D.cells, D.closedL, D.closed, hlen, hg, hil0]; first | done | omega)))
    | ((with_reducible apply s_lkpS); (case h1 | hk => rfl); (case ha | hf => first | rfl | assumption | omega | ((first | refine ⟨?_, ?_⟩ | skip) <;> first | omega | (simp only [lN, hlen, hg, hil0] <;> omega)) | (simp [elemsK, D.isVal, D.cells, D.closedL, D.closed, hlen, hg, hil0]; first | done | omega)))
    | ((with_reducible apply s_lkpN); (case h1 | hk => rfl); (case hf | ha => first | rfl | assumption | omega | ((first | refine ⟨?_, ?_⟩ | skip) <;> first | omega | (simp only [lN, hlen, hg, hil0] <;> omega)) | (simp [elemsK, D.isVal, D.cells, D.closedL, D.closed, hlen, hg, hil0]; first | done | omega)))
    | with_reducible first | apply cd_dec | apply cd_eq | apply cd_ne | apply cd_split
    | ((with_reducible refine And.intro ?hw ?_); (case hw => first | omega | rfl | exact ⟨_, _, rfl⟩ | assumption | (simp only [lN, hlen, hg, hil0] <;> omega)))
    | with_reducible intro _)
      all_goals first | omega | skip
      refine swp_fam [0, 3, 4, 5, 9, 10, 12, 13, 14] (fun j : Nat => ⟨[rpsD l, .undef, .undef, .gs 0 (i + 1), .mp 0, .int .i64 i, .undef, .undef, .undef, .int .i64 l.length, .int .i64 i, .undef, .slice (strs N) .no, .int .i64 N.length, .int .i64 j, .undef, .undef], [], ⟨[.map (eF (midF R i (N.take j)).2) (midF R i (N.take j)).2.length], [.chg 1 (ints (midF R i (N.take j)).1)]⟩⟩)
        (fun j => j ≤ N.length) (fun j => N.length - j) 0 (by omega) ?_ ?_
      · simp [keepE, St.keep, hmid0, flatD, D.cells, happ, hnl]
      · intro j hj
        have hF := hfi j
        have hfl2 : (midF R i (N.take j)).1.length = i + 1 := by rw [hF.fo.len, hF.inv.len]
        by_cases hjl : j < N.length
        · have t3 : decide (((j : Nat) : Int) < N.length) = true := by simp; omega
          have hgj := strs_get hjl
          have hsn : midF R i (N.take (j + 1)) = nameF i (midF R i (N.take j)) N[j] := by rw [List.take_succ_eq_append_getElem hjl, midF_snoc]
          have hfirst := hF.inv.first N[j]
          have hsnd := hF.snd
          rw [← hsnd] at hfirst
          have hnF : nameF i (midF R i (N.take j)) N[j] = match look (midF R i (N.take j)).2 N[j] with
            | some k => (joinF (midF R i (N.take j)).1 k i, (midF R i (N.take j)).2)
            | none => ((midF R i (N.take j)).1, (midF R i (N.take j)).2 ++ [(N[j], i)]) := rfl
          rw [hnF] at hsn
          have hok := eF_ok (midF R i (N.take j)).2
          cases hlk : look (midF R i (N.take j)).2 N[j] with
          | some k =>
            rw [hlk] at hsn
            simp only at hsn
            obtain ⟨q, hf⟩ := eF_some hlk
            have hk := (hfirst k hlk).1
            have hlen2 := hF.inv.len
            have c2 := join_e hF.inv.lo hF.fo (by omega) (i := k) (k := i) (by omega) (by omega)
            rw [hfl2] at c2
            generalize midF R i (N.take j) = st at *
            have hrn := fun β τ => ints_rn β τ
            repeat' (first
    | with_reducible first | apply swp_seq | apply swp_reg | apply swp_regD | apply swp_block | apply swp_exit | apply swp_ret | apply swp_skip | apply swp_cd
    | simp only [go_sem, seval, pe26, q26, hnl, t3, hgj, hrn, o_newM]
    | simp (disch := omega) only [w64, w32, wu8, wu16, wu32, wu64]
    | ((with_reducible refine o_eff [] [0] (c2) ?hs ?he ?hh ?_); (case hs => exact ⟨by simp, by simp, by simp, by simp⟩); (case he => first | rfl | (simp [go_sem, seval, hnl, hgj, hrn]; done)); (case hh => first | rfl | (simp [go_sem, seval, hnl, hgj, hrn]; done)); rintro _ _ ⟨rfl, rfl⟩)
    | ((with_reducible apply s_appT); (case he => rfl); (case hK | hc | hr | hV => first | rfl | assumption | omega | ((first | refine ⟨?_, ?_⟩ | skip) <;> first | omega | (simp only [lN, hnl, hgj, hrn] <;> omega)) | (simp [elemsK, D.isVal, D.cells, D.closedL, D.closed, hnl, hgj, hrn]; first | done | omega)))
    | ((with_reducible apply s_appG); (case he => rfl); (case hV | hK | hr | hl => first | rfl | assumption | omega | ((first | refine ⟨?_, ?_⟩ | skip) <;> first | omega | (simp only [lN, hnl, hgj, hrn] <;> omega)) | (simp [elemsK, D.isVal, D.cells, D.closedL, D.closed, hnl, hgj, hrn]; first | done | omega)))
    | ((with_reducible apply s_app0); (case he => rfl); (case hK | hc | hr => first | rfl | assumption | omega | ((first | refine ⟨?_, ?_⟩ | skip) <;> first | omega | (simp only [lN, hnl, hgj, hrn] <;> omega)) | (simp [elemsK, D.isVal, D.cells, D.closedL, D.closed, hnl, hgj, hrn]; first | done | omega)))
    | ((with_reducible apply s_appF); (case he => rfl); (case hK | hc | hr | hx | hn => first | rfl | assumption | omega | ((first | refine ⟨?_, ?_⟩ | skip) <;> first | omega | (simp only [lN, hnl, hgj, hrn] <;> omega)) | (simp [elemsK, D.isVal, D.cells, D.closedL, D.closed, hnl, hgj, hrn]; first | done | omega)))
    | ((with_reducible apply s_bsl); (case he | hl | hc => first | rfl | assumption | omega | ((first | refine ⟨?_, ?_⟩ | skip) <;> first | omega | (simp only [lN, hnl, hgj, hrn] <;> omega)) | (simp [elemsK, D.isVal, D.cells, D.closedL, D.closed, hnl, hgj, hrn]; first | done | omega)))
    | ((with_reducible apply s_mpu); (case h1 | hk => rfl); (case ha | hp => first | rfl | assumption | omega | ((first | refine ⟨?_, ?_⟩ | skip) <;> first | omega | (simp only [lN, hnl, hgj, hrn] <;> omega)) | (simp [elemsK, D.isVal, D.cells, D.closedL, D.closed, hnl, hgj, hrn]; first | done | omega)))
    | ((with_reducible apply s_lkpS); (case h1 | hk => rfl); (case ha | hf => first | rfl | assumption | omega | ((first | refine ⟨?_, ?_⟩ | skip) <;> first | omega | (simp only [lN, hnl, hgj, hrn] <;> omega)) | (simp [elemsK, D.isVal, D.cells, D.closedL, D.closed, hnl, hgj, hrn]; first | done | omega)))
    | ((with_reducible apply s_lkpN); (case h1 | hk => rfl); (case hf | ha => first | rfl | assumption | omega | ((first | refine ⟨?_, ?_⟩ | skip) <;> first | omega | (simp only [lN, hnl, hgj, hrn] <;> omega)) | (simp [elemsK, D.isVal, D.cells, D.closedL, D.closed, hnl, hgj, hrn]; first | done | omega)))
    | with_reducible first | apply cd_dec | apply cd_eq | apply cd_ne | apply cd_split
    | ((with_reducible refine And.intro ?hw ?_); (case hw => first | omega | rfl | exact ⟨_, _, rfl⟩ | assumption | (simp only [lN, hnl, hgj, hrn] <;> omega)))
    | with_reducible intro _)
            all_goals first | omega | skip
            refine ⟨j + 1, by omega, by omega, ?_⟩
            rw [hsn]
            simp [keepE, St.keep]
          | none =>
            rw [hlk] at hsn
            simp only at hsn
            have hf := eF_none hlk
            have hp := eF_put (i := i) hlk
            generalize midF R i (N.take j) = st at *
            repeat' (first
    | with_reducible first | apply swp_seq | apply swp_reg | apply swp_regD | apply swp_block | apply swp_exit | apply swp_ret | apply swp_skip | apply swp_cd
    | simp only [go_sem, seval, pe26, q26, hnl, t3, hgj, o_newM]
    | simp (disch := omega) only [w64, w32, wu8, wu16, wu32, wu64]
    | ((with_reducible apply s_appT); (case he => rfl); (case hK | hc | hr | hV => first | rfl | assumption | omega | ((first | refine ⟨?_, ?_⟩ | skip) <;> first | omega | (simp only [lN, hnl, hgj] <;> omega)) | (simp [elemsK, D.isVal, D.cells, D.closedL, D.closed, hnl, hgj]; first | done | omega)))
    | ((with_reducible apply s_appG); (case he => rfl); (case hV | hK | hr | hl => first | rfl | assumption | omega | ((first | refine ⟨?_, ?_⟩ | skip) <;> first | omega | (simp only [lN, hnl, hgj] <;> omega)) | (simp [elemsK, D.isVal, D.cells, D.closedL, D.closed, hnl, hgj]; first | done | omega)))
    | ((with_reducible apply s_app0); (case he => rfl); (case hK | hc | hr => first | rfl | assumption | omega | ((first | refine ⟨?_, ?_⟩ | skip) <;> first | omega | (simp only [lN, hnl, hgj] <;> omega)) | (simp [elemsK, D.isVal, D.cells, D.closedL, D.closed, hnl, hgj]; first | done | omega)))
    | ((with_reducible apply s_appF); (case he => rfl); (case hK | hc | hr | hx | hn => first | rfl | assumption | omega | ((first | refine ⟨?_, ?_⟩ | skip) <;> first | omega | (simp only [lN, hnl, hgj] <;> omega)) | (simp [elemsK, D.isVal, D.cells, D.closedL, D.closed, hnl, hgj]; first | done | omega)))
    | ((with_reducible apply s_bsl); (case he | hl | hc => first | rfl | assumption | omega | ((first | refine ⟨?_, ?_⟩ | skip) <;> first | omega | (simp only [lN, hnl, hgj] <;> omega)) | (simp [elemsK, D.isVal, D.cells, D.closedL, D.closed, hnl, hgj]; first | done | omega)))
    | ((with_reducible apply s_mpu); (case h1 | hk => rfl); (case ha | hp => first | rfl | assumption | omega | ((first | refine ⟨?_, ?_⟩ | skip) <;> first | omega | (simp only [lN, hnl, hgj] <;> omega)) | (simp [elemsK, D.isVal, D.cells, D.closedL, D.closed, hnl, hgj]; first | done | omega)))
    | ((with_reducible apply s_lkpS); (case h1 | hk => rfl); (case ha | hf => first | rfl | assumption | omega | ((first | refine ⟨?_, ?_⟩ | skip) <;> first | omega | (simp only [lN, hnl, hgj] <;> omega)) | (simp [elemsK, D.isVal, D.cells, D.closedL, D.closed, hnl, hgj]; first | done | omega)))
    | ((with_reducible apply s_lkpN); (case h1 | hk => rfl); (case hf | ha => first | rfl | assumption | omega | ((first | refine ⟨?_, ?_⟩ | skip) <;> first | omega | (simp only [lN, hnl, hgj] <;> omega)) | (simp [elemsK, D.isVal, D.cells, D.closedL, D.closed, hnl, hgj]; first | done | omega)))
    | with_reducible first | apply cd_dec | apply cd_eq | apply cd_ne | apply cd_split
    | ((with_reducible refine And.intro ?hw ?_); (case hw => first | omega | rfl | exact ⟨_, _, rfl⟩ | assumption | (simp only [lN, hnl, hgj] <;> omega)))
    | with_reducible intro _)
            all_goals first | omega | skip
            refine ⟨j + 1, by omega, by omega, ?_⟩
            rw [hsn]
            simp [keepE, St.keep, hp]
        · have t3 : decide (((j : Nat) : Int) < N.length) = false := by simp; omega
          have e5 : N.take j = N := List.take_of_length_le (by omega)
          rw [e5, hstep]
          repeat' (first
    | with_reducible first | apply swp_seq | apply swp_reg | apply swp_regD | apply swp_block | apply swp_exit | apply swp_ret | apply swp_skip | apply swp_cd
    | simp only [go_sem, seval, pe26, q26, hnl, t3, o_newM]
    | simp (disch := omega) only [w64, w32, wu8, wu16, wu32, wu64]
    | ((with_reducible apply s_appT); (case he => rfl); (case hK | hc | hr | hV => first | rfl | assumption | omega | ((first | refine ⟨?_, ?_⟩ | skip) <;> first | omega | (simp only [lN, hnl] <;> omega)) | (simp [elemsK, D.isVal, D.cells, D.closedL, D.closed, hnl]; first | done | omega)))
    | ((with_reducible apply s_appG); (case he => rfl); (case hV | hK | hr | hl => first | rfl | assumption | omega | ((first | refine ⟨?_, ?_⟩ | skip) <;> first | omega | (simp only [lN, hnl] <;> omega)) | (simp [elemsK, D.isVal, D.cells, D.closedL, D.closed, hnl]; first | done | omega)))
    | ((with_reducible apply s_app0); (case he => rfl); (case hK | hc | hr => first | rfl | assumption | omega | ((first | refine ⟨?_, ?_⟩ | skip) <;> first | omega | (simp only [lN, hnl] <;> omega)) | (simp [elemsK, D.isVal, D.cells, D.closedL, D.closed, hnl]; first | done | omega)))
    | ((with_reducible apply s_appF); (case he => rfl); (case hK | hc | hr | hx | hn => first | rfl | assumption | omega | ((first | refine ⟨?_, ?_⟩ | skip) <;> first | omega | (simp only [lN, hnl] <;> omega)) | (simp [elemsK, D.isVal, D.cells, D.closedL, D.closed, hnl]; first | done | omega)))
    | ((with_reducible apply s_bsl); (case he | hl | hc => first | rfl | assumption | omega | ((first | refine ⟨?_, ?_⟩ | skip) <;> first | omega | (simp only [lN, hnl] <;> omega)) | (simp [elemsK, D.isVal, D.cells, D.closedL, D.closed, hnl]; first | done | omega)))
    | ((with_reducible apply s_mpu); (case h1 | hk => rfl); (case ha | hp => first | rfl | assumption | omega | ((first | refine ⟨?_, ?_⟩ | skip) <;> first | omega | (simp only [lN, hnl] <;> omega)) | (simp [elemsK, D.isVal, D.cells, D.closedL, D.closed, hnl]; first | done | omega)))
    | ((with_reducible apply s_lkpS); (case h1 | hk => rfl); (case ha | hf => first | rfl | assumption | omega | ((first | refine ⟨?_, ?_⟩ | skip) <;> first | omega | (simp only [lN, hnl] <;> omega)) | (simp [elemsK, D.isVal, D.cells, D.closedL, D.closed, hnl]; first | done | omega)))
    | ((with_reducible apply s_lkpN); (case h1 | hk => rfl); (case hf | ha => first | rfl | assumption | omega | ((first | refine ⟨?_, ?_⟩ | skip) <;> first | omega | (simp only [lN, hnl] <;> omega)) | (simp [elemsK, D.isVal, D.cells, D.closedL, D.closed, hnl]; first | done | omega)))
    | with_reducible first | apply cd_dec | apply cd_eq | apply cd_ne | apply cd_split
    | ((with_reducible refine And.intro ?hw ?_); (case hw => first | omega | rfl | exact ⟨_, _, rfl⟩ | assumption | (simp only [lN, hnl] <;> omega)))
    | with_reducible intro _)
          all_goals first | omega | skip
          refine ⟨i + 1, by omega, by omega, ?_⟩
          simp [keepE, St.keep]
    · have t2 : decide (((i : Nat) : Int) < l.length) = false := by simp; omega
      have : i = l.length := by omega
      subst this
      repeat' (first
    | with_reducible first | apply swp_seq | apply swp_reg | apply swp_regD | apply swp_block | apply swp_exit | apply swp_ret | apply swp_skip | apply swp_cd
    | simp only [go_sem, seval, pe26, q26, hlen, t2, o_newM]
    | simp (disch := omega) only [w64, w32, wu8, wu16, wu32, wu64]
    | ((with_reducible apply s_appT); (case he => rfl); (case hK | hc | hr | hV => first | rfl | assumption | omega | ((first | refine ⟨?_, ?_⟩ | skip) <;> first | omega | (simp only [lN, hlen] <;> omega)) | (simp [elemsK, D.isVal, D.cells, D.closedL, D.closed, hlen]; first | done | omega)))
    | ((with_reducible apply s_appG); (case he => rfl); (case hV | hK | hr | hl => first | rfl | assumption | omega | ((first | refine ⟨?_, ?_⟩ | skip) <;> first | omega | (simp only [lN, hlen] <;> omega)) | (simp [elemsK, D.isVal, D.cells, D.closedL, D.closed, hlen]; first | done | omega)))
    | ((with_reducible apply s_app0); (case he => rfl); (case hK | hc | hr => first | rfl | assumption | omega | ((first | refine ⟨?_, ?_⟩ | skip) <;> first | omega | (simp only [lN, hlen] <;> omega)) | (simp [elemsK, D.isVal, D.cells, D.closedL, D.closed, hlen]; first | done | omega)))
    | ((with_reducible apply s_appF); (case he => rfl); (case hK | hc | hr | hx | hn => first | rfl | assumption | omega | ((first | refine ⟨?_, ?_⟩ | skip) <;> first | omega | (simp only [lN, hlen] <;> omega)) | (simp [elemsK, D.isVal, D.cells, D.closedL, D.closed, hlen]; first | done | omega)))
    | ((with_reducible apply s_bsl); (case he | hl | hc => first | rfl | assumption | omega | ((first | refine ⟨?_, ?_⟩ | skip) <;> first | omega | (simp only [lN, hlen] <;> omega)) | (simp [elemsK, D.isVal, D.cells, D.closedL, D.closed, hlen]; first | done | omega)))
    | ((with_reducible apply s_mpu); (case h1 | hk => rfl); (case ha | hp => first | rfl | assumption | omega | ((first | refine ⟨?_, ?_⟩ | skip) <;> first | omega | (simp only [lN, hlen] <;> omega)) | (simp [elemsK, D.isVal, D.cells, D.closedL, D.closed, hlen]; first | done | omega)))
    | ((with_reducible apply s_lkpS); (case h1 | hk => rfl); (case ha | hf => first | rfl | assumption | omega | ((first | refine ⟨?_, ?_⟩ | skip) <;> first | omega | (simp only [lN, hlen] <;> omega)) | (simp [elemsK, D.isVal, D.cells, D.closedL, D.closed, hlen]; first | done | omega)))
    | ((with_reducible apply s_lkpN); (case h1 | hk => rfl); (case hf | ha => first | rfl | assumption | omega | ((first | refine ⟨?_, ?_⟩ | skip) <;> first | omega | (simp only [lN, hlen] <;> omega)) | (simp [elemsK, D.isVal, D.cells, D.closedL, D.closed, hlen]; first | done | omega)))
    | with_reducible first | apply cd_dec | apply cd_eq | apply cd_ne | apply cd_split
    | ((with_reducible refine And.intro ?hw ?_); (case hw => first | omega | rfl | exact ⟨_, _, rfl⟩ | assumption | (simp only [lN, hlen] <;> omega)))
    | with_reducible intro _)
      all_goals first | omega | skip
      exact ⟨_, weak_refl, rfl, rfl⟩
end Go.Proofs.Ytofnggfpegcllaa
end
section
set_option maxRecDepth 100000
set_option linter.unusedSimpArgs false
set_option linter.unusedVariables false
namespace Go.Proofs.Ytofnggfpegcllaa
open Go GoV Go.RowKit
theorem add_reg {n0 m0 : Nat} (hp0 hp1 : Hp) (x b5 b6 : D) (ys : List D) (o : GoV.Own) (cs : List D) (m k i r : Nat) (Q : Ex → St → Prop) (hH : hp1.H = hp0.H) (h2 : hp0.H[2]? = some (.cells [.gs 1 m])) (t0 : hp0.tk[1]? = some (.chg 1 cs)) (t1 : hp1.tk[1]? = some (.chg 1 cs))
    (hm : cs.length = m) (hk : k < m) (hx : cs.getD k .undef = x) (happ : opWp (.app 1 8 3) [x, .slice [.int .i64 (i : Nat)] .full] hp0 fun d hp => d = .slice ys o ∧ hp = hp1)
    (hQ : Q .normal ⟨[.int .i64 (i : Nat), .int .i64 (r : Nat), .ptr 1 0, .ptr 2 0, .int .i64 (k : Nat), b5, b6], [], ⟨hp1.H, hp1.tk.set 1 (.chg 1 (cs.set k (.slice ys o)))⟩⟩) :
    SWp (E28 n0 m0) (.regD r28_5 r28_6) Q ⟨[.int .i64 (i : Nat), .int .i64 (r : Nat), .ptr 1 0, .ptr 2 0, .int .i64 (k : Nat), b5, b6], [], hp0⟩ := by
  have still : ∀ k, k ≠ 8 → Still (fun E : Nat → Bool => if E 8 then hp1 else hp0) k := fun k h8 E _ => by
    have q8 : (8 == k) = false := beq_false_of_ne (Ne.symm h8)
    simp only [q8, Bool.or_false]
  have ld : ∀ E : Nat → Bool, OcWp M (.ld false 1) [.ptr 2 0] ((fun E : Nat → Bool => if E 8 then hp1 else hp0) E) (fun d' hp' => d' = .gs 1 m ∧ hp' = (fun E : Nat → Bool => if E 8 then hp1 else hp0) E) := fun E => by
    simp only [OcWp, isCall, Bool.false_eq_true, if_false, opWp]
    refine ⟨.cells [.gs 1 m], [.gs 1 m], ?_, rfl, by simp, rfl, trivial⟩
    split
    · rw [hH]; exact h2
    · exact h2
  refine swp_regDG (fun E => if E 8 then hp1 else hp0) [] (by decide) rfl ?_
  rw [pe28]
  refine v_q (ds := [.ptr 2 0]) (.gs 1 m) rfl (still _ (by decide)) (fun E _ => ld E) ?_
  refine v_q (ds := [.int .i64 (k : Nat)]) (.int .i64 (k : Nat)) rfl (still _ (by decide)) (fun E _ => by simp [OcWp, isCall, opWp]) ?_
  refine v_q (ds := [.ptr 2 0]) (.gs 1 m) rfl (still _ (by decide)) (fun E _ => ld E) ?_
  refine v_q (ds := [.int .i64 (k : Nat)]) (.int .i64 (k : Nat)) rfl (still _ (by decide)) (fun E _ => by simp [OcWp, isCall, opWp]) ?_
  refine v_q (ds := [.gs 1 m, .int .i64 (k : Nat)]) (.gp 1 m k) rfl (still _ (by decide)) (fun E _ => ?_) ?_
  · simp only [OcWp, isCall, Bool.false_eq_true, if_false, opWp]
    exact ⟨by omega, by omega, by simp, trivial⟩
  refine v_q (ds := [.gp 1 m k]) x rfl (still _ (by decide)) (fun E _ => ?_) ?_
  · simp only [OcWp, isCall, Bool.false_eq_true, if_false, opWp]
    refine ⟨1, cs, ?_, by omega, by omega, hx, trivial⟩
    split
    · exact t1
    · exact t0
  refine v_q (ds := [.int .i64 (i : Nat)]) (.int .i64 (i : Nat)) rfl (still _ (by decide)) (fun E _ => by simp [OcWp, isCall, opWp]) ?_
  refine v_q (ds := [.int .i64 (i : Nat)]) (.slice [.int .i64 (i : Nat)] .full) rfl (still _ (by decide)) (fun E _ => by simp [OcWp, isCall, opWp, elemsK, D.closedL, D.erL, D.closed, D.er, D.isVal, D.cells]) ?_
  refine v_c (ds := [x, .slice [.int .i64 (i : Nat)] .full]) (d := .slice ys o) rfl (fun E hE hG hR => ?_) ?_
  · simp only [hE, Bool.false_or, beq_self_eq_true, if_true, Bool.false_eq_true, if_false, OcWp, isCall]
    exact happ
  refine v_end (hp' := hp1) (by simp) ?_
  have hg := t1
  have hl1 : k + 1 ≤ cs.length := by omega
  obtain ⟨H1, T1⟩ := hp1
  simp only at hg hQ ⊢
  repeat' (first
    | with_reducible first | apply swp_seq | apply swp_reg | apply swp_regD | apply swp_block | apply swp_exit | apply swp_ret | apply swp_skip | apply swp_cd
    | simp only [go_sem, seval, pe28, q28, Nat.mul_one, hg, setL]
    | ((with_reducible apply s_appT); (case he => rfl); (case hK | hc | hr | hV => first | rfl | assumption | omega | ((first | refine ⟨?_, ?_⟩ | skip) <;> first | omega | (simp only [lN, hg] <;> omega)) | (simp [elemsK, D.isVal, D.cells, D.closedL, D.closed, hg]; first | done | omega)))
    | ((with_reducible apply s_appG); (case he => rfl); (case hV | hK | hr | hl => first | rfl | assumption | omega | ((first | refine ⟨?_, ?_⟩ | skip) <;> first | omega | (simp only [lN, hg] <;> omega)) | (simp [elemsK, D.isVal, D.cells, D.closedL, D.closed, hg]; first | done | omega)))
    | ((with_reducible first | apply s_app0 | apply t_app0); (case he => rfl); (case hK | hc | hr => first | rfl | assumption | omega | ((first | refine ⟨?_, ?_⟩ | skip) <;> first | omega | (simp only [lN, hg] <;> omega)) | (simp [elemsK, D.isVal, D.cells, D.closedL, D.closed, hg]; first | done | omega)))
    | ((with_reducible first | apply s_appF | apply t_appF); (case he => rfl); (case hK | hc | hr | hx | hn => first | rfl | assumption | omega | ((first | refine ⟨?_, ?_⟩ | skip) <;> first | omega | (simp only [lN, hg] <;> omega)) | (simp [elemsK, D.isVal, D.cells, D.closedL, D.closed, hg]; first | done | omega)))
    | ((with_reducible first | apply s_bsl | apply t_bsl); (case he | hl | hc => first | rfl | assumption | omega | ((first | refine ⟨?_, ?_⟩ | skip) <;> first | omega | (simp only [lN, hg] <;> omega)) | (simp [elemsK, D.isVal, D.cells, D.closedL, D.closed, hg]; first | done | omega)))
    | ((with_reducible apply s_mpu); (case h1 | hk => rfl); (case ha | hp => first | rfl | assumption | omega | ((first | refine ⟨?_, ?_⟩ | skip) <;> first | omega | (simp only [lN, hg] <;> omega)) | (simp [elemsK, D.isVal, D.cells, D.closedL, D.closed, hg]; first | done | omega)))
    | ((with_reducible apply s_lkpS); (case h1 | hk => rfl); (case ha | hf => first | rfl | assumption | omega | ((first | refine ⟨?_, ?_⟩ | skip) <;> first | omega | (simp only [lN, hg] <;> omega)) | (simp [elemsK, D.isVal, D.cells, D.closedL, D.closed, hg]; first | done | omega)))
    | ((with_reducible apply s_lkpN); (case h1 | hk => rfl); (case hf | ha => first | rfl | assumption | omega | ((first | refine ⟨?_, ?_⟩ | skip) <;> first | omega | (simp only [lN, hg] <;> omega)) | (simp [elemsK, D.isVal, D.cells, D.closedL, D.closed, hg]; first | done | omega)))
    | with_reducible first | apply cd_dec | apply cd_eq | apply cd_ne | apply cd_split
    | ((with_reducible refine And.intro ?hw ?_); (case hw => first | omega | rfl | exact ⟨_, _, rfl⟩ | assumption | (simp only [lN, hg] <;> omega)))
    | with_reducible intro _)
  all_goals first | omega | trivial | skip
  all_goals first | exact hQ | trace_state
set_option maxHeartbeats 1000000 in
theorem add_new {E E' : List (D × D × Nat)} {n r i : Nat} {outs : List D} {T : List Tv} {fd : Tv} (hok : (E.all fun e => keyOk (.int .i64) e.1) = true) (hf : findM (.int .i64 (r : Nat)) E 0 = none) (hp : putM E n (.int .i64 (r : Nat)) (.int .i64 (n : Nat)) = .map E' (n + 1))
    (ho : outs.length = n) (hT : T.length = n) (hn : n ≤ 1000) :
    Eff M 28 [.int .i64 (i : Nat), .int .i64 (r : Nat), .ptr 1 0, .ptr 2 0] ⟨[.map E n, .cells [.mp 0], .cells [.gs 1 n]], fd :: .chg 1 outs :: T⟩
      fun d hp => d = .tup [] ∧ hp = ⟨[.map E' (n + 1), .cells [.mp 0], .cells [.gs 1 (n + 1)]], fd :: .chg 1 (outs ++ [.slice [.int .i64 (i : Nat)] (.tok (n + 2))]) :: (T ++ [.per 1 1])⟩ := by
  refine oe28 3 (n + 2) rfl rfl (by simp [hT]) ?_
  rw [ie28]
  unfold c28
  generalize hrc : RC.regD r28_5 r28_6 = rc at *
  repeat' (first
    | with_reducible first | apply swp_seq | apply swp_reg | apply swp_regD | apply swp_block | apply swp_exit | apply swp_ret | apply swp_skip | apply swp_cd
    | simp only [go_sem, seval, pe28, q28, hp]
    | simp (disch := omega) only [w64, w32, wu8, wu16, wu32, wu64]
    | ((with_reducible apply s_appT); (case he => rfl); (case hK | hc | hr | hV => first | rfl | assumption | omega | ((first | refine ⟨?_, ?_⟩ | skip) <;> first | omega | (simp only [lN, ho] <;> omega)) | (simp [elemsK, D.isVal, D.cells, D.closedL, D.closed, ho]; first | done | omega)))
    | ((with_reducible apply s_appG); (case he => rfl); (case hV | hK | hr | hl => first | rfl | assumption | omega | ((first | refine ⟨?_, ?_⟩ | skip) <;> first | omega | (simp only [lN, ho] <;> omega)) | (simp [elemsK, D.isVal, D.cells, D.closedL, D.closed, ho]; first | done | omega)))
    | ((with_reducible apply s_app0G); (case he => rfl); (case hK | hr => first | rfl | assumption | omega | ((first | refine ⟨?_, ?_⟩ | skip) <;> first | omega | (simp only [lN, ho] <;> omega)) | (simp [elemsK, D.isVal, D.cells, D.closedL, D.closed, ho]; first | done | omega)))
    | ((with_reducible first | apply s_bsl | apply t_bsl); (case he | hl | hc => first | rfl | assumption | omega | ((first | refine ⟨?_, ?_⟩ | skip) <;> first | omega | (simp only [lN, ho] <;> omega)) | (simp [elemsK, D.isVal, D.cells, D.closedL, D.closed, ho]; first | done | omega)))
    | ((with_reducible apply s_mpu); (case h1 | hk => rfl); (case ha | hp => first | rfl | assumption | omega | ((first | refine ⟨?_, ?_⟩ | skip) <;> first | omega | (simp only [lN, ho] <;> omega)) | (simp [elemsK, D.isVal, D.cells, D.closedL, D.closed, ho]; first | done | omega)))
    | ((with_reducible apply s_lkpS); (case h1 | hk => rfl); (case ha | hf => first | rfl | assumption | omega | ((first | refine ⟨?_, ?_⟩ | skip) <;> first | omega | (simp only [lN, ho] <;> omega)) | (simp [elemsK, D.isVal, D.cells, D.closedL, D.closed, ho]; first | done | omega)))
    | ((with_reducible apply s_lkpN); (case h1 | hk => rfl); (case hf | ha => first | rfl | assumption | omega | ((first | refine ⟨?_, ?_⟩ | skip) <;> first | omega | (simp only [lN, ho] <;> omega)) | (simp [elemsK, D.isVal, D.cells, D.closedL, D.closed, ho]; first | done | omega)))
    | with_reducible first | apply cd_dec | apply cd_eq | apply cd_ne | apply cd_split
    | ((with_reducible refine And.intro ?hw ?_); (case hw => first | omega | rfl | exact ⟨_, _, rfl⟩ | assumption | (simp only [lN, ho] <;> omega)))
    | with_reducible intro _)
  all_goals first | omega | skip
  have hcat : flatD [D.lit (.slice none 0 0)] = [.lit (.slice none 0 0)] := rfl
  rw [← hrc]
  refine add_reg _ ⟨[.map E' (n + 1), .cells [.mp 0], .cells [.gs 1 (n + 1)]], fd :: .chg 1 (outs ++ [.lit (.slice none 0 0)]) :: (T ++ [.per 1 1])⟩ (.lit (.slice none 0 0)) _ _ [.int .i64 (i : Nat)] (.tok (n + 2)) (outs ++ [.lit (.slice none 0 0)]) (n + 1) n i r _ rfl rfl rfl rfl (by simp [ho]) (by omega) (by simp [List.getD, ho]) ?_ ?_
  · simp only [opWp]
    refine ⟨[.int .i64 (i : Nat)], rfl, rfl, ⟨by simp, by simp⟩, .inl ⟨rfl, .inr ⟨?_, ?_⟩⟩⟩
    · simp [D.erL, D.er, hT]
    · simp
  · refine ⟨trivial, _, weak_refl, ?_⟩
    have : (outs ++ [D.lit (.slice none 0 0)]).set n (.slice [.int .i64 (i : Nat)] (.tok (n + 2))) = outs ++ [.slice [.int .i64 (i : Nat)] (.tok (n + 2))] := by
      rw [List.set_append_right _ _ (by omega)]; simp [ho]
    simp [this]
set_option maxHeartbeats 1000000 in
theorem add_first {E E' : List (D × D × Nat)} {r i : Nat} {fd : Tv} (hok : (E.all fun e => keyOk (.int .i64) e.1) = true) (hf : findM (.int .i64 (r : Nat)) E 0 = none) (hp : putM E 0 (.int .i64 (r : Nat)) (.int .i64 0) = .map E' 1) :
    Eff M 28 [.int .i64 (i : Nat), .int .i64 (r : Nat), .ptr 1 0, .ptr 2 0] ⟨[.map E 0, .cells [.mp 0], .cells [.lit (.slice none 0 0)]], [fd]⟩
      fun d hp => d = .tup [] ∧ hp = ⟨[.map E' 1, .cells [.mp 0], .cells [.gs 1 1]], [fd, .chg 1 [.slice [.int .i64 (i : Nat)] (.tok 2)], .per 1 1]⟩ := by
  refine oe28 3 1 rfl rfl rfl ?_
  rw [ie28]
  unfold c28
  generalize hrc : RC.regD r28_5 r28_6 = rc at *
  repeat' (first
    | with_reducible first | apply swp_seq | apply swp_reg | apply swp_regD | apply swp_block | apply swp_exit | apply swp_ret | apply swp_skip | apply swp_cd
    | simp only [go_sem, seval, pe28, q28, hp, flatD, D.cells]
    | simp (disch := omega) only [w64, w32, wu8, wu16, wu32, wu64]
    | ((with_reducible apply s_appT); (case he => rfl); (case hK | hc | hr | hV => first | rfl | assumption | omega | ((first | refine ⟨?_, ?_⟩ | skip) <;> first | omega | (simp only [lN] <;> omega)) | (simp [elemsK, D.isVal, D.cells, D.closedL, D.closed]; first | done | omega)))
    | ((with_reducible apply s_appG); (case he => rfl); (case hV | hK | hr | hl => first | rfl | assumption | omega | ((first | refine ⟨?_, ?_⟩ | skip) <;> first | omega | (simp only [lN] <;> omega)) | (simp [elemsK, D.isVal, D.cells, D.closedL, D.closed]; first | done | omega)))
    | ((with_reducible apply s_app0G); (case he => rfl); (case hK | hr => first | rfl | assumption | omega | ((first | refine ⟨?_, ?_⟩ | skip) <;> first | omega | (simp only [lN] <;> omega)) | (simp [elemsK, D.isVal, D.cells, D.closedL, D.closed]; first | done | omega)))
    | ((with_reducible first | apply s_bsl | apply t_bsl); (case he | hl | hc => first | rfl | assumption | omega | ((first | refine ⟨?_, ?_⟩ | skip) <;> first | omega | (simp only [lN] <;> omega)) | (simp [elemsK, D.isVal, D.cells, D.closedL, D.closed]; first | done | omega)))
    | ((with_reducible apply s_mpu); (case h1 | hk => rfl); (case ha | hp => first | rfl | assumption | omega | ((first | refine ⟨?_, ?_⟩ | skip) <;> first | omega | (simp only [lN] <;> omega)) | (simp [elemsK, D.isVal, D.cells, D.closedL, D.closed]; first | done | omega)))
    | ((with_reducible apply s_lkpS); (case h1 | hk => rfl); (case ha | hf => first | rfl | assumption | omega | ((first | refine ⟨?_, ?_⟩ | skip) <;> first | omega | (simp only [lN] <;> omega)) | (simp [elemsK, D.isVal, D.cells, D.closedL, D.closed]; first | done | omega)))
    | ((with_reducible apply s_lkpN); (case h1 | hk => rfl); (case hf | ha => first | rfl | assumption | omega | ((first | refine ⟨?_, ?_⟩ | skip) <;> first | omega | (simp only [lN] <;> omega)) | (simp [elemsK, D.isVal, D.cells, D.closedL, D.closed]; first | done | omega)))
    | with_reducible first | apply cd_dec | apply cd_eq | apply cd_ne | apply cd_split
    | ((with_reducible refine And.intro ?hw ?_); (case hw => first | omega | rfl | exact ⟨_, _, rfl⟩ | assumption | (simp only [lN] <;> omega)))
    | with_reducible intro _)
  all_goals first | omega | skip
  rw [← hrc]
  refine add_reg (k := 0) _ ⟨[.map E' 1, .cells [.mp 0], .cells [.gs 1 1]], [fd, .chg 1 [.lit (.slice none 0 0)], .per 1 1]⟩ (.lit (.slice none 0 0)) _ _ [.int .i64 (i : Nat)] (.tok 2) [.lit (.slice none 0 0)] 1 i r _ rfl rfl rfl rfl rfl (by omega) rfl ?_ ?_
  · simp only [opWp]
    refine ⟨[.int .i64 (i : Nat)], rfl, rfl, ⟨by simp, by simp⟩, .inl ⟨rfl, .inr ⟨?_, ?_⟩⟩⟩
    · simp [D.erL, D.er]
    · simp
  · refine ⟨trivial, _, weak_refl, ?_⟩
    simp
set_option maxHeartbeats 1000000 in
theorem add_old {E : List (D × D × Nat)} {n r i c j : Nat} {outs xs : List D} {T : List Tv} {fd : Tv} (hok : (E.all fun e => keyOk (.int .i64) e.1) = true) (hf : findM (.int .i64 (r : Nat)) E 0 = some (j, .int .i64 (c : Nat)))
    (ho : outs.length = n) (hT : T.length = n) (hn : n ≤ 1000) (hc : c < n) (hx : outs.getD c .undef = .slice xs (.tok (c + 2))) (hTc : T[c]? = some (.per 1 xs.length)) (hxl : xs.length ≤ 1000) :
    Eff M 28 [.int .i64 (i : Nat), .int .i64 (r : Nat), .ptr 1 0, .ptr 2 0] ⟨[.map E n, .cells [.mp 0], .cells [.gs 1 n]], fd :: .chg 1 outs :: T⟩
      fun d hp => d = .tup [] ∧ hp = ⟨[.map E n, .cells [.mp 0], .cells [.gs 1 n]], fd :: .chg 1 (outs.set c (.slice (xs ++ [.int .i64 (i : Nat)]) (.tok (c + 2)))) :: T.set c (.per 1 (xs.length + 1))⟩ := by
  refine oe28 3 (n + 2) rfl rfl (by simp [hT]) ?_
  rw [ie28]
  unfold c28
  generalize hrc : RC.regD r28_5 r28_6 = rc at *
  repeat' (first
    | with_reducible first | apply swp_seq | apply swp_reg | apply swp_regD | apply swp_block | apply swp_exit | apply swp_ret | apply swp_skip | apply swp_cd
    | simp only [go_sem, seval, pe28, q28]
    | simp (disch := omega) only [w64, w32, wu8, wu16, wu32, wu64]
    | ((with_reducible apply s_appT); (case he => rfl); (case hK | hc | hr | hV => first | rfl | assumption | omega | ((first | refine ⟨?_, ?_⟩ | skip) <;> first | omega | (simp only [lN, ho] <;> omega)) | (simp [elemsK, D.isVal, D.cells, D.closedL, D.closed, ho]; first | done | omega)))
    | ((with_reducible apply s_appG); (case he => rfl); (case hV | hK | hr | hl => first | rfl | assumption | omega | ((first | refine ⟨?_, ?_⟩ | skip) <;> first | omega | (simp only [lN, ho] <;> omega)) | (simp [elemsK, D.isVal, D.cells, D.closedL, D.closed, ho]; first | done | omega)))
    | ((with_reducible apply s_app0G); (case he => rfl); (case hK | hr => first | rfl | assumption | omega | ((first | refine ⟨?_, ?_⟩ | skip) <;> first | omega | (simp only [lN, ho] <;> omega)) | (simp [elemsK, D.isVal, D.cells, D.closedL, D.closed, ho]; first | done | omega)))
    | ((with_reducible first | apply s_bsl | apply t_bsl); (case he | hl | hc => first | rfl | assumption | omega | ((first | refine ⟨?_, ?_⟩ | skip) <;> first | omega | (simp only [lN, ho] <;> omega)) | (simp [elemsK, D.isVal, D.cells, D.closedL, D.closed, ho]; first | done | omega)))
    | ((with_reducible apply s_mpu); (case h1 | hk => rfl); (case ha | hp => first | rfl | assumption | omega | ((first | refine ⟨?_, ?_⟩ | skip) <;> first | omega | (simp only [lN, ho] <;> omega)) | (simp [elemsK, D.isVal, D.cells, D.closedL, D.closed, ho]; first | done | omega)))
    | ((with_reducible apply s_lkpS); (case h1 | hk => rfl); (case ha | hf => first | rfl | assumption | omega | ((first | refine ⟨?_, ?_⟩ | skip) <;> first | omega | (simp only [lN, ho] <;> omega)) | (simp [elemsK, D.isVal, D.cells, D.closedL, D.closed, ho]; first | done | omega)))
    | ((with_reducible apply s_lkpN); (case h1 | hk => rfl); (case hf | ha => first | rfl | assumption | omega | ((first | refine ⟨?_, ?_⟩ | skip) <;> first | omega | (simp only [lN, ho] <;> omega)) | (simp [elemsK, D.isVal, D.cells, D.closedL, D.closed, ho]; first | done | omega)))
    | with_reducible first | apply cd_dec | apply cd_eq | apply cd_ne | apply cd_split
    | ((with_reducible refine And.intro ?hw ?_); (case hw => first | omega | rfl | exact ⟨_, _, rfl⟩ | assumption | (simp only [lN, ho] <;> omega)))
    | with_reducible intro _)
  all_goals first | omega | skip
  rw [← hrc]
  refine add_reg _ ⟨[.map E n, .cells [.mp 0], .cells [.gs 1 n]], fd :: .chg 1 outs :: T.set c (.per 1 (xs.length + 1))⟩ (.slice xs (.tok (c + 2))) _ _ (xs ++ [.int .i64 (i : Nat)]) (.tok (c + 2)) outs n c i r _ rfl rfl rfl rfl ho hc hx ?_ ?_
  · simp only [opWp]
    refine ⟨[.int .i64 (i : Nat)], rfl, rfl, ⟨?_, ?_⟩, rfl, ?_, ?_⟩
    · simp; omega
    · simp; omega
    · simpa using hTc
    · simp [D.erL, D.er]
  · refine ⟨trivial, _, weak_refl, ?_⟩
    simp
end Go.Proofs.Ytofnggfpegcllaa
end
section
set_option maxRecDepth 100000
set_option linter.unusedSimpArgs false
set_option linter.unusedVariables false
namespace Go.Proofs.Ytofnggfpegcllaa
open Go GoV Go.RowKit
def ixC (L : List Nat) (r : Nat) : Nat := (rtsC L L.length).idxOf r
def plE (L : List Nat) (i : Nat) : List (D × D × Nat) := entG (fun n : Nat => .int .i64 (n : Nat)) (fun r => .int .i64 (ixC L r : Nat)) (rtsC L i) 0
def outD (C : List (List Nat)) : List D := C.mapIdx fun j c => .slice (ints c) (.tok (j + 2))
def perC (C : List (List Nat)) : List Tv := C.map fun c => .per 1 c.length
def compsD (C : List (List Nat)) : List D := C.map fun c => .slice (ints c) .no
theorem rtsC_pre (L : List Nat) {i j : Nat} (h : i ≤ j) : rtsC L i <+: rtsC L j := by
  unfold rtsC
  refine List.IsPrefix.filter _ ?_
  refine ⟨List.range' i (j - i), ?_⟩
  rw [List.range_eq_range', List.range_eq_range']
  have := List.range'_append (s := 0) (m := i) (n := j - i) (step := 1)
  simp at this
  rw [this]; congr 1; omega
theorem rtsC_new {L : List Nat} {i : Nat} (e : lb L i = i) : rtsC L (i + 1) = rtsC L i ++ [i] := by
  unfold rtsC
  rw [List.range_succ, List.filter_append, List.filter_cons, if_pos (by rw [beq_iff_eq]; exact e)]; rfl
theorem rtsC_old {L : List Nat} {i : Nat} (e : lb L i ≠ i) : rtsC L (i + 1) = rtsC L i := by
  unfold rtsC
  rw [List.range_succ, List.filter_append, List.filter_cons, if_neg (by rw [beq_iff_eq]; exact e)]; simp
theorem rtsC_mem {L : List Nat} {i r : Nat} : r ∈ rtsC L i ↔ r < i ∧ lb L r = r := by unfold rtsC; rw [List.mem_filter]; simp
theorem rtsC_nodup (L : List Nat) (i : Nat) : (rtsC L i).Nodup := by unfold rtsC; exact List.nodup_range.filter _
theorem rtsC_le (L : List Nat) (i : Nat) : (rtsC L i).length ≤ i := by
  unfold rtsC
  refine Nat.le_trans (List.length_filter_le _ _) ?_
  simp
theorem ixC_get {L : List Nat} {i c : Nat} (hi : i ≤ L.length) (hc : c < (rtsC L i).length) : ixC L (rtsC L i)[c] = c := by
  obtain ⟨t, ht⟩ := rtsC_pre L hi
  unfold ixC
  have e : (rtsC L i)[c] = (rtsC L L.length)[c]'(by rw [← ht, List.length_append]; omega) := by
    simp only [← ht]
    rw [List.getElem_append_left hc]
  rw [e, (rtsC_nodup L L.length).idxOf_getElem]
theorem outC_len (L : List Nat) (i : Nat) : (outC L i).length = (rtsC L i).length := by simp [outC, rtsC]
theorem outD_len (C : List (List Nat)) : (outD C).length = C.length := by simp [outD]
theorem plE_ok (L : List Nat) (i : Nat) : ((plE L i).all fun e => keyOk (.int .i64) e.1) = true := entG_ok keyInt _ _
theorem plE_new {L : List Nat} {i : Nat} (hi : i < L.length) (e : lb L i = i) : findM (.int .i64 (i : Nat)) (plE L i) 0 = none ∧ putM (plE L i) (rtsC L i).length (.int .i64 (i : Nat)) (.int .i64 ((rtsC L i).length : Nat)) = .map (plE L (i + 1)) ((rtsC L i).length + 1) := by
  have hn : i ∉ rtsC L i := fun h => by have := (rtsC_mem.1 h).1; omega
  refine ⟨entG_none keyInt hn, ?_⟩
  have := entG_new (vf := fun r : Nat => .int .i64 (ixC L r : Nat)) keyInt (.int .i64 ((rtsC L i).length : Nat)) hn
  unfold plE
  rw [this, rtsC_new e]
  have hix : ixC L i = (rtsC L i).length := by
    have h1 : (rtsC L (i + 1)).length = (rtsC L i).length + 1 := by rw [rtsC_new e, List.length_append]; rfl
    have := ixC_get (L := L) (i := i + 1) (c := (rtsC L i).length) (by omega) (by omega)
    simp only [rtsC_new e] at this
    simpa using this
  have hu : upd (fun r : Nat => D.int .i64 (ixC L r : Nat)) i (.int .i64 ((rtsC L i).length : Nat)) = fun r => .int .i64 (ixC L r : Nat) := by
    funext r
    unfold upd
    split
    · rename_i q; subst q; rw [hix]
    · rfl
  rw [hu]
theorem plE_old {L : List Nat} (hL : Lo L) {i : Nat} (hi : i < L.length) (e : lb L i ≠ i) : ∃ j c, findM (.int .i64 (lb L i : Nat)) (plE L i) 0 = some (j, .int .i64 (c : Nat)) ∧ ∃ h : c < (rtsC L i).length, (rtsC L i)[c] = lb L i := by
  obtain ⟨h1, h2⟩ := hL i hi
  have hm : lb L i ∈ rtsC L i := rtsC_mem.2 ⟨by omega, h2⟩
  obtain ⟨j, hj⟩ := entG_some (vf := fun r : Nat => .int .i64 (ixC L r : Nat)) keyInt hm
  obtain ⟨c, hc, hcr⟩ := List.getElem_of_mem hm
  refine ⟨j, c, ?_, hc, hcr⟩
  unfold plE
  rw [hj, ← hcr, ixC_get (by omega) hc]
def cH (L : List Nat) (i : Nat) (F : List Nat) : Hp :=
  if i = 0 then ⟨[.map [] 0, .cells [.mp 0], .cells [.lit (.slice none 0 0)]], [.chg 1 (ints F)]⟩
  else ⟨[.map (plE L i) (rtsC L i).length, .cells [.mp 0], .cells [.gs 1 (rtsC L i).length]], .chg 1 (ints F) :: .chg 1 (outD (outC L i)) :: perC (outC L i)⟩
theorem add_e {L : List Nat} (hL : Lo L) {i : Nat} (hi : i < L.length) (hN : L.length ≤ 1000) (F : List Nat) :
    Eff M 28 [.int .i64 (i : Nat), .int .i64 (lb L i : Nat), .ptr 1 0, .ptr 2 0] (cH L i F) fun d hp => d = .tup [] ∧ hp = cH L (i + 1) F := by
  have hok := plE_ok L i
  have hol := outC_len L i
  have hle := rtsC_le L i
  unfold cH
  rw [if_neg (show i + 1 ≠ 0 by omega)]
  by_cases e : lb L i = i
  · obtain ⟨h1, h2⟩ := plE_new hi e
    have ho := outC_new hL hi e
    rw [rtsC_new e, ho, e]
    have d1 : outD (outC L i ++ [[i]]) = outD (outC L i) ++ [.slice [.int .i64 (i : Nat)] (.tok ((rtsC L i).length + 2))] := by
      unfold outD; rw [List.mapIdx_append]; simp [ints, hol]
    have d2 : perC (outC L i ++ [[i]]) = perC (outC L i) ++ [.per 1 1] := by simp [perC]
    rw [d1, d2, List.length_append]
    by_cases h0 : i = 0
    · subst h0
      have r0 : rtsC L 0 = [] := rfl
      have o0 : outC L 0 = [] := rfl
      have p0 : plE L 0 = [] := rfl
      rw [if_pos rfl, r0, o0]
      rw [r0, p0] at h2
      rw [p0] at h1 hok
      exact add_first (i := 0) hok h1 h2
    · rw [if_neg h0]
      exact add_new hok h1 h2 (by rw [outD_len, hol]) (by simp [perC, hol]) (by omega)
  · obtain ⟨j, c, h1, hc, hcr⟩ := plE_old hL hi e
    have h0 : i ≠ 0 := fun q => by subst q; have := (hL 0 hi).1; omega
    have ho := outC_old hL hi e hc hcr
    have hpl : plE L (i + 1) = plE L i := by unfold plE; rw [rtsC_old e]
    rw [if_neg h0, rtsC_old e, hpl, ho]
    have hco : c < (outC L i).length := by omega
    have hget : (outC L i).getD c [] = (outC L i)[c] := by simp [List.getD, hco]
    have hx : (outD (outC L i)).getD c .undef = .slice (ints (outC L i)[c]) (.tok (c + 2)) := by simp [outD, List.getD, hco]
    have hl1 : ((outC L i)[c]).length ≤ 1000 := by
      have : (outC L i)[c] = (List.range i).filter fun x => lb L x == (rtsC L i)[c] := by simp [outC, rtsC]
      rw [this]
      refine Nat.le_trans (List.length_filter_le _ _) ?_
      simp; omega
    have := add_old (i := i) (r := lb L i) (T := perC (outC L i)) (fd := .chg 1 (ints F)) hok h1 (by rw [outD_len, hol]) (by simp [perC, hol]) (by omega) hc hx (by simp [perC, hco, ints_len]) (by rw [ints_len]; exact hl1)
    have d1 : outD ((outC L i).set c ((outC L i).getD c [] ++ [i])) = (outD (outC L i)).set c (.slice (ints (outC L i)[c] ++ [.int .i64 (i : Nat)]) (.tok (c + 2))) := by
      unfold outD; rw [List.mapIdx_set, hget]; simp [ints]
    have d2 : perC ((outC L i).set c ((outC L i).getD c [] ++ [i])) = (perC (outC L i)).set c (.per 1 ((ints (outC L i)[c]).length + 1)) := by
      unfold perC; rw [List.map_set, hget]; simp [ints_len]
    rw [d1, d2]
    exact this
end Go.Proofs.Ytofnggfpegcllaa
end
section
set_option maxRecDepth 100000
set_option linter.unusedSimpArgs false
set_option linter.unusedVariables false
namespace Go.Proofs.Ytofnggfpegcllaa
open Go GoV Go.RowKit
set_option maxHeartbeats 2000000 in
theorem components_p (l : List Rp) (hl : l.length ≤ 1000) (hs : Small l) : Pur M 13 [rpsD l] (.slice (compsD (comps (namesL l))) .no) := by
  have cl := linked_e l hl hs
  have hfo := foF_fo (namesL l)
  have hlo := labs_lo (namesL l)
  have hln : (labs (namesL l)).length = l.length := by rw [labs_len, namesL_len]
  have hlen : (l.map rpD).length = l.length := by simp
  unfold comps
  have hcomps : compsL (labs (namesL l)) = outC (labs (namesL l)) l.length := by rw [← hln]; rfl
  rw [hcomps]
  have hF0 : (lnkF (namesL l) l.length).1 = foF (namesL l) := by unfold foF; rw [namesL_len]
  rw [hF0] at cl
  have hrnE := fun β τ => eF_rn β τ (lnkF (namesL l) l.length).2
  generalize (lnkF (namesL l) l.length).2 = MF at *
  generalize foF (namesL l) = F0 at *
  generalize labs (namesL l) = L at *
  generalize eF MF = EF at *
  have hclr := closedL_R l
  have herr := erL_R l
  have hcl2 : ∀ C : List (List Nat), D.closedL (compsD C) = true ∧ D.erL (compsD C) = compsD C := fun C => by
    induction C with
    | nil => exact ⟨rfl, rfl⟩
    | cons c C ih => simp [compsD, D.closedL, D.erL, D.closed, D.er] at ih ⊢; exact ih
  have hrn := fun β τ F => ints_rn β τ F
  by_cases h0 : l.length = 0
  · have ho : outC L l.length = [] := by rw [h0]; rfl
    rw [ho]
    refine pur_res (d := .lit (.slice none 0 0)) ?_ rfl
    refine ow13 rfl ?_
    rw [i13]
    unfold c13
    repeat' (first
    | with_reducible first | apply swp_seq | apply swp_reg | apply swp_regD | apply swp_block | apply swp_exit | apply swp_ret | apply swp_skip | apply swp_cd
    | simp only [go_sem, seval, P13, q13, hrn, hrnE, o_newM]
    | simp (disch := omega) only [w64, w32, wu8, wu16, wu32, wu64]
    | ((with_reducible refine o_eff [] [] (cl) ?hs ?he ?hh ?_); (case hs => exact ⟨by simp, by simp, by simp, by simp⟩); (case he => first | rfl | (simp [go_sem, seval, hrn, Hp.back, putAt, bakF, Blk.rnL, Blk.rn, Tv.rnL, Tv.rn, D.rnL, D.rn, Own.rn, hrnE]; done)); (case hh => first | rfl | (simp [go_sem, seval, hrn, Hp.back, putAt, bakF, Blk.rnL, Blk.rn, Tv.rnL, Tv.rn, D.rnL, D.rn, Own.rn, hrnE]; done)); rintro _ _ ⟨rfl, rfl⟩)
    | with_reducible first | apply cd_dec | apply cd_eq | apply cd_ne | apply cd_split
    | ((with_reducible refine And.intro ?hw ?_); (case hw => first | omega | rfl | exact ⟨_, _, rfl⟩ | assumption | (simp only [lN, hrn, Hp.back, putAt, bakF, Blk.rnL, Blk.rn, Tv.rnL, Tv.rn, D.rnL, D.rn, Own.rn, hrnE] <;> omega)))
    | with_reducible intro _)
    all_goals first | omega | skip
    refine swp_fam [2, 3, 4, 5, 6, 8, 9] (fun _ : Unit => ⟨[.undef, .undef, .gs 0 l.length, .fn (.func 27) [.gs 0 l.length] [], .ptr 2 0, .ptr 3 0, .fn (.func 28) [] [.ptr 2 0, .ptr 3 0], .undef, .int .i64 l.length, .int .i64 0, .undef], [], ⟨[.map EF MF.length, .map [] 0, .cells [.mp 1], .cells [.lit (.slice none 0 0)]], [.chg 1 (ints F0)]⟩⟩) (fun _ => True) (fun _ => 0) () trivial ?_ ?_
    · simp [keepE, St.keep]
    · intro _ _
      have t0 : decide ((0 : Int) < l.length) = false := by rw [h0]; rfl
      repeat' (first
    | with_reducible first | apply swp_seq | apply swp_reg | apply swp_regD | apply swp_block | apply swp_exit | apply swp_ret | apply swp_skip | apply swp_cd
    | simp only [go_sem, seval, P13, q13, t0, o_newM]
    | simp (disch := omega) only [w64, w32, wu8, wu16, wu32, wu64]
    | with_reducible first | apply cd_dec | apply cd_eq | apply cd_ne | apply cd_split
    | ((with_reducible refine And.intro ?hw ?_); (case hw => first | omega | rfl | exact ⟨_, _, rfl⟩ | assumption | (simp only [lN] <;> omega)))
    | with_reducible intro _)
      all_goals first | omega | skip
      exact ⟨_, weak_refl, by simp [D.closed], by simp [D.er]⟩
  · refine ow13 rfl ?_
    rw [i13]
    unfold c13
    repeat' (first
    | with_reducible first | apply swp_seq | apply swp_reg | apply swp_regD | apply swp_block | apply swp_exit | apply swp_ret | apply swp_skip | apply swp_cd
    | simp only [go_sem, seval, P13, q13, hrn, hrnE, o_newM]
    | simp (disch := omega) only [w64, w32, wu8, wu16, wu32, wu64]
    | ((with_reducible refine o_eff [] [] (cl) ?hs ?he ?hh ?_); (case hs => exact ⟨by simp, by simp, by simp, by simp⟩); (case he => first | rfl | (simp [go_sem, seval, hrn, Hp.back, putAt, bakF, Blk.rnL, Blk.rn, Tv.rnL, Tv.rn, D.rnL, D.rn, Own.rn, hrnE]; done)); (case hh => first | rfl | (simp [go_sem, seval, hrn, Hp.back, putAt, bakF, Blk.rnL, Blk.rn, Tv.rnL, Tv.rn, D.rnL, D.rn, Own.rn, hrnE]; done)); rintro _ _ ⟨rfl, rfl⟩)
    | with_reducible first | apply cd_dec | apply cd_eq | apply cd_ne | apply cd_split
    | ((with_reducible refine And.intro ?hw ?_); (case hw => first | omega | rfl | exact ⟨_, _, rfl⟩ | assumption | (simp only [lN, hrn, Hp.back, putAt, bakF, Blk.rnL, Blk.rn, Tv.rnL, Tv.rn, D.rnL, D.rn, Own.rn, hrnE] <;> omega)))
    | with_reducible intro _)
    all_goals first | omega | skip
    refine swp_weak (weak_trans (weak_keep [2, 3, 4, 5, 6, 8, 9]) (weak_sel [1, 2, 3] [0] ⟨by simp, by simp, by simp, by simp⟩ rfl rfl)) ?_
    simp only [keepE, St.sel, Hp.sel, D.rnL, D.rn, posF, idx, Blk.rn, Blk.rnL, Tv.rnL, Own.rn, pairs, List.map_cons, List.map_nil, List.getD_cons_zero, List.getD_cons_succ, Tv.rn, hrn]
    refine swp_fam [2, 3, 4, 5, 6, 8, 9] (fun p : Nat × List Nat => ⟨[.undef, .undef, .gs 0 l.length, .fn (.func 27) [.gs 0 l.length] [], .ptr 1 0, .ptr 2 0, .fn (.func 28) [] [.ptr 1 0, .ptr 2 0], .undef, .int .i64 l.length, .int .i64 p.1, .undef], [], cH L p.1 p.2⟩) (fun p => p.1 ≤ l.length ∧ Fo p.2 L) (fun p => l.length - p.1) (0, F0) ⟨by omega, hfo⟩ ?_ ?_
    · simp [keepE, St.keep, cH, D.rn, D.rnL, posF, idx]
    · rintro ⟨i, F⟩ ⟨hi, hF⟩
      simp only at hi hF ⊢
      by_cases hil : i < l.length
      · have t0 : decide (((i : Nat) : Int) < l.length) = true := by simp; omega
        have cr := root_e hlo hF (by omega) (i := i) (by omega)
        rw [rt_root hlo hF (by omega), hF.len, hln] at cr
        have ca := add_e hlo (i := i) (by omega) (by omega) (rt F i).1
        have hF2 := rt_fo hlo hF (i := i) (by omega)
        have hsel : (cH L i F).sel [] [0] = ⟨[], [.chg 1 (ints F)]⟩ := by
          unfold cH; split <;> simp [Hp.sel, Blk.rnL, Tv.rnL, Tv.rn, hrn]
        have hbk : (cH L i F).back [] [0] ⟨[], [.chg 1 (ints (rt F i).1)]⟩ = cH L i (rt F i).1 := by
          unfold cH; split <;> simp [Hp.back, putAt, bakF, Blk.rnL, Tv.rnL, Tv.rn, hrn]
        have hso : SelOk (cH L i F) [] [0] := by unfold cH; split <;> exact ⟨by simp, by simp, by simp, by simp⟩
        repeat' (first
    | with_reducible first | apply swp_seq | apply swp_reg | apply swp_regD | apply swp_block | apply swp_exit | apply swp_ret | apply swp_skip | apply swp_cd
    | simp only [go_sem, seval, P13, q13, t0, o_newM]
    | simp (disch := omega) only [w64, w32, wu8, wu16, wu32, wu64]
    | with_reducible first | apply cd_dec | apply cd_eq | apply cd_ne | apply cd_split
    | ((with_reducible refine And.intro ?hw ?_); (case hw => first | omega | rfl | exact ⟨_, _, rfl⟩ | assumption | (simp only [lN] <;> omega)))
    | with_reducible intro _)
        refine o_eff [] [0] cr hso rfl hsel ?_
        rintro _ _ ⟨rfl, rfl⟩
        simp only
        rw [hbk]
        simp only [D.rn]
        repeat' (first
    | with_reducible first | apply swp_seq | apply swp_reg | apply swp_regD | apply swp_block | apply swp_exit | apply swp_ret | apply swp_skip | apply swp_cd
    | simp only [go_sem, seval, P13, q13, t0, o_newM]
    | simp (disch := omega) only [w64, w32, wu8, wu16, wu32, wu64]
    | ((with_reducible refine o_same (ca) ?he ?hh ?_); (case he => first | rfl | (simp [go_sem, seval]; done)); (case hh => first | rfl | (simp [go_sem, seval]; done)))
    | with_reducible first | apply cd_dec | apply cd_eq | apply cd_ne | apply cd_split
    | ((with_reducible refine And.intro ?hw ?_); (case hw => first | omega | rfl | exact ⟨_, _, rfl⟩ | assumption | (simp only [lN] <;> omega)))
    | with_reducible intro _)
        all_goals first | omega | skip
        exact ⟨(i + 1, (rt F i).1), ⟨by simp only; omega, hF2⟩, by simp only; omega, by simp [keepE, St.keep]⟩
      · have t0 : decide (((i : Nat) : Int) < l.length) = false := by simp; omega
        have : i = l.length := by omega
        subst this
        have hcH : cH L l.length F = ⟨[.map (plE L l.length) (rtsC L l.length).length, .cells [.mp 0], .cells [.gs 1 (rtsC L l.length).length]], .chg 1 (ints F) :: .chg 1 (outD (outC L l.length)) :: perC (outC L l.length)⟩ := by unfold cH; rw [if_neg h0]
        rw [hcH]
        have hol := outC_len L l.length
        rw [← hol]
        generalize outC L l.length = C at *
        clear hcH
        repeat' (first
    | with_reducible first | apply swp_seq | apply swp_reg | apply swp_regD | apply swp_block | apply swp_exit | apply swp_ret | apply swp_skip | apply swp_cd
    | simp only [go_sem, seval, P13, q13, t0, o_newM]
    | simp (disch := omega) only [w64, w32, wu8, wu16, wu32, wu64]
    | with_reducible first | apply cd_dec | apply cd_eq | apply cd_ne | apply cd_split
    | ((with_reducible refine And.intro ?hw ?_); (case hw => first | omega | rfl | exact ⟨_, _, rfl⟩ | assumption | (simp only [lN] <;> omega)))
    | with_reducible intro _)
        all_goals first | omega | skip
        have hdl := outD_len C
        have hcc : ∀ (C : List (List Nat)) (f : Nat → GoV.Own), D.closedL (C.mapIdx fun j c => .slice (ints c) (f j)) = true ∧ D.erL (C.mapIdx fun j c => .slice (ints c) (f j)) = compsD C := fun C => by
          induction C with
          | nil => exact fun _ => ⟨rfl, rfl⟩
          | cons c C ih =>
            intro f
            have := ih fun j => f (j + 1)
            rw [List.mapIdx_cons]
            simp only [D.closedL, D.erL, D.closed, D.er, Bool.true_and, compsD, List.map_cons] at this ⊢
            exact ⟨this.1, by rw [this.2]⟩
        obtain ⟨k1, k2⟩ := hcc C fun j => .tok (j + 2)
        have hch : ∀ C : List (List Nat), chunk 1 C.length (compsD C) = compsD C := fun C => by
          induction C with
          | nil => rfl
          | cons c C ih =>
            simp only [compsD, List.map_cons, List.length_cons, chunk, List.drop_succ_cons, List.drop_zero] at ih ⊢
            rw [ih]; rfl
        have hel : ∀ C : List (List Nat), elemsK 1 (compsD C) = true := fun C => elemsK_map (fun c : List Nat => D.slice (ints c) .no) 1 (fun _ => ⟨rfl, rfl⟩) C
        have k2' : D.erL (outD C) = compsD C := k2
        refine ⟨_, weak_trans (weak_keep [1]) (weak_frzT 1 1 C.length (outD C) rfl (by rw [hdl, Nat.mul_one]) (Nat.zero_le _) k1 ?_), ?_⟩
        · rw [k2', hch]; exact hel C
        · rw [k2']
          obtain ⟨m1, m2⟩ := hcl2 C
          simp [St.frzT, keepE, D.fzt, hch, D.closed, D.er]
end Go.Proofs.Ytofnggfpegcllaa
end
section
set_option maxRecDepth 100000
set_option linter.unusedSimpArgs false
set_option linter.unusedVariables false
namespace Go.Proofs.Ytofnggfpegcllaa
open Go GoV Go.RowKit
theorem cl_ints (F : List Nat) : D.closedL (ints F) = true := by induction F with | nil => rfl | cons x l ih => simp_all [ints, D.closedL, D.closed]
theorem er_ints (F : List Nat) : D.erL (ints F) = ints F := by induction F with | nil => rfl | cons x l ih => simp_all [ints, D.erL, D.er]
theorem elems_ints (F : List Nat) : elemsK 1 (ints F) = true := elemsK_map (fun n : Nat => D.int .i64 (n : Nat)) 1 (fun _ => ⟨rfl, rfl⟩) F
def filtL (L : List Nat) (k i : Nat) : List Nat := (List.range i).filter fun j => lb L j == lb L k
theorem filtL_le (L : List Nat) (k i : Nat) : (filtL L k i).length ≤ i := by
  unfold filtL
  refine Nat.le_trans (List.length_filter_le _ _) ?_
  simp
theorem filtL_in {L : List Nat} {k i : Nat} (h : lb L i = lb L k) : filtL L k (i + 1) = filtL L k i ++ [i] := by
  unfold filtL
  rw [List.range_succ, List.filter_append, List.filter_cons, if_pos (by rw [beq_iff_eq]; exact h)]; rfl
theorem filtL_out {L : List Nat} {k i : Nat} (h : lb L i ≠ lb L k) : filtL L k (i + 1) = filtL L k i := by
  unfold filtL
  rw [List.range_succ, List.filter_append, List.filter_cons, if_neg (by rw [beq_iff_eq]; exact h)]; simp
set_option maxHeartbeats 2000000 in
theorem of_p (l : List Rp) (hl : l.length ≤ 1000) (hs : Small l) (part : Nm) : Pur M 16 [rpsD l, .str part] (.slice (ints (ofP (namesL l) part)) .no) := by
  have cl := linked_e l hl hs
  have hfo := foF_fo (namesL l)
  have hlo := labs_lo (namesL l)
  have hln : (labs (namesL l)).length = l.length := by rw [labs_len, namesL_len]
  have hlen : (l.map rpD).length = l.length := by simp
  have hF0 : (lnkF (namesL l) l.length).1 = foF (namesL l) := by unfold foF; rw [namesL_len]
  have hfirst := (inv_lnk (namesL l) l.length).first part
  have hlk : look (lnk (namesL l) (namesL l).length).2 part = look (lnkF (namesL l) l.length).2 part := by rw [lnkF_first, namesL_len]
  rw [← lnkF_first] at hfirst
  unfold ofP
  rw [hlk, namesL_len]
  rw [hF0] at cl
  have hok := eF_ok (lnkF (namesL l) l.length).2
  have hN := eF_none (F := (lnkF (namesL l) l.length).2) (s := part)
  have hS := fun k => eF_some (F := (lnkF (namesL l) l.length).2) (s := part) (k := k)
  have hrnE := fun β τ => eF_rn β τ (lnkF (namesL l) l.length).2
  generalize (lnkF (namesL l) l.length).2 = MF at *
  generalize foF (namesL l) = F0 at *
  generalize labs (namesL l) = L at *
  generalize eF MF = EF at *
  have hclr := closedL_R l
  have herr := erL_R l
  have hrn := fun β τ F => ints_rn β τ F
  refine ow16 rfl ?_
  rw [i16]
  unfold c16
  cases hk : look MF part with
  | none =>
    have hf := hN hk
    repeat' (first
    | with_reducible first | apply swp_seq | apply swp_reg | apply swp_regD | apply swp_block | apply swp_exit | apply swp_ret | apply swp_skip | apply swp_cd
    | simp only [go_sem, seval, P16, q16, hrn, hrnE]
    | simp (disch := omega) only [w64, w32, wu8, wu16, wu32, wu64]
    | ((with_reducible refine o_eff [] [] (cl) ?hs ?he ?hh ?_); (case hs => exact ⟨by simp, by simp, by simp, by simp⟩); (case he => first | rfl | (simp [go_sem, seval, hrn, Hp.back, putAt, bakF, Blk.rnL, Blk.rn, Tv.rnL, Tv.rn, D.rnL, D.rn, Own.rn, hrnE, hok, hf]; done)); (case hh => first | rfl | (simp [go_sem, seval, hrn, Hp.back, putAt, bakF, Blk.rnL, Blk.rn, Tv.rnL, Tv.rn, D.rnL, D.rn, Own.rn, hrnE, hok, hf]; done)); rintro _ _ ⟨rfl, rfl⟩)
    | ((with_reducible apply s_appT); (case he => rfl); (case hK | hc | hr | hV => first | rfl | assumption | omega | ((first | refine ⟨?_, ?_⟩ | skip) <;> first | omega | (simp only [lN, hrn, Hp.back, putAt, bakF, Blk.rnL, Blk.rn, Tv.rnL, Tv.rn, D.rnL, D.rn, Own.rn, hrnE, hok, hf] <;> omega)) | (simp [elemsK, D.isVal, D.cells, D.closedL, D.closed, hrn, Hp.back, putAt, bakF, Blk.rnL, Blk.rn, Tv.rnL, Tv.rn, D.rnL, D.rn, Own.rn, hrnE, hok, hf]; first | done | omega)))
    | ((with_reducible apply s_appG); (case he => rfl); (case hV | hK | hr | hl => first | rfl | assumption | omega | ((first | refine ⟨?_, ?_⟩ | skip) <;> first | omega | (simp only [lN, hrn, Hp.back, putAt, bakF, Blk.rnL, Blk.rn, Tv.rnL, Tv.rn, D.rnL, D.rn, Own.rn, hrnE, hok, hf] <;> omega)) | (simp [elemsK, D.isVal, D.cells, D.closedL, D.closed, hrn, Hp.back, putAt, bakF, Blk.rnL, Blk.rn, Tv.rnL, Tv.rn, D.rnL, D.rn, Own.rn, hrnE, hok, hf]; first | done | omega)))
    | ((with_reducible apply s_app0); (case he => rfl); (case hK | hc | hr => first | rfl | assumption | omega | ((first | refine ⟨?_, ?_⟩ | skip) <;> first | omega | (simp only [lN, hrn, Hp.back, putAt, bakF, Blk.rnL, Blk.rn, Tv.rnL, Tv.rn, D.rnL, D.rn, Own.rn, hrnE, hok, hf] <;> omega)) | (simp [elemsK, D.isVal, D.cells, D.closedL, D.closed, hrn, Hp.back, putAt, bakF, Blk.rnL, Blk.rn, Tv.rnL, Tv.rn, D.rnL, D.rn, Own.rn, hrnE, hok, hf]; first | done | omega)))
    | ((with_reducible apply s_appF); (case he => rfl); (case hK | hc | hr | hx | hn => first | rfl | assumption | omega | ((first | refine ⟨?_, ?_⟩ | skip) <;> first | omega | (simp only [lN, hrn, Hp.back, putAt, bakF, Blk.rnL, Blk.rn, Tv.rnL, Tv.rn, D.rnL, D.rn, Own.rn, hrnE, hok, hf] <;> omega)) | (simp [elemsK, D.isVal, D.cells, D.closedL, D.closed, hrn, Hp.back, putAt, bakF, Blk.rnL, Blk.rn, Tv.rnL, Tv.rn, D.rnL, D.rn, Own.rn, hrnE, hok, hf]; first | done | omega)))
    | ((with_reducible apply s_bsl); (case he | hl | hc => first | rfl | assumption | omega | ((first | refine ⟨?_, ?_⟩ | skip) <;> first | omega | (simp only [lN, hrn, Hp.back, putAt, bakF, Blk.rnL, Blk.rn, Tv.rnL, Tv.rn, D.rnL, D.rn, Own.rn, hrnE, hok, hf] <;> omega)) | (simp [elemsK, D.isVal, D.cells, D.closedL, D.closed, hrn, Hp.back, putAt, bakF, Blk.rnL, Blk.rn, Tv.rnL, Tv.rn, D.rnL, D.rn, Own.rn, hrnE, hok, hf]; first | done | omega)))
    | ((with_reducible apply s_lkpS); (case h1 | hk => rfl); (case ha | hf => first | rfl | assumption | omega | ((first | refine ⟨?_, ?_⟩ | skip) <;> first | omega | (simp only [lN, hrn, Hp.back, putAt, bakF, Blk.rnL, Blk.rn, Tv.rnL, Tv.rn, D.rnL, D.rn, Own.rn, hrnE, hok, hf] <;> omega)) | (simp [elemsK, D.isVal, D.cells, D.closedL, D.closed, hrn, Hp.back, putAt, bakF, Blk.rnL, Blk.rn, Tv.rnL, Tv.rn, D.rnL, D.rn, Own.rn, hrnE, hok, hf]; first | done | omega)))
    | ((with_reducible apply s_lkpN); (case h1 | hk => rfl); (case hf | ha => first | rfl | assumption | omega | ((first | refine ⟨?_, ?_⟩ | skip) <;> first | omega | (simp only [lN, hrn, Hp.back, putAt, bakF, Blk.rnL, Blk.rn, Tv.rnL, Tv.rn, D.rnL, D.rn, Own.rn, hrnE, hok, hf] <;> omega)) | (simp [elemsK, D.isVal, D.cells, D.closedL, D.closed, hrn, Hp.back, putAt, bakF, Blk.rnL, Blk.rn, Tv.rnL, Tv.rn, D.rnL, D.rn, Own.rn, hrnE, hok, hf]; first | done | omega)))
    | with_reducible first | apply cd_dec | apply cd_eq | apply cd_ne | apply cd_split
    | ((with_reducible refine And.intro ?hw ?_); (case hw => first | omega | rfl | exact ⟨_, _, rfl⟩ | assumption | (simp only [lN, hrn, Hp.back, putAt, bakF, Blk.rnL, Blk.rn, Tv.rnL, Tv.rn, D.rnL, D.rn, Own.rn, hrnE, hok, hf] <;> omega)))
    | with_reducible intro _)
    all_goals first | omega | skip
    exact ⟨_, weak_nn, by simp [D.nnL, D.nn, D.closed], by simp [D.nnL, D.nn, D.er, ints]⟩
  | some k =>
    obtain ⟨q, hf⟩ := hS k hk
    have hkl := (hfirst k hk).1
    show SWp C16 _ (fun e s => _ ∧ ∃ s1, Weak C16 s s1 ∧ rrsWp q16 s1 fun ds => D.closed (oneOrTup ds) = true ∧ (oneOrTup ds).er = .slice (ints (filtL L k l.length)) .no) _
    repeat' (first
    | with_reducible first | apply swp_seq | apply swp_reg | apply swp_regD | apply swp_block | apply swp_exit | apply swp_ret | apply swp_skip | apply swp_cd
    | simp only [go_sem, seval, P16, q16, hrn, hrnE]
    | simp (disch := omega) only [w64, w32, wu8, wu16, wu32, wu64]
    | ((with_reducible refine o_eff [] [] (cl) ?hs ?he ?hh ?_); (case hs => exact ⟨by simp, by simp, by simp, by simp⟩); (case he => first | rfl | (simp [go_sem, seval, hrn, Hp.back, putAt, bakF, Blk.rnL, Blk.rn, Tv.rnL, Tv.rn, D.rnL, D.rn, Own.rn, hrnE, hok, hf]; done)); (case hh => first | rfl | (simp [go_sem, seval, hrn, Hp.back, putAt, bakF, Blk.rnL, Blk.rn, Tv.rnL, Tv.rn, D.rnL, D.rn, Own.rn, hrnE, hok, hf]; done)); rintro _ _ ⟨rfl, rfl⟩)
    | ((with_reducible apply s_appT); (case he => rfl); (case hK | hc | hr | hV => first | rfl | assumption | omega | ((first | refine ⟨?_, ?_⟩ | skip) <;> first | omega | (simp only [lN, hrn, Hp.back, putAt, bakF, Blk.rnL, Blk.rn, Tv.rnL, Tv.rn, D.rnL, D.rn, Own.rn, hrnE, hok, hf] <;> omega)) | (simp [elemsK, D.isVal, D.cells, D.closedL, D.closed, hrn, Hp.back, putAt, bakF, Blk.rnL, Blk.rn, Tv.rnL, Tv.rn, D.rnL, D.rn, Own.rn, hrnE, hok, hf]; first | done | omega)))
    | ((with_reducible apply s_appG); (case he => rfl); (case hV | hK | hr | hl => first | rfl | assumption | omega | ((first | refine ⟨?_, ?_⟩ | skip) <;> first | omega | (simp only [lN, hrn, Hp.back, putAt, bakF, Blk.rnL, Blk.rn, Tv.rnL, Tv.rn, D.rnL, D.rn, Own.rn, hrnE, hok, hf] <;> omega)) | (simp [elemsK, D.isVal, D.cells, D.closedL, D.closed, hrn, Hp.back, putAt, bakF, Blk.rnL, Blk.rn, Tv.rnL, Tv.rn, D.rnL, D.rn, Own.rn, hrnE, hok, hf]; first | done | omega)))
    | ((with_reducible apply s_app0); (case he => rfl); (case hK | hc | hr => first | rfl | assumption | omega | ((first | refine ⟨?_, ?_⟩ | skip) <;> first | omega | (simp only [lN, hrn, Hp.back, putAt, bakF, Blk.rnL, Blk.rn, Tv.rnL, Tv.rn, D.rnL, D.rn, Own.rn, hrnE, hok, hf] <;> omega)) | (simp [elemsK, D.isVal, D.cells, D.closedL, D.closed, hrn, Hp.back, putAt, bakF, Blk.rnL, Blk.rn, Tv.rnL, Tv.rn, D.rnL, D.rn, Own.rn, hrnE, hok, hf]; first | done | omega)))
    | ((with_reducible apply s_appF); (case he => rfl); (case hK | hc | hr | hx | hn => first | rfl | assumption | omega | ((first | refine ⟨?_, ?_⟩ | skip) <;> first | omega | (simp only [lN, hrn, Hp.back, putAt, bakF, Blk.rnL, Blk.rn, Tv.rnL, Tv.rn, D.rnL, D.rn, Own.rn, hrnE, hok, hf] <;> omega)) | (simp [elemsK, D.isVal, D.cells, D.closedL, D.closed, hrn, Hp.back, putAt, bakF, Blk.rnL, Blk.rn, Tv.rnL, Tv.rn, D.rnL, D.rn, Own.rn, hrnE, hok, hf]; first | done | omega)))
    | ((with_reducible apply s_bsl); (case he | hl | hc => first | rfl | assumption | omega | ((first | refine ⟨?_, ?_⟩ | skip) <;> first | omega | (simp only [lN, hrn, Hp.back, putAt, bakF, Blk.rnL, Blk.rn, Tv.rnL, Tv.rn, D.rnL, D.rn, Own.rn, hrnE, hok, hf] <;> omega)) | (simp [elemsK, D.isVal, D.cells, D.closedL, D.closed, hrn, Hp.back, putAt, bakF, Blk.rnL, Blk.rn, Tv.rnL, Tv.rn, D.rnL, D.rn, Own.rn, hrnE, hok, hf]; first | done | omega)))
    | ((with_reducible apply s_lkpS); (case h1 | hk => rfl); (case ha | hf => first | rfl | assumption | omega | ((first | refine ⟨?_, ?_⟩ | skip) <;> first | omega | (simp only [lN, hrn, Hp.back, putAt, bakF, Blk.rnL, Blk.rn, Tv.rnL, Tv.rn, D.rnL, D.rn, Own.rn, hrnE, hok, hf] <;> omega)) | (simp [elemsK, D.isVal, D.cells, D.closedL, D.closed, hrn, Hp.back, putAt, bakF, Blk.rnL, Blk.rn, Tv.rnL, Tv.rn, D.rnL, D.rn, Own.rn, hrnE, hok, hf]; first | done | omega)))
    | ((with_reducible apply s_lkpN); (case h1 | hk => rfl); (case hf | ha => first | rfl | assumption | omega | ((first | refine ⟨?_, ?_⟩ | skip) <;> first | omega | (simp only [lN, hrn, Hp.back, putAt, bakF, Blk.rnL, Blk.rn, Tv.rnL, Tv.rn, D.rnL, D.rn, Own.rn, hrnE, hok, hf] <;> omega)) | (simp [elemsK, D.isVal, D.cells, D.closedL, D.closed, hrn, Hp.back, putAt, bakF, Blk.rnL, Blk.rn, Tv.rnL, Tv.rn, D.rnL, D.rn, Own.rn, hrnE, hok, hf]; first | done | omega)))
    | with_reducible first | apply cd_dec | apply cd_eq | apply cd_ne | apply cd_split
    | ((with_reducible refine And.intro ?hw ?_); (case hw => first | omega | rfl | exact ⟨_, _, rfl⟩ | assumption | (simp only [lN, hrn, Hp.back, putAt, bakF, Blk.rnL, Blk.rn, Tv.rnL, Tv.rn, D.rnL, D.rn, Own.rn, hrnE, hok, hf] <;> omega)))
    | with_reducible intro _)
    all_goals first | omega | skip
    refine swp_weak (weak_trans (weak_keep [3, 5, 7, 10, 11]) (weak_new 7 1 (by omega) false rfl)) ?_
    simp only [keepE]
    refine swp_fam [3, 5, 7, 10, 11] (fun p : Nat × List Nat => ⟨[.undef, .undef, .undef, .gs 0 l.length, .undef, .int .i64 (k : Nat), .undef, .slice (ints (filtL L k p.1)) (.tok 1), .undef, .undef, .int .i64 l.length, .int .i64 p.1, .undef, .undef], [], ⟨[.map EF MF.length], [.chg 1 (ints p.2), .per 1 (filtL L k p.1).length]⟩⟩) (fun p => p.1 ≤ l.length ∧ Fo p.2 L) (fun p => l.length - p.1) (0, F0) ⟨by omega, hfo⟩ ?_ ?_
    · simp [keepE, St.keep, filtL, ints]
    · rintro ⟨i, F⟩ ⟨hi, hF⟩
      simp only at hi hF ⊢
      have hfl := ints_len (filtL L k i)
      have hle := filtL_le L k i
      by_cases hil : i < l.length
      · have t0 : decide (((i : Nat) : Int) < l.length) = true := by simp; omega
        have cr := root_e hlo hF (by omega) (i := i) (by omega)
        have hF2 := rt_fo hlo hF (i := i) (by omega)
        have cr2 := root_e hlo hF2 (by omega) (i := k) (by omega)
        have hF3 := rt_fo hlo hF2 (i := k) (by omega)
        rw [rt_root hlo hF (by omega), hF.len, hln] at cr
        rw [rt_root hlo hF2 (by omega), hF2.len, hln] at cr2
        by_cases he : lb L i = lb L k
        · have t1 : (((lb L i : Nat) : Int) == (lb L k : Nat)) = true := by rw [he]; simp
          have ha := ints_app (filtL L k i) [i]
          rw [← filtL_in he, show ints [i] = [.int .i64 (i : Nat)] from rfl] at ha
          have hl2 : (filtL L k (i + 1)).length = (filtL L k i).length + 1 := by rw [filtL_in he, List.length_append]; rfl
          repeat' (first
    | with_reducible first | apply swp_seq | apply swp_reg | apply swp_regD | apply swp_block | apply swp_exit | apply swp_ret | apply swp_skip | apply swp_cd
    | simp only [go_sem, seval, P16, q16, t0, t1, hrn, hrnE]
    | simp (disch := omega) only [w64, w32, wu8, wu16, wu32, wu64]
    | ((with_reducible refine o_eff [] [0] (cr) ?hs ?he ?hh ?_); (case hs => exact ⟨by simp, by simp, by simp, by simp⟩); (case he => first | rfl | (simp [go_sem, seval, hrn, hrnE, hfl, Hp.back, putAt, bakF, Blk.rnL, Blk.rn, Tv.rnL, Tv.rn, D.rnL, D.rn, Own.rn]; done)); (case hh => first | rfl | (simp [go_sem, seval, hrn, hrnE, hfl, Hp.back, putAt, bakF, Blk.rnL, Blk.rn, Tv.rnL, Tv.rn, D.rnL, D.rn, Own.rn]; done)); rintro _ _ ⟨rfl, rfl⟩)
    | ((with_reducible refine o_eff [] [0] (cr2) ?hs ?he ?hh ?_); (case hs => exact ⟨by simp, by simp, by simp, by simp⟩); (case he => first | rfl | (simp [go_sem, seval, hrn, hrnE, hfl, Hp.back, putAt, bakF, Blk.rnL, Blk.rn, Tv.rnL, Tv.rn, D.rnL, D.rn, Own.rn]; done)); (case hh => first | rfl | (simp [go_sem, seval, hrn, hrnE, hfl, Hp.back, putAt, bakF, Blk.rnL, Blk.rn, Tv.rnL, Tv.rn, D.rnL, D.rn, Own.rn]; done)); rintro _ _ ⟨rfl, rfl⟩)
    | ((with_reducible apply s_appT); (case he => rfl); (case hK | hc | hr | hV => first | rfl | assumption | omega | ((first | refine ⟨?_, ?_⟩ | skip) <;> first | omega | (simp only [lN, hrn, hrnE, hfl, Hp.back, putAt, bakF, Blk.rnL, Blk.rn, Tv.rnL, Tv.rn, D.rnL, D.rn, Own.rn] <;> omega)) | (simp [elemsK, D.isVal, D.cells, D.closedL, D.closed, hrn, hrnE, hfl, Hp.back, putAt, bakF, Blk.rnL, Blk.rn, Tv.rnL, Tv.rn, D.rnL, D.rn, Own.rn]; first | done | omega)))
    | ((with_reducible apply s_appG); (case he => rfl); (case hV | hK | hr | hl => first | rfl | assumption | omega | ((first | refine ⟨?_, ?_⟩ | skip) <;> first | omega | (simp only [lN, hrn, hrnE, hfl, Hp.back, putAt, bakF, Blk.rnL, Blk.rn, Tv.rnL, Tv.rn, D.rnL, D.rn, Own.rn] <;> omega)) | (simp [elemsK, D.isVal, D.cells, D.closedL, D.closed, hrn, hrnE, hfl, Hp.back, putAt, bakF, Blk.rnL, Blk.rn, Tv.rnL, Tv.rn, D.rnL, D.rn, Own.rn]; first | done | omega)))
    | ((with_reducible apply s_app0); (case he => rfl); (case hK | hc | hr => first | rfl | assumption | omega | ((first | refine ⟨?_, ?_⟩ | skip) <;> first | omega | (simp only [lN, hrn, hrnE, hfl, Hp.back, putAt, bakF, Blk.rnL, Blk.rn, Tv.rnL, Tv.rn, D.rnL, D.rn, Own.rn] <;> omega)) | (simp [elemsK, D.isVal, D.cells, D.closedL, D.closed, hrn, hrnE, hfl, Hp.back, putAt, bakF, Blk.rnL, Blk.rn, Tv.rnL, Tv.rn, D.rnL, D.rn, Own.rn]; first | done | omega)))
    | ((with_reducible apply s_appF); (case he => rfl); (case hK | hc | hr | hx | hn => first | rfl | assumption | omega | ((first | refine ⟨?_, ?_⟩ | skip) <;> first | omega | (simp only [lN, hrn, hrnE, hfl, Hp.back, putAt, bakF, Blk.rnL, Blk.rn, Tv.rnL, Tv.rn, D.rnL, D.rn, Own.rn] <;> omega)) | (simp [elemsK, D.isVal, D.cells, D.closedL, D.closed, hrn, hrnE, hfl, Hp.back, putAt, bakF, Blk.rnL, Blk.rn, Tv.rnL, Tv.rn, D.rnL, D.rn, Own.rn]; first | done | omega)))
    | ((with_reducible apply s_bsl); (case he | hl | hc => first | rfl | assumption | omega | ((first | refine ⟨?_, ?_⟩ | skip) <;> first | omega | (simp only [lN, hrn, hrnE, hfl, Hp.back, putAt, bakF, Blk.rnL, Blk.rn, Tv.rnL, Tv.rn, D.rnL, D.rn, Own.rn] <;> omega)) | (simp [elemsK, D.isVal, D.cells, D.closedL, D.closed, hrn, hrnE, hfl, Hp.back, putAt, bakF, Blk.rnL, Blk.rn, Tv.rnL, Tv.rn, D.rnL, D.rn, Own.rn]; first | done | omega)))
    | ((with_reducible apply s_lkpS); (case h1 | hk => rfl); (case ha | hf => first | rfl | assumption | omega | ((first | refine ⟨?_, ?_⟩ | skip) <;> first | omega | (simp only [lN, hrn, hrnE, hfl, Hp.back, putAt, bakF, Blk.rnL, Blk.rn, Tv.rnL, Tv.rn, D.rnL, D.rn, Own.rn] <;> omega)) | (simp [elemsK, D.isVal, D.cells, D.closedL, D.closed, hrn, hrnE, hfl, Hp.back, putAt, bakF, Blk.rnL, Blk.rn, Tv.rnL, Tv.rn, D.rnL, D.rn, Own.rn]; first | done | omega)))
    | ((with_reducible apply s_lkpN); (case h1 | hk => rfl); (case hf | ha => first | rfl | assumption | omega | ((first | refine ⟨?_, ?_⟩ | skip) <;> first | omega | (simp only [lN, hrn, hrnE, hfl, Hp.back, putAt, bakF, Blk.rnL, Blk.rn, Tv.rnL, Tv.rn, D.rnL, D.rn, Own.rn] <;> omega)) | (simp [elemsK, D.isVal, D.cells, D.closedL, D.closed, hrn, hrnE, hfl, Hp.back, putAt, bakF, Blk.rnL, Blk.rn, Tv.rnL, Tv.rn, D.rnL, D.rn, Own.rn]; first | done | omega)))
    | with_reducible first | apply cd_dec | apply cd_eq | apply cd_ne | apply cd_split
    | ((with_reducible refine And.intro ?hw ?_); (case hw => first | omega | rfl | exact ⟨_, _, rfl⟩ | assumption | (simp only [lN, hrn, hrnE, hfl, Hp.back, putAt, bakF, Blk.rnL, Blk.rn, Tv.rnL, Tv.rn, D.rnL, D.rn, Own.rn] <;> omega)))
    | with_reducible intro _)
          all_goals first | omega | skip
          exact ⟨(i + 1, (rt (rt F i).1 k).1), ⟨by simp only; omega, hF3⟩, by simp only; omega, by simp [keepE, St.keep, ha, hl2, hfl, D.erL, D.er]⟩
        · have t1 : (((lb L i : Nat) : Int) == (lb L k : Nat)) = false := by rw [beq_eq_false_iff_ne]; omega
          repeat' (first
    | with_reducible first | apply swp_seq | apply swp_reg | apply swp_regD | apply swp_block | apply swp_exit | apply swp_ret | apply swp_skip | apply swp_cd
    | simp only [go_sem, seval, P16, q16, t0, t1, hrn, hrnE]
    | simp (disch := omega) only [w64, w32, wu8, wu16, wu32, wu64]
    | ((with_reducible refine o_eff [] [0] (cr) ?hs ?he ?hh ?_); (case hs => exact ⟨by simp, by simp, by simp, by simp⟩); (case he => first | rfl | (simp [go_sem, seval, hrn, hrnE, hfl, Hp.back, putAt, bakF, Blk.rnL, Blk.rn, Tv.rnL, Tv.rn, D.rnL, D.rn, Own.rn]; done)); (case hh => first | rfl | (simp [go_sem, seval, hrn, hrnE, hfl, Hp.back, putAt, bakF, Blk.rnL, Blk.rn, Tv.rnL, Tv.rn, D.rnL, D.rn, Own.rn]; done)); rintro _ _ ⟨rfl, rfl⟩)
    | ((with_reducible refine o_eff [] [0] (cr2) ?hs ?he ?hh ?_); (case hs => exact ⟨by simp, by simp, by simp, by simp⟩); (case he => first | rfl | (simp [go_sem, seval, hrn, hrnE, hfl, Hp.back, putAt, bakF, Blk.rnL, Blk.rn, Tv.rnL, Tv.rn, D.rnL, D.rn, Own.rn]; done)); (case hh => first | rfl | (simp [go_sem, seval, hrn, hrnE, hfl, Hp.back, putAt, bakF, Blk.rnL, Blk.rn, Tv.rnL, Tv.rn, D.rnL, D.rn, Own.rn]; done)); rintro _ _ ⟨rfl, rfl⟩)
    | ((with_reducible apply s_appT); (case he => rfl); (case hK | hc | hr | hV => first | rfl | assumption | omega | ((first | refine ⟨?_, ?_⟩ | skip) <;> first | omega | (simp only [lN, hrn, hrnE, hfl, Hp.back, putAt, bakF, Blk.rnL, Blk.rn, Tv.rnL, Tv.rn, D.rnL, D.rn, Own.rn] <;> omega)) | (simp [elemsK, D.isVal, D.cells, D.closedL, D.closed, hrn, hrnE, hfl, Hp.back, putAt, bakF, Blk.rnL, Blk.rn, Tv.rnL, Tv.rn, D.rnL, D.rn, Own.rn]; first | done | omega)))
    | ((with_reducible apply s_appG); (case he => rfl); (case hV | hK | hr | hl => first | rfl | assumption | omega | ((first | refine ⟨?_, ?_⟩ | skip) <;> first | omega | (simp only [lN, hrn, hrnE, hfl, Hp.back, putAt, bakF, Blk.rnL, Blk.rn, Tv.rnL, Tv.rn, D.rnL, D.rn, Own.rn] <;> omega)) | (simp [elemsK, D.isVal, D.cells, D.closedL, D.closed, hrn, hrnE, hfl, Hp.back, putAt, bakF, Blk.rnL, Blk.rn, Tv.rnL, Tv.rn, D.rnL, D.rn, Own.rn]; first | done | omega)))
    | ((with_reducible apply s_app0); (case he => rfl); (case hK | hc | hr => first | rfl | assumption | omega | ((first | refine ⟨?_, ?_⟩ | skip) <;> first | omega | (simp only [lN, hrn, hrnE, hfl, Hp.back, putAt, bakF, Blk.rnL, Blk.rn, Tv.rnL, Tv.rn, D.rnL, D.rn, Own.rn] <;> omega)) | (simp [elemsK, D.isVal, D.cells, D.closedL, D.closed, hrn, hrnE, hfl, Hp.back, putAt, bakF, Blk.rnL, Blk.rn, Tv.rnL, Tv.rn, D.rnL, D.rn, Own.rn]; first | done | omega)))
    | ((with_reducible apply s_appF); (case he => rfl); (case hK | hc | hr | hx | hn => first | rfl | assumption | omega | ((first | refine ⟨?_, ?_⟩ | skip) <;> first | omega | (simp only [lN, hrn, hrnE, hfl, Hp.back, putAt, bakF, Blk.rnL, Blk.rn, Tv.rnL, Tv.rn, D.rnL, D.rn, Own.rn] <;> omega)) | (simp [elemsK, D.isVal, D.cells, D.closedL, D.closed, hrn, hrnE, hfl, Hp.back, putAt, bakF, Blk.rnL, Blk.rn, Tv.rnL, Tv.rn, D.rnL, D.rn, Own.rn]; first | done | omega)))
    | ((with_reducible apply s_bsl); (case he | hl | hc => first | rfl | assumption | omega | ((first | refine ⟨?_, ?_⟩ | skip) <;> first | omega | (simp only [lN, hrn, hrnE, hfl, Hp.back, putAt, bakF, Blk.rnL, Blk.rn, Tv.rnL, Tv.rn, D.rnL, D.rn, Own.rn] <;> omega)) | (simp [elemsK, D.isVal, D.cells, D.closedL, D.closed, hrn, hrnE, hfl, Hp.back, putAt, bakF, Blk.rnL, Blk.rn, Tv.rnL, Tv.rn, D.rnL, D.rn, Own.rn]; first | done | omega)))
    | ((with_reducible apply s_lkpS); (case h1 | hk => rfl); (case ha | hf => first | rfl | assumption | omega | ((first | refine ⟨?_, ?_⟩ | skip) <;> first | omega | (simp only [lN, hrn, hrnE, hfl, Hp.back, putAt, bakF, Blk.rnL, Blk.rn, Tv.rnL, Tv.rn, D.rnL, D.rn, Own.rn] <;> omega)) | (simp [elemsK, D.isVal, D.cells, D.closedL, D.closed, hrn, hrnE, hfl, Hp.back, putAt, bakF, Blk.rnL, Blk.rn, Tv.rnL, Tv.rn, D.rnL, D.rn, Own.rn]; first | done | omega)))
    | ((with_reducible apply s_lkpN); (case h1 | hk => rfl); (case hf | ha => first | rfl | assumption | omega | ((first | refine ⟨?_, ?_⟩ | skip) <;> first | omega | (simp only [lN, hrn, hrnE, hfl, Hp.back, putAt, bakF, Blk.rnL, Blk.rn, Tv.rnL, Tv.rn, D.rnL, D.rn, Own.rn] <;> omega)) | (simp [elemsK, D.isVal, D.cells, D.closedL, D.closed, hrn, hrnE, hfl, Hp.back, putAt, bakF, Blk.rnL, Blk.rn, Tv.rnL, Tv.rn, D.rnL, D.rn, Own.rn]; first | done | omega)))
    | with_reducible first | apply cd_dec | apply cd_eq | apply cd_ne | apply cd_split
    | ((with_reducible refine And.intro ?hw ?_); (case hw => first | omega | rfl | exact ⟨_, _, rfl⟩ | assumption | (simp only [lN, hrn, hrnE, hfl, Hp.back, putAt, bakF, Blk.rnL, Blk.rn, Tv.rnL, Tv.rn, D.rnL, D.rn, Own.rn] <;> omega)))
    | with_reducible intro _)
          all_goals first | omega | skip
          exact ⟨(i + 1, (rt (rt F i).1 k).1), ⟨by simp only; omega, hF3⟩, by simp only; omega, by simp [keepE, St.keep, filtL_out he]⟩
      · have t0 : decide (((i : Nat) : Int) < l.length) = false := by simp; omega
        have : i = l.length := by omega
        subst this
        repeat' (first
    | with_reducible first | apply swp_seq | apply swp_reg | apply swp_regD | apply swp_block | apply swp_exit | apply swp_ret | apply swp_skip | apply swp_cd
    | simp only [go_sem, seval, P16, q16, t0]
    | simp (disch := omega) only [w64, w32, wu8, wu16, wu32, wu64]
    | ((with_reducible apply s_appT); (case he => rfl); (case hK | hc | hr | hV => first | rfl | assumption | omega | ((first | refine ⟨?_, ?_⟩ | skip) <;> first | omega | (simp only [lN] <;> omega)) | (simp [elemsK, D.isVal, D.cells, D.closedL, D.closed]; first | done | omega)))
    | ((with_reducible apply s_appG); (case he => rfl); (case hV | hK | hr | hl => first | rfl | assumption | omega | ((first | refine ⟨?_, ?_⟩ | skip) <;> first | omega | (simp only [lN] <;> omega)) | (simp [elemsK, D.isVal, D.cells, D.closedL, D.closed]; first | done | omega)))
    | ((with_reducible apply s_app0); (case he => rfl); (case hK | hc | hr => first | rfl | assumption | omega | ((first | refine ⟨?_, ?_⟩ | skip) <;> first | omega | (simp only [lN] <;> omega)) | (simp [elemsK, D.isVal, D.cells, D.closedL, D.closed]; first | done | omega)))
    | ((with_reducible apply s_appF); (case he => rfl); (case hK | hc | hr | hx | hn => first | rfl | assumption | omega | ((first | refine ⟨?_, ?_⟩ | skip) <;> first | omega | (simp only [lN] <;> omega)) | (simp [elemsK, D.isVal, D.cells, D.closedL, D.closed]; first | done | omega)))
    | ((with_reducible apply s_bsl); (case he | hl | hc => first | rfl | assumption | omega | ((first | refine ⟨?_, ?_⟩ | skip) <;> first | omega | (simp only [lN] <;> omega)) | (simp [elemsK, D.isVal, D.cells, D.closedL, D.closed]; first | done | omega)))
    | ((with_reducible apply s_lkpS); (case h1 | hk => rfl); (case ha | hf => first | rfl | assumption | omega | ((first | refine ⟨?_, ?_⟩ | skip) <;> first | omega | (simp only [lN] <;> omega)) | (simp [elemsK, D.isVal, D.cells, D.closedL, D.closed]; first | done | omega)))
    | ((with_reducible apply s_lkpN); (case h1 | hk => rfl); (case hf | ha => first | rfl | assumption | omega | ((first | refine ⟨?_, ?_⟩ | skip) <;> first | omega | (simp only [lN] <;> omega)) | (simp [elemsK, D.isVal, D.cells, D.closedL, D.closed]; first | done | omega)))
    | with_reducible first | apply cd_dec | apply cd_eq | apply cd_ne | apply cd_split
    | ((with_reducible refine And.intro ?hw ?_); (case hw => first | omega | rfl | exact ⟨_, _, rfl⟩ | assumption | (simp only [lN] <;> omega)))
    | with_reducible intro _)
        all_goals first | omega | skip
        exact ⟨_, weak_refl, by simp [D.closed], by simp [D.er]⟩
end Go.Proofs.Ytofnggfpegcllaa
end
section
set_option maxRecDepth 100000
set_option linter.unusedSimpArgs false
set_option linter.unusedVariables false
namespace Go.Proofs.Ytofnggfpegcllaa
open Go GoV Go.RowKit
def rcL : List Rp → List D
  | [] => []
  | r :: l => .slice (r.opts.map evD) .no :: .bool r.doubt :: rcL l
theorem rcL_flat : ∀ l : List Rp, flatD (l.map rpD) = rcL l
  | [] => rfl
  | r :: l => by simp [flatD, rcL, rcL_flat l, rpD, D.cells]
theorem rcL_len : ∀ l : List Rp, (rcL l).length = l.length * 2
  | [] => rfl
  | r :: l => by simp [rcL, rcL_len l]; omega
theorem rcL_rn (β τ : Nat → Option Nat) : ∀ l : List Rp, D.rnL β τ (rcL l) = rcL l
  | [] => rfl
  | r :: l => by simp [rcL, D.rnL, D.rn, rcL_rn β τ l, Own.rn]
theorem rc_get (U : List D) : ∀ {l : List Rp} {i : Nat} (h : i < l.length), ((rcL l ++ U).drop (i * 2)).take 2 = [.slice (l[i].opts.map evD) .no, .bool l[i].doubt]
  | r :: l, 0, _ => by simp [rcL]
  | r :: l, i + 1, h => by
    have := rc_get U (l := l) (i := i) (by simpa using h)
    have e : (i + 1) * 2 = i * 2 + 1 + 1 := by omega
    rw [e]
    simpa [rcL] using this
theorem rc_set (U : List D) (v : Rp) : ∀ {l : List Rp} {i : Nat} (h : i < l.length), ((rcL l ++ U).set (i * 2) (.slice (v.opts.map evD) .no)).set (i * 2 + 1) (.bool v.doubt) = rcL (l.set i v) ++ U
  | r :: l, 0, _ => by simp [rcL]
  | r :: l, i + 1, h => by
    have := rc_set U v (l := l) (i := i) (by simpa using h)
    have e : (i + 1) * 2 = i * 2 + 1 + 1 := by omega
    rw [e]
    simpa [rcL] using this
def del (r : Rp) : Bool := decide (choices r < 2)
theorem del_p (r : Rp) (hs : ∀ e ∈ r.opts, e.sh = true) : Pur M 33 [rpD r] (.bool (del r)) := by
  have c1 := choices_p r hs
  have hd : decide (((choices r : Nat) : Int) < 2) = del r := decide_eq_decide.2 (by omega)
  generalize choices r = c at *
  generalize del r = b at *
  unfold rpD at *
  refine ok33 rfl ?_
  rw [i33]
  unfold c33
  repeat' (first
    | with_reducible first | apply swp_seq | apply swp_reg | apply swp_regD | apply swp_block | apply swp_exit | apply swp_ret | apply swp_skip | apply swp_cd
    | simp only [go_sem, seval, P33, q33, hd]
    | simp (disch := omega) only [w64, w32, wu8, wu16, wu32, wu64]
    | ((with_reducible refine o_call (c1) ?he ?hc ?_); (case he | hc => first | rfl | (simp [D.erL, D.er, D.closedL, D.closed]; done)))
    | with_reducible first | apply cd_dec | apply cd_eq | apply cd_ne | apply cd_split
    | ((with_reducible refine And.intro ?hw ?_); (case hw => first | omega | rfl | exact ⟨_, _, rfl⟩ | assumption | (simp only [lN] <;> omega)))
    | with_reducible intro _)
  all_goals first | omega | simp [D.closed, D.er]
section
variable {P : Mod} {dst : Dst} {r : List RO} {K : St → Prop} {s : St} {n bytes : Nat} {ety : TypeId} {x : D} {es : List D}
theorem s_appR (t : Nat) (he : elemsOf s.hp n x = some es) (hK : elemsK n es = true) (hr : roomOk es.length bytes) (h0 : 0 < es.length) (ht : s.hp.tk[t]? = some (.chg n []))
    (h : opsWp P r K ({ s with hp := { s.hp with tk := s.hp.tk.set t (.chg n (flatD es)) } }.put dst (.gs t es.length))) : OpS P (.app n bytes ety) [.slice [] .full, x] dst r K s := by
  simp only [OpS, OcWp, isCall, Bool.false_eq_true, if_false, opWp]
  exact ⟨es, he, hK, by simpa using hr, .inr ⟨rfl, h0, t, ht, h⟩⟩
end
set_option maxHeartbeats 1000000 in
theorem clone_r (l : List Rp) (hl : l.length ≤ 1000) (h0 : 0 < l.length) : Eff M 32 [rpsD l] ⟨[], []⟩ fun d hp => ∃ cap, l.length ≤ cap ∧ d = .sl 0 2 0 l.length cap ∧ hp = ⟨[.cells (rcL l ++ und ((cap - l.length) * 2))], []⟩ := by
  have hlen : (l.map rpD).length = l.length := by simp
  have hfl := rcL_flat l
  have hel : elemsK 2 (l.map rpD) = true := elemsK_map rpD 2 R_isVal l
  have hrl := rcL_len l
  have hrn := fun β τ => rcL_rn β τ l
  refine oe32 0 0 rfl rfl rfl ?_
  rw [ie32]
  unfold c32
  obtain ⟨x, xs, hx⟩ : ∃ x xs, l.map rpD = x :: xs := by cases l with | nil => simp at h0 | cons a b => exact ⟨_, _, rfl⟩
  refine swp_weak (weak_resv 2 (by omega)) ?_
  generalize hrt : RC.ret = rt at *
  unfold rpsD
  rw [hx]
  simp only [List.nil_append]
  repeat' (first
    | with_reducible first | apply swp_seq | apply swp_reg | apply swp_regD | apply swp_block | apply swp_exit | apply swp_ret | apply swp_skip | apply swp_cd
    | simp only [go_sem, seval, pe32, q32]
    | simp (disch := omega) only [w64, w32, wu8, wu16, wu32, wu64]
    | ((with_reducible apply s_appT); (case he => rfl); (case hK | hc | hr | hV => first | rfl | assumption | omega | ((first | refine ⟨?_, ?_⟩ | skip) <;> first | omega | (simp only [lN, hlen] <;> omega)) | (simp [elemsK, D.isVal, D.cells, D.closedL, D.closed, hlen]; first | done | omega)))
    | ((with_reducible apply s_appG); (case he => rfl); (case hV | hK | hr | hl => first | rfl | assumption | omega | ((first | refine ⟨?_, ?_⟩ | skip) <;> first | omega | (simp only [lN, hlen] <;> omega)) | (simp [elemsK, D.isVal, D.cells, D.closedL, D.closed, hlen]; first | done | omega)))
    | ((with_reducible apply s_app0G); (case he => rfl); (case hK | hr => first | rfl | assumption | omega | ((first | refine ⟨?_, ?_⟩ | skip) <;> first | omega | (simp only [lN, hlen] <;> omega)) | (simp [elemsK, D.isVal, D.cells, D.closedL, D.closed, hlen]; first | done | omega)))
    | ((with_reducible apply s_bsl); (case he | hl | hc => first | rfl | assumption | omega | ((first | refine ⟨?_, ?_⟩ | skip) <;> first | omega | (simp only [lN, hlen] <;> omega)) | (simp [elemsK, D.isVal, D.cells, D.closedL, D.closed, hlen]; first | done | omega)))
    | with_reducible first | apply cd_dec | apply cd_eq | apply cd_ne | apply cd_split
    | ((with_reducible refine And.intro ?hw ?_); (case hw => first | omega | rfl | exact ⟨_, _, rfl⟩ | assumption | (simp only [lN, hlen] <;> omega)))
    | with_reducible intro _)
  refine s_appR 0 (x := .slice (x :: xs) .no) (es := x :: xs) rfl (by rw [← hx]; exact hel) (by rw [← hx, hlen]; exact ⟨by omega, by omega⟩) (by simp) rfl ?_
  rw [← hx, hfl, hlen]
  repeat' (first
    | with_reducible first | apply swp_seq | apply swp_reg | apply swp_regD | apply swp_block | apply swp_exit | apply swp_ret | apply swp_skip | apply swp_cd
    | simp only [go_sem, seval, pe32, q32]
    | simp (disch := omega) only [w64, w32, wu8, wu16, wu32, wu64]
    | ((with_reducible apply s_appT); (case he => rfl); (case hK | hc | hr | hV => first | rfl | assumption | omega | ((first | refine ⟨?_, ?_⟩ | skip) <;> first | omega | (simp only [lN, hlen] <;> omega)) | (simp [elemsK, D.isVal, D.cells, D.closedL, D.closed, hlen]; first | done | omega)))
    | ((with_reducible apply s_appG); (case he => rfl); (case hV | hK | hr | hl => first | rfl | assumption | omega | ((first | refine ⟨?_, ?_⟩ | skip) <;> first | omega | (simp only [lN, hlen] <;> omega)) | (simp [elemsK, D.isVal, D.cells, D.closedL, D.closed, hlen]; first | done | omega)))
    | ((with_reducible apply s_app0G); (case he => rfl); (case hK | hr => first | rfl | assumption | omega | ((first | refine ⟨?_, ?_⟩ | skip) <;> first | omega | (simp only [lN, hlen] <;> omega)) | (simp [elemsK, D.isVal, D.cells, D.closedL, D.closed, hlen]; first | done | omega)))
    | ((with_reducible apply s_bsl); (case he | hl | hc => first | rfl | assumption | omega | ((first | refine ⟨?_, ?_⟩ | skip) <;> first | omega | (simp only [lN, hlen] <;> omega)) | (simp [elemsK, D.isVal, D.cells, D.closedL, D.closed, hlen]; first | done | omega)))
    | with_reducible first | apply cd_dec | apply cd_eq | apply cd_ne | apply cd_split
    | ((with_reducible refine And.intro ?hw ?_); (case hw => first | omega | rfl | exact ⟨_, _, rfl⟩ | assumption | (simp only [lN, hlen] <;> omega)))
    | with_reducible intro _)
  rw [← hrt]
  refine swp_sl 1 0 2 l.length (rcL l) rfl rfl hrl (by unfold E32; rfl) h0 fun cap hc => ?_
  simp only [St.toSl, List.set_cons_zero, List.set_cons_succ, List.length_cons, List.length_nil, List.nil_append]
  have hu : List.replicate ((cap - l.length) * 2) D.undef = und ((cap - l.length) * 2) := rfl
  rw [hu]
  repeat' (first
    | with_reducible first | apply swp_seq | apply swp_reg | apply swp_regD | apply swp_block | apply swp_exit | apply swp_ret | apply swp_skip | apply swp_cd
    | simp only [go_sem, seval, pe32, q32]
    | simp (disch := omega) only [w64, w32, wu8, wu16, wu32, wu64]
    | ((with_reducible apply s_appT); (case he => rfl); (case hK | hc | hr | hV => first | rfl | assumption | omega | ((first | refine ⟨?_, ?_⟩ | skip) <;> first | omega | (simp only [lN, hlen] <;> omega)) | (simp [elemsK, D.isVal, D.cells, D.closedL, D.closed, hlen]; first | done | omega)))
    | ((with_reducible apply s_appG); (case he => rfl); (case hV | hK | hr | hl => first | rfl | assumption | omega | ((first | refine ⟨?_, ?_⟩ | skip) <;> first | omega | (simp only [lN, hlen] <;> omega)) | (simp [elemsK, D.isVal, D.cells, D.closedL, D.closed, hlen]; first | done | omega)))
    | ((with_reducible apply s_app0G); (case he => rfl); (case hK | hr => first | rfl | assumption | omega | ((first | refine ⟨?_, ?_⟩ | skip) <;> first | omega | (simp only [lN, hlen] <;> omega)) | (simp [elemsK, D.isVal, D.cells, D.closedL, D.closed, hlen]; first | done | omega)))
    | ((with_reducible apply s_bsl); (case he | hl | hc => first | rfl | assumption | omega | ((first | refine ⟨?_, ?_⟩ | skip) <;> first | omega | (simp only [lN, hlen] <;> omega)) | (simp [elemsK, D.isVal, D.cells, D.closedL, D.closed, hlen]; first | done | omega)))
    | with_reducible first | apply cd_dec | apply cd_eq | apply cd_ne | apply cd_split
    | ((with_reducible refine And.intro ?hw ?_); (case hw => first | omega | rfl | exact ⟨_, _, rfl⟩ | assumption | (simp only [lN, hlen] <;> omega)))
    | with_reducible intro _)
  refine ⟨_, weak_trans (weak_keep [1]) (weak_sel [0] [] ⟨by simp, by simp, by simp, by simp⟩ rfl rfl), ?_⟩
  have hrs : ∀ β τ, D.rnL β τ (rcL l ++ und ((cap - l.length) * 2)) = rcL l ++ und ((cap - l.length) * 2) := fun β τ => by rw [rnL_app, hrn, rnL_und]
  simp [St.sel, Hp.sel, keepE, D.rnL, D.rn, posF, idx, Blk.rn, Blk.rnL, Tv.rnL, Own.rn, hrs]
  exact ⟨cap, hc, rfl, rfl⟩
theorem dfirst (l : List Rp) : (∃ i, ∃ h : i < l.length, del l[i] = true ∧ ∀ j (g : j < i), del l[j] = false) ∨ ∀ r ∈ l, del r = false := by
  rcases first_of (p := fun r => del r = true) l with ⟨i, h, h1, h2⟩ | h
  · exact .inl ⟨i, h, h1, fun j g => by have := h2 j g; simpa using this⟩
  · refine .inr fun r hr => ?_
    obtain ⟨j, hj, rfl⟩ := List.getElem_of_mem hr
    have := h j hj; simpa using this
theorem ix44 (l : List Rp) (U : List D) (cap : Nat) (hl : l.length ≤ 1000) (hcap : l.length ≤ cap) (hs : Small l) (i : Nat) (hi : i < l.length) (he : del l[i] = true) (hm : ∀ j (h : j < i), del l[j] = false) :
    Eff M 44 [.sl 0 2 0 l.length cap, .fn (.func 33) [] []] ⟨[.cells (rcL l ++ U)], []⟩ fun d hp => d = .int .i64 (i : Nat) ∧ hp = ⟨[.cells (rcL l ++ U)], []⟩ := by
  refine oe44 1 0 rfl rfl rfl ?_
  rw [ie44]
  unfold c44
  have hrl := rcL_len l
  repeat' (first
    | with_reducible first | apply swp_seq | apply swp_reg | apply swp_regD | apply swp_block | apply swp_exit | apply swp_ret | apply swp_skip | apply swp_cd
    | simp only [go_sem, seval, pe44, q44]
    | simp (disch := omega) only [w64, w32, wu8, wu16, wu32, wu64]
    | with_reducible first | apply cd_dec | apply cd_eq | apply cd_ne | apply cd_split
    | ((with_reducible refine And.intro ?hw ?_); (case hw => first | omega | rfl | exact ⟨_, _, rfl⟩ | assumption | (simp only [lN] <;> omega)))
    | with_reducible intro _)
  refine swp_fam [0, 1, 4, 5] (fun j : Nat => ⟨[.sl 0 2 0 l.length cap, .fn (.func 33) [] [], .undef, .undef, .int .i64 l.length, .int .i64 j, .undef, .undef], [], ⟨[.cells (rcL l ++ U)], []⟩⟩) (fun j => j ≤ i) (fun j => l.length - j) 0 (by omega) ?_ ?_
  · simp [keepE, St.keep]
  · intro j hj
    have hjl : j < l.length := by omega
    have hg := rc_get U hjl
    have hgl : j * 2 + 2 ≤ (rcL l ++ U).length := by rw [List.length_append, hrl]; omega
    have c1 := del_p l[j] (hs _ (List.getElem_mem _))
    rw [show rpD l[j] = .agg [.slice (l[j].opts.map evD) .no, .bool l[j].doubt] from rfl] at c1
    have t0 : decide (((j : Nat) : Int) < l.length) = true := by simp; omega
    generalize rcL l ++ U = C at *
    by_cases e : j = i
    · subst e
      rw [he] at c1
      repeat' (first
    | with_reducible first | apply swp_seq | apply swp_reg | apply swp_regD | apply swp_block | apply swp_exit | apply swp_ret | apply swp_skip | apply swp_cd
    | simp only [go_sem, seval, pe44, q44, hg, t0, Nat.zero_add]
    | simp (disch := omega) only [w64, w32, wu8, wu16, wu32, wu64]
    | ((with_reducible refine o_call (c1) ?he ?hc ?_); (case he | hc => first | rfl | (simp [D.erL, D.er, D.closedL, D.closed]; done)))
    | with_reducible first | apply cd_dec | apply cd_eq | apply cd_ne | apply cd_split
    | ((with_reducible refine And.intro ?hw ?_); (case hw => first | omega | rfl | exact ⟨_, _, rfl⟩ | assumption | (simp only [lN] <;> omega)))
    | with_reducible intro _)
      all_goals first | omega | skip
      exact ⟨_, weak_refl, rfl, rfl⟩
    · rw [hm j (by omega)] at c1
      repeat' (first
    | with_reducible first | apply swp_seq | apply swp_reg | apply swp_regD | apply swp_block | apply swp_exit | apply swp_ret | apply swp_skip | apply swp_cd
    | simp only [go_sem, seval, pe44, q44, hg, t0, Nat.zero_add]
    | simp (disch := omega) only [w64, w32, wu8, wu16, wu32, wu64]
    | ((with_reducible refine o_call (c1) ?he ?hc ?_); (case he | hc => first | rfl | (simp [D.erL, D.er, D.closedL, D.closed]; done)))
    | with_reducible first | apply cd_dec | apply cd_eq | apply cd_ne | apply cd_split
    | ((with_reducible refine And.intro ?hw ?_); (case hw => first | omega | rfl | exact ⟨_, _, rfl⟩ | assumption | (simp only [lN] <;> omega)))
    | with_reducible intro _)
      all_goals first | omega | skip
      exact ⟨j + 1, by omega, by omega, by simp [St.keep, keepE]⟩
theorem ix44n (l : List Rp) (U : List D) (cap : Nat) (hl : l.length ≤ 1000) (hcap : l.length ≤ cap) (hs : Small l) (hm : ∀ r ∈ l, del r = false) :
    Eff M 44 [.sl 0 2 0 l.length cap, .fn (.func 33) [] []] ⟨[.cells (rcL l ++ U)], []⟩ fun d hp => d = .int .i64 (-1) ∧ hp = ⟨[.cells (rcL l ++ U)], []⟩ := by
  refine oe44 1 0 rfl rfl rfl ?_
  rw [ie44]
  unfold c44
  have hrl := rcL_len l
  repeat' (first
    | with_reducible first | apply swp_seq | apply swp_reg | apply swp_regD | apply swp_block | apply swp_exit | apply swp_ret | apply swp_skip | apply swp_cd
    | simp only [go_sem, seval, pe44, q44]
    | simp (disch := omega) only [w64, w32, wu8, wu16, wu32, wu64]
    | with_reducible first | apply cd_dec | apply cd_eq | apply cd_ne | apply cd_split
    | ((with_reducible refine And.intro ?hw ?_); (case hw => first | omega | rfl | exact ⟨_, _, rfl⟩ | assumption | (simp only [lN] <;> omega)))
    | with_reducible intro _)
  refine swp_fam [0, 1, 4, 5] (fun j : Nat => ⟨[.sl 0 2 0 l.length cap, .fn (.func 33) [] [], .undef, .undef, .int .i64 l.length, .int .i64 j, .undef, .undef], [], ⟨[.cells (rcL l ++ U)], []⟩⟩) (fun j => j ≤ l.length) (fun j => l.length - j) 0 (by omega) ?_ ?_
  · simp [keepE, St.keep]
  · intro j hj
    by_cases hjl : j < l.length
    · have hg := rc_get U hjl
      have hgl : j * 2 + 2 ≤ (rcL l ++ U).length := by rw [List.length_append, hrl]; omega
      have c1 := del_p l[j] (hs _ (List.getElem_mem _))
      rw [show rpD l[j] = .agg [.slice (l[j].opts.map evD) .no, .bool l[j].doubt] from rfl] at c1
      have t0 : decide (((j : Nat) : Int) < l.length) = true := by simp; omega
      generalize rcL l ++ U = C at *
      rw [hm _ (List.getElem_mem _)] at c1
      repeat' (first
    | with_reducible first | apply swp_seq | apply swp_reg | apply swp_regD | apply swp_block | apply swp_exit | apply swp_ret | apply swp_skip | apply swp_cd
    | simp only [go_sem, seval, pe44, q44, hg, t0, Nat.zero_add]
    | simp (disch := omega) only [w64, w32, wu8, wu16, wu32, wu64]
    | ((with_reducible refine o_call (c1) ?he ?hc ?_); (case he | hc => first | rfl | (simp [D.erL, D.er, D.closedL, D.closed]; done)))
    | with_reducible first | apply cd_dec | apply cd_eq | apply cd_ne | apply cd_split
    | ((with_reducible refine And.intro ?hw ?_); (case hw => first | omega | rfl | exact ⟨_, _, rfl⟩ | assumption | (simp only [lN] <;> omega)))
    | with_reducible intro _)
      all_goals first | omega | skip
      exact ⟨j + 1, by omega, by omega, by simp [St.keep, keepE]⟩
    · have t0 : decide (((j : Nat) : Int) < l.length) = false := by simp; omega
      repeat' (first
    | with_reducible first | apply swp_seq | apply swp_reg | apply swp_regD | apply swp_block | apply swp_exit | apply swp_ret | apply swp_skip | apply swp_cd
    | simp only [go_sem, seval, pe44, q44, t0]
    | simp (disch := omega) only [w64, w32, wu8, wu16, wu32, wu64]
    | with_reducible first | apply cd_dec | apply cd_eq | apply cd_ne | apply cd_split
    | ((with_reducible refine And.intro ?hw ?_); (case hw => first | omega | rfl | exact ⟨_, _, rfl⟩ | assumption | (simp only [lN] <;> omega)))
    | with_reducible intro _)
      all_goals first | omega | skip
      exact ⟨_, weak_refl, rfl, rfl⟩
theorem keeps_snoc {l : List Rp} {j : Nat} (h : j < l.length) : (l.take (j + 1)).countP (fun r => !(del r)) = (l.take j).countP (fun r => !(del r)) + if del l[j] then 0 else 1 := by
  rw [List.take_succ_eq_append_getElem h, List.countP_append, List.countP_cons, List.countP_nil]
  cases del l[j] <;> simp
theorem doubts_keep (l : List Rp) : l.countP (fun r => !(del r)) = doubtsR l := by
  unfold doubtsR
  congr 1
  funext r
  unfold del
  rw [Bool.eq_iff_iff]
  simp
set_option maxHeartbeats 2000000 in
theorem del31 (l : List Rp) (u cap : Nat) (hl : l.length ≤ 1000) (hcap : l.length + u = cap) (hs : Small l) :
    Eff M 31 [.sl 0 2 0 l.length cap, .fn (.func 33) [] []] ⟨[.cells (rcL l ++ und (u * 2))], []⟩ fun d hp => d = .sl 0 2 0 (doubtsR l) cap ∧ ∃ Z, hp = ⟨[.cells Z], []⟩ := by
  have hrl := rcL_len l
  rw [← doubts_keep]
  rcases dfirst l with ⟨i, hi, h1, h2⟩ | h
  · have c1 := ix44 l (und (u * 2)) cap hl (by omega) hs i hi h1 h2
    have hrn : ∀ β τ l, D.rnL β τ (rcL l ++ und (u * 2)) = rcL l ++ und (u * 2) := fun β τ l => by rw [rnL_app, rcL_rn, rnL_und]
    refine oe31 1 0 rfl rfl rfl ?_
    rw [ie31]
    unfold c31
    have t1 : (((i : Nat) : Int) == -1) = false := by rw [beq_eq_false_iff_ne]; omega
    repeat' (first
    | with_reducible first | apply swp_seq | apply swp_reg | apply swp_regD | apply swp_block | apply swp_exit | apply swp_ret | apply swp_skip | apply swp_cd
    | simp only [go_sem, seval, pe31, q31, t1, hrn]
    | simp (disch := omega) only [w64, w32, wu8, wu16, wu32, wu64]
    | ((with_reducible refine o_same (c1) ?he ?hh ?_); (case he => first | rfl | (simp [go_sem, seval, hrn]; done)); (case hh => first | rfl | (simp [go_sem, seval, hrn]; done)))
    | ((with_reducible apply s_slFF); (case hx => first | rfl | assumption | omega | ((first | refine ⟨?_, ?_⟩ | skip) <;> first | omega | (simp only [lN, hrn] <;> omega)) | (simp [elemsK, D.isVal, D.cells, D.closedL, D.closed, hrn]; first | done | omega)))
    | ((with_reducible first | apply s_slTF | apply s_slFT); (case h0 | h1 | hx => first | rfl | assumption | omega | ((first | refine ⟨?_, ?_⟩ | skip) <;> first | omega | (simp only [lN, hrn] <;> omega)) | (simp [elemsK, D.isVal, D.cells, D.closedL, D.closed, hrn]; first | done | omega)))
    | ((with_reducible apply s_slTT); (case h0 | h1 | h2 | hx => first | rfl | assumption | omega | ((first | refine ⟨?_, ?_⟩ | skip) <;> first | omega | (simp only [lN, hrn] <;> omega)) | (simp [elemsK, D.isVal, D.cells, D.closedL, D.closed, hrn]; first | done | omega)))
    | ((with_reducible first | apply s_smTF | apply s_smFT); (case h0 | h1 | hc => first | rfl | assumption | omega | ((first | refine ⟨?_, ?_⟩ | skip) <;> first | omega | (simp only [lN, hrn] <;> omega)) | (simp [elemsK, D.isVal, D.cells, D.closedL, D.closed, hrn]; first | done | omega)))
    | ((with_reducible apply s_smTT); (case h0 | h1 | h2 | hc => first | rfl | assumption | omega | ((first | refine ⟨?_, ?_⟩ | skip) <;> first | omega | (simp only [lN, hrn] <;> omega)) | (simp [elemsK, D.isVal, D.cells, D.closedL, D.closed, hrn]; first | done | omega)))
    | ((with_reducible apply s_clr); (case h1 => rfl); (case h2 | h3 => first | rfl | assumption | omega | ((first | refine ⟨?_, ?_⟩ | skip) <;> first | omega | (simp only [lN, hrn] <;> omega)) | (simp [elemsK, D.isVal, D.cells, D.closedL, D.closed, hrn]; first | done | omega)))
    | with_reducible first | apply cd_dec | apply cd_eq | apply cd_ne | apply cd_split
    | ((with_reducible refine And.intro ?hw ?_); (case hw => first | omega | rfl | exact ⟨_, _, rfl⟩ | assumption | (simp only [lN, hrn] <;> omega)))
    | with_reducible intro _)
    all_goals first | omega | skip
    refine swp_famG [0, 1, 3, 4] 1 0 (by unfold E31; exact Nat.le_refl 1) (by unfold E31; exact Nat.le_refl 0) (fun p : Nat × Nat × List Rp => ⟨[.sl 0 2 0 l.length cap, .fn (.func 33) [] [], .undef, .int .i64 (p.1 : Nat), .int .i64 (p.2.1 : Nat), .undef, .undef, .undef, .undef], [], ⟨[.cells (rcL p.2.2 ++ und (u * 2))], []⟩⟩)
      (fun p => p.1 < p.2.1 ∧ p.2.1 ≤ l.length ∧ p.2.2.length = l.length ∧ p.2.2.drop p.2.1 = l.drop p.2.1 ∧ p.1 = (l.take p.2.1).countP (fun r => !(del r))) (fun p => l.length - p.2.1) (i, i + 1, l) ⟨by simp only; omega, by simp only; omega, rfl, rfl, ?_⟩ ?_ ?_
    · simp only
      rw [keeps_snoc hi, h1]
      simp only [if_true, Nat.add_zero]
      symm
      have : ∀ j, j ≤ i → (l.take j).countP (fun r => !(del r)) = j := fun j => by
        induction j with
        | zero => intro _; simp
        | succ j ih => intro hj; rw [keeps_snoc (by omega), ih (by omega), h2 j (by omega)]; rfl
      exact this i (Nat.le_refl i)
    · simp [keepE, St.keep, St.keepG, St.gc, Hp.cut, D.rn, D.rnL, Blk.rnL, Blk.rn, Tv.rnL, cutF, hrn]
    · rintro ⟨a, j, S⟩ ⟨g1, g2, g3, g4, g5⟩
      simp only at g1 g2 g3 g4 g5 ⊢
      have hrS := rcL_len S
      by_cases hj : j < l.length
      · have t0 : decide (((j : Nat) : Int) < l.length) = true := by simp; omega
        have hSj : S[j]'(by omega) = l[j] := by
          have e1 : (S.drop j)[0]? = (l.drop j)[0]? := by rw [g4]
          simpa [List.getElem?_drop, show j < S.length by omega, hj] using e1
        have hg := rc_get (und (u * 2)) (l := S) (i := j) (by omega)
        rw [hSj] at hg
        have hgl : j * 2 + 2 ≤ (rcL S ++ und (u * 2)).length := by rw [List.length_append, hrS]; omega
        have hgl2 : a * 2 + 2 ≤ (rcL S ++ und (u * 2)).length := by omega
        have hst := rc_set (und (u * 2)) l[j] (l := S) (i := a) (by omega)
        have c2 := del_p l[j] (hs _ (List.getElem_mem _))
        rw [show rpD l[j] = .agg [.slice (l[j].opts.map evD) .no, .bool l[j].doubt] from rfl] at c2
        have hk := keeps_snoc hj
        have hrS1 := fun β τ => hrn β τ S
        have hrS2 := fun β τ => hrn β τ (S.set a l[j])
        cases hd : del l[j]
        · rw [hd] at c2 hk
          rw [← hst] at hrS2
          generalize rcL S ++ und (u * 2) = C at *
          repeat' (first
    | with_reducible first | apply swp_seq | apply swp_reg | apply swp_regD | apply swp_block | apply swp_exit | apply swp_ret | apply swp_skip | apply swp_cd
    | simp only [go_sem, seval, pe31, q31, hg, t0, Nat.zero_add, setL]
    | simp (disch := omega) only [w64, w32, wu8, wu16, wu32, wu64]
    | ((with_reducible refine o_call (c2) ?he ?hc ?_); (case he | hc => first | rfl | (simp [D.erL, D.er, D.closedL, D.closed]; done)))
    | ((with_reducible apply s_slFF); (case hx => first | rfl | assumption | omega | ((first | refine ⟨?_, ?_⟩ | skip) <;> first | omega | (simp only [lN] <;> omega)) | (simp [elemsK, D.isVal, D.cells, D.closedL, D.closed]; first | done | omega)))
    | ((with_reducible first | apply s_slTF | apply s_slFT); (case h0 | h1 | hx => first | rfl | assumption | omega | ((first | refine ⟨?_, ?_⟩ | skip) <;> first | omega | (simp only [lN] <;> omega)) | (simp [elemsK, D.isVal, D.cells, D.closedL, D.closed]; first | done | omega)))
    | ((with_reducible apply s_slTT); (case h0 | h1 | h2 | hx => first | rfl | assumption | omega | ((first | refine ⟨?_, ?_⟩ | skip) <;> first | omega | (simp only [lN] <;> omega)) | (simp [elemsK, D.isVal, D.cells, D.closedL, D.closed]; first | done | omega)))
    | ((with_reducible first | apply s_smTF | apply s_smFT); (case h0 | h1 | hc => first | rfl | assumption | omega | ((first | refine ⟨?_, ?_⟩ | skip) <;> first | omega | (simp only [lN] <;> omega)) | (simp [elemsK, D.isVal, D.cells, D.closedL, D.closed]; first | done | omega)))
    | ((with_reducible apply s_smTT); (case h0 | h1 | h2 | hc => first | rfl | assumption | omega | ((first | refine ⟨?_, ?_⟩ | skip) <;> first | omega | (simp only [lN] <;> omega)) | (simp [elemsK, D.isVal, D.cells, D.closedL, D.closed]; first | done | omega)))
    | ((with_reducible apply s_clr); (case h1 => rfl); (case h2 | h3 => first | rfl | assumption | omega | ((first | refine ⟨?_, ?_⟩ | skip) <;> first | omega | (simp only [lN] <;> omega)) | (simp [elemsK, D.isVal, D.cells, D.closedL, D.closed]; first | done | omega)))
    | with_reducible first | apply cd_dec | apply cd_eq | apply cd_ne | apply cd_split
    | ((with_reducible refine And.intro ?hw ?_); (case hw => first | omega | rfl | exact ⟨_, _, rfl⟩ | assumption | (simp only [lN] <;> omega)))
    | with_reducible intro _)
          all_goals first | omega | skip
          refine ⟨(a + 1, j + 1, S.set a l[j]), ⟨by simp only; omega, by simp only; omega, by simp [g3], ?_, by simp only [Bool.false_eq_true, if_false] at hk; simp only; omega⟩, by simp only; omega, ?_⟩
          · simp only
            rw [List.drop_set_of_lt (by omega)]
            have := congrArg (List.drop 1) g4
            simpa [List.drop_drop] using this
          · simp only
            rw [← hst]
            simp [keepE, St.keep, St.keepG, St.gc, Hp.cut, D.rn, D.rnL, Blk.rnL, Blk.rn, Tv.rnL, cutF, hrS2]
        · rw [hd] at c2 hk
          have hC : rcL S ++ und (u * 2) = rcL S ++ und (u * 2) := rfl
          generalize hCe : rcL S ++ und (u * 2) = C at *
          repeat' (first
    | with_reducible first | apply swp_seq | apply swp_reg | apply swp_regD | apply swp_block | apply swp_exit | apply swp_ret | apply swp_skip | apply swp_cd
    | simp only [go_sem, seval, pe31, q31, hg, t0, Nat.zero_add, setL]
    | simp (disch := omega) only [w64, w32, wu8, wu16, wu32, wu64]
    | ((with_reducible refine o_call (c2) ?he ?hc ?_); (case he | hc => first | rfl | (simp [D.erL, D.er, D.closedL, D.closed]; done)))
    | ((with_reducible apply s_slFF); (case hx => first | rfl | assumption | omega | ((first | refine ⟨?_, ?_⟩ | skip) <;> first | omega | (simp only [lN] <;> omega)) | (simp [elemsK, D.isVal, D.cells, D.closedL, D.closed]; first | done | omega)))
    | ((with_reducible first | apply s_slTF | apply s_slFT); (case h0 | h1 | hx => first | rfl | assumption | omega | ((first | refine ⟨?_, ?_⟩ | skip) <;> first | omega | (simp only [lN] <;> omega)) | (simp [elemsK, D.isVal, D.cells, D.closedL, D.closed]; first | done | omega)))
    | ((with_reducible apply s_slTT); (case h0 | h1 | h2 | hx => first | rfl | assumption | omega | ((first | refine ⟨?_, ?_⟩ | skip) <;> first | omega | (simp only [lN] <;> omega)) | (simp [elemsK, D.isVal, D.cells, D.closedL, D.closed]; first | done | omega)))
    | ((with_reducible first | apply s_smTF | apply s_smFT); (case h0 | h1 | hc => first | rfl | assumption | omega | ((first | refine ⟨?_, ?_⟩ | skip) <;> first | omega | (simp only [lN] <;> omega)) | (simp [elemsK, D.isVal, D.cells, D.closedL, D.closed]; first | done | omega)))
    | ((with_reducible apply s_smTT); (case h0 | h1 | h2 | hc => first | rfl | assumption | omega | ((first | refine ⟨?_, ?_⟩ | skip) <;> first | omega | (simp only [lN] <;> omega)) | (simp [elemsK, D.isVal, D.cells, D.closedL, D.closed]; first | done | omega)))
    | ((with_reducible apply s_clr); (case h1 => rfl); (case h2 | h3 => first | rfl | assumption | omega | ((first | refine ⟨?_, ?_⟩ | skip) <;> first | omega | (simp only [lN] <;> omega)) | (simp [elemsK, D.isVal, D.cells, D.closedL, D.closed]; first | done | omega)))
    | with_reducible first | apply cd_dec | apply cd_eq | apply cd_ne | apply cd_split
    | ((with_reducible refine And.intro ?hw ?_); (case hw => first | omega | rfl | exact ⟨_, _, rfl⟩ | assumption | (simp only [lN] <;> omega)))
    | with_reducible intro _)
          all_goals first | omega | skip
          refine ⟨(a, j + 1, S), ⟨by simp only; omega, by simp only; omega, g3, ?_, by simp only [if_true] at hk; simp only; omega⟩, by simp only; omega, ?_⟩
          · simp only
            have := congrArg (List.drop 1) g4
            simpa [List.drop_drop] using this
          · simp only
            rw [hCe]
            simp [keepE, St.keep, St.keepG, St.gc, Hp.cut, D.rn, D.rnL, Blk.rnL, Blk.rn, Tv.rnL, cutF, hrS1]
      · have t0 : decide (((j : Nat) : Int) < l.length) = false := by simp; omega
        have : j = l.length := by omega
        subst this
        rw [List.take_length] at g5
        have hgl : (rcL S ++ und (u * 2)).length = cap * 2 := by rw [List.length_append, hrS, und_len]; omega
        subst g5
        generalize l.countP (fun r => !(del r)) = a at *
        generalize rcL S ++ und (u * 2) = C at *
        repeat' (first
    | with_reducible first | apply swp_seq | apply swp_reg | apply swp_regD | apply swp_block | apply swp_exit | apply swp_ret | apply swp_skip | apply swp_cd
    | simp only [go_sem, seval, pe31, q31, t0, dlen, Nat.zero_add]
    | simp (disch := omega) only [w64, w32, wu8, wu16, wu32, wu64]
    | ((with_reducible apply s_slFF); (case hx => first | rfl | assumption | omega | ((first | refine ⟨?_, ?_⟩ | skip) <;> first | omega | (simp only [lN, hgl, dlen] <;> omega)) | (simp [elemsK, D.isVal, D.cells, D.closedL, D.closed, hgl, dlen]; first | done | omega)))
    | ((with_reducible first | apply s_slTF | apply s_slFT); (case h0 | h1 | hx => first | rfl | assumption | omega | ((first | refine ⟨?_, ?_⟩ | skip) <;> first | omega | (simp only [lN, hgl, dlen] <;> omega)) | (simp [elemsK, D.isVal, D.cells, D.closedL, D.closed, hgl, dlen]; first | done | omega)))
    | ((with_reducible apply s_slTT); (case h0 | h1 | h2 | hx => first | rfl | assumption | omega | ((first | refine ⟨?_, ?_⟩ | skip) <;> first | omega | (simp only [lN, hgl, dlen] <;> omega)) | (simp [elemsK, D.isVal, D.cells, D.closedL, D.closed, hgl, dlen]; first | done | omega)))
    | ((with_reducible first | apply s_smTF | apply s_smFT); (case h0 | h1 | hc => first | rfl | assumption | omega | ((first | refine ⟨?_, ?_⟩ | skip) <;> first | omega | (simp only [lN, hgl, dlen] <;> omega)) | (simp [elemsK, D.isVal, D.cells, D.closedL, D.closed, hgl, dlen]; first | done | omega)))
    | ((with_reducible apply s_smTT); (case h0 | h1 | h2 | hc => first | rfl | assumption | omega | ((first | refine ⟨?_, ?_⟩ | skip) <;> first | omega | (simp only [lN, hgl, dlen] <;> omega)) | (simp [elemsK, D.isVal, D.cells, D.closedL, D.closed, hgl, dlen]; first | done | omega)))
    | ((with_reducible apply s_clr); (case h1 => rfl); (case h2 | h3 => first | rfl | assumption | omega | ((first | refine ⟨?_, ?_⟩ | skip) <;> first | omega | (simp only [lN, hgl, dlen] <;> omega)) | (simp [elemsK, D.isVal, D.cells, D.closedL, D.closed, hgl, dlen]; first | done | omega)))
    | with_reducible first | apply cd_dec | apply cd_eq | apply cd_ne | apply cd_split
    | ((with_reducible refine And.intro ?hw ?_); (case hw => first | omega | rfl | exact ⟨_, _, rfl⟩ | assumption | (simp only [lN, hgl, dlen] <;> omega)))
    | with_reducible intro _)
        all_goals first | omega | skip
        exact ⟨_, weak_refl, rfl, _, rfl⟩
  · have c1 := ix44n l (und (u * 2)) cap hl (by omega) hs h
    have hrn : ∀ β τ l, D.rnL β τ (rcL l ++ und (u * 2)) = rcL l ++ und (u * 2) := fun β τ l => by rw [rnL_app, rcL_rn, rnL_und]
    have hall : l.countP (fun r => !(del r)) = l.length := List.countP_eq_length.2 fun r hr => by rw [h r hr]; rfl
    rw [hall]
    refine oe31 1 0 rfl rfl rfl ?_
    rw [ie31]
    unfold c31
    repeat' (first
    | with_reducible first | apply swp_seq | apply swp_reg | apply swp_regD | apply swp_block | apply swp_exit | apply swp_ret | apply swp_skip | apply swp_cd
    | simp only [go_sem, seval, pe31, q31, hrn]
    | simp (disch := omega) only [w64, w32, wu8, wu16, wu32, wu64]
    | ((with_reducible refine o_same (c1) ?he ?hh ?_); (case he => first | rfl | (simp [go_sem, seval, hrn]; done)); (case hh => first | rfl | (simp [go_sem, seval, hrn]; done)))
    | ((with_reducible apply s_slFF); (case hx => first | rfl | assumption | omega | ((first | refine ⟨?_, ?_⟩ | skip) <;> first | omega | (simp only [lN, hrn] <;> omega)) | (simp [elemsK, D.isVal, D.cells, D.closedL, D.closed, hrn]; first | done | omega)))
    | ((with_reducible first | apply s_slTF | apply s_slFT); (case h0 | h1 | hx => first | rfl | assumption | omega | ((first | refine ⟨?_, ?_⟩ | skip) <;> first | omega | (simp only [lN, hrn] <;> omega)) | (simp [elemsK, D.isVal, D.cells, D.closedL, D.closed, hrn]; first | done | omega)))
    | ((with_reducible apply s_slTT); (case h0 | h1 | h2 | hx => first | rfl | assumption | omega | ((first | refine ⟨?_, ?_⟩ | skip) <;> first | omega | (simp only [lN, hrn] <;> omega)) | (simp [elemsK, D.isVal, D.cells, D.closedL, D.closed, hrn]; first | done | omega)))
    | ((with_reducible first | apply s_smTF | apply s_smFT); (case h0 | h1 | hc => first | rfl | assumption | omega | ((first | refine ⟨?_, ?_⟩ | skip) <;> first | omega | (simp only [lN, hrn] <;> omega)) | (simp [elemsK, D.isVal, D.cells, D.closedL, D.closed, hrn]; first | done | omega)))
    | ((with_reducible apply s_smTT); (case h0 | h1 | h2 | hc => first | rfl | assumption | omega | ((first | refine ⟨?_, ?_⟩ | skip) <;> first | omega | (simp only [lN, hrn] <;> omega)) | (simp [elemsK, D.isVal, D.cells, D.closedL, D.closed, hrn]; first | done | omega)))
    | ((with_reducible apply s_clr); (case h1 => rfl); (case h2 | h3 => first | rfl | assumption | omega | ((first | refine ⟨?_, ?_⟩ | skip) <;> first | omega | (simp only [lN, hrn] <;> omega)) | (simp [elemsK, D.isVal, D.cells, D.closedL, D.closed, hrn]; first | done | omega)))
    | with_reducible first | apply cd_dec | apply cd_eq | apply cd_ne | apply cd_split
    | ((with_reducible refine And.intro ?hw ?_); (case hw => first | omega | rfl | exact ⟨_, _, rfl⟩ | assumption | (simp only [lN, hrn] <;> omega)))
    | with_reducible intro _)
    all_goals first | omega | skip
    exact ⟨_, weak_refl, rfl, _, rfl⟩
theorem o_sameR {P : Mod} {f : FuncId} {first cap args ds : List D} {hp0 : Hp} {R : D → Hp → Prop} {dst : Dst} {r : List RO} {K : St → Prop} {s : St} (h : Eff P f args hp0 R) (he : first ++ ds ++ cap = args) (hh : s.hp = hp0)
    (hk : ∀ d hp1, R d hp1 → opsWp P r K ({ s with hp := hp1 }.put dst d)) : OpS P .call (.fn (.func f) first cap :: ds) dst r K s := by
  unfold OpS OcWp
  simp only [isCall, if_true]
  subst he; subst hh
  exact call_same h hk
theorem clone_nil : Pur M 32 [.slice [] .no] (.slice [] .no) := by
  refine ow32 rfl ?_
  rw [i32]
  unfold c32
  repeat' (first
    | with_reducible first | apply swp_seq | apply swp_reg | apply swp_regD | apply swp_block | apply swp_exit | apply swp_ret | apply swp_skip | apply swp_cd
    | simp only [go_sem, seval, P32, q32]
    | simp (disch := omega) only [w64, w32, wu8, wu16, wu32, wu64]
    | ((with_reducible apply s_appT); (case he => rfl); (case hK | hc | hr | hV => first | rfl | assumption | omega | ((first | refine ⟨?_, ?_⟩ | skip) <;> first | omega | (simp only [lN] <;> omega)) | (simp [elemsK, D.isVal, D.cells, D.closedL, D.closed]; first | done | omega)))
    | ((with_reducible apply s_appG); (case he => rfl); (case hV | hK | hr | hl => first | rfl | assumption | omega | ((first | refine ⟨?_, ?_⟩ | skip) <;> first | omega | (simp only [lN] <;> omega)) | (simp [elemsK, D.isVal, D.cells, D.closedL, D.closed]; first | done | omega)))
    | ((with_reducible apply s_app0); (case he => rfl); (case hK | hc | hr => first | rfl | assumption | omega | ((first | refine ⟨?_, ?_⟩ | skip) <;> first | omega | (simp only [lN] <;> omega)) | (simp [elemsK, D.isVal, D.cells, D.closedL, D.closed]; first | done | omega)))
    | ((with_reducible apply s_appF); (case he => rfl); (case hK | hc | hr | hx | hn => first | rfl | assumption | omega | ((first | refine ⟨?_, ?_⟩ | skip) <;> first | omega | (simp only [lN] <;> omega)) | (simp [elemsK, D.isVal, D.cells, D.closedL, D.closed]; first | done | omega)))
    | ((with_reducible apply s_bsl); (case he | hl | hc => first | rfl | assumption | omega | ((first | refine ⟨?_, ?_⟩ | skip) <;> first | omega | (simp only [lN] <;> omega)) | (simp [elemsK, D.isVal, D.cells, D.closedL, D.closed]; first | done | omega)))
    | with_reducible first | apply cd_dec | apply cd_eq | apply cd_ne | apply cd_split
    | ((with_reducible refine And.intro ?hw ?_); (case hw => first | omega | rfl | exact ⟨_, _, rfl⟩ | assumption | (simp only [lN] <;> omega)))
    | with_reducible intro _)
  all_goals refine ⟨_, weak_nn, ?_, ?_⟩
  all_goals simp [D.nnL, D.nn, D.closed, D.er, D.erL]
theorem ix44_nil : Pur M 44 [.slice [] .no, .fn (.func 33) [] []] (.int .i64 (-1)) := by
  refine ok44 rfl ?_
  rw [i44]
  unfold c44
  repeat' (first
    | with_reducible first | apply swp_seq | apply swp_reg | apply swp_regD | apply swp_block | apply swp_exit | apply swp_ret | apply swp_skip | apply swp_cd
    | simp only [go_sem, seval, P44, q44]
    | simp (disch := omega) only [w64, w32, wu8, wu16, wu32, wu64]
    | with_reducible first | apply cd_dec | apply cd_eq | apply cd_ne | apply cd_split
    | ((with_reducible refine And.intro ?hw ?_); (case hw => first | omega | rfl | exact ⟨_, _, rfl⟩ | assumption | (simp only [lN] <;> omega)))
    | with_reducible intro _)
  refine swp_fam [0, 1, 4, 5] (fun _ : Unit => ⟨[.slice [] .no, .fn (.func 33) [] [], .undef, .undef, .int .i64 0, .int .i64 0, .undef, .undef], [], ⟨[], []⟩⟩) (fun _ => True) (fun _ => 0) () trivial ?_ ?_
  · simp [keepE, St.keep]
  · intro _ _
    repeat' (first
    | with_reducible first | apply swp_seq | apply swp_reg | apply swp_regD | apply swp_block | apply swp_exit | apply swp_ret | apply swp_skip | apply swp_cd
    | simp only [go_sem, seval, P44, q44]
    | simp (disch := omega) only [w64, w32, wu8, wu16, wu32, wu64]
    | with_reducible first | apply cd_dec | apply cd_eq | apply cd_ne | apply cd_split
    | ((with_reducible refine And.intro ?hw ?_); (case hw => first | omega | rfl | exact ⟨_, _, rfl⟩ | assumption | (simp only [lN] <;> omega)))
    | with_reducible intro _)
    all_goals first | omega | simp [D.closed, D.er]
theorem del31_nil : Pur M 31 [.slice [] .no, .fn (.func 33) [] []] (.slice [] .no) := by
  have c1 := ix44_nil
  refine ok31 rfl ?_
  rw [i31]
  unfold c31
  repeat' (first
    | with_reducible first | apply swp_seq | apply swp_reg | apply swp_regD | apply swp_block | apply swp_exit | apply swp_ret | apply swp_skip | apply swp_cd
    | simp only [go_sem, seval, P31, q31]
    | simp (disch := omega) only [w64, w32, wu8, wu16, wu32, wu64]
    | ((with_reducible refine o_call (c1) ?he ?hc ?_); (case he | hc => first | rfl | (simp [D.erL, D.er, D.closedL, D.closed]; done)))
    | ((with_reducible apply s_slFF); (case hx => first | rfl | assumption | omega | ((first | refine ⟨?_, ?_⟩ | skip) <;> first | omega | (simp only [lN] <;> omega)) | (simp [elemsK, D.isVal, D.cells, D.closedL, D.closed]; first | done | omega)))
    | ((with_reducible first | apply s_slTF | apply s_slFT); (case h0 | h1 | hx => first | rfl | assumption | omega | ((first | refine ⟨?_, ?_⟩ | skip) <;> first | omega | (simp only [lN] <;> omega)) | (simp [elemsK, D.isVal, D.cells, D.closedL, D.closed]; first | done | omega)))
    | ((with_reducible apply s_slTT); (case h0 | h1 | h2 | hx => first | rfl | assumption | omega | ((first | refine ⟨?_, ?_⟩ | skip) <;> first | omega | (simp only [lN] <;> omega)) | (simp [elemsK, D.isVal, D.cells, D.closedL, D.closed]; first | done | omega)))
    | ((with_reducible first | apply s_smTF | apply s_smFT); (case h0 | h1 | hc => first | rfl | assumption | omega | ((first | refine ⟨?_, ?_⟩ | skip) <;> first | omega | (simp only [lN] <;> omega)) | (simp [elemsK, D.isVal, D.cells, D.closedL, D.closed]; first | done | omega)))
    | ((with_reducible apply s_smTT); (case h0 | h1 | h2 | hc => first | rfl | assumption | omega | ((first | refine ⟨?_, ?_⟩ | skip) <;> first | omega | (simp only [lN] <;> omega)) | (simp [elemsK, D.isVal, D.cells, D.closedL, D.closed]; first | done | omega)))
    | ((with_reducible apply s_clr); (case h1 => rfl); (case h2 | h3 => first | rfl | assumption | omega | ((first | refine ⟨?_, ?_⟩ | skip) <;> first | omega | (simp only [lN] <;> omega)) | (simp [elemsK, D.isVal, D.cells, D.closedL, D.closed]; first | done | omega)))
    | with_reducible first | apply cd_dec | apply cd_eq | apply cd_ne | apply cd_split
    | ((with_reducible refine And.intro ?hw ?_); (case hw => first | omega | rfl | exact ⟨_, _, rfl⟩ | assumption | (simp only [lN] <;> omega)))
    | with_reducible intro _)
  all_goals first | omega | simp [D.closed, D.er]
theorem doubts_p (l : List Rp) (hl : l.length ≤ 1000) (hs : Small l) : Pur M 18 [rpsD l] (.int .i64 (doubtsR l : Nat)) := by
  by_cases h0 : l.length = 0
  · have : l = [] := List.eq_nil_of_length_eq_zero h0
    subst this
    have c1 := clone_nil
    have c2 := del31_nil
    refine ok18 rfl ?_
    rw [i18]
    unfold c18
    repeat' (first
    | with_reducible first | apply swp_seq | apply swp_reg | apply swp_regD | apply swp_block | apply swp_exit | apply swp_ret | apply swp_skip | apply swp_cd
    | simp only [go_sem, seval, P18, q18]
    | simp (disch := omega) only [w64, w32, wu8, wu16, wu32, wu64]
    | ((with_reducible refine o_call (c1) ?he ?hc ?_); (case he | hc => first | rfl | (simp [D.erL, D.er, D.closedL, D.closed]; done)))
    | ((with_reducible refine o_call (c2) ?he ?hc ?_); (case he | hc => first | rfl | (simp [D.erL, D.er, D.closedL, D.closed]; done)))
    | with_reducible first | apply cd_dec | apply cd_eq | apply cd_ne | apply cd_split
    | ((with_reducible refine And.intro ?hw ?_); (case hw => first | omega | rfl | exact ⟨_, _, rfl⟩ | assumption | (simp only [lN] <;> omega)))
    | with_reducible intro _)
    all_goals first | omega | simp [D.closed, D.er, doubtsR]
  · have c1 := clone_r l hl (by omega)
    refine ow18 rfl ?_
    rw [i18]
    unfold c18
    repeat' (first
    | with_reducible first | apply swp_seq | apply swp_reg | apply swp_regD | apply swp_block | apply swp_exit | apply swp_ret | apply swp_skip | apply swp_cd
    | simp only [go_sem, seval, P18, q18]
    | simp (disch := omega) only [w64, w32, wu8, wu16, wu32, wu64]
    | with_reducible first | apply cd_dec | apply cd_eq | apply cd_ne | apply cd_split
    | ((with_reducible refine And.intro ?hw ?_); (case hw => first | omega | rfl | exact ⟨_, _, rfl⟩ | assumption | (simp only [lN] <;> omega)))
    | with_reducible intro _)
    refine o_sameR c1 rfl rfl fun d hp1 hR => ?_
    obtain ⟨cap, hc, rfl, rfl⟩ := hR
    have c2 := del31 l (cap - l.length) cap hl (by omega) hs
    repeat' (first
    | with_reducible first | apply swp_seq | apply swp_reg | apply swp_regD | apply swp_block | apply swp_exit | apply swp_ret | apply swp_skip | apply swp_cd
    | simp only [go_sem, seval, P18, q18]
    | simp (disch := omega) only [w64, w32, wu8, wu16, wu32, wu64]
    | with_reducible first | apply cd_dec | apply cd_eq | apply cd_ne | apply cd_split
    | ((with_reducible refine And.intro ?hw ?_); (case hw => first | omega | rfl | exact ⟨_, _, rfl⟩ | assumption | (simp only [lN] <;> omega)))
    | with_reducible intro _)
    refine o_sameR c2 rfl rfl fun d hp1 hR => ?_
    obtain ⟨rfl, Z, rfl⟩ := hR
    repeat' (first
    | with_reducible first | apply swp_seq | apply swp_reg | apply swp_regD | apply swp_block | apply swp_exit | apply swp_ret | apply swp_skip | apply swp_cd
    | simp only [go_sem, seval, P18, q18]
    | simp (disch := omega) only [w64, w32, wu8, wu16, wu32, wu64]
    | with_reducible first | apply cd_dec | apply cd_eq | apply cd_ne | apply cd_split
    | ((with_reducible refine And.intro ?hw ?_); (case hw => first | omega | rfl | exact ⟨_, _, rfl⟩ | assumption | (simp only [lN] <;> omega)))
    | with_reducible intro _)
    all_goals first | omega | skip
    exact ⟨_, weak_refl, by simp [D.closed], by simp [D.er]⟩
end Go.Proofs.Ytofnggfpegcllaa
end
section
set_option maxRecDepth 100000
set_option linter.unusedSimpArgs false
set_option linter.unusedVariables false
namespace Go.Proofs.Ytofnggfpegcllaa
open Go GoV Go.RowKit
theorem compsD_len (C : List (List Nat)) : (compsD C).length = C.length := by simp [compsD]
theorem compsD_get {C : List (List Nat)} {i : Nat} (h : i < C.length) : (compsD C).getD i .undef = .slice (ints (C.getD i [])) .no := by simp [compsD, List.getD, h]
theorem cl_comps (C : List (List Nat)) : D.closedL (compsD C) = true := by
  induction C with
  | nil => rfl
  | cons c C ih => simp [compsD, D.closedL, D.closed] at ih ⊢; exact ih
theorem er_comps (C : List (List Nat)) : D.erL (compsD C) = compsD C := by
  induction C with
  | nil => rfl
  | cons c C ih => simp [compsD, D.erL, D.er] at ih ⊢; exact ih
theorem in_p (N : List Nm) (s : Nm) (hl : N.length ≤ 1000) : Pur M 22 [.slice (strs N) .no, .str s] (.bool (N.contains s)) := by
  refine ok22 rfl ?_
  rw [i22]
  unfold c22
  have hn := strs_len N
  repeat' (first
    | with_reducible first | apply swp_seq | apply swp_reg | apply swp_regD | apply swp_block | apply swp_exit | apply swp_ret | apply swp_skip | apply swp_cd
    | simp only [go_sem, seval, P22, q22]
    | simp (disch := omega) only [w64, w32, wu8, wu16, wu32, wu64]
    | with_reducible first | apply cd_dec | apply cd_eq | apply cd_ne | apply cd_split
    | ((with_reducible refine And.intro ?hw ?_); (case hw => first | omega | rfl | exact ⟨_, _, rfl⟩ | assumption | (simp only [lN] <;> omega)))
    | with_reducible intro _)
  refine swp_fam [0, 1, 3] (fun i : Nat => ⟨[.slice (strs N) .no, .str s, .undef, .int .i64 i, .undef, .undef], [], ⟨[], []⟩⟩) (fun i => i ≤ N.length ∧ ∀ j (h : j < i) (g : j < N.length), N[j] ≠ s) (fun i => N.length - i) 0 ⟨by omega, fun j h => by omega⟩ ?_ ?_
  · simp [keepE, St.keep]
  · rintro i ⟨h1, h2⟩
    by_cases hi : i < N.length
    · have hg := strs_get hi
      have t0 : decide (((i : Nat) : Int) < N.length) = true := by simp; omega
      by_cases he : N[i] = s
      · have hb : (N[i] == s) = true := by rw [beq_iff_eq]; exact he
        have hc : N.contains s = true := by rw [List.contains_iff_mem, ← he]; exact List.getElem_mem hi
        rw [hc]
        repeat' (first
    | with_reducible first | apply swp_seq | apply swp_reg | apply swp_regD | apply swp_block | apply swp_exit | apply swp_ret | apply swp_skip | apply swp_cd
    | simp only [go_sem, seval, P22, q22, hn, hg, t0, hb]
    | simp (disch := omega) only [w64, w32, wu8, wu16, wu32, wu64]
    | with_reducible first | apply cd_dec | apply cd_eq | apply cd_ne | apply cd_split
    | ((with_reducible refine And.intro ?hw ?_); (case hw => first | omega | rfl | exact ⟨_, _, rfl⟩ | assumption | (simp only [lN, hn, hg] <;> omega)))
    | with_reducible intro _)
        all_goals first | omega | simp [D.closed, D.er]
      · have hb : (N[i] == s) = false := by rw [beq_eq_false_iff_ne]; exact he
        repeat' (first
    | with_reducible first | apply swp_seq | apply swp_reg | apply swp_regD | apply swp_block | apply swp_exit | apply swp_ret | apply swp_skip | apply swp_cd
    | simp only [go_sem, seval, P22, q22, hn, hg, t0, hb]
    | simp (disch := omega) only [w64, w32, wu8, wu16, wu32, wu64]
    | with_reducible first | apply cd_dec | apply cd_eq | apply cd_ne | apply cd_split
    | ((with_reducible refine And.intro ?hw ?_); (case hw => first | omega | rfl | exact ⟨_, _, rfl⟩ | assumption | (simp only [lN, hn, hg] <;> omega)))
    | with_reducible intro _)
        all_goals first | omega | skip
        refine ⟨i + 1, ⟨by omega, fun j h g => ?_⟩, by omega, by simp [keepE, St.keep]⟩
        by_cases e : j = i
        · subst e; exact he
        · exact h2 j (by omega) g
    · have t0 : decide (((i : Nat) : Int) < N.length) = false := by simp; omega
      have hc : N.contains s = false := by
        cases e : N.contains s with
        | false => rfl
        | true =>
          rw [List.contains_iff_mem] at e
          obtain ⟨j, hj, e⟩ := List.getElem_of_mem e
          exact absurd e (h2 j (by omega) hj)
      rw [hc]
      repeat' (first
    | with_reducible first | apply swp_seq | apply swp_reg | apply swp_regD | apply swp_block | apply swp_exit | apply swp_ret | apply swp_skip | apply swp_cd
    | simp only [go_sem, seval, P22, q22, hn, t0]
    | simp (disch := omega) only [w64, w32, wu8, wu16, wu32, wu64]
    | with_reducible first | apply cd_dec | apply cd_eq | apply cd_ne | apply cd_split
    | ((with_reducible refine And.intro ?hw ?_); (case hw => first | omega | rfl | exact ⟨_, _, rfl⟩ | assumption | (simp only [lN, hn] <;> omega)))
    | with_reducible intro _)
      all_goals first | omega | simp [D.closed, D.er]
theorem ints_getD {F : List Nat} {i : Nat} (h : i < F.length) : (ints F).getD i .undef = .int .i64 (F[i] : Nat) := by simp [ints, List.getD, h]
theorem ints_p (a b : List Nat) (hl : a.length ≤ 1000) (hl2 : b.length ≤ 1000) : Pur M 15 [.slice (ints a) .no, .slice (ints b) .no] (.bool (a == b)) := by
  refine ok15 rfl ?_
  rw [i15]
  unfold c15
  have ha := ints_len a
  have hb := ints_len b
  by_cases he : a.length = b.length
  · have t0 : (((a.length : Nat) : Int) != (b.length : Nat)) = false := by rw [he]; simp
    repeat' (first
    | with_reducible first | apply swp_seq | apply swp_reg | apply swp_regD | apply swp_block | apply swp_exit | apply swp_ret | apply swp_skip | apply swp_cd
    | simp only [go_sem, seval, P15, q15, ha, hb, t0]
    | simp (disch := omega) only [w64, w32, wu8, wu16, wu32, wu64]
    | with_reducible first | apply cd_dec | apply cd_eq | apply cd_ne | apply cd_split
    | ((with_reducible refine And.intro ?hw ?_); (case hw => first | omega | rfl | exact ⟨_, _, rfl⟩ | assumption | (simp only [lN, ha, hb] <;> omega)))
    | with_reducible intro _)
    refine swp_fam [0, 1, 3] (fun i : Nat => ⟨[.slice (ints a) .no, .slice (ints b) .no, .undef, .int .i64 i, .undef, .undef, .undef], [], ⟨[], []⟩⟩) (fun i => i ≤ a.length ∧ ∀ j (h : j < i) (g : j < a.length), a[j] = b[j]'(by omega)) (fun i => a.length - i) 0 ⟨by omega, fun j h => by omega⟩ ?_ ?_
    · simp [keepE, St.keep]
    · rintro i ⟨h1, h2⟩
      by_cases hi : i < a.length
      · have t1 : decide (((i : Nat) : Int) < a.length) = true := by simp; omega
        have g1 := ints_getD hi
        have g2 := ints_getD (F := b) (i := i) (by omega)
        by_cases e : a[i] = b[i]
        · have t2 : (((a[i] : Nat) : Int) != (b[i] : Nat)) = false := by rw [e]; simp
          repeat' (first
    | with_reducible first | apply swp_seq | apply swp_reg | apply swp_regD | apply swp_block | apply swp_exit | apply swp_ret | apply swp_skip | apply swp_cd
    | simp only [go_sem, seval, P15, q15, ha, hb, t1, t2, g1, g2]
    | simp (disch := omega) only [w64, w32, wu8, wu16, wu32, wu64]
    | with_reducible first | apply cd_dec | apply cd_eq | apply cd_ne | apply cd_split
    | ((with_reducible refine And.intro ?hw ?_); (case hw => first | omega | rfl | exact ⟨_, _, rfl⟩ | assumption | (simp only [lN, ha, hb, g1, g2] <;> omega)))
    | with_reducible intro _)
          all_goals first | omega | skip
          refine ⟨i + 1, ⟨by omega, fun j h g => ?_⟩, by omega, by simp [keepE, St.keep]⟩
          by_cases q : j = i
          · subst q; exact e
          · exact h2 j (by omega) g
        · have t2 : (((a[i] : Nat) : Int) != (b[i] : Nat)) = true := by rw [bne_iff_ne]; omega
          have hc : (a == b) = false := by rw [beq_eq_false_iff_ne]; intro q; subst q; exact e rfl
          rw [hc]
          repeat' (first
    | with_reducible first | apply swp_seq | apply swp_reg | apply swp_regD | apply swp_block | apply swp_exit | apply swp_ret | apply swp_skip | apply swp_cd
    | simp only [go_sem, seval, P15, q15, ha, hb, t1, t2, g1, g2]
    | simp (disch := omega) only [w64, w32, wu8, wu16, wu32, wu64]
    | with_reducible first | apply cd_dec | apply cd_eq | apply cd_ne | apply cd_split
    | ((with_reducible refine And.intro ?hw ?_); (case hw => first | omega | rfl | exact ⟨_, _, rfl⟩ | assumption | (simp only [lN, ha, hb, g1, g2] <;> omega)))
    | with_reducible intro _)
          all_goals first | omega | simp [D.closed, D.er]
      · have t1 : decide (((i : Nat) : Int) < a.length) = false := by simp; omega
        have hc : (a == b) = true := by
          rw [beq_iff_eq]
          exact List.ext_getElem he fun j g1 g2 => h2 j (by omega) g1
        rw [hc]
        repeat' (first
    | with_reducible first | apply swp_seq | apply swp_reg | apply swp_regD | apply swp_block | apply swp_exit | apply swp_ret | apply swp_skip | apply swp_cd
    | simp only [go_sem, seval, P15, q15, ha, hb, t1]
    | simp (disch := omega) only [w64, w32, wu8, wu16, wu32, wu64]
    | with_reducible first | apply cd_dec | apply cd_eq | apply cd_ne | apply cd_split
    | ((with_reducible refine And.intro ?hw ?_); (case hw => first | omega | rfl | exact ⟨_, _, rfl⟩ | assumption | (simp only [lN, ha, hb] <;> omega)))
    | with_reducible intro _)
        all_goals first | omega | simp [D.closed, D.er]
  · have t0 : (((a.length : Nat) : Int) != (b.length : Nat)) = true := by rw [bne_iff_ne]; omega
    have hc : (a == b) = false := by rw [beq_eq_false_iff_ne]; intro q; subst q; exact he rfl
    rw [hc]
    repeat' (first
    | with_reducible first | apply swp_seq | apply swp_reg | apply swp_regD | apply swp_block | apply swp_exit | apply swp_ret | apply swp_skip | apply swp_cd
    | simp only [go_sem, seval, P15, q15, ha, hb, t0]
    | simp (disch := omega) only [w64, w32, wu8, wu16, wu32, wu64]
    | with_reducible first | apply cd_dec | apply cd_eq | apply cd_ne | apply cd_split
    | ((with_reducible refine And.intro ?hw ?_); (case hw => first | omega | rfl | exact ⟨_, _, rfl⟩ | assumption | (simp only [lN, ha, hb] <;> omega)))
    | with_reducible intro _)
    all_goals first | omega | simp [D.closed, D.er]
theorem same_p (a : List (List Nat)) (hl : a.length ≤ 1000) (hs : ∀ c ∈ a, c.length ≤ 1000) : Pur M 12 [.slice (compsD a) .no, .slice (compsD a) .no] (.bool true) := by
  refine ok12 rfl ?_
  rw [i12]
  unfold c12
  have ha := compsD_len a
  have t0 : (((a.length : Nat) : Int) != (a.length : Nat)) = false := by simp
  repeat' (first
    | with_reducible first | apply swp_seq | apply swp_reg | apply swp_regD | apply swp_block | apply swp_exit | apply swp_ret | apply swp_skip | apply swp_cd
    | simp only [go_sem, seval, P12, q12, ha, t0]
    | simp (disch := omega) only [w64, w32, wu8, wu16, wu32, wu64]
    | with_reducible first | apply cd_dec | apply cd_eq | apply cd_ne | apply cd_split
    | ((with_reducible refine And.intro ?hw ?_); (case hw => first | omega | rfl | exact ⟨_, _, rfl⟩ | assumption | (simp only [lN, ha] <;> omega)))
    | with_reducible intro _)
  refine swp_fam [0, 1, 3] (fun i : Nat => ⟨[.slice (compsD a) .no, .slice (compsD a) .no, .undef, .int .i64 i, .undef, .undef, .undef], [], ⟨[], []⟩⟩) (fun i => i ≤ a.length) (fun i => a.length - i) 0 (by omega) ?_ ?_
  · simp [keepE, St.keep]
  · intro i h1
    by_cases hi : i < a.length
    · have t1 : decide (((i : Nat) : Int) < a.length) = true := by simp; omega
      have g1 := compsD_get hi
      have hm : (a.getD i []).length ≤ 1000 := by
        have : a.getD i [] = a[i] := by simp [List.getD, hi]
        rw [this]; exact hs _ (List.getElem_mem hi)
      have c1 := ints_p (a.getD i []) (a.getD i []) hm hm
      rw [beq_self_eq_true] at c1
      have hcl := cl_ints (a.getD i [])
      have her := er_ints (a.getD i [])
      repeat' (first
    | with_reducible first | apply swp_seq | apply swp_reg | apply swp_regD | apply swp_block | apply swp_exit | apply swp_ret | apply swp_skip | apply swp_cd
    | simp only [go_sem, seval, P12, q12, ha, t1, g1]
    | simp (disch := omega) only [w64, w32, wu8, wu16, wu32, wu64]
    | ((with_reducible refine o_call (c1) ?he ?hc ?_); (case he | hc => first | rfl | (simp [D.erL, D.er, D.closedL, D.closed, ha, g1, hcl, her]; done)))
    | with_reducible first | apply cd_dec | apply cd_eq | apply cd_ne | apply cd_split
    | ((with_reducible refine And.intro ?hw ?_); (case hw => first | omega | rfl | exact ⟨_, _, rfl⟩ | assumption | (simp only [lN, ha, g1, hcl, her] <;> omega)))
    | with_reducible intro _)
      all_goals first | omega | skip
      exact ⟨i + 1, by omega, by omega, by simp [keepE, St.keep]⟩
    · have t1 : decide (((i : Nat) : Int) < a.length) = false := by simp; omega
      repeat' (first
    | with_reducible first | apply swp_seq | apply swp_reg | apply swp_regD | apply swp_block | apply swp_exit | apply swp_ret | apply swp_skip | apply swp_cd
    | simp only [go_sem, seval, P12, q12, ha, t1]
    | simp (disch := omega) only [w64, w32, wu8, wu16, wu32, wu64]
    | with_reducible first | apply cd_dec | apply cd_eq | apply cd_ne | apply cd_split
    | ((with_reducible refine And.intro ?hw ?_); (case hw => first | omega | rfl | exact ⟨_, _, rfl⟩ | assumption | (simp only [lN, ha] <;> omega)))
    | with_reducible intro _)
      all_goals first | omega | simp [D.closed, D.er]
def madeR (s : Nm) : Rp := ⟨[⟨1, 0, s, [107], [], [], [], [], ⟨0, 0⟩, ⟨0, 0⟩, ⟨0, 0⟩⟩], false⟩
theorem made_p (s : Nm) : Pur M 24 [.str s] (.agg [.slice [.agg [.int .i64 1, .int .i64 0, .str s, .str [107], .str [], .str [], .str [], .str [], .int .i64 0, .int .i64 0, .int .i64 0, .int .i64 0, .int .i64 0, .int .i64 0]] .no, .bool false]) := by
  refine ok24 rfl ?_
  rw [i24]
  unfold c24
  repeat' (first
    | with_reducible first | apply swp_seq | apply swp_reg | apply swp_regD | apply swp_block | apply swp_exit | apply swp_ret | apply swp_skip | apply swp_cd
    | simp only [go_sem, seval, P24, q24, fillL]
    | simp (disch := omega) only [w64, w32, wu8, wu16, wu32, wu64]
    | ((with_reducible apply s_bsl); (case he | hl | hc => first | rfl | assumption | omega | ((first | refine ⟨?_, ?_⟩ | skip) <;> first | omega | (simp only [lN] <;> omega)) | (simp [elemsK, D.isVal, D.cells, D.closedL, D.closed]; first | done | omega)))
    | with_reducible first | apply cd_dec | apply cd_eq | apply cd_ne | apply cd_split
    | ((with_reducible refine And.intro ?hw ?_); (case hw => first | omega | rfl | exact ⟨_, _, rfl⟩ | assumption | (simp only [lN] <;> omega)))
    | with_reducible intro _)
  all_goals simp [D.closed, D.er, D.closedL, D.erL]
def headL : List Rp := [madeR [97], madeR [98], ⟨[⟨2, 0, [97], [], [99], [115], [], [], ⟨0, 0⟩, ⟨0, 0⟩, ⟨0, 0⟩⟩], true⟩, madeR [99]]
theorem head_c : comps (namesL headL) = [[0, 2, 3], [1]] := by kernel_rfl
theorem head_o1 : ofP (namesL headL) [99] = [0, 2, 3] := by kernel_rfl
theorem head_o2 : ofP (namesL headL) [120] = [] := by kernel_rfl
theorem head_d : doubtsR headL = 1 := by kernel_rfl
set_option maxHeartbeats 1000000 in
theorem head_p : Pur M 10 [] (.bool true) := by
  have hs : Small headL := by
    intro r hr e he
    have : (headL.all fun r => r.opts.all Ev.sh) = true := by kernel_rfl
    exact List.all_eq_true.1 (List.all_eq_true.1 this r hr) e he
  have c1 := components_p headL (by decide) hs
  have c2 := of_p headL (by decide) hs [99]
  have c3 := of_p headL (by decide) hs [120]
  have c4 := doubts_p headL (by decide) hs
  have c5 := same_p [[0, 2, 3], [1]] (by decide) (by decide)
  have c6 := ints_p [0, 2, 3] [0, 2, 3] (by decide) (by decide)
  rw [head_c] at c1
  rw [head_o1] at c2
  rw [head_o2] at c3
  rw [head_d] at c4
  rw [beq_self_eq_true] at c6
  simp only [compsD, ints, List.map_cons, List.map_nil] at c1 c2 c3 c5 c6
  have m1 := made_p [97]
  have m2 := made_p [98]
  have m3 := made_p [99]
  simp only [headL, madeR, rpsD, List.map_cons, List.map_nil, rpD, evD, Ev.cells] at c1 c2 c3 c4
  refine ok10 rfl ?_
  rw [i10]
  unfold c10
  repeat' (first
    | with_reducible first | apply swp_seq | apply swp_reg | apply swp_regD | apply swp_block | apply swp_exit | apply swp_ret | apply swp_skip | apply swp_cd
    | simp only [go_sem, seval, P10, q10, fillL, nc0, nc1, nc2, nc3]
    | simp (disch := omega) only [w64, w32, wu8, wu16, wu32, wu64]
    | ((with_reducible first | refine o_call (m1) ?he ?hc ?_ | refine p_call (m1) ?he ?hc ?_ | refine c_call (m1) ?he ?hc ?_); (case he | hc => first | rfl | (simp [D.erL, D.er, D.closedL, D.closed, nc0, nc1, nc2, nc3]; done)))
    | ((with_reducible first | refine o_call (m2) ?he ?hc ?_ | refine p_call (m2) ?he ?hc ?_ | refine c_call (m2) ?he ?hc ?_); (case he | hc => first | rfl | (simp [D.erL, D.er, D.closedL, D.closed, nc0, nc1, nc2, nc3]; done)))
    | ((with_reducible first | refine o_call (m3) ?he ?hc ?_ | refine p_call (m3) ?he ?hc ?_ | refine c_call (m3) ?he ?hc ?_); (case he | hc => first | rfl | (simp [D.erL, D.er, D.closedL, D.closed, nc0, nc1, nc2, nc3]; done)))
    | ((with_reducible first | refine o_call (c1) ?he ?hc ?_ | refine p_call (c1) ?he ?hc ?_ | refine c_call (c1) ?he ?hc ?_); (case he | hc => first | rfl | (simp [D.erL, D.er, D.closedL, D.closed, nc0, nc1, nc2, nc3]; done)))
    | ((with_reducible first | refine o_call (c2) ?he ?hc ?_ | refine p_call (c2) ?he ?hc ?_ | refine c_call (c2) ?he ?hc ?_); (case he | hc => first | rfl | (simp [D.erL, D.er, D.closedL, D.closed, nc0, nc1, nc2, nc3]; done)))
    | ((with_reducible first | refine o_call (c3) ?he ?hc ?_ | refine p_call (c3) ?he ?hc ?_ | refine c_call (c3) ?he ?hc ?_); (case he | hc => first | rfl | (simp [D.erL, D.er, D.closedL, D.closed, nc0, nc1, nc2, nc3]; done)))
    | ((with_reducible first | refine o_call (c4) ?he ?hc ?_ | refine p_call (c4) ?he ?hc ?_ | refine c_call (c4) ?he ?hc ?_); (case he | hc => first | rfl | (simp [D.erL, D.er, D.closedL, D.closed, nc0, nc1, nc2, nc3]; done)))
    | ((with_reducible first | refine o_call (c5) ?he ?hc ?_ | refine p_call (c5) ?he ?hc ?_ | refine c_call (c5) ?he ?hc ?_); (case he | hc => first | rfl | (simp [D.erL, D.er, D.closedL, D.closed, nc0, nc1, nc2, nc3]; done)))
    | ((with_reducible first | refine o_call (c6) ?he ?hc ?_ | refine p_call (c6) ?he ?hc ?_ | refine c_call (c6) ?he ?hc ?_); (case he | hc => first | rfl | (simp [D.erL, D.er, D.closedL, D.closed, nc0, nc1, nc2, nc3]; done)))
    | ((with_reducible apply s_bsl); (case he | hl | hc => first | rfl | assumption | omega | ((first | refine ⟨?_, ?_⟩ | skip) <;> first | omega | (simp only [lN, nc0, nc1, nc2, nc3] <;> omega)) | (simp [elemsK, D.isVal, D.cells, D.closedL, D.closed, nc0, nc1, nc2, nc3]; first | done | omega)))
    | with_reducible first | apply cd_dec | apply cd_eq | apply cd_ne | apply cd_split | apply gd_dec | apply gd_eq | apply gd_ne | apply gd_split
    | ((with_reducible refine And.intro ?hw ?_); (case hw => first | omega | rfl | exact ⟨_, _, rfl⟩ | assumption | (simp only [lN, nc0, nc1, nc2, nc3] <;> omega)))
    | with_reducible intro _)
  all_goals trace_state
  all_goals first | omega | simp [D.closed, D.er]
end Go.Proofs.Ytofnggfpegcllaa
end
section
set_option maxRecDepth 100000
set_option linter.unusedSimpArgs false
set_option linter.unusedVariables false
namespace Go.Proofs.Ytofnggfpegcllaa
open Go GoV Go.RowKit
theorem zeros_ints : ∀ n : Nat, zeros [.int .i64 0] n = ints (List.replicate n 0)
  | 0 => rfl
  | n + 1 => by
    have := zeros_ints n
    simp only [zeros, List.replicate_succ, ints, List.map_cons, List.cons_append, List.nil_append] at this ⊢
    rw [this]; rfl
theorem chunk_ints : ∀ F : List Nat, chunk 1 F.length (ints F) = ints F
  | [] => rfl
  | x :: F => by
    have := chunk_ints F
    simp only [ints, List.map_cons, List.length_cons, chunk, List.drop_succ_cons, List.drop_zero] at this ⊢
    rw [this]; rfl
theorem cno_app {L : List Nat} (h : Lo L) {i : Nat} (hi : i < (roots L).length) : (compsL L).getD i [] = mem L ((roots L).getD i 0) := by
  have hc : i < (compsL L).length := by rw [comps_len]; exact hi
  have h1 : (compsL L).getD i [] = (compsL L)[i] := by simp [List.getD, hc]
  have h2 : (roots L).getD i 0 = (roots L)[i] := by simp [List.getD, hi]
  rw [h1, h2, comps_get hi]
@[reducible] noncomputable def atLoop : RC := RC.loop (((RC.reg r20_9).seq (RC.cond (Opd.var 11) RC.skip (RC.exit 2))).seq ((RC.block 3 ((RC.reg r20_10).seq (((RC.reg r20_11).seq (RC.cond (Opd.var 12) ((RC.reg r20_12).seq RC.ret) RC.skip)).seq ((RC.reg r20_13).seq (RC.reg r20_14))))).seq (RC.reg r20_15)))
set_option maxHeartbeats 1000000 in
theorem at_inner {n i : Nat} (A : List D) (C : List Nat) (O : Nat → List Nat) (cn : Nat → Nat) (hi : i < A.length) (hi2 : i ≤ 1000) (hA : A.getD i .undef = .slice (ints C) .no) (hlen : ∀ k, (O k).length = n) (hC : ∀ k, k < C.length → lb C k < n) (hn : n ≤ 1000) (hCl : C.length ≤ n) (hcn : ∀ k, cn k ≤ n)
    (hinc : ∀ k, 0 < k → k < C.length → lb C (k - 1) < lb C k) (hO : ∀ k, k < C.length → O (k + 1) = (O k).set (lb C k) (i + 1) ∧ lb (O k) (lb C k) = 0 ∧ cn (k + 1) = cn k + 1) (b9 b10 : D) (Q : Ex → St → Prop)
    (hQ : Q (.exit 2) ⟨[.int .i64 n, .slice A .no, .undef, .undef, .sl 0 1 0 n n, .int .i64 (cn C.length : Nat), .int .i64 i, .int .i64 C.length, .undef, .undef, .undef, .bool false, .undef], [], ⟨[.cells (ints (O C.length))], []⟩⟩) :
    SWp C20 atLoop Q ⟨[.int .i64 n, .slice A .no, .undef, .undef, .sl 0 1 0 n n, .int .i64 (cn 0 : Nat), .int .i64 i, .int .i64 0, .undef, b9, b10, .undef, .undef], [], ⟨[.cells (ints (O 0))], []⟩⟩ := by
  have lp := ints_len C
  refine swp_fam [0, 1, 4, 5, 6, 7] (fun k : Nat => ⟨[.int .i64 n, .slice A .no, .undef, .undef, .sl 0 1 0 n n, .int .i64 (cn k : Nat), .int .i64 i, .int .i64 k, .undef, .undef, .undef, .undef, .undef], [], ⟨[.cells (ints (O k))], []⟩⟩) (fun k => k ≤ C.length) (fun k => C.length - k) 0 (by omega) ?_ ?_
  · simp [keepE, St.keep]
  · intro k hk
    by_cases hkl : k < C.length
    · have t2 : decide (((k : Nat) : Int) < C.length) = true := by simp; omega
      have gk := ints_get hkl
      have gkm := ints_get (F := C) (i := k - 1) (by omega)
      have tki : (((k : Nat) : Int) - 1).toNat = k - 1 := by omega
      have hx := hC k hkl
      have hkk := fun h => hinc k h hkl
      obtain ⟨hs, ho, hc⟩ := hO k hkl
      have hol := ints_len (O k)
      rw [hlen] at hol
      have hst : (ints (O k)).set (lb C k) (.int .i64 ((i : Int) + 1)) = ints (O (k + 1)) := by
        rw [hs]
        have := ints_set (F := O k) (i := lb C k) (x := i + 1)
        simpa using this
      have go : (ints (O k)).getD (lb C k) .undef = .int .i64 0 := by
        rw [ints_get (by rw [hlen]; exact hx), ho]; rfl
      have hcl := hcn k
      generalize O k = Ok at *
      generalize lb C k = x at *
      generalize lb C (k - 1) = y at *
      have t3 : decide (((x : Nat) : Int) < 0) = false := by simp only [decide_eq_false_iff_not]; omega
      have t4 : decide (((x : Nat) : Int) ≥ (n : Nat)) = false := by simp only [decide_eq_false_iff_not]; omega
      repeat' (first
    | with_reducible first | apply swp_seq | apply swp_reg | apply swp_regD | apply swp_block | apply swp_exit | apply swp_ret | apply swp_skip | apply swp_cd
    | simp only [go_sem, seval, P20, q20, hA, lp, t2, t3, t4, gk, gkm, tki, go, hst, Nat.mul_one, Nat.zero_add]
    | simp (disch := omega) only [w64, w32, wu8, wu16, wu32, wu64]
    | ((with_reducible apply s_mks); (case h0 | h1 | h2 => first | rfl | assumption | omega | ((first | refine ⟨?_, ?_⟩ | skip) <;> first | omega | (simp only [lN, hA, lp, gk, gkm, tki, hol] <;> omega)) | (simp [elemsK, D.isVal, D.cells, D.closedL, D.closed, hA, lp, gk, gkm, tki, hol]; first | done | omega)))
    | with_reducible first | apply cd_dec | apply cd_eq | apply cd_ne | apply cd_split | apply gd_dec | apply gd_eq | apply gd_ne | apply gd_split | apply gq_dec | apply gq_eq | apply gq_ne | apply gq_split
    | ((with_reducible refine And.intro ?hw ?_); (case hw => first | omega | rfl | exact ⟨_, _, rfl⟩ | assumption | (simp only [lN, hA, lp, gk, gkm, tki, hol] <;> omega)))
    | with_reducible intro _)
      all_goals first | omega | (exfalso; omega) | skip
      all_goals exact ⟨k + 1, by omega, by omega, by simp [keepE, St.keep, hc]⟩
    · have t2 : decide (((k : Nat) : Int) < C.length) = false := by simp; omega
      have : k = C.length := by omega
      subst this
      repeat' (first
    | with_reducible first | apply swp_seq | apply swp_reg | apply swp_regD | apply swp_block | apply swp_exit | apply swp_ret | apply swp_skip | apply swp_cd
    | simp only [go_sem, seval, P20, q20, hA, lp, t2]
    | simp (disch := omega) only [w64, w32, wu8, wu16, wu32, wu64]
    | ((with_reducible apply s_mks); (case h0 | h1 | h2 => first | rfl | assumption | omega | ((first | refine ⟨?_, ?_⟩ | skip) <;> first | omega | (simp only [lN, hA, lp] <;> omega)) | (simp [elemsK, D.isVal, D.cells, D.closedL, D.closed, hA, lp]; first | done | omega)))
    | with_reducible first | apply cd_dec | apply cd_eq | apply cd_ne | apply cd_split | apply gd_dec | apply gd_eq | apply gd_ne | apply gd_split | apply gq_dec | apply gq_eq | apply gq_ne | apply gq_split
    | ((with_reducible refine And.intro ?hw ?_); (case hw => first | omega | rfl | exact ⟨_, _, rfl⟩ | assumption | (simp only [lN, hA, lp] <;> omega)))
    | with_reducible intro _)
      all_goals first | omega | exact hQ
set_option maxHeartbeats 4000000 in
theorem at_p {L : List Nat} (hL : Lo L) (hN : L.length ≤ 1000) : Pur M 20 [.int .i64 (L.length : Nat), .slice (compsD (compsL L)) .no] (.tup [.slice (ints (atL L)) .no, .bool true]) := by
  have hcl := compsD_len (compsL L)
  rw [comps_len] at hcl
  have hrt : (roots L).length ≤ L.length := by unfold roots; refine Nat.le_trans (List.length_filter_le _ _) ?_; simp
  have hz := zeros_ints L.length
  rw [← outTo_zero L] at hz
  refine ow20 rfl ?_
  rw [i20]
  unfold c20
  repeat' (first
    | with_reducible first | apply swp_seq | apply swp_reg | apply swp_regD | apply swp_block | apply swp_exit | apply swp_ret | apply swp_skip | apply swp_cd
    | simp only [go_sem, seval, P20, q20, hz, hcl]
    | simp (disch := omega) only [w64, w32, wu8, wu16, wu32, wu64]
    | ((with_reducible apply s_mks); (case h0 | h1 | h2 => first | rfl | assumption | omega | ((first | refine ⟨?_, ?_⟩ | skip) <;> first | omega | (simp only [lN] <;> omega)) | (simp [elemsK, D.isVal, D.cells, D.closedL, D.closed]; first | done | omega)))
    | with_reducible first | apply cd_dec | apply cd_eq | apply cd_ne | apply cd_split | apply gd_dec | apply gd_eq | apply gd_ne | apply gd_split | apply gq_dec | apply gq_eq | apply gq_ne | apply gq_split
    | ((with_reducible refine And.intro ?hw ?_); (case hw => first | omega | rfl | exact ⟨_, _, rfl⟩ | assumption | (simp only [lN] <;> omega)))
    | with_reducible intro _)
  refine swp_fam [0, 1, 4, 5, 6] (fun i : Nat => ⟨[.int .i64 (L.length : Nat), .slice (compsD (compsL L)) .no, .undef, .undef, .sl 0 1 0 L.length L.length, .int .i64 (cntTo L i 0 : Nat), .int .i64 i, .undef, .undef, .undef, .undef, .undef, .undef], [], ⟨[.cells (ints (outTo L i 0))], []⟩⟩) (fun i => i ≤ (roots L).length) (fun i => (roots L).length - i) 0 (by omega) ?_ ?_
  · simp [keepE, St.keep, cnt_zero]
  · intro i hi
    by_cases hil : i < (roots L).length
    · have t0 : decide (((i : Nat) : Int) < (roots L).length) = true := by simp; omega
      have hg := compsD_get (C := compsL L) (i := i) (by rw [comps_len]; exact hil)
      have hgm := compsD_get (C := compsL L) (i := i - 1) (by rw [comps_len]; omega)
      have hti : (((i : Nat) : Int) - 1).toNat = i - 1 := by omega
      rw [cno_app hL hil] at hg
      rw [cno_app hL (by omega)] at hgm
      have hr0 : (roots L).getD i 0 = (roots L)[i] := by simp [List.getD, hil]
      have hr1 : (roots L).getD (i - 1) 0 = (roots L)[i - 1] := by simp [List.getD, show i - 1 < (roots L).length by omega]
      rw [hr0] at hg
      rw [hr1] at hgm
      obtain ⟨p0, p1⟩ := mem_head hL (List.getElem_mem hil)
      obtain ⟨q0, q1⟩ := mem_head hL (List.getElem_mem (show i - 1 < (roots L).length by omega))
      have hlt : 0 < i → (roots L)[i - 1] < (roots L)[i] := fun h => incr_get (roots_incr L) hil (by omega)
      have gp := ints_getD p0
      have gq := ints_getD q0
      rw [p1] at gp
      rw [q1] at gq
      have lp := ints_len (mem L (roots L)[i])
      have lq := ints_len (mem L (roots L)[i - 1])
      have hml : (mem L (roots L)[i]).length ≤ L.length := by unfold mem; refine Nat.le_trans (List.length_filter_le _ _) ?_; simp
      have hinc := mem_incr L (roots L)[i]
      have hmm := fun k (hk : k < (mem L (roots L)[i]).length) => (mem_mem.1 (List.getElem_mem hk)).1
      have hos := fun k (hk : k < (mem L (roots L)[i]).length) => outTo_step hL hil hk
      have hof := fun k (hk : k < (mem L (roots L)[i]).length) => outTo_fresh hL hil hk
      have hcs := fun k (hk : k < (mem L (roots L)[i]).length) => cnt_step hL hil hk
      have hor := outTo_row hL hil
      have hcr := cnt_row hL hil
      have hcle := fun k => cnt_le (L := L) (i := i) (k := k)
      have t1 : (((mem L (roots L)[i]).length : Int) == 0) = false := by rw [beq_eq_false_iff_ne]; omega
      repeat' (first
    | with_reducible first | apply swp_seq | apply swp_reg | apply swp_regD | apply swp_block | apply swp_exit | apply swp_ret | apply swp_skip | apply swp_cd
    | simp only [go_sem, seval, P20, q20, hcl, t0, hg, hgm, hti, lp, lq, t1, gp, gq]
    | simp (disch := omega) only [w64, w32, wu8, wu16, wu32, wu64]
    | ((with_reducible apply s_mks); (case h0 | h1 | h2 => first | rfl | assumption | omega | ((first | refine ⟨?_, ?_⟩ | skip) <;> first | omega | (simp only [lN, hcl, hg, hgm, hti, lp, lq, gp, gq] <;> omega)) | (simp [elemsK, D.isVal, D.cells, D.closedL, D.closed, hcl, hg, hgm, hti, lp, lq, gp, gq]; first | done | omega)))
    | with_reducible first | apply cd_dec | apply cd_eq | apply cd_ne | apply cd_split | apply gd_dec | apply gd_eq | apply gd_ne | apply gd_split | apply gq_dec | apply gq_eq | apply gq_ne | apply gq_split
    | ((with_reducible refine And.intro ?hw ?_); (case hw => first | omega | rfl | exact ⟨_, _, rfl⟩ | assumption | (simp only [lN, hcl, hg, hgm, hti, lp, lq, gp, gq] <;> omega)))
    | with_reducible intro _)
      all_goals first | omega | (exfalso; omega) | skip
      all_goals (
        refine at_inner (compsD (compsL L)) (mem L (roots L)[i]) (fun k => outTo L i k) (fun k => cntTo L i k) (by rw [hcl]; exact hil) (by omega) hg (fun k => outTo_len) (fun k hk => by rw [lb_lt hk]; exact hmm k hk) hN hml hcle (fun k h hk => by rw [lb_lt hk, lb_lt (by omega)]; exact incr_get hinc hk (by omega)) (fun k hk => by rw [lb_lt hk]; exact ⟨hos k hk, hof k hk, hcs k hk⟩) _ _ _ ?_
        simp only [hor, hcr]
        repeat' (first
    | with_reducible first | apply swp_seq | apply swp_reg | apply swp_regD | apply swp_block | apply swp_exit | apply swp_ret | apply swp_skip | apply swp_cd
    | simp only [go_sem, seval, P20, q20]
    | simp (disch := omega) only [w64, w32, wu8, wu16, wu32, wu64]
    | ((with_reducible apply s_mks); (case h0 | h1 | h2 => first | rfl | assumption | omega | ((first | refine ⟨?_, ?_⟩ | skip) <;> first | omega | (simp only [lN] <;> omega)) | (simp [elemsK, D.isVal, D.cells, D.closedL, D.closed]; first | done | omega)))
    | with_reducible first | apply cd_dec | apply cd_eq | apply cd_ne | apply cd_split | apply gd_dec | apply gd_eq | apply gd_ne | apply gd_split | apply gq_dec | apply gq_eq | apply gq_ne | apply gq_split
    | ((with_reducible refine And.intro ?hw ?_); (case hw => first | omega | rfl | exact ⟨_, _, rfl⟩ | assumption | (simp only [lN] <;> omega)))
    | with_reducible intro _)
        all_goals first | omega | skip
        exact ⟨i + 1, by omega, by omega, by simp [keepE, St.keep]⟩)
    · have t0 : decide (((i : Nat) : Int) < (roots L).length) = false := by simp; omega
      have : i = (roots L).length := by omega
      subst this
      rw [outTo_end hL, cnt_end hL]
      have t1 : (((L.length : Nat) : Int) == (L.length : Nat)) = true := by simp
      repeat' (first
    | with_reducible first | apply swp_seq | apply swp_reg | apply swp_regD | apply swp_block | apply swp_exit | apply swp_ret | apply swp_skip | apply swp_cd
    | simp only [go_sem, seval, P20, q20, hcl, t0, t1]
    | simp (disch := omega) only [w64, w32, wu8, wu16, wu32, wu64]
    | ((with_reducible apply s_mks); (case h0 | h1 | h2 => first | rfl | assumption | omega | ((first | refine ⟨?_, ?_⟩ | skip) <;> first | omega | (simp only [lN, hcl] <;> omega)) | (simp [elemsK, D.isVal, D.cells, D.closedL, D.closed, hcl]; first | done | omega)))
    | with_reducible first | apply cd_dec | apply cd_eq | apply cd_ne | apply cd_split | apply gd_dec | apply gd_eq | apply gd_ne | apply gd_split | apply gq_dec | apply gq_eq | apply gq_ne | apply gq_split
    | ((with_reducible refine And.intro ?hw ?_); (case hw => first | omega | rfl | exact ⟨_, _, rfl⟩ | assumption | (simp only [lN, hcl] <;> omega)))
    | with_reducible intro _)
      all_goals first | omega | skip
      have ha : (atL L).length = L.length := by simp [atL]
      have hci := chunk_ints (atL L)
      rw [ha] at hci
      have hel := elems_ints (atL L)
      refine ⟨_, weak_trans (weak_keep [2, 3]) (weak_frz 0 (ints (atL L)) rfl (Nat.zero_le _) (cl_ints _)), ?_⟩
      rw [er_ints]
      have hll := ints_len (atL L)
      rw [ha] at hll
      simp [St.frz, keepE, D.fz, hci, hel, hll, D.closed, D.closedL, D.er, D.erL]
end Go.Proofs.Ytofnggfpegcllaa
end
section
set_option maxRecDepth 100000
set_option linter.unusedSimpArgs false
set_option linter.unusedVariables false
namespace Go.Proofs.Ytofnggfpegcllaa
open Go GoV Go.RowKit
section
variable {P : Mod} {dst : Dst} {rq : List (RO × Bool)} {K : St → Prop} {s : St}
theorem t_lkpS {kd : MK} {ok : Bool} {zero : D} {bk clock i : Nat} {es : List (D × D × Nat)} {k v : D} (h1 : s.hp.H[bk]? = some (.map es clock)) (hk : keyOk kd k = true) (ha : (es.all fun e => keyOk kd e.1) = true) (hf : findM k es 0 = some (i, v))
    (h : opsQ P rq K (s.put dst (if ok then .tup [v, .bool true] else v))) : OpQ P (.lkp kd ok zero) [.mp bk, k] dst rq K s := by
  simp only [OpQ, quietWp, isCall, Bool.false_eq_true, if_false, opWp]
  refine ⟨es, clock, h1, hk, ha, fun j x hx => ?_, fun hx => ?_⟩
  · rw [hf] at hx; cases hx; exact ⟨by trivial, h⟩
  · rw [hf] at hx; cases hx
theorem t_lkpN {kd : MK} {ok : Bool} {zero : D} {bk clock : Nat} {es : List (D × D × Nat)} {k : D} (h1 : s.hp.H[bk]? = some (.map es clock)) (hk : keyOk kd k = true) (ha : (es.all fun e => keyOk kd e.1) = true) (hf : findM k es 0 = none)
    (h : opsQ P rq K (s.put dst (if ok then .tup [zero, .bool false] else zero))) : OpQ P (.lkp kd ok zero) [.mp bk, k] dst rq K s := by
  simp only [OpQ, quietWp, isCall, Bool.false_eq_true, if_false, opWp]
  refine ⟨es, clock, h1, hk, ha, fun j x hx => ?_, fun hx => ?_⟩
  · rw [hf] at hx; cases hx
  · exact ⟨by trivial, h⟩
end
theorem few_p (l : List Rp) : Pur M 11 [rpsD l] (.bool (few13 l 40)) := by
  have c1 := few13_p l 40 (by omega)
  have hcl := closedL_R l
  have her := erL_R l
  refine ok11 rfl ?_
  rw [i11]
  unfold c11
  repeat' (first
    | with_reducible first | apply swp_seq | apply swp_reg | apply swp_regD | apply swp_block | apply swp_exit | apply swp_ret | apply swp_skip | apply swp_cd
    | simp only [go_sem, seval, P11, q11]
    | simp (disch := omega) only [w64, w32, wu8, wu16, wu32, wu64]
    | ((with_reducible refine o_call (c1) ?he ?hc ?_); (case he | hc => first | rfl | (simp [D.erL, D.er, D.closedL, D.closed, hcl, her]; done)))
    | with_reducible first | apply cd_dec | apply cd_eq | apply cd_ne | apply cd_split
    | ((with_reducible refine And.intro ?hw ?_); (case hw => first | omega | rfl | exact ⟨_, _, rfl⟩ | assumption | (simp only [lN, hcl, her] <;> omega)))
    | with_reducible intro _)
  all_goals first | omega | simp [D.closed, D.er]
theorem few_small {l : List Rp} (h : few13 l 40 = true) : l.length ≤ 40 ∧ Small l := by
  unfold few13 at h
  simp only [Bool.and_eq_true, decide_eq_true_eq] at h
  refine ⟨h.1, fun r hr e he => ?_⟩
  have := List.all_eq_true.1 h.2 r hr
  unfold few9 at this
  simp only [Bool.and_eq_true] at this
  exact List.all_eq_true.1 this.2 e he
def pick (l : List Rp) (C : List Nat) : List Rp := C.map fun i => l.getD i default
theorem elems_rps (l : List Rp) : elemsK 2 (l.map rpD) = true := elemsK_map rpD 2 R_isVal l
end Go.Proofs.Ytofnggfpegcllaa
end
section
set_option maxRecDepth 100000
set_option linter.unusedSimpArgs false
set_option linter.unusedVariables false
namespace Go.Proofs.Ytofnggfpegcllaa
open Go GoV Go.RowKit
end Go.Proofs.Ytofnggfpegcllaa
end
section
set_option maxRecDepth 100000
set_option linter.unusedSimpArgs false
set_option linter.unusedVariables false
namespace Go.Proofs.Ytofnggfpegcllaa
open Go GoV Go.RowKit
theorem atL_len (L : List Nat) : (atL L).length = L.length := by simp [atL]
theorem atL_lb {L : List Nat} {i : Nat} (h : i < L.length) : lb (atL L) i = cno L i + 1 := by simp [atL, lb, List.getD, h]
end Go.Proofs.Ytofnggfpegcllaa
end
section
set_option maxRecDepth 100000
set_option linter.unusedSimpArgs false
set_option linter.unusedVariables false
namespace Go.Proofs.Ytofnggfpegcllaa
open Go GoV Go.RowKit
theorem opens_iv {w : World} : ∀ n, Opens Try.prog w n 48 (fun i : Iv => [.int .i64 i.low, .int .i64 i.high]) (fun _ => True) := by
  refine opens_all fun n => ?_
  have hF : OpensF Try.prog w n [⟨"Low", 3, 0, false, "", "", 0⟩, ⟨"High", 3, 1, false, "", "", 8⟩] 0 _ _ :=
    opensF_cons (c := 1) rfl (by kernel_rfl) (opens_i64 Try.underlying3) (opensF_cons (c := 1) rfl (by kernel_rfl) (opens_i64 Try.underlying3) opensF_nil)
  exact (opens_struct Try.underlying48 (by kernel_rfl) hF).imp (fun a => ⟨a.1, a.2.1⟩) (fun a _ => by simp) (fun a h => trivial)
theorem opens_use {w : World} : ∀ n, Opens Try.prog w n 50 (fun u : Iv × Iv × Iv => [.int .i64 u.1.low, .int .i64 u.1.high, .int .i64 u.2.1.low, .int .i64 u.2.1.high, .int .i64 u.2.2.low, .int .i64 u.2.2.high]) (fun _ => True) := by
  refine opens_all fun n => ?_
  have hF : OpensF Try.prog w n [⟨"Km", 48, 0, false, "", "", 0⟩, ⟨"Cycles", 48, 2, false, "", "", 16⟩, ⟨"Load", 48, 4, false, "", "", 32⟩] 0 _ _ :=
    opensF_cons (c := 2) rfl (by kernel_rfl) (opens_iv n) (opensF_cons (c := 2) rfl (by kernel_rfl) (opens_iv n) (opensF_cons (c := 2) rfl (by kernel_rfl) (opens_iv n) opensF_nil))
  exact (opens_struct Try.underlying50 (by kernel_rfl) hF).imp (fun a => (a.1, a.2.1, a.2.2.1)) (fun a _ => by simp) (fun a h => trivial)
theorem opens_ev {w : World} : ∀ n, Opens Try.prog w n 52 Ev.cells (fun _ => True) := by
  refine opens_all fun n => ?_
  have hF : OpensF Try.prog w n [⟨"Op", 3, 0, false, "", "", 0⟩, ⟨"Day", 3, 1, false, "", "", 8⟩, ⟨"Part", 9, 2, false, "", "", 16⟩, ⟨"Kind", 9, 3, false, "", "", 32⟩, ⟨"Into", 9, 4, false, "", "", 48⟩, ⟨"Slot", 9, 5, false, "", "", 64⟩, ⟨"Key", 9, 6, false, "", "", 80⟩, ⟨"Value", 9, 7, false, "", "", 96⟩, ⟨"Use", 50, 8, false, "", "", 112⟩] 0 _ _ :=
    opensF_cons (c := 1) rfl (by kernel_rfl) (opens_i64 Try.underlying3) (opensF_cons (c := 1) rfl (by kernel_rfl) (opens_i64 Try.underlying3) (opensF_cons (c := 1) rfl (by kernel_rfl) (opens_str Try.underlying9) (opensF_cons (c := 1) rfl (by kernel_rfl) (opens_str Try.underlying9)
      (opensF_cons (c := 1) rfl (by kernel_rfl) (opens_str Try.underlying9) (opensF_cons (c := 1) rfl (by kernel_rfl) (opens_str Try.underlying9) (opensF_cons (c := 1) rfl (by kernel_rfl) (opens_str Try.underlying9) (opensF_cons (c := 1) rfl (by kernel_rfl) (opens_str Try.underlying9)
      (opensF_cons (c := 6) rfl (by kernel_rfl) (opens_use n) opensF_nil))))))))
  exact (opens_struct Try.underlying52 (by kernel_rfl) hF).imp (fun a => ⟨a.1, a.2.1, a.2.2.1, a.2.2.2.1, a.2.2.2.2.1, a.2.2.2.2.2.1, a.2.2.2.2.2.2.1, a.2.2.2.2.2.2.2.1, a.2.2.2.2.2.2.2.2.1.1, a.2.2.2.2.2.2.2.2.1.2.1, a.2.2.2.2.2.2.2.2.1.2.2⟩) (fun a _ => by simp [Ev.cells]) (fun a h => trivial)
theorem opens_evs {w : World} : ∀ n, Opens Try.prog w n 38 (fun l : List Ev => [evsD l]) (fun _ => True) :=
  opens_all fun n => (opens_slice Try.underlying38 (show 0 < Try.prog.cellsOf 52 by rw [show Try.prog.cellsOf 52 = 14 by kernel_rfl]; omega) (opens_ev n)).imp id (fun a _ => rfl) (fun a h => trivial)
@[reducible] def Rp.cells (r : Rp) : List D := [.slice (r.opts.map evD) .no, .bool r.doubt]
theorem opens_rp {w : World} : ∀ n, Opens Try.prog w n 40 Rp.cells (fun _ => True) := by
  refine opens_all fun n => ?_
  have hF : OpensF Try.prog w n [⟨"Options", 38, 0, false, "", "", 0⟩, ⟨"Doubtful", 4, 1, false, "", "", 24⟩] 0 _ _ :=
    opensF_cons (c := 1) rfl (by kernel_rfl) (opens_evs n) (opensF_cons (c := 1) rfl (by kernel_rfl) (opens_bool Try.underlying4) opensF_nil)
  exact (opens_struct Try.underlying40 (by kernel_rfl) hF).imp (fun a => ⟨a.1, a.2.1⟩) (fun a _ => by simp [Rp.cells]) (fun a h => trivial)
theorem opens_rps {w : World} : ∀ n, Opens Try.prog w n 22 (fun l : List Rp => [rpsD l]) (fun _ => True) :=
  opens_all fun n => (opens_slice Try.underlying22 (show 0 < Try.prog.cellsOf 40 by rw [show Try.prog.cellsOf 40 = 2 by kernel_rfl]; omega) (opens_rp n)).imp id (fun a _ => rfl) (fun a h => trivial)
end Go.Proofs.Ytofnggfpegcllaa
end
section
set_option maxRecDepth 100000
set_option linter.unusedSimpArgs false
set_option linter.unusedVariables false
namespace Go.Proofs.Ytofnggfpegcllaa
open Go GoV Go.RowKit
section
variable {M : Mod} {j i : Nat} {dst : Dst} {q : Bool} {r : List (RO × Bool)} {K : St → Prop} {s : St} {oc : OC} {args : List Opd}
theorem x_q {ds : List D} (d : D) (hij : i ≠ j) (ha : args.map s.get = ds) (hA : AnyS M oc ds d) (h : opsX M j (i + 1) r K (s.put dst d)) : opsX M j i ((⟨dst, oc, args, none⟩, q) :: r) K s := by
  simp only [opsX]
  rw [if_neg hij]
  simp only [headA]
  rw [ha]
  exact ⟨d, hA, h⟩
theorem x_appFT {n bytes : Nat} {ety : TypeId} {xs es : List D} {x : D} (ha : args.map s.get = [.slice xs .full, x]) (he : elemsOf s.hp n x = some es) (hK : elemsK n es = true) (hc : D.closedL es = true) (hr : roomOk (xs.length + es.length) bytes) (hx : elemsK n xs = true) (hn : 0 < n)
    (h : opsX M j (j + 1) r K ({ s with hp := { s.hp with tk := s.hp.tk ++ [Tv.per n (xs.length + es.length)] } }.put dst (.slice (xs ++ D.erL es) (.tok s.hp.tk.length)))) : opsX M j j ((⟨dst, .app n bytes ety, args, none⟩, q) :: r) K s := by
  simp only [opsX, if_true, headQ]
  simp only [stepWp, Bool.false_eq_true, if_false, detWp, qOp]
  refine ⟨_, _, ?_, h⟩
  rw [ha]
  simp only [OcWp, isCall, Bool.false_eq_true, if_false, opWp]
  exact ⟨es, he, hK, hr, .inl ⟨hc, hx, hn, .inr ⟨rfl, rfl⟩⟩⟩
end
theorem further_reg (l : List Rp) (hr : l.length ≤ 4398046510976) (x : Rp) (Q : Ex → St → Prop)
    (hQ : Q .normal (⟨[rpsD l, .agg x.cells, .ip x.cells, .bool false, .bool true, .slice ((l ++ [x]).map rpD) (.tok 0), .undef, .undef, .undef, .undef, .undef, .undef, .undef, .undef, .undef, .undef, .undef, .undef, .undef, .undef, .undef, .undef, .undef, .undef, .undef, .undef, .undef], [], ⟨[.gone], [.per 2 (l.length + 1)]⟩⟩)) : SWp C8 (.regD r8_2 r8_3) Q (⟨[rpsD l, .agg x.cells, .ip x.cells, .bool false, .bool true, .undef, .undef, .undef, .undef, .undef, .undef, .undef, .undef, .undef, .undef, .undef, .undef, .undef, .undef, .undef, .undef, .undef, .undef, .undef, .undef, .undef, .undef], [], ⟨[.gone], []⟩⟩) := by
  have hca := closedL_R l
  have hea := erL_R l
  have hek := elems_rps l
  have hlen : (l.map rpD).length = l.length := by simp
  have room : ∀ n : Nat, n ≤ l.length + 1 → roomOk n 32 := fun n hn => ⟨by omega, by omega⟩
  refine swp_regDX 2 ?_
  rw [P8]
  refine x_q (ds := []) (.slice [] .full) (by decide) rfl (fun _ => by simp [OcWp, isCall, opWp, elemsK, D.closedL, D.erL]) ?_
  refine x_q (ds := [rpsD l]) (rpsD l) (by decide) rfl (fun _ => by simp [OcWp, isCall, opWp]) ?_
  refine x_appFT (xs := []) (x := rpsD l) (es := l.map rpD) rfl rfl hek hca (room _ (by simp)) rfl (by omega) ?_
  rw [hea, List.nil_append]
  refine x_q (ds := [.ip x.cells]) (rpD x) (by decide) rfl (fun _ => by simp [OcWp, isCall, opWp, rpD]) ?_
  refine x_q (ds := [rpD x]) (.slice [rpD x] .full) (by decide) rfl (fun _ => by simp [OcWp, isCall, opWp, elemsK, D.closedL, D.erL, cl_R, er_R, R_isVal]) ?_
  have hl1 : (l ++ [x]).map rpD = l.map rpD ++ [rpD x] := by simp
  have ex : D.erL [rpD x] = [rpD x] := by simp [D.erL, er_R]
  have cx : D.closedL [rpD x] = true := by simp [D.closedL, cl_R]
  rw [hl1] at hQ
  generalize hlm : l.map rpD = LM at *
  repeat' (first
    | with_reducible first | apply swp_seq | apply swp_reg | apply swp_regD | apply swp_block | apply swp_exit | apply swp_ret | apply swp_skip | apply swp_cd
    | simp only [go_sem, seval, P8, q8, hlen, o_newM]
    | simp (disch := omega) only [w64, w32, wu8, wu16, wu32, wu64]
    | ((with_reducible apply s_appT); (case he => rfl); (case hK | hc | hr | hV => first | rfl | assumption | omega | ((first | refine ⟨?_, ?_⟩ | skip) <;> first | omega | (simp only [lN] <;> omega)) | (simp [elemsK, D.isVal, D.cells, D.closedL, D.closed]; first | done | omega)))
    | ((with_reducible apply s_appG); (case he => rfl); (case hV | hK | hr | hl => first | rfl | assumption | omega | ((first | refine ⟨?_, ?_⟩ | skip) <;> first | omega | (simp only [lN] <;> omega)) | (simp [elemsK, D.isVal, D.cells, D.closedL, D.closed]; first | done | omega)))
    | ((with_reducible first | apply s_app0 | apply t_app0); (case he => rfl); (case hK | hc | hr => first | rfl | assumption | omega | ((first | refine ⟨?_, ?_⟩ | skip) <;> first | omega | (simp only [lN] <;> omega)) | (simp [elemsK, D.isVal, D.cells, D.closedL, D.closed]; first | done | omega)))
    | ((with_reducible first | apply s_appF | apply t_appF); (case he => rfl); (case hK | hc | hr | hx | hn => first | rfl | assumption | omega | ((first | refine ⟨?_, ?_⟩ | skip) <;> first | omega | (simp only [lN] <;> omega)) | (simp [elemsK, D.isVal, D.cells, D.closedL, D.closed]; first | done | omega)))
    | ((with_reducible first | apply s_bsl | apply t_bsl); (case he | hl | hc => first | rfl | assumption | omega | ((first | refine ⟨?_, ?_⟩ | skip) <;> first | omega | (simp only [lN] <;> omega)) | (simp [elemsK, D.isVal, D.cells, D.closedL, D.closed]; first | done | omega)))
    | ((with_reducible apply s_mpu); (case h1 | hk => rfl); (case ha | hp => first | rfl | assumption | omega | ((first | refine ⟨?_, ?_⟩ | skip) <;> first | omega | (simp only [lN] <;> omega)) | (simp [elemsK, D.isVal, D.cells, D.closedL, D.closed]; first | done | omega)))
    | ((with_reducible first | apply s_lkpS | apply t_lkpS); (case h1 | hk => rfl); (case ha | hf => first | rfl | assumption | omega | ((first | refine ⟨?_, ?_⟩ | skip) <;> first | omega | (simp only [lN] <;> omega)) | (simp [elemsK, D.isVal, D.cells, D.closedL, D.closed]; first | done | omega)))
    | ((with_reducible first | apply s_lkpN | apply t_lkpN); (case h1 | hk => rfl); (case hf | ha => first | rfl | assumption | omega | ((first | refine ⟨?_, ?_⟩ | skip) <;> first | omega | (simp only [lN] <;> omega)) | (simp [elemsK, D.isVal, D.cells, D.closedL, D.closed]; first | done | omega)))
    | with_reducible first | apply cd_dec | apply cd_eq | apply cd_ne | apply cd_split | apply gd_dec | apply gd_eq | apply gd_ne | apply gd_split | apply gq_dec | apply gq_eq | apply gq_ne | apply gq_split
    | ((with_reducible refine And.intro ?hw ?_); (case hw => first | omega | rfl | exact ⟨_, _, rfl⟩ | assumption | (simp only [lN] <;> omega)))
    | with_reducible intro _)
  refine x_nil ?_
  refine s_appT (t := 0) (xs := LM) (es := [rpD x]) (x := .slice [rpD x] .full) rfl (by simp [elemsK, R_isVal]) cx (room _ (by simp [hlen])) (by simp [hlen]) ?_
  rw [ex]
  repeat' (first
    | with_reducible first | apply swp_seq | apply swp_reg | apply swp_regD | apply swp_block | apply swp_exit | apply swp_ret | apply swp_skip | apply swp_cd
    | simp only [go_sem, seval, P8, q8, hlen, o_newM]
    | simp (disch := omega) only [w64, w32, wu8, wu16, wu32, wu64]
    | ((with_reducible apply s_appT); (case he => rfl); (case hK | hc | hr | hV => first | rfl | assumption | omega | ((first | refine ⟨?_, ?_⟩ | skip) <;> first | omega | (simp only [lN] <;> omega)) | (simp [elemsK, D.isVal, D.cells, D.closedL, D.closed]; first | done | omega)))
    | ((with_reducible apply s_appG); (case he => rfl); (case hV | hK | hr | hl => first | rfl | assumption | omega | ((first | refine ⟨?_, ?_⟩ | skip) <;> first | omega | (simp only [lN] <;> omega)) | (simp [elemsK, D.isVal, D.cells, D.closedL, D.closed]; first | done | omega)))
    | ((with_reducible first | apply s_app0 | apply t_app0); (case he => rfl); (case hK | hc | hr => first | rfl | assumption | omega | ((first | refine ⟨?_, ?_⟩ | skip) <;> first | omega | (simp only [lN] <;> omega)) | (simp [elemsK, D.isVal, D.cells, D.closedL, D.closed]; first | done | omega)))
    | ((with_reducible first | apply s_appF | apply t_appF); (case he => rfl); (case hK | hc | hr | hx | hn => first | rfl | assumption | omega | ((first | refine ⟨?_, ?_⟩ | skip) <;> first | omega | (simp only [lN] <;> omega)) | (simp [elemsK, D.isVal, D.cells, D.closedL, D.closed]; first | done | omega)))
    | ((with_reducible first | apply s_bsl | apply t_bsl); (case he | hl | hc => first | rfl | assumption | omega | ((first | refine ⟨?_, ?_⟩ | skip) <;> first | omega | (simp only [lN] <;> omega)) | (simp [elemsK, D.isVal, D.cells, D.closedL, D.closed]; first | done | omega)))
    | ((with_reducible apply s_mpu); (case h1 | hk => rfl); (case ha | hp => first | rfl | assumption | omega | ((first | refine ⟨?_, ?_⟩ | skip) <;> first | omega | (simp only [lN] <;> omega)) | (simp [elemsK, D.isVal, D.cells, D.closedL, D.closed]; first | done | omega)))
    | ((with_reducible first | apply s_lkpS | apply t_lkpS); (case h1 | hk => rfl); (case ha | hf => first | rfl | assumption | omega | ((first | refine ⟨?_, ?_⟩ | skip) <;> first | omega | (simp only [lN] <;> omega)) | (simp [elemsK, D.isVal, D.cells, D.closedL, D.closed]; first | done | omega)))
    | ((with_reducible first | apply s_lkpN | apply t_lkpN); (case h1 | hk => rfl); (case hf | ha => first | rfl | assumption | omega | ((first | refine ⟨?_, ?_⟩ | skip) <;> first | omega | (simp only [lN] <;> omega)) | (simp [elemsK, D.isVal, D.cells, D.closedL, D.closed]; first | done | omega)))
    | with_reducible first | apply cd_dec | apply cd_eq | apply cd_ne | apply cd_split | apply gd_dec | apply gd_eq | apply gd_ne | apply gd_split | apply gq_dec | apply gq_eq | apply gq_ne | apply gq_split
    | ((with_reducible refine And.intro ?hw ?_); (case hw => first | omega | rfl | exact ⟨_, _, rfl⟩ | assumption | (simp only [lN] <;> omega)))
    | with_reducible intro _)
  exact hQ
theorem bq (a b : Nat) : (((a : Nat) : Int) == (b : Nat)) = decide (a = b) := by rw [Bool.eq_iff_iff, beq_iff_eq, decide_eq_true_eq]; omega
def entJ (K : List Nat) : List (D × D × Nat) := entG (fun n : Nat => .int .i64 (n : Nat)) (fun _ => .bool true) K 0
theorem entJ_ok (K : List Nat) : ((entJ K).all fun e => keyOk (.int .i64) e.1) = true := entG_ok keyInt _ _
theorem entJ_put {K : List Nat} (hK : K.Nodup) (v : Nat) : ∃ K' : List Nat, K'.Nodup ∧ (∀ a, a ∈ K' ↔ a ∈ K ∨ a = v) ∧ putM (entJ K) K.length (.int .i64 (v : Nat)) (.bool true) = .map (entJ K') K'.length := by
  have hu : upd (fun _ : Nat => D.bool true) v (.bool true) = fun _ => .bool true := by funext m; unfold upd; split <;> rfl
  by_cases h : v ∈ K
  · refine ⟨K, hK, fun a => ⟨.inl, fun q => q.elim id fun e => e ▸ h⟩, ?_⟩
    have := entG_put (vf := fun _ => .bool true) keyInt (.bool true) h hK
    rw [hu] at this
    exact this
  · refine ⟨K ++ [v], List.nodup_append.2 ⟨hK, by simp, fun a ha b hb => by simp at hb; subst hb; exact fun q => h (q ▸ ha)⟩, fun a => by simp, ?_⟩
    have := entG_new (vf := fun _ => .bool true) keyInt (.bool true) h
    rw [hu] at this
    rw [List.length_append]
    exact this
theorem entJ_find (K : List Nat) (v : Nat) : (v ∉ K ∧ findM (.int .i64 (v : Nat)) (entJ K) 0 = none) ∨ (v ∈ K ∧ ∃ j, findM (.int .i64 (v : Nat)) (entJ K) 0 = some (j, .bool true)) := by
  by_cases h : v ∈ K
  · exact .inr ⟨h, entG_some (vf := fun _ => .bool true) keyInt h⟩
  · exact .inl ⟨h, entG_none keyInt h⟩
theorem atL_same {L : List Nat} (hL : Lo L) {i k : Nat} (hi : i < L.length) (hk : k < L.length) : lb (atL L) i = lb (atL L) k ↔ lb L i = lb L k := by
  rw [atL_lb hi, atL_lb hk, ← cno_iff hL hi hk]; omega
theorem com_tch {R : List (List Nm)} {X : List Nm} {i : Nat} (hi : i < R.length) (K : List Nat) (hK : ∀ a, a ∈ K ↔ ∃ j, j < R.length ∧ lb (atL (labs R)) j = a ∧ com (R.getD j []) X = true) : lb (atL (labs R)) i ∈ K ↔ Tch R X i := by
  have hl := labs_len R
  rw [hK]
  constructor
  · rintro ⟨j, hj, e, hc⟩
    rw [atL_same (labs_lo R) (by omega) (by omega), labs_iff R hj hi] at e
    unfold com at hc
    rw [List.any_eq_true] at hc
    obtain ⟨s, h1, h2⟩ := hc
    exact ⟨j, hj, .symm e, s, h1, by rw [List.contains_iff_mem] at h2; exact h2⟩
  · rintro ⟨j, hj, e, s, h1, h2⟩
    refine ⟨j, hj, (atL_same (labs_lo R) (by omega) (by omega)).2 ((labs_iff R hj hi).2 (.symm e)), ?_⟩
    unfold com
    rw [List.any_eq_true]
    exact ⟨s, h1, by rw [List.contains_iff_mem]; exact h2⟩
set_option maxHeartbeats 4000000 in
theorem l8_p (l : List Rp) (hr : l.length ≤ 4398046510976) (x : Rp) : Pur M 8 [rpsD l, .agg x.cells] (.bool true) := by
  have c0 := head_p
  have c1 : Pur M 11 [.slice ((l ++ [x]).map rpD) .no] (.bool (few13 (l ++ [x]) 40)) := few_p (l ++ [x])
  have hlr : (l.map rpD).length = l.length := by simp
  have hclr := closedL_R l
  have herr := erL_R l
  have hcm := closedL_R (l ++ [x])
  have hem := erL_R (l ++ [x])
  refine ow8 rfl ?_
  rw [i8]
  unfold c8
  obtain ⟨rc, hrc⟩ : ∃ rc, rc = RC.regD r8_2 r8_3 := ⟨_, rfl⟩
  rw [← hrc]
  repeat' (first
    | with_reducible first | apply swp_seq | apply swp_reg | apply swp_regD | apply swp_block | apply swp_exit | apply swp_ret | apply swp_skip | apply swp_cd
    | simp only [go_sem, seval, P8, q8, o_newM]
    | ((with_reducible refine o_call (c0) ?he ?hc ?_); (case he | hc => first | rfl | (simp [D.erL, D.er, D.closedL, D.closed]; done)))
    | ((with_reducible apply s_appT); (case he => rfl); (case hK | hc | hr | hV => first | rfl | assumption | omega | ((first | refine ⟨?_, ?_⟩ | skip) <;> first | omega | (simp only [lN] <;> omega)) | (simp [elemsK, D.isVal, D.cells, D.closedL, D.closed]; first | done | omega)))
    | ((with_reducible apply s_appG); (case he => rfl); (case hV | hK | hr | hl => first | rfl | assumption | omega | ((first | refine ⟨?_, ?_⟩ | skip) <;> first | omega | (simp only [lN] <;> omega)) | (simp [elemsK, D.isVal, D.cells, D.closedL, D.closed]; first | done | omega)))
    | ((with_reducible first | apply s_app0 | apply t_app0); (case he => rfl); (case hK | hc | hr => first | rfl | assumption | omega | ((first | refine ⟨?_, ?_⟩ | skip) <;> first | omega | (simp only [lN] <;> omega)) | (simp [elemsK, D.isVal, D.cells, D.closedL, D.closed]; first | done | omega)))
    | ((with_reducible first | apply s_appF | apply t_appF); (case he => rfl); (case hK | hc | hr | hx | hn => first | rfl | assumption | omega | ((first | refine ⟨?_, ?_⟩ | skip) <;> first | omega | (simp only [lN] <;> omega)) | (simp [elemsK, D.isVal, D.cells, D.closedL, D.closed]; first | done | omega)))
    | ((with_reducible first | apply s_bsl | apply t_bsl); (case he | hl | hc => first | rfl | assumption | omega | ((first | refine ⟨?_, ?_⟩ | skip) <;> first | omega | (simp only [lN] <;> omega)) | (simp [elemsK, D.isVal, D.cells, D.closedL, D.closed]; first | done | omega)))
    | ((with_reducible apply s_mpu); (case h1 | hk => rfl); (case ha | hp => first | rfl | assumption | omega | ((first | refine ⟨?_, ?_⟩ | skip) <;> first | omega | (simp only [lN] <;> omega)) | (simp [elemsK, D.isVal, D.cells, D.closedL, D.closed]; first | done | omega)))
    | ((with_reducible first | apply s_lkpS | apply t_lkpS); (case h1 | hk => rfl); (case ha | hf => first | rfl | assumption | omega | ((first | refine ⟨?_, ?_⟩ | skip) <;> first | omega | (simp only [lN] <;> omega)) | (simp [elemsK, D.isVal, D.cells, D.closedL, D.closed]; first | done | omega)))
    | ((with_reducible first | apply s_lkpN | apply t_lkpN); (case h1 | hk => rfl); (case hf | ha => first | rfl | assumption | omega | ((first | refine ⟨?_, ?_⟩ | skip) <;> first | omega | (simp only [lN] <;> omega)) | (simp [elemsK, D.isVal, D.cells, D.closedL, D.closed]; first | done | omega)))
    | with_reducible first | apply cd_dec | apply cd_eq | apply cd_ne | apply cd_split | apply gd_dec | apply gd_eq | apply gd_ne | apply gd_split | apply gq_dec | apply gq_eq | apply gq_ne | apply gq_split
    | ((with_reducible refine And.intro ?hw ?_); (case hw => first | omega | rfl | exact ⟨_, _, rfl⟩ | assumption | (simp only [lN] <;> omega)))
    | with_reducible intro _)
  refine swp_weak (weak_trans (weak_keep [0, 1, 2, 3, 4]) (weak_frz 0 x.cells rfl (Nat.le_refl 0) (by simp [D.closedL, D.closed]))) ?_
  simp [keepE, St.frz, D.erL, D.er]
  rw [hrc]
  refine further_reg l hr x _ ?_
  clear hrc rc
  cases hf : few13 (l ++ [x]) 40
  · rw [hf] at c1
    repeat' (first
    | with_reducible first | apply swp_seq | apply swp_reg | apply swp_regD | apply swp_block | apply swp_exit | apply swp_ret | apply swp_skip | apply swp_cd
    | simp only [go_sem, seval, P8, q8, o_newM]
    | simp (disch := omega) only [w64, w32, wu8, wu16, wu32, wu64]
    | ((with_reducible refine o_call (c1) ?he ?hc ?_); (case he | hc => first | rfl | (simp [D.erL, D.er, D.closedL, D.closed, hcm, hem]; done)))
    | ((with_reducible apply s_appT); (case he => rfl); (case hK | hc | hr | hV => first | rfl | assumption | omega | ((first | refine ⟨?_, ?_⟩ | skip) <;> first | omega | (simp only [lN, hcm, hem] <;> omega)) | (simp [elemsK, D.isVal, D.cells, D.closedL, D.closed, hcm, hem]; first | done | omega)))
    | ((with_reducible apply s_appG); (case he => rfl); (case hV | hK | hr | hl => first | rfl | assumption | omega | ((first | refine ⟨?_, ?_⟩ | skip) <;> first | omega | (simp only [lN, hcm, hem] <;> omega)) | (simp [elemsK, D.isVal, D.cells, D.closedL, D.closed, hcm, hem]; first | done | omega)))
    | ((with_reducible first | apply s_app0 | apply t_app0); (case he => rfl); (case hK | hc | hr => first | rfl | assumption | omega | ((first | refine ⟨?_, ?_⟩ | skip) <;> first | omega | (simp only [lN, hcm, hem] <;> omega)) | (simp [elemsK, D.isVal, D.cells, D.closedL, D.closed, hcm, hem]; first | done | omega)))
    | ((with_reducible first | apply s_appF | apply t_appF); (case he => rfl); (case hK | hc | hr | hx | hn => first | rfl | assumption | omega | ((first | refine ⟨?_, ?_⟩ | skip) <;> first | omega | (simp only [lN, hcm, hem] <;> omega)) | (simp [elemsK, D.isVal, D.cells, D.closedL, D.closed, hcm, hem]; first | done | omega)))
    | ((with_reducible first | apply s_bsl | apply t_bsl); (case he | hl | hc => first | rfl | assumption | omega | ((first | refine ⟨?_, ?_⟩ | skip) <;> first | omega | (simp only [lN, hcm, hem] <;> omega)) | (simp [elemsK, D.isVal, D.cells, D.closedL, D.closed, hcm, hem]; first | done | omega)))
    | ((with_reducible apply s_mpu); (case h1 | hk => rfl); (case ha | hp => first | rfl | assumption | omega | ((first | refine ⟨?_, ?_⟩ | skip) <;> first | omega | (simp only [lN, hcm, hem] <;> omega)) | (simp [elemsK, D.isVal, D.cells, D.closedL, D.closed, hcm, hem]; first | done | omega)))
    | ((with_reducible first | apply s_lkpS | apply t_lkpS); (case h1 | hk => rfl); (case ha | hf => first | rfl | assumption | omega | ((first | refine ⟨?_, ?_⟩ | skip) <;> first | omega | (simp only [lN, hcm, hem] <;> omega)) | (simp [elemsK, D.isVal, D.cells, D.closedL, D.closed, hcm, hem]; first | done | omega)))
    | ((with_reducible first | apply s_lkpN | apply t_lkpN); (case h1 | hk => rfl); (case hf | ha => first | rfl | assumption | omega | ((first | refine ⟨?_, ?_⟩ | skip) <;> first | omega | (simp only [lN, hcm, hem] <;> omega)) | (simp [elemsK, D.isVal, D.cells, D.closedL, D.closed, hcm, hem]; first | done | omega)))
    | with_reducible first | apply cd_dec | apply cd_eq | apply cd_ne | apply cd_split | apply gd_dec | apply gd_eq | apply gd_ne | apply gd_split | apply gq_dec | apply gq_eq | apply gq_ne | apply gq_split
    | ((with_reducible refine And.intro ?hw ?_); (case hw => first | omega | rfl | exact ⟨_, _, rfl⟩ | assumption | (simp only [lN, hcm, hem] <;> omega)))
    | with_reducible intro _)
    all_goals first | omega | skip
    exact ⟨_, weak_refl, by simp [D.closed], by simp [D.er]⟩
  · rw [hf] at c1
    obtain ⟨h40, hs⟩ := few_small hf
    rw [List.length_append, List.length_singleton] at h40
    have hsl : Small l := fun r hr => hs r (List.mem_append_left _ hr)
    have hsx : ∀ e ∈ x.opts, e.sh = true := hs x (List.mem_append_right _ (List.mem_singleton.2 rfl))
    have hRn : namesL (l ++ [x]) = namesL l ++ [namesR x] := by simp [namesL]
    have hL := labs_lo (namesL l)
    have hln : (labs (namesL l)).length = l.length := by rw [labs_len, namesL_len]
    have hRl := namesL_len l
    have hM := labs_lo (namesL (l ++ [x]))
    have hmn : (labs (namesL (l ++ [x]))).length = l.length + 1 := by rw [labs_len, namesL_len, List.length_append]; rfl
    have k1 := components_p l (by omega) hsl
    have k2 : Pur M 13 [.slice ((l ++ [x]).map rpD) .no] _ := components_p (l ++ [x]) (by rw [List.length_append, List.length_singleton]; omega) hs
    have hC1 : comps (namesL l) = compsL (labs (namesL l)) := rfl
    have hC2 : comps (namesL (l ++ [x])) = compsL (labs (namesL (l ++ [x]))) := rfl
    rw [hC1] at k1
    rw [hC2] at k2
    have k3 := at_p hL (by omega)
    rw [hln] at k3
    have k4 := at_p hM (by omega)
    have hcast : (((labs (namesL (l ++ [x]))).length : Nat) : Int) = (l.length : Int) + 1 := by omega
    rw [hcast] at k4
    have k5 := names_p x hsx
    rw [show rpD x = .agg [.slice (x.opts.map evD) .no, .bool x.doubt] from rfl] at k5
    have hX8 := namesR_len (r := x)
    have hlast := fun i (hi : i < (namesL l).length) => further_last (R := namesL l) (x := namesR x) hi
    have htwo := fun i k (hi : i < (namesL l).length) (hk : k < (namesL l).length) => further_two (R := namesL l) (x := namesR x) hi hk
    have hct := fun i (hi : i < (namesL l).length) K hK => com_tch (R := namesL l) (X := namesR x) hi K hK
    have hnm := fun i (h : i < l.length) => namesL_get h
    have hB : ∀ i k, i ≤ l.length → k ≤ l.length → (lb (atL (labs (namesL (l ++ [x])))) i = lb (atL (labs (namesL (l ++ [x])))) k ↔ Cn (namesL l ++ [namesR x]) i k) := fun i k hi hk => by
      rw [atL_same hM (by omega) (by omega)]
      have := labs_iff (namesL (l ++ [x])) (i := i) (k := k) (by rw [namesL_len, List.length_append, List.length_singleton]; omega) (by rw [namesL_len, List.length_append, List.length_singleton]; omega)
      rw [this, hRn]
    have hA : ∀ i k, i < l.length → k < l.length → (lb (atL (labs (namesL l))) i = lb (atL (labs (namesL l))) k ↔ Cn (namesL l) i k) := fun i k hi hk => by
      rw [atL_same hL (by omega) (by omega)]
      exact labs_iff (namesL l) (by omega) (by omega)
    have lA := ints_len (atL (labs (namesL l)))
    have lB := ints_len (atL (labs (namesL (l ++ [x]))))
    have lA2 := atL_len (labs (namesL l))
    have lB2 := atL_len (labs (namesL (l ++ [x])))
    rw [lA2, hln] at lA
    rw [lB2, hmn] at lB
    have u1 := cl_comps (compsL (labs (namesL l)))
    have u2 := er_comps (compsL (labs (namesL l)))
    have u3 := cl_comps (compsL (labs (namesL (l ++ [x]))))
    have u4 := er_comps (compsL (labs (namesL (l ++ [x]))))
    rw [hln] at lA2
    rw [hmn] at lB2
    clear hC1 hC2 hcast hRn
    generalize namesR x = X at *
    generalize atL (labs (namesL l)) = A at *
    generalize atL (labs (namesL (l ++ [x]))) = B at *
    generalize labs (namesL l) = L at *
    generalize labs (namesL (l ++ [x])) = L2 at *
    generalize hR : namesL l = R at *
    have lX := strs_len X
    repeat' (first
    | with_reducible first | apply swp_seq | apply swp_reg | apply swp_regD | apply swp_block | apply swp_exit | apply swp_ret | apply swp_skip | apply swp_cd
    | simp only [go_sem, seval, P8, q8, Rp.cells, o_newM]
    | simp (disch := omega) only [w64, w32, wu8, wu16, wu32, wu64]
    | ((with_reducible refine o_call (c1) ?he ?hc ?_); (case he | hc => first | rfl | (simp [D.erL, D.er, D.closedL, D.closed, hclr, herr, hcm, hem, hlr, u1, u2, u3, u4]; done)))
    | ((with_reducible refine o_call (k1) ?he ?hc ?_); (case he | hc => first | rfl | (simp [D.erL, D.er, D.closedL, D.closed, hclr, herr, hcm, hem, hlr, u1, u2, u3, u4]; done)))
    | ((with_reducible refine o_call (k2) ?he ?hc ?_); (case he | hc => first | rfl | (simp [D.erL, D.er, D.closedL, D.closed, hclr, herr, hcm, hem, hlr, u1, u2, u3, u4]; done)))
    | ((with_reducible refine o_call (k3) ?he ?hc ?_); (case he | hc => first | rfl | (simp [D.erL, D.er, D.closedL, D.closed, hclr, herr, hcm, hem, hlr, u1, u2, u3, u4]; done)))
    | ((with_reducible refine o_call (k4) ?he ?hc ?_); (case he | hc => first | rfl | (simp [D.erL, D.er, D.closedL, D.closed, hclr, herr, hcm, hem, hlr, u1, u2, u3, u4]; done)))
    | ((with_reducible refine o_call (k5) ?he ?hc ?_); (case he | hc => first | rfl | (simp [D.erL, D.er, D.closedL, D.closed, hclr, herr, hcm, hem, hlr, u1, u2, u3, u4]; done)))
    | ((with_reducible apply s_appT); (case he => rfl); (case hK | hc | hr | hV => first | rfl | assumption | omega | ((first | refine ⟨?_, ?_⟩ | skip) <;> first | omega | (simp only [lN, hclr, herr, hcm, hem, hlr, u1, u2, u3, u4] <;> omega)) | (simp [elemsK, D.isVal, D.cells, D.closedL, D.closed, hclr, herr, hcm, hem, hlr, u1, u2, u3, u4]; first | done | omega)))
    | ((with_reducible apply s_appG); (case he => rfl); (case hV | hK | hr | hl => first | rfl | assumption | omega | ((first | refine ⟨?_, ?_⟩ | skip) <;> first | omega | (simp only [lN, hclr, herr, hcm, hem, hlr, u1, u2, u3, u4] <;> omega)) | (simp [elemsK, D.isVal, D.cells, D.closedL, D.closed, hclr, herr, hcm, hem, hlr, u1, u2, u3, u4]; first | done | omega)))
    | ((with_reducible first | apply s_app0 | apply t_app0); (case he => rfl); (case hK | hc | hr => first | rfl | assumption | omega | ((first | refine ⟨?_, ?_⟩ | skip) <;> first | omega | (simp only [lN, hclr, herr, hcm, hem, hlr, u1, u2, u3, u4] <;> omega)) | (simp [elemsK, D.isVal, D.cells, D.closedL, D.closed, hclr, herr, hcm, hem, hlr, u1, u2, u3, u4]; first | done | omega)))
    | ((with_reducible first | apply s_appF | apply t_appF); (case he => rfl); (case hK | hc | hr | hx | hn => first | rfl | assumption | omega | ((first | refine ⟨?_, ?_⟩ | skip) <;> first | omega | (simp only [lN, hclr, herr, hcm, hem, hlr, u1, u2, u3, u4] <;> omega)) | (simp [elemsK, D.isVal, D.cells, D.closedL, D.closed, hclr, herr, hcm, hem, hlr, u1, u2, u3, u4]; first | done | omega)))
    | ((with_reducible first | apply s_bsl | apply t_bsl); (case he | hl | hc => first | rfl | assumption | omega | ((first | refine ⟨?_, ?_⟩ | skip) <;> first | omega | (simp only [lN, hclr, herr, hcm, hem, hlr, u1, u2, u3, u4] <;> omega)) | (simp [elemsK, D.isVal, D.cells, D.closedL, D.closed, hclr, herr, hcm, hem, hlr, u1, u2, u3, u4]; first | done | omega)))
    | ((with_reducible apply s_mpu); (case h1 | hk => rfl); (case ha | hp => first | rfl | assumption | omega | ((first | refine ⟨?_, ?_⟩ | skip) <;> first | omega | (simp only [lN, hclr, herr, hcm, hem, hlr, u1, u2, u3, u4] <;> omega)) | (simp [elemsK, D.isVal, D.cells, D.closedL, D.closed, hclr, herr, hcm, hem, hlr, u1, u2, u3, u4]; first | done | omega)))
    | ((with_reducible first | apply s_lkpS | apply t_lkpS); (case h1 | hk => rfl); (case ha | hf => first | rfl | assumption | omega | ((first | refine ⟨?_, ?_⟩ | skip) <;> first | omega | (simp only [lN, hclr, herr, hcm, hem, hlr, u1, u2, u3, u4] <;> omega)) | (simp [elemsK, D.isVal, D.cells, D.closedL, D.closed, hclr, herr, hcm, hem, hlr, u1, u2, u3, u4]; first | done | omega)))
    | ((with_reducible first | apply s_lkpN | apply t_lkpN); (case h1 | hk => rfl); (case hf | ha => first | rfl | assumption | omega | ((first | refine ⟨?_, ?_⟩ | skip) <;> first | omega | (simp only [lN, hclr, herr, hcm, hem, hlr, u1, u2, u3, u4] <;> omega)) | (simp [elemsK, D.isVal, D.cells, D.closedL, D.closed, hclr, herr, hcm, hem, hlr, u1, u2, u3, u4]; first | done | omega)))
    | with_reducible first | apply cd_dec | apply cd_eq | apply cd_ne | apply cd_split | apply gd_dec | apply gd_eq | apply gd_ne | apply gd_split | apply gq_dec | apply gq_eq | apply gq_ne | apply gq_split
    | ((with_reducible refine And.intro ?hw ?_); (case hw => first | omega | rfl | exact ⟨_, _, rfl⟩ | assumption | (simp only [lN, hclr, herr, hcm, hem, hlr, u1, u2, u3, u4] <;> omega)))
    | with_reducible intro _)
    all_goals first | omega | skip
    refine swp_mono (Q := fun e s' => e = .exit 0 ∧ ∃ K, (K.Nodup ∧ ∀ a, a ∈ K ↔ ∃ j, j < l.length ∧ lb A j = a ∧ com (R.getD j []) X = true) ∧ s'.keep [0, 4, 6, 7, 9, 11, 12] = (fun K : List Nat => ⟨[rpsD l, .undef, .undef, .undef, .bool true, .undef, .int .i64 l.length, .slice (ints A) .no, .undef, .slice (ints B) .no, .undef, .slice (strs X) .no, .mp 1, .undef, .undef, .undef, .undef, .undef, .undef, .undef, .undef, .undef, .undef, .undef, .undef, .undef, .undef], [], ⟨[.gone, .map (entJ K) K.length], [.per 2 (l.length + 1)]⟩⟩) K) ?_ fun e s' hq => ?_
    · refine swp_fam [0, 4, 6, 7, 9, 11, 12, 13] (fun p : Nat × List Nat => ⟨[rpsD l, .undef, .undef, .undef, .bool true, .undef, .int .i64 l.length, .slice (ints A) .no, .undef, .slice (ints B) .no, .undef, .slice (strs X) .no, .mp 1, .int .i64 p.1, .undef, .undef, .undef, .undef, .undef, .undef, .undef, .undef, .undef, .undef, .undef, .undef, .undef], [], ⟨[.gone, .map (entJ p.2) p.2.length], [.per 2 (l.length + 1)]⟩⟩) (fun p => p.1 ≤ l.length ∧ p.2.Nodup ∧ ∀ a, a ∈ p.2 ↔ ∃ j, j < p.1 ∧ lb A j = a ∧ com (R.getD j []) X = true) (fun p => l.length - p.1) (0, []) ⟨by simp only; omega, List.nodup_nil, fun a => by simp⟩ ?_ ?_
      · simp [keepE, St.keep, entJ, entG]
      · rintro ⟨i, K0⟩ ⟨hi, hK0, hm0⟩
        simp only at hi hK0 hm0 ⊢
        by_cases hil : i < l.length
        · have t0 : decide (((i : Nat) : Int) < l.length) = true := by simp; omega
          have hg := rp_get hil
          have n1 := names_p l[i] (hsl _ (List.getElem_mem _))
          rw [show rpD l[i] = .agg [.slice (l[i].opts.map evD) .no, .bool l[i].doubt] from rfl, ← hnm i hil] at n1
          have hn8 := namesR_len (r := l[i])
          rw [← hnm i hil] at hn8
          have gA := ints_get (F := A) (i := i) (by omega)
          have hcx : com (R.getD i []) X = (R.getD i []).any fun s => X.contains s := rfl
          generalize hNi : R.getD i [] = N at *
          generalize hvi : lb A i = v at *
          have ln := strs_len N
          repeat' (first
    | with_reducible first | apply swp_seq | apply swp_reg | apply swp_regD | apply swp_block | apply swp_exit | apply swp_ret | apply swp_skip | apply swp_cd
    | simp only [go_sem, seval, P8, q8, hlr, hg, t0, o_newM]
    | simp (disch := omega) only [w64, w32, wu8, wu16, wu32, wu64]
    | ((with_reducible refine o_call (n1) ?he ?hc ?_); (case he | hc => first | rfl | (simp [D.erL, D.er, D.closedL, D.closed, hlr, hg]; done)))
    | ((with_reducible apply s_appT); (case he => rfl); (case hK | hc | hr | hV => first | rfl | assumption | omega | ((first | refine ⟨?_, ?_⟩ | skip) <;> first | omega | (simp only [lN, hlr, hg] <;> omega)) | (simp [elemsK, D.isVal, D.cells, D.closedL, D.closed, hlr, hg]; first | done | omega)))
    | ((with_reducible apply s_appG); (case he => rfl); (case hV | hK | hr | hl => first | rfl | assumption | omega | ((first | refine ⟨?_, ?_⟩ | skip) <;> first | omega | (simp only [lN, hlr, hg] <;> omega)) | (simp [elemsK, D.isVal, D.cells, D.closedL, D.closed, hlr, hg]; first | done | omega)))
    | ((with_reducible first | apply s_app0 | apply t_app0); (case he => rfl); (case hK | hc | hr => first | rfl | assumption | omega | ((first | refine ⟨?_, ?_⟩ | skip) <;> first | omega | (simp only [lN, hlr, hg] <;> omega)) | (simp [elemsK, D.isVal, D.cells, D.closedL, D.closed, hlr, hg]; first | done | omega)))
    | ((with_reducible first | apply s_appF | apply t_appF); (case he => rfl); (case hK | hc | hr | hx | hn => first | rfl | assumption | omega | ((first | refine ⟨?_, ?_⟩ | skip) <;> first | omega | (simp only [lN, hlr, hg] <;> omega)) | (simp [elemsK, D.isVal, D.cells, D.closedL, D.closed, hlr, hg]; first | done | omega)))
    | ((with_reducible first | apply s_bsl | apply t_bsl); (case he | hl | hc => first | rfl | assumption | omega | ((first | refine ⟨?_, ?_⟩ | skip) <;> first | omega | (simp only [lN, hlr, hg] <;> omega)) | (simp [elemsK, D.isVal, D.cells, D.closedL, D.closed, hlr, hg]; first | done | omega)))
    | ((with_reducible apply s_mpu); (case h1 | hk => rfl); (case ha | hp => first | rfl | assumption | omega | ((first | refine ⟨?_, ?_⟩ | skip) <;> first | omega | (simp only [lN, hlr, hg] <;> omega)) | (simp [elemsK, D.isVal, D.cells, D.closedL, D.closed, hlr, hg]; first | done | omega)))
    | ((with_reducible first | apply s_lkpS | apply t_lkpS); (case h1 | hk => rfl); (case ha | hf => first | rfl | assumption | omega | ((first | refine ⟨?_, ?_⟩ | skip) <;> first | omega | (simp only [lN, hlr, hg] <;> omega)) | (simp [elemsK, D.isVal, D.cells, D.closedL, D.closed, hlr, hg]; first | done | omega)))
    | ((with_reducible first | apply s_lkpN | apply t_lkpN); (case h1 | hk => rfl); (case hf | ha => first | rfl | assumption | omega | ((first | refine ⟨?_, ?_⟩ | skip) <;> first | omega | (simp only [lN, hlr, hg] <;> omega)) | (simp [elemsK, D.isVal, D.cells, D.closedL, D.closed, hlr, hg]; first | done | omega)))
    | with_reducible first | apply cd_dec | apply cd_eq | apply cd_ne | apply cd_split | apply gd_dec | apply gd_eq | apply gd_ne | apply gd_split | apply gq_dec | apply gq_eq | apply gq_ne | apply gq_split
    | ((with_reducible refine And.intro ?hw ?_); (case hw => first | omega | rfl | exact ⟨_, _, rfl⟩ | assumption | (simp only [lN, hlr, hg] <;> omega)))
    | with_reducible intro _)
          all_goals first | omega | skip
          refine swp_mono (Q := fun e s' => e = .exit 2 ∧ ∃ K, (K.Nodup ∧ ∀ a, a ∈ K ↔ ∃ j, j < i + 1 ∧ lb A j = a ∧ com (R.getD j []) X = true) ∧ s'.keep [0, 4, 6, 7, 9, 11, 12, 13] = (fun p : Nat × List Nat => ⟨[rpsD l, .undef, .undef, .undef, .bool true, .undef, .int .i64 l.length, .slice (ints A) .no, .undef, .slice (ints B) .no, .undef, .slice (strs X) .no, .mp 1, .int .i64 p.1, .undef, .undef, .undef, .undef, .undef, .undef, .undef, .undef, .undef, .undef, .undef, .undef, .undef], [], ⟨[.gone, .map (entJ p.2) p.2.length], [.per 2 (l.length + 1)]⟩⟩) (i, K)) ?_ fun e s' hq => ?_
          · refine swp_fam [0, 4, 6, 7, 9, 11, 12, 13, 14, 15] (fun p : Nat × List Nat => ⟨[rpsD l, .undef, .undef, .undef, .bool true, .undef, .int .i64 l.length, .slice (ints A) .no, .undef, .slice (ints B) .no, .undef, .slice (strs X) .no, .mp 1, .int .i64 i, .slice (strs N) .no, .int .i64 p.1, .undef, .undef, .undef, .undef, .undef, .undef, .undef, .undef, .undef, .undef, .undef], [], ⟨[.gone, .map (entJ p.2) p.2.length], [.per 2 (l.length + 1)]⟩⟩) (fun p => p.1 ≤ N.length ∧ p.2.Nodup ∧ ∀ a, a ∈ p.2 ↔ (∃ j, j < i ∧ lb A j = a ∧ com (R.getD j []) X = true) ∨ (v = a ∧ ((N.take p.1).any fun s => X.contains s) = true)) (fun p => N.length - p.1) (0, K0) ⟨by simp only; omega, hK0, fun a => by simp only; rw [hm0]; simp⟩ ?_ ?_
            · simp [keepE, St.keep]
            · rintro ⟨k, K⟩ ⟨hk, hK, hm⟩
              simp only at hk hK hm ⊢
              by_cases hkl : k < N.length
              · have t1 : decide (((k : Nat) : Int) < N.length) = true := by simp; omega
                have gk := strs_get hkl
                have n2 := in_p X N[k] (by omega)
                have vx1 := cl_strs X
                have vx2 := er_strs X
                have e1 : (N.take (k + 1)).any (fun s => X.contains s) = ((N.take k).any (fun s => X.contains s) || X.contains N[k]) := by rw [List.take_succ_eq_append_getElem hkl, List.any_append]; simp
                have hok := entJ_ok K
                cases hc : X.contains N[k]
                · rw [hc] at n2 e1
                  rw [Bool.or_false] at e1
                  repeat' (first
    | with_reducible first | apply swp_seq | apply swp_reg | apply swp_regD | apply swp_block | apply swp_exit | apply swp_ret | apply swp_skip | apply swp_cd
    | simp only [go_sem, seval, P8, q8, ln, gk, t1, lX, o_newM]
    | simp (disch := omega) only [w64, w32, wu8, wu16, wu32, wu64]
    | ((with_reducible refine o_call (n2) ?he ?hc ?_); (case he | hc => first | rfl | (simp [D.erL, D.er, D.closedL, D.closed, ln, gk, lX, vx1, vx2]; done)))
    | ((with_reducible apply s_appT); (case he => rfl); (case hK | hc | hr | hV => first | rfl | assumption | omega | ((first | refine ⟨?_, ?_⟩ | skip) <;> first | omega | (simp only [lN, ln, gk, lX, vx1, vx2] <;> omega)) | (simp [elemsK, D.isVal, D.cells, D.closedL, D.closed, ln, gk, lX, vx1, vx2]; first | done | omega)))
    | ((with_reducible apply s_appG); (case he => rfl); (case hV | hK | hr | hl => first | rfl | assumption | omega | ((first | refine ⟨?_, ?_⟩ | skip) <;> first | omega | (simp only [lN, ln, gk, lX, vx1, vx2] <;> omega)) | (simp [elemsK, D.isVal, D.cells, D.closedL, D.closed, ln, gk, lX, vx1, vx2]; first | done | omega)))
    | ((with_reducible first | apply s_app0 | apply t_app0); (case he => rfl); (case hK | hc | hr => first | rfl | assumption | omega | ((first | refine ⟨?_, ?_⟩ | skip) <;> first | omega | (simp only [lN, ln, gk, lX, vx1, vx2] <;> omega)) | (simp [elemsK, D.isVal, D.cells, D.closedL, D.closed, ln, gk, lX, vx1, vx2]; first | done | omega)))
    | ((with_reducible first | apply s_appF | apply t_appF); (case he => rfl); (case hK | hc | hr | hx | hn => first | rfl | assumption | omega | ((first | refine ⟨?_, ?_⟩ | skip) <;> first | omega | (simp only [lN, ln, gk, lX, vx1, vx2] <;> omega)) | (simp [elemsK, D.isVal, D.cells, D.closedL, D.closed, ln, gk, lX, vx1, vx2]; first | done | omega)))
    | ((with_reducible first | apply s_bsl | apply t_bsl); (case he | hl | hc => first | rfl | assumption | omega | ((first | refine ⟨?_, ?_⟩ | skip) <;> first | omega | (simp only [lN, ln, gk, lX, vx1, vx2] <;> omega)) | (simp [elemsK, D.isVal, D.cells, D.closedL, D.closed, ln, gk, lX, vx1, vx2]; first | done | omega)))
    | ((with_reducible apply s_mpu); (case h1 | hk => rfl); (case ha | hp => first | rfl | assumption | omega | ((first | refine ⟨?_, ?_⟩ | skip) <;> first | omega | (simp only [lN, ln, gk, lX, vx1, vx2] <;> omega)) | (simp [elemsK, D.isVal, D.cells, D.closedL, D.closed, ln, gk, lX, vx1, vx2]; first | done | omega)))
    | ((with_reducible first | apply s_lkpS | apply t_lkpS); (case h1 | hk => rfl); (case ha | hf => first | rfl | assumption | omega | ((first | refine ⟨?_, ?_⟩ | skip) <;> first | omega | (simp only [lN, ln, gk, lX, vx1, vx2] <;> omega)) | (simp [elemsK, D.isVal, D.cells, D.closedL, D.closed, ln, gk, lX, vx1, vx2]; first | done | omega)))
    | ((with_reducible first | apply s_lkpN | apply t_lkpN); (case h1 | hk => rfl); (case hf | ha => first | rfl | assumption | omega | ((first | refine ⟨?_, ?_⟩ | skip) <;> first | omega | (simp only [lN, ln, gk, lX, vx1, vx2] <;> omega)) | (simp [elemsK, D.isVal, D.cells, D.closedL, D.closed, ln, gk, lX, vx1, vx2]; first | done | omega)))
    | with_reducible first | apply cd_dec | apply cd_eq | apply cd_ne | apply cd_split | apply gd_dec | apply gd_eq | apply gd_ne | apply gd_split | apply gq_dec | apply gq_eq | apply gq_ne | apply gq_split
    | ((with_reducible refine And.intro ?hw ?_); (case hw => first | omega | rfl | exact ⟨_, _, rfl⟩ | assumption | (simp only [lN, ln, gk, lX, vx1, vx2] <;> omega)))
    | with_reducible intro _)
                  all_goals first | omega | skip
                  exact ⟨(k + 1, K), ⟨by simp only; omega, hK, fun a => by simp only [e1]; exact hm a⟩, by simp only; omega, by simp [keepE, St.keep]⟩
                · rw [hc] at n2 e1
                  rw [Bool.or_true] at e1
                  obtain ⟨K', hK', hm', hp⟩ := entJ_put hK v
                  repeat' (first
    | with_reducible first | apply swp_seq | apply swp_reg | apply swp_regD | apply swp_block | apply swp_exit | apply swp_ret | apply swp_skip | apply swp_cd
    | simp only [go_sem, seval, P8, q8, ln, gk, t1, lX, gA, o_newM]
    | simp (disch := omega) only [w64, w32, wu8, wu16, wu32, wu64]
    | ((with_reducible refine o_call (n2) ?he ?hc ?_); (case he | hc => first | rfl | (simp [D.erL, D.er, D.closedL, D.closed, ln, gk, lX, lA, gA, vx1, vx2]; done)))
    | ((with_reducible apply s_appT); (case he => rfl); (case hK | hc | hr | hV => first | rfl | assumption | omega | ((first | refine ⟨?_, ?_⟩ | skip) <;> first | omega | (simp only [lN, ln, gk, lX, lA, gA, vx1, vx2] <;> omega)) | (simp [elemsK, D.isVal, D.cells, D.closedL, D.closed, ln, gk, lX, lA, gA, vx1, vx2]; first | done | omega)))
    | ((with_reducible apply s_appG); (case he => rfl); (case hV | hK | hr | hl => first | rfl | assumption | omega | ((first | refine ⟨?_, ?_⟩ | skip) <;> first | omega | (simp only [lN, ln, gk, lX, lA, gA, vx1, vx2] <;> omega)) | (simp [elemsK, D.isVal, D.cells, D.closedL, D.closed, ln, gk, lX, lA, gA, vx1, vx2]; first | done | omega)))
    | ((with_reducible first | apply s_app0 | apply t_app0); (case he => rfl); (case hK | hc | hr => first | rfl | assumption | omega | ((first | refine ⟨?_, ?_⟩ | skip) <;> first | omega | (simp only [lN, ln, gk, lX, lA, gA, vx1, vx2] <;> omega)) | (simp [elemsK, D.isVal, D.cells, D.closedL, D.closed, ln, gk, lX, lA, gA, vx1, vx2]; first | done | omega)))
    | ((with_reducible first | apply s_appF | apply t_appF); (case he => rfl); (case hK | hc | hr | hx | hn => first | rfl | assumption | omega | ((first | refine ⟨?_, ?_⟩ | skip) <;> first | omega | (simp only [lN, ln, gk, lX, lA, gA, vx1, vx2] <;> omega)) | (simp [elemsK, D.isVal, D.cells, D.closedL, D.closed, ln, gk, lX, lA, gA, vx1, vx2]; first | done | omega)))
    | ((with_reducible first | apply s_bsl | apply t_bsl); (case he | hl | hc => first | rfl | assumption | omega | ((first | refine ⟨?_, ?_⟩ | skip) <;> first | omega | (simp only [lN, ln, gk, lX, lA, gA, vx1, vx2] <;> omega)) | (simp [elemsK, D.isVal, D.cells, D.closedL, D.closed, ln, gk, lX, lA, gA, vx1, vx2]; first | done | omega)))
    | ((with_reducible apply s_mpu); (case h1 | hk => rfl); (case ha | hp => first | rfl | assumption | omega | ((first | refine ⟨?_, ?_⟩ | skip) <;> first | omega | (simp only [lN, ln, gk, lX, lA, gA, vx1, vx2] <;> omega)) | (simp [elemsK, D.isVal, D.cells, D.closedL, D.closed, ln, gk, lX, lA, gA, vx1, vx2]; first | done | omega)))
    | ((with_reducible first | apply s_lkpS | apply t_lkpS); (case h1 | hk => rfl); (case ha | hf => first | rfl | assumption | omega | ((first | refine ⟨?_, ?_⟩ | skip) <;> first | omega | (simp only [lN, ln, gk, lX, lA, gA, vx1, vx2] <;> omega)) | (simp [elemsK, D.isVal, D.cells, D.closedL, D.closed, ln, gk, lX, lA, gA, vx1, vx2]; first | done | omega)))
    | ((with_reducible first | apply s_lkpN | apply t_lkpN); (case h1 | hk => rfl); (case hf | ha => first | rfl | assumption | omega | ((first | refine ⟨?_, ?_⟩ | skip) <;> first | omega | (simp only [lN, ln, gk, lX, lA, gA, vx1, vx2] <;> omega)) | (simp [elemsK, D.isVal, D.cells, D.closedL, D.closed, ln, gk, lX, lA, gA, vx1, vx2]; first | done | omega)))
    | with_reducible first | apply cd_dec | apply cd_eq | apply cd_ne | apply cd_split | apply gd_dec | apply gd_eq | apply gd_ne | apply gd_split | apply gq_dec | apply gq_eq | apply gq_ne | apply gq_split
    | ((with_reducible refine And.intro ?hw ?_); (case hw => first | omega | rfl | exact ⟨_, _, rfl⟩ | assumption | (simp only [lN, ln, gk, lX, lA, gA, vx1, vx2] <;> omega)))
    | with_reducible intro _)
                  all_goals first | omega | skip
                  refine ⟨(k + 1, K'), ⟨by simp only; omega, hK', fun a => ?_⟩, by simp only; omega, by simp [keepE, St.keep, hp]⟩
                  simp only [e1]
                  rw [hm', hm]
                  constructor
                  · rintro ((h | h) | h)
                    · exact .inl h
                    · exact .inr ⟨h.1, trivial⟩
                    · exact .inr ⟨h.symm, trivial⟩
                  · rintro (h | h)
                    · exact .inl (.inl h)
                    · exact .inr h.1.symm
              · have t1 : decide (((k : Nat) : Int) < N.length) = false := by simp; omega
                rw [List.take_of_length_le (by omega), ← hcx] at hm
                repeat' (first
    | with_reducible first | apply swp_seq | apply swp_reg | apply swp_regD | apply swp_block | apply swp_exit | apply swp_ret | apply swp_skip | apply swp_cd
    | simp only [go_sem, seval, P8, q8, ln, t1, o_newM]
    | simp (disch := omega) only [w64, w32, wu8, wu16, wu32, wu64]
    | ((with_reducible apply s_appT); (case he => rfl); (case hK | hc | hr | hV => first | rfl | assumption | omega | ((first | refine ⟨?_, ?_⟩ | skip) <;> first | omega | (simp only [lN, ln] <;> omega)) | (simp [elemsK, D.isVal, D.cells, D.closedL, D.closed, ln]; first | done | omega)))
    | ((with_reducible apply s_appG); (case he => rfl); (case hV | hK | hr | hl => first | rfl | assumption | omega | ((first | refine ⟨?_, ?_⟩ | skip) <;> first | omega | (simp only [lN, ln] <;> omega)) | (simp [elemsK, D.isVal, D.cells, D.closedL, D.closed, ln]; first | done | omega)))
    | ((with_reducible first | apply s_app0 | apply t_app0); (case he => rfl); (case hK | hc | hr => first | rfl | assumption | omega | ((first | refine ⟨?_, ?_⟩ | skip) <;> first | omega | (simp only [lN, ln] <;> omega)) | (simp [elemsK, D.isVal, D.cells, D.closedL, D.closed, ln]; first | done | omega)))
    | ((with_reducible first | apply s_appF | apply t_appF); (case he => rfl); (case hK | hc | hr | hx | hn => first | rfl | assumption | omega | ((first | refine ⟨?_, ?_⟩ | skip) <;> first | omega | (simp only [lN, ln] <;> omega)) | (simp [elemsK, D.isVal, D.cells, D.closedL, D.closed, ln]; first | done | omega)))
    | ((with_reducible first | apply s_bsl | apply t_bsl); (case he | hl | hc => first | rfl | assumption | omega | ((first | refine ⟨?_, ?_⟩ | skip) <;> first | omega | (simp only [lN, ln] <;> omega)) | (simp [elemsK, D.isVal, D.cells, D.closedL, D.closed, ln]; first | done | omega)))
    | ((with_reducible apply s_mpu); (case h1 | hk => rfl); (case ha | hp => first | rfl | assumption | omega | ((first | refine ⟨?_, ?_⟩ | skip) <;> first | omega | (simp only [lN, ln] <;> omega)) | (simp [elemsK, D.isVal, D.cells, D.closedL, D.closed, ln]; first | done | omega)))
    | ((with_reducible first | apply s_lkpS | apply t_lkpS); (case h1 | hk => rfl); (case ha | hf => first | rfl | assumption | omega | ((first | refine ⟨?_, ?_⟩ | skip) <;> first | omega | (simp only [lN, ln] <;> omega)) | (simp [elemsK, D.isVal, D.cells, D.closedL, D.closed, ln]; first | done | omega)))
    | ((with_reducible first | apply s_lkpN | apply t_lkpN); (case h1 | hk => rfl); (case hf | ha => first | rfl | assumption | omega | ((first | refine ⟨?_, ?_⟩ | skip) <;> first | omega | (simp only [lN, ln] <;> omega)) | (simp [elemsK, D.isVal, D.cells, D.closedL, D.closed, ln]; first | done | omega)))
    | with_reducible first | apply cd_dec | apply cd_eq | apply cd_ne | apply cd_split | apply gd_dec | apply gd_eq | apply gd_ne | apply gd_split | apply gq_dec | apply gq_eq | apply gq_ne | apply gq_split
    | ((with_reducible refine And.intro ?hw ?_); (case hw => first | omega | rfl | exact ⟨_, _, rfl⟩ | assumption | (simp only [lN, ln] <;> omega)))
    | with_reducible intro _)
                all_goals first | omega | skip
                refine ⟨K, ⟨hK, fun a => ?_⟩, by simp [keepE, St.keep]⟩
                rw [hm]
                constructor
                · rintro (⟨j, h1, h2, h3⟩ | ⟨h1, h2⟩)
                  · exact ⟨j, by omega, h2, h3⟩
                  · exact ⟨i, by omega, by rw [hvi]; exact h1, by rw [hNi]; exact h2⟩
                · rintro ⟨j, h1, h2, h3⟩
                  by_cases q : j = i
                  · subst q
                    rw [hvi] at h2
                    rw [hNi] at h3
                    exact .inr ⟨h2, h3⟩
                  · exact .inl ⟨j, by omega, h2, h3⟩
          · obtain ⟨rfl, K, ⟨hK, hm⟩, hq⟩ := hq
            refine ⟨_, weak_keep [0, 4, 6, 7, 9, 11, 12, 13], ?_⟩
            rw [show ({ s' with env := keepE [0, 4, 6, 7, 9, 11, 12, 13] 0 s'.env } : St) = s'.keep [0, 4, 6, 7, 9, 11, 12, 13] from rfl, hq]
            clear hq
            simp only
            repeat' (first
    | with_reducible first | apply swp_seq | apply swp_reg | apply swp_regD | apply swp_block | apply swp_exit | apply swp_ret | apply swp_skip | apply swp_cd
    | simp only [go_sem, seval, P8, q8, o_newM]
    | simp (disch := omega) only [w64, w32, wu8, wu16, wu32, wu64]
    | ((with_reducible apply s_appT); (case he => rfl); (case hK | hc | hr | hV => first | rfl | assumption | omega | ((first | refine ⟨?_, ?_⟩ | skip) <;> first | omega | (simp only [lN] <;> omega)) | (simp [elemsK, D.isVal, D.cells, D.closedL, D.closed]; first | done | omega)))
    | ((with_reducible apply s_appG); (case he => rfl); (case hV | hK | hr | hl => first | rfl | assumption | omega | ((first | refine ⟨?_, ?_⟩ | skip) <;> first | omega | (simp only [lN] <;> omega)) | (simp [elemsK, D.isVal, D.cells, D.closedL, D.closed]; first | done | omega)))
    | ((with_reducible first | apply s_app0 | apply t_app0); (case he => rfl); (case hK | hc | hr => first | rfl | assumption | omega | ((first | refine ⟨?_, ?_⟩ | skip) <;> first | omega | (simp only [lN] <;> omega)) | (simp [elemsK, D.isVal, D.cells, D.closedL, D.closed]; first | done | omega)))
    | ((with_reducible first | apply s_appF | apply t_appF); (case he => rfl); (case hK | hc | hr | hx | hn => first | rfl | assumption | omega | ((first | refine ⟨?_, ?_⟩ | skip) <;> first | omega | (simp only [lN] <;> omega)) | (simp [elemsK, D.isVal, D.cells, D.closedL, D.closed]; first | done | omega)))
    | ((with_reducible first | apply s_bsl | apply t_bsl); (case he | hl | hc => first | rfl | assumption | omega | ((first | refine ⟨?_, ?_⟩ | skip) <;> first | omega | (simp only [lN] <;> omega)) | (simp [elemsK, D.isVal, D.cells, D.closedL, D.closed]; first | done | omega)))
    | ((with_reducible apply s_mpu); (case h1 | hk => rfl); (case ha | hp => first | rfl | assumption | omega | ((first | refine ⟨?_, ?_⟩ | skip) <;> first | omega | (simp only [lN] <;> omega)) | (simp [elemsK, D.isVal, D.cells, D.closedL, D.closed]; first | done | omega)))
    | ((with_reducible first | apply s_lkpS | apply t_lkpS); (case h1 | hk => rfl); (case ha | hf => first | rfl | assumption | omega | ((first | refine ⟨?_, ?_⟩ | skip) <;> first | omega | (simp only [lN] <;> omega)) | (simp [elemsK, D.isVal, D.cells, D.closedL, D.closed]; first | done | omega)))
    | ((with_reducible first | apply s_lkpN | apply t_lkpN); (case h1 | hk => rfl); (case hf | ha => first | rfl | assumption | omega | ((first | refine ⟨?_, ?_⟩ | skip) <;> first | omega | (simp only [lN] <;> omega)) | (simp [elemsK, D.isVal, D.cells, D.closedL, D.closed]; first | done | omega)))
    | with_reducible first | apply cd_dec | apply cd_eq | apply cd_ne | apply cd_split | apply gd_dec | apply gd_eq | apply gd_ne | apply gd_split | apply gq_dec | apply gq_eq | apply gq_ne | apply gq_split
    | ((with_reducible refine And.intro ?hw ?_); (case hw => first | omega | rfl | exact ⟨_, _, rfl⟩ | assumption | (simp only [lN] <;> omega)))
    | with_reducible intro _)
            all_goals first | omega | skip
            exact ⟨(i + 1, K), ⟨by simp only; omega, hK, hm⟩, by simp only; omega, by simp [keepE, St.keep]⟩
        · have t0 : decide (((i : Nat) : Int) < l.length) = false := by simp; omega
          have : i = l.length := by omega
          subst this
          repeat' (first
    | with_reducible first | apply swp_seq | apply swp_reg | apply swp_regD | apply swp_block | apply swp_exit | apply swp_ret | apply swp_skip | apply swp_cd
    | simp only [go_sem, seval, P8, q8, t0, o_newM]
    | simp (disch := omega) only [w64, w32, wu8, wu16, wu32, wu64]
    | ((with_reducible apply s_appT); (case he => rfl); (case hK | hc | hr | hV => first | rfl | assumption | omega | ((first | refine ⟨?_, ?_⟩ | skip) <;> first | omega | (simp only [lN] <;> omega)) | (simp [elemsK, D.isVal, D.cells, D.closedL, D.closed]; first | done | omega)))
    | ((with_reducible apply s_appG); (case he => rfl); (case hV | hK | hr | hl => first | rfl | assumption | omega | ((first | refine ⟨?_, ?_⟩ | skip) <;> first | omega | (simp only [lN] <;> omega)) | (simp [elemsK, D.isVal, D.cells, D.closedL, D.closed]; first | done | omega)))
    | ((with_reducible first | apply s_app0 | apply t_app0); (case he => rfl); (case hK | hc | hr => first | rfl | assumption | omega | ((first | refine ⟨?_, ?_⟩ | skip) <;> first | omega | (simp only [lN] <;> omega)) | (simp [elemsK, D.isVal, D.cells, D.closedL, D.closed]; first | done | omega)))
    | ((with_reducible first | apply s_appF | apply t_appF); (case he => rfl); (case hK | hc | hr | hx | hn => first | rfl | assumption | omega | ((first | refine ⟨?_, ?_⟩ | skip) <;> first | omega | (simp only [lN] <;> omega)) | (simp [elemsK, D.isVal, D.cells, D.closedL, D.closed]; first | done | omega)))
    | ((with_reducible first | apply s_bsl | apply t_bsl); (case he | hl | hc => first | rfl | assumption | omega | ((first | refine ⟨?_, ?_⟩ | skip) <;> first | omega | (simp only [lN] <;> omega)) | (simp [elemsK, D.isVal, D.cells, D.closedL, D.closed]; first | done | omega)))
    | ((with_reducible apply s_mpu); (case h1 | hk => rfl); (case ha | hp => first | rfl | assumption | omega | ((first | refine ⟨?_, ?_⟩ | skip) <;> first | omega | (simp only [lN] <;> omega)) | (simp [elemsK, D.isVal, D.cells, D.closedL, D.closed]; first | done | omega)))
    | ((with_reducible first | apply s_lkpS | apply t_lkpS); (case h1 | hk => rfl); (case ha | hf => first | rfl | assumption | omega | ((first | refine ⟨?_, ?_⟩ | skip) <;> first | omega | (simp only [lN] <;> omega)) | (simp [elemsK, D.isVal, D.cells, D.closedL, D.closed]; first | done | omega)))
    | ((with_reducible first | apply s_lkpN | apply t_lkpN); (case h1 | hk => rfl); (case hf | ha => first | rfl | assumption | omega | ((first | refine ⟨?_, ?_⟩ | skip) <;> first | omega | (simp only [lN] <;> omega)) | (simp [elemsK, D.isVal, D.cells, D.closedL, D.closed]; first | done | omega)))
    | with_reducible first | apply cd_dec | apply cd_eq | apply cd_ne | apply cd_split | apply gd_dec | apply gd_eq | apply gd_ne | apply gd_split | apply gq_dec | apply gq_eq | apply gq_ne | apply gq_split
    | ((with_reducible refine And.intro ?hw ?_); (case hw => first | omega | rfl | exact ⟨_, _, rfl⟩ | assumption | (simp only [lN] <;> omega)))
    | with_reducible intro _)
          all_goals first | omega | skip
          exact ⟨K0, ⟨hK0, hm0⟩, by simp [keepE, St.keep]⟩
    obtain ⟨rfl, K, ⟨hK, hm⟩, hq⟩ := hq
    refine ⟨_, weak_keep [0, 4, 6, 7, 9, 11, 12], ?_⟩
    rw [show ({ s' with env := keepE [0, 4, 6, 7, 9, 11, 12] 0 s'.env } : St) = s'.keep [0, 4, 6, 7, 9, 11, 12] from rfl, hq]
    clear hq
    simp only
    have hjn : ∀ i, i < l.length → (lb A i ∈ K ↔ Tch R X i) := fun i hi => hct i (by omega) K (by rw [hRl]; exact hm)
    clear hct hm
    have hok := entJ_ok K
    repeat' (first
    | with_reducible first | apply swp_seq | apply swp_reg | apply swp_regD | apply swp_block | apply swp_exit | apply swp_ret | apply swp_skip | apply swp_cd
    | simp only [go_sem, seval, P8, q8, o_newM]
    | simp (disch := omega) only [w64, w32, wu8, wu16, wu32, wu64]
    | ((with_reducible apply s_appT); (case he => rfl); (case hK | hc | hr | hV => first | rfl | assumption | omega | ((first | refine ⟨?_, ?_⟩ | skip) <;> first | omega | (simp only [lN] <;> omega)) | (simp [elemsK, D.isVal, D.cells, D.closedL, D.closed]; first | done | omega)))
    | ((with_reducible apply s_appG); (case he => rfl); (case hV | hK | hr | hl => first | rfl | assumption | omega | ((first | refine ⟨?_, ?_⟩ | skip) <;> first | omega | (simp only [lN] <;> omega)) | (simp [elemsK, D.isVal, D.cells, D.closedL, D.closed]; first | done | omega)))
    | ((with_reducible first | apply s_app0 | apply t_app0); (case he => rfl); (case hK | hc | hr => first | rfl | assumption | omega | ((first | refine ⟨?_, ?_⟩ | skip) <;> first | omega | (simp only [lN] <;> omega)) | (simp [elemsK, D.isVal, D.cells, D.closedL, D.closed]; first | done | omega)))
    | ((with_reducible first | apply s_appF | apply t_appF); (case he => rfl); (case hK | hc | hr | hx | hn => first | rfl | assumption | omega | ((first | refine ⟨?_, ?_⟩ | skip) <;> first | omega | (simp only [lN] <;> omega)) | (simp [elemsK, D.isVal, D.cells, D.closedL, D.closed]; first | done | omega)))
    | ((with_reducible first | apply s_bsl | apply t_bsl); (case he | hl | hc => first | rfl | assumption | omega | ((first | refine ⟨?_, ?_⟩ | skip) <;> first | omega | (simp only [lN] <;> omega)) | (simp [elemsK, D.isVal, D.cells, D.closedL, D.closed]; first | done | omega)))
    | ((with_reducible apply s_mpu); (case h1 | hk => rfl); (case ha | hp => first | rfl | assumption | omega | ((first | refine ⟨?_, ?_⟩ | skip) <;> first | omega | (simp only [lN] <;> omega)) | (simp [elemsK, D.isVal, D.cells, D.closedL, D.closed]; first | done | omega)))
    | ((with_reducible first | apply s_lkpS | apply t_lkpS); (case h1 | hk => rfl); (case ha | hf => first | rfl | assumption | omega | ((first | refine ⟨?_, ?_⟩ | skip) <;> first | omega | (simp only [lN] <;> omega)) | (simp [elemsK, D.isVal, D.cells, D.closedL, D.closed]; first | done | omega)))
    | ((with_reducible first | apply s_lkpN | apply t_lkpN); (case h1 | hk => rfl); (case hf | ha => first | rfl | assumption | omega | ((first | refine ⟨?_, ?_⟩ | skip) <;> first | omega | (simp only [lN] <;> omega)) | (simp [elemsK, D.isVal, D.cells, D.closedL, D.closed]; first | done | omega)))
    | with_reducible first | apply cd_dec | apply cd_eq | apply cd_ne | apply cd_split | apply gd_dec | apply gd_eq | apply gd_ne | apply gd_split | apply gq_dec | apply gq_eq | apply gq_ne | apply gq_split
    | ((with_reducible refine And.intro ?hw ?_); (case hw => first | omega | rfl | exact ⟨_, _, rfl⟩ | assumption | (simp only [lN] <;> omega)))
    | with_reducible intro _)
    all_goals first | omega | skip
    refine swp_mono (Q := fun e s' => e = .exit 4 ∧ s'.keep [4] = (⟨[.undef, .undef, .undef, .undef, .bool true, .undef, .undef, .undef, .undef, .undef, .undef, .undef, .undef, .undef, .undef, .undef, .undef, .undef, .undef, .undef, .undef, .undef, .undef, .undef, .undef, .undef, .undef], [], ⟨[.gone, .map (entJ K) K.length], [.per 2 (l.length + 1)]⟩⟩)) ?_ fun e s' hq => ?_
    · refine swp_fam [4, 6, 7, 9, 12, 16] (fun i : Nat => ⟨[.undef, .undef, .undef, .undef, .bool true, .undef, .int .i64 l.length, .slice (ints A) .no, .undef, .slice (ints B) .no, .undef, .undef, .mp 1, .undef, .undef, .undef, .int .i64 i, .undef, .undef, .undef, .undef, .undef, .undef, .undef, .undef, .undef, .undef], [], ⟨[.gone, .map (entJ K) K.length], [.per 2 (l.length + 1)]⟩⟩) (fun i => i ≤ l.length) (fun i => l.length - i) 0 (by omega) ?_ ?_
      · simp [keepE, St.keep]
      · intro i hi
        by_cases hil : i < l.length
        · have t0 : decide (((i : Nat) : Int) < l.length) = true := by simp; omega
          have gA := ints_get (F := A) (i := i) (by omega)
          have gB := ints_get (F := B) (i := i) (by omega)
          have gBn := ints_get (F := B) (i := l.length) (by omega)
          have hb1 : (((lb B i : Nat) : Int) == (lb B l.length : Nat)) = decide (lb A i ∈ K) := by
            rw [bq]
            have := hlast i (by omega)
            rw [hRl] at this
            exact decide_eq_decide.2 ((hB i l.length (by omega) (Nat.le_refl _)).trans (this.trans (hjn i hil).symm))
          have hb2 : ∀ k, k < l.length → (((lb B i : Nat) : Int) == (lb B k : Nat)) = (decide (lb A i = lb A k) || (decide (lb A i ∈ K) && decide (lb A k ∈ K))) := fun k hk => by
            rw [bq, Bool.eq_iff_iff]
            simp only [decide_eq_true_eq, Bool.or_eq_true, Bool.and_eq_true]
            rw [hB i k (by omega) (by omega), htwo i k (by omega) (by omega), hA i k hil hk, hjn i hil, hjn k hk]
          generalize hai : lb A i = ai at *
          rcases entJ_find K ai with ⟨hni, hfi⟩ | ⟨hni, qi, hfi⟩
          all_goals (
            simp only [hni, decide_true, decide_false, Bool.true_and, Bool.false_and, Bool.or_false] at hb1 hb2
            repeat' (first
    | with_reducible first | apply swp_seq | apply swp_reg | apply swp_regD | apply swp_block | apply swp_exit | apply swp_ret | apply swp_skip | apply swp_cd
    | simp only [go_sem, seval, P8, q8, t0, lA, lB, gA, gB, gBn, hb1, beq_self_eq_true, Bool.not_true, o_newM]
    | simp (disch := omega) only [w64, w32, wu8, wu16, wu32, wu64]
    | ((with_reducible apply s_appT); (case he => rfl); (case hK | hc | hr | hV => first | rfl | assumption | omega | ((first | refine ⟨?_, ?_⟩ | skip) <;> first | omega | (simp only [lN, lA, lB, gA, gB, gBn] <;> omega)) | (simp [elemsK, D.isVal, D.cells, D.closedL, D.closed, lA, lB, gA, gB, gBn]; first | done | omega)))
    | ((with_reducible apply s_appG); (case he => rfl); (case hV | hK | hr | hl => first | rfl | assumption | omega | ((first | refine ⟨?_, ?_⟩ | skip) <;> first | omega | (simp only [lN, lA, lB, gA, gB, gBn] <;> omega)) | (simp [elemsK, D.isVal, D.cells, D.closedL, D.closed, lA, lB, gA, gB, gBn]; first | done | omega)))
    | ((with_reducible first | apply s_app0 | apply t_app0); (case he => rfl); (case hK | hc | hr => first | rfl | assumption | omega | ((first | refine ⟨?_, ?_⟩ | skip) <;> first | omega | (simp only [lN, lA, lB, gA, gB, gBn] <;> omega)) | (simp [elemsK, D.isVal, D.cells, D.closedL, D.closed, lA, lB, gA, gB, gBn]; first | done | omega)))
    | ((with_reducible first | apply s_appF | apply t_appF); (case he => rfl); (case hK | hc | hr | hx | hn => first | rfl | assumption | omega | ((first | refine ⟨?_, ?_⟩ | skip) <;> first | omega | (simp only [lN, lA, lB, gA, gB, gBn] <;> omega)) | (simp [elemsK, D.isVal, D.cells, D.closedL, D.closed, lA, lB, gA, gB, gBn]; first | done | omega)))
    | ((with_reducible first | apply s_bsl | apply t_bsl); (case he | hl | hc => first | rfl | assumption | omega | ((first | refine ⟨?_, ?_⟩ | skip) <;> first | omega | (simp only [lN, lA, lB, gA, gB, gBn] <;> omega)) | (simp [elemsK, D.isVal, D.cells, D.closedL, D.closed, lA, lB, gA, gB, gBn]; first | done | omega)))
    | ((with_reducible apply s_mpu); (case h1 | hk => rfl); (case ha | hp => first | rfl | assumption | omega | ((first | refine ⟨?_, ?_⟩ | skip) <;> first | omega | (simp only [lN, lA, lB, gA, gB, gBn] <;> omega)) | (simp [elemsK, D.isVal, D.cells, D.closedL, D.closed, lA, lB, gA, gB, gBn]; first | done | omega)))
    | ((with_reducible first | apply s_lkpS | apply t_lkpS); (case h1 | hk => rfl); (case ha | hf => first | rfl | assumption | omega | ((first | refine ⟨?_, ?_⟩ | skip) <;> first | omega | (simp only [lN, lA, lB, gA, gB, gBn] <;> omega)) | (simp [elemsK, D.isVal, D.cells, D.closedL, D.closed, lA, lB, gA, gB, gBn]; first | done | omega)))
    | ((with_reducible first | apply s_lkpN | apply t_lkpN); (case h1 | hk => rfl); (case hf | ha => first | rfl | assumption | omega | ((first | refine ⟨?_, ?_⟩ | skip) <;> first | omega | (simp only [lN, lA, lB, gA, gB, gBn] <;> omega)) | (simp [elemsK, D.isVal, D.cells, D.closedL, D.closed, lA, lB, gA, gB, gBn]; first | done | omega)))
    | with_reducible first | apply cd_dec | apply cd_eq | apply cd_ne | apply cd_split | apply gd_dec | apply gd_eq | apply gd_ne | apply gd_split | apply gq_dec | apply gq_eq | apply gq_ne | apply gq_split
    | ((with_reducible refine And.intro ?hw ?_); (case hw => first | omega | rfl | exact ⟨_, _, rfl⟩ | assumption | (simp only [lN, lA, lB, gA, gB, gBn] <;> omega)))
    | with_reducible intro _)
            all_goals first | omega | skip
            refine swp_mono (Q := fun e s' => e = .exit 6 ∧ s'.keep [4, 6, 7, 9, 12, 16] = (fun i : Nat => ⟨[.undef, .undef, .undef, .undef, .bool true, .undef, .int .i64 l.length, .slice (ints A) .no, .undef, .slice (ints B) .no, .undef, .undef, .mp 1, .undef, .undef, .undef, .int .i64 i, .undef, .undef, .undef, .undef, .undef, .undef, .undef, .undef, .undef, .undef], [], ⟨[.gone, .map (entJ K) K.length], [.per 2 (l.length + 1)]⟩⟩) i) ?_ fun e s' hq => ?_
            · refine swp_fam [4, 6, 7, 9, 12, 16, 17] (fun k : Nat => ⟨[.undef, .undef, .undef, .undef, .bool true, .undef, .int .i64 l.length, .slice (ints A) .no, .undef, .slice (ints B) .no, .undef, .undef, .mp 1, .undef, .undef, .undef, .int .i64 i, .int .i64 k, .undef, .undef, .undef, .undef, .undef, .undef, .undef, .undef, .undef], [], ⟨[.gone, .map (entJ K) K.length], [.per 2 (l.length + 1)]⟩⟩) (fun k => k ≤ i) (fun k => i - k) 0 (by omega) ?_ ?_
              · simp [keepE, St.keep]
              · intro k hk
                by_cases hki : k < i
                · have t1 : decide (((k : Nat) : Int) < i) = true := by simp; omega
                  have gAk := ints_get (F := A) (i := k) (by omega)
                  have gBk := ints_get (F := B) (i := k) (by omega)
                  have hbk := hb2 k (by omega)
                  generalize lb A k = ak at *
                  by_cases e4 : ai = ak
                  · have t4 : (((ai : Nat) : Int) == (ak : Nat)) = true := by rw [e4]; simp
                    simp only [e4, decide_true, Bool.true_or] at hbk
                    repeat' (first
    | with_reducible first | apply swp_seq | apply swp_reg | apply swp_regD | apply swp_block | apply swp_exit | apply swp_ret | apply swp_skip | apply swp_cd
    | simp only [go_sem, seval, P8, q8, t1, lA, lB, gA, gB, gAk, gBk, hbk, t4, beq_self_eq_true, Bool.not_true, o_newM]
    | simp (disch := omega) only [w64, w32, wu8, wu16, wu32, wu64]
    | ((with_reducible apply s_appT); (case he => rfl); (case hK | hc | hr | hV => first | rfl | assumption | omega | ((first | refine ⟨?_, ?_⟩ | skip) <;> first | omega | (simp only [lN, lA, lB, gA, gB, gAk, gBk] <;> omega)) | (simp [elemsK, D.isVal, D.cells, D.closedL, D.closed, lA, lB, gA, gB, gAk, gBk]; first | done | omega)))
    | ((with_reducible apply s_appG); (case he => rfl); (case hV | hK | hr | hl => first | rfl | assumption | omega | ((first | refine ⟨?_, ?_⟩ | skip) <;> first | omega | (simp only [lN, lA, lB, gA, gB, gAk, gBk] <;> omega)) | (simp [elemsK, D.isVal, D.cells, D.closedL, D.closed, lA, lB, gA, gB, gAk, gBk]; first | done | omega)))
    | ((with_reducible first | apply s_app0 | apply t_app0); (case he => rfl); (case hK | hc | hr => first | rfl | assumption | omega | ((first | refine ⟨?_, ?_⟩ | skip) <;> first | omega | (simp only [lN, lA, lB, gA, gB, gAk, gBk] <;> omega)) | (simp [elemsK, D.isVal, D.cells, D.closedL, D.closed, lA, lB, gA, gB, gAk, gBk]; first | done | omega)))
    | ((with_reducible first | apply s_appF | apply t_appF); (case he => rfl); (case hK | hc | hr | hx | hn => first | rfl | assumption | omega | ((first | refine ⟨?_, ?_⟩ | skip) <;> first | omega | (simp only [lN, lA, lB, gA, gB, gAk, gBk] <;> omega)) | (simp [elemsK, D.isVal, D.cells, D.closedL, D.closed, lA, lB, gA, gB, gAk, gBk]; first | done | omega)))
    | ((with_reducible first | apply s_bsl | apply t_bsl); (case he | hl | hc => first | rfl | assumption | omega | ((first | refine ⟨?_, ?_⟩ | skip) <;> first | omega | (simp only [lN, lA, lB, gA, gB, gAk, gBk] <;> omega)) | (simp [elemsK, D.isVal, D.cells, D.closedL, D.closed, lA, lB, gA, gB, gAk, gBk]; first | done | omega)))
    | ((with_reducible apply s_mpu); (case h1 | hk => rfl); (case ha | hp => first | rfl | assumption | omega | ((first | refine ⟨?_, ?_⟩ | skip) <;> first | omega | (simp only [lN, lA, lB, gA, gB, gAk, gBk] <;> omega)) | (simp [elemsK, D.isVal, D.cells, D.closedL, D.closed, lA, lB, gA, gB, gAk, gBk]; first | done | omega)))
    | ((with_reducible first | apply s_lkpS | apply t_lkpS); (case h1 | hk => rfl); (case ha | hf => first | rfl | assumption | omega | ((first | refine ⟨?_, ?_⟩ | skip) <;> first | omega | (simp only [lN, lA, lB, gA, gB, gAk, gBk] <;> omega)) | (simp [elemsK, D.isVal, D.cells, D.closedL, D.closed, lA, lB, gA, gB, gAk, gBk]; first | done | omega)))
    | ((with_reducible first | apply s_lkpN | apply t_lkpN); (case h1 | hk => rfl); (case hf | ha => first | rfl | assumption | omega | ((first | refine ⟨?_, ?_⟩ | skip) <;> first | omega | (simp only [lN, lA, lB, gA, gB, gAk, gBk] <;> omega)) | (simp [elemsK, D.isVal, D.cells, D.closedL, D.closed, lA, lB, gA, gB, gAk, gBk]; first | done | omega)))
    | with_reducible first | apply cd_dec | apply cd_eq | apply cd_ne | apply cd_split | apply gd_dec | apply gd_eq | apply gd_ne | apply gd_split | apply gq_dec | apply gq_eq | apply gq_ne | apply gq_split
    | ((with_reducible refine And.intro ?hw ?_); (case hw => first | omega | rfl | exact ⟨_, _, rfl⟩ | assumption | (simp only [lN, lA, lB, gA, gB, gAk, gBk] <;> omega)))
    | with_reducible intro _)
                    all_goals first | omega | skip
                    exact ⟨k + 1, by omega, by omega, by simp [keepE, St.keep]⟩
                  · have t4 : (((ai : Nat) : Int) == (ak : Nat)) = false := by rw [beq_eq_false_iff_ne]; omega
                    rcases entJ_find K ak with ⟨hnk, hfk⟩ | ⟨hnk, qk, hfk⟩
                    all_goals (
                      simp only [e4, hnk, decide_true, decide_false, Bool.false_or] at hbk
                      repeat' (first
    | with_reducible first | apply swp_seq | apply swp_reg | apply swp_regD | apply swp_block | apply swp_exit | apply swp_ret | apply swp_skip | apply swp_cd
    | simp only [go_sem, seval, P8, q8, t1, lA, lB, gA, gB, gAk, gBk, hbk, t4, beq_self_eq_true, Bool.not_true, o_newM]
    | simp (disch := omega) only [w64, w32, wu8, wu16, wu32, wu64]
    | ((with_reducible apply s_appT); (case he => rfl); (case hK | hc | hr | hV => first | rfl | assumption | omega | ((first | refine ⟨?_, ?_⟩ | skip) <;> first | omega | (simp only [lN, lA, lB, gA, gB, gAk, gBk] <;> omega)) | (simp [elemsK, D.isVal, D.cells, D.closedL, D.closed, lA, lB, gA, gB, gAk, gBk]; first | done | omega)))
    | ((with_reducible apply s_appG); (case he => rfl); (case hV | hK | hr | hl => first | rfl | assumption | omega | ((first | refine ⟨?_, ?_⟩ | skip) <;> first | omega | (simp only [lN, lA, lB, gA, gB, gAk, gBk] <;> omega)) | (simp [elemsK, D.isVal, D.cells, D.closedL, D.closed, lA, lB, gA, gB, gAk, gBk]; first | done | omega)))
    | ((with_reducible first | apply s_app0 | apply t_app0); (case he => rfl); (case hK | hc | hr => first | rfl | assumption | omega | ((first | refine ⟨?_, ?_⟩ | skip) <;> first | omega | (simp only [lN, lA, lB, gA, gB, gAk, gBk] <;> omega)) | (simp [elemsK, D.isVal, D.cells, D.closedL, D.closed, lA, lB, gA, gB, gAk, gBk]; first | done | omega)))
    | ((with_reducible first | apply s_appF | apply t_appF); (case he => rfl); (case hK | hc | hr | hx | hn => first | rfl | assumption | omega | ((first | refine ⟨?_, ?_⟩ | skip) <;> first | omega | (simp only [lN, lA, lB, gA, gB, gAk, gBk] <;> omega)) | (simp [elemsK, D.isVal, D.cells, D.closedL, D.closed, lA, lB, gA, gB, gAk, gBk]; first | done | omega)))
    | ((with_reducible first | apply s_bsl | apply t_bsl); (case he | hl | hc => first | rfl | assumption | omega | ((first | refine ⟨?_, ?_⟩ | skip) <;> first | omega | (simp only [lN, lA, lB, gA, gB, gAk, gBk] <;> omega)) | (simp [elemsK, D.isVal, D.cells, D.closedL, D.closed, lA, lB, gA, gB, gAk, gBk]; first | done | omega)))
    | ((with_reducible apply s_mpu); (case h1 | hk => rfl); (case ha | hp => first | rfl | assumption | omega | ((first | refine ⟨?_, ?_⟩ | skip) <;> first | omega | (simp only [lN, lA, lB, gA, gB, gAk, gBk] <;> omega)) | (simp [elemsK, D.isVal, D.cells, D.closedL, D.closed, lA, lB, gA, gB, gAk, gBk]; first | done | omega)))
    | ((with_reducible first | apply s_lkpS | apply t_lkpS); (case h1 | hk => rfl); (case ha | hf => first | rfl | assumption | omega | ((first | refine ⟨?_, ?_⟩ | skip) <;> first | omega | (simp only [lN, lA, lB, gA, gB, gAk, gBk] <;> omega)) | (simp [elemsK, D.isVal, D.cells, D.closedL, D.closed, lA, lB, gA, gB, gAk, gBk]; first | done | omega)))
    | ((with_reducible first | apply s_lkpN | apply t_lkpN); (case h1 | hk => rfl); (case hf | ha => first | rfl | assumption | omega | ((first | refine ⟨?_, ?_⟩ | skip) <;> first | omega | (simp only [lN, lA, lB, gA, gB, gAk, gBk] <;> omega)) | (simp [elemsK, D.isVal, D.cells, D.closedL, D.closed, lA, lB, gA, gB, gAk, gBk]; first | done | omega)))
    | with_reducible first | apply cd_dec | apply cd_eq | apply cd_ne | apply cd_split | apply gd_dec | apply gd_eq | apply gd_ne | apply gd_split | apply gq_dec | apply gq_eq | apply gq_ne | apply gq_split
    | ((with_reducible refine And.intro ?hw ?_); (case hw => first | omega | rfl | exact ⟨_, _, rfl⟩ | assumption | (simp only [lN, lA, lB, gA, gB, gAk, gBk] <;> omega)))
    | with_reducible intro _)
                      all_goals first | omega | skip
                      exact ⟨k + 1, by omega, by omega, by simp [keepE, St.keep]⟩)
                · have t1 : decide (((k : Nat) : Int) < i) = false := by simp; omega
                  repeat' (first
    | with_reducible first | apply swp_seq | apply swp_reg | apply swp_regD | apply swp_block | apply swp_exit | apply swp_ret | apply swp_skip | apply swp_cd
    | simp only [go_sem, seval, P8, q8, t1, o_newM]
    | simp (disch := omega) only [w64, w32, wu8, wu16, wu32, wu64]
    | ((with_reducible apply s_appT); (case he => rfl); (case hK | hc | hr | hV => first | rfl | assumption | omega | ((first | refine ⟨?_, ?_⟩ | skip) <;> first | omega | (simp only [lN] <;> omega)) | (simp [elemsK, D.isVal, D.cells, D.closedL, D.closed]; first | done | omega)))
    | ((with_reducible apply s_appG); (case he => rfl); (case hV | hK | hr | hl => first | rfl | assumption | omega | ((first | refine ⟨?_, ?_⟩ | skip) <;> first | omega | (simp only [lN] <;> omega)) | (simp [elemsK, D.isVal, D.cells, D.closedL, D.closed]; first | done | omega)))
    | ((with_reducible first | apply s_app0 | apply t_app0); (case he => rfl); (case hK | hc | hr => first | rfl | assumption | omega | ((first | refine ⟨?_, ?_⟩ | skip) <;> first | omega | (simp only [lN] <;> omega)) | (simp [elemsK, D.isVal, D.cells, D.closedL, D.closed]; first | done | omega)))
    | ((with_reducible first | apply s_appF | apply t_appF); (case he => rfl); (case hK | hc | hr | hx | hn => first | rfl | assumption | omega | ((first | refine ⟨?_, ?_⟩ | skip) <;> first | omega | (simp only [lN] <;> omega)) | (simp [elemsK, D.isVal, D.cells, D.closedL, D.closed]; first | done | omega)))
    | ((with_reducible first | apply s_bsl | apply t_bsl); (case he | hl | hc => first | rfl | assumption | omega | ((first | refine ⟨?_, ?_⟩ | skip) <;> first | omega | (simp only [lN] <;> omega)) | (simp [elemsK, D.isVal, D.cells, D.closedL, D.closed]; first | done | omega)))
    | ((with_reducible apply s_mpu); (case h1 | hk => rfl); (case ha | hp => first | rfl | assumption | omega | ((first | refine ⟨?_, ?_⟩ | skip) <;> first | omega | (simp only [lN] <;> omega)) | (simp [elemsK, D.isVal, D.cells, D.closedL, D.closed]; first | done | omega)))
    | ((with_reducible first | apply s_lkpS | apply t_lkpS); (case h1 | hk => rfl); (case ha | hf => first | rfl | assumption | omega | ((first | refine ⟨?_, ?_⟩ | skip) <;> first | omega | (simp only [lN] <;> omega)) | (simp [elemsK, D.isVal, D.cells, D.closedL, D.closed]; first | done | omega)))
    | ((with_reducible first | apply s_lkpN | apply t_lkpN); (case h1 | hk => rfl); (case hf | ha => first | rfl | assumption | omega | ((first | refine ⟨?_, ?_⟩ | skip) <;> first | omega | (simp only [lN] <;> omega)) | (simp [elemsK, D.isVal, D.cells, D.closedL, D.closed]; first | done | omega)))
    | with_reducible first | apply cd_dec | apply cd_eq | apply cd_ne | apply cd_split | apply gd_dec | apply gd_eq | apply gd_ne | apply gd_split | apply gq_dec | apply gq_eq | apply gq_ne | apply gq_split
    | ((with_reducible refine And.intro ?hw ?_); (case hw => first | omega | rfl | exact ⟨_, _, rfl⟩ | assumption | (simp only [lN] <;> omega)))
    | with_reducible intro _)
                  all_goals first | omega | skip
                  all_goals simp [keepE, St.keep]
            · obtain ⟨rfl, hq⟩ := hq
              refine ⟨_, weak_keep [4, 6, 7, 9, 12, 16], ?_⟩
              rw [show ({ s' with env := keepE [4, 6, 7, 9, 12, 16] 0 s'.env } : St) = s'.keep [4, 6, 7, 9, 12, 16] from rfl, hq]
              clear hq
              simp only
              repeat' (first
    | with_reducible first | apply swp_seq | apply swp_reg | apply swp_regD | apply swp_block | apply swp_exit | apply swp_ret | apply swp_skip | apply swp_cd
    | simp only [go_sem, seval, P8, q8, o_newM]
    | simp (disch := omega) only [w64, w32, wu8, wu16, wu32, wu64]
    | ((with_reducible apply s_appT); (case he => rfl); (case hK | hc | hr | hV => first | rfl | assumption | omega | ((first | refine ⟨?_, ?_⟩ | skip) <;> first | omega | (simp only [lN] <;> omega)) | (simp [elemsK, D.isVal, D.cells, D.closedL, D.closed]; first | done | omega)))
    | ((with_reducible apply s_appG); (case he => rfl); (case hV | hK | hr | hl => first | rfl | assumption | omega | ((first | refine ⟨?_, ?_⟩ | skip) <;> first | omega | (simp only [lN] <;> omega)) | (simp [elemsK, D.isVal, D.cells, D.closedL, D.closed]; first | done | omega)))
    | ((with_reducible first | apply s_app0 | apply t_app0); (case he => rfl); (case hK | hc | hr => first | rfl | assumption | omega | ((first | refine ⟨?_, ?_⟩ | skip) <;> first | omega | (simp only [lN] <;> omega)) | (simp [elemsK, D.isVal, D.cells, D.closedL, D.closed]; first | done | omega)))
    | ((with_reducible first | apply s_appF | apply t_appF); (case he => rfl); (case hK | hc | hr | hx | hn => first | rfl | assumption | omega | ((first | refine ⟨?_, ?_⟩ | skip) <;> first | omega | (simp only [lN] <;> omega)) | (simp [elemsK, D.isVal, D.cells, D.closedL, D.closed]; first | done | omega)))
    | ((with_reducible first | apply s_bsl | apply t_bsl); (case he | hl | hc => first | rfl | assumption | omega | ((first | refine ⟨?_, ?_⟩ | skip) <;> first | omega | (simp only [lN] <;> omega)) | (simp [elemsK, D.isVal, D.cells, D.closedL, D.closed]; first | done | omega)))
    | ((with_reducible apply s_mpu); (case h1 | hk => rfl); (case ha | hp => first | rfl | assumption | omega | ((first | refine ⟨?_, ?_⟩ | skip) <;> first | omega | (simp only [lN] <;> omega)) | (simp [elemsK, D.isVal, D.cells, D.closedL, D.closed]; first | done | omega)))
    | ((with_reducible first | apply s_lkpS | apply t_lkpS); (case h1 | hk => rfl); (case ha | hf => first | rfl | assumption | omega | ((first | refine ⟨?_, ?_⟩ | skip) <;> first | omega | (simp only [lN] <;> omega)) | (simp [elemsK, D.isVal, D.cells, D.closedL, D.closed]; first | done | omega)))
    | ((with_reducible first | apply s_lkpN | apply t_lkpN); (case h1 | hk => rfl); (case hf | ha => first | rfl | assumption | omega | ((first | refine ⟨?_, ?_⟩ | skip) <;> first | omega | (simp only [lN] <;> omega)) | (simp [elemsK, D.isVal, D.cells, D.closedL, D.closed]; first | done | omega)))
    | with_reducible first | apply cd_dec | apply cd_eq | apply cd_ne | apply cd_split | apply gd_dec | apply gd_eq | apply gd_ne | apply gd_split | apply gq_dec | apply gq_eq | apply gq_ne | apply gq_split
    | ((with_reducible refine And.intro ?hw ?_); (case hw => first | omega | rfl | exact ⟨_, _, rfl⟩ | assumption | (simp only [lN] <;> omega)))
    | with_reducible intro _)
              all_goals first | omega | skip
              exact ⟨i + 1, by omega, by omega, by simp [keepE, St.keep]⟩)
        · have t0 : decide (((i : Nat) : Int) < l.length) = false := by simp; omega
          have : i = l.length := by omega
          subst this
          repeat' (first
    | with_reducible first | apply swp_seq | apply swp_reg | apply swp_regD | apply swp_block | apply swp_exit | apply swp_ret | apply swp_skip | apply swp_cd
    | simp only [go_sem, seval, P8, q8, t0, o_newM]
    | simp (disch := omega) only [w64, w32, wu8, wu16, wu32, wu64]
    | ((with_reducible apply s_appT); (case he => rfl); (case hK | hc | hr | hV => first | rfl | assumption | omega | ((first | refine ⟨?_, ?_⟩ | skip) <;> first | omega | (simp only [lN] <;> omega)) | (simp [elemsK, D.isVal, D.cells, D.closedL, D.closed]; first | done | omega)))
    | ((with_reducible apply s_appG); (case he => rfl); (case hV | hK | hr | hl => first | rfl | assumption | omega | ((first | refine ⟨?_, ?_⟩ | skip) <;> first | omega | (simp only [lN] <;> omega)) | (simp [elemsK, D.isVal, D.cells, D.closedL, D.closed]; first | done | omega)))
    | ((with_reducible first | apply s_app0 | apply t_app0); (case he => rfl); (case hK | hc | hr => first | rfl | assumption | omega | ((first | refine ⟨?_, ?_⟩ | skip) <;> first | omega | (simp only [lN] <;> omega)) | (simp [elemsK, D.isVal, D.cells, D.closedL, D.closed]; first | done | omega)))
    | ((with_reducible first | apply s_appF | apply t_appF); (case he => rfl); (case hK | hc | hr | hx | hn => first | rfl | assumption | omega | ((first | refine ⟨?_, ?_⟩ | skip) <;> first | omega | (simp only [lN] <;> omega)) | (simp [elemsK, D.isVal, D.cells, D.closedL, D.closed]; first | done | omega)))
    | ((with_reducible first | apply s_bsl | apply t_bsl); (case he | hl | hc => first | rfl | assumption | omega | ((first | refine ⟨?_, ?_⟩ | skip) <;> first | omega | (simp only [lN] <;> omega)) | (simp [elemsK, D.isVal, D.cells, D.closedL, D.closed]; first | done | omega)))
    | ((with_reducible apply s_mpu); (case h1 | hk => rfl); (case ha | hp => first | rfl | assumption | omega | ((first | refine ⟨?_, ?_⟩ | skip) <;> first | omega | (simp only [lN] <;> omega)) | (simp [elemsK, D.isVal, D.cells, D.closedL, D.closed]; first | done | omega)))
    | ((with_reducible first | apply s_lkpS | apply t_lkpS); (case h1 | hk => rfl); (case ha | hf => first | rfl | assumption | omega | ((first | refine ⟨?_, ?_⟩ | skip) <;> first | omega | (simp only [lN] <;> omega)) | (simp [elemsK, D.isVal, D.cells, D.closedL, D.closed]; first | done | omega)))
    | ((with_reducible first | apply s_lkpN | apply t_lkpN); (case h1 | hk => rfl); (case hf | ha => first | rfl | assumption | omega | ((first | refine ⟨?_, ?_⟩ | skip) <;> first | omega | (simp only [lN] <;> omega)) | (simp [elemsK, D.isVal, D.cells, D.closedL, D.closed]; first | done | omega)))
    | with_reducible first | apply cd_dec | apply cd_eq | apply cd_ne | apply cd_split | apply gd_dec | apply gd_eq | apply gd_ne | apply gd_split | apply gq_dec | apply gq_eq | apply gq_ne | apply gq_split
    | ((with_reducible refine And.intro ?hw ?_); (case hw => first | omega | rfl | exact ⟨_, _, rfl⟩ | assumption | (simp only [lN] <;> omega)))
    | with_reducible intro _)
          all_goals first | omega | skip
          all_goals simp [keepE, St.keep]
    · obtain ⟨rfl, hq⟩ := hq
      refine ⟨_, weak_keep [4], ?_⟩
      rw [show ({ s' with env := keepE [4] 0 s'.env } : St) = s'.keep [4] from rfl, hq]
      clear hq
      repeat' (first
    | with_reducible first | apply swp_seq | apply swp_reg | apply swp_regD | apply swp_block | apply swp_exit | apply swp_ret | apply swp_skip | apply swp_cd
    | simp only [go_sem, seval, P8, q8, o_newM]
    | simp (disch := omega) only [w64, w32, wu8, wu16, wu32, wu64]
    | ((with_reducible apply s_appT); (case he => rfl); (case hK | hc | hr | hV => first | rfl | assumption | omega | ((first | refine ⟨?_, ?_⟩ | skip) <;> first | omega | (simp only [lN] <;> omega)) | (simp [elemsK, D.isVal, D.cells, D.closedL, D.closed]; first | done | omega)))
    | ((with_reducible apply s_appG); (case he => rfl); (case hV | hK | hr | hl => first | rfl | assumption | omega | ((first | refine ⟨?_, ?_⟩ | skip) <;> first | omega | (simp only [lN] <;> omega)) | (simp [elemsK, D.isVal, D.cells, D.closedL, D.closed]; first | done | omega)))
    | ((with_reducible first | apply s_app0 | apply t_app0); (case he => rfl); (case hK | hc | hr => first | rfl | assumption | omega | ((first | refine ⟨?_, ?_⟩ | skip) <;> first | omega | (simp only [lN] <;> omega)) | (simp [elemsK, D.isVal, D.cells, D.closedL, D.closed]; first | done | omega)))
    | ((with_reducible first | apply s_appF | apply t_appF); (case he => rfl); (case hK | hc | hr | hx | hn => first | rfl | assumption | omega | ((first | refine ⟨?_, ?_⟩ | skip) <;> first | omega | (simp only [lN] <;> omega)) | (simp [elemsK, D.isVal, D.cells, D.closedL, D.closed]; first | done | omega)))
    | ((with_reducible first | apply s_bsl | apply t_bsl); (case he | hl | hc => first | rfl | assumption | omega | ((first | refine ⟨?_, ?_⟩ | skip) <;> first | omega | (simp only [lN] <;> omega)) | (simp [elemsK, D.isVal, D.cells, D.closedL, D.closed]; first | done | omega)))
    | ((with_reducible apply s_mpu); (case h1 | hk => rfl); (case ha | hp => first | rfl | assumption | omega | ((first | refine ⟨?_, ?_⟩ | skip) <;> first | omega | (simp only [lN] <;> omega)) | (simp [elemsK, D.isVal, D.cells, D.closedL, D.closed]; first | done | omega)))
    | ((with_reducible first | apply s_lkpS | apply t_lkpS); (case h1 | hk => rfl); (case ha | hf => first | rfl | assumption | omega | ((first | refine ⟨?_, ?_⟩ | skip) <;> first | omega | (simp only [lN] <;> omega)) | (simp [elemsK, D.isVal, D.cells, D.closedL, D.closed]; first | done | omega)))
    | ((with_reducible first | apply s_lkpN | apply t_lkpN); (case h1 | hk => rfl); (case hf | ha => first | rfl | assumption | omega | ((first | refine ⟨?_, ?_⟩ | skip) <;> first | omega | (simp only [lN] <;> omega)) | (simp [elemsK, D.isVal, D.cells, D.closedL, D.closed]; first | done | omega)))
    | with_reducible first | apply cd_dec | apply cd_eq | apply cd_ne | apply cd_split | apply gd_dec | apply gd_eq | apply gd_ne | apply gd_split | apply gq_dec | apply gq_eq | apply gq_ne | apply gq_split
    | ((with_reducible refine And.intro ?hw ?_); (case hw => first | omega | rfl | exact ⟨_, _, rfl⟩ | assumption | (simp only [lN] <;> omega)))
    | with_reducible intro _)
      all_goals first | omega | skip
      exact ⟨_, weak_refl, by simp [D.closed], by simp [D.er]⟩
end Go.Proofs.Ytofnggfpegcllaa
end
section
set_option linter.unusedVariables false
namespace Go.Proofs.Ytofnggfpegcllaa
open Go GoV
theorem arg_len {P : Program} {W : World} {H : Type} {enc : TypeId × Value → H} {t e : TypeId} {v : Value} {d : DataW H} {ps : List MemPlace} (ht : P.underlying t = some (.slice e)) (h : DataW.Trod enc P W 0 (fun _ => true) true t v d ps)
    {g : Gh} {xs : List D} {own : GoV.Own} (hr : RelL W g [.slice xs own] [v]) {k b : Nat} (hs : ∀ elems spare, d = .slice elems spare → (elems.length + spare.length) * k ≤ b) : xs.length * k ≤ b := by
  obtain ⟨fuel, hx⟩ := h
  obtain ⟨y, ys, hy, hrel, _⟩ := hr
  cases hy
  simp only [Rel] at hrel
  obtain ⟨a, cap, _, _, hv, _⟩ := hrel
  rcases hv with rfl | ⟨_, rfl, _⟩
  · rcases DataW.trod_slice ht hx with ⟨hc, _⟩ | ⟨a', len, cap', elems, rest, n', hn, hc, hd, _, _, hm, hlen, _⟩
    · exfalso
      simp [Value.cells] at hc
    · simp [Value.cells] at hc
      have hd1 : d = .slice (elems.map (·.1)) (rest.map (·.1)) := congrArg Prod.fst hd
      have := hs _ _ hd1
      rw [List.length_map, List.length_map, hlen] at this
      have e : xs.length = len := hc.2.1
      rw [e]
      exact Nat.le_trans (Nat.mul_le_mul_right _ (Nat.le_add_right _ _)) this
  · simp
theorem rps_len {W : World} {H : Type} {enc : TypeId × Value → H} {v : Value} {d : DataW H} {ps : List MemPlace} (h : DataW.Trod enc Try.prog W 0 (fun _ => true) true 22 v d ps) {l : List Rp} (hr : RelL W (G0 W) [rpsD l] [v])
    {ts : List TypeId} {ds : List (DataW H)} (hZ : (DataW.weightsEach Try.prog ts ds).all (· ≤ reachBytes) = true) (h1 : ts[0]? = some 22) (h2 : ds[0]? = some d) : l.length ≤ 4398046510976 := by
  have hb : Try.prog.bytesOf 40 = 32 := by kernel_rfl
  have := arg_len Try.underlying22 h hr (k := 32) (b := reachBytes) fun elems spare e => by
    subst e
    rw [← hb]
    exact sized_slice hZ h1 h2 Try.underlying22
  rw [List.length_map] at this
  have hr : reachBytes < 140737488355328 := reachBytes_lt
  have hr2 : reachBytes = 140737488351232 := by decide
  omega
theorem further_c (l : List Rp) (hl : l.length ≤ 4398046510976) (x : Rp) : Pur M 8 [rpsD l, .agg x.cells] (.bool true) := l8_p l hl x
end Go.Proofs.Ytofnggfpegcllaa
end
