/- Own texts, merged by a program: the engine that walks the code, and what the functions that the law reaches compute. -/
import Derived.Test.YtkjnhkoipgdfeaaDoorQa5
import Derived.Defers
import Derived.Recover
section
set_option maxRecDepth 100000
set_option linter.unusedSimpArgs false
set_option linter.unusedVariables false
namespace Go.Proofs.YtkjnhkoipgdfeaaDoor
open Go GoV Go.RowKit
theorem zCu {en : Int} {w : Tx} {l : List Tok} {go : List Tok → PR} {g : F} {r : List Tok} (h : needP en w l go = .ok g r) : ∃ t l', l = t :: l' ∧ (∃ i, gotN 4 [w] l = some i) ∧ go l' = .ok g r := by
  unfold needP at h
  cases hg : gotN 4 [w] l with
  | none =>
    rw [hg] at h
    cases l <;> simp [failP] at h
  | some i =>
    rw [hg] at h
    obtain ⟨t, l', rfl, _⟩ := zD8 hg
    exact ⟨t, l', rfl, ⟨i, by first | exact hg | rfl⟩, h⟩
theorem zFi {p : PR} {go : F → List Tok → PR} {g : F} {r : List Tok} (h : thenP p go = .ok g r) : ∃ f r', p = .ok f r' ∧ go f r' = .ok g r := by
  cases p with
  | no e q => simp [thenP] at h
  | ok f r' => exact ⟨f, r', rfl, h⟩
theorem sn1 : strs [tKm, tCy, tLd] = [.str [107, 109], .str [99, 121, 99, 108, 101, 115], .str [108, 111, 97, 100]] := rfl
theorem sn2 : strs [tMin, tMax, tIf] = [.str [109, 105, 110], .str [109, 97, 120], .str [105, 102]] := rfl
theorem args_inv {fo : List Tok → PR} {en op : Int} : ∀ (n : Nat) (fs : List F) (l : List Tok) {g : F} {r : List Tok}, argsP fo en op n fs l = .ok g r → ∃ hs, g = .mk op 0 (fs ++ hs) ∧ hs.length = n
  | 0, fs, l, g, r, h => by
    obtain ⟨t, l', rfl, _, h2⟩ := zCu h
    cases h2
    exact ⟨[], by simp, rfl⟩
  | n + 1, fs, l, g, r, h => by
    obtain ⟨t, l', rfl, _, h2⟩ := zCu h
    obtain ⟨f, r', _, h4⟩ := zFi h2
    obtain ⟨hs, e1, e2⟩ := args_inv n (fs ++ [f]) r' h4
    exact ⟨f :: hs, by rw [e1]; simp, by simp [e2]⟩
set_option maxHeartbeats 4000000 in
theorem factor_e {fo : List Tok → PR} {en : Int} {N : Nat} (hfo : OpOk 33 fo en N) (hN : N ≤ 100000) : OpOk 54 (factP fo en) en N := by
  intro l g r hl hG h
  cases l with
  | nil => simp [factP] at h
  | cons t l' =>
  simp only [factP] at h
  simp only [List.length_cons] at hl
  have hlr := tokL_len l'
  have hel := zDg l'
  have hpos : decide (((l'.length + 1 : Nat) : Int) > 0) = true := by simp only [decide_eq_true_eq]; omega
  have hcons := tokL_cons t l'
  have hGt : GoodT l' := hG.suf (List.suffix_cons _ _)
  by_cases hk : t.kind = 2
  · 
    rw [if_pos hk] at h
    cases h
    refine ⟨?_, by simp, List.suffix_cons _ _⟩
    have e : (F.mk 1 (digs t.text) []).d = D.nn (.agg [.int .i64 1, .int .i64 (digs t.text), .lit (.slice none 0 0)]) := by simp [F.d, F.dL, D.nn, D.nnL]
    rw [e]
    refine eff_nn (zDz 1 0 (Nat.le_refl _) (Nat.le_refl _) (fun β τ => by simp [D.rn, D.rnL]) ?_)
    refine k54.oe 1 0 rfl rfl rfl ?_
    rw [ie54]
    unfold c54
    have c1 := atoi_p t.text (hG t (by simp) hk)
    generalize digs t.text = n at *
    have tk : (t.kind == 2) = true := by simp [hk]
    unfold hpP
    rw [hcons]
    repeat' (first | with_reducible (apply swq; constructor) | simp only [go_sem, seval, pe54, q54, hlr, hpos, tk, List.length_cons, List.drop_succ_cons, List.drop_zero] | simp (disch := omega) only [w64, w32, wu8, wu16, wu32, wu64] | ((with_reducible first | refine zAb (c1) ?he ?hc ?_ | refine zAe (c1) ?he ?hc ?_ | refine zAf (c1) ?he ?hc ?_); (case he | hc => first | rfl | (simp [D.erL, D.er, D.cL, D.closed, hlr, hel]; done))) | ((with_reducible apply zA2); (case he => rfl); (case hK | hc | hr | hV => first | rfl | assumption | omega | ((first | refine ⟨?_, ?_⟩ | skip) <;> first | omega | (simp only [lN, hlr, hel] <;> omega)) | (simp [zAa, D.iV, D.cells, D.cL, D.closed, hlr, hel]; first | done | omega))) | ((with_reducible apply zA3); (case he => rfl); (case hV | hK | hr | hl => first | rfl | assumption | omega | ((first | refine ⟨?_, ?_⟩ | skip) <;> first | omega | (simp only [lN, hlr, hel] <;> omega)) | (simp [zAa, D.iV, D.cells, D.cL, D.closed, hlr, hel]; first | done | omega))) | ((with_reducible apply zA5); (case he => rfl); (case hK | hc | hr => first | rfl | assumption | omega | ((first | refine ⟨?_, ?_⟩ | skip) <;> first | omega | (simp only [lN, hlr, hel] <;> omega)) | (simp [zAa, D.iV, D.cells, D.cL, D.closed, hlr, hel]; first | done | omega))) | ((with_reducible apply zA4); (case he => rfl); (case hK | hc | hr | hx | hn => first | rfl | assumption | omega | ((first | refine ⟨?_, ?_⟩ | skip) <;> first | omega | (simp only [lN, hlr, hel] <;> omega)) | (simp [zAa, D.iV, D.cells, D.cL, D.closed, hlr, hel]; first | done | omega))) | ((with_reducible first | apply s_bsl | apply t_bsl); (case he | hl | hc => first | rfl | assumption | omega | ((first | refine ⟨?_, ?_⟩ | skip) <;> first | omega | (simp only [lN, hlr, hel] <;> omega)) | (simp [zAa, D.iV, D.cells, D.cL, D.closed, hlr, hel]; first | done | omega))) | ((with_reducible apply zCo); (case hx => first | rfl | assumption | omega | ((first | refine ⟨?_, ?_⟩ | skip) <;> first | omega | (simp only [lN, hlr, hel] <;> omega)) | (simp [zAa, D.iV, D.cells, D.cL, D.closed, hlr, hel]; first | done | omega))) | ((with_reducible first | apply zCm | apply zCn); (case h0 | h1 | hx => first | rfl | assumption | omega | ((first | refine ⟨?_, ?_⟩ | skip) <;> first | omega | (simp only [lN, hlr, hel] <;> omega)) | (simp [zAa, D.iV, D.cells, D.cL, D.closed, hlr, hel]; first | done | omega))) | ((with_reducible apply zCl); (case h0 | h1 | h2 | hx => first | rfl | assumption | omega | ((first | refine ⟨?_, ?_⟩ | skip) <;> first | omega | (simp only [lN, hlr, hel] <;> omega)) | (simp [zAa, D.iV, D.cells, D.cL, D.closed, hlr, hel]; first | done | omega))) | ((with_reducible first | apply zCj | apply zCk); (case h0 | h1 | hc => first | rfl | assumption | omega | ((first | refine ⟨?_, ?_⟩ | skip) <;> first | omega | (simp only [lN, hlr, hel] <;> omega)) | (simp [zAa, D.iV, D.cells, D.cL, D.closed, hlr, hel]; first | done | omega))) | ((with_reducible apply zCi); (case h0 | h1 | h2 | hc => first | rfl | assumption | omega | ((first | refine ⟨?_, ?_⟩ | skip) <;> first | omega | (simp only [lN, hlr, hel] <;> omega)) | (simp [zAa, D.iV, D.cells, D.cL, D.closed, hlr, hel]; first | done | omega))) | (with_reducible first | (apply cA; constructor) | (apply gA; constructor)) | ((with_reducible refine And.intro ?hw ?_); (case hw => first | omega | rfl | exact ⟨_, _, rfl⟩ | assumption | (simp only [lN, hlr, hel] <;> omega))) | with_reducible intro _)
    all_goals try (exfalso; omega)
    refine ⟨_, zAn, ?_⟩
    simp [D.closed, D.er, D.cL, D.erL, RcS, Hp.cut, Blk.rnL, Blk.rn, Tv.rnL, D.rnL, D.rn, zAc, Own.rn]
  rw [if_neg hk] at h
  have tk : (t.kind == 2) = false := by simp [hk]
  have c1 := got_e 1 [tKm, tCy, tLd] (by simp) (t :: l') (by simp; omega) en
  rw [sn1] at c1
  cases hg1 : gotN 1 [tKm, tCy, tLd] (t :: l') with
  | some i =>
    rw [hg1] at h
    cases h
    obtain ⟨t2, l2, e0, n1, n2, n3, n4, n5⟩ := zD8 hg1
    cases e0
    rw [n1, n2] at c1
    refine ⟨?_, by simp, List.suffix_cons _ _⟩
    have e : (F.mk (2 + i) 0 []).d = D.nn (.agg [.int .i64 (2 + i), .int .i64 0, .lit (.slice none 0 0)]) := by simp [F.d, F.dL, D.nn, D.nnL]
    rw [e]
    refine eff_nn (zDz 1 0 (Nat.le_refl _) (Nat.le_refl _) (fun β τ => by simp [D.rn, D.rnL]) ?_)
    refine k54.oe 1 0 rfl rfl rfl ?_
    rw [ie54]
    unfold c54
    have hd : decide ((i : Int) ≥ 0) = true := by simp
    simp only [List.length_cons, List.length_nil] at n3
    unfold hpP at c1 ⊢
    rw [hcons] at c1 ⊢
    repeat' (first | with_reducible (apply swq; constructor) | simp only [go_sem, seval, pe54, q54, hlr, hpos, tk, hd, List.length_cons] | simp (disch := omega) only [w64, w32, wu8, wu16, wu32, wu64] | ((with_reducible refine c_eff [0] [] (c1) ?hs ?he ?hh ?_); (case hs => exact ⟨by simp, by simp, by simp, by simp⟩); (case he => first | rfl | (simp [go_sem, seval, hlr, hel, zAc]; done)); (case hh => first | rfl | (simp [go_sem, seval, hlr, hel, zAc]; done))) | ((with_reducible refine o_eff [0] [] (c1) ?hs ?he ?hh ?_); (case hs => exact ⟨by simp, by simp, by simp, by simp⟩); (case he => first | rfl | (simp [go_sem, seval, hlr, hel, zAc]; done)); (case hh => first | rfl | (simp [go_sem, seval, hlr, hel, zAc]; done)); rintro _ _ ⟨rfl, rfl⟩) | ((with_reducible apply zA2); (case he => rfl); (case hK | hc | hr | hV => first | rfl | assumption | omega | ((first | refine ⟨?_, ?_⟩ | skip) <;> first | omega | (simp only [lN, hlr, hel, zAc] <;> omega)) | (simp [zAa, D.iV, D.cells, D.cL, D.closed, hlr, hel, zAc]; first | done | omega))) | ((with_reducible apply zA3); (case he => rfl); (case hV | hK | hr | hl => first | rfl | assumption | omega | ((first | refine ⟨?_, ?_⟩ | skip) <;> first | omega | (simp only [lN, hlr, hel, zAc] <;> omega)) | (simp [zAa, D.iV, D.cells, D.cL, D.closed, hlr, hel, zAc]; first | done | omega))) | ((with_reducible apply zA5); (case he => rfl); (case hK | hc | hr => first | rfl | assumption | omega | ((first | refine ⟨?_, ?_⟩ | skip) <;> first | omega | (simp only [lN, hlr, hel, zAc] <;> omega)) | (simp [zAa, D.iV, D.cells, D.cL, D.closed, hlr, hel, zAc]; first | done | omega))) | ((with_reducible apply zA4); (case he => rfl); (case hK | hc | hr | hx | hn => first | rfl | assumption | omega | ((first | refine ⟨?_, ?_⟩ | skip) <;> first | omega | (simp only [lN, hlr, hel, zAc] <;> omega)) | (simp [zAa, D.iV, D.cells, D.cL, D.closed, hlr, hel, zAc]; first | done | omega))) | ((with_reducible first | apply s_bsl | apply t_bsl); (case he | hl | hc => first | rfl | assumption | omega | ((first | refine ⟨?_, ?_⟩ | skip) <;> first | omega | (simp only [lN, hlr, hel, zAc] <;> omega)) | (simp [zAa, D.iV, D.cells, D.cL, D.closed, hlr, hel, zAc]; first | done | omega))) | ((with_reducible apply zCo); (case hx => first | rfl | assumption | omega | ((first | refine ⟨?_, ?_⟩ | skip) <;> first | omega | (simp only [lN, hlr, hel, zAc] <;> omega)) | (simp [zAa, D.iV, D.cells, D.cL, D.closed, hlr, hel, zAc]; first | done | omega))) | ((with_reducible first | apply zCm | apply zCn); (case h0 | h1 | hx => first | rfl | assumption | omega | ((first | refine ⟨?_, ?_⟩ | skip) <;> first | omega | (simp only [lN, hlr, hel, zAc] <;> omega)) | (simp [zAa, D.iV, D.cells, D.cL, D.closed, hlr, hel, zAc]; first | done | omega))) | ((with_reducible apply zCl); (case h0 | h1 | h2 | hx => first | rfl | assumption | omega | ((first | refine ⟨?_, ?_⟩ | skip) <;> first | omega | (simp only [lN, hlr, hel, zAc] <;> omega)) | (simp [zAa, D.iV, D.cells, D.cL, D.closed, hlr, hel, zAc]; first | done | omega))) | ((with_reducible first | apply zCj | apply zCk); (case h0 | h1 | hc => first | rfl | assumption | omega | ((first | refine ⟨?_, ?_⟩ | skip) <;> first | omega | (simp only [lN, hlr, hel, zAc] <;> omega)) | (simp [zAa, D.iV, D.cells, D.cL, D.closed, hlr, hel, zAc]; first | done | omega))) | ((with_reducible apply zCi); (case h0 | h1 | h2 | hc => first | rfl | assumption | omega | ((first | refine ⟨?_, ?_⟩ | skip) <;> first | omega | (simp only [lN, hlr, hel, zAc] <;> omega)) | (simp [zAa, D.iV, D.cells, D.cL, D.closed, hlr, hel, zAc]; first | done | omega))) | (with_reducible first | (apply cA; constructor) | (apply gA; constructor)) | ((with_reducible refine And.intro ?hw ?_); (case hw => first | omega | rfl | exact ⟨_, _, rfl⟩ | assumption | (simp only [lN, hlr, hel, zAc] <;> omega))) | with_reducible intro _)
    all_goals try (exfalso; omega)
    refine ⟨_, zAn, ?_⟩
    simp [D.closed, D.er, D.cL, D.erL, RcS, Hp.cut, Blk.rnL, Blk.rn, Tv.rnL, D.rnL, D.rn, zAc, Own.rn]
  | none =>
  rw [hg1] at h
  obtain ⟨m1, m2⟩ := gotN_none hg1
  rw [m1, m2] at c1
  have c2 := got_e 1 [tMin, tMax, tIf] (by simp) (t :: l') (by simp; omega) en
  rw [sn2] at c2
  cases hg2 : gotN 1 [tMin, tMax, tIf] (t :: l') with
  | some i =>
    rw [hg2] at h
    simp only [callP] at h
    obtain ⟨t2, l2, e0, n1, n2, n3, n4, n5⟩ := zD8 hg2
    cases e0
    rw [n1, n2] at c2
    obtain ⟨t3, l3, rfl, ⟨i3, hg3⟩, h3⟩ := zCu h
    obtain ⟨f4, l4, h4, h5⟩ := zFi h3
    simp only [List.length_cons, List.length_nil] at hl n3
    have hG3 : GoodT l3 := hGt.suf (List.suffix_cons _ _)
    obtain ⟨c4, q4, s4⟩ := hfo l3 f4 l4 (by omega) hG3 h4
    have c3 := need_e [40] (t3 :: l3) (by simp; omega) en hg3
    simp only [List.tail_cons] at c3
    obtain ⟨hs, eg, ehs⟩ := args_inv _ _ _ h5
    have key : ∀ (n : Nat) (fs : List F) (lx : List Tok), argsP fo en (9 + i) n fs lx = .ok g r → lx.length ≤ N → GoodT lx → r.length < lx.length ∧ r <:+ lx := by
      intro n
      induction n with
      | zero =>
        intro fs lx h _ _
        obtain ⟨t, l', rfl, _, h2⟩ := zCu h
        cases h2
        exact ⟨by simp, List.suffix_cons _ _⟩
      | succ n ih =>
        intro fs lx h hN' hG'
        obtain ⟨t, l', rfl, _, h2⟩ := zCu h
        obtain ⟨f, r', h3, h4⟩ := zFi h2
        simp only [List.length_cons] at hN'
        obtain ⟨_, p1, p2⟩ := hfo l' f r' (by omega) (hG'.suf (List.suffix_cons _ _)) h3
        obtain ⟨p3, p4⟩ := ih _ _ h4 (by omega) (hG'.suf (p2.trans (List.suffix_cons _ _)))
        exact ⟨by simp; omega, p4.trans (p2.trans (List.suffix_cons _ _))⟩
    obtain ⟨k1, k2⟩ := key _ _ _ h5 (by omega) (hG3.suf s4)
    refine ⟨?_, by simp; omega, k2.trans (s4.trans ((List.suffix_cons _ _).trans (List.suffix_cons _ _)))⟩
    refine zDz 1 0 (Nat.le_refl _) (Nat.le_refl _) (fun β τ => rn_F β τ g) ?_
    refine k54.oe 1 0 rfl rfl rfl ?_
    rw [ie54]
    unfold c54
    have hd1 : decide ((-1 : Int) ≥ 0) = false := rfl
    have hd : decide ((i : Int) ≥ 0) = true := by simp
    obtain ⟨RA, hRA⟩ : ∃ R, R = (RC.regD r54_12 r54_13) := ⟨_, rfl⟩
    obtain ⟨RB, hRB⟩ : ∃ R, R = (RC.regD r54_17 r54_18) := ⟨_, rfl⟩
    rw [← hRA, ← hRB]
    have hmx : max (1 : Int) i = ((max 1 i : Nat) : Int) := by omega
    have hmb : max 1 i ≤ 3 := by omega
    unfold hpP at c1 c2 c3 ⊢
    rw [hcons] at c1 c2 ⊢
    repeat' (first | with_reducible (apply swq; constructor) | simp only [go_sem, seval, pe54, q54, hlr, hpos, tk, hd, hd1, List.length_cons] | simp (disch := omega) only [w64, w32, wu8, wu16, wu32, wu64] | ((with_reducible refine c_eff [0] [] (c1) ?hs ?he ?hh ?_); (case hs => exact ⟨by simp, by simp, by simp, by simp⟩); (case he => first | rfl | (simp [go_sem, seval, hlr, hel, zAc]; done)); (case hh => first | rfl | (simp [go_sem, seval, hlr, hel, zAc]; done))) | ((with_reducible refine o_eff [0] [] (c1) ?hs ?he ?hh ?_); (case hs => exact ⟨by simp, by simp, by simp, by simp⟩); (case he => first | rfl | (simp [go_sem, seval, hlr, hel, zAc]; done)); (case hh => first | rfl | (simp [go_sem, seval, hlr, hel, zAc]; done)); rintro _ _ ⟨rfl, rfl⟩) | ((with_reducible refine c_eff [0] [] (c2) ?hs ?he ?hh ?_); (case hs => exact ⟨by simp, by simp, by simp, by simp⟩); (case he => first | rfl | (simp [go_sem, seval, hlr, hel, zAc]; done)); (case hh => first | rfl | (simp [go_sem, seval, hlr, hel, zAc]; done))) | ((with_reducible refine o_eff [0] [] (c2) ?hs ?he ?hh ?_); (case hs => exact ⟨by simp, by simp, by simp, by simp⟩); (case he => first | rfl | (simp [go_sem, seval, hlr, hel, zAc]; done)); (case hh => first | rfl | (simp [go_sem, seval, hlr, hel, zAc]; done)); rintro _ _ ⟨rfl, rfl⟩) | ((with_reducible refine c_eff [0] [] (c3) ?hs ?he ?hh ?_); (case hs => exact ⟨by simp, by simp, by simp, by simp⟩); (case he => first | rfl | (simp [go_sem, seval, hlr, hel, zAc]; done)); (case hh => first | rfl | (simp [go_sem, seval, hlr, hel, zAc]; done))) | ((with_reducible refine o_eff [0] [] (c3) ?hs ?he ?hh ?_); (case hs => exact ⟨by simp, by simp, by simp, by simp⟩); (case he => first | rfl | (simp [go_sem, seval, hlr, hel, zAc]; done)); (case hh => first | rfl | (simp [go_sem, seval, hlr, hel, zAc]; done)); rintro _ _ ⟨rfl, rfl⟩) | ((with_reducible apply zA2); (case he => rfl); (case hK | hc | hr | hV => first | rfl | assumption | omega | ((first | refine ⟨?_, ?_⟩ | skip) <;> first | omega | (simp only [lN, hlr, hel, zAc] <;> omega)) | (simp [zAa, D.iV, D.cells, D.cL, D.closed, hlr, hel, zAc]; first | done | omega))) | ((with_reducible apply zA3); (case he => rfl); (case hV | hK | hr | hl => first | rfl | assumption | omega | ((first | refine ⟨?_, ?_⟩ | skip) <;> first | omega | (simp only [lN, hlr, hel, zAc] <;> omega)) | (simp [zAa, D.iV, D.cells, D.cL, D.closed, hlr, hel, zAc]; first | done | omega))) | ((with_reducible apply zA5); (case he => rfl); (case hK | hc | hr => first | rfl | assumption | omega | ((first | refine ⟨?_, ?_⟩ | skip) <;> first | omega | (simp only [lN, hlr, hel, zAc] <;> omega)) | (simp [zAa, D.iV, D.cells, D.cL, D.closed, hlr, hel, zAc]; first | done | omega))) | ((with_reducible apply zA4); (case he => rfl); (case hK | hc | hr | hx | hn => first | rfl | assumption | omega | ((first | refine ⟨?_, ?_⟩ | skip) <;> first | omega | (simp only [lN, hlr, hel, zAc] <;> omega)) | (simp [zAa, D.iV, D.cells, D.cL, D.closed, hlr, hel, zAc]; first | done | omega))) | ((with_reducible first | apply s_bsl | apply t_bsl); (case he | hl | hc => first | rfl | assumption | omega | ((first | refine ⟨?_, ?_⟩ | skip) <;> first | omega | (simp only [lN, hlr, hel, zAc] <;> omega)) | (simp [zAa, D.iV, D.cells, D.cL, D.closed, hlr, hel, zAc]; first | done | omega))) | ((with_reducible apply zCo); (case hx => first | rfl | assumption | omega | ((first | refine ⟨?_, ?_⟩ | skip) <;> first | omega | (simp only [lN, hlr, hel, zAc] <;> omega)) | (simp [zAa, D.iV, D.cells, D.cL, D.closed, hlr, hel, zAc]; first | done | omega))) | ((with_reducible first | apply zCm | apply zCn); (case h0 | h1 | hx => first | rfl | assumption | omega | ((first | refine ⟨?_, ?_⟩ | skip) <;> first | omega | (simp only [lN, hlr, hel, zAc] <;> omega)) | (simp [zAa, D.iV, D.cells, D.cL, D.closed, hlr, hel, zAc]; first | done | omega))) | ((with_reducible apply zCl); (case h0 | h1 | h2 | hx => first | rfl | assumption | omega | ((first | refine ⟨?_, ?_⟩ | skip) <;> first | omega | (simp only [lN, hlr, hel, zAc] <;> omega)) | (simp [zAa, D.iV, D.cells, D.cL, D.closed, hlr, hel, zAc]; first | done | omega))) | ((with_reducible first | apply zCj | apply zCk); (case h0 | h1 | hc => first | rfl | assumption | omega | ((first | refine ⟨?_, ?_⟩ | skip) <;> first | omega | (simp only [lN, hlr, hel, zAc] <;> omega)) | (simp [zAa, D.iV, D.cells, D.cL, D.closed, hlr, hel, zAc]; first | done | omega))) | ((with_reducible apply zCi); (case h0 | h1 | h2 | hc => first | rfl | assumption | omega | ((first | refine ⟨?_, ?_⟩ | skip) <;> first | omega | (simp only [lN, hlr, hel, zAc] <;> omega)) | (simp [zAa, D.iV, D.cells, D.cL, D.closed, hlr, hel, zAc]; first | done | omega))) | (with_reducible first | (apply cA; constructor) | (apply gA; constructor)) | ((with_reducible refine And.intro ?hw ?_); (case hw => first | omega | rfl | exact ⟨_, _, rfl⟩ | assumption | (simp only [lN, hlr, hel, zAc] <;> omega))) | with_reducible intro _)
    all_goals try (exfalso; omega)
    subst hRA
    refine swp_weak (zFd 2 2 3 (by decide) rfl rfl) ?_
    refine reg54_12 (fs := []) (by simp) rfl rfl c4 _ ?_
    repeat' (first | with_reducible (apply swq; constructor) | simp only [go_sem, seval, pe54, q54, maxW, hmx] | simp (disch := omega) only [w64, w32, wu8, wu16, wu32, wu64] | ((with_reducible apply zA2); (case he => rfl); (case hK | hc | hr | hV => first | rfl | assumption | omega | ((first | refine ⟨?_, ?_⟩ | skip) <;> first | omega | (simp only [lN] <;> omega)) | (simp [zAa, D.iV, D.cells, D.cL, D.closed]; first | done | omega))) | ((with_reducible apply zA3); (case he => rfl); (case hV | hK | hr | hl => first | rfl | assumption | omega | ((first | refine ⟨?_, ?_⟩ | skip) <;> first | omega | (simp only [lN] <;> omega)) | (simp [zAa, D.iV, D.cells, D.cL, D.closed]; first | done | omega))) | ((with_reducible apply zA5); (case he => rfl); (case hK | hc | hr => first | rfl | assumption | omega | ((first | refine ⟨?_, ?_⟩ | skip) <;> first | omega | (simp only [lN] <;> omega)) | (simp [zAa, D.iV, D.cells, D.cL, D.closed]; first | done | omega))) | ((with_reducible apply zA4); (case he => rfl); (case hK | hc | hr | hx | hn => first | rfl | assumption | omega | ((first | refine ⟨?_, ?_⟩ | skip) <;> first | omega | (simp only [lN] <;> omega)) | (simp [zAa, D.iV, D.cells, D.cL, D.closed]; first | done | omega))) | ((with_reducible first | apply s_bsl | apply t_bsl); (case he | hl | hc => first | rfl | assumption | omega | ((first | refine ⟨?_, ?_⟩ | skip) <;> first | omega | (simp only [lN] <;> omega)) | (simp [zAa, D.iV, D.cells, D.cL, D.closed]; first | done | omega))) | ((with_reducible apply zCo); (case hx => first | rfl | assumption | omega | ((first | refine ⟨?_, ?_⟩ | skip) <;> first | omega | (simp only [lN] <;> omega)) | (simp [zAa, D.iV, D.cells, D.cL, D.closed]; first | done | omega))) | ((with_reducible first | apply zCm | apply zCn); (case h0 | h1 | hx => first | rfl | assumption | omega | ((first | refine ⟨?_, ?_⟩ | skip) <;> first | omega | (simp only [lN] <;> omega)) | (simp [zAa, D.iV, D.cells, D.cL, D.closed]; first | done | omega))) | ((with_reducible apply zCl); (case h0 | h1 | h2 | hx => first | rfl | assumption | omega | ((first | refine ⟨?_, ?_⟩ | skip) <;> first | omega | (simp only [lN] <;> omega)) | (simp [zAa, D.iV, D.cells, D.cL, D.closed]; first | done | omega))) | ((with_reducible first | apply zCj | apply zCk); (case h0 | h1 | hc => first | rfl | assumption | omega | ((first | refine ⟨?_, ?_⟩ | skip) <;> first | omega | (simp only [lN] <;> omega)) | (simp [zAa, D.iV, D.cells, D.cL, D.closed]; first | done | omega))) | ((with_reducible apply zCi); (case h0 | h1 | h2 | hc => first | rfl | assumption | omega | ((first | refine ⟨?_, ?_⟩ | skip) <;> first | omega | (simp only [lN] <;> omega)) | (simp [zAa, D.iV, D.cells, D.cL, D.closed]; first | done | omega))) | (with_reducible first | (apply cA; constructor) | (apply gA; constructor)) | ((with_reducible refine And.intro ?hw ?_); (case hw => first | omega | rfl | exact ⟨_, _, rfl⟩ | assumption | (simp only [lN] <;> omega))) | with_reducible intro _)
    all_goals try (exfalso; omega)
    generalize hM : max 1 i = mx at *
    refine zCz [0, 1, 4, 5, 10, 11] (fun x : Nat × List F × List Tok => ⟨[.ptr 0 0, .ptr 1 0, .u0, .u0, .int .i64 (i : Nat), .ptr 2 0, .u0, .u0, .u0, .u0, .int .i64 (mx : Nat), .int .i64 (x.1 : Nat), .u0], [],
        ⟨[.cells [.slice (tokL x.2.2) .no, .int .i64 en], .cells [.int .i64 0, .int .i64 0, .lit (.slice none 0 0)], .cells [.int .i64 (9 + i), .int .i64 0, .slice (kidsD x.2.1) (.tok 0)]], [.per 3 x.2.1.length]⟩⟩)
      (fun x => x.1 ≤ mx ∧ x.2.1.length = x.1 + 1 ∧ argsP fo en (9 + i) (mx - x.1) x.2.1 x.2.2 = .ok g r ∧ x.2.2.length ≤ N ∧ GoodT x.2.2) (fun x => mx - x.1) (0, [f4], l4) ⟨by simp, rfl, h5, by simp only; omega, hG3.suf s4⟩ ?_ ?_
    · simp [keepE, St.keep, hM]
    · rintro ⟨j, fs, lx⟩ ⟨v1, v2, v3, v4, v5⟩
      simp only at v1 v2 v3 v4 v5 ⊢
      by_cases hj : j < mx
      · obtain ⟨n, hn⟩ : ∃ n, mx - j = n + 1 := ⟨mx - j - 1, by omega⟩
        rw [hn] at v3
        obtain ⟨t6, l6, rfl, ⟨i6, hg6⟩, h6⟩ := zCu v3
        obtain ⟨f7, l7, h7, h8⟩ := zFi h6
        simp only [List.length_cons] at v4
        have hG6 : GoodT l6 := v5.suf (List.suffix_cons _ _)
        obtain ⟨c7, q7, s7⟩ := hfo l6 f7 l7 (by omega) hG6 h7
        have c6 := need_e [44] (t6 :: l6) (by simp; omega) en hg6
        simp only [List.tail_cons] at c6
        have hdj : decide ((j : Int) < (mx : Nat)) = true := by simp; omega
        unfold hpP at c6
        repeat' (first | with_reducible (apply swq; constructor) | simp only [go_sem, seval, pe54, q54, hdj] | simp (disch := omega) only [w64, w32, wu8, wu16, wu32, wu64] | ((with_reducible refine c_eff [0] [] (c6) ?hs ?he ?hh ?_); (case hs => exact ⟨by simp, by simp, by simp, by simp⟩); (case he => first | rfl | (simp [go_sem, seval, zAc]; done)); (case hh => first | rfl | (simp [go_sem, seval, zAc]; done))) | ((with_reducible refine o_eff [0] [] (c6) ?hs ?he ?hh ?_); (case hs => exact ⟨by simp, by simp, by simp, by simp⟩); (case he => first | rfl | (simp [go_sem, seval, zAc]; done)); (case hh => first | rfl | (simp [go_sem, seval, zAc]; done)); rintro _ _ ⟨rfl, rfl⟩) | ((with_reducible apply zA2); (case he => rfl); (case hK | hc | hr | hV => first | rfl | assumption | omega | ((first | refine ⟨?_, ?_⟩ | skip) <;> first | omega | (simp only [lN, zAc] <;> omega)) | (simp [zAa, D.iV, D.cells, D.cL, D.closed, zAc]; first | done | omega))) | ((with_reducible apply zA3); (case he => rfl); (case hV | hK | hr | hl => first | rfl | assumption | omega | ((first | refine ⟨?_, ?_⟩ | skip) <;> first | omega | (simp only [lN, zAc] <;> omega)) | (simp [zAa, D.iV, D.cells, D.cL, D.closed, zAc]; first | done | omega))) | ((with_reducible apply zA5); (case he => rfl); (case hK | hc | hr => first | rfl | assumption | omega | ((first | refine ⟨?_, ?_⟩ | skip) <;> first | omega | (simp only [lN, zAc] <;> omega)) | (simp [zAa, D.iV, D.cells, D.cL, D.closed, zAc]; first | done | omega))) | ((with_reducible apply zA4); (case he => rfl); (case hK | hc | hr | hx | hn => first | rfl | assumption | omega | ((first | refine ⟨?_, ?_⟩ | skip) <;> first | omega | (simp only [lN, zAc] <;> omega)) | (simp [zAa, D.iV, D.cells, D.cL, D.closed, zAc]; first | done | omega))) | ((with_reducible first | apply s_bsl | apply t_bsl); (case he | hl | hc => first | rfl | assumption | omega | ((first | refine ⟨?_, ?_⟩ | skip) <;> first | omega | (simp only [lN, zAc] <;> omega)) | (simp [zAa, D.iV, D.cells, D.cL, D.closed, zAc]; first | done | omega))) | ((with_reducible apply zCo); (case hx => first | rfl | assumption | omega | ((first | refine ⟨?_, ?_⟩ | skip) <;> first | omega | (simp only [lN, zAc] <;> omega)) | (simp [zAa, D.iV, D.cells, D.cL, D.closed, zAc]; first | done | omega))) | ((with_reducible first | apply zCm | apply zCn); (case h0 | h1 | hx => first | rfl | assumption | omega | ((first | refine ⟨?_, ?_⟩ | skip) <;> first | omega | (simp only [lN, zAc] <;> omega)) | (simp [zAa, D.iV, D.cells, D.cL, D.closed, zAc]; first | done | omega))) | ((with_reducible apply zCl); (case h0 | h1 | h2 | hx => first | rfl | assumption | omega | ((first | refine ⟨?_, ?_⟩ | skip) <;> first | omega | (simp only [lN, zAc] <;> omega)) | (simp [zAa, D.iV, D.cells, D.cL, D.closed, zAc]; first | done | omega))) | ((with_reducible first | apply zCj | apply zCk); (case h0 | h1 | hc => first | rfl | assumption | omega | ((first | refine ⟨?_, ?_⟩ | skip) <;> first | omega | (simp only [lN, zAc] <;> omega)) | (simp [zAa, D.iV, D.cells, D.cL, D.closed, zAc]; first | done | omega))) | ((with_reducible apply zCi); (case h0 | h1 | h2 | hc => first | rfl | assumption | omega | ((first | refine ⟨?_, ?_⟩ | skip) <;> first | omega | (simp only [lN, zAc] <;> omega)) | (simp [zAa, D.iV, D.cells, D.cL, D.closed, zAc]; first | done | omega))) | (with_reducible first | (apply cA; constructor) | (apply gA; constructor)) | ((with_reducible refine And.intro ?hw ?_); (case hw => first | omega | rfl | exact ⟨_, _, rfl⟩ | assumption | (simp only [lN, zAc] <;> omega))) | with_reducible intro _)
        all_goals try (exfalso; omega)
        subst hRB
        refine reg54_17 (fs := fs) (by omega) rfl rfl c7 _ ?_
        repeat' (first | with_reducible (apply swq; constructor) | simp only [go_sem, seval, pe54, q54] | simp (disch := omega) only [w64, w32, wu8, wu16, wu32, wu64] | ((with_reducible apply zA2); (case he => rfl); (case hK | hc | hr | hV => first | rfl | assumption | omega | ((first | refine ⟨?_, ?_⟩ | skip) <;> first | omega | (simp only [lN] <;> omega)) | (simp [zAa, D.iV, D.cells, D.cL, D.closed]; first | done | omega))) | ((with_reducible apply zA3); (case he => rfl); (case hV | hK | hr | hl => first | rfl | assumption | omega | ((first | refine ⟨?_, ?_⟩ | skip) <;> first | omega | (simp only [lN] <;> omega)) | (simp [zAa, D.iV, D.cells, D.cL, D.closed]; first | done | omega))) | ((with_reducible apply zA5); (case he => rfl); (case hK | hc | hr => first | rfl | assumption | omega | ((first | refine ⟨?_, ?_⟩ | skip) <;> first | omega | (simp only [lN] <;> omega)) | (simp [zAa, D.iV, D.cells, D.cL, D.closed]; first | done | omega))) | ((with_reducible apply zA4); (case he => rfl); (case hK | hc | hr | hx | hn => first | rfl | assumption | omega | ((first | refine ⟨?_, ?_⟩ | skip) <;> first | omega | (simp only [lN] <;> omega)) | (simp [zAa, D.iV, D.cells, D.cL, D.closed]; first | done | omega))) | ((with_reducible first | apply s_bsl | apply t_bsl); (case he | hl | hc => first | rfl | assumption | omega | ((first | refine ⟨?_, ?_⟩ | skip) <;> first | omega | (simp only [lN] <;> omega)) | (simp [zAa, D.iV, D.cells, D.cL, D.closed]; first | done | omega))) | ((with_reducible apply zCo); (case hx => first | rfl | assumption | omega | ((first | refine ⟨?_, ?_⟩ | skip) <;> first | omega | (simp only [lN] <;> omega)) | (simp [zAa, D.iV, D.cells, D.cL, D.closed]; first | done | omega))) | ((with_reducible first | apply zCm | apply zCn); (case h0 | h1 | hx => first | rfl | assumption | omega | ((first | refine ⟨?_, ?_⟩ | skip) <;> first | omega | (simp only [lN] <;> omega)) | (simp [zAa, D.iV, D.cells, D.cL, D.closed]; first | done | omega))) | ((with_reducible apply zCl); (case h0 | h1 | h2 | hx => first | rfl | assumption | omega | ((first | refine ⟨?_, ?_⟩ | skip) <;> first | omega | (simp only [lN] <;> omega)) | (simp [zAa, D.iV, D.cells, D.cL, D.closed]; first | done | omega))) | ((with_reducible first | apply zCj | apply zCk); (case h0 | h1 | hc => first | rfl | assumption | omega | ((first | refine ⟨?_, ?_⟩ | skip) <;> first | omega | (simp only [lN] <;> omega)) | (simp [zAa, D.iV, D.cells, D.cL, D.closed]; first | done | omega))) | ((with_reducible apply zCi); (case h0 | h1 | h2 | hc => first | rfl | assumption | omega | ((first | refine ⟨?_, ?_⟩ | skip) <;> first | omega | (simp only [lN] <;> omega)) | (simp [zAa, D.iV, D.cells, D.cL, D.closed]; first | done | omega))) | (with_reducible first | (apply cA; constructor) | (apply gA; constructor)) | ((with_reducible refine And.intro ?hw ?_); (case hw => first | omega | rfl | exact ⟨_, _, rfl⟩ | assumption | (simp only [lN] <;> omega))) | with_reducible intro _)
        all_goals try (exfalso; omega)
        refine ⟨(j + 1, fs ++ [f7], l7), ⟨by simp only; omega, by simp; omega, ?_, by simp only; omega, hG6.suf s7⟩, by simp only; omega, ?_⟩
        · rw [show mx - (j + 1) = n by omega]; exact h8
        · simp [keepE, St.keep]
      · obtain rfl : j = mx := by omega
        rw [Nat.sub_self] at v3
        obtain ⟨t6, l6, rfl, ⟨i6, hg6⟩, h6⟩ := zCu v3
        cases h6
        simp only [List.length_cons] at v4
        have c6 := need_e [41] (t6 :: r) (by simp; omega) en hg6
        simp only [List.tail_cons] at c6
        have hdj : decide ((j : Int) < (j : Nat)) = false := by simp
        have hkl := kidsD_len fs
        unfold hpP at c6
        repeat' (first | with_reducible (apply swq; constructor) | simp only [go_sem, seval, pe54, q54, hdj] | simp (disch := omega) only [w64, w32, wu8, wu16, wu32, wu64] | ((with_reducible refine c_eff [0] [] (c6) ?hs ?he ?hh ?_); (case hs => exact ⟨by simp, by simp, by simp, by simp⟩); (case he => first | rfl | (simp [go_sem, seval, zAc]; done)); (case hh => first | rfl | (simp [go_sem, seval, zAc]; done))) | ((with_reducible refine o_eff [0] [] (c6) ?hs ?he ?hh ?_); (case hs => exact ⟨by simp, by simp, by simp, by simp⟩); (case he => first | rfl | (simp [go_sem, seval, zAc]; done)); (case hh => first | rfl | (simp [go_sem, seval, zAc]; done)); rintro _ _ ⟨rfl, rfl⟩) | ((with_reducible apply zA2); (case he => rfl); (case hK | hc | hr | hV => first | rfl | assumption | omega | ((first | refine ⟨?_, ?_⟩ | skip) <;> first | omega | (simp only [lN, zAc] <;> omega)) | (simp [zAa, D.iV, D.cells, D.cL, D.closed, zAc]; first | done | omega))) | ((with_reducible apply zA3); (case he => rfl); (case hV | hK | hr | hl => first | rfl | assumption | omega | ((first | refine ⟨?_, ?_⟩ | skip) <;> first | omega | (simp only [lN, zAc] <;> omega)) | (simp [zAa, D.iV, D.cells, D.cL, D.closed, zAc]; first | done | omega))) | ((with_reducible apply zA5); (case he => rfl); (case hK | hc | hr => first | rfl | assumption | omega | ((first | refine ⟨?_, ?_⟩ | skip) <;> first | omega | (simp only [lN, zAc] <;> omega)) | (simp [zAa, D.iV, D.cells, D.cL, D.closed, zAc]; first | done | omega))) | ((with_reducible apply zA4); (case he => rfl); (case hK | hc | hr | hx | hn => first | rfl | assumption | omega | ((first | refine ⟨?_, ?_⟩ | skip) <;> first | omega | (simp only [lN, zAc] <;> omega)) | (simp [zAa, D.iV, D.cells, D.cL, D.closed, zAc]; first | done | omega))) | ((with_reducible first | apply s_bsl | apply t_bsl); (case he | hl | hc => first | rfl | assumption | omega | ((first | refine ⟨?_, ?_⟩ | skip) <;> first | omega | (simp only [lN, zAc] <;> omega)) | (simp [zAa, D.iV, D.cells, D.cL, D.closed, zAc]; first | done | omega))) | ((with_reducible apply zCo); (case hx => first | rfl | assumption | omega | ((first | refine ⟨?_, ?_⟩ | skip) <;> first | omega | (simp only [lN, zAc] <;> omega)) | (simp [zAa, D.iV, D.cells, D.cL, D.closed, zAc]; first | done | omega))) | ((with_reducible first | apply zCm | apply zCn); (case h0 | h1 | hx => first | rfl | assumption | omega | ((first | refine ⟨?_, ?_⟩ | skip) <;> first | omega | (simp only [lN, zAc] <;> omega)) | (simp [zAa, D.iV, D.cells, D.cL, D.closed, zAc]; first | done | omega))) | ((with_reducible apply zCl); (case h0 | h1 | h2 | hx => first | rfl | assumption | omega | ((first | refine ⟨?_, ?_⟩ | skip) <;> first | omega | (simp only [lN, zAc] <;> omega)) | (simp [zAa, D.iV, D.cells, D.cL, D.closed, zAc]; first | done | omega))) | ((with_reducible first | apply zCj | apply zCk); (case h0 | h1 | hc => first | rfl | assumption | omega | ((first | refine ⟨?_, ?_⟩ | skip) <;> first | omega | (simp only [lN, zAc] <;> omega)) | (simp [zAa, D.iV, D.cells, D.cL, D.closed, zAc]; first | done | omega))) | ((with_reducible apply zCi); (case h0 | h1 | h2 | hc => first | rfl | assumption | omega | ((first | refine ⟨?_, ?_⟩ | skip) <;> first | omega | (simp only [lN, zAc] <;> omega)) | (simp [zAa, D.iV, D.cells, D.cL, D.closed, zAc]; first | done | omega))) | (with_reducible first | (apply cA; constructor) | (apply gA; constructor)) | ((with_reducible refine And.intro ?hw ?_); (case hw => first | omega | rfl | exact ⟨_, _, rfl⟩ | assumption | (simp only [lN, zAc] <;> omega))) | with_reducible intro _)
        all_goals try (exfalso; omega)
        refine ⟨_, zAn, ?_⟩
        have hck := zAk fs
        simp [D.closed, D.er, D.cL, D.erL, RcS, Hp.cut, Blk.rnL, Blk.rn, Tv.rnL, D.rnL, D.rn, zAc, Own.rn, kidsD, hck, F.d, fdL_map, setL]
  | none =>
    rw [hg2] at h
    simp only [parP] at h
    obtain ⟨m3, m4⟩ := gotN_none hg2
    rw [m3, m4] at c2
    obtain ⟨t3, l3, e0, ⟨i3, hg3⟩, h3⟩ := zCu h
    cases e0
    obtain ⟨f4, l4, h4, h5⟩ := zFi h3
    obtain ⟨t6, l6, rfl, ⟨i6, hg6⟩, h6⟩ := zCu h5
    cases h6
    obtain ⟨c4, q4, s4⟩ := hfo l' g (t6 :: r) (by omega) hGt h4
    simp only [List.length_cons] at q4
    have c3 := need_e [40] (t :: l') (by simp; omega) en hg3
    have c6 := need_e [41] (t6 :: r) (by simp; omega) en hg6
    simp only [List.tail_cons] at c3 c6
    refine ⟨?_, by simp; omega, (List.suffix_cons _ _).trans (s4.trans (List.suffix_cons _ _))⟩
    refine zDz 1 0 (Nat.le_refl _) (Nat.le_refl _) (fun β τ => rn_F β τ g) ?_
    refine k54.oe 1 0 rfl rfl rfl ?_
    rw [ie54]
    unfold c54
    have hd1 : decide ((-1 : Int) ≥ 0) = false := rfl
    have hck := zAk g.kids
    have hek := erL_F g.kids
    have hrn := fun β τ => rnL_F β τ g.kids
    rw [F.d_eq] at c4 ⊢
    unfold hpP at c1 c2 c3 c4 c6 ⊢
    rw [hcons] at c1 c2 c3 ⊢
    repeat' (first | with_reducible (apply swq; constructor) | simp only [go_sem, seval, pe54, q54, hlr, hpos, tk, hd1, List.length_cons] | simp (disch := omega) only [w64, w32, wu8, wu16, wu32, wu64] | ((with_reducible refine c_eff [0] [] (c1) ?hs ?he ?hh ?_); (case hs => exact ⟨by simp, by simp, by simp, by simp⟩); (case he => first | rfl | (simp [go_sem, seval, hlr, hel, zAc, hrn]; done)); (case hh => first | rfl | (simp [go_sem, seval, hlr, hel, zAc, hrn]; done))) | ((with_reducible refine o_eff [0] [] (c1) ?hs ?he ?hh ?_); (case hs => exact ⟨by simp, by simp, by simp, by simp⟩); (case he => first | rfl | (simp [go_sem, seval, hlr, hel, zAc, hrn]; done)); (case hh => first | rfl | (simp [go_sem, seval, hlr, hel, zAc, hrn]; done)); rintro _ _ ⟨rfl, rfl⟩) | ((with_reducible refine c_eff [0] [] (c2) ?hs ?he ?hh ?_); (case hs => exact ⟨by simp, by simp, by simp, by simp⟩); (case he => first | rfl | (simp [go_sem, seval, hlr, hel, zAc, hrn]; done)); (case hh => first | rfl | (simp [go_sem, seval, hlr, hel, zAc, hrn]; done))) | ((with_reducible refine o_eff [0] [] (c2) ?hs ?he ?hh ?_); (case hs => exact ⟨by simp, by simp, by simp, by simp⟩); (case he => first | rfl | (simp [go_sem, seval, hlr, hel, zAc, hrn]; done)); (case hh => first | rfl | (simp [go_sem, seval, hlr, hel, zAc, hrn]; done)); rintro _ _ ⟨rfl, rfl⟩) | ((with_reducible refine c_eff [0] [] (c3) ?hs ?he ?hh ?_); (case hs => exact ⟨by simp, by simp, by simp, by simp⟩); (case he => first | rfl | (simp [go_sem, seval, hlr, hel, zAc, hrn]; done)); (case hh => first | rfl | (simp [go_sem, seval, hlr, hel, zAc, hrn]; done))) | ((with_reducible refine o_eff [0] [] (c3) ?hs ?he ?hh ?_); (case hs => exact ⟨by simp, by simp, by simp, by simp⟩); (case he => first | rfl | (simp [go_sem, seval, hlr, hel, zAc, hrn]; done)); (case hh => first | rfl | (simp [go_sem, seval, hlr, hel, zAc, hrn]; done)); rintro _ _ ⟨rfl, rfl⟩) | ((with_reducible refine c_eff [0] [] (c4) ?hs ?he ?hh ?_); (case hs => exact ⟨by simp, by simp, by simp, by simp⟩); (case he => first | rfl | (simp [go_sem, seval, hlr, hel, zAc, hrn]; done)); (case hh => first | rfl | (simp [go_sem, seval, hlr, hel, zAc, hrn]; done))) | ((with_reducible refine o_eff [0] [] (c4) ?hs ?he ?hh ?_); (case hs => exact ⟨by simp, by simp, by simp, by simp⟩); (case he => first | rfl | (simp [go_sem, seval, hlr, hel, zAc, hrn]; done)); (case hh => first | rfl | (simp [go_sem, seval, hlr, hel, zAc, hrn]; done)); rintro _ _ ⟨rfl, rfl⟩) | ((with_reducible refine c_eff [0] [] (c6) ?hs ?he ?hh ?_); (case hs => exact ⟨by simp, by simp, by simp, by simp⟩); (case he => first | rfl | (simp [go_sem, seval, hlr, hel, zAc, hrn]; done)); (case hh => first | rfl | (simp [go_sem, seval, hlr, hel, zAc, hrn]; done))) | ((with_reducible refine o_eff [0] [] (c6) ?hs ?he ?hh ?_); (case hs => exact ⟨by simp, by simp, by simp, by simp⟩); (case he => first | rfl | (simp [go_sem, seval, hlr, hel, zAc, hrn]; done)); (case hh => first | rfl | (simp [go_sem, seval, hlr, hel, zAc, hrn]; done)); rintro _ _ ⟨rfl, rfl⟩) | ((with_reducible apply zA2); (case he => rfl); (case hK | hc | hr | hV => first | rfl | assumption | omega | ((first | refine ⟨?_, ?_⟩ | skip) <;> first | omega | (simp only [lN, hlr, hel, zAc, hrn] <;> omega)) | (simp [zAa, D.iV, D.cells, D.cL, D.closed, hlr, hel, zAc, hrn]; first | done | omega))) | ((with_reducible apply zA3); (case he => rfl); (case hV | hK | hr | hl => first | rfl | assumption | omega | ((first | refine ⟨?_, ?_⟩ | skip) <;> first | omega | (simp only [lN, hlr, hel, zAc, hrn] <;> omega)) | (simp [zAa, D.iV, D.cells, D.cL, D.closed, hlr, hel, zAc, hrn]; first | done | omega))) | ((with_reducible apply zA5); (case he => rfl); (case hK | hc | hr => first | rfl | assumption | omega | ((first | refine ⟨?_, ?_⟩ | skip) <;> first | omega | (simp only [lN, hlr, hel, zAc, hrn] <;> omega)) | (simp [zAa, D.iV, D.cells, D.cL, D.closed, hlr, hel, zAc, hrn]; first | done | omega))) | ((with_reducible apply zA4); (case he => rfl); (case hK | hc | hr | hx | hn => first | rfl | assumption | omega | ((first | refine ⟨?_, ?_⟩ | skip) <;> first | omega | (simp only [lN, hlr, hel, zAc, hrn] <;> omega)) | (simp [zAa, D.iV, D.cells, D.cL, D.closed, hlr, hel, zAc, hrn]; first | done | omega))) | ((with_reducible first | apply s_bsl | apply t_bsl); (case he | hl | hc => first | rfl | assumption | omega | ((first | refine ⟨?_, ?_⟩ | skip) <;> first | omega | (simp only [lN, hlr, hel, zAc, hrn] <;> omega)) | (simp [zAa, D.iV, D.cells, D.cL, D.closed, hlr, hel, zAc, hrn]; first | done | omega))) | ((with_reducible apply zCo); (case hx => first | rfl | assumption | omega | ((first | refine ⟨?_, ?_⟩ | skip) <;> first | omega | (simp only [lN, hlr, hel, zAc, hrn] <;> omega)) | (simp [zAa, D.iV, D.cells, D.cL, D.closed, hlr, hel, zAc, hrn]; first | done | omega))) | ((with_reducible first | apply zCm | apply zCn); (case h0 | h1 | hx => first | rfl | assumption | omega | ((first | refine ⟨?_, ?_⟩ | skip) <;> first | omega | (simp only [lN, hlr, hel, zAc, hrn] <;> omega)) | (simp [zAa, D.iV, D.cells, D.cL, D.closed, hlr, hel, zAc, hrn]; first | done | omega))) | ((with_reducible apply zCl); (case h0 | h1 | h2 | hx => first | rfl | assumption | omega | ((first | refine ⟨?_, ?_⟩ | skip) <;> first | omega | (simp only [lN, hlr, hel, zAc, hrn] <;> omega)) | (simp [zAa, D.iV, D.cells, D.cL, D.closed, hlr, hel, zAc, hrn]; first | done | omega))) | ((with_reducible first | apply zCj | apply zCk); (case h0 | h1 | hc => first | rfl | assumption | omega | ((first | refine ⟨?_, ?_⟩ | skip) <;> first | omega | (simp only [lN, hlr, hel, zAc, hrn] <;> omega)) | (simp [zAa, D.iV, D.cells, D.cL, D.closed, hlr, hel, zAc, hrn]; first | done | omega))) | ((with_reducible apply zCi); (case h0 | h1 | h2 | hc => first | rfl | assumption | omega | ((first | refine ⟨?_, ?_⟩ | skip) <;> first | omega | (simp only [lN, hlr, hel, zAc, hrn] <;> omega)) | (simp [zAa, D.iV, D.cells, D.cL, D.closed, hlr, hel, zAc, hrn]; first | done | omega))) | (with_reducible first | (apply cA; constructor) | (apply gA; constructor)) | ((with_reducible refine And.intro ?hw ?_); (case hw => first | omega | rfl | exact ⟨_, _, rfl⟩ | assumption | (simp only [lN, hlr, hel, zAc, hrn] <;> omega))) | with_reducible intro _)
    all_goals try (exfalso; omega)
    refine ⟨_, zAn, ?_⟩
    simp [D.closed, D.er, D.cL, D.erL, RcS, Hp.cut, Blk.rnL, Blk.rn, Tv.rnL, D.rnL, D.rn, zAc, Own.rn, hck]
theorem product_e {fo : List Tok → PR} {en : Int} {N : Nat} (hfo : OpOk 33 fo en N) (hN : N ≤ 100000) : OpOk 46 (prodP fo en) en N := by
  intro l g r hl hG h
  obtain ⟨c1, q1, q2⟩ := chain_e (factor_e hfo hN) hN 7 (by omega) (by omega) [42] [47] l g r hl hG h
  refine ⟨?_, q1, q2⟩
  refine zDz 1 0 (Nat.le_refl _) (Nat.le_refl _) (fun β τ => rn_F β τ g) ?_
  refine k46.oe 1 0 rfl rfl rfl ?_
  rw [ie46]
  unfold c46
  have hck := zAk g.kids
  have hek := erL_F g.kids
  have hrn := fun β τ => rnL_F β τ g.kids
  have e3 : strs [[42], [47]] = [.str [42], .str [47]] := rfl
  rw [e3, F.d_eq] at c1
  rw [F.d_eq]
  unfold hpP at c1 ⊢
  repeat' (first | with_reducible (apply swq; constructor) | simp only [go_sem, seval, pe46, q46] | ((with_reducible refine o_eff [0] [] (c1) ?hs ?he ?hh ?_); (case hs => exact ⟨by simp, by simp, by simp, by simp⟩); (case he => first | rfl | (simp [go_sem, seval, zAc, hrn]; done)); (case hh => first | rfl | (simp [go_sem, seval, zAc, hrn]; done)); rintro _ _ ⟨rfl, rfl⟩) | ((with_reducible apply s_bsl); (case he | hl | hc => first | rfl | assumption | omega | ((first | refine ⟨?_, ?_⟩ | skip) <;> first | omega | (simp only [lN, zAc, hrn] <;> omega)) | (simp [zAa, D.iV, D.cells, D.cL, D.closed, zAc, hrn]; first | done | omega))) | with_reducible (apply cA; constructor) | ((with_reducible refine And.intro ?hw ?_); (case hw => first | omega | rfl | exact ⟨_, _, rfl⟩ | assumption | (simp only [lN, zAc, hrn] <;> omega))) | with_reducible intro _)
  refine ⟨_, zAn, ?_⟩
  simp [D.closed, D.er, D.cL, D.erL, RcS, Hp.cut, Blk.rnL, Blk.rn, Tv.rnL, D.rnL, D.rn, zAc, Own.rn, hck]
theorem sum_e {fo : List Tok → PR} {en : Int} {N : Nat} (hfo : OpOk 33 fo en N) (hN : N ≤ 100000) : OpOk 33 (sumP fo en) en N := by
  intro l g r hl hG h
  obtain ⟨c1, q1, q2⟩ := chain_e (product_e hfo hN) hN 5 (by omega) (by omega) [43] [45] l g r hl hG h
  refine ⟨?_, q1, q2⟩
  refine zDz 1 0 (Nat.le_refl _) (Nat.le_refl _) (fun β τ => rn_F β τ g) ?_
  refine k33.oe 1 0 rfl rfl rfl ?_
  rw [ie33]
  unfold c33
  have hck := zAk g.kids
  have hek := erL_F g.kids
  have hrn := fun β τ => rnL_F β τ g.kids
  have e3 : strs [[43], [45]] = [.str [43], .str [45]] := rfl
  rw [e3, F.d_eq] at c1
  rw [F.d_eq]
  unfold hpP at c1 ⊢
  repeat' (first | with_reducible (apply swq; constructor) | simp only [go_sem, seval, pe33, q33] | ((with_reducible refine o_eff [0] [] (c1) ?hs ?he ?hh ?_); (case hs => exact ⟨by simp, by simp, by simp, by simp⟩); (case he => first | rfl | (simp [go_sem, seval, zAc, hrn]; done)); (case hh => first | rfl | (simp [go_sem, seval, zAc, hrn]; done)); rintro _ _ ⟨rfl, rfl⟩) | ((with_reducible apply s_bsl); (case he | hl | hc => first | rfl | assumption | omega | ((first | refine ⟨?_, ?_⟩ | skip) <;> first | omega | (simp only [lN, zAc, hrn] <;> omega)) | (simp [zAa, D.iV, D.cells, D.cL, D.closed, zAc, hrn]; first | done | omega))) | with_reducible (apply cA; constructor) | ((with_reducible refine And.intro ?hw ?_); (case hw => first | omega | rfl | exact ⟨_, _, rfl⟩ | assumption | (simp only [lN, zAc, hrn] <;> omega))) | with_reducible intro _)
  refine ⟨_, zAn, ?_⟩
  simp [D.closed, D.er, D.cL, D.erL, RcS, Hp.cut, Blk.rnL, Blk.rn, Tv.rnL, D.rnL, D.rn, zAc, Own.rn, hck]
theorem form_e {en : Int} {N : Nat} (hN : N ≤ 100000) : ∀ k, OpOk 33 (formP en k) en N
  | 0 => fun l g r _ _ h => by simp [formP] at h
  | k + 1 => sum_e (form_e hN k) hN
end Go.Proofs.YtkjnhkoipgdfeaaDoor
end
section
set_option maxRecDepth 100000
set_option linter.unusedSimpArgs false
set_option linter.unusedVariables false
namespace Go.Proofs.YtkjnhkoipgdfeaaDoor
open Go GoV Go.RowKit
theorem idle32 (x y z : Value) (w : World) : CallsD Tryd.prog 32 #[x, y, z] .returning w fun e u' w' => e = .returned (.tuple #[]) ∧ u' = .returning ∧ w' = w := by
  have hnil : ∀ w : World, (binOp BinOp.neq 20 .nilIface .nilIface).run Tryd.prog w = .ok (.bool false) w := fun _ => by kernel_rfl
  refine callsD_of_wpS Tryd.func32 rfl fun c₀ cs hu => ?_
  apply wpS_seq
  apply wpS_region
  simp [wpOpsS, go_sem, recoverD, hu, Tryd.ntmps32, Exit.thenS]
  apply wpS_seq
  apply wpS_region
  simp [wpOpsS, go_sem, hnil, Exit.thenS]
  refine wpS_cond (t := false) (by simp [Act.eval, Array.replicate]) ?_
  simp only [Bool.false_eq_true, if_false]
  refine wpS_of_wp (wp_skip ?_)
  cases c₀
  simp_all [bodyPostS, results, Tryd.results32, Exit.thenS]
def seqL : Code → Code
  | .seq x _ => x
  | c => c
def seqR : Code → Code
  | .seq _ y => y
  | c => c
noncomputable def K13 : Code := Tryd.f13.body.getD .skip
theorem hK13 : Tryd.f13.body = some (.seq (seqL K13) (.seq (seqL (seqR K13)) (.seq (seqL (seqR (seqR K13))) (.seq (seqL (seqR (seqR (seqR K13)))) (seqR (seqR (seqR (seqR K13)))))))) := by kernel_rfl
theorem ops13 : ∃ ops o0 o1, seqL (seqR (seqR (seqR K13))) = .region 4 ops false ∧ ops[0]? = some o0 ∧ ops[1]? = some o1 ∧ ops.size = 2 ∧ o0.op = .makeFunc (.func 32) #[] #[.tmp 2, .tmp 3, .tmp 4] ∧ o0.dst = some 20 ∧ o0.guard = none ∧
    o1.op = .defer { callee := .value (.tmp 20), args := #[], argTypes := #[] } ∧ o1.dst = none ∧ o1.guard = none := ⟨_, _, _, rfl, rfl, rfl, rfl, rfl, rfl, rfl, rfl, rfl, rfl⟩
theorem za13 : zAg (E13 0 0) (seqL K13) = some (.reg r13_0) := by kernel_rfl
theorem zb13 : zAg (E13 0 0) (seqL (seqR K13)) = some (.reg r13_1) := by kernel_rfl
theorem zc13 : zAg (E13 0 0) (seqL (seqR (seqR K13))) = some (.seq (.reg r13_2) (.cond (.v 8) (.seq (.reg r13_3) .ret) .skip)) := by kernel_rfl
noncomputable def cR13 : RC := .seq (.reg r13_4) (.seq (.reg r13_5) (.seq (.seq (.reg r13_6) (.cond (.v 9) (.reg r13_7) .skip)) (.seq (.seq (.reg r13_8) (.cond (.v 10) (.seq (.reg r13_9) .ret) .skip)) (.seq (.reg r13_10) .ret))))
theorem zd13 : zAg (E13 0 0) (seqR (seqR (seqR (seqR K13)))) = some cR13 := by kernel_rfl
end Go.Proofs.YtkjnhkoipgdfeaaDoor
end
section
set_option maxRecDepth 100000
set_option linter.unusedSimpArgs false
set_option linter.unusedVariables false
namespace Go.Proofs.YtkjnhkoipgdfeaaDoor
open Go GoV Go.RowKit
theorem zE1 {C : Cfg} {c : Code} {rc : RC} {S S1 : St} (h : SWp C rc (fun e s => e = .normal ∧ s = S1) S) (hc : zAg C c = some rc) (hpan : ∀ d hp, ¬ C.M.pan d hp) {w : World} {g : Gh} (hst : C.M.start w g) {a : Act} {w1 : World} (hs : Sim C w g S a w1) :
    c.wpIn Fence.wide 0 C.P (fun e a' w' => e = .normal ∧ Sim C w g S1 a' w') a w1 := by
  refine wpIn_mono (h.run c hc w g hst a w1 hs none) fun e a' w' hl => ?_
  cases e <;> simp only [Lift] at hl ⊢
  case normal => obtain ⟨s, h1, _, rfl⟩ := hl; exact ⟨trivial, h1⟩
  case panic => obtain ⟨_, _, _, _, _, _, k, _⟩ := hl; exact absurd k (hpan _ _)
  case exit => obtain ⟨_, _, q, _⟩ := hl; cases q
  case ret => obtain ⟨_, _, q, _⟩ := hl; cases q
noncomputable abbrev S13 (s : Tx) (l : List Tok) : St := ⟨[.str s, .ptr 0 0, .ptr 1 0, .ptr 2 0, .slice (tokL l) .no, .int .i64 0, .int .i64 0, .u0, .bool false, .u0, .u0], [], ⟨[.cells [.int .i64 0, .int .i64 0, .lit (.slice none 0 0)], .cells [.int .i64 0], .cells [.int .i64 0]], []⟩⟩
def defC (C : Cfg) (dd : Deferred) : Cfg := { C with dfs := [dd] }
set_option maxHeartbeats 1000000 in
theorem parse_run (s : Tx) {l : List Tok} (hlex : Pur M 27 [.str s] (.tup [.slice (tokL l) .no, .int .i64 0, .int .i64 0])) {d : D}
    (hR : ∀ dd : Deferred, SWp (defC (E13 0 0) dd) cR13 (fun e s1 => (match e with | .exit _ => False | _ => True) ∧ rrsWp q13 s1 fun ds => D.closed (zAq ds) = true ∧ (zAq ds).er = d) (S13 s l)) : Pur M 13 [.str s] d := by
  have hcl := tokL_cl l
  have her := tokL_er l
  have s1 : SWp (E13 0 0) (.reg r13_0) (fun e s' => e = .normal ∧ s' = ⟨[.str s, .ptr 0 0, .ptr 1 0, .ptr 2 0, .u0, .u0, .u0, .u0, .u0, .u0, .u0], [], ⟨[.cells [.int .i64 0, .int .i64 0, .lit (.slice none 0 0)], .cells [.int .i64 0], .cells [.int .i64 0]], []⟩⟩) (St.init (E13 0 0) [.str s] ⟨[], []⟩) := by
    rw [ie13]
    repeat' (first | with_reducible (apply swq; constructor) | simp only [go_sem, seval, pe13, q13] | with_reducible (apply cA; constructor) | ((with_reducible refine And.intro ?hw ?_); (case hw => first | omega | rfl | exact ⟨_, _, rfl⟩ | assumption | (simp only [lN] <;> omega))) | with_reducible intro _)
    all_goals first | exact ⟨rfl, rfl⟩ | rfl | trivial
  have s2 : SWp (E13 0 0) (.reg r13_1) (fun e s' => e = .normal ∧ s' = ⟨[.str s, .ptr 0 0, .ptr 1 0, .ptr 2 0, .slice (tokL l) .no, .int .i64 0, .int .i64 0, .u0, .u0, .u0, .u0], [], ⟨[.cells [.int .i64 0, .int .i64 0, .lit (.slice none 0 0)], .cells [.int .i64 0], .cells [.int .i64 0]], []⟩⟩)
      ⟨[.str s, .ptr 0 0, .ptr 1 0, .ptr 2 0, .u0, .u0, .u0, .u0, .u0, .u0, .u0], [], ⟨[.cells [.int .i64 0, .int .i64 0, .lit (.slice none 0 0)], .cells [.int .i64 0], .cells [.int .i64 0]], []⟩⟩ := by
    repeat' (first | with_reducible (apply swq; constructor) | simp only [go_sem, seval, pe13, q13] | ((with_reducible refine zAb (hlex) ?he ?hc ?_); (case he | hc => first | rfl | (simp [D.erL, D.er, D.cL, D.closed, hcl, her]; done))) | with_reducible (apply cA; constructor) | ((with_reducible refine And.intro ?hw ?_); (case hw => first | omega | rfl | exact ⟨_, _, rfl⟩ | assumption | (simp only [lN, hcl, her] <;> omega))) | with_reducible intro _)
    all_goals first | exact ⟨rfl, rfl⟩ | rfl | trivial
  have s3 : SWp (E13 0 0) (.seq (.reg r13_2) (.cond (.v 8) (.seq (.reg r13_3) .ret) .skip)) (fun e s' => e = .normal ∧ s' = S13 s l)
      ⟨[.str s, .ptr 0 0, .ptr 1 0, .ptr 2 0, .slice (tokL l) .no, .int .i64 0, .int .i64 0, .u0, .u0, .u0, .u0], [], ⟨[.cells [.int .i64 0, .int .i64 0, .lit (.slice none 0 0)], .cells [.int .i64 0], .cells [.int .i64 0]], []⟩⟩ := by
    repeat' (first | with_reducible (apply swq; constructor) | simp only [go_sem, seval, pe13, q13] | with_reducible (apply cA; constructor) | ((with_reducible refine And.intro ?hw ?_); (case hw => first | omega | rfl | exact ⟨_, _, rfl⟩ | assumption | (simp only [lN] <;> omega))) | with_reducible intro _)
    all_goals first | exact ⟨rfl, rfl⟩ | rfl | trivial
  have hP : (E13 0 0).P = Tryd.prog := rfl
  refine pur_of_eff ⟨⟨Tryd.f13, Tryd.func13, by kernel_rfl, rfl⟩, fun w g xs hA hH hargs => ?_⟩
  refine calls_of_wp_defers Tryd.func13 hK13 ((wpIn_wide (n := 0)).1 ?_)
  have hsim := init_sim (C := E13 0 0) (fn := Tryd.f13) (by kernel_rfl) (args := [.str s]) (hp := ⟨[], []⟩) (by rfl) (by rw [show ([D.str s] : List D).length = 1 from rfl]; decide) rfl rfl rfl hH hargs
  have hstart : (E13 0 0).M.start w g := ⟨hA, trivial⟩
  have hpan : ∀ d hp, ¬ (E13 0 0).M.pan d hp := fun _ _ h => h
  refine wpIn_seq (wpIn_mono (zE1 s1 za13 hpan hstart hsim) fun e a1 w1 hl => ?_)
  obtain ⟨rfl, hl⟩ := hl
  simp only [Exit.then]
  refine wpIn_seq (wpIn_mono (zE1 s2 zb13 hpan hstart hl) fun e a2 w2 hl => ?_)
  obtain ⟨rfl, hl⟩ := hl
  simp only [Exit.then]
  refine wpIn_seq (wpIn_mono (zE1 s3 zc13 hpan hstart hl) fun e a3 w3 hl => ?_)
  obtain ⟨rfl, hl⟩ := hl
  simp only [Exit.then]
  obtain ⟨ops, o0, o1, hr4, h0, h1, hsz, p0, p1, p2, p3, p4, p5⟩ := ops13
  obtain ⟨G, i0, ib, i1, i2, i3, i4⟩ := hl
  have e1 := i4 2
  have e2 := i4 3
  have e3 := i4 4
  refine wpIn_seq ?_
  rw [hr4]
  have hev : ∀ t, a3.eval (.tmp t) = a3.tmps.getD t Go.undef := fun t => rfl
  obtain ⟨dd, hdd⟩ : ∃ dd : Deferred, dd = { target := .fn (.func 32) #[a3.tmps.getD 2 Go.undef, a3.tmps.getD 3 Go.undef, a3.tmps.getD 4 Go.undef], args := #[] } := ⟨_, rfl⟩
  have hreg : (Code.region 4 ops false).wpIn Fence.wide 0 Tryd.prog (fun e a' w' => e = .normal ∧ w' = w3 ∧ a' = { tmps := a3.tmps.setIfInBounds 20 (.func (.func 32) #[] #[a3.tmps.getD 2 Go.undef, a3.tmps.getD 3 Go.undef, a3.tmps.getD 4 Go.undef]), defers := [dd] }) a3 w3 := by
    refine (wpIn_wide (n := 0)).2 (wp_region ?_)
    rw [hsz]
    show wpOps Tryd.prog ops _ [0, 1] a3 w3
    have r0 : (execOp a3.eval o0).run Tryd.prog w3 = .ok (.value (.func (.func 32) #[] #[a3.tmps.getD 2 Go.undef, a3.tmps.getD 3 Go.undef, a3.tmps.getD 4 Go.undef])) w3 := by
      have hmf : ∀ (fn : Fn) (first cap : Array Value) (w : World), (Instr.makeFunc fn first cap).run Tryd.prog w = .ok (.func fn first cap) w := fun _ _ _ _ => rfl
      simp only [execOp, p0, Sem.run_bind, hmf, Result.andThen_ok, Sem.run_pure]
      simp [Act.eval]
    simp only [wpOps, h0, h1, Region.wanted, p2, p5, if_true]
    refine .inl ?_
    simp only [Oper.wp, r0, Oper.upon_value]
    have hsz20 : 20 < a3.tmps.size := by rw [i1]; decide
    have e20 : (a3.put o0.dst (.func (.func 32) #[] #[a3.tmps.getD 2 Go.undef, a3.tmps.getD 3 Go.undef, a3.tmps.getD 4 Go.undef])).eval (.tmp 20) = .func (.func 32) #[] #[a3.tmps.getD 2 Go.undef, a3.tmps.getD 3 Go.undef, a3.tmps.getD 4 Go.undef] := by
      rw [p1]; simp [Act.eval, Act.put, hsz20]
    have r1 : (execOp (a3.put o0.dst (.func (.func 32) #[] #[a3.tmps.getD 2 Go.undef, a3.tmps.getD 3 Go.undef, a3.tmps.getD 4 Go.undef])).eval o1).run Tryd.prog w3 = .ok (.defer dd) w3 := by
      simp only [execOp, p3, resolve, e20, hdd, Sem.run_bind, Sem.run_pure, Result.andThen_ok]
      simp [Deferred.ofValue, Sem.run_pure]
    refine .inl ?_
    rw [r1, Oper.upon_defer, p4, p1]
    refine ⟨?_, ?_, ?_⟩
    · trivial
    · first | rfl | trivial
    · simp [Act.put, i2, E13]
  refine wpIn_mono hreg fun e a4 w4 hq => ?_
  obtain ⟨rfl, rfl, rfl⟩ := hq
  simp only [Exit.then]
  have hsim4 : Sim (defC (E13 0 0) dd) w g (S13 s l) { tmps := a3.tmps.setIfInBounds 20 (.func (.func 32) #[] #[a3.tmps.getD 2 Go.undef, a3.tmps.getD 3 Go.undef, a3.tmps.getD 4 Go.undef]), defers := [dd] } w4 := by
    refine ⟨G, i0, ib, (by rw [Array.size_setIfInBounds]; exact i1), rfl, i3, fun t => ?_⟩
    by_cases ht : t = 20
    · subst ht
      have : (S13 s l).slot (defC (E13 0 0) dd).pers 20 = .u0 := rfl
      rw [this]; simp [Rel]
    · have := i4 t
      rw [show (a3.tmps.setIfInBounds 20 (.func (.func 32) #[] #[a3.tmps.getD 2 Go.undef, a3.tmps.getD 3 Go.undef, a3.tmps.getD 4 Go.undef])).getD t Go.undef = a3.tmps.getD t Go.undef by
        simp only [Array.getD_eq_getD_getElem?, Array.getElem?_setIfInBounds]
        rw [if_neg (fun e => ht e.symm)]]
      exact this
  refine wpIn_mono ((hR dd).run _ (zDj zd13 rfl rfl rfl) w g hstart _ w4 hsim4 none) fun e a5 w5 hl => ?_
  have fin : ∀ s1, Sim (defC (E13 0 0) dd) w g s1 a5 w5 → (rrsWp q13 s1 fun ds => D.closed (zAq ds) = true ∧ (zAq ds).er = d) → Leaves Tryd.prog Tryd.f13 a5.tmps (Post w g fun d' _ => d'.closed = true ∧ d'.er = d) a5.defers .returning w5 := by
    intro s1 hs hrr
    obtain ⟨G5, j0, jb, j1, j2, j3, j4⟩ := hs
    have j2' : a5.defers = [dd] := j2
    rw [j2', hdd]
    refine leaves_cons (f := 32) (args := #[a3.tmps.getD 2 Go.undef, a3.tmps.getD 3 Go.undef, a3.tmps.getD 4 Go.undef]) (by simp) (by simp [go_sem]) ?_
    refine (idle32 _ _ _ _).mono ?_
    rintro e u' w'' ⟨rfl, rfl, rfl⟩
    simp only [Leaves, settle]
    obtain ⟨ds, v, k1, k4, k5⟩ := zE3 (C := defC (E13 0 0) dd) (a := a5) (fn := Tryd.f13) j0 j4 (rs := q13) (by kernel_rfl) hrr
    exact ⟨v, k5, v, _, _, G5, rfl, k1, j0, k4⟩
  cases e <;> simp only [Lift, bodyPostD] at hl ⊢
  case panic => obtain ⟨_, _, _, _, _, _, k, _⟩ := hl; exact absurd k (hpan _ _)
  case normal => obtain ⟨s1, h1, _, h2⟩ := hl; exact fin s1 h1 h2
  case exit => obtain ⟨s1, h1, h3, h2⟩ := hl; exact h3.elim
  case ret => obtain ⟨s1, h1, _, h2⟩ := hl; exact fin s1 h1 h2
end Go.Proofs.YtkjnhkoipgdfeaaDoor
end
section
set_option maxRecDepth 100000
set_option linter.unusedSimpArgs false
set_option linter.unusedVariables false
namespace Go.Proofs.YtkjnhkoipgdfeaaDoor
open Go GoV Go.RowKit
theorem def_M {C : Cfg} {dd : Deferred} : (defC C dd).M = C.M := rfl
set_option maxHeartbeats 1000000 in
theorem parse_p (s : Tx) (hs : s.length ≤ 4999) (hq : QuoteOk s) {l : List Tok} (hl : lexP s = (l, 0, 0)) (hll : l.length ≤ 5000) (hG : GoodT l) {f : F} (hp : formP s.length (l.length + 1) l = .ok f []) (hn : f.nodes ≤ 60) : Pur M 13 [.str s] (.tup [f.d, .int .i64 0, .int .i64 0]) := by
  have hlex := lex_p s hs hq
  rw [hl] at hlex
  refine parse_run s hlex fun dd => ?_
  unfold cR13
  obtain ⟨c1, _, _⟩ := form_e (en := s.length) (N := 5000) (by omega) (l.length + 1) l f [] hll hG hp
  have c2 := nodes_p f.nodes f (Nat.le_refl _) 60 (by omega)
  rw [show min f.nodes (60 + 1) = f.nodes by omega] at c2
  have hck := zAk f.kids
  have hek := erL_F f.kids
  have hrn := fun β τ => rnL_F β τ f.kids
  have hd : decide ((f.nodes : Int) > 60) = false := by simp; omega
  rw [F.d_eq] at c1 c2 ⊢
  generalize f.nodes = n at *
  unfold hpP at c1
  have e0 : tokL [] = [] := rfl
  rw [e0] at c1
  repeat' (first | with_reducible (apply swq; constructor) | simp only [go_sem, seval, def_M, pe13, q13, hd] | ((with_reducible refine o_eff [3] [] (c1) ?hs ?he ?hh ?_); (case hs => exact ⟨by simp, by simp, by simp, by simp⟩); (case he => first | rfl | (simp [go_sem, seval, zAc, hrn, hck, hek]; done)); (case hh => first | rfl | (simp [go_sem, seval, zAc, hrn, hck, hek]; done)); rintro _ _ ⟨rfl, rfl⟩) | ((with_reducible refine zAb (c2) ?he ?hc ?_); (case he | hc => first | rfl | (simp [D.erL, D.er, D.cL, D.closed, zAc, hrn, hck, hek]; done))) | with_reducible (apply cA; constructor) | ((with_reducible refine And.intro ?hw ?_); (case hw => first | omega | rfl | exact ⟨_, _, rfl⟩ | assumption | (simp only [lN, zAc, hrn, hck, hek] <;> omega))) | with_reducible intro _)
  all_goals try (exfalso; omega)
  all_goals simp [D.closed, D.er, D.cL, D.erL, RcS, hck, setL]
theorem quote_no {t : Tx} (h : (t.all fun c => !(c == 34)) = true) : QuoteOk t := fun i hi hc => by
  have := cls_quote hc
  rw [List.all_eq_true] at h
  have hm : t.getD i 0 ∈ t := by simp [List.getD, hi]
  have := h _ hm
  simp_all
def toks1 : List Tok := (lexP ex1).1
def toks2 : List Tok := (lexP ex2).1
instance (s : Tx) : Decidable (numOk s) := inferInstanceAs (Decidable (_ ∧ _ ∧ _))
theorem good1 : GoodT toks1 := by
  have : (toks1.all fun t => decide (t.kind = 2 → numOk t.text)) = true := by decide +kernel
  intro t ht hk
  rw [List.all_eq_true] at this
  exact of_decide_eq_true (this t ht) hk
theorem good2 : GoodT toks2 := by
  have : (toks2.all fun t => decide (t.kind = 2 → numOk t.text)) = true := by decide +kernel
  intro t ht hk
  rw [List.all_eq_true] at this
  exact of_decide_eq_true (this t ht) hk
theorem parse1_p : Pur M 13 [.str ex1] (.tup [F1.d, .int .i64 0, .int .i64 0]) :=
  parse_p ex1 (by decide) (quote_no (by decide +kernel)) (l := toks1) (by kernel_rfl) (by decide +kernel) good1 (by kernel_rfl) (by decide +kernel)
theorem parse2_p : Pur M 13 [.str ex2] (.tup [F2.d, .int .i64 0, .int .i64 0]) :=
  parse_p ex2 (by decide) (quote_no (by decide +kernel)) (l := toks2) (by kernel_rfl) (by decide +kernel) good2 (by kernel_rfl) (by decide +kernel)
end Go.Proofs.YtkjnhkoipgdfeaaDoor
end
section
set_option maxRecDepth 100000
set_option linter.unusedSimpArgs false
set_option linter.unusedVariables false
namespace Go.Proofs.YtkjnhkoipgdfeaaDoor
open Go GoV Go.RowKit
theorem tab_ok (w : World) (h : M.amb w []) : Lib.TabIs Tryd.prog w "internal/strconv.uint64pow10" .u64 Lib.pow10Tab :=
  tabIs_var (P := Tryd.prog) (r := []) h (by kernel_rfl) (List.mem_cons.2 (.inl rfl))
theorem itoa_p (n : Int) (h0 : -9223372036854775808 ≤ n) (h1 : n ≤ 9223372036854775807) : Pur M 43 [.int .i64 n] (.str (Lib.itoa n)) := by
  refine pur_ext (vs := [.int .i64 n]) (v := .string ⟨(Lib.itoa n).toArray⟩) ⟨Tryd.f43, Tryd.func43, rfl, rfl⟩ (fun w I xs h => ?_) (fun w I => ?_) (fun w hA => ?_)
  · obtain ⟨x, xs', rfl, g1, g2⟩ := h.inv
    simp only [Rel] at g1
    rw [g2.inv_nil, g1]
  · simp [Rel]
  · refine (Tryd.strconv_Itoa n h0 h1 w (tab_ok w hA)).mono fun e w' h => ?_
    obtain ⟨rfl, k, os, rfl⟩ := h
    exact ⟨rfl, below_grow k os⟩
def rankF (op : Int) : Int := if op = 5 ∨ op = 6 then 0 else if op = 7 ∨ op = 8 then 1 else 2
def symF (op : Int) : Tx := if op = 5 then [43] else if op = 6 then [45] else if op = 7 then [42] else [47]
def bodyW (op n : Int) (ts : List Tx) : Tx :=
  if op = 1 then Lib.itoa n else if op = 2 then tKm else if op = 3 then tCy else if op = 4 then tLd
  else if op = 9 then (((tMin ++ [40]) ++ ts.getD 0 []) ++ [44, 32]) ++ ts.getD 1 [] ++ [41]
  else if op = 10 then (((tMax ++ [40]) ++ ts.getD 0 []) ++ [44, 32]) ++ ts.getD 1 [] ++ [41]
  else if op = 11 then (((((tIf ++ [40]) ++ ts.getD 0 []) ++ [44, 32]) ++ ts.getD 1 []) ++ [44, 32]) ++ ts.getD 2 [] ++ [41]
  else (((ts.getD 0 [] ++ [32]) ++ symF op) ++ [32]) ++ ts.getD 1 []
def parW (r least : Int) (t : Tx) : Tx := if r < least then ([40] ++ t) ++ [41] else t
mutual
def wr : F → Int → Tx
  | .mk op n ks, least => parW (rankF op) least (bodyW op n (if rankF op = 2 then wrL 0 0 ks else wrL (rankF op) (rankF op + 1) ks))
def wrL : Int → Int → List F → List Tx
  | _, _, [] => []
  | a, b, k :: ks => wr k a :: wrL b b ks
end
theorem rank_cases (op : Int) : (op = 5 ∨ op = 6 → rankF op = 0) ∧ (op = 7 ∨ op = 8 → rankF op = 1) ∧ (¬ (op = 5 ∨ op = 6 ∨ op = 7 ∨ op = 8) → rankF op = 2) := by
  unfold rankF
  refine ⟨fun h => by rw [if_pos h], fun h => by rw [if_neg (by omega), if_pos h], fun h => by rw [if_neg (by omega), if_neg (by omega)]⟩
theorem rank_p (op : Int) : Pur M 44 [.int .i64 op] (.int .i64 (rankF op)) := by
  refine k44.ok (C := C44) rfl rfl ?_
  rw [i44]
  unfold c44
  obtain ⟨r1, r2, r3⟩ := rank_cases op
  have : op = 5 ∨ op = 6 ∨ op = 7 ∨ op = 8 ∨ ¬ (op = 5 ∨ op = 6 ∨ op = 7 ∨ op = 8) := by omega
  rcases this with rfl | rfl | rfl | rfl | h
  · rw [r1 (by omega)]; repeat' (first | with_reducible (apply swq; constructor) | simp only [go_sem, seval, P44, q44] | with_reducible (apply cA; constructor) | ((with_reducible refine And.intro ?hw ?_); (case hw => first | omega | rfl | exact ⟨_, _, rfl⟩ | assumption | (simp only [lN] <;> omega))) | with_reducible intro _)
    all_goals first | omega | (simp_all [D.closed, D.er, D.cL, D.erL]; done) | (simp_all [D.closed, D.er, D.cL, D.erL] <;> omega)
  · rw [r1 (by omega)]; repeat' (first | with_reducible (apply swq; constructor) | simp only [go_sem, seval, P44, q44] | with_reducible (apply cA; constructor) | ((with_reducible refine And.intro ?hw ?_); (case hw => first | omega | rfl | exact ⟨_, _, rfl⟩ | assumption | (simp only [lN] <;> omega))) | with_reducible intro _)
    all_goals first | omega | (simp_all [D.closed, D.er, D.cL, D.erL]; done) | (simp_all [D.closed, D.er, D.cL, D.erL] <;> omega)
  · rw [r2 (by omega)]; repeat' (first | with_reducible (apply swq; constructor) | simp only [go_sem, seval, P44, q44] | with_reducible (apply cA; constructor) | ((with_reducible refine And.intro ?hw ?_); (case hw => first | omega | rfl | exact ⟨_, _, rfl⟩ | assumption | (simp only [lN] <;> omega))) | with_reducible intro _)
    all_goals first | omega | (simp_all [D.closed, D.er, D.cL, D.erL]; done) | (simp_all [D.closed, D.er, D.cL, D.erL] <;> omega)
  · rw [r2 (by omega)]; repeat' (first | with_reducible (apply swq; constructor) | simp only [go_sem, seval, P44, q44] | with_reducible (apply cA; constructor) | ((with_reducible refine And.intro ?hw ?_); (case hw => first | omega | rfl | exact ⟨_, _, rfl⟩ | assumption | (simp only [lN] <;> omega))) | with_reducible intro _)
    all_goals first | omega | (simp_all [D.closed, D.er, D.cL, D.erL]; done) | (simp_all [D.closed, D.er, D.cL, D.erL] <;> omega)
  · rw [r3 h]
    have t1 : (op == 5) = false := by simp; omega
    have t2 : (op == 6) = false := by simp; omega
    have t3 : (op == 7) = false := by simp; omega
    have t4 : (op == 8) = false := by simp; omega
    repeat' (first | with_reducible (apply swq; constructor) | simp only [go_sem, seval, P44, q44, t1, t2, t3, t4] | with_reducible (apply cA; constructor) | ((with_reducible refine And.intro ?hw ?_); (case hw => first | omega | rfl | exact ⟨_, _, rfl⟩ | assumption | (simp only [lN] <;> omega))) | with_reducible intro _)
    all_goals first | omega | (simp_all [D.closed, D.er, D.cL, D.erL]; done) | (simp_all [D.closed, D.er, D.cL, D.erL] <;> omega)
theorem nd_le : ∀ (k u : Nat), u < 10 ^ (k + 1) → Lib.nDigits u ≤ k + 1
  | 0, u, h => by rw [Lib.nDigits_small (by simpa using h)]; omega
  | k + 1, u, h => by
    by_cases hu : u < 10
    · rw [Lib.nDigits_small hu]; omega
    · rw [Lib.nDigits_big hu]
      have := nd_le k (u / 10) (by rw [Nat.pow_succ] at h; omega)
      omega
theorem itoa_len {n : Int} (h0 : 0 ≤ n) (h1 : n ≤ 9999999) : (Lib.itoa n).length ≤ 20 := by
  unfold Lib.itoa
  rw [if_neg (by omega), Lib.decDigits_length]
  have := nd_le 7 n.toNat (by omega)
  omega
theorem wr_mk_len (op n least : Int) (ts : List Tx) (h0 : 0 ≤ n) (h1 : n ≤ 9999999) : (parW (rankF op) least (bodyW op n ts)).length ≤ 24 + (ts.getD 0 []).length + (ts.getD 1 []).length + (ts.getD 2 []).length := by
  have hi := itoa_len h0 h1
  have hb : (bodyW op n ts).length ≤ 22 + (ts.getD 0 []).length + (ts.getD 1 []).length + (ts.getD 2 []).length := by
    unfold bodyW symF
    repeat' split
    all_goals first | omega | (simp only [List.length_append, tKm, tCy, tLd, tMin, tMax, tIf, List.length_cons, List.length_nil]; omega)
  unfold parW
  split
  · simp only [List.length_append, List.length_cons, List.length_nil]; omega
  · omega
theorem wr_len : ∀ (k : Nat) (f : F), f.nodes ≤ k → f.well = true → ∀ least, (wr f least).length ≤ 24 * f.nodes
  | 0, f, hk, _, _ => by have := zCe f; omega
  | k + 1, .mk op n ks, hk, hw, least => by
    obtain ⟨hkw, o1, o2, n1, n2, hc⟩ := zEf hw
    have ih : ∀ y ∈ ks, ∀ least, (wr y least).length ≤ 24 * y.nodes := fun y hy => wr_len k y (by have := zBt (f := .mk op n ks) hy; omega) (hkw y hy)
    simp only [wr]
    refine Nat.le_trans (wr_mk_len op n least _ n1 n2) ?_
    rcases hc with ⟨g1, rfl⟩ | ⟨g1, g2, a, b, rfl⟩ | ⟨rfl, a, b, c, rfl⟩
    · simp [F.nodes, F.nodesL, wrL]
    · have h1 := ih a (by simp)
      have h2 := ih b (by simp)
      simp only [F.nodes, F.nodesL]
      split
      · have := h1 0; have := h2 0; simp [wrL]; omega
      · have := h1 (rankF op); have := h2 (rankF op + 1); simp [wrL]; omega
    · have h1 := ih a (by simp) 0
      have h2 := ih b (by simp) 0
      have h3 := ih c (by simp) 0
      simp only [F.nodes, F.nodesL]
      rw [if_pos (by rfl)]
      simp [wrL]; omega
theorem sym_len (op : Int) : (symF op).length = 1 := by
  unfold symF
  split
  · rfl
  split
  · rfl
  split <;> rfl
theorem wrL2 (r0 r1 : Int) (a b : F) : wrL r0 r1 [a, b] = [wr a r0, wr b r1] := by simp [wrL]
theorem wrL3 (a b c : F) : wrL 0 0 [a, b, c] = [wr a 0, wr b 0, wr c 0] := by simp [wrL]
theorem sym_cut {op : Int} (h1 : 5 ≤ op) (h2 : op ≤ 8) : ((([43, 45, 42, 47] : Tx).take (op - 5 + 1).toNat).drop (op - 5).toNat) = symF op := by
  have : op = 5 ∨ op = 6 ∨ op = 7 ∨ op = 8 := by omega
  rcases this with rfl | rfl | rfl | rfl <;> rfl
set_option maxHeartbeats 4000000 in
theorem write_p : ∀ (k : Nat) (f : F), f.nodes ≤ k → f.nodes ≤ 60 → f.well = true → ∀ least : Int, -100 ≤ least → least ≤ 100 → Pur M 29 [f.d, .int .i64 least] (.str (wr f least))
  | 0, f, hk, _, _, _, _, _ => by have := zCe f; omega
  | k + 1, .mk op n ks, hk, h60, hw, least, hl1, hl2 => by
    obtain ⟨hkw, o1, o2, n1, n2, hc⟩ := zEf hw
    have ih : ∀ y ∈ ks, ∀ least : Int, -100 ≤ least → least ≤ 100 → Pur M 29 [y.d, .int .i64 least] (.str (wr y least)) := fun y hy => write_p k y (by have := zBt (f := .mk op n ks) hy; omega) (by have := zBt (f := .mk op n ks) hy; omega) (hkw y hy)
    have hle : ∀ y ∈ ks, ∀ least, (wr y least).length ≤ 1440 := fun y hy least => by
      have := wr_len y.nodes y (Nat.le_refl _) (hkw y hy) least
      have := zBt (f := .mk op n ks) hy
      omega
    have cr := rank_p op
    obtain ⟨r1, r2, r3⟩ := rank_cases op
    refine k29.ok (C := C29) rfl rfl ?_
    rw [i29]
    unfold c29
    rw [F.d_mk]
    simp only [wr]
    unfold parW
    rcases hc with ⟨g1, rfl⟩ | ⟨g1, g2, a, b, rfl⟩ | ⟨rfl, a, b, c, rfl⟩
    · have hr := r3 (by omega)
      rw [hr] at cr ⊢
      by_cases hlt : 2 < least
      · have hd : decide (2 < least) = true := by simp [hlt]
        rw [if_pos hlt]
        have : op = 1 ∨ op = 2 ∨ op = 3 ∨ op = 4 := by omega
        rcases this with rfl | rfl | rfl | rfl
        · have c1 := itoa_p n (by omega) (by omega)
          have hi := itoa_len n1 n2
          have e : bodyW 1 n (if (2 : Int) = 2 then wrL 0 0 [] else wrL 2 (2 + 1) []) = Lib.itoa n := rfl
          rw [e]
          generalize Lib.itoa n = t at *
          repeat' (first | with_reducible (apply swq; constructor) | simp only [go_sem, seval, P29, q29, hd] | ((with_reducible first | refine zAb (c1) ?he ?hc ?_ | refine zAe (c1) ?he ?hc ?_ | refine zAf (c1) ?he ?hc ?_); (case he | hc => first | rfl | (simp [D.erL, D.er, D.cL, D.closed, hi]; done))) | ((with_reducible first | refine zAb (cr) ?he ?hc ?_ | refine zAe (cr) ?he ?hc ?_ | refine zAf (cr) ?he ?hc ?_); (case he | hc => first | rfl | (simp [D.erL, D.er, D.cL, D.closed, hi]; done))) | with_reducible (apply cA; constructor) | ((with_reducible refine And.intro ?hw ?_); (case hw => first | omega | rfl | exact ⟨_, _, rfl⟩ | assumption | (simp only [lN, hi] <;> omega))) | with_reducible intro _)
          all_goals first | omega | (simp_all [D.closed, D.er, D.cL, D.erL]; done) | (simp_all [D.closed, D.er, D.cL, D.erL] <;> omega)
        all_goals
          repeat' (first | with_reducible (apply swq; constructor) | simp only [go_sem, seval, P29, q29, hd] | ((with_reducible first | refine zAb (cr) ?he ?hc ?_ | refine zAe (cr) ?he ?hc ?_ | refine zAf (cr) ?he ?hc ?_); (case he | hc => first | rfl | (simp [D.erL, D.er, D.cL, D.closed]; done))) | with_reducible (apply cA; constructor) | ((with_reducible refine And.intro ?hw ?_); (case hw => first | omega | rfl | exact ⟨_, _, rfl⟩ | assumption | (simp only [lN] <;> omega))) | with_reducible intro _)
          all_goals simp [D.closed, D.er, bodyW, tKm, tCy, tLd]
      · have hd : decide (2 < least) = false := by simp; omega
        rw [if_neg hlt]
        have : op = 1 ∨ op = 2 ∨ op = 3 ∨ op = 4 := by omega
        rcases this with rfl | rfl | rfl | rfl
        · have c1 := itoa_p n (by omega) (by omega)
          have hi := itoa_len n1 n2
          have e : bodyW 1 n (if (2 : Int) = 2 then wrL 0 0 [] else wrL 2 (2 + 1) []) = Lib.itoa n := rfl
          rw [e]
          generalize Lib.itoa n = t at *
          repeat' (first | with_reducible (apply swq; constructor) | simp only [go_sem, seval, P29, q29, hd] | ((with_reducible first | refine zAb (c1) ?he ?hc ?_ | refine zAe (c1) ?he ?hc ?_ | refine zAf (c1) ?he ?hc ?_); (case he | hc => first | rfl | (simp [D.erL, D.er, D.cL, D.closed, hi]; done))) | ((with_reducible first | refine zAb (cr) ?he ?hc ?_ | refine zAe (cr) ?he ?hc ?_ | refine zAf (cr) ?he ?hc ?_); (case he | hc => first | rfl | (simp [D.erL, D.er, D.cL, D.closed, hi]; done))) | with_reducible (apply cA; constructor) | ((with_reducible refine And.intro ?hw ?_); (case hw => first | omega | rfl | exact ⟨_, _, rfl⟩ | assumption | (simp only [lN, hi] <;> omega))) | with_reducible intro _)
          all_goals first | omega | (simp_all [D.closed, D.er, D.cL, D.erL]; done) | (simp_all [D.closed, D.er, D.cL, D.erL] <;> omega)
        all_goals
          repeat' (first | with_reducible (apply swq; constructor) | simp only [go_sem, seval, P29, q29, hd] | ((with_reducible first | refine zAb (cr) ?he ?hc ?_ | refine zAe (cr) ?he ?hc ?_ | refine zAf (cr) ?he ?hc ?_); (case he | hc => first | rfl | (simp [D.erL, D.er, D.cL, D.closed]; done))) | with_reducible (apply cA; constructor) | ((with_reducible refine And.intro ?hw ?_); (case hw => first | omega | rfl | exact ⟨_, _, rfl⟩ | assumption | (simp only [lN] <;> omega))) | with_reducible intro _)
          all_goals simp [D.closed, D.er, bodyW, tKm, tCy, tLd]
    · have hka := zAk a.kids
      have hkb := zAk b.kids
      have hea := erL_F a.kids
      have heb := erL_F b.kids
      have i1 := ih a (by simp)
      have i2 := ih b (by simp)
      have l1 := hle a (by simp)
      have l2 := hle b (by simp)
      rw [F.d_eq] at i1 i2
      simp only [List.map_cons, List.map_nil, F.d_eq]
      by_cases h8 : op ≤ 8
      · have hsy := sym_cut g1 h8
        have hsl := sym_len op
        have hrr : rankF op = 0 ∨ rankF op = 1 := by
          by_cases q : op = 5 ∨ op = 6
          · exact .inl (r1 q)
          · exact .inr (r2 (by omega))
        have hne : ¬ rankF op = 2 := by omega
        have t1 : (op == 1) = false := by simp; omega
        have t2 : (op == 2) = false := by simp; omega
        have t3 : (op == 3) = false := by simp; omega
        have t4 : (op == 4) = false := by simp; omega
        have t5 : (op == 9) = false := by simp; omega
        have t6 : (op == 10) = false := by simp; omega
        have t7 : (op == 11) = false := by simp; omega
        have e : bodyW op n (if rankF op = 2 then wrL 0 0 [a, b] else wrL (rankF op) (rankF op + 1) [a, b]) = (((wr a (rankF op) ++ [32]) ++ symF op) ++ [32]) ++ wr b (rankF op + 1) := by
          rw [if_neg hne, wrL2]
          unfold bodyW
          rw [if_neg (by omega), if_neg (by omega), if_neg (by omega), if_neg (by omega), if_neg (by omega), if_neg (by omega), if_neg (by omega)]
          rfl
        rw [e]
        have i1 := i1 (rankF op) (by omega) (by omega)
        have i2 := i2 (rankF op + 1) (by omega) (by omega)
        have l1 := l1 (rankF op)
        have l2 := l2 (rankF op + 1)
        generalize rankF op = rk at *
        generalize wr a rk = ta at *
        generalize wr b (rk + 1) = tb at *
        generalize symF op = sy at *
        by_cases hlt : rk < least
        · have hd : decide (rk < least) = true := by simp [hlt]
          rw [if_pos hlt]
          repeat' (first | with_reducible (apply swq; constructor) | simp only [go_sem, seval, P29, q29, hd, t1, t2, t3, t4, t5, t6, t7, hsy] | simp (disch := omega) only [w64, w32, wu8, wu16, wu32, wu64] | ((with_reducible first | refine zAb (i1) ?he ?hc ?_ | refine zAe (i1) ?he ?hc ?_ | refine zAf (i1) ?he ?hc ?_); (case he | hc => first | rfl | (simp [D.erL, D.er, D.cL, D.closed, hka, hkb, hea, heb, hsl, l1, l2]; done))) | ((with_reducible first | refine zAb (i2) ?he ?hc ?_ | refine zAe (i2) ?he ?hc ?_ | refine zAf (i2) ?he ?hc ?_); (case he | hc => first | rfl | (simp [D.erL, D.er, D.cL, D.closed, hka, hkb, hea, heb, hsl, l1, l2]; done))) | ((with_reducible first | refine zAb (cr) ?he ?hc ?_ | refine zAe (cr) ?he ?hc ?_ | refine zAf (cr) ?he ?hc ?_); (case he | hc => first | rfl | (simp [D.erL, D.er, D.cL, D.closed, hka, hkb, hea, heb, hsl, l1, l2]; done))) | with_reducible (apply cA; constructor) | ((with_reducible refine And.intro ?hw ?_); (case hw => first | omega | rfl | exact ⟨_, _, rfl⟩ | assumption | (simp only [lN, hka, hkb, hea, heb, hsl, l1, l2] <;> omega))) | with_reducible intro _)
          all_goals try (exfalso; omega)
          all_goals simp [D.closed, D.er]
        · have hd : decide (rk < least) = false := by simp; omega
          rw [if_neg hlt]
          repeat' (first | with_reducible (apply swq; constructor) | simp only [go_sem, seval, P29, q29, hd, t1, t2, t3, t4, t5, t6, t7, hsy] | simp (disch := omega) only [w64, w32, wu8, wu16, wu32, wu64] | ((with_reducible first | refine zAb (i1) ?he ?hc ?_ | refine zAe (i1) ?he ?hc ?_ | refine zAf (i1) ?he ?hc ?_); (case he | hc => first | rfl | (simp [D.erL, D.er, D.cL, D.closed, hka, hkb, hea, heb, hsl, l1, l2]; done))) | ((with_reducible first | refine zAb (i2) ?he ?hc ?_ | refine zAe (i2) ?he ?hc ?_ | refine zAf (i2) ?he ?hc ?_); (case he | hc => first | rfl | (simp [D.erL, D.er, D.cL, D.closed, hka, hkb, hea, heb, hsl, l1, l2]; done))) | ((with_reducible first | refine zAb (cr) ?he ?hc ?_ | refine zAe (cr) ?he ?hc ?_ | refine zAf (cr) ?he ?hc ?_); (case he | hc => first | rfl | (simp [D.erL, D.er, D.cL, D.closed, hka, hkb, hea, heb, hsl, l1, l2]; done))) | with_reducible (apply cA; constructor) | ((with_reducible refine And.intro ?hw ?_); (case hw => first | omega | rfl | exact ⟨_, _, rfl⟩ | assumption | (simp only [lN, hka, hkb, hea, heb, hsl, l1, l2] <;> omega))) | with_reducible intro _)
          all_goals try (exfalso; omega)
          all_goals simp [D.closed, D.er]
      · have hr := r3 (by omega)
        rw [hr] at cr ⊢
        have i1 := i1 0 (by omega) (by omega)
        have i2 := i2 0 (by omega) (by omega)
        have l1 := l1 0
        have l2 := l2 0
        have : op = 9 ∨ op = 10 := by omega
        rw [if_pos rfl, wrL2]
        generalize wr a 0 = ta at *
        generalize wr b 0 = tb at *
        by_cases hlt : 2 < least
        · have hd : decide (2 < least) = true := by simp [hlt]
          rw [if_pos hlt]
          rcases this with rfl | rfl
          all_goals
            repeat' (first | with_reducible (apply swq; constructor) | simp only [go_sem, seval, P29, q29, hd] | simp (disch := omega) only [w64, w32, wu8, wu16, wu32, wu64] | ((with_reducible first | refine zAb (i1) ?he ?hc ?_ | refine zAe (i1) ?he ?hc ?_ | refine zAf (i1) ?he ?hc ?_); (case he | hc => first | rfl | (simp [D.erL, D.er, D.cL, D.closed, hka, hkb, hea, heb, l1, l2]; done))) | ((with_reducible first | refine zAb (i2) ?he ?hc ?_ | refine zAe (i2) ?he ?hc ?_ | refine zAf (i2) ?he ?hc ?_); (case he | hc => first | rfl | (simp [D.erL, D.er, D.cL, D.closed, hka, hkb, hea, heb, l1, l2]; done))) | ((with_reducible first | refine zAb (cr) ?he ?hc ?_ | refine zAe (cr) ?he ?hc ?_ | refine zAf (cr) ?he ?hc ?_); (case he | hc => first | rfl | (simp [D.erL, D.er, D.cL, D.closed, hka, hkb, hea, heb, l1, l2]; done))) | with_reducible (apply cA; constructor) | ((with_reducible refine And.intro ?hw ?_); (case hw => first | omega | rfl | exact ⟨_, _, rfl⟩ | assumption | (simp only [lN, hka, hkb, hea, heb, l1, l2] <;> omega))) | with_reducible intro _)
            all_goals try (exfalso; omega)
            all_goals simp [D.closed, D.er, bodyW, tMin, tMax]
        · have hd : decide (2 < least) = false := by simp; omega
          rw [if_neg hlt]
          rcases this with rfl | rfl
          all_goals
            repeat' (first | with_reducible (apply swq; constructor) | simp only [go_sem, seval, P29, q29, hd] | simp (disch := omega) only [w64, w32, wu8, wu16, wu32, wu64] | ((with_reducible first | refine zAb (i1) ?he ?hc ?_ | refine zAe (i1) ?he ?hc ?_ | refine zAf (i1) ?he ?hc ?_); (case he | hc => first | rfl | (simp [D.erL, D.er, D.cL, D.closed, hka, hkb, hea, heb, l1, l2]; done))) | ((with_reducible first | refine zAb (i2) ?he ?hc ?_ | refine zAe (i2) ?he ?hc ?_ | refine zAf (i2) ?he ?hc ?_); (case he | hc => first | rfl | (simp [D.erL, D.er, D.cL, D.closed, hka, hkb, hea, heb, l1, l2]; done))) | ((with_reducible first | refine zAb (cr) ?he ?hc ?_ | refine zAe (cr) ?he ?hc ?_ | refine zAf (cr) ?he ?hc ?_); (case he | hc => first | rfl | (simp [D.erL, D.er, D.cL, D.closed, hka, hkb, hea, heb, l1, l2]; done))) | with_reducible (apply cA; constructor) | ((with_reducible refine And.intro ?hw ?_); (case hw => first | omega | rfl | exact ⟨_, _, rfl⟩ | assumption | (simp only [lN, hka, hkb, hea, heb, l1, l2] <;> omega))) | with_reducible intro _)
            all_goals try (exfalso; omega)
            all_goals simp [D.closed, D.er, bodyW, tMin, tMax]
    · have hka := zAk a.kids
      have hkb := zAk b.kids
      have hkc := zAk c.kids
      have hea := erL_F a.kids
      have heb := erL_F b.kids
      have hec := erL_F c.kids
      have i1 := ih a (by simp) 0 (by omega) (by omega)
      have i2 := ih b (by simp) 0 (by omega) (by omega)
      have i3 := ih c (by simp) 0 (by omega) (by omega)
      have l1 := hle a (by simp) 0
      have l2 := hle b (by simp) 0
      have l3 := hle c (by simp) 0
      rw [F.d_eq] at i1 i2 i3
      simp only [List.map_cons, List.map_nil, F.d_eq]
      have hr := r3 (by omega)
      rw [hr] at cr ⊢
      rw [if_pos rfl, wrL3]
      generalize wr a 0 = ta at *
      generalize wr b 0 = tb at *
      generalize wr c 0 = tc at *
      by_cases hlt : 2 < least
      · have hd : decide (2 < least) = true := by simp [hlt]
        rw [if_pos hlt]
        repeat' (first | with_reducible (apply swq; constructor) | simp only [go_sem, seval, P29, q29, hd] | simp (disch := omega) only [w64, w32, wu8, wu16, wu32, wu64] | ((with_reducible first | refine zAb (i1) ?he ?hc ?_ | refine zAe (i1) ?he ?hc ?_ | refine zAf (i1) ?he ?hc ?_); (case he | hc => first | rfl | (simp [D.erL, D.er, D.cL, D.closed, hka, hkb, hkc, hea, heb, hec, l1, l2, l3]; done))) | ((with_reducible first | refine zAb (i2) ?he ?hc ?_ | refine zAe (i2) ?he ?hc ?_ | refine zAf (i2) ?he ?hc ?_); (case he | hc => first | rfl | (simp [D.erL, D.er, D.cL, D.closed, hka, hkb, hkc, hea, heb, hec, l1, l2, l3]; done))) | ((with_reducible first | refine zAb (i3) ?he ?hc ?_ | refine zAe (i3) ?he ?hc ?_ | refine zAf (i3) ?he ?hc ?_); (case he | hc => first | rfl | (simp [D.erL, D.er, D.cL, D.closed, hka, hkb, hkc, hea, heb, hec, l1, l2, l3]; done))) | ((with_reducible first | refine zAb (cr) ?he ?hc ?_ | refine zAe (cr) ?he ?hc ?_ | refine zAf (cr) ?he ?hc ?_); (case he | hc => first | rfl | (simp [D.erL, D.er, D.cL, D.closed, hka, hkb, hkc, hea, heb, hec, l1, l2, l3]; done))) | with_reducible (apply cA; constructor) | ((with_reducible refine And.intro ?hw ?_); (case hw => first | omega | rfl | exact ⟨_, _, rfl⟩ | assumption | (simp only [lN, hka, hkb, hkc, hea, heb, hec, l1, l2, l3] <;> omega))) | with_reducible intro _)
        all_goals try (exfalso; omega)
        all_goals simp [D.closed, D.er, bodyW, tIf]
      · have hd : decide (2 < least) = false := by simp; omega
        rw [if_neg hlt]
        repeat' (first | with_reducible (apply swq; constructor) | simp only [go_sem, seval, P29, q29, hd] | simp (disch := omega) only [w64, w32, wu8, wu16, wu32, wu64] | ((with_reducible first | refine zAb (i1) ?he ?hc ?_ | refine zAe (i1) ?he ?hc ?_ | refine zAf (i1) ?he ?hc ?_); (case he | hc => first | rfl | (simp [D.erL, D.er, D.cL, D.closed, hka, hkb, hkc, hea, heb, hec, l1, l2, l3]; done))) | ((with_reducible first | refine zAb (i2) ?he ?hc ?_ | refine zAe (i2) ?he ?hc ?_ | refine zAf (i2) ?he ?hc ?_); (case he | hc => first | rfl | (simp [D.erL, D.er, D.cL, D.closed, hka, hkb, hkc, hea, heb, hec, l1, l2, l3]; done))) | ((with_reducible first | refine zAb (i3) ?he ?hc ?_ | refine zAe (i3) ?he ?hc ?_ | refine zAf (i3) ?he ?hc ?_); (case he | hc => first | rfl | (simp [D.erL, D.er, D.cL, D.closed, hka, hkb, hkc, hea, heb, hec, l1, l2, l3]; done))) | ((with_reducible first | refine zAb (cr) ?he ?hc ?_ | refine zAe (cr) ?he ?hc ?_ | refine zAf (cr) ?he ?hc ?_); (case he | hc => first | rfl | (simp [D.erL, D.er, D.cL, D.closed, hka, hkb, hkc, hea, heb, hec, l1, l2, l3]; done))) | with_reducible (apply cA; constructor) | ((with_reducible refine And.intro ?hw ?_); (case hw => first | omega | rfl | exact ⟨_, _, rfl⟩ | assumption | (simp only [lN, hka, hkb, hkc, hea, heb, hec, l1, l2, l3] <;> omega))) | with_reducible intro _)
        all_goals try (exfalso; omega)
        all_goals simp [D.closed, D.er, bodyW, tIf]
def textF (f : F) : Tx := if f.valid then wr f 0 else []
theorem text_p (f : F) : Pur M 11 [f.d] (.tup [.str (textF f), .int .i64 (if f.valid then 0 else 1)]) := by
  refine k11.ok (C := C11) rfl rfl ?_
  rw [i11]
  unfold c11
  have c1 := valid_p f
  have hck := zAk f.kids
  have hek := erL_F f.kids
  unfold textF
  cases hv : f.valid
  · rw [hv] at c1
    rw [F.d_eq] at c1 ⊢
    repeat' (first | with_reducible (apply swq; constructor) | simp only [go_sem, seval, P11, q11] | ((with_reducible refine zAb (c1) ?he ?hc ?_); (case he | hc => first | rfl | (simp [D.erL, D.er, D.cL, D.closed, hck, hek]; done))) | with_reducible (apply cA; constructor) | ((with_reducible refine And.intro ?hw ?_); (case hw => first | omega | rfl | exact ⟨_, _, rfl⟩ | assumption | (simp only [lN, hck, hek] <;> omega))) | with_reducible intro _)
    all_goals first | omega | (simp_all [D.closed, D.er, D.cL, D.erL, hck, hek]; done) | (simp_all [D.closed, D.er, D.cL, D.erL, hck, hek] <;> omega)
  · rw [hv] at c1
    have hv2 := valid_iff.1 hv
    have c2 := write_p f.nodes f (Nat.le_refl _) hv2.1 hv2.2 0 (by omega) (by omega)
    simp only [if_true]
    rw [F.d_eq] at c1 c2 ⊢
    generalize wr f 0 = t at *
    repeat' (first | with_reducible (apply swq; constructor) | simp only [go_sem, seval, P11, q11] | ((with_reducible refine zAb (c1) ?he ?hc ?_); (case he | hc => first | rfl | (simp [D.erL, D.er, D.cL, D.closed, hck, hek]; done))) | ((with_reducible refine zAb (c2) ?he ?hc ?_); (case he | hc => first | rfl | (simp [D.erL, D.er, D.cL, D.closed, hck, hek]; done))) | with_reducible (apply cA; constructor) | ((with_reducible refine And.intro ?hw ?_); (case hw => first | omega | rfl | exact ⟨_, _, rfl⟩ | assumption | (simp only [lN, hck, hek] <;> omega))) | with_reducible intro _)
    all_goals first | omega | (simp_all [D.closed, D.er, D.cL, D.erL, hck, hek]; done) | (simp_all [D.closed, D.er, D.cL, D.erL, hck, hek] <;> omega)
end Go.Proofs.YtkjnhkoipgdfeaaDoor
end
section
set_option maxRecDepth 100000
set_option linter.unusedSimpArgs false
set_option linter.unusedVariables false
namespace Go.Proofs.YtkjnhkoipgdfeaaDoor
open Go GoV Go.RowKit
theorem text1 : textF F1 = ex1 := by
  have hv : F1.valid = true := by decide +kernel
  have i1 : Lib.itoa 200 = [50, 48, 48] := by decide +kernel
  have i2 : Lib.itoa 100 = [49, 48, 48] := by decide +kernel
  have i3 : Lib.itoa 0 = [48] := by decide +kernel
  unfold textF
  rw [hv]
  simp [F1, wr, wrL, parW, bodyW, rankF, symF, tKm, tCy, tLd, tMin, tMax, tIf, ex1, i1, i2, i3]
theorem val1 : zBe F1 1000 3 500 = 1009 := by decide +kernel
theorem dam1 : zA1 F1 ⟨(1000, 1000), (3, 4), (150, 500)⟩ = (1000, 1012) := by decide +kernel
theorem dam2 : zA1 F2 ⟨(7, 7), (0, 0), (5, 20)⟩ = (0, 7) := by decide +kernel
set_option maxHeartbeats 1000000 in
theorem head_p : Pur M 9 [] (.bool true) := by
  refine k9.ok (C := C9) rfl rfl ?_
  rw [i9]
  unfold c9
  have c1 := parse1_p
  have c2 := parse2_p
  have c3 := text_p F1
  have c4 := zE0 F1 1000 3 500
  have c5 := zEo F1 ⟨(1000, 1000), (3, 4), (150, 500)⟩
  have c6 := zEo F2 ⟨(7, 7), (0, 0), (5, 20)⟩
  have hv : F1.valid = true := by decide +kernel
  rw [text1, hv] at c3
  simp only [if_true] at c3
  rw [val1] at c4
  rw [dam1] at c5
  rw [dam2] at c6
  have o1 := of_p 1000 1000
  have o2 := of_p 3 4
  have o3 := of_p 150 500
  have o4 := of_p 1000 1012
  have o5 := of_p 7 7
  have o6 := of_p 5 20
  have o7 := of_p 0 7
  have hk1 := zAk F1.kids
  have hk2 := zAk F2.kids
  have he1 := erL_F F1.kids
  have he2 := erL_F F2.kids
  rw [F.d_eq] at c1 c2 c3 c4 c5 c6
  simp only [ex1] at c1 c3
  simp only [ex2] at c2
  have b1 : ((1009 : Int) == 1009) = true := rfl
  have w1 : ivD (1000, 1000) = .agg [.int .i64 1000, .int .i64 1000] := rfl
  repeat' (first | with_reducible (apply swq; constructor) | simp only [go_sem, seval, P9, q9, beq_self_eq_true, b1, F.cells] | ((with_reducible first | refine zAb (c1) ?he ?hc ?_ | refine zAe (c1) ?he ?hc ?_ | refine zAf (c1) ?he ?hc ?_); (case he | hc => first | rfl | (simp [D.erL, D.er, D.cL, D.closed, hk1, hk2, he1, he2]; done))) | ((with_reducible first | refine zAb (c2) ?he ?hc ?_ | refine zAe (c2) ?he ?hc ?_ | refine zAf (c2) ?he ?hc ?_); (case he | hc => first | rfl | (simp [D.erL, D.er, D.cL, D.closed, hk1, hk2, he1, he2]; done))) | ((with_reducible first | refine zAb (c3) ?he ?hc ?_ | refine zAe (c3) ?he ?hc ?_ | refine zAf (c3) ?he ?hc ?_); (case he | hc => first | rfl | (simp [D.erL, D.er, D.cL, D.closed, hk1, hk2, he1, he2]; done))) | ((with_reducible first | refine zAb (c4) ?he ?hc ?_ | refine zAe (c4) ?he ?hc ?_ | refine zAf (c4) ?he ?hc ?_); (case he | hc => first | rfl | (simp [D.erL, D.er, D.cL, D.closed, hk1, hk2, he1, he2]; done))) | ((with_reducible first | refine zAb (c5) ?he ?hc ?_ | refine zAe (c5) ?he ?hc ?_ | refine zAf (c5) ?he ?hc ?_); (case he | hc => first | rfl | (simp [D.erL, D.er, D.cL, D.closed, hk1, hk2, he1, he2]; done))) | ((with_reducible first | refine zAb (c6) ?he ?hc ?_ | refine zAe (c6) ?he ?hc ?_ | refine zAf (c6) ?he ?hc ?_); (case he | hc => first | rfl | (simp [D.erL, D.er, D.cL, D.closed, hk1, hk2, he1, he2]; done))) | ((with_reducible first | refine zAb (o1) ?he ?hc ?_ | refine zAe (o1) ?he ?hc ?_ | refine zAf (o1) ?he ?hc ?_); (case he | hc => first | rfl | (simp [D.erL, D.er, D.cL, D.closed, hk1, hk2, he1, he2]; done))) | ((with_reducible first | refine zAb (o2) ?he ?hc ?_ | refine zAe (o2) ?he ?hc ?_ | refine zAf (o2) ?he ?hc ?_); (case he | hc => first | rfl | (simp [D.erL, D.er, D.cL, D.closed, hk1, hk2, he1, he2]; done))) | ((with_reducible first | refine zAb (o3) ?he ?hc ?_ | refine zAe (o3) ?he ?hc ?_ | refine zAf (o3) ?he ?hc ?_); (case he | hc => first | rfl | (simp [D.erL, D.er, D.cL, D.closed, hk1, hk2, he1, he2]; done))) | ((with_reducible first | refine zAb (o4) ?he ?hc ?_ | refine zAe (o4) ?he ?hc ?_ | refine zAf (o4) ?he ?hc ?_); (case he | hc => first | rfl | (simp [D.erL, D.er, D.cL, D.closed, hk1, hk2, he1, he2]; done))) | ((with_reducible first | refine zAb (o5) ?he ?hc ?_ | refine zAe (o5) ?he ?hc ?_ | refine zAf (o5) ?he ?hc ?_); (case he | hc => first | rfl | (simp [D.erL, D.er, D.cL, D.closed, hk1, hk2, he1, he2]; done))) | ((with_reducible first | refine zAb (o6) ?he ?hc ?_ | refine zAe (o6) ?he ?hc ?_ | refine zAf (o6) ?he ?hc ?_); (case he | hc => first | rfl | (simp [D.erL, D.er, D.cL, D.closed, hk1, hk2, he1, he2]; done))) | ((with_reducible first | refine zAb (o7) ?he ?hc ?_ | refine zAe (o7) ?he ?hc ?_ | refine zAf (o7) ?he ?hc ?_); (case he | hc => first | rfl | (simp [D.erL, D.er, D.cL, D.closed, hk1, hk2, he1, he2]; done))) | (with_reducible first | (apply cA; constructor) | (apply gA; constructor) | (apply qA; constructor)) | ((with_reducible refine And.intro ?hw ?_); (case hw => first | omega | rfl | exact ⟨_, _, rfl⟩ | assumption | (simp only [lN, hk1, hk2, he1, he2] <;> omega))) | with_reducible intro _)
end Go.Proofs.YtkjnhkoipgdfeaaDoor
end
section
set_option maxRecDepth 100000
set_option linter.unusedSimpArgs false
set_option linter.unusedVariables false
namespace Go.Proofs.YtkjnhkoipgdfeaaDoor
open Go GoV Go.RowKit
set_option maxHeartbeats 1000000 in
theorem l4_p (f : F) (u : Use) (km cy ld : Int) : Pur M 4 [f.d, useD u, .int .i64 km, .int .i64 cy, .int .i64 ld] (.bool true) := by
  refine k4.ok (C := C4) rfl rfl ?_
  rw [i4]
  unfold c4
  have ch := head_p
  have cf := few_p f
  have cu := use_p u
  have c1 := in_p u.km km
  have c2 := in_p u.cy cy
  have c3 := in_p u.ld ld
  have hck := zAk f.kids
  have hek := erL_F f.kids
  have cD := zEo f u
  have cV := zE0 f km cy ld
  have law := contains_law f (u := u) (km := km) (cy := cy) (ld := ld)
  have cI := zEm (zA1 f u)
  have cN := in_p (zA1 f u) (max (zBe f km cy ld) 0)
  rw [F.d_eq] at cf cD cV ⊢
  cases hf : decide (f.nodes ≤ 80)
  · rw [hf] at cf
    repeat' (first | with_reducible (apply swq; constructor) | simp only [go_sem, seval, P4, q4] | ((with_reducible refine zAb (ch) ?he ?hc ?_); (case he | hc => first | rfl | (simp [D.erL, D.er, D.cL, D.closed, hck, hek]; done))) | ((with_reducible refine zAb (cf) ?he ?hc ?_); (case he | hc => first | rfl | (simp [D.erL, D.er, D.cL, D.closed, hck, hek]; done))) | (with_reducible first | (apply cA; constructor) | (apply gA; constructor)) | ((with_reducible refine And.intro ?hw ?_); (case hw => first | omega | rfl | exact ⟨_, _, rfl⟩ | assumption | (simp only [lN, hck, hek] <;> omega))) | with_reducible intro _)
    all_goals first | omega | (simp_all [D.closed, D.er, D.cL, D.erL, hck, hek]; done) | (simp_all [D.closed, D.er, D.cL, D.erL, hck, hek] <;> omega)
  · rw [hf] at cf
    cases hu : u.good
    · rw [hu] at cu
      repeat' (first | with_reducible (apply swq; constructor) | simp only [go_sem, seval, P4, q4] | ((with_reducible refine zAb (ch) ?he ?hc ?_); (case he | hc => first | rfl | (simp [D.erL, D.er, D.cL, D.closed, hck, hek]; done))) | ((with_reducible refine zAb (cf) ?he ?hc ?_); (case he | hc => first | rfl | (simp [D.erL, D.er, D.cL, D.closed, hck, hek]; done))) | ((with_reducible refine zAb (cu) ?he ?hc ?_); (case he | hc => first | rfl | (simp [D.erL, D.er, D.cL, D.closed, hck, hek]; done))) | (with_reducible first | (apply cA; constructor) | (apply gA; constructor)) | ((with_reducible refine And.intro ?hw ?_); (case hw => first | omega | rfl | exact ⟨_, _, rfl⟩ | assumption | (simp only [lN, hck, hek] <;> omega))) | with_reducible intro _)
      all_goals first | omega | (simp_all [D.closed, D.er, D.cL, D.erL, hck, hek]; done) | (simp_all [D.closed, D.er, D.cL, D.erL, hck, hek] <;> omega)
    · rw [hu] at cu
      by_cases h1 : In u.km km
      · rw [decide_eq_true h1] at c1
        by_cases h2 : In u.cy cy
        · rw [decide_eq_true h2] at c2
          by_cases h3 : In u.ld ld
          · rw [decide_eq_true h3] at c3
            obtain ⟨y1, y2, y3, y4, y5⟩ := law hu ⟨h1, h2, h3⟩
            rw [decide_eq_true y1] at cI
            rw [decide_eq_true y3] at cN
            generalize zA1 f u = d at *
            generalize zBe f km cy ld = n at *
            have t1 : decide (d.1 ≥ 0) = true := by simp only [decide_eq_true_eq]; exact y2
            have t2 : decide (n ≥ -1000000000000) = true := by simp only [decide_eq_true_eq]; exact y4
            have t3 : decide (n ≤ 1000000000000) = true := by simp only [decide_eq_true_eq]; exact y5
            repeat' (first | with_reducible (apply swq; constructor) | simp only [go_sem, seval, P4, q4, maxW, t1, t2, t3] | ((with_reducible refine zAb (ch) ?he ?hc ?_); (case he | hc => first | rfl | (simp [D.erL, D.er, D.cL, D.closed, hck, hek]; done))) | ((with_reducible refine zAb (cf) ?he ?hc ?_); (case he | hc => first | rfl | (simp [D.erL, D.er, D.cL, D.closed, hck, hek]; done))) | ((with_reducible refine zAb (cu) ?he ?hc ?_); (case he | hc => first | rfl | (simp [D.erL, D.er, D.cL, D.closed, hck, hek]; done))) | ((with_reducible refine zAb (c1) ?he ?hc ?_); (case he | hc => first | rfl | (simp [D.erL, D.er, D.cL, D.closed, hck, hek]; done))) | ((with_reducible refine zAb (c2) ?he ?hc ?_); (case he | hc => first | rfl | (simp [D.erL, D.er, D.cL, D.closed, hck, hek]; done))) | ((with_reducible refine zAb (c3) ?he ?hc ?_); (case he | hc => first | rfl | (simp [D.erL, D.er, D.cL, D.closed, hck, hek]; done))) | ((with_reducible refine zAb (cD) ?he ?hc ?_); (case he | hc => first | rfl | (simp [D.erL, D.er, D.cL, D.closed, hck, hek]; done))) | ((with_reducible refine zAb (cV) ?he ?hc ?_); (case he | hc => first | rfl | (simp [D.erL, D.er, D.cL, D.closed, hck, hek]; done))) | ((with_reducible refine zAb (cI) ?he ?hc ?_); (case he | hc => first | rfl | (simp [D.erL, D.er, D.cL, D.closed, hck, hek]; done))) | ((with_reducible refine zAb (cN) ?he ?hc ?_); (case he | hc => first | rfl | (simp [D.erL, D.er, D.cL, D.closed, hck, hek]; done))) | (with_reducible first | (apply cA; constructor) | (apply gA; constructor)) | ((with_reducible refine And.intro ?hw ?_); (case hw => first | omega | rfl | exact ⟨_, _, rfl⟩ | assumption | (simp only [lN, hck, hek] <;> omega))) | with_reducible intro _)
            all_goals first | omega | (simp_all [D.closed, D.er, D.cL, D.erL, hck, hek]; done) | (simp_all [D.closed, D.er, D.cL, D.erL, hck, hek] <;> omega)
          · rw [decide_eq_false h3] at c3
            repeat' (first | with_reducible (apply swq; constructor) | simp only [go_sem, seval, P4, q4] | ((with_reducible refine zAb (ch) ?he ?hc ?_); (case he | hc => first | rfl | (simp [D.erL, D.er, D.cL, D.closed, hck, hek]; done))) | ((with_reducible refine zAb (cf) ?he ?hc ?_); (case he | hc => first | rfl | (simp [D.erL, D.er, D.cL, D.closed, hck, hek]; done))) | ((with_reducible refine zAb (cu) ?he ?hc ?_); (case he | hc => first | rfl | (simp [D.erL, D.er, D.cL, D.closed, hck, hek]; done))) | ((with_reducible refine zAb (c1) ?he ?hc ?_); (case he | hc => first | rfl | (simp [D.erL, D.er, D.cL, D.closed, hck, hek]; done))) | ((with_reducible refine zAb (c2) ?he ?hc ?_); (case he | hc => first | rfl | (simp [D.erL, D.er, D.cL, D.closed, hck, hek]; done))) | ((with_reducible refine zAb (c3) ?he ?hc ?_); (case he | hc => first | rfl | (simp [D.erL, D.er, D.cL, D.closed, hck, hek]; done))) | (with_reducible first | (apply cA; constructor) | (apply gA; constructor)) | ((with_reducible refine And.intro ?hw ?_); (case hw => first | omega | rfl | exact ⟨_, _, rfl⟩ | assumption | (simp only [lN, hck, hek] <;> omega))) | with_reducible intro _)
            all_goals first | omega | (simp_all [D.closed, D.er, D.cL, D.erL, hck, hek]; done) | (simp_all [D.closed, D.er, D.cL, D.erL, hck, hek] <;> omega)
        · rw [decide_eq_false h2] at c2
          repeat' (first | with_reducible (apply swq; constructor) | simp only [go_sem, seval, P4, q4] | ((with_reducible refine zAb (ch) ?he ?hc ?_); (case he | hc => first | rfl | (simp [D.erL, D.er, D.cL, D.closed, hck, hek]; done))) | ((with_reducible refine zAb (cf) ?he ?hc ?_); (case he | hc => first | rfl | (simp [D.erL, D.er, D.cL, D.closed, hck, hek]; done))) | ((with_reducible refine zAb (cu) ?he ?hc ?_); (case he | hc => first | rfl | (simp [D.erL, D.er, D.cL, D.closed, hck, hek]; done))) | ((with_reducible refine zAb (c1) ?he ?hc ?_); (case he | hc => first | rfl | (simp [D.erL, D.er, D.cL, D.closed, hck, hek]; done))) | ((with_reducible refine zAb (c2) ?he ?hc ?_); (case he | hc => first | rfl | (simp [D.erL, D.er, D.cL, D.closed, hck, hek]; done))) | (with_reducible first | (apply cA; constructor) | (apply gA; constructor)) | ((with_reducible refine And.intro ?hw ?_); (case hw => first | omega | rfl | exact ⟨_, _, rfl⟩ | assumption | (simp only [lN, hck, hek] <;> omega))) | with_reducible intro _)
          all_goals first | omega | (simp_all [D.closed, D.er, D.cL, D.erL, hck, hek]; done) | (simp_all [D.closed, D.er, D.cL, D.erL, hck, hek] <;> omega)
      · rw [decide_eq_false h1] at c1
        repeat' (first | with_reducible (apply swq; constructor) | simp only [go_sem, seval, P4, q4] | ((with_reducible refine zAb (ch) ?he ?hc ?_); (case he | hc => first | rfl | (simp [D.erL, D.er, D.cL, D.closed, hck, hek]; done))) | ((with_reducible refine zAb (cf) ?he ?hc ?_); (case he | hc => first | rfl | (simp [D.erL, D.er, D.cL, D.closed, hck, hek]; done))) | ((with_reducible refine zAb (cu) ?he ?hc ?_); (case he | hc => first | rfl | (simp [D.erL, D.er, D.cL, D.closed, hck, hek]; done))) | ((with_reducible refine zAb (c1) ?he ?hc ?_); (case he | hc => first | rfl | (simp [D.erL, D.er, D.cL, D.closed, hck, hek]; done))) | (with_reducible first | (apply cA; constructor) | (apply gA; constructor)) | ((with_reducible refine And.intro ?hw ?_); (case hw => first | omega | rfl | exact ⟨_, _, rfl⟩ | assumption | (simp only [lN, hck, hek] <;> omega))) | with_reducible intro _)
        all_goals first | omega | (simp_all [D.closed, D.er, D.cL, D.erL, hck, hek]; done) | (simp_all [D.closed, D.er, D.cL, D.erL, hck, hek] <;> omega)
set_option maxHeartbeats 1000000 in
theorem l5_p (f : F) (km cy ld : Int) : Pur M 5 [f.d, .int .i64 km, .int .i64 cy, .int .i64 ld] (.bool true) := by
  refine k5.ok (C := C5) rfl rfl ?_
  rw [i5]
  unfold c5
  have ch := head_p
  have cf := few_p f
  have cE := exact_p km cy ld
  have cu := use_p ⟨(km, km), (cy, cy), (ld, ld)⟩
  have hck := zAk f.kids
  have hek := erL_F f.kids
  have cD := zEo f ⟨(km, km), (cy, cy), (ld, ld)⟩
  have cV := zE0 f km cy ld
  have law := exact_law f (km := km) (cy := cy) (ld := ld)
  rw [F.d_eq] at cf cD cV ⊢
  cases hf : decide (f.nodes ≤ 80)
  · rw [hf] at cf
    repeat' (first | with_reducible (apply swq; constructor) | simp only [go_sem, seval, P5, q5] | ((with_reducible refine zAb (ch) ?he ?hc ?_); (case he | hc => first | rfl | (simp [D.erL, D.er, D.cL, D.closed, hck, hek]; done))) | ((with_reducible refine zAb (cf) ?he ?hc ?_); (case he | hc => first | rfl | (simp [D.erL, D.er, D.cL, D.closed, hck, hek]; done))) | ((with_reducible refine zAb (cE) ?he ?hc ?_); (case he | hc => first | rfl | (simp [D.erL, D.er, D.cL, D.closed, hck, hek]; done))) | (with_reducible first | (apply cA; constructor) | (apply gA; constructor)) | ((with_reducible refine And.intro ?hw ?_); (case hw => first | omega | rfl | exact ⟨_, _, rfl⟩ | assumption | (simp only [lN, hck, hek] <;> omega))) | with_reducible intro _)
    all_goals first | omega | (simp_all [D.closed, D.er, D.cL, D.erL, hck, hek]; done) | (simp_all [D.closed, D.er, D.cL, D.erL, hck, hek] <;> omega)
  · rw [hf] at cf
    cases hu : (Use.mk (km, km) (cy, cy) (ld, ld)).good
    · rw [hu] at cu
      repeat' (first | with_reducible (apply swq; constructor) | simp only [go_sem, seval, P5, q5] | ((with_reducible refine zAb (ch) ?he ?hc ?_); (case he | hc => first | rfl | (simp [D.erL, D.er, D.cL, D.closed, hck, hek]; done))) | ((with_reducible refine zAb (cf) ?he ?hc ?_); (case he | hc => first | rfl | (simp [D.erL, D.er, D.cL, D.closed, hck, hek]; done))) | ((with_reducible refine zAb (cE) ?he ?hc ?_); (case he | hc => first | rfl | (simp [D.erL, D.er, D.cL, D.closed, hck, hek]; done))) | ((with_reducible refine zAb (cu) ?he ?hc ?_); (case he | hc => first | rfl | (simp [D.erL, D.er, D.cL, D.closed, hck, hek]; done))) | (with_reducible first | (apply cA; constructor) | (apply gA; constructor)) | ((with_reducible refine And.intro ?hw ?_); (case hw => first | omega | rfl | exact ⟨_, _, rfl⟩ | assumption | (simp only [lN, hck, hek] <;> omega))) | with_reducible intro _)
      all_goals first | omega | (simp_all [D.closed, D.er, D.cL, D.erL, hck, hek]; done) | (simp_all [D.closed, D.er, D.cL, D.erL, hck, hek] <;> omega)
    · rw [hu] at cu
      rw [law hu] at cD
      generalize zBe f km cy ld = n at *
      have cO := of_p (max n 0) (max n 0)
      generalize hm : max n 0 = m at *
      repeat' (first | with_reducible (apply swq; constructor) | simp only [go_sem, seval, P5, q5, maxW, hm, beq_self_eq_true, Bool.and_self, Bool.and_true] | ((with_reducible refine zAb (ch) ?he ?hc ?_); (case he | hc => first | rfl | (simp [D.erL, D.er, D.cL, D.closed, hck, hek]; done))) | ((with_reducible refine zAb (cf) ?he ?hc ?_); (case he | hc => first | rfl | (simp [D.erL, D.er, D.cL, D.closed, hck, hek]; done))) | ((with_reducible refine zAb (cE) ?he ?hc ?_); (case he | hc => first | rfl | (simp [D.erL, D.er, D.cL, D.closed, hck, hek]; done))) | ((with_reducible refine zAb (cu) ?he ?hc ?_); (case he | hc => first | rfl | (simp [D.erL, D.er, D.cL, D.closed, hck, hek]; done))) | ((with_reducible refine zAb (cD) ?he ?hc ?_); (case he | hc => first | rfl | (simp [D.erL, D.er, D.cL, D.closed, hck, hek]; done))) | ((with_reducible refine zAb (cV) ?he ?hc ?_); (case he | hc => first | rfl | (simp [D.erL, D.er, D.cL, D.closed, hck, hek]; done))) | ((with_reducible refine zAb (cO) ?he ?hc ?_); (case he | hc => first | rfl | (simp [D.erL, D.er, D.cL, D.closed, hck, hek]; done))) | (with_reducible first | (apply cA; constructor) | (apply gA; constructor)) | ((with_reducible refine And.intro ?hw ?_); (case hw => first | omega | rfl | exact ⟨_, _, rfl⟩ | assumption | (simp only [lN, hck, hek] <;> omega))) | with_reducible intro _)
      all_goals first | omega | (simp_all [D.closed, D.er, D.cL, D.erL, hck, hek]; done) | (simp_all [D.closed, D.er, D.cL, D.erL, hck, hek] <;> omega)
set_option maxHeartbeats 1000000 in
theorem l6_p (f : F) (u v : Use) : Pur M 6 [f.d, useD u, useD v] (.bool true) := by
  refine k6.ok (C := C6) rfl rfl ?_
  rw [i6]
  unfold c6
  have ch := head_p
  have cf := few_p f
  have cu := use_p u
  have cv := use_p v
  have c1 := lpart_p u.km v.km
  have c2 := lpart_p u.cy v.cy
  have c3 := lpart_p u.ld v.ld
  have hck := zAk f.kids
  have hek := erL_F f.kids
  have cD := zEo f u
  have cD2 := zEo f v
  have law := parts_law f (u := u) (v := v)
  have cN := lpart_p (zA1 f u) (zA1 f v)
  rw [F.d_eq] at cf cD cD2 ⊢
  cases hf : decide (f.nodes ≤ 80)
  · rw [hf] at cf
    repeat' (first | with_reducible (apply swq; constructor) | simp only [go_sem, seval, P6, q6] | ((with_reducible first | refine zAb (ch) ?he ?hc ?_ | refine zAe (ch) ?he ?hc ?_ | refine zAf (ch) ?he ?hc ?_); (case he | hc => first | rfl | (simp [D.erL, D.er, D.cL, D.closed, hck, hek]; done))) | ((with_reducible first | refine zAb (cf) ?he ?hc ?_ | refine zAe (cf) ?he ?hc ?_ | refine zAf (cf) ?he ?hc ?_); (case he | hc => first | rfl | (simp [D.erL, D.er, D.cL, D.closed, hck, hek]; done))) | (with_reducible first | (apply cA; constructor) | (apply gA; constructor) | (apply qA; constructor)) | ((with_reducible refine And.intro ?hw ?_); (case hw => first | omega | rfl | exact ⟨_, _, rfl⟩ | assumption | (simp only [lN, hck, hek] <;> omega))) | with_reducible intro _)
    all_goals first | omega | (simp_all [D.closed, D.er, D.cL, D.erL, hck, hek]; done) | (simp_all [D.closed, D.er, D.cL, D.erL, hck, hek] <;> omega)
  · rw [hf] at cf
    cases hu : u.good
    · rw [hu] at cu
      repeat' (first | with_reducible (apply swq; constructor) | simp only [go_sem, seval, P6, q6] | ((with_reducible first | refine zAb (ch) ?he ?hc ?_ | refine zAe (ch) ?he ?hc ?_ | refine zAf (ch) ?he ?hc ?_); (case he | hc => first | rfl | (simp [D.erL, D.er, D.cL, D.closed, hck, hek]; done))) | ((with_reducible first | refine zAb (cf) ?he ?hc ?_ | refine zAe (cf) ?he ?hc ?_ | refine zAf (cf) ?he ?hc ?_); (case he | hc => first | rfl | (simp [D.erL, D.er, D.cL, D.closed, hck, hek]; done))) | ((with_reducible first | refine zAb (cu) ?he ?hc ?_ | refine zAe (cu) ?he ?hc ?_ | refine zAf (cu) ?he ?hc ?_); (case he | hc => first | rfl | (simp [D.erL, D.er, D.cL, D.closed, hck, hek]; done))) | (with_reducible first | (apply cA; constructor) | (apply gA; constructor) | (apply qA; constructor)) | ((with_reducible refine And.intro ?hw ?_); (case hw => first | omega | rfl | exact ⟨_, _, rfl⟩ | assumption | (simp only [lN, hck, hek] <;> omega))) | with_reducible intro _)
      all_goals first | omega | (simp_all [D.closed, D.er, D.cL, D.erL, hck, hek]; done) | (simp_all [D.closed, D.er, D.cL, D.erL, hck, hek] <;> omega)
    · rw [hu] at cu
      cases hv : v.good
      · rw [hv] at cv
        repeat' (first | with_reducible (apply swq; constructor) | simp only [go_sem, seval, P6, q6] | ((with_reducible first | refine zAb (ch) ?he ?hc ?_ | refine zAe (ch) ?he ?hc ?_ | refine zAf (ch) ?he ?hc ?_); (case he | hc => first | rfl | (simp [D.erL, D.er, D.cL, D.closed, hck, hek]; done))) | ((with_reducible first | refine zAb (cf) ?he ?hc ?_ | refine zAe (cf) ?he ?hc ?_ | refine zAf (cf) ?he ?hc ?_); (case he | hc => first | rfl | (simp [D.erL, D.er, D.cL, D.closed, hck, hek]; done))) | ((with_reducible first | refine zAb (cu) ?he ?hc ?_ | refine zAe (cu) ?he ?hc ?_ | refine zAf (cu) ?he ?hc ?_); (case he | hc => first | rfl | (simp [D.erL, D.er, D.cL, D.closed, hck, hek]; done))) | ((with_reducible first | refine zAb (cv) ?he ?hc ?_ | refine zAe (cv) ?he ?hc ?_ | refine zAf (cv) ?he ?hc ?_); (case he | hc => first | rfl | (simp [D.erL, D.er, D.cL, D.closed, hck, hek]; done))) | (with_reducible first | (apply cA; constructor) | (apply gA; constructor) | (apply qA; constructor)) | ((with_reducible refine And.intro ?hw ?_); (case hw => first | omega | rfl | exact ⟨_, _, rfl⟩ | assumption | (simp only [lN, hck, hek] <;> omega))) | with_reducible intro _)
        all_goals first | omega | (simp_all [D.closed, D.er, D.cL, D.erL, hck, hek]; done) | (simp_all [D.closed, D.er, D.cL, D.erL, hck, hek] <;> omega)
      · rw [hv] at cv
        by_cases h1 : Sub u.km v.km
        · rw [decide_eq_true h1] at c1
          by_cases h2 : Sub u.cy v.cy
          · rw [decide_eq_true h2] at c2
            by_cases h3 : Sub u.ld v.ld
            · rw [decide_eq_true h3] at c3
              rw [decide_eq_true (law hu hv ⟨h1, h2, h3⟩)] at cN
              generalize zA1 f u = d at *
              generalize zA1 f v = d2 at *
              repeat' (first | with_reducible (apply swq; constructor) | simp only [go_sem, seval, P6, q6] | ((with_reducible first | refine zAb (ch) ?he ?hc ?_ | refine zAe (ch) ?he ?hc ?_ | refine zAf (ch) ?he ?hc ?_); (case he | hc => first | rfl | (simp [D.erL, D.er, D.cL, D.closed, hck, hek]; done))) | ((with_reducible first | refine zAb (cf) ?he ?hc ?_ | refine zAe (cf) ?he ?hc ?_ | refine zAf (cf) ?he ?hc ?_); (case he | hc => first | rfl | (simp [D.erL, D.er, D.cL, D.closed, hck, hek]; done))) | ((with_reducible first | refine zAb (cu) ?he ?hc ?_ | refine zAe (cu) ?he ?hc ?_ | refine zAf (cu) ?he ?hc ?_); (case he | hc => first | rfl | (simp [D.erL, D.er, D.cL, D.closed, hck, hek]; done))) | ((with_reducible first | refine zAb (cv) ?he ?hc ?_ | refine zAe (cv) ?he ?hc ?_ | refine zAf (cv) ?he ?hc ?_); (case he | hc => first | rfl | (simp [D.erL, D.er, D.cL, D.closed, hck, hek]; done))) | ((with_reducible first | refine zAb (c1) ?he ?hc ?_ | refine zAe (c1) ?he ?hc ?_ | refine zAf (c1) ?he ?hc ?_); (case he | hc => first | rfl | (simp [D.erL, D.er, D.cL, D.closed, hck, hek]; done))) | ((with_reducible first | refine zAb (c2) ?he ?hc ?_ | refine zAe (c2) ?he ?hc ?_ | refine zAf (c2) ?he ?hc ?_); (case he | hc => first | rfl | (simp [D.erL, D.er, D.cL, D.closed, hck, hek]; done))) | ((with_reducible first | refine zAb (c3) ?he ?hc ?_ | refine zAe (c3) ?he ?hc ?_ | refine zAf (c3) ?he ?hc ?_); (case he | hc => first | rfl | (simp [D.erL, D.er, D.cL, D.closed, hck, hek]; done))) | ((with_reducible first | refine zAb (cD) ?he ?hc ?_ | refine zAe (cD) ?he ?hc ?_ | refine zAf (cD) ?he ?hc ?_); (case he | hc => first | rfl | (simp [D.erL, D.er, D.cL, D.closed, hck, hek]; done))) | ((with_reducible first | refine zAb (cD2) ?he ?hc ?_ | refine zAe (cD2) ?he ?hc ?_ | refine zAf (cD2) ?he ?hc ?_); (case he | hc => first | rfl | (simp [D.erL, D.er, D.cL, D.closed, hck, hek]; done))) | ((with_reducible first | refine zAb (cN) ?he ?hc ?_ | refine zAe (cN) ?he ?hc ?_ | refine zAf (cN) ?he ?hc ?_); (case he | hc => first | rfl | (simp [D.erL, D.er, D.cL, D.closed, hck, hek]; done))) | (with_reducible first | (apply cA; constructor) | (apply gA; constructor) | (apply qA; constructor)) | ((with_reducible refine And.intro ?hw ?_); (case hw => first | omega | rfl | exact ⟨_, _, rfl⟩ | assumption | (simp only [lN, hck, hek] <;> omega))) | with_reducible intro _)
              all_goals first | omega | (simp_all [D.closed, D.er, D.cL, D.erL, hck, hek]; done) | (simp_all [D.closed, D.er, D.cL, D.erL, hck, hek] <;> omega)
            · rw [decide_eq_false h3] at c3
              repeat' (first | with_reducible (apply swq; constructor) | simp only [go_sem, seval, P6, q6] | ((with_reducible first | refine zAb (ch) ?he ?hc ?_ | refine zAe (ch) ?he ?hc ?_ | refine zAf (ch) ?he ?hc ?_); (case he | hc => first | rfl | (simp [D.erL, D.er, D.cL, D.closed, hck, hek]; done))) | ((with_reducible first | refine zAb (cf) ?he ?hc ?_ | refine zAe (cf) ?he ?hc ?_ | refine zAf (cf) ?he ?hc ?_); (case he | hc => first | rfl | (simp [D.erL, D.er, D.cL, D.closed, hck, hek]; done))) | ((with_reducible first | refine zAb (cu) ?he ?hc ?_ | refine zAe (cu) ?he ?hc ?_ | refine zAf (cu) ?he ?hc ?_); (case he | hc => first | rfl | (simp [D.erL, D.er, D.cL, D.closed, hck, hek]; done))) | ((with_reducible first | refine zAb (cv) ?he ?hc ?_ | refine zAe (cv) ?he ?hc ?_ | refine zAf (cv) ?he ?hc ?_); (case he | hc => first | rfl | (simp [D.erL, D.er, D.cL, D.closed, hck, hek]; done))) | ((with_reducible first | refine zAb (c1) ?he ?hc ?_ | refine zAe (c1) ?he ?hc ?_ | refine zAf (c1) ?he ?hc ?_); (case he | hc => first | rfl | (simp [D.erL, D.er, D.cL, D.closed, hck, hek]; done))) | ((with_reducible first | refine zAb (c2) ?he ?hc ?_ | refine zAe (c2) ?he ?hc ?_ | refine zAf (c2) ?he ?hc ?_); (case he | hc => first | rfl | (simp [D.erL, D.er, D.cL, D.closed, hck, hek]; done))) | ((with_reducible first | refine zAb (c3) ?he ?hc ?_ | refine zAe (c3) ?he ?hc ?_ | refine zAf (c3) ?he ?hc ?_); (case he | hc => first | rfl | (simp [D.erL, D.er, D.cL, D.closed, hck, hek]; done))) | (with_reducible first | (apply cA; constructor) | (apply gA; constructor) | (apply qA; constructor)) | ((with_reducible refine And.intro ?hw ?_); (case hw => first | omega | rfl | exact ⟨_, _, rfl⟩ | assumption | (simp only [lN, hck, hek] <;> omega))) | with_reducible intro _)
              all_goals first | omega | (simp_all [D.closed, D.er, D.cL, D.erL, hck, hek]; done) | (simp_all [D.closed, D.er, D.cL, D.erL, hck, hek] <;> omega)
          · rw [decide_eq_false h2] at c2
            repeat' (first | with_reducible (apply swq; constructor) | simp only [go_sem, seval, P6, q6] | ((with_reducible first | refine zAb (ch) ?he ?hc ?_ | refine zAe (ch) ?he ?hc ?_ | refine zAf (ch) ?he ?hc ?_); (case he | hc => first | rfl | (simp [D.erL, D.er, D.cL, D.closed, hck, hek]; done))) | ((with_reducible first | refine zAb (cf) ?he ?hc ?_ | refine zAe (cf) ?he ?hc ?_ | refine zAf (cf) ?he ?hc ?_); (case he | hc => first | rfl | (simp [D.erL, D.er, D.cL, D.closed, hck, hek]; done))) | ((with_reducible first | refine zAb (cu) ?he ?hc ?_ | refine zAe (cu) ?he ?hc ?_ | refine zAf (cu) ?he ?hc ?_); (case he | hc => first | rfl | (simp [D.erL, D.er, D.cL, D.closed, hck, hek]; done))) | ((with_reducible first | refine zAb (cv) ?he ?hc ?_ | refine zAe (cv) ?he ?hc ?_ | refine zAf (cv) ?he ?hc ?_); (case he | hc => first | rfl | (simp [D.erL, D.er, D.cL, D.closed, hck, hek]; done))) | ((with_reducible first | refine zAb (c1) ?he ?hc ?_ | refine zAe (c1) ?he ?hc ?_ | refine zAf (c1) ?he ?hc ?_); (case he | hc => first | rfl | (simp [D.erL, D.er, D.cL, D.closed, hck, hek]; done))) | ((with_reducible first | refine zAb (c2) ?he ?hc ?_ | refine zAe (c2) ?he ?hc ?_ | refine zAf (c2) ?he ?hc ?_); (case he | hc => first | rfl | (simp [D.erL, D.er, D.cL, D.closed, hck, hek]; done))) | (with_reducible first | (apply cA; constructor) | (apply gA; constructor) | (apply qA; constructor)) | ((with_reducible refine And.intro ?hw ?_); (case hw => first | omega | rfl | exact ⟨_, _, rfl⟩ | assumption | (simp only [lN, hck, hek] <;> omega))) | with_reducible intro _)
            all_goals first | omega | (simp_all [D.closed, D.er, D.cL, D.erL, hck, hek]; done) | (simp_all [D.closed, D.er, D.cL, D.erL, hck, hek] <;> omega)
        · rw [decide_eq_false h1] at c1
          repeat' (first | with_reducible (apply swq; constructor) | simp only [go_sem, seval, P6, q6] | ((with_reducible first | refine zAb (ch) ?he ?hc ?_ | refine zAe (ch) ?he ?hc ?_ | refine zAf (ch) ?he ?hc ?_); (case he | hc => first | rfl | (simp [D.erL, D.er, D.cL, D.closed, hck, hek]; done))) | ((with_reducible first | refine zAb (cf) ?he ?hc ?_ | refine zAe (cf) ?he ?hc ?_ | refine zAf (cf) ?he ?hc ?_); (case he | hc => first | rfl | (simp [D.erL, D.er, D.cL, D.closed, hck, hek]; done))) | ((with_reducible first | refine zAb (cu) ?he ?hc ?_ | refine zAe (cu) ?he ?hc ?_ | refine zAf (cu) ?he ?hc ?_); (case he | hc => first | rfl | (simp [D.erL, D.er, D.cL, D.closed, hck, hek]; done))) | ((with_reducible first | refine zAb (cv) ?he ?hc ?_ | refine zAe (cv) ?he ?hc ?_ | refine zAf (cv) ?he ?hc ?_); (case he | hc => first | rfl | (simp [D.erL, D.er, D.cL, D.closed, hck, hek]; done))) | ((with_reducible first | refine zAb (c1) ?he ?hc ?_ | refine zAe (c1) ?he ?hc ?_ | refine zAf (c1) ?he ?hc ?_); (case he | hc => first | rfl | (simp [D.erL, D.er, D.cL, D.closed, hck, hek]; done))) | (with_reducible first | (apply cA; constructor) | (apply gA; constructor) | (apply qA; constructor)) | ((with_reducible refine And.intro ?hw ?_); (case hw => first | omega | rfl | exact ⟨_, _, rfl⟩ | assumption | (simp only [lN, hck, hek] <;> omega))) | with_reducible intro _)
          all_goals first | omega | (simp_all [D.closed, D.er, D.cL, D.erL, hck, hek]; done) | (simp_all [D.closed, D.er, D.cL, D.erL, hck, hek] <;> omega)
end Go.Proofs.YtkjnhkoipgdfeaaDoor
end
section
set_option maxRecDepth 100000
set_option linter.unusedSimpArgs false
set_option linter.unusedVariables false
namespace Go.Proofs.YtkjnhkoipgdfeaaDoor
open Go GoV Go.RowKit
mutual
theorem nn_F : ∀ x : F, x.d.nn = x.d
  | .mk op n ks => by simp [F.d, D.nn, D.nnL, nnL_F' ks]
theorem nnL_F' : ∀ ks : List F, D.nnL (F.dL ks) = F.dL ks
  | [] => rfl
  | k :: ks => by simp [F.dL, D.nnL, nn_F k, nnL_F' ks]
end
theorem nnL_F (ks : List F) : D.nnL (ks.map F.d) = ks.map F.d := by rw [← fdL_map]; exact nnL_F' ks
def hp7 (f g : F) (km cy ld : Int) : Hp := ⟨[.cells f.cells, .cells g.cells, .cells [.int .i64 km], .cells [.int .i64 cy], .cells [.int .i64 ld]], []⟩
theorem zDe (f g : F) (km cy ld op : Int) : Eff M 24 [.int .i64 op, .ptr 0 0, .ptr 1 0, .ptr 2 0, .ptr 3 0, .ptr 4 0] (hp7 f g km cy ld) fun d hp => d = .int .i64 (zBe (.mk op 0 [f, g]) km cy ld) ∧ hp = hp7 f g km cy ld := by
  refine k24.oe 5 0 rfl rfl rfl ?_
  rw [ie24]
  unfold c24
  have cV := zE0 (.mk op 0 [f, g]) km cy ld
  have h1 := zAk f.kids
  have h2 := erL_F f.kids
  have h3 := zAk g.kids
  have h4 := erL_F g.kids
  rw [F.d_mk] at cV
  simp only [List.map_cons, List.map_nil, F.d_eq] at cV
  generalize zBe (.mk op 0 [f, g]) km cy ld = z at *
  unfold hp7
  repeat' (first | with_reducible (apply swq; constructor) | simp only [go_sem, seval, pe24, q24] | ((with_reducible refine zAb (cV) ?he ?hc ?_); (case he | hc => first | rfl | (simp [D.erL, D.er, D.cL, D.closed, h1, h2, h3, h4]; done))) | ((with_reducible apply s_bsl); (case he | hl | hc => first | rfl | assumption | omega | ((first | refine ⟨?_, ?_⟩ | skip) <;> first | omega | (simp only [lN, h1, h2, h3, h4] <;> omega)) | (simp [zAa, D.iV, D.cells, D.cL, D.closed, h1, h2, h3, h4]; first | done | omega))) | with_reducible (apply cA; constructor) | ((with_reducible refine And.intro ?hw ?_); (case hw => first | omega | rfl | exact ⟨_, _, rfl⟩ | assumption | (simp only [lN, h1, h2, h3, h4] <;> omega))) | with_reducible intro _)
  all_goals first | exact ⟨_, zAn, by simp⟩ | skip
theorem value_rng {f : F} (h : f.valid = true) (km cy ld : Int) : Rg (zBe f km cy ld) := by
  unfold zBe
  rw [h]
  exact val_rng (zDv _) (zDv _) (zDv _) f (zDf h)
set_option maxHeartbeats 4000000 in
theorem l7_p (f g : F) (km cy ld : Int) : Pur M 7 [f.d, g.d, .int .i64 km, .int .i64 cy, .int .i64 ld] (.bool true) := by
  refine k7.ok (C := C7) rfl rfl ?_
  rw [i7]
  unfold c7
  have ch := head_p
  have cf := rnodes_p f.nodes f (Nat.le_refl _) 25 (by omega)
  have cg := rnodes_p g.nodes g (Nat.le_refl _) 25 (by omega)
  have vf := valid_p f
  have vg := valid_p g
  have h1 := zAk f.kids
  have h2 := erL_F f.kids
  have h3 := zAk g.kids
  have h4 := erL_F g.kids
  have hr1 := fun β τ => rnL_F β τ f.kids
  have hr2 := fun β τ => rnL_F β τ g.kids
  rw [F.d_eq] at cf cg vf vg
  rw [F.d_eq f, F.d_eq g]
  by_cases n1 : f.nodes ≤ 25
  · have e1 : min f.nodes (25 + 1) = f.nodes := by omega
    have t1 : decide ((f.nodes : Int) > 25) = false := by simp; omega
    rw [e1] at cf
    by_cases n2 : g.nodes ≤ 25
    · have e2 : min g.nodes (25 + 1) = g.nodes := by omega
      have t2 : decide ((g.nodes : Int) > 25) = false := by simp; omega
      rw [e2] at cg
      cases hf : f.valid
      · rw [hf] at vf
        generalize f.nodes = nf at *
        generalize g.nodes = ng at *
        repeat' (first | with_reducible (apply swq; constructor) | simp only [go_sem, seval, P7, q7, t1, t2] | ((with_reducible refine zAb (ch) ?he ?hc ?_); (case he | hc => first | rfl | (simp [D.erL, D.er, D.cL, D.closed, h1, h2, h3, h4]; done))) | ((with_reducible refine zAb (cf) ?he ?hc ?_); (case he | hc => first | rfl | (simp [D.erL, D.er, D.cL, D.closed, h1, h2, h3, h4]; done))) | ((with_reducible refine zAb (cg) ?he ?hc ?_); (case he | hc => first | rfl | (simp [D.erL, D.er, D.cL, D.closed, h1, h2, h3, h4]; done))) | ((with_reducible refine zAb (vf) ?he ?hc ?_); (case he | hc => first | rfl | (simp [D.erL, D.er, D.cL, D.closed, h1, h2, h3, h4]; done))) | ((with_reducible apply s_bsl); (case he | hl | hc => first | rfl | assumption | omega | ((first | refine ⟨?_, ?_⟩ | skip) <;> first | omega | (simp only [lN, h1, h2, h3, h4] <;> omega)) | (simp [zAa, D.iV, D.cells, D.cL, D.closed, h1, h2, h3, h4]; first | done | omega))) | (with_reducible first | (apply cA; constructor) | (apply gA; constructor)) | ((with_reducible refine And.intro ?hw ?_); (case hw => first | omega | rfl | exact ⟨_, _, rfl⟩ | assumption | (simp only [lN, h1, h2, h3, h4] <;> omega))) | with_reducible intro _)
        all_goals first | omega | (simp_all [D.closed, D.er, D.cL, D.erL, h1, h2, h3, h4]; done) | (simp_all [D.closed, D.er, D.cL, D.erL, h1, h2, h3, h4] <;> omega)
      · rw [hf] at vf
        cases hg : g.valid
        · rw [hg] at vg
          generalize f.nodes = nf at *
          generalize g.nodes = ng at *
          repeat' (first | with_reducible (apply swq; constructor) | simp only [go_sem, seval, P7, q7, t1, t2] | ((with_reducible refine zAb (ch) ?he ?hc ?_); (case he | hc => first | rfl | (simp [D.erL, D.er, D.cL, D.closed, h1, h2, h3, h4]; done))) | ((with_reducible refine zAb (cf) ?he ?hc ?_); (case he | hc => first | rfl | (simp [D.erL, D.er, D.cL, D.closed, h1, h2, h3, h4]; done))) | ((with_reducible refine zAb (cg) ?he ?hc ?_); (case he | hc => first | rfl | (simp [D.erL, D.er, D.cL, D.closed, h1, h2, h3, h4]; done))) | ((with_reducible refine zAb (vf) ?he ?hc ?_); (case he | hc => first | rfl | (simp [D.erL, D.er, D.cL, D.closed, h1, h2, h3, h4]; done))) | ((with_reducible refine zAb (vg) ?he ?hc ?_); (case he | hc => first | rfl | (simp [D.erL, D.er, D.cL, D.closed, h1, h2, h3, h4]; done))) | ((with_reducible apply s_bsl); (case he | hl | hc => first | rfl | assumption | omega | ((first | refine ⟨?_, ?_⟩ | skip) <;> first | omega | (simp only [lN, h1, h2, h3, h4] <;> omega)) | (simp [zAa, D.iV, D.cells, D.cL, D.closed, h1, h2, h3, h4]; first | done | omega))) | (with_reducible first | (apply cA; constructor) | (apply gA; constructor)) | ((with_reducible refine And.intro ?hw ?_); (case hw => first | omega | rfl | exact ⟨_, _, rfl⟩ | assumption | (simp only [lN, h1, h2, h3, h4] <;> omega))) | with_reducible intro _)
          all_goals first | omega | (simp_all [D.closed, D.er, D.cL, D.erL, h1, h2, h3, h4]; done) | (simp_all [D.closed, D.er, D.cL, D.erL, h1, h2, h3, h4] <;> omega)
        · rw [hg] at vg
          have ca := zE0 f km cy ld
          have cb := zE0 g km cy ld
          have cc := zE0 (.mk 11 0 [f, g, .mk 1 0 []]) km cy ld
          have ra := value_rng hf km cy ld
          have rb := value_rng hg km cy ld
          have ec := means_if n1 n2 hf hg km cy ld
          have v5 := zDe f g km cy ld 5
          have v6 := zDe f g km cy ld 6
          have v7 := zDe f g km cy ld 7
          have v8 := zDe f g km cy ld 8
          have v9 := zDe f g km cy ld 9
          have v10 := zDe f g km cy ld 10
          rw [means_two n1 n2 hf hg (by omega) (by omega)] at v5 v6 v7 v8 v9 v10
          rw [ec] at cc
          rw [F.d_mk] at cc
          simp only [List.map_cons, List.map_nil, F.d_eq] at cc
          rw [F.d_eq] at ca cb
          have ec1 : (F.mk 1 0 []).cells = [.int .i64 1, .int .i64 0, .slice [] .no] := rfl
          rw [ec1] at cc
          generalize zBe f km cy ld = a at *
          generalize zBe g km cy ld = b at *
          have s1 := sat25_p (a + b)
          have s2 := sat25_p (a - b)
          have s3 := rtimes_p a b ra rb
          have o5 : opN 5 a b = sat (a + b) := rfl
          have o6 : opN 6 a b = sat (a - b) := rfl
          have o7 : opN 7 a b = sat (a * b) := rfl
          have o8 : opN 8 a b = fl a b := rfl
          have o9 : opN 9 a b = min a b := rfl
          have o10 : opN 10 a b = max a b := rfl
          rw [o5] at v5
          rw [o6] at v6
          rw [o7] at v7
          rw [o8] at v8
          rw [o9] at v9
          rw [o10] at v10
          obtain ⟨ra1, ra2⟩ := ra
          obtain ⟨rb1, rb2⟩ := rb
          have x8 : b = 0 → fl a b = 0 := fun h => by rw [h]; simp [fl]
          unfold chN at cc
          unfold hp7 at v5 v6 v7 v8 v9 v10
          generalize f.nodes = nf at *
          generalize g.nodes = ng at *
          generalize sat (a + b) = z1 at *
          generalize sat (a - b) = z2 at *
          generalize sat (a * b) = z3 at *
          generalize fl a b = z4 at *
          generalize hz5 : min a b = z5 at *
          generalize hz6 : max a b = z6 at *
          by_cases g1 : 0 < a
          · have u1 : decide (a > 0) = true := by simp [g1]
            rw [if_pos g1] at cc
            by_cases g2 : b = 0
            · have u2 : (b != 0) = false := by simp [g2]
              rw [x8 g2] at v8
              repeat' (first | with_reducible (apply swq; constructor) | simp only [go_sem, seval, P7, q7, t1, t2, u1, u2, minW, maxW, hz5, hz6, beq_self_eq_true] | simp (disch := omega) only [w64, w32, wu8, wu16, wu32, wu64] | ((with_reducible refine zAb (ch) ?he ?hc ?_); (case he | hc => first | rfl | (simp [D.erL, D.er, D.cL, D.closed, h1, h2, h3, h4, hr1, hr2, nnL_F]; done))) | ((with_reducible refine zAb (cf) ?he ?hc ?_); (case he | hc => first | rfl | (simp [D.erL, D.er, D.cL, D.closed, h1, h2, h3, h4, hr1, hr2, nnL_F]; done))) | ((with_reducible refine zAb (cg) ?he ?hc ?_); (case he | hc => first | rfl | (simp [D.erL, D.er, D.cL, D.closed, h1, h2, h3, h4, hr1, hr2, nnL_F]; done))) | ((with_reducible refine zAb (vf) ?he ?hc ?_); (case he | hc => first | rfl | (simp [D.erL, D.er, D.cL, D.closed, h1, h2, h3, h4, hr1, hr2, nnL_F]; done))) | ((with_reducible refine zAb (vg) ?he ?hc ?_); (case he | hc => first | rfl | (simp [D.erL, D.er, D.cL, D.closed, h1, h2, h3, h4, hr1, hr2, nnL_F]; done))) | ((with_reducible refine zAb (ca) ?he ?hc ?_); (case he | hc => first | rfl | (simp [D.erL, D.er, D.cL, D.closed, h1, h2, h3, h4, hr1, hr2, nnL_F]; done))) | ((with_reducible refine zAb (cb) ?he ?hc ?_); (case he | hc => first | rfl | (simp [D.erL, D.er, D.cL, D.closed, h1, h2, h3, h4, hr1, hr2, nnL_F]; done))) | ((with_reducible refine o_callN (cc) ?he ?hc ?_); (case he | hc => first | rfl | (simp [D.erL, D.er, D.nnL, D.nn, D.cL, D.closed, h1, h2, h3, h4, hr1, hr2, nnL_F]; done))) | ((with_reducible refine o_eff [0, 1, 2, 3, 4] [] (v5) ?hs ?he ?hh ?_); (case hs => exact ⟨by simp, by simp, by simp, by simp⟩); (case he => first | rfl | (simp [go_sem, seval, h1, h2, h3, h4, hr1, hr2, nnL_F]; done)); (case hh => first | rfl | (simp [go_sem, seval, h1, h2, h3, h4, hr1, hr2, nnL_F]; done)); rintro _ _ ⟨rfl, rfl⟩) | ((with_reducible refine o_eff [0, 1, 2, 3, 4] [] (v6) ?hs ?he ?hh ?_); (case hs => exact ⟨by simp, by simp, by simp, by simp⟩); (case he => first | rfl | (simp [go_sem, seval, h1, h2, h3, h4, hr1, hr2, nnL_F]; done)); (case hh => first | rfl | (simp [go_sem, seval, h1, h2, h3, h4, hr1, hr2, nnL_F]; done)); rintro _ _ ⟨rfl, rfl⟩) | ((with_reducible refine o_eff [0, 1, 2, 3, 4] [] (v7) ?hs ?he ?hh ?_); (case hs => exact ⟨by simp, by simp, by simp, by simp⟩); (case he => first | rfl | (simp [go_sem, seval, h1, h2, h3, h4, hr1, hr2, nnL_F]; done)); (case hh => first | rfl | (simp [go_sem, seval, h1, h2, h3, h4, hr1, hr2, nnL_F]; done)); rintro _ _ ⟨rfl, rfl⟩) | ((with_reducible refine o_eff [0, 1, 2, 3, 4] [] (v8) ?hs ?he ?hh ?_); (case hs => exact ⟨by simp, by simp, by simp, by simp⟩); (case he => first | rfl | (simp [go_sem, seval, h1, h2, h3, h4, hr1, hr2, nnL_F]; done)); (case hh => first | rfl | (simp [go_sem, seval, h1, h2, h3, h4, hr1, hr2, nnL_F]; done)); rintro _ _ ⟨rfl, rfl⟩) | ((with_reducible refine o_eff [0, 1, 2, 3, 4] [] (v9) ?hs ?he ?hh ?_); (case hs => exact ⟨by simp, by simp, by simp, by simp⟩); (case he => first | rfl | (simp [go_sem, seval, h1, h2, h3, h4, hr1, hr2, nnL_F]; done)); (case hh => first | rfl | (simp [go_sem, seval, h1, h2, h3, h4, hr1, hr2, nnL_F]; done)); rintro _ _ ⟨rfl, rfl⟩) | ((with_reducible refine o_eff [0, 1, 2, 3, 4] [] (v10) ?hs ?he ?hh ?_); (case hs => exact ⟨by simp, by simp, by simp, by simp⟩); (case he => first | rfl | (simp [go_sem, seval, h1, h2, h3, h4, hr1, hr2, nnL_F]; done)); (case hh => first | rfl | (simp [go_sem, seval, h1, h2, h3, h4, hr1, hr2, nnL_F]; done)); rintro _ _ ⟨rfl, rfl⟩) | ((with_reducible refine zAb (s1) ?he ?hc ?_); (case he | hc => first | rfl | (simp [D.erL, D.er, D.cL, D.closed, h1, h2, h3, h4, hr1, hr2, nnL_F]; done))) | ((with_reducible refine zAb (s2) ?he ?hc ?_); (case he | hc => first | rfl | (simp [D.erL, D.er, D.cL, D.closed, h1, h2, h3, h4, hr1, hr2, nnL_F]; done))) | ((with_reducible refine zAb (s3) ?he ?hc ?_); (case he | hc => first | rfl | (simp [D.erL, D.er, D.cL, D.closed, h1, h2, h3, h4, hr1, hr2, nnL_F]; done))) | ((with_reducible apply s_bsl); (case he | hl | hc => first | rfl | assumption | omega | ((first | refine ⟨?_, ?_⟩ | skip) <;> first | omega | (simp only [lN, h1, h2, h3, h4, hr1, hr2, nnL_F] <;> omega)) | (simp [zAa, D.iV, D.cells, D.cL, D.closed, h1, h2, h3, h4, hr1, hr2, nnL_F]; first | done | omega))) | (with_reducible first | (apply cA; constructor) | (apply gA; constructor)) | ((with_reducible refine And.intro ?hw ?_); (case hw => first | omega | rfl | exact ⟨_, _, rfl⟩ | assumption | (simp only [lN, h1, h2, h3, h4, hr1, hr2, nnL_F] <;> omega))) | with_reducible intro _)
              all_goals try (exfalso; omega)
              all_goals simp [D.closed, D.er]
            · have u2 : (b != 0) = true := by simp [g2]
              repeat' (first | with_reducible (apply swq; constructor) | simp only [go_sem, seval, P7, q7, t1, t2, u1, u2, minW, maxW, hz5, hz6, beq_self_eq_true] | simp (disch := omega) only [w64, w32, wu8, wu16, wu32, wu64] | ((with_reducible refine zAb (ch) ?he ?hc ?_); (case he | hc => first | rfl | (simp [D.erL, D.er, D.cL, D.closed, h1, h2, h3, h4, hr1, hr2, nnL_F]; done))) | ((with_reducible refine zAb (cf) ?he ?hc ?_); (case he | hc => first | rfl | (simp [D.erL, D.er, D.cL, D.closed, h1, h2, h3, h4, hr1, hr2, nnL_F]; done))) | ((with_reducible refine zAb (cg) ?he ?hc ?_); (case he | hc => first | rfl | (simp [D.erL, D.er, D.cL, D.closed, h1, h2, h3, h4, hr1, hr2, nnL_F]; done))) | ((with_reducible refine zAb (vf) ?he ?hc ?_); (case he | hc => first | rfl | (simp [D.erL, D.er, D.cL, D.closed, h1, h2, h3, h4, hr1, hr2, nnL_F]; done))) | ((with_reducible refine zAb (vg) ?he ?hc ?_); (case he | hc => first | rfl | (simp [D.erL, D.er, D.cL, D.closed, h1, h2, h3, h4, hr1, hr2, nnL_F]; done))) | ((with_reducible refine zAb (ca) ?he ?hc ?_); (case he | hc => first | rfl | (simp [D.erL, D.er, D.cL, D.closed, h1, h2, h3, h4, hr1, hr2, nnL_F]; done))) | ((with_reducible refine zAb (cb) ?he ?hc ?_); (case he | hc => first | rfl | (simp [D.erL, D.er, D.cL, D.closed, h1, h2, h3, h4, hr1, hr2, nnL_F]; done))) | ((with_reducible refine o_callN (cc) ?he ?hc ?_); (case he | hc => first | rfl | (simp [D.erL, D.er, D.nnL, D.nn, D.cL, D.closed, h1, h2, h3, h4, hr1, hr2, nnL_F]; done))) | ((with_reducible refine o_eff [0, 1, 2, 3, 4] [] (v5) ?hs ?he ?hh ?_); (case hs => exact ⟨by simp, by simp, by simp, by simp⟩); (case he => first | rfl | (simp [go_sem, seval, h1, h2, h3, h4, hr1, hr2, nnL_F]; done)); (case hh => first | rfl | (simp [go_sem, seval, h1, h2, h3, h4, hr1, hr2, nnL_F]; done)); rintro _ _ ⟨rfl, rfl⟩) | ((with_reducible refine o_eff [0, 1, 2, 3, 4] [] (v6) ?hs ?he ?hh ?_); (case hs => exact ⟨by simp, by simp, by simp, by simp⟩); (case he => first | rfl | (simp [go_sem, seval, h1, h2, h3, h4, hr1, hr2, nnL_F]; done)); (case hh => first | rfl | (simp [go_sem, seval, h1, h2, h3, h4, hr1, hr2, nnL_F]; done)); rintro _ _ ⟨rfl, rfl⟩) | ((with_reducible refine o_eff [0, 1, 2, 3, 4] [] (v7) ?hs ?he ?hh ?_); (case hs => exact ⟨by simp, by simp, by simp, by simp⟩); (case he => first | rfl | (simp [go_sem, seval, h1, h2, h3, h4, hr1, hr2, nnL_F]; done)); (case hh => first | rfl | (simp [go_sem, seval, h1, h2, h3, h4, hr1, hr2, nnL_F]; done)); rintro _ _ ⟨rfl, rfl⟩) | ((with_reducible refine o_eff [0, 1, 2, 3, 4] [] (v8) ?hs ?he ?hh ?_); (case hs => exact ⟨by simp, by simp, by simp, by simp⟩); (case he => first | rfl | (simp [go_sem, seval, h1, h2, h3, h4, hr1, hr2, nnL_F]; done)); (case hh => first | rfl | (simp [go_sem, seval, h1, h2, h3, h4, hr1, hr2, nnL_F]; done)); rintro _ _ ⟨rfl, rfl⟩) | ((with_reducible refine o_eff [0, 1, 2, 3, 4] [] (v9) ?hs ?he ?hh ?_); (case hs => exact ⟨by simp, by simp, by simp, by simp⟩); (case he => first | rfl | (simp [go_sem, seval, h1, h2, h3, h4, hr1, hr2, nnL_F]; done)); (case hh => first | rfl | (simp [go_sem, seval, h1, h2, h3, h4, hr1, hr2, nnL_F]; done)); rintro _ _ ⟨rfl, rfl⟩) | ((with_reducible refine o_eff [0, 1, 2, 3, 4] [] (v10) ?hs ?he ?hh ?_); (case hs => exact ⟨by simp, by simp, by simp, by simp⟩); (case he => first | rfl | (simp [go_sem, seval, h1, h2, h3, h4, hr1, hr2, nnL_F]; done)); (case hh => first | rfl | (simp [go_sem, seval, h1, h2, h3, h4, hr1, hr2, nnL_F]; done)); rintro _ _ ⟨rfl, rfl⟩) | ((with_reducible refine zAb (s1) ?he ?hc ?_); (case he | hc => first | rfl | (simp [D.erL, D.er, D.cL, D.closed, h1, h2, h3, h4, hr1, hr2, nnL_F]; done))) | ((with_reducible refine zAb (s2) ?he ?hc ?_); (case he | hc => first | rfl | (simp [D.erL, D.er, D.cL, D.closed, h1, h2, h3, h4, hr1, hr2, nnL_F]; done))) | ((with_reducible refine zAb (s3) ?he ?hc ?_); (case he | hc => first | rfl | (simp [D.erL, D.er, D.cL, D.closed, h1, h2, h3, h4, hr1, hr2, nnL_F]; done))) | ((with_reducible apply s_bsl); (case he | hl | hc => first | rfl | assumption | omega | ((first | refine ⟨?_, ?_⟩ | skip) <;> first | omega | (simp only [lN, h1, h2, h3, h4, hr1, hr2, nnL_F] <;> omega)) | (simp [zAa, D.iV, D.cells, D.cL, D.closed, h1, h2, h3, h4, hr1, hr2, nnL_F]; first | done | omega))) | (with_reducible first | (apply cA; constructor) | (apply gA; constructor)) | ((with_reducible refine And.intro ?hw ?_); (case hw => first | omega | rfl | exact ⟨_, _, rfl⟩ | assumption | (simp only [lN, h1, h2, h3, h4, hr1, hr2, nnL_F] <;> omega))) | with_reducible intro _)
              all_goals try (exfalso; omega)
              all_goals simp [D.closed, D.er]
          · have u1 : decide (a > 0) = false := by simp; omega
            rw [if_neg g1] at cc
            by_cases g2 : b = 0
            · have u2 : (b != 0) = false := by simp [g2]
              rw [x8 g2] at v8
              repeat' (first | with_reducible (apply swq; constructor) | simp only [go_sem, seval, P7, q7, t1, t2, u1, u2, minW, maxW, hz5, hz6, beq_self_eq_true] | simp (disch := omega) only [w64, w32, wu8, wu16, wu32, wu64] | ((with_reducible refine zAb (ch) ?he ?hc ?_); (case he | hc => first | rfl | (simp [D.erL, D.er, D.cL, D.closed, h1, h2, h3, h4, hr1, hr2, nnL_F]; done))) | ((with_reducible refine zAb (cf) ?he ?hc ?_); (case he | hc => first | rfl | (simp [D.erL, D.er, D.cL, D.closed, h1, h2, h3, h4, hr1, hr2, nnL_F]; done))) | ((with_reducible refine zAb (cg) ?he ?hc ?_); (case he | hc => first | rfl | (simp [D.erL, D.er, D.cL, D.closed, h1, h2, h3, h4, hr1, hr2, nnL_F]; done))) | ((with_reducible refine zAb (vf) ?he ?hc ?_); (case he | hc => first | rfl | (simp [D.erL, D.er, D.cL, D.closed, h1, h2, h3, h4, hr1, hr2, nnL_F]; done))) | ((with_reducible refine zAb (vg) ?he ?hc ?_); (case he | hc => first | rfl | (simp [D.erL, D.er, D.cL, D.closed, h1, h2, h3, h4, hr1, hr2, nnL_F]; done))) | ((with_reducible refine zAb (ca) ?he ?hc ?_); (case he | hc => first | rfl | (simp [D.erL, D.er, D.cL, D.closed, h1, h2, h3, h4, hr1, hr2, nnL_F]; done))) | ((with_reducible refine zAb (cb) ?he ?hc ?_); (case he | hc => first | rfl | (simp [D.erL, D.er, D.cL, D.closed, h1, h2, h3, h4, hr1, hr2, nnL_F]; done))) | ((with_reducible refine o_callN (cc) ?he ?hc ?_); (case he | hc => first | rfl | (simp [D.erL, D.er, D.nnL, D.nn, D.cL, D.closed, h1, h2, h3, h4, hr1, hr2, nnL_F]; done))) | ((with_reducible refine o_eff [0, 1, 2, 3, 4] [] (v5) ?hs ?he ?hh ?_); (case hs => exact ⟨by simp, by simp, by simp, by simp⟩); (case he => first | rfl | (simp [go_sem, seval, h1, h2, h3, h4, hr1, hr2, nnL_F]; done)); (case hh => first | rfl | (simp [go_sem, seval, h1, h2, h3, h4, hr1, hr2, nnL_F]; done)); rintro _ _ ⟨rfl, rfl⟩) | ((with_reducible refine o_eff [0, 1, 2, 3, 4] [] (v6) ?hs ?he ?hh ?_); (case hs => exact ⟨by simp, by simp, by simp, by simp⟩); (case he => first | rfl | (simp [go_sem, seval, h1, h2, h3, h4, hr1, hr2, nnL_F]; done)); (case hh => first | rfl | (simp [go_sem, seval, h1, h2, h3, h4, hr1, hr2, nnL_F]; done)); rintro _ _ ⟨rfl, rfl⟩) | ((with_reducible refine o_eff [0, 1, 2, 3, 4] [] (v7) ?hs ?he ?hh ?_); (case hs => exact ⟨by simp, by simp, by simp, by simp⟩); (case he => first | rfl | (simp [go_sem, seval, h1, h2, h3, h4, hr1, hr2, nnL_F]; done)); (case hh => first | rfl | (simp [go_sem, seval, h1, h2, h3, h4, hr1, hr2, nnL_F]; done)); rintro _ _ ⟨rfl, rfl⟩) | ((with_reducible refine o_eff [0, 1, 2, 3, 4] [] (v8) ?hs ?he ?hh ?_); (case hs => exact ⟨by simp, by simp, by simp, by simp⟩); (case he => first | rfl | (simp [go_sem, seval, h1, h2, h3, h4, hr1, hr2, nnL_F]; done)); (case hh => first | rfl | (simp [go_sem, seval, h1, h2, h3, h4, hr1, hr2, nnL_F]; done)); rintro _ _ ⟨rfl, rfl⟩) | ((with_reducible refine o_eff [0, 1, 2, 3, 4] [] (v9) ?hs ?he ?hh ?_); (case hs => exact ⟨by simp, by simp, by simp, by simp⟩); (case he => first | rfl | (simp [go_sem, seval, h1, h2, h3, h4, hr1, hr2, nnL_F]; done)); (case hh => first | rfl | (simp [go_sem, seval, h1, h2, h3, h4, hr1, hr2, nnL_F]; done)); rintro _ _ ⟨rfl, rfl⟩) | ((with_reducible refine o_eff [0, 1, 2, 3, 4] [] (v10) ?hs ?he ?hh ?_); (case hs => exact ⟨by simp, by simp, by simp, by simp⟩); (case he => first | rfl | (simp [go_sem, seval, h1, h2, h3, h4, hr1, hr2, nnL_F]; done)); (case hh => first | rfl | (simp [go_sem, seval, h1, h2, h3, h4, hr1, hr2, nnL_F]; done)); rintro _ _ ⟨rfl, rfl⟩) | ((with_reducible refine zAb (s1) ?he ?hc ?_); (case he | hc => first | rfl | (simp [D.erL, D.er, D.cL, D.closed, h1, h2, h3, h4, hr1, hr2, nnL_F]; done))) | ((with_reducible refine zAb (s2) ?he ?hc ?_); (case he | hc => first | rfl | (simp [D.erL, D.er, D.cL, D.closed, h1, h2, h3, h4, hr1, hr2, nnL_F]; done))) | ((with_reducible refine zAb (s3) ?he ?hc ?_); (case he | hc => first | rfl | (simp [D.erL, D.er, D.cL, D.closed, h1, h2, h3, h4, hr1, hr2, nnL_F]; done))) | ((with_reducible apply s_bsl); (case he | hl | hc => first | rfl | assumption | omega | ((first | refine ⟨?_, ?_⟩ | skip) <;> first | omega | (simp only [lN, h1, h2, h3, h4, hr1, hr2, nnL_F] <;> omega)) | (simp [zAa, D.iV, D.cells, D.cL, D.closed, h1, h2, h3, h4, hr1, hr2, nnL_F]; first | done | omega))) | (with_reducible first | (apply cA; constructor) | (apply gA; constructor)) | ((with_reducible refine And.intro ?hw ?_); (case hw => first | omega | rfl | exact ⟨_, _, rfl⟩ | assumption | (simp only [lN, h1, h2, h3, h4, hr1, hr2, nnL_F] <;> omega))) | with_reducible intro _)
              all_goals try (exfalso; omega)
              all_goals simp [D.closed, D.er]
            · have u2 : (b != 0) = true := by simp [g2]
              repeat' (first | with_reducible (apply swq; constructor) | simp only [go_sem, seval, P7, q7, t1, t2, u1, u2, minW, maxW, hz5, hz6, beq_self_eq_true] | simp (disch := omega) only [w64, w32, wu8, wu16, wu32, wu64] | ((with_reducible refine zAb (ch) ?he ?hc ?_); (case he | hc => first | rfl | (simp [D.erL, D.er, D.cL, D.closed, h1, h2, h3, h4, hr1, hr2, nnL_F]; done))) | ((with_reducible refine zAb (cf) ?he ?hc ?_); (case he | hc => first | rfl | (simp [D.erL, D.er, D.cL, D.closed, h1, h2, h3, h4, hr1, hr2, nnL_F]; done))) | ((with_reducible refine zAb (cg) ?he ?hc ?_); (case he | hc => first | rfl | (simp [D.erL, D.er, D.cL, D.closed, h1, h2, h3, h4, hr1, hr2, nnL_F]; done))) | ((with_reducible refine zAb (vf) ?he ?hc ?_); (case he | hc => first | rfl | (simp [D.erL, D.er, D.cL, D.closed, h1, h2, h3, h4, hr1, hr2, nnL_F]; done))) | ((with_reducible refine zAb (vg) ?he ?hc ?_); (case he | hc => first | rfl | (simp [D.erL, D.er, D.cL, D.closed, h1, h2, h3, h4, hr1, hr2, nnL_F]; done))) | ((with_reducible refine zAb (ca) ?he ?hc ?_); (case he | hc => first | rfl | (simp [D.erL, D.er, D.cL, D.closed, h1, h2, h3, h4, hr1, hr2, nnL_F]; done))) | ((with_reducible refine zAb (cb) ?he ?hc ?_); (case he | hc => first | rfl | (simp [D.erL, D.er, D.cL, D.closed, h1, h2, h3, h4, hr1, hr2, nnL_F]; done))) | ((with_reducible refine o_callN (cc) ?he ?hc ?_); (case he | hc => first | rfl | (simp [D.erL, D.er, D.nnL, D.nn, D.cL, D.closed, h1, h2, h3, h4, hr1, hr2, nnL_F]; done))) | ((with_reducible refine o_eff [0, 1, 2, 3, 4] [] (v5) ?hs ?he ?hh ?_); (case hs => exact ⟨by simp, by simp, by simp, by simp⟩); (case he => first | rfl | (simp [go_sem, seval, h1, h2, h3, h4, hr1, hr2, nnL_F]; done)); (case hh => first | rfl | (simp [go_sem, seval, h1, h2, h3, h4, hr1, hr2, nnL_F]; done)); rintro _ _ ⟨rfl, rfl⟩) | ((with_reducible refine o_eff [0, 1, 2, 3, 4] [] (v6) ?hs ?he ?hh ?_); (case hs => exact ⟨by simp, by simp, by simp, by simp⟩); (case he => first | rfl | (simp [go_sem, seval, h1, h2, h3, h4, hr1, hr2, nnL_F]; done)); (case hh => first | rfl | (simp [go_sem, seval, h1, h2, h3, h4, hr1, hr2, nnL_F]; done)); rintro _ _ ⟨rfl, rfl⟩) | ((with_reducible refine o_eff [0, 1, 2, 3, 4] [] (v7) ?hs ?he ?hh ?_); (case hs => exact ⟨by simp, by simp, by simp, by simp⟩); (case he => first | rfl | (simp [go_sem, seval, h1, h2, h3, h4, hr1, hr2, nnL_F]; done)); (case hh => first | rfl | (simp [go_sem, seval, h1, h2, h3, h4, hr1, hr2, nnL_F]; done)); rintro _ _ ⟨rfl, rfl⟩) | ((with_reducible refine o_eff [0, 1, 2, 3, 4] [] (v8) ?hs ?he ?hh ?_); (case hs => exact ⟨by simp, by simp, by simp, by simp⟩); (case he => first | rfl | (simp [go_sem, seval, h1, h2, h3, h4, hr1, hr2, nnL_F]; done)); (case hh => first | rfl | (simp [go_sem, seval, h1, h2, h3, h4, hr1, hr2, nnL_F]; done)); rintro _ _ ⟨rfl, rfl⟩) | ((with_reducible refine o_eff [0, 1, 2, 3, 4] [] (v9) ?hs ?he ?hh ?_); (case hs => exact ⟨by simp, by simp, by simp, by simp⟩); (case he => first | rfl | (simp [go_sem, seval, h1, h2, h3, h4, hr1, hr2, nnL_F]; done)); (case hh => first | rfl | (simp [go_sem, seval, h1, h2, h3, h4, hr1, hr2, nnL_F]; done)); rintro _ _ ⟨rfl, rfl⟩) | ((with_reducible refine o_eff [0, 1, 2, 3, 4] [] (v10) ?hs ?he ?hh ?_); (case hs => exact ⟨by simp, by simp, by simp, by simp⟩); (case he => first | rfl | (simp [go_sem, seval, h1, h2, h3, h4, hr1, hr2, nnL_F]; done)); (case hh => first | rfl | (simp [go_sem, seval, h1, h2, h3, h4, hr1, hr2, nnL_F]; done)); rintro _ _ ⟨rfl, rfl⟩) | ((with_reducible refine zAb (s1) ?he ?hc ?_); (case he | hc => first | rfl | (simp [D.erL, D.er, D.cL, D.closed, h1, h2, h3, h4, hr1, hr2, nnL_F]; done))) | ((with_reducible refine zAb (s2) ?he ?hc ?_); (case he | hc => first | rfl | (simp [D.erL, D.er, D.cL, D.closed, h1, h2, h3, h4, hr1, hr2, nnL_F]; done))) | ((with_reducible refine zAb (s3) ?he ?hc ?_); (case he | hc => first | rfl | (simp [D.erL, D.er, D.cL, D.closed, h1, h2, h3, h4, hr1, hr2, nnL_F]; done))) | ((with_reducible apply s_bsl); (case he | hl | hc => first | rfl | assumption | omega | ((first | refine ⟨?_, ?_⟩ | skip) <;> first | omega | (simp only [lN, h1, h2, h3, h4, hr1, hr2, nnL_F] <;> omega)) | (simp [zAa, D.iV, D.cells, D.cL, D.closed, h1, h2, h3, h4, hr1, hr2, nnL_F]; first | done | omega))) | (with_reducible first | (apply cA; constructor) | (apply gA; constructor)) | ((with_reducible refine And.intro ?hw ?_); (case hw => first | omega | rfl | exact ⟨_, _, rfl⟩ | assumption | (simp only [lN, h1, h2, h3, h4, hr1, hr2, nnL_F] <;> omega))) | with_reducible intro _)
              all_goals try (exfalso; omega)
              all_goals simp [D.closed, D.er]
    · have e2 : min g.nodes (25 + 1) = 26 := by omega
      rw [e2] at cg
      generalize f.nodes = nf at *
      repeat' (first | with_reducible (apply swq; constructor) | simp only [go_sem, seval, P7, q7, t1] | ((with_reducible refine zAb (ch) ?he ?hc ?_); (case he | hc => first | rfl | (simp [D.erL, D.er, D.cL, D.closed, h1, h2, h3, h4]; done))) | ((with_reducible refine zAb (cf) ?he ?hc ?_); (case he | hc => first | rfl | (simp [D.erL, D.er, D.cL, D.closed, h1, h2, h3, h4]; done))) | ((with_reducible refine zAb (cg) ?he ?hc ?_); (case he | hc => first | rfl | (simp [D.erL, D.er, D.cL, D.closed, h1, h2, h3, h4]; done))) | ((with_reducible apply s_bsl); (case he | hl | hc => first | rfl | assumption | omega | ((first | refine ⟨?_, ?_⟩ | skip) <;> first | omega | (simp only [lN, h1, h2, h3, h4] <;> omega)) | (simp [zAa, D.iV, D.cells, D.cL, D.closed, h1, h2, h3, h4]; first | done | omega))) | (with_reducible first | (apply cA; constructor) | (apply gA; constructor)) | ((with_reducible refine And.intro ?hw ?_); (case hw => first | omega | rfl | exact ⟨_, _, rfl⟩ | assumption | (simp only [lN, h1, h2, h3, h4] <;> omega))) | with_reducible intro _)
      all_goals first | omega | (simp_all [D.closed, D.er, D.cL, D.erL, h1, h2, h3, h4]; done) | (simp_all [D.closed, D.er, D.cL, D.erL, h1, h2, h3, h4] <;> omega)
  · have e1 : min f.nodes (25 + 1) = 26 := by omega
    rw [e1] at cf
    repeat' (first | with_reducible (apply swq; constructor) | simp only [go_sem, seval, P7, q7] | ((with_reducible refine zAb (ch) ?he ?hc ?_); (case he | hc => first | rfl | (simp [D.erL, D.er, D.cL, D.closed, h1, h2, h3, h4]; done))) | ((with_reducible refine zAb (cf) ?he ?hc ?_); (case he | hc => first | rfl | (simp [D.erL, D.er, D.cL, D.closed, h1, h2, h3, h4]; done))) | ((with_reducible apply s_bsl); (case he | hl | hc => first | rfl | assumption | omega | ((first | refine ⟨?_, ?_⟩ | skip) <;> first | omega | (simp only [lN, h1, h2, h3, h4] <;> omega)) | (simp [zAa, D.iV, D.cells, D.cL, D.closed, h1, h2, h3, h4]; first | done | omega))) | (with_reducible first | (apply cA; constructor) | (apply gA; constructor)) | ((with_reducible refine And.intro ?hw ?_); (case hw => first | omega | rfl | exact ⟨_, _, rfl⟩ | assumption | (simp only [lN, h1, h2, h3, h4] <;> omega))) | with_reducible intro _)
    all_goals first | omega | (simp_all [D.closed, D.er, D.cL, D.erL, h1, h2, h3, h4]; done) | (simp_all [D.closed, D.er, D.cL, D.erL, h1, h2, h3, h4] <;> omega)
end Go.Proofs.YtkjnhkoipgdfeaaDoor
end
section
set_option maxRecDepth 100000
set_option linter.unusedSimpArgs false
set_option linter.unusedVariables false
namespace Go.Proofs.YtkjnhkoipgdfeaaDoor
open Go GoV Go.RowKit
theorem opens_iv {w : World} : ∀ n, Opens Tryd.prog w n 35 (fun x : Int × Int => [.int .i64 x.1, .int .i64 x.2]) (fun x => True) := by
  refine opens_all fun n => ?_
  have hF : OpensF Tryd.prog w n [⟨"Low", 3, 0, false, "", "", 0⟩, ⟨"High", 3, 1, false, "", "", 8⟩] 0 _ _ :=
    zBm (c := 1) rfl (by kernel_rfl) (zBd Tryd.underlying3) (zBm (c := 1) rfl (by kernel_rfl) (zBd Tryd.underlying3) opensF_nil)
  exact (zD7 Tryd.underlying35 (by kernel_rfl) hF).imp (fun a => (a.1, a.2.1)) (fun a _ => by simp) (fun a h => trivial)
theorem opens_use {w : World} : ∀ n, Opens Tryd.prog w n 37 (fun u : Use => [.int .i64 u.km.1, .int .i64 u.km.2, .int .i64 u.cy.1, .int .i64 u.cy.2, .int .i64 u.ld.1, .int .i64 u.ld.2]) (fun _ => True) := by
  refine opens_all fun n => ?_
  have hF : OpensF Tryd.prog w n [⟨"Km", 35, 0, false, "", "", 0⟩, ⟨"Cycles", 35, 2, false, "", "", 16⟩, ⟨"Load", 35, 4, false, "", "", 32⟩] 0 _ _ :=
    zBm (c := 2) rfl (by kernel_rfl) (opens_iv n) (zBm (c := 2) rfl (by kernel_rfl) (opens_iv n) (zBm (c := 2) rfl (by kernel_rfl) (opens_iv n) opensF_nil))
  exact (zD7 Tryd.underlying37 (by kernel_rfl) hF).imp (fun a => Use.mk a.1 a.2.1 a.2.2.1) (fun a _ => by simp) (fun a h => trivial)
theorem opens_kids {w : World} (n : Nat) (h : Opens Tryd.prog w n 24 F.cells (fun _ => True)) : Opens Tryd.prog w (n + 1) 22 (fun l : List F => [.slice (l.map F.d) .no]) (fun _ => True) :=
  (opens_slice Tryd.underlying22 (show 0 < Tryd.prog.cellsOf 24 by rw [show Tryd.prog.cellsOf 24 = 3 by kernel_rfl]; omega) h).imp id (fun a _ => by
    have e : (fun x : F => pk x.cells) = F.d := by funext x; rw [F.d_eq]; rfl
    show [D.slice (a.map F.d) .no] = [D.slice (a.map fun x => pk x.cells) .no]
    rw [e]) (fun a h => trivial)
theorem opens_f {w : World} : ∀ n, Opens Tryd.prog w n 24 F.cells (fun _ => True)
  | 0 => opens_zero
  | n + 1 => by
    have hk : Opens Tryd.prog w n 22 (fun l : List F => [.slice (l.map F.d) .no]) (fun _ => True) := by
      cases n with
      | zero => exact opens_zero
      | succ m => exact opens_kids m (opens_f m)
    have hF : OpensF Tryd.prog w n [⟨"Op", 3, 0, false, "", "", 0⟩, ⟨"N", 3, 1, false, "", "", 8⟩, ⟨"Kids", 22, 2, false, "", "", 16⟩] 0 _ _ :=
      zBm (c := 1) rfl (by kernel_rfl) (zBd Tryd.underlying3) (zBm (c := 1) rfl (by kernel_rfl) (zBd Tryd.underlying3) (zBm (c := 1) rfl (by kernel_rfl) hk opensF_nil))
    exact (zD7 Tryd.underlying24 (by kernel_rfl) hF).imp (fun a => F.mk a.1 a.2.1 a.2.2.1) (fun a _ => by simp [F.cells, F.op, F.num, F.kids]) (fun a h => trivial)
end Go.Proofs.YtkjnhkoipgdfeaaDoor
end
section
namespace Go.Proofs.YtkjnhkoipgdfeaaDoor
open Go GoV Go.RowKit
theorem contains_c (f : F) (u : Use) (km cy ld : Int) : Pur M 4 [.agg f.cells, useD u, .int .i64 km, .int .i64 cy, .int .i64 ld] (.bool true) := by
  have h := l4_p f u km cy ld
  rw [F.d_eq f] at h; exact h
theorem exact_c (f : F) (km cy ld : Int) : Pur M 5 [.agg f.cells, .int .i64 km, .int .i64 cy, .int .i64 ld] (.bool true) := by
  have h := l5_p f km cy ld
  rw [F.d_eq f] at h; exact h
theorem parts_c (f : F) (u v : Use) : Pur M 6 [.agg f.cells, useD u, useD v] (.bool true) := by
  have h := l6_p f u v
  rw [F.d_eq f] at h; exact h
theorem means_c (f g : F) (km cy ld : Int) : Pur M 7 [.agg f.cells, .agg g.cells, .int .i64 km, .int .i64 cy, .int .i64 ld] (.bool true) := by
  have h := l7_p f g km cy ld
  rw [F.d_eq f, F.d_eq g] at h; exact h
end Go.Proofs.YtkjnhkoipgdfeaaDoor
end
