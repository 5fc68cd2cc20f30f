/- Own texts, merged by a program: the engine that walks the code, and what the functions that the law reaches compute. -/
import Derived.Test.YtkjnhkoipgdfeaaDoorXb5
section
set_option maxRecDepth 100000
set_option linter.unusedSimpArgs false
set_option linter.unusedVariables false
namespace Go.Proofs.YtkjnhkoipgdfeaaDoor
open Go GoV Go.RowKit
theorem need_no {en : Int} {w : Tx} {l : List Tok} {go : List Tok → PR} {e p : Int} (h : needP en w l go = .no e p) : (gotN 4 [w] l = none ∧ failP en l = .no e p) ∨ ∃ t l', l = t :: l' ∧ (∃ i, gotN 4 [w] l = some i) ∧ go l' = .no e p := by
 unfold needP at h
 cases hg : gotN 4 [w] l with
 | none => rw [hg] at h; exact .inl ⟨rfl, h⟩
 | some i =>
   rw [hg] at h
   obtain ⟨t, l', rfl, _⟩ := zBt hg
   exact .inr ⟨t, l', rfl, ⟨i, by first | exact hg | rfl⟩, h⟩
theorem then_no {p : PR} {go : F → List Tok → PR} {e q : Int} (h : thenP p go = .no e q) : p = .no e q ∨ ∃ f r', p = .ok f r' ∧ go f r' = .no e q := by
 cases p with
 | no e1 q1 => simp only [thenP] at h; exact .inl h
 | ok f r' => exact .inr ⟨f, r', rfl, h⟩
set_option maxHeartbeats 4000000 in
theorem factor_x {fo : List Tok → PR} {en : Int} {N K : Nat} (hfo : OpOk 33 fo en N) (hx : OpX 33 fo en N K) (hN : N ≤ 100000) : OpX 54 (factP fo en) en N (K + 1) := by
 intro l e p hl hK hG h
 refine zCm (C := E54 1 0) (fn := Tryd.f54) Tryd.func54 (by kernel_rfl) (by kernel_rfl) (rc := c54) z54 (by kernel_rfl) rfl (by rw [show ([D.ptr 0 0] : List D).length = 1 from rfl]; decide) rfl rfl ?_ rfl (fun _ _ => trivial)
 rw [ie54]
 unfold c54
 have hd1 : decide ((-1 : Int) ≥ 0) = false := rfl
 cases l with
 | nil =>
   simp only [factP] at h
   have c1 := got_e 1 [tKm, tCy, tLd] (by simp) [] (by simp) en
   have c2 := got_e 1 [tMin, tMax, tIf] (by simp) [] (by simp) en
   have g1 : gotI 1 [tKm, tCy, tLd] [] = -1 := rfl
   have g2 : gotI 1 [tMin, tMax, tIf] [] = -1 := rfl
   have g3 : gotR 1 [tKm, tCy, tLd] [] = [] := rfl
   have g4 : gotR 1 [tMin, tMax, tIf] [] = [] := rfl
   rw [g1, g3, sn1] at c1
   rw [g2, g4, sn2] at c2
   have cx := need_x [40] [] (by simp) en e p rfl h
   have e0 : tokL [] = [] := rfl
   have hz : decide (((0 : Nat) : Int) > 0) = false := rfl
   have hl0 : ([] : List D).length = 0 := rfl
   unfold hpP at c1 c2 cx ⊢
   rw [e0] at c1 c2 cx ⊢
   have wQ := tw; repeat' (first | with_reducible (apply swq; constructor) | simp only [go_sem, seval, zA2, pe54, q54, hz, hl0, hd1] | ((with_reducible first | refine c_eff [0] [] (zAf c1 _) ?hs ?he ?hh ?_ | refine o_eff [0] [] (zAf c1 _) ?hs ?he ?hh ?_); (case hs => exact so); (case he | hh => exact sh wQ); try rintro _ _ ⟨rfl, rfl⟩) | ((with_reducible first | refine c_eff [0] [] (zAf c2 _) ?hs ?he ?hh ?_ | refine o_eff [0] [] (zAf c2 _) ?hs ?he ?hh ?_); (case hs => exact so); (case he | hh => exact sh wQ); try rintro _ _ ⟨rfl, rfl⟩) | ((with_reducible refine o_pan [0] [] (zBm cx _) ?hs ?he ?hh ?hk); (case hs => exact so); (case he | hh => exact sh wQ); (case hk => intro _ _ q; subst q; first | rfl | apply hPan | (simp [go_sem, seval]; done))) | ((with_reducible apply zAp); (case he => rfl); (case hK | hc | hr | hV => exact sd wQ)) | ((with_reducible apply zAq); (case he => rfl); (case hV | hK | hr | hl => exact sd wQ)) | ((with_reducible apply zAs); (case he => rfl); (case hK | hc | hr => exact sd wQ)) | ((with_reducible apply zAr); (case he => rfl); (case hK | hc | hr | hx | hn => exact sd wQ)) | ((with_reducible first | apply s_bsl | apply t_bsl); (case he | hl | hc => exact sd wQ)) | ((with_reducible apply zA9); (case hx => exact sd wQ)) | ((with_reducible first | apply zA7 | apply zA8); (case h0 | h1 | hx => exact sd wQ)) | ((with_reducible apply zA6); (case h0 | h1 | h2 | hx => exact sd wQ)) | ((with_reducible first | apply zA4 | apply zA5); (case h0 | h1 | hc => exact sd wQ)) | ((with_reducible apply zA3); (case h0 | h1 | h2 | hc => exact sd wQ)) | (with_reducible first | (apply cdA; constructor) | (apply gdA; constructor)) | ((with_reducible refine And.intro ?hw ?_); (case hw => exact sw wQ)) | with_reducible intro _)
 | cons t l' =>
 simp only [factP] at h
 simp only [List.length_cons] at hl hK
 have hlr := zDz l'
 have hel := zCn l'
 have hpos : decide (((l'.length + 1 : Nat) : Int) > 0) = true := by simp only [decide_eq_true_eq]; omega
 have hcons := zEe t l'
 have hGt : GoodT l' := hG.suf (List.suffix_cons _ _)
 by_cases hk : t.kind = 2
 ·rw [if_pos hk] at h
  cases h
 rw [if_neg hk] at h
 have tk : (t.kind == 2) = false := by simp [hk]
 have c1 := got_e 1 [tKm, tCy, tLd] (by simp) (t :: l') (by simp; omega) en
 rw [sn1] at c1
 cases hg1 : gotN 1 [tKm, tCy, tLd] (t :: l') with
 | some i => rw [hg1] at h; cases h
 | none =>
 rw [hg1] at h
 obtain ⟨m1, m2⟩ := zDu hg1
 rw [m1, m2] at c1
 have c2 := got_e 1 [tMin, tMax, tIf] (by simp) (t :: l') (by simp; omega) en
 rw [sn2] at c2
 cases hg2 : gotN 1 [tMin, tMax, tIf] (t :: l') with
 | some i =>
   rw [hg2] at h
   simp only [callP] at h
   obtain ⟨t2, l2, e0, n1, n2, n3, n4, n5⟩ := zBt hg2
   cases e0
   rw [n1, n2] at c2
   simp only [List.length_cons, List.length_nil] at n3
   have hd : decide ((i : Int) ≥ 0) = true := by simp
   obtain ⟨RA, hRA⟩ : ∃ R, R = (RC.regD r54_12 r54_13) := ⟨_, rfl⟩
   obtain ⟨RB, hRB⟩ : ∃ R, R = (RC.regD r54_17 r54_18) := ⟨_, rfl⟩
   rw [← hRA, ← hRB]
   have hmx : max (1 : Int) i = ((max 1 i : Nat) : Int) := by omega
   have hmb : max 1 i ≤ 3 := by omega
   rcases need_no h with ⟨hn, hf⟩ | ⟨t3, l3, rfl, ⟨i3, hg3⟩, h3⟩
   ·have cx := need_x [40] l' (by omega) en e p hn hf
    unfold hpP at c1 c2 cx ⊢
    rw [hcons] at c1 c2 ⊢
    have wQ := And.intro @hlr (And.intro @hel @zAe); repeat' (first | with_reducible (apply swq; constructor) | simp only [go_sem, seval, zA2, pe54, q54, hlr, hpos, tk, hd, hd1, List.length_cons] | simp (disch := omega) only [w64, w32, wu8, wu16, wu32, wu64] | ((with_reducible first | refine c_eff [0] [] (zAf c1 _) ?hs ?he ?hh ?_ | refine o_eff [0] [] (zAf c1 _) ?hs ?he ?hh ?_); (case hs => exact so); (case he | hh => exact sh wQ); try rintro _ _ ⟨rfl, rfl⟩) | ((with_reducible first | refine c_eff [0] [] (zAf c2 _) ?hs ?he ?hh ?_ | refine o_eff [0] [] (zAf c2 _) ?hs ?he ?hh ?_); (case hs => exact so); (case he | hh => exact sh wQ); try rintro _ _ ⟨rfl, rfl⟩) | ((with_reducible refine o_pan [0] [] (zBm cx _) ?hs ?he ?hh ?hk); (case hs => exact so); (case he | hh => exact sh wQ); (case hk => intro _ _ q; subst q; first | rfl | apply hPan | (simp [go_sem, seval, hlr, hel, zAe]; done))) | ((with_reducible apply zAp); (case he => rfl); (case hK | hc | hr | hV => exact sd wQ)) | ((with_reducible apply zAq); (case he => rfl); (case hV | hK | hr | hl => exact sd wQ)) | ((with_reducible apply zAs); (case he => rfl); (case hK | hc | hr => exact sd wQ)) | ((with_reducible apply zAr); (case he => rfl); (case hK | hc | hr | hx | hn => exact sd wQ)) | ((with_reducible first | apply s_bsl | apply t_bsl); (case he | hl | hc => exact sd wQ)) | ((with_reducible apply zA9); (case hx => exact sd wQ)) | ((with_reducible first | apply zA7 | apply zA8); (case h0 | h1 | hx => exact sd wQ)) | ((with_reducible apply zA6); (case h0 | h1 | h2 | hx => exact sd wQ)) | ((with_reducible first | apply zA4 | apply zA5); (case h0 | h1 | hc => exact sd wQ)) | ((with_reducible apply zA3); (case h0 | h1 | h2 | hc => exact sd wQ)) | (with_reducible first | (apply cdA; constructor) | (apply gdA; constructor)) | ((with_reducible refine And.intro ?hw ?_); (case hw => exact sw wQ)) | with_reducible intro _)
   have hG3 : GoodT l3 := hGt.suf (List.suffix_cons _ _)
   simp only [List.length_cons] at hl hK
   have c3 := need_e [40] (t3 :: l3) (by simp; omega) en hg3
   simp only [List.tail_cons] at c3
   rcases then_no h3 with h4 | ⟨f4, l4, h4, h5⟩
   ·have cx := hx l3 e p (by omega) (by omega) hG3 h4
    unfold hpP at c1 c2 c3 ⊢
    rw [hcons] at c1 c2 ⊢
    have wQ := And.intro @hlr (And.intro @hel @zAe); repeat' (first | with_reducible (apply swq; constructor) | simp only [go_sem, seval, zA2, pe54, q54, hlr, hpos, tk, hd, hd1, List.length_cons] | simp (disch := omega) only [w64, w32, wu8, wu16, wu32, wu64] | ((with_reducible first | refine c_eff [0] [] (zAf c1 _) ?hs ?he ?hh ?_ | refine o_eff [0] [] (zAf c1 _) ?hs ?he ?hh ?_); (case hs => exact so); (case he | hh => exact sh wQ); try rintro _ _ ⟨rfl, rfl⟩) | ((with_reducible first | refine c_eff [0] [] (zAf c2 _) ?hs ?he ?hh ?_ | refine o_eff [0] [] (zAf c2 _) ?hs ?he ?hh ?_); (case hs => exact so); (case he | hh => exact sh wQ); try rintro _ _ ⟨rfl, rfl⟩) | ((with_reducible first | refine c_eff [0] [] (zAf c3 _) ?hs ?he ?hh ?_ | refine o_eff [0] [] (zAf c3 _) ?hs ?he ?hh ?_); (case hs => exact so); (case he | hh => exact sh wQ); try rintro _ _ ⟨rfl, rfl⟩) | ((with_reducible apply zAp); (case he => rfl); (case hK | hc | hr | hV => exact sd wQ)) | ((with_reducible apply zAq); (case he => rfl); (case hV | hK | hr | hl => exact sd wQ)) | ((with_reducible apply zAs); (case he => rfl); (case hK | hc | hr => exact sd wQ)) | ((with_reducible apply zAr); (case he => rfl); (case hK | hc | hr | hx | hn => exact sd wQ)) | ((with_reducible first | apply s_bsl | apply t_bsl); (case he | hl | hc => exact sd wQ)) | ((with_reducible apply zA9); (case hx => exact sd wQ)) | ((with_reducible first | apply zA7 | apply zA8); (case h0 | h1 | hx => exact sd wQ)) | ((with_reducible apply zA6); (case h0 | h1 | h2 | hx => exact sd wQ)) | ((with_reducible first | apply zA4 | apply zA5); (case h0 | h1 | hc => exact sd wQ)) | ((with_reducible apply zA3); (case h0 | h1 | h2 | hc => exact sd wQ)) | (with_reducible first | (apply cdA; constructor) | (apply gdA; constructor)) | ((with_reducible refine And.intro ?hw ?_); (case hw => exact sw wQ)) | with_reducible intro _)
    all_goals try (exfalso; omega)
    subst hRA
    refine zEu (zDn 2 2 3 (by decide) rfl rfl) ?_
    exact reg54_12x (fs := []) (by simp) rfl rfl cx _
   obtain ⟨c4, q4, s4⟩ := hfo l3 f4 l4 (by omega) hG3 h4
   unfold hpP at c1 c2 c3 ⊢
   rw [hcons] at c1 c2 ⊢
   have wQ := And.intro @hlr (And.intro @hel @zAe); repeat' (first | with_reducible (apply swq; constructor) | simp only [go_sem, seval, zA2, pe54, q54, hlr, hpos, tk, hd, hd1, List.length_cons] | simp (disch := omega) only [w64, w32, wu8, wu16, wu32, wu64] | ((with_reducible first | refine c_eff [0] [] (zAf c1 _) ?hs ?he ?hh ?_ | refine o_eff [0] [] (zAf c1 _) ?hs ?he ?hh ?_); (case hs => exact so); (case he | hh => exact sh wQ); try rintro _ _ ⟨rfl, rfl⟩) | ((with_reducible first | refine c_eff [0] [] (zAf c2 _) ?hs ?he ?hh ?_ | refine o_eff [0] [] (zAf c2 _) ?hs ?he ?hh ?_); (case hs => exact so); (case he | hh => exact sh wQ); try rintro _ _ ⟨rfl, rfl⟩) | ((with_reducible first | refine c_eff [0] [] (zAf c3 _) ?hs ?he ?hh ?_ | refine o_eff [0] [] (zAf c3 _) ?hs ?he ?hh ?_); (case hs => exact so); (case he | hh => exact sh wQ); try rintro _ _ ⟨rfl, rfl⟩) | ((with_reducible apply zAp); (case he => rfl); (case hK | hc | hr | hV => exact sd wQ)) | ((with_reducible apply zAq); (case he => rfl); (case hV | hK | hr | hl => exact sd wQ)) | ((with_reducible apply zAs); (case he => rfl); (case hK | hc | hr => exact sd wQ)) | ((with_reducible apply zAr); (case he => rfl); (case hK | hc | hr | hx | hn => exact sd wQ)) | ((with_reducible first | apply s_bsl | apply t_bsl); (case he | hl | hc => exact sd wQ)) | ((with_reducible apply zA9); (case hx => exact sd wQ)) | ((with_reducible first | apply zA7 | apply zA8); (case h0 | h1 | hx => exact sd wQ)) | ((with_reducible apply zA6); (case h0 | h1 | h2 | hx => exact sd wQ)) | ((with_reducible first | apply zA4 | apply zA5); (case h0 | h1 | hc => exact sd wQ)) | ((with_reducible apply zA3); (case h0 | h1 | h2 | hc => exact sd wQ)) | (with_reducible first | (apply cdA; constructor) | (apply gdA; constructor)) | ((with_reducible refine And.intro ?hw ?_); (case hw => exact sw wQ)) | with_reducible intro _)
   all_goals try (exfalso; omega)
   subst hRA
   refine zEu (zDn 2 2 3 (by decide) rfl rfl) ?_
   refine reg54_12p (fs := []) (by simp) rfl rfl c4 _ ?_
   have wQ := tw; repeat' (first | with_reducible (apply swq; constructor) | simp only [go_sem, seval, zA2, pe54, q54, maxW, hmx] | simp (disch := omega) only [w64, w32, wu8, wu16, wu32, wu64] | ((with_reducible apply zAp); (case he => rfl); (case hK | hc | hr | hV => exact sd wQ)) | ((with_reducible apply zAq); (case he => rfl); (case hV | hK | hr | hl => exact sd wQ)) | ((with_reducible apply zAs); (case he => rfl); (case hK | hc | hr => exact sd wQ)) | ((with_reducible apply zAr); (case he => rfl); (case hK | hc | hr | hx | hn => exact sd wQ)) | ((with_reducible first | apply s_bsl | apply t_bsl); (case he | hl | hc => exact sd wQ)) | ((with_reducible apply zA9); (case hx => exact sd wQ)) | ((with_reducible first | apply zA7 | apply zA8); (case h0 | h1 | hx => exact sd wQ)) | ((with_reducible apply zA6); (case h0 | h1 | h2 | hx => exact sd wQ)) | ((with_reducible first | apply zA4 | apply zA5); (case h0 | h1 | hc => exact sd wQ)) | ((with_reducible apply zA3); (case h0 | h1 | h2 | hc => exact sd wQ)) | (with_reducible first | (apply cdA; constructor) | (apply gdA; constructor)) | ((with_reducible refine And.intro ?hw ?_); (case hw => exact sw wQ)) | with_reducible intro _)
   all_goals try (exfalso; omega)
   generalize hM : max 1 i = mx at *
   refine zB6 [0, 1, 4, 5, 10, 11] (fun x : Nat × List F × List Tok => ⟨[.ptr 0 0, .ptr 1 0, .u0, .u0, .int .i64 (i : Nat), .ptr 2 0, .u0, .u0, .u0, .u0, .int .i64 (mx : Nat), .int .i64 (x.1 : Nat), .u0], [],
    ⟨[.cells [.slice (tokL x.2.2) .no, .int .i64 en], .cells [.int .i64 0, .int .i64 0, .lit (.slice none 0 0)], .cells [.int .i64 (9 + i), .int .i64 0, .slice (kidsD x.2.1) (.tok 0)]], [.per 3 x.2.1.length]⟩⟩)
    (fun x => x.1 ≤ mx ∧ x.2.1.length = x.1 + 1 ∧ argsP fo en (9 + i) (mx - x.1) x.2.1 x.2.2 = .no e p ∧ x.2.2.length ≤ N ∧ x.2.2.length < K ∧ GoodT x.2.2) (fun x => mx - x.1) (0, [f4], l4) ⟨by simp, rfl, h5, by simp only; omega, by simp only; omega, hG3.suf s4⟩ ?_ ?_
   ·simp [keepE, St.keep, hM]
   ·rintro ⟨j, fs, lx⟩ ⟨v1, v2, v3, v4, v4', v5⟩
    simp only at v1 v2 v3 v4 v4' v5 ⊢
    by_cases hj : j < mx
    ·obtain ⟨n, hn⟩ : ∃ n, mx - j = n + 1 := ⟨mx - j - 1, by omega⟩
     rw [hn] at v3
     have hdj : decide ((j : Int) < (mx : Nat)) = true := by simp; omega
     simp only [argsP] at v3
     rcases need_no v3 with ⟨hn6, hf6⟩ | ⟨t6, l6, rfl, ⟨i6, hg6⟩, h6⟩
     ·have cx := need_x [44] lx (by omega) en e p hn6 hf6
      unfold hpP at cx
      have wQ := @zAe; repeat' (first | with_reducible (apply swq; constructor) | simp only [go_sem, seval, zA2, pe54, q54, hdj] | simp (disch := omega) only [w64, w32, wu8, wu16, wu32, wu64] | ((with_reducible refine o_pan [0] [] (zBm cx _) ?hs ?he ?hh ?hk); (case hs => exact so); (case he | hh => exact sh wQ); (case hk => intro _ _ q; subst q; first | rfl | apply hPan | (simp [go_sem, seval, zAe]; done))) | ((with_reducible apply zAp); (case he => rfl); (case hK | hc | hr | hV => exact sd wQ)) | ((with_reducible apply zAq); (case he => rfl); (case hV | hK | hr | hl => exact sd wQ)) | ((with_reducible apply zAs); (case he => rfl); (case hK | hc | hr => exact sd wQ)) | ((with_reducible apply zAr); (case he => rfl); (case hK | hc | hr | hx | hn => exact sd wQ)) | ((with_reducible first | apply s_bsl | apply t_bsl); (case he | hl | hc => exact sd wQ)) | ((with_reducible apply zA9); (case hx => exact sd wQ)) | ((with_reducible first | apply zA7 | apply zA8); (case h0 | h1 | hx => exact sd wQ)) | ((with_reducible apply zA6); (case h0 | h1 | h2 | hx => exact sd wQ)) | ((with_reducible first | apply zA4 | apply zA5); (case h0 | h1 | hc => exact sd wQ)) | ((with_reducible apply zA3); (case h0 | h1 | h2 | hc => exact sd wQ)) | (with_reducible first | (apply cdA; constructor) | (apply gdA; constructor)) | ((with_reducible refine And.intro ?hw ?_); (case hw => exact sw wQ)) | with_reducible intro _)
      all_goals try (exfalso; omega)
     simp only [List.length_cons] at v4 v4'
     have hG6 : GoodT l6 := v5.suf (List.suffix_cons _ _)
     have c6 := need_e [44] (t6 :: l6) (by simp; omega) en hg6
     simp only [List.tail_cons] at c6
     rcases then_no h6 with h7 | ⟨f7, l7, h7, h8⟩
     ·have cx := hx l6 e p (by omega) (by omega) hG6 h7
      unfold hpP at c6
      have wQ := @zAe; repeat' (first | with_reducible (apply swq; constructor) | simp only [go_sem, seval, zA2, pe54, q54, hdj] | simp (disch := omega) only [w64, w32, wu8, wu16, wu32, wu64] | ((with_reducible first | refine c_eff [0] [] (zAf c6 _) ?hs ?he ?hh ?_ | refine o_eff [0] [] (zAf c6 _) ?hs ?he ?hh ?_); (case hs => exact so); (case he | hh => exact sh wQ); try rintro _ _ ⟨rfl, rfl⟩) | ((with_reducible apply zAp); (case he => rfl); (case hK | hc | hr | hV => exact sd wQ)) | ((with_reducible apply zAq); (case he => rfl); (case hV | hK | hr | hl => exact sd wQ)) | ((with_reducible apply zAs); (case he => rfl); (case hK | hc | hr => exact sd wQ)) | ((with_reducible apply zAr); (case he => rfl); (case hK | hc | hr | hx | hn => exact sd wQ)) | ((with_reducible first | apply s_bsl | apply t_bsl); (case he | hl | hc => exact sd wQ)) | ((with_reducible apply zA9); (case hx => exact sd wQ)) | ((with_reducible first | apply zA7 | apply zA8); (case h0 | h1 | hx => exact sd wQ)) | ((with_reducible apply zA6); (case h0 | h1 | h2 | hx => exact sd wQ)) | ((with_reducible first | apply zA4 | apply zA5); (case h0 | h1 | hc => exact sd wQ)) | ((with_reducible apply zA3); (case h0 | h1 | h2 | hc => exact sd wQ)) | (with_reducible first | (apply cdA; constructor) | (apply gdA; constructor)) | ((with_reducible refine And.intro ?hw ?_); (case hw => exact sw wQ)) | with_reducible intro _)
      all_goals try (exfalso; omega)
      subst hRB
      exact reg54_17x (fs := fs) (by omega) rfl rfl cx _
     obtain ⟨c7, q7, s7⟩ := hfo l6 f7 l7 (by omega) hG6 h7
     unfold hpP at c6
     have wQ := @zAe; repeat' (first | with_reducible (apply swq; constructor) | simp only [go_sem, seval, zA2, pe54, q54, hdj] | simp (disch := omega) only [w64, w32, wu8, wu16, wu32, wu64] | ((with_reducible first | refine c_eff [0] [] (zAf c6 _) ?hs ?he ?hh ?_ | refine o_eff [0] [] (zAf c6 _) ?hs ?he ?hh ?_); (case hs => exact so); (case he | hh => exact sh wQ); try rintro _ _ ⟨rfl, rfl⟩) | ((with_reducible apply zAp); (case he => rfl); (case hK | hc | hr | hV => exact sd wQ)) | ((with_reducible apply zAq); (case he => rfl); (case hV | hK | hr | hl => exact sd wQ)) | ((with_reducible apply zAs); (case he => rfl); (case hK | hc | hr => exact sd wQ)) | ((with_reducible apply zAr); (case he => rfl); (case hK | hc | hr | hx | hn => exact sd wQ)) | ((with_reducible first | apply s_bsl | apply t_bsl); (case he | hl | hc => exact sd wQ)) | ((with_reducible apply zA9); (case hx => exact sd wQ)) | ((with_reducible first | apply zA7 | apply zA8); (case h0 | h1 | hx => exact sd wQ)) | ((with_reducible apply zA6); (case h0 | h1 | h2 | hx => exact sd wQ)) | ((with_reducible first | apply zA4 | apply zA5); (case h0 | h1 | hc => exact sd wQ)) | ((with_reducible apply zA3); (case h0 | h1 | h2 | hc => exact sd wQ)) | (with_reducible first | (apply cdA; constructor) | (apply gdA; constructor)) | ((with_reducible refine And.intro ?hw ?_); (case hw => exact sw wQ)) | with_reducible intro _)
     all_goals try (exfalso; omega)
     subst hRB
     refine reg54_17p (fs := fs) (by omega) rfl rfl c7 _ ?_
     have wQ := tw; repeat' (first | with_reducible (apply swq; constructor) | simp only [go_sem, seval, zA2, pe54, q54] | simp (disch := omega) only [w64, w32, wu8, wu16, wu32, wu64] | ((with_reducible apply zAp); (case he => rfl); (case hK | hc | hr | hV => exact sd wQ)) | ((with_reducible apply zAq); (case he => rfl); (case hV | hK | hr | hl => exact sd wQ)) | ((with_reducible apply zAs); (case he => rfl); (case hK | hc | hr => exact sd wQ)) | ((with_reducible apply zAr); (case he => rfl); (case hK | hc | hr | hx | hn => exact sd wQ)) | ((with_reducible first | apply s_bsl | apply t_bsl); (case he | hl | hc => exact sd wQ)) | ((with_reducible apply zA9); (case hx => exact sd wQ)) | ((with_reducible first | apply zA7 | apply zA8); (case h0 | h1 | hx => exact sd wQ)) | ((with_reducible apply zA6); (case h0 | h1 | h2 | hx => exact sd wQ)) | ((with_reducible first | apply zA4 | apply zA5); (case h0 | h1 | hc => exact sd wQ)) | ((with_reducible apply zA3); (case h0 | h1 | h2 | hc => exact sd wQ)) | (with_reducible first | (apply cdA; constructor) | (apply gdA; constructor)) | ((with_reducible refine And.intro ?hw ?_); (case hw => exact sw wQ)) | with_reducible intro _)
     all_goals try (exfalso; omega)
     refine ⟨(j + 1, fs ++ [f7], l7), ⟨by simp only; omega, by simp; omega, ?_, by simp only; omega, by simp only; omega, hG6.suf s7⟩, by simp only; omega, ?_⟩
     ·rw [show mx - (j + 1) = n by omega]; exact h8
     ·simp [keepE, St.keep]
    ·obtain rfl : j = mx := by omega
     rw [Nat.sub_self] at v3
     simp only [argsP] at v3
     have hdj : decide ((j : Int) < (j : Nat)) = false := by simp
     rcases need_no v3 with ⟨hn6, hf6⟩ | ⟨t6, l6, rfl, ⟨i6, hg6⟩, h6⟩
     ·have cx := need_x [41] lx (by omega) en e p hn6 hf6
      unfold hpP at cx
      have wQ := @zAe; repeat' (first | with_reducible (apply swq; constructor) | simp only [go_sem, seval, zA2, pe54, q54, hdj] | simp (disch := omega) only [w64, w32, wu8, wu16, wu32, wu64] | ((with_reducible refine o_pan [0] [] (zBm cx _) ?hs ?he ?hh ?hk); (case hs => exact so); (case he | hh => exact sh wQ); (case hk => intro _ _ q; subst q; first | rfl | apply hPan | (simp [go_sem, seval, zAe]; done))) | ((with_reducible apply zAp); (case he => rfl); (case hK | hc | hr | hV => exact sd wQ)) | ((with_reducible apply zAq); (case he => rfl); (case hV | hK | hr | hl => exact sd wQ)) | ((with_reducible apply zAs); (case he => rfl); (case hK | hc | hr => exact sd wQ)) | ((with_reducible apply zAr); (case he => rfl); (case hK | hc | hr | hx | hn => exact sd wQ)) | ((with_reducible first | apply s_bsl | apply t_bsl); (case he | hl | hc => exact sd wQ)) | ((with_reducible apply zA9); (case hx => exact sd wQ)) | ((with_reducible first | apply zA7 | apply zA8); (case h0 | h1 | hx => exact sd wQ)) | ((with_reducible apply zA6); (case h0 | h1 | h2 | hx => exact sd wQ)) | ((with_reducible first | apply zA4 | apply zA5); (case h0 | h1 | hc => exact sd wQ)) | ((with_reducible apply zA3); (case h0 | h1 | h2 | hc => exact sd wQ)) | (with_reducible first | (apply cdA; constructor) | (apply gdA; constructor)) | ((with_reducible refine And.intro ?hw ?_); (case hw => exact sw wQ)) | with_reducible intro _)
      all_goals try (exfalso; omega)
     cases h6
 | none =>
   rw [hg2] at h
   simp only [parP] at h
   obtain ⟨m3, m4⟩ := zDu hg2
   rw [m3, m4] at c2
   rcases need_no h with ⟨hn, hf⟩ | ⟨t3, l3, e0, ⟨i3, hg3⟩, h3⟩
   ·have cx := need_x [40] (t :: l') (by simp; omega) en e p hn hf
    unfold hpP at c1 c2 cx ⊢
    rw [hcons] at c1 c2 cx ⊢
    have wQ := And.intro @hlr (And.intro @hel @zAe); repeat' (first | with_reducible (apply swq; constructor) | simp only [go_sem, seval, zA2, pe54, q54, hlr, hpos, tk, hd1, List.length_cons] | simp (disch := omega) only [w64, w32, wu8, wu16, wu32, wu64] | ((with_reducible first | refine c_eff [0] [] (zAf c1 _) ?hs ?he ?hh ?_ | refine o_eff [0] [] (zAf c1 _) ?hs ?he ?hh ?_); (case hs => exact so); (case he | hh => exact sh wQ); try rintro _ _ ⟨rfl, rfl⟩) | ((with_reducible first | refine c_eff [0] [] (zAf c2 _) ?hs ?he ?hh ?_ | refine o_eff [0] [] (zAf c2 _) ?hs ?he ?hh ?_); (case hs => exact so); (case he | hh => exact sh wQ); try rintro _ _ ⟨rfl, rfl⟩) | ((with_reducible refine o_pan [0] [] (zBm cx _) ?hs ?he ?hh ?hk); (case hs => exact so); (case he | hh => exact sh wQ); (case hk => intro _ _ q; subst q; first | rfl | apply hPan | (simp [go_sem, seval, hlr, hel, zAe]; done))) | ((with_reducible apply zAp); (case he => rfl); (case hK | hc | hr | hV => exact sd wQ)) | ((with_reducible apply zAq); (case he => rfl); (case hV | hK | hr | hl => exact sd wQ)) | ((with_reducible apply zAs); (case he => rfl); (case hK | hc | hr => exact sd wQ)) | ((with_reducible apply zAr); (case he => rfl); (case hK | hc | hr | hx | hn => exact sd wQ)) | ((with_reducible first | apply s_bsl | apply t_bsl); (case he | hl | hc => exact sd wQ)) | ((with_reducible apply zA9); (case hx => exact sd wQ)) | ((with_reducible first | apply zA7 | apply zA8); (case h0 | h1 | hx => exact sd wQ)) | ((with_reducible apply zA6); (case h0 | h1 | h2 | hx => exact sd wQ)) | ((with_reducible first | apply zA4 | apply zA5); (case h0 | h1 | hc => exact sd wQ)) | ((with_reducible apply zA3); (case h0 | h1 | h2 | hc => exact sd wQ)) | (with_reducible first | (apply cdA; constructor) | (apply gdA; constructor)) | ((with_reducible refine And.intro ?hw ?_); (case hw => exact sw wQ)) | with_reducible intro _)
   cases e0
   have c3 := need_e [40] (t :: l') (by simp; omega) en hg3
   simp only [List.tail_cons] at c3
   rcases then_no h3 with h4 | ⟨f4, l4, h4, h5⟩
   ·have cx := hx l' e p (by omega) (by omega) hGt h4
    unfold hpP at c1 c2 c3 cx ⊢
    rw [hcons] at c1 c2 c3 ⊢
    have wQ := And.intro @hlr (And.intro @hel @zAe); repeat' (first | with_reducible (apply swq; constructor) | simp only [go_sem, seval, zA2, pe54, q54, hlr, hpos, tk, hd1, List.length_cons] | simp (disch := omega) only [w64, w32, wu8, wu16, wu32, wu64] | ((with_reducible first | refine c_eff [0] [] (zAf c1 _) ?hs ?he ?hh ?_ | refine o_eff [0] [] (zAf c1 _) ?hs ?he ?hh ?_); (case hs => exact so); (case he | hh => exact sh wQ); try rintro _ _ ⟨rfl, rfl⟩) | ((with_reducible first | refine c_eff [0] [] (zAf c2 _) ?hs ?he ?hh ?_ | refine o_eff [0] [] (zAf c2 _) ?hs ?he ?hh ?_); (case hs => exact so); (case he | hh => exact sh wQ); try rintro _ _ ⟨rfl, rfl⟩) | ((with_reducible first | refine c_eff [0] [] (zAf c3 _) ?hs ?he ?hh ?_ | refine o_eff [0] [] (zAf c3 _) ?hs ?he ?hh ?_); (case hs => exact so); (case he | hh => exact sh wQ); try rintro _ _ ⟨rfl, rfl⟩) | ((with_reducible refine o_pan [0] [] (zBm cx _) ?hs ?he ?hh ?hk); (case hs => exact so); (case he | hh => exact sh wQ); (case hk => intro _ _ q; subst q; first | rfl | apply hPan | (simp [go_sem, seval, hlr, hel, zAe]; done))) | ((with_reducible apply zAp); (case he => rfl); (case hK | hc | hr | hV => exact sd wQ)) | ((with_reducible apply zAq); (case he => rfl); (case hV | hK | hr | hl => exact sd wQ)) | ((with_reducible apply zAs); (case he => rfl); (case hK | hc | hr => exact sd wQ)) | ((with_reducible apply zAr); (case he => rfl); (case hK | hc | hr | hx | hn => exact sd wQ)) | ((with_reducible first | apply s_bsl | apply t_bsl); (case he | hl | hc => exact sd wQ)) | ((with_reducible apply zA9); (case hx => exact sd wQ)) | ((with_reducible first | apply zA7 | apply zA8); (case h0 | h1 | hx => exact sd wQ)) | ((with_reducible apply zA6); (case h0 | h1 | h2 | hx => exact sd wQ)) | ((with_reducible first | apply zA4 | apply zA5); (case h0 | h1 | hc => exact sd wQ)) | ((with_reducible apply zA3); (case h0 | h1 | h2 | hc => exact sd wQ)) | (with_reducible first | (apply cdA; constructor) | (apply gdA; constructor)) | ((with_reducible refine And.intro ?hw ?_); (case hw => exact sw wQ)) | with_reducible intro _)
   obtain ⟨c4, q4, s4⟩ := hfo l' f4 l4 (by omega) hGt h4
   rcases need_no h5 with ⟨hn6, hf6⟩ | ⟨t6, l6, rfl, ⟨i6, hg6⟩, h6⟩
   ·have c6 := need_x [41] l4 (by omega) en e p hn6 hf6
    have hrn := fun β τ => rnL_F β τ f4.kids
    rw [F.d_eq] at c4
    unfold hpP at c1 c2 c3 c4 c6 ⊢
    rw [hcons] at c1 c2 c3 ⊢
    have wQ := And.intro @hlr (And.intro @hel (And.intro @zAe @hrn)); repeat' (first | with_reducible (apply swq; constructor) | simp only [go_sem, seval, zA2, pe54, q54, hlr, hpos, tk, hd1, List.length_cons] | simp (disch := omega) only [w64, w32, wu8, wu16, wu32, wu64] | ((with_reducible first | refine c_eff [0] [] (zAf c1 _) ?hs ?he ?hh ?_ | refine o_eff [0] [] (zAf c1 _) ?hs ?he ?hh ?_); (case hs => exact so); (case he | hh => exact sh wQ); try rintro _ _ ⟨rfl, rfl⟩) | ((with_reducible first | refine c_eff [0] [] (zAf c2 _) ?hs ?he ?hh ?_ | refine o_eff [0] [] (zAf c2 _) ?hs ?he ?hh ?_); (case hs => exact so); (case he | hh => exact sh wQ); try rintro _ _ ⟨rfl, rfl⟩) | ((with_reducible first | refine c_eff [0] [] (zAf c3 _) ?hs ?he ?hh ?_ | refine o_eff [0] [] (zAf c3 _) ?hs ?he ?hh ?_); (case hs => exact so); (case he | hh => exact sh wQ); try rintro _ _ ⟨rfl, rfl⟩) | ((with_reducible first | refine c_eff [0] [] (zAf c4 _) ?hs ?he ?hh ?_ | refine o_eff [0] [] (zAf c4 _) ?hs ?he ?hh ?_); (case hs => exact so); (case he | hh => exact sh wQ); try rintro _ _ ⟨rfl, rfl⟩) | ((with_reducible refine o_pan [0] [] (zBm c6 _) ?hs ?he ?hh ?hk); (case hs => exact so); (case he | hh => exact sh wQ); (case hk => intro _ _ q; subst q; first | rfl | apply hPan | (simp [go_sem, seval, hlr, hel, zAe, hrn]; done))) | ((with_reducible apply zAp); (case he => rfl); (case hK | hc | hr | hV => exact sd wQ)) | ((with_reducible apply zAq); (case he => rfl); (case hV | hK | hr | hl => exact sd wQ)) | ((with_reducible apply zAs); (case he => rfl); (case hK | hc | hr => exact sd wQ)) | ((with_reducible apply zAr); (case he => rfl); (case hK | hc | hr | hx | hn => exact sd wQ)) | ((with_reducible first | apply s_bsl | apply t_bsl); (case he | hl | hc => exact sd wQ)) | ((with_reducible apply zA9); (case hx => exact sd wQ)) | ((with_reducible first | apply zA7 | apply zA8); (case h0 | h1 | hx => exact sd wQ)) | ((with_reducible apply zA6); (case h0 | h1 | h2 | hx => exact sd wQ)) | ((with_reducible first | apply zA4 | apply zA5); (case h0 | h1 | hc => exact sd wQ)) | ((with_reducible apply zA3); (case h0 | h1 | h2 | hc => exact sd wQ)) | (with_reducible first | (apply cdA; constructor) | (apply gdA; constructor)) | ((with_reducible refine And.intro ?hw ?_); (case hw => exact sw wQ)) | with_reducible intro _)
   cases h6
theorem product_x {fo : List Tok → PR} {en : Int} {N K : Nat} (hfo : OpOk 33 fo en N) (hx : OpX 33 fo en N K) (hN : N ≤ 100000) : OpX 46 (prodP fo en) en N (K + 1) := by
 intro l e p hl hK hG h
 have c1 := chain_x (factor_e hfo hN) (factor_x hfo hx hN) hN 7 (by omega) (by omega) [42] [47] l e p hl hK hG h
 refine zCm (C := E46 1 0) (fn := Tryd.f46) Tryd.func46 (by kernel_rfl) (by kernel_rfl) (rc := c46) z46 (by kernel_rfl) rfl (by rw [show ([D.ptr 0 0] : List D).length = 1 from rfl]; decide) rfl rfl ?_ rfl (fun _ _ => trivial)
 rw [ie46]
 unfold c46
 have e3 : strs [[42], [47]] = [.str [42], .str [47]] := rfl
 rw [e3] at c1
 unfold hpP at c1 ⊢
 have wQ := @zAe; repeat' (first | with_reducible (apply swq; constructor) | simp only [go_sem, seval, zA2, pe46, q46] | ((with_reducible refine o_pan [0] [] (zBm c1 _) ?hs ?he ?hh ?hk); (case hs => exact so); (case he | hh => exact sh wQ); (case hk => intro _ _ q; subst q; first | rfl | apply hPan | (simp [go_sem, seval, zAe]; done))) | ((with_reducible apply s_bsl); (case he | hl | hc => exact sd wQ)) | with_reducible (apply cdA; constructor) | ((with_reducible refine And.intro ?hw ?_); (case hw => exact sw wQ)) | with_reducible intro _)
theorem sum_x {fo : List Tok → PR} {en : Int} {N K : Nat} (hfo : OpOk 33 fo en N) (hx : OpX 33 fo en N K) (hN : N ≤ 100000) : OpX 33 (sumP fo en) en N (K + 1) := by
 intro l e p hl hK hG h
 have c1 := chain_x (product_e hfo hN) (product_x hfo hx hN) hN 5 (by omega) (by omega) [43] [45] l e p hl hK hG h
 refine zCm (C := E33 1 0) (fn := Tryd.f33) Tryd.func33 (by kernel_rfl) (by kernel_rfl) (rc := c33) z33 (by kernel_rfl) rfl (by rw [show ([D.ptr 0 0] : List D).length = 1 from rfl]; decide) rfl rfl ?_ rfl (fun _ _ => trivial)
 rw [ie33]
 unfold c33
 have e3 : strs [[43], [45]] = [.str [43], .str [45]] := rfl
 rw [e3] at c1
 unfold hpP at c1 ⊢
 have wQ := @zAe; repeat' (first | with_reducible (apply swq; constructor) | simp only [go_sem, seval, zA2, pe33, q33] | ((with_reducible refine o_pan [0] [] (zBm c1 _) ?hs ?he ?hh ?hk); (case hs => exact so); (case he | hh => exact sh wQ); (case hk => intro _ _ q; subst q; first | rfl | apply hPan | (simp [go_sem, seval, zAe]; done))) | ((with_reducible apply s_bsl); (case he | hl | hc => exact sd wQ)) | with_reducible (apply cdA; constructor) | ((with_reducible refine And.intro ?hw ?_); (case hw => exact sw wQ)) | with_reducible intro _)
theorem form_x {en : Int} {N : Nat} (hN : N ≤ 100000) : ∀ k, OpX 33 (formP en k) en N k
 | 0 => fun l e p _ hK _ h => by omega
 | k + 1 => sum_x (form_e hN k) (form_x hN k) hN
end Go.Proofs.YtkjnhkoipgdfeaaDoor
end
section
set_option maxRecDepth 100000
set_option linter.unusedSimpArgs false
set_option linter.unusedVariables false
namespace Go.Proofs.YtkjnhkoipgdfeaaDoor
open Go GoV Go.RowKit
theorem reg32 {C : Cfg} {a b c d f : D} {e p : Int} {en : List D} (h0 : en[0]? = some (.ptr 0 0)) (h1 : en[1]? = some (.ptr 1 0)) (h2 : en[2]? = some (.ptr 2 0)) (h4 : en[4]? = some (.ptr 3 0)) :
 SWp C (.regD r32_0 r32_1) (fun x s' => x = .normal ∧ s'.hp = ⟨[.cells [.int .i64 0, .int .i64 0, .lit (.slice none 0 0)], .cells [.int .i64 e], .cells [.int .i64 p], .cells [.int .i64 e, .int .i64 p]], []⟩)
  ⟨en, [], ⟨[.cells [a, b, c], .cells [d], .cells [f], .cells [.int .i64 e, .int .i64 p]], []⟩⟩ := by
 obtain ⟨F, hF⟩ : ∃ F : (Nat → Bool) → Hp, F = fun E => (⟨[if E 5 then .cells [.int .i64 0, .int .i64 0, .lit (.slice none 0 0)] else .cells [a, b, c], if E 6 then .cells [.int .i64 e] else .cells [d], .cells [f], .cells [.int .i64 e, .int .i64 p]], []⟩ : Hp) := ⟨_, rfl⟩
 have still : ∀ i, i ≠ 5 → i ≠ 6 → Still F i := fun i h h' E _ => by
  have h5 : (5 == i) = false := by rw [beq_eq_false_iff_ne]; omega
  have h6 : (6 == i) = false := by rw [beq_eq_false_iff_ne]; omega
  simp [hF, h5, h6]
 refine zBx F (by simp [hF]) ?_
 refine y_q (ds := []) (.agg [.int .i64 0, .int .i64 0, .lit (.slice none 0 0)]) (by simp [go_sem]) (still _ (by decide) (by decide)) (fun _ => by simp [OcWp, zAa, isPan, opWp, fillL]) ?_
 refine y_q (ds := [.ptr 3 0]) (.ptr 3 0) (by simp [go_sem, h4]) (still _ (by decide) (by decide)) (fun _ => by simp [OcWp, zAa, isPan, opWp]) ?_
 refine y_c (ds := [.ptr 3 0]) (d := .int .i64 e) (by simp [go_sem]) (fun E hE => ?_) ?_
 ·rw [still 2 (by decide) (by decide) E hE]; simp [hF, OcWp, zAa, isPan, opWp, Blk.csq]
 refine y_q (ds := [.ptr 3 0]) (.ptr 3 1) (by simp [go_sem, h4]) (still _ (by decide) (by decide)) (fun _ => by simp [OcWp, zAa, isPan, opWp]) ?_
 refine y_c (ds := [.ptr 3 1]) (d := .int .i64 p) (by simp [go_sem]) (fun E hE => ?_) ?_
 ·rw [still 4 (by decide) (by decide) E hE]; simp [hF, OcWp, zAa, isPan, opWp, Blk.csq]
 refine y_c (ds := [.ptr 0 0, .agg [.int .i64 0, .int .i64 0, .lit (.slice none 0 0)]]) (d := .skip) (by simp [go_sem, h0]) (fun E hE => ?_) ?_
 ·have hE' : E 5 = false := hE
  simp [hF, OcWp, zAa, isPan, opWp, hE', Blk.csq, Blk.putc, D.iV, D.cells, setL]
 refine y_c (ds := [.ptr 1 0, .int .i64 e]) (d := .skip) (by simp [go_sem, h1]) (fun E hE => ?_) ?_
 ·have hE' : E 6 = false := hE
  simp [hF, OcWp, zAa, isPan, opWp, hE', Blk.csq, Blk.putc, D.iV, D.cells, setL]
 refine y_end (hp' := ⟨[.cells [.int .i64 0, .int .i64 0, .lit (.slice none 0 0)], .cells [.int .i64 e], .cells [f], .cells [.int .i64 e, .int .i64 p]], []⟩) (by simp [hF]) ?_
 simp only [go_sem, h0, h1, h2, h4]
 simp [go_sem, h0, h1, h2, h4, setL, D.iV, D.cells, St.done]
theorem zEw {C : Cfg} {w0 w : World} {B : Gh} {s : St} {a : Act} (h : Sim C w0 B s a w) {dst : Option Nat} {ds : Dst} (hd : zB5 C dst = some ds) {d : D} {v : Value} (hv : Rel w0 B d v) : Sim C w0 B (s.put ds d) (a.put dst v) w := by
 obtain ⟨G, hi, hb, q1, q2, q3, q4⟩ := id h
 exact h.put hd hi q4 (Rel.evo _ hi.evo hv)
section
variable {P : Program} {ops : Array Oper} {l : List Nat} {a : Act} {cs cs' : List Frame} {w w' : World} {o : Oper} {i : Nat} {v : Value} {dst : Option Nat}
theorem opsS_val {Q : Exit → Act → List Frame → World → Prop} (ho : ops[i]? = some o) (hg : o.guard = none) (hd : o.dst = dst) (hr : (execOp a.eval o).run P w = .ok (.value v) w) (h : wpOpsS P ops Q l (a.put dst v) cs w) : wpOpsS P ops Q (i :: l) a cs w := by
 subst hd
 have hw : Region.wanted o (yielded ops a.tmps) = true := by simp [Region.wanted, hg]
 simp only [wpOpsS, ho, hw, if_true, hr]; exact h
theorem opsS_rec {Q : Exit → Act → List Frame → World → Prop} (ho : ops[i]? = some o) (hg : o.guard = none) (hd : o.dst = dst) (hr : (execOp a.eval o).run P w = .ok .recover w) (hc : recoverD cs = some (v, cs')) (h : wpOpsS P ops Q l (a.put dst v) cs' w) : wpOpsS P ops Q (i :: l) a cs w := by
 subst hd
 have hw : Region.wanted o (yielded ops a.tmps) = true := by simp [Region.wanted, hg]
 simp only [wpOpsS, ho, hw, if_true, hr, hc]; exact h
theorem opsIn_val {Q : Exit → Act → World → Prop} (ho : ops[i]? = some o) (hg : o.guard = none) (hd : o.dst = dst) (hr : (o.semAt Fence.wide.round a.eval).run P w = .ok (.value v) w) (h : wpOpsIn Fence.wide 0 P ops Q l (a.put dst v) w) : wpOpsIn Fence.wide 0 P ops Q (i :: l) a w := by
 subst hd
 have hw : Region.wanted o (yielded ops a.tmps) = true := by simp [Region.wanted, hg]
 simp only [wpOpsIn, ho, hw, if_true, Oper.wpIn, hr]; exact ⟨fun _ _ => trivial, h⟩
theorem exec_assign {ρ : Operand → Value} {x : Operand} (h : o.op = .assign x) : (execOp ρ o).run P w = .ok (.value (ρ x)) w := by
 simp only [execOp, h]; rfl
theorem exec_move {ρ : Operand → Value} {x : Operand} (h : o.op = .move x) : (execOp ρ o).run P w = .ok (.value (ρ x)) w := by
 simp only [execOp, h]; rfl
theorem exec_neq {ρ : Operand → Value} {pv : Value} (h : o.op = .binOp .neq 20 (.tmp 6) (.const .nilIface) 20) (hx : ρ (.tmp 6) = .iface 62 pv) (hc : ρ (.const .nilIface) = .nilIface) : (execOp ρ o).run Tryd.prog w = .ok (.value (.bool true)) w := by
 simp only [execOp, h, hx, hc]; kernel_rfl
theorem exec_recover {ρ : Operand → Value} (h : o.op = .call { callee := .builtin .recover, args := #[], argTypes := #[] }) : (execOp ρ o).run P w = .ok .recover w := by
 simp only [execOp, h, resolve, Sem.run_bind, Sem.run_pure, Result.andThen_ok]; rfl
theorem exec_ta {ρ : Operand → Value} {x : Operand} (h : o.op = .typeAssert x 20 62 false) {y : Value} (hx : ρ x = .iface 62 y) : (execOp ρ o).run Tryd.prog w = .ok (.value y) w := by
 simp only [execOp, h, hx]; kernel_rfl
end
def condL : Code → Code
 | .cond _ x _ => x
 | c => c
noncomputable def K32 : Code := Tryd.f32.body.getD .skip
theorem hK32 : Tryd.f32.body = some (.seq (seqL K32) (.seq (seqL (seqR K32)) (.cond (.tmp 7) (.seq (seqL (condL (seqR (seqR K32)))) (seqR (condL (seqR (seqR K32))))) .skip))) := by kernel_rfl
theorem ops32a : ∃ ops o0 o1, seqL K32 = .region 0 ops false ∧ ops.size = 2 ∧ ops[0]? = some o0 ∧ ops[1]? = some o1 ∧ o0.op = .call { callee := .builtin .recover, args := #[], argTypes := #[] } ∧ o0.dst = some 5 ∧ o0.guard = none ∧
 o1.op = .assign (.tmp 5) ∧ o1.dst = some 3 ∧ o1.guard = none := ⟨_, _, _, rfl, rfl, rfl, rfl, rfl, rfl, rfl, rfl, rfl, rfl⟩
theorem ops32b : ∃ ops o0 o1, seqL (seqR K32) = .region 1 ops false ∧ ops.size = 2 ∧ ops[0]? = some o0 ∧ ops[1]? = some o1 ∧ o0.op = .move (.tmp 3) ∧ o0.dst = some 6 ∧ o0.guard = none ∧
 o1.op = .binOp .neq 20 (.tmp 6) (.const .nilIface) 20 ∧ o1.dst = some 7 ∧ o1.guard = none := ⟨_, _, _, rfl, rfl, rfl, rfl, rfl, rfl, rfl, rfl, rfl, rfl⟩
theorem ops32c : ∃ ops o0 o1, seqL (condL (seqR (seqR K32))) = .region 2 ops false ∧ ops.size = 4 ∧ ops[0]? = some o0 ∧ ops[1]? = some o1 ∧ o0.op = .move (.tmp 3) ∧ o0.dst = some 8 ∧ o0.guard = none ∧
 o1.op = .typeAssert (.tmp 8) 20 62 false ∧ o1.dst = some 9 ∧ o1.guard = none ∧ zBf (E32 3 0) ops [2, 3] = some [⟨.v 4, .newb [.int .i64 0, .int .i64 0], [], none⟩, ⟨.none, .st 2, [.v 4, .l 9], none⟩] := ⟨_, _, _, rfl, rfl, rfl, rfl, rfl, rfl, rfl, rfl, rfl, rfl, by kernel_rfl⟩
theorem zd32 : zAc (E32 3 0) (seqR (condL (seqR (seqR K32)))) = some (.regD r32_0 r32_1) := by kernel_rfl
theorem zDv {a : Act} {t : Nat} {v : Value} (h : t < a.tmps.size) : (a.put (some t) v).eval (.tmp t) = v := by
 simp [Act.eval, Act.put, h]
theorem eval_ne {a : Act} {t u : Nat} {v : Value} (h : u ≠ t) : (a.put (some u) v).eval (.tmp t) = a.eval (.tmp t) := by
 simp only [Act.eval, Act.put, Array.getD_eq_getD_getElem?, Array.getElem?_setIfInBounds]
 rw [if_neg h]
theorem no_pan {C : Cfg} {w0 : World} {B : Gh} {Q : Exit → Act → World → Prop} (h : ∀ d hp, ¬ C.M.pan d hp) : PQ C w0 B Q := fun a w ch _ hp => by
 obtain ⟨_, _, _, _, _, k, _⟩ := hp; exact absurd k (h _ _)
set_option maxHeartbeats 1000000 in
theorem panic32 {w5 : World} {G5 : Gh} {a b c d f : D} {e p : Int} {v x y z : Value} (hH : HeapRel w5 G5 ⟨[.cells [a, b, c], .cells [d], .cells [f]], []⟩) (hamb : M.amb w5 G5.own)
 (hv : Rel w5 G5 (probD e p) v) (hx : Rel w5 G5 (.ptr 0 0) x) (hy : Rel w5 G5 (.ptr 1 0) y) (hz : Rel w5 G5 (.ptr 2 0) z) :
 CallsD Tryd.prog 32 #[x, y, z] (.panicking [{ v, recovered := false }]) w5 fun e' u' w' => e' = .returned (.tuple #[]) ∧ u' = .panicking [{ v, recovered := true }] ∧
  ∃ G6, Inv w5 G5 ⟨[.cells [.int .i64 0, .int .i64 0, .lit (.slice none 0 0)], .cells [.int .i64 e], .cells [.int .i64 p], .cells [.int .i64 e, .int .i64 p]], []⟩ w' G6 := by
 have hsim := zD7 (C := E32 3 0) (fn := Tryd.f32) (by kernel_rfl) (args := [.ptr 0 0, .ptr 1 0, .ptr 2 0]) (hp := ⟨[.cells [a, b, c], .cells [d], .cells [f]], []⟩) (by rfl) (by decide) rfl rfl rfl hH (xs := [x, y, z]) (RelL.cons hx (RelL.cons hy (RelL.one hz)))
 rw [show St.init (E32 3 0) [.ptr 0 0, .ptr 1 0, .ptr 2 0] ⟨[.cells [a, b, c], .cells [d], .cells [f]], []⟩ = ⟨[.ptr 0 0, .ptr 1 0, .ptr 2 0, .u0, .u0, .u0], [], ⟨[.cells [a, b, c], .cells [d], .cells [f]], []⟩⟩ from ie32] at hsim
 obtain ⟨pv, rfl, hpv⟩ : ∃ pv, v = .iface 62 pv ∧ Rel w5 G5 (.agg [.int .i64 e, .int .i64 p]) pv := by
  simp only [probD, Rel] at hv ⊢; exact hv
 refine callsD_of_wpS Tryd.func32 hK32 fun c₀ cs hu => ?_
 obtain ⟨opsA, oa0, oa1, rA, sA, a0, a1, pa0, da0, ga0, pa1, da1, ga1⟩ := ops32a
 obtain ⟨opsB, ob0, ob1, rB, sB, b0, b1, pb0, db0, gb0, pb1, db1, gb1⟩ := ops32b
 obtain ⟨opsC, oc0, oc1, rC, sC, c0, c1, pc0, dc0, gc0, pc1, dc1, gc1, hrs⟩ := ops32c
 rw [rA, rB, rC]
 have hd := zd32
 generalize seqR (condL (seqR (seqR K32))) = XD at *
 have h15 : (#[x, y, z] ++ Array.replicate (Tryd.f32.ntmps - (#[x, y, z] : Array Value).size) Go.undef).size = 15 := by kernel_rfl
 generalize hA0 : ({ tmps := #[x, y, z] ++ Array.replicate (Tryd.f32.ntmps - (#[x, y, z] : Array Value).size) Go.undef, defers := [] } : Act) = A0 at *
 have z0 : A0.tmps.size = 15 := by rw [← hA0]; exact h15
 have p1 := zEw (dst := some 5) (ds := .l 5) hsim (by kernel_rfl) hv
 have p2 := zEw (dst := some 3) (ds := .v 3) p1 (by kernel_rfl) hv
 have p3 := zEw (dst := some 6) (ds := .l 6) p2 (by kernel_rfl) hv
 have p4 := zEw (d := .bool true) (v := .bool true) (dst := some 7) (ds := .v 5) p3 (by kernel_rfl) rfl
 have p5 := zEw (dst := some 8) (ds := .l 8) p4 (by kernel_rfl) hv
 have p6 := zEw (dst := some 9) (ds := .l 9) p5 (by kernel_rfl) hpv
 have z1 : (A0.put (some 5) (.iface 62 pv)).tmps.size = 15 := by rw [zBd]; exact z0
 have z2 : ((A0.put (some 5) (.iface 62 pv)).put (some 3) (.iface 62 pv)).tmps.size = 15 := by rw [zBd]; exact z1
 have z3 : (((A0.put (some 5) (.iface 62 pv)).put (some 3) (.iface 62 pv)).put (some 6) (.iface 62 pv)).tmps.size = 15 := by rw [zBd]; exact z2
 have z4 : ((((A0.put (some 5) (.iface 62 pv)).put (some 3) (.iface 62 pv)).put (some 6) (.iface 62 pv)).put (some 7) (.bool true)).tmps.size = 15 := by rw [zBd]; exact z3
 refine wpS_seq (wpS_region ?_)
 rw [sA]
 show wpOpsS Tryd.prog opsA _ [0, 1] _ _ _
 refine opsS_rec (v := .iface 62 pv) (cs' := { c₀ with mode := .panicking [{ v := .iface 62 pv, recovered := true }] } :: cs) a0 ga0 da0 (exec_recover pa0) (by simp only [recoverD, hu]) ?_
 refine opsS_val (v := .iface 62 pv) a1 ga1 da1 (by rw [exec_assign pa1, zDv (by omega)]) ?_
 simp only [wpOpsS, Exit.thenS]
 refine wpS_seq (wpS_region ?_)
 rw [sB]
 show wpOpsS Tryd.prog opsB _ [0, 1] _ _ _
 refine opsS_val (v := .iface 62 pv) b0 gb0 db0 (by rw [exec_move pb0, zDv (by omega)]) ?_
 refine opsS_val (v := .bool true) b1 gb1 db1 (exec_neq pb1 (zDv (by omega)) rfl) ?_
 simp only [wpOpsS, Exit.thenS]
 refine wpS_cond (t := true) (zDv (by omega)) ?_
 simp only [if_true]
 refine wpS_of_wp ((wpIn_wide (n := 0)).1 ?_)
 refine wpIn_seq (wpIn_region ?_)
 have hst : (E32 3 0).M.start w5 G5 := ⟨hamb, trivial⟩
 rw [sC]
 show wpOpsIn Fence.wide 0 Tryd.prog opsC _ [0, 1, 2, 3] _ _
 have v3 : ((((A0.put (some 5) (.iface 62 pv)).put (some 3) (.iface 62 pv)).put (some 6) (.iface 62 pv)).put (some 7) (.bool true)).eval (.tmp 3) = .iface 62 pv := by
  rw [eval_ne (by decide), eval_ne (by decide), zDv (by omega)]
 refine opsIn_val (v := .iface 62 pv) c0 gc0 dc0 ?_ ?_
 ·show (execOp _ oc0).run _ _ = _
  rw [exec_move pc0, v3]
 refine opsIn_val (v := pv) c1 gc1 dc1 ?_ ?_
 ·show (execOp _ oc1).run _ _ = _
  exact exec_ta pc1 (zDv (by omega))
 have hpan : ∀ d hp, ¬ (E32 3 0).M.pan d hp := fun _ _ h => h
 refine zFv (ro := none) (C := E32 3 0) ⟨hst, no_pan hpan⟩ (K := fun s' => s' = ⟨[.ptr 0 0, .ptr 1 0, .ptr 2 0, probD e p, .ptr 3 0, .bool true], s'.scr, ⟨[.cells [a, b, c], .cells [d], .cells [f], .cells [.int .i64 e, .int .i64 p]], []⟩⟩) (fun s a' w' hk hs => ?_) [2, 3] _ _ _ _ hrs ?_ p6
 ·simp only [Exit.then]
  rw [hk] at hs
  have hs' := zEc _ _ _ _ hs
  have hrun := (reg32 (C := E32 3 0) (a := a) (b := b) (c := c) (d := d) (f := f) (e := e) (p := p) (en := [.ptr 0 0, .ptr 1 0, .ptr 2 0, probD e p, .ptr 3 0, .bool true]) rfl rfl rfl rfl).run XD hd w5 G5 hst a' w' hs' none
  refine wpIn_mono hrun fun e' a2 w2 hl => ?_
  cases e' <;> simp only [Lift] at hl ⊢
  case panic => obtain ⟨_, _, _, _, _, _, k, _⟩ := hl; exact absurd k (hpan _ _)
  case exit => obtain ⟨_, _, q, _⟩ := hl; cases q
  case ret => obtain ⟨_, _, q, _⟩ := hl; cases q
  case normal =>
   obtain ⟨s2, ⟨G6, k1, k2, k3, k4, k5, k6⟩, _, k7⟩ := hl
   rw [k7] at k1
   refine ⟨k4, _, rfl, .tuple #[], ?_, rfl, rfl, G6, k1⟩
   kernel_rfl
 ·simp [go_sem, St.put]
end Go.Proofs.YtkjnhkoipgdfeaaDoor
end
section
set_option maxRecDepth 100000
set_option linter.unusedSimpArgs false
set_option linter.unusedVariables false
namespace Go.Proofs.YtkjnhkoipgdfeaaDoor
open Go GoV Go.RowKit
theorem ze13 : zAc (E13 3 0) (seqR (seqR (seqR (seqR K13)))) = some cR13 := by kernel_rfl
theorem zn13 : noWC [2, 3, 4] (seqR (seqR (seqR (seqR K13)))) = true := by kernel_rfl
set_option maxHeartbeats 1000000 in
theorem parse_run2 (s : Tx) {l : List Tok} (hlex : Pur M 27 [.str s] (.tup [.slice (tokL l) .no, .int .i64 0, .int .i64 0])) {d : D} {PR : D → Hp → Prop}
 (hPR : ∀ d' hp, PR d' hp → ∃ e p, d' = probD e p ∧ (∃ a b c x y, hp.H.take 3 = [.cells [a, b, c], .cells [x], .cells [y]]) ∧ d = .tup [.agg [.int .i64 0, .int .i64 0, .lit (.slice none 0 0)], .int .i64 e, .int .i64 p])
 (hR : ∀ (dd : Deferred) (a0 : Act), KWp ((defC (E13 3 0) dd).pans PR) [2, 3, 4] a0 cR13 (fun e s1 => (match e with | .exit _ => False | _ => True) ∧ rrsWp q13 s1 fun ds => D.closed (zAn ds) = true ∧ (zAn ds).er = d) (S13 s l)) : Pur M 13 [.str s] d := by
 have hcl := zEf l
 have her := tokL_er l
 have s1 : SWp (E13 0 0) (.reg r13_0) (fun e s' => e = .normal ∧ s' = ⟨[.str s, .ptr 0 0, .ptr 1 0, .ptr 2 0, .u0, .u0, .u0, .u0, .u0, .u0, .u0], [], ⟨[.cells [.int .i64 0, .int .i64 0, .lit (.slice none 0 0)], .cells [.int .i64 0], .cells [.int .i64 0]], []⟩⟩) (St.init (E13 0 0) [.str s] ⟨[], []⟩) := by
  rw [ie13]
  have wQ := tw; repeat' (first | with_reducible (apply swq; constructor) | simp only [go_sem, seval, pe13, q13] | with_reducible (apply cdA; constructor) | ((with_reducible refine And.intro ?hw ?_); (case hw => exact sw wQ)) | with_reducible intro _)
  all_goals first | exact ⟨rfl, rfl⟩ | rfl | trivial
 have s2 : SWp (E13 0 0) (.reg r13_1) (fun e s' => e = .normal ∧ s' = ⟨[.str s, .ptr 0 0, .ptr 1 0, .ptr 2 0, .slice (tokL l) .no, .int .i64 0, .int .i64 0, .u0, .u0, .u0, .u0], [], ⟨[.cells [.int .i64 0, .int .i64 0, .lit (.slice none 0 0)], .cells [.int .i64 0], .cells [.int .i64 0]], []⟩⟩)
  ⟨[.str s, .ptr 0 0, .ptr 1 0, .ptr 2 0, .u0, .u0, .u0, .u0, .u0, .u0, .u0], [], ⟨[.cells [.int .i64 0, .int .i64 0, .lit (.slice none 0 0)], .cells [.int .i64 0], .cells [.int .i64 0]], []⟩⟩ := by
  have wQ := And.intro @hcl @her; repeat' (first | with_reducible (apply swq; constructor) | simp only [go_sem, seval, pe13, q13] | ((with_reducible refine zAb (hlex) ?he ?hc ?_); (case he | hc => exact sc wQ)) | with_reducible (apply cdA; constructor) | ((with_reducible refine And.intro ?hw ?_); (case hw => exact sw wQ)) | with_reducible intro _)
  all_goals first | exact ⟨rfl, rfl⟩ | rfl | trivial
 have s3 : SWp (E13 0 0) (.seq (.reg r13_2) (.cond (.v 8) (.seq (.reg r13_3) .ret) .skip)) (fun e s' => e = .normal ∧ s' = S13 s l)
  ⟨[.str s, .ptr 0 0, .ptr 1 0, .ptr 2 0, .slice (tokL l) .no, .int .i64 0, .int .i64 0, .u0, .u0, .u0, .u0], [], ⟨[.cells [.int .i64 0, .int .i64 0, .lit (.slice none 0 0)], .cells [.int .i64 0], .cells [.int .i64 0]], []⟩⟩ := by
  have wQ := tw; repeat' (first | with_reducible (apply swq; constructor) | simp only [go_sem, seval, pe13, q13] | with_reducible (apply cdA; constructor) | ((with_reducible refine And.intro ?hw ?_); (case hw => exact sw wQ)) | with_reducible intro _)
  all_goals first | exact ⟨rfl, rfl⟩ | rfl | trivial
 have hP : (E13 0 0).P = Tryd.prog := rfl
 refine zDr ⟨⟨Tryd.f13, Tryd.func13, by kernel_rfl, rfl⟩, fun w g xs hA hH hargs => ?_⟩
 refine calls_of_wp_defers Tryd.func13 hK13 ((wpIn_wide (n := 0)).1 ?_)
 have hsim := zD7 (C := E13 0 0) (fn := Tryd.f13) (by kernel_rfl) (args := [.str s]) (hp := ⟨[], []⟩) (by rfl) (by rw [show ([D.str s] : List D).length = 1 from rfl]; decide) rfl rfl rfl hH hargs
 have hstart : (E13 0 0).M.start w g := ⟨hA, trivial⟩
 have hpan : ∀ d hp, ¬ (E13 0 0).M.pan d hp := fun _ _ h => h
 refine wpIn_seq (wpIn_mono (zBy s1 za13 hpan hstart hsim) fun e a1 w1 hl => ?_)
 obtain ⟨rfl, hl⟩ := hl
 simp only [Exit.then]
 refine wpIn_seq (wpIn_mono (zBy s2 zb13 hpan hstart hl) fun e a2 w2 hl => ?_)
 obtain ⟨rfl, hl⟩ := hl
 simp only [Exit.then]
 refine wpIn_seq (wpIn_mono (zBy s3 zc13 hpan hstart hl) fun e a3 w3 hl => ?_)
 obtain ⟨rfl, hl⟩ := hl
 simp only [Exit.then]
 obtain ⟨ops, o0, o1, hr4, h0, h1, hsz, p0, p1, p2, p3, p4, p5⟩ := ops13
 obtain ⟨G, i0, ib, i1, i2, i3, i4⟩ := hl
 have e1 := i4 2
 have e2 := i4 3
 have e3 := i4 4
 refine wpIn_seq ?_
 rw [hr4]
 have hev : ∀ t, a3.eval (.tmp t) = a3.tmps.getD t Go.undef := fun t => rfl
 obtain ⟨dd, hdd⟩ : ∃ dd : Deferred, dd = { target := .fn (.func 32) #[a3.tmps.getD 2 Go.undef, a3.tmps.getD 3 Go.undef, a3.tmps.getD 4 Go.undef], args := #[] } := ⟨_, rfl⟩
 have hreg : (Code.region 4 ops false).wpIn Fence.wide 0 Tryd.prog (fun e a' w' => e = .normal ∧ w' = w3 ∧ a' = { tmps := a3.tmps.setIfInBounds 20 (.func (.func 32) #[] #[a3.tmps.getD 2 Go.undef, a3.tmps.getD 3 Go.undef, a3.tmps.getD 4 Go.undef]), defers := [dd] }) a3 w3 := by
  refine (wpIn_wide (n := 0)).2 (wp_region ?_)
  rw [hsz]
  show wpOps Tryd.prog ops _ [0, 1] a3 w3
  have r0 : (execOp a3.eval o0).run Tryd.prog w3 = .ok (.value (.func (.func 32) #[] #[a3.tmps.getD 2 Go.undef, a3.tmps.getD 3 Go.undef, a3.tmps.getD 4 Go.undef])) w3 := by
   have hmf : ∀ (fn : Fn) (first cap : Array Value) (w : World), (Instr.makeFunc fn first cap).run Tryd.prog w = .ok (.func fn first cap) w := fun _ _ _ _ => rfl
   simp only [execOp, p0, Sem.run_bind, hmf, Result.andThen_ok, Sem.run_pure]
   simp [Act.eval]
  simp only [wpOps, h0, h1, Region.wanted, p2, p5, if_true]
  refine .inl ?_
  simp only [Oper.wp, r0, Oper.upon_value]
  have hsz20 : 20 < a3.tmps.size := by rw [i1]; decide
  have e20 : (a3.put o0.dst (.func (.func 32) #[] #[a3.tmps.getD 2 Go.undef, a3.tmps.getD 3 Go.undef, a3.tmps.getD 4 Go.undef])).eval (.tmp 20) = .func (.func 32) #[] #[a3.tmps.getD 2 Go.undef, a3.tmps.getD 3 Go.undef, a3.tmps.getD 4 Go.undef] := by
   rw [p1]; simp [Act.eval, Act.put, hsz20]
  have r1 : (execOp (a3.put o0.dst (.func (.func 32) #[] #[a3.tmps.getD 2 Go.undef, a3.tmps.getD 3 Go.undef, a3.tmps.getD 4 Go.undef])).eval o1).run Tryd.prog w3 = .ok (.defer dd) w3 := by
   simp only [execOp, p3, resolve, e20, hdd, Sem.run_bind, Sem.run_pure, Result.andThen_ok]
   simp [Deferred.ofValue, Sem.run_pure]
  refine .inl ?_
  rw [r1, Oper.upon_defer, p4, p1]
  refine ⟨?_, ?_, ?_⟩
  ·trivial
  ·first | rfl | trivial
  ·simp [Act.put, i2, E13]
 refine wpIn_mono hreg fun e a4 w4 hq => ?_
 obtain ⟨rfl, rfl, rfl⟩ := hq
 simp only [Exit.then]
 have hsim4 : Sim (defC (E13 0 0) dd) w g (S13 s l) { tmps := a3.tmps.setIfInBounds 20 (.func (.func 32) #[] #[a3.tmps.getD 2 Go.undef, a3.tmps.getD 3 Go.undef, a3.tmps.getD 4 Go.undef]), defers := [dd] } w4 := by
  refine ⟨G, i0, ib, (by rw [Array.size_setIfInBounds]; exact i1), rfl, i3, fun t => ?_⟩
  by_cases ht : t = 20
  ·subst ht
   have : (S13 s l).slot (defC (E13 0 0) dd).pers 20 = .u0 := rfl
   rw [this]; simp [Rel]
  ·have := i4 t
   rw [show (a3.tmps.setIfInBounds 20 (.func (.func 32) #[] #[a3.tmps.getD 2 Go.undef, a3.tmps.getD 3 Go.undef, a3.tmps.getD 4 Go.undef])).getD t Go.undef = a3.tmps.getD t Go.undef by
    simp only [Array.getD_eq_getD_getElem?, Array.getElem?_setIfInBounds]
    rw [if_neg (fun e => ht e.symm)]]
   exact this
 obtain ⟨G4, i40, i4b, i41, i42, i43, i44⟩ := id hsim4
 have hr3 : G4.r.length = 3 := i40.heap.len.symm
 have ht3 : G4.tk.length = 0 := i40.heap.lent.symm
 have hamb4 : M.amb w4 G4.own := M.up _ _ _ _ hA i40.keeps fun n hn => i40.new n hn
 have hst4 : ((defC (E13 3 0) dd).pans PR).M.start w4 G4 := ⟨hamb4, trivial⟩
 obtain ⟨a4, ha4⟩ : ∃ a4 : Act, a4 = { tmps := a3.tmps.setIfInBounds 20 (.func (.func 32) #[] #[a3.tmps.getD 2 Go.undef, a3.tmps.getD 3 Go.undef, a3.tmps.getD 4 Go.undef]), defers := [dd] } := ⟨_, rfl⟩
 have hsim5 : Sim ((defC (E13 3 0) dd).pans PR) w4 G4 (S13 s l) a4 w4 := by
  rw [ha4]
  exact ⟨G4, Inv.refl' i40.heap, ⟨hr3, ht3⟩, i41, rfl, i43, i44⟩
 rw [← ha4]
 refine wpIn_mono ((hR dd a4).run _ (zCr ze13 rfl rfl rfl) zn13 w4 G4 hst4 _ w4 hsim5 (fun _ _ => rfl) none) fun e a5 w5 hl => ?_
 obtain ⟨hl, hag⟩ := hl
 have g2 : ∀ t, t ≠ 20 → a4.tmps.getD t Go.undef = a3.tmps.getD t Go.undef := fun t ht => by
  rw [ha4]
  simp only [Array.getD_eq_getD_getElem?, Array.getElem?_setIfInBounds]
  rw [if_neg (fun e => ht e.symm)]
 have fin : ∀ s1, Sim ((defC (E13 3 0) dd).pans PR) w4 G4 s1 a5 w5 → (rrsWp q13 s1 fun ds => D.closed (zAn ds) = true ∧ (zAn ds).er = d) → Leaves Tryd.prog Tryd.f13 a5.tmps (Post w g fun d' _ => d'.closed = true ∧ d'.er = d) a5.defers .returning w5 := by
  intro s1 hs hrr
  obtain ⟨G5, j0, jb, j1, j2, j3, j4⟩ := hs
  have j2' : a5.defers = [dd] := j2
  rw [j2', hdd]
  refine leaves_cons (f := 32) (args := #[a3.tmps.getD 2 Go.undef, a3.tmps.getD 3 Go.undef, a3.tmps.getD 4 Go.undef]) (by simp) (by simp [go_sem]) ?_
  refine (idle32 _ _ _ _).mono ?_
  rintro e u' w'' ⟨rfl, rfl, rfl⟩
  simp only [Leaves, settle]
  obtain ⟨ds, v, k1, k4, k5⟩ := zCp (C := (defC (E13 3 0) dd).pans PR) (a := a5) (fn := Tryd.f13) j0 j4 (rs := q13) (by kernel_rfl) hrr
  exact ⟨v, k5, v, _, _, G5, rfl, k1, i40.join j0, k4⟩
 cases e <;> simp only [Lift, bodyPostD] at hl ⊢
 case normal => obtain ⟨s1, h1, _, h2⟩ := hl; exact fin s1 h1 h2
 case exit => obtain ⟨s1, h1, h3, h2⟩ := hl; exact h3.elim
 case ret => obtain ⟨s1, h1, _, h2⟩ := hl; exact fin s1 h1 h2
 case panic ch =>
  obtain ⟨hdf, v, d', hp', G', hch, hpan', hi, hv⟩ := hl
  cases hch
  have hag := hag (by simp)
  have hdf' : a5.defers = [dd] := hdf
  obtain ⟨e, p, rfl, ⟨a, b, c, x, y, hH3⟩, rfl⟩ := hPR _ _ hpan'
  show Leaves Tryd.prog Tryd.f13 a5.tmps _ a5.defers _ w5
  rw [hdf', hdd]
  refine leaves_cons (f := 32) (args := #[a3.tmps.getD 2 Go.undef, a3.tmps.getD 3 Go.undef, a3.tmps.getD 4 Go.undef]) (by simp) (by simp [go_sem]) ?_
  have hi' := hi.cut 3 0 (by rw [hr3]; exact Nat.le_refl _) (by rw [ht3]; exact Nat.le_refl _)
  have hcut : hp'.cut 3 0 = ⟨[.cells [a.rn (cutF 3) (cutF 0), b.rn (cutF 3) (cutF 0), c.rn (cutF 3) (cutF 0)], .cells [x.rn (cutF 3) (cutF 0)], .cells [y.rn (cutF 3) (cutF 0)]], []⟩ := by
   simp [Hp.cut, hH3, Blk.rnL, Blk.rn, D.rnL, Tv.rnL]
  rw [hcut] at hi'
  have hv' : Rel w5 (G'.cut 3 0) (probD e p) v := by
   have := Rel.rn _ (Ren.cut G' 3 0) hv
   simpa [probD, D.rn, D.rnL] using this
  have hamb5 : M.amb w5 (G'.cut 3 0).own := M.up _ _ _ _ hamb4 hi'.keeps fun n hn => hi'.new n hn
  have r2 : Rel w4 G4 (.ptr 0 0) (a3.tmps.getD 2 Go.undef) := by have := i44 2; rw [← ha4, g2 2 (by decide)] at this; exact this
  have r3 : Rel w4 G4 (.ptr 1 0) (a3.tmps.getD 3 Go.undef) := by have := i44 3; rw [← ha4, g2 3 (by decide)] at this; exact this
  have r4 : Rel w4 G4 (.ptr 2 0) (a3.tmps.getD 4 Go.undef) := by have := i44 4; rw [← ha4, g2 4 (by decide)] at this; exact this
  refine (panic32 hi'.heap hamb5 hv' (Rel.evo _ hi'.evo r2) (Rel.evo _ hi'.evo r3) (Rel.evo _ hi'.evo r4)).mono ?_
  rintro e' u' w'' ⟨rfl, rfl, G6, k6⟩
  simp only [Leaves, settle, List.dropWhile]
  have k7 := hi'.join k6
  have k8 := i40.join k7
  obtain ⟨sR, hsR⟩ : ∃ sR : St, sR = ⟨[.u0, .ptr 0 0, .ptr 1 0, .ptr 2 0, .u0, .u0, .u0, .u0, .u0, .u0, .u0], [], ⟨[.cells [.int .i64 0, .int .i64 0, .lit (.slice none 0 0)], .cells [.int .i64 e], .cells [.int .i64 p], .cells [.int .i64 e, .int .i64 p]], []⟩⟩ := ⟨_, rfl⟩
  have hag2 := fun t (ht : t ∈ [2, 3, 4]) => hag t ht
  have hsl : ∀ t, Rel w'' G6 (sR.slot (E13 3 0).pers t) (a5.tmps.getD t Go.undef) := by
   intro t
   by_cases h2 : t = 2
   ·subst h2
    rw [hag2 2 (by simp), g2 2 (by decide), hsR]
    exact Rel.evo _ k7.evo r2
   by_cases h3 : t = 3
   ·subst h3
    rw [hag2 3 (by simp), g2 3 (by decide), hsR]
    exact Rel.evo _ k7.evo r3
   by_cases h4 : t = 4
   ·subst h4
    rw [hag2 4 (by simp), g2 4 (by decide), hsR]
    exact Rel.evo _ k7.evo r4
   have hu : sR.slot (E13 3 0).pers t = .u0 := by
    unfold St.slot
    cases hi : idx t (E13 3 0).pers with
    | none => rw [hsR]; rfl
    | some i =>
      have hj := zCj hi
      rw [hsR]
      rcases i with _ | _ | _ | _ | i
      ·rfl
      ·exact absurd (Option.some.inj hj).symm h2
      ·exact absurd (Option.some.inj hj).symm h3
      ·exact absurd (Option.some.inj hj).symm h4
      ·rcases i with _ | _ | _ | _ | _ | _ | _ | i <;> rfl
   rw [hu]; simp [Rel]
  obtain ⟨ds, v, k1, k4, k5⟩ := zCp (C := E13 3 0) (a := a5) (fn := Tryd.f13) (s := sR) (by rw [hsR]; exact k6) hsl (rs := q13) (K := fun ds => D.closed (zAn ds) = true ∧ (zAn ds).er = .tup [.agg [.int .i64 0, .int .i64 0, .lit (.slice none 0 0)], .int .i64 e, .int .i64 p]) (by kernel_rfl) (by rw [hsR]; simp [go_sem, q13, rrsWp, D.closed, D.cL, D.er, D.erL])
  exact ⟨v, k5, v, _, _, G6, rfl, k1, k8, k4⟩
end Go.Proofs.YtkjnhkoipgdfeaaDoor
end
section
set_option maxRecDepth 100000
set_option linter.unusedSimpArgs false
set_option linter.unusedVariables false
namespace Go.Proofs.YtkjnhkoipgdfeaaDoor
open Go GoV Go.RowKit
@[reducible] def zD (e p : Int) : D := .tup [.agg [.int .i64 0, .int .i64 0, .lit (.slice none 0 0)], .int .i64 e, .int .i64 p]
def PRp (e p : Int) : D → Hp → Prop := fun d' hp => d' = probD e p ∧ ∃ a b c x y, hp.H.take 3 = [.cells [a, b, c], .cells [x], .cells [y]]
theorem PRp_ok {e p : Int} : ∀ d' hp, PRp e p d' hp → ∃ e' p', d' = probD e' p' ∧ (∃ a b c x y, hp.H.take 3 = [.cells [a, b, c], .cells [x], .cells [y]]) ∧ zD e p = .tup [.agg [.int .i64 0, .int .i64 0, .lit (.slice none 0 0)], .int .i64 e', .int .i64 p'] :=
 fun d' hp h => ⟨e, p, h.1, h.2, rfl⟩
theorem PRp_back {e p : Int} {hp : Hp} {a b c x y : D} (h : hp.H.take 3 = [.cells [a, b, c], .cells [x], .cells [y]]) (bl tl : List Nat) (hb : ∀ k ∈ bl, 3 ≤ k) (hp1 : Hp) : PRp e p (probD e p) (hp.back bl tl hp1) := by
 refine ⟨rfl, a, b, c, x, y, ?_⟩
 have hl : 3 ≤ hp.H.length := by
  have := congrArg List.length h
  simp at this; omega
 rw [back_take hb hl, h]
set_option maxHeartbeats 1000000 in
theorem parse_no (s : Tx) (hs : s.length ≤ 4999) (hq : zEa s) {l : List Tok} (hl : lexP s = (l, 0, 0)) (hll : l.length ≤ 5000) (hG : GoodT l) {e p : Int} (hp : formP s.length (l.length + 1) l = .no e p) : Pur M 13 [.str s] (zD e p) := by
 have hlex := lex_p s hs hq
 rw [hl] at hlex
 refine parse_run2 s hlex PRp_ok fun dd a0 => ?_
 unfold cR13
 have c1 := form_x (en := s.length) (N := 5000) (by omega) (l.length + 1) l e p hll (by omega) hG hp
 have hPan : ∀ (a b c x y : D) (B : Blk) (hp1 : Hp), PRp e p (probD e p) (Hp.back ⟨[.cells [a, b, c], .cells [x], .cells [y], B], []⟩ [3] [] hp1) := fun a b c x y B hp1 => PRp_back rfl _ _ (by simp) _
 unfold hpP at c1
 have hcl := zEf l
 have wQ := @zAe; repeat' (first | (with_reducible first | apply kwp_seq | apply kwp_reg | apply kwp_ret | apply kwp_skip | apply kwp_cd) | simp only [go_sem, seval, zA2, def_M, pe13, q13, e_kcdT, e_kcdF] | ((with_reducible refine o_pan [3] [] (zBm c1 _) ?hs ?he ?hh ?hk); (case hs => exact so); (case he | hh => exact sh wQ); (case hk => intro _ _ q; subst q; first | rfl | apply hPan | (simp [go_sem, seval, zAe]; done))) | with_reducible (apply cdA; constructor) | ((with_reducible refine And.intro ?hw ?_); (case hw => exact sw wQ)) | with_reducible intro _)
set_option maxHeartbeats 1000000 in
theorem parse_more (s : Tx) (hs : s.length ≤ 4999) (hq : zEa s) {l : List Tok} (hl : lexP s = (l, 0, 0)) (hll : l.length ≤ 5000) (hG : GoodT l) {f : F} {t : Tok} {r : List Tok} (hp : formP s.length (l.length + 1) l = .ok f (t :: r)) : Pur M 13 [.str s] (zD 8 t.pos) := by
 have hlex := lex_p s hs hq
 rw [hl] at hlex
 refine parse_run2 s hlex PRp_ok fun dd a0 => ?_
 unfold cR13
 obtain ⟨c1, hlt, _⟩ := form_e (en := s.length) (N := 5000) (by omega) (l.length + 1) l f (t :: r) hll hG hp
 have c2 := fail_x (t :: r) (by simp at hlt ⊢; omega) s.length 8 t.pos rfl
 have hPan : ∀ (a b c x y : D) (B : Blk) (hp1 : Hp), PRp 8 t.pos (probD 8 t.pos) (Hp.back ⟨[.cells [a, b, c], .cells [x], .cells [y], B], []⟩ [3] [] hp1) := fun a b c x y B hp1 => PRp_back rfl _ _ (by simp) _
 have hcl := zEf l
 have hck := zAh f.kids
 have hek := erL_F f.kids
 have hrn := fun β τ => rnL_F β τ f.kids
 have hlr := zDz r
 have hd : decide (((r.length + 1 : Nat) : Int) > 0) = true := by simp only [decide_eq_true_eq]; omega
 have hcons := zEe t r
 rw [F.d_eq] at c1
 unfold hpP at c1 c2
 rw [hcons] at c1 c2
 have wQ := And.intro @zAe (And.intro @hrn (And.intro @hck (And.intro @hek @hlr))); repeat' (first | (with_reducible first | apply kwp_seq | apply kwp_reg | apply kwp_ret | apply kwp_skip | apply kwp_cd) | simp only [go_sem, seval, zA2, def_M, pe13, q13, hlr, hd, List.length_cons, e_kcdT, e_kcdF] | ((with_reducible refine o_eff [3] [] (zAf c1 _) ?hs ?he ?hh ?_); (case hs => exact so); (case he | hh => exact sh wQ); rintro _ _ ⟨rfl, rfl⟩) | ((with_reducible refine o_pan [3] [] (zBm c2 _) ?hs ?he ?hh ?hk); (case hs => exact so); (case he | hh => exact sh wQ); (case hk => intro _ _ q; subst q; first | rfl | apply hPan | (simp [go_sem, seval, zAe, hrn, hck, hek, hlr]; done))) | with_reducible (apply cdA; constructor) | ((with_reducible refine And.intro ?hw ?_); (case hw => exact sw wQ)) | with_reducible intro _)
set_option maxHeartbeats 1000000 in
theorem parse_lim (s : Tx) (hs : s.length ≤ 4999) (hq : zEa s) {l : List Tok} (hl : lexP s = (l, 0, 0)) (hll : l.length ≤ 5000) (hG : GoodT l) {f : F} (hp : formP s.length (l.length + 1) l = .ok f []) (hn : 60 < f.nodes) : Pur M 13 [.str s] (zD 7 0) := by
 have hlex := lex_p s hs hq
 rw [hl] at hlex
 refine parse_run s hlex fun dd => ?_
 unfold cR13
 obtain ⟨c1, _, _⟩ := form_e (en := s.length) (N := 5000) (by omega) (l.length + 1) l f [] hll hG hp
 have c2 := nodes_p f.nodes f (Nat.le_refl _) 60 (by omega)
 rw [show min f.nodes (60 + 1) = 61 by omega] at c2
 have hck := zAh f.kids
 have hek := erL_F f.kids
 have hrn := fun β τ => rnL_F β τ f.kids
 rw [F.d_eq] at c1 c2
 unfold hpP at c1
 have e0 : tokL [] = [] := rfl
 rw [e0] at c1
 have wQ := And.intro @zAe (And.intro @hrn (And.intro @hck @hek)); repeat' (first | with_reducible (apply swq; constructor) | simp only [go_sem, seval, def_M, pe13, q13] | ((with_reducible refine o_eff [3] [] (c1) ?hs ?he ?hh ?_); (case hs => exact so); (case he | hh => exact sh wQ); rintro _ _ ⟨rfl, rfl⟩) | ((with_reducible refine zAb (c2) ?he ?hc ?_); (case he | hc => exact sc wQ)) | with_reducible (apply cdA; constructor) | ((with_reducible refine And.intro ?hw ?_); (case hw => exact sw wQ)) | with_reducible intro _)
 all_goals try (exfalso; omega)
 all_goals simp [D.closed, D.er, D.cL, D.erL, RcS, hck, setL]
set_option maxHeartbeats 1000000 in
theorem parse_lex (s : Tx) (hs : s.length ≤ 4999) (hq : zEa s) {l : List Tok} {e p : Int} (hl : lexP s = (l, e, p)) (he : e ≠ 0) : Pur M 13 [.str s] (zD e p) := by
 have hlex := lex_p s hs hq
 rw [hl] at hlex
 have hcl := zEf l
 have her := tokL_er l
 have he' : (e != 0) = true := by simp [he]
 have s1 : SWp (E13 0 0) (.reg r13_0) (fun e s' => e = .normal ∧ s' = ⟨[.str s, .ptr 0 0, .ptr 1 0, .ptr 2 0, .u0, .u0, .u0, .u0, .u0, .u0, .u0], [], ⟨[.cells [.int .i64 0, .int .i64 0, .lit (.slice none 0 0)], .cells [.int .i64 0], .cells [.int .i64 0]], []⟩⟩) (St.init (E13 0 0) [.str s] ⟨[], []⟩) := by
  rw [ie13]
  have wQ := tw; repeat' (first | with_reducible (apply swq; constructor) | simp only [go_sem, seval, pe13, q13] | with_reducible (apply cdA; constructor) | ((with_reducible refine And.intro ?hw ?_); (case hw => exact sw wQ)) | with_reducible intro _)
  all_goals first | exact ⟨rfl, rfl⟩ | rfl | trivial
 have s2 : SWp (E13 0 0) (.reg r13_1) (fun x s' => x = .normal ∧ s' = ⟨[.str s, .ptr 0 0, .ptr 1 0, .ptr 2 0, .slice (tokL l) .no, .int .i64 e, .int .i64 p, .u0, .u0, .u0, .u0], [], ⟨[.cells [.int .i64 0, .int .i64 0, .lit (.slice none 0 0)], .cells [.int .i64 0], .cells [.int .i64 0]], []⟩⟩)
  ⟨[.str s, .ptr 0 0, .ptr 1 0, .ptr 2 0, .u0, .u0, .u0, .u0, .u0, .u0, .u0], [], ⟨[.cells [.int .i64 0, .int .i64 0, .lit (.slice none 0 0)], .cells [.int .i64 0], .cells [.int .i64 0]], []⟩⟩ := by
  have wQ := And.intro @hcl @her; repeat' (first | with_reducible (apply swq; constructor) | simp only [go_sem, seval, pe13, q13] | ((with_reducible refine zAb (hlex) ?he ?hc ?_); (case he | hc => exact sc wQ)) | with_reducible (apply cdA; constructor) | ((with_reducible refine And.intro ?hw ?_); (case hw => exact sw wQ)) | with_reducible intro _)
  all_goals first | exact ⟨rfl, rfl⟩ | rfl | trivial
 have s3 : SWp (E13 0 0) (.seq (.reg r13_2) (.cond (.v 8) (.seq (.reg r13_3) .ret) .skip)) (fun x s' => x = .ret ∧ rrsWp q13 s' fun ds => D.closed (zAn ds) = true ∧ (zAn ds).er = zD e p)
  ⟨[.str s, .ptr 0 0, .ptr 1 0, .ptr 2 0, .slice (tokL l) .no, .int .i64 e, .int .i64 p, .u0, .u0, .u0, .u0], [], ⟨[.cells [.int .i64 0, .int .i64 0, .lit (.slice none 0 0)], .cells [.int .i64 0], .cells [.int .i64 0]], []⟩⟩ := by
  have wQ := tw; repeat' (first | with_reducible (apply swq; constructor) | simp only [go_sem, seval, pe13, q13, he'] | with_reducible (apply cdA; constructor) | ((with_reducible refine And.intro ?hw ?_); (case hw => exact sw wQ)) | with_reducible intro _)
  all_goals simp [D.closed, D.er, D.cL, D.erL, RcS, setL]
 have hP : (E13 0 0).P = Tryd.prog := rfl
 refine zDr ⟨⟨Tryd.f13, Tryd.func13, by kernel_rfl, rfl⟩, fun w g xs hA hH hargs => ?_⟩
 refine calls_of_wp_defers Tryd.func13 hK13 ((wpIn_wide (n := 0)).1 ?_)
 have hsim := zD7 (C := E13 0 0) (fn := Tryd.f13) (by kernel_rfl) (args := [.str s]) (hp := ⟨[], []⟩) (by rfl) (by rw [show ([D.str s] : List D).length = 1 from rfl]; decide) rfl rfl rfl hH hargs
 have hstart : (E13 0 0).M.start w g := ⟨hA, trivial⟩
 have hpan : ∀ d hp, ¬ (E13 0 0).M.pan d hp := fun _ _ h => h
 refine wpIn_seq (wpIn_mono (zBy s1 za13 hpan hstart hsim) fun e a1 w1 hl => ?_)
 obtain ⟨rfl, hl⟩ := hl
 simp only [Exit.then]
 refine wpIn_seq (wpIn_mono (zBy s2 zb13 hpan hstart hl) fun e a2 w2 hl => ?_)
 obtain ⟨rfl, hl⟩ := hl
 simp only [Exit.then]
 refine wpIn_seq (wpIn_mono (s3.run _ zc13 w g hstart a2 w2 hl none) fun x a3 w3 hl => ?_)
 cases x <;> simp only [Lift, Exit.then] at hl ⊢
 case normal => obtain ⟨_, _, q, _⟩ := hl; cases q
 case exit => obtain ⟨_, _, q, _⟩ := hl; cases q
 case panic => obtain ⟨_, _, _, _, _, _, k, _⟩ := hl; exact absurd k (hpan _ _)
 case ret =>
  obtain ⟨s5, ⟨G5, j0, jb, j1, j2, j3, j4⟩, _, hrr⟩ := hl
  have j2' : a3.defers = [] := j2
  simp only [bodyPostD, j2', Leaves]
  obtain ⟨ds, v, k1, k4, k5⟩ := zCp (C := E13 0 0) (a := a3) (fn := Tryd.f13) j0 j4 (rs := q13) (by kernel_rfl) hrr
  exact ⟨v, k5, v, _, _, G5, rfl, k1, j0, k4⟩
end Go.Proofs.YtkjnhkoipgdfeaaDoor
end
section
set_option maxRecDepth 100000
set_option linter.unusedSimpArgs false
set_option linter.unusedVariables false
namespace Go.Proofs.YtkjnhkoipgdfeaaDoor
open Go GoV Go.RowKit
def lays240_ren : Go.Shelf.Ren := ⟨fun | 240 => 51 | 276 => 56 | n => n, fun | 0 => 0 | 4 => 4 | 9 => 9 | 20 => 20 | 70 => 79 | 72 => 82 | 37 => 80 | 5 => 5 | 164 => 109 | n => n, fun | n => n⟩
theorem lays240 : Go.Proofs.Lays.n240 Tryd.prog lays240_ren := {
 mixed := by kernel_rfl
 f240 := Tryd.func51.trans (congrArg some (by kernel_rfl))
 f276 := Tryd.func56.trans (congrArg some (by kernel_rfl))
 t0 := Tryd.underlying0
 a0 := Tryd.isAgg0
 z0 := Tryd.sizeOf0
 v0 := Tryd.zeroValue0
 t4 := Tryd.underlying4
 a4 := Tryd.isAgg4
 z4 := Tryd.sizeOf4
 v4 := Tryd.zeroValue4
 t9 := Tryd.underlying9
 a9 := Tryd.isAgg9
 z9 := Tryd.sizeOf9
 v9 := Tryd.zeroValue9
 t20 := Tryd.underlying20
 a20 := Tryd.isAgg20
 z20 := Tryd.sizeOf20
 v20 := Tryd.zeroValue20
 t70 := Tryd.underlying79
 a70 := Tryd.isAgg79
 z70 := Tryd.sizeOf79
 v70 := Tryd.zeroValue79
 t72 := Tryd.underlying82
 a72 := Tryd.isAgg82
 z72 := Tryd.sizeOf82
 v72 := Tryd.zeroValue82
 t164 := Tryd.underlying109
 a164 := Tryd.isAgg109
 z164 := Tryd.sizeOf109
 v164 := Tryd.zeroValue109 }
theorem x72 : Builder.X72 Tryd.prog lays240_ren := {
 sizeBuilder := by kernel_rfl
 liesBuilder := by kernel_rfl }
theorem chk_e {p : D} (hp : p = .lit (.pointer none) ∨ p = .ptr 0 0) (bs : List UInt8) (n : Nat) : Eff M 51 [.ptr 0 0] ⟨[.tcells 82 [p, .gs 0 n]], [.byt 5 bs]⟩ (fun d hp' => d = .tup [] ∧ hp' = ⟨[.tcells 82 [.ptr 0 0, .gs 0 n]], [.byt 5 bs]⟩) :=
 copyCheck_e (M := M) lays240 x72 ⟨Tryd.f51, Tryd.func51, rfl, rfl⟩ hp
theorem zFd {p : D} (hp : p = .lit (.pointer none) ∨ p = .ptr 0 0) (bs : List UInt8) (c : UInt8) (n : Nat) (hn : bs.length = n) (hr : n + 1 ≤ 140737488355328) :
 Eff M 40 [.ptr 0 0, .int .u8 c.toNat] ⟨[.tcells 82 [p, .gs 0 n]], [.byt 5 bs]⟩ (fun d hp' => d = .lit .nilIface ∧ hp' = ⟨[.tcells 82 [.ptr 0 0, .gs 0 (n + 1)]], [.byt 5 (bs ++ [c])]⟩) := by
 refine k40.oe 1 1 rfl rfl rfl ?_
 rw [ie40]
 unfold c40
 have c1 := chk_e hp bs n
 have hb : zC3 [D.int .u8 c.toNat] = some [c] := by
  have : c.toNat < 256 := UInt8.toNat_lt c
  simp only [zC3]
  rw [if_pos (by omega)]; simp
 rcases hp with rfl | rfl
 iterate 2
  ·have wQ := tw; repeat' (first | with_reducible (apply swq; constructor) | simp only [go_sem, seval, pe40, q40] | simp (disch := omega) only [w64, w32, wu8, wu16, wu32, wu64] | ((with_reducible refine o_eff [0] [0] (c1) ?hs ?he ?hh ?_); (case hs => exact so); (case he | hh => exact sh wQ); rintro _ _ ⟨rfl, rfl⟩) | ((with_reducible apply zAp); (case he => rfl); (case hK | hc | hr | hV => exact sd wQ)) | ((with_reducible apply zAq); (case he => rfl); (case hV | hK | hr | hl => exact sd wQ)) | ((with_reducible apply zAs); (case he => rfl); (case hK | hc | hr => exact sd wQ)) | ((with_reducible apply zAr); (case he => rfl); (case hK | hc | hr | hx | hn => exact sd wQ)) | ((with_reducible apply s_bsl); (case he | hl | hc => exact sd wQ)) | with_reducible (apply cdA; constructor) | ((with_reducible refine And.intro ?hw ?_); (case hw => exact sw wQ)) | with_reducible intro _)
   all_goals try (exfalso; omega)
   refine s_appB (es := [.int .u8 c.toNat]) rfl hb rfl rfl ⟨by simp; omega, by simp; omega⟩ rfl hn ?_
   have wQ := tw; repeat' (first | with_reducible (apply swq; constructor) | simp only [go_sem, seval, pe40, q40] | simp (disch := omega) only [w64, w32, wu8, wu16, wu32, wu64] | ((with_reducible apply zAp); (case he => rfl); (case hK | hc | hr | hV => exact sd wQ)) | ((with_reducible apply zAq); (case he => rfl); (case hV | hK | hr | hl => exact sd wQ)) | ((with_reducible apply zAs); (case he => rfl); (case hK | hc | hr => exact sd wQ)) | ((with_reducible apply zAr); (case he => rfl); (case hK | hc | hr | hx | hn => exact sd wQ)) | ((with_reducible apply s_bsl); (case he | hl | hc => exact sd wQ)) | with_reducible (apply cdA; constructor) | ((with_reducible refine And.intro ?hw ?_); (case hw => exact sw wQ)) | with_reducible intro _)
   all_goals try (exfalso; omega)
   exact ⟨_, zAo, rfl, rfl⟩
theorem wstr_e {p : D} (hp : p = .lit (.pointer none) ∨ p = .ptr 0 0) (bs s : List UInt8) (n : Nat) (hn : bs.length = n) (hr : n + s.length ≤ 140737488355328) :
 Eff M 41 [.ptr 0 0, .str s] ⟨[.tcells 82 [p, .gs 0 n]], [.byt 5 bs]⟩ (fun d hp' => d = .tup [.int .i64 s.length, .lit .nilIface] ∧ hp' = ⟨[.tcells 82 [.ptr 0 0, .gs 0 (n + s.length)]], [.byt 5 (bs ++ s)]⟩) := by
 refine k41.oe 1 1 rfl rfl rfl ?_
 rw [ie41]
 unfold c41
 have c1 := chk_e hp bs n
 rcases hp with rfl | rfl
 iterate 2
  ·have wQ := tw; repeat' (first | with_reducible (apply swq; constructor) | simp only [go_sem, seval, pe41, q41] | simp (disch := omega) only [w64, w32, wu8, wu16, wu32, wu64] | ((with_reducible refine o_eff [0] [0] (c1) ?hs ?he ?hh ?_); (case hs => exact so); (case he | hh => exact sh wQ); rintro _ _ ⟨rfl, rfl⟩) | ((with_reducible apply s_appS); (case hV => rfl); (case hr | hl => exact sd wQ)) | ((with_reducible apply zAp); (case he => rfl); (case hK | hc | hr | hV => exact sd wQ)) | ((with_reducible apply zAq); (case he => rfl); (case hV | hK | hr | hl => exact sd wQ)) | ((with_reducible apply zAs); (case he => rfl); (case hK | hc | hr => exact sd wQ)) | ((with_reducible apply zAr); (case he => rfl); (case hK | hc | hr | hx | hn => exact sd wQ)) | with_reducible (apply cdA; constructor) | ((with_reducible refine And.intro ?hw ?_); (case hw => exact sw wQ)) | with_reducible intro _)
   all_goals try omega
   exact ⟨_, zAo, rfl, rfl⟩
theorem str_e {p : D} {bs : List UInt8} (hl : bs.length ≤ 140737488355328) : Eff M 42 [.ptr 0 0] ⟨[.tcells 82 [p, .gs 0 bs.length]], [.byt 5 bs]⟩ (fun d hp' => d = .str bs ∧ hp' = ⟨[.tcells 82 [p, .gs 0 bs.length]], [.per 1 (bs.length + 1)]⟩) :=
 string_e (M := M) (ρ := Tryd.lays169_ren) Tryd.lays169 Tryd.Builder_Extra_169 ⟨Tryd.f42, Tryd.func42, rfl, rfl⟩ hl
end Go.Proofs.YtkjnhkoipgdfeaaDoor
end
section
set_option maxRecDepth 100000
set_option linter.unusedSimpArgs false
set_option linter.unusedVariables false
namespace Go.Proofs.YtkjnhkoipgdfeaaDoor
open Go GoV Go.RowKit
def oS (u : Option (Tx × Nat)) : Tx := match u with
 | some (t, _) => t
 | none => []
def oN (u : Option (Tx × Nat)) : Nat := match u with
 | some (_, n) => n
 | none => 0
theorem unq_at {s : Tx} {i : Nat} {acc : Tx} (h : i < s.length) : unq (s.drop i) acc i =
 if s.getD i 0 = 34 then some (acc, i + 1)
 else if s.getD i 0 = 10 then none
 else if s.getD i 0 = 92 then
  (if i + 1 < s.length then (if s.getD (i + 1) 0 = 92 then unq (s.drop (i + 2)) (acc ++ [92]) (i + 2) else if s.getD (i + 1) 0 = 34 then unq (s.drop (i + 2)) (acc ++ [34]) (i + 2) else if s.getD (i + 1) 0 = 110 then unq (s.drop (i + 2)) (acc ++ [10]) (i + 2) else none) else none)
 else unq (s.drop (i + 1)) (acc ++ [s.getD i 0]) (i + 1) := by
 rw [zBn h]
 by_cases h2 : i + 1 < s.length
 ·rw [if_pos h2, zBn h2]
  rw [unq]
 ·rw [if_neg h2, List.drop_eq_nil_of_le (by omega)]
  rw [unq]
  simp only [unq]
theorem u8B (c d : UInt8) : ((c.toNat : Int) == d.toNat) = (c == d) := by
 rw [Bool.eq_iff_iff, beq_iff_eq, beq_iff_eq]
 constructor
 ·intro h; exact UInt8.toNat_inj.1 (by omega)
 ·rintro rfl; rfl
theorem ix3 (d : UInt8) : Lib.indexByte [92, 34, 110] d = if d = 92 then 0 else if d = 34 then 1 else if d = 110 then 2 else -1 := by
 have key : ∀ n : Fin 256, Lib.indexByte [92, 34, 110] (UInt8.ofNat n.val) = if (UInt8.ofNat n.val) = 92 then 0 else if (UInt8.ofNat n.val) = 34 then 1 else if (UInt8.ofNat n.val) = 110 then 2 else -1 := by decide +kernel
 have h := key ⟨d.toNat, UInt8.toNat_lt d⟩
 have e : UInt8.ofNat d.toNat = d := by simp
 simpa only [e] using h
def bD (b : Bool) : D := if b then .ptr 0 0 else .lit (.pointer none)
theorem bD_or (b : Bool) : bD b = .lit (.pointer none) ∨ bD b = .ptr 0 0 := by cases b <;> simp [bD]
set_option maxHeartbeats 4000000 in
theorem unquoted_p (s : Tx) (hs : s.length ≤ 20000) : Pur M 50 [.str s] (.tup [.str (oS (unq (s.drop 1) [] 1)), .int .i64 (oN (unq (s.drop 1) [] 1) : Nat)]) := by
 refine k50.ok (C := C50) rfl rfl ?_
 rw [i50]
 unfold c50
 have wQ := tw; repeat' (first | with_reducible (apply swq; constructor) | simp only [go_sem, seval, P50, q50] | simp (disch := omega) only [w64, w32, wu8, wu16, wu32, wu64] | with_reducible (apply cdA; constructor) | ((with_reducible refine And.intro ?hw ?_); (case hw => exact sw wQ)) | with_reducible intro _)
 all_goals try (exfalso; omega)
 refine zEu (weak_bld 0 82 5 _ rfl) ?_
 generalize hU : unq (s.drop 1) [] 1 = U
 refine zB6 [0, 1, 2, 3, 4] (fun x : Nat × Tx × Bool => ⟨[.str s, .str [], .int .i64 0, .ptr 0 0, .int .i64 (x.1 : Nat), .u0, .u0, .u0, .u0, .u0, .u0, .u0, .u0, .u0], [], ⟨[.tcells 82 [bD x.2.2, .gs 0 x.2.1.length]], [.byt 5 x.2.1]⟩⟩)
  (fun x => 1 ≤ x.1 ∧ x.1 ≤ 20001 ∧ x.2.1.length ≤ x.1 ∧ unq (s.drop x.1) x.2.1 x.1 = U) (fun x => 20001 - x.1) (1, [], false) ⟨by omega, by omega, by simp, hU⟩ ?_ ?_
 ·simp [keepE, St.keep, bD]
 ·rintro ⟨i, acc, b⟩ ⟨g1, g2, g3, g4⟩
  simp only at g1 g2 g3 g4 ⊢
  have hbo := bD_or b
  have hti : ((i : Int) + 1).toNat = i + 1 := by omega
  by_cases hi : i < s.length
  ·rw [unq_at hi] at g4
   have hd : decide ((i : Int) < s.length) = true := by simp; omega
   generalize hc : s.getD i 0 = c at *
   have e34 := u8B c 34
   have e10 := u8B c 10
   have e92 := u8B c 92
   have n34 : (((34 : UInt8).toNat : Nat) : Int) = 34 := rfl
   have n10 : (((10 : UInt8).toNat : Nat) : Int) = 10 := rfl
   have n92 : (((92 : UInt8).toNat : Nat) : Int) = 92 := rfl
   rw [n34] at e34
   rw [n10] at e10
   rw [n92] at e92
   by_cases h34 : c = 34
   ·rw [if_pos h34] at g4
    have t1 : ((c.toNat : Int) == 34) = true := by rw [e34]; simp [h34]
    have cS := str_e (p := bD b) (bs := acc) (by omega)
    subst g4
    have e1 : oS (some (acc, i + 1)) = acc := rfl
    have e2 : oN (some (acc, i + 1)) = i + 1 := rfl
    rw [e1, e2]
    rcases hbo with e | e <;> rw [e] at cS ⊢
    iterate 2
     ·have wQ := tw; repeat' (first | with_reducible (apply swq; constructor) | simp only [go_sem, seval, P50, q50, hd, t1, hc] | simp (disch := omega) only [w64, w32, wu8, wu16, wu32, wu64] | ((with_reducible refine o_eff [0] [0] (cS) ?hs ?he ?hh ?_); (case hs => exact so); (case he | hh => exact sh wQ); rintro _ _ ⟨rfl, rfl⟩) | with_reducible (apply cdA; constructor) | ((with_reducible refine And.intro ?hw ?_); (case hw => exact sw wQ)) | with_reducible intro _)
      all_goals try (exfalso; omega)
      all_goals simp [D.closed, D.er, D.cL, D.erL]
   rw [if_neg h34] at g4
   have t1 : ((c.toNat : Int) == 34) = false := by rw [e34]; simp [h34]
   by_cases h10 : c = 10
   ·rw [if_pos h10] at g4
    have t2 : ((c.toNat : Int) == 10) = true := by rw [e10]; simp [h10]
    subst g4
    have e1 : oS none = [] := rfl
    have e2 : oN none = 0 := rfl
    rw [e1, e2]
    have wQ := tw; repeat' (first | with_reducible (apply swq; constructor) | simp only [go_sem, seval, P50, q50, hd, t1, t2, hc] | simp (disch := omega) only [w64, w32, wu8, wu16, wu32, wu64] | with_reducible (apply cdA; constructor) | ((with_reducible refine And.intro ?hw ?_); (case hw => exact sw wQ)) | with_reducible intro _)
    all_goals try (exfalso; omega)
    all_goals simp [D.closed, D.er, D.cL, D.erL]
   rw [if_neg h10] at g4
   have t2 : ((c.toNat : Int) == 10) = false := by rw [e10]; simp [h10]
   by_cases h92 : c = 92
   ·rw [if_pos h92] at g4
    have t3 : ((c.toNat : Int) == 92) = true := by rw [e92]; simp [h92]
    by_cases hi2 : i + 1 < s.length
    ·rw [if_pos hi2] at g4
     have hd2 : decide ((i : Int) + 1 < s.length) = true := by simp; omega
     have hd3 : decide (((i + 1 : Nat) : Int) < s.length) = true := by simp; omega
     generalize hc2 : s.getD (i + 1) 0 = d at *
     have cI := index_p [92, 34, 110] d
     rw [ix3] at cI
     have hcc : ∀ (u : UInt8), (Eff M 40 [.ptr 0 0, .int .u8 u.toNat] ⟨[.tcells 82 [bD b, .gs 0 acc.length]], [.byt 5 acc]⟩ (fun d hp' => d = .lit .nilIface ∧ hp' = ⟨[.tcells 82 [.ptr 0 0, .gs 0 (acc.length + 1)]], [.byt 5 (acc ++ [u])]⟩)) := fun u => zFd (bD_or b) acc u acc.length rfl (by omega)
     by_cases q1 : d = 92
     ·rw [if_pos q1] at g4 cI
      have cW := hcc 92
      rcases hbo with e | e <;> rw [e] at cW ⊢
      iterate 2
       ·have wQ := tw; repeat' (first | with_reducible (apply swq; constructor) | simp only [go_sem, seval, P50, q50, hd, hd2, hd3, hti, t1, t2, t3, hc, hc2] | simp (disch := omega) only [w64, w32, wu8, wu16, wu32, wu64] | ((with_reducible refine zAb (cI) ?he ?hc ?_); (case he | hc => exact sc wQ)) | ((with_reducible refine o_eff [0] [0] (cW) ?hs ?he ?hh ?_); (case hs => exact so); (case he | hh => exact sh wQ); rintro _ _ ⟨rfl, rfl⟩) | with_reducible (apply cdA; constructor) | ((with_reducible refine And.intro ?hw ?_); (case hw => exact sw wQ)) | with_reducible intro _)
        all_goals try (exfalso; omega)
        refine ⟨(i + 2, acc ++ [92], true), ⟨by simp only; omega, by simp only; omega, by simp; omega, g4⟩, by simp only; omega, ?_⟩
        simp [keepE, St.keep, bD]; omega
     rw [if_neg q1] at g4 cI
     by_cases q2 : d = 34
     ·rw [if_pos q2] at g4 cI
      have cW := hcc 34
      rcases hbo with e | e <;> rw [e] at cW ⊢
      iterate 2
       ·have wQ := tw; repeat' (first | with_reducible (apply swq; constructor) | simp only [go_sem, seval, P50, q50, hd, hd2, hd3, hti, t1, t2, t3, hc, hc2] | simp (disch := omega) only [w64, w32, wu8, wu16, wu32, wu64] | ((with_reducible refine zAb (cI) ?he ?hc ?_); (case he | hc => exact sc wQ)) | ((with_reducible refine o_eff [0] [0] (cW) ?hs ?he ?hh ?_); (case hs => exact so); (case he | hh => exact sh wQ); rintro _ _ ⟨rfl, rfl⟩) | with_reducible (apply cdA; constructor) | ((with_reducible refine And.intro ?hw ?_); (case hw => exact sw wQ)) | with_reducible intro _)
        all_goals try (exfalso; omega)
        refine ⟨(i + 2, acc ++ [34], true), ⟨by simp only; omega, by simp only; omega, by simp; omega, g4⟩, by simp only; omega, ?_⟩
        simp [keepE, St.keep, bD]; omega
     rw [if_neg q2] at g4 cI
     by_cases q3 : d = 110
     ·rw [if_pos q3] at g4 cI
      have cW := hcc 10
      rcases hbo with e | e <;> rw [e] at cW ⊢
      iterate 2
       ·have wQ := tw; repeat' (first | with_reducible (apply swq; constructor) | simp only [go_sem, seval, P50, q50, hd, hd2, hd3, hti, t1, t2, t3, hc, hc2] | simp (disch := omega) only [w64, w32, wu8, wu16, wu32, wu64] | ((with_reducible refine zAb (cI) ?he ?hc ?_); (case he | hc => exact sc wQ)) | ((with_reducible refine o_eff [0] [0] (cW) ?hs ?he ?hh ?_); (case hs => exact so); (case he | hh => exact sh wQ); rintro _ _ ⟨rfl, rfl⟩) | with_reducible (apply cdA; constructor) | ((with_reducible refine And.intro ?hw ?_); (case hw => exact sw wQ)) | with_reducible intro _)
        all_goals try (exfalso; omega)
        refine ⟨(i + 2, acc ++ [10], true), ⟨by simp only; omega, by simp only; omega, by simp; omega, g4⟩, by simp only; omega, ?_⟩
        simp [keepE, St.keep, bD]; omega
     rw [if_neg q3] at g4 cI
     subst g4
     have e1 : oS none = [] := rfl
     have e2 : oN none = 0 := rfl
     rw [e1, e2]
     have wQ := tw; repeat' (first | with_reducible (apply swq; constructor) | simp only [go_sem, seval, P50, q50, hd, hd2, hd3, hti, t1, t2, t3, hc, hc2] | simp (disch := omega) only [w64, w32, wu8, wu16, wu32, wu64] | ((with_reducible refine zAb (cI) ?he ?hc ?_); (case he | hc => exact sc wQ)) | with_reducible (apply cdA; constructor) | ((with_reducible refine And.intro ?hw ?_); (case hw => exact sw wQ)) | with_reducible intro _)
     all_goals try (exfalso; omega)
     all_goals simp [D.closed, D.er, D.cL, D.erL]
    ·rw [if_neg hi2] at g4
     have hd2 : decide ((i : Int) + 1 < s.length) = false := by simp; omega
     subst g4
     have e1 : oS none = [] := rfl
     have e2 : oN none = 0 := rfl
     rw [e1, e2]
     have wQ := tw; repeat' (first | with_reducible (apply swq; constructor) | simp only [go_sem, seval, P50, q50, hd, hd2, hti, t1, t2, t3, hc] | simp (disch := omega) only [w64, w32, wu8, wu16, wu32, wu64] | with_reducible (apply cdA; constructor) | ((with_reducible refine And.intro ?hw ?_); (case hw => exact sw wQ)) | with_reducible intro _)
     all_goals try (exfalso; omega)
     all_goals simp [D.closed, D.er, D.cL, D.erL]
   rw [if_neg h92] at g4
   have t3 : ((c.toNat : Int) == 92) = false := by rw [e92]; simp [h92]
   have cW := zFd (bD_or b) acc c acc.length rfl (by omega)
   rcases hbo with e | e <;> rw [e] at cW ⊢
   iterate 2
    ·have wQ := tw; repeat' (first | with_reducible (apply swq; constructor) | simp only [go_sem, seval, P50, q50, hd, t1, t2, t3, hc] | simp (disch := omega) only [w64, w32, wu8, wu16, wu32, wu64] | ((with_reducible refine o_eff [0] [0] (cW) ?hs ?he ?hh ?_); (case hs => exact so); (case he | hh => exact sh wQ); rintro _ _ ⟨rfl, rfl⟩) | with_reducible (apply cdA; constructor) | ((with_reducible refine And.intro ?hw ?_); (case hw => exact sw wQ)) | with_reducible intro _)
     all_goals try (exfalso; omega)
     refine ⟨(i + 1, acc ++ [c], true), ⟨by simp only; omega, by simp only; omega, by simp; omega, g4⟩, by simp only; omega, ?_⟩
     simp [keepE, St.keep, bD]
  ·rw [List.drop_eq_nil_of_le (by omega)] at g4
   simp only [unq] at g4
   have hd : decide ((i : Int) < s.length) = false := by simp; omega
   subst g4
   have e1 : oS none = [] := rfl
   have e2 : oN none = 0 := rfl
   rw [e1, e2]
   have wQ := tw; repeat' (first | with_reducible (apply swq; constructor) | simp only [go_sem, seval, P50, q50, hd] | simp (disch := omega) only [w64, w32, wu8, wu16, wu32, wu64] | with_reducible (apply cdA; constructor) | ((with_reducible refine And.intro ?hw ?_); (case hw => exact sw wQ)) | with_reducible intro _)
   all_goals try (exfalso; omega)
   all_goals simp [D.closed, D.er, D.cL, D.erL]
theorem quote_all (t : Tx) (ht : t.length ≤ 20000) : zEa t := fun i hi hc => by
 have h := unquoted_p (t.drop i) (by simp; omega)
 rw [List.drop_drop] at h
 have e1 : unqS t i = oS (unq (t.drop (i + 1)) [] 1) := by unfold unqS oS; cases unq (t.drop (i + 1)) [] 1 <;> rfl
 have e2 : unqN t i = oN (unq (t.drop (i + 1)) [] 1) := by unfold unqN oN; cases unq (t.drop (i + 1)) [] 1 <;> rfl
 rw [e1, e2]
 exact h
end Go.Proofs.YtkjnhkoipgdfeaaDoor
end
section
set_option linter.unusedSimpArgs false
set_option linter.unusedVariables false
namespace Go.Proofs.YtkjnhkoipgdfeaaDoor
abbrev Kt := Int × Tx
def kt (t : Tok) : Kt := (t.kind, t.text)
def bodyK (op n : Int) (ts : List (List Kt)) : List Kt :=
 if op = 1 then [(2, Go.Lib.itoa n)] else if op = 2 then [(1, tKm)] else if op = 3 then [(1, tCy)] else if op = 4 then [(1, tLd)]
 else if op = 9 then (1, tMin) :: (4, [40]) :: (ts.getD 0 [] ++ ((4, [44]) :: (ts.getD 1 [] ++ [(4, [41])])))
 else if op = 10 then (1, tMax) :: (4, [40]) :: (ts.getD 0 [] ++ ((4, [44]) :: (ts.getD 1 [] ++ [(4, [41])])))
 else if op = 11 then (1, tIf) :: (4, [40]) :: (ts.getD 0 [] ++ ((4, [44]) :: (ts.getD 1 [] ++ ((4, [44]) :: (ts.getD 2 [] ++ [(4, [41])])))))
 else ts.getD 0 [] ++ ((4, symF op) :: ts.getD 1 [])
def parK (r least : Int) (t : List Kt) : List Kt := if r < least then (4, [40]) :: (t ++ [(4, [41])]) else t
mutual
def tkF : F → Int → List Kt
 | .mk op n ks, least => parK (rankF op) least (bodyK op n (if rankF op = 2 then tkL 0 0 ks else tkL (rankF op) (rankF op + 1) ks))
def tkL : Int → Int → List F → List (List Kt)
 | _, _, [] => []
 | a, b, k :: ks => tkF k a :: tkL b b ks
end
def Shr (op : List Tok → PR) : Prop := ∀ l g r, op l = .ok g r → r.length < l.length
theorem gotN_cons {k : Int} {ws : List Tx} {l : List Tok} {i : Nat} (h : gotN k ws l = some i) : ∃ t r, l = t :: r := by
 cases l with
 | nil => simp [gotN] at h
 | cons t r => exact ⟨t, r, rfl⟩
theorem loop_shr {op : List Tok → PR} (h : Shr op) (first : Int) (a b : Tx) : ∀ k f l g r, loopP op first a b k f l = .ok g r → r.length ≤ l.length
 | 0, f, l, g, r, e => by simp only [loopP] at e; cases e; exact Nat.le_refl _
 | k + 1, f, l, g, r, e => by
   simp only [loopP] at e
   cases hg : gotN 4 [a, b] l with
   | none => rw [hg] at e; cases e; exact Nat.le_refl _
   | some i =>
     rw [hg] at e
     obtain ⟨t, lt, rfl⟩ := gotN_cons hg
     simp only [List.tail_cons] at e
     obtain ⟨f2, r2, e1, e2⟩ := zBp e
     have q1 := h _ _ _ e1
     have q2 := loop_shr h first a b k _ _ _ _ e2
     simp only [List.length_cons]; omega
theorem chain_shr {op : List Tok → PR} (h : Shr op) (first : Int) (a b : Tx) : Shr (zDw op first a b) := by
 intro l g r e
 obtain ⟨f2, r2, e1, e2⟩ := zBp e
 have q1 := h _ _ _ e1
 have q2 := loop_shr h first a b _ _ _ _ _ e2
 omega
theorem args_shr {fo : List Tok → PR} (h : Shr fo) (en op : Int) : ∀ n fs l g r, argsP fo en op n fs l = .ok g r → r.length < l.length
 | 0, fs, l, g, r, e => by
   obtain ⟨t, l', rfl, _, e2⟩ := zBb e
   cases e2; simp
 | n + 1, fs, l, g, r, e => by
   obtain ⟨t, l', rfl, _, e2⟩ := zBb e
   obtain ⟨f2, r2, e3, e4⟩ := zBp e2
   have q1 := h _ _ _ e3
   have q2 := args_shr h en op n _ _ _ _ e4
   simp only [List.length_cons]; omega
theorem fact_shr {fo : List Tok → PR} (h : Shr fo) (en : Int) : Shr (factP fo en) := by
 intro l g r e
 cases l with
 | nil => simp [factP] at e
 | cons t l' =>
   simp only [factP] at e
   split at e
   ·cases e; simp
   ·split at e
    ·cases e; simp
    ·split at e
     ·obtain ⟨t3, l3, rfl, _, e2⟩ := zBb e
      obtain ⟨f4, l4, e3, e4⟩ := zBp e2
      have q1 := h _ _ _ e3
      have q2 := args_shr h _ _ _ _ _ _ _ e4
      simp only [List.length_cons]; omega
     ·obtain ⟨t3, l3, e0, _, e2⟩ := zBb e
      cases e0
      obtain ⟨f4, l4, e3, e4⟩ := zBp e2
      obtain ⟨t5, l5, rfl, _, e5⟩ := zBb e4
      cases e5
      have q1 := h _ _ _ e3
      simp only [List.length_cons] at q1 ⊢; omega
theorem prod_shr {fo : List Tok → PR} (h : Shr fo) (en : Int) : Shr (prodP fo en) := chain_shr (fact_shr h en) _ _ _
theorem form_shr (en : Int) : ∀ k, Shr (formP en k)
 | 0 => fun l g r e => by simp [formP] at e
 | k + 1 => chain_shr (prod_shr (form_shr en k) en) _ _ _
theorem loop_stop {op : List Tok → PR} {first : Int} {a b : Tx} {k : Nat} {f : F} {l : List Tok} (h : gotN 4 [a, b] l = none) : loopP op first a b k f l = .ok f l := by
 cases k with
 | zero => rfl
 | succ k => simp only [loopP, h]
theorem map_cons {l : List Tok} {x : Kt} {xs : List Kt} (h : l.map kt = x :: xs) : ∃ t r, l = t :: r ∧ t.kind = x.1 ∧ t.text = x.2 ∧ r.map kt = xs := by
 cases l with
 | nil => simp at h
 | cons t r =>
   simp only [List.map_cons, List.cons.injEq] at h
   obtain ⟨rfl, h2⟩ := h
   exact ⟨t, r, rfl, rfl, rfl, h2⟩
theorem map_app {l : List Tok} {x y : List Kt} (h : l.map kt = x ++ y) : ∃ l1 l2, l = l1 ++ l2 ∧ l1.map kt = x ∧ l2.map kt = y := by
 obtain ⟨l1, l2, h1, h2, h3⟩ := List.map_eq_append_iff.1 h
 exact ⟨l1, l2, h1, h2, h3⟩
theorem map_one {l : List Tok} {x : Kt} (h : l.map kt = [x]) : ∃ t, l = [t] ∧ t.kind = x.1 ∧ t.text = x.2 := by
 obtain ⟨t, r, rfl, h1, h2, h3⟩ := map_cons h
 have : r = [] := by simpa using h3
 subst this
 exact ⟨t, rfl, h1, h2⟩
def stopM (l : List Tok) : Prop := gotN 4 [[42], [47]] l = none
def stopS (l : List Tok) : Prop := gotN 4 [[43], [45]] l = none ∧ stopM l
theorem stop_sym {t : Tok} {r : List Tok} {w : Tx} (h1 : t.kind = 4) (h2 : t.text = w) (h3 : w = [41] ∨ w = [44]) : stopS (t :: r) := by
 rcases h3 with rfl | rfl <;> simp [stopS, stopM, gotN, h1, h2] <;> decide
theorem got_sym {t : Tok} {r : List Tok} {w : Tx} (h1 : t.kind = 4) (h2 : t.text = w) : gotN 4 [w] (t :: r) = some 0 := by
 simp [gotN, h1, h2, List.findIdx?_cons]
theorem need_ok {en : Int} {w : Tx} {t : Tok} {r : List Tok} {go : List Tok → PR} (h1 : t.kind = 4) (h2 : t.text = w) : needP en w (t :: r) go = go r := by
 simp [needP, got_sym h1 h2]
theorem got_names {t : Tok} {r : List Tok} {ws : List Tx} (h1 : t.kind = 4) : gotN 1 ws (t :: r) = none := by
 simp [gotN, h1]
theorem fact_par {fo : List Tok → PR} {en : Int} {t : Tok} {r : List Tok} (h1 : t.kind = 4) (h2 : t.text = [40]) : factP fo en (t :: r) = thenP (fo r) fun f r' => needP en [41] r' fun r'' => .ok f r'' := by
 simp only [factP, got_names h1, h1]
 rw [if_neg (by decide)]
 simp only [parP, need_ok h1 h2]
end Go.Proofs.YtkjnhkoipgdfeaaDoor
end
section
set_option linter.unusedSimpArgs false
set_option linter.unusedVariables false
namespace Go.Proofs.YtkjnhkoipgdfeaaDoor
def Lx (s : Tx) (ts : List Kt) : Prop := ∀ k i, s.length ≤ k → (lexF k s i).map (fun f => (kt f.tok, f.err)) = ts.map (fun x => (x, (0 : Int)))
def noW (s : Tx) : Prop := s.head?.any zA1 = false
theorem noW_cons {c : UInt8} {s : Tx} (h : zA1 c = false) : noW (c :: s) := by simp [noW, h]
theorem lx_nil : Lx [] [] := fun k i _ => by cases k <;> simp [lexF]
theorem lx_gap {c : UInt8} {s : Tx} {ts : List Kt} {n : Nat} (hs : ∀ i, step (c :: s) i = (n + 1, none)) {r : Tx} (hr : s.drop n = r) (h : Lx r ts) : Lx (c :: s) ts := by
 intro k i hk
 simp only [List.length_cons] at hk
 obtain ⟨k, rfl⟩ : ∃ k', k = k' + 1 := ⟨k - 1, by omega⟩
 simp only [lexF, hs]
 rw [if_neg (by simp)]
 simp only [List.drop_succ_cons, hr]
 exact h k _ (by rw [← hr]; simp; omega)
theorem lx_tok {c : UInt8} {s : Tx} {ts : List Kt} {n : Nat} {x : Kt} (hs : ∀ i, step (c :: s) i = (n + 1, some ⟨⟨x.1, x.2, (i : Nat)⟩, 0⟩)) {r : Tx} (hr : s.drop n = r) (h : Lx r ts) : Lx (c :: s) (x :: ts) := by
 intro k i hk
 simp only [List.length_cons] at hk
 obtain ⟨k, rfl⟩ : ∃ k', k = k' + 1 := ⟨k - 1, by omega⟩
 simp only [lexF, hs]
 rw [if_neg (by simp)]
 simp only [if_true, List.map_cons, List.drop_succ_cons, hr]
 rw [h k _ (by rw [← hr]; simp; omega)]
 rfl
theorem lx_blank {c : UInt8} {s : Tx} {ts : List Kt} (hc : zCb c = true) (h : Lx s ts) : Lx (c :: s) ts := by
 have h1 : isLet c = false ∧ isDig c = false := by
  have key : ∀ n : Fin 256, zCb (UInt8.ofNat n.val) = true → isLet (UInt8.ofNat n.val) = false ∧ isDig (UInt8.ofNat n.val) = false := by decide +kernel
  have := key ⟨c.toNat, UInt8.toNat_lt c⟩
  have e : UInt8.ofNat c.toNat = c := by simp
  simp only [e] at this
  exact this hc
 refine lx_gap (n := 0) (fun i => ?_) rfl h
 simp [step, h1.1, h1.2, hc]
theorem lx_sym {c : UInt8} {s : Tx} {ts : List Kt} (hc : isSym c = true) (h : Lx s ts) : Lx (c :: s) ((4, [c]) :: ts) := by
 have h1 : isLet c = false ∧ isDig c = false ∧ zCb c = false ∧ ¬ c = 35 ∧ ¬ c = 34 := by
  have key : ∀ n : Fin 256, isSym (UInt8.ofNat n.val) = true → isLet (UInt8.ofNat n.val) = false ∧ isDig (UInt8.ofNat n.val) = false ∧ zCb (UInt8.ofNat n.val) = false ∧ ¬ (UInt8.ofNat n.val) = 35 ∧ ¬ (UInt8.ofNat n.val) = 34 := by decide +kernel
  have := key ⟨c.toNat, UInt8.toNat_lt c⟩
  have e : UInt8.ofNat c.toNat = c := by simp
  simp only [e] at this
  exact this hc
 obtain ⟨a1, a2, a3, a4, a5⟩ := h1
 refine lx_tok (n := 0) (x := (4, [c])) (fun i => ?_) rfl h
 simp [step, a1, a2, a3, a4, a5, hc]
theorem spn_app {p : UInt8 → Bool} {w s : Tx} (hw : w.all p = true) (hs : s.head?.any p = false) : spn p (w ++ s) = w.length := by
 unfold spn
 rw [List.takeWhile_append_of_pos (fun a ha => (List.all_eq_true.1 hw) a ha)]
 cases s with
 | nil => simp
 | cons c r =>
   have : p c = false := by simpa using hs
   simp [List.takeWhile_cons, this]
theorem lx_name {c : UInt8} {w s : Tx} {ts : List Kt} (hc : isLet c = true) (hw : (c :: w).all zA1 = true) (hl : w.length < 24) (hs : noW s) (h : Lx s ts) : Lx ((c :: w) ++ s) ((1, c :: w) :: ts) := by
 have hn : spn zA1 (c :: (w ++ s)) = w.length + 1 := by
  have := spn_app (w := c :: w) (s := s) hw hs
  simpa using this
 show Lx (c :: (w ++ s)) _
 refine lx_tok (n := w.length) (x := (1, c :: w)) (fun i => ?_) (r := s) (by simp) h
 simp only [step, hc, if_true, hn]
 rw [if_neg (by omega)]
 simp
theorem dig_let {c : UInt8} (h : isDig c = true) : isLet c = false := by
 have key : ∀ n : Fin 256, isDig (UInt8.ofNat n.val) = true → isLet (UInt8.ofNat n.val) = false := by decide +kernel
 have := key ⟨c.toNat, UInt8.toNat_lt c⟩
 have e : UInt8.ofNat c.toNat = c := by simp
 simp only [e] at this
 exact this h
theorem noW_dig {s : Tx} (h : noW s) : s.head?.any isDig = false := by
 cases s with
 | nil => rfl
 | cons c r =>
   have : zA1 c = false := by simpa [noW] using h
   unfold zA1 at this
   simp only [Bool.or_eq_false_iff] at this
   simp [this.1.2]
theorem lx_num {w s : Tx} {ts : List Kt} (hw : numOk w) (hs : noW s) (h : Lx s ts) : Lx (w ++ s) ((2, w) :: ts) := by
 obtain ⟨h1, h2, h3⟩ := hw
 cases w with
 | nil => exact absurd rfl h1
 | cons c w =>
   have hc : isDig c = true := by simp only [List.all_cons, Bool.and_eq_true] at h2; exact h2.1
   have hn : spn isDig (c :: (w ++ s)) = w.length + 1 := by
    have := spn_app (w := c :: w) (s := s) h2 (noW_dig hs)
    simpa using this
   show Lx (c :: (w ++ s)) _
   refine lx_tok (n := w.length) (x := (2, c :: w)) (fun i => ?_) (r := s) (by simp) h
   simp only [step, dig_let hc, hc, if_true, hn, Bool.false_eq_true, if_false]
   have hd : (c :: (w ++ s)).drop (w.length + 1) = s := by simp
   rw [hd]
   have hs' : s.head?.any zA1 = false := hs
   rw [if_neg (by simp only [List.length_cons] at h3; rw [hs']; simp; omega)]
   simp
theorem lexP_lx {s : Tx} {ts : List Kt} (h : Lx s ts) : ∃ l, lexP s = (l, 0, 0) ∧ l.map kt = ts := by
 have h1 := h s.length 0 (Nat.le_refl _)
 have he : ∀ f ∈ lexR s, f.err = 0 := by
  intro f hf
  have hm : (kt f.tok, f.err) ∈ (lexF s.length s 0).map (fun f => (kt f.tok, f.err)) := List.mem_map.2 ⟨f, hf, rfl⟩
  rw [h1] at hm
  obtain ⟨x, _, hx⟩ := List.mem_map.1 hm
  have := congrArg Prod.snd hx
  exact this.symm
 have hb : bad (lexR s) = none := by
  unfold bad
  rw [List.find?_eq_none]
  intro f hf
  simp [he f hf]
 refine ⟨(lexR s).map Fo.tok, by unfold lexP; rw [hb], ?_⟩
 have h2 := congrArg (List.map Prod.fst) h1
 simp only [List.map_map] at h2
 rw [List.map_map]
 have e2 : (List.map (Prod.fst ∘ fun x : Kt => (x, (0 : Int))) ts) = ts := by
  have : (Prod.fst ∘ fun x : Kt => (x, (0 : Int))) = id := rfl
  rw [this, List.map_id]
 rw [e2] at h2
 exact h2
end Go.Proofs.YtkjnhkoipgdfeaaDoor
end
section
set_option linter.unusedSimpArgs false
set_option linter.unusedVariables false
namespace Go.Proofs.YtkjnhkoipgdfeaaDoor
def WellP (op : List Tok → PR) : Prop := ∀ l g r, GoodT l → op l = .ok g r → g.well = true ∧ r <:+ l
theorem well2 {op : Int} {f g : F} (h : 5 ≤ op ∧ op ≤ 10) (hf : f.well = true) (hg : g.well = true) : (F.mk op 0 [f, g]).well = true := by
 simp only [F.well, F.wellL, hf, hg, Bool.and_true, okN, List.length_cons, List.length_nil]
 have : want op = 2 := by unfold want; rw [if_neg (by omega), if_pos (by omega)]
 rw [this]
 exact decide_eq_true (by omega)
theorem loop_well {op : List Tok → PR} (h : WellP op) {first : Int} (hf : 5 ≤ first ∧ first ≤ 9) (a b : Tx) : ∀ k f l g r, GoodT l → f.well = true → loopP op first a b k f l = .ok g r → g.well = true ∧ r <:+ l
 | 0, f, l, g, r, hG, hw, e => by simp only [loopP] at e; cases e; exact ⟨hw, List.suffix_refl _⟩
 | k + 1, f, l, g, r, hG, hw, e => by
   simp only [loopP] at e
   cases hg : gotN 4 [a, b] l with
   | none => rw [hg] at e; cases e; exact ⟨hw, List.suffix_refl _⟩
   | some i =>
     rw [hg] at e
     obtain ⟨t, lt, rfl, _, _, hi, _⟩ := zBt hg
     simp only [List.tail_cons] at e
     simp only [List.length_cons, List.length_nil] at hi
     obtain ⟨f2, r2, e1, e2⟩ := zBp e
     obtain ⟨w1, s1⟩ := h _ _ _ (hG.suf (List.suffix_cons _ _)) e1
     obtain ⟨w2, s2⟩ := loop_well h hf a b k _ _ _ _ (hG.suf (s1.trans (List.suffix_cons _ _))) (well2 (by omega) hw w1) e2
     exact ⟨w2, s2.trans (s1.trans (List.suffix_cons _ _))⟩
theorem chain_well {op : List Tok → PR} (h : WellP op) {first : Int} (hf : 5 ≤ first ∧ first ≤ 9) (a b : Tx) : WellP (zDw op first a b) := by
 intro l g r hG e
 obtain ⟨f2, r2, e1, e2⟩ := zBp e
 obtain ⟨w1, s1⟩ := h _ _ _ hG e1
 obtain ⟨w2, s2⟩ := loop_well h hf a b _ _ _ _ _ (hG.suf s1) w1 e2
 exact ⟨w2, s2.trans s1⟩
theorem args_well {fo : List Tok → PR} (h : WellP fo) (en : Int) {op : Int} (m : Nat) (hm : m = want op) (ho : 9 ≤ op ∧ op ≤ 11) : ∀ n fs l g r, fs.length + n = m → (∀ f ∈ fs, f.well = true) → GoodT l → argsP fo en op n fs l = .ok g r → g.well = true ∧ r <:+ l
 | 0, fs, l, g, r, hl, hw, hG, e => by
   obtain ⟨t, l', rfl, _, e2⟩ := zBb e
   cases e2
   refine ⟨?_, List.suffix_cons _ _⟩
   simp only [F.well, Bool.and_eq_true]
   refine ⟨decide_eq_true ⟨by omega, by omega, by omega, by omega, by omega, by omega⟩, ?_⟩
   rw [wellL_all]
   exact List.all_eq_true.2 hw
 | n + 1, fs, l, g, r, hl, hw, hG, e => by
   obtain ⟨t, l', rfl, _, e2⟩ := zBb e
   obtain ⟨f2, r2, e3, e4⟩ := zBp e2
   obtain ⟨w1, s1⟩ := h _ _ _ (hG.suf (List.suffix_cons _ _)) e3
   obtain ⟨w2, s2⟩ := args_well h en m hm ho n _ _ _ _ (by simp; omega) (fun f hf => by
    rcases List.mem_append.1 hf with q | q
    ·exact hw f q
    ·rw [List.mem_singleton.1 q]; exact w1) (hG.suf (s1.trans (List.suffix_cons _ _))) e4
   exact ⟨w2, s2.trans (s1.trans (List.suffix_cons _ _))⟩
theorem fact_well {fo : List Tok → PR} (h : WellP fo) (en : Int) : WellP (factP fo en) := by
 intro l g r hG e
 cases l with
 | nil => simp [factP] at e
 | cons t l' =>
   have hGt : GoodT l' := hG.suf (List.suffix_cons _ _)
   simp only [factP] at e
   split at e
   ·rename_i hk
    cases e
    have hd := digs_rng (hG t (by simp) hk)
    refine ⟨?_, List.suffix_cons _ _⟩
    simp only [F.well, F.wellL, Bool.and_true]
    exact decide_eq_true ⟨by omega, by omega, rfl, by omega, by omega, fun _ => rfl⟩
   ·split at e
    ·rename_i i hg
     cases e
     obtain ⟨_, _, _, _, _, hi, _⟩ := zBt hg
     simp only [List.length_cons, List.length_nil] at hi
     refine ⟨?_, List.suffix_cons _ _⟩
     simp only [F.well, F.wellL, Bool.and_true]
     have : want (2 + i) = 0 := by unfold want; rw [if_neg (by omega), if_neg (by omega)]
     exact decide_eq_true ⟨by omega, by omega, by rw [this]; rfl, by omega, by omega, by omega⟩
    ·split at e
     ·rename_i i hg
      obtain ⟨_, _, _, _, _, hi, _⟩ := zBt hg
      simp only [List.length_cons, List.length_nil] at hi
      obtain ⟨t3, l3, rfl, _, e2⟩ := zBb e
      obtain ⟨f4, l4, e3, e4⟩ := zBp e2
      obtain ⟨w1, s1⟩ := h _ _ _ (hGt.suf (List.suffix_cons _ _)) e3
      have hwant : 1 + max 1 i = want (9 + i) := by
       have : i = 0 ∨ i = 1 ∨ i = 2 := by omega
       rcases this with rfl | rfl | rfl <;> decide
      obtain ⟨w2, s2⟩ := args_well h en (1 + max 1 i) hwant (by omega) _ _ _ _ _ (by simp) (fun f hf => by rw [List.mem_singleton.1 hf]; exact w1) (hGt.suf (s1.trans (List.suffix_cons _ _))) e4
      exact ⟨w2, s2.trans (s1.trans ((List.suffix_cons _ _).trans (List.suffix_cons _ _)))⟩
     ·obtain ⟨t3, l3, e0, _, e2⟩ := zBb e
      cases e0
      obtain ⟨f4, l4, e3, e4⟩ := zBp e2
      obtain ⟨t5, l5, rfl, _, e5⟩ := zBb e4
      cases e5
      obtain ⟨w1, s1⟩ := h _ _ _ hGt e3
      exact ⟨w1, (List.suffix_cons _ _).trans (s1.trans (List.suffix_cons _ _))⟩
theorem form_well (en : Int) : ∀ k, WellP (formP en k)
 | 0 => fun l g r _ e => by simp [formP] at e
 | k + 1 => chain_well (chain_well (fact_well (form_well en k) en) (by omega) _ _) (by omega) _ _
def ErrP (op : List Tok → PR) : Prop := ∀ l e p, op l = .no e p → e = 8 ∨ e = 9
theorem zF4 {en : Int} {l : List Tok} {e p : Int} (h : failP en l = .no e p) : e = 8 ∨ e = 9 := by
 cases l <;> (simp only [failP] at h; cases h; simp)
theorem needno {en : Int} {w : Tx} {l : List Tok} {go : List Tok → PR} {e p : Int} (h : needP en w l go = .no e p) : (failP en l = .no e p) ∨ ∃ t l', l = t :: l' ∧ go l' = .no e p := by
 unfold needP at h
 cases hg : gotN 4 [w] l with
 | none => rw [hg] at h; exact .inl h
 | some i =>
   rw [hg] at h
   obtain ⟨t, l', rfl, _⟩ := zBt hg
   exact .inr ⟨t, l', rfl, h⟩
theorem thenno {p : PR} {go : F → List Tok → PR} {e q : Int} (h : thenP p go = .no e q) : p = .no e q ∨ ∃ f r', p = .ok f r' ∧ go f r' = .no e q := by
 cases p with
 | no e1 q1 => simp only [thenP] at h; exact .inl h
 | ok f r' => exact .inr ⟨f, r', rfl, h⟩
theorem loop_err {op : List Tok → PR} (h : ErrP op) (first : Int) (a b : Tx) : ∀ k f, ErrP (loopP op first a b k f)
 | 0, f => fun l e p q => by simp [loopP] at q
 | k + 1, f => fun l e p q => by
   simp only [loopP] at q
   split at q
   ·cases q
   ·rcases thenno q with q | ⟨f2, r2, _, q⟩
    ·exact h _ _ _ q
    ·exact loop_err h first a b k _ _ _ _ q
theorem chain_err {op : List Tok → PR} (h : ErrP op) (first : Int) (a b : Tx) : ErrP (zDw op first a b) := fun l e p q => by
 rcases thenno q with q | ⟨f2, r2, _, q⟩
 ·exact h _ _ _ q
 ·exact loop_err h first a b _ _ _ _ _ q
theorem args_err {fo : List Tok → PR} (h : ErrP fo) (en op : Int) : ∀ n fs, ErrP (argsP fo en op n fs)
 | 0, fs => fun l e p q => by
   rcases needno q with q | ⟨t, l', _, q⟩
   ·exact zF4 q
   ·cases q
 | n + 1, fs => fun l e p q => by
   rcases needno q with q | ⟨t, l', _, q⟩
   ·exact zF4 q
   ·rcases thenno q with q | ⟨f2, r2, _, q⟩
    ·exact h _ _ _ q
    ·exact args_err h en op n _ _ _ _ q
theorem fact_err {fo : List Tok → PR} (h : ErrP fo) (en : Int) : ErrP (factP fo en) := fun l e p q => by
 cases l with
 | nil => simp only [factP] at q; cases q; simp
 | cons t l' =>
   simp only [factP] at q
   split at q
   ·cases q
   ·split at q
    ·cases q
    ·split at q
     ·rcases needno q with q | ⟨t, l', _, q⟩
      ·exact zF4 q
      ·rcases thenno q with q | ⟨f2, r2, _, q⟩
       ·exact h _ _ _ q
       ·exact args_err h _ _ _ _ _ _ _ q
     ·rcases needno q with q | ⟨t, l', _, q⟩
      ·exact zF4 q
      ·rcases thenno q with q | ⟨f2, r2, _, q⟩
       ·exact h _ _ _ q
       ·rcases needno q with q | ⟨t, l', _, q⟩
        ·exact zF4 q
        ·cases q
theorem form_errP (en : Int) : ∀ k, ErrP (formP en k)
 | 0 => fun l e p q => by simp only [formP] at q; cases q; simp
 | k + 1 => chain_err (chain_err (fact_err (form_errP en k) en) _ _ _) _ _ _
theorem form_err {en : Int} {k : Nat} {l : List Tok} {e p : Int} (h : formP en k l = .no e p) : e ≠ 0 := by
 rcases form_errP en k l e p h with h | h <;> omega
theorem spn_take {p : UInt8 → Bool} (s : Tx) : (s.take (spn p s)).all p = true ∧ (s.take (spn p s)).length = spn p s := by
 have h : s.take (spn p s) = s.takeWhile p := by
  unfold spn
  have h2 : s = s.takeWhile p ++ s.dropWhile p := (List.takeWhile_append_dropWhile).symm
  conv => lhs; arg 2; rw [h2]
  rw [List.take_left']
  rfl
 rw [h]
 exact ⟨List.all_takeWhile, rfl⟩
theorem step_num {s : Tx} {i : Nat} {f : Fo} (h : (step s i).2 = some f) (he : f.err = 0) (hk : f.tok.kind = 2) : numOk f.tok.text := by
 cases s with
 | nil => simp [step] at h
 | cons c r =>
   simp only [step] at h
   split at h
   ·cases h; cases hk
   ·split at h
    ·rename_i hd
     cases h
     simp only at he ⊢
     split at he
     ·cases he
     rename_i hn
     obtain ⟨q1, q2⟩ := spn_take (p := isDig) (c :: r)
     refine ⟨?_, q1, by rw [q2]; omega⟩
     intro h0
     have : spn isDig (c :: r) = 0 := by rw [← q2, h0]; rfl
     simp [spn, List.takeWhile_cons, hd] at this
    ·split at h
     ·cases h
     ·split at h
      ·cases h
      ·split at h
       ·split at h
        iterate 2
         ·cases h; cases hk
       ·split at h <;> (cases h; cases hk)
theorem lexF_num : ∀ (k : Nat) (s : Tx) (i : Nat), ∀ f ∈ lexF k s i, f.err = 0 → f.tok.kind = 2 → numOk f.tok.text
 | 0, s, i, f, hf, _, _ => by simp [lexF] at hf
 | k + 1, s, i, f, hf, he, hk => by
   simp only [lexF] at hf
   split at hf
   ·simp at hf
   ·split at hf
    ·exact lexF_num k _ _ f hf he hk
    ·rename_i f0 h0
     split at hf
     ·rename_i he0
      rcases List.mem_cons.1 hf with rfl | q
      ·exact step_num h0 he hk
      ·exact lexF_num k _ _ f q he hk
     ·have := List.mem_singleton.1 hf
      subst this
      exact step_num h0 he hk
theorem lexP_good {s : Tx} {l : List Tok} {e p : Int} (h : lexP s = (l, e, p)) : GoodT l ∧ l.length ≤ s.length := by
 unfold lexP at h
 split at h
 ·cases h
  exact ⟨fun t ht => by simp at ht, by simp⟩
 ·rename_i hb
  cases h
  refine ⟨fun t ht hk => ?_, by rw [List.length_map]; exact lexR_len s⟩
  obtain ⟨f, hf, rfl⟩ := List.mem_map.1 ht
  have he : f.err = 0 := by
   have := List.find?_eq_none.1 hb f hf
   simpa using this
  exact lexF_num _ _ _ f hf he hk
theorem parse_valid {s : Tx} {f : F} {p : Int} (h : zBh s = (f, 0, p)) : f.valid = true ∧ p = 0 := by
 unfold zBh at h
 split at h
 rename_i l e q hl
 obtain ⟨hG, _⟩ := lexP_good hl
 split at h
 ·unfold zCd at h
  split at h
  ·rename_i e1 p1 h1
   simp only [Prod.mk.injEq] at h
   exfalso
   exact absurd h.2.1 (form_err h1)
  ·simp at h
  ·rename_i g h1
   split at h
   ·rename_i hn
    simp only [Prod.mk.injEq] at h
    obtain ⟨rfl, _, rfl⟩ := h
    exact ⟨valid_iff.2 ⟨hn, (form_well _ _ _ _ _ hG h1).1⟩, rfl⟩
   ·simp at h
 ·rename_i he
  simp only [Prod.mk.injEq] at h
  exact absurd h.2.1 he
end Go.Proofs.YtkjnhkoipgdfeaaDoor
end
section
set_option maxRecDepth 100000
set_option linter.unusedSimpArgs false
set_option linter.unusedVariables false
namespace Go.Proofs.YtkjnhkoipgdfeaaDoor
open Go GoV Go.RowKit
theorem lexP_zero {s : Tx} {l : List Tok} {p : Int} (h : lexP s = (l, 0, p)) : p = 0 := by
 unfold lexP at h
 split at h
 ·rename_i f hf
  have := List.find?_some hf
  simp only [Prod.mk.injEq] at h
  simp [h.2.1] at this
 ·simp only [Prod.mk.injEq] at h
  exact h.2.2.symm
def parD (x : F × Int × Int) : D := .tup [x.1.d, .int .i64 x.2.1, .int .i64 x.2.2]
theorem zD_nn (e p : Int) : (zD e p).nn = parD (zeroF, e, p) := by simp [zD, parD, zeroF, F.d, F.dL, D.nn, D.nnL]
theorem parse_all (s : Tx) (hs : s.length ≤ 4999) : Pur M 13 [.str s] (parD (zBh s)) := by
 have hq := quote_all s (by omega)
 unfold zBh
 cases hl : lexP s with
 | mk l ep =>
   obtain ⟨e, p⟩ := ep
   simp only
   by_cases he : e = 0
   ·subst he
    have := lexP_zero hl
    subst this
    obtain ⟨hG, hll⟩ := lexP_good hl
    rw [if_pos rfl]
    unfold zCd
    cases hp : formP s.length (l.length + 1) l with
    | no e p => exact pur_res (parse_no s hs hq hl (by omega) hG hp) (zD_nn _ _)
    | ok f r =>
      cases r with
      | cons t r => exact pur_res (parse_more s hs hq hl (by omega) hG hp) (zD_nn _ _)
      | nil =>
        simp only
        by_cases hn : f.nodes ≤ 60
        ·rw [if_pos hn]; exact parse_p s hs hq hl (by omega) hG hp hn
        ·rw [if_neg hn]; exact pur_res (parse_lim s hs hq hl (by omega) hG hp (by omega)) (zD_nn _ _)
   ·rw [if_neg he]
    exact pur_res (parse_lex s hs hq hl he) (zD_nn _ _)
mutual
def sameB : F → F → Bool
 | .mk o n ks, .mk o' n' ks' => decide (o = o') && decide (n = n') && sameL ks ks'
def sameL : List F → List F → Bool
 | [], [] => true
 | a :: u, b :: v => sameB a b && sameL u v
 | _, _ => false
end
mutual
theorem sameB_iff : ∀ a b : F, sameB a b = true ↔ a = b
 | .mk o n ks, .mk o' n' ks' => by
   simp only [sameB, Bool.and_eq_true, decide_eq_true_eq, F.mk.injEq, zEi ks ks']
   exact and_assoc
theorem zEi : ∀ a b : List F, sameL a b = true ↔ a = b
 | [], [] => by simp [sameL]
 | [], b :: v => by simp [sameL]
 | a :: u, [] => by simp [sameL]
 | a :: u, b :: v => by simp only [sameL, Bool.and_eq_true, sameB_iff a b, zEi u v, List.cons.injEq]
end
theorem sameB_refl (a : F) : sameB a a = true := (sameB_iff a a).2 rfl
theorem sameB_eq (a b : F) : sameB a b = (decide (a.op = b.op) && decide (a.num = b.num) && sameL a.kids b.kids) := by cases a; cases b; rfl
theorem sameL_len {a b : List F} (h : a.length ≠ b.length) : sameL a b = false := by
 cases hb : sameL a b
 ·rfl
 ·rw [(zEi a b).1 hb] at h; exact absurd rfl h
theorem sameL_at {a b : List F} {i : Nat} (h1 : i < a.length) (h2 : i < b.length) (h : sameB a[i] b[i] = false) : sameL a b = false := by
 cases hb : sameL a b
 ·rfl
 ·have := (zEi a b).1 hb
  subst this
  rw [sameB_refl] at h; cases h
theorem sameL_all {a b : List F} (hl : a.length = b.length) (h : ∀ i (h1 : i < a.length) (h2 : i < b.length), sameB a[i] b[i] = true) : sameL a b = true := by
 rw [zEi]
 exact List.ext_getElem hl fun i h1 h2 => (sameB_iff _ _).1 (h i h1 h2)
set_option maxHeartbeats 4000000 in
theorem same_p : ∀ (k : Nat) (x y : F), x.nodes ≤ k → x.nodes ≤ 100000 → Pur M 14 [x.d, y.d] (.bool (sameB x y))
 | 0, x, y, hk, _ => by have := zCy x; omega
 | k + 1, x, y, hk, hk2 => by
   have ih : ∀ u ∈ x.kids, ∀ v : F, Pur M 14 [u.d, v.d] (.bool (sameB u v)) := fun u hu v => same_p k u v (by have := zB0 hu; omega) (by have := zB0 hu; omega)
   have hkl : x.kids.length ≤ 100000 := by have := zE0 x.kids; have := F.nodes_eq x; omega
   refine k14.ok (C := C14) rfl rfl ?_
   rw [i14]
   unfold c14
   have hlx : (x.kids.map F.d).length = x.kids.length := by simp
   have hly : (y.kids.map F.d).length = y.kids.length := by simp
   rw [F.d_eq, F.d_eq, sameB_eq]
   by_cases h1 : ¬ x.op = y.op
   ·have t1 : (x.op != y.op) = true := by simp [h1]
    have e : (decide (x.op = y.op) && decide (x.num = y.num) && sameL x.kids y.kids) = false := by simp [h1]
    rw [e]
    have wQ := tw; repeat' (first | with_reducible (apply swq; constructor) | simp only [go_sem, seval, P14, q14, t1] | (with_reducible first | (apply cdA; constructor) | (apply gdA; constructor)) | ((with_reducible refine And.intro ?hw ?_); (case hw => exact sw wQ)) | with_reducible intro _)
    all_goals simp [D.closed, D.er]
   have h1 := Decidable.not_not.1 h1
   have t1 : (x.op != y.op) = false := by simp [h1]
   by_cases h2 : ¬ x.num = y.num
   ·have t2 : (x.num != y.num) = true := by simp [h2]
    have e : (decide (x.op = y.op) && decide (x.num = y.num) && sameL x.kids y.kids) = false := by simp [h2]
    rw [e]
    have wQ := tw; repeat' (first | with_reducible (apply swq; constructor) | simp only [go_sem, seval, P14, q14, t1, t2] | (with_reducible first | (apply cdA; constructor) | (apply gdA; constructor)) | ((with_reducible refine And.intro ?hw ?_); (case hw => exact sw wQ)) | with_reducible intro _)
    all_goals simp [D.closed, D.er]
   have h2 := Decidable.not_not.1 h2
   have t2 : (x.num != y.num) = false := by simp [h2]
   by_cases h3 : ¬ x.kids.length = y.kids.length
   ·have t3 : ((x.kids.length : Int) != y.kids.length) = true := by simp; omega
    have e : (decide (x.op = y.op) && decide (x.num = y.num) && sameL x.kids y.kids) = false := by simp [sameL_len h3]
    rw [e]
    have wQ := And.intro @hlx @hly; repeat' (first | with_reducible (apply swq; constructor) | simp only [go_sem, seval, P14, q14, t1, t2, t3, hlx, hly] | (with_reducible first | (apply cdA; constructor) | (apply gdA; constructor)) | ((with_reducible refine And.intro ?hw ?_); (case hw => exact sw wQ)) | with_reducible intro _)
    all_goals simp [D.closed, D.er]
   have h3 := Decidable.not_not.1 h3
   have t3 : ((x.kids.length : Int) != y.kids.length) = false := by simp; omega
   have e : (decide (x.op = y.op) && decide (x.num = y.num) && sameL x.kids y.kids) = sameL x.kids y.kids := by simp [h1, h2]
   rw [e]
   have wQ := And.intro @hlx @hly; repeat' (first | with_reducible (apply swq; constructor) | simp only [go_sem, seval, P14, q14, t1, t2, t3, hlx, hly] | (with_reducible first | (apply cdA; constructor) | (apply gdA; constructor)) | ((with_reducible refine And.intro ?hw ?_); (case hw => exact sw wQ)) | with_reducible intro _)
   refine zB6 [2, 3, 4, 5] (fun i : Nat => ⟨[.u0, .u0, .ptr 0 0, .ptr 1 0, .bool false, .int .i64 i, .u0, .u0, .u0], [], ⟨[.cells x.cells, .cells y.cells], []⟩⟩)
    (fun i => i ≤ x.kids.length ∧ ∀ j (q1 : j < x.kids.length) (q2 : j < y.kids.length), j < i → sameB x.kids[j] y.kids[j] = true) (fun i => x.kids.length - i) 0 ⟨by omega, fun _ _ _ h => by omega⟩ ?_ ?_
   ·simp [keepE, St.keep, F.cells]
   ·rintro i ⟨hi, hall⟩
    by_cases hil : i < x.kids.length
    ·have hil2 : i < y.kids.length := by omega
     have hg : (x.kids.map F.d).getD i .u0 = .agg (x.kids[i]).cells := by simp [List.getD, hil, F.d_eq]
     have hg2 : (y.kids.map F.d).getD i .u0 = .agg (y.kids[i]).cells := by simp [List.getD, hil2, F.d_eq]
     have hd : decide ((i : Int) < x.kids.length) = true := by simp; omega
     have c1 := ih _ (List.getElem_mem hil) y.kids[i]
     have a1 := zAh (x.kids[i]).kids
     have a2 := erL_F (x.kids[i]).kids
     have a3 := zAh (y.kids[i]).kids
     have a4 := erL_F (y.kids[i]).kids
     rw [F.d_eq, F.d_eq] at c1
     cases hb : sameB x.kids[i] y.kids[i]
     ·rw [hb] at c1
      rw [sameL_at hil hil2 hb]
      have wQ := And.intro @hlx (And.intro @hly (And.intro @hg (And.intro @hg2 (And.intro @a1 (And.intro @a2 (And.intro @a3 @a4)))))); repeat' (first | with_reducible (apply swq; constructor) | simp only [go_sem, seval, P14, q14, hlx, hly, hg, hg2, hd] | simp (disch := omega) only [w64, w32, wu8, wu16, wu32, wu64] | ((with_reducible refine zAb (c1) ?he ?hc ?_); (case he | hc => exact sc wQ)) | (with_reducible first | (apply cdA; constructor) | (apply gdA; constructor)) | ((with_reducible refine And.intro ?hw ?_); (case hw => exact sw wQ)) | with_reducible intro _)
      all_goals try (exfalso; omega)
      all_goals simp [D.closed, D.er]
     ·rw [hb] at c1
      have wQ := And.intro @hlx (And.intro @hly (And.intro @hg (And.intro @hg2 (And.intro @a1 (And.intro @a2 (And.intro @a3 @a4)))))); repeat' (first | with_reducible (apply swq; constructor) | simp only [go_sem, seval, P14, q14, hlx, hly, hg, hg2, hd] | simp (disch := omega) only [w64, w32, wu8, wu16, wu32, wu64] | ((with_reducible refine zAb (c1) ?he ?hc ?_); (case he | hc => exact sc wQ)) | (with_reducible first | (apply cdA; constructor) | (apply gdA; constructor)) | ((with_reducible refine And.intro ?hw ?_); (case hw => exact sw wQ)) | with_reducible intro _)
      all_goals try (exfalso; omega)
      refine ⟨i + 1, ⟨by omega, fun j q1 q2 hj => ?_⟩, by omega, ?_⟩
      ·by_cases e : j = i
       ·subst e; exact hb
       ·exact hall j q1 q2 (by omega)
      ·simp [keepE, St.keep, F.cells]
    ·obtain rfl : i = x.kids.length := by omega
     have hd : decide ((x.kids.length : Int) < x.kids.length) = false := by simp
     rw [sameL_all h3 (fun j q1 q2 => hall j q1 q2 q1)]
     have wQ := And.intro @hlx @hly; repeat' (first | with_reducible (apply swq; constructor) | simp only [go_sem, seval, P14, q14, hlx, hly, hd] | simp (disch := omega) only [w64, w32, wu8, wu16, wu32, wu64] | (with_reducible first | (apply cdA; constructor) | (apply gdA; constructor)) | ((with_reducible refine And.intro ?hw ?_); (case hw => exact sw wQ)) | with_reducible intro _)
     all_goals try (exfalso; omega)
     all_goals simp [D.closed, D.er]
end Go.Proofs.YtkjnhkoipgdfeaaDoor
end
section
set_option maxRecDepth 100000
set_option linter.unusedSimpArgs false
set_option linter.unusedVariables false
namespace Go.Proofs.YtkjnhkoipgdfeaaDoor
open Go GoV Go.RowKit
theorem parse_bad {s : Tx} {y : F} {e p : Int} (h : zBh s = (y, e, p)) (he : e ≠ 0) : y = zeroF := by
 unfold zBh at h
 split at h
 split at h
 ·unfold zCd at h
  split at h
  iterate 2
   ·simp only [Prod.mk.injEq] at h; exact h.1.symm
  ·split at h
   ·simp only [Prod.mk.injEq] at h; exact absurd h.2.1.symm he
   ·simp only [Prod.mk.injEq] at h; exact h.1.symm
 ·simp only [Prod.mk.injEq] at h; exact h.1.symm
end Go.Proofs.YtkjnhkoipgdfeaaDoor
end
section
set_option maxRecDepth 100000
set_option linter.unusedSimpArgs false
set_option linter.unusedVariables false
namespace Go.Proofs.YtkjnhkoipgdfeaaDoor
open Go GoV Go.RowKit
end Go.Proofs.YtkjnhkoipgdfeaaDoor
end
section
set_option linter.unusedSimpArgs false
set_option linter.unusedVariables false
namespace Go.Proofs.YtkjnhkoipgdfeaaDoor
def escC (c : UInt8) : Tx := if c = 10 then [92, 110] else if c = 34 then [92, 34] else if c = 92 then [92, 92] else [c]
def esc : Tx → Tx
 | [] => []
 | c :: r => escC c ++ esc r
def quo (u : Tx) : Tx := 34 :: (esc u ++ [34])
theorem esc_app : ∀ u v : Tx, esc (u ++ v) = esc u ++ esc v
 | [], v => rfl
 | c :: u, v => by simp [esc, esc_app u v]
theorem unq_eq (c : UInt8) (r acc : Tx) (n : Nat) : unq (c :: r) acc n = if c = 34 then some (acc, n + 1) else if c = 10 then none else if c = 92 then
      (match r with
      | [] => none
      | d :: r' => if d = 92 then unq r' (acc ++ [92]) (n + 2) else if d = 34 then unq r' (acc ++ [34]) (n + 2) else if d = 110 then unq r' (acc ++ [10]) (n + 2) else none)
    else unq r (acc ++ [c]) (n + 1) := by
  conv => lhs; rw [unq.eq_def]
  rfl
theorem unq_bs (d : UInt8) (r acc : Tx) (n : Nat) : unq (92 :: d :: r) acc n = if d = 92 then unq r (acc ++ [92]) (n + 2) else if d = 34 then unq r (acc ++ [34]) (n + 2) else if d = 110 then unq r (acc ++ [10]) (n + 2) else none := by
 rw [unq_eq, if_neg (by decide), if_neg (by decide), if_pos rfl]
theorem unq_esc : ∀ (u r acc : Tx) (k : Nat), unq (esc u ++ 34 :: r) acc k = some (acc ++ u, k + (esc u).length + 1)
 | [], r, acc, k => by
   show unq (34 :: r) acc k = _
   rw [unq_eq, if_pos rfl]; simp [esc]
 | c :: u, r, acc, k => by
   simp only [esc, List.append_assoc]
   by_cases h1 : c = 10
   ·subst h1
    show unq (92 :: 110 :: (esc u ++ 34 :: r)) acc k = _
    rw [unq_bs, if_neg (by decide), if_neg (by decide), if_pos rfl, unq_esc u r _ _]
    simp [escC]; omega
   by_cases h2 : c = 34
   ·subst h2
    show unq (92 :: 34 :: (esc u ++ 34 :: r)) acc k = _
    rw [unq_bs, if_neg (by decide), if_pos rfl, unq_esc u r _ _]
    simp [escC]; omega
   by_cases h3 : c = 92
   ·subst h3
    show unq (92 :: 92 :: (esc u ++ 34 :: r)) acc k = _
    rw [unq_bs, if_pos rfl, unq_esc u r _ _]
    simp [escC]; omega
   have e : escC c = [c] := by simp [escC, h1, h2, h3]
   rw [e]
   show unq (c :: (esc u ++ 34 :: r)) acc k = _
   rw [unq_eq, if_neg h2, if_neg h1, if_neg h3, unq_esc u r _ _]
   simp; omega
theorem unq_len2 : ∀ (n : Nat) (r a : Tx) (k : Nat) {u : Tx} {m : Nat}, r.length ≤ n → unq r a k = some (u, m) → (esc u).length + k + 1 = (esc a).length + m ∧ m ≤ k + r.length
 | 0, r, a, k, u, m, hn, h => by
   have : r = [] := List.length_eq_zero_iff.1 (by omega)
   subst this
   simp [unq] at h
 | n + 1, [], a, k, u, m, hn, h => by simp [unq] at h
 | n + 1, c :: r, a, k, u, m, hn, h => by
   simp only [List.length_cons] at hn ⊢
   rw [unq_eq] at h
   by_cases h2 : c = 34
   ·rw [if_pos h2] at h
    simp only [Option.some.injEq, Prod.mk.injEq] at h
    obtain ⟨rfl, rfl⟩ := h
    omega
   rw [if_neg h2] at h
   by_cases h1 : c = 10
   ·rw [if_pos h1] at h; cases h
   rw [if_neg h1] at h
   by_cases h3 : c = 92
   ·rw [if_pos h3] at h
    cases r with
    | nil => cases h
    | cons d r' =>
      simp only [List.length_cons] at hn ⊢
      simp only at h
      have st : ∀ x : UInt8, (escC x).length = 2 → unq r' (a ++ [x]) (k + 2) = some (u, m) → (esc u).length + k + 1 = (esc a).length + m ∧ m ≤ k + (r'.length + 1 + 1) := fun x hx hh => by
       obtain ⟨q1, q2⟩ := unq_len2 n r' _ _ (by omega) hh
       rw [esc_app] at q1
       simp only [esc, List.append_nil, List.length_append, hx] at q1
       omega
      split at h
      ·exact st 92 rfl h
      ·split at h
       ·exact st 34 rfl h
       ·split at h
        ·exact st 10 rfl h
        ·cases h
   rw [if_neg h3] at h
   obtain ⟨q1, q2⟩ := unq_len2 n r _ _ (by omega) h
   rw [esc_app] at q1
   have e : escC c = [c] := by simp [escC, h1, h2, h3]
   simp only [esc, List.append_nil, List.length_append, e, List.length_cons, List.length_nil] at q1
   omega
theorem lx_str (u : Tx) {s : Tx} {ts : List Kt} (h : Lx s ts) : Lx (quo u ++ s) ((3, u) :: ts) := by
 have hu := unq_esc u s [] 1
 have e : quo u ++ s = 34 :: (esc u ++ 34 :: s) := by simp [quo]
 rw [e]
 refine lx_tok (n := (esc u).length + 1) (x := (3, u)) (fun i => ?_) (r := s) (by simp) h
 have h1 : isLet 34 = false := by decide
 have h2 : isDig 34 = false := by decide
 have h3 : zCb 34 = false := by decide
 simp only [step, h1, h2, h3, hu, Bool.false_eq_true, if_false]
 rw [if_neg (by decide)]
 simp; omega
def TkOk (x : Kt) : Prop := (x.1 = 1 ∧ ∃ c w, x.2 = c :: w ∧ isLet c = true ∧ (c :: w).all zA1 = true ∧ w.length < 24) ∨ (x.1 = 2 ∧ numOk x.2) ∨ x.1 = 3 ∨ (x.1 = 4 ∧ ∃ c, x.2 = [c] ∧ isSym c = true)
def wordK (x : Kt) : Tx := if x.1 = 3 then quo x.2 else x.2
theorem wordK_ne {k : Int} {w : Tx} (h : k ≠ 3) : wordK (k, w) = w := if_neg h
def reT : List Kt → Tx
 | [] => []
 | x :: ts => (wordK x ++ [10]) ++ reT ts
theorem lx_re : ∀ (ts : List Kt) {s : Tx} {ts' : List Kt}, (∀ x ∈ ts, TkOk x) → Lx s ts' → Lx (reT ts ++ s) (ts ++ ts')
 | [], s, ts', _, h => h
 | x :: ts, s, ts', ho, h => by
   have ih := lx_re ts (fun y hy => ho y (by simp [hy])) h
   have e : reT (x :: ts) ++ s = wordK x ++ (10 :: (reT ts ++ s)) := by simp [reT]
   rw [e]
   have ih2 : Lx (10 :: (reT ts ++ s)) (ts ++ ts') := lx_blank (by decide) ih
   have hn : noW (10 :: (reT ts ++ s)) := noW_cons (by decide)
   obtain ⟨k, w⟩ := x
   rcases ho (k, w) (by simp) with ⟨h1, c, v, h2, h3, h4, h5⟩ | ⟨h1, h2⟩ | h1 | ⟨h1, c, h2, h3⟩
   ·simp only at h1 h2
    subst h1 h2
    exact lx_name h3 h4 h5 hn ih2
   ·simp only at h1
    subst h1
    exact lx_num h2 hn ih2
   ·simp only at h1
    subst h1
    exact lx_str w ih2
   ·simp only at h1 h2
    subst h1 h2
    exact lx_sym h3 ih2
theorem step_tok {s : Tx} {i : Nat} {f : Fo} (h : (step s i).2 = some f) (he : f.err = 0) : TkOk (kt f.tok) ∧ (wordK (kt f.tok)).length ≤ (step s i).1 ∧ (step s i).1 ≤ s.length ∧ 0 < (step s i).1 := by
 cases s with
 | nil => simp [step] at h
 | cons c r =>
   simp only [step] at h ⊢
   split at h
   ·rename_i hc
    rw [if_pos hc]
    cases h
    simp only at he ⊢
    obtain ⟨q1, q2⟩ := spn_take (p := zA1) (c :: r)
    have hw : zA1 c = true := by simp [zA1, hc]
    have hl : spn zA1 (c :: r) ≤ (c :: r).length := tw_len _
    split at he
    ·cases he
    rename_i hn
    obtain ⟨m, hm⟩ : ∃ m, spn zA1 (c :: r) = m + 1 := ⟨spn zA1 r, by simp [spn, List.takeWhile_cons, hw]⟩
    refine ⟨.inl ⟨rfl, c, r.take m, by simp [kt, hm], hc, ?_, by simp; omega⟩, ?_, hl, by omega⟩
    ·rw [hm, List.take_succ_cons] at q1; exact q1
    ·show (wordK (1, (c :: r).take (spn zA1 (c :: r)))).length ≤ _
     rw [wordK_ne (by decide), q2]; exact Nat.le_refl _
   ·rename_i hc
    rw [if_neg hc]
    split at h
    ·rename_i hd
     rw [if_pos hd]
     have hnum := step_num (s := c :: r) (i := i) (f := f) (by simp only [step]; rw [if_neg hc, if_pos hd]; exact h) he (by cases h; rfl)
     cases h
     obtain ⟨q1, q2⟩ := spn_take (p := isDig) (c :: r)
     have hl : spn isDig (c :: r) ≤ (c :: r).length := tw_len _
     refine ⟨.inr (.inl ⟨rfl, hnum⟩), ?_, hl, ?_⟩
     ·show (wordK (2, (c :: r).take (spn isDig (c :: r)))).length ≤ _
      rw [wordK_ne (by decide), q2]; exact Nat.le_refl _
     ·have : spn isDig (c :: r) = spn isDig r + 1 := by simp [spn, List.takeWhile_cons, hd]
      simp only; omega
    ·rename_i hd
     rw [if_neg hd]
     split at h
     ·cases h
     ·rename_i hb
      rw [if_neg hb]
      split at h
      ·cases h
      ·rename_i h35
       rw [if_neg h35]
       split at h
       ·rename_i h34
        rw [if_pos h34]
        split at h
        ·rename_i u n hu
         cases h
         obtain ⟨q1, q2⟩ := unq_len2 r.length r [] 1 (Nat.le_refl _) hu
         simp only [esc, List.length_nil, Nat.zero_add] at q1
         refine ⟨.inr (.inr (.inl rfl)), ?_, by simp only [List.length_cons]; omega, by simp only; omega⟩
         simp only [wordK, kt, if_true, quo, List.length_cons, List.length_append, List.length_nil]
         omega
        ·cases h; cases he
       ·rename_i h34
        rw [if_neg h34]
        split at h
        ·rename_i hy
         rw [if_pos hy]
         cases h
         refine ⟨.inr (.inr (.inr ⟨rfl, c, rfl, hy⟩)), ?_, by simp, by simp⟩
         show (wordK (4, [c])).length ≤ _
         rw [wordK_ne (by decide)]; simp
        ·cases h; cases he
theorem reT_len : ∀ (k : Nat) (s : Tx) (i : Nat), (∀ f ∈ lexF k s i, f.err = 0) → (∀ f ∈ lexF k s i, TkOk (kt f.tok)) ∧ (reT ((lexF k s i).map fun f => kt f.tok)).length ≤ 2 * s.length
 | 0, s, i, _ => by simp [lexF, reT]
 | k + 1, s, i, h => by
   simp only [lexF] at h ⊢
   split at h
   ·rename_i hs
    rw [if_pos hs]
    simp [reT]
   ·rename_i hs
    rw [if_neg hs]
    cases h0 : (step s i).2 with
    | none =>
      rw [h0] at h
      simp only at h ⊢
      obtain ⟨q1, q2⟩ := reT_len k _ _ h
      refine ⟨q1, ?_⟩
      simp only [List.length_drop] at q2
      omega
    | some f =>
      rw [h0] at h
      simp only at h ⊢
      by_cases he : f.err = 0
      ·rw [if_pos he] at h ⊢
       obtain ⟨q1, q2⟩ := reT_len k (s.drop (step s i).1) (i + (step s i).1) (fun f hf => h f (List.mem_cons_of_mem _ hf))
       obtain ⟨p1, p2, p3, p4⟩ := step_tok h0 he
       refine ⟨fun x hx => by
        rcases List.mem_cons.1 hx with rfl | hx
        ·exact p1
        ·exact q1 x hx, ?_⟩
       simp only [List.map_cons, reT, List.length_append, List.length_cons, List.length_nil]
       simp only [List.length_drop] at q2
       omega
      ·rw [if_neg he] at h
       exact absurd (h f (by simp)) he
theorem relex {s : Tx} {l : List Tok} (h : lexP s = (l, 0, 0)) : (reT (l.map kt)).length ≤ 2 * s.length ∧ (∃ l', lexP (reT (l.map kt)) = (l', 0, 0) ∧ l'.map kt = l.map kt) ∧
 ∃ t0 l2 t1, lexP ([40] ++ reT (l.map kt) ++ [41]) = (t0 :: (l2 ++ [t1]), 0, 0) ∧ kt t0 = (4, [40]) ∧ l2.map kt = l.map kt ∧ kt t1 = (4, [41]) := by
 have hb : bad (lexR s) = none ∧ (lexR s).map Fo.tok = l := by
  unfold lexP at h
  split at h
  ·rename_i f hf
   have := List.find?_some hf
   simp only [Prod.mk.injEq] at h
   simp [h.2.1] at this
  ·rename_i hf
   simp only [Prod.mk.injEq] at h
   exact ⟨hf, h.1⟩
 obtain ⟨hb, rfl⟩ := hb
 have he : ∀ f ∈ lexR s, f.err = 0 := fun f hf => by
  have := List.find?_eq_none.1 hb f hf
  simpa using this
 obtain ⟨q1, q2⟩ := reT_len s.length s 0 he
 have hm : ((lexR s).map Fo.tok).map kt = (lexF s.length s 0).map fun f => kt f.tok := by rw [List.map_map]; rfl
 have hok : ∀ x ∈ ((lexR s).map Fo.tok).map kt, TkOk x := fun x hx => by
  rw [hm] at hx
  obtain ⟨f, hf, rfl⟩ := List.mem_map.1 hx
  exact q1 f hf
 have l1 := lx_re _ hok lx_nil
 rw [List.append_nil, List.append_nil] at l1
 have l2 : Lx ([40] ++ reT (((lexR s).map Fo.tok).map kt) ++ [41]) ((4, [40]) :: (((lexR s).map Fo.tok).map kt ++ [(4, [41])])) := by
  have := lx_re _ hok (lx_sym (c := 41) (by decide) lx_nil)
  have := lx_sym (c := 40) (by decide) this
  simpa using this
 obtain ⟨l', e1, e2⟩ := lexP_lx l1
 obtain ⟨l3, e3, e4⟩ := lexP_lx l2
 refine ⟨by rw [hm]; exact q2, ⟨l', e1, e2⟩, ?_⟩
 obtain ⟨t0, r, rfl, a1, a2, a3⟩ := map_cons e4
 obtain ⟨lm, le, rfl, b1, b2⟩ := map_app a3
 obtain ⟨t1, rfl, c1, c2⟩ := map_one b2
 exact ⟨t0, lm, t1, e3, by unfold kt; rw [a1, a2], b1, by unfold kt; rw [c1, c2]⟩
end Go.Proofs.YtkjnhkoipgdfeaaDoor
end
section
set_option linter.unusedSimpArgs false
set_option linter.unusedVariables false
namespace Go.Proofs.YtkjnhkoipgdfeaaDoor
theorem gotN_kt (k : Int) (ws : List Tx) {t t' : Tok} (r r' : List Tok) (h : kt t = kt t') : gotN k ws (t :: r) = gotN k ws (t' :: r') := by
 simp only [kt, Prod.mk.injEq] at h
 simp only [gotN, h.1, h.2]
def RP (x : List Tok) : PR → PR → Prop
 | .ok f r, p' => ∃ r', p' = .ok f (r' ++ x) ∧ r.map kt = r'.map kt
 | .no e q, p' => x = [] → ∃ q', p' = .no e q'
def SmR (x : List Tok) (op op' : List Tok → PR) : Prop := ∀ l l', l.map kt = l'.map kt → RP x (op l) (op' (l' ++ x))
theorem rp_then {x : List Tok} {p p' : PR} {go go' : F → List Tok → PR} (h : RP x p p') (hg : ∀ f r r', p = .ok f r → r.map kt = r'.map kt → RP x (go f r) (go' f (r' ++ x))) : RP x (thenP p go) (thenP p' go') := by
 cases p with
 | ok f r =>
   obtain ⟨r', rfl, h2⟩ := h
   exact hg f r r' rfl h2
 | no e q =>
   intro hx
   obtain ⟨q', rfl⟩ := h hx
   exact ⟨q', rfl⟩
theorem rp_fail {x : List Tok} {en en' : Int} {l l' : List Tok} (h : l.map kt = l'.map kt) : RP x (failP en l) (failP en' (l' ++ x)) := by
 cases l with
 | nil =>
   cases l' with
   | nil => intro hx; subst hx; exact ⟨_, rfl⟩
   | cons t' r' => simp at h
 | cons t r =>
   cases l' with
   | nil => simp at h
   | cons t' r' => intro hx; exact ⟨_, rfl⟩
theorem rp_need {x : List Tok} {en en' : Int} {w : Tx} {l l' : List Tok} {go go' : List Tok → PR} (h : l.map kt = l'.map kt) (hg : ∀ r r', r.map kt = r'.map kt → RP x (go r) (go' (r' ++ x))) : RP x (needP en w l go) (needP en' w (l' ++ x) go') := by
 cases l with
 | nil =>
   cases l' with
   | nil =>
     intro hx; subst hx; exact ⟨en', rfl⟩
   | cons t' r' => simp at h
 | cons t r =>
   cases l' with
   | nil => simp at h
   | cons t' r' =>
     simp only [List.map_cons, List.cons.injEq] at h
     have e := gotN_kt 4 [w] r (r' ++ x) h.1
     simp only [needP, List.cons_append, e]
     split
     ·exact hg _ _ h.2
     ·exact rp_fail (x := x) (l := t :: r) (l' := t' :: r') (by simp [h.1, h.2])
theorem rp_loop {x : List Tok} {op op' : List Tok → PR} (h : SmR x op op') (hs : Shr op) (first : Int) {a b : Tx} (hx : gotN 4 [a, b] x = none) : ∀ k k' f l l', l.map kt = l'.map kt → l.length ≤ k → (l' ++ x).length ≤ k' → RP x (loopP op first a b k f l) (loopP op' first a b k' f (l' ++ x))
 | k, k', f, [], l', h1, h2, h3 => by
   have : l' = [] := by simpa using h1.symm
   subst this
   rw [loop_stop (l := []) rfl, List.nil_append, loop_stop hx]
   exact ⟨[], rfl, rfl⟩
 | k, k', f, t :: r, [], h1, h2, h3 => by simp at h1
 | 0, k', f, t :: r, t' :: r', h1, h2, h3 => by simp at h2
 | k + 1, 0, f, t :: r, t' :: r', h1, h2, h3 => by simp at h3
 | k + 1, k' + 1, f, t :: r, t' :: r', h1, h2, h3 => by
   have h1' := h1
   simp only [List.map_cons, List.cons.injEq] at h1
   have e := gotN_kt 4 [a, b] r (r' ++ x) h1.1
   simp only [loopP, List.cons_append, e]
   split
   ·exact ⟨t' :: r', rfl, h1'⟩
   ·simp only [List.tail_cons]
    refine rp_then (h _ _ h1.2) fun g u u' hu hm => ?_
    have q := hs _ _ _ hu
    have l1 := congrArg List.length h1.2
    have l2 := congrArg List.length hm
    simp only [List.length_map] at l1 l2
    simp only [List.length_cons, List.length_append] at h2 h3
    exact rp_loop h hs first hx k k' _ u u' hm (by omega) (by simp only [List.length_append]; omega)
theorem rel_chain {x : List Tok} {op op' : List Tok → PR} (h : SmR x op op') (hs : Shr op) (first : Int) {a b : Tx} (hx : gotN 4 [a, b] x = none) : SmR x (zDw op first a b) (zDw op' first a b) := fun l l' hl =>
 rp_then (h l l' hl) fun f r r' _ hr => rp_loop h hs first hx _ _ f r r' hr (Nat.le_refl _) (Nat.le_refl _)
theorem rel_args {x : List Tok} {fo fo' : List Tok → PR} (h : SmR x fo fo') (en en' op : Int) : ∀ n fs, SmR x (argsP fo en op n fs) (argsP fo' en' op n fs)
 | 0, fs => fun l l' hl => rp_need hl fun r r' hr => ⟨r', rfl, hr⟩
 | n + 1, fs => fun l l' hl => rp_need hl fun r r' hr => rp_then (h r r' hr) fun g u u' _ hu => rel_args h en en' op n _ u u' hu
theorem rel_fact {x : List Tok} {fo fo' : List Tok → PR} (h : SmR x fo fo') (en en' : Int) : SmR x (factP fo en) (factP fo' en') := fun l l' hl => by
 cases l with
 | nil =>
   have : l' = [] := by simpa using hl.symm
   subst this
   intro hx; subst hx; exact ⟨en', rfl⟩
 | cons t r =>
   cases l' with
   | nil => simp at hl
   | cons t' r' =>
     have hl' := hl
     simp only [List.map_cons, List.cons.injEq] at hl
     have e1 := gotN_kt 1 [tKm, tCy, tLd] r (r' ++ x) hl.1
     have e2 := gotN_kt 1 [tMin, tMax, tIf] r (r' ++ x) hl.1
     have e3 : t.kind = t'.kind ∧ t.text = t'.text := by have := hl.1; simpa only [kt, Prod.mk.injEq] using this
     simp only [factP, List.cons_append, e1, e2, e3.1, e3.2]
     split
     ·exact ⟨r', rfl, hl.2⟩
     ·split
      ·exact ⟨r', rfl, hl.2⟩
      ·split
       ·exact rp_need hl.2 fun u u' hu => rp_then (h u u' hu) fun g v v' _ hv => rel_args h en en' _ _ _ v v' hv
       ·exact rp_need (l := t :: r) (l' := t' :: r') hl' fun u u' hu => rp_then (h u u' hu) fun g v v' _ hv => rp_need hv fun w w' hw => ⟨w', rfl, hw⟩
theorem rel_form {x : List Tok} (h1 : gotN 4 [[42], [47]] x = none) (h2 : gotN 4 [[43], [45]] x = none) (en en' : Int) {m : Nat} (hm : x = [] → m = 0) : ∀ k, SmR x (formP en k) (formP en' (k + m))
 | 0 => fun l l' hl hx => by
   have := hm hx
   subst this
   exact ⟨en', rfl⟩
 | k + 1 => by
   rw [show k + 1 + m = (k + m) + 1 by omega]
   exact rel_chain (rel_chain (rel_fact (rel_form h1 h2 en en' hm k) en en') (fact_shr (form_shr en k) en) _ h1) (prod_shr (form_shr en k) en) _ h2
theorem parse_kt {l l' : List Tok} (h : l.map kt = l'.map kt) (en en' : Int) : (zCd en l).1 = (zCd en' l').1 ∧ (zCd en l).2.1 = (zCd en' l').2.1 := by
 have hl := congrArg List.length h
 simp only [List.length_map] at hl
 have R := rel_form (x := []) rfl rfl en en' (m := 0) (fun _ => rfl) (l.length + 1) l l' h
 rw [List.append_nil, Nat.add_zero] at R
 unfold zCd
 rw [← hl]
 cases hp : formP en (l.length + 1) l with
 | no e p =>
   rw [hp] at R
   obtain ⟨q, hq⟩ := R rfl
   rw [hq]
   exact ⟨rfl, rfl⟩
 | ok f r =>
   rw [hp] at R
   obtain ⟨r', hq, hr⟩ := R
   rw [hq, List.append_nil]
   cases r with
   | nil =>
     have : r' = [] := by simpa using hr.symm
     subst this
     exact ⟨rfl, rfl⟩
   | cons t r =>
     cases r' with
     | nil => simp at hr
     | cons t' r' => exact ⟨rfl, rfl⟩
theorem parse_par {l l2 : List Tok} {t0 t1 : Tok} (h : l2.map kt = l.map kt) (h0 : kt t0 = (4, [40])) (h1 : kt t1 = (4, [41])) (en en' : Int) (hp : (zCd en l).2.1 = 0 ∨ (zCd en l).2.1 = 7) :
 (zCd en' (t0 :: (l2 ++ [t1]))).1 = (zCd en l).1 ∧ (zCd en' (t0 :: (l2 ++ [t1]))).2.1 = (zCd en l).2.1 := by
 have hl := congrArg List.length h
 simp only [List.length_map] at hl
 simp only [kt, Prod.mk.injEq] at h0 h1
 have s1 := stop_sym (r := []) h1.1 h1.2 (.inl rfl)
 have R := rel_form (x := [t1]) s1.2 s1.1 en en' (m := 1) (fun e => by cases e) (l.length + 1) l l2 h.symm
 have hk : ∃ f, formP en (l.length + 1) l = .ok f [] := by
  unfold zCd at hp
  split at hp
  ·rename_i e p he
   have := form_errP en _ _ _ _ he
   simp only at hp; omega
  ·simp only at hp; omega
  ·rename_i f he; exact ⟨f, he⟩
 obtain ⟨f, hk⟩ := hk
 rw [hk] at R
 obtain ⟨r', hq, hr⟩ := R
 have : r' = [] := by simpa using hr.symm
 subst this
 rw [List.nil_append] at hq
 have hf : formP en' ((t0 :: (l2 ++ [t1])).length + 1) (t0 :: (l2 ++ [t1])) = .ok f [] := by
  have e : (t0 :: (l2 ++ [t1])).length + 1 = (l.length + 1 + 1) + 1 := by simp; omega
  rw [e]
  generalize l.length + 1 + 1 = K at *
  have a1 : factP (formP en' K) en' (t0 :: (l2 ++ [t1])) = .ok f [] := by
   rw [fact_par h0.1 h0.2, hq]
   simp only [thenP, need_ok h1.1 h1.2]
  have a2 : prodP (formP en' K) en' (t0 :: (l2 ++ [t1])) = .ok f [] := by
   unfold prodP zDw
   rw [a1]; rfl
  simp only [formP, sumP]
  unfold zDw
  rw [a2]; rfl
 unfold zCd
 rw [hf, hk]
 exact ⟨rfl, rfl⟩
theorem gaps {s : Tx} {l : List Tok} (hl : lexP s = (l, 0, 0)) : (zBh (reT (l.map kt))).1 = (zBh s).1 ∧ (zBh (reT (l.map kt))).2.1 = (zBh s).2.1 ∧
 ((zBh s).2.1 = 0 ∨ (zBh s).2.1 = 7 → (zBh ([40] ++ reT (l.map kt) ++ [41])).1 = (zBh s).1 ∧ (zBh ([40] ++ reT (l.map kt) ++ [41])).2.1 = (zBh s).2.1) := by
 obtain ⟨_, ⟨l', e1, e2⟩, t0, l2, t1, e3, k0, k2, k1⟩ := relex hl
 have p1 : zBh s = zCd s.length l := by unfold zBh; rw [hl]; rfl
 have p2 : zBh (reT (l.map kt)) = zCd (reT (l.map kt)).length l' := by (conv => lhs; unfold zBh; rw [e1]); rfl
 have p3 : zBh ([40] ++ reT (l.map kt) ++ [41]) = zCd ([40] ++ reT (l.map kt) ++ [41]).length (t0 :: (l2 ++ [t1])) := by (conv => lhs; unfold zBh; rw [e3]); rfl
 rw [p1, p2, p3]
 obtain ⟨q1, q2⟩ := parse_kt e2 (reT (l.map kt)).length s.length
 exact ⟨q1, q2, fun h => parse_par k2 k0 k1 _ _ h⟩
end Go.Proofs.YtkjnhkoipgdfeaaDoor
end
section
set_option maxRecDepth 100000
set_option linter.unusedSimpArgs false
set_option linter.unusedVariables false
namespace Go.Proofs.YtkjnhkoipgdfeaaDoor
open Go GoV Go.RowKit
theorem esc_len : ∀ u : Tx, (esc u).length ≤ 2 * u.length
 | [] => by simp [esc]
 | c :: u => by
   have h1 : (escC c).length ≤ 2 := by unfold escC; (repeat' split) <;> simp
   have := esc_len u
   simp only [esc, List.length_append, List.length_cons]; omega
theorem esc_take {s : Tx} {i : Nat} (h : i < s.length) : esc (s.take (i + 1)) = esc (s.take i) ++ escC (s.getD i 0) := by
 have e : s.take (i + 1) = s.take i ++ [s.getD i 0] := by
  rw [List.take_succ_eq_append_getElem h]
  simp [List.getD_eq_getElem?_getD, h]
 rw [e, esc_app]; simp [esc]
set_option maxHeartbeats 4000000 in
theorem quote_p (s : Tx) (hs : s.length ≤ 20000) : Pur M 28 [.str s] (.str (quo s)) := by
 refine k28.ok (C := C28) rfl rfl ?_
 rw [i28]
 unfold c28
 obtain ⟨RB, hRB⟩ : ∃ R, R = RC.reg r28_2 := ⟨_, rfl⟩
 rw [← hRB]
 have wQ := tw; repeat' (first | with_reducible (apply swq; constructor) | simp only [go_sem, seval, P28, q28] | simp (disch := omega) only [w64, w32, wu8, wu16, wu32, wu64] | with_reducible (apply cdA; constructor) | ((with_reducible refine And.intro ?hw ?_); (case hw => exact sw wQ)) | with_reducible intro _)
 refine zEu (weak_bld 0 82 5 _ rfl) ?_
 rw [hRB]
 have cW := zFd (p := .lit (.pointer none)) (.inl rfl) [] 34 0 rfl (by omega)
 have wQ := tw; repeat' (first | with_reducible (apply swq; constructor) | simp only [go_sem, seval, P28, q28] | simp (disch := omega) only [w64, w32, wu8, wu16, wu32, wu64] | ((with_reducible refine o_eff [0] [0] (cW) ?hs ?he ?hh ?_); (case hs => exact so); (case he | hh => exact sh wQ); rintro _ _ ⟨rfl, rfl⟩) | with_reducible (apply cdA; constructor) | ((with_reducible refine And.intro ?hw ?_); (case hw => exact sw wQ)) | with_reducible intro _)
 refine zB6 [0, 1, 2, 5, 6] (fun x : Nat × Tx => ⟨[.str s, .str [], .ptr 0 0, .u0, .u0, .int .i64 s.length, .int .i64 (x.1 : Nat), .u0, .u0, .u0, .u0], [], ⟨[.tcells 82 [.ptr 0 0, .gs 0 x.2.length]], [.byt 5 x.2]⟩⟩)
  (fun x => x.1 ≤ s.length ∧ x.2 = 34 :: esc (s.take x.1)) (fun x => s.length - x.1) (0, [34]) ⟨by omega, by simp [esc]⟩ ?_ ?_
 ·simp [keepE, St.keep]
 ·rintro ⟨i, acc⟩ ⟨g1, g2⟩
  simp only at g1 g2 ⊢
  have hal : acc.length ≤ 40001 := by
   have := esc_len (s.take i)
   rw [g2]; simp only [List.length_cons, List.length_take] at this ⊢; omega
  by_cases hi : i < s.length
  ·have hd : decide ((i : Int) < s.length) = true := by simp; omega
   have ht := esc_take hi
   generalize hc : s.getD i 0 = c at *
   have hti : ((i : Int) + 1).toNat = i + 1 := by omega
   have e34 := u8B c 34
   have e10 := u8B c 10
   have e92 := u8B c 92
   have n34 : (((34 : UInt8).toNat : Nat) : Int) = 34 := rfl
   have n10 : (((10 : UInt8).toNat : Nat) : Int) = 10 := rfl
   have n92 : (((92 : UInt8).toNat : Nat) : Int) = 92 := rfl
   rw [n34] at e34
   rw [n10] at e10
   rw [n92] at e92
   by_cases h10 : c = 10
   ·have t1 : ((c.toNat : Int) == 10) = true := by rw [e10]; simp [h10]
    have cS := wstr_e (p := .ptr 0 0) (.inr rfl) acc [92, 110] acc.length rfl (by simp; omega)
    have wQ := tw; repeat' (first | with_reducible (apply swq; constructor) | simp only [go_sem, seval, P28, q28, hd, t1, hc] | simp (disch := omega) only [w64, w32, wu8, wu16, wu32, wu64] | ((with_reducible refine o_eff [0] [0] (cS) ?hs ?he ?hh ?_); (case hs => exact so); (case he | hh => exact sh wQ); rintro _ _ ⟨rfl, rfl⟩) | with_reducible (apply cdA; constructor) | ((with_reducible refine And.intro ?hw ?_); (case hw => exact sw wQ)) | with_reducible intro _)
    all_goals try (exfalso; omega)
    refine ⟨(i + 1, acc ++ [92, 110]), ⟨by simp only; omega, by simp only; rw [ht, g2]; simp [escC, h10]⟩, by simp only; omega, ?_⟩
    simp [keepE, St.keep]
   have t1 : ((c.toNat : Int) == 10) = false := by rw [e10]; simp [h10]
   by_cases h34 : c = 34 ∨ c = 92
   ·have cA := zFd (p := .ptr 0 0) (.inr rfl) acc 92 acc.length rfl (by omega)
    have cB := zFd (p := .ptr 0 0) (.inr rfl) (acc ++ [92]) c (acc.length + 1) (by simp) (by omega)
    by_cases h342 : c = 34
    ·have t2 : ((c.toNat : Int) == 34) = true := by rw [e34]; simp [h342]
     have wQ := tw; repeat' (first | with_reducible (apply swq; constructor) | simp only [go_sem, seval, P28, q28, hd, t1, t2, hc] | simp (disch := omega) only [w64, w32, wu8, wu16, wu32, wu64] | ((with_reducible refine o_eff [0] [0] (cA) ?hs ?he ?hh ?_); (case hs => exact so); (case he | hh => exact sh wQ); rintro _ _ ⟨rfl, rfl⟩) | ((with_reducible refine o_eff [0] [0] (cB) ?hs ?he ?hh ?_); (case hs => exact so); (case he | hh => exact sh wQ); rintro _ _ ⟨rfl, rfl⟩) | with_reducible (apply cdA; constructor) | ((with_reducible refine And.intro ?hw ?_); (case hw => exact sw wQ)) | with_reducible intro _)
     all_goals try (exfalso; omega)
     refine ⟨(i + 1, acc ++ [92] ++ [c]), ⟨by simp only; omega, by simp only; rw [ht, g2]; simp [escC, h342]⟩, by simp only; omega, ?_⟩
     simp [keepE, St.keep]
    ·have h92 : c = 92 := by rcases h34 with h | h; exact absurd h h342; exact h
     have t2 : ((c.toNat : Int) == 34) = false := by rw [e34]; simp [h342]
     have t3 : ((c.toNat : Int) == 92) = true := by rw [e92]; simp [h92]
     have wQ := tw; repeat' (first | with_reducible (apply swq; constructor) | simp only [go_sem, seval, P28, q28, hd, t1, t2, t3, hc] | simp (disch := omega) only [w64, w32, wu8, wu16, wu32, wu64] | ((with_reducible refine o_eff [0] [0] (cA) ?hs ?he ?hh ?_); (case hs => exact so); (case he | hh => exact sh wQ); rintro _ _ ⟨rfl, rfl⟩) | ((with_reducible refine o_eff [0] [0] (cB) ?hs ?he ?hh ?_); (case hs => exact so); (case he | hh => exact sh wQ); rintro _ _ ⟨rfl, rfl⟩) | with_reducible (apply cdA; constructor) | ((with_reducible refine And.intro ?hw ?_); (case hw => exact sw wQ)) | with_reducible intro _)
     all_goals try (exfalso; omega)
     refine ⟨(i + 1, acc ++ [92] ++ [c]), ⟨by simp only; omega, by simp only; rw [ht, g2]; simp [escC, h92]⟩, by simp only; omega, ?_⟩
     simp [keepE, St.keep]
   ·have h1 : ¬ c = 34 := fun h => h34 (.inl h)
    have h2 : ¬ c = 92 := fun h => h34 (.inr h)
    have t2 : ((c.toNat : Int) == 34) = false := by rw [e34]; simp [h1]
    have t3 : ((c.toNat : Int) == 92) = false := by rw [e92]; simp [h2]
    have cA := zFd (p := .ptr 0 0) (.inr rfl) acc c acc.length rfl (by omega)
    have wQ := tw; repeat' (first | with_reducible (apply swq; constructor) | simp only [go_sem, seval, P28, q28, hd, t1, t2, t3, hc] | simp (disch := omega) only [w64, w32, wu8, wu16, wu32, wu64] | ((with_reducible refine o_eff [0] [0] (cA) ?hs ?he ?hh ?_); (case hs => exact so); (case he | hh => exact sh wQ); rintro _ _ ⟨rfl, rfl⟩) | with_reducible (apply cdA; constructor) | ((with_reducible refine And.intro ?hw ?_); (case hw => exact sw wQ)) | with_reducible intro _)
    all_goals try (exfalso; omega)
    refine ⟨(i + 1, acc ++ [c]), ⟨by simp only; omega, by simp only; rw [ht, g2]; simp [escC, h10, h1, h2]⟩, by simp only; omega, ?_⟩
    simp [keepE, St.keep]
  ·obtain rfl : i = s.length := by omega
   have hd : decide ((s.length : Int) < s.length) = false := by simp
   have cA := zFd (p := .ptr 0 0) (.inr rfl) acc 34 acc.length rfl (by omega)
   have cS := str_e (p := .ptr 0 0) (bs := acc ++ [34]) (by simp; omega)
   have hq : acc ++ [34] = quo s := by rw [g2, List.take_length]; simp [quo]
   rw [hq] at cA cS
   have hql : (quo s).length = acc.length + 1 := by rw [← hq]; simp
   rw [hql] at cS
   have wQ := tw; repeat' (first | with_reducible (apply swq; constructor) | simp only [go_sem, seval, P28, q28, hd] | simp (disch := omega) only [w64, w32, wu8, wu16, wu32, wu64] | ((with_reducible refine o_eff [0] [0] (cA) ?hs ?he ?hh ?_); (case hs => exact so); (case he | hh => exact sh wQ); rintro _ _ ⟨rfl, rfl⟩) | ((with_reducible refine o_eff [0] [0] (cS) ?hs ?he ?hh ?_); (case hs => exact so); (case he | hh => exact sh wQ); rintro _ _ ⟨rfl, rfl⟩) | with_reducible (apply cdA; constructor) | ((with_reducible refine And.intro ?hw ?_); (case hw => exact sw wQ)) | with_reducible intro _)
   all_goals try (exfalso; omega)
   all_goals simp [D.closed, D.er, D.cL, D.erL]
end Go.Proofs.YtkjnhkoipgdfeaaDoor
end
section
set_option maxRecDepth 100000
set_option linter.unusedSimpArgs false
set_option linter.unusedVariables false
namespace Go.Proofs.YtkjnhkoipgdfeaaDoor
open Go GoV Go.RowKit
theorem esc_ge : ∀ u : Tx, u.length ≤ (esc u).length
 | [] => Nat.le_refl _
 | c :: u => by
   have h1 : 1 ≤ (escC c).length := by unfold escC; (repeat' split) <;> simp
   have := esc_ge u
   simp only [esc, List.length_append, List.length_cons]; omega
theorem word_le : ∀ {ts : List Kt} {x : Kt}, x ∈ ts → x.2.length ≤ (reT ts).length
 | y :: ts, x, h => by
   simp only [reT, List.length_append]
   rcases List.mem_cons.1 h with rfl | h
   ·have : x.2.length ≤ (wordK x).length := by
     unfold wordK
     split
     ·have := esc_ge x.2
      simp only [quo, List.length_cons, List.length_append]; omega
     ·exact Nat.le_refl _
    omega
   ·have := word_le h
    omega
theorem reT_app : ∀ u v : List Kt, reT (u ++ v) = reT u ++ reT v
 | [], v => rfl
 | x :: u, v => by simp [reT, reT_app u v]
theorem reT_take {l : List Tok} {i : Nat} (h : i < l.length) : reT ((l.take (i + 1)).map kt) = reT ((l.take i).map kt) ++ (wordK (kt l[i]) ++ [10]) := by
 rw [List.take_succ_eq_append_getElem h, List.map_append, reT_app]
 simp [reT]
theorem reT_pre (l : List Tok) (i : Nat) : (reT ((l.take i).map kt)).length ≤ (reT (l.map kt)).length := by
 have e : l.map kt = (l.take i).map kt ++ (l.drop i).map kt := by rw [← List.map_append, List.take_append_drop]
 rw [e, reT_app]; simp
theorem quo_len (u : Tx) : (quo u).length ≤ 2 * u.length + 2 := by
 have := esc_len u
 simp only [quo, List.length_cons, List.length_append, List.length_nil]; omega
theorem parse_few (s : Tx) : (zBh s).1.nodes ≤ 60 := by
 cases h : zBh s with
 | mk y ep =>
   obtain ⟨e, p⟩ := ep
   by_cases he : e = 0
   ·subst he
    exact (valid_iff.1 (parse_valid h).1).1
   ·rw [parse_bad h he]; show zeroF.nodes ≤ 60; decide
set_option maxHeartbeats 8000000 in
theorem l8_p (text : Tx) : Pur M 8 [.str text] (.bool true) := by
 refine k8.ok (C := C8) rfl rfl ?_
 rw [i8]
 unfold c8
 have ch := head_p
 by_cases ht : ¬ text.length ≤ 1500
 ·have hd : decide ((text.length : Int) > 1500) = true := by simp; omega
  have wQ := tw; repeat' (first | with_reducible (apply swq; constructor) | simp only [go_sem, seval, P8, q8, hd] | ((with_reducible refine zAb (ch) ?he ?hc ?_); (case he | hc => exact sc wQ)) | (with_reducible first | (apply cdA; constructor) | (apply gdA; constructor)) | ((with_reducible refine And.intro ?hw ?_); (case hw => exact sw wQ)) | with_reducible intro _)
  all_goals simp [D.closed, D.er]
 have ht := Decidable.not_not.1 ht
 have hd : decide ((text.length : Int) > 1500) = false := by simp; omega
 have cl := lex_p text (by omega) (quote_all text (by omega))
 have cp := parse_all text (by omega)
 cases hl : lexP text with
 | mk l ep =>
   obtain ⟨e, p⟩ := ep
   rw [hl] at cl
   simp only at cl
   have tl := zDz l
   have tc := zEf l
   have te := tokL_er l
   by_cases he : ¬ e = 0
   ·have hp : zBh text = (zeroF, e, p) := by unfold zBh; rw [hl]; simp only; rw [if_neg he]
    rw [hp] at cp
    have t1 : (e != 0) = true := by simp [he]
    have t2 : (e == e) = true := by simp
    generalize tokL l = L at *
    simp only [parD, F.d_eq, zeroF, F.cells] at cp
    have wQ := And.intro @tc @te; repeat' (first | with_reducible (apply swq; constructor) | simp only [go_sem, seval, P8, q8, hd, t1, t2] | ((with_reducible refine zAb (ch) ?he ?hc ?_); (case he | hc => exact sc wQ)) | ((with_reducible refine zAb (cl) ?he ?hc ?_); (case he | hc => exact sc wQ)) | ((with_reducible refine zAb (cp) ?he ?hc ?_); (case he | hc => exact sc wQ)) | (with_reducible first | (apply cdA; constructor) | (apply gdA; constructor)) | ((with_reducible refine And.intro ?hw ?_); (case hw => exact sw wQ)) | with_reducible intro _)
    all_goals simp [D.closed, D.er]
   have he := Decidable.not_not.1 he
   subst he
   have := lexP_zero hl
   subst this
   obtain ⟨hG, hll⟩ := lexP_good hl
   obtain ⟨g1, g2, g3⟩ := gaps hl
   obtain ⟨hw, _⟩ := relex hl
   have cw := parse_all (reT (l.map kt)) (by omega)
   have cc := parse_all ([40] ++ reT (l.map kt) ++ [41]) (by simp only [List.length_append, List.length_cons, List.length_nil]; omega)
   have hn := parse_few text
   cases hp : zBh text with
   | mk a fp =>
     obtain ⟨f, pa⟩ := fp
     cases hp2 : zBh (reT (l.map kt)) with
     | mk b gp =>
       obtain ⟨g, pb⟩ := gp
       cases hp3 : zBh ([40] ++ reT (l.map kt) ++ [41]) with
       | mk c hq =>
         obtain ⟨h, pc⟩ := hq
         rw [hp] at cp hn g1 g2 g3
         rw [hp2] at cw g1 g2
         rw [hp3] at cc g3
         simp only at g1 g2 g3 hn
         subst g1 g2
         have saa := same_p b.nodes b b (Nat.le_refl _) (by omega)
         rw [sameB_refl] at saa
         have a1 := zAh b.kids
         have a2 := erL_F b.kids
         have a3 := zAh c.kids
         have a4 := erL_F c.kids
         have hqk : ∀ (i : Nat) (hi : i < l.length), (l[i]).text.length ≤ 20000 := fun i hi => by
          have := word_le (ts := l.map kt) (x := kt l[i]) (List.mem_map.2 ⟨_, List.getElem_mem hi, rfl⟩)
          simp only [kt] at this; omega
         have hll2 : l.length ≤ 1500 := by omega
         simp only [parD, F.d_eq, F.cells] at cp cw cc saa
         have wQ := And.intro @tc (And.intro @te (And.intro @a1 @a2)); repeat' (first | with_reducible (apply swq; constructor) | simp only [go_sem, seval, P8, q8, hd] | ((with_reducible refine zAb (ch) ?he ?hc ?_); (case he | hc => exact sc wQ)) | ((with_reducible refine zAb (cl) ?he ?hc ?_); (case he | hc => exact sc wQ)) | ((with_reducible refine zAb (cp) ?he ?hc ?_); (case he | hc => exact sc wQ)) | (with_reducible first | (apply cdA; constructor) | (apply gdA; constructor)) | ((with_reducible refine And.intro ?hw ?_); (case hw => exact sw wQ)) | with_reducible intro _)
         refine zB6 [0, 1, 2, 3, 4, 5, 6, 7, 8] (fun i : Nat => ⟨[.str text, .bool false, .bool true, .slice (tokL l) .no, .int .i64 0, .ptr 0 0, .int .i64 g, .str (reT ((l.take i).map kt)), .int .i64 i, .u0, .u0, .u0, .u0, .u0, .u0, .u0, .u0, .u0, .u0], [], ⟨[.cells b.cells], []⟩⟩)
          (fun i => i ≤ l.length) (fun i => l.length - i) 0 (by omega) ?_ ?_
         ·simp [keepE, St.keep, F.cells, reT]
         ·rintro i hi
          by_cases hil : i < l.length
          ·have hg : (tokL l).getD i .u0 = .agg [.int .i64 (l[i]).kind, .str (l[i]).text, .int .i64 (l[i]).pos] := by simp [tokL, List.getD, hil, Tok.d]
           have hd2 : decide ((i : Int) < l.length) = true := by simp; omega
           have hT := reT_take hil
           have hq := quote_p (l[i]).text (hqk i hil)
           have hqu := quo_len (l[i]).text
           have hul := hqk i hil
           have hrl := reT_pre l i
           by_cases hk : (l[i]).kind = 3
           ·have t3 : ((l[i]).kind == 3) = true := by simp [hk]
            have hwd : wordK (kt l[i]) = quo (l[i]).text := by simp [wordK, kt, hk]
            rw [hwd] at hT
            generalize (l[i]).kind = k at *
            generalize (l[i]).text = u at *
            generalize (l[i]).pos = q at *
            generalize tokL l = L at *
            have wQ := And.intro @tl @hg; repeat' (first | with_reducible (apply swq; constructor) | simp only [go_sem, seval, P8, q8, hg, hd2, t3, tl] | simp (disch := omega) only [w64, w32, wu8, wu16, wu32, wu64] | ((with_reducible refine zAb (hq) ?he ?hc ?_); (case he | hc => exact sc wQ)) | (with_reducible first | (apply cdA; constructor) | (apply gdA; constructor)) | ((with_reducible refine And.intro ?hw ?_); (case hw => exact sw wQ)) | with_reducible intro _)
            all_goals try (exfalso; omega)
            refine ⟨i + 1, by omega, by omega, ?_⟩
            simp [keepE, St.keep, F.cells]
            rw [← List.map_take, ← List.map_take, hT]
           ·have t3 : ((l[i]).kind == 3) = false := by simp [hk]
            have hwd : wordK (kt l[i]) = (l[i]).text := by simp [wordK, kt, hk]
            rw [hwd] at hT
            generalize (l[i]).kind = k at *
            generalize (l[i]).text = u at *
            generalize (l[i]).pos = q at *
            generalize tokL l = L at *
            have wQ := And.intro @tl @hg; repeat' (first | with_reducible (apply swq; constructor) | simp only [go_sem, seval, P8, q8, hg, hd2, t3, tl] | simp (disch := omega) only [w64, w32, wu8, wu16, wu32, wu64] | ((with_reducible refine zAb (hq) ?he ?hc ?_); (case he | hc => exact sc wQ)) | (with_reducible first | (apply cdA; constructor) | (apply gdA; constructor)) | ((with_reducible refine And.intro ?hw ?_); (case hw => exact sw wQ)) | with_reducible intro _)
            all_goals try (exfalso; omega)
            refine ⟨i + 1, by omega, by omega, ?_⟩
            simp [keepE, St.keep, F.cells]
            rw [← List.map_take, ← List.map_take, hT]
          ·obtain rfl : i = l.length := by omega
           have hd2 : decide ((l.length : Int) < l.length) = false := by simp
           rw [List.take_length]
           generalize reT (l.map kt) = W at *
           generalize tokL l = L at *
           have n1 : (g != g) = false := by simp
           by_cases hf : g = 0 ∨ g = 7
           ·obtain ⟨rfl, rfl⟩ := g3 hf
            have e1 : (h == h) = true := by simp
            rcases hf with rfl | rfl
            iterate 2
             ·have wQ := And.intro @tl (And.intro @a1 (And.intro @a2 (And.intro @a3 @a4))); repeat' (first | with_reducible (apply swq; constructor) | simp only [go_sem, seval, P8, q8, hd2, tl, n1, e1] | ((with_reducible refine zAb (cw) ?he ?hc ?_); (case he | hc => exact sc wQ)) | ((with_reducible refine zAb (cc) ?he ?hc ?_); (case he | hc => exact sc wQ)) | ((with_reducible refine zAb (saa) ?he ?hc ?_); (case he | hc => exact sc wQ)) | (with_reducible first | (apply cdA; constructor) | (apply gdA; constructor)) | ((with_reducible refine And.intro ?hw ?_); (case hw => exact sw wQ)) | with_reducible intro _)
              all_goals simp [D.closed, D.er]
           ·have e1 : (g != 0) = true := by simp; omega
            have e2 : (g != 7) = true := by simp; omega
            have wQ := And.intro @tl (And.intro @a1 (And.intro @a2 (And.intro @a3 @a4))); repeat' (first | with_reducible (apply swq; constructor) | simp only [go_sem, seval, P8, q8, hd2, tl, n1, e1, e2] | ((with_reducible refine zAb (cw) ?he ?hc ?_); (case he | hc => exact sc wQ)) | ((with_reducible refine zAb (cc) ?he ?hc ?_); (case he | hc => exact sc wQ)) | ((with_reducible refine zAb (saa) ?he ?hc ?_); (case he | hc => exact sc wQ)) | (with_reducible first | (apply cdA; constructor) | (apply gdA; constructor)) | ((with_reducible refine And.intro ?hw ?_); (case hw => exact sw wQ)) | with_reducible intro _)
            all_goals simp [D.closed, D.er]
end Go.Proofs.YtkjnhkoipgdfeaaDoor
end