/- Own texts, merged by a program: the engine that walks the code, and what the functions that the law reaches compute. -/
import Derived.Test.YtkjnhkoipgdfeaaDoorXa5
section
set_option maxRecDepth 100000
set_option linter.unusedSimpArgs false
set_option linter.unusedVariables false
namespace Go.Proofs.YtkjnhkoipgdfeaaDoor
open Go GoV Go.RowKit
theorem need_no {en : Int} {w : Tx} {l : List Tok} {go : List Tok → PR} {e p : Int} (h : needP en w l go = .no e p) : (gotN 4 [w] l = none ∧ failP en l = .no e p) ∨ ∃ t l', l = t :: l' ∧ (∃ i, gotN 4 [w] l = some i) ∧ go l' = .no e p := by
 unfold needP at h
 cases hg : gotN 4 [w] l with
 | none => rw [hg] at h; exact .inl ⟨rfl, h⟩
 | some i =>
   rw [hg] at h
   obtain ⟨t, l', rfl, _⟩ := zBt hg
   exact .inr ⟨t, l', rfl, ⟨i, by first | exact hg | rfl⟩, h⟩
theorem then_no {p : PR} {go : F → List Tok → PR} {e q : Int} (h : thenP p go = .no e q) : p = .no e q ∨ ∃ f r', p = .ok f r' ∧ go f r' = .no e q := by
 cases p with
 | no e1 q1 => simp only [thenP] at h; exact .inl h
 | ok f r' => exact .inr ⟨f, r', rfl, h⟩
set_option maxHeartbeats 4000000 in
theorem factor_x {fo : List Tok → PR} {en : Int} {N K : Nat} (hfo : OpOk 33 fo en N) (hx : OpX 33 fo en N K) (hN : N ≤ 100000) : OpX 54 (factP fo en) en N (K + 1) := by
 intro l e p hl hK hG h
 refine zCk (C := E54 1 0) (fn := Tryd.f54) Tryd.func54 (by kernel_rfl) (by kernel_rfl) (rc := c54) z54 (by kernel_rfl) rfl (by rw [show ([D.ptr 0 0] : List D).length = 1 from rfl]; decide) rfl rfl ?_ rfl (fun _ _ => trivial)
 rw [ie54]
 unfold c54
 have hd1 : decide ((-1 : Int) ≥ 0) = false := rfl
 cases l with
 | nil =>
   simp only [factP] at h
   have c1 := got_e 1 [tKm, tCy, tLd] (by simp) [] (by simp) en
   have c2 := got_e 1 [tMin, tMax, tIf] (by simp) [] (by simp) en
   have g1 : gotI 1 [tKm, tCy, tLd] [] = -1 := rfl
   have g2 : gotI 1 [tMin, tMax, tIf] [] = -1 := rfl
   have g3 : gotR 1 [tKm, tCy, tLd] [] = [] := rfl
   have g4 : gotR 1 [tMin, tMax, tIf] [] = [] := rfl
   rw [g1, g3, sn1] at c1
   rw [g2, g4, sn2] at c2
   have cx := need_x [40] [] (by simp) en e p rfl h
   have e0 : tokL [] = [] := rfl
   have hz : decide (((0 : Nat) : Int) > 0) = false := rfl
   have hl0 : ([] : List D).length = 0 := rfl
   unfold hpP at c1 c2 cx ⊢
   rw [e0] at c1 c2 cx ⊢
   have wQ := tw; repeat' (first | with_reducible (apply swq; constructor) | simp only [go_sem, seval, zA1, pe54, q54, hz, hl0, hd1] | ((with_reducible first | refine c_eff [0] [] (zAf c1 _) ?hs ?he ?hh ?_ | refine o_eff [0] [] (zAf c1 _) ?hs ?he ?hh ?_); (case hs => exact so); (case he | hh => exact sh wQ); try rintro _ _ ⟨rfl, rfl⟩) | ((with_reducible first | refine c_eff [0] [] (zAf c2 _) ?hs ?he ?hh ?_ | refine o_eff [0] [] (zAf c2 _) ?hs ?he ?hh ?_); (case hs => exact so); (case he | hh => exact sh wQ); try rintro _ _ ⟨rfl, rfl⟩) | ((with_reducible refine o_pan [0] [] (zBm cx _) ?hs ?he ?hh ?hk); (case hs => exact so); (case he | hh => exact sh wQ); (case hk => intro _ _ q; subst q; first | rfl | apply hPan | (simp [go_sem, seval]; done))) | ((with_reducible apply zAp); (case he => rfl); (case hK | hc | hr | hV => exact sd wQ)) | ((with_reducible apply zAq); (case he => rfl); (case hV | hK | hr | hl => exact sd wQ)) | ((with_reducible apply zAs); (case he => rfl); (case hK | hc | hr => exact sd wQ)) | ((with_reducible apply zAr); (case he => rfl); (case hK | hc | hr | hx | hn => exact sd wQ)) | ((with_reducible first | apply s_bsl | apply t_bsl); (case he | hl | hc => exact sd wQ)) | ((with_reducible apply zA8); (case hx => exact sd wQ)) | ((with_reducible first | apply zA6 | apply zA7); (case h0 | h1 | hx => exact sd wQ)) | ((with_reducible apply zA5); (case h0 | h1 | h2 | hx => exact sd wQ)) | ((with_reducible first | apply zA3 | apply zA4); (case h0 | h1 | hc => exact sd wQ)) | ((with_reducible apply zA2); (case h0 | h1 | h2 | hc => exact sd wQ)) | (with_reducible first | (apply cdA; constructor) | (apply gdA; constructor)) | ((with_reducible refine And.intro ?hw ?_); (case hw => exact sw wQ)) | with_reducible intro _)
 | cons t l' =>
 simp only [factP] at h
 simp only [List.length_cons] at hl hK
 have hlr := zEu l'
 have hel := zCl l'
 have hpos : decide (((l'.length + 1 : Nat) : Int) > 0) = true := by simp only [decide_eq_true_eq]; omega
 have hcons := zEf t l'
 have hGt : GoodT l' := hG.suf (List.suffix_cons _ _)
 by_cases hk : t.kind = 2
 ·rw [if_pos hk] at h
  cases h
 rw [if_neg hk] at h
 have tk : (t.kind == 2) = false := by simp [hk]
 have c1 := got_e 1 [tKm, tCy, tLd] (by simp) (t :: l') (by simp; omega) en
 rw [sn1] at c1
 cases hg1 : gotN 1 [tKm, tCy, tLd] (t :: l') with
 | some i => rw [hg1] at h; cases h
 | none =>
 rw [hg1] at h
 obtain ⟨m1, m2⟩ := zDw hg1
 rw [m1, m2] at c1
 have c2 := got_e 1 [tMin, tMax, tIf] (by simp) (t :: l') (by simp; omega) en
 rw [sn2] at c2
 cases hg2 : gotN 1 [tMin, tMax, tIf] (t :: l') with
 | some i =>
   rw [hg2] at h
   simp only [callP] at h
   obtain ⟨t2, l2, e0, n1, n2, n3, n4, n5⟩ := zBt hg2
   cases e0
   rw [n1, n2] at c2
   simp only [List.length_cons, List.length_nil] at n3
   have hd : decide ((i : Int) ≥ 0) = true := by simp
   obtain ⟨RA, hRA⟩ : ∃ R, R = (RC.regD r54_12 r54_13) := ⟨_, rfl⟩
   obtain ⟨RB, hRB⟩ : ∃ R, R = (RC.regD r54_17 r54_18) := ⟨_, rfl⟩
   rw [← hRA, ← hRB]
   have hmx : max (1 : Int) i = ((max 1 i : Nat) : Int) := by omega
   have hmb : max 1 i ≤ 3 := by omega
   rcases need_no h with ⟨hn, hf⟩ | ⟨t3, l3, rfl, ⟨i3, hg3⟩, h3⟩
   ·have cx := need_x [40] l' (by omega) en e p hn hf
    unfold hpP at c1 c2 cx ⊢
    rw [hcons] at c1 c2 ⊢
    have wQ := And.intro @hlr (And.intro @hel @zAe); repeat' (first | with_reducible (apply swq; constructor) | simp only [go_sem, seval, zA1, pe54, q54, hlr, hpos, tk, hd, hd1, List.length_cons] | simp (disch := omega) only [w64, w32, wu8, wu16, wu32, wu64] | ((with_reducible first | refine c_eff [0] [] (zAf c1 _) ?hs ?he ?hh ?_ | refine o_eff [0] [] (zAf c1 _) ?hs ?he ?hh ?_); (case hs => exact so); (case he | hh => exact sh wQ); try rintro _ _ ⟨rfl, rfl⟩) | ((with_reducible first | refine c_eff [0] [] (zAf c2 _) ?hs ?he ?hh ?_ | refine o_eff [0] [] (zAf c2 _) ?hs ?he ?hh ?_); (case hs => exact so); (case he | hh => exact sh wQ); try rintro _ _ ⟨rfl, rfl⟩) | ((with_reducible refine o_pan [0] [] (zBm cx _) ?hs ?he ?hh ?hk); (case hs => exact so); (case he | hh => exact sh wQ); (case hk => intro _ _ q; subst q; first | rfl | apply hPan | (simp [go_sem, seval, hlr, hel, zAe]; done))) | ((with_reducible apply zAp); (case he => rfl); (case hK | hc | hr | hV => exact sd wQ)) | ((with_reducible apply zAq); (case he => rfl); (case hV | hK | hr | hl => exact sd wQ)) | ((with_reducible apply zAs); (case he => rfl); (case hK | hc | hr => exact sd wQ)) | ((with_reducible apply zAr); (case he => rfl); (case hK | hc | hr | hx | hn => exact sd wQ)) | ((with_reducible first | apply s_bsl | apply t_bsl); (case he | hl | hc => exact sd wQ)) | ((with_reducible apply zA8); (case hx => exact sd wQ)) | ((with_reducible first | apply zA6 | apply zA7); (case h0 | h1 | hx => exact sd wQ)) | ((with_reducible apply zA5); (case h0 | h1 | h2 | hx => exact sd wQ)) | ((with_reducible first | apply zA3 | apply zA4); (case h0 | h1 | hc => exact sd wQ)) | ((with_reducible apply zA2); (case h0 | h1 | h2 | hc => exact sd wQ)) | (with_reducible first | (apply cdA; constructor) | (apply gdA; constructor)) | ((with_reducible refine And.intro ?hw ?_); (case hw => exact sw wQ)) | with_reducible intro _)
   have hG3 : GoodT l3 := hGt.suf (List.suffix_cons _ _)
   simp only [List.length_cons] at hl hK
   have c3 := need_e [40] (t3 :: l3) (by simp; omega) en hg3
   simp only [List.tail_cons] at c3
   rcases then_no h3 with h4 | ⟨f4, l4, h4, h5⟩
   ·have cx := hx l3 e p (by omega) (by omega) hG3 h4
    unfold hpP at c1 c2 c3 ⊢
    rw [hcons] at c1 c2 ⊢
    have wQ := And.intro @hlr (And.intro @hel @zAe); repeat' (first | with_reducible (apply swq; constructor) | simp only [go_sem, seval, zA1, pe54, q54, hlr, hpos, tk, hd, hd1, List.length_cons] | simp (disch := omega) only [w64, w32, wu8, wu16, wu32, wu64] | ((with_reducible first | refine c_eff [0] [] (zAf c1 _) ?hs ?he ?hh ?_ | refine o_eff [0] [] (zAf c1 _) ?hs ?he ?hh ?_); (case hs => exact so); (case he | hh => exact sh wQ); try rintro _ _ ⟨rfl, rfl⟩) | ((with_reducible first | refine c_eff [0] [] (zAf c2 _) ?hs ?he ?hh ?_ | refine o_eff [0] [] (zAf c2 _) ?hs ?he ?hh ?_); (case hs => exact so); (case he | hh => exact sh wQ); try rintro _ _ ⟨rfl, rfl⟩) | ((with_reducible first | refine c_eff [0] [] (zAf c3 _) ?hs ?he ?hh ?_ | refine o_eff [0] [] (zAf c3 _) ?hs ?he ?hh ?_); (case hs => exact so); (case he | hh => exact sh wQ); try rintro _ _ ⟨rfl, rfl⟩) | ((with_reducible apply zAp); (case he => rfl); (case hK | hc | hr | hV => exact sd wQ)) | ((with_reducible apply zAq); (case he => rfl); (case hV | hK | hr | hl => exact sd wQ)) | ((with_reducible apply zAs); (case he => rfl); (case hK | hc | hr => exact sd wQ)) | ((with_reducible apply zAr); (case he => rfl); (case hK | hc | hr | hx | hn => exact sd wQ)) | ((with_reducible first | apply s_bsl | apply t_bsl); (case he | hl | hc => exact sd wQ)) | ((with_reducible apply zA8); (case hx => exact sd wQ)) | ((with_reducible first | apply zA6 | apply zA7); (case h0 | h1 | hx => exact sd wQ)) | ((with_reducible apply zA5); (case h0 | h1 | h2 | hx => exact sd wQ)) | ((with_reducible first | apply zA3 | apply zA4); (case h0 | h1 | hc => exact sd wQ)) | ((with_reducible apply zA2); (case h0 | h1 | h2 | hc => exact sd wQ)) | (with_reducible first | (apply cdA; constructor) | (apply gdA; constructor)) | ((with_reducible refine And.intro ?hw ?_); (case hw => exact sw wQ)) | with_reducible intro _)
    all_goals try (exfalso; omega)
    subst hRA
    refine zFy (zDo 2 2 3 (by decide) rfl rfl) ?_
    exact reg54_12x (fs := []) (by simp) rfl rfl cx _
   obtain ⟨c4, q4, s4⟩ := hfo l3 f4 l4 (by omega) hG3 h4
   unfold hpP at c1 c2 c3 ⊢
   rw [hcons] at c1 c2 ⊢
   have wQ := And.intro @hlr (And.intro @hel @zAe); repeat' (first | with_reducible (apply swq; constructor) | simp only [go_sem, seval, zA1, pe54, q54, hlr, hpos, tk, hd, hd1, List.length_cons] | simp (disch := omega) only [w64, w32, wu8, wu16, wu32, wu64] | ((with_reducible first | refine c_eff [0] [] (zAf c1 _) ?hs ?he ?hh ?_ | refine o_eff [0] [] (zAf c1 _) ?hs ?he ?hh ?_); (case hs => exact so); (case he | hh => exact sh wQ); try rintro _ _ ⟨rfl, rfl⟩) | ((with_reducible first | refine c_eff [0] [] (zAf c2 _) ?hs ?he ?hh ?_ | refine o_eff [0] [] (zAf c2 _) ?hs ?he ?hh ?_); (case hs => exact so); (case he | hh => exact sh wQ); try rintro _ _ ⟨rfl, rfl⟩) | ((with_reducible first | refine c_eff [0] [] (zAf c3 _) ?hs ?he ?hh ?_ | refine o_eff [0] [] (zAf c3 _) ?hs ?he ?hh ?_); (case hs => exact so); (case he | hh => exact sh wQ); try rintro _ _ ⟨rfl, rfl⟩) | ((with_reducible apply zAp); (case he => rfl); (case hK | hc | hr | hV => exact sd wQ)) | ((with_reducible apply zAq); (case he => rfl); (case hV | hK | hr | hl => exact sd wQ)) | ((with_reducible apply zAs); (case he => rfl); (case hK | hc | hr => exact sd wQ)) | ((with_reducible apply zAr); (case he => rfl); (case hK | hc | hr | hx | hn => exact sd wQ)) | ((with_reducible first | apply s_bsl | apply t_bsl); (case he | hl | hc => exact sd wQ)) | ((with_reducible apply zA8); (case hx => exact sd wQ)) | ((with_reducible first | apply zA6 | apply zA7); (case h0 | h1 | hx => exact sd wQ)) | ((with_reducible apply zA5); (case h0 | h1 | h2 | hx => exact sd wQ)) | ((with_reducible first | apply zA3 | apply zA4); (case h0 | h1 | hc => exact sd wQ)) | ((with_reducible apply zA2); (case h0 | h1 | h2 | hc => exact sd wQ)) | (with_reducible first | (apply cdA; constructor) | (apply gdA; constructor)) | ((with_reducible refine And.intro ?hw ?_); (case hw => exact sw wQ)) | with_reducible intro _)
   all_goals try (exfalso; omega)
   subst hRA
   refine zFy (zDo 2 2 3 (by decide) rfl rfl) ?_
   refine reg54_12p (fs := []) (by simp) rfl rfl c4 _ ?_
   have wQ := tw; repeat' (first | with_reducible (apply swq; constructor) | simp only [go_sem, seval, zA1, pe54, q54, maxW, hmx] | simp (disch := omega) only [w64, w32, wu8, wu16, wu32, wu64] | ((with_reducible apply zAp); (case he => rfl); (case hK | hc | hr | hV => exact sd wQ)) | ((with_reducible apply zAq); (case he => rfl); (case hV | hK | hr | hl => exact sd wQ)) | ((with_reducible apply zAs); (case he => rfl); (case hK | hc | hr => exact sd wQ)) | ((with_reducible apply zAr); (case he => rfl); (case hK | hc | hr | hx | hn => exact sd wQ)) | ((with_reducible first | apply s_bsl | apply t_bsl); (case he | hl | hc => exact sd wQ)) | ((with_reducible apply zA8); (case hx => exact sd wQ)) | ((with_reducible first | apply zA6 | apply zA7); (case h0 | h1 | hx => exact sd wQ)) | ((with_reducible apply zA5); (case h0 | h1 | h2 | hx => exact sd wQ)) | ((with_reducible first | apply zA3 | apply zA4); (case h0 | h1 | hc => exact sd wQ)) | ((with_reducible apply zA2); (case h0 | h1 | h2 | hc => exact sd wQ)) | (with_reducible first | (apply cdA; constructor) | (apply gdA; constructor)) | ((with_reducible refine And.intro ?hw ?_); (case hw => exact sw wQ)) | with_reducible intro _)
   all_goals try (exfalso; omega)
   generalize hM : max 1 i = mx at *
   refine zB8 [0, 1, 4, 5, 10, 11] (fun x : Nat × List F × List Tok => ⟨[.ptr 0 0, .ptr 1 0, .u0, .u0, .int .i64 (i : Nat), .ptr 2 0, .u0, .u0, .u0, .u0, .int .i64 (mx : Nat), .int .i64 (x.1 : Nat), .u0], [],
    ⟨[.cells [.slice (tokL x.2.2) .no, .int .i64 en], .cells [.int .i64 0, .int .i64 0, .lit (.slice none 0 0)], .cells [.int .i64 (9 + i), .int .i64 0, .slice (kidsD x.2.1) (.tok 0)]], [.per 3 x.2.1.length]⟩⟩)
    (fun x => x.1 ≤ mx ∧ x.2.1.length = x.1 + 1 ∧ argsP fo en (9 + i) (mx - x.1) x.2.1 x.2.2 = .no e p ∧ x.2.2.length ≤ N ∧ x.2.2.length < K ∧ GoodT x.2.2) (fun x => mx - x.1) (0, [f4], l4) ⟨by simp, rfl, h5, by simp only; omega, by simp only; omega, hG3.suf s4⟩ ?_ ?_
   ·simp [keepE, St.keep, hM]
   ·rintro ⟨j, fs, lx⟩ ⟨v1, v2, v3, v4, v4', v5⟩
    simp only at v1 v2 v3 v4 v4' v5 ⊢
    by_cases hj : j < mx
    ·obtain ⟨n, hn⟩ : ∃ n, mx - j = n + 1 := ⟨mx - j - 1, by omega⟩
     rw [hn] at v3
     have hdj : decide ((j : Int) < (mx : Nat)) = true := by simp; omega
     simp only [argsP] at v3
     rcases need_no v3 with ⟨hn6, hf6⟩ | ⟨t6, l6, rfl, ⟨i6, hg6⟩, h6⟩
     ·have cx := need_x [44] lx (by omega) en e p hn6 hf6
      unfold hpP at cx
      have wQ := @zAe; repeat' (first | with_reducible (apply swq; constructor) | simp only [go_sem, seval, zA1, pe54, q54, hdj] | simp (disch := omega) only [w64, w32, wu8, wu16, wu32, wu64] | ((with_reducible refine o_pan [0] [] (zBm cx _) ?hs ?he ?hh ?hk); (case hs => exact so); (case he | hh => exact sh wQ); (case hk => intro _ _ q; subst q; first | rfl | apply hPan | (simp [go_sem, seval, zAe]; done))) | ((with_reducible apply zAp); (case he => rfl); (case hK | hc | hr | hV => exact sd wQ)) | ((with_reducible apply zAq); (case he => rfl); (case hV | hK | hr | hl => exact sd wQ)) | ((with_reducible apply zAs); (case he => rfl); (case hK | hc | hr => exact sd wQ)) | ((with_reducible apply zAr); (case he => rfl); (case hK | hc | hr | hx | hn => exact sd wQ)) | ((with_reducible first | apply s_bsl | apply t_bsl); (case he | hl | hc => exact sd wQ)) | ((with_reducible apply zA8); (case hx => exact sd wQ)) | ((with_reducible first | apply zA6 | apply zA7); (case h0 | h1 | hx => exact sd wQ)) | ((with_reducible apply zA5); (case h0 | h1 | h2 | hx => exact sd wQ)) | ((with_reducible first | apply zA3 | apply zA4); (case h0 | h1 | hc => exact sd wQ)) | ((with_reducible apply zA2); (case h0 | h1 | h2 | hc => exact sd wQ)) | (with_reducible first | (apply cdA; constructor) | (apply gdA; constructor)) | ((with_reducible refine And.intro ?hw ?_); (case hw => exact sw wQ)) | with_reducible intro _)
      all_goals try (exfalso; omega)
     simp only [List.length_cons] at v4 v4'
     have hG6 : GoodT l6 := v5.suf (List.suffix_cons _ _)
     have c6 := need_e [44] (t6 :: l6) (by simp; omega) en hg6
     simp only [List.tail_cons] at c6
     rcases then_no h6 with h7 | ⟨f7, l7, h7, h8⟩
     ·have cx := hx l6 e p (by omega) (by omega) hG6 h7
      unfold hpP at c6
      have wQ := @zAe; repeat' (first | with_reducible (apply swq; constructor) | simp only [go_sem, seval, zA1, pe54, q54, hdj] | simp (disch := omega) only [w64, w32, wu8, wu16, wu32, wu64] | ((with_reducible first | refine c_eff [0] [] (zAf c6 _) ?hs ?he ?hh ?_ | refine o_eff [0] [] (zAf c6 _) ?hs ?he ?hh ?_); (case hs => exact so); (case he | hh => exact sh wQ); try rintro _ _ ⟨rfl, rfl⟩) | ((with_reducible apply zAp); (case he => rfl); (case hK | hc | hr | hV => exact sd wQ)) | ((with_reducible apply zAq); (case he => rfl); (case hV | hK | hr | hl => exact sd wQ)) | ((with_reducible apply zAs); (case he => rfl); (case hK | hc | hr => exact sd wQ)) | ((with_reducible apply zAr); (case he => rfl); (case hK | hc | hr | hx | hn => exact sd wQ)) | ((with_reducible first | apply s_bsl | apply t_bsl); (case he | hl | hc => exact sd wQ)) | ((with_reducible apply zA8); (case hx => exact sd wQ)) | ((with_reducible first | apply zA6 | apply zA7); (case h0 | h1 | hx => exact sd wQ)) | ((with_reducible apply zA5); (case h0 | h1 | h2 | hx => exact sd wQ)) | ((with_reducible first | apply zA3 | apply zA4); (case h0 | h1 | hc => exact sd wQ)) | ((with_reducible apply zA2); (case h0 | h1 | h2 | hc => exact sd wQ)) | (with_reducible first | (apply cdA; constructor) | (apply gdA; constructor)) | ((with_reducible refine And.intro ?hw ?_); (case hw => exact sw wQ)) | with_reducible intro _)
      all_goals try (exfalso; omega)
      subst hRB
      exact reg54_17x (fs := fs) (by omega) rfl rfl cx _
     obtain ⟨c7, q7, s7⟩ := hfo l6 f7 l7 (by omega) hG6 h7
     unfold hpP at c6
     have wQ := @zAe; repeat' (first | with_reducible (apply swq; constructor) | simp only [go_sem, seval, zA1, pe54, q54, hdj] | simp (disch := omega) only [w64, w32, wu8, wu16, wu32, wu64] | ((with_reducible first | refine c_eff [0] [] (zAf c6 _) ?hs ?he ?hh ?_ | refine o_eff [0] [] (zAf c6 _) ?hs ?he ?hh ?_); (case hs => exact so); (case he | hh => exact sh wQ); try rintro _ _ ⟨rfl, rfl⟩) | ((with_reducible apply zAp); (case he => rfl); (case hK | hc | hr | hV => exact sd wQ)) | ((with_reducible apply zAq); (case he => rfl); (case hV | hK | hr | hl => exact sd wQ)) | ((with_reducible apply zAs); (case he => rfl); (case hK | hc | hr => exact sd wQ)) | ((with_reducible apply zAr); (case he => rfl); (case hK | hc | hr | hx | hn => exact sd wQ)) | ((with_reducible first | apply s_bsl | apply t_bsl); (case he | hl | hc => exact sd wQ)) | ((with_reducible apply zA8); (case hx => exact sd wQ)) | ((with_reducible first | apply zA6 | apply zA7); (case h0 | h1 | hx => exact sd wQ)) | ((with_reducible apply zA5); (case h0 | h1 | h2 | hx => exact sd wQ)) | ((with_reducible first | apply zA3 | apply zA4); (case h0 | h1 | hc => exact sd wQ)) | ((with_reducible apply zA2); (case h0 | h1 | h2 | hc => exact sd wQ)) | (with_reducible first | (apply cdA; constructor) | (apply gdA; constructor)) | ((with_reducible refine And.intro ?hw ?_); (case hw => exact sw wQ)) | with_reducible intro _)
     all_goals try (exfalso; omega)
     subst hRB
     refine reg54_17p (fs := fs) (by omega) rfl rfl c7 _ ?_
     have wQ := tw; repeat' (first | with_reducible (apply swq; constructor) | simp only [go_sem, seval, zA1, pe54, q54] | simp (disch := omega) only [w64, w32, wu8, wu16, wu32, wu64] | ((with_reducible apply zAp); (case he => rfl); (case hK | hc | hr | hV => exact sd wQ)) | ((with_reducible apply zAq); (case he => rfl); (case hV | hK | hr | hl => exact sd wQ)) | ((with_reducible apply zAs); (case he => rfl); (case hK | hc | hr => exact sd wQ)) | ((with_reducible apply zAr); (case he => rfl); (case hK | hc | hr | hx | hn => exact sd wQ)) | ((with_reducible first | apply s_bsl | apply t_bsl); (case he | hl | hc => exact sd wQ)) | ((with_reducible apply zA8); (case hx => exact sd wQ)) | ((with_reducible first | apply zA6 | apply zA7); (case h0 | h1 | hx => exact sd wQ)) | ((with_reducible apply zA5); (case h0 | h1 | h2 | hx => exact sd wQ)) | ((with_reducible first | apply zA3 | apply zA4); (case h0 | h1 | hc => exact sd wQ)) | ((with_reducible apply zA2); (case h0 | h1 | h2 | hc => exact sd wQ)) | (with_reducible first | (apply cdA; constructor) | (apply gdA; constructor)) | ((with_reducible refine And.intro ?hw ?_); (case hw => exact sw wQ)) | with_reducible intro _)
     all_goals try (exfalso; omega)
     refine ⟨(j + 1, fs ++ [f7], l7), ⟨by simp only; omega, by simp; omega, ?_, by simp only; omega, by simp only; omega, hG6.suf s7⟩, by simp only; omega, ?_⟩
     ·rw [show mx - (j + 1) = n by omega]; exact h8
     ·simp [keepE, St.keep]
    ·obtain rfl : j = mx := by omega
     rw [Nat.sub_self] at v3
     simp only [argsP] at v3
     have hdj : decide ((j : Int) < (j : Nat)) = false := by simp
     rcases need_no v3 with ⟨hn6, hf6⟩ | ⟨t6, l6, rfl, ⟨i6, hg6⟩, h6⟩
     ·have cx := need_x [41] lx (by omega) en e p hn6 hf6
      unfold hpP at cx
      have wQ := @zAe; repeat' (first | with_reducible (apply swq; constructor) | simp only [go_sem, seval, zA1, pe54, q54, hdj] | simp (disch := omega) only [w64, w32, wu8, wu16, wu32, wu64] | ((with_reducible refine o_pan [0] [] (zBm cx _) ?hs ?he ?hh ?hk); (case hs => exact so); (case he | hh => exact sh wQ); (case hk => intro _ _ q; subst q; first | rfl | apply hPan | (simp [go_sem, seval, zAe]; done))) | ((with_reducible apply zAp); (case he => rfl); (case hK | hc | hr | hV => exact sd wQ)) | ((with_reducible apply zAq); (case he => rfl); (case hV | hK | hr | hl => exact sd wQ)) | ((with_reducible apply zAs); (case he => rfl); (case hK | hc | hr => exact sd wQ)) | ((with_reducible apply zAr); (case he => rfl); (case hK | hc | hr | hx | hn => exact sd wQ)) | ((with_reducible first | apply s_bsl | apply t_bsl); (case he | hl | hc => exact sd wQ)) | ((with_reducible apply zA8); (case hx => exact sd wQ)) | ((with_reducible first | apply zA6 | apply zA7); (case h0 | h1 | hx => exact sd wQ)) | ((with_reducible apply zA5); (case h0 | h1 | h2 | hx => exact sd wQ)) | ((with_reducible first | apply zA3 | apply zA4); (case h0 | h1 | hc => exact sd wQ)) | ((with_reducible apply zA2); (case h0 | h1 | h2 | hc => exact sd wQ)) | (with_reducible first | (apply cdA; constructor) | (apply gdA; constructor)) | ((with_reducible refine And.intro ?hw ?_); (case hw => exact sw wQ)) | with_reducible intro _)
      all_goals try (exfalso; omega)
     cases h6
 | none =>
   rw [hg2] at h
   simp only [parP] at h
   obtain ⟨m3, m4⟩ := zDw hg2
   rw [m3, m4] at c2
   rcases need_no h with ⟨hn, hf⟩ | ⟨t3, l3, e0, ⟨i3, hg3⟩, h3⟩
   ·have cx := need_x [40] (t :: l') (by simp; omega) en e p hn hf
    unfold hpP at c1 c2 cx ⊢
    rw [hcons] at c1 c2 cx ⊢
    have wQ := And.intro @hlr (And.intro @hel @zAe); repeat' (first | with_reducible (apply swq; constructor) | simp only [go_sem, seval, zA1, pe54, q54, hlr, hpos, tk, hd1, List.length_cons] | simp (disch := omega) only [w64, w32, wu8, wu16, wu32, wu64] | ((with_reducible first | refine c_eff [0] [] (zAf c1 _) ?hs ?he ?hh ?_ | refine o_eff [0] [] (zAf c1 _) ?hs ?he ?hh ?_); (case hs => exact so); (case he | hh => exact sh wQ); try rintro _ _ ⟨rfl, rfl⟩) | ((with_reducible first | refine c_eff [0] [] (zAf c2 _) ?hs ?he ?hh ?_ | refine o_eff [0] [] (zAf c2 _) ?hs ?he ?hh ?_); (case hs => exact so); (case he | hh => exact sh wQ); try rintro _ _ ⟨rfl, rfl⟩) | ((with_reducible refine o_pan [0] [] (zBm cx _) ?hs ?he ?hh ?hk); (case hs => exact so); (case he | hh => exact sh wQ); (case hk => intro _ _ q; subst q; first | rfl | apply hPan | (simp [go_sem, seval, hlr, hel, zAe]; done))) | ((with_reducible apply zAp); (case he => rfl); (case hK | hc | hr | hV => exact sd wQ)) | ((with_reducible apply zAq); (case he => rfl); (case hV | hK | hr | hl => exact sd wQ)) | ((with_reducible apply zAs); (case he => rfl); (case hK | hc | hr => exact sd wQ)) | ((with_reducible apply zAr); (case he => rfl); (case hK | hc | hr | hx | hn => exact sd wQ)) | ((with_reducible first | apply s_bsl | apply t_bsl); (case he | hl | hc => exact sd wQ)) | ((with_reducible apply zA8); (case hx => exact sd wQ)) | ((with_reducible first | apply zA6 | apply zA7); (case h0 | h1 | hx => exact sd wQ)) | ((with_reducible apply zA5); (case h0 | h1 | h2 | hx => exact sd wQ)) | ((with_reducible first | apply zA3 | apply zA4); (case h0 | h1 | hc => exact sd wQ)) | ((with_reducible apply zA2); (case h0 | h1 | h2 | hc => exact sd wQ)) | (with_reducible first | (apply cdA; constructor) | (apply gdA; constructor)) | ((with_reducible refine And.intro ?hw ?_); (case hw => exact sw wQ)) | with_reducible intro _)
   cases e0
   have c3 := need_e [40] (t :: l') (by simp; omega) en hg3
   simp only [List.tail_cons] at c3
   rcases then_no h3 with h4 | ⟨f4, l4, h4, h5⟩
   ·have cx := hx l' e p (by omega) (by omega) hGt h4
    unfold hpP at c1 c2 c3 cx ⊢
    rw [hcons] at c1 c2 c3 ⊢
    have wQ := And.intro @hlr (And.intro @hel @zAe); repeat' (first | with_reducible (apply swq; constructor) | simp only [go_sem, seval, zA1, pe54, q54, hlr, hpos, tk, hd1, List.length_cons] | simp (disch := omega) only [w64, w32, wu8, wu16, wu32, wu64] | ((with_reducible first | refine c_eff [0] [] (zAf c1 _) ?hs ?he ?hh ?_ | refine o_eff [0] [] (zAf c1 _) ?hs ?he ?hh ?_); (case hs => exact so); (case he | hh => exact sh wQ); try rintro _ _ ⟨rfl, rfl⟩) | ((with_reducible first | refine c_eff [0] [] (zAf c2 _) ?hs ?he ?hh ?_ | refine o_eff [0] [] (zAf c2 _) ?hs ?he ?hh ?_); (case hs => exact so); (case he | hh => exact sh wQ); try rintro _ _ ⟨rfl, rfl⟩) | ((with_reducible first | refine c_eff [0] [] (zAf c3 _) ?hs ?he ?hh ?_ | refine o_eff [0] [] (zAf c3 _) ?hs ?he ?hh ?_); (case hs => exact so); (case he | hh => exact sh wQ); try rintro _ _ ⟨rfl, rfl⟩) | ((with_reducible refine o_pan [0] [] (zBm cx _) ?hs ?he ?hh ?hk); (case hs => exact so); (case he | hh => exact sh wQ); (case hk => intro _ _ q; subst q; first | rfl | apply hPan | (simp [go_sem, seval, hlr, hel, zAe]; done))) | ((with_reducible apply zAp); (case he => rfl); (case hK | hc | hr | hV => exact sd wQ)) | ((with_reducible apply zAq); (case he => rfl); (case hV | hK | hr | hl => exact sd wQ)) | ((with_reducible apply zAs); (case he => rfl); (case hK | hc | hr => exact sd wQ)) | ((with_reducible apply zAr); (case he => rfl); (case hK | hc | hr | hx | hn => exact sd wQ)) | ((with_reducible first | apply s_bsl | apply t_bsl); (case he | hl | hc => exact sd wQ)) | ((with_reducible apply zA8); (case hx => exact sd wQ)) | ((with_reducible first | apply zA6 | apply zA7); (case h0 | h1 | hx => exact sd wQ)) | ((with_reducible apply zA5); (case h0 | h1 | h2 | hx => exact sd wQ)) | ((with_reducible first | apply zA3 | apply zA4); (case h0 | h1 | hc => exact sd wQ)) | ((with_reducible apply zA2); (case h0 | h1 | h2 | hc => exact sd wQ)) | (with_reducible first | (apply cdA; constructor) | (apply gdA; constructor)) | ((with_reducible refine And.intro ?hw ?_); (case hw => exact sw wQ)) | with_reducible intro _)
   obtain ⟨c4, q4, s4⟩ := hfo l' f4 l4 (by omega) hGt h4
   rcases need_no h5 with ⟨hn6, hf6⟩ | ⟨t6, l6, rfl, ⟨i6, hg6⟩, h6⟩
   ·have c6 := need_x [41] l4 (by omega) en e p hn6 hf6
    have hrn := fun β τ => rnL_F β τ f4.kids
    rw [F.d_eq] at c4
    unfold hpP at c1 c2 c3 c4 c6 ⊢
    rw [hcons] at c1 c2 c3 ⊢
    have wQ := And.intro @hlr (And.intro @hel (And.intro @zAe @hrn)); repeat' (first | with_reducible (apply swq; constructor) | simp only [go_sem, seval, zA1, pe54, q54, hlr, hpos, tk, hd1, List.length_cons] | simp (disch := omega) only [w64, w32, wu8, wu16, wu32, wu64] | ((with_reducible first | refine c_eff [0] [] (zAf c1 _) ?hs ?he ?hh ?_ | refine o_eff [0] [] (zAf c1 _) ?hs ?he ?hh ?_); (case hs => exact so); (case he | hh => exact sh wQ); try rintro _ _ ⟨rfl, rfl⟩) | ((with_reducible first | refine c_eff [0] [] (zAf c2 _) ?hs ?he ?hh ?_ | refine o_eff [0] [] (zAf c2 _) ?hs ?he ?hh ?_); (case hs => exact so); (case he | hh => exact sh wQ); try rintro _ _ ⟨rfl, rfl⟩) | ((with_reducible first | refine c_eff [0] [] (zAf c3 _) ?hs ?he ?hh ?_ | refine o_eff [0] [] (zAf c3 _) ?hs ?he ?hh ?_); (case hs => exact so); (case he | hh => exact sh wQ); try rintro _ _ ⟨rfl, rfl⟩) | ((with_reducible first | refine c_eff [0] [] (zAf c4 _) ?hs ?he ?hh ?_ | refine o_eff [0] [] (zAf c4 _) ?hs ?he ?hh ?_); (case hs => exact so); (case he | hh => exact sh wQ); try rintro _ _ ⟨rfl, rfl⟩) | ((with_reducible refine o_pan [0] [] (zBm c6 _) ?hs ?he ?hh ?hk); (case hs => exact so); (case he | hh => exact sh wQ); (case hk => intro _ _ q; subst q; first | rfl | apply hPan | (simp [go_sem, seval, hlr, hel, zAe, hrn]; done))) | ((with_reducible apply zAp); (case he => rfl); (case hK | hc | hr | hV => exact sd wQ)) | ((with_reducible apply zAq); (case he => rfl); (case hV | hK | hr | hl => exact sd wQ)) | ((with_reducible apply zAs); (case he => rfl); (case hK | hc | hr => exact sd wQ)) | ((with_reducible apply zAr); (case he => rfl); (case hK | hc | hr | hx | hn => exact sd wQ)) | ((with_reducible first | apply s_bsl | apply t_bsl); (case he | hl | hc => exact sd wQ)) | ((with_reducible apply zA8); (case hx => exact sd wQ)) | ((with_reducible first | apply zA6 | apply zA7); (case h0 | h1 | hx => exact sd wQ)) | ((with_reducible apply zA5); (case h0 | h1 | h2 | hx => exact sd wQ)) | ((with_reducible first | apply zA3 | apply zA4); (case h0 | h1 | hc => exact sd wQ)) | ((with_reducible apply zA2); (case h0 | h1 | h2 | hc => exact sd wQ)) | (with_reducible first | (apply cdA; constructor) | (apply gdA; constructor)) | ((with_reducible refine And.intro ?hw ?_); (case hw => exact sw wQ)) | with_reducible intro _)
   cases h6
theorem product_x {fo : List Tok → PR} {en : Int} {N K : Nat} (hfo : OpOk 33 fo en N) (hx : OpX 33 fo en N K) (hN : N ≤ 100000) : OpX 46 (prodP fo en) en N (K + 1) := by
 intro l e p hl hK hG h
 have c1 := chain_x (factor_e hfo hN) (factor_x hfo hx hN) hN 7 (by omega) (by omega) [42] [47] l e p hl hK hG h
 refine zCk (C := E46 1 0) (fn := Tryd.f46) Tryd.func46 (by kernel_rfl) (by kernel_rfl) (rc := c46) z46 (by kernel_rfl) rfl (by rw [show ([D.ptr 0 0] : List D).length = 1 from rfl]; decide) rfl rfl ?_ rfl (fun _ _ => trivial)
 rw [ie46]
 unfold c46
 have e3 : strs [[42], [47]] = [.str [42], .str [47]] := rfl
 rw [e3] at c1
 unfold hpP at c1 ⊢
 have wQ := @zAe; repeat' (first | with_reducible (apply swq; constructor) | simp only [go_sem, seval, zA1, pe46, q46] | ((with_reducible refine o_pan [0] [] (zBm c1 _) ?hs ?he ?hh ?hk); (case hs => exact so); (case he | hh => exact sh wQ); (case hk => intro _ _ q; subst q; first | rfl | apply hPan | (simp [go_sem, seval, zAe]; done))) | ((with_reducible apply s_bsl); (case he | hl | hc => exact sd wQ)) | with_reducible (apply cdA; constructor) | ((with_reducible refine And.intro ?hw ?_); (case hw => exact sw wQ)) | with_reducible intro _)
theorem sum_x {fo : List Tok → PR} {en : Int} {N K : Nat} (hfo : OpOk 33 fo en N) (hx : OpX 33 fo en N K) (hN : N ≤ 100000) : OpX 33 (sumP fo en) en N (K + 1) := by
 intro l e p hl hK hG h
 have c1 := chain_x (product_e hfo hN) (product_x hfo hx hN) hN 5 (by omega) (by omega) [43] [45] l e p hl hK hG h
 refine zCk (C := E33 1 0) (fn := Tryd.f33) Tryd.func33 (by kernel_rfl) (by kernel_rfl) (rc := c33) z33 (by kernel_rfl) rfl (by rw [show ([D.ptr 0 0] : List D).length = 1 from rfl]; decide) rfl rfl ?_ rfl (fun _ _ => trivial)
 rw [ie33]
 unfold c33
 have e3 : strs [[43], [45]] = [.str [43], .str [45]] := rfl
 rw [e3] at c1
 unfold hpP at c1 ⊢
 have wQ := @zAe; repeat' (first | with_reducible (apply swq; constructor) | simp only [go_sem, seval, zA1, pe33, q33] | ((with_reducible refine o_pan [0] [] (zBm c1 _) ?hs ?he ?hh ?hk); (case hs => exact so); (case he | hh => exact sh wQ); (case hk => intro _ _ q; subst q; first | rfl | apply hPan | (simp [go_sem, seval, zAe]; done))) | ((with_reducible apply s_bsl); (case he | hl | hc => exact sd wQ)) | with_reducible (apply cdA; constructor) | ((with_reducible refine And.intro ?hw ?_); (case hw => exact sw wQ)) | with_reducible intro _)
theorem form_x {en : Int} {N : Nat} (hN : N ≤ 100000) : ∀ k, OpX 33 (formP en k) en N k
 | 0 => fun l e p _ hK _ h => by omega
 | k + 1 => sum_x (form_e hN k) (form_x hN k) hN
end Go.Proofs.YtkjnhkoipgdfeaaDoor
end
section
set_option maxRecDepth 100000
set_option linter.unusedSimpArgs false
set_option linter.unusedVariables false
namespace Go.Proofs.YtkjnhkoipgdfeaaDoor
open Go GoV Go.RowKit
theorem reg32 {C : Cfg} {a b c d f : D} {e p : Int} {en : List D} (h0 : en[0]? = some (.ptr 0 0)) (h1 : en[1]? = some (.ptr 1 0)) (h2 : en[2]? = some (.ptr 2 0)) (h4 : en[4]? = some (.ptr 3 0)) :
 SWp C (.regD r32_0 r32_1) (fun x s' => x = .normal ∧ s'.hp = ⟨[.cells [.int .i64 0, .int .i64 0, .lit (.slice none 0 0)], .cells [.int .i64 e], .cells [.int .i64 p], .cells [.int .i64 e, .int .i64 p]], []⟩)
  ⟨en, [], ⟨[.cells [a, b, c], .cells [d], .cells [f], .cells [.int .i64 e, .int .i64 p]], []⟩⟩ := by
 obtain ⟨F, hF⟩ : ∃ F : (Nat → Bool) → Hp, F = fun E => (⟨[if E 5 then .cells [.int .i64 0, .int .i64 0, .lit (.slice none 0 0)] else .cells [a, b, c], if E 6 then .cells [.int .i64 e] else .cells [d], .cells [f], .cells [.int .i64 e, .int .i64 p]], []⟩ : Hp) := ⟨_, rfl⟩
 have still : ∀ i, i ≠ 5 → i ≠ 6 → Still F i := fun i h h' E _ => by
  have h5 : (5 == i) = false := by rw [beq_eq_false_iff_ne]; omega
  have h6 : (6 == i) = false := by rw [beq_eq_false_iff_ne]; omega
  simp [hF, h5, h6]
 refine zBx F (by simp [hF]) ?_
 refine y_q (ds := []) (.agg [.int .i64 0, .int .i64 0, .lit (.slice none 0 0)]) (by simp [go_sem]) (still _ (by decide) (by decide)) (fun _ => by simp [OcWp, zAa, isPan, opWp, fillL]) ?_
 refine y_q (ds := [.ptr 3 0]) (.ptr 3 0) (by simp [go_sem, h4]) (still _ (by decide) (by decide)) (fun _ => by simp [OcWp, zAa, isPan, opWp]) ?_
 refine y_c (ds := [.ptr 3 0]) (d := .int .i64 e) (by simp [go_sem]) (fun E hE => ?_) ?_
 ·rw [still 2 (by decide) (by decide) E hE]; simp [hF, OcWp, zAa, isPan, opWp, Blk.csq]
 refine y_q (ds := [.ptr 3 0]) (.ptr 3 1) (by simp [go_sem, h4]) (still _ (by decide) (by decide)) (fun _ => by simp [OcWp, zAa, isPan, opWp]) ?_
 refine y_c (ds := [.ptr 3 1]) (d := .int .i64 p) (by simp [go_sem]) (fun E hE => ?_) ?_
 ·rw [still 4 (by decide) (by decide) E hE]; simp [hF, OcWp, zAa, isPan, opWp, Blk.csq]
 refine y_c (ds := [.ptr 0 0, .agg [.int .i64 0, .int .i64 0, .lit (.slice none 0 0)]]) (d := .skip) (by simp [go_sem, h0]) (fun E hE => ?_) ?_
 ·have hE' : E 5 = false := hE
  simp [hF, OcWp, zAa, isPan, opWp, hE', Blk.csq, Blk.putc, D.iV, D.cells, setL]
 refine y_c (ds := [.ptr 1 0, .int .i64 e]) (d := .skip) (by simp [go_sem, h1]) (fun E hE => ?_) ?_
 ·have hE' : E 6 = false := hE
  simp [hF, OcWp, zAa, isPan, opWp, hE', Blk.csq, Blk.putc, D.iV, D.cells, setL]
 refine y_end (hp' := ⟨[.cells [.int .i64 0, .int .i64 0, .lit (.slice none 0 0)], .cells [.int .i64 e], .cells [f], .cells [.int .i64 e, .int .i64 p]], []⟩) (by simp [hF]) ?_
 simp only [go_sem, h0, h1, h2, h4]
 simp [go_sem, h0, h1, h2, h4, setL, D.iV, D.cells, St.done]
theorem zEy {C : Cfg} {w0 w : World} {B : Gh} {s : St} {a : Act} (h : Sim C w0 B s a w) {dst : Option Nat} {ds : Dst} (hd : zB5 C dst = some ds) {d : D} {v : Value} (hv : Rel w0 B d v) : Sim C w0 B (s.put ds d) (a.put dst v) w := by
 obtain ⟨G, hi, hb, q1, q2, q3, q4⟩ := id h
 exact h.put hd hi q4 (Rel.evo _ hi.evo hv)
section
variable {P : Program} {ops : Array Oper} {l : List Nat} {a : Act} {cs cs' : List Frame} {w w' : World} {o : Oper} {i : Nat} {v : Value} {dst : Option Nat}
theorem opsS_val {Q : Exit → Act → List Frame → World → Prop} (ho : ops[i]? = some o) (hg : o.guard = none) (hd : o.dst = dst) (hr : (execOp a.eval o).run P w = .ok (.value v) w) (h : wpOpsS P ops Q l (a.put dst v) cs w) : wpOpsS P ops Q (i :: l) a cs w := by
 subst hd
 have hw : Region.wanted o (yielded ops a.tmps) = true := by simp [Region.wanted, hg]
 simp only [wpOpsS, ho, hw, if_true, hr]; exact h
theorem opsS_rec {Q : Exit → Act → List Frame → World → Prop} (ho : ops[i]? = some o) (hg : o.guard = none) (hd : o.dst = dst) (hr : (execOp a.eval o).run P w = .ok .recover w) (hc : recoverD cs = some (v, cs')) (h : wpOpsS P ops Q l (a.put dst v) cs' w) : wpOpsS P ops Q (i :: l) a cs w := by
 subst hd
 have hw : Region.wanted o (yielded ops a.tmps) = true := by simp [Region.wanted, hg]
 simp only [wpOpsS, ho, hw, if_true, hr, hc]; exact h
theorem opsIn_val {Q : Exit → Act → World → Prop} (ho : ops[i]? = some o) (hg : o.guard = none) (hd : o.dst = dst) (hr : (o.semAt Fence.wide.round a.eval).run P w = .ok (.value v) w) (h : wpOpsIn Fence.wide 0 P ops Q l (a.put dst v) w) : wpOpsIn Fence.wide 0 P ops Q (i :: l) a w := by
 subst hd
 have hw : Region.wanted o (yielded ops a.tmps) = true := by simp [Region.wanted, hg]
 simp only [wpOpsIn, ho, hw, if_true, Oper.wpIn, hr]; exact ⟨fun _ _ => trivial, h⟩
theorem exec_assign {ρ : Operand → Value} {x : Operand} (h : o.op = .assign x) : (execOp ρ o).run P w = .ok (.value (ρ x)) w := by
 simp only [execOp, h]; rfl
theorem exec_move {ρ : Operand → Value} {x : Operand} (h : o.op = .move x) : (execOp ρ o).run P w = .ok (.value (ρ x)) w := by
 simp only [execOp, h]; rfl
theorem exec_neq {ρ : Operand → Value} {pv : Value} (h : o.op = .binOp .neq 20 (.tmp 6) (.const .nilIface) 20) (hx : ρ (.tmp 6) = .iface 62 pv) (hc : ρ (.const .nilIface) = .nilIface) : (execOp ρ o).run Tryd.prog w = .ok (.value (.bool true)) w := by
 simp only [execOp, h, hx, hc]; kernel_rfl
theorem exec_recover {ρ : Operand → Value} (h : o.op = .call { callee := .builtin .recover, args := #[], argTypes := #[] }) : (execOp ρ o).run P w = .ok .recover w := by
 simp only [execOp, h, resolve, Sem.run_bind, Sem.run_pure, Result.andThen_ok]; rfl
theorem exec_ta {ρ : Operand → Value} {x : Operand} (h : o.op = .typeAssert x 20 62 false) {y : Value} (hx : ρ x = .iface 62 y) : (execOp ρ o).run Tryd.prog w = .ok (.value y) w := by
 simp only [execOp, h, hx]; kernel_rfl
end
def condL : Code → Code
 | .cond _ x _ => x
 | c => c
noncomputable def K32 : Code := Tryd.f32.body.getD .skip
theorem hK32 : Tryd.f32.body = some (.seq (seqL K32) (.seq (seqL (seqR K32)) (.cond (.tmp 7) (.seq (seqL (condL (seqR (seqR K32)))) (seqR (condL (seqR (seqR K32))))) .skip))) := by kernel_rfl
theorem ops32a : ∃ ops o0 o1, seqL K32 = .region 0 ops false ∧ ops.size = 2 ∧ ops[0]? = some o0 ∧ ops[1]? = some o1 ∧ o0.op = .call { callee := .builtin .recover, args := #[], argTypes := #[] } ∧ o0.dst = some 5 ∧ o0.guard = none ∧
 o1.op = .assign (.tmp 5) ∧ o1.dst = some 3 ∧ o1.guard = none := ⟨_, _, _, rfl, rfl, rfl, rfl, rfl, rfl, rfl, rfl, rfl, rfl⟩
theorem ops32b : ∃ ops o0 o1, seqL (seqR K32) = .region 1 ops false ∧ ops.size = 2 ∧ ops[0]? = some o0 ∧ ops[1]? = some o1 ∧ o0.op = .move (.tmp 3) ∧ o0.dst = some 6 ∧ o0.guard = none ∧
 o1.op = .binOp .neq 20 (.tmp 6) (.const .nilIface) 20 ∧ o1.dst = some 7 ∧ o1.guard = none := ⟨_, _, _, rfl, rfl, rfl, rfl, rfl, rfl, rfl, rfl, rfl, rfl⟩
theorem ops32c : ∃ ops o0 o1, seqL (condL (seqR (seqR K32))) = .region 2 ops false ∧ ops.size = 4 ∧ ops[0]? = some o0 ∧ ops[1]? = some o1 ∧ o0.op = .move (.tmp 3) ∧ o0.dst = some 8 ∧ o0.guard = none ∧
 o1.op = .typeAssert (.tmp 8) 20 62 false ∧ o1.dst = some 9 ∧ o1.guard = none ∧ zBe (E32 3 0) ops [2, 3] = some [⟨.v 4, .newb [.int .i64 0, .int .i64 0], [], none⟩, ⟨.none, .st 2, [.v 4, .l 9], none⟩] := ⟨_, _, _, rfl, rfl, rfl, rfl, rfl, rfl, rfl, rfl, rfl, rfl, by kernel_rfl⟩
theorem zd32 : zAc (E32 3 0) (seqR (condL (seqR (seqR K32)))) = some (.regD r32_0 r32_1) := by kernel_rfl
theorem zDx {a : Act} {t : Nat} {v : Value} (h : t < a.tmps.size) : (a.put (some t) v).eval (.tmp t) = v := by
 simp [Act.eval, Act.put, h]
theorem eval_ne {a : Act} {t u : Nat} {v : Value} (h : u ≠ t) : (a.put (some u) v).eval (.tmp t) = a.eval (.tmp t) := by
 simp only [Act.eval, Act.put, Array.getD_eq_getD_getElem?, Array.getElem?_setIfInBounds]
 rw [if_neg h]
theorem no_pan {C : Cfg} {w0 : World} {B : Gh} {Q : Exit → Act → World → Prop} (h : ∀ d hp, ¬ C.M.pan d hp) : PQ C w0 B Q := fun a w ch _ hp => by
 obtain ⟨_, _, _, _, _, k, _⟩ := hp; exact absurd k (h _ _)
set_option maxHeartbeats 1000000 in
theorem panic32 {w5 : World} {G5 : Gh} {a b c d f : D} {e p : Int} {v x y z : Value} (hH : HeapRel w5 G5 ⟨[.cells [a, b, c], .cells [d], .cells [f]], []⟩) (hamb : M.amb w5 G5.own)
 (hv : Rel w5 G5 (probD e p) v) (hx : Rel w5 G5 (.ptr 0 0) x) (hy : Rel w5 G5 (.ptr 1 0) y) (hz : Rel w5 G5 (.ptr 2 0) z) :
 CallsD Tryd.prog 32 #[x, y, z] (.panicking [{ v, recovered := false }]) w5 fun e' u' w' => e' = .returned (.tuple #[]) ∧ u' = .panicking [{ v, recovered := true }] ∧
  ∃ G6, Inv w5 G5 ⟨[.cells [.int .i64 0, .int .i64 0, .lit (.slice none 0 0)], .cells [.int .i64 e], .cells [.int .i64 p], .cells [.int .i64 e, .int .i64 p]], []⟩ w' G6 := by
 have hsim := zD8 (C := E32 3 0) (fn := Tryd.f32) (by kernel_rfl) (args := [.ptr 0 0, .ptr 1 0, .ptr 2 0]) (hp := ⟨[.cells [a, b, c], .cells [d], .cells [f]], []⟩) (by rfl) (by decide) rfl rfl rfl hH (xs := [x, y, z]) (RelL.cons hx (RelL.cons hy (RelL.one hz)))
 rw [show St.init (E32 3 0) [.ptr 0 0, .ptr 1 0, .ptr 2 0] ⟨[.cells [a, b, c], .cells [d], .cells [f]], []⟩ = ⟨[.ptr 0 0, .ptr 1 0, .ptr 2 0, .u0, .u0, .u0], [], ⟨[.cells [a, b, c], .cells [d], .cells [f]], []⟩⟩ from ie32] at hsim
 obtain ⟨pv, rfl, hpv⟩ : ∃ pv, v = .iface 62 pv ∧ Rel w5 G5 (.agg [.int .i64 e, .int .i64 p]) pv := by
  simp only [probD, Rel] at hv ⊢; exact hv
 refine callsD_of_wpS Tryd.func32 hK32 fun c₀ cs hu => ?_
 obtain ⟨opsA, oa0, oa1, rA, sA, a0, a1, pa0, da0, ga0, pa1, da1, ga1⟩ := ops32a
 obtain ⟨opsB, ob0, ob1, rB, sB, b0, b1, pb0, db0, gb0, pb1, db1, gb1⟩ := ops32b
 obtain ⟨opsC, oc0, oc1, rC, sC, c0, c1, pc0, dc0, gc0, pc1, dc1, gc1, hrs⟩ := ops32c
 rw [rA, rB, rC]
 have hd := zd32
 generalize seqR (condL (seqR (seqR K32))) = XD at *
 have h15 : (#[x, y, z] ++ Array.replicate (Tryd.f32.ntmps - (#[x, y, z] : Array Value).size) Go.undef).size = 15 := by kernel_rfl
 generalize hA0 : ({ tmps := #[x, y, z] ++ Array.replicate (Tryd.f32.ntmps - (#[x, y, z] : Array Value).size) Go.undef, defers := [] } : Act) = A0 at *
 have z0 : A0.tmps.size = 15 := by rw [← hA0]; exact h15
 have p1 := zEy (dst := some 5) (ds := .l 5) hsim (by kernel_rfl) hv
 have p2 := zEy (dst := some 3) (ds := .v 3) p1 (by kernel_rfl) hv
 have p3 := zEy (dst := some 6) (ds := .l 6) p2 (by kernel_rfl) hv
 have p4 := zEy (d := .bool true) (v := .bool true) (dst := some 7) (ds := .v 5) p3 (by kernel_rfl) rfl
 have p5 := zEy (dst := some 8) (ds := .l 8) p4 (by kernel_rfl) hv
 have p6 := zEy (dst := some 9) (ds := .l 9) p5 (by kernel_rfl) hpv
 have z1 : (A0.put (some 5) (.iface 62 pv)).tmps.size = 15 := by rw [zBc]; exact z0
 have z2 : ((A0.put (some 5) (.iface 62 pv)).put (some 3) (.iface 62 pv)).tmps.size = 15 := by rw [zBc]; exact z1
 have z3 : (((A0.put (some 5) (.iface 62 pv)).put (some 3) (.iface 62 pv)).put (some 6) (.iface 62 pv)).tmps.size = 15 := by rw [zBc]; exact z2
 have z4 : ((((A0.put (some 5) (.iface 62 pv)).put (some 3) (.iface 62 pv)).put (some 6) (.iface 62 pv)).put (some 7) (.bool true)).tmps.size = 15 := by rw [zBc]; exact z3
 refine wpS_seq (wpS_region ?_)
 rw [sA]
 show wpOpsS Tryd.prog opsA _ [0, 1] _ _ _
 refine opsS_rec (v := .iface 62 pv) (cs' := { c₀ with mode := .panicking [{ v := .iface 62 pv, recovered := true }] } :: cs) a0 ga0 da0 (exec_recover pa0) (by simp only [recoverD, hu]) ?_
 refine opsS_val (v := .iface 62 pv) a1 ga1 da1 (by rw [exec_assign pa1, zDx (by omega)]) ?_
 simp only [wpOpsS, Exit.thenS]
 refine wpS_seq (wpS_region ?_)
 rw [sB]
 show wpOpsS Tryd.prog opsB _ [0, 1] _ _ _
 refine opsS_val (v := .iface 62 pv) b0 gb0 db0 (by rw [exec_move pb0, zDx (by omega)]) ?_
 refine opsS_val (v := .bool true) b1 gb1 db1 (exec_neq pb1 (zDx (by omega)) rfl) ?_
 simp only [wpOpsS, Exit.thenS]
 refine wpS_cond (t := true) (zDx (by omega)) ?_
 simp only [if_true]
 refine wpS_of_wp ((wpIn_wide (n := 0)).1 ?_)
 refine wpIn_seq (wpIn_region ?_)
 have hst : (E32 3 0).M.start w5 G5 := ⟨hamb, trivial⟩
 rw [sC]
 show wpOpsIn Fence.wide 0 Tryd.prog opsC _ [0, 1, 2, 3] _ _
 have v3 : ((((A0.put (some 5) (.iface 62 pv)).put (some 3) (.iface 62 pv)).put (some 6) (.iface 62 pv)).put (some 7) (.bool true)).eval (.tmp 3) = .iface 62 pv := by
  rw [eval_ne (by decide), eval_ne (by decide), zDx (by omega)]
 refine opsIn_val (v := .iface 62 pv) c0 gc0 dc0 ?_ ?_
 ·show (execOp _ oc0).run _ _ = _
  rw [exec_move pc0, v3]
 refine opsIn_val (v := pv) c1 gc1 dc1 ?_ ?_
 ·show (execOp _ oc1).run _ _ = _
  exact exec_ta pc1 (zDx (by omega))
 have hpan : ∀ d hp, ¬ (E32 3 0).M.pan d hp := fun _ _ h => h
 refine zF3 (ro := none) (C := E32 3 0) ⟨hst, no_pan hpan⟩ (K := fun s' => s' = ⟨[.ptr 0 0, .ptr 1 0, .ptr 2 0, probD e p, .ptr 3 0, .bool true], s'.scr, ⟨[.cells [a, b, c], .cells [d], .cells [f], .cells [.int .i64 e, .int .i64 p]], []⟩⟩) (fun s a' w' hk hs => ?_) [2, 3] _ _ _ _ hrs ?_ p6
 ·simp only [Exit.then]
  rw [hk] at hs
  have hs' := zEd _ _ _ _ hs
  have hrun := (reg32 (C := E32 3 0) (a := a) (b := b) (c := c) (d := d) (f := f) (e := e) (p := p) (en := [.ptr 0 0, .ptr 1 0, .ptr 2 0, probD e p, .ptr 3 0, .bool true]) rfl rfl rfl rfl).run XD hd w5 G5 hst a' w' hs' none
  refine wpIn_mono hrun fun e' a2 w2 hl => ?_
  cases e' <;> simp only [Lift] at hl ⊢
  case panic => obtain ⟨_, _, _, _, _, _, k, _⟩ := hl; exact absurd k (hpan _ _)
  case exit => obtain ⟨_, _, q, _⟩ := hl; cases q
  case ret => obtain ⟨_, _, q, _⟩ := hl; cases q
  case normal =>
   obtain ⟨s2, ⟨G6, k1, k2, k3, k4, k5, k6⟩, _, k7⟩ := hl
   rw [k7] at k1
   refine ⟨k4, _, rfl, .tuple #[], ?_, rfl, rfl, G6, k1⟩
   kernel_rfl
 ·simp [go_sem, St.put]
end Go.Proofs.YtkjnhkoipgdfeaaDoor
end
section
set_option maxRecDepth 100000
set_option linter.unusedSimpArgs false
set_option linter.unusedVariables false
namespace Go.Proofs.YtkjnhkoipgdfeaaDoor
open Go GoV Go.RowKit
theorem ze13 : zAc (E13 3 0) (seqR (seqR (seqR (seqR K13)))) = some cR13 := by kernel_rfl
theorem zn13 : noWC [2, 3, 4] (seqR (seqR (seqR (seqR K13)))) = true := by kernel_rfl
set_option maxHeartbeats 1000000 in
theorem parse_run2 (s : Tx) {l : List Tok} (hlex : Pur M 27 [.str s] (.tup [.slice (tokL l) .no, .int .i64 0, .int .i64 0])) {d : D} {PR : D → Hp → Prop}
 (hPR : ∀ d' hp, PR d' hp → ∃ e p, d' = probD e p ∧ (∃ a b c x y, hp.H.take 3 = [.cells [a, b, c], .cells [x], .cells [y]]) ∧ d = .tup [.agg [.int .i64 0, .int .i64 0, .lit (.slice none 0 0)], .int .i64 e, .int .i64 p])
 (hR : ∀ (dd : Deferred) (a0 : Act), KWp ((defC (E13 3 0) dd).pans PR) [2, 3, 4] a0 cR13 (fun e s1 => (match e with | .exit _ => False | _ => True) ∧ rrsWp q13 s1 fun ds => D.closed (zAn ds) = true ∧ (zAn ds).er = d) (S13 s l)) : Pur M 13 [.str s] d := by
 have hcl := zFh l
 have her := tokL_er l
 have s1 : SWp (E13 0 0) (.reg r13_0) (fun e s' => e = .normal ∧ s' = ⟨[.str s, .ptr 0 0, .ptr 1 0, .ptr 2 0, .u0, .u0, .u0, .u0, .u0, .u0, .u0], [], ⟨[.cells [.int .i64 0, .int .i64 0, .lit (.slice none 0 0)], .cells [.int .i64 0], .cells [.int .i64 0]], []⟩⟩) (St.init (E13 0 0) [.str s] ⟨[], []⟩) := by
  rw [ie13]
  have wQ := tw; repeat' (first | with_reducible (apply swq; constructor) | simp only [go_sem, seval, pe13, q13] | with_reducible (apply cdA; constructor) | ((with_reducible refine And.intro ?hw ?_); (case hw => exact sw wQ)) | with_reducible intro _)
  all_goals first | exact ⟨rfl, rfl⟩ | rfl | trivial
 have s2 : SWp (E13 0 0) (.reg r13_1) (fun e s' => e = .normal ∧ s' = ⟨[.str s, .ptr 0 0, .ptr 1 0, .ptr 2 0, .slice (tokL l) .no, .int .i64 0, .int .i64 0, .u0, .u0, .u0, .u0], [], ⟨[.cells [.int .i64 0, .int .i64 0, .lit (.slice none 0 0)], .cells [.int .i64 0], .cells [.int .i64 0]], []⟩⟩)
  ⟨[.str s, .ptr 0 0, .ptr 1 0, .ptr 2 0, .u0, .u0, .u0, .u0, .u0, .u0, .u0], [], ⟨[.cells [.int .i64 0, .int .i64 0, .lit (.slice none 0 0)], .cells [.int .i64 0], .cells [.int .i64 0]], []⟩⟩ := by
  have wQ := And.intro @hcl @her; repeat' (first | with_reducible (apply swq; constructor) | simp only [go_sem, seval, pe13, q13] | ((with_reducible refine zAb (hlex) ?he ?hc ?_); (case he | hc => exact sc wQ)) | with_reducible (apply cdA; constructor) | ((with_reducible refine And.intro ?hw ?_); (case hw => exact sw wQ)) | with_reducible intro _)
  all_goals first | exact ⟨rfl, rfl⟩ | rfl | trivial
 have s3 : SWp (E13 0 0) (.seq (.reg r13_2) (.cond (.v 8) (.seq (.reg r13_3) .ret) .skip)) (fun e s' => e = .normal ∧ s' = S13 s l)
  ⟨[.str s, .ptr 0 0, .ptr 1 0, .ptr 2 0, .slice (tokL l) .no, .int .i64 0, .int .i64 0, .u0, .u0, .u0, .u0], [], ⟨[.cells [.int .i64 0, .int .i64 0, .lit (.slice none 0 0)], .cells [.int .i64 0], .cells [.int .i64 0]], []⟩⟩ := by
  have wQ := tw; repeat' (first | with_reducible (apply swq; constructor) | simp only [go_sem, seval, pe13, q13] | with_reducible (apply cdA; constructor) | ((with_reducible refine And.intro ?hw ?_); (case hw => exact sw wQ)) | with_reducible intro _)
  all_goals first | exact ⟨rfl, rfl⟩ | rfl | trivial
 have hP : (E13 0 0).P = Tryd.prog := rfl
 refine zDs ⟨⟨Tryd.f13, Tryd.func13, by kernel_rfl, rfl⟩, fun w g xs hA hH hargs => ?_⟩
 refine calls_of_wp_defers Tryd.func13 hK13 ((wpIn_wide (n := 0)).1 ?_)
 have hsim := zD8 (C := E13 0 0) (fn := Tryd.f13) (by kernel_rfl) (args := [.str s]) (hp := ⟨[], []⟩) (by rfl) (by rw [show ([D.str s] : List D).length = 1 from rfl]; decide) rfl rfl rfl hH hargs
 have hstart : (E13 0 0).M.start w g := ⟨hA, trivial⟩
 have hpan : ∀ d hp, ¬ (E13 0 0).M.pan d hp := fun _ _ h => h
 refine wpIn_seq (wpIn_mono (zBy s1 za13 hpan hstart hsim) fun e a1 w1 hl => ?_)
 obtain ⟨rfl, hl⟩ := hl
 simp only [Exit.then]
 refine wpIn_seq (wpIn_mono (zBy s2 zb13 hpan hstart hl) fun e a2 w2 hl => ?_)
 obtain ⟨rfl, hl⟩ := hl
 simp only [Exit.then]
 refine wpIn_seq (wpIn_mono (zBy s3 zc13 hpan hstart hl) fun e a3 w3 hl => ?_)
 obtain ⟨rfl, hl⟩ := hl
 simp only [Exit.then]
 obtain ⟨ops, o0, o1, hr4, h0, h1, hsz, p0, p1, p2, p3, p4, p5⟩ := ops13
 obtain ⟨G, i0, ib, i1, i2, i3, i4⟩ := hl
 have e1 := i4 2
 have e2 := i4 3
 have e3 := i4 4
 refine wpIn_seq ?_
 rw [hr4]
 have hev : ∀ t, a3.eval (.tmp t) = a3.tmps.getD t Go.undef := fun t => rfl
 obtain ⟨dd, hdd⟩ : ∃ dd : Deferred, dd = { target := .fn (.func 32) #[a3.tmps.getD 2 Go.undef, a3.tmps.getD 3 Go.undef, a3.tmps.getD 4 Go.undef], args := #[] } := ⟨_, rfl⟩
 have hreg : (Code.region 4 ops false).wpIn Fence.wide 0 Tryd.prog (fun e a' w' => e = .normal ∧ w' = w3 ∧ a' = { tmps := a3.tmps.setIfInBounds 20 (.func (.func 32) #[] #[a3.tmps.getD 2 Go.undef, a3.tmps.getD 3 Go.undef, a3.tmps.getD 4 Go.undef]), defers := [dd] }) a3 w3 := by
  refine (wpIn_wide (n := 0)).2 (wp_region ?_)
  rw [hsz]
  show wpOps Tryd.prog ops _ [0, 1] a3 w3
  have r0 : (execOp a3.eval o0).run Tryd.prog w3 = .ok (.value (.func (.func 32) #[] #[a3.tmps.getD 2 Go.undef, a3.tmps.getD 3 Go.undef, a3.tmps.getD 4 Go.undef])) w3 := by
   have hmf : ∀ (fn : Fn) (first cap : Array Value) (w : World), (Instr.makeFunc fn first cap).run Tryd.prog w = .ok (.func fn first cap) w := fun _ _ _ _ => rfl
   simp only [execOp, p0, Sem.run_bind, hmf, Result.andThen_ok, Sem.run_pure]
   simp [Act.eval]
  simp only [wpOps, h0, h1, Region.wanted, p2, p5, if_true]
  refine .inl ?_
  simp only [Oper.wp, r0, Oper.upon_value]
  have hsz20 : 20 < a3.tmps.size := by rw [i1]; decide
  have e20 : (a3.put o0.dst (.func (.func 32) #[] #[a3.tmps.getD 2 Go.undef, a3.tmps.getD 3 Go.undef, a3.tmps.getD 4 Go.undef])).eval (.tmp 20) = .func (.func 32) #[] #[a3.tmps.getD 2 Go.undef, a3.tmps.getD 3 Go.undef, a3.tmps.getD 4 Go.undef] := by
   rw [p1]; simp [Act.eval, Act.put, hsz20]
  have r1 : (execOp (a3.put o0.dst (.func (.func 32) #[] #[a3.tmps.getD 2 Go.undef, a3.tmps.getD 3 Go.undef, a3.tmps.getD 4 Go.undef])).eval o1).run Tryd.prog w3 = .ok (.defer dd) w3 := by
   simp only [execOp, p3, resolve, e20, hdd, Sem.run_bind, Sem.run_pure, Result.andThen_ok]
   simp [Deferred.ofValue, Sem.run_pure]
  refine .inl ?_
  rw [r1, Oper.upon_defer, p4, p1]
  refine ⟨?_, ?_, ?_⟩
  ·trivial
  ·first | rfl | trivial
  ·simp [Act.put, i2, E13]
 refine wpIn_mono hreg fun e a4 w4 hq => ?_
 obtain ⟨rfl, rfl, rfl⟩ := hq
 simp only [Exit.then]
 have hsim4 : Sim (defC (E13 0 0) dd) w g (S13 s l) { tmps := a3.tmps.setIfInBounds 20 (.func (.func 32) #[] #[a3.tmps.getD 2 Go.undef, a3.tmps.getD 3 Go.undef, a3.tmps.getD 4 Go.undef]), defers := [dd] } w4 := by
  refine ⟨G, i0, ib, (by rw [Array.size_setIfInBounds]; exact i1), rfl, i3, fun t => ?_⟩
  by_cases ht : t = 20
  ·subst ht
   have : (S13 s l).slot (defC (E13 0 0) dd).pers 20 = .u0 := rfl
   rw [this]; simp [Rel]
  ·have := i4 t
   rw [show (a3.tmps.setIfInBounds 20 (.func (.func 32) #[] #[a3.tmps.getD 2 Go.undef, a3.tmps.getD 3 Go.undef, a3.tmps.getD 4 Go.undef])).getD t Go.undef = a3.tmps.getD t Go.undef by
    simp only [Array.getD_eq_getD_getElem?, Array.getElem?_setIfInBounds]
    rw [if_neg (fun e => ht e.symm)]]
   exact this
 obtain ⟨G4, i40, i4b, i41, i42, i43, i44⟩ := id hsim4
 have hr3 : G4.r.length = 3 := i40.heap.len.symm
 have ht3 : G4.tk.length = 0 := i40.heap.lent.symm
 have hamb4 : M.amb w4 G4.own := M.up _ _ _ _ hA i40.keeps fun n hn => i40.new n hn
 have hst4 : ((defC (E13 3 0) dd).pans PR).M.start w4 G4 := ⟨hamb4, trivial⟩
 obtain ⟨a4, ha4⟩ : ∃ a4 : Act, a4 = { tmps := a3.tmps.setIfInBounds 20 (.func (.func 32) #[] #[a3.tmps.getD 2 Go.undef, a3.tmps.getD 3 Go.undef, a3.tmps.getD 4 Go.undef]), defers := [dd] } := ⟨_, rfl⟩
 have hsim5 : Sim ((defC (E13 3 0) dd).pans PR) w4 G4 (S13 s l) a4 w4 := by
  rw [ha4]
  exact ⟨G4, Inv.refl' i40.heap, ⟨hr3, ht3⟩, i41, rfl, i43, i44⟩
 rw [← ha4]
 refine wpIn_mono ((hR dd a4).run _ (zCp ze13 rfl rfl rfl) zn13 w4 G4 hst4 _ w4 hsim5 (fun _ _ => rfl) none) fun e a5 w5 hl => ?_
 obtain ⟨hl, hag⟩ := hl
 have g2 : ∀ t, t ≠ 20 → a4.tmps.getD t Go.undef = a3.tmps.getD t Go.undef := fun t ht => by
  rw [ha4]
  simp only [Array.getD_eq_getD_getElem?, Array.getElem?_setIfInBounds]
  rw [if_neg (fun e => ht e.symm)]
 have fin : ∀ s1, Sim ((defC (E13 3 0) dd).pans PR) w4 G4 s1 a5 w5 → (rrsWp q13 s1 fun ds => D.closed (zAn ds) = true ∧ (zAn ds).er = d) → Leaves Tryd.prog Tryd.f13 a5.tmps (Post w g fun d' _ => d'.closed = true ∧ d'.er = d) a5.defers .returning w5 := by
  intro s1 hs hrr
  obtain ⟨G5, j0, jb, j1, j2, j3, j4⟩ := hs
  have j2' : a5.defers = [dd] := j2
  rw [j2', hdd]
  refine leaves_cons (f := 32) (args := #[a3.tmps.getD 2 Go.undef, a3.tmps.getD 3 Go.undef, a3.tmps.getD 4 Go.undef]) (by simp) (by simp [go_sem]) ?_
  refine (idle32 _ _ _ _).mono ?_
  rintro e u' w'' ⟨rfl, rfl, rfl⟩
  simp only [Leaves, settle]
  obtain ⟨ds, v, k1, k4, k5⟩ := zCn (C := (defC (E13 3 0) dd).pans PR) (a := a5) (fn := Tryd.f13) j0 j4 (rs := q13) (by kernel_rfl) hrr
  exact ⟨v, k5, v, _, _, G5, rfl, k1, i40.join j0, k4⟩
 cases e <;> simp only [Lift, bodyPostD] at hl ⊢
 case normal => obtain ⟨s1, h1, _, h2⟩ := hl; exact fin s1 h1 h2
 case exit => obtain ⟨s1, h1, h3, h2⟩ := hl; exact h3.elim
 case ret => obtain ⟨s1, h1, _, h2⟩ := hl; exact fin s1 h1 h2
 case panic ch =>
  obtain ⟨hdf, v, d', hp', G', hch, hpan', hi, hv⟩ := hl
  cases hch
  have hag := hag (by simp)
  have hdf' : a5.defers = [dd] := hdf
  obtain ⟨e, p, rfl, ⟨a, b, c, x, y, hH3⟩, rfl⟩ := hPR _ _ hpan'
  show Leaves Tryd.prog Tryd.f13 a5.tmps _ a5.defers _ w5
  rw [hdf', hdd]
  refine leaves_cons (f := 32) (args := #[a3.tmps.getD 2 Go.undef, a3.tmps.getD 3 Go.undef, a3.tmps.getD 4 Go.undef]) (by simp) (by simp [go_sem]) ?_
  have hi' := hi.cut 3 0 (by rw [hr3]; exact Nat.le_refl _) (by rw [ht3]; exact Nat.le_refl _)
  have hcut : hp'.cut 3 0 = ⟨[.cells [a.rn (cutF 3) (cutF 0), b.rn (cutF 3) (cutF 0), c.rn (cutF 3) (cutF 0)], .cells [x.rn (cutF 3) (cutF 0)], .cells [y.rn (cutF 3) (cutF 0)]], []⟩ := by
   simp [Hp.cut, hH3, Blk.rnL, Blk.rn, D.rnL, Tv.rnL]
  rw [hcut] at hi'
  have hv' : Rel w5 (G'.cut 3 0) (probD e p) v := by
   have := Rel.rn _ (Ren.cut G' 3 0) hv
   simpa [probD, D.rn, D.rnL] using this
  have hamb5 : M.amb w5 (G'.cut 3 0).own := M.up _ _ _ _ hamb4 hi'.keeps fun n hn => hi'.new n hn
  have r2 : Rel w4 G4 (.ptr 0 0) (a3.tmps.getD 2 Go.undef) := by have := i44 2; rw [← ha4, g2 2 (by decide)] at this; exact this
  have r3 : Rel w4 G4 (.ptr 1 0) (a3.tmps.getD 3 Go.undef) := by have := i44 3; rw [← ha4, g2 3 (by decide)] at this; exact this
  have r4 : Rel w4 G4 (.ptr 2 0) (a3.tmps.getD 4 Go.undef) := by have := i44 4; rw [← ha4, g2 4 (by decide)] at this; exact this
  refine (panic32 hi'.heap hamb5 hv' (Rel.evo _ hi'.evo r2) (Rel.evo _ hi'.evo r3) (Rel.evo _ hi'.evo r4)).mono ?_
  rintro e' u' w'' ⟨rfl, rfl, G6, k6⟩
  simp only [Leaves, settle, List.dropWhile]
  have k7 := hi'.join k6
  have k8 := i40.join k7
  obtain ⟨sR, hsR⟩ : ∃ sR : St, sR = ⟨[.u0, .ptr 0 0, .ptr 1 0, .ptr 2 0, .u0, .u0, .u0, .u0, .u0, .u0, .u0], [], ⟨[.cells [.int .i64 0, .int .i64 0, .lit (.slice none 0 0)], .cells [.int .i64 e], .cells [.int .i64 p], .cells [.int .i64 e, .int .i64 p]], []⟩⟩ := ⟨_, rfl⟩
  have hag2 := fun t (ht : t ∈ [2, 3, 4]) => hag t ht
  have hsl : ∀ t, Rel w'' G6 (sR.slot (E13 3 0).pers t) (a5.tmps.getD t Go.undef) := by
   intro t
   by_cases h2 : t = 2
   ·subst h2
    rw [hag2 2 (by simp), g2 2 (by decide), hsR]
    exact Rel.evo _ k7.evo r2
   by_cases h3 : t = 3
   ·subst h3
    rw [hag2 3 (by simp), g2 3 (by decide), hsR]
    exact Rel.evo _ k7.evo r3
   by_cases h4 : t = 4
   ·subst h4
    rw [hag2 4 (by simp), g2 4 (by decide), hsR]
    exact Rel.evo _ k7.evo r4
   have hu : sR.slot (E13 3 0).pers t = .u0 := by
    unfold St.slot
    cases hi : idx t (E13 3 0).pers with
    | none => rw [hsR]; rfl
    | some i =>
      have hj := zCi hi
      rw [hsR]
      rcases i with _ | _ | _ | _ | i
      ·rfl
      ·exact absurd (Option.some.inj hj).symm h2
      ·exact absurd (Option.some.inj hj).symm h3
      ·exact absurd (Option.some.inj hj).symm h4
      ·rcases i with _ | _ | _ | _ | _ | _ | _ | i <;> rfl
   rw [hu]; simp [Rel]
  obtain ⟨ds, v, k1, k4, k5⟩ := zCn (C := E13 3 0) (a := a5) (fn := Tryd.f13) (s := sR) (by rw [hsR]; exact k6) hsl (rs := q13) (K := fun ds => D.closed (zAn ds) = true ∧ (zAn ds).er = .tup [.agg [.int .i64 0, .int .i64 0, .lit (.slice none 0 0)], .int .i64 e, .int .i64 p]) (by kernel_rfl) (by rw [hsR]; simp [go_sem, q13, rrsWp, D.closed, D.cL, D.er, D.erL])
  exact ⟨v, k5, v, _, _, G6, rfl, k1, k8, k4⟩
end Go.Proofs.YtkjnhkoipgdfeaaDoor
end
section
set_option maxRecDepth 100000
set_option linter.unusedSimpArgs false
set_option linter.unusedVariables false
namespace Go.Proofs.YtkjnhkoipgdfeaaDoor
open Go GoV Go.RowKit
@[reducible] def zD (e p : Int) : D := .tup [.agg [.int .i64 0, .int .i64 0, .lit (.slice none 0 0)], .int .i64 e, .int .i64 p]
def PRp (e p : Int) : D → Hp → Prop := fun d' hp => d' = probD e p ∧ ∃ a b c x y, hp.H.take 3 = [.cells [a, b, c], .cells [x], .cells [y]]
theorem PRp_ok {e p : Int} : ∀ d' hp, PRp e p d' hp → ∃ e' p', d' = probD e' p' ∧ (∃ a b c x y, hp.H.take 3 = [.cells [a, b, c], .cells [x], .cells [y]]) ∧ zD e p = .tup [.agg [.int .i64 0, .int .i64 0, .lit (.slice none 0 0)], .int .i64 e', .int .i64 p'] :=
 fun d' hp h => ⟨e, p, h.1, h.2, rfl⟩
theorem PRp_back {e p : Int} {hp : Hp} {a b c x y : D} (h : hp.H.take 3 = [.cells [a, b, c], .cells [x], .cells [y]]) (bl tl : List Nat) (hb : ∀ k ∈ bl, 3 ≤ k) (hp1 : Hp) : PRp e p (probD e p) (hp.back bl tl hp1) := by
 refine ⟨rfl, a, b, c, x, y, ?_⟩
 have hl : 3 ≤ hp.H.length := by
  have := congrArg List.length h
  simp at this; omega
 rw [back_take hb hl, h]
set_option maxHeartbeats 1000000 in
theorem parse_no (s : Tx) (hs : s.length ≤ 4999) (hq : zEb s) {l : List Tok} (hl : lexP s = (l, 0, 0)) (hll : l.length ≤ 5000) (hG : GoodT l) {e p : Int} (hp : formP s.length (l.length + 1) l = .no e p) : Pur M 13 [.str s] (zD e p) := by
 have hlex := lex_p s hs hq
 rw [hl] at hlex
 refine parse_run2 s hlex PRp_ok fun dd a0 => ?_
 unfold cR13
 have c1 := form_x (en := s.length) (N := 5000) (by omega) (l.length + 1) l e p hll (by omega) hG hp
 have hPan : ∀ (a b c x y : D) (B : Blk) (hp1 : Hp), PRp e p (probD e p) (Hp.back ⟨[.cells [a, b, c], .cells [x], .cells [y], B], []⟩ [3] [] hp1) := fun a b c x y B hp1 => PRp_back rfl _ _ (by simp) _
 unfold hpP at c1
 have hcl := zFh l
 have wQ := @zAe; repeat' (first | (with_reducible first | apply kwp_seq | apply kwp_reg | apply kwp_ret | apply kwp_skip | apply kwp_cd) | simp only [go_sem, seval, zA1, def_M, pe13, q13, e_kcdT, e_kcdF] | ((with_reducible refine o_pan [3] [] (zBm c1 _) ?hs ?he ?hh ?hk); (case hs => exact so); (case he | hh => exact sh wQ); (case hk => intro _ _ q; subst q; first | rfl | apply hPan | (simp [go_sem, seval, zAe]; done))) | with_reducible (apply cdA; constructor) | ((with_reducible refine And.intro ?hw ?_); (case hw => exact sw wQ)) | with_reducible intro _)
set_option maxHeartbeats 1000000 in
theorem parse_more (s : Tx) (hs : s.length ≤ 4999) (hq : zEb s) {l : List Tok} (hl : lexP s = (l, 0, 0)) (hll : l.length ≤ 5000) (hG : GoodT l) {f : F} {t : Tok} {r : List Tok} (hp : formP s.length (l.length + 1) l = .ok f (t :: r)) : Pur M 13 [.str s] (zD 8 t.pos) := by
 have hlex := lex_p s hs hq
 rw [hl] at hlex
 refine parse_run2 s hlex PRp_ok fun dd a0 => ?_
 unfold cR13
 obtain ⟨c1, hlt, _⟩ := form_e (en := s.length) (N := 5000) (by omega) (l.length + 1) l f (t :: r) hll hG hp
 have c2 := fail_x (t :: r) (by simp at hlt ⊢; omega) s.length 8 t.pos rfl
 have hPan : ∀ (a b c x y : D) (B : Blk) (hp1 : Hp), PRp 8 t.pos (probD 8 t.pos) (Hp.back ⟨[.cells [a, b, c], .cells [x], .cells [y], B], []⟩ [3] [] hp1) := fun a b c x y B hp1 => PRp_back rfl _ _ (by simp) _
 have hcl := zFh l
 have hck := zAg f.kids
 have hek := erL_F f.kids
 have hrn := fun β τ => rnL_F β τ f.kids
 have hlr := zEu r
 have hd : decide (((r.length + 1 : Nat) : Int) > 0) = true := by simp only [decide_eq_true_eq]; omega
 have hcons := zEf t r
 rw [F.d_eq] at c1
 unfold hpP at c1 c2
 rw [hcons] at c1 c2
 have wQ := And.intro @zAe (And.intro @hrn (And.intro @hck (And.intro @hek @hlr))); repeat' (first | (with_reducible first | apply kwp_seq | apply kwp_reg | apply kwp_ret | apply kwp_skip | apply kwp_cd) | simp only [go_sem, seval, zA1, def_M, pe13, q13, hlr, hd, List.length_cons, e_kcdT, e_kcdF] | ((with_reducible refine o_eff [3] [] (zAf c1 _) ?hs ?he ?hh ?_); (case hs => exact so); (case he | hh => exact sh wQ); rintro _ _ ⟨rfl, rfl⟩) | ((with_reducible refine o_pan [3] [] (zBm c2 _) ?hs ?he ?hh ?hk); (case hs => exact so); (case he | hh => exact sh wQ); (case hk => intro _ _ q; subst q; first | rfl | apply hPan | (simp [go_sem, seval, zAe, hrn, hck, hek, hlr]; done))) | with_reducible (apply cdA; constructor) | ((with_reducible refine And.intro ?hw ?_); (case hw => exact sw wQ)) | with_reducible intro _)
set_option maxHeartbeats 1000000 in
theorem parse_lim (s : Tx) (hs : s.length ≤ 4999) (hq : zEb s) {l : List Tok} (hl : lexP s = (l, 0, 0)) (hll : l.length ≤ 5000) (hG : GoodT l) {f : F} (hp : formP s.length (l.length + 1) l = .ok f []) (hn : 60 < f.nodes) : Pur M 13 [.str s] (zD 7 0) := by
 have hlex := lex_p s hs hq
 rw [hl] at hlex
 refine parse_run s hlex fun dd => ?_
 unfold cR13
 obtain ⟨c1, _, _⟩ := form_e (en := s.length) (N := 5000) (by omega) (l.length + 1) l f [] hll hG hp
 have c2 := nodes_p f.nodes f (Nat.le_refl _) 60 (by omega)
 rw [show min f.nodes (60 + 1) = 61 by omega] at c2
 have hck := zAg f.kids
 have hek := erL_F f.kids
 have hrn := fun β τ => rnL_F β τ f.kids
 rw [F.d_eq] at c1 c2
 unfold hpP at c1
 have e0 : tokL [] = [] := rfl
 rw [e0] at c1
 have wQ := And.intro @zAe (And.intro @hrn (And.intro @hck @hek)); repeat' (first | with_reducible (apply swq; constructor) | simp only [go_sem, seval, def_M, pe13, q13] | ((with_reducible refine o_eff [3] [] (c1) ?hs ?he ?hh ?_); (case hs => exact so); (case he | hh => exact sh wQ); rintro _ _ ⟨rfl, rfl⟩) | ((with_reducible refine zAb (c2) ?he ?hc ?_); (case he | hc => exact sc wQ)) | with_reducible (apply cdA; constructor) | ((with_reducible refine And.intro ?hw ?_); (case hw => exact sw wQ)) | with_reducible intro _)
 all_goals try (exfalso; omega)
 all_goals simp [D.closed, D.er, D.cL, D.erL, RcS, hck, setL]
set_option maxHeartbeats 1000000 in
theorem parse_lex (s : Tx) (hs : s.length ≤ 4999) (hq : zEb s) {l : List Tok} {e p : Int} (hl : lexP s = (l, e, p)) (he : e ≠ 0) : Pur M 13 [.str s] (zD e p) := by
 have hlex := lex_p s hs hq
 rw [hl] at hlex
 have hcl := zFh l
 have her := tokL_er l
 have he' : (e != 0) = true := by simp [he]
 have s1 : SWp (E13 0 0) (.reg r13_0) (fun e s' => e = .normal ∧ s' = ⟨[.str s, .ptr 0 0, .ptr 1 0, .ptr 2 0, .u0, .u0, .u0, .u0, .u0, .u0, .u0], [], ⟨[.cells [.int .i64 0, .int .i64 0, .lit (.slice none 0 0)], .cells [.int .i64 0], .cells [.int .i64 0]], []⟩⟩) (St.init (E13 0 0) [.str s] ⟨[], []⟩) := by
  rw [ie13]
  have wQ := tw; repeat' (first | with_reducible (apply swq; constructor) | simp only [go_sem, seval, pe13, q13] | with_reducible (apply cdA; constructor) | ((with_reducible refine And.intro ?hw ?_); (case hw => exact sw wQ)) | with_reducible intro _)
  all_goals first | exact ⟨rfl, rfl⟩ | rfl | trivial
 have s2 : SWp (E13 0 0) (.reg r13_1) (fun x s' => x = .normal ∧ s' = ⟨[.str s, .ptr 0 0, .ptr 1 0, .ptr 2 0, .slice (tokL l) .no, .int .i64 e, .int .i64 p, .u0, .u0, .u0, .u0], [], ⟨[.cells [.int .i64 0, .int .i64 0, .lit (.slice none 0 0)], .cells [.int .i64 0], .cells [.int .i64 0]], []⟩⟩)
  ⟨[.str s, .ptr 0 0, .ptr 1 0, .ptr 2 0, .u0, .u0, .u0, .u0, .u0, .u0, .u0], [], ⟨[.cells [.int .i64 0, .int .i64 0, .lit (.slice none 0 0)], .cells [.int .i64 0], .cells [.int .i64 0]], []⟩⟩ := by
  have wQ := And.intro @hcl @her; repeat' (first | with_reducible (apply swq; constructor) | simp only [go_sem, seval, pe13, q13] | ((with_reducible refine zAb (hlex) ?he ?hc ?_); (case he | hc => exact sc wQ)) | with_reducible (apply cdA; constructor) | ((with_reducible refine And.intro ?hw ?_); (case hw => exact sw wQ)) | with_reducible intro _)
  all_goals first | exact ⟨rfl, rfl⟩ | rfl | trivial
 have s3 : SWp (E13 0 0) (.seq (.reg r13_2) (.cond (.v 8) (.seq (.reg r13_3) .ret) .skip)) (fun x s' => x = .ret ∧ rrsWp q13 s' fun ds => D.closed (zAn ds) = true ∧ (zAn ds).er = zD e p)
  ⟨[.str s, .ptr 0 0, .ptr 1 0, .ptr 2 0, .slice (tokL l) .no, .int .i64 e, .int .i64 p, .u0, .u0, .u0, .u0], [], ⟨[.cells [.int .i64 0, .int .i64 0, .lit (.slice none 0 0)], .cells [.int .i64 0], .cells [.int .i64 0]], []⟩⟩ := by
  have wQ := tw; repeat' (first | with_reducible (apply swq; constructor) | simp only [go_sem, seval, pe13, q13, he'] | with_reducible (apply cdA; constructor) | ((with_reducible refine And.intro ?hw ?_); (case hw => exact sw wQ)) | with_reducible intro _)
  all_goals simp [D.closed, D.er, D.cL, D.erL, RcS, setL]
 have hP : (E13 0 0).P = Tryd.prog := rfl
 refine zDs ⟨⟨Tryd.f13, Tryd.func13, by kernel_rfl, rfl⟩, fun w g xs hA hH hargs => ?_⟩
 refine calls_of_wp_defers Tryd.func13 hK13 ((wpIn_wide (n := 0)).1 ?_)
 have hsim := zD8 (C := E13 0 0) (fn := Tryd.f13) (by kernel_rfl) (args := [.str s]) (hp := ⟨[], []⟩) (by rfl) (by rw [show ([D.str s] : List D).length = 1 from rfl]; decide) rfl rfl rfl hH hargs
 have hstart : (E13 0 0).M.start w g := ⟨hA, trivial⟩
 have hpan : ∀ d hp, ¬ (E13 0 0).M.pan d hp := fun _ _ h => h
 refine wpIn_seq (wpIn_mono (zBy s1 za13 hpan hstart hsim) fun e a1 w1 hl => ?_)
 obtain ⟨rfl, hl⟩ := hl
 simp only [Exit.then]
 refine wpIn_seq (wpIn_mono (zBy s2 zb13 hpan hstart hl) fun e a2 w2 hl => ?_)
 obtain ⟨rfl, hl⟩ := hl
 simp only [Exit.then]
 refine wpIn_seq (wpIn_mono (s3.run _ zc13 w g hstart a2 w2 hl none) fun x a3 w3 hl => ?_)
 cases x <;> simp only [Lift, Exit.then] at hl ⊢
 case normal => obtain ⟨_, _, q, _⟩ := hl; cases q
 case exit => obtain ⟨_, _, q, _⟩ := hl; cases q
 case panic => obtain ⟨_, _, _, _, _, _, k, _⟩ := hl; exact absurd k (hpan _ _)
 case ret =>
  obtain ⟨s5, ⟨G5, j0, jb, j1, j2, j3, j4⟩, _, hrr⟩ := hl
  have j2' : a3.defers = [] := j2
  simp only [bodyPostD, j2', Leaves]
  obtain ⟨ds, v, k1, k4, k5⟩ := zCn (C := E13 0 0) (a := a3) (fn := Tryd.f13) j0 j4 (rs := q13) (by kernel_rfl) hrr
  exact ⟨v, k5, v, _, _, G5, rfl, k1, j0, k4⟩
end Go.Proofs.YtkjnhkoipgdfeaaDoor
end
section
set_option maxRecDepth 100000
set_option linter.unusedSimpArgs false
set_option linter.unusedVariables false
namespace Go.Proofs.YtkjnhkoipgdfeaaDoor
open Go GoV Go.RowKit
def lays240_ren : Go.Shelf.Ren := ⟨fun | 240 => 51 | 276 => 56 | n => n, fun | 0 => 0 | 4 => 4 | 9 => 9 | 20 => 20 | 70 => 79 | 72 => 82 | 37 => 80 | 5 => 5 | 164 => 109 | n => n, fun | n => n⟩
theorem lays240 : Go.Proofs.Lays.n240 Tryd.prog lays240_ren := {
 mixed := by kernel_rfl
 f240 := Tryd.func51.trans (congrArg some (by kernel_rfl))
 f276 := Tryd.func56.trans (congrArg some (by kernel_rfl))
 t0 := Tryd.underlying0
 a0 := Tryd.isAgg0
 z0 := Tryd.sizeOf0
 v0 := Tryd.zeroValue0
 t4 := Tryd.underlying4
 a4 := Tryd.isAgg4
 z4 := Tryd.sizeOf4
 v4 := Tryd.zeroValue4
 t9 := Tryd.underlying9
 a9 := Tryd.isAgg9
 z9 := Tryd.sizeOf9
 v9 := Tryd.zeroValue9
 t20 := Tryd.underlying20
 a20 := Tryd.isAgg20
 z20 := Tryd.sizeOf20
 v20 := Tryd.zeroValue20
 t70 := Tryd.underlying79
 a70 := Tryd.isAgg79
 z70 := Tryd.sizeOf79
 v70 := Tryd.zeroValue79
 t72 := Tryd.underlying82
 a72 := Tryd.isAgg82
 z72 := Tryd.sizeOf82
 v72 := Tryd.zeroValue82
 t164 := Tryd.underlying109
 a164 := Tryd.isAgg109
 z164 := Tryd.sizeOf109
 v164 := Tryd.zeroValue109 }
theorem x72 : Builder.X72 Tryd.prog lays240_ren := {
 sizeBuilder := by kernel_rfl
 liesBuilder := by kernel_rfl }
theorem chk_e {p : D} (hp : p = .lit (.pointer none) ∨ p = .ptr 0 0) (bs : List UInt8) (n : Nat) : Eff M 51 [.ptr 0 0] ⟨[.tcells 82 [p, .gs 0 n]], [.byt 5 bs]⟩ (fun d hp' => d = .tup [] ∧ hp' = ⟨[.tcells 82 [.ptr 0 0, .gs 0 n]], [.byt 5 bs]⟩) :=
 copyCheck_e (M := M) lays240 x72 ⟨Tryd.f51, Tryd.func51, rfl, rfl⟩ hp
theorem wbyte_e {p : D} (hp : p = .lit (.pointer none) ∨ p = .ptr 0 0) (bs : List UInt8) (c : UInt8) (n : Nat) (hn : bs.length = n) (hr : n + 1 ≤ 140737488355328) :
 Eff M 40 [.ptr 0 0, .int .u8 c.toNat] ⟨[.tcells 82 [p, .gs 0 n]], [.byt 5 bs]⟩ (fun d hp' => d = .lit .nilIface ∧ hp' = ⟨[.tcells 82 [.ptr 0 0, .gs 0 (n + 1)]], [.byt 5 (bs ++ [c])]⟩) := by
 refine k40.oe 1 1 rfl rfl rfl ?_
 rw [ie40]
 unfold c40
 have c1 := chk_e hp bs n
 have hb : zDl [D.int .u8 c.toNat] = some [c] := by
  have : c.toNat < 256 := UInt8.toNat_lt c
  simp only [zDl]
  rw [if_pos (by omega)]; simp
 rcases hp with rfl | rfl
 iterate 2
  ·have wQ := tw; repeat' (first | with_reducible (apply swq; constructor) | simp only [go_sem, seval, pe40, q40] | simp (disch := omega) only [w64, w32, wu8, wu16, wu32, wu64] | ((with_reducible refine o_eff [0] [0] (c1) ?hs ?he ?hh ?_); (case hs => exact so); (case he | hh => exact sh wQ); rintro _ _ ⟨rfl, rfl⟩) | ((with_reducible apply zAp); (case he => rfl); (case hK | hc | hr | hV => exact sd wQ)) | ((with_reducible apply zAq); (case he => rfl); (case hV | hK | hr | hl => exact sd wQ)) | ((with_reducible apply zAs); (case he => rfl); (case hK | hc | hr => exact sd wQ)) | ((with_reducible apply zAr); (case he => rfl); (case hK | hc | hr | hx | hn => exact sd wQ)) | ((with_reducible apply s_bsl); (case he | hl | hc => exact sd wQ)) | with_reducible (apply cdA; constructor) | ((with_reducible refine And.intro ?hw ?_); (case hw => exact sw wQ)) | with_reducible intro _)
   all_goals try (exfalso; omega)
   refine s_appB (es := [.int .u8 c.toNat]) rfl hb rfl rfl ⟨by simp; omega, by simp; omega⟩ rfl hn ?_
   have wQ := tw; repeat' (first | with_reducible (apply swq; constructor) | simp only [go_sem, seval, pe40, q40] | simp (disch := omega) only [w64, w32, wu8, wu16, wu32, wu64] | ((with_reducible apply zAp); (case he => rfl); (case hK | hc | hr | hV => exact sd wQ)) | ((with_reducible apply zAq); (case he => rfl); (case hV | hK | hr | hl => exact sd wQ)) | ((with_reducible apply zAs); (case he => rfl); (case hK | hc | hr => exact sd wQ)) | ((with_reducible apply zAr); (case he => rfl); (case hK | hc | hr | hx | hn => exact sd wQ)) | ((with_reducible apply s_bsl); (case he | hl | hc => exact sd wQ)) | with_reducible (apply cdA; constructor) | ((with_reducible refine And.intro ?hw ?_); (case hw => exact sw wQ)) | with_reducible intro _)
   all_goals try (exfalso; omega)
   exact ⟨_, zAo, rfl, rfl⟩
theorem str_e {p : D} {bs : List UInt8} (hl : bs.length ≤ 140737488355328) : Eff M 42 [.ptr 0 0] ⟨[.tcells 82 [p, .gs 0 bs.length]], [.byt 5 bs]⟩ (fun d hp' => d = .str bs ∧ hp' = ⟨[.tcells 82 [p, .gs 0 bs.length]], [.per 1 (bs.length + 1)]⟩) :=
 string_e (M := M) (ρ := Tryd.lays169_ren) Tryd.lays169 Tryd.Builder_Extra_169 ⟨Tryd.f42, Tryd.func42, rfl, rfl⟩ hl
end Go.Proofs.YtkjnhkoipgdfeaaDoor
end
section
set_option maxRecDepth 100000
set_option linter.unusedSimpArgs false
set_option linter.unusedVariables false
namespace Go.Proofs.YtkjnhkoipgdfeaaDoor
open Go GoV Go.RowKit
def oS (u : Option (Tx × Nat)) : Tx := match u with
 | some (t, _) => t
 | none => []
def oN (u : Option (Tx × Nat)) : Nat := match u with
 | some (_, n) => n
 | none => 0
theorem unq_at {s : Tx} {i : Nat} {acc : Tx} (h : i < s.length) : unq (s.drop i) acc i =
 if s.getD i 0 = 34 then some (acc, i + 1)
 else if s.getD i 0 = 10 then none
 else if s.getD i 0 = 92 then
  (if i + 1 < s.length then (if s.getD (i + 1) 0 = 92 then unq (s.drop (i + 2)) (acc ++ [92]) (i + 2) else if s.getD (i + 1) 0 = 34 then unq (s.drop (i + 2)) (acc ++ [34]) (i + 2) else if s.getD (i + 1) 0 = 110 then unq (s.drop (i + 2)) (acc ++ [10]) (i + 2) else none) else none)
 else unq (s.drop (i + 1)) (acc ++ [s.getD i 0]) (i + 1) := by
 rw [zBn h]
 by_cases h2 : i + 1 < s.length
 ·rw [if_pos h2, zBn h2]
  rw [unq]
 ·rw [if_neg h2, List.drop_eq_nil_of_le (by omega)]
  rw [unq]
  simp only [unq]
theorem u8B (c d : UInt8) : ((c.toNat : Int) == d.toNat) = (c == d) := by
 rw [Bool.eq_iff_iff, beq_iff_eq, beq_iff_eq]
 constructor
 ·intro h; exact UInt8.toNat_inj.1 (by omega)
 ·rintro rfl; rfl
theorem ix3 (d : UInt8) : Lib.indexByte [92, 34, 110] d = if d = 92 then 0 else if d = 34 then 1 else if d = 110 then 2 else -1 := by
 have key : ∀ n : Fin 256, Lib.indexByte [92, 34, 110] (UInt8.ofNat n.val) = if (UInt8.ofNat n.val) = 92 then 0 else if (UInt8.ofNat n.val) = 34 then 1 else if (UInt8.ofNat n.val) = 110 then 2 else -1 := by decide +kernel
 have h := key ⟨d.toNat, UInt8.toNat_lt d⟩
 have e : UInt8.ofNat d.toNat = d := by simp
 simpa only [e] using h
def bD (b : Bool) : D := if b then .ptr 0 0 else .lit (.pointer none)
theorem bD_or (b : Bool) : bD b = .lit (.pointer none) ∨ bD b = .ptr 0 0 := by cases b <;> simp [bD]
set_option maxHeartbeats 4000000 in
theorem unquoted_p (s : Tx) (hs : s.length ≤ 20000) : Pur M 50 [.str s] (.tup [.str (oS (unq (s.drop 1) [] 1)), .int .i64 (oN (unq (s.drop 1) [] 1) : Nat)]) := by
 refine k50.ok (C := C50) rfl rfl ?_
 rw [i50]
 unfold c50
 have wQ := tw; repeat' (first | with_reducible (apply swq; constructor) | simp only [go_sem, seval, P50, q50] | simp (disch := omega) only [w64, w32, wu8, wu16, wu32, wu64] | with_reducible (apply cdA; constructor) | ((with_reducible refine And.intro ?hw ?_); (case hw => exact sw wQ)) | with_reducible intro _)
 all_goals try (exfalso; omega)
 refine zFy (weak_bld 0 82 5 _ rfl) ?_
 generalize hU : unq (s.drop 1) [] 1 = U
 refine zB8 [0, 1, 2, 3, 4] (fun x : Nat × Tx × Bool => ⟨[.str s, .str [], .int .i64 0, .ptr 0 0, .int .i64 (x.1 : Nat), .u0, .u0, .u0, .u0, .u0, .u0, .u0, .u0, .u0], [], ⟨[.tcells 82 [bD x.2.2, .gs 0 x.2.1.length]], [.byt 5 x.2.1]⟩⟩)
  (fun x => 1 ≤ x.1 ∧ x.1 ≤ 20001 ∧ x.2.1.length ≤ x.1 ∧ unq (s.drop x.1) x.2.1 x.1 = U) (fun x => 20001 - x.1) (1, [], false) ⟨by omega, by omega, by simp, hU⟩ ?_ ?_
 ·simp [keepE, St.keep, bD]
 ·rintro ⟨i, acc, b⟩ ⟨g1, g2, g3, g4⟩
  simp only at g1 g2 g3 g4 ⊢
  have hbo := bD_or b
  have hti : ((i : Int) + 1).toNat = i + 1 := by omega
  by_cases hi : i < s.length
  ·rw [unq_at hi] at g4
   have hd : decide ((i : Int) < s.length) = true := by simp; omega
   generalize hc : s.getD i 0 = c at *
   have e34 := u8B c 34
   have e10 := u8B c 10
   have e92 := u8B c 92
   have n34 : (((34 : UInt8).toNat : Nat) : Int) = 34 := rfl
   have n10 : (((10 : UInt8).toNat : Nat) : Int) = 10 := rfl
   have n92 : (((92 : UInt8).toNat : Nat) : Int) = 92 := rfl
   rw [n34] at e34
   rw [n10] at e10
   rw [n92] at e92
   by_cases h34 : c = 34
   ·rw [if_pos h34] at g4
    have t1 : ((c.toNat : Int) == 34) = true := by rw [e34]; simp [h34]
    have cS := str_e (p := bD b) (bs := acc) (by omega)
    subst g4
    have e1 : oS (some (acc, i + 1)) = acc := rfl
    have e2 : oN (some (acc, i + 1)) = i + 1 := rfl
    rw [e1, e2]
    rcases hbo with e | e <;> rw [e] at cS ⊢
    iterate 2
     ·have wQ := tw; repeat' (first | with_reducible (apply swq; constructor) | simp only [go_sem, seval, P50, q50, hd, t1, hc] | simp (disch := omega) only [w64, w32, wu8, wu16, wu32, wu64] | ((with_reducible refine o_eff [0] [0] (cS) ?hs ?he ?hh ?_); (case hs => exact so); (case he | hh => exact sh wQ); rintro _ _ ⟨rfl, rfl⟩) | with_reducible (apply cdA; constructor) | ((with_reducible refine And.intro ?hw ?_); (case hw => exact sw wQ)) | with_reducible intro _)
      all_goals try (exfalso; omega)
      all_goals simp [D.closed, D.er, D.cL, D.erL]
   rw [if_neg h34] at g4
   have t1 : ((c.toNat : Int) == 34) = false := by rw [e34]; simp [h34]
   by_cases h10 : c = 10
   ·rw [if_pos h10] at g4
    have t2 : ((c.toNat : Int) == 10) = true := by rw [e10]; simp [h10]
    subst g4
    have e1 : oS none = [] := rfl
    have e2 : oN none = 0 := rfl
    rw [e1, e2]
    have wQ := tw; repeat' (first | with_reducible (apply swq; constructor) | simp only [go_sem, seval, P50, q50, hd, t1, t2, hc] | simp (disch := omega) only [w64, w32, wu8, wu16, wu32, wu64] | with_reducible (apply cdA; constructor) | ((with_reducible refine And.intro ?hw ?_); (case hw => exact sw wQ)) | with_reducible intro _)
    all_goals try (exfalso; omega)
    all_goals simp [D.closed, D.er, D.cL, D.erL]
   rw [if_neg h10] at g4
   have t2 : ((c.toNat : Int) == 10) = false := by rw [e10]; simp [h10]
   by_cases h92 : c = 92
   ·rw [if_pos h92] at g4
    have t3 : ((c.toNat : Int) == 92) = true := by rw [e92]; simp [h92]
    by_cases hi2 : i + 1 < s.length
    ·rw [if_pos hi2] at g4
     have hd2 : decide ((i : Int) + 1 < s.length) = true := by simp; omega
     have hd3 : decide (((i + 1 : Nat) : Int) < s.length) = true := by simp; omega
     generalize hc2 : s.getD (i + 1) 0 = d at *
     have cI := index_p [92, 34, 110] d
     rw [ix3] at cI
     have hcc : ∀ (u : UInt8), (Eff M 40 [.ptr 0 0, .int .u8 u.toNat] ⟨[.tcells 82 [bD b, .gs 0 acc.length]], [.byt 5 acc]⟩ (fun d hp' => d = .lit .nilIface ∧ hp' = ⟨[.tcells 82 [.ptr 0 0, .gs 0 (acc.length + 1)]], [.byt 5 (acc ++ [u])]⟩)) := fun u => wbyte_e (bD_or b) acc u acc.length rfl (by omega)
     by_cases q1 : d = 92
     ·rw [if_pos q1] at g4 cI
      have cW := hcc 92
      rcases hbo with e | e <;> rw [e] at cW ⊢
      iterate 2
       ·have wQ := tw; repeat' (first | with_reducible (apply swq; constructor) | simp only [go_sem, seval, P50, q50, hd, hd2, hd3, hti, t1, t2, t3, hc, hc2] | simp (disch := omega) only [w64, w32, wu8, wu16, wu32, wu64] | ((with_reducible refine zAb (cI) ?he ?hc ?_); (case he | hc => exact sc wQ)) | ((with_reducible refine o_eff [0] [0] (cW) ?hs ?he ?hh ?_); (case hs => exact so); (case he | hh => exact sh wQ); rintro _ _ ⟨rfl, rfl⟩) | with_reducible (apply cdA; constructor) | ((with_reducible refine And.intro ?hw ?_); (case hw => exact sw wQ)) | with_reducible intro _)
        all_goals try (exfalso; omega)
        refine ⟨(i + 2, acc ++ [92], true), ⟨by simp only; omega, by simp only; omega, by simp; omega, g4⟩, by simp only; omega, ?_⟩
        simp [keepE, St.keep, bD]; omega
     rw [if_neg q1] at g4 cI
     by_cases q2 : d = 34
     ·rw [if_pos q2] at g4 cI
      have cW := hcc 34
      rcases hbo with e | e <;> rw [e] at cW ⊢
      iterate 2
       ·have wQ := tw; repeat' (first | with_reducible (apply swq; constructor) | simp only [go_sem, seval, P50, q50, hd, hd2, hd3, hti, t1, t2, t3, hc, hc2] | simp (disch := omega) only [w64, w32, wu8, wu16, wu32, wu64] | ((with_reducible refine zAb (cI) ?he ?hc ?_); (case he | hc => exact sc wQ)) | ((with_reducible refine o_eff [0] [0] (cW) ?hs ?he ?hh ?_); (case hs => exact so); (case he | hh => exact sh wQ); rintro _ _ ⟨rfl, rfl⟩) | with_reducible (apply cdA; constructor) | ((with_reducible refine And.intro ?hw ?_); (case hw => exact sw wQ)) | with_reducible intro _)
        all_goals try (exfalso; omega)
        refine ⟨(i + 2, acc ++ [34], true), ⟨by simp only; omega, by simp only; omega, by simp; omega, g4⟩, by simp only; omega, ?_⟩
        simp [keepE, St.keep, bD]; omega
     rw [if_neg q2] at g4 cI
     by_cases q3 : d = 110
     ·rw [if_pos q3] at g4 cI
      have cW := hcc 10
      rcases hbo with e | e <;> rw [e] at cW ⊢
      iterate 2
       ·have wQ := tw; repeat' (first | with_reducible (apply swq; constructor) | simp only [go_sem, seval, P50, q50, hd, hd2, hd3, hti, t1, t2, t3, hc, hc2] | simp (disch := omega) only [w64, w32, wu8, wu16, wu32, wu64] | ((with_reducible refine zAb (cI) ?he ?hc ?_); (case he | hc => exact sc wQ)) | ((with_reducible refine o_eff [0] [0] (cW) ?hs ?he ?hh ?_); (case hs => exact so); (case he | hh => exact sh wQ); rintro _ _ ⟨rfl, rfl⟩) | with_reducible (apply cdA; constructor) | ((with_reducible refine And.intro ?hw ?_); (case hw => exact sw wQ)) | with_reducible intro _)
        all_goals try (exfalso; omega)
        refine ⟨(i + 2, acc ++ [10], true), ⟨by simp only; omega, by simp only; omega, by simp; omega, g4⟩, by simp only; omega, ?_⟩
        simp [keepE, St.keep, bD]; omega
     rw [if_neg q3] at g4 cI
     subst g4
     have e1 : oS none = [] := rfl
     have e2 : oN none = 0 := rfl
     rw [e1, e2]
     have wQ := tw; repeat' (first | with_reducible (apply swq; constructor) | simp only [go_sem, seval, P50, q50, hd, hd2, hd3, hti, t1, t2, t3, hc, hc2] | simp (disch := omega) only [w64, w32, wu8, wu16, wu32, wu64] | ((with_reducible refine zAb (cI) ?he ?hc ?_); (case he | hc => exact sc wQ)) | with_reducible (apply cdA; constructor) | ((with_reducible refine And.intro ?hw ?_); (case hw => exact sw wQ)) | with_reducible intro _)
     all_goals try (exfalso; omega)
     all_goals simp [D.closed, D.er, D.cL, D.erL]
    ·rw [if_neg hi2] at g4
     have hd2 : decide ((i : Int) + 1 < s.length) = false := by simp; omega
     subst g4
     have e1 : oS none = [] := rfl
     have e2 : oN none = 0 := rfl
     rw [e1, e2]
     have wQ := tw; repeat' (first | with_reducible (apply swq; constructor) | simp only [go_sem, seval, P50, q50, hd, hd2, hti, t1, t2, t3, hc] | simp (disch := omega) only [w64, w32, wu8, wu16, wu32, wu64] | with_reducible (apply cdA; constructor) | ((with_reducible refine And.intro ?hw ?_); (case hw => exact sw wQ)) | with_reducible intro _)
     all_goals try (exfalso; omega)
     all_goals simp [D.closed, D.er, D.cL, D.erL]
   rw [if_neg h92] at g4
   have t3 : ((c.toNat : Int) == 92) = false := by rw [e92]; simp [h92]
   have cW := wbyte_e (bD_or b) acc c acc.length rfl (by omega)
   rcases hbo with e | e <;> rw [e] at cW ⊢
   iterate 2
    ·have wQ := tw; repeat' (first | with_reducible (apply swq; constructor) | simp only [go_sem, seval, P50, q50, hd, t1, t2, t3, hc] | simp (disch := omega) only [w64, w32, wu8, wu16, wu32, wu64] | ((with_reducible refine o_eff [0] [0] (cW) ?hs ?he ?hh ?_); (case hs => exact so); (case he | hh => exact sh wQ); rintro _ _ ⟨rfl, rfl⟩) | with_reducible (apply cdA; constructor) | ((with_reducible refine And.intro ?hw ?_); (case hw => exact sw wQ)) | with_reducible intro _)
     all_goals try (exfalso; omega)
     refine ⟨(i + 1, acc ++ [c], true), ⟨by simp only; omega, by simp only; omega, by simp; omega, g4⟩, by simp only; omega, ?_⟩
     simp [keepE, St.keep, bD]
  ·rw [List.drop_eq_nil_of_le (by omega)] at g4
   simp only [unq] at g4
   have hd : decide ((i : Int) < s.length) = false := by simp; omega
   subst g4
   have e1 : oS none = [] := rfl
   have e2 : oN none = 0 := rfl
   rw [e1, e2]
   have wQ := tw; repeat' (first | with_reducible (apply swq; constructor) | simp only [go_sem, seval, P50, q50, hd] | simp (disch := omega) only [w64, w32, wu8, wu16, wu32, wu64] | with_reducible (apply cdA; constructor) | ((with_reducible refine And.intro ?hw ?_); (case hw => exact sw wQ)) | with_reducible intro _)
   all_goals try (exfalso; omega)
   all_goals simp [D.closed, D.er, D.cL, D.erL]
theorem quote_all (t : Tx) (ht : t.length ≤ 20000) : zEb t := fun i hi hc => by
 have h := unquoted_p (t.drop i) (by simp; omega)
 rw [List.drop_drop] at h
 have e1 : unqS t i = oS (unq (t.drop (i + 1)) [] 1) := by unfold unqS oS; cases unq (t.drop (i + 1)) [] 1 <;> rfl
 have e2 : unqN t i = oN (unq (t.drop (i + 1)) [] 1) := by unfold unqN oN; cases unq (t.drop (i + 1)) [] 1 <;> rfl
 rw [e1, e2]
 exact h
end Go.Proofs.YtkjnhkoipgdfeaaDoor
end
section
set_option linter.unusedSimpArgs false
set_option linter.unusedVariables false
namespace Go.Proofs.YtkjnhkoipgdfeaaDoor
abbrev Kt := Int × Tx
def kt (t : Tok) : Kt := (t.kind, t.text)
def bodyK (op n : Int) (ts : List (List Kt)) : List Kt :=
 if op = 1 then [(2, Go.Lib.itoa n)] else if op = 2 then [(1, tKm)] else if op = 3 then [(1, tCy)] else if op = 4 then [(1, tLd)]
 else if op = 9 then (1, tMin) :: (4, [40]) :: (ts.getD 0 [] ++ ((4, [44]) :: (ts.getD 1 [] ++ [(4, [41])])))
 else if op = 10 then (1, tMax) :: (4, [40]) :: (ts.getD 0 [] ++ ((4, [44]) :: (ts.getD 1 [] ++ [(4, [41])])))
 else if op = 11 then (1, tIf) :: (4, [40]) :: (ts.getD 0 [] ++ ((4, [44]) :: (ts.getD 1 [] ++ ((4, [44]) :: (ts.getD 2 [] ++ [(4, [41])])))))
 else ts.getD 0 [] ++ ((4, symF op) :: ts.getD 1 [])
def parK (r least : Int) (t : List Kt) : List Kt := if r < least then (4, [40]) :: (t ++ [(4, [41])]) else t
mutual
def tkF : F → Int → List Kt
 | .mk op n ks, least => parK (rankF op) least (bodyK op n (if rankF op = 2 then tkL 0 0 ks else tkL (rankF op) (rankF op + 1) ks))
def tkL : Int → Int → List F → List (List Kt)
 | _, _, [] => []
 | a, b, k :: ks => tkF k a :: tkL b b ks
end
theorem tkL2 (r0 r1 : Int) (a b : F) : tkL r0 r1 [a, b] = [tkF a r0, tkF b r1] := by simp [tkL]
theorem tkL3 (a b c : F) : tkL 0 0 [a, b, c] = [tkF a 0, tkF b 0, tkF c 0] := by simp [tkL]
theorem tkF_par {op n : Int} {ks : List F} {l : Int} (h : rankF op < l) : tkF (.mk op n ks) l = (4, [40]) :: (tkF (.mk op n ks) (rankF op) ++ [(4, [41])]) := by
 have h1 : ¬ rankF op < rankF op := by omega
 simp only [tkF, parK, if_pos h, if_neg h1]
theorem tkF_up {op n : Int} {ks : List F} {l l' : Int} (h : l ≤ rankF op) (h' : l' ≤ rankF op) : tkF (.mk op n ks) l = tkF (.mk op n ks) l' := by
 have h1 : ¬ rankF op < l := by omega
 have h2 : ¬ rankF op < l' := by omega
 simp only [tkF, parK, if_neg h1, if_neg h2]
def Shr (op : List Tok → PR) : Prop := ∀ l g r, op l = .ok g r → r.length < l.length
theorem gotN_cons {k : Int} {ws : List Tx} {l : List Tok} {i : Nat} (h : gotN k ws l = some i) : ∃ t r, l = t :: r := by
 cases l with
 | nil => simp [gotN] at h
 | cons t r => exact ⟨t, r, rfl⟩
theorem loop_shr {op : List Tok → PR} (h : Shr op) (first : Int) (a b : Tx) : ∀ k f l g r, loopP op first a b k f l = .ok g r → r.length ≤ l.length
 | 0, f, l, g, r, e => by simp only [loopP] at e; cases e; exact Nat.le_refl _
 | k + 1, f, l, g, r, e => by
   simp only [loopP] at e
   cases hg : gotN 4 [a, b] l with
   | none => rw [hg] at e; cases e; exact Nat.le_refl _
   | some i =>
     rw [hg] at e
     obtain ⟨t, lt, rfl⟩ := gotN_cons hg
     simp only [List.tail_cons] at e
     obtain ⟨f2, r2, e1, e2⟩ := zBp e
     have q1 := h _ _ _ e1
     have q2 := loop_shr h first a b k _ _ _ _ e2
     simp only [List.length_cons]; omega
theorem chain_shr {op : List Tok → PR} (h : Shr op) (first : Int) (a b : Tx) : Shr (zDk op first a b) := by
 intro l g r e
 obtain ⟨f2, r2, e1, e2⟩ := zBp e
 have q1 := h _ _ _ e1
 have q2 := loop_shr h first a b _ _ _ _ _ e2
 omega
theorem args_shr {fo : List Tok → PR} (h : Shr fo) (en op : Int) : ∀ n fs l g r, argsP fo en op n fs l = .ok g r → r.length < l.length
 | 0, fs, l, g, r, e => by
   obtain ⟨t, l', rfl, _, e2⟩ := zBa e
   cases e2; simp
 | n + 1, fs, l, g, r, e => by
   obtain ⟨t, l', rfl, _, e2⟩ := zBa e
   obtain ⟨f2, r2, e3, e4⟩ := zBp e2
   have q1 := h _ _ _ e3
   have q2 := args_shr h en op n _ _ _ _ e4
   simp only [List.length_cons]; omega
theorem fact_shr {fo : List Tok → PR} (h : Shr fo) (en : Int) : Shr (factP fo en) := by
 intro l g r e
 cases l with
 | nil => simp [factP] at e
 | cons t l' =>
   simp only [factP] at e
   split at e
   ·cases e; simp
   ·split at e
    ·cases e; simp
    ·split at e
     ·obtain ⟨t3, l3, rfl, _, e2⟩ := zBa e
      obtain ⟨f4, l4, e3, e4⟩ := zBp e2
      have q1 := h _ _ _ e3
      have q2 := args_shr h _ _ _ _ _ _ _ e4
      simp only [List.length_cons]; omega
     ·obtain ⟨t3, l3, e0, _, e2⟩ := zBa e
      cases e0
      obtain ⟨f4, l4, e3, e4⟩ := zBp e2
      obtain ⟨t5, l5, rfl, _, e5⟩ := zBa e4
      cases e5
      have q1 := h _ _ _ e3
      simp only [List.length_cons] at q1 ⊢; omega
theorem prod_shr {fo : List Tok → PR} (h : Shr fo) (en : Int) : Shr (prodP fo en) := chain_shr (fact_shr h en) _ _ _
theorem form_shr (en : Int) : ∀ k, Shr (formP en k)
 | 0 => fun l g r e => by simp [formP] at e
 | k + 1 => chain_shr (prod_shr (form_shr en k) en) _ _ _
theorem zEm {op : List Tok → PR} (h : Shr op) (first : Int) (a b : Tx) : ∀ k k' f l, l.length ≤ k → l.length ≤ k' → loopP op first a b k f l = loopP op first a b k' f l
 | 0, k', f, l, h1, h2 => by
   have : l = [] := List.length_eq_zero_iff.1 (by omega)
   subst this
   cases k' <;> simp [loopP, gotN]
 | k + 1, 0, f, l, h1, h2 => by
   have : l = [] := List.length_eq_zero_iff.1 (by omega)
   subst this
   simp [loopP, gotN]
 | k + 1, k' + 1, f, l, h1, h2 => by
   simp only [loopP]
   cases hg : gotN 4 [a, b] l with
   | none => rfl
   | some i =>
     obtain ⟨t, lt, rfl⟩ := gotN_cons hg
     simp only [List.tail_cons]
     cases e : op lt with
     | no e1 p1 => rfl
     | ok f2 r2 =>
       have q1 := h _ _ _ e
       simp only [thenP]
       simp only [List.length_cons] at h1 h2
       exact zEm h first a b k k' _ r2 (by omega) (by omega)
theorem loop_stop {op : List Tok → PR} {first : Int} {a b : Tx} {k : Nat} {f : F} {l : List Tok} (h : gotN 4 [a, b] l = none) : loopP op first a b k f l = .ok f l := by
 cases k with
 | zero => rfl
 | succ k => simp only [loopP, h]
theorem map_cons {l : List Tok} {x : Kt} {xs : List Kt} (h : l.map kt = x :: xs) : ∃ t r, l = t :: r ∧ t.kind = x.1 ∧ t.text = x.2 ∧ r.map kt = xs := by
 cases l with
 | nil => simp at h
 | cons t r =>
   simp only [List.map_cons, List.cons.injEq] at h
   obtain ⟨rfl, h2⟩ := h
   exact ⟨t, r, rfl, rfl, rfl, h2⟩
theorem zEl {l : List Tok} {x y : List Kt} (h : l.map kt = x ++ y) : ∃ l1 l2, l = l1 ++ l2 ∧ l1.map kt = x ∧ l2.map kt = y := by
 obtain ⟨l1, l2, h1, h2, h3⟩ := List.map_eq_append_iff.1 h
 exact ⟨l1, l2, h1, h2, h3⟩
theorem zFq {l : List Tok} {x : Kt} (h : l.map kt = [x]) : ∃ t, l = [t] ∧ t.kind = x.1 ∧ t.text = x.2 := by
 obtain ⟨t, r, rfl, h1, h2, h3⟩ := map_cons h
 have : r = [] := by simpa using h3
 subst this
 exact ⟨t, rfl, h1, h2⟩
def stopM (l : List Tok) : Prop := gotN 4 [[42], [47]] l = none
def stopS (l : List Tok) : Prop := gotN 4 [[43], [45]] l = none ∧ stopM l
theorem stop_nil : stopS [] := ⟨rfl, rfl⟩
theorem zEw {t : Tok} {r : List Tok} {w : Tx} (h1 : t.kind = 4) (h2 : t.text = w) (h3 : w = [41] ∨ w = [44]) : stopS (t :: r) := by
 rcases h3 with rfl | rfl <;> simp [stopS, stopM, gotN, h1, h2] <;> decide
theorem got_sym {t : Tok} {r : List Tok} {w : Tx} (h1 : t.kind = 4) (h2 : t.text = w) : gotN 4 [w] (t :: r) = some 0 := by
 simp [gotN, h1, h2, List.findIdx?_cons]
theorem zD5 {en : Int} {w : Tx} {t : Tok} {r : List Tok} {go : List Tok → PR} (h1 : t.kind = 4) (h2 : t.text = w) : needP en w (t :: r) go = go r := by
 simp [needP, got_sym h1 h2]
theorem got_names {t : Tok} {r : List Tok} {ws : List Tx} (h1 : t.kind = 4) : gotN 1 ws (t :: r) = none := by
 simp [gotN, h1]
theorem fact_par {fo : List Tok → PR} {en : Int} {t : Tok} {r : List Tok} (h1 : t.kind = 4) (h2 : t.text = [40]) : factP fo en (t :: r) = thenP (fo r) fun f r' => needP en [41] r' fun r'' => .ok f r'' := by
 simp only [factP, got_names h1, h1]
 rw [if_neg (by decide)]
 simp only [parP, zD5 h1 h2]
theorem got_at {t : Tok} {r : List Tok} {ws : List Tx} {j : Nat} {w : Tx} (h1 : t.kind = 1) (h2 : t.text = w) (hj : ws.findIdx? (fun x => w == x) = some j) : gotN 1 ws (t :: r) = some j := by
 simp [gotN, h1, h2, hj]
theorem got_not {t : Tok} {r : List Tok} {ws : List Tx} {w : Tx} (h1 : t.kind = 1) (h2 : t.text = w) (hj : ws.findIdx? (fun x => w == x) = none) : gotN 1 ws (t :: r) = none := by
 simp only [gotN, h1, if_true, h2, hj]
theorem fact_name {fo : List Tok → PR} {en : Int} {t : Tok} {r : List Tok} {w : Tx} {i : Nat} (h1 : t.kind = 1) (h2 : t.text = w) (hw : [tKm, tCy, tLd].findIdx? (fun x => w == x) = some i) : factP fo en (t :: r) = .ok (.mk (2 + i) 0 []) r := by
 simp only [factP, h1]
 rw [if_neg (by decide)]
 simp only [got_at h1 h2 hw]
theorem fact_call {fo : List Tok → PR} {en : Int} {t : Tok} {r : List Tok} {w : Tx} {i : Nat} (h1 : t.kind = 1) (h2 : t.text = w) (hw : [tKm, tCy, tLd].findIdx? (fun x => w == x) = none) (hw2 : [tMin, tMax, tIf].findIdx? (fun x => w == x) = some i) : factP fo en (t :: r) = callP fo en i r := by
 simp only [factP, h1]
 rw [if_neg (by decide)]
 simp only [got_not h1 h2 hw, got_at h1 h2 hw2]
theorem symK (op : Int) (h1 : 5 ≤ op) (h2 : op ≤ 8) : ∃ i, op = (if op ≤ 6 then 5 else 7) + (i : Nat) ∧ [(if op ≤ 6 then [43] else [42] : Tx), (if op ≤ 6 then [45] else [47])].findIdx? (fun x => symF op == x) = some i := by
 have : op = 5 ∨ op = 6 ∨ op = 7 ∨ op = 8 := by omega
 rcases this with rfl | rfl | rfl | rfl
 ·exact ⟨0, by decide, by decide⟩
 ·exact ⟨1, by decide, by decide⟩
 ·exact ⟨0, by decide, by decide⟩
 ·exact ⟨1, by decide, by decide⟩
theorem got_op {t : Tok} {r : List Tok} {ws : List Tx} {w : Tx} {i : Nat} (h1 : t.kind = 4) (h2 : t.text = w) (hj : ws.findIdx? (fun x => w == x) = some i) : gotN 4 ws (t :: r) = some i := by
 simp [gotN, h1, h2, hj]
theorem dec_fold (u : Nat) : (Go.Lib.decDigits u).foldl (fun (n : Int) (c : UInt8) => 10 * n + ((c.toNat : Int) - 48)) 0 = u := by
 induction u using Nat.strongRecOn with
 | _ u ih =>
   rw [Go.Lib.decDigits]
   have hd : ∀ k, k < 10 → ((UInt8.ofNat (48 + k)).toNat : Int) - 48 = k := fun k hk => by
    simp only [UInt8.toNat_ofNat']
    omega
   by_cases h : u < 10
   ·rw [dif_pos h]
    simp only [List.foldl_cons, List.foldl_nil]
    rw [hd u h]; omega
   ·rw [dif_neg h, List.foldl_append, ih (u / 10) (by omega)]
    simp only [List.foldl_cons, List.foldl_nil]
    rw [hd _ (Nat.mod_lt _ (by omega))]
    omega
theorem dec_dig (u : Nat) : (Go.Lib.decDigits u).all isDig = true ∧ Go.Lib.decDigits u ≠ [] := by
 induction u using Nat.strongRecOn with
 | _ u ih =>
   rw [Go.Lib.decDigits]
   have hd : ∀ k, k < 10 → isDig (UInt8.ofNat (48 + k)) = true := fun k hk => by
    unfold isDig
    simp only [UInt8.toNat_ofNat']
    exact decide_eq_true (by omega)
   by_cases h : u < 10
   ·rw [dif_pos h]
    exact ⟨by simp only [List.all_cons, List.all_nil, hd u h, Bool.and_true], by simp⟩
   ·rw [dif_neg h]
    exact ⟨by simp only [List.all_append, List.all_cons, List.all_nil, (ih (u / 10) (by omega)).1, hd _ (Nat.mod_lt u (show 0 < 10 by omega)), Bool.and_true], by simp⟩
theorem itoa_eq {n : Int} (h0 : 0 ≤ n) : Go.Lib.itoa n = Go.Lib.decDigits n.toNat := by unfold Go.Lib.itoa; rw [if_neg (by omega)]
theorem digs_itoa {n : Int} (h0 : 0 ≤ n) (h1 : n ≤ 9999999) : digs (Go.Lib.itoa n) = n := by
 rw [itoa_eq h0]
 unfold digs
 rw [dec_fold]; omega
theorem nd_le7 : ∀ (k u : Nat), u < 10 ^ (k + 1) → Go.Lib.nDigits u ≤ k + 1 := nd_le
theorem itoa_num {n : Int} (h0 : 0 ≤ n) (h1 : n ≤ 9999999) : numOk (Go.Lib.itoa n) := by
 rw [itoa_eq h0]
 refine ⟨(dec_dig _).2, (dec_dig _).1, ?_⟩
 rw [Go.Lib.decDigits_length]
 exact nd_le7 6 n.toNat (by omega)
theorem well_n {op n : Int} {ks : List F} (h : (F.mk op n ks).well = true) (h1 : op ≠ 1) : n = 0 := by
 simp only [F.well, Bool.and_eq_true] at h
 have ho := h.1
 unfold okN at ho
 have ho := of_decide_eq_true ho
 have := ho.2.2.2.2.2
 have := ho.2.2.2.1
 by_cases q : 0 < n
 ·exact absurd (ho.2.2.2.2.2 q) h1
 ·omega
def Wr (fo : List Tok → PR) (en : Int) (K : Nat) (f : F) : Prop :=
 (∀ l1 rest, l1.map kt = tkF f 2 → l1.length ≤ K → factP fo en (l1 ++ rest) = .ok f rest) ∧
 (∀ l1 rest k, l1.map kt = tkF f 1 → l1.length ≤ K → rest.length ≤ k → zDk (factP fo en) 7 [42] [47] (l1 ++ rest) = loopP (factP fo en) 7 [42] [47] k f rest) ∧
 (∀ l1 rest k, l1.map kt = tkF f 0 → l1.length ≤ K → stopM rest → rest.length ≤ k → zDk (prodP fo en) 5 [43] [45] (l1 ++ rest) = loopP (prodP fo en) 5 [43] [45] k f rest)
theorem par_w {fo : List Tok → PR} {en : Int} {K : Nat} (hfo : ∀ g, g.well = true → ∀ l1 rest, l1.map kt = tkF g 0 → l1.length < K → stopS rest → fo (l1 ++ rest) = .ok g rest) {op n : Int} {ks : List F} (hw : (F.mk op n ks).well = true) {l : Int} (hl : rankF op < l) (h0 : 0 ≤ rankF op)
 (l1 rest : List Tok) (h : l1.map kt = tkF (.mk op n ks) l) (hk : l1.length ≤ K) : factP fo en (l1 ++ rest) = .ok (.mk op n ks) rest := by
 rw [tkF_par hl] at h
 obtain ⟨t, r, rfl, h1, h2, h3⟩ := map_cons h
 obtain ⟨l2, l3, rfl, h4, h5⟩ := zEl h3
 obtain ⟨t5, rfl, h6, h7⟩ := zFq h5
 rw [List.cons_append, fact_par h1 h2]
 simp only [List.append_assoc, List.cons_append, List.nil_append]
 rw [tkF_up (Int.le_refl _) h0] at h4
 simp only [List.length_cons, List.length_append] at hk
 rw [hfo _ hw l2 _ h4 (by omega) (zEw h6 h7 (.inl rfl))]
 simp only [thenP, zD5 h6 h7]
theorem stop_op {op : Int} {t : Tok} {r : List Tok} (h1 : t.kind = 4) (h2 : t.text = symF op) (ho : op = 5 ∨ op = 6) : stopM (t :: r) := by
 rcases ho with rfl | rfl <;> simp [stopM, gotN, h1, h2] <;> decide
set_option maxHeartbeats 1000000 in
theorem inner_w {fo : List Tok → PR} {en : Int} {K : Nat} (hfo : ∀ g, g.well = true → ∀ l1 rest, l1.map kt = tkF g 0 → l1.length < K → stopS rest → fo (l1 ++ rest) = .ok g rest) (hs : Shr fo) : ∀ (k : Nat) (f : F), f.nodes ≤ k → f.well = true → Wr fo en K f
 | 0, f, hk, _ => by have := zB0 f; omega
 | k + 1, .mk op n ks, hk, hw => by
   obtain ⟨hkw, o1, o2, n1, n2, hc⟩ := zC4 hw
   have ih : ∀ y ∈ ks, Wr fo en K y := fun y hy => inner_w hfo hs k y (by have := zBg (f := .mk op n ks) hy; omega) (hkw y hy)
   obtain ⟨r1, r2, r3⟩ := rank_cases op
   have hr0 : 0 ≤ rankF op := by unfold rankF; repeat' split <;> omega
   have P1 : ∀ l1 rest, l1.map kt = tkF (.mk op n ks) 2 → l1.length ≤ K → factP fo en (l1 ++ rest) = .ok (.mk op n ks) rest := by
    intro l1 rest h hK
    by_cases hrk : rankF op < 2
    ·exact par_w hfo hw hrk hr0 l1 rest h hK
    have hr2 : rankF op = 2 := by unfold rankF at hrk ⊢; repeat' split at hrk <;> first | omega | rfl
    have hnr : ¬ (op = 5 ∨ op = 6 ∨ op = 7 ∨ op = 8) := fun q => by rcases q with q | q | q | q <;> subst q <;> exact absurd hr2 (by decide)
    simp only [tkF, parK, if_neg hrk, if_pos hr2] at h
    rcases hc with ⟨g1, rfl⟩ | ⟨g1, g2, a, b, rfl⟩ | ⟨rfl, a, b, c, rfl⟩
    ·have : op = 1 ∨ op = 2 ∨ op = 3 ∨ op = 4 := by omega
     rcases this with rfl | rfl | rfl | rfl
     ·obtain ⟨t, rfl, h1, h2⟩ := zFq (x := (2, Go.Lib.itoa n)) h
      simp only [List.cons_append, List.nil_append, factP, h1, if_true, h2, digs_itoa n1 n2]
     all_goals
      have hn := well_n hw (by decide)
      subst hn
     ·obtain ⟨t, rfl, h1, h2⟩ := zFq (x := (1, tKm)) h
      rw [List.cons_append, List.nil_append, fact_name (i := 0) h1 h2 (by decide)]; rfl
     ·obtain ⟨t, rfl, h1, h2⟩ := zFq (x := (1, tCy)) h
      rw [List.cons_append, List.nil_append, fact_name (i := 1) h1 h2 (by decide)]; rfl
     ·obtain ⟨t, rfl, h1, h2⟩ := zFq (x := (1, tLd)) h
      rw [List.cons_append, List.nil_append, fact_name (i := 2) h1 h2 (by decide)]; rfl
    ·have h9 : op = 9 ∨ op = 10 := by omega
     have hn := well_n hw (by omega)
     subst hn
     rw [tkL2] at h
     obtain ⟨i, w, ho, hw1, hw2, h'⟩ : ∃ (i : Nat) (w : Tx), op = 9 + (i : Int) ∧ [tKm, tCy, tLd].findIdx? (fun x => w == x) = none ∧ ([tMin, tMax, tIf].findIdx? (fun x => w == x) = some i ∧ max 1 i = 1) ∧
      l1.map kt = (1, w) :: (4, [40]) :: (tkF a 0 ++ ((4, [44]) :: (tkF b 0 ++ [(4, [41])]))) := by
      rcases h9 with rfl | rfl
      ·exact ⟨0, tMin, rfl, by decide, ⟨by decide, rfl⟩, h⟩
      ·exact ⟨1, tMax, rfl, by decide, ⟨by decide, rfl⟩, h⟩
     obtain ⟨t1, r1, rfl, a1, a2, h1⟩ := map_cons h'
     obtain ⟨t2, r2, rfl, b1, b2, h2⟩ := map_cons h1
     obtain ⟨la, r3, rfl, ha, h3⟩ := zEl h2
     obtain ⟨t3, r4, rfl, c1, c2, h4⟩ := map_cons h3
     obtain ⟨lb, r5, rfl, hb, h5⟩ := zEl h4
     obtain ⟨t5, rfl, d1, d2⟩ := zFq h5
     simp only [List.length_cons, List.length_append] at hK
     simp only [List.append_assoc, List.cons_append, List.nil_append]
     rw [fact_call a1 a2 hw1 hw2.1]
     simp only [callP, zD5 b1 b2]
     rw [hfo a (hkw a (by simp)) la _ ha (by omega) (zEw c1 c2 (.inr rfl))]
     simp only [thenP, hw2.2, argsP, zD5 c1 c2]
     rw [hfo b (hkw b (by simp)) lb _ hb (by omega) (zEw d1 d2 (.inl rfl))]
     simp only [thenP, argsP, zD5 d1 d2, ho]
     rfl
    ·have hn := well_n hw (by omega)
     subst hn
     rw [tkL3] at h
     have h' : l1.map kt = (1, tIf) :: (4, [40]) :: (tkF a 0 ++ ((4, [44]) :: (tkF b 0 ++ ((4, [44]) :: (tkF c 0 ++ [(4, [41])]))))) := h
     obtain ⟨t1, r1, rfl, a1, a2, h1⟩ := map_cons h'
     obtain ⟨t2, r2, rfl, b1, b2, h2⟩ := map_cons h1
     obtain ⟨la, r3, rfl, ha, h3⟩ := zEl h2
     obtain ⟨t3, r4, rfl, c1, c2, h4⟩ := map_cons h3
     obtain ⟨lb, r5, rfl, hb, h5⟩ := zEl h4
     obtain ⟨t4, r6, rfl, e1, e2, h6⟩ := map_cons h5
     obtain ⟨lc, r7, rfl, hc, h7⟩ := zEl h6
     obtain ⟨t5, rfl, d1, d2⟩ := zFq h7
     simp only [List.length_cons, List.length_append] at hK
     simp only [List.append_assoc, List.cons_append, List.nil_append]
     rw [fact_call (i := 2) a1 a2 (by decide) (by decide)]
     simp only [callP, zD5 b1 b2]
     rw [hfo a (hkw a (by simp)) la _ ha (by omega) (zEw c1 c2 (.inr rfl))]
     rw [show max 1 2 = 2 from rfl]
     simp only [thenP, argsP, zD5 c1 c2]
     rw [hfo b (hkw b (by simp)) lb _ hb (by omega) (zEw e1 e2 (.inr rfl))]
     simp only [thenP, argsP, zD5 e1 e2]
     rw [hfo c (hkw c (by simp)) lc _ hc (by omega) (zEw d1 d2 (.inl rfl))]
     simp only [thenP, argsP, zD5 d1 d2]
     rfl
   have P2 : ∀ l1 rest k, l1.map kt = tkF (.mk op n ks) 1 → l1.length ≤ K → rest.length ≤ k → zDk (factP fo en) 7 [42] [47] (l1 ++ rest) = loopP (factP fo en) 7 [42] [47] k (.mk op n ks) rest := by
    intro l1 rest k' h hK hk'
    by_cases h1 : rankF op = 1
    ·have h78 : op = 7 ∨ op = 8 := by unfold rankF at h1; repeat' split at h1 <;> first | omega | assumption
     have hn := well_n hw (by omega)
     subst hn
     obtain ⟨a, b, rfl⟩ : ∃ a b, ks = [a, b] := by
      rcases hc with ⟨g1, _⟩ | ⟨_, _, a, b, rfl⟩ | ⟨g1, _⟩
      ·omega
      ·exact ⟨a, b, rfl⟩
      ·omega
     have hb0 : bodyK op 0 [tkF a 1, tkF b 2] = tkF a 1 ++ ((4, symF op) :: tkF b 2) := by rcases h78 with rfl | rfl <;> rfl
     simp only [tkF, parK, h1] at h
     rw [if_neg (by omega), if_neg (by omega), tkL2] at h
     rw [show (1 : Int) + 1 = 2 from rfl, hb0] at h
     obtain ⟨la, r1, rfl, ha, h2⟩ := zEl h
     obtain ⟨t, lb, rfl, c1, c2, hb⟩ := map_cons h2
     simp only [List.length_cons, List.length_append] at hK
     rw [List.append_assoc, (ih a (by simp)).2.1 la _ ((t :: lb ++ rest).length) ha (by omega) (Nat.le_refl _)]
     obtain ⟨i, ho, hi⟩ := symK op (by omega) (by omega)
     rw [if_neg (by omega)] at ho
     rw [if_neg (by omega), if_neg (by omega)] at hi
     rw [List.cons_append, List.length_cons]
     simp only [loopP, got_op c1 c2 hi, List.tail_cons]
     rw [(ih b (by simp)).1 lb rest hb (by omega)]
     simp only [thenP]
     rw [← ho]
     exact zEm (fact_shr hs en) _ _ _ _ _ _ _ (by simp) hk'
    ·have e : tkF (.mk op n ks) 1 = tkF (.mk op n ks) 2 := by
      by_cases h2 : rankF op < 1
      ·rw [tkF_par h2, tkF_par (l := 2) (by omega)]
      ·exact tkF_up (by omega) (by unfold rankF at h1 h2 ⊢; repeat' split at h1 <;> first | omega | (split <;> omega))
     rw [e] at h
     unfold zDk
     rw [P1 l1 rest h hK]
     simp only [thenP]
     exact zEm (fact_shr hs en) _ _ _ _ _ _ _ (Nat.le_refl _) hk'
   refine ⟨P1, P2, ?_⟩
   intro l1 rest k' h hK hst hk'
   by_cases h0 : rankF op = 0
   ·have h56 : op = 5 ∨ op = 6 := by unfold rankF at h0; repeat' split at h0 <;> first | omega | assumption
    have hn := well_n hw (by omega)
    subst hn
    obtain ⟨a, b, rfl⟩ : ∃ a b, ks = [a, b] := by
     rcases hc with ⟨g1, _⟩ | ⟨_, _, a, b, rfl⟩ | ⟨g1, _⟩
     ·omega
     ·exact ⟨a, b, rfl⟩
     ·omega
    have hb0 : bodyK op 0 [tkF a 0, tkF b 1] = tkF a 0 ++ ((4, symF op) :: tkF b 1) := by rcases h56 with rfl | rfl <;> rfl
    simp only [tkF, parK, h0] at h
    rw [if_neg (by omega), if_neg (by omega), tkL2] at h
    rw [show (0 : Int) + 1 = 1 from rfl, hb0] at h
    obtain ⟨la, r1, rfl, ha, h2⟩ := zEl h
    obtain ⟨t, lb, rfl, c1, c2, hb⟩ := map_cons h2
    simp only [List.length_cons, List.length_append] at hK
    rw [List.append_assoc, (ih a (by simp)).2.2 la _ ((t :: lb ++ rest).length) ha (by omega) (by rw [List.cons_append]; exact stop_op c1 c2 h56) (Nat.le_refl _)]
    obtain ⟨i, ho, hi⟩ := symK op (by omega) (by omega)
    rw [if_pos (by omega)] at ho
    rw [if_pos (by omega), if_pos (by omega)] at hi
    rw [List.cons_append, List.length_cons]
    simp only [loopP, got_op c1 c2 hi, List.tail_cons]
    have hpb : prodP fo en (lb ++ rest) = .ok b rest := by
     unfold prodP
     rw [(ih b (by simp)).2.1 lb rest rest.length hb (by omega) (Nat.le_refl _), loop_stop hst]
    rw [hpb]
    simp only [thenP]
    rw [← ho]
    exact zEm (prod_shr hs en) _ _ _ _ _ _ _ (by simp) hk'
   ·have e : tkF (.mk op n ks) 0 = tkF (.mk op n ks) 1 := tkF_up hr0 (by omega)
    rw [e] at h
    have hpb : prodP fo en (l1 ++ rest) = .ok (.mk op n ks) rest := by
     unfold prodP
     rw [P2 l1 rest rest.length h hK (Nat.le_refl _), loop_stop hst]
    unfold zDk
    rw [hpb]
    simp only [thenP]
    exact zEm (prod_shr hs en) _ _ _ _ _ _ _ (Nat.le_refl _) hk'
theorem form_w (en : Int) : ∀ K, ∀ g, g.well = true → ∀ l1 rest, l1.map kt = tkF g 0 → l1.length < K → stopS rest → formP en K (l1 ++ rest) = .ok g rest
 | 0, g, _, l1, _, _, h, _ => by omega
 | K + 1, g, hw, l1, rest, h, hK, hst => by
   have hp := (inner_w (en := en) (form_w en K) (form_shr en K) g.nodes g (Nat.le_refl _) hw).2.2 l1 rest rest.length h (by omega) hst.2 (Nat.le_refl _)
   simp only [formP, sumP]
   rw [hp, loop_stop hst.1]
end Go.Proofs.YtkjnhkoipgdfeaaDoor
end
section
set_option linter.unusedSimpArgs false
set_option linter.unusedVariables false
namespace Go.Proofs.YtkjnhkoipgdfeaaDoor
def Lx (s : Tx) (ts : List Kt) : Prop := ∀ k i, s.length ≤ k → (lexF k s i).map (fun f => (kt f.tok, f.err)) = ts.map (fun x => (x, (0 : Int)))
def noW (s : Tx) : Prop := s.head?.any zBh = false
theorem zC3 {c : UInt8} {s : Tx} (h : zBh c = false) : noW (c :: s) := by simp [noW, h]
theorem noW_nil : noW [] := rfl
theorem lx_nil : Lx [] [] := fun k i _ => by cases k <;> simp [lexF]
theorem lx_gap {c : UInt8} {s : Tx} {ts : List Kt} {n : Nat} (hs : ∀ i, step (c :: s) i = (n + 1, none)) {r : Tx} (hr : s.drop n = r) (h : Lx r ts) : Lx (c :: s) ts := by
 intro k i hk
 simp only [List.length_cons] at hk
 obtain ⟨k, rfl⟩ : ∃ k', k = k' + 1 := ⟨k - 1, by omega⟩
 simp only [lexF, hs]
 rw [if_neg (by simp)]
 simp only [List.drop_succ_cons, hr]
 exact h k _ (by rw [← hr]; simp; omega)
theorem lx_tok {c : UInt8} {s : Tx} {ts : List Kt} {n : Nat} {x : Kt} (hs : ∀ i, step (c :: s) i = (n + 1, some ⟨⟨x.1, x.2, (i : Nat)⟩, 0⟩)) {r : Tx} (hr : s.drop n = r) (h : Lx r ts) : Lx (c :: s) (x :: ts) := by
 intro k i hk
 simp only [List.length_cons] at hk
 obtain ⟨k, rfl⟩ : ∃ k', k = k' + 1 := ⟨k - 1, by omega⟩
 simp only [lexF, hs]
 rw [if_neg (by simp)]
 simp only [if_true, List.map_cons, List.drop_succ_cons, hr]
 rw [h k _ (by rw [← hr]; simp; omega)]
 rfl
theorem zF6 {c : UInt8} {s : Tx} {ts : List Kt} (hc : zCh c = true) (h : Lx s ts) : Lx (c :: s) ts := by
 have h1 : isLet c = false ∧ isDig c = false := by
  have key : ∀ n : Fin 256, zCh (UInt8.ofNat n.val) = true → isLet (UInt8.ofNat n.val) = false ∧ isDig (UInt8.ofNat n.val) = false := by decide +kernel
  have := key ⟨c.toNat, UInt8.toNat_lt c⟩
  have e : UInt8.ofNat c.toNat = c := by simp
  simp only [e] at this
  exact this hc
 refine lx_gap (n := 0) (fun i => ?_) rfl h
 simp [step, h1.1, h1.2, hc]
theorem zE9 {c : UInt8} {s : Tx} {ts : List Kt} (hc : isSym c = true) (h : Lx s ts) : Lx (c :: s) ((4, [c]) :: ts) := by
 have h1 : isLet c = false ∧ isDig c = false ∧ zCh c = false ∧ ¬ c = 35 ∧ ¬ c = 34 := by
  have key : ∀ n : Fin 256, isSym (UInt8.ofNat n.val) = true → isLet (UInt8.ofNat n.val) = false ∧ isDig (UInt8.ofNat n.val) = false ∧ zCh (UInt8.ofNat n.val) = false ∧ ¬ (UInt8.ofNat n.val) = 35 ∧ ¬ (UInt8.ofNat n.val) = 34 := by decide +kernel
  have := key ⟨c.toNat, UInt8.toNat_lt c⟩
  have e : UInt8.ofNat c.toNat = c := by simp
  simp only [e] at this
  exact this hc
 obtain ⟨a1, a2, a3, a4, a5⟩ := h1
 refine lx_tok (n := 0) (x := (4, [c])) (fun i => ?_) rfl h
 simp [step, a1, a2, a3, a4, a5, hc]
theorem spn_app {p : UInt8 → Bool} {w s : Tx} (hw : w.all p = true) (hs : s.head?.any p = false) : spn p (w ++ s) = w.length := by
 unfold spn
 rw [List.takeWhile_append_of_pos (fun a ha => (List.all_eq_true.1 hw) a ha)]
 cases s with
 | nil => simp
 | cons c r =>
   have : p c = false := by simpa using hs
   simp [List.takeWhile_cons, this]
theorem lx_name {c : UInt8} {w s : Tx} {ts : List Kt} (hc : isLet c = true) (hw : (c :: w).all zBh = true) (hl : w.length < 24) (hs : noW s) (h : Lx s ts) : Lx ((c :: w) ++ s) ((1, c :: w) :: ts) := by
 have hn : spn zBh (c :: (w ++ s)) = w.length + 1 := by
  have := spn_app (w := c :: w) (s := s) hw hs
  simpa using this
 show Lx (c :: (w ++ s)) _
 refine lx_tok (n := w.length) (x := (1, c :: w)) (fun i => ?_) (r := s) (by simp) h
 simp only [step, hc, if_true, hn]
 rw [if_neg (by omega)]
 simp
theorem dig_let {c : UInt8} (h : isDig c = true) : isLet c = false := by
 have key : ∀ n : Fin 256, isDig (UInt8.ofNat n.val) = true → isLet (UInt8.ofNat n.val) = false := by decide +kernel
 have := key ⟨c.toNat, UInt8.toNat_lt c⟩
 have e : UInt8.ofNat c.toNat = c := by simp
 simp only [e] at this
 exact this h
theorem noW_dig {s : Tx} (h : noW s) : s.head?.any isDig = false := by
 cases s with
 | nil => rfl
 | cons c r =>
   have : zBh c = false := by simpa [noW] using h
   unfold zBh at this
   simp only [Bool.or_eq_false_iff] at this
   simp [this.1.2]
theorem lx_num {w s : Tx} {ts : List Kt} (hw : numOk w) (hs : noW s) (h : Lx s ts) : Lx (w ++ s) ((2, w) :: ts) := by
 obtain ⟨h1, h2, h3⟩ := hw
 cases w with
 | nil => exact absurd rfl h1
 | cons c w =>
   have hc : isDig c = true := by simp only [List.all_cons, Bool.and_eq_true] at h2; exact h2.1
   have hn : spn isDig (c :: (w ++ s)) = w.length + 1 := by
    have := spn_app (w := c :: w) (s := s) h2 (noW_dig hs)
    simpa using this
   show Lx (c :: (w ++ s)) _
   refine lx_tok (n := w.length) (x := (2, c :: w)) (fun i => ?_) (r := s) (by simp) h
   simp only [step, dig_let hc, hc, if_true, hn, Bool.false_eq_true, if_false]
   have hd : (c :: (w ++ s)).drop (w.length + 1) = s := by simp
   rw [hd]
   have hs' : s.head?.any zBh = false := hs
   rw [if_neg (by simp only [List.length_cons] at h3; rw [hs']; simp; omega)]
   simp
theorem lx_par {t s : Tx} {x ts : List Kt} {r l : Int} (h : ∀ s ts, noW s → Lx s ts → Lx (t ++ s) (x ++ ts)) (hs : noW s) (hl : Lx s ts) : Lx (parW r l t ++ s) (parK r l x ++ ts) := by
 unfold parW parK
 split
 ·have : [40] ++ t ++ [41] ++ s = 40 :: (t ++ 41 :: s) := by simp
  rw [this]
  have : (4, [40]) :: (x ++ [(4, [41])]) ++ ts = (4, [40]) :: (x ++ ((4, [41]) :: ts)) := by simp
  rw [this]
  exact zE9 (by decide) (h _ _ (zC3 (by decide)) (zE9 (by decide) hl))
 ·exact h s ts hs hl
theorem lx_wr : ∀ (k : Nat) (f : F), f.nodes ≤ k → f.well = true → ∀ (least : Int) (s : Tx) (ts : List Kt), noW s → Lx s ts → Lx (wr f least ++ s) (tkF f least ++ ts)
 | 0, f, hk, _, _, _, _, _, _ => by have := zB0 f; omega
 | k + 1, .mk op n ks, hk, hw, least, s, ts, hs, hl => by
   obtain ⟨hkw, o1, o2, n1, n2, hc⟩ := zC4 hw
   have ih : ∀ y ∈ ks, ∀ (least : Int) (s : Tx) (ts : List Kt), noW s → Lx s ts → Lx (wr y least ++ s) (tkF y least ++ ts) := fun y hy => lx_wr k y (by have := zBg (f := .mk op n ks) hy; omega) (hkw y hy)
   simp only [wr, tkF]
   refine lx_par (fun s ts hs hl => ?_) hs hl
   rcases hc with ⟨g1, rfl⟩ | ⟨g1, g2, a, b, rfl⟩ | ⟨rfl, a, b, c, rfl⟩
   ·have : op = 1 ∨ op = 2 ∨ op = 3 ∨ op = 4 := by omega
    rcases this with rfl | rfl | rfl | rfl
    ·exact lx_num (itoa_num n1 n2) hs hl
    ·exact lx_name (c := 107) (w := [109]) (by decide) (by decide) (by decide) hs hl
    ·exact lx_name (c := 99) (w := [121, 99, 108, 101, 115]) (by decide) (by decide) (by decide) hs hl
    ·exact lx_name (c := 108) (w := [111, 97, 100]) (by decide) (by decide) (by decide) hs hl
   ·have ha := ih a (by simp)
    have hb := ih b (by simp)
    have hop : op = 5 ∨ op = 6 ∨ op = 7 ∨ op = 8 ∨ op = 9 ∨ op = 10 := by omega
    have bin : ∀ (y : UInt8) (r0 r1 : Int), isSym y = true → Lx (wr a r0 ++ (32 :: y :: 32 :: (wr b r1 ++ s))) (tkF a r0 ++ ((4, [y]) :: (tkF b r1 ++ ts))) := fun y r0 r1 hy =>
     ha r0 _ _ (zC3 (by decide)) (zF6 (by decide) (zE9 hy (zF6 (by decide) (hb r1 _ _ hs hl))))
    have cal : ∀ (c : UInt8) (w : Tx), isLet c = true → (c :: w).all zBh = true → w.length < 24 → Lx ((c :: w) ++ (40 :: (wr a 0 ++ (44 :: 32 :: (wr b 0 ++ (41 :: s)))))) ((1, c :: w) :: (4, [40]) :: (tkF a 0 ++ ((4, [44]) :: (tkF b 0 ++ ((4, [41]) :: ts))))) := fun c w h1 h2 h3 =>
     lx_name h1 h2 h3 (zC3 (by decide)) (zE9 (by decide) (ha 0 _ _ (zC3 (by decide)) (zE9 (by decide) (zF6 (by decide) (hb 0 _ _ (zC3 (by decide)) (zE9 (by decide) hl))))))
    rcases hop with rfl | rfl | rfl | rfl | rfl | rfl
    ·have := bin 43 0 1 (by decide)
     simpa [bodyW, bodyK, rankF, wrL2, tkL2, symF] using this
    ·have := bin 45 0 1 (by decide)
     simpa [bodyW, bodyK, rankF, wrL2, tkL2, symF] using this
    ·have := bin 42 1 2 (by decide)
     simpa [bodyW, bodyK, rankF, wrL2, tkL2, symF] using this
    ·have := bin 47 1 2 (by decide)
     simpa [bodyW, bodyK, rankF, wrL2, tkL2, symF] using this
    ·have := cal 109 [105, 110] (by decide) (by decide) (by decide)
     simpa [bodyW, bodyK, rankF, wrL2, tkL2, tMin] using this
    ·have := cal 109 [97, 120] (by decide) (by decide) (by decide)
     simpa [bodyW, bodyK, rankF, wrL2, tkL2, tMax] using this
   ·have ha := ih a (by simp)
    have hb := ih b (by simp)
    have hc := ih c (by simp)
    have := lx_name (c := 105) (w := [102]) (s := 40 :: (wr a 0 ++ (44 :: 32 :: (wr b 0 ++ (44 :: 32 :: (wr c 0 ++ (41 :: s))))))) (ts := (4, [40]) :: (tkF a 0 ++ ((4, [44]) :: (tkF b 0 ++ ((4, [44]) :: (tkF c 0 ++ ((4, [41]) :: ts))))))) (by decide) (by decide) (by decide) (zC3 (by decide))
     (zE9 (by decide) (ha 0 _ _ (zC3 (by decide)) (zE9 (by decide) (zF6 (by decide) (hb 0 _ _ (zC3 (by decide)) (zE9 (by decide) (zF6 (by decide) (hc 0 _ _ (zC3 (by decide)) (zE9 (by decide) hl)))))))))
    simpa [bodyW, bodyK, rankF, wrL3, tkL3, tIf] using this
theorem lexP_lx {s : Tx} {ts : List Kt} (h : Lx s ts) : ∃ l, lexP s = (l, 0, 0) ∧ l.map kt = ts := by
 have h1 := h s.length 0 (Nat.le_refl _)
 have he : ∀ f ∈ lexR s, f.err = 0 := by
  intro f hf
  have hm : (kt f.tok, f.err) ∈ (lexF s.length s 0).map (fun f => (kt f.tok, f.err)) := List.mem_map.2 ⟨f, hf, rfl⟩
  rw [h1] at hm
  obtain ⟨x, _, hx⟩ := List.mem_map.1 hm
  have := congrArg Prod.snd hx
  exact this.symm
 have hb : bad (lexR s) = none := by
  unfold bad
  rw [List.find?_eq_none]
  intro f hf
  simp [he f hf]
 refine ⟨(lexR s).map Fo.tok, by unfold lexP; rw [hb], ?_⟩
 have h2 := congrArg (List.map Prod.fst) h1
 simp only [List.map_map] at h2
 rw [List.map_map]
 have e2 : (List.map (Prod.fst ∘ fun x : Kt => (x, (0 : Int))) ts) = ts := by
  have : (Prod.fst ∘ fun x : Kt => (x, (0 : Int))) = id := rfl
  rw [this, List.map_id]
 rw [e2] at h2
 exact h2
theorem parse_wr {f : F} (h : f.valid = true) : zE8 (wr f 0) = (f, 0, 0) := by
 obtain ⟨h1, h2⟩ := valid_iff.1 h
 have hl := lx_wr f.nodes f (Nat.le_refl _) h2 0 [] [] noW_nil lx_nil
 rw [List.append_nil, List.append_nil] at hl
 obtain ⟨l, e1, e2⟩ := lexP_lx hl
 have hp := form_w (wr f 0).length (l.length + 1) f h2 l [] e2 (by omega) stop_nil
 rw [List.append_nil] at hp
 unfold zE8
 rw [e1]
 simp only [if_true, parseT, hp, if_pos h1]
end Go.Proofs.YtkjnhkoipgdfeaaDoor
end
section
set_option linter.unusedSimpArgs false
set_option linter.unusedVariables false
namespace Go.Proofs.YtkjnhkoipgdfeaaDoor
def WellP (op : List Tok → PR) : Prop := ∀ l g r, GoodT l → op l = .ok g r → g.well = true ∧ r <:+ l
theorem well2 {op : Int} {f g : F} (h : 5 ≤ op ∧ op ≤ 10) (hf : f.well = true) (hg : g.well = true) : (F.mk op 0 [f, g]).well = true := by
 simp only [F.well, F.wellL, hf, hg, Bool.and_true, okN, List.length_cons, List.length_nil]
 have : want op = 2 := by unfold want; rw [if_neg (by omega), if_pos (by omega)]
 rw [this]
 exact decide_eq_true (by omega)
theorem loop_well {op : List Tok → PR} (h : WellP op) {first : Int} (hf : 5 ≤ first ∧ first ≤ 9) (a b : Tx) : ∀ k f l g r, GoodT l → f.well = true → loopP op first a b k f l = .ok g r → g.well = true ∧ r <:+ l
 | 0, f, l, g, r, hG, hw, e => by simp only [loopP] at e; cases e; exact ⟨hw, List.suffix_refl _⟩
 | k + 1, f, l, g, r, hG, hw, e => by
   simp only [loopP] at e
   cases hg : gotN 4 [a, b] l with
   | none => rw [hg] at e; cases e; exact ⟨hw, List.suffix_refl _⟩
   | some i =>
     rw [hg] at e
     obtain ⟨t, lt, rfl, _, _, hi, _⟩ := zBt hg
     simp only [List.tail_cons] at e
     simp only [List.length_cons, List.length_nil] at hi
     obtain ⟨f2, r2, e1, e2⟩ := zBp e
     obtain ⟨w1, s1⟩ := h _ _ _ (hG.suf (List.suffix_cons _ _)) e1
     obtain ⟨w2, s2⟩ := loop_well h hf a b k _ _ _ _ (hG.suf (s1.trans (List.suffix_cons _ _))) (well2 (by omega) hw w1) e2
     exact ⟨w2, s2.trans (s1.trans (List.suffix_cons _ _))⟩
theorem chain_well {op : List Tok → PR} (h : WellP op) {first : Int} (hf : 5 ≤ first ∧ first ≤ 9) (a b : Tx) : WellP (zDk op first a b) := by
 intro l g r hG e
 obtain ⟨f2, r2, e1, e2⟩ := zBp e
 obtain ⟨w1, s1⟩ := h _ _ _ hG e1
 obtain ⟨w2, s2⟩ := loop_well h hf a b _ _ _ _ _ (hG.suf s1) w1 e2
 exact ⟨w2, s2.trans s1⟩
theorem args_well {fo : List Tok → PR} (h : WellP fo) (en : Int) {op : Int} (m : Nat) (hm : m = want op) (ho : 9 ≤ op ∧ op ≤ 11) : ∀ n fs l g r, fs.length + n = m → (∀ f ∈ fs, f.well = true) → GoodT l → argsP fo en op n fs l = .ok g r → g.well = true ∧ r <:+ l
 | 0, fs, l, g, r, hl, hw, hG, e => by
   obtain ⟨t, l', rfl, _, e2⟩ := zBa e
   cases e2
   refine ⟨?_, List.suffix_cons _ _⟩
   simp only [F.well, Bool.and_eq_true]
   refine ⟨decide_eq_true ⟨by omega, by omega, by omega, by omega, by omega, by omega⟩, ?_⟩
   rw [wellL_all]
   exact List.all_eq_true.2 hw
 | n + 1, fs, l, g, r, hl, hw, hG, e => by
   obtain ⟨t, l', rfl, _, e2⟩ := zBa e
   obtain ⟨f2, r2, e3, e4⟩ := zBp e2
   obtain ⟨w1, s1⟩ := h _ _ _ (hG.suf (List.suffix_cons _ _)) e3
   obtain ⟨w2, s2⟩ := args_well h en m hm ho n _ _ _ _ (by simp; omega) (fun f hf => by
    rcases List.mem_append.1 hf with q | q
    ·exact hw f q
    ·rw [List.mem_singleton.1 q]; exact w1) (hG.suf (s1.trans (List.suffix_cons _ _))) e4
   exact ⟨w2, s2.trans (s1.trans (List.suffix_cons _ _))⟩
theorem fact_well {fo : List Tok → PR} (h : WellP fo) (en : Int) : WellP (factP fo en) := by
 intro l g r hG e
 cases l with
 | nil => simp [factP] at e
 | cons t l' =>
   have hGt : GoodT l' := hG.suf (List.suffix_cons _ _)
   simp only [factP] at e
   split at e
   ·rename_i hk
    cases e
    have hd := digs_rng (hG t (by simp) hk)
    refine ⟨?_, List.suffix_cons _ _⟩
    simp only [F.well, F.wellL, Bool.and_true]
    exact decide_eq_true ⟨by omega, by omega, rfl, by omega, by omega, fun _ => rfl⟩
   ·split at e
    ·rename_i i hg
     cases e
     obtain ⟨_, _, _, _, _, hi, _⟩ := zBt hg
     simp only [List.length_cons, List.length_nil] at hi
     refine ⟨?_, List.suffix_cons _ _⟩
     simp only [F.well, F.wellL, Bool.and_true]
     have : want (2 + i) = 0 := by unfold want; rw [if_neg (by omega), if_neg (by omega)]
     exact decide_eq_true ⟨by omega, by omega, by rw [this]; rfl, by omega, by omega, by omega⟩
    ·split at e
     ·rename_i i hg
      obtain ⟨_, _, _, _, _, hi, _⟩ := zBt hg
      simp only [List.length_cons, List.length_nil] at hi
      obtain ⟨t3, l3, rfl, _, e2⟩ := zBa e
      obtain ⟨f4, l4, e3, e4⟩ := zBp e2
      obtain ⟨w1, s1⟩ := h _ _ _ (hGt.suf (List.suffix_cons _ _)) e3
      have hwant : 1 + max 1 i = want (9 + i) := by
       have : i = 0 ∨ i = 1 ∨ i = 2 := by omega
       rcases this with rfl | rfl | rfl <;> decide
      obtain ⟨w2, s2⟩ := args_well h en (1 + max 1 i) hwant (by omega) _ _ _ _ _ (by simp) (fun f hf => by rw [List.mem_singleton.1 hf]; exact w1) (hGt.suf (s1.trans (List.suffix_cons _ _))) e4
      exact ⟨w2, s2.trans (s1.trans ((List.suffix_cons _ _).trans (List.suffix_cons _ _)))⟩
     ·obtain ⟨t3, l3, e0, _, e2⟩ := zBa e
      cases e0
      obtain ⟨f4, l4, e3, e4⟩ := zBp e2
      obtain ⟨t5, l5, rfl, _, e5⟩ := zBa e4
      cases e5
      obtain ⟨w1, s1⟩ := h _ _ _ hGt e3
      exact ⟨w1, (List.suffix_cons _ _).trans (s1.trans (List.suffix_cons _ _))⟩
theorem form_well (en : Int) : ∀ k, WellP (formP en k)
 | 0 => fun l g r _ e => by simp [formP] at e
 | k + 1 => chain_well (chain_well (fact_well (form_well en k) en) (by omega) _ _) (by omega) _ _
def ErrP (op : List Tok → PR) : Prop := ∀ l e p, op l = .no e p → e = 8 ∨ e = 9
theorem zGd {en : Int} {l : List Tok} {e p : Int} (h : failP en l = .no e p) : e = 8 ∨ e = 9 := by
 cases l <;> (simp only [failP] at h; cases h; simp)
theorem needno {en : Int} {w : Tx} {l : List Tok} {go : List Tok → PR} {e p : Int} (h : needP en w l go = .no e p) : (failP en l = .no e p) ∨ ∃ t l', l = t :: l' ∧ go l' = .no e p := by
 unfold needP at h
 cases hg : gotN 4 [w] l with
 | none => rw [hg] at h; exact .inl h
 | some i =>
   rw [hg] at h
   obtain ⟨t, l', rfl, _⟩ := zBt hg
   exact .inr ⟨t, l', rfl, h⟩
theorem thenno {p : PR} {go : F → List Tok → PR} {e q : Int} (h : thenP p go = .no e q) : p = .no e q ∨ ∃ f r', p = .ok f r' ∧ go f r' = .no e q := by
 cases p with
 | no e1 q1 => simp only [thenP] at h; exact .inl h
 | ok f r' => exact .inr ⟨f, r', rfl, h⟩
theorem loop_err {op : List Tok → PR} (h : ErrP op) (first : Int) (a b : Tx) : ∀ k f, ErrP (loopP op first a b k f)
 | 0, f => fun l e p q => by simp [loopP] at q
 | k + 1, f => fun l e p q => by
   simp only [loopP] at q
   split at q
   ·cases q
   ·rcases thenno q with q | ⟨f2, r2, _, q⟩
    ·exact h _ _ _ q
    ·exact loop_err h first a b k _ _ _ _ q
theorem chain_err {op : List Tok → PR} (h : ErrP op) (first : Int) (a b : Tx) : ErrP (zDk op first a b) := fun l e p q => by
 rcases thenno q with q | ⟨f2, r2, _, q⟩
 ·exact h _ _ _ q
 ·exact loop_err h first a b _ _ _ _ _ q
theorem args_err {fo : List Tok → PR} (h : ErrP fo) (en op : Int) : ∀ n fs, ErrP (argsP fo en op n fs)
 | 0, fs => fun l e p q => by
   rcases needno q with q | ⟨t, l', _, q⟩
   ·exact zGd q
   ·cases q
 | n + 1, fs => fun l e p q => by
   rcases needno q with q | ⟨t, l', _, q⟩
   ·exact zGd q
   ·rcases thenno q with q | ⟨f2, r2, _, q⟩
    ·exact h _ _ _ q
    ·exact args_err h en op n _ _ _ _ q
theorem fact_err {fo : List Tok → PR} (h : ErrP fo) (en : Int) : ErrP (factP fo en) := fun l e p q => by
 cases l with
 | nil => simp only [factP] at q; cases q; simp
 | cons t l' =>
   simp only [factP] at q
   split at q
   ·cases q
   ·split at q
    ·cases q
    ·split at q
     ·rcases needno q with q | ⟨t, l', _, q⟩
      ·exact zGd q
      ·rcases thenno q with q | ⟨f2, r2, _, q⟩
       ·exact h _ _ _ q
       ·exact args_err h _ _ _ _ _ _ _ q
     ·rcases needno q with q | ⟨t, l', _, q⟩
      ·exact zGd q
      ·rcases thenno q with q | ⟨f2, r2, _, q⟩
       ·exact h _ _ _ q
       ·rcases needno q with q | ⟨t, l', _, q⟩
        ·exact zGd q
        ·cases q
theorem form_errP (en : Int) : ∀ k, ErrP (formP en k)
 | 0 => fun l e p q => by simp only [formP] at q; cases q; simp
 | k + 1 => chain_err (chain_err (fact_err (form_errP en k) en) _ _ _) _ _ _
theorem form_err {en : Int} {k : Nat} {l : List Tok} {e p : Int} (h : formP en k l = .no e p) : e ≠ 0 := by
 rcases form_errP en k l e p h with h | h <;> omega
theorem spn_take {p : UInt8 → Bool} (s : Tx) : (s.take (spn p s)).all p = true ∧ (s.take (spn p s)).length = spn p s := by
 have h : s.take (spn p s) = s.takeWhile p := by
  unfold spn
  have h2 : s = s.takeWhile p ++ s.dropWhile p := (List.takeWhile_append_dropWhile).symm
  conv => lhs; arg 2; rw [h2]
  rw [List.take_left']
  rfl
 rw [h]
 exact ⟨List.all_takeWhile, rfl⟩
theorem step_num {s : Tx} {i : Nat} {f : Fo} (h : (step s i).2 = some f) (he : f.err = 0) (hk : f.tok.kind = 2) : numOk f.tok.text := by
 cases s with
 | nil => simp [step] at h
 | cons c r =>
   simp only [step] at h
   split at h
   ·cases h; cases hk
   ·split at h
    ·rename_i hd
     cases h
     simp only at he ⊢
     split at he
     ·cases he
     rename_i hn
     obtain ⟨q1, q2⟩ := spn_take (p := isDig) (c :: r)
     refine ⟨?_, q1, by rw [q2]; omega⟩
     intro h0
     have : spn isDig (c :: r) = 0 := by rw [← q2, h0]; rfl
     simp [spn, List.takeWhile_cons, hd] at this
    ·split at h
     ·cases h
     ·split at h
      ·cases h
      ·split at h
       ·split at h
        iterate 2
         ·cases h; cases hk
       ·split at h <;> (cases h; cases hk)
theorem lexF_num : ∀ (k : Nat) (s : Tx) (i : Nat), ∀ f ∈ lexF k s i, f.err = 0 → f.tok.kind = 2 → numOk f.tok.text
 | 0, s, i, f, hf, _, _ => by simp [lexF] at hf
 | k + 1, s, i, f, hf, he, hk => by
   simp only [lexF] at hf
   split at hf
   ·simp at hf
   ·split at hf
    ·exact lexF_num k _ _ f hf he hk
    ·rename_i f0 h0
     split at hf
     ·rename_i he0
      rcases List.mem_cons.1 hf with rfl | q
      ·exact step_num h0 he hk
      ·exact lexF_num k _ _ f q he hk
     ·have := List.mem_singleton.1 hf
      subst this
      exact step_num h0 he hk
theorem lexP_good {s : Tx} {l : List Tok} {e p : Int} (h : lexP s = (l, e, p)) : GoodT l ∧ l.length ≤ s.length := by
 unfold lexP at h
 split at h
 ·cases h
  exact ⟨fun t ht => by simp at ht, by simp⟩
 ·rename_i hb
  cases h
  refine ⟨fun t ht hk => ?_, by rw [List.length_map]; exact lexR_len s⟩
  obtain ⟨f, hf, rfl⟩ := List.mem_map.1 ht
  have he : f.err = 0 := by
   have := List.find?_eq_none.1 hb f hf
   simpa using this
  exact lexF_num _ _ _ f hf he hk
theorem parse_valid {s : Tx} {f : F} {p : Int} (h : zE8 s = (f, 0, p)) : f.valid = true ∧ p = 0 := by
 unfold zE8 at h
 split at h
 rename_i l e q hl
 obtain ⟨hG, _⟩ := lexP_good hl
 split at h
 ·unfold parseT at h
  split at h
  ·rename_i e1 p1 h1
   simp only [Prod.mk.injEq] at h
   exfalso
   exact absurd h.2.1 (form_err h1)
  ·simp at h
  ·rename_i g h1
   split at h
   ·rename_i hn
    simp only [Prod.mk.injEq] at h
    obtain ⟨rfl, _, rfl⟩ := h
    exact ⟨valid_iff.2 ⟨hn, (form_well _ _ _ _ _ hG h1).1⟩, rfl⟩
   ·simp at h
 ·rename_i he
  simp only [Prod.mk.injEq] at h
  exact absurd h.2.1 he
end Go.Proofs.YtkjnhkoipgdfeaaDoor
end
section
set_option maxRecDepth 100000
set_option linter.unusedSimpArgs false
set_option linter.unusedVariables false
namespace Go.Proofs.YtkjnhkoipgdfeaaDoor
open Go GoV Go.RowKit
theorem lexP_zero {s : Tx} {l : List Tok} {p : Int} (h : lexP s = (l, 0, p)) : p = 0 := by
 unfold lexP at h
 split at h
 ·rename_i f hf
  have := List.find?_some hf
  simp only [Prod.mk.injEq] at h
  simp [h.2.1] at this
 ·simp only [Prod.mk.injEq] at h
  exact h.2.2.symm
def parD (x : F × Int × Int) : D := .tup [x.1.d, .int .i64 x.2.1, .int .i64 x.2.2]
theorem zD_nn (e p : Int) : (zD e p).nn = parD (zeroF, e, p) := by simp [zD, parD, zeroF, F.d, F.dL, D.nn, D.nnL]
theorem parse_all (s : Tx) (hs : s.length ≤ 4999) : Pur M 13 [.str s] (parD (zE8 s)) := by
 have hq := quote_all s (by omega)
 unfold zE8
 cases hl : lexP s with
 | mk l ep =>
   obtain ⟨e, p⟩ := ep
   simp only
   by_cases he : e = 0
   ·subst he
    have := lexP_zero hl
    subst this
    obtain ⟨hG, hll⟩ := lexP_good hl
    rw [if_pos rfl]
    unfold parseT
    cases hp : formP s.length (l.length + 1) l with
    | no e p => exact pur_res (parse_no s hs hq hl (by omega) hG hp) (zD_nn _ _)
    | ok f r =>
      cases r with
      | cons t r => exact pur_res (parse_more s hs hq hl (by omega) hG hp) (zD_nn _ _)
      | nil =>
        simp only
        by_cases hn : f.nodes ≤ 60
        ·rw [if_pos hn]; exact parse_p s hs hq hl (by omega) hG hp hn
        ·rw [if_neg hn]; exact pur_res (parse_lim s hs hq hl (by omega) hG hp (by omega)) (zD_nn _ _)
   ·rw [if_neg he]
    exact pur_res (parse_lex s hs hq hl he) (zD_nn _ _)
mutual
def sameB : F → F → Bool
 | .mk o n ks, .mk o' n' ks' => decide (o = o') && decide (n = n') && sameL ks ks'
def sameL : List F → List F → Bool
 | [], [] => true
 | a :: u, b :: v => sameB a b && sameL u v
 | _, _ => false
end
mutual
theorem zF1 : ∀ a b : F, sameB a b = true ↔ a = b
 | .mk o n ks, .mk o' n' ks' => by
   simp only [sameB, Bool.and_eq_true, decide_eq_true_eq, F.mk.injEq, zEi ks ks']
   exact and_assoc
theorem zEi : ∀ a b : List F, sameL a b = true ↔ a = b
 | [], [] => by simp [sameL]
 | [], b :: v => by simp [sameL]
 | a :: u, [] => by simp [sameL]
 | a :: u, b :: v => by simp only [sameL, Bool.and_eq_true, zF1 a b, zEi u v, List.cons.injEq]
end
theorem sameB_refl (a : F) : sameB a a = true := (zF1 a a).2 rfl
theorem sameB_eq (a b : F) : sameB a b = (decide (a.op = b.op) && decide (a.num = b.num) && sameL a.kids b.kids) := by cases a; cases b; rfl
theorem sameL_len {a b : List F} (h : a.length ≠ b.length) : sameL a b = false := by
 cases hb : sameL a b
 ·rfl
 ·rw [(zEi a b).1 hb] at h; exact absurd rfl h
theorem sameL_at {a b : List F} {i : Nat} (h1 : i < a.length) (h2 : i < b.length) (h : sameB a[i] b[i] = false) : sameL a b = false := by
 cases hb : sameL a b
 ·rfl
 ·have := (zEi a b).1 hb
  subst this
  rw [sameB_refl] at h; cases h
theorem sameL_all {a b : List F} (hl : a.length = b.length) (h : ∀ i (h1 : i < a.length) (h2 : i < b.length), sameB a[i] b[i] = true) : sameL a b = true := by
 rw [zEi]
 exact List.ext_getElem hl fun i h1 h2 => (zF1 _ _).1 (h i h1 h2)
set_option maxHeartbeats 4000000 in
theorem same_p : ∀ (k : Nat) (x y : F), x.nodes ≤ k → x.nodes ≤ 100000 → Pur M 14 [x.d, y.d] (.bool (sameB x y))
 | 0, x, y, hk, _ => by have := zB0 x; omega
 | k + 1, x, y, hk, hk2 => by
   have ih : ∀ u ∈ x.kids, ∀ v : F, Pur M 14 [u.d, v.d] (.bool (sameB u v)) := fun u hu v => same_p k u v (by have := zBg hu; omega) (by have := zBg hu; omega)
   have hkl : x.kids.length ≤ 100000 := by have := zDu x.kids; have := F.nodes_eq x; omega
   refine k14.ok (C := C14) rfl rfl ?_
   rw [i14]
   unfold c14
   have hlx : (x.kids.map F.d).length = x.kids.length := by simp
   have hly : (y.kids.map F.d).length = y.kids.length := by simp
   rw [F.d_eq, F.d_eq, sameB_eq]
   by_cases h1 : ¬ x.op = y.op
   ·have t1 : (x.op != y.op) = true := by simp [h1]
    have e : (decide (x.op = y.op) && decide (x.num = y.num) && sameL x.kids y.kids) = false := by simp [h1]
    rw [e]
    have wQ := tw; repeat' (first | with_reducible (apply swq; constructor) | simp only [go_sem, seval, P14, q14, t1] | (with_reducible first | (apply cdA; constructor) | (apply gdA; constructor)) | ((with_reducible refine And.intro ?hw ?_); (case hw => exact sw wQ)) | with_reducible intro _)
    all_goals simp [D.closed, D.er]
   have h1 := Decidable.not_not.1 h1
   have t1 : (x.op != y.op) = false := by simp [h1]
   by_cases h2 : ¬ x.num = y.num
   ·have t2 : (x.num != y.num) = true := by simp [h2]
    have e : (decide (x.op = y.op) && decide (x.num = y.num) && sameL x.kids y.kids) = false := by simp [h2]
    rw [e]
    have wQ := tw; repeat' (first | with_reducible (apply swq; constructor) | simp only [go_sem, seval, P14, q14, t1, t2] | (with_reducible first | (apply cdA; constructor) | (apply gdA; constructor)) | ((with_reducible refine And.intro ?hw ?_); (case hw => exact sw wQ)) | with_reducible intro _)
    all_goals simp [D.closed, D.er]
   have h2 := Decidable.not_not.1 h2
   have t2 : (x.num != y.num) = false := by simp [h2]
   by_cases h3 : ¬ x.kids.length = y.kids.length
   ·have t3 : ((x.kids.length : Int) != y.kids.length) = true := by simp; omega
    have e : (decide (x.op = y.op) && decide (x.num = y.num) && sameL x.kids y.kids) = false := by simp [sameL_len h3]
    rw [e]
    have wQ := And.intro @hlx @hly; repeat' (first | with_reducible (apply swq; constructor) | simp only [go_sem, seval, P14, q14, t1, t2, t3, hlx, hly] | (with_reducible first | (apply cdA; constructor) | (apply gdA; constructor)) | ((with_reducible refine And.intro ?hw ?_); (case hw => exact sw wQ)) | with_reducible intro _)
    all_goals simp [D.closed, D.er]
   have h3 := Decidable.not_not.1 h3
   have t3 : ((x.kids.length : Int) != y.kids.length) = false := by simp; omega
   have e : (decide (x.op = y.op) && decide (x.num = y.num) && sameL x.kids y.kids) = sameL x.kids y.kids := by simp [h1, h2]
   rw [e]
   have wQ := And.intro @hlx @hly; repeat' (first | with_reducible (apply swq; constructor) | simp only [go_sem, seval, P14, q14, t1, t2, t3, hlx, hly] | (with_reducible first | (apply cdA; constructor) | (apply gdA; constructor)) | ((with_reducible refine And.intro ?hw ?_); (case hw => exact sw wQ)) | with_reducible intro _)
   refine zB8 [2, 3, 4, 5] (fun i : Nat => ⟨[.u0, .u0, .ptr 0 0, .ptr 1 0, .bool false, .int .i64 i, .u0, .u0, .u0], [], ⟨[.cells x.cells, .cells y.cells], []⟩⟩)
    (fun i => i ≤ x.kids.length ∧ ∀ j (q1 : j < x.kids.length) (q2 : j < y.kids.length), j < i → sameB x.kids[j] y.kids[j] = true) (fun i => x.kids.length - i) 0 ⟨by omega, fun _ _ _ h => by omega⟩ ?_ ?_
   ·simp [keepE, St.keep, F.cells]
   ·rintro i ⟨hi, hall⟩
    by_cases hil : i < x.kids.length
    ·have hil2 : i < y.kids.length := by omega
     have hg : (x.kids.map F.d).getD i .u0 = .agg (x.kids[i]).cells := by simp [List.getD, hil, F.d_eq]
     have hg2 : (y.kids.map F.d).getD i .u0 = .agg (y.kids[i]).cells := by simp [List.getD, hil2, F.d_eq]
     have hd : decide ((i : Int) < x.kids.length) = true := by simp; omega
     have c1 := ih _ (List.getElem_mem hil) y.kids[i]
     have a1 := zAg (x.kids[i]).kids
     have a2 := erL_F (x.kids[i]).kids
     have a3 := zAg (y.kids[i]).kids
     have a4 := erL_F (y.kids[i]).kids
     rw [F.d_eq, F.d_eq] at c1
     cases hb : sameB x.kids[i] y.kids[i]
     ·rw [hb] at c1
      rw [sameL_at hil hil2 hb]
      have wQ := And.intro @hlx (And.intro @hly (And.intro @hg (And.intro @hg2 (And.intro @a1 (And.intro @a2 (And.intro @a3 @a4)))))); repeat' (first | with_reducible (apply swq; constructor) | simp only [go_sem, seval, P14, q14, hlx, hly, hg, hg2, hd] | simp (disch := omega) only [w64, w32, wu8, wu16, wu32, wu64] | ((with_reducible refine zAb (c1) ?he ?hc ?_); (case he | hc => exact sc wQ)) | (with_reducible first | (apply cdA; constructor) | (apply gdA; constructor)) | ((with_reducible refine And.intro ?hw ?_); (case hw => exact sw wQ)) | with_reducible intro _)
      all_goals try (exfalso; omega)
      all_goals simp [D.closed, D.er]
     ·rw [hb] at c1
      have wQ := And.intro @hlx (And.intro @hly (And.intro @hg (And.intro @hg2 (And.intro @a1 (And.intro @a2 (And.intro @a3 @a4)))))); repeat' (first | with_reducible (apply swq; constructor) | simp only [go_sem, seval, P14, q14, hlx, hly, hg, hg2, hd] | simp (disch := omega) only [w64, w32, wu8, wu16, wu32, wu64] | ((with_reducible refine zAb (c1) ?he ?hc ?_); (case he | hc => exact sc wQ)) | (with_reducible first | (apply cdA; constructor) | (apply gdA; constructor)) | ((with_reducible refine And.intro ?hw ?_); (case hw => exact sw wQ)) | with_reducible intro _)
      all_goals try (exfalso; omega)
      refine ⟨i + 1, ⟨by omega, fun j q1 q2 hj => ?_⟩, by omega, ?_⟩
      ·by_cases e : j = i
       ·subst e; exact hb
       ·exact hall j q1 q2 (by omega)
      ·simp [keepE, St.keep, F.cells]
    ·obtain rfl : i = x.kids.length := by omega
     have hd : decide ((x.kids.length : Int) < x.kids.length) = false := by simp
     rw [sameL_all h3 (fun j q1 q2 => hall j q1 q2 q1)]
     have wQ := And.intro @hlx @hly; repeat' (first | with_reducible (apply swq; constructor) | simp only [go_sem, seval, P14, q14, hlx, hly, hd] | simp (disch := omega) only [w64, w32, wu8, wu16, wu32, wu64] | (with_reducible first | (apply cdA; constructor) | (apply gdA; constructor)) | ((with_reducible refine And.intro ?hw ?_); (case hw => exact sw wQ)) | with_reducible intro _)
     all_goals try (exfalso; omega)
     all_goals simp [D.closed, D.er]
end Go.Proofs.YtkjnhkoipgdfeaaDoor
end
section
set_option maxRecDepth 100000
set_option linter.unusedSimpArgs false
set_option linter.unusedVariables false
namespace Go.Proofs.YtkjnhkoipgdfeaaDoor
open Go GoV Go.RowKit
theorem textF_len (f : F) : (textF f).length ≤ 1440 := by
 unfold textF
 split
 ·rename_i h
  obtain ⟨h1, h2⟩ := valid_iff.1 h
  have := wr_len f.nodes f (Nat.le_refl _) h2 0
  omega
 ·simp
theorem textF_inj {f g : F} (hf : f.valid = true) (hg : g.valid = true) (h : textF f = textF g) : f = g := by
 unfold textF at h
 rw [if_pos hf, if_pos hg] at h
 have h1 := parse_wr hf
 rw [h, parse_wr hg] at h1
 exact (congrArg Prod.fst h1).symm
theorem parse_textF {f : F} (h : f.valid = true) : zE8 (textF f) = (f, 0, 0) := by
 unfold textF; rw [if_pos h]; exact parse_wr h
theorem parse_bad {s : Tx} {y : F} {e p : Int} (h : zE8 s = (y, e, p)) (he : e ≠ 0) : y = zeroF := by
 unfold zE8 at h
 split at h
 split at h
 ·unfold parseT at h
  split at h
  iterate 2
   ·simp only [Prod.mk.injEq] at h; exact h.1.symm
  ·split at h
   ·simp only [Prod.mk.injEq] at h; exact absurd h.2.1.symm he
   ·simp only [Prod.mk.injEq] at h; exact h.1.symm
 ·simp only [Prod.mk.injEq] at h; exact h.1.symm
set_option maxHeartbeats 8000000 in
theorem l3_p (f g : F) (text : Tx) : Pur M 3 [f.d, g.d, .str text] (.bool true) := by
 refine k3.ok (C := C3) rfl rfl ?_
 rw [i3]
 unfold c3
 have ch := head_p
 have cf := few_p f
 have cg := few_p g
 have a1 := zAg f.kids
 have a2 := erL_F f.kids
 have a3 := zAg g.kids
 have a4 := erL_F g.kids
 by_cases hf : ¬ f.nodes ≤ 80
 ·rw [decide_eq_false hf, F.d_eq] at cf
  rw [F.d_eq, F.d_eq]
  have wQ := And.intro @a1 (And.intro @a2 (And.intro @a3 @a4)); repeat' (first | with_reducible (apply swq; constructor) | simp only [go_sem, seval, P3, q3] | ((with_reducible refine zAb (ch) ?he ?hc ?_); (case he | hc => exact sc wQ)) | ((with_reducible refine zAb (cf) ?he ?hc ?_); (case he | hc => exact sc wQ)) | (with_reducible first | (apply cdA; constructor) | (apply gdA; constructor)) | ((with_reducible refine And.intro ?hw ?_); (case hw => exact sw wQ)) | with_reducible intro _)
  all_goals simp [D.closed, D.er]
 have hf := Decidable.not_not.1 hf
 by_cases hg : ¬ g.nodes ≤ 80
 ·rw [decide_eq_true hf, F.d_eq] at cf
  rw [decide_eq_false hg, F.d_eq] at cg
  rw [F.d_eq, F.d_eq]
  have wQ := And.intro @a1 (And.intro @a2 (And.intro @a3 @a4)); repeat' (first | with_reducible (apply swq; constructor) | simp only [go_sem, seval, P3, q3] | ((with_reducible refine zAb (ch) ?he ?hc ?_); (case he | hc => exact sc wQ)) | ((with_reducible refine zAb (cf) ?he ?hc ?_); (case he | hc => exact sc wQ)) | ((with_reducible refine zAb (cg) ?he ?hc ?_); (case he | hc => exact sc wQ)) | (with_reducible first | (apply cdA; constructor) | (apply gdA; constructor)) | ((with_reducible refine And.intro ?hw ?_); (case hw => exact sw wQ)) | with_reducible intro _)
  all_goals simp [D.closed, D.er]
 have hg := Decidable.not_not.1 hg
 rw [decide_eq_true hf, F.d_eq] at cf
 rw [decide_eq_true hg, F.d_eq] at cg
 by_cases ht : ¬ text.length ≤ 3000
 ·have hd : decide ((text.length : Int) > 3000) = true := by simp; omega
  rw [F.d_eq, F.d_eq]
  have wQ := And.intro @a1 (And.intro @a2 (And.intro @a3 @a4)); repeat' (first | with_reducible (apply swq; constructor) | simp only [go_sem, seval, P3, q3, hd] | ((with_reducible refine zAb (ch) ?he ?hc ?_); (case he | hc => exact sc wQ)) | ((with_reducible refine zAb (cf) ?he ?hc ?_); (case he | hc => exact sc wQ)) | ((with_reducible refine zAb (cg) ?he ?hc ?_); (case he | hc => exact sc wQ)) | (with_reducible first | (apply cdA; constructor) | (apply gdA; constructor)) | ((with_reducible refine And.intro ?hw ?_); (case hw => exact sw wQ)) | with_reducible intro _)
  all_goals simp [D.closed, D.er]
 have ht := Decidable.not_not.1 ht
 have hd : decide ((text.length : Int) > 3000) = false := by simp; omega
 have tf := text_p f
 have tg := text_p g
 have vf := valid_p f
 have pf := parse_all (textF f) (by have := textF_len f; omega)
 have pt := parse_all text (by omega)
 have sff := same_p f.nodes f f (Nat.le_refl _) (by omega)
 have sfg := same_p f.nodes f g (Nat.le_refl _) (by omega)
 rw [sameB_refl] at sff
 have hfg : g.valid = true → f.valid = true → (textF f == textF g) = sameB f g := fun q1 q2 => by
  rw [Bool.eq_iff_iff, beq_iff_eq, zF1]
  exact ⟨textF_inj q2 q1, fun e => by rw [e]⟩
 have pff := fun h => parse_textF (f := f) h
 have hnil : f.valid = false → textF f = [] := fun h => by unfold textF; simp [h]
 generalize textF f = t1 at *
 generalize textF g = t2 at *
 cases hp : zE8 text with
 | mk y ep =>
   obtain ⟨j, p⟩ := ep
   rw [hp] at pt
   have ty := text_p y
   have vy := valid_p y
   have pown := parse_all (textF y) (by have := textF_len y; omega)
   have b1 := zAg y.kids
   have b2 := erL_F y.kids
   by_cases hj : j = 0
   ·subst hj
    obtain ⟨hv, rfl⟩ := parse_valid hp
    have syy := same_p y.nodes y y (Nat.le_refl _) (by have := (valid_iff.1 hv).1; omega)
    rw [sameB_refl] at syy
    rw [parse_textF hv] at pown
    rw [hv, if_pos rfl] at ty
    rw [hv] at vy
    generalize textF y = t3 at *
    have comb : (f.valid = false) ∨ (f.valid = true ∧ g.valid = false) ∨ (f.valid = true ∧ g.valid = true ∧ sameB f g = true) ∨ (f.valid = true ∧ g.valid = true ∧ sameB f g = false) := by
     cases f.valid <;> cases g.valid <;> cases sameB f g <;> simp
    rcases comb with h | ⟨h, h'⟩ | ⟨h, h', h''⟩ | ⟨h, h', h''⟩
    ·have e := hnil h
     subst e
     rw [h] at tf vf
     simp only [parD, F.d_eq, Bool.false_eq_true, if_false] at *
     have wQ := And.intro @a1 (And.intro @a2 (And.intro @a3 (And.intro @a4 (And.intro @b1 @b2)))); repeat' (first | with_reducible (apply swq; constructor) | simp only [go_sem, seval, P3, q3, hd] | ((with_reducible refine zAb (ch) ?he ?hc ?_); (case he | hc => exact sc wQ)) | ((with_reducible refine zAb (cf) ?he ?hc ?_); (case he | hc => exact sc wQ)) | ((with_reducible refine zAb (cg) ?he ?hc ?_); (case he | hc => exact sc wQ)) | ((with_reducible refine zAb (tf) ?he ?hc ?_); (case he | hc => exact sc wQ)) | ((with_reducible refine zAb (tg) ?he ?hc ?_); (case he | hc => exact sc wQ)) | ((with_reducible refine zAb (vf) ?he ?hc ?_); (case he | hc => exact sc wQ)) | ((with_reducible refine zAb (pt) ?he ?hc ?_); (case he | hc => exact sc wQ)) | ((with_reducible refine zAb (ty) ?he ?hc ?_); (case he | hc => exact sc wQ)) | ((with_reducible refine zAb (pown) ?he ?hc ?_); (case he | hc => exact sc wQ)) | ((with_reducible refine zAb (vy) ?he ?hc ?_); (case he | hc => exact sc wQ)) | ((with_reducible refine zAb (syy) ?he ?hc ?_); (case he | hc => exact sc wQ)) | (with_reducible first | (apply cdA; constructor) | (apply gdA; constructor)) | ((with_reducible refine And.intro ?hw ?_); (case hw => exact sw wQ)) | with_reducible intro _)
     all_goals first | (simp [D.closed, D.er, zeroF, F.op]; done) | (exfalso; rename_i q; revert q; decide)
    ·rw [pff h] at pf
     rw [h] at tf vf
     rw [h'] at tg
     simp only [parD, F.d_eq, Bool.false_eq_true, if_false, if_true] at *
     have wQ := And.intro @a1 (And.intro @a2 (And.intro @a3 (And.intro @a4 (And.intro @b1 @b2)))); repeat' (first | with_reducible (apply swq; constructor) | simp only [go_sem, seval, P3, q3, hd] | ((with_reducible refine zAb (ch) ?he ?hc ?_); (case he | hc => exact sc wQ)) | ((with_reducible refine zAb (cf) ?he ?hc ?_); (case he | hc => exact sc wQ)) | ((with_reducible refine zAb (cg) ?he ?hc ?_); (case he | hc => exact sc wQ)) | ((with_reducible refine zAb (tf) ?he ?hc ?_); (case he | hc => exact sc wQ)) | ((with_reducible refine zAb (tg) ?he ?hc ?_); (case he | hc => exact sc wQ)) | ((with_reducible refine zAb (vf) ?he ?hc ?_); (case he | hc => exact sc wQ)) | ((with_reducible refine zAb (pf) ?he ?hc ?_); (case he | hc => exact sc wQ)) | ((with_reducible refine zAb (sff) ?he ?hc ?_); (case he | hc => exact sc wQ)) | ((with_reducible refine zAb (pt) ?he ?hc ?_); (case he | hc => exact sc wQ)) | ((with_reducible refine zAb (ty) ?he ?hc ?_); (case he | hc => exact sc wQ)) | ((with_reducible refine zAb (pown) ?he ?hc ?_); (case he | hc => exact sc wQ)) | ((with_reducible refine zAb (vy) ?he ?hc ?_); (case he | hc => exact sc wQ)) | ((with_reducible refine zAb (syy) ?he ?hc ?_); (case he | hc => exact sc wQ)) | (with_reducible first | (apply cdA; constructor) | (apply gdA; constructor)) | ((with_reducible refine And.intro ?hw ?_); (case hw => exact sw wQ)) | with_reducible intro _)
     all_goals first | (simp [D.closed, D.er, zeroF, F.op]; done) | (exfalso; rename_i q; revert q; decide)
    iterate 2
     ·rw [pff h] at pf
      rw [h] at tf vf
      rw [h'] at tg
      rw [h''] at sfg
      have t5 := hfg h' h
      rw [h''] at t5
      simp only [parD, F.d_eq, Bool.false_eq_true, if_false, if_true] at *
      have wQ := And.intro @a1 (And.intro @a2 (And.intro @a3 (And.intro @a4 (And.intro @b1 @b2)))); repeat' (first | with_reducible (apply swq; constructor) | simp only [go_sem, seval, P3, q3, hd, t5] | ((with_reducible refine zAb (ch) ?he ?hc ?_); (case he | hc => exact sc wQ)) | ((with_reducible refine zAb (cf) ?he ?hc ?_); (case he | hc => exact sc wQ)) | ((with_reducible refine zAb (cg) ?he ?hc ?_); (case he | hc => exact sc wQ)) | ((with_reducible refine zAb (tf) ?he ?hc ?_); (case he | hc => exact sc wQ)) | ((with_reducible refine zAb (tg) ?he ?hc ?_); (case he | hc => exact sc wQ)) | ((with_reducible refine zAb (vf) ?he ?hc ?_); (case he | hc => exact sc wQ)) | ((with_reducible refine zAb (pf) ?he ?hc ?_); (case he | hc => exact sc wQ)) | ((with_reducible refine zAb (sff) ?he ?hc ?_); (case he | hc => exact sc wQ)) | ((with_reducible refine zAb (sfg) ?he ?hc ?_); (case he | hc => exact sc wQ)) | ((with_reducible refine zAb (pt) ?he ?hc ?_); (case he | hc => exact sc wQ)) | ((with_reducible refine zAb (ty) ?he ?hc ?_); (case he | hc => exact sc wQ)) | ((with_reducible refine zAb (pown) ?he ?hc ?_); (case he | hc => exact sc wQ)) | ((with_reducible refine zAb (vy) ?he ?hc ?_); (case he | hc => exact sc wQ)) | ((with_reducible refine zAb (syy) ?he ?hc ?_); (case he | hc => exact sc wQ)) | (with_reducible first | (apply cdA; constructor) | (apply gdA; constructor)) | ((with_reducible refine And.intro ?hw ?_); (case hw => exact sw wQ)) | with_reducible intro _)
      all_goals first | (simp [D.closed, D.er, zeroF, F.op]; done) | (exfalso; rename_i q; revert q; decide)
   ·have hj2 : (j != 0) = true := by simp [hj]
    have hy := parse_bad hp hj
    subst hy
    have comb : (f.valid = false) ∨ (f.valid = true ∧ g.valid = false) ∨ (f.valid = true ∧ g.valid = true ∧ sameB f g = true) ∨ (f.valid = true ∧ g.valid = true ∧ sameB f g = false) := by
     cases f.valid <;> cases g.valid <;> cases sameB f g <;> simp
    rcases comb with h | ⟨h, h'⟩ | ⟨h, h', h''⟩ | ⟨h, h', h''⟩
    ·have e := hnil h
     subst e
     rw [h] at tf vf
     simp only [parD, F.d_eq, Bool.false_eq_true, if_false] at *
     have wQ := And.intro @a1 (And.intro @a2 (And.intro @a3 (And.intro @a4 (And.intro @b1 @b2)))); repeat' (first | with_reducible (apply swq; constructor) | simp only [go_sem, seval, P3, q3, hd, hj2] | ((with_reducible refine zAb (ch) ?he ?hc ?_); (case he | hc => exact sc wQ)) | ((with_reducible refine zAb (cf) ?he ?hc ?_); (case he | hc => exact sc wQ)) | ((with_reducible refine zAb (cg) ?he ?hc ?_); (case he | hc => exact sc wQ)) | ((with_reducible refine zAb (tf) ?he ?hc ?_); (case he | hc => exact sc wQ)) | ((with_reducible refine zAb (tg) ?he ?hc ?_); (case he | hc => exact sc wQ)) | ((with_reducible refine zAb (vf) ?he ?hc ?_); (case he | hc => exact sc wQ)) | ((with_reducible refine zAb (pt) ?he ?hc ?_); (case he | hc => exact sc wQ)) | (with_reducible first | (apply cdA; constructor) | (apply gdA; constructor)) | ((with_reducible refine And.intro ?hw ?_); (case hw => exact sw wQ)) | with_reducible intro _)
     all_goals first | (simp [D.closed, D.er, zeroF, F.op]; done) | (exfalso; rename_i q; revert q; decide)
    ·rw [pff h] at pf
     rw [h] at tf vf
     rw [h'] at tg
     simp only [parD, F.d_eq, Bool.false_eq_true, if_false, if_true] at *
     have wQ := And.intro @a1 (And.intro @a2 (And.intro @a3 (And.intro @a4 (And.intro @b1 @b2)))); repeat' (first | with_reducible (apply swq; constructor) | simp only [go_sem, seval, P3, q3, hd, hj2] | ((with_reducible refine zAb (ch) ?he ?hc ?_); (case he | hc => exact sc wQ)) | ((with_reducible refine zAb (cf) ?he ?hc ?_); (case he | hc => exact sc wQ)) | ((with_reducible refine zAb (cg) ?he ?hc ?_); (case he | hc => exact sc wQ)) | ((with_reducible refine zAb (tf) ?he ?hc ?_); (case he | hc => exact sc wQ)) | ((with_reducible refine zAb (tg) ?he ?hc ?_); (case he | hc => exact sc wQ)) | ((with_reducible refine zAb (vf) ?he ?hc ?_); (case he | hc => exact sc wQ)) | ((with_reducible refine zAb (pf) ?he ?hc ?_); (case he | hc => exact sc wQ)) | ((with_reducible refine zAb (sff) ?he ?hc ?_); (case he | hc => exact sc wQ)) | ((with_reducible refine zAb (pt) ?he ?hc ?_); (case he | hc => exact sc wQ)) | (with_reducible first | (apply cdA; constructor) | (apply gdA; constructor)) | ((with_reducible refine And.intro ?hw ?_); (case hw => exact sw wQ)) | with_reducible intro _)
     all_goals first | (simp [D.closed, D.er, zeroF, F.op]; done) | (exfalso; rename_i q; revert q; decide)
    iterate 2
     ·rw [pff h] at pf
      rw [h] at tf vf
      rw [h'] at tg
      rw [h''] at sfg
      have t5 := hfg h' h
      rw [h''] at t5
      simp only [parD, F.d_eq, Bool.false_eq_true, if_false, if_true] at *
      have wQ := And.intro @a1 (And.intro @a2 (And.intro @a3 (And.intro @a4 (And.intro @b1 @b2)))); repeat' (first | with_reducible (apply swq; constructor) | simp only [go_sem, seval, P3, q3, hd, t5, hj2] | ((with_reducible refine zAb (ch) ?he ?hc ?_); (case he | hc => exact sc wQ)) | ((with_reducible refine zAb (cf) ?he ?hc ?_); (case he | hc => exact sc wQ)) | ((with_reducible refine zAb (cg) ?he ?hc ?_); (case he | hc => exact sc wQ)) | ((with_reducible refine zAb (tf) ?he ?hc ?_); (case he | hc => exact sc wQ)) | ((with_reducible refine zAb (tg) ?he ?hc ?_); (case he | hc => exact sc wQ)) | ((with_reducible refine zAb (vf) ?he ?hc ?_); (case he | hc => exact sc wQ)) | ((with_reducible refine zAb (pf) ?he ?hc ?_); (case he | hc => exact sc wQ)) | ((with_reducible refine zAb (sff) ?he ?hc ?_); (case he | hc => exact sc wQ)) | ((with_reducible refine zAb (sfg) ?he ?hc ?_); (case he | hc => exact sc wQ)) | ((with_reducible refine zAb (pt) ?he ?hc ?_); (case he | hc => exact sc wQ)) | (with_reducible first | (apply cdA; constructor) | (apply gdA; constructor)) | ((with_reducible refine And.intro ?hw ?_); (case hw => exact sw wQ)) | with_reducible intro _)
      all_goals first | (simp [D.closed, D.er, zeroF, F.op]; done) | (exfalso; rename_i q; revert q; decide)
end Go.Proofs.YtkjnhkoipgdfeaaDoor
end
section
set_option maxRecDepth 100000
set_option linter.unusedSimpArgs false
set_option linter.unusedVariables false
namespace Go.Proofs.YtkjnhkoipgdfeaaDoor
open Go GoV Go.RowKit
theorem opens_kids {w : World} (n : Nat) (h : Opens Tryd.prog w n 24 F.cells (fun _ => True)) : Opens Tryd.prog w (n + 1) 22 (fun l : List F => [.slice (l.map F.d) .no]) (fun _ => True) :=
 (opens_slice Tryd.underlying22 (show 0 < Tryd.prog.cellsOf 24 by rw [show Tryd.prog.cellsOf 24 = 3 by kernel_rfl]; omega) h).imp id (fun a _ => by
  have e : (fun x : F => pk x.cells) = F.d := by funext x; rw [F.d_eq]; rfl
  show [D.slice (a.map F.d) .no] = [D.slice (a.map fun x => pk x.cells) .no]
  rw [e]) (fun a h => trivial)
theorem opens_f {w : World} : ∀ n, Opens Tryd.prog w n 24 F.cells (fun _ => True)
 | 0 => opens_zero
 | n + 1 => by
   have hk : Opens Tryd.prog w n 22 (fun l : List F => [.slice (l.map F.d) .no]) (fun _ => True) := by
    cases n with
    | zero => exact opens_zero
    | succ m => exact opens_kids m (opens_f m)
   have hF : OpensF Tryd.prog w n [⟨"Op", 3, 0, false, "", "", 0⟩, ⟨"N", 3, 1, false, "", "", 8⟩, ⟨"Kids", 22, 2, false, "", "", 16⟩] 0 _ _ :=
    zFn (c := 1) rfl (by kernel_rfl) (opens_i64 Tryd.underlying3) (zFn (c := 1) rfl (by kernel_rfl) (opens_i64 Tryd.underlying3) (zFn (c := 1) rfl (by kernel_rfl) hk opensF_nil))
   exact (opens_struct Tryd.underlying24 (by kernel_rfl) hF).imp (fun a => F.mk a.1 a.2.1 a.2.2.1) (fun a _ => by simp [F.cells, F.op, F.num, F.kids]) (fun a h => trivial)
end Go.Proofs.YtkjnhkoipgdfeaaDoor
end
section
namespace Go.Proofs.YtkjnhkoipgdfeaaDoor
open Go GoV Go.RowKit
theorem texts_c (f g : F) (text : Tx) : Pur M 3 [.agg f.cells, .agg g.cells, .str text] (.bool true) := by
 have h := l3_p f g text
 rw [F.d_eq f, F.d_eq g] at h; exact h
end Go.Proofs.YtkjnhkoipgdfeaaDoor
end