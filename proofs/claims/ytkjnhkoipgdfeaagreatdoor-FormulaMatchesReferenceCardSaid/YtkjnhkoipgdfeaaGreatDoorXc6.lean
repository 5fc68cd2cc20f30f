/- Own texts, merged by a program: the engine that walks the code, and what the functions that the law reaches compute. -/
import Derived.Test.YtkjnhkoipgdfeaaGreatDoorXc5
section
set_option maxRecDepth 100000
set_option linter.unusedSimpArgs false
set_option linter.unusedVariables false
namespace Go.Proofs.YtkjnhkoipgdfeaaGreatDoor
open Go GoV Go.RowKit
theorem step_pos {s : Tx} {i : Nat} {f : Fo} (h : (step s i).2 = some f) : f.tok.pos = i := by
 cases s with
 | nil => simp [step] at h
 | cons c r =>
   simp only [step] at h
   split at h
   ·cases h; rfl
   ·split at h
    ·cases h; rfl
    ·split at h
     ·cases h
     ·split at h
      ·cases h
      ·split at h
       iterate 2
        ·split at h <;> (cases h; rfl)
theorem isBlank_let {c : UInt8} : zA4 c = true → isLet c = false ∧ isDig c = false ∧ (c == 34) = false := fun h => by
 have := zDq (p := fun c => !(zA4 c) || (!(isLet c) && !(isDig c) && !(c == 34))) (by decide +kernel) c
 simpa [h, and_assoc] using this
theorem gap_lx (t : Tx) : ∀ (k i : Nat), t.length - i ≤ k → i ≤ t.length → i ≤ gapT t i ∧ gapT t i ≤ t.length ∧ lx t i = lx t (gapT t i) ∧ (gapT t i < t.length → zA4 (t.getD (gapT t i) 0) = false ∧ t.getD (gapT t i) 0 ≠ 35)
 | k, i, hk, hi => by
   by_cases h : i < t.length
   ·cases k with
    | zero => omega
    | succ k =>
      rw [gapT_step h]
      by_cases h1 : zA4 (t.getD i 0) = true
      ·rw [if_pos h1]
       obtain ⟨q1, q2, q3, q4⟩ := gap_lx t k (i + 1) (by omega) (by omega)
       have hs : step (t.drop i) i = (1, none) := by
        rw [zAt h]
        obtain ⟨b1, b2, _⟩ := isBlank_let h1
        simp only [step]
        rw [if_neg (by rw [b1]; simp), if_neg (by rw [b2]; simp), if_pos h1]
       refine ⟨by omega, q2, ?_, q4⟩
       rw [lx_step h, hs]
       exact q3
      ·rw [if_neg h1]
       by_cases h2 : t.getD i 0 = 35
       ·rw [if_pos h2]
        have hp := hash_pos h h2
        have hl := zFh (p := fun d => !(d == 10)) (t := t) (i := i) hi
        obtain ⟨q1, q2, q3, q4⟩ := gap_lx t k (i + spn (fun d => !(d == 10)) (t.drop i)) (by omega) hl
        have hs : step (t.drop i) i = (spn (fun d => !(d == 10)) (t.drop i), none) := step_hash h (by rw [h2]; decide)
        refine ⟨by omega, q2, ?_, q4⟩
        rw [lx_step h, hs]
        exact q3
       ·rw [if_neg h2]
        exact ⟨Nat.le_refl _, hi, rfl, fun _ => ⟨by simpa using h1, h2⟩⟩
   ·rw [gapT_end h]
    exact ⟨Nat.le_refl _, hi, rfl, fun q => absurd q h⟩
theorem step_some {t : Tx} {i : Nat} (hi : i < t.length) (h1 : zA4 (t.getD i 0) = false) (h2 : t.getD i 0 ≠ 35) : ∃ f, (step (t.drop i) i).2 = some f := by
 rcases cls_all (t.getD i 0) with h | h | h | h | h | h | h | h
 ·exact ⟨_, by rw [zBw hi (.inl h)]⟩
 ·exact absurd (cls_blank h).2.2 (by rw [h1]; simp)
 ·exact absurd (hash_cls _ h) h2
 ·exact ⟨_, by rw [step_let hi h]⟩
 ·exact ⟨_, by rw [step_dig hi h]⟩
 ·exact ⟨_, by rw [zBw hi (.inr h)]⟩
 ·exact ⟨_, by rw [step_sym hi h]⟩
 ·rw [zEv hi h]; split <;> exact ⟨_, rfl⟩
set_option maxHeartbeats 8000000 in
theorem rlex_p (t : Tx) (ht : t.length ≤ 4999) : Pur M 26 [.str t] (.tup [.slice (tokL (lexP t).1) .no, .int .i64 (lexP t).2.1, .int .i64 (lexP t).2.2]) := by
 refine k26.ow (C := C26) rfl rfl ?_
 rw [i26]
 unfold c26
 have hd0 : decide ((t.length : Int) > 20000) = false := by simp; omega
 have cg := gap_p t 0 (by omega) (by omega)
 obtain ⟨a1, a2, a3, a4⟩ := gap_lx t t.length 0 (by omega) (by omega)
 rw [lx_all] at a3
 have hll := lexR_len t
 generalize gapT t 0 = G at *
 have wQ := tw; repeat' (first | with_reducible (apply swq; constructor) | simp only [go_sem, seval, P26, q26, hd0] | ((with_reducible refine zAb (cg) ?he ?hc ?_); (case he | hc => exact sc wQ)) | with_reducible intro _)
 all_goals try (exfalso; omega)
 refine zDt (zDd (zD9 [0, 1, 2, 3, 4, 5]) (weak_new 4 3 (by decide) false rfl)) ?_
 refine zBz [0, 1, 2, 3, 4, 5] 0 1 (by decide) (by decide) (fun x : Nat × List Fo => ⟨[.str t, .lit (.slice none 0 0), .int .i64 0, .int .i64 0, .slice (tokL (x.2.map Fo.tok)) (.tok 0), .int .i64 (x.1 : Nat), .u0, .u0, .u0, .u0, .u0, .u0, .u0], [], ⟨[], [.per 3 x.2.length]⟩⟩)
  (fun x => x.1 ≤ t.length ∧ lexR t = x.2 ++ lx t x.1 ∧ (∀ f ∈ x.2, f.err = 0) ∧ (x.1 < t.length → zA4 (t.getD x.1 0) = false ∧ t.getD x.1 0 ≠ 35)) (fun x => t.length - x.1) (G, []) ⟨a2, by simpa using a3, by simp, a4⟩ ?_ ?_
 ·simp [keepE, St.keepG, St.keep, St.gc, tokL, Hp.cut, Blk.rnL, Blk.rn, Tv.rnL, Tv.rn, D.rnL, D.rn, cutF, Own.rn]
 rintro ⟨j, L⟩ ⟨g1, g2, g3, g4⟩
 simp only at g1 g2 g3 g4 ⊢
 have hLl : L.length ≤ 4999 := by have := congrArg List.length g2; simp only [List.length_append] at this; omega
 have hT := zBy (L.map Fo.tok)
 rw [List.length_map] at hT
 have hel := zBd (L.map Fo.tok)
 have her := zFg (L.map Fo.tok)
 have hcl := zDr (L.map Fo.tok)
 by_cases hj : j < t.length
 ·obtain ⟨b1, b2⟩ := g4 hj
  have hd : decide ((j : Int) < t.length) = true := by simp; omega
  have cn := next_p t j (by omega) hj b1 b2
  obtain ⟨f, hf⟩ := step_some hj b1 b2
  have hls := lx_step hj
  have hok := step_ok t hj
  have hpos := step_pos hf
  cases hst : step (t.drop j) j with
  | mk n o =>
    rw [hst] at cn hf hls hok
    simp only at hf
    subst hf
    simp only at hls hok
    by_cases he : f.err = 0
    ·have hn := hok.2 (.inr ⟨f, rfl, he⟩)
     have hn1 := hok.1
     rw [if_pos he] at hls
     simp only [nextD, if_pos he, Tok.d] at cn
     have cg2 := gap_p t (j + n) (by omega) hn1
     obtain ⟨c1, c2, c3, c4⟩ := gap_lx t t.length (j + n) (by omega) hn1
     generalize gapT t (j + n) = G2 at *
     have h5 : ((L.length : Int) == 5000) = false := by rw [beq_eq_false_iff_ne]; omega
     have happ : tokL (L.map Fo.tok ++ [f.tok]) = tokL (L.map Fo.tok) ++ [f.tok.d] := by simp [tokL]
     have hcast : ((j : Int) + (n : Int)) = ((j + n : Nat) : Int) := by simp
     rw [hcast] at cn
     generalize hTL : tokL (L.map Fo.tok) = TL at *
     have wQ := And.intro @hT @hel; repeat' (first | with_reducible (apply swq; constructor) | simp only [go_sem, seval, P26, q26, hd, hT, h5] | ((with_reducible refine zAb (cn) ?he ?hc ?_); (case he | hc => exact sc wQ)) | ((with_reducible refine zAb (cg2) ?he ?hc ?_); (case he | hc => exact sc wQ)) | ((with_reducible apply zEg); (case he => rfl); (case hK | hc | hr | hV => exact sd wQ)) | ((with_reducible apply s_bsl); (case he | hl | hc => exact sd wQ)) | with_reducible intro _)
     all_goals try (exfalso; omega)
     refine ⟨(G2, L ++ [f]), ⟨c2, by simp only; rw [g2, hls, ← c3]; simp, fun g hg => ?_, c4⟩, by simp only; omega, ?_⟩
     ·rcases List.mem_append.1 hg with q | q
      ·exact g3 g q
      ·rw [List.mem_singleton.1 q]; exact he
     ·simp [keepE, St.keepG, St.keep, St.gc, Hp.cut, Blk.rnL, Blk.rn, Tv.rnL, Tv.rn, D.rnL, D.rn, ← hTL, zAc, happ, cutF, Own.rn, rnL_app2]
    ·rw [if_neg he] at hls
     simp only [nextD, if_neg he] at cn
     have h0 : (f.err != 0) = true := by simp [he]
     have hbad : bad (lexR t) = some f := by
      rw [g2, hls]
      unfold bad
      rw [List.find?_append, List.find?_eq_none.2 (fun g hg => by simp [g3 g hg])]
      simp [he]
     have hP : lexP t = ([], f.err, f.tok.pos) := by unfold lexP; rw [hbad]
     rw [hP, hpos]
     have wQ := tw; repeat' (first | with_reducible (apply swq; constructor) | simp only [go_sem, seval, P26, q26, hd, h0] | ((with_reducible refine zAb (cn) ?he ?hc ?_); (case he | hc => exact sc wQ)) | with_reducible intro _)
     all_goals try (exfalso; omega)
     refine ⟨_, weak_new 1 3 (by decide) false rfl, ?_⟩
     simp [go_sem, D.closed, D.cL, D.er, D.erL, tokL]
 ·have hd : decide ((j : Int) < t.length) = false := by simp; omega
  rw [lx_end (by omega), List.append_nil] at g2
  have hbad : bad (lexR t) = none := by
   unfold bad
   rw [g2]
   exact List.find?_eq_none.2 (fun g hg => by simp [g3 g hg])
  have hP : lexP t = (L.map Fo.tok, 0, 0) := by unfold lexP; rw [hbad, g2]
  rw [hP]
  simp only
  generalize tokL (L.map Fo.tok) = TL at *
  repeat' (first | with_reducible (apply swq; constructor) | simp only [go_sem, seval, P26, q26, hd, hT] | with_reducible intro _)
  all_goals try (exfalso; omega)
  refine ⟨_, zAf, ?_⟩
  simp [D.closed, D.er, D.cL, D.erL, hcl, her]
end Go.Proofs.YtkjnhkoipgdfeaaGreatDoor
end
section
set_option linter.unusedSimpArgs false
set_option linter.unusedVariables false
namespace Go.Proofs.YtkjnhkoipgdfeaaGreatDoor
structure PS where
 i : Nat
 e : Int
 a : Int
section
variable (l : List Tok) (en : Int)
def tkA (i : Nat) : Tok := l.getD i ⟨0, [], 0⟩
def isS (k : Int) (w : Tx) (σ : PS) : Bool := decide (σ.e = 0) && (decide (σ.i < l.length) && ((tkA l σ.i).kind == k && (tkA l σ.i).text == w))
def nx (σ : PS) : PS := ⟨σ.i + 1, σ.e, σ.a⟩
def failS (σ : PS) : PS := if σ.e = 0 then (if σ.i < l.length then ⟨σ.i, 8, (tkA l σ.i).pos⟩ else ⟨σ.i, 9, en⟩) else σ
def skipS (w : Tx) (σ : PS) : PS := if isS l 4 w σ = true then nx σ else failS l en σ
def loopS (opd : PS → F × PS) (first : Int) (a b : Tx) : Nat → F → PS → F × PS
 | 0, f, σ => (f, σ)
 | k + 1, f, σ => if (isS l 4 a σ || isS l 4 b σ) = true then loopS opd first a b k (.mk (if isS l 4 b σ = true then first + 1 else first) 0 [f, (opd (nx σ)).1]) (opd (nx σ)).2 else (f, σ)
def zFa (opd : PS → F × PS) (first : Int) (a b : Tx) (σ : PS) : F × PS := loopS l opd first a b (l.length + 1) (opd σ).1 (opd σ).2
def argS (fo : PS → F × PS) : Nat → List F → PS → List F × PS
 | 0, fs, σ => (fs, σ)
 | n + 1, fs, σ => if σ.e = 0 then argS fo n (fs ++ [(fo (if fs.length = 0 then σ else skipS l en [44] σ)).1]) (fo (if fs.length = 0 then σ else skipS l en [44] σ)).2 else (fs, σ)
def callS (fo : PS → F × PS) (op : Int) (n : Nat) (σ : PS) : F × PS := (.mk op 0 (argS l en fo n [] (skipS l en [40] (nx σ))).1, skipS l en [41] (argS l en fo n [] (skipS l en [40] (nx σ))).2)
def nms : List Tx := [tKm, tCy, tLd, tMin, tMax, tIf]
def nmIx (σ : PS) : Option Nat := nms.findIdx? fun w => isS l 1 w σ
def factS (fo : PS → F × PS) (σ : PS) : F × PS :=
 if σ.e = 0 ∧ σ.i < l.length ∧ (tkA l σ.i).kind = 2 then (.mk 1 (digs (tkA l σ.i).text) [], nx σ)
 else match nmIx l σ with
  | some i => if i < 3 then (.mk (2 + i) 0 [], nx σ) else callS l en fo (6 + i) (if i = 5 then 3 else 2) σ
  | none => if isS l 4 [40] σ = true then ((fo (nx σ)).1, skipS l en [41] (fo (nx σ)).2) else (zeroF, failS l en σ)
def prodS (fo : PS → F × PS) (σ : PS) : F × PS := zFa l (factS l en fo) 7 [42] [47] σ
def formS : Nat → PS → F × PS
 | 0, σ => (zeroF, if σ.e = 0 then ⟨σ.i, 9, en⟩ else σ)
 | k + 1, σ => zFa l (prodS l en (formS k)) 5 [43] [45] σ
def Adv (op : PS → F × PS) : Prop := ∀ σ, σ.i ≤ l.length → σ.i ≤ (op σ).2.i ∧ (op σ).2.i ≤ l.length ∧ (σ.e ≠ 0 → (op σ).2 = σ)
theorem isS_err {k : Int} {w : Tx} {σ : PS} (h : σ.e ≠ 0) : isS l k w σ = false := by simp [isS, h]
theorem zBr {k : Int} {w : Tx} {σ : PS} (h : isS l k w σ = true) : σ.e = 0 ∧ σ.i < l.length ∧ (tkA l σ.i).kind = k ∧ (tkA l σ.i).text = w := by
 simpa [isS, and_assoc] using h
theorem failS_i (σ : PS) : (failS l en σ).i = σ.i := by unfold failS; (repeat' split) <;> rfl
theorem failS_err {σ : PS} (h : σ.e ≠ 0) : failS l en σ = σ := by unfold failS; rw [if_neg h]
theorem skipS_i {w : Tx} {σ : PS} (hi : σ.i ≤ l.length) : σ.i ≤ (skipS l en w σ).i ∧ (skipS l en w σ).i ≤ l.length := by
 unfold skipS
 split
 ·rename_i h
  have := (zBr l h).2.1
  simp only [nx]; omega
 ·rw [failS_i]; omega
theorem zDf {w : Tx} {σ : PS} (h : σ.e ≠ 0) : skipS l en w σ = σ := by
 unfold skipS
 rw [isS_err l h, if_neg (by simp), failS_err l en h]
theorem skipS_or {w : Tx} {σ : PS} : (skipS l en w σ).e ≠ 0 ∨ (σ.i < (skipS l en w σ).i ∧ (skipS l en w σ).e = 0) := by
 unfold skipS
 split
 ·rename_i h
  exact .inr ⟨by simp [nx], (zBr l h).1⟩
 ·left
  unfold failS
  split
  ·split <;> simp
  ·assumption
theorem zEn {op : PS → F × PS} (h : Adv l op) (first : Int) (a b : Tx) : ∀ (k : Nat) (f : F) (σ : PS), σ.i ≤ l.length → σ.i ≤ (loopS l op first a b k f σ).2.i ∧ (loopS l op first a b k f σ).2.i ≤ l.length ∧ (σ.e ≠ 0 → (loopS l op first a b k f σ).2 = σ)
 | 0, f, σ, hi => ⟨Nat.le_refl _, hi, fun _ => rfl⟩
 | k + 1, f, σ, hi => by
   simp only [loopS]
   split
   ·rename_i hh
    have hs : σ.e = 0 ∧ σ.i < l.length := by
     simp only [Bool.or_eq_true] at hh
     rcases hh with q | q
     iterate 2
      ·exact ⟨(zBr l q).1, (zBr l q).2.1⟩
    obtain ⟨q1, q2, _⟩ := h (nx σ) (by simp only [nx]; omega)
    simp only [nx] at q1
    obtain ⟨p1, p2, _⟩ := zEn h first a b k (.mk (if isS l 4 b σ = true then first + 1 else first) 0 [f, (op (nx σ)).1]) (op (nx σ)).2 q2
    exact ⟨by simp only [nx] at p1 q1 ⊢; omega, p2, fun he => absurd hs.1 he⟩
   ·exact ⟨Nat.le_refl _, hi, fun _ => rfl⟩
theorem zE3 {op : PS → F × PS} (h : Adv l op) (first : Int) (a b : Tx) : Adv l (zFa l op first a b) := fun σ hi => by
 obtain ⟨q1, q2, q3⟩ := h σ hi
 obtain ⟨p1, p2, p3⟩ := zEn l h first a b (l.length + 1) (op σ).1 (op σ).2 q2
 exact ⟨Nat.le_trans q1 p1, p2, fun he => by
  have e1 := q3 he
  have := p3 (by rw [e1]; exact he)
  unfold zFa
  rw [this, e1]⟩
theorem argS_adv {fo : PS → F × PS} (h : Adv l fo) : ∀ (n : Nat) (fs : List F) (σ : PS), σ.i ≤ l.length → σ.i ≤ (argS l en fo n fs σ).2.i ∧ (argS l en fo n fs σ).2.i ≤ l.length
 | 0, fs, σ, hi => ⟨Nat.le_refl _, hi⟩
 | n + 1, fs, σ, hi => by
   simp only [argS]
   split
   ·have hs : σ.i ≤ (if fs.length = 0 then σ else skipS l en [44] σ).i ∧ (if fs.length = 0 then σ else skipS l en [44] σ).i ≤ l.length := by
     split
     ·exact ⟨Nat.le_refl _, hi⟩
     ·exact skipS_i l en hi
    generalize (if fs.length = 0 then σ else skipS l en [44] σ) = σ' at *
    obtain ⟨q1, q2, _⟩ := h σ' hs.2
    obtain ⟨p1, p2⟩ := argS_adv h n (fs ++ [(fo σ').1]) (fo σ').2 q2
    exact ⟨by omega, p2⟩
   ·exact ⟨Nat.le_refl _, hi⟩
theorem zFw {σ : PS} {i : Nat} (h : nmIx l σ = some i) : i < 6 ∧ isS l 1 (nms.getD i []) σ = true ∧ ∀ j, j < i → isS l 1 (nms.getD j []) σ = false := by
 unfold nmIx at h
 obtain ⟨q1, q2, q3⟩ := List.findIdx?_eq_some_iff_getElem.1 h
 have hl : nms.length = 6 := rfl
 refine ⟨by omega, ?_, fun j hj => ?_⟩
 ·rw [List.getD_eq_getElem?_getD, List.getElem?_eq_getElem q1]; exact q2
 ·have := q3 j hj
  rw [List.getD_eq_getElem?_getD, List.getElem?_eq_getElem (by omega)]
  simpa using this
theorem nmIx_none {σ : PS} (h : nmIx l σ = none) : ∀ j, j < 6 → isS l 1 (nms.getD j []) σ = false := fun j hj => by
 unfold nmIx at h
 have := List.findIdx?_eq_none_iff.1 h (nms.getD j []) (by
  rw [List.getD_eq_getElem?_getD, List.getElem?_eq_getElem (show j < nms.length from hj)]
  exact List.getElem_mem _)
 simpa using this
theorem zEp {fo : PS → F × PS} (h : Adv l fo) : Adv l (factS l en fo) := fun σ hi => by
 unfold factS
 split
 ·rename_i hh
  exact ⟨by simp only [nx]; omega, by simp only [nx]; omega, fun he => absurd hh.1 he⟩
 ·split
  ·rename_i i hn
   obtain ⟨_, q, _⟩ := zFw l hn
   obtain ⟨q1, q2, _⟩ := zBr l q
   split
   ·exact ⟨by simp only [nx]; omega, by simp only [nx]; omega, fun he => absurd q1 he⟩
   ·unfold callS
    have s1 := skipS_i l en (w := [40]) (σ := nx σ) (by simp only [nx]; omega)
    have s2 := argS_adv l en h (if i = 5 then 3 else 2) [] (skipS l en [40] (nx σ)) s1.2
    have s3 := skipS_i l en (w := [41]) s2.2
    simp only [nx] at s1 s2 s3 ⊢
    exact ⟨by omega, s3.2, fun he => absurd q1 he⟩
  ·split
   ·rename_i q
    obtain ⟨q1, q2, _⟩ := zBr l q
    obtain ⟨p1, p2, _⟩ := h (nx σ) (by simp only [nx]; omega)
    have s3 := skipS_i l en (w := [41]) p2
    simp only [nx] at p1 s3 ⊢
    exact ⟨by omega, s3.2, fun he => absurd q1 he⟩
   ·exact ⟨by rw [failS_i]; omega, by rw [failS_i]; exact hi, fun he => failS_err l en he⟩
theorem zCl : ∀ k, Adv l (formS l en k)
 | 0 => fun σ hi => by
   simp only [formS]
   split
   ·rename_i h
    exact ⟨Nat.le_refl _, hi, fun he => absurd h he⟩
   ·exact ⟨Nat.le_refl _, hi, fun _ => rfl⟩
 | k + 1 => zE3 l (zE3 l (zEp l en (zCl k)) _ _ _) _ _ _
def RS (x : F × PS) : PR → Prop
 | .ok f r => ∃ j, x = (f, ⟨j, 0, 0⟩) ∧ r = l.drop j ∧ j ≤ l.length
 | .no e p => e ≠ 0 ∧ ∃ g j, x = (g, ⟨j, e, p⟩) ∧ j ≤ l.length
def RP2 (op : PS → F × PS) (op' : List Tok → PR) : Prop := ∀ i, i ≤ l.length → RS l (op ⟨i, 0, 0⟩) (op' (l.drop i))
theorem drop_tk {i : Nat} (h : i < l.length) : l.drop i = tkA l i :: l.drop (i + 1) := by
 rw [List.drop_eq_getElem_cons h]
 simp [tkA, List.getD_eq_getElem?_getD, h]
theorem got2 {i : Nat} (h : i ≤ l.length) (k : Int) (ws : List Tx) : gotN k ws (l.drop i) = ws.findIdx? fun w => isS l k w ⟨i, 0, 0⟩ := by
 by_cases hi : i < l.length
 ·rw [drop_tk l hi]
  simp only [gotN]
  by_cases hk : (tkA l i).kind = k
  ·rw [if_pos hk]
   congr 1; funext w
   simp [isS, hi, hk]
  ·rw [if_neg hk]
   symm
   rw [List.findIdx?_eq_none_iff]
   intro w _
   simp [isS, hi, hk]
 ·rw [List.drop_eq_nil_of_le (by omega)]
  simp only [gotN]
  symm
  rw [List.findIdx?_eq_none_iff]
  intro w _
  simp [isS, hi]
theorem fail_rs {i : Nat} (h : i ≤ l.length) (g : F) : RS l (g, failS l en ⟨i, 0, 0⟩) (failP en (l.drop i)) := by
 unfold failS
 rw [if_pos rfl]
 by_cases hi : i < l.length
 ·rw [if_pos hi, drop_tk l hi]
  exact ⟨by decide, g, i, rfl, h⟩
 ·rw [if_neg hi, List.drop_eq_nil_of_le (by omega)]
  exact ⟨by decide, g, i, rfl, h⟩
theorem need_rs {i : Nat} (h : i ≤ l.length) {w : Tx} {go : List Tok → PR} {x : F × PS} (h1 : isS l 4 w ⟨i, 0, 0⟩ = true → i + 1 ≤ l.length → RS l x (go (l.drop (i + 1)))) (h2 : isS l 4 w ⟨i, 0, 0⟩ = false → RS l x (failP en (l.drop i))) : RS l x (needP en w (l.drop i) go) := by
 unfold needP
 rw [got2 l h]
 cases hs : isS l 4 w ⟨i, 0, 0⟩
 ·rw [List.findIdx?_cons, hs]
  simp only [Bool.false_eq_true, if_false, List.findIdx?_nil, Option.map_none]
  exact h2 hs
 ·rw [List.findIdx?_cons, hs]
  simp only [if_true]
  have hi := (zBr l hs).2.1
  rw [List.tail_drop]
  exact h1 hs hi
theorem then_rs {x : F × PS} {p : PR} {y : F × PS} {go : F → List Tok → PR} (h : RS l x p) (h1 : ∀ f j, x = (f, ⟨j, 0, 0⟩) → j ≤ l.length → RS l y (go f (l.drop j))) (h2 : ∀ e q, e ≠ 0 → (∃ g j, x = (g, ⟨j, e, q⟩) ∧ j ≤ l.length) → RS l y (.no e q)) : RS l y (thenP p go) := by
 cases p with
 | ok f r =>
   obtain ⟨j, rfl, rfl, hj⟩ := h
   exact h1 f j rfl hj
 | no e q =>
   obtain ⟨he, hx⟩ := h
   exact h2 e q he hx
theorem loop_rs {op : PS → F × PS} {op' : List Tok → PR} (h : RP2 l op op') (ha : Adv l op) (first : Int) (a b : Tx) (hab : a ≠ b) : ∀ (k k' : Nat) (f : F) (i : Nat), i ≤ l.length → l.length - i < k → l.length - i ≤ k' → RS l (loopS l op first a b k f ⟨i, 0, 0⟩) (loopP op' first a b k' f (l.drop i))
 | 0, k', f, i, hi, hk, _ => by omega
 | k + 1, k', f, i, hi, hk, hk' => by
   simp only [loopS]
   have hg := got2 l hi 4 [a, b]
   cases h1 : isS l 4 a ⟨i, 0, 0⟩ <;> cases h2 : isS l 4 b ⟨i, 0, 0⟩
   ·rw [if_neg (by simp)]
    have hn : gotN 4 [a, b] (l.drop i) = none := by rw [hg]; simp [List.findIdx?_cons, h1, h2]
    rw [loop_stop hn]
    exact ⟨i, rfl, rfl, hi⟩
   ·rw [if_pos (by simp), if_pos rfl]
    have hn : gotN 4 [a, b] (l.drop i) = some 1 := by rw [hg]; simp [List.findIdx?_cons, h1, h2]
    have hil : i < l.length := (zBr l h2).2.1
    obtain ⟨k', rfl⟩ : ∃ q, k' = q + 1 := ⟨k' - 1, by omega⟩
    simp only [loopP, hn, List.tail_drop]
    refine then_rs l (h (i + 1) hil) (fun g j hx hj => ?_) (fun e q he hx => ?_)
    ·have := ha ⟨i + 1, 0, 0⟩ hil
     simp only [nx]
     rw [hx] at this ⊢
     simp only at this ⊢
     exact loop_rs h ha first a b hab k k' _ j hj (by omega) (by omega)
    ·obtain ⟨g, j, hx, hj⟩ := hx
     simp only [nx]
     rw [hx]
     have := zEn l ha first a b k (.mk (first + 1) 0 [f, g]) ⟨j, e, q⟩ hj
     exact ⟨he, _, j, Prod.ext rfl (this.2.2 he), hj⟩
   ·rw [if_pos (by simp), if_neg (by simp)]
    have hn : gotN 4 [a, b] (l.drop i) = some 0 := by rw [hg]; simp [List.findIdx?_cons, h1, h2]
    have hil : i < l.length := (zBr l h1).2.1
    obtain ⟨k', rfl⟩ : ∃ q, k' = q + 1 := ⟨k' - 1, by omega⟩
    simp only [loopP, hn, List.tail_drop]
    refine then_rs l (h (i + 1) hil) (fun g j hx hj => ?_) (fun e q he hx => ?_)
    ·have := ha ⟨i + 1, 0, 0⟩ hil
     simp only [nx]
     rw [hx] at this ⊢
     simp only at this ⊢
     have e0 : first + ((0 : Nat) : Int) = first := by simp
     rw [e0]
     exact loop_rs h ha first a b hab k k' _ j hj (by omega) (by omega)
    ·obtain ⟨g, j, hx, hj⟩ := hx
     simp only [nx]
     rw [hx]
     have := zEn l ha first a b k (.mk first 0 [f, g]) ⟨j, e, q⟩ hj
     exact ⟨he, _, j, Prod.ext rfl (this.2.2 he), hj⟩
   ·exact absurd ((zBr l h1).2.2.2.symm.trans (zBr l h2).2.2.2) hab
theorem chain_rs {op : PS → F × PS} {op' : List Tok → PR} (h : RP2 l op op') (ha : Adv l op) (first : Int) {a b : Tx} (hab : a ≠ b) : RP2 l (zFa l op first a b) (zFb op' first a b) := fun i hi => by
 unfold zFa zFb
 refine then_rs l (h i hi) (fun f j hx hj => ?_) (fun e q he hx => ?_)
 ·rw [hx, List.length_drop]
  exact loop_rs l h ha first a b hab _ _ f j hj (by omega) (Nat.le_refl _)
 ·obtain ⟨g, j, hx, hj⟩ := hx
  rw [hx]
  have := zEn l ha first a b (l.length + 1) g ⟨j, e, q⟩ hj
  exact ⟨he, _, j, Prod.ext rfl (this.2.2 he), hj⟩
end
end Go.Proofs.YtkjnhkoipgdfeaaGreatDoor
end
section
set_option linter.unusedSimpArgs false
set_option linter.unusedVariables false
namespace Go.Proofs.YtkjnhkoipgdfeaaGreatDoor
section
variable (l : List Tok) (en : Int)
theorem zF5 {fo : PS → F × PS} : ∀ (n : Nat) (fs : List F) {σ : PS}, σ.e ≠ 0 → argS l en fo n fs σ = (fs, σ)
 | 0, fs, σ, h => rfl
 | n + 1, fs, σ, h => by simp only [argS]; rw [if_neg h]
theorem args_rs {fo : PS → F × PS} {fo' : List Tok → PR} (h : RP2 l fo fo') (ha : Adv l fo) (op : Int) : ∀ (n : Nat) (fs : List F) (i : Nat), i ≤ l.length → fs ≠ [] →
 RS l (.mk op 0 (argS l en fo n fs ⟨i, 0, 0⟩).1, skipS l en [41] (argS l en fo n fs ⟨i, 0, 0⟩).2) (argsP fo' en op n fs (l.drop i))
 | 0, fs, i, hi, hf => by
   simp only [argS, argsP]
   refine need_rs l en hi (fun h1 h2 => ?_) (fun h1 => ?_)
   ·unfold skipS
    rw [if_pos h1]
    exact ⟨i + 1, rfl, rfl, h2⟩
   ·unfold skipS
    rw [h1, if_neg (by simp)]
    exact fail_rs l en hi _
 | n + 1, fs, i, hi, hf => by
   have hl : ¬ fs.length = 0 := fun q => hf (List.length_eq_zero_iff.1 q)
   simp only [argS, argsP, if_true, if_neg hl]
   refine need_rs l en hi (fun h1 h2 => ?_) (fun h1 => ?_)
   ·have hs : skipS l en [44] ⟨i, 0, 0⟩ = ⟨i + 1, 0, 0⟩ := by unfold skipS; rw [if_pos h1]; rfl
    rw [hs]
    refine then_rs l (h (i + 1) h2) (fun g j hx hj => ?_) (fun e q he hx => ?_)
    ·rw [hx]
     exact args_rs h ha op n (fs ++ [g]) j hj (by simp)
    ·obtain ⟨g, j, hx, hj⟩ := hx
     rw [hx, zF5 l en n _ (show (⟨j, e, q⟩ : PS).e ≠ 0 from he), zDf l en (show (⟨j, e, q⟩ : PS).e ≠ 0 from he)]
     exact ⟨he, _, j, rfl, hj⟩
   ·have hs : skipS l en [44] ⟨i, 0, 0⟩ = failS l en ⟨i, 0, 0⟩ := by unfold skipS; rw [h1, if_neg (by simp)]
    rw [hs]
    have hfi := failS_i l en ⟨i, 0, 0⟩
    have hfe : (failS l en ⟨i, 0, 0⟩).e ≠ 0 := by
     rcases skipS_or l en (w := [44]) (σ := ⟨i, 0, 0⟩) with q | q
     ·rw [hs] at q; exact q
     ·rw [hs, hfi] at q; omega
    have hx := (ha (failS l en ⟨i, 0, 0⟩) (by rw [hfi]; exact hi)).2.2 hfe
    rw [hx, zF5 l en n _ hfe, zDf l en hfe]
    exact fail_rs l en hi _
theorem call_rs {fo : PS → F × PS} {fo' : List Tok → PR} (h : RP2 l fo fo') (ha : Adv l fo) (op : Int) (n : Nat) (i : Nat) (hi : i + 1 ≤ l.length) :
 RS l (callS l en fo op (n + 1) ⟨i, 0, 0⟩) (needP en [40] (l.drop (i + 1)) fun r => thenP (fo' r) fun f r' => argsP fo' en op n [f] r') := by
 unfold callS
 simp only [nx]
 refine need_rs l en hi (fun h1 h2 => ?_) (fun h1 => ?_)
 ·have hs : skipS l en [40] ⟨i + 1, 0, 0⟩ = ⟨i + 1 + 1, 0, 0⟩ := by unfold skipS; rw [if_pos h1]; rfl
  rw [hs]
  simp only [argS, List.length_nil, if_true, List.nil_append]
  refine then_rs l (h (i + 1 + 1) h2) (fun g j hx hj => ?_) (fun e q he hx => ?_)
  ·rw [hx]
   exact args_rs l en h ha op n [g] j hj (by simp)
  ·obtain ⟨g, j, hx, hj⟩ := hx
   rw [hx, zF5 l en n _ (show (⟨j, e, q⟩ : PS).e ≠ 0 from he), zDf l en (show (⟨j, e, q⟩ : PS).e ≠ 0 from he)]
   exact ⟨he, _, j, rfl, hj⟩
 ·have hs : skipS l en [40] ⟨i + 1, 0, 0⟩ = failS l en ⟨i + 1, 0, 0⟩ := by unfold skipS; rw [h1, if_neg (by simp)]
  rw [hs]
  have hfi := failS_i l en ⟨i + 1, 0, 0⟩
  have hfe : (failS l en ⟨i + 1, 0, 0⟩).e ≠ 0 := by
   rcases skipS_or l en (w := [40]) (σ := ⟨i + 1, 0, 0⟩) with q | q
   ·rw [hs] at q; exact q
   ·rw [hs, hfi] at q; omega
  rw [zF5 l en _ _ hfe, zDf l en hfe]
  exact fail_rs l en hi _
theorem nm_split {i : Nat} (hi : i ≤ l.length) : gotN 1 [tKm, tCy, tLd] (l.drop i) = (match nmIx l ⟨i, 0, 0⟩ with | some j => if j < 3 then some j else none | none => none) ∧
 (gotN 1 [tKm, tCy, tLd] (l.drop i) = none → gotN 1 [tMin, tMax, tIf] (l.drop i) = match nmIx l ⟨i, 0, 0⟩ with | some j => some (j - 3) | none => none) := by
 rw [got2 l hi, got2 l hi]
 unfold nmIx nms
 simp only [List.findIdx?_cons, List.findIdx?_nil]
 cases isS l 1 tKm ⟨i, 0, 0⟩ <;> cases isS l 1 tCy ⟨i, 0, 0⟩ <;> cases isS l 1 tLd ⟨i, 0, 0⟩ <;> cases isS l 1 tMin ⟨i, 0, 0⟩ <;> cases isS l 1 tMax ⟨i, 0, 0⟩ <;> cases isS l 1 tIf ⟨i, 0, 0⟩ <;> simp
theorem fact_rs {fo : PS → F × PS} {fo' : List Tok → PR} (h : RP2 l fo fo') (ha : Adv l fo) : RP2 l (factS l en fo) (factP fo' en) := fun i hi => by
 unfold factS
 obtain ⟨n1, n2⟩ := nm_split l hi
 by_cases hil : i < l.length
 ·by_cases hk : (tkA l i).kind = 2
  ·rw [if_pos ⟨rfl, hil, hk⟩, drop_tk l hil]
   simp only [factP]
   rw [if_pos hk]
   exact ⟨i + 1, rfl, rfl, hil⟩
  ·rw [if_neg (fun q => hk q.2.2)]
   have e : factP fo' en (l.drop i) = match gotN 1 [tKm, tCy, tLd] (l.drop i) with
    | some i' => .ok (.mk (2 + i') 0 []) (l.drop (i + 1))
    | none => match gotN 1 [tMin, tMax, tIf] (l.drop i) with
      | some i' => callP fo' en i' (l.drop (i + 1))
      | none => parP fo' en (l.drop i) := by
    rw [drop_tk l hil]; simp only [factP]; rw [if_neg hk]; rfl
   rw [e]
   cases hn : nmIx l ⟨i, 0, 0⟩ with
   | some j =>
     rw [hn] at n1 n2
     obtain ⟨hj6, _, _⟩ := zFw l hn
     simp only at n1 n2 ⊢
     by_cases hj : j < 3
     ·rw [if_pos hj] at n1 ⊢
      rw [n1]
      exact ⟨i + 1, rfl, rfl, hil⟩
     ·rw [if_neg hj] at n1 ⊢
      rw [n1, n2 n1]
      simp only [callP]
      have e1 : (6 + (j : Int)) = 9 + ((j - 3 : Nat) : Int) := by omega
      have e2 : (if j = 5 then 3 else 2) = max 1 (j - 3) + 1 := by
       have : j = 3 ∨ j = 4 ∨ j = 5 := by omega
       rcases this with rfl | rfl | rfl <;> rfl
      rw [e1, e2]
      exact call_rs l en h ha _ _ i hil
   | none =>
     rw [hn] at n1 n2
     simp only at n1 n2 ⊢
     rw [n1, n2 n1]
     simp only [parP]
     refine need_rs l en hi (fun h1 h2 => ?_) (fun h1 => ?_)
     ·rw [if_pos h1]
      simp only [nx]
      refine then_rs l (h (i + 1) h2) (fun g j hx hj => ?_) (fun e q he hx => ?_)
      ·rw [hx]
       refine need_rs l en hj (fun h1 h2 => ?_) (fun h1 => ?_)
       ·unfold skipS
        rw [if_pos h1]
        exact ⟨j + 1, rfl, rfl, h2⟩
       ·unfold skipS
        rw [h1, if_neg (by simp)]
        exact fail_rs l en hj _
      ·obtain ⟨g, j, hx, hj⟩ := hx
       rw [hx, zDf l en (show (⟨j, e, q⟩ : PS).e ≠ 0 from he)]
       exact ⟨he, _, j, rfl, hj⟩
     ·rw [h1, if_neg (by simp)]
      exact fail_rs l en hi _
 ·rw [if_neg (fun q => hil q.2.1)]
  have hd : l.drop i = [] := List.drop_eq_nil_of_le (by omega)
  have hz : ∀ (k : Int) (w : Tx), isS l k w ⟨i, 0, 0⟩ = false := fun k w => by simp [isS, hil]
  have hn : nmIx l ⟨i, 0, 0⟩ = none := by
   unfold nmIx
   exact List.findIdx?_eq_none_iff.2 (fun w _ => hz 1 w)
  rw [hn]
  simp only
  rw [hz, if_neg (by simp)]
  have := fail_rs l en hi zeroF
  rw [hd] at this ⊢
  exact this
theorem form_rs : ∀ k, RP2 l (formS l en k) (formP en k)
 | 0 => fun i hi => ⟨by decide, zeroF, i, rfl, hi⟩
 | k + 1 => chain_rs l (chain_rs l (fact_rs l en (form_rs k) (zCl l en k)) (zEp l en (zCl l en k)) _ (by decide)) (zE3 l (zEp l en (zCl l en k)) _ _ _) _ (by decide)
def parseS : F × Int × Int :=
 let x := formS l en (l.length + 1) ⟨0, 0, 0⟩
 let σ := if x.2.e = 0 ∧ x.2.i < l.length then failS l en x.2 else x.2
 if σ.e ≠ 0 then (zeroF, σ.e, σ.a) else if 60 < x.1.nodes then (zeroF, 7, 0) else (x.1, 0, 0)
theorem parseS_eq : parseS l en = parseT en l := by
 unfold parseS parseT
 have h := form_rs l en (l.length + 1) 0 (by omega)
 rw [List.drop_zero] at h
 cases hp : formP en (l.length + 1) l with
 | no e p =>
   rw [hp] at h
   obtain ⟨he, g, j, hx, hj⟩ := h
   rw [hx]
   simp only
   have hne : ¬ (e = 0 ∧ j < l.length) := fun q => he q.1
   simp only [if_neg hne]
   rw [if_pos he]
 | ok f r =>
   rw [hp] at h
   obtain ⟨j, hx, hr, hj⟩ := h
   rw [hx]
   simp only [true_and]
   by_cases hjl : j < l.length
   ·rw [if_pos hjl]
    rw [drop_tk l hjl] at hr
    subst hr
    unfold failS
    simp only [if_true]
    rw [if_pos hjl, if_pos (by simp)]
   ·rw [if_neg hjl]
    have : r = [] := by rw [hr]; exact List.drop_eq_nil_of_le (by omega)
    subst this
    simp only
    rw [if_neg (by simp)]
    by_cases hn : f.nodes ≤ 60
    ·rw [if_pos hn, if_neg (by omega)]
    ·rw [if_neg hn, if_pos (by omega)]
end
end Go.Proofs.YtkjnhkoipgdfeaaGreatDoor
end
section
set_option maxRecDepth 100000
set_option linter.unusedSimpArgs false
set_option linter.unusedVariables false
namespace Go.Proofs.YtkjnhkoipgdfeaaGreatDoor
open Go GoV Go.RowKit
def hpS (l : List Tok) (en : Int) (σ : PS) : Hp := ⟨[.cells [.slice (tokL l) .no, .int .i64 σ.i, .int .i64 σ.e, .int .i64 σ.a, .int .i64 en, .int .i64 0]], []⟩
theorem tokL_get {l : List Tok} {i : Nat} (h : i < l.length) : (tokL l).getD i .u0 = .agg [.int .i64 (tkA l i).kind, .str (tkA l i).text, .int .i64 (tkA l i).pos] := by
 simp [tokL, List.getD, h, Tok.d, tkA]
set_option maxHeartbeats 4000000 in
theorem is_p (l : List Tok) (en : Int) (hl : l.length ≤ 100000) (k : Int) (w : Tx) (σ : PS) : Eff M 48 [.ptr 0 0, .int .i64 k, .str w] (hpS l en σ) fun d hp => d = .bool (isS l k w σ) ∧ hp = hpS l en σ := by
 refine k48.oe 1 0 rfl rfl rfl ?_
 rw [ie48]
 unfold c48
 obtain ⟨i, e, a⟩ := σ
 unfold hpS
 simp only [isS]
 have hlen := zBy l
 have hel := zBd l
 by_cases he : e = 0
 ·have te : (e == 0) = true := by simp [he]
  by_cases hi : i < l.length
  ·have hd : decide ((i : Int) < l.length) = true := by simp; omega
   have hg := tokL_get hi
   by_cases hk : (tkA l i).kind = k
   ·have tk : ((tkA l i).kind == k) = true := by simp [hk]
    generalize tkA l i = t at *
    generalize tokL l = L at *
    have wQ := And.intro @hlen (And.intro @hg @hel); repeat' (first | with_reducible (apply swq; constructor) | simp only [go_sem, seval, pe48, q48, hlen, hg, te, hd, tk] | ((with_reducible refine And.intro ?hw ?_); (case hw => exact sw wQ)) | with_reducible intro _)
    all_goals try (exfalso; omega)
    exact ⟨_, zAf, by simp [he, hi, hk]⟩
   ·have tk : ((tkA l i).kind == k) = false := by simp [hk]
    generalize tkA l i = t at *
    generalize tokL l = L at *
    have wQ := And.intro @hlen (And.intro @hg @hel); repeat' (first | with_reducible (apply swq; constructor) | simp only [go_sem, seval, pe48, q48, hlen, hg, te, hd, tk] | ((with_reducible refine And.intro ?hw ?_); (case hw => exact sw wQ)) | with_reducible intro _)
    all_goals try (exfalso; omega)
    exact ⟨_, zAf, by simp [he, hi, hk]⟩
  ·have hd : decide ((i : Int) < l.length) = false := by simp; omega
   generalize tokL l = L at *
   repeat' (first | with_reducible (apply swq; constructor) | simp only [go_sem, seval, pe48, q48, hlen, te, hd] | with_reducible intro _)
   all_goals try (exfalso; omega)
   exact ⟨_, zAf, by simp [he, hi]⟩
 ·have te : (e == 0) = false := by simp [he]
  generalize tokL l = L at *
  repeat' (first | with_reducible (apply swq; constructor) | simp only [go_sem, seval, pe48, q48, hlen, te] | with_reducible intro _)
  all_goals try (exfalso; omega)
  exact ⟨_, zAf, by simp [he]⟩
set_option maxHeartbeats 4000000 in
theorem fail_p (l : List Tok) (en : Int) (hl : l.length ≤ 100000) (σ : PS) : Eff M 28 [.ptr 0 0] (hpS l en σ) fun d hp => d = .tup [] ∧ hp = hpS l en (failS l en σ) := by
 refine k28.oe 1 0 rfl rfl rfl ?_
 rw [ie28]
 unfold c28
 obtain ⟨i, e, a⟩ := σ
 unfold hpS failS
 have hlen := zBy l
 have hel := zBd l
 by_cases he : e = 0
 ·have te : (e != 0) = false := by simp [he]
  by_cases hi : i < l.length
  ·have hd : decide ((i : Int) ≥ l.length) = false := by simp; omega
   have hg := tokL_get hi
   rw [if_pos he, if_pos hi]
   generalize tkA l i = t at *
   generalize tokL l = L at *
   have wQ := And.intro @hlen (And.intro @hg @hel); repeat' (first | with_reducible (apply swq; constructor) | simp only [go_sem, seval, pe28, q28, hlen, hg, te, hd] | ((with_reducible refine And.intro ?hw ?_); (case hw => exact sw wQ)) | with_reducible intro _)
   all_goals try (exfalso; omega)
   exact ⟨_, zAf, by simp [setL]⟩
  ·have hd : decide ((i : Int) ≥ l.length) = true := by simp; omega
   rw [if_pos he, if_neg hi]
   generalize tokL l = L at *
   repeat' (first | with_reducible (apply swq; constructor) | simp only [go_sem, seval, pe28, q28, hlen, te, hd] | with_reducible intro _)
   all_goals try (exfalso; omega)
   exact ⟨_, zAf, by simp [setL]⟩
 ·have te : (e != 0) = true := by simp [he]
  rw [if_neg he]
  generalize tokL l = L at *
  repeat' (first | with_reducible (apply swq; constructor) | simp only [go_sem, seval, pe28, q28, hlen, te] | with_reducible intro _)
  all_goals try (exfalso; omega)
  exact ⟨_, zAf, by simp⟩
set_option maxHeartbeats 4000000 in
theorem skip_p (l : List Tok) (en : Int) (hl : l.length ≤ 100000) (w : Tx) (σ : PS) (hi : σ.i ≤ l.length) : Eff M 82 [.ptr 0 0, .str w] (hpS l en σ) fun d hp => d = .tup [] ∧ hp = hpS l en (skipS l en w σ) := by
 refine k82.oe 1 0 rfl rfl rfl ?_
 rw [ie82]
 unfold c82
 have c1 := is_p l en hl 4 w σ
 have c2 := fail_p l en hl σ
 have hnr := zAc
 unfold skipS
 cases hs : isS l 4 w σ
 ·rw [hs] at c1
  rw [if_neg (by simp)]
  generalize failS l en σ = σ2 at *
  unfold hpS at *
  have wQ := @zAc; repeat' (first | with_reducible (apply swq; constructor) | simp only [go_sem, seval, pe82, q82] | ((with_reducible refine o_eff [0] [] (c1) ?hs ?he ?hh ?_); (case hs => exact so); (case he | hh => exact sh wQ); rintro _ _ ⟨rfl, rfl⟩) | ((with_reducible refine o_eff [0] [] (c2) ?hs ?he ?hh ?_); (case hs => exact so); (case he | hh => exact sh wQ); rintro _ _ ⟨rfl, rfl⟩) | with_reducible intro _)
  all_goals try (exfalso; omega)
  exact ⟨_, zAf, by simp⟩
 ·rw [hs] at c1
  rw [if_pos rfl]
  obtain ⟨i, e, a⟩ := σ
  have hcast : ((i : Int) + 1) = ((i + 1 : Nat) : Int) := by omega
  simp only at hi
  unfold hpS nx at *
  have wQ := @zAc; repeat' (first | with_reducible (apply swq; constructor) | simp only [go_sem, seval, pe82, q82] | simp (disch := omega) only [wA] | ((with_reducible refine o_eff [0] [] (c1) ?hs ?he ?hh ?_); (case hs => exact so); (case he | hh => exact sh wQ); rintro _ _ ⟨rfl, rfl⟩) | with_reducible intro _)
  all_goals try (exfalso; omega)
  exact ⟨_, zAf, by simp [setL]⟩
theorem digs_take {s : Tx} {i : Nat} (h : i < s.length) : digs (s.take (i + 1)) = 10 * digs (s.take i) + (((s.getD i 0).toNat : Int) - 48) := by
 have e : s.take (i + 1) = s.take i ++ [s.getD i 0] := by
  rw [List.take_succ_eq_append_getElem h]
  simp [List.getD_eq_getElem?_getD, h]
 unfold digs
 rw [e, List.foldl_append]; rfl
theorem take_num {s : Tx} (h : numOk s) {i : Nat} (hi : i ≤ s.length) : 0 ≤ digs (s.take i) ∧ digs (s.take i) ≤ 9999999 := by
 obtain ⟨h1, h2, h3⟩ := h
 cases i with
 | zero => simp [digs]
 | succ i =>
   refine digs_rng ⟨?_, ?_, ?_⟩
   ·intro e
    have := congrArg List.length e
    rw [List.length_take] at this
    simp only [List.length_nil] at this; omega
   ·rw [List.all_eq_true] at h2 ⊢
    exact fun x hx => h2 x (List.mem_of_mem_take hx)
   ·rw [List.length_take]; omega
set_option maxHeartbeats 4000000 in
theorem number_p (s : Tx) (h : numOk s) : Pur M 80 [.str s] (.int .i64 (digs s)) := by
 refine k80.ok (C := C80) rfl rfl ?_
 rw [i80]
 unfold c80
 have hlen : s.length ≤ 7 := h.2.2
 repeat' (first | with_reducible (apply swq; constructor) | simp only [go_sem, seval, P80, q80] | with_reducible intro _)
 all_goals try (exfalso; omega)
 refine zAu [0, 1, 2, 3] (fun i : Nat => ⟨[.str s, .int .i64 0, .int .i64 (digs (s.take i)), .int .i64 i, .u0], [], ⟨[], []⟩⟩) (fun i => i ≤ s.length) (fun i => s.length - i) 0 (by omega) ?_ ?_
 ·simp [keepE, St.keep, digs]
 rintro i hi
 by_cases hil : i < s.length
 ·have hd : decide ((i : Int) < s.length) = true := by simp; omega
  have ht := digs_take hil
  have b1 := take_num h hi
  have b2 := take_num h (i := i + 1) hil
  have hdg : isDig (s.getD i 0) = true := by
   have := (List.all_eq_true.1 h.2.1) (s.getD i 0) (by simp [List.getD_eq_getElem?_getD, hil])
   exact this
  have hb : 48 ≤ (s.getD i 0).toNat ∧ (s.getD i 0).toNat ≤ 57 := by unfold isDig at hdg; exact of_decide_eq_true hdg
  generalize hc : s.getD i 0 = c at *
  generalize digs (s.take i) = n at *
  have wQ := tw; repeat' (first | with_reducible (apply swq; constructor) | simp only [go_sem, seval, P80, q80, hd, hc] | simp (disch := omega) only [wA] | ((with_reducible refine And.intro ?hw ?_); (case hw => exact sw wQ)) | with_reducible intro _)
  all_goals try (exfalso; omega)
  refine ⟨i + 1, by omega, by omega, ?_⟩
  simp [keepE, St.keep, ht]
 ·obtain rfl : i = s.length := by omega
  have hd : decide ((s.length : Int) < s.length) = false := by simp
  rw [List.take_length]
  repeat' (first | with_reducible (apply swq; constructor) | simp only [go_sem, seval, P80, q80, hd] | with_reducible intro _)
  all_goals try (exfalso; omega)
  all_goals simp [D.closed, D.er]
def kidsN (op : Int) : Int := if 1 ≤ op ∧ op ≤ 4 then 0 else if 5 ≤ op ∧ op ≤ 10 then 2 else if op = 11 then 3 else -1
theorem kids_p (op : Int) : Pur M 49 [.int .i64 op] (.int .i64 (kidsN op)) := by
 refine k49.ok (C := C49) rfl rfl ?_
 rw [i49]
 unfold c49
 unfold kidsN
 have t11 : (op == 11) = decide (op = 11) := by by_cases h : op = 11 <;> simp [h]
 repeat' (first | with_reducible (apply swq; constructor) | simp only [go_sem, seval, P49, q49] | simp (disch := omega) only [wA] | (with_reducible first | (apply cdA; constructor) | (apply gdA; constructor)) | with_reducible intro _)
 all_goals try (exfalso; omega)
 all_goals try simp only [D.closed, D.er, true_and]
 all_goals (congr 1; (repeat' split) <;> omega)
def OpS (l : List Tok) (en : Int) (f : FuncId) (op : PS → F × PS) (N : Nat) : Prop := ∀ σ : PS, σ.i ≤ l.length → 0 < N → (σ.e = 0 → l.length - σ.i < N) → Eff M f [.ptr 0 0] (hpS l en σ) fun d hp => d = (op σ).1.d ∧ hp = hpS l en (op σ).2
end Go.Proofs.YtkjnhkoipgdfeaaGreatDoor
end
section
set_option maxRecDepth 100000
set_option linter.unusedSimpArgs false
set_option linter.unusedVariables false
namespace Go.Proofs.YtkjnhkoipgdfeaaGreatDoor
open Go GoV Go.RowKit
set_option maxHeartbeats 8000000 in
theorem chain27_e (l : List Tok) (en : Int) (hl : l.length ≤ 100000) {op : PS → F × PS} {N : Nat} (hop : OpS l en 47 op N) (ha : Adv l op) : OpS l en 27 (zFa l op 5 [43] [45]) N := by
 intro σ0 hi0 hNp hN0
 refine zB6 1 0 (Nat.le_refl _) (Nat.le_refl _) (fun β τ => rn_F β τ _) ?_
 refine k27.oe 1 0 rfl rfl rfl ?_
 rw [ie27]
 unfold c27
 have c0 := hop σ0 hi0 hNp hN0
 obtain ⟨a1, a2, a3⟩ := ha σ0 hi0
 have hN1 : (op σ0).2.e = 0 → l.length - (op σ0).2.i < N := fun h => by
  have : σ0.e = 0 := by
   by_cases q : σ0.e = 0
   ·exact q
   ·rw [a3 q] at h; exact absurd h q
  have := hN0 this; omega
 unfold zFa
 generalize op σ0 = x0 at *
 obtain ⟨f0, σ1⟩ := x0
 simp only at a2 c0 hN1 ⊢
 have hrn := fun β τ => rnL_F β τ f0.kids
 rw [f0.d_eq] at c0
 obtain ⟨RA, hRA⟩ : ∃ R, R = (RC.reg r27_8) := ⟨_, rfl⟩
 rw [← hRA]
 generalize hG : loopS l op 5 [43] [45] (l.length + 1) f0 σ1 = G
 unfold hpS at c0 ⊢
 have wQ := And.intro @zAc @hrn; repeat' (first | with_reducible (apply swq; constructor) | simp only [go_sem, seval, pe27, q27] | ((with_reducible refine o_eff [0] [] (c0) ?hs ?he ?hh ?_); (case hs => exact so); (case he | hh => exact sh wQ); rintro _ _ ⟨rfl, rfl⟩) | with_reducible intro _)
 refine zBz [0, 1, 2] 3 0 (by decide) (by decide) (fun x : F × PS × Nat => ⟨[.ptr 0 0, .ptr 1 0, .ptr 2 0, .u0, .u0, .u0, .u0], [], ⟨[.cells [.slice (tokL l) .no, .int .i64 x.2.1.i, .int .i64 x.2.1.e, .int .i64 x.2.1.a, .int .i64 en, .int .i64 0], .cells [.int .i64 0, .int .i64 0, .lit (.slice none 0 0)], .cells x.1.cells], []⟩⟩)
  (fun x => x.2.1.i ≤ l.length ∧ loopS l op 5 [43] [45] x.2.2 x.1 x.2.1 = G ∧ l.length - x.2.1.i < x.2.2 ∧ (x.2.1.e = 0 → l.length - x.2.1.i < N)) (fun x => x.2.2) (f0, σ1, l.length + 1) ⟨a2, hG, by simp only; omega, hN1⟩ ?_ ?_
 ·simp [keepE, St.keepG, St.keep, St.gc, Hp.cut, Blk.rnL, Blk.rn, Tv.rnL, D.rnL, D.rn, zAc, cutF, Own.rn, hrn, F.cells]
 rintro ⟨f, σ, k⟩ ⟨h1, h2, h3, h4⟩
 simp only at h1 h2 h3 h4 ⊢
 have hrn2 := fun β τ => rnL_F β τ f.kids
 have hcl := zAd f.kids
 have her := erL_F f.kids
 have ca := is_p l en hl 4 [43] σ
 have cb := is_p l en hl 4 [45] σ
 obtain ⟨k, rfl⟩ : ∃ k', k = k' + 1 := ⟨k - 1, by omega⟩
 simp only [loopS] at h2
 have go : (isS l 4 [43] σ || isS l 4 [45] σ) = true → σ.e = 0 ∧ σ.i < l.length := fun hh => by
  simp only [Bool.or_eq_true] at hh
  rcases hh with q | q
  iterate 2
   ·exact ⟨(zBr l q).1, (zBr l q).2.1⟩
 have comb : (isS l 4 [43] σ = false ∧ isS l 4 [45] σ = false) ∨ (isS l 4 [43] σ = true ∧ isS l 4 [45] σ = false) ∨ (isS l 4 [43] σ = false ∧ isS l 4 [45] σ = true) := by
  cases q1 : isS l 4 [43] σ <;> cases q2 : isS l 4 [45] σ
  ·exact .inl ⟨rfl, rfl⟩
  ·exact .inr (.inr ⟨rfl, rfl⟩)
  ·exact .inr (.inl ⟨rfl, rfl⟩)
  ·have := (zBr l q1).2.2.2.symm.trans (zBr l q2).2.2.2
   exact absurd this (by decide)
 rcases comb with ⟨q1, q2⟩ | ⟨q1, q2⟩ | ⟨q1, q2⟩
 ·rw [q1] at ca
  rw [q2] at cb
  rw [q1, q2, if_neg (by simp)] at h2
  subst h2
  unfold hpS at ca cb
  have wQ := And.intro @zAc @hrn2; repeat' (first | with_reducible (apply swq; constructor) | simp only [go_sem, seval, pe27, q27] | ((with_reducible refine o_eff [0] [] (ca) ?hs ?he ?hh ?_); (case hs => exact so); (case he | hh => exact sh wQ); rintro _ _ ⟨rfl, rfl⟩) | ((with_reducible refine o_eff [0] [] (cb) ?hs ?he ?hh ?_); (case hs => exact so); (case he | hh => exact sh wQ); rintro _ _ ⟨rfl, rfl⟩) | with_reducible intro _)
  refine ⟨_, zAf, ?_⟩
  simp [D.closed, D.er, D.cL, D.erL, hcl, her, RcS, hpS, Hp.cut, Blk.rnL, Blk.rn, Tv.rnL, D.rnL, D.rn, zAc, Own.rn, F.d_eq, F.cells, setL]
 ·obtain ⟨he0, hil⟩ := go (by rw [q1, q2]; rfl)
  rw [q1] at ca
  rw [q2] at cb
  rw [q1, q2, if_pos (by simp), if_neg (by simp)] at h2
  have c2 := hop (nx σ) (by simp only [nx]; omega) hNp (fun h => by have := h4 he0; simp only [nx]; omega)
  obtain ⟨b1, b2, b3⟩ := ha (nx σ) (by simp only [nx]; omega)
  have hN2 : (op (nx σ)).2.e = 0 → l.length - (op (nx σ)).2.i < N := fun h => by
   have := h4 he0; simp only [nx] at b1 ⊢; omega
  have hcast : ((σ.i : Int) + 1) = ((σ.i + 1 : Nat) : Int) := by omega
  generalize hx2 : op (nx σ) = x2 at *
  obtain ⟨g, σ2⟩ := x2
  simp only [nx] at b1 b2 hN2 h2 c2
  have hrn3 := fun β τ => rnL_F β τ g.kids
  rw [g.d_eq] at c2
  unfold hpS at ca cb c2
  have wQ := And.intro @zAc (And.intro @hrn2 @hrn3); repeat' (first | with_reducible (apply swq; constructor) | simp only [go_sem, seval, pe27, q27, hcast] | simp (disch := omega) only [wA] | ((with_reducible refine o_eff [0] [] (ca) ?hs ?he ?hh ?_); (case hs => exact so); (case he | hh => exact sh wQ); rintro _ _ ⟨rfl, rfl⟩) | ((with_reducible refine o_eff [0] [] (cb) ?hs ?he ?hh ?_); (case hs => exact so); (case he | hh => exact sh wQ); rintro _ _ ⟨rfl, rfl⟩) | ((with_reducible refine o_eff [0] [] (c2) ?hs ?he ?hh ?_); (case hs => exact so); (case he | hh => exact sh wQ); rintro _ _ ⟨rfl, rfl⟩) | with_reducible intro _)
  all_goals try (exfalso; omega)
  rw [hRA]
  refine zCq (Q := fun e s' => e = .normal ∧ s' = ⟨[.ptr 0 0, .ptr 1 0, .ptr 2 0, .int .i64 5, .ptr 3 0, .bool true, .bool false], [], ⟨[.cells [.slice (tokL l) .no, .int .i64 σ2.i, .int .i64 σ2.e, .int .i64 σ2.a, .int .i64 en, .int .i64 0], .cells [.int .i64 0, .int .i64 0, .lit (.slice none 0 0)], .cells [.int .i64 5, .int .i64 0, .slice [f.d, g.d] .full], .cells g.cells], []⟩⟩) ?_ ?_
  ·rw [f.d_eq, g.d_eq]
   have hcl2 := zAd g.kids
   have her2 := erL_F g.kids
   have wQ := And.intro @hcl (And.intro @her (And.intro @hcl2 @her2)); repeat' (first | with_reducible (apply swq; constructor) | simp only [go_sem, seval, pe27, q27] | ((with_reducible apply s_bsl); (case he | hl | hc => exact sd wQ)) | with_reducible intro _)
   all_goals simp [setL, St.done]
  ·rintro _ _ ⟨rfl, rfl⟩
   refine ⟨_, zEs 2 rfl ?_, ?_⟩
   ·simp [D.cL, D.closed, cl_F]
   ·refine ⟨(.mk 5 0 [f, g], σ2, k), ⟨b2, h2, by simp only; omega, hN2⟩, by simp only; omega, ?_⟩
    simp [keepE, St.keepG, St.keep, St.gc, Hp.cut, Blk.rnL, Blk.rn, Tv.rnL, D.rnL, D.rn, zAc, cutF, Own.rn, F.cells, F.op, F.num, F.kids, D.erL, D.er, er_F, rn_F]
 ·obtain ⟨he0, hil⟩ := go (by rw [q1, q2]; rfl)
  rw [q1] at ca
  rw [q2] at cb
  rw [q1, q2, if_pos (by simp), if_pos rfl] at h2
  have c2 := hop (nx σ) (by simp only [nx]; omega) hNp (fun h => by have := h4 he0; simp only [nx]; omega)
  obtain ⟨b1, b2, b3⟩ := ha (nx σ) (by simp only [nx]; omega)
  have hN2 : (op (nx σ)).2.e = 0 → l.length - (op (nx σ)).2.i < N := fun h => by
   have := h4 he0; simp only [nx] at b1 ⊢; omega
  have hcast : ((σ.i : Int) + 1) = ((σ.i + 1 : Nat) : Int) := by omega
  generalize hx2 : op (nx σ) = x2 at *
  obtain ⟨g, σ2⟩ := x2
  simp only [nx] at b1 b2 hN2 h2 c2
  have hrn3 := fun β τ => rnL_F β τ g.kids
  rw [g.d_eq] at c2
  unfold hpS at ca cb c2
  have wQ := And.intro @zAc (And.intro @hrn2 @hrn3); repeat' (first | with_reducible (apply swq; constructor) | simp only [go_sem, seval, pe27, q27, hcast] | simp (disch := omega) only [wA] | ((with_reducible refine o_eff [0] [] (ca) ?hs ?he ?hh ?_); (case hs => exact so); (case he | hh => exact sh wQ); rintro _ _ ⟨rfl, rfl⟩) | ((with_reducible refine o_eff [0] [] (cb) ?hs ?he ?hh ?_); (case hs => exact so); (case he | hh => exact sh wQ); rintro _ _ ⟨rfl, rfl⟩) | ((with_reducible refine o_eff [0] [] (c2) ?hs ?he ?hh ?_); (case hs => exact so); (case he | hh => exact sh wQ); rintro _ _ ⟨rfl, rfl⟩) | with_reducible intro _)
  all_goals try (exfalso; omega)
  rw [hRA]
  refine zCq (Q := fun e s' => e = .normal ∧ s' = ⟨[.ptr 0 0, .ptr 1 0, .ptr 2 0, .int .i64 6, .ptr 3 0, .bool true, .bool true], [], ⟨[.cells [.slice (tokL l) .no, .int .i64 σ2.i, .int .i64 σ2.e, .int .i64 σ2.a, .int .i64 en, .int .i64 0], .cells [.int .i64 0, .int .i64 0, .lit (.slice none 0 0)], .cells [.int .i64 6, .int .i64 0, .slice [f.d, g.d] .full], .cells g.cells], []⟩⟩) ?_ ?_
  ·rw [f.d_eq, g.d_eq]
   have hcl2 := zAd g.kids
   have her2 := erL_F g.kids
   have wQ := And.intro @hcl (And.intro @her (And.intro @hcl2 @her2)); repeat' (first | with_reducible (apply swq; constructor) | simp only [go_sem, seval, pe27, q27] | ((with_reducible apply s_bsl); (case he | hl | hc => exact sd wQ)) | with_reducible intro _)
   all_goals simp [setL, St.done]
  ·rintro _ _ ⟨rfl, rfl⟩
   refine ⟨_, zEs 2 rfl ?_, ?_⟩
   ·simp [D.cL, D.closed, cl_F]
   ·refine ⟨(.mk 6 0 [f, g], σ2, k), ⟨b2, h2, by simp only; omega, hN2⟩, by simp only; omega, ?_⟩
    simp [keepE, St.keepG, St.keep, St.gc, Hp.cut, Blk.rnL, Blk.rn, Tv.rnL, D.rnL, D.rn, zAc, cutF, Own.rn, F.cells, F.op, F.num, F.kids, D.erL, D.er, er_F, rn_F]
set_option maxHeartbeats 8000000 in
theorem chain47_e (l : List Tok) (en : Int) (hl : l.length ≤ 100000) {op : PS → F × PS} {N : Nat} (hop : OpS l en 72 op N) (ha : Adv l op) : OpS l en 47 (zFa l op 7 [42] [47]) N := by
 intro σ0 hi0 hNp hN0
 refine zB6 1 0 (Nat.le_refl _) (Nat.le_refl _) (fun β τ => rn_F β τ _) ?_
 refine k47.oe 1 0 rfl rfl rfl ?_
 rw [ie47]
 unfold c47
 have c0 := hop σ0 hi0 hNp hN0
 obtain ⟨a1, a2, a3⟩ := ha σ0 hi0
 have hN1 : (op σ0).2.e = 0 → l.length - (op σ0).2.i < N := fun h => by
  have : σ0.e = 0 := by
   by_cases q : σ0.e = 0
   ·exact q
   ·rw [a3 q] at h; exact absurd h q
  have := hN0 this; omega
 unfold zFa
 generalize op σ0 = x0 at *
 obtain ⟨f0, σ1⟩ := x0
 simp only at a2 c0 hN1 ⊢
 have hrn := fun β τ => rnL_F β τ f0.kids
 rw [f0.d_eq] at c0
 obtain ⟨RA, hRA⟩ : ∃ R, R = (RC.reg r47_8) := ⟨_, rfl⟩
 rw [← hRA]
 generalize hG : loopS l op 7 [42] [47] (l.length + 1) f0 σ1 = G
 unfold hpS at c0 ⊢
 have wQ := And.intro @zAc @hrn; repeat' (first | with_reducible (apply swq; constructor) | simp only [go_sem, seval, pe47, q47] | ((with_reducible refine o_eff [0] [] (c0) ?hs ?he ?hh ?_); (case hs => exact so); (case he | hh => exact sh wQ); rintro _ _ ⟨rfl, rfl⟩) | with_reducible intro _)
 refine zBz [0, 1, 2] 3 0 (by decide) (by decide) (fun x : F × PS × Nat => ⟨[.ptr 0 0, .ptr 1 0, .ptr 2 0, .u0, .u0, .u0, .u0], [], ⟨[.cells [.slice (tokL l) .no, .int .i64 x.2.1.i, .int .i64 x.2.1.e, .int .i64 x.2.1.a, .int .i64 en, .int .i64 0], .cells [.int .i64 0, .int .i64 0, .lit (.slice none 0 0)], .cells x.1.cells], []⟩⟩)
  (fun x => x.2.1.i ≤ l.length ∧ loopS l op 7 [42] [47] x.2.2 x.1 x.2.1 = G ∧ l.length - x.2.1.i < x.2.2 ∧ (x.2.1.e = 0 → l.length - x.2.1.i < N)) (fun x => x.2.2) (f0, σ1, l.length + 1) ⟨a2, hG, by simp only; omega, hN1⟩ ?_ ?_
 ·simp [keepE, St.keepG, St.keep, St.gc, Hp.cut, Blk.rnL, Blk.rn, Tv.rnL, D.rnL, D.rn, zAc, cutF, Own.rn, hrn, F.cells]
 rintro ⟨f, σ, k⟩ ⟨h1, h2, h3, h4⟩
 simp only at h1 h2 h3 h4 ⊢
 have hrn2 := fun β τ => rnL_F β τ f.kids
 have hcl := zAd f.kids
 have her := erL_F f.kids
 have ca := is_p l en hl 4 [42] σ
 have cb := is_p l en hl 4 [47] σ
 obtain ⟨k, rfl⟩ : ∃ k', k = k' + 1 := ⟨k - 1, by omega⟩
 simp only [loopS] at h2
 have go : (isS l 4 [42] σ || isS l 4 [47] σ) = true → σ.e = 0 ∧ σ.i < l.length := fun hh => by
  simp only [Bool.or_eq_true] at hh
  rcases hh with q | q
  iterate 2
   ·exact ⟨(zBr l q).1, (zBr l q).2.1⟩
 have comb : (isS l 4 [42] σ = false ∧ isS l 4 [47] σ = false) ∨ (isS l 4 [42] σ = true ∧ isS l 4 [47] σ = false) ∨ (isS l 4 [42] σ = false ∧ isS l 4 [47] σ = true) := by
  cases q1 : isS l 4 [42] σ <;> cases q2 : isS l 4 [47] σ
  ·exact .inl ⟨rfl, rfl⟩
  ·exact .inr (.inr ⟨rfl, rfl⟩)
  ·exact .inr (.inl ⟨rfl, rfl⟩)
  ·have := (zBr l q1).2.2.2.symm.trans (zBr l q2).2.2.2
   exact absurd this (by decide)
 rcases comb with ⟨q1, q2⟩ | ⟨q1, q2⟩ | ⟨q1, q2⟩
 ·rw [q1] at ca
  rw [q2] at cb
  rw [q1, q2, if_neg (by simp)] at h2
  subst h2
  unfold hpS at ca cb
  have wQ := And.intro @zAc @hrn2; repeat' (first | with_reducible (apply swq; constructor) | simp only [go_sem, seval, pe47, q47] | ((with_reducible refine o_eff [0] [] (ca) ?hs ?he ?hh ?_); (case hs => exact so); (case he | hh => exact sh wQ); rintro _ _ ⟨rfl, rfl⟩) | ((with_reducible refine o_eff [0] [] (cb) ?hs ?he ?hh ?_); (case hs => exact so); (case he | hh => exact sh wQ); rintro _ _ ⟨rfl, rfl⟩) | with_reducible intro _)
  refine ⟨_, zAf, ?_⟩
  simp [D.closed, D.er, D.cL, D.erL, hcl, her, RcS, hpS, Hp.cut, Blk.rnL, Blk.rn, Tv.rnL, D.rnL, D.rn, zAc, Own.rn, F.d_eq, F.cells, setL]
 ·obtain ⟨he0, hil⟩ := go (by rw [q1, q2]; rfl)
  rw [q1] at ca
  rw [q2] at cb
  rw [q1, q2, if_pos (by simp), if_neg (by simp)] at h2
  have c2 := hop (nx σ) (by simp only [nx]; omega) hNp (fun h => by have := h4 he0; simp only [nx]; omega)
  obtain ⟨b1, b2, b3⟩ := ha (nx σ) (by simp only [nx]; omega)
  have hN2 : (op (nx σ)).2.e = 0 → l.length - (op (nx σ)).2.i < N := fun h => by
   have := h4 he0; simp only [nx] at b1 ⊢; omega
  have hcast : ((σ.i : Int) + 1) = ((σ.i + 1 : Nat) : Int) := by omega
  generalize hx2 : op (nx σ) = x2 at *
  obtain ⟨g, σ2⟩ := x2
  simp only [nx] at b1 b2 hN2 h2 c2
  have hrn3 := fun β τ => rnL_F β τ g.kids
  rw [g.d_eq] at c2
  unfold hpS at ca cb c2
  have wQ := And.intro @zAc (And.intro @hrn2 @hrn3); repeat' (first | with_reducible (apply swq; constructor) | simp only [go_sem, seval, pe47, q47, hcast] | simp (disch := omega) only [wA] | ((with_reducible refine o_eff [0] [] (ca) ?hs ?he ?hh ?_); (case hs => exact so); (case he | hh => exact sh wQ); rintro _ _ ⟨rfl, rfl⟩) | ((with_reducible refine o_eff [0] [] (cb) ?hs ?he ?hh ?_); (case hs => exact so); (case he | hh => exact sh wQ); rintro _ _ ⟨rfl, rfl⟩) | ((with_reducible refine o_eff [0] [] (c2) ?hs ?he ?hh ?_); (case hs => exact so); (case he | hh => exact sh wQ); rintro _ _ ⟨rfl, rfl⟩) | with_reducible intro _)
  all_goals try (exfalso; omega)
  rw [hRA]
  refine zCq (Q := fun e s' => e = .normal ∧ s' = ⟨[.ptr 0 0, .ptr 1 0, .ptr 2 0, .int .i64 7, .ptr 3 0, .bool true, .bool false], [], ⟨[.cells [.slice (tokL l) .no, .int .i64 σ2.i, .int .i64 σ2.e, .int .i64 σ2.a, .int .i64 en, .int .i64 0], .cells [.int .i64 0, .int .i64 0, .lit (.slice none 0 0)], .cells [.int .i64 7, .int .i64 0, .slice [f.d, g.d] .full], .cells g.cells], []⟩⟩) ?_ ?_
  ·rw [f.d_eq, g.d_eq]
   have hcl2 := zAd g.kids
   have her2 := erL_F g.kids
   have wQ := And.intro @hcl (And.intro @her (And.intro @hcl2 @her2)); repeat' (first | with_reducible (apply swq; constructor) | simp only [go_sem, seval, pe47, q47] | ((with_reducible apply s_bsl); (case he | hl | hc => exact sd wQ)) | with_reducible intro _)
   all_goals simp [setL, St.done]
  ·rintro _ _ ⟨rfl, rfl⟩
   refine ⟨_, zEs 2 rfl ?_, ?_⟩
   ·simp [D.cL, D.closed, cl_F]
   ·refine ⟨(.mk 7 0 [f, g], σ2, k), ⟨b2, h2, by simp only; omega, hN2⟩, by simp only; omega, ?_⟩
    simp [keepE, St.keepG, St.keep, St.gc, Hp.cut, Blk.rnL, Blk.rn, Tv.rnL, D.rnL, D.rn, zAc, cutF, Own.rn, F.cells, F.op, F.num, F.kids, D.erL, D.er, er_F, rn_F]
 ·obtain ⟨he0, hil⟩ := go (by rw [q1, q2]; rfl)
  rw [q1] at ca
  rw [q2] at cb
  rw [q1, q2, if_pos (by simp), if_pos rfl] at h2
  have c2 := hop (nx σ) (by simp only [nx]; omega) hNp (fun h => by have := h4 he0; simp only [nx]; omega)
  obtain ⟨b1, b2, b3⟩ := ha (nx σ) (by simp only [nx]; omega)
  have hN2 : (op (nx σ)).2.e = 0 → l.length - (op (nx σ)).2.i < N := fun h => by
   have := h4 he0; simp only [nx] at b1 ⊢; omega
  have hcast : ((σ.i : Int) + 1) = ((σ.i + 1 : Nat) : Int) := by omega
  generalize hx2 : op (nx σ) = x2 at *
  obtain ⟨g, σ2⟩ := x2
  simp only [nx] at b1 b2 hN2 h2 c2
  have hrn3 := fun β τ => rnL_F β τ g.kids
  rw [g.d_eq] at c2
  unfold hpS at ca cb c2
  have wQ := And.intro @zAc (And.intro @hrn2 @hrn3); repeat' (first | with_reducible (apply swq; constructor) | simp only [go_sem, seval, pe47, q47, hcast] | simp (disch := omega) only [wA] | ((with_reducible refine o_eff [0] [] (ca) ?hs ?he ?hh ?_); (case hs => exact so); (case he | hh => exact sh wQ); rintro _ _ ⟨rfl, rfl⟩) | ((with_reducible refine o_eff [0] [] (cb) ?hs ?he ?hh ?_); (case hs => exact so); (case he | hh => exact sh wQ); rintro _ _ ⟨rfl, rfl⟩) | ((with_reducible refine o_eff [0] [] (c2) ?hs ?he ?hh ?_); (case hs => exact so); (case he | hh => exact sh wQ); rintro _ _ ⟨rfl, rfl⟩) | with_reducible intro _)
  all_goals try (exfalso; omega)
  rw [hRA]
  refine zCq (Q := fun e s' => e = .normal ∧ s' = ⟨[.ptr 0 0, .ptr 1 0, .ptr 2 0, .int .i64 8, .ptr 3 0, .bool true, .bool true], [], ⟨[.cells [.slice (tokL l) .no, .int .i64 σ2.i, .int .i64 σ2.e, .int .i64 σ2.a, .int .i64 en, .int .i64 0], .cells [.int .i64 0, .int .i64 0, .lit (.slice none 0 0)], .cells [.int .i64 8, .int .i64 0, .slice [f.d, g.d] .full], .cells g.cells], []⟩⟩) ?_ ?_
  ·rw [f.d_eq, g.d_eq]
   have hcl2 := zAd g.kids
   have her2 := erL_F g.kids
   have wQ := And.intro @hcl (And.intro @her (And.intro @hcl2 @her2)); repeat' (first | with_reducible (apply swq; constructor) | simp only [go_sem, seval, pe47, q47] | ((with_reducible apply s_bsl); (case he | hl | hc => exact sd wQ)) | with_reducible intro _)
   all_goals simp [setL, St.done]
  ·rintro _ _ ⟨rfl, rfl⟩
   refine ⟨_, zEs 2 rfl ?_, ?_⟩
   ·simp [D.cL, D.closed, cl_F]
   ·refine ⟨(.mk 8 0 [f, g], σ2, k), ⟨b2, h2, by simp only; omega, hN2⟩, by simp only; omega, ?_⟩
    simp [keepE, St.keepG, St.keep, St.gc, Hp.cut, Blk.rnL, Blk.rn, Tv.rnL, D.rnL, D.rn, zAc, cutF, Own.rn, F.cells, F.op, F.num, F.kids, D.erL, D.er, er_F, rn_F]
end Go.Proofs.YtkjnhkoipgdfeaaGreatDoor
end
section
set_option maxRecDepth 100000
set_option linter.unusedSimpArgs false
set_option linter.unusedVariables false
namespace Go.Proofs.YtkjnhkoipgdfeaaGreatDoor
open Go GoV Go.RowKit
@[reducible] def pC (l : List Tok) (en : Int) (σ : PS) : List D := [.slice (tokL l) .no, .int .i64 σ.i, .int .i64 σ.e, .int .i64 σ.a, .int .i64 en, .int .i64 0]
@[reducible] def zC : List D := [.int .i64 0, .int .i64 0, .lit (.slice none 0 0)]
theorem reg81_8 {l : List Tok} {op0 en : Int} {fs : List F} {σ σ' : PS} {g : F} {R : List D} (hfs : fs.length ≤ 100) {e : List D} (he0 : e[0]? = some (.ptr 0 0)) (he4 : e[4]? = some (.ptr 2 0))
 (hc : Eff M 27 [.ptr 0 0] (hpS l en σ) fun d hp => d = g.d ∧ hp = hpS l en σ') (Q : Ex → St → Prop)
 (hQ : Q .normal ⟨e, [], ⟨[.cells (pC l en σ'), .cells R, .cells [.int .i64 op0, .int .i64 0, .slice (kidsD (fs ++ [g])) (.tok 0)]], [.per 3 (fs.length + 1)]⟩⟩) :
 SWp (E81 1 0) (.regD r81_8 r81_9) Q ⟨e, [], ⟨[.cells (pC l en σ), .cells R, .cells [.int .i64 op0, .int .i64 0, .slice (kidsD fs) (.tok 0)]], [.per 3 fs.length]⟩⟩ := by
 have hgd := g.d_eq
 have he4b : e[4]?.getD .u0 = .ptr 2 0 := by rw [he4]; rfl
 have he4c : e.getD 4 .u0 = .ptr 2 0 := by simp [he4]
 obtain ⟨F, hF⟩ : ∃ F : (Nat → Bool) → Hp, F = fun E => ⟨[if E 3 then .cells (pC l en σ') else .cells (pC l en σ), .cells R, .cells [.int .i64 op0, .int .i64 0, .slice (kidsD fs) (.tok 0)]], [.per 3 fs.length]⟩ := ⟨_, rfl⟩
 have still : ∀ i, i ≠ 3 → Still F i := fun i h E _ => by
  have : (3 == i) = false := by rw [beq_eq_false_iff_ne]; omega
  simp [hF, this]
 refine zA0 F (by simp [hF]) ?_
 rw [pe81]
 refine y_q (ds := [.ptr 2 0]) (.ptr 2 2) (by simp [go_sem, he4]) (still _ (by decide)) (fun _ => by simp [OcWp, zAa, isPan, opWp]) ?_
 refine y_c (ds := [.ptr 2 2]) (d := .slice (kidsD fs) (.tok 0)) (by simp [go_sem]) (fun E hE => ?_) ?_
 ·rw [still 1 (by decide) E hE]; simp [hF, OcWp, zAa, isPan, opWp, Blk.csq]
 refine y_q (ds := [.ptr 0 0]) (.ptr 0 0) (by simp [go_sem, he0]) (still _ (by decide)) (fun _ => by simp [OcWp, zAa, isPan, opWp]) ?_
 refine y_c (ds := [.fn (.func 27) [] [], .ptr 0 0]) (d := g.d) (by simp [go_sem]) (fun E hE => ?_) ?_
 ·have hE' : E 3 = false := hE
  simp only [OcWp, zAa, isPan, if_true]
  refine zD3 [0] [] hc ⟨by simp, by simp, by simp [hF], by simp⟩ (by simp [D.rnL, D.rn, posF, idx]) (by simp [hF, hE', hpS, Hp.sel, Blk.rnL, Blk.rn, Tv.rnL, D.rnL, D.rn, zAc, Own.rn]) ?_
  rintro d hp1 ⟨rfl, rfl⟩
  refine ⟨rn_F _ _ _, ?_⟩
  simp [hF, hE', hpS, Hp.back, putAt, Blk.rnL, Blk.rn, Tv.rnL, D.rnL, D.rn, zAc, Own.rn]
 have hva := zD5 g
 have hca := cl_F g
 refine y_q (ds := [g.d]) (.slice [.agg g.cells] .full) (by simp [go_sem]) (still _ (by decide)) (fun _ => by
  rw [← hgd]
  simp [OcWp, zAa, isPan, opWp, zAk, hva, D.cL, hca, D.erL, er_F]) ?_
 refine y_end (hp' := ⟨[.cells (pC l en σ'), .cells R, .cells [.int .i64 op0, .int .i64 0, .slice (kidsD fs) (.tok 0)]], [.per 3 fs.length]⟩) (by simp [hF]) ?_
 have hkl := zB4 fs
 have hel := zBf fs
 have hck := zAd g.kids
 have hek := erL_F g.kids
 have wQ := And.intro @hkl (And.intro @hel (And.intro @hck (And.intro @hek @zA3))); repeat' (first | with_reducible (apply swq; constructor) | simp only [go_sem, seval, pe81, q81, he4b, he4c, hkl, zA3] | ((with_reducible apply zEg); (case he => rfl); (case hK | hc | hr | hV => exact sd wQ)) | with_reducible intro _)
 all_goals try (exfalso; omega)
 all_goals simpa [zA3, setL, St.done] using hQ
theorem d_kids (op : Int) (fs : List F) : (F.mk op 0 fs).d = .agg [.int .i64 op, .int .i64 0, .slice (kidsD fs) .no] := by rw [F.d_eq]; rfl
set_option maxHeartbeats 8000000 in
theorem call_p (l : List Tok) (en : Int) (hl : l.length ≤ 100000) {fo : PS → F × PS} {N : Nat} (hop : OpS l en 27 fo N) (hNp : 0 < N) (ha : Adv l fo) (op0 : Int) (n : Nat) (hn : n ≤ 3) (σ0 : PS) (hi0 : σ0.i < l.length) (hN0 : σ0.e = 0 → l.length - σ0.i < N + 1) :
 Eff M 81 [.ptr 0 0, .int .i64 op0, .int .i64 n] (hpS l en σ0) fun d hp => d = (callS l en fo op0 n σ0).1.d ∧ hp = hpS l en (callS l en fo op0 n σ0).2 := by
 refine zB6 1 0 (Nat.le_refl _) (Nat.le_refl _) (fun β τ => rn_F β τ _) ?_
 refine k81.oe 1 0 rfl rfl rfl ?_
 rw [ie81]
 unfold c81
 have c0 := skip_p l en hl [40] (nx σ0) (by simp only [nx]; omega)
 have s0 := skipS_i l en (w := [40]) (σ := nx σ0) (by simp only [nx]; omega)
 have hNs : (skipS l en [40] (nx σ0)).e = 0 → l.length - (skipS l en [40] (nx σ0)).i < N := fun h => by
  have : σ0.e = 0 := by
   by_cases q : σ0.e = 0
   ·exact q
   ·rw [zDf l en (show (nx σ0).e ≠ 0 from q)] at h; exact absurd h q
  have := hN0 this
  simp only [nx] at s0 ⊢; omega
 unfold callS
 generalize skipS l en [40] (nx σ0) = σ1 at *
 have hcast : ((σ0.i : Int) + 1) = ((σ0.i + 1 : Nat) : Int) := by omega
 obtain ⟨RA, hRA⟩ : ∃ R, R = (RC.regD r81_8 r81_9) := ⟨_, rfl⟩
 rw [← hRA]
 unfold hpS nx at c0
 unfold hpS
 have wQ := @zAc; repeat' (first | with_reducible (apply swq; constructor) | simp only [go_sem, seval, pe81, q81, hcast] | simp (disch := omega) only [wA] | ((with_reducible refine o_eff [0] [] (c0) ?hs ?he ?hh ?_); (case hs => exact so); (case he | hh => exact sh wQ); try rintro _ _ ⟨rfl, rfl⟩) | with_reducible intro _)
 all_goals try (exfalso; omega)
 refine zDt (zCv 2 2 3 (by decide) rfl rfl) ?_
 generalize hG : argS l en fo n [] σ1 = G
 refine zAu [0, 1, 2, 3, 4, 5] (fun x : Nat × List F × PS => ⟨[.ptr 0 0, .int .i64 op0, .int .i64 n, .ptr 1 0, .ptr 2 0, .int .i64 x.1, .u0, .u0], [], ⟨[.cells (pC l en x.2.2), .cells zC, .cells [.int .i64 op0, .int .i64 0, .slice (kidsD x.2.1) (.tok 0)]], [.per 3 x.2.1.length]⟩⟩)
  (fun x => x.1 ≤ n ∧ x.2.1.length = x.1 ∧ x.2.2.i ≤ l.length ∧ argS l en fo (n - x.1) x.2.1 x.2.2 = G ∧ (x.2.2.e = 0 → l.length - x.2.2.i < N)) (fun x => n - x.1) (0, [], σ1) ⟨by simp only; omega, rfl, s0.2, hG, hNs⟩ ?_ ?_
 ·simp [keepE, St.keep, kidsD]
 rintro ⟨j, fs, σ⟩ ⟨h1, h2, h3, h4, h5⟩
 simp only at h1 h2 h3 h4 h5 ⊢
 have hkl := zB4 fs
 have hel := zBf fs
 have her : D.erL (kidsD fs) = kidsD fs := erL_F fs
 have hcl : D.cL (kidsD fs) = true := zAd fs
 have hrk : ∀ β τ, D.rnL β τ (kidsD fs) = kidsD fs := fun β τ => rnL_F β τ fs
 by_cases hjn : ¬ j < n
 ·have hd : decide ((j : Int) < n) = false := by simp; omega
  have e0 : n - j = 0 := by omega
  rw [e0] at h4
  simp only [argS] at h4
  subst h4
  have c3 := skip_p l en hl [41] σ h3
  simp only
  generalize hσ9 : skipS l en [41] σ = σ9 at *
  unfold hpS at c3
  have wQ := And.intro @zAc @hrk; repeat' (first | with_reducible (apply swq; constructor) | simp only [go_sem, seval, pe81, q81, hd] | ((with_reducible refine o_eff [0] [] (c3) ?hs ?he ?hh ?_); (case hs => exact so); (case he | hh => exact sh wQ); try rintro _ _ ⟨rfl, rfl⟩) | with_reducible intro _)
  all_goals try (exfalso; omega)
  refine ⟨_, zAf, ?_⟩
  simp [D.closed, D.er, D.cL, D.erL, hcl, her, RcS, hpS, Hp.cut, Blk.rnL, Blk.rn, Tv.rnL, D.rnL, D.rn, zAc, Own.rn, d_kids, setL, hσ9]
 have hjn := Decidable.not_not.1 hjn
 have hd : decide ((j : Int) < n) = true := by simp; omega
 by_cases he : ¬ σ.e = 0
 ·have te : (σ.e == 0) = false := by simp [he]
  rw [zF5 l en _ _ he] at h4
  subst h4
  have c3 := skip_p l en hl [41] σ h3
  simp only
  generalize hσ9 : skipS l en [41] σ = σ9 at *
  unfold hpS at c3
  have wQ := And.intro @zAc @hrk; repeat' (first | with_reducible (apply swq; constructor) | simp only [go_sem, seval, pe81, q81, hd, te] | ((with_reducible refine o_eff [0] [] (c3) ?hs ?he ?hh ?_); (case hs => exact so); (case he | hh => exact sh wQ); try rintro _ _ ⟨rfl, rfl⟩) | with_reducible intro _)
  all_goals try (exfalso; omega)
  refine ⟨_, zAf, ?_⟩
  simp [D.closed, D.er, D.cL, D.erL, hcl, her, RcS, hpS, Hp.cut, Blk.rnL, Blk.rn, Tv.rnL, D.rnL, D.rn, zAc, Own.rn, d_kids, setL, hσ9]
 have he := Decidable.not_not.1 he
 have te : (σ.e == 0) = true := by simp [he]
 obtain ⟨m, hm⟩ : ∃ m, n - j = m + 1 := ⟨n - j - 1, by omega⟩
 rw [hm] at h4
 simp only [argS] at h4
 rw [if_pos he] at h4
 have hs : ∀ σ' : PS, σ.i ≤ σ'.i → σ'.i ≤ l.length → σ'.i ≤ (fo σ').2.i ∧ (fo σ').2.i ≤ l.length ∧ ((fo σ').2.e = 0 → l.length - (fo σ').2.i < N) ∧ (Eff M 27 [.ptr 0 0] (hpS l en σ') fun d hp => d = (fo σ').1.d ∧ hp = hpS l en (fo σ').2) := fun σ' g1 g2 => by
  obtain ⟨b1, b2, b3⟩ := ha σ' g2
  have := h5 he
  exact ⟨b1, b2, fun _ => by omega, hop σ' g2 hNp (fun _ => by omega)⟩
 by_cases hj0 : j = 0
 ·have hl0 : fs.length = 0 := by omega
  have hd2 : decide ((j : Int) > 0) = false := by simp; omega
  rw [if_pos hl0] at h4
  obtain ⟨b1, b2, b3, c1⟩ := hs σ (Nat.le_refl _) h3
  repeat' (first | with_reducible (apply swq; constructor) | simp only [go_sem, seval, pe81, q81, hd, te, hd2] | with_reducible intro _)
  all_goals try (exfalso; omega)
  subst hRA
  refine reg81_8 (by omega) rfl rfl c1 _ ?_
  repeat' (first | with_reducible (apply swq; constructor) | simp only [go_sem, seval, pe81, q81] | simp (disch := omega) only [wA] | with_reducible intro _)
  all_goals try (exfalso; omega)
  refine ⟨(j + 1, fs ++ [(fo σ).1], (fo σ).2), ⟨by simp only; omega, by simp; omega, b2, by simp only; rw [show n - (j + 1) = m by omega]; exact h4, b3⟩, by simp only; omega, ?_⟩
  simp [keepE, St.keep, h2]
 ·have hl0 : ¬ fs.length = 0 := by omega
  have hd2 : decide ((j : Int) > 0) = true := by simp; omega
  rw [if_neg hl0] at h4
  have ck := skip_p l en hl [44] σ h3
  have sk := skipS_i l en (w := [44]) h3
  generalize skipS l en [44] σ = σ' at *
  obtain ⟨b1, b2, b3, c1⟩ := hs σ' sk.1 sk.2
  unfold hpS at ck
  have wQ := And.intro @zAc @hrk; repeat' (first | with_reducible (apply swq; constructor) | simp only [go_sem, seval, pe81, q81, hd, te, hd2] | ((with_reducible refine o_eff [0] [] (ck) ?hs ?he ?hh ?_); (case hs => exact so); (case he | hh => exact sh wQ); try rintro _ _ ⟨rfl, rfl⟩) | with_reducible intro _)
  all_goals try (exfalso; omega)
  subst hRA
  refine reg81_8 (by omega) rfl rfl c1 _ ?_
  repeat' (first | with_reducible (apply swq; constructor) | simp only [go_sem, seval, pe81, q81] | simp (disch := omega) only [wA] | with_reducible intro _)
  all_goals try (exfalso; omega)
  refine ⟨(j + 1, fs ++ [(fo σ').1], (fo σ').2), ⟨by simp only; omega, by simp; omega, b2, by simp only; rw [show n - (j + 1) = m by omega]; exact h4, b3⟩, by simp only; omega, ?_⟩
  simp [keepE, St.keep, h2]
end Go.Proofs.YtkjnhkoipgdfeaaGreatDoor
end
section
set_option maxRecDepth 100000
set_option linter.unusedSimpArgs false
set_option linter.unusedVariables false
namespace Go.Proofs.YtkjnhkoipgdfeaaGreatDoor
open Go GoV Go.RowKit
def rawS (l : List Tok) (en : Int) (fo : PS → F × PS) (σ : PS) : D :=
 if σ.e = 0 ∧ σ.i < l.length ∧ (tkA l σ.i).kind = 2 then .agg [.int .i64 1, .int .i64 (digs (tkA l σ.i).text), .lit (.slice none 0 0)]
 else match nmIx l σ with
  | some i => if i < 3 then .agg [.int .i64 (2 + i), .int .i64 0, .lit (.slice none 0 0)] else (callS l en fo (6 + i) (if i = 5 then 3 else 2) σ).1.d
  | none => if isS l 4 [40] σ = true then (fo (nx σ)).1.d else .agg zC
theorem raw_nn (l : List Tok) (en : Int) (fo : PS → F × PS) (σ : PS) : D.nn (rawS l en fo σ) = (factS l en fo σ).1.d := by
 unfold rawS factS
 split
 ·simp [F.d, F.dL, D.nn, D.nnL]
 ·cases nmIx l σ with
  | some i =>
    simp only
    split
    ·simp [F.d, F.dL, D.nn, D.nnL]
    ·exact nn_F _
  | none =>
    simp only
    split
    ·exact nn_F _
    ·simp [zeroF, F.d, F.dL, D.nn, D.nnL]
theorem raw_rn (l : List Tok) (en : Int) (fo : PS → F × PS) (σ : PS) (β τ : Nat → Option Nat) : (rawS l en fo σ).rn β τ = rawS l en fo σ := by
 unfold rawS
 split
 ·simp [D.rn, D.rnL]
 ·cases nmIx l σ with
  | some i =>
    simp only
    split
    ·simp [D.rn, D.rnL]
    ·exact rn_F _ _ _
  | none =>
    simp only
    split
    ·exact rn_F _ _ _
    ·simp [D.rn, D.rnL]
theorem nmIx_at (l : List Tok) {σ : PS} {j : Nat} (hj : j < 6) (h : isS l 1 (nms.getD j []) σ = true) (hb : ∀ i, i < j → isS l 1 (nms.getD i []) σ = false) : nmIx l σ = some j := by
 cases hn : nmIx l σ with
 | none => rw [nmIx_none l hn j hj] at h; cases h
 | some i =>
   obtain ⟨q1, q2, q3⟩ := zFw l hn
   by_cases e : i = j
   ·rw [e]
   ·by_cases q : i < j
    ·rw [hb i q] at q2; cases q2
    ·rw [q3 j (by omega)] at h; cases h
def opJ : List D := [.int .i64 2, .int .i64 3, .int .i64 4, .int .i64 9, .int .i64 10, .int .i64 11]
theorem opJ_get {j : Nat} (h : j < 6) : opJ.getD j .u0 = .int .i64 (if j < 3 then 2 + j else 6 + j) := by
 have : j = 0 ∨ j = 1 ∨ j = 2 ∨ j = 3 ∨ j = 4 ∨ j = 5 := by omega
 rcases this with rfl | rfl | rfl | rfl | rfl | rfl <;> rfl
theorem nms_strs : strs nms = [.str [107, 109], .str [99, 121, 99, 108, 101, 115], .str [108, 111, 97, 100], .str [109, 105, 110], .str [109, 97, 120], .str [105, 102]] := rfl
theorem opJ_eq : opJ = [.int .i64 2, .int .i64 3, .int .i64 4, .int .i64 9, .int .i64 10, .int .i64 11] := rfl
set_option maxHeartbeats 8000000 in
theorem factor_s (l : List Tok) (en : Int) (hl : l.length ≤ 100000) (hGd : GoodT l) {fo : PS → F × PS} {N : Nat} (hop : OpS l en 27 fo N) (ha : Adv l fo) : OpS l en 72 (factS l en fo) (N + 1) := by
 intro σ hi _ hN
 have key : Eff M 72 [.ptr 0 0] (hpS l en σ) fun d hp => d = rawS l en fo σ ∧ hp = hpS l en (factS l en fo σ).2 := by
  refine zB6 1 0 (Nat.le_refl _) (Nat.le_refl _) (raw_rn l en fo σ) ?_
  refine k72.oe 1 0 rfl rfl rfl ?_
  rw [ie72]
  unfold c72
  have hlen := zBy l
  have hel := zBd l
  obtain ⟨i, e, a⟩ := σ
  simp only at hi hN
  have hcast : ((i : Int) + 1) = ((i + 1 : Nat) : Int) := by omega
  have hcast2 : (((i + 1 : Nat) : Int) - 1) = (i : Int) := by omega
  by_cases hnum : e = 0 ∧ i < l.length ∧ (tkA l i).kind = 2
  ·obtain ⟨he, hil, hk⟩ := hnum
   have te : (e == 0) = true := by simp [he]
   have hd : decide ((i : Int) < l.length) = true := by simp; omega
   have hg := tokL_get hil
   have tk : ((tkA l i).kind == 2) = true := by simp [hk]
   have hmem : tkA l i ∈ l := by unfold tkA; simp [List.getD_eq_getElem?_getD, hil]
   have c1 := number_p (tkA l i).text (hGd _ hmem hk)
   unfold rawS factS
   simp only
   rw [if_pos ⟨he, hil, hk⟩, if_pos ⟨he, hil, hk⟩]
   generalize tkA l i = t at *
   generalize digs t.text = n at *
   unfold hpS nx
   simp only
   generalize tokL l = L at *
   have wQ := And.intro @hlen (And.intro @hg @hel); repeat' (first | with_reducible (apply swq; constructor) | simp only [go_sem, seval, pe72, q72, hlen, hg, te, hd, tk, hcast, hcast2] | simp (disch := omega) only [wA] | ((with_reducible refine zAb (c1) ?he ?hc ?_); (case he | hc => exact sc wQ)) | ((with_reducible refine And.intro ?hw ?_); (case hw => exact sw wQ)) | with_reducible intro _)
   all_goals try (exfalso; omega)
   refine ⟨_, zAf, ?_⟩
   simp [D.closed, D.er, D.cL, D.erL, RcS, Hp.cut, Blk.rnL, Blk.rn, Tv.rnL, D.rnL, D.rn, Own.rn, setL]
  have hraw : rawS l en fo ⟨i, e, a⟩ = match nmIx l ⟨i, e, a⟩ with
   | some j => if j < 3 then .agg [.int .i64 (2 + j), .int .i64 0, .lit (.slice none 0 0)] else (callS l en fo (6 + j) (if j = 5 then 3 else 2) ⟨i, e, a⟩).1.d
   | none => if isS l 4 [40] ⟨i, e, a⟩ = true then (fo (nx ⟨i, e, a⟩)).1.d else .agg zC := by unfold rawS; rw [if_neg hnum]
  have hfac : factS l en fo ⟨i, e, a⟩ = match nmIx l ⟨i, e, a⟩ with
   | some j => if j < 3 then (.mk (2 + j) 0 [], nx ⟨i, e, a⟩) else callS l en fo (6 + j) (if j = 5 then 3 else 2) ⟨i, e, a⟩
   | none => if isS l 4 [40] ⟨i, e, a⟩ = true then ((fo (nx ⟨i, e, a⟩)).1, skipS l en [41] (fo (nx ⟨i, e, a⟩)).2) else (zeroF, failS l en ⟨i, e, a⟩) := by unfold factS; rw [if_neg hnum]; try rfl
  rw [hraw, hfac]
  have hp0 : hpS l en ⟨i, e, a⟩ = ⟨[.cells (pC l en ⟨i, e, a⟩)], []⟩ := rfl
  rw [hp0]
  have hcond : (e == 0) = false ∨ ((e == 0) = true ∧ decide ((i : Int) < l.length) = false) ∨ ((e == 0) = true ∧ decide ((i : Int) < l.length) = true ∧ ((tkA l i).kind == 2) = false ∧ (tokL l).getD i .u0 = .agg [.int .i64 (tkA l i).kind, .str (tkA l i).text, .int .i64 (tkA l i).pos] ∧ i < l.length) := by
   by_cases he : e = 0
   ·by_cases hil : i < l.length
    ·refine .inr (.inr ⟨by simp [he], by simp; omega, ?_, tokL_get hil, hil⟩)
     rw [beq_eq_false_iff_ne]
     exact fun h => hnum ⟨he, hil, h⟩
    ·exact .inr (.inl ⟨by simp [he], by simp; omega⟩)
   ·exact .inl (by simp [he])
  rcases hcond with te | ⟨te, hd⟩ | ⟨te, hd, tk, hg, hil⟩
  focus
   have wQ := And.intro @hlen @hel; repeat' (first | with_reducible (apply swq; constructor) | simp only [go_sem, seval, pe72, q72, hlen, te] | ((with_reducible apply s_bsl); (case he | hl | hc => exact sd wQ)) | with_reducible intro _)
   all_goals try (exfalso; omega)
  rotate_left
  focus
   have wQ := And.intro @hlen @hel; repeat' (first | with_reducible (apply swq; constructor) | simp only [go_sem, seval, pe72, q72, hlen, te, hd] | ((with_reducible apply s_bsl); (case he | hl | hc => exact sd wQ)) | with_reducible intro _)
   all_goals try (exfalso; omega)
  rotate_left
  focus
   have wQ := And.intro @hlen (And.intro @hel @hg); repeat' (first | with_reducible (apply swq; constructor) | simp only [go_sem, seval, pe72, q72, hlen, te, hd, tk, hg] | ((with_reducible apply s_bsl); (case he | hl | hc => exact sd wQ)) | ((with_reducible refine And.intro ?hw ?_); (case hw => exact sw wQ)) | with_reducible intro _)
   all_goals try (exfalso; omega)
  all_goals
   refine zAu [0, 1, 2, 3, 4] (fun j : Nat => ⟨[.ptr 0 0, .ptr 1 0, .slice (strs nms) .full, .slice opJ .full, .int .i64 j, .u0, .u0, .u0, .u0, .u0, .u0], [], ⟨[.cells (pC l en ⟨i, e, a⟩), .cells zC], []⟩⟩)
    (fun j => j ≤ 6 ∧ ∀ j', j' < j → isS l 1 (nms.getD j' []) ⟨i, e, a⟩ = false) (fun j => 6 - j) 0 ⟨by omega, fun _ h => by omega⟩ ?_ ?_
   ·simp [keepE, St.keep, nms_strs, opJ_eq]
   rintro j ⟨hj, hb⟩
   have cI := is_p l en hl 1 (nms.getD j []) ⟨i, e, a⟩
   have hsl : (strs nms).length = 6 := rfl
   have hol : opJ.length = 6 := rfl
   by_cases hj6 : j < 6
   ·have hdj : decide ((j : Int) < 6) = true := by simp; omega
    have hs1 := strs_get (l := nms) (i := j) hj6
    have hs2 := opJ_get hj6
    cases hq : isS l 1 (nms.getD j []) ⟨i, e, a⟩
    ·rw [hq] at cI
     have hbn : ∀ j', j' < j + 1 → isS l 1 (nms.getD j' []) ⟨i, e, a⟩ = false := fun j' h' => by
      by_cases q : j' = j
      ·rw [q]; exact hq
      ·exact hb j' (by omega)
     unfold hpS at cI
     generalize nms.getD j [] = w at *
     generalize strs nms = LN at *
     generalize opJ = LO at *
     have wQ := And.intro @hsl (And.intro @hol (And.intro @hs1 (And.intro @hs2 @zAc))); repeat' (first | with_reducible (apply swq; constructor) | simp only [go_sem, seval, pe72, q72, hsl, hol, hs1, hs2, hdj] | simp (disch := omega) only [wA] | ((with_reducible refine o_eff [0] [] (cI) ?hs ?he ?hh ?_); (case hs => exact so); (case he | hh => exact sh wQ); try rintro _ _ ⟨rfl, rfl⟩) | (with_reducible (apply cdA; constructor)) | ((with_reducible refine And.intro ?hw ?_); (case hw => exact sw wQ)) | with_reducible intro _)
     all_goals try (exfalso; omega)
     refine ⟨j + 1, ⟨by omega, hbn⟩, by omega, ?_⟩
     simp [keepE, St.keep]
    ·have hn := nmIx_at l hj6 hq hb
     obtain ⟨k1, k2, _⟩ := zBr l hq
     simp only at k1 k2
     rw [hq] at cI
     rw [hn]
     simp only
     by_cases h3 : j < 3
     ·have hd3 : decide ((j : Int) < 3) = true := by simp; omega
      rw [if_pos h3] at hs2
      rw [if_pos h3, if_pos h3]
      unfold hpS at cI
      generalize nms.getD j [] = w at *
      generalize strs nms = LN at *
      generalize opJ = LO at *
      have wQ := And.intro @hsl (And.intro @hol (And.intro @hs1 (And.intro @hs2 @zAc))); repeat' (first | with_reducible (apply swq; constructor) | simp only [go_sem, seval, pe72, q72, hsl, hol, hs1, hs2, hdj, hd3, hcast] | simp (disch := omega) only [wA] | ((with_reducible refine o_eff [0] [] (cI) ?hs ?he ?hh ?_); (case hs => exact so); (case he | hh => exact sh wQ); try rintro _ _ ⟨rfl, rfl⟩) | (with_reducible (apply cdA; constructor)) | ((with_reducible refine And.intro ?hw ?_); (case hw => exact sw wQ)) | with_reducible intro _)
      all_goals try (exfalso; omega)
      refine ⟨_, zAf, ?_⟩
      simp [D.closed, D.er, D.cL, D.erL, RcS, hpS, nx, Hp.cut, Blk.rnL, Blk.rn, Tv.rnL, D.rnL, D.rn, zAc, Own.rn, setL]
     ·have hd3 : decide ((j : Int) < 3) = false := by simp; omega
      rw [if_neg h3] at hs2
      rw [if_neg h3, if_neg h3]
      have cc := call_p l en hl hop (by have := hN k1; omega) ha (6 + j) (if j = 5 then 3 else 2) (by split <;> omega) ⟨i, e, a⟩ k2 hN
      have ck := kids_p (6 + j)
      have hkk : kidsN (6 + j) = ((if j = 5 then 3 else 2 : Nat) : Int) := by
       have : j = 3 ∨ j = 4 ∨ j = 5 := by omega
       rcases this with rfl | rfl | rfl <;> decide
      rw [hkk] at ck
      generalize (if j = 5 then 3 else 2 : Nat) = nk at *
      generalize callS l en fo (6 + j) nk ⟨i, e, a⟩ = x9 at *
      obtain ⟨g, σ9⟩ := x9
      simp only at cc ⊢
      have hrn3 := fun β τ => rnL_F β τ g.kids
      have hcl := zAd g.kids
      have her := erL_F g.kids
      rw [g.d_eq] at cc ⊢
      unfold hpS at cI cc
      generalize nms.getD j [] = w at *
      generalize strs nms = LN at *
      generalize opJ = LO at *
      have wQ := And.intro @hsl (And.intro @hol (And.intro @hs1 (And.intro @hs2 (And.intro @zAc @hrn3)))); repeat' (first | with_reducible (apply swq; constructor) | simp only [go_sem, seval, pe72, q72, hsl, hol, hs1, hs2, hdj, hd3, hcast] | simp (disch := omega) only [wA] | ((with_reducible refine o_eff [0] [] (cI) ?hs ?he ?hh ?_); (case hs => exact so); (case he | hh => exact sh wQ); try rintro _ _ ⟨rfl, rfl⟩) | ((with_reducible refine zAq (ck) ?he ?hc ?_); (case he | hc => exact sc wQ)) | ((with_reducible refine o_eff [0] [] (cc) ?hs ?he ?hh ?_); (case hs => exact so); (case he | hh => exact sh wQ); try rintro _ _ ⟨rfl, rfl⟩) | (with_reducible (apply cdA; constructor)) | ((with_reducible refine And.intro ?hw ?_); (case hw => exact sw wQ)) | with_reducible intro _)
      all_goals try (exfalso; omega)
      refine ⟨_, zAf, ?_⟩
      simp [D.closed, D.er, D.cL, D.erL, hcl, her, RcS, hpS, Hp.cut, Blk.rnL, Blk.rn, Tv.rnL, D.rnL, D.rn, zAc, Own.rn, setL, F.cells]
   ·obtain rfl : j = 6 := by omega
    have hn : nmIx l ⟨i, e, a⟩ = none := by
     cases q : nmIx l ⟨i, e, a⟩ with
     | none => rfl
     | some q2 =>
       obtain ⟨z1, z2, _⟩ := zFw l q
       rw [hb q2 z1] at z2; cases z2
    have hdj : decide (((6 : Nat) : Int) < 6) = false := by decide
    rw [hn]
    simp only
    have cP := is_p l en hl 4 [40] ⟨i, e, a⟩
    cases hq : isS l 4 [40] ⟨i, e, a⟩
    ·rw [hq] at cP
     rw [if_neg (by simp), if_neg (by simp)]
     have cF := fail_p l en hl ⟨i, e, a⟩
     simp only
     generalize failS l en ⟨i, e, a⟩ = σ9 at *
     unfold hpS at cP cF
     generalize strs nms = LN at *
     generalize opJ = LO at *
     have wQ := And.intro @hsl (And.intro @hol @zAc); repeat' (first | with_reducible (apply swq; constructor) | simp only [go_sem, seval, pe72, q72, hsl, hol, hdj] | simp (disch := omega) only [wA] | ((with_reducible refine o_eff [0] [] (cP) ?hs ?he ?hh ?_); (case hs => exact so); (case he | hh => exact sh wQ); try rintro _ _ ⟨rfl, rfl⟩) | ((with_reducible refine o_eff [0] [] (cF) ?hs ?he ?hh ?_); (case hs => exact so); (case he | hh => exact sh wQ); try rintro _ _ ⟨rfl, rfl⟩) | (with_reducible (apply cdA; constructor)) | ((with_reducible refine And.intro ?hw ?_); (case hw => exact sw wQ)) | with_reducible intro _)
     all_goals try (exfalso; omega)
     refine ⟨_, zAf, ?_⟩
     simp [D.closed, D.er, D.cL, D.erL, RcS, hpS, Hp.cut, Blk.rnL, Blk.rn, Tv.rnL, D.rnL, D.rn, zAc, Own.rn, setL]
    ·obtain ⟨k1, k2, _⟩ := zBr l hq
     simp only at k1 k2
     rw [hq] at cP
     rw [if_pos rfl, if_pos rfl]
     have c2 := hop (nx ⟨i, e, a⟩) (by simp only [nx]; omega) (by have := hN k1; omega) (fun h => by have := hN k1; simp only [nx]; omega)
     obtain ⟨b1, b2, _⟩ := ha (nx ⟨i, e, a⟩) (by simp only [nx]; omega)
     have cK := skip_p l en hl [41] (fo (nx ⟨i, e, a⟩)).2 b2
     generalize fo (nx ⟨i, e, a⟩) = x2 at *
     obtain ⟨g, σ2⟩ := x2
     simp only at c2 cK ⊢
     have hrn3 := fun β τ => rnL_F β τ g.kids
     have hcl := zAd g.kids
     have her := erL_F g.kids
     rw [g.d_eq] at c2 ⊢
     generalize skipS l en [41] σ2 = σ9 at *
     unfold hpS nx at c2
     unfold hpS at cP cK
     generalize strs nms = LN at *
     generalize opJ = LO at *
     have wQ := And.intro @hsl (And.intro @hol (And.intro @zAc @hrn3)); repeat' (first | with_reducible (apply swq; constructor) | simp only [go_sem, seval, pe72, q72, hsl, hol, hdj, hcast] | simp (disch := omega) only [wA] | ((with_reducible refine o_eff [0] [] (cP) ?hs ?he ?hh ?_); (case hs => exact so); (case he | hh => exact sh wQ); try rintro _ _ ⟨rfl, rfl⟩) | ((with_reducible refine o_eff [0] [] (c2) ?hs ?he ?hh ?_); (case hs => exact so); (case he | hh => exact sh wQ); try rintro _ _ ⟨rfl, rfl⟩) | ((with_reducible refine o_eff [0] [] (cK) ?hs ?he ?hh ?_); (case hs => exact so); (case he | hh => exact sh wQ); try rintro _ _ ⟨rfl, rfl⟩) | (with_reducible (apply cdA; constructor)) | ((with_reducible refine And.intro ?hw ?_); (case hw => exact sw wQ)) | with_reducible intro _)
     all_goals try (exfalso; omega)
     refine ⟨_, zAf, ?_⟩
     simp [D.closed, D.er, D.cL, D.erL, hcl, her, RcS, hpS, Hp.cut, Blk.rnL, Blk.rn, Tv.rnL, D.rnL, D.rn, zAc, Own.rn, setL, F.cells]
 have := eff_nn key
 rw [raw_nn] at this
 exact this
end Go.Proofs.YtkjnhkoipgdfeaaGreatDoor
end
section
set_option maxRecDepth 100000
set_option linter.unusedSimpArgs false
set_option linter.unusedVariables false
namespace Go.Proofs.YtkjnhkoipgdfeaaGreatDoor
open Go GoV Go.RowKit
theorem form_s (l : List Tok) (en : Int) (hl : l.length ≤ 100000) (hGd : GoodT l) : ∀ k, OpS l en 27 (formS l en k) k
 | 0 => fun σ _ h => absurd h (by omega)
 | k + 1 => chain27_e l en hl (chain47_e l en hl (factor_s l en hl hGd (form_s l en hl hGd k) (zCl l en k)) (zEp l en (zCl l en k))) (zE3 l (zEp l en (zCl l en k)) _ _ _)
theorem reg9_9 {C : Cfg} {l : List Tok} {en : Int} {σ : PS} {R : List D} {e : List D} (h1 : e[1]? = some (.ptr 0 0)) (h7 : e[7]? = some (.ptr 1 0)) (Q : Ex → St → Prop)
 (hQ : Q .normal ⟨(e.set 2 (.int .i64 σ.e)).set 3 (.int .i64 σ.a), [], ⟨[.cells zC, .cells (pC l en σ), .cells R], []⟩⟩) :
 SWp C (.regD r9_9 r9_10) Q ⟨e, [], ⟨[.cells zC, .cells (pC l en σ), .cells R], []⟩⟩ := by
 obtain ⟨F, hF⟩ : ∃ F : (Nat → Bool) → Hp, F = fun _ => ⟨[.cells zC, .cells (pC l en σ), .cells R], []⟩ := ⟨_, rfl⟩
 have still : ∀ i, Still F i := fun i E _ => by simp [hF]
 refine zA0 F (by simp [hF]) ?_
 refine y_q (ds := []) (.agg zC) (by simp [go_sem]) (still _) (fun _ => by simp [OcWp, zAa, isPan, opWp, fillL]) ?_
 refine y_q (ds := [.ptr 1 0]) (.ptr 1 0) (by simp [go_sem, h7]) (still _) (fun _ => by simp [OcWp, zAa, isPan, opWp]) ?_
 refine y_q (ds := [.ptr 1 0]) (.ptr 1 0) (by simp [go_sem, h7]) (still _) (fun _ => by simp [OcWp, zAa, isPan, opWp, nckOk, nckIs, nckFn, go_sem]) ?_
 refine y_q (ds := [.ptr 1 0]) (.ptr 1 2) (by simp [go_sem, h7]) (still _) (fun _ => by simp [OcWp, zAa, isPan, opWp]) ?_
 refine y_c (ds := [.ptr 1 2]) (d := .int .i64 σ.e) (by simp [go_sem]) (fun E hE => by simp [hF, OcWp, zAa, isPan, opWp, Blk.csq]) ?_
 refine y_q (ds := [.ptr 1 0]) (.ptr 1 0) (by simp [go_sem, h7]) (still _) (fun _ => by simp [OcWp, zAa, isPan, opWp]) ?_
 refine y_q (ds := [.ptr 1 0]) (.ptr 1 0) (by simp [go_sem, h7]) (still _) (fun _ => by simp [OcWp, zAa, isPan, opWp, nckOk, nckIs, nckFn, go_sem]) ?_
 refine y_q (ds := [.ptr 1 0]) (.ptr 1 3) (by simp [go_sem, h7]) (still _) (fun _ => by simp [OcWp, zAa, isPan, opWp]) ?_
 refine y_c (ds := [.ptr 1 3]) (d := .int .i64 σ.a) (by simp [go_sem]) (fun E hE => by simp [hF, OcWp, zAa, isPan, opWp, Blk.csq]) ?_
 refine y_c (ds := [.ptr 0 0, .agg zC]) (d := .skip) (by simp [go_sem, h1]) (fun E hE => by simp [hF, OcWp, zAa, isPan, opWp, Blk.csq, Blk.putc, D.iV, D.cells, setL]) ?_
 refine y_q (ds := [.int .i64 σ.e]) (.int .i64 σ.e) (by simp [go_sem]) (still _) (fun _ => by simp [OcWp, zAa, isPan, opWp]) ?_
 refine y_end (hp' := ⟨[.cells zC, .cells (pC l en σ), .cells R], []⟩) (by simp [hF]) ?_
 simp only [go_sem, h1, h7]
 simpa [go_sem, h1, h7, St.done] using hQ
end Go.Proofs.YtkjnhkoipgdfeaaGreatDoor
end
section
set_option maxRecDepth 100000
set_option linter.unusedSimpArgs false
set_option linter.unusedVariables false
namespace Go.Proofs.YtkjnhkoipgdfeaaGreatDoor
open Go GoV Go.RowKit
set_option maxHeartbeats 8000000 in
theorem rparse_p (s : Tx) (hs : s.length ≤ 4999) : Pur M 9 [.str s] (parD (zEl s)) := by
 have cL := rlex_p s hs
 unfold zEl
 cases hl : lexP s with
 | mk l ep =>
   obtain ⟨e, p⟩ := ep
   rw [hl] at cL
   simp only at cL ⊢
   have hte := zFg l
   have htc := zDr l
   have htr := zAc
   by_cases he : ¬ e = 0
   ·rw [if_neg he]
    refine zEk ?_ (zD_nn e p)
    refine k9.ow (C := C9) rfl rfl ?_
    rw [i9]
    unfold c9
    have t1 : (e != 0) = true := by simp [he]
    have wQ := And.intro @hte @htc; repeat' (first | with_reducible (apply swq; constructor) | simp only [go_sem, seval, P9, q9, t1] | ((with_reducible refine zAb (cL) ?he ?hc ?_); (case he | hc => exact sc wQ)) | with_reducible intro _)
    all_goals exact ⟨_, zAf, by simp [D.closed, D.er, D.cL, D.erL, RcS, setL, go_sem]⟩
   have he := Decidable.not_not.1 he
   subst he
   have := lexP_zero hl
   subst this
   rw [if_pos rfl]
   obtain ⟨hG, hll⟩ := lexP_good hl
   rw [← parseS_eq]
   unfold parseS
   have c1 := form_s l s.length (by omega) hG (l.length + 1) ⟨0, 0, 0⟩ (by simp only; omega) (by omega) (fun _ => by simp only; omega)
   have hadv := (zCl l s.length (l.length + 1) ⟨0, 0, 0⟩ (by simp only; omega)).2.1
   generalize formS l s.length (l.length + 1) ⟨0, 0, 0⟩ = x at *
   obtain ⟨f, σ⟩ := x
   simp only at c1 hadv ⊢
   have cF := fail_p l s.length (by omega) σ
   have hrn := fun β τ => rnL_F β τ f.kids
   have hcl := zAd f.kids
   have her := erL_F f.kids
   have hlen := zBy l
   have cN := rnodes_p f.nodes f (Nat.le_refl _) 60 (by omega)
   rw [f.d_eq] at c1 cN
   by_cases hA : σ.e = 0 ∧ σ.i < l.length
   ·rw [if_pos hA]
    have hfe : (failS l s.length σ).e = 8 := by unfold failS; rw [if_pos hA.1, if_pos hA.2]
    have t1 : (σ.e == 0) = true := by simp [hA.1]
    have t2 : decide ((σ.i : Int) < l.length) = true := by simp; exact hA.2
    generalize failS l s.length σ = σ2 at *
    have t3 : (σ2.e != 0) = true := by simp [hfe]
    rw [if_pos (by rw [hfe]; decide)]
    refine zEk ?_ (zD_nn σ2.e σ2.a)
    refine k9.ow (C := C9) rfl rfl ?_
    rw [i9]
    unfold c9
    obtain ⟨RA, hRA⟩ : ∃ R, R = (RC.regD r9_9 r9_10) := ⟨_, rfl⟩
    rw [← hRA]
    unfold hpS at c1 cF
    have wQ := And.intro @hte (And.intro @htc (And.intro @htr (And.intro @hrn @hlen))); repeat' (first | with_reducible (apply swq; constructor) | simp only [go_sem, seval, P9, q9, t1, t2, t3, hlen] | ((with_reducible refine zAb (cL) ?he ?hc ?_); (case he | hc => exact sc wQ)) | ((with_reducible refine o_eff [1] [] (c1) ?hs ?he ?hh ?_); (case hs => exact so); (case he | hh => exact sh wQ); rintro _ _ ⟨rfl, rfl⟩) | ((with_reducible refine o_eff [1] [] (cF) ?hs ?he ?hh ?_); (case hs => exact so); (case he | hh => exact sh wQ); rintro _ _ ⟨rfl, rfl⟩) | with_reducible intro _)
    all_goals (subst hRA; refine reg9_9 rfl rfl _ ?_)
    repeat' (first | with_reducible (apply swq; constructor) | simp only [go_sem, seval, P9, q9] | with_reducible intro _)
    all_goals exact ⟨_, zAf, by simp [D.closed, D.er, D.cL, D.erL, RcS, setL, go_sem]⟩
   rw [if_neg hA]
   by_cases hE : σ.e ≠ 0
   ·rw [if_pos hE]
    have t1 : (σ.e == 0) = false := by simp [hE]
    have t3 : (σ.e != 0) = true := by simp [hE]
    refine zEk ?_ (zD_nn σ.e σ.a)
    refine k9.ow (C := C9) rfl rfl ?_
    rw [i9]
    unfold c9
    obtain ⟨RA, hRA⟩ : ∃ R, R = (RC.regD r9_9 r9_10) := ⟨_, rfl⟩
    rw [← hRA]
    unfold hpS at c1
    have wQ := And.intro @hte (And.intro @htc (And.intro @htr (And.intro @hrn @hlen))); repeat' (first | with_reducible (apply swq; constructor) | simp only [go_sem, seval, P9, q9, t1, t3, hlen] | ((with_reducible refine zAb (cL) ?he ?hc ?_); (case he | hc => exact sc wQ)) | ((with_reducible refine o_eff [1] [] (c1) ?hs ?he ?hh ?_); (case hs => exact so); (case he | hh => exact sh wQ); rintro _ _ ⟨rfl, rfl⟩) | with_reducible intro _)
    all_goals (subst hRA; refine reg9_9 rfl rfl _ ?_)
    repeat' (first | with_reducible (apply swq; constructor) | simp only [go_sem, seval, P9, q9] | with_reducible intro _)
    all_goals exact ⟨_, zAf, by simp [D.closed, D.er, D.cL, D.erL, RcS, setL, go_sem]⟩
   rw [if_neg hE]
   have hE := Decidable.not_not.1 hE
   have t1 : (σ.e == 0) = true := by simp [hE]
   have t2 : decide ((σ.i : Int) < l.length) = false := by
    rw [decide_eq_false_iff_not]
    exact fun q => hA ⟨hE, by omega⟩
   have t3 : (σ.e != 0) = false := by simp [hE]
   by_cases hn : 60 < f.nodes
   ·rw [if_pos hn]
    have e1 : min f.nodes (60 + 1) = 61 := by omega
    rw [e1] at cN
    refine zEk ?_ (zD_nn 7 0)
    refine k9.ow (C := C9) rfl rfl ?_
    rw [i9]
    unfold c9
    unfold hpS at c1
    have wQ := And.intro @hte (And.intro @htc (And.intro @htr (And.intro @hrn (And.intro @hlen (And.intro @hcl @her))))); repeat' (first | with_reducible (apply swq; constructor) | simp only [go_sem, seval, P9, q9, t1, t2, t3, hlen] | ((with_reducible refine zAb (cL) ?he ?hc ?_); (case he | hc => exact sc wQ)) | ((with_reducible refine o_eff [1] [] (c1) ?hs ?he ?hh ?_); (case hs => exact so); (case he | hh => exact sh wQ); rintro _ _ ⟨rfl, rfl⟩) | ((with_reducible refine zAb (cN) ?he ?hc ?_); (case he | hc => exact sc wQ)) | (with_reducible (apply cdA; constructor)) | with_reducible intro _)
    all_goals try (exfalso; omega)
    all_goals exact ⟨_, zAf, by simp [D.closed, D.er, D.cL, D.erL, RcS, setL, go_sem]⟩
   ·rw [if_neg hn]
    have e1 : decide (((min f.nodes (60 + 1) : Nat) : Int) > 60) = false := by simp; omega
    refine k9.ow (C := C9) rfl rfl ?_
    rw [i9]
    unfold c9
    unfold hpS at c1
    generalize min f.nodes (60 + 1) = mm at *
    simp only [parD, F.d_eq]
    have wQ := And.intro @hte (And.intro @htc (And.intro @htr (And.intro @hrn (And.intro @hlen (And.intro @hcl @her))))); repeat' (first | with_reducible (apply swq; constructor) | simp only [go_sem, seval, P9, q9, t1, t2, t3, hlen, e1] | ((with_reducible refine zAb (cL) ?he ?hc ?_); (case he | hc => exact sc wQ)) | ((with_reducible refine o_eff [1] [] (c1) ?hs ?he ?hh ?_); (case hs => exact so); (case he | hh => exact sh wQ); rintro _ _ ⟨rfl, rfl⟩) | ((with_reducible refine zAb (cN) ?he ?hc ?_); (case he | hc => exact sc wQ)) | with_reducible intro _)
    all_goals exact ⟨_, zAf, by simp [D.closed, D.er, D.cL, D.erL, RcS, setL, go_sem, hcl, her, F.cells]⟩
end Go.Proofs.YtkjnhkoipgdfeaaGreatDoor
end
section
set_option maxRecDepth 100000
set_option linter.unusedSimpArgs false
set_option linter.unusedVariables false
namespace Go.Proofs.YtkjnhkoipgdfeaaGreatDoor
open Go GoV Go.RowKit
theorem digit_at (r : Nat) (h : r < 10) : List.drop r (48 :: List.take r ([49, 50, 51, 52, 53, 54, 55, 56, 57] : List UInt8)) = [UInt8.ofNat (48 + r)] := by
 have : r = 0 ∨ r = 1 ∨ r = 2 ∨ r = 3 ∨ r = 4 ∨ r = 5 ∨ r = 6 ∨ r = 7 ∨ r = 8 ∨ r = 9 := by omega
 rcases this with h | h | h | h | h | h | h | h | h | h <;> subst h <;> rfl
theorem dec_step {u : Nat} (h : ¬u < 10) : Lib.decDigits u = Lib.decDigits (u / 10) ++ [UInt8.ofNat (48 + u % 10)] := by
 rw [Lib.decDigits, dif_neg h]
def dd (m : Nat) : List UInt8 := if m = 0 then [] else Lib.decDigits m
theorem dd_step (m : Nat) (h : m ≠ 0) : dd m = dd (m / 10) ++ [UInt8.ofNat (48 + m % 10)] := by
 unfold dd
 rw [if_neg h]
 by_cases q : m < 10
 ·rw [if_pos (by omega), Lib.decDigits_one q, List.nil_append]
  have : m % 10 = m := by omega
  rw [this]
 ·rw [if_neg (by omega), dec_step q]
theorem dec_dd (n : Nat) : Lib.decDigits n = dd (n / 10) ++ [UInt8.ofNat (48 + n % 10)] := by
 by_cases h : n = 0
 ·subst h; rw [Lib.decDigits_one (by omega)]; rfl
 ·rw [← dd_step n h, dd, if_neg h]
set_option maxHeartbeats 1000000 in
theorem rdig_p (n : Nat) (h0 : n < 100000000000000) : Pur M 60 [.int .u64 n] (.str (Lib.decDigits n)) := by
 refine k60.ok (C := C60) rfl rfl ?_
 rw [i60]
 unfold c60
 have t1 : (n : Int).tmod 10 = ((n % 10 : Nat) : Int) := by rw [Int.tmod_eq_emod_of_nonneg (by omega)]; omega
 have t2 : (n : Int).tdiv 10 = ((n / 10 : Nat) : Int) := by rw [Int.tdiv_eq_ediv_of_nonneg (by omega)]; omega
 have t3 : ((n % 10 : Nat) : Int).toNat = n % 10 := by omega
 have t4 : (((n % 10 : Nat) : Int) + 1).toNat = n % 10 + 1 := by omega
 have t5 := digit_at (n % 10) (by omega)
 have t6 : ([UInt8.ofNat (48 + n % 10)] : List UInt8).length = 1 := rfl
 have hb : n % 10 < 10 := by omega
 have wQ := tw; repeat' (first | with_reducible (apply swq; constructor) | simp only [go_sem, seval, P60, q60, t1, t2, t3, t4, t5, t6] | simp (disch := omega) only [wA] | ((with_reducible refine And.intro ?hw ?_); (case hw => exact sw wQ)) | with_reducible intro _)
 all_goals try omega
 refine zAu [0, 1, 2] (fun p : Nat × List UInt8 => ⟨[.int .u64 p.1, .str [], .str p.2, .u0], [], ⟨[], []⟩⟩)
  (fun p => p.1 ≤ n ∧ p.2.length + p.1 ≤ n + 1 ∧ dd p.1 ++ p.2 = Lib.decDigits n) (fun p => p.1) (n / 10, [UInt8.ofNat (48 + n % 10)]) ⟨by simp only; omega, by simp only [t6]; omega, by simp only; exact (dec_dd n).symm⟩ ?_ ?_
 ·simp [keepE, St.keep]
  try (rw [wu64 (by omega) (by omega)])
 ·rintro ⟨m, s⟩ ⟨g1, g2, g3⟩
  simp only at g1 g2 g3 ⊢
  clear t1 t2 t3 t4 t5 t6 hb
  by_cases hm : 0 < m
  ·have t1 : (m : Int).tmod 10 = ((m % 10 : Nat) : Int) := by rw [Int.tmod_eq_emod_of_nonneg (by omega)]; omega
   have t2 : (m : Int).tdiv 10 = ((m / 10 : Nat) : Int) := by rw [Int.tdiv_eq_ediv_of_nonneg (by omega)]; omega
   have t3 : ((m % 10 : Nat) : Int).toNat = m % 10 := by omega
   have t4 : (((m % 10 : Nat) : Int) + 1).toNat = m % 10 + 1 := by omega
   have t5 := digit_at (m % 10) (by omega)
   have t6 : ([UInt8.ofNat (48 + m % 10)] : List UInt8).length = 1 := rfl
   have hb : m % 10 < 10 := by omega
   have wQ := tw; repeat' (first | with_reducible (apply swq; constructor) | simp only [go_sem, seval, P60, q60, t1, t2, t3, t4, t5, t6, List.length_append] | simp (disch := omega) only [wA] | with_reducible (apply cdA; constructor) | ((with_reducible refine And.intro ?hw ?_); (case hw => exact sw wQ)) | with_reducible intro _)
   all_goals try omega
   refine ⟨(m / 10, UInt8.ofNat (48 + m % 10) :: s), ⟨by simp only; omega, by simp only [List.length_cons]; omega, ?_⟩, by simp only; omega, ?_⟩
   ·rw [← g3, dd_step m (by omega)]
    simp
   ·simp [keepE, St.keep]
  ·have e : m = 0 := by omega
   subst e
   have wQ := tw; repeat' (first | with_reducible (apply swq; constructor) | simp only [go_sem, seval, P60, q60] | simp (disch := omega) only [wA] | with_reducible (apply cdA; constructor) | ((with_reducible refine And.intro ?hw ?_); (case hw => exact sw wQ)) | with_reducible intro _)
   all_goals try omega
   rw [← g3]
   simp [D.closed, D.er, dd]
theorem rdec_p (n : Nat) (h0 : n < 100000000000000) : Pur M 40 [.int .i64 n] (.str (Lib.itoa n)) := by
 refine k40.ok (C := C40) rfl rfl ?_
 rw [i40]
 unfold c40
 have h1 := rdig_p n h0
 have h2 : Lib.itoa (n : Int) = Lib.decDigits n := by
  unfold Lib.itoa
  simp
 rw [h2]
 have wQ := tw; repeat' (first | with_reducible (apply swq; constructor) | simp only [go_sem, seval, P40, q40] | simp (disch := omega) only [wA] | ((with_reducible refine zAb (h1) ?he ?hc ?_); (case he | hc => exact sc wQ)) | with_reducible (apply cdA; constructor) | with_reducible intro _)
 all_goals first
  | omega
  | (simp [D.closed, D.er]; done)
theorem kidsN_want (op : Int) (k : Nat) : ((k : Int) = kidsN op) ↔ (1 ≤ op ∧ op ≤ 11 ∧ k = want op) := by
 unfold kidsN want
 constructor
 ·intro h
  split at h
  ·split <;> (try split) <;> omega
  ·split at h
   ·split <;> (try split) <;> omega
   ·split at h
    ·split <;> omega
    ·omega
 ·rintro ⟨h1, h2, h3⟩
  split at h3
  ·rw [if_neg (by omega), if_neg (by omega), if_pos (by omega)]; omega
  ·split at h3
   ·rw [if_neg (by omega), if_pos (by omega)]; omega
   ·rw [if_pos (by omega)]; omega
theorem okN_iff (op n : Int) (k : Nat) : okN op n k = true ↔ ((k : Int) = kidsN op ∧ 0 ≤ n ∧ n ≤ 9999999 ∧ (op = 1 ∨ n = 0)) := by
 rw [kidsN_want]
 unfold okN
 rw [decide_eq_true_iff]
 generalize want op = w
 constructor
 ·rintro ⟨h1, h2, h3, h4, h5, h6⟩
  refine ⟨⟨h1, h2, h3⟩, h4, h5, ?_⟩
  by_cases q : n = 0
  ·exact .inr q
  ·exact .inl (h6 (by omega))
 ·rintro ⟨⟨h1, h2, h3⟩, h4, h5, h6⟩
  exact ⟨h1, h2, h3, h4, h5, fun q => by omega⟩
theorem well_eq (f : F) : f.well = (okN f.op f.num f.kids.length && F.wellL f.kids) := by
 cases f; simp [F.well, F.op, F.num, F.kids]
set_option maxHeartbeats 4000000 in
theorem all_p : ∀ (k : Nat) (f : F), f.nodes ≤ k → f.nodes ≤ 100000 → Pur M 30 [f.d] (.bool f.well)
 | 0, f, hk, _ => by have := zBe f; omega
 | k + 1, f, hk, hk2 => by
   have ih : ∀ u ∈ f.kids, Pur M 30 [u.d] (.bool u.well) := fun u hu => all_p k u (by have := zAx hu; omega) (by have := zAx hu; omega)
   have hkl : f.kids.length ≤ 100000 := by have := zCs f.kids; have := F.nodes_eq f; omega
   refine k30.ok (C := C30) rfl rfl ?_
   rw [i30]
   unfold c30
   have hlx : (f.kids.map F.d).length = f.kids.length := by simp
   have ck := kids_p f.op
   have hiff := okN_iff f.op f.num f.kids.length
   rw [F.d_eq, well_eq]
   cases hok : okN f.op f.num f.kids.length
   ·have hnot : ¬ ((f.kids.length : Int) = kidsN f.op ∧ 0 ≤ f.num ∧ f.num ≤ 9999999 ∧ (f.op = 1 ∨ f.num = 0)) := fun q => by
     rw [hiff.2 q] at hok; cases hok
    generalize kidsN f.op = K at *
    have wQ := @hlx; repeat' (first | with_reducible (apply swq; constructor) | simp only [go_sem, seval, P30, q30, hlx] | ((with_reducible refine zAq (ck) ?he ?hc ?_); (case he | hc => exact sc wQ)) | (with_reducible first | (apply cdA; constructor) | (apply gdA; constructor)) | with_reducible intro _)
    all_goals first | (exfalso; omega) | simp [D.closed, D.er]
   ·obtain ⟨h1, h2, h3, h4⟩ := hiff.1 hok
    generalize kidsN f.op = K at *
    have wQ := @hlx; repeat' (first | with_reducible (apply swq; constructor) | simp only [go_sem, seval, P30, q30, hlx] | ((with_reducible refine zAq (ck) ?he ?hc ?_); (case he | hc => exact sc wQ)) | (with_reducible first | (apply cdA; constructor) | (apply gdA; constructor)) | with_reducible intro _)
    all_goals try (exfalso; omega)
    all_goals
     refine zAu [1, 2, 3] (fun i : Nat => ⟨[.u0, .ptr 0 0, .bool false, .int .i64 i, .u0, .u0, .u0], [], ⟨[.cells f.cells], []⟩⟩) (fun i => i ≤ f.kids.length ∧ ∀ j (q1 : j < f.kids.length), j < i → (f.kids[j]).well = true) (fun i => f.kids.length - i) 0 ⟨by omega, fun _ _ h => by omega⟩ ?_ ?_
     ·simp [keepE, St.keep, F.cells]
     rintro i ⟨hi, hall⟩
     by_cases hil : i < f.kids.length
     ·have hg : (f.kids.map F.d).getD i .u0 = .agg (f.kids[i]).cells := by simp [List.getD, hil, F.d_eq]
      have hd : decide ((i : Int) < f.kids.length) = true := by simp; omega
      have c1 := ih _ (List.getElem_mem hil)
      have a1 := zAd (f.kids[i]).kids
      have a2 := erL_F (f.kids[i]).kids
      rw [F.d_eq] at c1
      cases hb : (f.kids[i]).well
      ·rw [hb] at c1
       have hw : F.wellL f.kids = false := by
        rw [zD8]
        rw [List.all_eq_false]
        exact ⟨_, List.getElem_mem hil, by simp [hb]⟩
       rw [hw]
       have wQ := And.intro @hlx (And.intro @hg (And.intro @a1 @a2)); repeat' (first | with_reducible (apply swq; constructor) | simp only [go_sem, seval, P30, q30, hlx, hg, hd] | ((with_reducible refine zAb (c1) ?he ?hc ?_); (case he | hc => exact sc wQ)) | ((with_reducible refine And.intro ?hw ?_); (case hw => exact sw wQ)) | with_reducible intro _)
       all_goals try (exfalso; omega)
       all_goals simp [D.closed, D.er]
      ·rw [hb] at c1
       have wQ := And.intro @hlx (And.intro @hg (And.intro @a1 @a2)); repeat' (first | with_reducible (apply swq; constructor) | simp only [go_sem, seval, P30, q30, hlx, hg, hd] | simp (disch := omega) only [wA] | ((with_reducible refine zAb (c1) ?he ?hc ?_); (case he | hc => exact sc wQ)) | ((with_reducible refine And.intro ?hw ?_); (case hw => exact sw wQ)) | with_reducible intro _)
       all_goals try (exfalso; omega)
       refine ⟨i + 1, ⟨by omega, fun j q1 hj => ?_⟩, by omega, ?_⟩
       ·by_cases e : j = i
        ·subst e; exact hb
        ·exact hall j q1 (by omega)
       ·simp [keepE, St.keep, F.cells]
     ·obtain rfl : i = f.kids.length := by omega
      have hd : decide ((f.kids.length : Int) < f.kids.length) = false := by simp
      have hw : F.wellL f.kids = true := by
       rw [zD8, List.all_eq_true]
       intro y hy
       obtain ⟨j, hj, rfl⟩ := List.getElem_of_mem hy
       exact hall j hj hj
      rw [hw]
      repeat' (first | with_reducible (apply swq; constructor) | simp only [go_sem, seval, P30, q30, hlx, hd] | with_reducible intro _)
      all_goals try (exfalso; omega)
      all_goals simp [D.closed, D.er]
theorem rvalid_p (f : F) : Pur M 11 [f.d] (.bool f.valid) := by
 refine k11.ok (C := C11) rfl rfl ?_
 rw [i11]
 unfold c11
 have c1 := rnodes_p f.nodes f (Nat.le_refl _) 60 (by omega)
 have c2 := fun h => all_p f.nodes f (Nat.le_refl _) h
 have a1 := zAd f.kids
 have a2 := erL_F f.kids
 unfold F.valid
 rw [F.d_eq] at c1 c2 ⊢
 by_cases hn : f.nodes ≤ 60
 ·have t1 : decide (((min f.nodes (60 + 1) : Nat) : Int) ≤ 60) = true := by simp; omega
  have c3 := c2 (by omega)
  rw [decide_eq_true hn]
  generalize min f.nodes (60 + 1) = mm at *
  have wQ := And.intro @a1 @a2; repeat' (first | with_reducible (apply swq; constructor) | simp only [go_sem, seval, P11, q11, t1] | ((with_reducible refine zAb (c1) ?he ?hc ?_); (case he | hc => exact sc wQ)) | ((with_reducible refine zAb (c3) ?he ?hc ?_); (case he | hc => exact sc wQ)) | with_reducible intro _)
  all_goals simp [D.closed, D.er]
 ·have t1 : decide (((min f.nodes (60 + 1) : Nat) : Int) ≤ 60) = false := by simp; omega
  rw [decide_eq_false hn]
  generalize min f.nodes (60 + 1) = mm at *
  have wQ := And.intro @a1 @a2; repeat' (first | with_reducible (apply swq; constructor) | simp only [go_sem, seval, P11, q11, t1] | ((with_reducible refine zAb (c1) ?he ?hc ?_); (case he | hc => exact sc wQ)) | with_reducible intro _)
  all_goals simp [D.closed, D.er]
theorem level_p (op : Int) : Pur M 41 [.int .i64 op] (.int .i64 (rankF op + 1)) := by
 refine k41.ok (C := C41) rfl rfl ?_
 rw [i41]
 unfold c41
 unfold rankF
 repeat' (first | with_reducible (apply swq; constructor) | simp only [go_sem, seval, P41, q41] | (with_reducible first | (apply cdA; constructor) | (apply gdA; constructor)) | with_reducible intro _)
 all_goals try simp only [D.closed, D.er, true_and]
 all_goals (congr 1; (repeat' split) <;> omega)
end Go.Proofs.YtkjnhkoipgdfeaaGreatDoor
end
section
set_option maxRecDepth 100000
set_option linter.unusedSimpArgs false
set_option linter.unusedVariables false
namespace Go.Proofs.YtkjnhkoipgdfeaaGreatDoor
open Go GoV Go.RowKit
def wordsL : List Tx := [[], [], tKm, tCy, tLd, [32, 43, 32], [32, 45, 32], [32, 42, 32], [32, 47, 32], [109, 105, 110, 40], [109, 97, 120, 40], [105, 102, 40]]
theorem wordsL_eq : ([.str [], .str [], .str [107, 109], .str [99, 121, 99, 108, 101, 115], .str [108, 111, 97, 100], .str [32, 43, 32], .str [32, 45, 32], .str [32, 42, 32], .str [32, 47, 32], .str [109, 105, 110, 40], .str [109, 97, 120, 40], .str [105, 102, 40]] : List D) = strs wordsL := rfl
theorem rank_rng (op : Int) : 0 ≤ rankF op ∧ rankF op ≤ 2 := by unfold rankF; (repeat' split) <;> omega
theorem wr_par (f : F) (least : Int) : wr f least = if rankF f.op < least then ([40] ++ wr f 0) ++ [41] else wr f 0 := by
 obtain ⟨op, n, ks⟩ := f
 have h := (rank_rng op).1
 have h0 : ¬ rankF op < 0 := by omega
 simp only [wr, parW, F.op, if_neg h0]
def joinW : List Tx → Tx
 | [] => []
 | t :: r => ([44, 32] ++ t) ++ joinW r
theorem joinW_app : ∀ a b : List Tx, joinW (a ++ b) = joinW a ++ joinW b
 | [], b => rfl
 | t :: a, b => by simp [joinW, joinW_app a b]
theorem joinW_len {r : List Tx} (h : ∀ t ∈ r, t.length ≤ 2000) : (joinW r).length ≤ 2002 * r.length := by
 induction r with
 | nil => simp [joinW]
 | cons t r ih =>
   have h1 := h t (by simp)
   have h2 := ih (fun x hx => h x (by simp [hx]))
   simp only [joinW, List.length_append, List.length_cons, List.length_nil]; omega
theorem wr_fun {op n : Int} {a : F} {r : List F} (hop : op = 9 ∨ op = 10 ∨ op = 11) (hl : (a :: r).length = want op) : wr (.mk op n (a :: r)) 0 = ((wordsL.getD op.toNat [] ++ wr a 0) ++ joinW (r.map fun k => wr k 0)) ++ [41] := by
 rcases hop with rfl | rfl | rfl
 ·match r, hl with
  | [b], _ => simp [wr, parW, rankF, bodyW, wrL, joinW, wordsL, tMin]
 ·match r, hl with
  | [b], _ => simp [wr, parW, rankF, bodyW, wrL, joinW, wordsL, tMax]
 ·match r, hl with
  | [b, c], _ => simp [wr, parW, rankF, bodyW, wrL, joinW, wordsL, tIf]
theorem wr_bin {op n : Int} {a b : F} (h1 : 5 ≤ op) (h2 : op ≤ 8) : wr (.mk op n [a, b]) 0 = (wr a (rankF op) ++ wordsL.getD op.toNat []) ++ wr b (rankF op + 1) := by
 have : op = 5 ∨ op = 6 ∨ op = 7 ∨ op = 8 := by omega
 rcases this with rfl | rfl | rfl | rfl <;> simp [wr, parW, rankF, bodyW, wrL, wordsL, symF]
theorem wordsL_len (i : Nat) : (wordsL.getD i []).length ≤ 10 := by
 by_cases h : i < 12
 ·have : i = 0 ∨ i = 1 ∨ i = 2 ∨ i = 3 ∨ i = 4 ∨ i = 5 ∨ i = 6 ∨ i = 7 ∨ i = 8 ∨ i = 9 ∨ i = 10 ∨ i = 11 := by omega
  rcases this with rfl | rfl | rfl | rfl | rfl | rfl | rfl | rfl | rfl | rfl | rfl | rfl <;> decide
 ·rw [List.getD_eq_getElem?_getD, List.getElem?_eq_none (by simp [wordsL]; omega)]; simp
set_option maxHeartbeats 8000000 in
theorem rtext_p : ∀ (k : Nat) (f : F), f.nodes ≤ k → f.nodes ≤ 60 → f.well = true → Pur M 20 [f.d] (.str (wr f 0))
 | 0, f, hk, _, _ => by have := zBe f; omega
 | k + 1, .mk op n ks, hk, h60, hw => by
   obtain ⟨hkw, o1, o2, n1, n2, hc⟩ := zB9 hw
   have ih : ∀ y ∈ ks, Pur M 20 [y.d] (.str (wr y 0)) ∧ (wr y 0).length ≤ 1440 := fun y hy => by
    have hy2 := zAx (f := .mk op n ks) hy
    refine ⟨rtext_p k y (by omega) (by omega) (hkw y hy), ?_⟩
    have := wr_len y.nodes y (Nat.le_refl _) (hkw y hy) 0
    omega
   refine k20.ok (C := C20) rfl rfl ?_
   rw [i20]
   unfold c20
   rw [F.d_mk]
   have hWl : (strs wordsL).length = 12 := rfl
   have hWe : zAk 1 (strs wordsL) = true := rfl
   have hWc : D.cL (strs wordsL) = true := rfl
   have hWr : D.erL (strs wordsL) = strs wordsL := rfl
   have hWg : ∀ o : Int, 0 ≤ o → o ≤ 11 → (strs wordsL).getD o.toNat .u0 = .str (wordsL.getD o.toNat []) := fun o q1 q2 => strs_get (l := wordsL) (show o.toNat < 12 by omega)
   have hwl := wordsL_len op.toNat
   by_cases h1 : op = 1
   ·subst h1
    obtain ⟨m, rfl⟩ : ∃ m : Nat, n = m := ⟨n.toNat, by omega⟩
    have hks : ks = [] := by
     rcases hc with ⟨_, h⟩ | ⟨h, _⟩ | ⟨h, _⟩
     ·exact h
     iterate 2
      ·omega
    subst hks
    have cd := rdec_p m (by omega)
    have e : wr (.mk 1 m []) 0 = Lib.itoa m := by simp [wr, parW, rankF, bodyW]
    rw [e]
    have wQ := tw; repeat' (first | with_reducible (apply swq; constructor) | simp only [go_sem, seval, P20, q20] | ((with_reducible refine zAb (cd) ?he ?hc ?_); (case he | hc => exact sc wQ)) | with_reducible intro _)
    all_goals simp [D.closed, D.er]
   have t1 : (op == 1) = false := by simp [h1]
   have hg := hWg op (by omega) (by omega)
   by_cases h4 : op ≤ 4
   ·have t4 : decide (op ≤ 4) = true := by simp [h4]
    have hks : ks = [] := by
     rcases hc with ⟨_, h⟩ | ⟨h, _⟩ | ⟨h, _⟩
     ·exact h
     iterate 2
      ·omega
    subst hks
    have e : wr (.mk op n []) 0 = wordsL.getD op.toNat [] := by
     have : op = 2 ∨ op = 3 ∨ op = 4 := by omega
     rcases this with rfl | rfl | rfl <;> rfl
    rw [e]
    generalize wordsL.getD op.toNat [] = w at *
    have hW := wordsL_eq
    generalize strs wordsL = LW at *
    have wQ := And.intro @hWl (And.intro @hWe (And.intro @hWc (And.intro @hWr @hg))); repeat' (first | with_reducible (apply swq; constructor) | simp only [go_sem, seval, P20, q20, t1, t4, hW, hWr, hWl, hg] | ((with_reducible apply s_bsl); (case he | hl | hc => exact sd wQ)) | ((with_reducible refine And.intro ?hw ?_); (case hw => exact sw wQ)) | with_reducible intro _)
    all_goals simp [D.closed, D.er]
   have t4 : decide (op ≤ 4) = false := by simp; omega
   have cl := level_p op
   have hlk : (ks.map F.d).length = ks.length := by simp
   by_cases h8 : op ≤ 8
   ·obtain ⟨a, b, rfl⟩ : ∃ a b, ks = [a, b] := by
     rcases hc with ⟨h, _⟩ | ⟨_, _, h⟩ | ⟨h, _⟩
     ·omega
     ·exact h
     ·omega
    obtain ⟨ca, la⟩ := ih a (by simp)
    obtain ⟨cb, lb⟩ := ih b (by simp)
    have a1 := zAd a.kids
    have a2 := erL_F a.kids
    have a3 := zAd b.kids
    have a4 := erL_F b.kids
    have cla := level_p a.op
    have clb := level_p b.op
    rw [F.d_eq] at ca cb
    have hr : rankF op = 0 ∨ rankF op = 1 := by
     unfold rankF; split
     ·exact .inl rfl
     ·rw [if_pos (by omega)]; exact .inr rfl
    have t3 : (rankF op + 1 == 3) = false := by rw [beq_eq_false_iff_ne]; omega
    rw [wr_bin (by omega) h8, wr_par a (rankF op), wr_par b (rankF op + 1)]
    have hb1 : decide (rankF a.op + 1 < rankF op + 1) = decide (rankF a.op < rankF op) := by
     rw [Bool.eq_iff_iff, decide_eq_true_iff, decide_eq_true_iff]; omega
    have hb2 : decide (rankF b.op + 1 ≤ rankF op + 1) = decide (rankF b.op < rankF op + 1) := by
     rw [Bool.eq_iff_iff, decide_eq_true_iff, decide_eq_true_iff]; omega
    have e1 : (if rankF a.op < rankF op then ([40] ++ wr a 0) ++ [41] else wr a 0) = if decide (rankF a.op < rankF op) = true then ([40] ++ wr a 0) ++ [41] else wr a 0 := by simp
    have e2 : (if rankF b.op < rankF op + 1 then ([40] ++ wr b 0) ++ [41] else wr b 0) = if decide (rankF b.op < rankF op + 1) = true then ([40] ++ wr b 0) ++ [41] else wr b 0 := by simp
    rw [e1, e2]
    generalize decide (rankF a.op < rankF op) = b1 at *
    generalize decide (rankF b.op < rankF op + 1) = b2 at *
    generalize wr a 0 = ta at *
    generalize wr b 0 = tb at *
    have hg0 : (List.map F.d [a, b]).getD 0 .u0 = .agg a.cells := by simp [F.d_eq]
    have hg1 : (List.map F.d [a, b]).getD 1 .u0 = .agg b.cells := by simp [F.d_eq]
    simp only [List.length_cons, List.length_nil] at hlk
    generalize List.map F.d [a, b] = LK at *
    generalize wordsL.getD op.toNat [] = w at *
    have hW := wordsL_eq
    generalize strs wordsL = LW at *
    cases b1 <;> cases b2 <;> (
     have wQ := And.intro @hWl (And.intro @hWe (And.intro @hWc (And.intro @hWr (And.intro @hg (And.intro @hlk (And.intro @hg0 (And.intro @hg1 (And.intro @a1 (And.intro @a2 (And.intro @a3 @a4)))))))))); repeat' (first | with_reducible (apply swq; constructor) | simp only [go_sem, seval, P20, q20, t1, t3, t4, hW, hWr, hWl, hg, hlk, hg0, hg1, hb1, hb2] | ((with_reducible refine zAb (cl) ?he ?hc ?_); (case he | hc => exact sc wQ)) | ((with_reducible refine zAq (cla) ?he ?hc ?_); (case he | hc => exact sc wQ)) | ((with_reducible refine zAq (clb) ?he ?hc ?_); (case he | hc => exact sc wQ)) | ((with_reducible refine zAb (ca) ?he ?hc ?_); (case he | hc => exact sc wQ)) | ((with_reducible refine zAb (cb) ?he ?hc ?_); (case he | hc => exact sc wQ)) | ((with_reducible apply s_bsl); (case he | hl | hc => exact sd wQ)) | ((with_reducible refine And.intro ?hw ?_); (case hw => exact sw wQ)) | with_reducible intro _)
     all_goals try (exfalso; omega)
     all_goals simp [D.closed, D.er])
   ·obtain ⟨a, r, rfl⟩ : ∃ a r, ks = a :: r := by
     rcases hc with ⟨h, _⟩ | ⟨_, _, a, b, h⟩ | ⟨_, a, b, c, h⟩
     ·omega
     ·exact ⟨a, [b], h⟩
     ·exact ⟨a, [b, c], h⟩
    have hop : op = 9 ∨ op = 10 ∨ op = 11 := by omega
    have hlen : (a :: r).length = want op := by
     simp only [F.well, Bool.and_eq_true] at hw
     have := hw.1
     unfold okN at this
     exact (of_decide_eq_true this).2.2.1
    have hl3 : r.length ≤ 2 := by
     have : want op ≤ 3 := by unfold want; (repeat' split) <;> omega
     simp only [List.length_cons] at hlen; omega
    rw [wr_fun hop hlen]
    obtain ⟨ca, la⟩ := ih a (by simp)
    have a1 := zAd a.kids
    have a2 := erL_F a.kids
    rw [F.d_eq] at ca
    have hr : rankF op = 2 := by unfold rankF; rw [if_neg (by omega), if_neg (by omega)]
    rw [hr] at cl
    have hg0 : (List.map F.d (a :: r)).getD 0 .u0 = .agg a.cells := by simp [F.d_eq]
    simp only [List.length_cons] at hlk
    generalize hLK : List.map F.d (a :: r) = LK at *
    generalize wordsL.getD op.toNat [] = w at *
    have hW := wordsL_eq
    generalize strs wordsL = LW at *
    generalize wr a 0 = ta at *
    have wQ := And.intro @hWl (And.intro @hWe (And.intro @hWc (And.intro @hWr (And.intro @hg (And.intro @hlk (And.intro @hg0 (And.intro @a1 @a2))))))); repeat' (first | with_reducible (apply swq; constructor) | simp only [go_sem, seval, P20, q20, t1, t4, hW, hWr, hWl, hg, hlk, hg0] | ((with_reducible refine zAb (cl) ?he ?hc ?_); (case he | hc => exact sc wQ)) | ((with_reducible refine zAq (ca) ?he ?hc ?_); (case he | hc => exact sc wQ)) | ((with_reducible apply s_bsl); (case he | hl | hc => exact sd wQ)) | ((with_reducible refine And.intro ?hw ?_); (case hw => exact sw wQ)) | with_reducible intro _)
    all_goals try (exfalso; omega)
    refine zAu [1, 3, 4, 5] (fun i : Nat => ⟨[.u0, .ptr 0 0, .u0, .slice LW .full, .str ((w ++ ta) ++ joinW ((r.map fun k => wr k 0).take i)), .int .i64 (i + 1 : Nat), .u0, .u0, .u0, .u0, .u0, .u0, .u0, .u0], [], ⟨[.cells [.int .i64 op, .int .i64 n, .slice LK .no]], []⟩⟩) (fun i => i ≤ r.length) (fun i => r.length - i) 0 (by omega) ?_ ?_
    ·simp [keepE, St.keep, joinW]
    rintro i hi
    have hjl : (joinW ((r.map fun k => wr k 0).take i)).length ≤ 2002 * 2 := by
     have := joinW_len (r := (r.map fun k => wr k 0).take i) (fun t ht => by
      obtain ⟨y, hy, rfl⟩ := List.mem_map.1 (List.mem_of_mem_take ht)
      have := (ih y (by simp [hy])).2; omega)
     rw [List.length_take] at this
     have h2 : min i (r.map fun k => wr k 0).length ≤ 2 := by omega
     omega
    by_cases hil : i < r.length
    ·have hd : decide (((i + 1 : Nat) : Int) < (r.length + 1 : Nat)) = true := by simp; omega
     have hgi : LK.getD (i + 1) .u0 = .agg (r[i]).cells := by rw [← hLK]; simp [List.getD, hil, F.d_eq]
     obtain ⟨ci, li⟩ := ih r[i] (by simp)
     have a3 := zAd (r[i]).kids
     have a4 := erL_F (r[i]).kids
     rw [F.d_eq] at ci
     have hj : joinW ((r.map fun k => wr k 0).take (i + 1)) = joinW ((r.map fun k => wr k 0).take i) ++ ([44, 32] ++ wr r[i] 0) := by
      rw [List.take_succ_eq_append_getElem (by simpa using hil), joinW_app]
      simp [joinW]
     have hcast : (((i + 1 : Nat) : Int) + 1) = ((i + 1 + 1 : Nat) : Int) := by omega
     generalize joinW ((r.map fun k => wr k 0).take i) = tj at *
     generalize hwr : wr r[i] 0 = ti at *
     have wQ := And.intro @hlk (And.intro @hgi (And.intro @a3 @a4)); repeat' (first | with_reducible (apply swq; constructor) | simp only [go_sem, seval, P20, q20, hlk, hgi, hd, hcast] | simp (disch := omega) only [wA] | ((with_reducible refine zAb (ci) ?he ?hc ?_); (case he | hc => exact sc wQ)) | ((with_reducible refine And.intro ?hw ?_); (case hw => exact sw wQ)) | with_reducible intro _)
     all_goals try (exfalso; omega)
     refine ⟨i + 1, by omega, by omega, ?_⟩
     simp only [keepE, St.keep, hj]
     simp
    ·obtain rfl : i = r.length := by omega
     have hd : decide (((r.length + 1 : Nat) : Int) < (r.length + 1 : Nat)) = false := by simp
     have htk : (r.map fun k => wr k 0).take r.length = r.map fun k => wr k 0 := by
      rw [List.take_of_length_le (by simp)]
     rw [htk] at hjl ⊢
     generalize joinW (r.map fun k => wr k 0) = tj at *
     have wQ := @hlk; repeat' (first | with_reducible (apply swq; constructor) | simp only [go_sem, seval, P20, q20, hlk, hd] | ((with_reducible refine And.intro ?hw ?_); (case hw => exact sw wQ)) | with_reducible intro _)
     all_goals try (exfalso; omega)
     all_goals simp [D.closed, D.er]
theorem rText_p (f : F) : Pur M 7 [f.d] (.tup [.str (textF f), .int .i64 (if f.valid then 0 else 1)]) := by
 refine k7.ok (C := C7) rfl rfl ?_
 rw [i7]
 unfold c7
 have c1 := rvalid_p f
 have hck := zAd f.kids
 have hek := erL_F f.kids
 unfold textF
 cases hv : f.valid
 ·rw [hv] at c1
  rw [F.d_eq] at c1 ⊢
  have wQ := And.intro @hck @hek; repeat' (first | with_reducible (apply swq; constructor) | simp only [go_sem, seval, P7, q7] | ((with_reducible refine zAb (c1) ?he ?hc ?_); (case he | hc => exact sc wQ)) | with_reducible intro _)
  all_goals simp [D.closed, D.er, D.cL, D.erL]
 ·rw [hv] at c1
  have hv2 := valid_iff.1 hv
  have c2 := rtext_p f.nodes f (Nat.le_refl _) hv2.1 hv2.2
  rw [F.d_eq] at c1 c2 ⊢
  have wQ := And.intro @hck @hek; repeat' (first | with_reducible (apply swq; constructor) | simp only [go_sem, seval, P7, q7] | ((with_reducible refine zAb (c1) ?he ?hc ?_); (case he | hc => exact sc wQ)) | ((with_reducible refine zAb (c2) ?he ?hc ?_); (case he | hc => exact sc wQ)) | with_reducible intro _)
  all_goals simp [D.closed, D.er, D.cL, D.erL]
end Go.Proofs.YtkjnhkoipgdfeaaGreatDoor
end
section
set_option maxRecDepth 100000
set_option linter.unusedSimpArgs false
set_option linter.unusedVariables false
namespace Go.Proofs.YtkjnhkoipgdfeaaGreatDoor
open Go GoV Go.RowKit
theorem tmod_ne {a b : Int} : (a.tmod b != 0) = (a.tdiv b * b != a) := by
 have h := Int.tdiv_mul_add_tmod a b
 rw [Bool.eq_iff_iff, bne_iff_ne, bne_iff_ne]
 constructor <;> intro q r <;> apply q <;> omega
set_option maxHeartbeats 2000000 in
theorem rdiv_p (a b : Int) (ha : Rg a) (hb : Rg b) : Pur M 51 [.int .i64 a, .int .i64 b] (.int .i64 (fl a b)) := by
 refine k51.ok (C := C51) rfl rfl ?_
 rw [i51]
 unfold c51
 by_cases h0 : b = 0
 ·subst h0
  have : fl a 0 = 0 := by simp [fl]
  rw [this]
  repeat' (first | with_reducible (apply swq; constructor) | simp only [go_sem, seval, P51, q51] | with_reducible intro _)
  all_goals first | omega | (simp_all [D.closed, D.er, D.cL, D.erL]; done) | (simp_all [D.closed, D.er, D.cL, D.erL] <;> omega)
 ·rw [fl_tdiv h0]
  have hr := tdiv_rng (b := b) ha
  obtain ⟨⟨r1, r2⟩, ⟨r3, r4⟩⟩ := hr
  obtain ⟨h1, h2⟩ := ha
  obtain ⟨h3, h4⟩ := hb
  have hmr : (a.tmod b != 0) = (a.tdiv b * b != a) := tmod_ne
  generalize hm : a.tdiv b * b = m at *
  generalize hq : a.tdiv b = q at *
  generalize hz : a.tmod b = z at *
  have e0 : (b == 0) = false := by simp [h0]
  cases ta : decide (a < 0) <;> cases tb : decide (b < 0)
  all_goals
   by_cases hma : m = a
   ·rw [show (m != a) = false by simp [hma]] at hmr
    rw [if_neg (by simp [hma])]
    have wQ := tw; repeat' (first | with_reducible (apply swq; constructor) | simp only [go_sem, seval, P51, q51, hq, hz, hmr, e0, ta, tb, bq1, bq2, bq3, bq4, Bool.not_true, Bool.not_false] | simp (disch := omega) only [wA] | ((with_reducible refine And.intro ?hw ?_); (case hw => exact sw wQ)) | with_reducible intro _)
    all_goals try (exfalso; omega)
    all_goals simp [D.closed, D.er]
   ·rw [show (m != a) = true by simp [hma]] at hmr
    have wQ := tw; repeat' (first | with_reducible (apply swq; constructor) | simp only [go_sem, seval, P51, q51, hq, hz, hmr, e0, ta, tb, bq1, bq2, bq3, bq4, Bool.not_true, Bool.not_false] | simp (disch := omega) only [wA] | ((with_reducible refine And.intro ?hw ?_); (case hw => exact sw wQ)) | with_reducible intro _)
    all_goals try (exfalso; omega)
    all_goals simp [D.closed, D.er, hma]
set_option maxHeartbeats 8000000 in
theorem rvalue_p (km cy ld : Int) (h1 : Rg km) (h2 : Rg cy) (h3 : Rg ld) : ∀ (k : Nat) (f : F), f.nodes ≤ k → f.well = true → Pur M 33 [f.d, .int .i64 km, .int .i64 cy, .int .i64 ld] (.int .i64 (val km cy ld f))
 | 0, x, hk, _ => by have := zBe x; omega
 | k + 1, .mk op n ks, hk, hw => by
   obtain ⟨hkw, o1, o2, n1, n2, hc⟩ := zB9 hw
   have ih : ∀ y ∈ ks, Pur M 33 [y.d, .int .i64 km, .int .i64 cy, .int .i64 ld] (.int .i64 (val km cy ld y)) := fun y hy => rvalue_p km cy ld h1 h2 h3 k y (by have := zAx (f := .mk op n ks) hy; omega) (hkw y hy)
   have hR : ∀ y ∈ ks, Rg (val km cy ld y) := fun y hy => val_rng h1 h2 h3 y (hkw y hy)
   refine k33.ok (C := C33) rfl rfl ?_
   rw [i33]
   unfold c33
   rw [F.d_mk]
   rcases hc with ⟨g1, rfl⟩ | ⟨g1, g2, a, b, rfl⟩ | ⟨rfl, a, b, c, rfl⟩
   ·have : op = 1 ∨ op = 2 ∨ op = 3 ∨ op = 4 := by omega
    rcases this with rfl | rfl | rfl | rfl
    all_goals
     repeat' (first | with_reducible (apply swq; constructor) | simp only [go_sem, seval, P33, q33] | with_reducible intro _)
     all_goals simp [D.closed, D.er, val, valL]
   ·have ca := ih a (by simp)
    have cb := ih b (by simp)
    have ra := hR a (by simp)
    have rb := hR b (by simp)
    rw [val_op km cy ld op n a b g1 g2]
    have c5 := zDy (val km cy ld a + val km cy ld b)
    have c6 := zDy (val km cy ld a - val km cy ld b)
    have c7 := zFu _ _ ra rb
    have c8 := rdiv_p _ _ ra rb
    have a1 := zAd a.kids
    have a2 := erL_F a.kids
    have a3 := zAd b.kids
    have a4 := erL_F b.kids
    rw [F.d_eq] at ca cb
    have hlk : (List.map F.d [a, b]).length = 2 := rfl
    have hg0 : (List.map F.d [a, b]).getD 0 .u0 = .agg a.cells := by simp [F.d_eq]
    have hg1 : (List.map F.d [a, b]).getD 1 .u0 = .agg b.cells := by simp [F.d_eq]
    generalize List.map F.d [a, b] = LK at *
    generalize val km cy ld a = va at *
    generalize val km cy ld b = vb at *
    obtain ⟨ra1, ra2⟩ := ra
    obtain ⟨rb1, rb2⟩ := rb
    have hop : op = 5 ∨ op = 6 ∨ op = 7 ∨ op = 8 ∨ op = 9 ∨ op = 10 := by omega
    rcases hop with rfl | rfl | rfl | rfl | rfl | rfl
    all_goals
     have wQ := And.intro @hlk (And.intro @hg0 (And.intro @hg1 (And.intro @a1 (And.intro @a2 (And.intro @a3 @a4))))); repeat' (first | with_reducible (apply swq; constructor) | simp only [go_sem, seval, P33, q33, hlk, hg0, hg1, minW, maxW] | simp (disch := omega) only [wA] | ((with_reducible refine zAb (ca) ?he ?hc ?_); (case he | hc => exact sc wQ)) | ((with_reducible refine zAb (cb) ?he ?hc ?_); (case he | hc => exact sc wQ)) | ((with_reducible refine zAb (c5) ?he ?hc ?_); (case he | hc => exact sc wQ)) | ((with_reducible refine zAb (c6) ?he ?hc ?_); (case he | hc => exact sc wQ)) | ((with_reducible refine zAb (c7) ?he ?hc ?_); (case he | hc => exact sc wQ)) | ((with_reducible refine zAb (c8) ?he ?hc ?_); (case he | hc => exact sc wQ)) | ((with_reducible refine And.intro ?hw ?_); (case hw => exact sw wQ)) | with_reducible intro _)
     all_goals try (exfalso; omega)
     all_goals simp [D.closed, D.er, opN]
   ·have ca := ih a (by simp)
    have cb := ih b (by simp)
    have cc := ih c (by simp)
    have e : val km cy ld (.mk 11 n [a, b, c]) = chN (val km cy ld a) (val km cy ld b) (val km cy ld c) := by simp [val, valL]
    rw [e]
    have a1 := zAd a.kids
    have a2 := erL_F a.kids
    have a3 := zAd b.kids
    have a4 := erL_F b.kids
    have a5 := zAd c.kids
    have a6 := erL_F c.kids
    rw [F.d_eq] at ca cb cc
    have hlk : (List.map F.d [a, b, c]).length = 3 := rfl
    have hg0 : (List.map F.d [a, b, c]).getD 0 .u0 = .agg a.cells := by simp [F.d_eq]
    have hg1 : (List.map F.d [a, b, c]).getD 1 .u0 = .agg b.cells := by simp [F.d_eq]
    have hg2 : (List.map F.d [a, b, c]).getD 2 .u0 = .agg c.cells := by simp [F.d_eq]
    generalize List.map F.d [a, b, c] = LK at *
    generalize val km cy ld a = va at *
    generalize val km cy ld b = vb at *
    generalize val km cy ld c = vc at *
    have wQ := And.intro @hlk (And.intro @hg0 (And.intro @hg1 (And.intro @hg2 (And.intro @a1 (And.intro @a2 (And.intro @a3 (And.intro @a4 (And.intro @a5 @a6)))))))); repeat' (first | with_reducible (apply swq; constructor) | simp only [go_sem, seval, P33, q33, hlk, hg0, hg1, hg2] | ((with_reducible refine zAb (ca) ?he ?hc ?_); (case he | hc => exact sc wQ)) | ((with_reducible refine zAb (cb) ?he ?hc ?_); (case he | hc => exact sc wQ)) | ((with_reducible refine zAb (cc) ?he ?hc ?_); (case he | hc => exact sc wQ)) | with_reducible (apply cdA; constructor) | ((with_reducible refine And.intro ?hw ?_); (case hw => exact sw wQ)) | with_reducible intro _)
    all_goals try (exfalso; omega)
    all_goals (simp only [chN]; first | rw [if_pos (by omega)] | rw [if_neg (by omega)])
    all_goals simp [D.closed, D.er]
theorem rValue_p (f : F) (km cy ld : Int) : Pur M 14 [f.d, .int .i64 km, .int .i64 cy, .int .i64 ld] (.int .i64 (valueF f km cy ld)) := by
 refine k14.ok (C := C14) rfl rfl ?_
 rw [i14]
 unfold c14
 have c1 := rvalid_p f
 have hck := zAd f.kids
 have hek := erL_F f.kids
 unfold valueF
 cases hv : f.valid
 ·rw [hv] at c1
  rw [F.d_eq] at c1 ⊢
  have wQ := And.intro @hck @hek; repeat' (first | with_reducible (apply swq; constructor) | simp only [go_sem, seval, P14, q14] | ((with_reducible refine zAb (c1) ?he ?hc ?_); (case he | hc => exact sc wQ)) | with_reducible intro _)
  all_goals first | omega | (simp_all [D.closed, D.er, D.cL, D.erL, hck, hek]; done) | (simp_all [D.closed, D.er, D.cL, D.erL, hck, hek] <;> omega)
 ·rw [hv] at c1
  simp only [if_true]
  have c2 := zDy km
  have c3 := zDy cy
  have c4 := zDy ld
  have c5 := rvalue_p (sat km) (sat cy) (sat ld) (zDx _) (zDx _) (zDx _) f.nodes f (Nat.le_refl _) (zEt hv)
  rw [F.d_eq] at c1 c5 ⊢
  generalize val (sat km) (sat cy) (sat ld) f = v at *
  generalize sat km = skm at *
  generalize sat cy = scy at *
  generalize sat ld = sld at *
  have wQ := And.intro @hck @hek; repeat' (first | with_reducible (apply swq; constructor) | simp only [go_sem, seval, P14, q14] | ((with_reducible refine zAb (c1) ?he ?hc ?_); (case he | hc => exact sc wQ)) | ((with_reducible refine zAq (c2) ?he ?hc ?_); (case he | hc => exact sc wQ)) | ((with_reducible refine zAq (c3) ?he ?hc ?_); (case he | hc => exact sc wQ)) | ((with_reducible refine zAq (c4) ?he ?hc ?_); (case he | hc => exact sc wQ)) | ((with_reducible refine zAb (c5) ?he ?hc ?_); (case he | hc => exact sc wQ)) | with_reducible intro _)
  all_goals first | omega | (simp_all [D.closed, D.er, D.cL, D.erL, hck, hek]; done) | (simp_all [D.closed, D.er, D.cL, D.erL, hck, hek] <;> omega)
theorem rok_p (i : Iv) (h : okI i) : Pur M 73 [ivD i] (.bool true) := by
 refine k73.ok (C := C73) rfl rfl ?_
 rw [i73]
 unfold c73
 obtain ⟨h1, h2, h3⟩ := h
 have e1 : decide (i.1 ≥ -1000000000000) = true := by simp; omega
 have e2 : decide (i.1 ≤ i.2) = true := by simp; omega
 have e3 : decide (i.2 ≤ 1000000000000) = true := by simp; omega
 repeat' (first | with_reducible (apply swq; constructor) | simp only [go_sem, seval, P73, q73, e1, e2, e3] | with_reducible intro _)
 all_goals simp [D.closed, D.er]
theorem corn_add {A B : Iv} (hA : okI A) (hB : okI B) : corn (fun a b => sat (a + b)) A B = (sat (A.1 + B.1), sat (A.2 + B.2)) := by
 obtain ⟨h1, h2, h3⟩ := hA
 obtain ⟨g1, g2, g3⟩ := hB
 have m1 : sat (A.1 + B.1) ≤ sat (A.1 + B.2) := zCg (by omega)
 have m2 : sat (A.1 + B.1) ≤ sat (A.2 + B.1) := zCg (by omega)
 have m3 : sat (A.1 + B.2) ≤ sat (A.2 + B.2) := zCg (by omega)
 have m4 : sat (A.2 + B.1) ≤ sat (A.2 + B.2) := zCg (by omega)
 unfold corn
 refine Prod.ext ?_ ?_ <;> simp only <;> omega
theorem corn_sub {A B : Iv} (hA : okI A) (hB : okI B) : corn (fun a b => sat (a - b)) A B = (sat (A.1 - B.2), sat (A.2 - B.1)) := by
 obtain ⟨h1, h2, h3⟩ := hA
 obtain ⟨g1, g2, g3⟩ := hB
 have m1 : sat (A.1 - B.2) ≤ sat (A.1 - B.1) := zCg (by omega)
 have m2 : sat (A.1 - B.2) ≤ sat (A.2 - B.2) := zCg (by omega)
 have m3 : sat (A.1 - B.1) ≤ sat (A.2 - B.1) := zCg (by omega)
 have m4 : sat (A.2 - B.2) ≤ sat (A.2 - B.1) := zCg (by omega)
 unfold corn
 refine Prod.ext ?_ ?_ <;> simp only <;> omega
theorem radd_p (A B : Iv) (hA : okI A) (hB : okI B) : Pur M 53 [ivD A, ivD B] (ivD (corn (fun a b => sat (a + b)) A B)) := by
 rw [corn_add hA hB]
 refine k53.ok (C := C53) rfl rfl ?_
 rw [i53]
 unfold c53
 have c1 := rok_p A hA
 have c2 := rok_p B hB
 obtain ⟨h1, h2, h3⟩ := hA
 obtain ⟨g1, g2, g3⟩ := hB
 have c3 := zDy (A.1 + B.1)
 have c4 := zDy (A.2 + B.2)
 generalize sat (A.1 + B.1) = x at *
 generalize sat (A.2 + B.2) = y at *
 have wQ := tw; repeat' (first | with_reducible (apply swq; constructor) | simp only [go_sem, seval, P53, q53] | simp (disch := omega) only [wA] | ((with_reducible refine zAb (c1) ?he ?hc ?_); (case he | hc => exact sc wQ)) | ((with_reducible refine zAb (c2) ?he ?hc ?_); (case he | hc => exact sc wQ)) | ((with_reducible refine zAq (c3) ?he ?hc ?_); (case he | hc => exact sc wQ)) | ((with_reducible refine zAb (c4) ?he ?hc ?_); (case he | hc => exact sc wQ)) | with_reducible intro _)
 all_goals try (exfalso; omega)
 all_goals simp [D.closed, D.er, D.cL, D.erL, RcS, setL, go_sem]
theorem rsub_p (A B : Iv) (hA : okI A) (hB : okI B) : Pur M 54 [ivD A, ivD B] (ivD (corn (fun a b => sat (a - b)) A B)) := by
 rw [corn_sub hA hB]
 refine k54.ok (C := C54) rfl rfl ?_
 rw [i54]
 unfold c54
 have c1 := rok_p A hA
 have c2 := rok_p B hB
 obtain ⟨h1, h2, h3⟩ := hA
 obtain ⟨g1, g2, g3⟩ := hB
 have c3 := zDy (A.1 - B.2)
 have c4 := zDy (A.2 - B.1)
 generalize sat (A.1 - B.2) = x at *
 generalize sat (A.2 - B.1) = y at *
 have wQ := tw; repeat' (first | with_reducible (apply swq; constructor) | simp only [go_sem, seval, P54, q54] | simp (disch := omega) only [wA] | ((with_reducible refine zAb (c1) ?he ?hc ?_); (case he | hc => exact sc wQ)) | ((with_reducible refine zAb (c2) ?he ?hc ?_); (case he | hc => exact sc wQ)) | ((with_reducible refine zAq (c3) ?he ?hc ?_); (case he | hc => exact sc wQ)) | ((with_reducible refine zAb (c4) ?he ?hc ?_); (case he | hc => exact sc wQ)) | with_reducible intro _)
 all_goals try (exfalso; omega)
 all_goals simp [D.closed, D.er, D.cL, D.erL, RcS, setL, go_sem]
theorem rmul_p (A B : Iv) (hA : okI A) (hB : okI B) : Pur M 55 [ivD A, ivD B] (ivD (corn (fun a b => sat (a * b)) A B)) := by
 refine k55.ok (C := C55) rfl rfl ?_
 rw [i55]
 unfold c55
 have c1 := rok_p A hA
 have c2 := rok_p B hB
 obtain ⟨h1, h2, h3⟩ := hA
 obtain ⟨g1, g2, g3⟩ := hB
 have r1 : Rg A.1 := ⟨by omega, by omega⟩
 have r2 : Rg A.2 := ⟨by omega, by omega⟩
 have r3 : Rg B.1 := ⟨by omega, by omega⟩
 have r4 : Rg B.2 := ⟨by omega, by omega⟩
 have c3 := zFu A.1 B.1 r1 r3
 have c4 := zFu A.1 B.2 r1 r4
 have c5 := zFu A.2 B.1 r2 r3
 have c6 := zFu A.2 B.2 r2 r4
 unfold corn
 simp only
 generalize sat (A.1 * B.1) = w at *
 generalize sat (A.1 * B.2) = x at *
 generalize sat (A.2 * B.1) = y at *
 generalize sat (A.2 * B.2) = z at *
 have wQ := tw; repeat' (first | with_reducible (apply swq; constructor) | simp only [go_sem, seval, P55, q55, minW, maxW] | ((with_reducible refine zAb (c1) ?he ?hc ?_); (case he | hc => exact sc wQ)) | ((with_reducible refine zAb (c2) ?he ?hc ?_); (case he | hc => exact sc wQ)) | ((with_reducible refine zAb (c3) ?he ?hc ?_); (case he | hc => exact sc wQ)) | ((with_reducible refine zAb (c4) ?he ?hc ?_); (case he | hc => exact sc wQ)) | ((with_reducible refine zAb (c5) ?he ?hc ?_); (case he | hc => exact sc wQ)) | ((with_reducible refine zAb (c6) ?he ?hc ?_); (case he | hc => exact sc wQ)) | with_reducible intro _)
 all_goals try (exfalso; omega)
 all_goals (simp [D.closed, D.er, D.cL, D.erL, RcS, setL, go_sem] <;> omega)
theorem rjoin_p (A B : Iv) (hA : okI A) (hB : okI B) : Pur M 58 [ivD A, ivD B] (ivD (joinI A B)) := by
 refine k58.ok (C := C58) rfl rfl ?_
 rw [i58]
 unfold c58
 have c1 := rok_p A hA
 have c2 := rok_p B hB
 unfold joinI
 have wQ := tw; repeat' (first | with_reducible (apply swq; constructor) | simp only [go_sem, seval, P58, q58, minW, maxW] | ((with_reducible refine zAb (c1) ?he ?hc ?_); (case he | hc => exact sc wQ)) | ((with_reducible refine zAb (c2) ?he ?hc ?_); (case he | hc => exact sc wQ)) | with_reducible intro _)
 all_goals try (exfalso; omega)
 all_goals simp [D.closed, D.er, D.cL, D.erL, RcS, setL, go_sem]
theorem rover_p (A : Iv) (hA : okI A) : Pur M 57 [ivD A, .int .i64 0] (.int .i64 (overI A)) := by
 refine k57.ok (C := C57) rfl rfl ?_
 rw [i57]
 unfold c57
 have c1 := rok_p A hA
 unfold overI
 have wQ := tw; repeat' (first | with_reducible (apply swq; constructor) | simp only [go_sem, seval, P57, q57] | ((with_reducible refine zAb (c1) ?he ?hc ?_); (case he | hc => exact sc wQ)) | (with_reducible (apply cdA; constructor)) | with_reducible intro _)
 all_goals try (exfalso; omega)
 all_goals first | rw [if_pos (by omega)] | rw [if_neg (by omega), if_pos (by omega)] | rw [if_neg (by omega), if_neg (by omega)]
 all_goals simp [D.closed, D.er]
end Go.Proofs.YtkjnhkoipgdfeaaGreatDoor
end
section
set_option maxRecDepth 100000
set_option linter.unusedSimpArgs false
set_option linter.unusedVariables false
namespace Go.Proofs.YtkjnhkoipgdfeaaGreatDoor
open Go GoV Go.RowKit
theorem hull_ext {L L' : List Iv} (h : ∀ p, p ∈ L ↔ p ∈ L') (hn : L ≠ []) : hull L = hull L' := by
 have hn' : L' ≠ [] := by
  cases L with
  | nil => exact absurd rfl hn
  | cons x r => intro e; have := (h x).1 (by simp); rw [e] at this; simp at this
 obtain ⟨⟨p, hp, e1⟩, q, hq, e2⟩ := hull_att hn
 obtain ⟨⟨p', hp', e3⟩, q', hq', e4⟩ := hull_att hn'
 have s1 := zC8 ((h p).1 hp)
 have s2 := zC8 ((h q).1 hq)
 have s3 := zC8 ((h p').2 hp')
 have s4 := zC8 ((h q').2 hq')
 unfold Sub at s1 s2 s3 s4
 exact Prod.ext (by omega) (by omega)
def dlS (B : Iv) : List Int := [max B.1 1, B.2, B.1, min B.2 (-1)]
def okD (B : Iv) (d : Int) : Bool := decide (B.1 ≤ d ∧ d ≤ B.2 ∧ d ≠ 0)
def qL (A B : Iv) (j : Nat) : List Iv := (if B.1 ≤ 0 ∧ 0 ≤ B.2 then [((0 : Int), (0 : Int))] else []) ++ (((dlS B).take j).filter (okD B)).map (flP A)
theorem qL_step (A B : Iv) {j : Nat} (h : j < 4) : qL A B (j + 1) = qL A B j ++ (if okD B ((dlS B).getD j 0) = true then [flP A ((dlS B).getD j 0)] else []) := by
 have e : (dlS B).take (j + 1) = (dlS B).take j ++ [(dlS B).getD j 0] := by
  have hl : j < (dlS B).length := h
  rw [List.take_succ_eq_append_getElem hl]
  simp [List.getD_eq_getElem?_getD, hl]
 unfold qL
 rw [e, List.filter_append, List.map_append, ← List.append_assoc]
 congr 1
 by_cases q : okD B ((dlS B).getD j 0) = true
 ·rw [if_pos q, List.filter_cons_of_pos q]; rfl
 ·rw [if_neg q, List.filter_cons_of_neg q]; rfl
theorem hull_app (L : List Iv) (p : Iv) (h : L ≠ []) : hull (L ++ [p]) = joinI p (hull L) := by
 cases L with
 | nil => exact absurd rfl h
 | cons x r =>
   simp only [List.cons_append, hull, List.foldl_append, List.foldl_cons, List.foldl_nil]
   unfold joinI
   exact Prod.ext (by simp only; omega) (by simp only; omega)
theorem qL_all {A B : Iv} (hB : okI B) : hull (qL A B 4) = divI A B := by
 obtain ⟨h1, h2, h3⟩ := hB
 unfold divI
 refine (hull_ext (fun p => ?_) (pieces_ne h2)).symm
 by_cases z : B.1 ≤ 0 ∧ 0 ≤ B.2
 ·have e1 : max B.1 1 = 1 := by omega
  have e2 : min B.2 (-1) = -1 := by omega
  by_cases p1 : 1 ≤ B.2 <;> by_cases p2 : B.1 ≤ -1
  ·have o1 : okD B 1 = true := decide_eq_true ⟨by omega, by omega, by omega⟩
   have o2 : okD B B.2 = true := decide_eq_true ⟨by omega, by omega, by omega⟩
   have o3 : okD B B.1 = true := decide_eq_true ⟨by omega, by omega, by omega⟩
   have o4 : okD B (-1) = true := decide_eq_true ⟨by omega, by omega, by omega⟩
   simp only [zA9, sgn, qL, dlS, List.take_succ_cons, List.take_zero, List.filter_cons, List.filter_nil, e1, e2, o1, o2, o3, o4, if_true, Bool.false_eq_true, if_false, List.map_cons, List.map_nil, if_pos z, if_pos p1, if_pos p2]
   try simp
  ·have o1 : okD B 1 = true := decide_eq_true ⟨by omega, by omega, by omega⟩
   have o2 : okD B B.2 = true := decide_eq_true ⟨by omega, by omega, by omega⟩
   have o3 : okD B B.1 = false := decide_eq_false (by omega)
   have o4 : okD B (-1) = false := decide_eq_false (by omega)
   simp only [zA9, sgn, qL, dlS, List.take_succ_cons, List.take_zero, List.filter_cons, List.filter_nil, e1, e2, o1, o2, o3, o4, if_true, Bool.false_eq_true, if_false, List.map_cons, List.map_nil, if_pos z, if_pos p1, if_neg p2]
   try simp
  ·have o1 : okD B 1 = false := decide_eq_false (by omega)
   have o2 : okD B B.2 = false := decide_eq_false (by omega)
   have o3 : okD B B.1 = true := decide_eq_true ⟨by omega, by omega, by omega⟩
   have o4 : okD B (-1) = true := decide_eq_true ⟨by omega, by omega, by omega⟩
   simp only [zA9, sgn, qL, dlS, List.take_succ_cons, List.take_zero, List.filter_cons, List.filter_nil, e1, e2, o1, o2, o3, o4, if_true, Bool.false_eq_true, if_false, List.map_cons, List.map_nil, if_pos z, if_neg p1, if_pos p2]
   try simp
  ·have o1 : okD B 1 = false := decide_eq_false (by omega)
   have o2 : okD B B.2 = false := decide_eq_false (by omega)
   have o3 : okD B B.1 = false := decide_eq_false (by omega)
   have o4 : okD B (-1) = false := decide_eq_false (by omega)
   simp only [zA9, sgn, qL, dlS, List.take_succ_cons, List.take_zero, List.filter_cons, List.filter_nil, e1, e2, o1, o2, o3, o4, if_true, Bool.false_eq_true, if_false, List.map_cons, List.map_nil, if_pos z, if_neg p1, if_neg p2]
   try simp
 ·by_cases p : 0 < B.1
  ·have e1 : max B.1 1 = B.1 := by omega
   have e2 : min B.2 (-1) = -1 := by omega
   have p2 : ¬ B.1 ≤ -1 := by omega
   have o1 : okD B B.1 = true := decide_eq_true ⟨by omega, by omega, by omega⟩
   have o2 : okD B B.2 = true := decide_eq_true ⟨by omega, by omega, by omega⟩
   have o3 : okD B B.1 = true := decide_eq_true ⟨by omega, by omega, by omega⟩
   have o4 : okD B (-1) = false := decide_eq_false (by omega)
   simp only [zA9, sgn, qL, dlS, List.take_succ_cons, List.take_zero, List.filter_cons, List.filter_nil, e1, e2, o1, o2, o3, o4, if_true, Bool.false_eq_true, if_false, List.map_cons, List.map_nil, if_neg z, if_pos h2, if_neg p2]
   simp
   constructor
   ·rintro (h | h) <;> simp [h]
   ·rintro (h | h | h) <;> simp [h]
  ·have e1 : max B.1 1 = 1 := by omega
   have e2 : min B.2 (-1) = B.2 := by omega
   have p2 : ¬ 1 ≤ B.2 := by omega
   have o1 : okD B 1 = false := decide_eq_false (by omega)
   have o2 : okD B B.2 = true := decide_eq_true ⟨by omega, by omega, by omega⟩
   have o3 : okD B B.1 = true := decide_eq_true ⟨by omega, by omega, by omega⟩
   have o4 : okD B B.2 = true := decide_eq_true ⟨by omega, by omega, by omega⟩
   simp only [zA9, sgn, qL, dlS, List.take_succ_cons, List.take_zero, List.filter_cons, List.filter_nil, e1, e2, o1, o2, o3, o4, if_true, Bool.false_eq_true, if_false, List.map_cons, List.map_nil, if_neg z, if_pos h2, if_neg p2]
   simp
   exact fun h => .inr h
theorem hull_ok {L : List Iv} (h : ∀ p ∈ L, okI p) : okI (hull L) := by
 by_cases hn : L = []
 ·subst hn; exact ok0
 ·obtain ⟨⟨p, hp, e1⟩, q, hq, e2⟩ := hull_att hn
  have o1 := h p hp
  have o2 := h q hq
  have s := zC8 hp
  unfold okI Sub at *
  omega
theorem qL_ok {A B : Iv} (hA : okI A) (j : Nat) : ∀ p ∈ qL A B j, okI p := fun p hp => by
 unfold qL at hp
 rcases List.mem_append.1 hp with q | q
 ·split at q
  ·rw [List.mem_singleton.1 q]; exact ok0
  ·simp at q
 ·obtain ⟨d, _, rfl⟩ := List.mem_map.1 q
  exact flP_ok hA d
theorem q_step {A B : Iv} (j : Nat) (h : j < 4) : (okD B ((dlS B).getD j 0) = false → decide (qL A B (j + 1) ≠ []) = decide (qL A B j ≠ []) ∧ hull (qL A B (j + 1)) = hull (qL A B j)) ∧
 (okD B ((dlS B).getD j 0) = true → decide (qL A B (j + 1) ≠ []) = true ∧ (decide (qL A B j ≠ []) = true → hull (qL A B (j + 1)) = joinI (flP A ((dlS B).getD j 0)) (hull (qL A B j))) ∧ (decide (qL A B j ≠ []) = false → hull (qL A B (j + 1)) = flP A ((dlS B).getD j 0))) := by
 have hst := qL_step A B h
 constructor
 ·intro q
  rw [q, if_neg (by simp), List.append_nil] at hst
  rw [hst]; exact ⟨rfl, rfl⟩
 ·intro q
  rw [if_pos q] at hst
  rw [hst]
  refine ⟨by simp, fun e => hull_app _ _ (of_decide_eq_true e), fun e => ?_⟩
  have : qL A B j = [] := Decidable.not_not.1 (of_decide_eq_false e)
  rw [this]; rfl
set_option maxHeartbeats 8000000 in
theorem rquot_p (A B : Iv) (hA : okI A) (hB : okI B) : Pur M 56 [ivD A, ivD B] (ivD (divI A B)) := by
 refine k56.ok (C := C56) rfl rfl ?_
 rw [i56]
 unfold c56
 rw [← qL_all hB]
 obtain ⟨LD, hLD⟩ : ∃ L : List D, L = (dlS B).map (fun d => .int .i64 d) := ⟨_, rfl⟩
 have hW : ([.int .i64 (max B.1 1), .int .i64 B.2, .int .i64 B.1, .int .i64 (min B.2 (-1))] : List D) = LD := by rw [hLD]; rfl
 have hWl : LD.length = 4 := by rw [hLD]; rfl
 have hWe : zAk 1 LD = true := by rw [hLD]; rfl
 have hWc : D.cL LD = true := by rw [hLD]; rfl
 have hWr : D.erL LD = LD := by rw [hLD]; rfl
 have hWg : ∀ j, j < 4 → LD.getD j .u0 = .int .i64 ((dlS B).getD j 0) := fun j h => by
  rw [hLD]
  have : j = 0 ∨ j = 1 ∨ j = 2 ∨ j = 3 := by omega
  rcases this with rfl | rfl | rfl | rfl <;> rfl
 have hdr : ∀ j, Rg ((dlS B).getD j 0) := fun j => by
  obtain ⟨h1, h2, h3⟩ := hB
  by_cases h : j < 4
  ·have : j = 0 ∨ j = 1 ∨ j = 2 ∨ j = 3 := by omega
   rcases this with rfl | rfl | rfl | rfl <;> (simp only [dlS, List.getD_cons_zero, List.getD_cons_succ]; constructor <;> omega)
  ·rw [List.getD_eq_getElem?_getD, List.getElem?_eq_none (by simp [dlS]; omega)]; exact ⟨by decide, by decide⟩
 have hz : decide (qL A B 0 ≠ []) = decide (B.1 ≤ 0 ∧ 0 ≤ B.2) := by
  unfold qL
  by_cases z : B.1 ≤ 0 ∧ 0 ≤ B.2
  ·rw [if_pos z]; simp [z]
  ·rw [if_neg z]; simp [z]
 have h0 : hull (qL A B 0) = (0, 0) := by
  unfold qL
  split <;> simp [hull]
 have hstep := q_step (A := A) (B := B)
 have hoL := fun j => hull_ok (qL_ok (A := A) (B := B) hA j)
 have hfl := flP_ok hA
 obtain ⟨FD, hFD⟩ : ∃ f : Nat → Bool, f = fun j => decide (qL A B j ≠ []) := ⟨_, rfl⟩
 obtain ⟨HU, hHU⟩ : ∃ f : Nat → Iv, f = fun j => hull (qL A B j) := ⟨_, rfl⟩
 have hLr : ∀ β τ, D.rnL β τ LD = LD := fun β τ => by rw [hLD]; simp [D.rn, D.rnL, dlS]
 have f1 : ∀ j, decide (qL A B j ≠ []) = FD j := fun j => by rw [hFD]
 have f2 : ∀ j, hull (qL A B j) = HU j := fun j => by rw [hHU]
 simp only [f1, f2] at hstep hoL hz h0 ⊢
 clear hFD hHU f1 f2
 obtain ⟨x1, x2, x3⟩ := hA
 obtain ⟨y1, y2, y3⟩ := hB
 cases hb1 : decide (B.1 ≤ 0) <;> cases hb2 : decide (B.2 ≥ 0)
 all_goals
  have wQ := And.intro @hWl (And.intro @hWe (And.intro @hWc @hWr)); repeat' (first | with_reducible (apply swq; constructor) | simp only [go_sem, seval, P56, q56, hb1, hb2, minW, maxW, hW, hWr] | ((with_reducible apply s_bsl); (case he | hl | hc => exact sd wQ)) | with_reducible intro _)
  all_goals try (exfalso; omega)
  refine zBz [2, 3, 4, 5, 6, 7, 8] 4 0 (by decide) (by decide) (fun j : Nat => ⟨[.u0, .u0, .ptr 0 0, .ptr 1 0, .ptr 2 0, .ptr 3 0, .bool (FD j), .slice LD .full, .int .i64 j, .u0, .u0, .u0, .u0, .u0, .u0], [], ⟨[.cells [.int .i64 A.1, .int .i64 A.2], .cells [.int .i64 B.1, .int .i64 B.2], .cells [.int .i64 0, .int .i64 0], .cells [.int .i64 (HU j).1, .int .i64 (HU j).2]], []⟩⟩)
   (fun j => j ≤ 4) (fun j => 4 - j) 0 (by omega) ?_ ?_
  ·rw [hz, h0]
   simp only [decide_eq_true_eq, decide_eq_false_iff_not] at hb1 hb2
   simp [keepE, St.keepG, St.keep, St.gc, Hp.cut, Blk.rnL, Blk.rn, Tv.rnL, D.rnL, D.rn, cutF, Own.rn, hb1, hb2, hLr]
  rintro j hj
  by_cases hj4 : j < 4
  ·have hd : decide ((j : Int) < 4) = true := by simp; omega
   have hg := hWg j hj4
   have hst := hstep j hj4
   have hr := hdr j
   have hoj := hoL j
   generalize (dlS B).getD j 0 = d at *
   cases hok : okD B d
   ·obtain ⟨s1, s2⟩ := hst.1 hok
    have hc : decide (d < B.1) = true ∨ (decide (d < B.1) = false ∧ decide (d > B.2) = true) ∨ (decide (d < B.1) = false ∧ decide (d > B.2) = false ∧ (d == 0) = true) := by
     unfold okD at hok
     have := of_decide_eq_false hok
     by_cases q1 : d < B.1
     ·exact .inl (by simp [q1])
     ·by_cases q2 : d > B.2
      ·exact .inr (.inl ⟨by simp [q1], by simp [q2]⟩)
      ·refine .inr (.inr ⟨by simp [q1], by simp [q2], ?_⟩)
       rw [beq_iff_eq]; omega
    rcases hc with e1 | ⟨e1, e2⟩ | ⟨e1, e2, e3⟩
    ·have wQ := And.intro @hWl @hg; repeat' (first | with_reducible (apply swq; constructor) | simp only [go_sem, seval, P56, q56, hd, hWl, hg, e1] | simp (disch := omega) only [wA] | (with_reducible (apply cdA; constructor)) | ((with_reducible refine And.intro ?hw ?_); (case hw => exact sw wQ)) | with_reducible intro _)
     all_goals try (exfalso; omega)
     refine ⟨j + 1, by omega, by omega, ?_⟩
     simp [keepE, St.keepG, St.keep, St.gc, Hp.cut, Blk.rnL, Blk.rn, Tv.rnL, D.rnL, D.rn, cutF, Own.rn, s1, s2, hLr]
    ·have wQ := And.intro @hWl @hg; repeat' (first | with_reducible (apply swq; constructor) | simp only [go_sem, seval, P56, q56, hd, hWl, hg, e1, e2] | simp (disch := omega) only [wA] | (with_reducible (apply cdA; constructor)) | ((with_reducible refine And.intro ?hw ?_); (case hw => exact sw wQ)) | with_reducible intro _)
     all_goals try (exfalso; omega)
     refine ⟨j + 1, by omega, by omega, ?_⟩
     simp [keepE, St.keepG, St.keep, St.gc, Hp.cut, Blk.rnL, Blk.rn, Tv.rnL, D.rnL, D.rn, cutF, Own.rn, s1, s2, hLr]
    ·have wQ := And.intro @hWl @hg; repeat' (first | with_reducible (apply swq; constructor) | simp only [go_sem, seval, P56, q56, hd, hWl, hg, e1, e2, e3] | simp (disch := omega) only [wA] | (with_reducible (apply cdA; constructor)) | ((with_reducible refine And.intro ?hw ?_); (case hw => exact sw wQ)) | with_reducible intro _)
     all_goals try (exfalso; omega)
     refine ⟨j + 1, by omega, by omega, ?_⟩
     simp [keepE, St.keepG, St.keep, St.gc, Hp.cut, Blk.rnL, Blk.rn, Tv.rnL, D.rnL, D.rn, cutF, Own.rn, s1, s2, hLr]
   ·obtain ⟨s1, s3, s4⟩ := hst.2 hok
    unfold okD at hok
    obtain ⟨k1, k2, k3⟩ := of_decide_eq_true hok
    have e1 : decide (d < B.1) = false := by simp; omega
    have e2 : decide (d > B.2) = false := by simp; omega
    have e3 : (d == 0) = false := by simp [k3]
    have c1 := rdiv_p A.1 d ⟨by omega, by omega⟩ hr
    have c2 := rdiv_p A.2 d ⟨by omega, by omega⟩ hr
    have hof := hfl d
    cases hfd : FD j
    ·have s2 := s4 hfd
     unfold flP at s2
     generalize fl A.1 d = u1 at *
     generalize fl A.2 d = u2 at *
     have wQ := And.intro @hWl @hg; repeat' (first | with_reducible (apply swq; constructor) | simp only [go_sem, seval, P56, q56, hd, hWl, hg, e1, e2, e3, hfd, minW, maxW] | simp (disch := omega) only [wA] | ((with_reducible refine zAb (c1) ?he ?hc ?_); (case he | hc => exact sc wQ)) | ((with_reducible refine zAb (c2) ?he ?hc ?_); (case he | hc => exact sc wQ)) | (with_reducible (apply cdA; constructor)) | ((with_reducible refine And.intro ?hw ?_); (case hw => exact sw wQ)) | with_reducible intro _)
     all_goals try (exfalso; omega)
     refine ⟨j + 1, by omega, by omega, ?_⟩
     simp [keepE, St.keepG, St.keep, St.gc, Hp.cut, Blk.rnL, Blk.rn, Tv.rnL, D.rnL, D.rn, cutF, Own.rn, s1, s2, hLr]
    ·have s2 := s3 hfd
     have c3 := rjoin_p _ _ hof hoj
     unfold flP at s2 c3
     generalize fl A.1 d = u1 at *
     generalize fl A.2 d = u2 at *
     generalize joinI (min u1 u2, max u1 u2) (HU j) = JJ at *
     have wQ := And.intro @hWl @hg; repeat' (first | with_reducible (apply swq; constructor) | simp only [go_sem, seval, P56, q56, hd, hWl, hg, e1, e2, e3, hfd, minW, maxW] | simp (disch := omega) only [wA] | ((with_reducible refine zAb (c1) ?he ?hc ?_); (case he | hc => exact sc wQ)) | ((with_reducible refine zAb (c2) ?he ?hc ?_); (case he | hc => exact sc wQ)) | ((with_reducible refine zAb (c3) ?he ?hc ?_); (case he | hc => exact sc wQ)) | (with_reducible (apply cdA; constructor)) | ((with_reducible refine And.intro ?hw ?_); (case hw => exact sw wQ)) | with_reducible intro _)
     all_goals try (exfalso; omega)
     refine ⟨j + 1, by omega, by omega, ?_⟩
     simp [keepE, St.keepG, St.keep, St.gc, Hp.cut, Blk.rnL, Blk.rn, Tv.rnL, D.rnL, D.rn, cutF, Own.rn, s1, s2, hLr]
  ·obtain rfl : j = 4 := by omega
   have hd : decide (((4 : Nat) : Int) < 4) = false := by decide
   generalize HU 4 = R at *
   have wQ := @hWl; repeat' (first | with_reducible (apply swq; constructor) | simp only [go_sem, seval, P56, q56, hd, hWl] | simp (disch := omega) only [wA] | (with_reducible (apply cdA; constructor)) | ((with_reducible refine And.intro ?hw ?_); (case hw => exact sw wQ)) | with_reducible intro _)
   all_goals try (exfalso; omega)
   all_goals simp [D.closed, D.er, D.cL, D.erL, RcS, setL, go_sem]
end Go.Proofs.YtkjnhkoipgdfeaaGreatDoor
end
section
set_option maxRecDepth 100000
set_option linter.unusedSimpArgs false
set_option linter.unusedVariables false
namespace Go.Proofs.YtkjnhkoipgdfeaaGreatDoor
open Go GoV Go.RowKit
@[reducible] def uC (u : Use) : List D := [.int .i64 u.km.1, .int .i64 u.km.2, .int .i64 u.cy.1, .int .i64 u.cy.2, .int .i64 u.ld.1, .int .i64 u.ld.2]
@[reducible] def iC (x : Iv) : List D := [.int .i64 x.1, .int .i64 x.2]
theorem reg37_10 {u : Use} {k : F} {x : Iv} {op n : Int} {LK : List D} {Z : List D} (hl : 0 < LK.length) (hg : LK.getD 0 .u0 = .agg k.cells) (hc : Pur M 37 [k.d, useD u] (ivD x)) {e : List D} (h2 : e[2]? = some (.ptr 0 0)) (h3 : e[3]? = some (.ptr 1 0)) (hel : 5 < e.length) (Q : Ex → St → Prop)
 (hQ : Q .normal ⟨e.set 5 (.ptr 3 0), [], ⟨[.cells [.int .i64 op, .int .i64 n, .slice LK .no], .cells (uC u), .cells Z, .cells (iC x)], []⟩⟩) :
 SWp C37 (.regD r37_10 r37_11) Q ⟨e, [], ⟨[.cells [.int .i64 op, .int .i64 n, .slice LK .no], .cells (uC u), .cells Z], []⟩⟩ := by
 have hkd := k.d_eq
 obtain ⟨F, hF⟩ : ∃ F : (Nat → Bool) → Hp, F = fun E => ⟨[.cells [.int .i64 op, .int .i64 n, .slice LK .no], .cells (uC u), .cells Z] ++ (if E 6 then [.cells [.int .i64 0, .int .i64 0]] else []), []⟩ := ⟨_, rfl⟩
 have still : ∀ i, i ≠ 6 → Still F i := fun i h E _ => by
  have : (6 == i) = false := by rw [beq_eq_false_iff_ne]; omega
  simp [hF, this]
 have ck := zAd k.kids
 have ek := erL_F k.kids
 refine zA0 F (by simp [hF]) ?_
 rw [P37]
 refine y_q (ds := [.ptr 0 0]) (.ptr 0 2) (by simp [go_sem, h2]) (still _ (by decide)) (fun _ => by simp [OcWp, zAa, isPan, opWp]) ?_
 refine y_c (ds := [.ptr 0 2]) (d := .slice LK .no) (by simp [go_sem]) (fun E hE => ?_) ?_
 ·rw [still 1 (by decide) E hE]; simp [hF, OcWp, zAa, isPan, opWp, Blk.csq]
 refine y_q (ds := [.slice LK .no, .int .i64 0]) (.ip k.cells) (by simp [go_sem]) (still _ (by decide)) (fun _ => by
  have hg' : LK.getD (Int.toNat 0) .u0 = .agg k.cells := hg
  simp only [OcWp, zAa, isPan, opWp, Bool.false_eq_true, if_false, hg']
  exact ⟨by omega, by omega, rfl, rfl, rfl, by trivial⟩) ?_
 refine y_q (ds := [.ip k.cells]) (.agg k.cells) (by simp [go_sem]) (still _ (by decide)) (fun _ => by simp [OcWp, zAa, isPan, opWp]) ?_
 refine y_c (ds := [.ptr 1 0]) (d := useD u) (by simp [go_sem, h3]) (fun E hE => ?_) ?_
 ·rw [still 4 (by decide) E hE]; simp [hF, OcWp, zAa, isPan, opWp, Blk.csq]
 refine y_q (ds := [.fn (.func 37) [] [], .agg k.cells, useD u]) (ivD x) (by simp [go_sem]) (still _ (by decide)) (fun hp2 => by
  simp only [OcWp, zAa, isPan, if_true]
  refine zE5 (first := []) (cap := []) (by simp [D.cL, D.closed, ck]) ?_ ⟨rfl, rfl⟩
  rw [hkd] at hc
  simpa [D.erL, D.er, ek] using hc) ?_
 refine y_c (ds := []) (d := .ptr 3 0) (by simp [go_sem]) (fun E hE => ?_) ?_
 ·have hE' : E 6 = false := hE
  simp [hF, hE', OcWp, zAa, isPan, opWp]
 refine y_end (hp' := ⟨[.cells [.int .i64 op, .int .i64 n, .slice LK .no], .cells (uC u), .cells Z, .cells [.int .i64 0, .int .i64 0]], []⟩) (by simp [hF]) ?_
 have he : (e.set 5 (.ptr 3 0)).getD 5 .u0 = .ptr 3 0 := by simp [hel]
 have he' : (e.set 5 (.ptr 3 0))[5]?.getD .u0 = .ptr 3 0 := by simp [hel]
 repeat' (first | with_reducible (apply swq; constructor) | simp only [go_sem, seval, P37, q37, he, he'] | with_reducible intro _)
 all_goals try (exfalso; omega)
 all_goals simpa [setL, St.done] using hQ
theorem reg37_12 {u : Use} {k : F} {x : Iv} {op n : Int} {LK : List D} {Z X : List D} (hl : 1 < LK.length) (hg : LK.getD 1 .u0 = .agg k.cells) (hc : Pur M 37 [k.d, useD u] (ivD x)) {e : List D} (h2 : e[2]? = some (.ptr 0 0)) (h3 : e[3]? = some (.ptr 1 0)) (hel : 6 < e.length) (Q : Ex → St → Prop)
 (hQ : Q .normal ⟨e.set 6 (.ptr 4 0), [], ⟨[.cells [.int .i64 op, .int .i64 n, .slice LK .no], .cells (uC u), .cells Z, .cells X, .cells (iC x)], []⟩⟩) :
 SWp C37 (.regD r37_12 r37_13) Q ⟨e, [], ⟨[.cells [.int .i64 op, .int .i64 n, .slice LK .no], .cells (uC u), .cells Z, .cells X], []⟩⟩ := by
 have hkd := k.d_eq
 obtain ⟨F, hF⟩ : ∃ F : (Nat → Bool) → Hp, F = fun E => ⟨[.cells [.int .i64 op, .int .i64 n, .slice LK .no], .cells (uC u), .cells Z, .cells X] ++ (if E 6 then [.cells [.int .i64 0, .int .i64 0]] else []), []⟩ := ⟨_, rfl⟩
 have still : ∀ i, i ≠ 6 → Still F i := fun i h E _ => by
  have : (6 == i) = false := by rw [beq_eq_false_iff_ne]; omega
  simp [hF, this]
 have ck := zAd k.kids
 have ek := erL_F k.kids
 refine zA0 F (by simp [hF]) ?_
 rw [P37]
 refine y_q (ds := [.ptr 0 0]) (.ptr 0 2) (by simp [go_sem, h2]) (still _ (by decide)) (fun _ => by simp [OcWp, zAa, isPan, opWp]) ?_
 refine y_c (ds := [.ptr 0 2]) (d := .slice LK .no) (by simp [go_sem]) (fun E hE => ?_) ?_
 ·rw [still 1 (by decide) E hE]; simp [hF, OcWp, zAa, isPan, opWp, Blk.csq]
 refine y_q (ds := [.slice LK .no, .int .i64 1]) (.ip k.cells) (by simp [go_sem]) (still _ (by decide)) (fun _ => by
  have hg' : LK.getD (Int.toNat 1) .u0 = .agg k.cells := hg
  simp only [OcWp, zAa, isPan, opWp, Bool.false_eq_true, if_false, hg']
  exact ⟨by omega, by omega, rfl, rfl, rfl, by trivial⟩) ?_
 refine y_q (ds := [.ip k.cells]) (.agg k.cells) (by simp [go_sem]) (still _ (by decide)) (fun _ => by simp [OcWp, zAa, isPan, opWp]) ?_
 refine y_c (ds := [.ptr 1 0]) (d := useD u) (by simp [go_sem, h3]) (fun E hE => ?_) ?_
 ·rw [still 4 (by decide) E hE]; simp [hF, OcWp, zAa, isPan, opWp, Blk.csq]
 refine y_q (ds := [.fn (.func 37) [] [], .agg k.cells, useD u]) (ivD x) (by simp [go_sem]) (still _ (by decide)) (fun hp2 => by
  simp only [OcWp, zAa, isPan, if_true]
  refine zE5 (first := []) (cap := []) (by simp [D.cL, D.closed, ck]) ?_ ⟨rfl, rfl⟩
  rw [hkd] at hc
  simpa [D.erL, D.er, ek] using hc) ?_
 refine y_c (ds := []) (d := .ptr 4 0) (by simp [go_sem]) (fun E hE => ?_) ?_
 ·have hE' : E 6 = false := hE
  simp [hF, hE', OcWp, zAa, isPan, opWp]
 refine y_end (hp' := ⟨[.cells [.int .i64 op, .int .i64 n, .slice LK .no], .cells (uC u), .cells Z, .cells X, .cells [.int .i64 0, .int .i64 0]], []⟩) (by simp [hF]) ?_
 have he : (e.set 6 (.ptr 4 0)).getD 6 .u0 = .ptr 4 0 := by simp [hel]
 have he' : (e.set 6 (.ptr 4 0))[6]?.getD .u0 = .ptr 4 0 := by simp [hel]
 repeat' (first | with_reducible (apply swq; constructor) | simp only [go_sem, seval, P37, q37, he, he'] | with_reducible intro _)
 all_goals try (exfalso; omega)
 all_goals simpa [setL, St.done] using hQ
theorem reg37_27 {u : Use} {k : F} {x : Iv} {op n : Int} {LK : List D} {Z X Y : List D} (hl : 2 < LK.length) (hg : LK.getD 2 .u0 = .agg k.cells) (hc : Pur M 37 [k.d, useD u] (ivD x)) {e : List D} (h2 : e[2]? = some (.ptr 0 0)) (h3 : e[3]? = some (.ptr 1 0)) (hel : 7 < e.length) (Q : Ex → St → Prop)
 (hQ : Q .normal ⟨e.set 7 (.ptr 5 0), [], ⟨[.cells [.int .i64 op, .int .i64 n, .slice LK .no], .cells (uC u), .cells Z, .cells X, .cells Y, .cells (iC x)], []⟩⟩) :
 SWp C37 (.regD r37_27 r37_28) Q ⟨e, [], ⟨[.cells [.int .i64 op, .int .i64 n, .slice LK .no], .cells (uC u), .cells Z, .cells X, .cells Y], []⟩⟩ := by
 have hkd := k.d_eq
 obtain ⟨F, hF⟩ : ∃ F : (Nat → Bool) → Hp, F = fun E => ⟨[.cells [.int .i64 op, .int .i64 n, .slice LK .no], .cells (uC u), .cells Z, .cells X, .cells Y] ++ (if E 6 then [.cells [.int .i64 0, .int .i64 0]] else []), []⟩ := ⟨_, rfl⟩
 have still : ∀ i, i ≠ 6 → Still F i := fun i h E _ => by
  have : (6 == i) = false := by rw [beq_eq_false_iff_ne]; omega
  simp [hF, this]
 have ck := zAd k.kids
 have ek := erL_F k.kids
 refine zA0 F (by simp [hF]) ?_
 rw [P37]
 refine y_q (ds := [.ptr 0 0]) (.ptr 0 2) (by simp [go_sem, h2]) (still _ (by decide)) (fun _ => by simp [OcWp, zAa, isPan, opWp]) ?_
 refine y_c (ds := [.ptr 0 2]) (d := .slice LK .no) (by simp [go_sem]) (fun E hE => ?_) ?_
 ·rw [still 1 (by decide) E hE]; simp [hF, OcWp, zAa, isPan, opWp, Blk.csq]
 refine y_q (ds := [.slice LK .no, .int .i64 2]) (.ip k.cells) (by simp [go_sem]) (still _ (by decide)) (fun _ => by
  have hg' : LK.getD (Int.toNat 2) .u0 = .agg k.cells := hg
  simp only [OcWp, zAa, isPan, opWp, Bool.false_eq_true, if_false, hg']
  exact ⟨by omega, by omega, rfl, rfl, rfl, by trivial⟩) ?_
 refine y_q (ds := [.ip k.cells]) (.agg k.cells) (by simp [go_sem]) (still _ (by decide)) (fun _ => by simp [OcWp, zAa, isPan, opWp]) ?_
 refine y_c (ds := [.ptr 1 0]) (d := useD u) (by simp [go_sem, h3]) (fun E hE => ?_) ?_
 ·rw [still 4 (by decide) E hE]; simp [hF, OcWp, zAa, isPan, opWp, Blk.csq]
 refine y_q (ds := [.fn (.func 37) [] [], .agg k.cells, useD u]) (ivD x) (by simp [go_sem]) (still _ (by decide)) (fun hp2 => by
  simp only [OcWp, zAa, isPan, if_true]
  refine zE5 (first := []) (cap := []) (by simp [D.cL, D.closed, ck]) ?_ ⟨rfl, rfl⟩
  rw [hkd] at hc
  simpa [D.erL, D.er, ek] using hc) ?_
 refine y_c (ds := []) (d := .ptr 5 0) (by simp [go_sem]) (fun E hE => ?_) ?_
 ·have hE' : E 6 = false := hE
  simp [hF, hE', OcWp, zAa, isPan, opWp]
 refine y_end (hp' := ⟨[.cells [.int .i64 op, .int .i64 n, .slice LK .no], .cells (uC u), .cells Z, .cells X, .cells Y, .cells [.int .i64 0, .int .i64 0]], []⟩) (by simp [hF]) ?_
 have he : (e.set 7 (.ptr 5 0)).getD 7 .u0 = .ptr 5 0 := by simp [hel]
 have he' : (e.set 7 (.ptr 5 0))[7]?.getD .u0 = .ptr 5 0 := by simp [hel]
 repeat' (first | with_reducible (apply swq; constructor) | simp only [go_sem, seval, P37, q37, he, he'] | with_reducible intro _)
 all_goals try (exfalso; omega)
 all_goals simpa [setL, St.done] using hQ
set_option maxHeartbeats 8000000 in
theorem rspan_p (u : Use) (hu : u.ok) : ∀ (k : Nat) (f : F), f.nodes ≤ k → f.well = true → Pur M 37 [f.d, useD u] (ivD (span u f))
 | 0, x, hk, _ => by have := zBe x; omega
 | k + 1, .mk op n ks, hk, hw => by
   obtain ⟨hkw, o1, o2, n1, n2, hc⟩ := zB9 hw
   have ih : ∀ y ∈ ks, Pur M 37 [y.d, useD u] (ivD (span u y)) := fun y hy => rspan_p u hu k y (by have := zAx (f := .mk op n ks) hy; omega) (hkw y hy)
   have hR : ∀ y ∈ ks, okI (span u y) := fun y hy => span_ok hu y (hkw y hy)
   refine k37.ok (C := C37) rfl rfl ?_
   rw [i37]
   unfold c37
   rw [F.d_mk]
   obtain ⟨RA, hRA⟩ : ∃ R, R = RC.regD r37_10 r37_11 := ⟨_, rfl⟩
   obtain ⟨RB, hRB⟩ : ∃ R, R = RC.regD r37_12 r37_13 := ⟨_, rfl⟩
   obtain ⟨RD, hRD⟩ : ∃ R, R = RC.regD r37_27 r37_28 := ⟨_, rfl⟩
   rw [← hRA, ← hRB, ← hRD]
   rcases hc with ⟨g1, rfl⟩ | ⟨g1, g2, a, b, rfl⟩ | ⟨rfl, a, b, c, rfl⟩
   ·have : op = 1 ∨ op = 2 ∨ op = 3 ∨ op = 4 := by omega
    rcases this with rfl | rfl | rfl | rfl
    all_goals
     repeat' (first | with_reducible (apply swq; constructor) | simp only [go_sem, seval, P37, q37] | with_reducible intro _)
     all_goals simp [D.closed, D.er, D.cL, D.erL, span, spanL, RcS, setL, go_sem]
   ·have ca := ih a (by simp)
    have cb := ih b (by simp)
    have ra := hR a (by simp)
    have rb := hR b (by simp)
    rw [span_op u op n a b g1 g2]
    have c5 := radd_p _ _ ra rb
    have c6 := rsub_p _ _ ra rb
    have c7 := rmul_p _ _ ra rb
    have c8 := rquot_p _ _ ra rb
    have hlk : (List.map F.d [a, b]).length = 2 := rfl
    have hg0 : (List.map F.d [a, b]).getD 0 .u0 = .agg a.cells := by simp [F.d_eq]
    have hg1 : (List.map F.d [a, b]).getD 1 .u0 = .agg b.cells := by simp [F.d_eq]
    generalize List.map F.d [a, b] = LK at *
    generalize span u a = A at *
    generalize span u b = B at *
    have hop : op = 5 ∨ op = 6 ∨ op = 7 ∨ op = 8 ∨ op = 9 ∨ op = 10 := by omega
    rcases hop with rfl | rfl | rfl | rfl | rfl | rfl
    all_goals
     repeat' (first | with_reducible (apply swq; constructor) | simp only [go_sem, seval, P37, q37] | with_reducible intro _)
     rw [hRA]
     refine reg37_10 (by omega) hg0 ca rfl rfl (by simp) _ ?_
     repeat' (first | with_reducible (apply swq; constructor) | simp only [go_sem, seval, P37, q37] | with_reducible intro _)
     rw [hRB]
     refine reg37_12 (by omega) hg1 cb rfl rfl (by simp) _ ?_
     have wQ := tw; repeat' (first | with_reducible (apply swq; constructor) | simp only [go_sem, seval, P37, q37, minW, maxW] | ((with_reducible refine zAb (c5) ?he ?hc ?_); (case he | hc => exact sc wQ)) | ((with_reducible refine zAb (c6) ?he ?hc ?_); (case he | hc => exact sc wQ)) | ((with_reducible refine zAb (c7) ?he ?hc ?_); (case he | hc => exact sc wQ)) | ((with_reducible refine zAb (c8) ?he ?hc ?_); (case he | hc => exact sc wQ)) | with_reducible intro _)
     all_goals simp [D.closed, D.er, D.cL, D.erL, opI, RcS, setL, go_sem]
   ·have ca := ih a (by simp)
    have cb := ih b (by simp)
    have cc := ih c (by simp)
    have ra := hR a (by simp)
    have rb := hR b (by simp)
    have rc := hR c (by simp)
    have e : span u (.mk 11 n [a, b, c]) = chI (span u a) (span u b) (span u c) := by simp [span, spanL]
    rw [e]
    have co := rover_p _ ra
    have cj := rjoin_p _ _ rb rc
    have hlk : (List.map F.d [a, b, c]).length = 3 := rfl
    have hg0 : (List.map F.d [a, b, c]).getD 0 .u0 = .agg a.cells := by simp [F.d_eq]
    have hg1 : (List.map F.d [a, b, c]).getD 1 .u0 = .agg b.cells := by simp [F.d_eq]
    have hg2 : (List.map F.d [a, b, c]).getD 2 .u0 = .agg c.cells := by simp [F.d_eq]
    generalize List.map F.d [a, b, c] = LK at *
    generalize span u a = A at *
    generalize span u b = B at *
    generalize span u c = C at *
    have hch : (overI A = 0 ∧ chI A B C = C) ∨ (overI A = 2 ∧ chI A B C = B) ∨ (overI A = 1 ∧ chI A B C = joinI B C) := by
     unfold overI chI
     by_cases q1 : A.2 ≤ 0
     ·rw [if_pos q1, if_pos q1]; exact .inl ⟨rfl, rfl⟩
     ·rw [if_neg q1, if_neg q1]
      by_cases q2 : 0 < A.1
      ·rw [if_pos q2, if_pos q2]; exact .inr (.inl ⟨rfl, rfl⟩)
      ·rw [if_neg q2, if_neg q2]; exact .inr (.inr ⟨rfl, rfl⟩)
    generalize joinI B C = J at *
    rcases hch with ⟨h1, h2⟩ | ⟨h1, h2⟩ | ⟨h1, h2⟩
    all_goals
     rw [h1] at co
     rw [h2]
     repeat' (first | with_reducible (apply swq; constructor) | simp only [go_sem, seval, P37, q37] | with_reducible intro _)
     rw [hRA]
     refine reg37_10 (by omega) hg0 ca rfl rfl (by simp) _ ?_
     repeat' (first | with_reducible (apply swq; constructor) | simp only [go_sem, seval, P37, q37] | with_reducible intro _)
     rw [hRB]
     refine reg37_12 (by omega) hg1 cb rfl rfl (by simp) _ ?_
     repeat' (first | with_reducible (apply swq; constructor) | simp only [go_sem, seval, P37, q37] | with_reducible intro _)
     rw [hRD]
     refine reg37_27 (by omega) hg2 cc rfl rfl (by simp) _ ?_
     have wQ := tw; repeat' (first | with_reducible (apply swq; constructor) | simp only [go_sem, seval, P37, q37] | ((with_reducible refine zAb (co) ?he ?hc ?_); (case he | hc => exact sc wQ)) | ((with_reducible refine zAb (cj) ?he ?hc ?_); (case he | hc => exact sc wQ)) | with_reducible intro _)
     all_goals simp [D.closed, D.er, D.cL, D.erL, RcS, setL, go_sem]
theorem rDamage_p (f : F) (u : Use) : Pur M 16 [f.d, useD u] (ivD (zD2 f u)) := by
 refine k16.ok (C := C16) rfl rfl ?_
 rw [i16]
 unfold c16
 have c1 := rvalid_p f
 have c2 := use_p u
 have hck := zAd f.kids
 have hek := erL_F f.kids
 unfold zD2
 cases hv : f.valid
 ·rw [hv] at c1
  rw [F.d_eq] at c1 ⊢
  have wQ := And.intro @hck @hek; repeat' (first | with_reducible (apply swq; constructor) | simp only [go_sem, seval, P16, q16] | ((with_reducible refine zAb (c1) ?he ?hc ?_); (case he | hc => exact sc wQ)) | with_reducible intro _)
  all_goals simp [D.closed, D.er, D.cL, D.erL, RcS, setL, go_sem]
 ·rw [hv] at c1
  cases hg : u.good
  ·rw [hg] at c2
   rw [F.d_eq] at c1 ⊢
   have wQ := And.intro @hck @hek; repeat' (first | with_reducible (apply swq; constructor) | simp only [go_sem, seval, P16, q16] | ((with_reducible refine zAb (c1) ?he ?hc ?_); (case he | hc => exact sc wQ)) | ((with_reducible refine zAb (c2) ?he ?hc ?_); (case he | hc => exact sc wQ)) | with_reducible intro _)
   all_goals simp [D.closed, D.er, D.cL, D.erL, RcS, setL, go_sem]
  ·rw [hg] at c2
   have c3 := rspan_p u (good_ok hg) f.nodes f (Nat.le_refl _) (zEt hv)
   rw [F.d_eq] at c1 c3 ⊢
   generalize span u f = S at *
   have wQ := And.intro @hck @hek; repeat' (first | with_reducible (apply swq; constructor) | simp only [go_sem, seval, P16, q16, maxW] | ((with_reducible refine zAb (c1) ?he ?hc ?_); (case he | hc => exact sc wQ)) | ((with_reducible refine zAb (c2) ?he ?hc ?_); (case he | hc => exact sc wQ)) | ((with_reducible refine zAb (c3) ?he ?hc ?_); (case he | hc => exact sc wQ)) | with_reducible intro _)
   all_goals simp [D.closed, D.er, D.cL, D.erL, RcS, setL, go_sem]
end Go.Proofs.YtkjnhkoipgdfeaaGreatDoor
end
section
set_option maxRecDepth 100000
set_option linter.unusedSimpArgs false
set_option linter.unusedVariables false
namespace Go.Proofs.YtkjnhkoipgdfeaaGreatDoor
open Go GoV Go.RowKit
theorem parse_bad {s : Tx} {y : F} {e p : Int} (h : zEl s = (y, e, p)) (he : e ≠ 0) : y = zeroF := by
 unfold zEl at h
 split at h
 split at h
 ·unfold parseT at h
  split at h
  iterate 2
   ·simp only [Prod.mk.injEq] at h; exact h.1.symm
  ·split at h
   ·simp only [Prod.mk.injEq] at h; exact absurd h.2.1.symm he
   ·simp only [Prod.mk.injEq] at h; exact h.1.symm
 ·simp only [Prod.mk.injEq] at h; exact h.1.symm
theorem parse_few (s : Tx) : (zEl s).1.nodes ≤ 60 := by
 cases h : zEl s with
 | mk y ep =>
   obtain ⟨e, p⟩ := ep
   by_cases he : e = 0
   ·subst he
    exact (valid_iff.1 (parse_valid h).1).1
   ·rw [parse_bad h he]; show zeroF.nodes ≤ 60; decide
set_option maxHeartbeats 8000000 in
theorem l3_p (f : F) (text : Tx) (km cy ld : Int) (u : Use) : Pur M 3 [f.d, .str text, .int .i64 km, .int .i64 cy, .int .i64 ld, useD u] (.bool true) := by
 refine k3.ok (C := C3) rfl rfl ?_
 rw [i3]
 unfold c3
 have ch := head_p
 have cf := few_p f
 have a1 := zAd f.kids
 have a2 := erL_F f.kids
 by_cases hf : ¬ f.nodes ≤ 80
 ·rw [decide_eq_false hf, F.d_eq] at cf
  rw [F.d_eq]
  have wQ := And.intro @a1 @a2; repeat' (first | with_reducible (apply swq; constructor) | simp only [go_sem, seval, P3, q3] | ((with_reducible refine zAb (ch) ?he ?hc ?_); (case he | hc => exact sc wQ)) | ((with_reducible refine zAb (cf) ?he ?hc ?_); (case he | hc => exact sc wQ)) | with_reducible intro _)
  all_goals simp [D.closed, D.er]
 have hf := Decidable.not_not.1 hf
 rw [decide_eq_true hf, F.d_eq] at cf
 by_cases ht : ¬ text.length ≤ 3000
 ·have hd : decide ((text.length : Int) > 3000) = true := by simp; omega
  rw [F.d_eq]
  have wQ := And.intro @a1 @a2; repeat' (first | with_reducible (apply swq; constructor) | simp only [go_sem, seval, P3, q3, hd] | ((with_reducible refine zAb (ch) ?he ?hc ?_); (case he | hc => exact sc wQ)) | ((with_reducible refine zAb (cf) ?he ?hc ?_); (case he | hc => exact sc wQ)) | with_reducible intro _)
  all_goals simp [D.closed, D.er]
 have ht := Decidable.not_not.1 ht
 have hd : decide ((text.length : Int) > 3000) = false := by simp; omega
 have t1 := text_p f
 have t2 := rText_p f
 have t3 := parse_all text (by omega)
 have t4 := rparse_p text (by omega)
 have t5 := valid_p f
 have t6 := rvalid_p f
 have t7 := value_p f km cy ld
 have t8 := rValue_p f km cy ld
 have t9 := damage_p f u
 have t10 := rDamage_p f u
 have hn := parse_few text
 cases hp : zEl text with
 | mk y ep =>
   obtain ⟨j, p⟩ := ep
   rw [hp] at t3 t4 hn
   simp only at hn
   have syy := same_p y.nodes y y (Nat.le_refl _) (by omega)
   rw [sameB_refl] at syy
   have b1 := zAd y.kids
   have b2 := erL_F y.kids
   generalize f.valid = v at *
   generalize textF f = s at *
   generalize (if v = true then (0 : Int) else 1) = e at *
   generalize valueF f km cy ld = w at *
   generalize zD2 f u = d at *
   simp only [parD, F.d_eq] at *
   have wQ := And.intro @a1 (And.intro @a2 (And.intro @b1 @b2)); repeat' (first | with_reducible (apply swq; constructor) | simp only [go_sem, seval, P3, q3, hd, beq_self_eq_true] | ((with_reducible refine zAb (ch) ?he ?hc ?_); (case he | hc => exact sc wQ)) | ((with_reducible refine zAb (cf) ?he ?hc ?_); (case he | hc => exact sc wQ)) | ((with_reducible refine zAb (t1) ?he ?hc ?_); (case he | hc => exact sc wQ)) | ((with_reducible refine zAb (t2) ?he ?hc ?_); (case he | hc => exact sc wQ)) | ((with_reducible refine zAb (t3) ?he ?hc ?_); (case he | hc => exact sc wQ)) | ((with_reducible refine zAb (t4) ?he ?hc ?_); (case he | hc => exact sc wQ)) | ((with_reducible refine zAq (t5) ?he ?hc ?_); (case he | hc => exact sc wQ)) | ((with_reducible refine zD7 (t6) ?he ?hc ?_); (case he | hc => exact sc wQ)) | ((with_reducible refine zAb (syy) ?he ?hc ?_); (case he | hc => exact sc wQ)) | ((with_reducible refine zAq (t7) ?he ?hc ?_); (case he | hc => exact sc wQ)) | ((with_reducible refine zD7 (t8) ?he ?hc ?_); (case he | hc => exact sc wQ)) | ((with_reducible refine zAq (t9) ?he ?hc ?_); (case he | hc => exact sc wQ)) | ((with_reducible refine zAb (t10) ?he ?hc ?_); (case he | hc => exact sc wQ)) | with_reducible intro _)
   all_goals simp [D.closed, D.er]
end Go.Proofs.YtkjnhkoipgdfeaaGreatDoor
end
section
namespace Go.Proofs.YtkjnhkoipgdfeaaGreatDoor
open Go GoV Go.RowKit
theorem matches_c (f : F) (text : Tx) (km cy ld : Int) (u : Use) : Pur M 3 [.agg f.cells, .str text, .int .i64 km, .int .i64 cy, .int .i64 ld, useD u] (.bool true) := by
 have h := l3_p f text km cy ld u
 rw [F.d_eq f] at h; exact h
end Go.Proofs.YtkjnhkoipgdfeaaGreatDoor
end