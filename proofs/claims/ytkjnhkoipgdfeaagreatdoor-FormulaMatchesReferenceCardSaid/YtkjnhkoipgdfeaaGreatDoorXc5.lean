/- Own texts, merged by a program: the engine that walks the code, and what the functions that the law reaches compute. -/
import Derived.Test.YtkjnhkoipgdfeaaGreatDoorXc4
import Derived.Defers
import Derived.Recover
section
set_option maxRecDepth 100000
set_option linter.unusedSimpArgs false
set_option linter.unusedVariables false
namespace Go.Proofs.YtkjnhkoipgdfeaaGreatDoor
open Go GoV Go.RowKit
def unqS (t : Tx) (i : Nat) : Tx := match unq (t.drop (i + 1)) [] 1 with
 | some p => p.1
 | none => []
def unqN (t : Tx) (i : Nat) : Nat := match unq (t.drop (i + 1)) [] 1 with
 | some p => p.2
 | none => 0
def zD4 (t : Tx) : Prop := ∀ i, i < t.length → cls (t.getD i 0) = 7 → Pur M 64 [.str (t.drop i)] (.tup [.str (unqS t i), .int .i64 (unqN t i : Nat)])
theorem clsAt_word {t : Tx} {p : Nat} (h : p < t.length) : (zAz (t.getD p 0) = true → clsAt t p = 3 ∨ clsAt t p = 4 ∨ clsAt t p = 5) ∧ (zAz (t.getD p 0) = false → clsAt t p ≠ 3 ∧ clsAt t p ≠ 4 ∧ clsAt t p ≠ 5) := by
 unfold clsAt
 rw [if_pos h, isWord_cls]
 simp
 constructor
 ·rintro ((h | h) | h) <;> simp [h]
 ·intro a b c; exact ⟨a, b, c⟩
theorem clsAt_dig {t : Tx} {p : Nat} (h : p < t.length) : (isDig (t.getD p 0) = true → clsAt t p = 4) ∧ (isDig (t.getD p 0) = false → clsAt t p ≠ 4) := by
 unfold clsAt
 rw [if_pos h, isDig_cls]
 simp
theorem clsAt_end {t : Tx} {p : Nat} (h : t.length ≤ p) : clsAt t p = 0 := by unfold clsAt; rw [if_neg (by omega)]
theorem head_word {t : Tx} {p : Nat} (hd : isDig (t.getD p 0) = false ∨ t.length ≤ p) : ((t.drop p).head?.any zAz = true ↔ clsAt t p = 3 ∨ clsAt t p = 5) := by
 by_cases h : p < t.length
 ·rw [zAt h]
  have hw := clsAt_word h
  have hg := clsAt_dig h
  simp only [List.head?_cons, Option.any_some]
  have hdd : isDig (t.getD p 0) = false := by
   rcases hd with q | q
   ·exact q
   ·omega
  have h4 := hg.2 hdd
  cases hwd : zAz (t.getD p 0)
  ·have := hw.2 hwd
   simp [this.1, this.2.2]
  ·have := hw.1 hwd
   simp
   omega
 ·rw [List.drop_eq_nil_of_le (by omega), clsAt_end (by omega)]
  simp
theorem zCr (t : Tx) (i m : Nat) : (t.take (i + m)).drop i = (t.drop i).take m := by
 rw [List.drop_take]; congr 1; omega
theorem cls0B : ∀ c : UInt8, ((c.toNat : Int) != 10) = !(c == 10) := fun c => by
 have := zDq (p := fun c => ((c.toNat : Int) != 10) == !(c == 10)) (by decide +kernel) c
 exact eq_of_beq this
def st0 (t : Tx) (y : Nat) (hpk : Nat → Hp) (i k : Nat) : St := ⟨[yldD y, .ip [.str t], .ip [atD t], .int .i64 (i : Nat), .u0, .u0, .u0, .u0, .u0, .u0, .u0, .u0, .u0, .u0, .u0, .u0, .u0, .u0, .u0, .u0, .u0, .u0, .u0, .u0, .u0], [], hpk k⟩
set_option maxHeartbeats 4000000 in
theorem toks_it (t : Tx) (ht : t.length ≤ 10000) (hq : zD4 t) : IterS M 63 [.ip [.str t], .ip [atD t]] (rows t) (isErr t) := by
 refine iterS_of_body (C := E63 0 0) (fn := Tryz.f63) Tryz.func63 (by kernel_rfl) (by kernel_rfl) (rc := c63) z63 (by kernel_rfl) (by kernel_rfl) rfl (by rw [show ([D.ip [.str t], D.ip [atD t]] : List D).length + 1 = 3 from rfl]; decide) (fun b hpk n m y hst hB hY => ?_)
 rw [ie63]
 unfold c63
 have hrl : (rows t).length = (lexR t).length := by simp [rows]
 obtain ⟨RE, hRE⟩ : ∃ R, R = (RC.seq (.reg r63_36) (.cond (.v 24) .ret .skip)) := ⟨_, rfl⟩
 obtain ⟨RA, hRA⟩ : ∃ R, R = (RC.regD r63_15 r63_16) := ⟨_, rfl⟩
 obtain ⟨RB, hRB⟩ : ∃ R, R = (RC.regD r63_22 r63_23) := ⟨_, rfl⟩
 obtain ⟨RD, hRD⟩ : ∃ R, R = (RC.regD r63_34 r63_35) := ⟨_, rfl⟩
 rw [← hRE, ← hRA, ← hRB, ← hRD]
 repeat' (first | with_reducible (apply swq; constructor) | simp only [go_sem, seval, atB_M, pe63] | with_reducible intro _)
 have hln := hst.len
 have hlt := hst.lent
 have hn0 : ((E63 0 0).atB b (hpk 0)).n0 ≤ n := by show (hpk 0).H.length ≤ n; rw [hln]; exact Nat.le_refl _
 have hm0 : ((E63 0 0).atB b (hpk 0)).m0 ≤ m := by show (hpk 0).tk.length ≤ m; rw [hlt]; exact Nat.le_refl _
 have hgc0 : ∀ k, (hpk k).cut n m = hpk k := fun k => by have := hst.gc k []; simpa using this
 have hgc : ∀ k (B : List Blk), Hp.cut ⟨(hpk k).H ++ B, (hpk k).tk⟩ n m = hpk k := hst.gc
 refine zBz [0, 1, 2, 3] n m hn0 hm0 (fun a : Nat × Nat => st0 t y hpk a.1 a.2) (fun a => a.1 ≤ t.length ∧ a.2 ≤ (lexR t).length ∧ lx t a.1 = (lexR t).drop a.2) (fun a => t.length - a.1) (0, 0) ⟨by simp, by simp, by rw [lx_all]; rfl⟩ ?_ ?_
 ·simp [keepE, St.keepG, St.keep, St.gc, D.rnL, D.rn, st0, yldD, hgc0]
 rintro ⟨i, k⟩ ⟨hi, hk, hlx⟩
 simp only at hi hk hlx ⊢
 unfold st0
 by_cases hil : i < t.length
 case neg =>
  have hd : decide ((i : Int) < t.length) = false := by simp; omega
  have hkk : k = (rows t).length := by
   rw [lx_end (by omega)] at hlx
   have := List.drop_eq_nil_iff.1 hlx.symm; omega
  repeat' (first | with_reducible (apply swq; constructor) | simp only [go_sem, seval, atB_M, pe63, hd] | with_reducible intro _)
  exact ⟨_, zAf, by rw [hkk]⟩
 case pos =>
 have hd : decide ((i : Int) < t.length) = true := by simp; omega
 have hls := lx_step hil
 have hok := step_ok t hil
 have cA := at_p t i (by omega) (by omega)
 have hcA : clsAt t i = cls (t.getD i 0) := by unfold clsAt; rw [if_pos hil]
 rw [hcA] at cA
 have hg : ∀ (j : Nat) (B : Blk), ((hpk j).H ++ [B])[n]? = some B := fun j B => by rw [← hst.len j]; simp
 have hs : ∀ (j : Nat) (B B' : Blk), ((hpk j).H ++ [B]).set n B' = (hpk j).H ++ [B'] := fun j B B' => by rw [← hst.len j]; simp
 have next : ∀ (i' k' : Nat) (L : List Blk) (e : List D), keepE [0, 1, 2, 3] 0 e = (st0 t y hpk i' k').env → St.keepG [0, 1, 2, 3] n m ⟨e, [], ⟨(hpk k').H ++ L, (hpk k').tk⟩⟩ = st0 t y hpk i' k' := fun i' k' L e he => by
  simp only [St.keepG, St.keep, St.gc, he, hgc, st0]
  simp [D.rnL, D.rn, yldD]
 rcases cls_all (t.getD i 0) with h | h | h | h | h | h | h | h
 ·
  rw [h] at cA
  have hso := zBw hil (.inl h)
  rw [hso] at hls
  simp only [noErr] at hls
  rw [if_neg (by decide)] at hls
  obtain ⟨hk0, hk2, hdr⟩ := zCj (hlx.symm.trans hls)
  have wQ := And.intro @hln (And.intro @hg @hs); repeat' (first | with_reducible (apply swq; constructor) | simp only [go_sem, seval, atB_M, pe63, hd, hln, hg, hs] | ((with_reducible refine zAb (zA8 cA b) ?he ?hc ?_); (case he | hc => exact sc wQ)) | with_reducible intro _)
  all_goals try (exfalso; omega)
  subst hRE
  refine zE8 hst hB hY (f := ⟨⟨0, [], i⟩, 10⟩) (hlx.symm.trans hls) (fun _ => rfl) _ (fun he => absurd he (by simp)) (fun he hk' => ?_)
  exact ⟨trivial, _, zFe n m hn0 hm0, by simp only [St.gc]; rw [hgc, ← hk']⟩
 ·
  rw [h] at cA
  have hso := step_blank hil h
  rw [hso] at hls
  simp only at hls
  have wQ := And.intro @hln (And.intro @hg @hs); repeat' (first | with_reducible (apply swq; constructor) | simp only [go_sem, seval, atB_M, pe63, hd, hln, hg, hs] | simp (disch := omega) only [wA] | ((with_reducible refine zAb (zA8 cA b) ?he ?hc ?_); (case he | hc => exact sc wQ)) | with_reducible intro _)
  all_goals try (exfalso; omega)
  exact ⟨(i + 1, k), ⟨by simp only; omega, hk, by rw [← hlx, hls]⟩, by simp only; omega, next (i + 1) k _ _ rfl⟩
 ·
  rw [h] at cA
  have hso := step_hash hil h
  rw [hso] at hls hok
  simp only at hls hok
  have hpos := hok.2 (by simp)
  have hle := hok.1
  have hget := fun j hj => spn_get (p := fun d => !(d == 10)) (t := t) (i := i) (j := j) hj
  have hstop := zEw (p := fun d => !(d == 10)) (t := t) (i := i)
  generalize hmm : spn (fun d => !(d == 10)) (t.drop i) = mm at *
  have wQ := And.intro @hln (And.intro @hg @hs); repeat' (first | with_reducible (apply swq; constructor) | simp only [go_sem, seval, atB_M, pe63, hd, hln, hg, hs] | ((with_reducible refine zAb (zA8 cA b) ?he ?hc ?_); (case he | hc => exact sc wQ)) | with_reducible intro _)
  all_goals try (exfalso; omega)
  refine zAu [0, 1, 2, 3, 4, 5] (fun j : Nat => ⟨[yldD y, .ip [.str t], .ip [atD t], .int .i64 (i + j : Nat), .int .i64 (i : Nat), .ptr n 0, .u0, .u0, .u0, .u0, .u0, .u0, .u0, .u0, .u0, .u0, .u0, .u0, .u0, .u0, .u0, .u0, .u0, .u0, .u0], [], ⟨(hpk k).H ++ [.cells [.int .i64 0, .str [], .int .i64 (i : Nat), .int .i64 10]], (hpk k).tk⟩⟩) (fun j => j ≤ mm) (fun j => mm - j) 0 (by omega) ?_ ?_
  ·simp [keepE, St.keep]
  ·intro j hj
   by_cases hjm : j < mm
   ·obtain ⟨q1, q2⟩ := hget j hjm
    have hd2 : decide (((i + j : Nat) : Int) < t.length) = true := by simp; omega
    have hc10 : (((t.getD (i + j) 0).toNat : Int) != 10) = true := by rw [cls0B]; exact q2
    have wQ := And.intro @hln (And.intro @hg @hs); repeat' (first | with_reducible (apply swq; constructor) | simp only [go_sem, seval, atB_M, pe63, hd2, hc10, hln, hg, hs] | simp (disch := omega) only [wA] | ((with_reducible refine And.intro ?hw ?_); (case hw => exact sw wQ)) | with_reducible intro _)
    all_goals try (exfalso; omega)
    refine ⟨j + 1, by omega, by omega, ?_⟩
    simp [keepE, St.keep]
    try omega
   ·obtain rfl : j = mm := by omega
    have fin : ∃ a' : Nat × Nat, (a'.1 ≤ t.length ∧ a'.2 ≤ (lexR t).length ∧ lx t a'.1 = (lexR t).drop a'.2) ∧ t.length - a'.1 < t.length - i ∧ a' = (i + j, k) := ⟨(i + j, k), ⟨by simp only; omega, hk, by rw [← hlx, hls]⟩, by simp only; omega, rfl⟩
    obtain ⟨a', f1, f2, rfl⟩ := fin
    by_cases hil2 : i + j < t.length
    ·have hd2 : decide (((i + j : Nat) : Int) < t.length) = true := by simp; omega
     have hc10 : (((t.getD (i + j) 0).toNat : Int) != 10) = false := by rw [cls0B]; exact hstop hil2
     have wQ := And.intro @hln (And.intro @hg @hs); repeat' (first | with_reducible (apply swq; constructor) | simp only [go_sem, seval, atB_M, pe63, hd2, hc10, hln, hg, hs] | ((with_reducible refine And.intro ?hw ?_); (case hw => exact sw wQ)) | with_reducible intro _)
     all_goals try (exfalso; omega)
     exact ⟨_, f1, f2, next (i + j) k _ _ rfl⟩
    ·have hd2 : decide (((i + j : Nat) : Int) < t.length) = false := by simp; omega
     repeat' (first | with_reducible (apply swq; constructor) | simp only [go_sem, seval, atB_M, pe63, hd2, hln, hg, hs] | with_reducible intro _)
     all_goals try (exfalso; omega)
     exact ⟨_, f1, f2, next (i + j) k _ _ rfl⟩
 ·
  have hcA3 : clsAt t i = 3 := hcA.trans h
  rw [h] at cA
  have hso := step_let hil h
  rw [hso] at hls hok
  simp only at hls hok
  have hle := hok.1
  have hget := fun j hj => spn_get (p := zAz) (t := t) (i := i) (j := j) hj
  have hstop := zEw (p := zAz) (t := t) (i := i)
  have hpos : 0 < spn zAz (t.drop i) := zEc hil (by rw [isWord_cls, h]; rfl)
  have htd := zCr t i (spn zAz (t.drop i))
  rw [← htd] at hls
  generalize hmm : spn zAz (t.drop i) = mm at *
  have wQ := And.intro @hln (And.intro @hg @hs); repeat' (first | with_reducible (apply swq; constructor) | simp only [go_sem, seval, atB_M, pe63, hd, hln, hg, hs] | ((with_reducible refine zAb (zA8 cA b) ?he ?hc ?_); (case he | hc => exact sc wQ)) | with_reducible intro _)
  all_goals try (exfalso; omega)
  refine zAu [0, 1, 2, 3, 4, 5, 6] (fun j : Nat => ⟨[yldD y, .ip [.str t], .ip [atD t], .int .i64 (i + j : Nat), .int .i64 (i : Nat), .ptr n 0, .int .u8 (clsAt t (i + j)), .u0, .u0, .u0, .u0, .u0, .u0, .u0, .u0, .u0, .u0, .u0, .u0, .u0, .u0, .u0, .u0, .u0, .u0], [], ⟨(hpk k).H ++ [.cells [.int .i64 0, .str [], .int .i64 (i : Nat), .int .i64 10]], (hpk k).tk⟩⟩) (fun j => j ≤ mm) (fun j => mm - j) 0 (by omega) ?_ ?_
  ·simp [keepE, St.keep, hcA3]
  ·intro j hj
   by_cases hjm : j < mm
   ·obtain ⟨q1, q2⟩ := hget j hjm
    have cB := at_p t (i + (j + 1)) (by omega) (by omega)
    have hc := (clsAt_word q1).1 q2
    generalize clsAt t (i + j) = cl at *
    rcases hc with rfl | rfl | rfl
    all_goals
     have wQ := And.intro @hln (And.intro @hg @hs); repeat' (first | with_reducible (apply swq; constructor) | simp only [go_sem, seval, atB_M, pe63, hln, hg, hs] | simp (disch := omega) only [wA] | ((with_reducible refine zAb (zA8 cB b) ?he ?hc ?_); (case he | hc => exact sc wQ)) | with_reducible intro _)
     all_goals try (exfalso; omega)
     refine ⟨j + 1, by omega, by omega, ?_⟩
     simp [keepE, St.keep]
     try omega
   ·obtain rfl : j = mm := by omega
    have hc : clsAt t (i + j) ≠ 3 ∧ clsAt t (i + j) ≠ 4 ∧ clsAt t (i + j) ≠ 5 := by
     by_cases hil2 : i + j < t.length
     ·exact (clsAt_word hil2).2 (hstop hil2)
     ·rw [clsAt_end (by omega)]; decide
    obtain ⟨hc1, hc2, hc3⟩ := hc
    have u1 : (clsAt t (i + j) == 3) = false := by simp [hc1]
    have u2 : (clsAt t (i + j) == 4) = false := by simp [hc2]
    have u3 : (clsAt t (i + j) == 5) = false := by simp [hc3]
    generalize clsAt t (i + j) = cl at *
    repeat' (first | with_reducible (apply swq; constructor) | simp only [go_sem, seval, atB_M, pe63, u1, u2, u3, hln, hg, hs] | with_reducible intro _)
    all_goals try (exfalso; omega)
    subst hRA
    refine reg15 (a := i) (b := i + j) (hln k) (by omega) (by omega) rfl rfl rfl rfl _ ?_
    have hw : decide (((i + j : Nat) : Int) - (i : Nat) > 24) = decide (24 < j) := by
     rw [Bool.eq_iff_iff]; simp; omega
    by_cases h24 : 24 < j
    ·rw [if_pos h24] at hls
     rw [if_neg (by decide)] at hls
     have hw2 : decide (24 < j) = true := by simp [h24]
     rw [hw2] at hw
     repeat' (first | with_reducible (apply swq; constructor) | simp only [go_sem, seval, atB_M, pe63, hw, hln, hg, hs] | simp (disch := omega) only [wA] | with_reducible intro _)
     all_goals try (exfalso; omega)
     subst hRE
     refine zE8 hst hB hY (f := ⟨⟨1, (t.take (i + j)).drop i, i⟩, 7⟩) (hlx.symm.trans hls) (fun _ => rfl) _ (fun he => absurd he (by simp)) (fun he hk' => ?_)
     exact ⟨trivial, _, zFe n m hn0 hm0, by simp only [St.gc]; rw [hgc, ← hk']⟩
    ·rw [if_neg h24] at hls
     rw [if_pos rfl] at hls
     obtain ⟨hk0, hk2, hdr⟩ := zCj (hlx.symm.trans hls)
     have hw2 : decide (24 < j) = false := by simp; omega
     rw [hw2] at hw
     repeat' (first | with_reducible (apply swq; constructor) | simp only [go_sem, seval, atB_M, pe63, hw, hln, hg, hs] | simp (disch := omega) only [wA] | with_reducible intro _)
     all_goals try (exfalso; omega)
     subst hRE
     refine zE8 hst hB hY (f := ⟨⟨1, (t.take (i + j)).drop i, i⟩, 0⟩) (hlx.symm.trans hls) (fun he => absurd rfl he) _ (fun he => ?_) (fun he => absurd rfl he)
     exact ⟨(i + j, k + 1), ⟨by simp only; omega, by simp only; omega, hdr.symm⟩, by simp only; omega, next (i + j) (k + 1) _ _ rfl⟩
 ·
  rw [h] at cA
  have hso := step_dig hil h
  rw [hso] at hls hok
  simp only at hls hok
  have hle := hok.1
  have hget := fun j hj => spn_get (p := isDig) (t := t) (i := i) (j := j) hj
  have hstop := zEw (p := isDig) (t := t) (i := i)
  have hpos : 0 < spn isDig (t.drop i) := zEc hil (by rw [isDig_cls, h]; rfl)
  have htd := zCr t i (spn isDig (t.drop i))
  rw [← htd] at hls
  generalize hmm : spn isDig (t.drop i) = mm at *
  rw [List.drop_drop] at hls
  have hhw : (t.drop (i + mm)).head?.any zAz = true ↔ clsAt t (i + mm) = 3 ∨ clsAt t (i + mm) = 5 := head_word (by
   by_cases hil2 : i + mm < t.length
   ·exact .inl (hstop hil2)
   ·exact .inr (by omega))
  have wQ := And.intro @hln (And.intro @hg @hs); repeat' (first | with_reducible (apply swq; constructor) | simp only [go_sem, seval, atB_M, pe63, hd, hln, hg, hs] | ((with_reducible refine zAb (zA8 cA b) ?he ?hc ?_); (case he | hc => exact sc wQ)) | with_reducible intro _)
  all_goals try (exfalso; omega)
  refine zAu [0, 1, 2, 3, 4, 5] (fun j : Nat => ⟨[yldD y, .ip [.str t], .ip [atD t], .int .i64 (i + j : Nat), .int .i64 (i : Nat), .ptr n 0, .u0, .u0, .u0, .u0, .u0, .u0, .u0, .u0, .u0, .u0, .u0, .u0, .u0, .u0, .u0, .u0, .u0, .u0, .u0], [], ⟨(hpk k).H ++ [.cells [.int .i64 0, .str [], .int .i64 (i : Nat), .int .i64 10]], (hpk k).tk⟩⟩) (fun j => j ≤ mm) (fun j => mm - j) 0 (by omega) ?_ ?_
  ·simp [keepE, St.keep]
  ·intro j hj
   have cB := at_p t (i + j) (by omega) (by omega)
   by_cases hjm : j < mm
   ·obtain ⟨q1, q2⟩ := hget j hjm
    rw [(clsAt_dig q1).1 q2] at cB
    have wQ := And.intro @hln (And.intro @hg @hs); repeat' (first | with_reducible (apply swq; constructor) | simp only [go_sem, seval, atB_M, pe63, hln, hg, hs] | simp (disch := omega) only [wA] | ((with_reducible refine zAb (zA8 cB b) ?he ?hc ?_); (case he | hc => exact sc wQ)) | with_reducible intro _)
    all_goals try (exfalso; omega)
    refine ⟨j + 1, by omega, by omega, ?_⟩
    simp [keepE, St.keep]
    try omega
   ·obtain rfl : j = mm := by omega
    have hc : clsAt t (i + j) ≠ 4 := by
     by_cases hil2 : i + j < t.length
     ·exact (clsAt_dig hil2).2 (hstop hil2)
     ·rw [clsAt_end (by omega)]; decide
    have u2 : (clsAt t (i + j) == 4) = false := by simp [hc]
    generalize clsAt t (i + j) = cl at *
    have wQ := And.intro @hln (And.intro @hg @hs); repeat' (first | with_reducible (apply swq; constructor) | simp only [go_sem, seval, atB_M, pe63, u2, hln, hg, hs] | ((with_reducible refine zAb (zA8 cB b) ?he ?hc ?_); (case he | hc => exact sc wQ)) | with_reducible intro _)
    all_goals try (exfalso; omega)
    subst hRB
    refine reg22 (a := i) (b := i + j) (hln k) (by omega) (by omega) rfl rfl rfl rfl _ ?_
    have hw : decide (((i + j : Nat) : Int) - (i : Nat) > 7) = decide (7 < j) := by
     rw [Bool.eq_iff_iff]; simp; omega
    by_cases hbad : 7 < j ∨ (t.drop (i + j)).head?.any zAz = true
    ·rw [if_pos hbad] at hls
     rw [if_neg (by decide)] at hls
     rw [hhw] at hbad
     by_cases h7 : 7 < j
     ·have hw2 : decide (7 < j) = true := by simp [h7]
      rw [hw2] at hw
      have wQ := And.intro @hln (And.intro @hg @hs); repeat' (first | with_reducible (apply swq; constructor) | simp only [go_sem, seval, atB_M, pe63, hw, hln, hg, hs] | simp (disch := omega) only [wA] | ((with_reducible refine zAb (zA8 cB b) ?he ?hc ?_); (case he | hc => exact sc wQ)) | with_reducible intro _)
      all_goals try (exfalso; omega)
      subst hRE
      refine zE8 hst hB hY (f := ⟨⟨2, (t.take (i + j)).drop i, i⟩, 11⟩) (hlx.symm.trans hls) (fun _ => rfl) _ (fun he => absurd he (by simp)) (fun he hk' => ?_)
      exact ⟨trivial, _, zFe n m hn0 hm0, by simp only [St.gc]; rw [hgc, ← hk']⟩
     ·have hw2 : decide (7 < j) = false := by simp; omega
      rw [hw2] at hw
      have hcl : cl = 3 ∨ cl = 5 := by
       rcases hbad with q | q
       ·exact absurd q h7
       ·exact q
      rcases hcl with rfl | rfl
      all_goals
       have wQ := And.intro @hln (And.intro @hg @hs); repeat' (first | with_reducible (apply swq; constructor) | simp only [go_sem, seval, atB_M, pe63, hw, hln, hg, hs] | simp (disch := omega) only [wA] | ((with_reducible refine zAb (zA8 cB b) ?he ?hc ?_); (case he | hc => exact sc wQ)) | with_reducible intro _)
       all_goals try (exfalso; omega)
       subst hRE
       refine zE8 hst hB hY (f := ⟨⟨2, (t.take (i + j)).drop i, i⟩, 11⟩) (hlx.symm.trans hls) (fun _ => rfl) _ (fun he => absurd he (by simp)) (fun he hk' => ?_)
       exact ⟨trivial, _, zFe n m hn0 hm0, by simp only [St.gc]; rw [hgc, ← hk']⟩
    ·rw [if_neg hbad] at hls
     rw [if_pos rfl] at hls
     obtain ⟨hk0, hk2, hdr⟩ := zCj (hlx.symm.trans hls)
     rw [hhw] at hbad
     have hw2 : decide (7 < j) = false := by simp; omega
     rw [hw2] at hw
     have v1 : (cl == 3) = false := by rw [beq_eq_false_iff_ne]; intro e; exact hbad (.inr (.inl e))
     have v2 : (cl == 5) = false := by rw [beq_eq_false_iff_ne]; intro e; exact hbad (.inr (.inr e))
     have wQ := And.intro @hln (And.intro @hg @hs); repeat' (first | with_reducible (apply swq; constructor) | simp only [go_sem, seval, atB_M, pe63, hw, v1, v2, hln, hg, hs] | simp (disch := omega) only [wA] | ((with_reducible refine zAb (zA8 cB b) ?he ?hc ?_); (case he | hc => exact sc wQ)) | with_reducible intro _)
     all_goals try (exfalso; omega)
     subst hRE
     refine zE8 hst hB hY (f := ⟨⟨2, (t.take (i + j)).drop i, i⟩, 0⟩) (hlx.symm.trans hls) (fun he => absurd rfl he) _ (fun he => ?_) (fun he => absurd rfl he)
     exact ⟨(i + j, k + 1), ⟨by simp only; omega, by simp only; omega, hdr.symm⟩, by simp only; omega, next (i + j) (k + 1) _ _ rfl⟩
 ·
  rw [h] at cA
  have hso := zBw hil (.inr h)
  rw [hso] at hls
  simp only [noErr] at hls
  rw [if_neg (by decide)] at hls
  obtain ⟨hk0, hk2, hdr⟩ := zCj (hlx.symm.trans hls)
  have wQ := And.intro @hln (And.intro @hg @hs); repeat' (first | with_reducible (apply swq; constructor) | simp only [go_sem, seval, atB_M, pe63, hd, hln, hg, hs] | ((with_reducible refine zAb (zA8 cA b) ?he ?hc ?_); (case he | hc => exact sc wQ)) | with_reducible intro _)
  all_goals try (exfalso; omega)
  subst hRE
  refine zE8 hst hB hY (f := ⟨⟨0, [], i⟩, 10⟩) (hlx.symm.trans hls) (fun _ => rfl) _ (fun he => absurd he (by simp)) (fun he hk' => ?_)
  exact ⟨trivial, _, zFe n m hn0 hm0, by simp only [St.gc]; rw [hgc, ← hk']⟩
 ·
  rw [h] at cA
  have hso := step_sym hil h
  rw [hso] at hls hok
  simp only at hls hok
  rw [if_pos trivial] at hls
  have htd := zCr t i 1
  rw [← htd] at hls
  obtain ⟨hk0, hk2, hdr⟩ := zCj (hlx.symm.trans hls)
  have wQ := And.intro @hln (And.intro @hg @hs); repeat' (first | with_reducible (apply swq; constructor) | simp only [go_sem, seval, atB_M, pe63, hd, hln, hg, hs] | simp (disch := omega) only [wA] | ((with_reducible refine zAb (zA8 cA b) ?he ?hc ?_); (case he | hc => exact sc wQ)) | with_reducible intro _)
  all_goals try (exfalso; omega)
  subst hRD
  refine reg34 (a := i) (b := i + 1) (hln k) (by omega) (by omega) rfl rfl rfl rfl _ ?_
  repeat' (first | with_reducible (apply swq; constructor) | simp only [go_sem, seval, atB_M, pe63, hln, hg, hs] | with_reducible intro _)
  all_goals try (exfalso; omega)
  subst hRE
  refine zE8 hst hB hY (f := ⟨⟨4, (t.take (i + 1)).drop i, i⟩, 0⟩) (hlx.symm.trans hls) (fun he => absurd rfl he) _ (fun he => ?_) (fun he => absurd rfl he)
  exact ⟨(i + 1, k + 1), ⟨by simp only; omega, by simp only; omega, hdr.symm⟩, by simp only; omega, next (i + 1) (k + 1) _ _ rfl⟩
 ·
  rw [h] at cA
  have hso := zEv hil h
  rw [hso] at hls hok
  have cQ := hq i hil h
  have hn2 : ∀ u nn, unq (t.drop (i + 1)) [] 1 = some (u, nn) → unqS t i = u ∧ unqN t i = nn := fun u nn e => by simp [unqS, unqN, e]
  have hn3 : unq (t.drop (i + 1)) [] 1 = none → unqS t i = [] ∧ unqN t i = 0 := fun e => by simp [unqS, unqN, e]
  cases hu : unq (t.drop (i + 1)) [] 1 with
  | none =>
    obtain ⟨e1, e2⟩ := hn3 hu
    rw [e1, e2] at cQ
    rw [hu] at hls hok
    simp only [noErr] at hls
    rw [if_neg (by decide)] at hls
    obtain ⟨hk0, hk2, hdr⟩ := zCj (hlx.symm.trans hls)
    have wQ := And.intro @hln (And.intro @hg @hs); repeat' (first | with_reducible (apply swq; constructor) | simp only [go_sem, seval, atB_M, pe63, hd, hln, hg, hs] | simp (disch := omega) only [wA] | ((with_reducible refine zAb (zA8 cA b) ?he ?hc ?_); (case he | hc => exact sc wQ)) | ((with_reducible refine zAb (zA8 cQ b) ?he ?hc ?_); (case he | hc => exact sc wQ)) | (with_reducible (apply cdA; constructor)) | ((with_reducible refine And.intro ?hw ?_); (case hw => exact sw wQ)) | with_reducible intro _)
    all_goals try (exfalso; omega)
    subst hRE
    refine zE8 hst hB hY (f := ⟨⟨0, [], i⟩, 10⟩) (hlx.symm.trans hls) (fun _ => rfl) _ (fun he => absurd he (by simp)) (fun he hk' => ?_)
    exact ⟨trivial, _, zFe n m hn0 hm0, by simp only [St.gc]; rw [hgc, ← hk']⟩
  | some pr =>
    obtain ⟨u, nn⟩ := pr
    obtain ⟨e1, e2⟩ := hn2 u nn hu
    rw [e1, e2] at cQ
    rw [hu] at hls hok
    simp only at hls hok
    rw [if_pos trivial] at hls
    have hpos := hok.2 (by simp)
    have hle := hok.1
    obtain ⟨hk0, hk2, hdr⟩ := zCj (hlx.symm.trans hls)
    have hp : decide ((nn : Int) > 0) = true := by simp; omega
    have wQ := And.intro @hln (And.intro @hg @hs); repeat' (first | with_reducible (apply swq; constructor) | simp only [go_sem, seval, atB_M, pe63, hd, hp, hln, hg, hs] | simp (disch := omega) only [wA] | ((with_reducible refine zAb (zA8 cA b) ?he ?hc ?_); (case he | hc => exact sc wQ)) | ((with_reducible refine zAb (zA8 cQ b) ?he ?hc ?_); (case he | hc => exact sc wQ)) | ((with_reducible refine And.intro ?hw ?_); (case hw => exact sw wQ)) | with_reducible intro _)
    all_goals try (exfalso; omega)
    subst hRE
    refine zE8 hst hB hY (f := ⟨⟨3, u, i⟩, 0⟩) (hlx.symm.trans hls) (fun he => absurd rfl he) _ (fun he => ?_) (fun he => absurd rfl he)
    refine ⟨(i + nn, k + 1), ⟨by simp only; omega, by simp only; omega, hdr.symm⟩, by simp only; omega, ?_⟩
    refine next (i + nn) (k + 1) _ _ ?_
    simp [keepE, st0]
end Go.Proofs.YtkjnhkoipgdfeaaGreatDoor
end
section
set_option maxRecDepth 100000
set_option linter.unusedSimpArgs false
set_option linter.unusedVariables false
namespace Go.Proofs.YtkjnhkoipgdfeaaGreatDoor
open Go GoV Go.RowKit
@[reducible] def Tok.d (t : Tok) : D := .agg [.int .i64 t.kind, .str t.text, .int .i64 t.pos]
def tokL (l : List Tok) : List D := l.map Tok.d
theorem zBy (l : List Tok) : (tokL l).length = l.length := by simp [tokL]
theorem zEb (t : Tok) (l : List Tok) : tokL (t :: l) = t.d :: tokL l := rfl
theorem zFg : ∀ l : List Tok, D.erL (tokL l) = tokL l
 | [] => rfl
 | t :: l => by have := zFg l; simp_all [tokL, D.erL, D.er]
theorem zDr : ∀ l : List Tok, D.cL (tokL l) = true
 | [] => rfl
 | t :: l => by have := zDr l; simp_all [tokL, D.cL, D.closed]
theorem zAc (β τ : Nat → Option Nat) : ∀ l : List Tok, D.rnL β τ (tokL l) = tokL l
 | [] => rfl
 | t :: l => by have := zAc β τ l; simp_all [tokL, D.rnL, D.rn]
theorem zBd : ∀ l : List Tok, zAk 3 (tokL l) = true
 | [] => rfl
 | t :: l => by have := zBd l; simp_all [tokL, zAk, D.iV, D.cells]
def hpP (l : List Tok) (en : Int) : Hp := ⟨[.cells [.slice (tokL l) .no, .int .i64 en]], []⟩
def strs (l : List Tx) : List D := l.map .str
theorem strs_len (l : List Tx) : (strs l).length = l.length := by simp [strs]
theorem strs_get {l : List Tx} {i : Nat} (h : i < l.length) : (strs l).getD i .u0 = .str (l.getD i []) := by simp [strs, List.getD, h]
def gotI (k : Int) (ws : List Tx) (l : List Tok) : Int := match gotN k ws l with
 | some i => i
 | none => -1
def gotR (k : Int) (ws : List Tx) (l : List Tok) : List Tok := match gotN k ws l with
 | some _ => l.tail
 | none => l
theorem gotN_hit {k : Int} {ws : List Tx} {t : Tok} {r : List Tok} {j : Nat} (hk : t.kind = k) (hj : j < ws.length) (he : t.text = ws.getD j []) (hb : ∀ i, i < j → ¬ t.text = ws.getD i []) : gotN k ws (t :: r) = some j := by
 simp only [gotN, hk, if_true]
 rw [List.findIdx?_eq_some_iff_getElem]
 refine ⟨hj, by simpa [List.getD, hj] using he, fun i hi => ?_⟩
 have := hb i hi
 simp only [List.getD, List.getElem?_eq_getElem (Nat.lt_trans hi hj), Option.getD_some] at this
 simp [this]
theorem gotN_miss {k : Int} {ws : List Tx} {t : Tok} {r : List Tok} (h : t.kind = k → ∀ i, i < ws.length → ¬ t.text = ws.getD i []) : gotN k ws (t :: r) = none := by
 simp only [gotN]
 split
 ·rename_i hk
  rw [List.findIdx?_eq_none_iff]
  intro w hw
  obtain ⟨i, hi, rfl⟩ := List.getElem_of_mem hw
  have := h hk i hi
  simp only [List.getD, List.getElem?_eq_getElem hi, Option.getD_some] at this
  simp [this]
 ·rfl
set_option maxHeartbeats 1000000 in
theorem got_e (k : Int) (ws : List Tx) (hw : ws.length ≤ 10) (l : List Tok) (hl : l.length ≤ 100000) (en : Int) :
 Eff M 65 [.ptr 0 0, .int .i64 k, .slice (strs ws) .full] (hpP l en) fun d hp => d = .int .i64 (gotI k ws l) ∧ hp = hpP (gotR k ws l) en := by
 refine k65.oe 1 0 rfl rfl rfl ?_
 rw [ie65]
 unfold c65
 have hsl := strs_len ws
 unfold hpP
 repeat' (first | with_reducible (apply swq; constructor) | simp only [go_sem, seval, pe65, q65, hsl] | with_reducible intro _)
 refine zAu [0, 1, 6, 7, 8] (fun j : Nat => ⟨[.ptr 0 0, .int .i64 k, .u0, .u0, .u0, .u0, .slice (strs ws) .full, .int .i64 ws.length, .int .i64 j, .u0, .u0], [], hpP l en⟩)
  (fun j => j ≤ ws.length ∧ ∀ t r, l = t :: r → t.kind = k → ∀ i, i < j → ¬ t.text = ws.getD i []) (fun j => ws.length - j) 0 ⟨by omega, fun _ _ _ _ i hi => by omega⟩ ?_ ?_
 ·simp [keepE, St.keep, hpP]
 ·rintro j ⟨hj, hb⟩
  by_cases hjl : j < ws.length
  ·have hg := strs_get hjl
   have hd : decide ((j : Int) < ws.length) = true := by simp; omega
   unfold hpP
   cases l with
   | nil =>
     have e0 : tokL [] = [] := rfl
     rw [e0]
     have wQ := And.intro @hsl @hg; repeat' (first | with_reducible (apply swq; constructor) | simp only [go_sem, seval, pe65, q65, hsl, hg, hd] | simp (disch := omega) only [wA] | (with_reducible (apply gdA; constructor)) | ((with_reducible refine And.intro ?hw ?_); (case hw => exact sw wQ)) | with_reducible intro _)
     all_goals try (exfalso; omega)
     refine ⟨j + 1, ⟨by omega, fun _ _ h => nomatch h⟩, by omega, ?_⟩
     simp [keepE, St.keep, hpP, e0]
   | cons t r =>
     have hlr := zBy r
     have hpos : decide (((r.length + 1 : Nat) : Int) > 0) = true := by simp only [decide_eq_true_eq]; omega
     have hcons := zEb t r
     rw [hcons]
     have hel := zBd r
     have hbb := hb t r rfl
     by_cases hk : t.kind = k
     ·have tk : (t.kind == k) = true := by simp [hk]
      by_cases he : t.text = ws.getD j []
      ·have te : (t.text == ws.getD j []) = true := by rw [beq_iff_eq]; exact he
       have hgn := gotN_hit (r := r) hk hjl he (hbb hk)
       have e1 : gotI k ws (t :: r) = j := by simp [gotI, hgn]
       have e2 : gotR k ws (t :: r) = r := by simp [gotR, hgn]
       rw [e1, e2]
       generalize ws.getD j [] = w at *
       generalize tokL r = R at *
       have wQ := And.intro @hsl (And.intro @hg (And.intro @hlr @hel)); repeat' (first | with_reducible (apply swq; constructor) | simp only [go_sem, seval, pe65, q65, hsl, hg, hd, hlr, hpos, tk, te, List.length_cons, List.drop_succ_cons, List.drop_zero] | ((with_reducible apply s_slTF); (case h0 | h1 | hx => exact sd wQ)) | ((with_reducible refine And.intro ?hw ?_); (case hw => exact sw wQ)) | with_reducible intro _)
       all_goals try (exfalso; omega)
       exact ⟨_, zAf, by simp⟩
      ·have te : (t.text == ws.getD j []) = false := by rw [beq_eq_false_iff_ne]; exact he
       generalize hwd : ws.getD j [] = w at *
       generalize tokL r = R at *
       have wQ := And.intro @hsl (And.intro @hg (And.intro @hlr @hel)); repeat' (first | with_reducible (apply swq; constructor) | simp only [go_sem, seval, pe65, q65, hsl, hg, hd, hlr, hpos, tk, te, List.length_cons] | simp (disch := omega) only [wA] | ((with_reducible refine And.intro ?hw ?_); (case hw => exact sw wQ)) | with_reducible intro _)
       all_goals try (exfalso; omega)
       refine ⟨j + 1, ⟨by omega, fun t' r' h hk' i hi => ?_⟩, by omega, ?_⟩
       ·cases h
        by_cases e : i = j
        ·subst e; rw [hwd]; exact he
        ·exact hbb hk i (by omega)
       ·simp [keepE, St.keep, hcons, hpP]
     ·have tk : (t.kind == k) = false := by simp [hk]
      generalize tokL r = R at *
      have wQ := And.intro @hsl (And.intro @hg (And.intro @hlr @hel)); repeat' (first | with_reducible (apply swq; constructor) | simp only [go_sem, seval, pe65, q65, hsl, hg, hd, hlr, hpos, tk, List.length_cons] | simp (disch := omega) only [wA] | ((with_reducible refine And.intro ?hw ?_); (case hw => exact sw wQ)) | with_reducible intro _)
      all_goals try (exfalso; omega)
      refine ⟨j + 1, ⟨by omega, fun t' r' h hk' => by cases h; exact absurd hk' hk⟩, by omega, ?_⟩
      simp [keepE, St.keep, hcons, hpP]
  ·obtain rfl : j = ws.length := by omega
   have hd : decide ((ws.length : Int) < ws.length) = false := by simp
   have hgn : gotN k ws l = none := by
    cases l with
    | nil => rfl
    | cons t r => exact gotN_miss fun hk i hi => hb t r rfl hk i hi
   have e1 : gotI k ws l = -1 := by simp [gotI, hgn]
   have e2 : gotR k ws l = l := by simp [gotR, hgn]
   rw [e1, e2]
   unfold hpP
   repeat' (first | with_reducible (apply swq; constructor) | simp only [go_sem, seval, pe65, q65, hsl, hd] | with_reducible intro _)
   all_goals try (exfalso; omega)
   exact ⟨_, zAf, by simp⟩
@[reducible] def probD (e p : Int) : D := .iface 48 (.agg [.int .i64 e, .int .i64 p])
theorem fail_x (l : List Tok) (hl : l.length ≤ 100000) (en e p : Int) (h : failP en l = .no e p) : Xff M 24 [.ptr 0 0] (hpP l en) fun d _ => d = probD e p := by
 refine zB8 (C := E24 1 0) (fn := Tryz.f24) Tryz.func24 (by kernel_rfl) (by kernel_rfl) (rc := c24) z24 (by kernel_rfl) rfl (by rw [show ([D.ptr 0 0] : List D).length = 1 from rfl]; decide) rfl rfl ?_ rfl (fun _ _ => trivial)
 rw [ie24]
 unfold c24
 unfold hpP
 cases l with
 | nil =>
   cases h
   have e0 : tokL [] = [] := rfl
   rw [e0]
   have hz : (((0 : Nat) : Int) == 0) = true := rfl
   have hl0 : ([] : List D).length = 0 := rfl
   repeat' (first | with_reducible (apply swq; constructor) | simp only [go_sem, seval, zAy, pe24, q24, hz, hl0] | with_reducible intro _)
   exact s_pan rfl
 | cons t r =>
   cases h
   have hlr := zBy r
   have hz : (((r.length + 1 : Nat) : Int) == 0) = false := by simp; omega
   rw [zEb]
   have hel := zBd r
   generalize tokL r = R at *
   have wQ := And.intro @hlr @hel; repeat' (first | with_reducible (apply swq; constructor) | simp only [go_sem, seval, zAy, pe24, q24, hlr, hz, List.length_cons] | ((with_reducible refine And.intro ?hw ?_); (case hw => exact sw wQ)) | with_reducible intro _)
   all_goals try (exfalso; omega)
   exact s_pan rfl
theorem need_e (w : Tx) (l : List Tok) (hl : l.length ≤ 100000) (en : Int) {i : Nat} (h : gotN 4 [w] l = some i) : Eff M 79 [.ptr 0 0, .str w] (hpP l en) fun d hp => d = .tup [] ∧ hp = hpP l.tail en := by
 refine k79.oe 1 0 rfl rfl rfl ?_
 rw [ie79]
 unfold c79
 have c1 := got_e 4 [w] (by simp) l hl en
 have e1 : gotI 4 [w] l = i := by simp [gotI, h]
 have e2 : gotR 4 [w] l = l.tail := by simp [gotR, h]
 rw [e1, e2] at c1
 have e3 : strs [w] = [.str w] := rfl
 rw [e3] at c1
 have hd : decide ((i : Int) < 0) = false := by simp
 unfold hpP at c1 ⊢
 generalize tokL l = L at *
 generalize tokL l.tail = L' at *
 have wQ := tw; repeat' (first | with_reducible (apply swq; constructor) | simp only [go_sem, seval, pe79, q79, hd] | ((with_reducible refine o_same (c1) ?he ?hh ?_); (case he | hh => exact sh wQ)) | ((with_reducible apply s_bsl); (case he | hl | hc => exact sd wQ)) | with_reducible intro _)
 exact ⟨_, zAf, by simp⟩
end Go.Proofs.YtkjnhkoipgdfeaaGreatDoor
end
section
set_option maxRecDepth 100000
set_option linter.unusedSimpArgs false
set_option linter.unusedVariables false
namespace Go.Proofs.YtkjnhkoipgdfeaaGreatDoor
open Go GoV Go.RowKit
@[reducible] def hpG (e p : Int) (T : List Tok) : Hp := ⟨[.cells [.lit (.slice none 0 0)], .cells [.int .i64 e], .cells [.int .i64 p], .cells [.slice (tokL T) (.tok 0)]], [.per 3 T.length]⟩
theorem hr1 : List.range 1 = [0] := rfl
theorem hr4 : List.range 4 = [0, 1, 2, 3] := rfl
theorem hr5 : List.range 5 = [0, 1, 2, 3, 4] := rfl
theorem steadyG (e p : Nat → Int) (T : Nat → List Tok) : Steady (fun k => hpG (e k) (p k) (T k)) 4 1 := by
 refine ⟨fun k => rfl, fun k => rfl, fun k L => ?_, fun k L => ?_, fun k L => ?_⟩
 ·simp [Hp.cut, Blk.rnL, Blk.rn, Tv.rnL, Tv.rn, D.rnL, D.rn, zAc, cutF, Own.rn]
 ·simp [Hp.sel, hr1, hr4, Blk.rnL, Blk.rn, Tv.rnL, Tv.rn, D.rnL, D.rn, zAc, posF, idx, Own.rn]
 ·simp [Hp.back, putAt, hr1, hr4, Blk.rnL, Blk.rn, Tv.rnL, Tv.rn, D.rnL, D.rn, zAc, bakF, Own.rn]
theorem steadyR (e p : Nat → Int) (T : Nat → List Tok) (r : Nat → Obj) : Steady (fun k => ⟨(hpG (e k) (p k) (T k)).H ++ [.raw (r k)], (hpG (e k) (p k) (T k)).tk⟩) 5 1 := by
 refine ⟨fun k => rfl, fun k => rfl, fun k L => ?_, fun k L => ?_, fun k L => ?_⟩
 ·simp [Hp.cut, Blk.rnL, Blk.rn, Tv.rnL, Tv.rn, D.rnL, D.rn, zAc, cutF, Own.rn]
 ·simp [Hp.sel, hr1, hr5, Blk.rnL, Blk.rn, Tv.rnL, Tv.rn, D.rnL, D.rn, zAc, posF, idx, Own.rn]
 ·simp [Hp.back, putAt, hr1, hr5, Blk.rnL, Blk.rn, Tv.rnL, Tv.rn, D.rnL, D.rn, zAc, bakF, Own.rn]
def tks (t : Tx) (k : Nat) : List Tok := ((lexR t).take k).map Fo.tok
def zBt (t : Tx) (k : Nat) : Bool := isErr t && decide (k = (lexR t).length)
def lastF (t : Tx) : Fo := ((lexR t).getLast?).getD ⟨⟨0, [], 0⟩, 0⟩
def eK (t : Tx) (k : Nat) : Int := if zBt t k then (lastF t).err else 0
def pK (t : Tx) (k : Nat) : Int := if zBt t k then (lastF t).tok.pos else 0
def tK (t : Tx) (k : Nat) : List Tok := if zBt t k then tks t (k - 1) else tks t k
theorem lexF_len : ∀ (a : Nat) (s : Tx) (i : Nat), (lexF a s i).length ≤ a
 | 0, s, i => by simp [lexF]
 | a + 1, s, i => by
   simp only [lexF]
   split
   ·simp
   ·cases (step s i).2 with
    | none => have := lexF_len a (s.drop (step s i).1) (i + (step s i).1); simp only; omega
    | some f =>
      simp only
      split
      ·have := lexF_len a (s.drop (step s i).1) (i + (step s i).1); simp; omega
      ·simp
theorem lexR_len (t : Tx) : (lexR t).length ≤ t.length := lexF_len _ _ _
theorem lexF_ok : ∀ (a : Nat) (s : Tx) (i k : Nat) (f : Fo), (lexF a s i)[k]? = some f → k + 1 < (lexF a s i).length → f.err = 0
 | 0, s, i, k, f, h, hk => by simp [lexF] at hk
 | a + 1, s, i, k, f, h, hk => by
   simp only [lexF] at h hk
   split at h
   ·simp at h
   ·rename_i hne
    rw [if_neg hne] at hk
    cases hs : (step s i).2 with
    | none =>
      simp only [hs] at h hk
      exact lexF_ok a _ _ k f h hk
    | some g =>
      simp only [hs] at h hk
      split at h
      ·rename_i he
       rw [if_pos he] at hk
       cases k with
       | zero => simp at h; rw [← h]; exact he
       | succ k =>
         simp at h hk
         exact lexF_ok a _ _ k f h hk
      ·rename_i he
       rw [if_neg he] at hk
       simp at hk
theorem last_of {t : Tx} {k : Nat} {f : Fo} (h : (lexR t)[k]? = some f) (hk : k + 1 = (lexR t).length) : lastF t = f := by
 unfold lastF
 rw [List.getLast?_eq_getElem?, ← hk, Nat.add_sub_cancel, h]; rfl
theorem zE1 {t : Tx} (h : (lexR t) ≠ []) : isErr t = !((lastF t).err == 0) := by
 unfold isErr lastF
 cases hg : (lexR t).getLast? with
 | none => exact absurd (List.getLast?_eq_none_iff.1 hg) h
 | some f => rfl
theorem lexP_err {t : Tx} (h : isErr t = true) : lexP t = ([], (lastF t).err, (lastF t).tok.pos) := by
 have hne : lexR t ≠ [] := fun e => by simp [isErr, e] at h
 have he : (lastF t).err ≠ 0 := by rw [zE1 hne] at h; simpa using h
 have hb : bad (lexR t) = some (lastF t) := by
  unfold bad
  have hl : (lexR t).getLast? = some (lastF t) := by
   unfold lastF
   cases hg : (lexR t).getLast? with
   | none => exact absurd (List.getLast?_eq_none_iff.1 hg) hne
   | some f => rfl
  rw [List.find?_eq_some_iff_getElem]
  refine ⟨by simp [he], (lexR t).length - 1, by have := List.length_pos_iff.2 hne; omega, ?_, fun j hj => ?_⟩
  ·rw [List.getLast?_eq_getElem?] at hl
   rw [List.getElem?_eq_getElem (by have := List.length_pos_iff.2 hne; omega)] at hl
   exact Option.some.inj hl
  ·have := lexF_ok _ _ _ j (lexR t)[j] (List.getElem?_eq_getElem _) (by show j + 1 < (lexR t).length; omega)
   simp [this]
 unfold lexP
 rw [hb]
theorem lexP_ok {t : Tx} (h : isErr t = false) : lexP t = ((lexR t).map Fo.tok, 0, 0) := by
 have hb : bad (lexR t) = none := by
  unfold bad
  rw [List.find?_eq_none]
  intro f hf
  obtain ⟨k, hk, rfl⟩ := List.getElem_of_mem hf
  by_cases hl : k + 1 = (lexR t).length
  ·have h1 := last_of (List.getElem?_eq_getElem hk) hl
   have h2 := zE1 (t := t) (fun e => by rw [e] at hk; simp at hk)
   rw [h, h1] at h2
   simpa using h2.symm
  ·have := lexF_ok _ _ _ k (lexR t)[k] (List.getElem?_eq_getElem _) (by show k + 1 < (lexR t).length; omega)
   simp [this]
 unfold lexP
 rw [hb]
end Go.Proofs.YtkjnhkoipgdfeaaGreatDoor
end
section
set_option maxRecDepth 100000
set_option linter.unusedSimpArgs false
set_option linter.unusedVariables false
namespace Go.Proofs.YtkjnhkoipgdfeaaGreatDoor
open Go GoV Go.RowKit
theorem reg27 {C : Cfg} {f : Fo} {O : D} {tk : List Tv} {e : List D} (he1 : e[1]? = some (.ptr 0 0)) (he2 : e[2]? = some (.ptr 1 0)) (he3 : e[3]? = some (.ptr 2 0)) (he5 : e[5]? = some (.ptr 4 0)) (Q : Ex → St → Prop)
 (hQ : Q .normal ⟨e, [], ⟨[.cells [.lit (.slice none 0 0)], .cells [.int .i64 f.err], .cells [.int .i64 f.tok.pos], .cells [O], .cells f.cells], tk⟩⟩) :
 SWp C (.regD r21_7 r21_8) Q ⟨e, [], ⟨[.cells [.lit (.slice none 0 0)], .cells [.int .i64 0], .cells [.int .i64 0], .cells [O], .cells f.cells], tk⟩⟩ := by
 have still : ∀ i, i ≠ 6 → Still (fun E => (⟨[.cells [.lit (.slice none 0 0)], .cells [if E 6 then .int .i64 f.err else .int .i64 0], .cells [.int .i64 0], .cells [O], .cells f.cells], tk⟩ : Hp)) i := fun i h E _ => by
  have : (6 == i) = false := by rw [beq_eq_false_iff_ne]; omega
  simp [this]
 refine zA0 (fun E => ⟨[.cells [.lit (.slice none 0 0)], .cells [if E 6 then .int .i64 f.err else .int .i64 0], .cells [.int .i64 0], .cells [O], .cells f.cells], tk⟩) (by simp) ?_
 refine y_q (ds := [.ptr 4 0]) (.ptr 4 3) (by simp [go_sem, he5]) (still _ (by decide)) (fun _ => by simp [OcWp, zAa, isPan, opWp]) ?_
 refine y_c (ds := [.ptr 4 3]) (d := .int .i64 f.err) (by simp [go_sem]) (fun E hE => ?_) ?_
 ·simp [OcWp, zAa, isPan, opWp, Blk.csq]
 refine y_q (ds := [.ptr 4 0]) (.ptr 4 0) (by simp [go_sem, he5]) (still _ (by decide)) (fun _ => by simp [OcWp, zAa, isPan, opWp]) ?_
 refine y_q (ds := [.ptr 4 0]) (.ptr 4 2) (by simp [go_sem]) (still _ (by decide)) (fun _ => by simp [OcWp, zAa, isPan, opWp]) ?_
 refine y_c (ds := [.ptr 4 2]) (d := .int .i64 f.tok.pos) (by simp [go_sem]) (fun E hE => ?_) ?_
 ·simp [OcWp, zAa, isPan, opWp, Blk.csq]
 refine y_c (ds := [.ptr 0 0, .lit (.slice none 0 0)]) (d := .skip) (by simp [go_sem, he1]) (fun E hE => ?_) ?_
 ·simp [OcWp, zAa, isPan, opWp, Blk.csq, Blk.putc, D.iV, D.cells, setL]
 refine y_c (ds := [.ptr 1 0, .int .i64 f.err]) (d := .skip) (by simp [go_sem, he2]) (fun E hE => ?_) ?_
 ·have hE' : E 6 = false := hE
  simp [OcWp, zAa, isPan, opWp, hE', Blk.csq, Blk.putc, D.iV, D.cells, setL]
 refine y_end (hp' := ⟨[.cells [.lit (.slice none 0 0)], .cells [.int .i64 f.err], .cells [.int .i64 0], .cells [O], .cells f.cells], tk⟩) (by simp) ?_
 simp only [go_sem, he1, he2, he3, he5]
 simp [go_sem, he1, he2, he3, he5, setL, D.iV, D.cells, St.done]
 exact hQ
theorem rnL_app2 (β τ : Nat → Option Nat) : ∀ a b : List D, D.rnL β τ (a ++ b) = D.rnL β τ a ++ D.rnL β τ b
 | [], b => rfl
 | d :: a, b => by simp [D.rnL, rnL_app2 β τ a b]
set_option maxHeartbeats 2000000 in
theorem lex_p (t : Tx) (ht : t.length ≤ 4999) (hq : zD4 t) : Pur M 21 [.str t] (.tup [.slice (tokL (lexP t).1) .no, .int .i64 (lexP t).2.1, .int .i64 (lexP t).2.2]) := by
 refine oT21 rfl ?_
 rw [i21]
 unfold c21
 have h1 := tokens_p t
 have hit := toks_it t (by omega) hq
 have hrl : (rows t).length = (lexR t).length := by simp [rows]
 have hll := lexR_len t
 have hd0 : decide ((t.length : Int) > 20000) = false := by simp; omega
 have wQ := tw; repeat' (first | with_reducible (apply swq; constructor) | with_reducible apply twp_seq | with_reducible apply twp_block | ((with_reducible refine twp_reg ?hb ?_); (case hb => exact fun _ _ => trivial); with_reducible intro _) | ((with_reducible refine twp_cond ?hb ?_); (case hb => exact fun _ _ => trivial); with_reducible intro _) | simp only [go_sem, seval, P21, q21, hd0] | ((with_reducible refine zAb (h1) ?he ?hc ?_); (case he | hc => exact sc wQ)) | with_reducible intro _)
 all_goals try (exfalso; omega)
 refine twp_weak (fun _ => zCv 3 0 3 (by decide) rfl rfl) ?_
 have hs0 : ∀ k, k < (lexR t).length → zBt t k = false := fun k hk => by
  have : ¬ k = (lexR t).length := by omega
  simp [zBt, this]
 refine twp_rangeS (fun _ _ => trivial) hit (fun k => hpG (eK t k) (pK t k) (tK t k)) 4 1 (steadyG _ _ _) (fun r => steadyR _ _ _ r) ?hrow ?hstp rfl ?hlen ?h0 ?hr ?hd
 case hrow =>
  intro r hr
  obtain ⟨f, _, rfl⟩ := List.mem_map.1 hr
  simp [rowD, D.rnL, D.rn]
 case hstp =>
  intro h e
  have e2 : lexR t = [] := by simpa [rows] using e
  simp [isErr, e2] at h
 case hlen =>
  intro r hr
  obtain ⟨f, _, rfl⟩ := List.mem_map.1 hr
  rfl
 case h0 =>
  by_cases h : (lexR t).length = 0
  ·have e2 : lexR t = [] := List.length_eq_zero_iff.1 h
   have e3 : isErr t = false := by simp [isErr, e2]
   simp [eK, pK, tK, zBt, e3, tks, tokL, hpG]
  ·simp [eK, pK, tK, hs0 0 (by omega), tks, tokL, hpG]
 case hr =>
  intro k r hk
  have hkl : k < (lexR t).length := by rw [← hrl]; exact (List.getElem?_eq_some_iff.1 hk).1
  obtain ⟨f, hf, rfl⟩ : ∃ f, (lexR t)[k]? = some f ∧ rowD f = r := by
   have : (rows t)[k]? = some (rowD (lexR t)[k]) := by simp [rows, hkl]
   exact ⟨_, List.getElem?_eq_getElem hkl, Option.some.inj (this.symm.trans hk)⟩
  have z1 : eK t k = 0 := by simp [eK, hs0 k hkl]
  have z2 : pK t k = 0 := by simp [pK, hs0 k hkl]
  have z3 : tK t k = tks t k := by simp [tK, hs0 k hkl]
  have zl : (tks t k).length = k := by simp [tks]; omega
  simp only [z1, z2, z3, binds, rowD]
  by_cases he : f.err = 0
  ·have hns : zBt t (k + 1) = false := by
    by_cases hl : k + 1 = (lexR t).length
    ·have h2 := zE1 (t := t) (fun e => by rw [e] at hkl; simp at hkl)
     rw [last_of hf hl, he] at h2
     simp [zBt, h2]
    ·simp [zBt, hl]
   have y1 : yans (rows t) (isErr t) k = true := by
    have : (lexR t).drop k = f :: (lexR t).drop (k + 1) := by
     rw [List.drop_eq_getElem_cons hkl]; congr 1
     rw [List.getElem?_eq_getElem hkl] at hf; exact Option.some.inj hf
    exact yes_row this he
   have w1 : eK t (k + 1) = 0 := by simp [eK, hns]
   have w2 : pK t (k + 1) = 0 := by simp [pK, hns]
   have w3 : tK t (k + 1) = tks t k ++ [f.tok] := by
    simp only [tK, hns, Bool.false_eq_true, if_false, tks]
    rw [List.take_succ_eq_append_getElem hkl, List.map_append]
    rw [List.getElem?_eq_getElem hkl] at hf
    rw [Option.some.inj hf]; rfl
   rw [w1, w2, w3]
   have h0 : (f.err != 0) = false := by simp [he]
   have hT := zBy (tks t k)
   have hel := zBd (tks t k)
   have h5 : (((tks t k).length : Int) == 5000) = false := by rw [beq_eq_false_iff_ne]; omega
   have happ : tokL (tks t k ++ [f.tok]) = tokL (tks t k) ++ [f.tok.d] := by simp [tokL]
   generalize tks t k = T at *
   have wQ := And.intro @hT @hel; repeat' (first | with_reducible (apply swq; constructor) | simp only [go_sem, seval, P21, q21, h0, hT, h5] | ((with_reducible apply zEg); (case he => rfl); (case hK | hc | hr | hV => exact sd wQ)) | ((with_reducible apply s_bsl); (case he | hl | hc => exact sd wQ)) | ((with_reducible refine And.intro ?hw ?_); (case hw => exact sw wQ)) | with_reducible intro _)
   all_goals try (exfalso; omega)
   refine ⟨_, zAf, ?_⟩
   simp [Hp.cut, Blk.rnL, Blk.rn, Tv.rnL, Tv.rn, D.rnL, D.rn, zAc, cutF, Own.rn, happ, hpG, rnL_app2]
  ·have hkk : k + 1 = (lexR t).length := by
    rcases Nat.lt_or_ge (k + 1) (lexR t).length with q | q
    ·exact absurd (lexF_ok _ _ _ k f hf q) he
    ·omega
   have hlast := last_of hf hkk
   have hE : isErr t = true := by
    rw [zE1 (t := t) (fun e => by rw [e] at hkl; simp at hkl), hlast]; simp [he]
   have hns : zBt t (k + 1) = true := by simp [zBt, hkk, hE]
   have y1 : yans (rows t) (isErr t) k = false := by simp [yans, hE, hrl, hkk]
   have w1 : eK t (k + 1) = f.err := by simp [eK, hns, hlast]
   have w2 : pK t (k + 1) = f.tok.pos := by simp [pK, hns, hlast]
   have w3 : tK t (k + 1) = tks t k := by simp [tK, hns]
   rw [w1, w2, w3]
   have h0 : (f.err != 0) = true := by simp [he]
   generalize tks t k = T at *
   obtain ⟨RA, hRA⟩ : ∃ R, R = (RC.regD r21_7 r21_8) := ⟨_, rfl⟩
   rw [← hRA]
   repeat' (first | with_reducible (apply swq; constructor) | simp only [go_sem, seval, P21, q21, h0] | with_reducible intro _)
   all_goals try (exfalso; omega)
   subst hRA
   refine reg27 rfl rfl rfl rfl _ ?_
   have wQ := tw; repeat' (first | with_reducible (apply swq; constructor) | simp only [go_sem, seval, P21, q21] | ((with_reducible refine And.intro ?hw ?_); (case hw => exact sw wQ)) | with_reducible intro _)
   refine ⟨_, zAf, ?_⟩
   simp [Hp.cut, Blk.rnL, Blk.rn, Tv.rnL, Tv.rn, D.rnL, D.rn, zAc, cutF, Own.rn, hpG]
 case hd =>
  intro o
  rw [hrl]
  cases hE : isErr t
  ·rw [lexP_ok hE]
   have hns : zBt t (lexR t).length = false := by simp [zBt, hE]
   have w1 : eK t (lexR t).length = 0 := by simp [eK, hns]
   have w2 : pK t (lexR t).length = 0 := by simp [pK, hns]
   have w3 : tK t (lexR t).length = (lexR t).map Fo.tok := by simp [tK, hns, tks]
   rw [w1, w2, w3]
   simp only [Bool.false_eq_true, if_false]
   generalize (lexR t).map Fo.tok = T at *
   have hel := zBd T
   have her := zFg T
   have hcl := zDr T
   generalize tokL T = LT at *
   repeat' (first | with_reducible (apply swq; constructor) | with_reducible apply twp_seq | ((with_reducible refine twp_reg ?hb ?_); (case hb => exact fun _ _ => trivial); with_reducible intro _) | ((with_reducible refine twp_ret ?hb ?_); (case hb => exact fun _ _ => trivial)) | simp only [go_sem, seval, P21, q21] | with_reducible intro _)
   refine ⟨_, fun _ => zAf, ?_⟩
   simp [D.closed, D.er, D.cL, D.erL, hcl, her, go_sem, setL]
  ·rw [lexP_err hE]
   have hne : lexR t ≠ [] := fun e => by simp [isErr, e] at hE
   have hns : zBt t (lexR t).length = true := by simp [zBt, hE]
   have w1 : eK t (lexR t).length = (lastF t).err := by simp [eK, hns]
   have w2 : pK t (lexR t).length = (lastF t).tok.pos := by simp [pK, hns]
   rw [w1, w2]
   simp only [if_true]
   refine ⟨trivial, _, fun _ => zCv 0 0 1 (by decide) rfl rfl, ?_⟩
   simp [go_sem, D.closed, D.cL, D.er, D.erL, tokL]
end Go.Proofs.YtkjnhkoipgdfeaaGreatDoor
end
section
set_option maxRecDepth 100000
set_option linter.unusedSimpArgs false
set_option linter.unusedVariables false
namespace Go.Proofs.YtkjnhkoipgdfeaaGreatDoor
open Go GoV Go.RowKit
def numOk (s : Tx) : Prop := s ≠ [] ∧ s.all isDig = true ∧ s.length ≤ 7
def GoodT (l : List Tok) : Prop := ∀ t ∈ l, t.kind = 2 → numOk t.text
theorem GoodT.suf {l r : List Tok} (h : GoodT l) (hs : r <:+ l) : GoodT r := fun t ht => h t (hs.subset ht)
def OpOk (f : FuncId) (op : List Tok → PR) (en : Int) (N : Nat) : Prop := ∀ l g r, l.length ≤ N → GoodT l → op l = .ok g r →
 (Eff M f [.ptr 0 0] (hpP l en) fun d hp => d = g.d ∧ hp = hpP r en) ∧ r.length < l.length ∧ r <:+ l
theorem zBh {k : Int} {ws : List Tx} {l : List Tok} {i : Nat} (h : gotN k ws l = some i) : ∃ t r, l = t :: r ∧ gotI k ws l = i ∧ gotR k ws l = r ∧ i < ws.length ∧ t.kind = k ∧ t.text = ws.getD i [] := by
 cases l with
 | nil => simp [gotN] at h
 | cons t r =>
   refine ⟨t, r, rfl, by simp [gotI, h], by simp [gotR, h], ?_⟩
   simp only [gotN] at h
   split at h
   ·rename_i hk
    rw [List.findIdx?_eq_some_iff_getElem] at h
    obtain ⟨h1, h2, _⟩ := h
    refine ⟨h1, hk, ?_⟩
    have := eq_of_beq h2
    simp [List.getD, h1, this]
   ·cases h
theorem zDm {k : Int} {ws : List Tx} {l : List Tok} (h : gotN k ws l = none) : gotI k ws l = -1 ∧ gotR k ws l = l := by simp [gotI, gotR, h]
theorem reg45 {C : Cfg} {F0 : FuncId} {g g' : F} {lt r' : List Tok} {en first : Int} {i : Nat} (hf : -1000 ≤ first) (hf2 : first ≤ 1000) (hi : i ≤ 10) {e : List D}
 (he1 : e[1]? = some (.int .i64 first)) (he2 : e[2]? = some (.fn (.func F0) [.ptr 0 0] [])) (he5 : e[5]? = some (.ptr 2 0)) (he6 : e[6]? = some (.int .i64 (i : Nat)))
 (hc : Eff C.M F0 [.ptr 0 0] (hpP lt en) fun d hp => d = g'.d ∧ hp = hpP r' en) (Q : Ex → St → Prop)
 (hQ : ∃ s1, Weak C ⟨e, [], ⟨[.cells [.slice (tokL r') .no, .int .i64 en], .cells [.int .i64 0, .int .i64 0, .lit (.slice none 0 0)], .cells [.int .i64 (first + i), .int .i64 0, .slice [g.d, g'.d] .full]], []⟩⟩ s1 ∧ Q .normal s1) :
 SWp C (.regD r43_5 r43_6) Q ⟨e, [], ⟨[.cells [.slice (tokL lt) .no, .int .i64 en], .cells [.int .i64 0, .int .i64 0, .lit (.slice none 0 0)], .cells g.cells], []⟩⟩ := by
 refine zCq (Q := fun x s' => x = .normal ∧ s' = ⟨e, [], ⟨[.cells [.slice (tokL r') .no, .int .i64 en], .cells [.int .i64 0, .int .i64 0, .lit (.slice none 0 0)], .cells [.int .i64 (first + i), .int .i64 0, .slice [g.d, g'.d] .full]], []⟩⟩) ?_ (fun x s' hx => by
  obtain ⟨rfl, rfl⟩ := hx; exact hQ)
 obtain ⟨F, hF⟩ : ∃ F : (Nat → Bool) → Hp, F = fun E => ⟨[if E 5 then .cells [.slice (tokL r') .no, .int .i64 en] else .cells [.slice (tokL lt) .no, .int .i64 en], .cells [.int .i64 0, .int .i64 0, .lit (.slice none 0 0)], .cells g.cells], []⟩ := ⟨_, rfl⟩
 have still : ∀ i, i ≠ 5 → Still F i := fun i h E _ => by
  have : (5 == i) = false := by rw [beq_eq_false_iff_ne]; omega
  simp [hF, this]
 have hgd := g.d_eq
 have hgd' := g'.d_eq
 refine zA0 F (by simp [hF]) ?_
 refine y_q (ds := [.int .i64 first]) (.int .i64 first) (by simp [go_sem, he1]) (still _ (by decide)) (fun _ => by simp [OcWp, zAa, isPan, opWp]) ?_
 refine y_q (ds := [.int .i64 (i : Nat)]) (.int .i64 (i : Nat)) (by simp [go_sem, he6]) (still _ (by decide)) (fun _ => by simp [OcWp, zAa, isPan, opWp]) ?_
 refine y_q (ds := [.int .i64 first, .int .i64 (i : Nat)]) (.int .i64 (first + i)) (by simp [go_sem]) (still _ (by decide)) (fun _ => by
  simp only [OcWp, zAa, isPan, opWp, binWp, Bool.false_eq_true, if_false]
  rw [w64 (by omega) (by omega)]; simp) ?_
 refine y_c (ds := [.ptr 2 0]) (d := .agg g.cells) (by simp [go_sem, he5]) (fun E hE => ?_) ?_
 ·rw [still 3 (by decide) E hE]; simp [hF, OcWp, zAa, isPan, opWp, Blk.csq]
 refine y_q (ds := [.fn (.func F0) [.ptr 0 0] []]) (.fn (.func F0) [.ptr 0 0] []) (by simp [go_sem, he2]) (still _ (by decide)) (fun _ => by simp [OcWp, zAa, isPan, opWp]) ?_
 refine y_c (ds := [.fn (.func F0) [.ptr 0 0] []]) (d := g'.d) (by simp [go_sem]) (fun E hE => ?_) ?_
 ·have hE' : E 5 = false := hE
  simp only [OcWp, zAa, isPan, if_true]
  refine zD3 [0] [] hc ⟨by simp, by simp, by simp [hF], by simp⟩ (by simp [D.rnL, D.rn, posF, idx]) (by simp [hF, hE', hpP, Hp.sel, Blk.rnL, Blk.rn, Tv.rnL, D.rnL, D.rn, zAc, Own.rn]) ?_
  rintro d hp1 ⟨rfl, rfl⟩
  refine ⟨rn_F _ _ _, ?_⟩
  simp [hF, hE', hpP, Hp.back, putAt, Blk.rnL, Blk.rn, Tv.rnL, D.rnL, D.rn, zAc, Own.rn]
 have hva := zD5 g
 have hvb := zD5 g'
 have hca := cl_F g
 have hcb := cl_F g'
 refine y_q (ds := [.agg g.cells, g'.d]) (.slice [g.d, g'.d] .full) (by simp [go_sem]) (still _ (by decide)) (fun _ => by
  rw [← hgd]
  simp [OcWp, zAa, isPan, opWp, zAk, hva, hvb, D.cL, hca, hcb, D.erL, er_F]) ?_
 refine y_end (hp' := ⟨[.cells [.slice (tokL r') .no, .int .i64 en], .cells [.int .i64 0, .int .i64 0, .lit (.slice none 0 0)], .cells g.cells], []⟩) (by simp [hF]) ?_
 simp only [go_sem, he1, he2, he5, he6]
 simp [go_sem, he1, he2, he5, he6, setL, D.iV, D.cells, St.done, fillL]
set_option maxHeartbeats 2000000 in
theorem chain_e {F0 : FuncId} {op : List Tok → PR} {en : Int} {N : Nat} (hop : OpOk F0 op en N) (hN : N ≤ 100000) (first : Int) (hf : -1000 ≤ first) (hf2 : first ≤ 1000) (a b : Tx) : ∀ l g r, l.length ≤ N → GoodT l → zFb op first a b l = .ok g r →
 (Eff M 43 [.ptr 0 0, .int .i64 first, .fn (.func F0) [.ptr 0 0] [], .slice (strs [a, b]) .full] (hpP l en) fun d hp => d = g.d ∧ hp = hpP r en) ∧ r.length < l.length ∧ r <:+ l := by
 intro l g r hl hG hch
 unfold zFb thenP at hch
 cases hol : op l with
 | no e p => rw [hol] at hch; cases hch
 | ok f0 r0 =>
   rw [hol] at hch
   simp only at hch
   obtain ⟨c0, hr0, hs0⟩ := hop l f0 r0 hl hG hol
   have key : ∀ k f l', loopP op first a b k f l' = .ok g r → l'.length ≤ k → l'.length ≤ N → GoodT l' → r.length ≤ l'.length ∧ r <:+ l' := by
    intro k
    induction k with
    | zero => intro f l' h _ _ _; simp only [loopP] at h; cases h; exact ⟨Nat.le_refl _, List.suffix_refl _⟩
    | succ k ih =>
      intro f l' h hk hN' hG'
      simp only [loopP] at h
      cases hgn : gotN 4 [a, b] l' with
      | none => rw [hgn] at h; cases h; exact ⟨Nat.le_refl _, List.suffix_refl _⟩
      | some i =>
        rw [hgn] at h
        obtain ⟨t, lt, rfl, _⟩ := zBh hgn
        simp only [List.tail_cons, thenP] at h
        cases ho2 : op lt with
        | no e p => rw [ho2] at h; cases h
        | ok f2 r2 =>
          rw [ho2] at h
          simp only [List.length_cons] at hk hN'
          obtain ⟨_, q1, q2⟩ := hop lt f2 r2 (by omega) (hG'.suf (List.suffix_cons _ _)) ho2
          obtain ⟨q3, q4⟩ := ih _ _ h (by omega) (by omega) (hG'.suf (q2.trans (List.suffix_cons _ _)))
          exact ⟨by simp; omega, q4.trans (q2.trans (List.suffix_cons _ _))⟩
   obtain ⟨kl, ks⟩ := key _ _ _ hch (Nat.le_refl _) (by omega) (hG.suf hs0)
   refine ⟨?_, by omega, ks.trans hs0⟩
   refine zB6 1 0 (Nat.le_refl _) (Nat.le_refl _) (fun β τ => rn_F β τ g) ?_
   refine k43.oe 1 0 rfl rfl rfl ?_
   rw [ie43]
   unfold c43
   have e3 : strs [a, b] = [.str a, .str b] := rfl
   have hfd := f0.d_eq
   have hrn := fun β τ => rnL_F β τ f0.kids
   rw [hfd] at c0
   obtain ⟨RA, hRA⟩ : ∃ R, R = (RC.regD r43_5 r43_6) := ⟨_, rfl⟩
   rw [← hRA]
   unfold hpP at c0 ⊢
   have wQ := And.intro @zAc @hrn; repeat' (first | with_reducible (apply swq; constructor) | simp only [go_sem, seval, pe43, q43, e3] | ((with_reducible refine o_eff [0] [] (c0) ?hs ?he ?hh ?_); (case hs => exact so); (case he | hh => exact sh wQ); try rintro _ _ ⟨rfl, rfl⟩) | with_reducible intro _)
   refine zAu [0, 1, 2, 3, 4, 5] (fun x : F × List Tok × Nat => ⟨[.ptr 0 0, .int .i64 first, .fn (.func F0) [.ptr 0 0] [], .slice (strs [a, b]) .full, .ptr 1 0, .ptr 2 0, .u0, .u0], [], ⟨[.cells [.slice (tokL x.2.1) .no, .int .i64 en], .cells [.int .i64 0, .int .i64 0, .lit (.slice none 0 0)], .cells x.1.cells], []⟩⟩)
    (fun x => loopP op first a b x.2.2 x.1 x.2.1 = .ok g r ∧ x.2.1.length ≤ x.2.2 ∧ x.2.1.length ≤ N ∧ GoodT x.2.1) (fun x => x.2.2) (f0, r0, r0.length) ⟨hch, Nat.le_refl _, by simp only; omega, hG.suf hs0⟩ ?_ ?_
   ·simp [keepE, St.keep, e3]
   ·rintro ⟨f, l', k⟩ ⟨h1, h2, h3, h4⟩
    simp only at h1 h2 h3 h4 ⊢
    have c1 := got_e 4 [a, b] (by simp) l' (by omega) en
    rw [e3] at c1 ⊢
    have hrn2 := fun β τ => rnL_F β τ f.kids
    have hcl := zAd f.kids
    have her := erL_F f.kids
    cases hgn : gotN 4 [a, b] l' with
    | none =>
      obtain ⟨n1, n2⟩ := zDm hgn
      rw [n1, n2] at c1
      have : f = g ∧ l' = r := by
       cases k with
       | zero => simp only [loopP] at h1; cases h1; exact ⟨rfl, rfl⟩
       | succ k => simp only [loopP, hgn] at h1; cases h1; exact ⟨rfl, rfl⟩
      obtain ⟨rfl, rfl⟩ := this
      rw [F.d_eq]
      unfold hpP at c1
      have wQ := And.intro @zAc @hrn2; repeat' (first | with_reducible (apply swq; constructor) | simp only [go_sem, seval, pe43, q43] | ((with_reducible refine o_eff [0] [] (c1) ?hs ?he ?hh ?_); (case hs => exact so); (case he | hh => exact sh wQ); try rintro _ _ ⟨rfl, rfl⟩) | with_reducible intro _)
      refine ⟨_, zAf, ?_⟩
      simp [D.closed, D.er, D.cL, D.erL, hcl, RcS, Hp.cut, Blk.rnL, Blk.rn, Tv.rnL, D.rnL, D.rn, zAc, Own.rn]
    | some i =>
      obtain ⟨t, lt, rfl, n1, n2, n3, n4, n5⟩ := zBh hgn
      rw [n1, n2] at c1
      obtain ⟨k, rfl⟩ : ∃ k', k = k' + 1 := ⟨k - 1, by simp only [List.length_cons] at h2; omega⟩
      simp only [loopP, hgn, List.tail_cons, thenP] at h1
      cases ho2 : op lt with
      | no e p => rw [ho2] at h1; cases h1
      | ok f2 r2 =>
        rw [ho2] at h1
        simp only at h1
        simp only [List.length_cons] at h2 h3
        obtain ⟨c2, q1, q2⟩ := hop lt f2 r2 (by omega) (h4.suf (List.suffix_cons _ _)) ho2
        have hd : decide ((i : Int) < 0) = false := by simp
        have c2' : Eff (E43 1 0).M F0 [.ptr 0 0] (hpP lt en) fun d hp => d = f2.d ∧ hp = hpP r2 en := by rw [pe43]; exact c2
        unfold hpP at c1
        have wQ := And.intro @zAc @hrn2; repeat' (first | with_reducible (apply swq; constructor) | simp only [go_sem, seval, pe43, q43, hd] | ((with_reducible refine o_eff [0] [] (c1) ?hs ?he ?hh ?_); (case hs => exact so); (case he | hh => exact sh wQ); try rintro _ _ ⟨rfl, rfl⟩) | with_reducible intro _)
        subst hRA
        refine reg45 hf hf2 (by simp at n3; omega) rfl rfl rfl rfl c2' _ ?_
        refine ⟨_, zEs 2 rfl ?_, ?_⟩
        ·simp [D.cL, D.closed, cl_F]
        ·refine ⟨(.mk (first + i) 0 [f, f2], r2, k), ⟨h1, by simp only; omega, by simp only; omega, h4.suf (q2.trans (List.suffix_cons _ _))⟩, by simp only; omega, ?_⟩
         simp [keepE, St.keep, F.cells, F.op, F.num, F.kids, D.erL, D.er]
end Go.Proofs.YtkjnhkoipgdfeaaGreatDoor
end
section
set_option maxRecDepth 100000
set_option linter.unusedSimpArgs false
set_option linter.unusedVariables false
namespace Go.Proofs.YtkjnhkoipgdfeaaGreatDoor
open Go GoV Go.RowKit
theorem eff_nn {M : Mod} {f : FuncId} {args : List D} {hp hp1 : Hp} {d0 : D} (h : Eff M f args hp fun d h => d = d0 ∧ h = hp1) : Eff M f args hp fun d h => d = d0.nn ∧ h = hp1 := by
 refine ⟨h.1, fun w g xs hA hH hargs => (h.2 w g xs hA hH hargs).mono fun e w' hp => ?_⟩
 obtain ⟨v, d, hp', g', rfl, ⟨rfl, h3⟩, h4, h5⟩ := hp
 exact ⟨v, _, hp', g', rfl, ⟨rfl, h3⟩, h4, Rel.nn _ h5⟩
theorem decFrom_dig : ∀ (s : Tx) (acc : Nat), s.all isDig = true → ∃ n : Nat, Lib.decFrom acc s = some n ∧ (n : Int) = s.foldl (fun n c => 10 * n + ((c.toNat : Int) - 48)) (acc : Int)
 | [], acc, _ => ⟨acc, rfl, rfl⟩
 | c :: s, acc, h => by
   simp only [List.all_cons, Bool.and_eq_true] at h
   have hc : 48 ≤ c.toNat ∧ c.toNat ≤ 57 := by have := h.1; unfold isDig at this; exact of_decide_eq_true this
   obtain ⟨n, h1, h2⟩ := decFrom_dig s (acc * 10 + (c.toNat - 48)) h.2
   refine ⟨n, ?_, ?_⟩
   ·simp only [Lib.decFrom, Lib.digitVal, if_pos hc]; exact h1
   ·rw [h2, List.foldl_cons]; congr 1; omega
theorem atoi_dig {s : Tx} (h : numOk s) : Lib.atoi s = some (digs s) := by
 obtain ⟨h1, h2, h3⟩ := h
 obtain ⟨n, e1, e2⟩ := decFrom_dig s 0 h2
 cases s with
 | nil => exact absurd rfl h1
 | cons c r =>
   have hc : 48 ≤ c.toNat ∧ c.toNat ≤ 57 := by
    simp only [List.all_cons, Bool.and_eq_true] at h2
    have := h2.1; unfold isDig at this; exact of_decide_eq_true this
   have n1 : (c == 45) = false := by rw [beq_eq_false_iff_ne]; rintro rfl; simp at hc
   have n2 : (c == 43) = false := by rw [beq_eq_false_iff_ne]; rintro rfl; simp at hc
   simp only [Lib.atoi, n1, n2, Bool.false_eq_true, if_false, Lib.decNat, List.isEmpty_cons, e1, Option.map_some]
   unfold digs
   rw [e2]; rfl
theorem digs_rng {s : Tx} (h : numOk s) : 0 ≤ digs s ∧ digs s ≤ 9999999 := by
 obtain ⟨h1, h2, h3⟩ := h
 have key : ∀ (s : Tx) (acc : Int), 0 ≤ acc → s.all isDig = true → 0 ≤ s.foldl (fun n c => 10 * n + ((c.toNat : Int) - 48)) acc ∧ s.foldl (fun n c => 10 * n + ((c.toNat : Int) - 48)) acc < (acc + 1) * 10 ^ s.length := by
  intro s
  induction s with
  | nil => intro acc h0 _; simp; omega
  | cons c s ih =>
    intro acc h0 h
    simp only [List.all_cons, Bool.and_eq_true] at h
    have hc : 48 ≤ c.toNat ∧ c.toNat ≤ 57 := by have := h.1; unfold isDig at this; exact of_decide_eq_true this
    obtain ⟨q1, q2⟩ := ih (10 * acc + ((c.toNat : Int) - 48)) (by omega) h.2
    simp only [List.foldl_cons, List.length_cons]
    refine ⟨q1, Int.lt_of_lt_of_le q2 ?_⟩
    rw [Int.pow_succ, Int.mul_comm (10 ^ s.length) 10, ← Int.mul_assoc]
    exact Int.mul_le_mul_of_nonneg_right (by omega) (Int.pow_nonneg (by omega))
 obtain ⟨q1, q2⟩ := key s 0 (by omega) h2
 refine ⟨q1, ?_⟩
 have h7 : (10 : Nat) ^ s.length ≤ 10 ^ 7 := Nat.pow_le_pow_right (by omega) h3
 have h8 : ((10 : Int) ^ s.length) = ((10 ^ s.length : Nat) : Int) := by simp
 rw [h8] at q2
 generalize 10 ^ s.length = z at *
 unfold digs
 omega
theorem atoi_p (s : Tx) (hs : numOk s) : Pur M 78 [.str s] (.tup [.int .i64 (digs s), .u0]) := by
 have hsz : (⟨s.toArray⟩ : ByteArray).size = s.length := by simp [ByteArray.size]
 refine pur_extM (vs := [.string ⟨s.toArray⟩]) ⟨Tryz.f78, Tryz.func78, rfl, rfl⟩ (fun w g xs h => ?_) (fun w hA => ?_)
 ·obtain ⟨x, xs', rfl, g1, g2⟩ := h.inv
  simp only [Rel] at g1
  rw [g2.inv_nil, g1]
 ·have same : ∀ {w' : World}, Below w.heap.size w w' → ∀ y : Value, Below w.heap.size w w' ∧ ∀ I : Nat → Nat → Prop, ∃ I' : Nat → Nat → Prop, (∀ b o, I b o → I' b o) ∧ (∀ b o, I' b o → I b o ∨ (w.heap.size ≤ b ∧ b < w'.heap.size)) ∧ Rel w' ⟨[], [], I'⟩ (.tup [.int .i64 (digs s), .u0]) (.tuple #[.int .i64 (digs s), y]) := by
   intro w' hb y
   refine ⟨hb, fun I => ⟨I, fun _ _ h => h, fun _ _ h => .inl h, ?_⟩⟩
   simp only [Rel]
   exact ⟨_, rfl, RelL.cons (by simp [Rel]) (RelL.one (by simp [Rel]))⟩
  refine (Tryz.strconv_Atoi ⟨s.toArray⟩ (digs s) (by rw [hsz]; have := hs.2.2; omega) (by simpa using atoi_dig hs) w).mono fun e w' hh => ?_
  obtain ⟨rfl, t, rfl⟩ := hh
  exact ⟨_, rfl, same (Lib.bytesWorld_below w 5 t) _⟩
def kidsD (fs : List F) : List D := fs.map F.d
theorem zA3 (fs : List F) (g : F) : kidsD (fs ++ [g]) = kidsD fs ++ [.agg g.cells] := by simp [kidsD, F.d_eq]
theorem zB4 (fs : List F) : (kidsD fs).length = fs.length := by simp [kidsD]
theorem zBf : ∀ fs : List F, zAk 3 (kidsD fs) = true
 | [] => rfl
 | f :: fs => by have := zBf fs; have hv := zD5 f; simp_all [kidsD, zAk]
theorem reg54_12 {op0 en : Int} {fs : List F} {l' r' : List Tok} {g : F} {R : List D} (hfs : fs.length ≤ 100) {e : List D} (he0 : e[0]? = some (.ptr 0 0)) (he5 : e[5]? = some (.ptr 2 0))
 (hc : Eff M 23 [.ptr 0 0] (hpP l' en) fun d hp => d = g.d ∧ hp = hpP r' en) (Q : Ex → St → Prop)
 (hQ : Q .normal ⟨e, [], ⟨[.cells [.slice (tokL r') .no, .int .i64 en], .cells R, .cells [.int .i64 op0, .int .i64 0, .slice (kidsD (fs ++ [g])) (.tok 0)]], [.per 3 (fs.length + 1)]⟩⟩) :
 SWp (E66 1 0) (.regD r66_12 r66_13) Q ⟨e, [], ⟨[.cells [.slice (tokL l') .no, .int .i64 en], .cells R, .cells [.int .i64 op0, .int .i64 0, .slice (kidsD fs) (.tok 0)]], [.per 3 fs.length]⟩⟩ := by
 have hgd := g.d_eq
 have he5b : e[5]?.getD .u0 = .ptr 2 0 := by rw [he5]; rfl
 have he5c : e.getD 5 .u0 = .ptr 2 0 := by simp [he5]
 obtain ⟨F, hF⟩ : ∃ F : (Nat → Bool) → Hp, F = fun E => ⟨[if E 3 then .cells [.slice (tokL r') .no, .int .i64 en] else .cells [.slice (tokL l') .no, .int .i64 en], .cells R, .cells [.int .i64 op0, .int .i64 0, .slice (kidsD fs) (.tok 0)]], [.per 3 fs.length]⟩ := ⟨_, rfl⟩
 have still : ∀ i, i ≠ 3 → Still F i := fun i h E _ => by
  have : (3 == i) = false := by rw [beq_eq_false_iff_ne]; omega
  simp [hF, this]
 refine zA0 F (by simp [hF]) ?_
 rw [pe66]
 refine y_q (ds := [.ptr 2 0]) (.ptr 2 2) (by simp [go_sem, he5]) (still _ (by decide)) (fun _ => by simp [OcWp, zAa, isPan, opWp]) ?_
 refine y_c (ds := [.ptr 2 2]) (d := .slice (kidsD fs) (.tok 0)) (by simp [go_sem]) (fun E hE => ?_) ?_
 ·rw [still 1 (by decide) E hE]; simp [hF, OcWp, zAa, isPan, opWp, Blk.csq]
 refine y_q (ds := [.ptr 0 0]) (.ptr 0 0) (by simp [go_sem, he0]) (still _ (by decide)) (fun _ => by simp [OcWp, zAa, isPan, opWp]) ?_
 refine y_c (ds := [.fn (.func 23) [] [], .ptr 0 0]) (d := g.d) (by simp [go_sem]) (fun E hE => ?_) ?_
 ·have hE' : E 3 = false := hE
  simp only [OcWp, zAa, isPan, if_true]
  refine zD3 [0] [] hc ⟨by simp, by simp, by simp [hF], by simp⟩ (by simp [D.rnL, D.rn, posF, idx]) (by simp [hF, hE', hpP, Hp.sel, Blk.rnL, Blk.rn, Tv.rnL, D.rnL, D.rn, zAc, Own.rn]) ?_
  rintro d hp1 ⟨rfl, rfl⟩
  refine ⟨rn_F _ _ _, ?_⟩
  simp [hF, hE', hpP, Hp.back, putAt, Blk.rnL, Blk.rn, Tv.rnL, D.rnL, D.rn, zAc, Own.rn]
 have hva := zD5 g
 have hca := cl_F g
 refine y_q (ds := [g.d]) (.slice [.agg g.cells] .full) (by simp [go_sem]) (still _ (by decide)) (fun _ => by
  rw [← hgd]
  simp [OcWp, zAa, isPan, opWp, zAk, hva, D.cL, hca, D.erL, er_F]) ?_
 refine y_end (hp' := ⟨[.cells [.slice (tokL r') .no, .int .i64 en], .cells R, .cells [.int .i64 op0, .int .i64 0, .slice (kidsD fs) (.tok 0)]], [.per 3 fs.length]⟩) (by simp [hF]) ?_
 have hkl := zB4 fs
 have hel := zBf fs
 have hck := zAd g.kids
 have hek := erL_F g.kids
 have wQ := And.intro @hkl (And.intro @hel (And.intro @hck (And.intro @hek @zA3))); repeat' (first | with_reducible (apply swq; constructor) | simp only [go_sem, seval, pe66, q66, he5b, he5c, hkl, zA3] | ((with_reducible apply zEg); (case he => rfl); (case hK | hc | hr | hV => exact sd wQ)) | with_reducible intro _)
 all_goals try (exfalso; omega)
 all_goals simpa [zA3, setL, St.done] using hQ
theorem reg54_17 {op0 en : Int} {fs : List F} {l' r' : List Tok} {g : F} {R : List D} (hfs : fs.length ≤ 100) {e : List D} (he0 : e[0]? = some (.ptr 0 0)) (he5 : e[5]? = some (.ptr 2 0))
 (hc : Eff M 23 [.ptr 0 0] (hpP l' en) fun d hp => d = g.d ∧ hp = hpP r' en) (Q : Ex → St → Prop)
 (hQ : Q .normal ⟨e, [], ⟨[.cells [.slice (tokL r') .no, .int .i64 en], .cells R, .cells [.int .i64 op0, .int .i64 0, .slice (kidsD (fs ++ [g])) (.tok 0)]], [.per 3 (fs.length + 1)]⟩⟩) :
 SWp (E66 1 0) (.regD r66_17 r66_18) Q ⟨e, [], ⟨[.cells [.slice (tokL l') .no, .int .i64 en], .cells R, .cells [.int .i64 op0, .int .i64 0, .slice (kidsD fs) (.tok 0)]], [.per 3 fs.length]⟩⟩ := by
 have hgd := g.d_eq
 have he5b : e[5]?.getD .u0 = .ptr 2 0 := by rw [he5]; rfl
 have he5c : e.getD 5 .u0 = .ptr 2 0 := by simp [he5]
 obtain ⟨F, hF⟩ : ∃ F : (Nat → Bool) → Hp, F = fun E => ⟨[if E 3 then .cells [.slice (tokL r') .no, .int .i64 en] else .cells [.slice (tokL l') .no, .int .i64 en], .cells R, .cells [.int .i64 op0, .int .i64 0, .slice (kidsD fs) (.tok 0)]], [.per 3 fs.length]⟩ := ⟨_, rfl⟩
 have still : ∀ i, i ≠ 3 → Still F i := fun i h E _ => by
  have : (3 == i) = false := by rw [beq_eq_false_iff_ne]; omega
  simp [hF, this]
 refine zA0 F (by simp [hF]) ?_
 rw [pe66]
 refine y_q (ds := [.ptr 2 0]) (.ptr 2 2) (by simp [go_sem, he5]) (still _ (by decide)) (fun _ => by simp [OcWp, zAa, isPan, opWp]) ?_
 refine y_c (ds := [.ptr 2 2]) (d := .slice (kidsD fs) (.tok 0)) (by simp [go_sem]) (fun E hE => ?_) ?_
 ·rw [still 1 (by decide) E hE]; simp [hF, OcWp, zAa, isPan, opWp, Blk.csq]
 refine y_q (ds := [.ptr 0 0]) (.ptr 0 0) (by simp [go_sem, he0]) (still _ (by decide)) (fun _ => by simp [OcWp, zAa, isPan, opWp]) ?_
 refine y_c (ds := [.fn (.func 23) [] [], .ptr 0 0]) (d := g.d) (by simp [go_sem]) (fun E hE => ?_) ?_
 ·have hE' : E 3 = false := hE
  simp only [OcWp, zAa, isPan, if_true]
  refine zD3 [0] [] hc ⟨by simp, by simp, by simp [hF], by simp⟩ (by simp [D.rnL, D.rn, posF, idx]) (by simp [hF, hE', hpP, Hp.sel, Blk.rnL, Blk.rn, Tv.rnL, D.rnL, D.rn, zAc, Own.rn]) ?_
  rintro d hp1 ⟨rfl, rfl⟩
  refine ⟨rn_F _ _ _, ?_⟩
  simp [hF, hE', hpP, Hp.back, putAt, Blk.rnL, Blk.rn, Tv.rnL, D.rnL, D.rn, zAc, Own.rn]
 have hva := zD5 g
 have hca := cl_F g
 refine y_q (ds := [g.d]) (.slice [.agg g.cells] .full) (by simp [go_sem]) (still _ (by decide)) (fun _ => by
  rw [← hgd]
  simp [OcWp, zAa, isPan, opWp, zAk, hva, D.cL, hca, D.erL, er_F]) ?_
 refine y_end (hp' := ⟨[.cells [.slice (tokL r') .no, .int .i64 en], .cells R, .cells [.int .i64 op0, .int .i64 0, .slice (kidsD fs) (.tok 0)]], [.per 3 fs.length]⟩) (by simp [hF]) ?_
 have hkl := zB4 fs
 have hel := zBf fs
 have hck := zAd g.kids
 have hek := erL_F g.kids
 have wQ := And.intro @hkl (And.intro @hel (And.intro @hck (And.intro @hek @zA3))); repeat' (first | with_reducible (apply swq; constructor) | simp only [go_sem, seval, pe66, q66, he5b, he5c, hkl, zA3] | ((with_reducible apply zEg); (case he => rfl); (case hK | hc | hr | hV => exact sd wQ)) | with_reducible intro _)
 all_goals try (exfalso; omega)
 all_goals simpa [zA3, setL, St.done] using hQ
end Go.Proofs.YtkjnhkoipgdfeaaGreatDoor
end
section
set_option maxRecDepth 100000
set_option linter.unusedSimpArgs false
set_option linter.unusedVariables false
namespace Go.Proofs.YtkjnhkoipgdfeaaGreatDoor
open Go GoV Go.RowKit
theorem zBl {en : Int} {w : Tx} {l : List Tok} {go : List Tok → PR} {g : F} {r : List Tok} (h : needP en w l go = .ok g r) : ∃ t l', l = t :: l' ∧ (∃ i, gotN 4 [w] l = some i) ∧ go l' = .ok g r := by
 unfold needP at h
 cases hg : gotN 4 [w] l with
 | none =>
   rw [hg] at h
   cases l <;> simp [failP] at h
 | some i =>
   rw [hg] at h
   obtain ⟨t, l', rfl, _⟩ := zBh hg
   exact ⟨t, l', rfl, ⟨i, by first | exact hg | rfl⟩, h⟩
theorem zCf {p : PR} {go : F → List Tok → PR} {g : F} {r : List Tok} (h : thenP p go = .ok g r) : ∃ f r', p = .ok f r' ∧ go f r' = .ok g r := by
 cases p with
 | no e q => simp [thenP] at h
 | ok f r' => exact ⟨f, r', rfl, h⟩
theorem sn1 : strs [tKm, tCy, tLd] = [.str [107, 109], .str [99, 121, 99, 108, 101, 115], .str [108, 111, 97, 100]] := rfl
theorem sn2 : strs [tMin, tMax, tIf] = [.str [109, 105, 110], .str [109, 97, 120], .str [105, 102]] := rfl
theorem args_inv {fo : List Tok → PR} {en op : Int} : ∀ (n : Nat) (fs : List F) (l : List Tok) {g : F} {r : List Tok}, argsP fo en op n fs l = .ok g r → ∃ hs, g = .mk op 0 (fs ++ hs) ∧ hs.length = n
 | 0, fs, l, g, r, h => by
   obtain ⟨t, l', rfl, _, h2⟩ := zBl h
   cases h2
   exact ⟨[], by simp, rfl⟩
 | n + 1, fs, l, g, r, h => by
   obtain ⟨t, l', rfl, _, h2⟩ := zBl h
   obtain ⟨f, r', _, h4⟩ := zCf h2
   obtain ⟨hs, e1, e2⟩ := args_inv n (fs ++ [f]) r' h4
   exact ⟨f :: hs, by rw [e1]; simp, by simp [e2]⟩
set_option maxHeartbeats 4000000 in
theorem factor_e {fo : List Tok → PR} {en : Int} {N : Nat} (hfo : OpOk 23 fo en N) (hN : N ≤ 100000) : OpOk 66 (factP fo en) en N := by
 intro l g r hl hG h
 cases l with
 | nil => simp [factP] at h
 | cons t l' =>
 simp only [factP] at h
 simp only [List.length_cons] at hl
 have hlr := zBy l'
 have hel := zBd l'
 have hpos : decide (((l'.length + 1 : Nat) : Int) > 0) = true := by simp only [decide_eq_true_eq]; omega
 have hcons := zEb t l'
 have hGt : GoodT l' := hG.suf (List.suffix_cons _ _)
 by_cases hk : t.kind = 2
 ·
  rw [if_pos hk] at h
  cases h
  refine ⟨?_, by simp, List.suffix_cons _ _⟩
  have e : (F.mk 1 (digs t.text) []).d = D.nn (.agg [.int .i64 1, .int .i64 (digs t.text), .lit (.slice none 0 0)]) := by simp [F.d, F.dL, D.nn, D.nnL]
  rw [e]
  refine eff_nn (zB6 1 0 (Nat.le_refl _) (Nat.le_refl _) (fun β τ => by simp [D.rn, D.rnL]) ?_)
  refine k66.oe 1 0 rfl rfl rfl ?_
  rw [ie66]
  unfold c66
  have c1 := atoi_p t.text (hG t (by simp) hk)
  generalize digs t.text = n at *
  have tk : (t.kind == 2) = true := by simp [hk]
  unfold hpP
  rw [hcons]
  have wQ := And.intro @hlr @hel; repeat' (first | with_reducible (apply swq; constructor) | simp only [go_sem, seval, pe66, q66, hlr, hpos, tk, List.length_cons, List.drop_succ_cons, List.drop_zero] | ((with_reducible refine zAb (c1) ?he ?hc ?_); (case he | hc => exact sc wQ)) | ((with_reducible apply s_slTF); (case h0 | h1 | hx => exact sd wQ)) | ((with_reducible refine And.intro ?hw ?_); (case hw => exact sw wQ)) | with_reducible intro _)
  all_goals try (exfalso; omega)
  refine ⟨_, zAf, ?_⟩
  simp [D.closed, D.er, D.cL, D.erL, RcS, Hp.cut, Blk.rnL, Blk.rn, Tv.rnL, D.rnL, D.rn, zAc, Own.rn]
 rw [if_neg hk] at h
 have tk : (t.kind == 2) = false := by simp [hk]
 have c1 := got_e 1 [tKm, tCy, tLd] (by simp) (t :: l') (by simp; omega) en
 rw [sn1] at c1
 cases hg1 : gotN 1 [tKm, tCy, tLd] (t :: l') with
 | some i =>
   rw [hg1] at h
   cases h
   obtain ⟨t2, l2, e0, n1, n2, n3, n4, n5⟩ := zBh hg1
   cases e0
   rw [n1, n2] at c1
   refine ⟨?_, by simp, List.suffix_cons _ _⟩
   have e : (F.mk (2 + i) 0 []).d = D.nn (.agg [.int .i64 (2 + i), .int .i64 0, .lit (.slice none 0 0)]) := by simp [F.d, F.dL, D.nn, D.nnL]
   rw [e]
   refine eff_nn (zB6 1 0 (Nat.le_refl _) (Nat.le_refl _) (fun β τ => by simp [D.rn, D.rnL]) ?_)
   refine k66.oe 1 0 rfl rfl rfl ?_
   rw [ie66]
   unfold c66
   have hd : decide ((i : Int) ≥ 0) = true := by simp
   simp only [List.length_cons, List.length_nil] at n3
   unfold hpP at c1 ⊢
   rw [hcons] at c1 ⊢
   have wQ := And.intro @hlr (And.intro @hel @zAc); repeat' (first | with_reducible (apply swq; constructor) | simp only [go_sem, seval, pe66, q66, hlr, hpos, tk, hd, List.length_cons] | simp (disch := omega) only [wA] | ((with_reducible refine o_eff [0] [] (c1) ?hs ?he ?hh ?_); (case hs => exact so); (case he | hh => exact sh wQ); try rintro _ _ ⟨rfl, rfl⟩) | ((with_reducible apply s_bsl); (case he | hl | hc => exact sd wQ)) | ((with_reducible refine And.intro ?hw ?_); (case hw => exact sw wQ)) | with_reducible intro _)
   all_goals try (exfalso; omega)
   refine ⟨_, zAf, ?_⟩
   simp [D.closed, D.er, D.cL, D.erL, RcS, Hp.cut, Blk.rnL, Blk.rn, Tv.rnL, D.rnL, D.rn, zAc, Own.rn]
 | none =>
 rw [hg1] at h
 obtain ⟨m1, m2⟩ := zDm hg1
 rw [m1, m2] at c1
 have c2 := got_e 1 [tMin, tMax, tIf] (by simp) (t :: l') (by simp; omega) en
 rw [sn2] at c2
 cases hg2 : gotN 1 [tMin, tMax, tIf] (t :: l') with
 | some i =>
   rw [hg2] at h
   simp only [callP] at h
   obtain ⟨t2, l2, e0, n1, n2, n3, n4, n5⟩ := zBh hg2
   cases e0
   rw [n1, n2] at c2
   obtain ⟨t3, l3, rfl, ⟨i3, hg3⟩, h3⟩ := zBl h
   obtain ⟨f4, l4, h4, h5⟩ := zCf h3
   simp only [List.length_cons, List.length_nil] at hl n3
   have hG3 : GoodT l3 := hGt.suf (List.suffix_cons _ _)
   obtain ⟨c4, q4, s4⟩ := hfo l3 f4 l4 (by omega) hG3 h4
   have c3 := need_e [40] (t3 :: l3) (by simp; omega) en hg3
   simp only [List.tail_cons] at c3
   obtain ⟨hs, eg, ehs⟩ := args_inv _ _ _ h5
   have key : ∀ (n : Nat) (fs : List F) (lx : List Tok), argsP fo en (9 + i) n fs lx = .ok g r → lx.length ≤ N → GoodT lx → r.length < lx.length ∧ r <:+ lx := by
    intro n
    induction n with
    | zero =>
      intro fs lx h _ _
      obtain ⟨t, l', rfl, _, h2⟩ := zBl h
      cases h2
      exact ⟨by simp, List.suffix_cons _ _⟩
    | succ n ih =>
      intro fs lx h hN' hG'
      obtain ⟨t, l', rfl, _, h2⟩ := zBl h
      obtain ⟨f, r', h3, h4⟩ := zCf h2
      simp only [List.length_cons] at hN'
      obtain ⟨_, p1, p2⟩ := hfo l' f r' (by omega) (hG'.suf (List.suffix_cons _ _)) h3
      obtain ⟨p3, p4⟩ := ih _ _ h4 (by omega) (hG'.suf (p2.trans (List.suffix_cons _ _)))
      exact ⟨by simp; omega, p4.trans (p2.trans (List.suffix_cons _ _))⟩
   obtain ⟨k1, k2⟩ := key _ _ _ h5 (by omega) (hG3.suf s4)
   refine ⟨?_, by simp; omega, k2.trans (s4.trans ((List.suffix_cons _ _).trans (List.suffix_cons _ _)))⟩
   refine zB6 1 0 (Nat.le_refl _) (Nat.le_refl _) (fun β τ => rn_F β τ g) ?_
   refine k66.oe 1 0 rfl rfl rfl ?_
   rw [ie66]
   unfold c66
   have hd1 : decide ((-1 : Int) ≥ 0) = false := rfl
   have hd : decide ((i : Int) ≥ 0) = true := by simp
   obtain ⟨RA, hRA⟩ : ∃ R, R = (RC.regD r66_12 r66_13) := ⟨_, rfl⟩
   obtain ⟨RB, hRB⟩ : ∃ R, R = (RC.regD r66_17 r66_18) := ⟨_, rfl⟩
   rw [← hRA, ← hRB]
   have hmx : max (1 : Int) i = ((max 1 i : Nat) : Int) := by omega
   have hmb : max 1 i ≤ 3 := by omega
   unfold hpP at c1 c2 c3 ⊢
   rw [hcons] at c1 c2 ⊢
   have wQ := And.intro @hlr (And.intro @hel @zAc); repeat' (first | with_reducible (apply swq; constructor) | simp only [go_sem, seval, pe66, q66, hlr, hpos, tk, hd, hd1, List.length_cons] | simp (disch := omega) only [wA] | ((with_reducible refine o_eff [0] [] (c1) ?hs ?he ?hh ?_); (case hs => exact so); (case he | hh => exact sh wQ); try rintro _ _ ⟨rfl, rfl⟩) | ((with_reducible refine o_eff [0] [] (c2) ?hs ?he ?hh ?_); (case hs => exact so); (case he | hh => exact sh wQ); try rintro _ _ ⟨rfl, rfl⟩) | ((with_reducible refine o_eff [0] [] (c3) ?hs ?he ?hh ?_); (case hs => exact so); (case he | hh => exact sh wQ); try rintro _ _ ⟨rfl, rfl⟩) | ((with_reducible apply s_bsl); (case he | hl | hc => exact sd wQ)) | (with_reducible (apply gdA; constructor)) | ((with_reducible refine And.intro ?hw ?_); (case hw => exact sw wQ)) | with_reducible intro _)
   all_goals try (exfalso; omega)
   subst hRA
   refine zDt (zCv 2 2 3 (by decide) rfl rfl) ?_
   refine reg54_12 (fs := []) (by simp) rfl rfl c4 _ ?_
   repeat' (first | with_reducible (apply swq; constructor) | simp only [go_sem, seval, pe66, q66, maxW, hmx] | with_reducible intro _)
   all_goals try (exfalso; omega)
   generalize hM : max 1 i = mx at *
   refine zAu [0, 1, 4, 5, 10, 11] (fun x : Nat × List F × List Tok => ⟨[.ptr 0 0, .ptr 1 0, .u0, .u0, .int .i64 (i : Nat), .ptr 2 0, .u0, .u0, .u0, .u0, .int .i64 (mx : Nat), .int .i64 (x.1 : Nat), .u0], [],
    ⟨[.cells [.slice (tokL x.2.2) .no, .int .i64 en], .cells [.int .i64 0, .int .i64 0, .lit (.slice none 0 0)], .cells [.int .i64 (9 + i), .int .i64 0, .slice (kidsD x.2.1) (.tok 0)]], [.per 3 x.2.1.length]⟩⟩)
    (fun x => x.1 ≤ mx ∧ x.2.1.length = x.1 + 1 ∧ argsP fo en (9 + i) (mx - x.1) x.2.1 x.2.2 = .ok g r ∧ x.2.2.length ≤ N ∧ GoodT x.2.2) (fun x => mx - x.1) (0, [f4], l4) ⟨by simp, rfl, h5, by simp only; omega, hG3.suf s4⟩ ?_ ?_
   ·simp [keepE, St.keep, hM]
   ·rintro ⟨j, fs, lx⟩ ⟨v1, v2, v3, v4, v5⟩
    simp only at v1 v2 v3 v4 v5 ⊢
    by_cases hj : j < mx
    ·obtain ⟨n, hn⟩ : ∃ n, mx - j = n + 1 := ⟨mx - j - 1, by omega⟩
     rw [hn] at v3
     obtain ⟨t6, l6, rfl, ⟨i6, hg6⟩, h6⟩ := zBl v3
     obtain ⟨f7, l7, h7, h8⟩ := zCf h6
     simp only [List.length_cons] at v4
     have hG6 : GoodT l6 := v5.suf (List.suffix_cons _ _)
     obtain ⟨c7, q7, s7⟩ := hfo l6 f7 l7 (by omega) hG6 h7
     have c6 := need_e [44] (t6 :: l6) (by simp; omega) en hg6
     simp only [List.tail_cons] at c6
     have hdj : decide ((j : Int) < (mx : Nat)) = true := by simp; omega
     unfold hpP at c6
     have wQ := @zAc; repeat' (first | with_reducible (apply swq; constructor) | simp only [go_sem, seval, pe66, q66, hdj] | ((with_reducible refine o_eff [0] [] (c6) ?hs ?he ?hh ?_); (case hs => exact so); (case he | hh => exact sh wQ); try rintro _ _ ⟨rfl, rfl⟩) | with_reducible intro _)
     all_goals try (exfalso; omega)
     subst hRB
     refine reg54_17 (fs := fs) (by omega) rfl rfl c7 _ ?_
     repeat' (first | with_reducible (apply swq; constructor) | simp only [go_sem, seval, pe66, q66] | simp (disch := omega) only [wA] | with_reducible intro _)
     all_goals try (exfalso; omega)
     refine ⟨(j + 1, fs ++ [f7], l7), ⟨by simp only; omega, by simp; omega, ?_, by simp only; omega, hG6.suf s7⟩, by simp only; omega, ?_⟩
     ·rw [show mx - (j + 1) = n by omega]; exact h8
     ·simp [keepE, St.keep]
    ·obtain rfl : j = mx := by omega
     rw [Nat.sub_self] at v3
     obtain ⟨t6, l6, rfl, ⟨i6, hg6⟩, h6⟩ := zBl v3
     cases h6
     simp only [List.length_cons] at v4
     have c6 := need_e [41] (t6 :: r) (by simp; omega) en hg6
     simp only [List.tail_cons] at c6
     have hdj : decide ((j : Int) < (j : Nat)) = false := by simp
     have hkl := zB4 fs
     unfold hpP at c6
     have wQ := @zAc; repeat' (first | with_reducible (apply swq; constructor) | simp only [go_sem, seval, pe66, q66, hdj] | ((with_reducible refine o_eff [0] [] (c6) ?hs ?he ?hh ?_); (case hs => exact so); (case he | hh => exact sh wQ); try rintro _ _ ⟨rfl, rfl⟩) | with_reducible intro _)
     all_goals try (exfalso; omega)
     refine ⟨_, zAf, ?_⟩
     have hck := zAd fs
     simp [D.closed, D.er, D.cL, D.erL, RcS, Hp.cut, Blk.rnL, Blk.rn, Tv.rnL, D.rnL, D.rn, zAc, Own.rn, kidsD, hck, F.d, fdL_map, setL]
 | none =>
   rw [hg2] at h
   simp only [parP] at h
   obtain ⟨m3, m4⟩ := zDm hg2
   rw [m3, m4] at c2
   obtain ⟨t3, l3, e0, ⟨i3, hg3⟩, h3⟩ := zBl h
   cases e0
   obtain ⟨f4, l4, h4, h5⟩ := zCf h3
   obtain ⟨t6, l6, rfl, ⟨i6, hg6⟩, h6⟩ := zBl h5
   cases h6
   obtain ⟨c4, q4, s4⟩ := hfo l' g (t6 :: r) (by omega) hGt h4
   simp only [List.length_cons] at q4
   have c3 := need_e [40] (t :: l') (by simp; omega) en hg3
   have c6 := need_e [41] (t6 :: r) (by simp; omega) en hg6
   simp only [List.tail_cons] at c3 c6
   refine ⟨?_, by simp; omega, (List.suffix_cons _ _).trans (s4.trans (List.suffix_cons _ _))⟩
   refine zB6 1 0 (Nat.le_refl _) (Nat.le_refl _) (fun β τ => rn_F β τ g) ?_
   refine k66.oe 1 0 rfl rfl rfl ?_
   rw [ie66]
   unfold c66
   have hd1 : decide ((-1 : Int) ≥ 0) = false := rfl
   have hck := zAd g.kids
   have hek := erL_F g.kids
   have hrn := fun β τ => rnL_F β τ g.kids
   rw [F.d_eq] at c4 ⊢
   unfold hpP at c1 c2 c3 c4 c6 ⊢
   rw [hcons] at c1 c2 c3 ⊢
   have wQ := And.intro @hlr (And.intro @hel (And.intro @zAc @hrn)); repeat' (first | with_reducible (apply swq; constructor) | simp only [go_sem, seval, pe66, q66, hlr, hpos, tk, hd1, List.length_cons] | ((with_reducible refine o_eff [0] [] (c1) ?hs ?he ?hh ?_); (case hs => exact so); (case he | hh => exact sh wQ); try rintro _ _ ⟨rfl, rfl⟩) | ((with_reducible refine o_eff [0] [] (c2) ?hs ?he ?hh ?_); (case hs => exact so); (case he | hh => exact sh wQ); try rintro _ _ ⟨rfl, rfl⟩) | ((with_reducible refine o_eff [0] [] (c3) ?hs ?he ?hh ?_); (case hs => exact so); (case he | hh => exact sh wQ); try rintro _ _ ⟨rfl, rfl⟩) | ((with_reducible refine o_eff [0] [] (c4) ?hs ?he ?hh ?_); (case hs => exact so); (case he | hh => exact sh wQ); try rintro _ _ ⟨rfl, rfl⟩) | ((with_reducible refine o_eff [0] [] (c6) ?hs ?he ?hh ?_); (case hs => exact so); (case he | hh => exact sh wQ); try rintro _ _ ⟨rfl, rfl⟩) | ((with_reducible apply s_bsl); (case he | hl | hc => exact sd wQ)) | ((with_reducible refine And.intro ?hw ?_); (case hw => exact sw wQ)) | with_reducible intro _)
   all_goals try (exfalso; omega)
   refine ⟨_, zAf, ?_⟩
   simp [D.closed, D.er, D.cL, D.erL, RcS, Hp.cut, Blk.rnL, Blk.rn, Tv.rnL, D.rnL, D.rn, zAc, Own.rn, hck]
theorem product_e {fo : List Tok → PR} {en : Int} {N : Nat} (hfo : OpOk 23 fo en N) (hN : N ≤ 100000) : OpOk 44 (prodP fo en) en N := by
 intro l g r hl hG h
 obtain ⟨c1, q1, q2⟩ := chain_e (factor_e hfo hN) hN 7 (by omega) (by omega) [42] [47] l g r hl hG h
 refine ⟨?_, q1, q2⟩
 refine zB6 1 0 (Nat.le_refl _) (Nat.le_refl _) (fun β τ => rn_F β τ g) ?_
 refine k44.oe 1 0 rfl rfl rfl ?_
 rw [ie44]
 unfold c44
 have hck := zAd g.kids
 have hek := erL_F g.kids
 have hrn := fun β τ => rnL_F β τ g.kids
 have e3 : strs [[42], [47]] = [.str [42], .str [47]] := rfl
 rw [e3, F.d_eq] at c1
 rw [F.d_eq]
 unfold hpP at c1 ⊢
 have wQ := And.intro @zAc @hrn; repeat' (first | with_reducible (apply swq; constructor) | simp only [go_sem, seval, pe44, q44] | ((with_reducible refine o_eff [0] [] (c1) ?hs ?he ?hh ?_); (case hs => exact so); (case he | hh => exact sh wQ); rintro _ _ ⟨rfl, rfl⟩) | ((with_reducible apply s_bsl); (case he | hl | hc => exact sd wQ)) | with_reducible intro _)
 refine ⟨_, zAf, ?_⟩
 simp [D.closed, D.er, D.cL, D.erL, RcS, Hp.cut, Blk.rnL, Blk.rn, Tv.rnL, D.rnL, D.rn, zAc, Own.rn, hck]
theorem sum_e {fo : List Tok → PR} {en : Int} {N : Nat} (hfo : OpOk 23 fo en N) (hN : N ≤ 100000) : OpOk 23 (sumP fo en) en N := by
 intro l g r hl hG h
 obtain ⟨c1, q1, q2⟩ := chain_e (product_e hfo hN) hN 5 (by omega) (by omega) [43] [45] l g r hl hG h
 refine ⟨?_, q1, q2⟩
 refine zB6 1 0 (Nat.le_refl _) (Nat.le_refl _) (fun β τ => rn_F β τ g) ?_
 refine k23.oe 1 0 rfl rfl rfl ?_
 rw [ie23]
 unfold c23
 have hck := zAd g.kids
 have hek := erL_F g.kids
 have hrn := fun β τ => rnL_F β τ g.kids
 have e3 : strs [[43], [45]] = [.str [43], .str [45]] := rfl
 rw [e3, F.d_eq] at c1
 rw [F.d_eq]
 unfold hpP at c1 ⊢
 have wQ := And.intro @zAc @hrn; repeat' (first | with_reducible (apply swq; constructor) | simp only [go_sem, seval, pe23, q23] | ((with_reducible refine o_eff [0] [] (c1) ?hs ?he ?hh ?_); (case hs => exact so); (case he | hh => exact sh wQ); rintro _ _ ⟨rfl, rfl⟩) | ((with_reducible apply s_bsl); (case he | hl | hc => exact sd wQ)) | with_reducible intro _)
 refine ⟨_, zAf, ?_⟩
 simp [D.closed, D.er, D.cL, D.erL, RcS, Hp.cut, Blk.rnL, Blk.rn, Tv.rnL, D.rnL, D.rn, zAc, Own.rn, hck]
theorem form_e {en : Int} {N : Nat} (hN : N ≤ 100000) : ∀ k, OpOk 23 (formP en k) en N
 | 0 => fun l g r _ _ h => by simp [formP] at h
 | k + 1 => sum_e (form_e hN k) hN
end Go.Proofs.YtkjnhkoipgdfeaaGreatDoor
end
section
set_option maxRecDepth 100000
set_option linter.unusedSimpArgs false
set_option linter.unusedVariables false
namespace Go.Proofs.YtkjnhkoipgdfeaaGreatDoor
open Go GoV Go.RowKit
theorem idle32 (x y z : Value) (w : World) : CallsD Tryz.prog 22 #[x, y, z] .returning w fun e u' w' => e = .returned (.tuple #[]) ∧ u' = .returning ∧ w' = w := by
 have hnil : ∀ w : World, (binOp BinOp.neq 20 .nilIface .nilIface).run Tryz.prog w = .ok (.bool false) w := fun _ => by kernel_rfl
 refine callsD_of_wpS Tryz.func22 rfl fun c₀ cs hu => ?_
 apply wpS_seq
 apply wpS_region
 simp [wpOpsS, go_sem, recoverD, hu, Tryz.ntmps22, Exit.thenS]
 apply wpS_seq
 apply wpS_region
 simp [wpOpsS, go_sem, hnil, Exit.thenS]
 refine wpS_cond (t := false) (by simp [Act.eval, Array.replicate]) ?_
 simp only [Bool.false_eq_true, if_false]
 refine wpS_of_wp (wp_skip ?_)
 cases c₀
 simp_all [bodyPostS, results, Tryz.results22, Exit.thenS]
def seqL : Code → Code
 | .seq x _ => x
 | c => c
def seqR : Code → Code
 | .seq _ y => y
 | c => c
noncomputable def K13 : Code := Tryz.f8.body.getD .skip
theorem hK13 : Tryz.f8.body = some (.seq (seqL K13) (.seq (seqL (seqR K13)) (.seq (seqL (seqR (seqR K13))) (.seq (seqL (seqR (seqR (seqR K13)))) (seqR (seqR (seqR (seqR K13)))))))) := by kernel_rfl
theorem ops13 : ∃ ops o0 o1, seqL (seqR (seqR (seqR K13))) = .region 4 ops false ∧ ops[0]? = some o0 ∧ ops[1]? = some o1 ∧ ops.size = 2 ∧ o0.op = .makeFunc (.func 22) #[] #[.tmp 2, .tmp 3, .tmp 4] ∧ o0.dst = some 20 ∧ o0.guard = none ∧
 o1.op = .defer { callee := .value (.tmp 20), args := #[], argTypes := #[] } ∧ o1.dst = none ∧ o1.guard = none := ⟨_, _, _, rfl, rfl, rfl, rfl, rfl, rfl, rfl, rfl, rfl, rfl⟩
theorem za13 : zAe (E8 0 0) (seqL K13) = some (.reg r8_0) := by kernel_rfl
theorem zb13 : zAe (E8 0 0) (seqL (seqR K13)) = some (.reg r8_1) := by kernel_rfl
theorem zc13 : zAe (E8 0 0) (seqL (seqR (seqR K13))) = some (.seq (.reg r8_2) (.cond (.v 8) (.seq (.reg r8_3) .ret) .skip)) := by kernel_rfl
noncomputable def cR13 : RC := .seq (.reg r8_4) (.seq (.reg r8_5) (.seq (.seq (.reg r8_6) (.cond (.v 9) (.reg r8_7) .skip)) (.seq (.seq (.reg r8_8) (.cond (.v 10) (.seq (.reg r8_9) .ret) .skip)) (.seq (.reg r8_10) .ret))))
theorem zd13 : zAe (E8 0 0) (seqR (seqR (seqR (seqR K13)))) = some cR13 := by kernel_rfl
end Go.Proofs.YtkjnhkoipgdfeaaGreatDoor
end
section
set_option maxRecDepth 100000
set_option linter.unusedSimpArgs false
set_option linter.unusedVariables false
namespace Go.Proofs.YtkjnhkoipgdfeaaGreatDoor
open Go GoV Go.RowKit
theorem zBn {C : Cfg} {c : Code} {rc : RC} {S S1 : St} (h : SWp C rc (fun e s => e = .normal ∧ s = S1) S) (hc : zAe C c = some rc) (hpan : ∀ d hp, ¬ C.M.pan d hp) {w : World} {g : Gh} (hst : C.M.start w g) {a : Act} {w1 : World} (hs : Sim C w g S a w1) :
 c.wpIn Fence.wide 0 C.P (fun e a' w' => e = .normal ∧ Sim C w g S1 a' w') a w1 := by
 refine wpIn_mono (h.run c hc w g hst a w1 hs none) fun e a' w' hl => ?_
 cases e <;> simp only [Lift] at hl ⊢
 case normal => obtain ⟨s, h1, _, rfl⟩ := hl; exact ⟨trivial, h1⟩
 case panic => obtain ⟨_, _, _, _, _, _, k, _⟩ := hl; exact absurd k (hpan _ _)
 case exit => obtain ⟨_, _, q, _⟩ := hl; cases q
 case ret => obtain ⟨_, _, q, _⟩ := hl; cases q
noncomputable abbrev S13 (s : Tx) (l : List Tok) : St := ⟨[.str s, .ptr 0 0, .ptr 1 0, .ptr 2 0, .slice (tokL l) .no, .int .i64 0, .int .i64 0, .u0, .bool false, .u0, .u0], [], ⟨[.cells [.int .i64 0, .int .i64 0, .lit (.slice none 0 0)], .cells [.int .i64 0], .cells [.int .i64 0]], []⟩⟩
def defC (C : Cfg) (dd : Deferred) : Cfg := { C with dfs := [dd] }
set_option maxHeartbeats 1000000 in
theorem parse_run (s : Tx) {l : List Tok} (hlex : Pur M 21 [.str s] (.tup [.slice (tokL l) .no, .int .i64 0, .int .i64 0])) {d : D}
 (hR : ∀ dd : Deferred, SWp (defC (E8 0 0) dd) cR13 (fun e s1 => (match e with | .exit _ => False | _ => True) ∧ rrsWp q8 s1 fun ds => D.closed (zAl ds) = true ∧ (zAl ds).er = d) (S13 s l)) : Pur M 8 [.str s] d := by
 have hcl := zDr l
 have her := zFg l
 have s1 : SWp (E8 0 0) (.reg r8_0) (fun e s' => e = .normal ∧ s' = ⟨[.str s, .ptr 0 0, .ptr 1 0, .ptr 2 0, .u0, .u0, .u0, .u0, .u0, .u0, .u0], [], ⟨[.cells [.int .i64 0, .int .i64 0, .lit (.slice none 0 0)], .cells [.int .i64 0], .cells [.int .i64 0]], []⟩⟩) (St.init (E8 0 0) [.str s] ⟨[], []⟩) := by
  rw [ie8]
  repeat' (first | with_reducible (apply swq; constructor) | simp only [go_sem, seval, pe8, q8] | with_reducible intro _)
  all_goals first | exact ⟨rfl, rfl⟩ | rfl | trivial
 have s2 : SWp (E8 0 0) (.reg r8_1) (fun e s' => e = .normal ∧ s' = ⟨[.str s, .ptr 0 0, .ptr 1 0, .ptr 2 0, .slice (tokL l) .no, .int .i64 0, .int .i64 0, .u0, .u0, .u0, .u0], [], ⟨[.cells [.int .i64 0, .int .i64 0, .lit (.slice none 0 0)], .cells [.int .i64 0], .cells [.int .i64 0]], []⟩⟩)
  ⟨[.str s, .ptr 0 0, .ptr 1 0, .ptr 2 0, .u0, .u0, .u0, .u0, .u0, .u0, .u0], [], ⟨[.cells [.int .i64 0, .int .i64 0, .lit (.slice none 0 0)], .cells [.int .i64 0], .cells [.int .i64 0]], []⟩⟩ := by
  have wQ := And.intro @hcl @her; repeat' (first | with_reducible (apply swq; constructor) | simp only [go_sem, seval, pe8, q8] | ((with_reducible refine zAb (hlex) ?he ?hc ?_); (case he | hc => exact sc wQ)) | with_reducible intro _)
  all_goals first | exact ⟨rfl, rfl⟩ | rfl | trivial
 have s3 : SWp (E8 0 0) (.seq (.reg r8_2) (.cond (.v 8) (.seq (.reg r8_3) .ret) .skip)) (fun e s' => e = .normal ∧ s' = S13 s l)
  ⟨[.str s, .ptr 0 0, .ptr 1 0, .ptr 2 0, .slice (tokL l) .no, .int .i64 0, .int .i64 0, .u0, .u0, .u0, .u0], [], ⟨[.cells [.int .i64 0, .int .i64 0, .lit (.slice none 0 0)], .cells [.int .i64 0], .cells [.int .i64 0]], []⟩⟩ := by
  repeat' (first | with_reducible (apply swq; constructor) | simp only [go_sem, seval, pe8, q8] | with_reducible intro _)
  all_goals first | exact ⟨rfl, rfl⟩ | rfl | trivial
 have hP : (E8 0 0).P = Tryz.prog := rfl
 refine zDj ⟨⟨Tryz.f8, Tryz.func8, by kernel_rfl, rfl⟩, fun w g xs hA hH hargs => ?_⟩
 refine calls_of_wp_defers Tryz.func8 hK13 ((wpIn_wide (n := 0)).1 ?_)
 have hsim := zD0 (C := E8 0 0) (fn := Tryz.f8) (by kernel_rfl) (args := [.str s]) (hp := ⟨[], []⟩) (by rfl) (by rw [show ([D.str s] : List D).length = 1 from rfl]; decide) rfl rfl rfl hH hargs
 have hstart : (E8 0 0).M.start w g := ⟨hA, trivial⟩
 have hpan : ∀ d hp, ¬ (E8 0 0).M.pan d hp := fun _ _ h => h
 refine wpIn_seq (wpIn_mono (zBn s1 za13 hpan hstart hsim) fun e a1 w1 hl => ?_)
 obtain ⟨rfl, hl⟩ := hl
 simp only [Exit.then]
 refine wpIn_seq (wpIn_mono (zBn s2 zb13 hpan hstart hl) fun e a2 w2 hl => ?_)
 obtain ⟨rfl, hl⟩ := hl
 simp only [Exit.then]
 refine wpIn_seq (wpIn_mono (zBn s3 zc13 hpan hstart hl) fun e a3 w3 hl => ?_)
 obtain ⟨rfl, hl⟩ := hl
 simp only [Exit.then]
 obtain ⟨ops, o0, o1, hr4, h0, h1, hsz, p0, p1, p2, p3, p4, p5⟩ := ops13
 obtain ⟨G, i0, ib, i1, i2, i3, i4⟩ := hl
 have e1 := i4 2
 have e2 := i4 3
 have e3 := i4 4
 refine wpIn_seq ?_
 rw [hr4]
 have hev : ∀ t, a3.eval (.tmp t) = a3.tmps.getD t Go.undef := fun t => rfl
 obtain ⟨dd, hdd⟩ : ∃ dd : Deferred, dd = { target := .fn (.func 22) #[a3.tmps.getD 2 Go.undef, a3.tmps.getD 3 Go.undef, a3.tmps.getD 4 Go.undef], args := #[] } := ⟨_, rfl⟩
 have hreg : (Code.region 4 ops false).wpIn Fence.wide 0 Tryz.prog (fun e a' w' => e = .normal ∧ w' = w3 ∧ a' = { tmps := a3.tmps.setIfInBounds 20 (.func (.func 22) #[] #[a3.tmps.getD 2 Go.undef, a3.tmps.getD 3 Go.undef, a3.tmps.getD 4 Go.undef]), defers := [dd] }) a3 w3 := by
  refine (wpIn_wide (n := 0)).2 (wp_region ?_)
  rw [hsz]
  show wpOps Tryz.prog ops _ [0, 1] a3 w3
  have r0 : (execOp a3.eval o0).run Tryz.prog w3 = .ok (.value (.func (.func 22) #[] #[a3.tmps.getD 2 Go.undef, a3.tmps.getD 3 Go.undef, a3.tmps.getD 4 Go.undef])) w3 := by
   have hmf : ∀ (fn : Fn) (first cap : Array Value) (w : World), (Instr.makeFunc fn first cap).run Tryz.prog w = .ok (.func fn first cap) w := fun _ _ _ _ => rfl
   simp only [execOp, p0, Sem.run_bind, hmf, Result.andThen_ok, Sem.run_pure]
   simp [Act.eval]
  simp only [wpOps, h0, h1, Region.wanted, p2, p5, if_true]
  refine .inl ?_
  simp only [Oper.wp, r0, Oper.upon_value]
  have hsz20 : 20 < a3.tmps.size := by rw [i1]; decide
  have e20 : (a3.put o0.dst (.func (.func 22) #[] #[a3.tmps.getD 2 Go.undef, a3.tmps.getD 3 Go.undef, a3.tmps.getD 4 Go.undef])).eval (.tmp 20) = .func (.func 22) #[] #[a3.tmps.getD 2 Go.undef, a3.tmps.getD 3 Go.undef, a3.tmps.getD 4 Go.undef] := by
   rw [p1]; simp [Act.eval, Act.put, hsz20]
  have r1 : (execOp (a3.put o0.dst (.func (.func 22) #[] #[a3.tmps.getD 2 Go.undef, a3.tmps.getD 3 Go.undef, a3.tmps.getD 4 Go.undef])).eval o1).run Tryz.prog w3 = .ok (.defer dd) w3 := by
   simp only [execOp, p3, resolve, e20, hdd, Sem.run_bind, Sem.run_pure, Result.andThen_ok]
   simp [Deferred.ofValue, Sem.run_pure]
  refine .inl ?_
  rw [r1, Oper.upon_defer, p4, p1]
  refine ⟨?_, ?_, ?_⟩
  ·trivial
  ·first | rfl | trivial
  ·simp [Act.put, i2, E8]
 refine wpIn_mono hreg fun e a4 w4 hq => ?_
 obtain ⟨rfl, rfl, rfl⟩ := hq
 simp only [Exit.then]
 have hsim4 : Sim (defC (E8 0 0) dd) w g (S13 s l) { tmps := a3.tmps.setIfInBounds 20 (.func (.func 22) #[] #[a3.tmps.getD 2 Go.undef, a3.tmps.getD 3 Go.undef, a3.tmps.getD 4 Go.undef]), defers := [dd] } w4 := by
  refine ⟨G, i0, ib, (by rw [Array.size_setIfInBounds]; exact i1), rfl, i3, fun t => ?_⟩
  by_cases ht : t = 20
  ·subst ht
   have : (S13 s l).slot (defC (E8 0 0) dd).pers 20 = .u0 := rfl
   rw [this]; simp [Rel]
  ·have := i4 t
   rw [show (a3.tmps.setIfInBounds 20 (.func (.func 22) #[] #[a3.tmps.getD 2 Go.undef, a3.tmps.getD 3 Go.undef, a3.tmps.getD 4 Go.undef])).getD t Go.undef = a3.tmps.getD t Go.undef by
    simp only [Array.getD_eq_getD_getElem?, Array.getElem?_setIfInBounds]
    rw [if_neg (fun e => ht e.symm)]]
   exact this
 refine wpIn_mono ((hR dd).run _ (zCd zd13 rfl rfl rfl) w g hstart _ w4 hsim4 none) fun e a5 w5 hl => ?_
 have fin : ∀ s1, Sim (defC (E8 0 0) dd) w g s1 a5 w5 → (rrsWp q8 s1 fun ds => D.closed (zAl ds) = true ∧ (zAl ds).er = d) → Leaves Tryz.prog Tryz.f8 a5.tmps (Post w g fun d' _ => d'.closed = true ∧ d'.er = d) a5.defers .returning w5 := by
  intro s1 hs hrr
  obtain ⟨G5, j0, jb, j1, j2, j3, j4⟩ := hs
  have j2' : a5.defers = [dd] := j2
  rw [j2', hdd]
  refine leaves_cons (f := 22) (args := #[a3.tmps.getD 2 Go.undef, a3.tmps.getD 3 Go.undef, a3.tmps.getD 4 Go.undef]) (by simp) (by simp [go_sem]) ?_
  refine (idle32 _ _ _ _).mono ?_
  rintro e u' w'' ⟨rfl, rfl, rfl⟩
  simp only [Leaves, settle]
  obtain ⟨ds, v, k1, k4, k5⟩ := zCb (C := defC (E8 0 0) dd) (a := a5) (fn := Tryz.f8) j0 j4 (rs := q8) (by kernel_rfl) hrr
  exact ⟨v, k5, v, _, _, G5, rfl, k1, j0, k4⟩
 cases e <;> simp only [Lift, bodyPostD] at hl ⊢
 case panic => obtain ⟨_, _, _, _, _, _, k, _⟩ := hl; exact absurd k (hpan _ _)
 case normal => obtain ⟨s1, h1, _, h2⟩ := hl; exact fin s1 h1 h2
 case exit => obtain ⟨s1, h1, h3, h2⟩ := hl; exact h3.elim
 case ret => obtain ⟨s1, h1, _, h2⟩ := hl; exact fin s1 h1 h2
end Go.Proofs.YtkjnhkoipgdfeaaGreatDoor
end
section
set_option maxRecDepth 100000
set_option linter.unusedSimpArgs false
set_option linter.unusedVariables false
namespace Go.Proofs.YtkjnhkoipgdfeaaGreatDoor
open Go GoV Go.RowKit
theorem def_M {C : Cfg} {dd : Deferred} : (defC C dd).M = C.M := rfl
set_option maxHeartbeats 1000000 in
theorem parse_p (s : Tx) (hs : s.length ≤ 4999) (hq : zD4 s) {l : List Tok} (hl : lexP s = (l, 0, 0)) (hll : l.length ≤ 5000) (hG : GoodT l) {f : F} (hp : formP s.length (l.length + 1) l = .ok f []) (hn : f.nodes ≤ 60) : Pur M 8 [.str s] (.tup [f.d, .int .i64 0, .int .i64 0]) := by
 have hlex := lex_p s hs hq
 rw [hl] at hlex
 refine parse_run s hlex fun dd => ?_
 unfold cR13
 obtain ⟨c1, _, _⟩ := form_e (en := s.length) (N := 5000) (by omega) (l.length + 1) l f [] hll hG hp
 have c2 := nodes_p f.nodes f (Nat.le_refl _) 60 (by omega)
 rw [show min f.nodes (60 + 1) = f.nodes by omega] at c2
 have hck := zAd f.kids
 have hek := erL_F f.kids
 have hrn := fun β τ => rnL_F β τ f.kids
 have hd : decide ((f.nodes : Int) > 60) = false := by simp; omega
 rw [F.d_eq] at c1 c2 ⊢
 generalize f.nodes = n at *
 unfold hpP at c1
 have e0 : tokL [] = [] := rfl
 rw [e0] at c1
 have wQ := And.intro @zAc (And.intro @hrn (And.intro @hck @hek)); repeat' (first | with_reducible (apply swq; constructor) | simp only [go_sem, seval, def_M, pe8, q8, hd] | ((with_reducible refine o_eff [3] [] (c1) ?hs ?he ?hh ?_); (case hs => exact so); (case he | hh => exact sh wQ); rintro _ _ ⟨rfl, rfl⟩) | ((with_reducible refine zAb (c2) ?he ?hc ?_); (case he | hc => exact sc wQ)) | with_reducible (apply cdA; constructor) | with_reducible intro _)
 all_goals try (exfalso; omega)
 all_goals simp [D.closed, D.er, D.cL, D.erL, RcS, hck, setL]
theorem quote_no {t : Tx} (h : (t.all fun c => !(c == 34)) = true) : zD4 t := fun i hi hc => by
 have := cls_quote hc
 rw [List.all_eq_true] at h
 have hm : t.getD i 0 ∈ t := by simp [List.getD, hi]
 have := h _ hm
 simp_all
def toks1 : List Tok := (lexP ex1).1
def toks2 : List Tok := (lexP ex2).1
instance (s : Tx) : Decidable (numOk s) := inferInstanceAs (Decidable (_ ∧ _ ∧ _))
theorem good1 : GoodT toks1 := by
 have : (toks1.all fun t => decide (t.kind = 2 → numOk t.text)) = true := by decide +kernel
 intro t ht hk
 rw [List.all_eq_true] at this
 exact of_decide_eq_true (this t ht) hk
theorem good2 : GoodT toks2 := by
 have : (toks2.all fun t => decide (t.kind = 2 → numOk t.text)) = true := by decide +kernel
 intro t ht hk
 rw [List.all_eq_true] at this
 exact of_decide_eq_true (this t ht) hk
theorem parse1_p : Pur M 8 [.str ex1] (.tup [F1.d, .int .i64 0, .int .i64 0]) :=
 parse_p ex1 (by decide) (quote_no (by decide +kernel)) (l := toks1) (by kernel_rfl) (by decide +kernel) good1 (by kernel_rfl) (by decide +kernel)
theorem parse2_p : Pur M 8 [.str ex2] (.tup [F2.d, .int .i64 0, .int .i64 0]) :=
 parse_p ex2 (by decide) (quote_no (by decide +kernel)) (l := toks2) (by kernel_rfl) (by decide +kernel) good2 (by kernel_rfl) (by decide +kernel)
end Go.Proofs.YtkjnhkoipgdfeaaGreatDoor
end
section
set_option maxRecDepth 100000
set_option linter.unusedSimpArgs false
set_option linter.unusedVariables false
namespace Go.Proofs.YtkjnhkoipgdfeaaGreatDoor
open Go GoV Go.RowKit
theorem tab_ok (w : World) (h : M.amb w []) : Lib.TabIs Tryz.prog w "internal/strconv.uint64pow10" .u64 Lib.pow10Tab :=
 tabIs_var (P := Tryz.prog) (r := []) h (by kernel_rfl) (List.mem_cons.2 (.inl rfl))
theorem itoa_p (n : Int) (h0 : -9223372036854775808 ≤ n) (h1 : n ≤ 9223372036854775807) : Pur M 38 [.int .i64 n] (.str (Lib.itoa n)) := by
 refine pur_ext (vs := [.int .i64 n]) (v := .string ⟨(Lib.itoa n).toArray⟩) ⟨Tryz.f38, Tryz.func38, rfl, rfl⟩ (fun w I xs h => ?_) (fun w I => ?_) (fun w hA => ?_)
 ·obtain ⟨x, xs', rfl, g1, g2⟩ := h.inv
  simp only [Rel] at g1
  rw [g2.inv_nil, g1]
 ·simp [Rel]
 ·refine (Tryz.strconv_Itoa n h0 h1 w (tab_ok w hA)).mono fun e w' h => ?_
  obtain ⟨rfl, k, os, rfl⟩ := h
  exact ⟨rfl, below_grow k os⟩
def rankF (op : Int) : Int := if op = 5 ∨ op = 6 then 0 else if op = 7 ∨ op = 8 then 1 else 2
def symF (op : Int) : Tx := if op = 5 then [43] else if op = 6 then [45] else if op = 7 then [42] else [47]
def bodyW (op n : Int) (ts : List Tx) : Tx :=
 if op = 1 then Lib.itoa n else if op = 2 then tKm else if op = 3 then tCy else if op = 4 then tLd
 else if op = 9 then (((tMin ++ [40]) ++ ts.getD 0 []) ++ [44, 32]) ++ ts.getD 1 [] ++ [41]
 else if op = 10 then (((tMax ++ [40]) ++ ts.getD 0 []) ++ [44, 32]) ++ ts.getD 1 [] ++ [41]
 else if op = 11 then (((((tIf ++ [40]) ++ ts.getD 0 []) ++ [44, 32]) ++ ts.getD 1 []) ++ [44, 32]) ++ ts.getD 2 [] ++ [41]
 else (((ts.getD 0 [] ++ [32]) ++ symF op) ++ [32]) ++ ts.getD 1 []
def parW (r least : Int) (t : Tx) : Tx := if r < least then ([40] ++ t) ++ [41] else t
mutual
def wr : F → Int → Tx
 | .mk op n ks, least => parW (rankF op) least (bodyW op n (if rankF op = 2 then wrL 0 0 ks else wrL (rankF op) (rankF op + 1) ks))
def wrL : Int → Int → List F → List Tx
 | _, _, [] => []
 | a, b, k :: ks => wr k a :: wrL b b ks
end
theorem rank_cases (op : Int) : (op = 5 ∨ op = 6 → rankF op = 0) ∧ (op = 7 ∨ op = 8 → rankF op = 1) ∧ (¬ (op = 5 ∨ op = 6 ∨ op = 7 ∨ op = 8) → rankF op = 2) := by
 unfold rankF
 refine ⟨fun h => by rw [if_pos h], fun h => by rw [if_neg (by omega), if_pos h], fun h => by rw [if_neg (by omega), if_neg (by omega)]⟩
theorem rank_p (op : Int) : Pur M 39 [.int .i64 op] (.int .i64 (rankF op)) := by
 refine k39.ok (C := C39) rfl rfl ?_
 rw [i39]
 unfold c39
 obtain ⟨r1, r2, r3⟩ := rank_cases op
 have : op = 5 ∨ op = 6 ∨ op = 7 ∨ op = 8 ∨ ¬ (op = 5 ∨ op = 6 ∨ op = 7 ∨ op = 8) := by omega
 rcases this with rfl | rfl | rfl | rfl | h
 iterate 2
  ·rw [r1 (by omega)]; repeat' (first | with_reducible (apply swq; constructor) | simp only [go_sem, seval, P39, q39] | with_reducible intro _)
   all_goals first | omega | (simp_all [D.closed, D.er, D.cL, D.erL]; done) | (simp_all [D.closed, D.er, D.cL, D.erL] <;> omega)
 iterate 2
  ·rw [r2 (by omega)]; repeat' (first | with_reducible (apply swq; constructor) | simp only [go_sem, seval, P39, q39] | with_reducible intro _)
   all_goals first | omega | (simp_all [D.closed, D.er, D.cL, D.erL]; done) | (simp_all [D.closed, D.er, D.cL, D.erL] <;> omega)
 ·rw [r3 h]
  have t1 : (op == 5) = false := by simp; omega
  have t2 : (op == 6) = false := by simp; omega
  have t3 : (op == 7) = false := by simp; omega
  have t4 : (op == 8) = false := by simp; omega
  repeat' (first | with_reducible (apply swq; constructor) | simp only [go_sem, seval, P39, q39, t1, t2, t3, t4] | with_reducible intro _)
  all_goals first | omega | (simp_all [D.closed, D.er, D.cL, D.erL]; done) | (simp_all [D.closed, D.er, D.cL, D.erL] <;> omega)
theorem nd_le : ∀ (k u : Nat), u < 10 ^ (k + 1) → Lib.nDigits u ≤ k + 1
 | 0, u, h => by rw [Lib.nDigits_small (by simpa using h)]; omega
 | k + 1, u, h => by
   by_cases hu : u < 10
   ·rw [Lib.nDigits_small hu]; omega
   ·rw [Lib.nDigits_big hu]
    have := nd_le k (u / 10) (by rw [Nat.pow_succ] at h; omega)
    omega
theorem itoa_len {n : Int} (h0 : 0 ≤ n) (h1 : n ≤ 9999999) : (Lib.itoa n).length ≤ 20 := by
 unfold Lib.itoa
 rw [if_neg (by omega), Lib.decDigits_length]
 have := nd_le 7 n.toNat (by omega)
 omega
theorem wr_mk_len (op n least : Int) (ts : List Tx) (h0 : 0 ≤ n) (h1 : n ≤ 9999999) : (parW (rankF op) least (bodyW op n ts)).length ≤ 24 + (ts.getD 0 []).length + (ts.getD 1 []).length + (ts.getD 2 []).length := by
 have hi := itoa_len h0 h1
 have hb : (bodyW op n ts).length ≤ 22 + (ts.getD 0 []).length + (ts.getD 1 []).length + (ts.getD 2 []).length := by
  unfold bodyW symF
  repeat' split
  all_goals first | omega | (simp only [List.length_append, tKm, tCy, tLd, tMin, tMax, tIf, List.length_cons, List.length_nil]; omega)
 unfold parW
 split
 ·simp only [List.length_append, List.length_cons, List.length_nil]; omega
 ·omega
theorem wr_len : ∀ (k : Nat) (f : F), f.nodes ≤ k → f.well = true → ∀ least, (wr f least).length ≤ 24 * f.nodes
 | 0, f, hk, _, _ => by have := zBe f; omega
 | k + 1, .mk op n ks, hk, hw, least => by
   obtain ⟨hkw, o1, o2, n1, n2, hc⟩ := zB9 hw
   have ih : ∀ y ∈ ks, ∀ least, (wr y least).length ≤ 24 * y.nodes := fun y hy => wr_len k y (by have := zAx (f := .mk op n ks) hy; omega) (hkw y hy)
   simp only [wr]
   refine Nat.le_trans (wr_mk_len op n least _ n1 n2) ?_
   rcases hc with ⟨g1, rfl⟩ | ⟨g1, g2, a, b, rfl⟩ | ⟨rfl, a, b, c, rfl⟩
   ·simp [F.nodes, F.nodesL, wrL]
   ·have h1 := ih a (by simp)
    have h2 := ih b (by simp)
    simp only [F.nodes, F.nodesL]
    split
    ·have := h1 0; have := h2 0; simp [wrL]; omega
    ·have := h1 (rankF op); have := h2 (rankF op + 1); simp [wrL]; omega
   ·have h1 := ih a (by simp) 0
    have h2 := ih b (by simp) 0
    have h3 := ih c (by simp) 0
    simp only [F.nodes, F.nodesL]
    rw [if_pos (by rfl)]
    simp [wrL]; omega
theorem sym_len (op : Int) : (symF op).length = 1 := by
 unfold symF
 split
 ·rfl
 split
 ·rfl
 split <;> rfl
theorem wrL2 (r0 r1 : Int) (a b : F) : wrL r0 r1 [a, b] = [wr a r0, wr b r1] := by simp [wrL]
theorem wrL3 (a b c : F) : wrL 0 0 [a, b, c] = [wr a 0, wr b 0, wr c 0] := by simp [wrL]
theorem sym_cut {op : Int} (h1 : 5 ≤ op) (h2 : op ≤ 8) : ((([43, 45, 42, 47] : Tx).take (op - 5 + 1).toNat).drop (op - 5).toNat) = symF op := by
 have : op = 5 ∨ op = 6 ∨ op = 7 ∨ op = 8 := by omega
 rcases this with rfl | rfl | rfl | rfl <;> rfl
set_option maxHeartbeats 4000000 in
theorem write_p : ∀ (k : Nat) (f : F), f.nodes ≤ k → f.nodes ≤ 60 → f.well = true → ∀ least : Int, -100 ≤ least → least ≤ 100 → Pur M 19 [f.d, .int .i64 least] (.str (wr f least))
 | 0, f, hk, _, _, _, _, _ => by have := zBe f; omega
 | k + 1, .mk op n ks, hk, h60, hw, least, hl1, hl2 => by
   obtain ⟨hkw, o1, o2, n1, n2, hc⟩ := zB9 hw
   have ih : ∀ y ∈ ks, ∀ least : Int, -100 ≤ least → least ≤ 100 → Pur M 19 [y.d, .int .i64 least] (.str (wr y least)) := fun y hy => write_p k y (by have := zAx (f := .mk op n ks) hy; omega) (by have := zAx (f := .mk op n ks) hy; omega) (hkw y hy)
   have hle : ∀ y ∈ ks, ∀ least, (wr y least).length ≤ 1440 := fun y hy least => by
    have := wr_len y.nodes y (Nat.le_refl _) (hkw y hy) least
    have := zAx (f := .mk op n ks) hy
    omega
   have cr := rank_p op
   obtain ⟨r1, r2, r3⟩ := rank_cases op
   refine k19.ok (C := C19) rfl rfl ?_
   rw [i19]
   unfold c19
   rw [F.d_mk]
   simp only [wr]
   unfold parW
   rcases hc with ⟨g1, rfl⟩ | ⟨g1, g2, a, b, rfl⟩ | ⟨rfl, a, b, c, rfl⟩
   ·have hr := r3 (by omega)
    rw [hr] at cr ⊢
    by_cases hlt : 2 < least
    ·have hd : decide (2 < least) = true := by simp [hlt]
     rw [if_pos hlt]
     have : op = 1 ∨ op = 2 ∨ op = 3 ∨ op = 4 := by omega
     rcases this with rfl | rfl | rfl | rfl
     ·have c1 := itoa_p n (by omega) (by omega)
      have hi := itoa_len n1 n2
      have e : bodyW 1 n (if (2 : Int) = 2 then wrL 0 0 [] else wrL 2 (2 + 1) []) = Lib.itoa n := rfl
      rw [e]
      generalize Lib.itoa n = t at *
      have wQ := @hi; repeat' (first | with_reducible (apply swq; constructor) | simp only [go_sem, seval, P19, q19, hd] | ((with_reducible refine zAb (c1) ?he ?hc ?_); (case he | hc => exact sc wQ)) | ((with_reducible refine zAb (cr) ?he ?hc ?_); (case he | hc => exact sc wQ)) | ((with_reducible refine And.intro ?hw ?_); (case hw => exact sw wQ)) | with_reducible intro _)
      all_goals first | omega | (simp_all [D.closed, D.er, D.cL, D.erL]; done) | (simp_all [D.closed, D.er, D.cL, D.erL] <;> omega)
     all_goals
      have wQ := tw; repeat' (first | with_reducible (apply swq; constructor) | simp only [go_sem, seval, P19, q19, hd] | ((with_reducible refine zAb (cr) ?he ?hc ?_); (case he | hc => exact sc wQ)) | with_reducible intro _)
      all_goals simp [D.closed, D.er, bodyW, tKm, tCy, tLd]
    ·have hd : decide (2 < least) = false := by simp; omega
     rw [if_neg hlt]
     have : op = 1 ∨ op = 2 ∨ op = 3 ∨ op = 4 := by omega
     rcases this with rfl | rfl | rfl | rfl
     ·have c1 := itoa_p n (by omega) (by omega)
      have hi := itoa_len n1 n2
      have e : bodyW 1 n (if (2 : Int) = 2 then wrL 0 0 [] else wrL 2 (2 + 1) []) = Lib.itoa n := rfl
      rw [e]
      generalize Lib.itoa n = t at *
      have wQ := @hi; repeat' (first | with_reducible (apply swq; constructor) | simp only [go_sem, seval, P19, q19, hd] | ((with_reducible refine zAb (c1) ?he ?hc ?_); (case he | hc => exact sc wQ)) | ((with_reducible refine zAb (cr) ?he ?hc ?_); (case he | hc => exact sc wQ)) | with_reducible intro _)
      all_goals first | omega | (simp_all [D.closed, D.er, D.cL, D.erL]; done) | (simp_all [D.closed, D.er, D.cL, D.erL] <;> omega)
     all_goals
      have wQ := tw; repeat' (first | with_reducible (apply swq; constructor) | simp only [go_sem, seval, P19, q19, hd] | ((with_reducible refine zAb (cr) ?he ?hc ?_); (case he | hc => exact sc wQ)) | with_reducible intro _)
      all_goals simp [D.closed, D.er, bodyW, tKm, tCy, tLd]
   ·have hka := zAd a.kids
    have hkb := zAd b.kids
    have hea := erL_F a.kids
    have heb := erL_F b.kids
    have i1 := ih a (by simp)
    have i2 := ih b (by simp)
    have l1 := hle a (by simp)
    have l2 := hle b (by simp)
    rw [F.d_eq] at i1 i2
    simp only [List.map_cons, List.map_nil, F.d_eq]
    by_cases h8 : op ≤ 8
    ·have hsy := sym_cut g1 h8
     have hsl := sym_len op
     have hrr : rankF op = 0 ∨ rankF op = 1 := by
      by_cases q : op = 5 ∨ op = 6
      ·exact .inl (r1 q)
      ·exact .inr (r2 (by omega))
     have hne : ¬ rankF op = 2 := by omega
     have t1 : (op == 1) = false := by simp; omega
     have t2 : (op == 2) = false := by simp; omega
     have t3 : (op == 3) = false := by simp; omega
     have t4 : (op == 4) = false := by simp; omega
     have t5 : (op == 9) = false := by simp; omega
     have t6 : (op == 10) = false := by simp; omega
     have t7 : (op == 11) = false := by simp; omega
     have e : bodyW op n (if rankF op = 2 then wrL 0 0 [a, b] else wrL (rankF op) (rankF op + 1) [a, b]) = (((wr a (rankF op) ++ [32]) ++ symF op) ++ [32]) ++ wr b (rankF op + 1) := by
      rw [if_neg hne, wrL2]
      unfold bodyW
      rw [if_neg (by omega), if_neg (by omega), if_neg (by omega), if_neg (by omega), if_neg (by omega), if_neg (by omega), if_neg (by omega)]
      rfl
     rw [e]
     have i1 := i1 (rankF op) (by omega) (by omega)
     have i2 := i2 (rankF op + 1) (by omega) (by omega)
     have l1 := l1 (rankF op)
     have l2 := l2 (rankF op + 1)
     generalize rankF op = rk at *
     generalize wr a rk = ta at *
     generalize wr b (rk + 1) = tb at *
     generalize symF op = sy at *
     by_cases hlt : rk < least
     ·have hd : decide (rk < least) = true := by simp [hlt]
      rw [if_pos hlt]
      have wQ := And.intro @hka (And.intro @hkb (And.intro @hea (And.intro @heb (And.intro @hsl (And.intro @l1 @l2))))); repeat' (first | with_reducible (apply swq; constructor) | simp only [go_sem, seval, P19, q19, hd, t1, t2, t3, t4, t5, t6, t7, hsy] | simp (disch := omega) only [wA] | ((with_reducible refine zAq (i1) ?he ?hc ?_); (case he | hc => exact sc wQ)) | ((with_reducible refine zD7 (i2) ?he ?hc ?_); (case he | hc => exact sc wQ)) | ((with_reducible refine zAb (cr) ?he ?hc ?_); (case he | hc => exact sc wQ)) | ((with_reducible refine And.intro ?hw ?_); (case hw => exact sw wQ)) | with_reducible intro _)
      all_goals try (exfalso; omega)
      all_goals simp [D.closed, D.er]
     ·have hd : decide (rk < least) = false := by simp; omega
      rw [if_neg hlt]
      have wQ := And.intro @hka (And.intro @hkb (And.intro @hea (And.intro @heb (And.intro @hsl (And.intro @l1 @l2))))); repeat' (first | with_reducible (apply swq; constructor) | simp only [go_sem, seval, P19, q19, hd, t1, t2, t3, t4, t5, t6, t7, hsy] | simp (disch := omega) only [wA] | ((with_reducible refine zAq (i1) ?he ?hc ?_); (case he | hc => exact sc wQ)) | ((with_reducible refine zD7 (i2) ?he ?hc ?_); (case he | hc => exact sc wQ)) | ((with_reducible refine zAb (cr) ?he ?hc ?_); (case he | hc => exact sc wQ)) | ((with_reducible refine And.intro ?hw ?_); (case hw => exact sw wQ)) | with_reducible intro _)
      all_goals try (exfalso; omega)
      all_goals simp [D.closed, D.er]
    ·have hr := r3 (by omega)
     rw [hr] at cr ⊢
     have i1 := i1 0 (by omega) (by omega)
     have i2 := i2 0 (by omega) (by omega)
     have l1 := l1 0
     have l2 := l2 0
     have : op = 9 ∨ op = 10 := by omega
     rw [if_pos rfl, wrL2]
     generalize wr a 0 = ta at *
     generalize wr b 0 = tb at *
     by_cases hlt : 2 < least
     ·have hd : decide (2 < least) = true := by simp [hlt]
      rw [if_pos hlt]
      rcases this with rfl | rfl
      all_goals
       have wQ := And.intro @hka (And.intro @hkb (And.intro @hea (And.intro @heb (And.intro @l1 @l2)))); repeat' (first | with_reducible (apply swq; constructor) | simp only [go_sem, seval, P19, q19, hd] | ((with_reducible refine zAq (i1) ?he ?hc ?_); (case he | hc => exact sc wQ)) | ((with_reducible refine zD7 (i2) ?he ?hc ?_); (case he | hc => exact sc wQ)) | ((with_reducible refine zAb (cr) ?he ?hc ?_); (case he | hc => exact sc wQ)) | ((with_reducible refine And.intro ?hw ?_); (case hw => exact sw wQ)) | with_reducible intro _)
       all_goals try (exfalso; omega)
       all_goals simp [D.closed, D.er, bodyW, tMin, tMax]
     ·have hd : decide (2 < least) = false := by simp; omega
      rw [if_neg hlt]
      rcases this with rfl | rfl
      all_goals
       have wQ := And.intro @hka (And.intro @hkb (And.intro @hea (And.intro @heb (And.intro @l1 @l2)))); repeat' (first | with_reducible (apply swq; constructor) | simp only [go_sem, seval, P19, q19, hd] | ((with_reducible refine zAq (i1) ?he ?hc ?_); (case he | hc => exact sc wQ)) | ((with_reducible refine zD7 (i2) ?he ?hc ?_); (case he | hc => exact sc wQ)) | ((with_reducible refine zAb (cr) ?he ?hc ?_); (case he | hc => exact sc wQ)) | ((with_reducible refine And.intro ?hw ?_); (case hw => exact sw wQ)) | with_reducible intro _)
       all_goals try (exfalso; omega)
       all_goals simp [D.closed, D.er, bodyW, tMin, tMax]
   ·have hka := zAd a.kids
    have hkb := zAd b.kids
    have hkc := zAd c.kids
    have hea := erL_F a.kids
    have heb := erL_F b.kids
    have hec := erL_F c.kids
    have i1 := ih a (by simp) 0 (by omega) (by omega)
    have i2 := ih b (by simp) 0 (by omega) (by omega)
    have i3 := ih c (by simp) 0 (by omega) (by omega)
    have l1 := hle a (by simp) 0
    have l2 := hle b (by simp) 0
    have l3 := hle c (by simp) 0
    rw [F.d_eq] at i1 i2 i3
    simp only [List.map_cons, List.map_nil, F.d_eq]
    have hr := r3 (by omega)
    rw [hr] at cr ⊢
    rw [if_pos rfl, wrL3]
    generalize wr a 0 = ta at *
    generalize wr b 0 = tb at *
    generalize wr c 0 = tc at *
    by_cases hlt : 2 < least
    ·have hd : decide (2 < least) = true := by simp [hlt]
     rw [if_pos hlt]
     have wQ := And.intro @hka (And.intro @hkb (And.intro @hkc (And.intro @hea (And.intro @heb (And.intro @hec (And.intro @l1 (And.intro @l2 @l3))))))); repeat' (first | with_reducible (apply swq; constructor) | simp only [go_sem, seval, P19, q19, hd] | ((with_reducible refine zAq (i1) ?he ?hc ?_); (case he | hc => exact sc wQ)) | ((with_reducible refine zAq (i2) ?he ?hc ?_); (case he | hc => exact sc wQ)) | ((with_reducible refine zD7 (i3) ?he ?hc ?_); (case he | hc => exact sc wQ)) | ((with_reducible refine zAb (cr) ?he ?hc ?_); (case he | hc => exact sc wQ)) | ((with_reducible refine And.intro ?hw ?_); (case hw => exact sw wQ)) | with_reducible intro _)
     all_goals try (exfalso; omega)
     all_goals simp [D.closed, D.er, bodyW, tIf]
    ·have hd : decide (2 < least) = false := by simp; omega
     rw [if_neg hlt]
     have wQ := And.intro @hka (And.intro @hkb (And.intro @hkc (And.intro @hea (And.intro @heb (And.intro @hec (And.intro @l1 (And.intro @l2 @l3))))))); repeat' (first | with_reducible (apply swq; constructor) | simp only [go_sem, seval, P19, q19, hd] | ((with_reducible refine zAq (i1) ?he ?hc ?_); (case he | hc => exact sc wQ)) | ((with_reducible refine zAq (i2) ?he ?hc ?_); (case he | hc => exact sc wQ)) | ((with_reducible refine zD7 (i3) ?he ?hc ?_); (case he | hc => exact sc wQ)) | ((with_reducible refine zAb (cr) ?he ?hc ?_); (case he | hc => exact sc wQ)) | ((with_reducible refine And.intro ?hw ?_); (case hw => exact sw wQ)) | with_reducible intro _)
     all_goals try (exfalso; omega)
     all_goals simp [D.closed, D.er, bodyW, tIf]
def textF (f : F) : Tx := if f.valid then wr f 0 else []
theorem text_p (f : F) : Pur M 6 [f.d] (.tup [.str (textF f), .int .i64 (if f.valid then 0 else 1)]) := by
 refine k6.ok (C := C6) rfl rfl ?_
 rw [i6]
 unfold c6
 have c1 := valid_p f
 have hck := zAd f.kids
 have hek := erL_F f.kids
 unfold textF
 cases hv : f.valid
 ·rw [hv] at c1
  rw [F.d_eq] at c1 ⊢
  have wQ := And.intro @hck @hek; repeat' (first | with_reducible (apply swq; constructor) | simp only [go_sem, seval, P6, q6] | ((with_reducible refine zAb (c1) ?he ?hc ?_); (case he | hc => exact sc wQ)) | with_reducible intro _)
  all_goals first | omega | (simp_all [D.closed, D.er, D.cL, D.erL, hck, hek]; done) | (simp_all [D.closed, D.er, D.cL, D.erL, hck, hek] <;> omega)
 ·rw [hv] at c1
  have hv2 := valid_iff.1 hv
  have c2 := write_p f.nodes f (Nat.le_refl _) hv2.1 hv2.2 0 (by omega) (by omega)
  simp only [if_true]
  rw [F.d_eq] at c1 c2 ⊢
  generalize wr f 0 = t at *
  have wQ := And.intro @hck @hek; repeat' (first | with_reducible (apply swq; constructor) | simp only [go_sem, seval, P6, q6] | ((with_reducible refine zAb (c1) ?he ?hc ?_); (case he | hc => exact sc wQ)) | ((with_reducible refine zAb (c2) ?he ?hc ?_); (case he | hc => exact sc wQ)) | with_reducible intro _)
  all_goals first | omega | (simp_all [D.closed, D.er, D.cL, D.erL, hck, hek]; done) | (simp_all [D.closed, D.er, D.cL, D.erL, hck, hek] <;> omega)
end Go.Proofs.YtkjnhkoipgdfeaaGreatDoor
end
section
set_option maxRecDepth 100000
set_option linter.unusedSimpArgs false
set_option linter.unusedVariables false
namespace Go.Proofs.YtkjnhkoipgdfeaaGreatDoor
open Go GoV Go.RowKit
theorem text1 : textF F1 = ex1 := by
 have hv : F1.valid = true := by decide +kernel
 have i1 : Lib.itoa 200 = [50, 48, 48] := by decide +kernel
 have i2 : Lib.itoa 100 = [49, 48, 48] := by decide +kernel
 have i3 : Lib.itoa 0 = [48] := by decide +kernel
 unfold textF
 rw [hv]
 simp [F1, wr, wrL, parW, bodyW, rankF, symF, tKm, tCy, tLd, tMin, tMax, tIf, ex1, i1, i2, i3]
theorem val1 : valueF F1 1000 3 500 = 1009 := by decide +kernel
theorem dam1 : zD2 F1 ⟨(1000, 1000), (3, 4), (150, 500)⟩ = (1000, 1012) := by decide +kernel
theorem dam2 : zD2 F2 ⟨(7, 7), (0, 0), (5, 20)⟩ = (0, 7) := by decide +kernel
set_option maxHeartbeats 1000000 in
theorem head_p : Pur M 4 [] (.bool true) := by
 refine k4.ok (C := C4) rfl rfl ?_
 rw [i4]
 unfold c4
 have c1 := parse1_p
 have c2 := parse2_p
 have c3 := text_p F1
 have c4 := value_p F1 1000 3 500
 have c5 := damage_p F1 ⟨(1000, 1000), (3, 4), (150, 500)⟩
 have c6 := damage_p F2 ⟨(7, 7), (0, 0), (5, 20)⟩
 have hv : F1.valid = true := by decide +kernel
 rw [text1, hv] at c3
 simp only [if_true] at c3
 rw [val1] at c4
 rw [dam1] at c5
 rw [dam2] at c6
 have o1 := of_p 1000 1000
 have o2 := of_p 3 4
 have o3 := of_p 150 500
 have o4 := of_p 1000 1012
 have o5 := of_p 7 7
 have o6 := of_p 5 20
 have o7 := of_p 0 7
 have hk1 := zAd F1.kids
 have hk2 := zAd F2.kids
 have he1 := erL_F F1.kids
 have he2 := erL_F F2.kids
 rw [F.d_eq] at c1 c2 c3 c4 c5 c6
 simp only [ex1] at c1 c3
 simp only [ex2] at c2
 have b1 : ((1009 : Int) == 1009) = true := rfl
 have w1 : ivD (1000, 1000) = .agg [.int .i64 1000, .int .i64 1000] := rfl
 have wQ := And.intro @hk1 (And.intro @hk2 (And.intro @he1 @he2)); repeat' (first | with_reducible (apply swq; constructor) | simp only [go_sem, seval, P4, q4, beq_self_eq_true, b1, F.cells] | ((with_reducible refine zAb (c1) ?he ?hc ?_); (case he | hc => exact sc wQ)) | ((with_reducible refine zAb (c2) ?he ?hc ?_); (case he | hc => exact sc wQ)) | ((with_reducible refine zAb (c3) ?he ?hc ?_); (case he | hc => exact sc wQ)) | ((with_reducible refine zAb (c4) ?he ?hc ?_); (case he | hc => exact sc wQ)) | ((with_reducible refine zD7 (c5) ?he ?hc ?_); (case he | hc => exact sc wQ)) | ((with_reducible refine zAb (c6) ?he ?hc ?_); (case he | hc => exact sc wQ)) | ((with_reducible refine zAq (o1) ?he ?hc ?_); (case he | hc => exact sc wQ)) | ((with_reducible refine zAq (o2) ?he ?hc ?_); (case he | hc => exact sc wQ)) | ((with_reducible refine zAq (o3) ?he ?hc ?_); (case he | hc => exact sc wQ)) | ((with_reducible refine zD7 (o4) ?he ?hc ?_); (case he | hc => exact sc wQ)) | ((with_reducible refine zAq (o5) ?he ?hc ?_); (case he | hc => exact sc wQ)) | ((with_reducible refine zAq (o6) ?he ?hc ?_); (case he | hc => exact sc wQ)) | ((with_reducible refine zAb (o7) ?he ?hc ?_); (case he | hc => exact sc wQ)) | with_reducible intro _)
end Go.Proofs.YtkjnhkoipgdfeaaGreatDoor
end
section
set_option maxRecDepth 100000
set_option linter.unusedSimpArgs false
set_option linter.unusedVariables false
namespace Go.Proofs.YtkjnhkoipgdfeaaGreatDoor
open Go GoV Go.RowKit
abbrev Pb (e p : Int) : D → Hp → Prop := fun d _ => d = probD e p
theorem need_x (w : Tx) (l : List Tok) (hl : l.length ≤ 100000) (en e p : Int) (h : gotN 4 [w] l = none) (hf : failP en l = .no e p) : Xff M 79 [.ptr 0 0, .str w] (hpP l en) (Pb e p) := by
 refine zB8 (C := E79 1 0) (fn := Tryz.f79) Tryz.func79 (by kernel_rfl) (by kernel_rfl) (rc := c79) z79 (by kernel_rfl) rfl (by rw [show ([D.ptr 0 0, D.str w] : List D).length = 2 from rfl]; decide) rfl rfl ?_ rfl (fun _ _ => trivial)
 rw [ie79]
 unfold c79
 have c1 := got_e 4 [w] (by simp) l hl en
 obtain ⟨e1, e2⟩ := zDm h
 rw [e1, e2] at c1
 have e3 : strs [w] = [.str w] := rfl
 rw [e3] at c1
 have hd : decide ((-1 : Int) < 0) = true := rfl
 have cx := fail_x l hl en e p hf
 unfold hpP at c1 cx ⊢
 generalize tokL l = L at *
 have wQ := tw; repeat' (first | with_reducible (apply swq; constructor) | simp only [go_sem, seval, zAy, pe79, q79, hd] | ((with_reducible refine o_same (zAm c1 _) ?he ?hh ?_); (case he | hh => exact sh wQ)) | ((with_reducible refine o_pan [0] [] (zBc cx _) ?hs ?he ?hh ?hk); (case hs => exact so); (case he | hh => exact sh wQ); (case hk => intro _ _ q; subst q; first | rfl | apply hPan | (simp [go_sem, seval]; done))) | ((with_reducible apply s_bsl); (case he | hl | hc => exact sd wQ)) | with_reducible intro _)
def OpX (f : FuncId) (op : List Tok → PR) (en : Int) (N K : Nat) : Prop := ∀ l e p, l.length ≤ N → l.length < K → GoodT l → op l = .no e p → Xff M f [.ptr 0 0] (hpP l en) (Pb e p)
theorem reg45x {C : Cfg} {F0 : FuncId} {g : F} {lt : List Tok} {en first : Int} {i : Nat} (hf : -1000 ≤ first) (hf2 : first ≤ 1000) (hi : i ≤ 10) {e : List D}
 (he1 : e[1]? = some (.int .i64 first)) (he2 : e[2]? = some (.fn (.func F0) [.ptr 0 0] [])) (he5 : e[5]? = some (.ptr 2 0)) (he6 : e[6]? = some (.int .i64 (i : Nat))) {e' p' : Int}
 (hc : Xff C.M F0 [.ptr 0 0] (hpP lt en) (Pb e' p')) (hP : ∀ hp, C.M.pan (probD e' p') hp) (Q : Ex → St → Prop) :
 SWp C (.regD r43_5 r43_6) Q ⟨e, [], ⟨[.cells [.slice (tokL lt) .no, .int .i64 en], .cells [.int .i64 0, .int .i64 0, .lit (.slice none 0 0)], .cells g.cells], []⟩⟩ := by
 obtain ⟨F, hF⟩ : ∃ F : (Nat → Bool) → Hp, F = fun E => ⟨[.cells [.slice (tokL lt) .no, .int .i64 en], .cells [.int .i64 0, .int .i64 0, .lit (.slice none 0 0)], .cells g.cells], if E 5 then [.per 0 0] else []⟩ := ⟨_, rfl⟩
 have still : ∀ i, i ≠ 5 → Still F i := fun i h E _ => by
  have : (5 == i) = false := by rw [beq_eq_false_iff_ne]; omega
  simp [hF, this]
 have hgd := g.d_eq
 refine swp_regP F (by simp [hF]) ?_
 refine y_q (ds := [.int .i64 first]) (.int .i64 first) (by simp [go_sem, he1]) (still _ (by decide)) (fun _ => by simp [OcWp, zAa, isPan, opWp]) ?_
 refine y_q (ds := [.int .i64 (i : Nat)]) (.int .i64 (i : Nat)) (by simp [go_sem, he6]) (still _ (by decide)) (fun _ => by simp [OcWp, zAa, isPan, opWp]) ?_
 refine y_q (ds := [.int .i64 first, .int .i64 (i : Nat)]) (.int .i64 (first + i)) (by simp [go_sem]) (still _ (by decide)) (fun _ => by
  simp only [OcWp, zAa, isPan, opWp, binWp, Bool.false_eq_true, if_false]
  rw [w64 (by omega) (by omega)]; simp) ?_
 refine y_c (ds := [.ptr 2 0]) (d := .agg g.cells) (by simp [go_sem, he5]) (fun E hE => ?_) ?_
 ·rw [still 3 (by decide) E hE]; simp [hF, OcWp, zAa, isPan, opWp, Blk.csq]
 refine y_q (ds := [.fn (.func F0) [.ptr 0 0] []]) (.fn (.func F0) [.ptr 0 0] []) (by simp [go_sem, he2]) (still _ (by decide)) (fun _ => by simp [OcWp, zAa, isPan, opWp]) ?_
 refine y_c (ds := [.fn (.func F0) [.ptr 0 0] []]) (d := g.d) (by simp [go_sem]) ?_ ?_
 ·refine any_pan (ds := []) [0] [] hc (fun E hE => by simp only [hF, hE]; rfl) ⟨by simp, by simp, by simp, by simp⟩ (by simp [D.rnL, D.rn, posF, idx]) (by simp [hpP, Hp.sel, Blk.rnL, Blk.rn, Tv.rnL, D.rnL, D.rn, zAc, Own.rn]) ?_
  intro d hp1 hd
  subst hd
  exact hP _
 have hva := zD5 g
 have hca := cl_F g
 refine y_q (ds := [.agg g.cells, g.d]) (.slice [g.d, g.d] .full) (by simp [go_sem]) (still _ (by decide)) (fun _ => by
  rw [← hgd]
  simp [OcWp, zAa, isPan, opWp, zAk, hva, D.cL, hca, D.erL, er_F]) ?_
 refine y_end (hp' := ⟨[.cells [.slice (tokL lt) .no, .int .i64 en], .cells [.int .i64 0, .int .i64 0, .lit (.slice none 0 0)], .cells g.cells], [.per 0 0]⟩) (by simp [hF]) ?_
 simp only [go_sem, he1, he2, he5, he6]
 simp [go_sem, he1, he2, he5, he6, setL, D.iV, D.cells, St.done, fillL]
 exact ⟨0, rfl⟩
set_option maxHeartbeats 2000000 in
theorem chain_x {F0 : FuncId} {op : List Tok → PR} {en : Int} {N K : Nat} (hop : OpOk F0 op en N) (hx : OpX F0 op en N K) (hN : N ≤ 100000) (first : Int) (hf : -1000 ≤ first) (hf2 : first ≤ 1000) (a b : Tx) : ∀ l e p, l.length ≤ N → l.length < K → GoodT l → zFb op first a b l = .no e p →
 Xff M 43 [.ptr 0 0, .int .i64 first, .fn (.func F0) [.ptr 0 0] [], .slice (strs [a, b]) .full] (hpP l en) (Pb e p) := by
 intro l e p hl hK hG hch
 refine zB8 (C := E43 1 0) (fn := Tryz.f43) Tryz.func43 (by kernel_rfl) (by kernel_rfl) (rc := c43) z43 (by kernel_rfl) rfl (by rw [show ([D.ptr 0 0, .int .i64 first, .fn (.func F0) [.ptr 0 0] [], .slice (strs [a, b]) .full] : List D).length = 4 from rfl]; decide) rfl rfl ?_ rfl (fun _ _ => trivial)
 rw [ie43]
 unfold c43
 have e3 : strs [a, b] = [.str a, .str b] := rfl
 unfold zFb thenP at hch
 cases hol : op l with
 | no e1 p1 =>
   rw [hol] at hch
   cases hch
   have cx := hx l e p hl hK hG hol
   unfold hpP at cx ⊢
   have wQ := @zAc; repeat' (first | with_reducible (apply swq; constructor) | simp only [go_sem, seval, zAy, pe43, q43, e3] | ((with_reducible refine o_pan [0] [] (zBc cx _) ?hs ?he ?hh ?hk); (case hs => exact so); (case he | hh => exact sh wQ); (case hk => intro _ _ q; subst q; first | rfl | apply hPan | (simp [go_sem, seval, zAc]; done))) | with_reducible intro _)
 | ok f0 r0 =>
   rw [hol] at hch
   simp only at hch
   obtain ⟨c0, hr0, hs0⟩ := hop l f0 r0 hl hG hol
   have hfd := f0.d_eq
   have hrn := fun β τ => rnL_F β τ f0.kids
   rw [hfd] at c0
   obtain ⟨RA, hRA⟩ : ∃ R, R = (RC.regD r43_5 r43_6) := ⟨_, rfl⟩
   rw [← hRA]
   unfold hpP at c0 ⊢
   have wQ := And.intro @zAc @hrn; repeat' (first | with_reducible (apply swq; constructor) | simp only [go_sem, seval, zAy, pe43, q43, e3] | ((with_reducible refine o_eff [0] [] (zAm c0 _) ?hs ?he ?hh ?_); (case hs => exact so); (case he | hh => exact sh wQ); try rintro _ _ ⟨rfl, rfl⟩) | with_reducible intro _)
   refine zAu [0, 1, 2, 3, 4, 5] (fun x : F × List Tok × Nat => ⟨[.ptr 0 0, .int .i64 first, .fn (.func F0) [.ptr 0 0] [], .slice (strs [a, b]) .full, .ptr 1 0, .ptr 2 0, .u0, .u0], [], ⟨[.cells [.slice (tokL x.2.1) .no, .int .i64 en], .cells [.int .i64 0, .int .i64 0, .lit (.slice none 0 0)], .cells x.1.cells], []⟩⟩)
    (fun x => loopP op first a b x.2.2 x.1 x.2.1 = .no e p ∧ x.2.1.length ≤ x.2.2 ∧ x.2.1.length ≤ N ∧ x.2.1.length < K ∧ GoodT x.2.1) (fun x => x.2.2) (f0, r0, r0.length) ⟨hch, Nat.le_refl _, by simp only; omega, by simp only; omega, hG.suf hs0⟩ ?_ ?_
   ·simp [keepE, St.keep, e3]
   ·rintro ⟨f, l', k⟩ ⟨h1, h2, h3, h3', h4⟩
    simp only at h1 h2 h3 h3' h4 ⊢
    have c1 := got_e 4 [a, b] (by simp) l' (by omega) en
    rw [e3] at c1 ⊢
    have hrn2 := fun β τ => rnL_F β τ f.kids
    have hcl := zAd f.kids
    have her := erL_F f.kids
    cases hgn : gotN 4 [a, b] l' with
    | none =>
      exfalso
      cases k with
      | zero => simp only [loopP] at h1; cases h1
      | succ k => simp only [loopP, hgn] at h1; cases h1
    | some i =>
      obtain ⟨t, lt, rfl, n1, n2, n3, n4, n5⟩ := zBh hgn
      rw [n1, n2] at c1
      obtain ⟨k, rfl⟩ : ∃ k', k = k' + 1 := ⟨k - 1, by simp only [List.length_cons] at h2; omega⟩
      simp only [loopP, hgn, List.tail_cons, thenP] at h1
      simp only [List.length_cons] at h2 h3 h3'
      have hd : decide ((i : Int) < 0) = false := by simp
      have hGt : GoodT lt := h4.suf (List.suffix_cons _ _)
      cases ho2 : op lt with
      | no e2 p2 =>
        rw [ho2] at h1
        cases h1
        have cx := hx lt e p (by omega) (by omega) hGt ho2
        have cx' : Xff ((E43 1 0).pans (Pb e p)).M F0 [.ptr 0 0] (hpP lt en) (Pb e p) := by rw [zAy, pe43]; exact zBc cx _
        unfold hpP at c1
        have wQ := And.intro @zAc @hrn2; repeat' (first | with_reducible (apply swq; constructor) | simp only [go_sem, seval, zAy, pe43, q43, hd] | ((with_reducible refine o_eff [0] [] (zAm c1 _) ?hs ?he ?hh ?_); (case hs => exact so); (case he | hh => exact sh wQ); try rintro _ _ ⟨rfl, rfl⟩) | with_reducible intro _)
        subst hRA
        exact reg45x hf hf2 (by simp at n3; omega) rfl rfl rfl rfl cx' (fun _ => rfl) _
      | ok f2 r2 =>
        rw [ho2] at h1
        simp only at h1
        obtain ⟨c2, q1, q2⟩ := hop lt f2 r2 (by omega) hGt ho2
        have c2' : Eff ((E43 1 0).pans (Pb e p)).M F0 [.ptr 0 0] (hpP lt en) fun d hp => d = f2.d ∧ hp = hpP r2 en := by rw [zAy, pe43]; exact zAm c2 _
        unfold hpP at c1
        have wQ := And.intro @zAc @hrn2; repeat' (first | with_reducible (apply swq; constructor) | simp only [go_sem, seval, zAy, pe43, q43, hd] | ((with_reducible refine o_eff [0] [] (zAm c1 _) ?hs ?he ?hh ?_); (case hs => exact so); (case he | hh => exact sh wQ); try rintro _ _ ⟨rfl, rfl⟩) | with_reducible intro _)
        subst hRA
        refine reg45 hf hf2 (by simp at n3; omega) rfl rfl rfl rfl c2' _ ?_
        refine ⟨_, zEs 2 rfl ?_, ?_⟩
        ·simp [D.cL, D.closed, cl_F]
        ·refine ⟨(.mk (first + i) 0 [f, f2], r2, k), ⟨h1, by simp only; omega, by simp only; omega, by simp only; omega, h4.suf (q2.trans (List.suffix_cons _ _))⟩, by simp only; omega, ?_⟩
         simp [keepE, St.keep, F.cells, F.op, F.num, F.kids, D.erL, D.er]
end Go.Proofs.YtkjnhkoipgdfeaaGreatDoor
end
section
set_option maxRecDepth 100000
set_option linter.unusedSimpArgs false
set_option linter.unusedVariables false
namespace Go.Proofs.YtkjnhkoipgdfeaaGreatDoor
open Go GoV Go.RowKit
theorem reg54_12p {R0 : D → Hp → Prop} {op0 en : Int} {fs : List F} {l' r' : List Tok} {g : F} {R : List D} (hfs : fs.length ≤ 100) {e : List D} (he0 : e[0]? = some (.ptr 0 0)) (he5 : e[5]? = some (.ptr 2 0))
 (hc : Eff M 23 [.ptr 0 0] (hpP l' en) fun d hp => d = g.d ∧ hp = hpP r' en) (Q : Ex → St → Prop)
 (hQ : Q .normal ⟨e, [], ⟨[.cells [.slice (tokL r') .no, .int .i64 en], .cells R, .cells [.int .i64 op0, .int .i64 0, .slice (kidsD (fs ++ [g])) (.tok 0)]], [.per 3 (fs.length + 1)]⟩⟩) :
 SWp ((E66 1 0).pans R0) (.regD r66_12 r66_13) Q ⟨e, [], ⟨[.cells [.slice (tokL l') .no, .int .i64 en], .cells R, .cells [.int .i64 op0, .int .i64 0, .slice (kidsD fs) (.tok 0)]], [.per 3 fs.length]⟩⟩ := by
 have hgd := g.d_eq
 have he5b : e[5]?.getD .u0 = .ptr 2 0 := by rw [he5]; rfl
 have he5c : e.getD 5 .u0 = .ptr 2 0 := by simp [he5]
 obtain ⟨F, hF⟩ : ∃ F : (Nat → Bool) → Hp, F = fun E => ⟨[if E 3 then .cells [.slice (tokL r') .no, .int .i64 en] else .cells [.slice (tokL l') .no, .int .i64 en], .cells R, .cells [.int .i64 op0, .int .i64 0, .slice (kidsD fs) (.tok 0)]], [.per 3 fs.length]⟩ := ⟨_, rfl⟩
 have still : ∀ i, i ≠ 3 → Still F i := fun i h E _ => by
  have : (3 == i) = false := by rw [beq_eq_false_iff_ne]; omega
  simp [hF, this]
 refine zA0 F (by simp [hF]) ?_
 rw [zAy, pe66]
 refine y_q (ds := [.ptr 2 0]) (.ptr 2 2) (by simp [go_sem, he5]) (still _ (by decide)) (fun _ => by simp [OcWp, zAa, isPan, opWp]) ?_
 refine y_c (ds := [.ptr 2 2]) (d := .slice (kidsD fs) (.tok 0)) (by simp [go_sem]) (fun E hE => ?_) ?_
 ·rw [still 1 (by decide) E hE]; simp [hF, OcWp, zAa, isPan, opWp, Blk.csq]
 refine y_q (ds := [.ptr 0 0]) (.ptr 0 0) (by simp [go_sem, he0]) (still _ (by decide)) (fun _ => by simp [OcWp, zAa, isPan, opWp]) ?_
 refine y_c (ds := [.fn (.func 23) [] [], .ptr 0 0]) (d := g.d) (by simp [go_sem]) (fun E hE => ?_) ?_
 ·have hE' : E 3 = false := hE
  simp only [OcWp, zAa, isPan, if_true]
  refine zD3 [0] [] (zAm hc _) ⟨by simp, by simp, by simp [hF], by simp⟩ (by simp [D.rnL, D.rn, posF, idx]) (by simp [hF, hE', hpP, Hp.sel, Blk.rnL, Blk.rn, Tv.rnL, D.rnL, D.rn, zAc, Own.rn]) ?_
  rintro d hp1 ⟨rfl, rfl⟩
  refine ⟨rn_F _ _ _, ?_⟩
  simp [hF, hE', hpP, Hp.back, putAt, Blk.rnL, Blk.rn, Tv.rnL, D.rnL, D.rn, zAc, Own.rn]
 have hva := zD5 g
 have hca := cl_F g
 refine y_q (ds := [g.d]) (.slice [.agg g.cells] .full) (by simp [go_sem]) (still _ (by decide)) (fun _ => by
  rw [← hgd]
  simp [OcWp, zAa, isPan, opWp, zAk, hva, D.cL, hca, D.erL, er_F]) ?_
 refine y_end (hp' := ⟨[.cells [.slice (tokL r') .no, .int .i64 en], .cells R, .cells [.int .i64 op0, .int .i64 0, .slice (kidsD fs) (.tok 0)]], [.per 3 fs.length]⟩) (by simp [hF]) ?_
 have hkl := zB4 fs
 have hel := zBf fs
 have hck := zAd g.kids
 have hek := erL_F g.kids
 have wQ := And.intro @hkl (And.intro @hel (And.intro @hck (And.intro @hek @zA3))); repeat' (first | with_reducible (apply swq; constructor) | simp only [go_sem, seval, zAy, pe66, q66, he5b, he5c, hkl, zA3] | ((with_reducible apply zEg); (case he => rfl); (case hK | hc | hr | hV => exact sd wQ)) | with_reducible intro _)
 all_goals try (exfalso; omega)
 all_goals simpa [zA3, setL, St.done] using hQ
theorem reg54_17p {R0 : D → Hp → Prop} {op0 en : Int} {fs : List F} {l' r' : List Tok} {g : F} {R : List D} (hfs : fs.length ≤ 100) {e : List D} (he0 : e[0]? = some (.ptr 0 0)) (he5 : e[5]? = some (.ptr 2 0))
 (hc : Eff M 23 [.ptr 0 0] (hpP l' en) fun d hp => d = g.d ∧ hp = hpP r' en) (Q : Ex → St → Prop)
 (hQ : Q .normal ⟨e, [], ⟨[.cells [.slice (tokL r') .no, .int .i64 en], .cells R, .cells [.int .i64 op0, .int .i64 0, .slice (kidsD (fs ++ [g])) (.tok 0)]], [.per 3 (fs.length + 1)]⟩⟩) :
 SWp ((E66 1 0).pans R0) (.regD r66_17 r66_18) Q ⟨e, [], ⟨[.cells [.slice (tokL l') .no, .int .i64 en], .cells R, .cells [.int .i64 op0, .int .i64 0, .slice (kidsD fs) (.tok 0)]], [.per 3 fs.length]⟩⟩ := by
 have hgd := g.d_eq
 have he5b : e[5]?.getD .u0 = .ptr 2 0 := by rw [he5]; rfl
 have he5c : e.getD 5 .u0 = .ptr 2 0 := by simp [he5]
 obtain ⟨F, hF⟩ : ∃ F : (Nat → Bool) → Hp, F = fun E => ⟨[if E 3 then .cells [.slice (tokL r') .no, .int .i64 en] else .cells [.slice (tokL l') .no, .int .i64 en], .cells R, .cells [.int .i64 op0, .int .i64 0, .slice (kidsD fs) (.tok 0)]], [.per 3 fs.length]⟩ := ⟨_, rfl⟩
 have still : ∀ i, i ≠ 3 → Still F i := fun i h E _ => by
  have : (3 == i) = false := by rw [beq_eq_false_iff_ne]; omega
  simp [hF, this]
 refine zA0 F (by simp [hF]) ?_
 rw [zAy, pe66]
 refine y_q (ds := [.ptr 2 0]) (.ptr 2 2) (by simp [go_sem, he5]) (still _ (by decide)) (fun _ => by simp [OcWp, zAa, isPan, opWp]) ?_
 refine y_c (ds := [.ptr 2 2]) (d := .slice (kidsD fs) (.tok 0)) (by simp [go_sem]) (fun E hE => ?_) ?_
 ·rw [still 1 (by decide) E hE]; simp [hF, OcWp, zAa, isPan, opWp, Blk.csq]
 refine y_q (ds := [.ptr 0 0]) (.ptr 0 0) (by simp [go_sem, he0]) (still _ (by decide)) (fun _ => by simp [OcWp, zAa, isPan, opWp]) ?_
 refine y_c (ds := [.fn (.func 23) [] [], .ptr 0 0]) (d := g.d) (by simp [go_sem]) (fun E hE => ?_) ?_
 ·have hE' : E 3 = false := hE
  simp only [OcWp, zAa, isPan, if_true]
  refine zD3 [0] [] (zAm hc _) ⟨by simp, by simp, by simp [hF], by simp⟩ (by simp [D.rnL, D.rn, posF, idx]) (by simp [hF, hE', hpP, Hp.sel, Blk.rnL, Blk.rn, Tv.rnL, D.rnL, D.rn, zAc, Own.rn]) ?_
  rintro d hp1 ⟨rfl, rfl⟩
  refine ⟨rn_F _ _ _, ?_⟩
  simp [hF, hE', hpP, Hp.back, putAt, Blk.rnL, Blk.rn, Tv.rnL, D.rnL, D.rn, zAc, Own.rn]
 have hva := zD5 g
 have hca := cl_F g
 refine y_q (ds := [g.d]) (.slice [.agg g.cells] .full) (by simp [go_sem]) (still _ (by decide)) (fun _ => by
  rw [← hgd]
  simp [OcWp, zAa, isPan, opWp, zAk, hva, D.cL, hca, D.erL, er_F]) ?_
 refine y_end (hp' := ⟨[.cells [.slice (tokL r') .no, .int .i64 en], .cells R, .cells [.int .i64 op0, .int .i64 0, .slice (kidsD fs) (.tok 0)]], [.per 3 fs.length]⟩) (by simp [hF]) ?_
 have hkl := zB4 fs
 have hel := zBf fs
 have hck := zAd g.kids
 have hek := erL_F g.kids
 have wQ := And.intro @hkl (And.intro @hel (And.intro @hck (And.intro @hek @zA3))); repeat' (first | with_reducible (apply swq; constructor) | simp only [go_sem, seval, zAy, pe66, q66, he5b, he5c, hkl, zA3] | ((with_reducible apply zEg); (case he => rfl); (case hK | hc | hr | hV => exact sd wQ)) | with_reducible intro _)
 all_goals try (exfalso; omega)
 all_goals simpa [zA3, setL, St.done] using hQ
theorem reg54_12x {op0 en : Int} {fs : List F} {l' : List Tok} {R : List D} (hfs : fs.length ≤ 100) {e : List D} (he0 : e[0]? = some (.ptr 0 0)) (he5 : e[5]? = some (.ptr 2 0)) {e' p' : Int}
 (hc : Xff M 23 [.ptr 0 0] (hpP l' en) (Pb e' p')) (Q : Ex → St → Prop) :
 SWp ((E66 1 0).pans (Pb e' p')) (.regD r66_12 r66_13) Q ⟨e, [], ⟨[.cells [.slice (tokL l') .no, .int .i64 en], .cells R, .cells [.int .i64 op0, .int .i64 0, .slice (kidsD fs) (.tok 0)]], [.per 3 fs.length]⟩⟩ := by
 have he5b : e[5]?.getD .u0 = .ptr 2 0 := by rw [he5]; rfl
 have he5c : e.getD 5 .u0 = .ptr 2 0 := by simp [he5]
 obtain ⟨F, hF⟩ : ∃ F : (Nat → Bool) → Hp, F = fun E => ⟨[.cells [.slice (tokL l') .no, .int .i64 en], .cells R, .cells [.int .i64 op0, .int .i64 0, .slice (kidsD fs) (.tok 0)]], if E 3 then [.per 3 fs.length, .per 0 0] else [.per 3 fs.length]⟩ := ⟨_, rfl⟩
 have still : ∀ i, i ≠ 3 → Still F i := fun i h E _ => by
  have : (3 == i) = false := by rw [beq_eq_false_iff_ne]; omega
  simp [hF, this]
 refine swp_regP F (by simp [hF]) ?_
 rw [zAy, pe66]
 refine y_q (ds := [.ptr 2 0]) (.ptr 2 2) (by simp [go_sem, he5]) (still _ (by decide)) (fun _ => by simp [OcWp, zAa, isPan, opWp]) ?_
 refine y_c (ds := [.ptr 2 2]) (d := .slice (kidsD fs) (.tok 0)) (by simp [go_sem]) (fun E hE => ?_) ?_
 ·rw [still 1 (by decide) E hE]; simp [hF, OcWp, zAa, isPan, opWp, Blk.csq]
 refine y_q (ds := [.ptr 0 0]) (.ptr 0 0) (by simp [go_sem, he0]) (still _ (by decide)) (fun _ => by simp [OcWp, zAa, isPan, opWp]) ?_
 refine y_c (ds := [.fn (.func 23) [] [], .ptr 0 0]) (d := .agg [.int .i64 0, .int .i64 0, .int .i64 0]) (by simp [go_sem]) ?_ ?_
 ·refine any_pan (ds := [.ptr 0 0]) [0] [] (zBc hc _) (fun E hE => by simp only [hF, hE]; rfl) ⟨by simp, by simp, by simp, by simp⟩ (by simp [D.rnL, D.rn, posF, idx]) (by simp [hpP, Hp.sel, Blk.rnL, Blk.rn, Tv.rnL, D.rnL, D.rn, zAc, Own.rn]) ?_
  intro d hp1 hd
  subst hd
  rfl
 refine y_q (ds := [.agg [.int .i64 0, .int .i64 0, .int .i64 0]]) (.slice [.agg [.int .i64 0, .int .i64 0, .int .i64 0]] .full) (by simp [go_sem]) (still _ (by decide)) (fun _ => by
  simp [OcWp, zAa, isPan, opWp, zAk, D.iV, D.cells, D.closed, D.cL, D.erL, D.er]) ?_
 refine y_end (hp' := ⟨[.cells [.slice (tokL l') .no, .int .i64 en], .cells R, .cells [.int .i64 op0, .int .i64 0, .slice (kidsD fs) (.tok 0)]], [.per 3 fs.length, .per 0 0]⟩) (by simp [hF]) ?_
 have hkl := zB4 fs
 have hel := zBf fs
 have wQ := And.intro @hkl @hel; repeat' (first | with_reducible (apply swq; constructor) | simp only [go_sem, seval, zAy, pe66, q66, he5b, he5c, hkl] | ((with_reducible apply zEg); (case he => rfl); (case hK | hc | hr | hV => exact sd wQ)) | with_reducible intro _)
 all_goals try (exfalso; omega)
 all_goals exact ⟨1, rfl⟩
theorem reg54_17x {op0 en : Int} {fs : List F} {l' : List Tok} {R : List D} (hfs : fs.length ≤ 100) {e : List D} (he0 : e[0]? = some (.ptr 0 0)) (he5 : e[5]? = some (.ptr 2 0)) {e' p' : Int}
 (hc : Xff M 23 [.ptr 0 0] (hpP l' en) (Pb e' p')) (Q : Ex → St → Prop) :
 SWp ((E66 1 0).pans (Pb e' p')) (.regD r66_17 r66_18) Q ⟨e, [], ⟨[.cells [.slice (tokL l') .no, .int .i64 en], .cells R, .cells [.int .i64 op0, .int .i64 0, .slice (kidsD fs) (.tok 0)]], [.per 3 fs.length]⟩⟩ := by
 have he5b : e[5]?.getD .u0 = .ptr 2 0 := by rw [he5]; rfl
 have he5c : e.getD 5 .u0 = .ptr 2 0 := by simp [he5]
 obtain ⟨F, hF⟩ : ∃ F : (Nat → Bool) → Hp, F = fun E => ⟨[.cells [.slice (tokL l') .no, .int .i64 en], .cells R, .cells [.int .i64 op0, .int .i64 0, .slice (kidsD fs) (.tok 0)]], if E 3 then [.per 3 fs.length, .per 0 0] else [.per 3 fs.length]⟩ := ⟨_, rfl⟩
 have still : ∀ i, i ≠ 3 → Still F i := fun i h E _ => by
  have : (3 == i) = false := by rw [beq_eq_false_iff_ne]; omega
  simp [hF, this]
 refine swp_regP F (by simp [hF]) ?_
 rw [zAy, pe66]
 refine y_q (ds := [.ptr 2 0]) (.ptr 2 2) (by simp [go_sem, he5]) (still _ (by decide)) (fun _ => by simp [OcWp, zAa, isPan, opWp]) ?_
 refine y_c (ds := [.ptr 2 2]) (d := .slice (kidsD fs) (.tok 0)) (by simp [go_sem]) (fun E hE => ?_) ?_
 ·rw [still 1 (by decide) E hE]; simp [hF, OcWp, zAa, isPan, opWp, Blk.csq]
 refine y_q (ds := [.ptr 0 0]) (.ptr 0 0) (by simp [go_sem, he0]) (still _ (by decide)) (fun _ => by simp [OcWp, zAa, isPan, opWp]) ?_
 refine y_c (ds := [.fn (.func 23) [] [], .ptr 0 0]) (d := .agg [.int .i64 0, .int .i64 0, .int .i64 0]) (by simp [go_sem]) ?_ ?_
 ·refine any_pan (ds := [.ptr 0 0]) [0] [] (zBc hc _) (fun E hE => by simp only [hF, hE]; rfl) ⟨by simp, by simp, by simp, by simp⟩ (by simp [D.rnL, D.rn, posF, idx]) (by simp [hpP, Hp.sel, Blk.rnL, Blk.rn, Tv.rnL, D.rnL, D.rn, zAc, Own.rn]) ?_
  intro d hp1 hd
  subst hd
  rfl
 refine y_q (ds := [.agg [.int .i64 0, .int .i64 0, .int .i64 0]]) (.slice [.agg [.int .i64 0, .int .i64 0, .int .i64 0]] .full) (by simp [go_sem]) (still _ (by decide)) (fun _ => by
  simp [OcWp, zAa, isPan, opWp, zAk, D.iV, D.cells, D.closed, D.cL, D.erL, D.er]) ?_
 refine y_end (hp' := ⟨[.cells [.slice (tokL l') .no, .int .i64 en], .cells R, .cells [.int .i64 op0, .int .i64 0, .slice (kidsD fs) (.tok 0)]], [.per 3 fs.length, .per 0 0]⟩) (by simp [hF]) ?_
 have hkl := zB4 fs
 have hel := zBf fs
 have wQ := And.intro @hkl @hel; repeat' (first | with_reducible (apply swq; constructor) | simp only [go_sem, seval, zAy, pe66, q66, he5b, he5c, hkl] | ((with_reducible apply zEg); (case he => rfl); (case hK | hc | hr | hV => exact sd wQ)) | with_reducible intro _)
 all_goals try (exfalso; omega)
 all_goals exact ⟨1, rfl⟩
end Go.Proofs.YtkjnhkoipgdfeaaGreatDoor
end
section
set_option maxRecDepth 100000
set_option linter.unusedSimpArgs false
set_option linter.unusedVariables false
namespace Go.Proofs.YtkjnhkoipgdfeaaGreatDoor
open Go GoV Go.RowKit
theorem need_no {en : Int} {w : Tx} {l : List Tok} {go : List Tok → PR} {e p : Int} (h : needP en w l go = .no e p) : (gotN 4 [w] l = none ∧ failP en l = .no e p) ∨ ∃ t l', l = t :: l' ∧ (∃ i, gotN 4 [w] l = some i) ∧ go l' = .no e p := by
 unfold needP at h
 cases hg : gotN 4 [w] l with
 | none => rw [hg] at h; exact .inl ⟨rfl, h⟩
 | some i =>
   rw [hg] at h
   obtain ⟨t, l', rfl, _⟩ := zBh hg
   exact .inr ⟨t, l', rfl, ⟨i, by first | exact hg | rfl⟩, h⟩
theorem then_no {p : PR} {go : F → List Tok → PR} {e q : Int} (h : thenP p go = .no e q) : p = .no e q ∨ ∃ f r', p = .ok f r' ∧ go f r' = .no e q := by
 cases p with
 | no e1 q1 => simp only [thenP] at h; exact .inl h
 | ok f r' => exact .inr ⟨f, r', rfl, h⟩
set_option maxHeartbeats 4000000 in
theorem factor_x {fo : List Tok → PR} {en : Int} {N K : Nat} (hfo : OpOk 23 fo en N) (hx : OpX 23 fo en N K) (hN : N ≤ 100000) : OpX 66 (factP fo en) en N (K + 1) := by
 intro l e p hl hK hG h
 refine zB8 (C := E66 1 0) (fn := Tryz.f66) Tryz.func66 (by kernel_rfl) (by kernel_rfl) (rc := c66) z66 (by kernel_rfl) rfl (by rw [show ([D.ptr 0 0] : List D).length = 1 from rfl]; decide) rfl rfl ?_ rfl (fun _ _ => trivial)
 rw [ie66]
 unfold c66
 have hd1 : decide ((-1 : Int) ≥ 0) = false := rfl
 cases l with
 | nil =>
   simp only [factP] at h
   have c1 := got_e 1 [tKm, tCy, tLd] (by simp) [] (by simp) en
   have c2 := got_e 1 [tMin, tMax, tIf] (by simp) [] (by simp) en
   have g1 : gotI 1 [tKm, tCy, tLd] [] = -1 := rfl
   have g2 : gotI 1 [tMin, tMax, tIf] [] = -1 := rfl
   have g3 : gotR 1 [tKm, tCy, tLd] [] = [] := rfl
   have g4 : gotR 1 [tMin, tMax, tIf] [] = [] := rfl
   rw [g1, g3, sn1] at c1
   rw [g2, g4, sn2] at c2
   have cx := need_x [40] [] (by simp) en e p rfl h
   have e0 : tokL [] = [] := rfl
   have hz : decide (((0 : Nat) : Int) > 0) = false := rfl
   have hl0 : ([] : List D).length = 0 := rfl
   unfold hpP at c1 c2 cx ⊢
   rw [e0] at c1 c2 cx ⊢
   have wQ := tw; repeat' (first | with_reducible (apply swq; constructor) | simp only [go_sem, seval, zAy, pe66, q66, hz, hl0, hd1] | ((with_reducible refine o_eff [0] [] (zAm c1 _) ?hs ?he ?hh ?_); (case hs => exact so); (case he | hh => exact sh wQ); try rintro _ _ ⟨rfl, rfl⟩) | ((with_reducible refine o_eff [0] [] (zAm c2 _) ?hs ?he ?hh ?_); (case hs => exact so); (case he | hh => exact sh wQ); try rintro _ _ ⟨rfl, rfl⟩) | ((with_reducible refine o_pan [0] [] (zBc cx _) ?hs ?he ?hh ?hk); (case hs => exact so); (case he | hh => exact sh wQ); (case hk => intro _ _ q; subst q; first | rfl | apply hPan | (simp [go_sem, seval]; done))) | ((with_reducible apply s_bsl); (case he | hl | hc => exact sd wQ)) | with_reducible intro _)
 | cons t l' =>
 simp only [factP] at h
 simp only [List.length_cons] at hl hK
 have hlr := zBy l'
 have hel := zBd l'
 have hpos : decide (((l'.length + 1 : Nat) : Int) > 0) = true := by simp only [decide_eq_true_eq]; omega
 have hcons := zEb t l'
 have hGt : GoodT l' := hG.suf (List.suffix_cons _ _)
 by_cases hk : t.kind = 2
 ·rw [if_pos hk] at h
  cases h
 rw [if_neg hk] at h
 have tk : (t.kind == 2) = false := by simp [hk]
 have c1 := got_e 1 [tKm, tCy, tLd] (by simp) (t :: l') (by simp; omega) en
 rw [sn1] at c1
 cases hg1 : gotN 1 [tKm, tCy, tLd] (t :: l') with
 | some i => rw [hg1] at h; cases h
 | none =>
 rw [hg1] at h
 obtain ⟨m1, m2⟩ := zDm hg1
 rw [m1, m2] at c1
 have c2 := got_e 1 [tMin, tMax, tIf] (by simp) (t :: l') (by simp; omega) en
 rw [sn2] at c2
 cases hg2 : gotN 1 [tMin, tMax, tIf] (t :: l') with
 | some i =>
   rw [hg2] at h
   simp only [callP] at h
   obtain ⟨t2, l2, e0, n1, n2, n3, n4, n5⟩ := zBh hg2
   cases e0
   rw [n1, n2] at c2
   simp only [List.length_cons, List.length_nil] at n3
   have hd : decide ((i : Int) ≥ 0) = true := by simp
   obtain ⟨RA, hRA⟩ : ∃ R, R = (RC.regD r66_12 r66_13) := ⟨_, rfl⟩
   obtain ⟨RB, hRB⟩ : ∃ R, R = (RC.regD r66_17 r66_18) := ⟨_, rfl⟩
   rw [← hRA, ← hRB]
   have hmx : max (1 : Int) i = ((max 1 i : Nat) : Int) := by omega
   have hmb : max 1 i ≤ 3 := by omega
   rcases need_no h with ⟨hn, hf⟩ | ⟨t3, l3, rfl, ⟨i3, hg3⟩, h3⟩
   ·have cx := need_x [40] l' (by omega) en e p hn hf
    unfold hpP at c1 c2 cx ⊢
    rw [hcons] at c1 c2 ⊢
    have wQ := And.intro @hlr (And.intro @hel @zAc); repeat' (first | with_reducible (apply swq; constructor) | simp only [go_sem, seval, zAy, pe66, q66, hlr, hpos, tk, hd, hd1, List.length_cons] | simp (disch := omega) only [wA] | ((with_reducible refine o_eff [0] [] (zAm c1 _) ?hs ?he ?hh ?_); (case hs => exact so); (case he | hh => exact sh wQ); try rintro _ _ ⟨rfl, rfl⟩) | ((with_reducible refine o_eff [0] [] (zAm c2 _) ?hs ?he ?hh ?_); (case hs => exact so); (case he | hh => exact sh wQ); try rintro _ _ ⟨rfl, rfl⟩) | ((with_reducible refine o_pan [0] [] (zBc cx _) ?hs ?he ?hh ?hk); (case hs => exact so); (case he | hh => exact sh wQ); (case hk => intro _ _ q; subst q; first | rfl | apply hPan | (simp [go_sem, seval, hlr, hel, zAc]; done))) | ((with_reducible apply s_bsl); (case he | hl | hc => exact sd wQ)) | ((with_reducible refine And.intro ?hw ?_); (case hw => exact sw wQ)) | with_reducible intro _)
   have hG3 : GoodT l3 := hGt.suf (List.suffix_cons _ _)
   simp only [List.length_cons] at hl hK
   have c3 := need_e [40] (t3 :: l3) (by simp; omega) en hg3
   simp only [List.tail_cons] at c3
   rcases then_no h3 with h4 | ⟨f4, l4, h4, h5⟩
   ·have cx := hx l3 e p (by omega) (by omega) hG3 h4
    unfold hpP at c1 c2 c3 ⊢
    rw [hcons] at c1 c2 ⊢
    have wQ := And.intro @hlr (And.intro @hel @zAc); repeat' (first | with_reducible (apply swq; constructor) | simp only [go_sem, seval, zAy, pe66, q66, hlr, hpos, tk, hd, hd1, List.length_cons] | simp (disch := omega) only [wA] | ((with_reducible refine o_eff [0] [] (zAm c1 _) ?hs ?he ?hh ?_); (case hs => exact so); (case he | hh => exact sh wQ); try rintro _ _ ⟨rfl, rfl⟩) | ((with_reducible refine o_eff [0] [] (zAm c2 _) ?hs ?he ?hh ?_); (case hs => exact so); (case he | hh => exact sh wQ); try rintro _ _ ⟨rfl, rfl⟩) | ((with_reducible refine o_eff [0] [] (zAm c3 _) ?hs ?he ?hh ?_); (case hs => exact so); (case he | hh => exact sh wQ); try rintro _ _ ⟨rfl, rfl⟩) | ((with_reducible apply s_bsl); (case he | hl | hc => exact sd wQ)) | (with_reducible (apply gdA; constructor)) | ((with_reducible refine And.intro ?hw ?_); (case hw => exact sw wQ)) | with_reducible intro _)
    all_goals try (exfalso; omega)
    subst hRA
    refine zDt (zCv 2 2 3 (by decide) rfl rfl) ?_
    exact reg54_12x (fs := []) (by simp) rfl rfl cx _
   obtain ⟨c4, q4, s4⟩ := hfo l3 f4 l4 (by omega) hG3 h4
   unfold hpP at c1 c2 c3 ⊢
   rw [hcons] at c1 c2 ⊢
   have wQ := And.intro @hlr (And.intro @hel @zAc); repeat' (first | with_reducible (apply swq; constructor) | simp only [go_sem, seval, zAy, pe66, q66, hlr, hpos, tk, hd, hd1, List.length_cons] | simp (disch := omega) only [wA] | ((with_reducible refine o_eff [0] [] (zAm c1 _) ?hs ?he ?hh ?_); (case hs => exact so); (case he | hh => exact sh wQ); try rintro _ _ ⟨rfl, rfl⟩) | ((with_reducible refine o_eff [0] [] (zAm c2 _) ?hs ?he ?hh ?_); (case hs => exact so); (case he | hh => exact sh wQ); try rintro _ _ ⟨rfl, rfl⟩) | ((with_reducible refine o_eff [0] [] (zAm c3 _) ?hs ?he ?hh ?_); (case hs => exact so); (case he | hh => exact sh wQ); try rintro _ _ ⟨rfl, rfl⟩) | ((with_reducible apply s_bsl); (case he | hl | hc => exact sd wQ)) | (with_reducible (apply gdA; constructor)) | ((with_reducible refine And.intro ?hw ?_); (case hw => exact sw wQ)) | with_reducible intro _)
   all_goals try (exfalso; omega)
   subst hRA
   refine zDt (zCv 2 2 3 (by decide) rfl rfl) ?_
   refine reg54_12p (fs := []) (by simp) rfl rfl c4 _ ?_
   repeat' (first | with_reducible (apply swq; constructor) | simp only [go_sem, seval, zAy, pe66, q66, maxW, hmx] | with_reducible intro _)
   all_goals try (exfalso; omega)
   generalize hM : max 1 i = mx at *
   refine zAu [0, 1, 4, 5, 10, 11] (fun x : Nat × List F × List Tok => ⟨[.ptr 0 0, .ptr 1 0, .u0, .u0, .int .i64 (i : Nat), .ptr 2 0, .u0, .u0, .u0, .u0, .int .i64 (mx : Nat), .int .i64 (x.1 : Nat), .u0], [],
    ⟨[.cells [.slice (tokL x.2.2) .no, .int .i64 en], .cells [.int .i64 0, .int .i64 0, .lit (.slice none 0 0)], .cells [.int .i64 (9 + i), .int .i64 0, .slice (kidsD x.2.1) (.tok 0)]], [.per 3 x.2.1.length]⟩⟩)
    (fun x => x.1 ≤ mx ∧ x.2.1.length = x.1 + 1 ∧ argsP fo en (9 + i) (mx - x.1) x.2.1 x.2.2 = .no e p ∧ x.2.2.length ≤ N ∧ x.2.2.length < K ∧ GoodT x.2.2) (fun x => mx - x.1) (0, [f4], l4) ⟨by simp, rfl, h5, by simp only; omega, by simp only; omega, hG3.suf s4⟩ ?_ ?_
   ·simp [keepE, St.keep, hM]
   ·rintro ⟨j, fs, lx⟩ ⟨v1, v2, v3, v4, v4', v5⟩
    simp only at v1 v2 v3 v4 v4' v5 ⊢
    by_cases hj : j < mx
    ·obtain ⟨n, hn⟩ : ∃ n, mx - j = n + 1 := ⟨mx - j - 1, by omega⟩
     rw [hn] at v3
     have hdj : decide ((j : Int) < (mx : Nat)) = true := by simp; omega
     simp only [argsP] at v3
     rcases need_no v3 with ⟨hn6, hf6⟩ | ⟨t6, l6, rfl, ⟨i6, hg6⟩, h6⟩
     ·have cx := need_x [44] lx (by omega) en e p hn6 hf6
      unfold hpP at cx
      have wQ := @zAc; repeat' (first | with_reducible (apply swq; constructor) | simp only [go_sem, seval, zAy, pe66, q66, hdj] | ((with_reducible refine o_pan [0] [] (zBc cx _) ?hs ?he ?hh ?hk); (case hs => exact so); (case he | hh => exact sh wQ); (case hk => intro _ _ q; subst q; first | rfl | apply hPan | (simp [go_sem, seval, zAc]; done))) | with_reducible intro _)
      all_goals try (exfalso; omega)
     simp only [List.length_cons] at v4 v4'
     have hG6 : GoodT l6 := v5.suf (List.suffix_cons _ _)
     have c6 := need_e [44] (t6 :: l6) (by simp; omega) en hg6
     simp only [List.tail_cons] at c6
     rcases then_no h6 with h7 | ⟨f7, l7, h7, h8⟩
     ·have cx := hx l6 e p (by omega) (by omega) hG6 h7
      unfold hpP at c6
      have wQ := @zAc; repeat' (first | with_reducible (apply swq; constructor) | simp only [go_sem, seval, zAy, pe66, q66, hdj] | ((with_reducible refine o_eff [0] [] (zAm c6 _) ?hs ?he ?hh ?_); (case hs => exact so); (case he | hh => exact sh wQ); try rintro _ _ ⟨rfl, rfl⟩) | with_reducible intro _)
      all_goals try (exfalso; omega)
      subst hRB
      exact reg54_17x (fs := fs) (by omega) rfl rfl cx _
     obtain ⟨c7, q7, s7⟩ := hfo l6 f7 l7 (by omega) hG6 h7
     unfold hpP at c6
     have wQ := @zAc; repeat' (first | with_reducible (apply swq; constructor) | simp only [go_sem, seval, zAy, pe66, q66, hdj] | ((with_reducible refine o_eff [0] [] (zAm c6 _) ?hs ?he ?hh ?_); (case hs => exact so); (case he | hh => exact sh wQ); try rintro _ _ ⟨rfl, rfl⟩) | with_reducible intro _)
     all_goals try (exfalso; omega)
     subst hRB
     refine reg54_17p (fs := fs) (by omega) rfl rfl c7 _ ?_
     repeat' (first | with_reducible (apply swq; constructor) | simp only [go_sem, seval, zAy, pe66, q66] | simp (disch := omega) only [wA] | with_reducible intro _)
     all_goals try (exfalso; omega)
     refine ⟨(j + 1, fs ++ [f7], l7), ⟨by simp only; omega, by simp; omega, ?_, by simp only; omega, by simp only; omega, hG6.suf s7⟩, by simp only; omega, ?_⟩
     ·rw [show mx - (j + 1) = n by omega]; exact h8
     ·simp [keepE, St.keep]
    ·obtain rfl : j = mx := by omega
     rw [Nat.sub_self] at v3
     simp only [argsP] at v3
     have hdj : decide ((j : Int) < (j : Nat)) = false := by simp
     rcases need_no v3 with ⟨hn6, hf6⟩ | ⟨t6, l6, rfl, ⟨i6, hg6⟩, h6⟩
     ·have cx := need_x [41] lx (by omega) en e p hn6 hf6
      unfold hpP at cx
      have wQ := @zAc; repeat' (first | with_reducible (apply swq; constructor) | simp only [go_sem, seval, zAy, pe66, q66, hdj] | ((with_reducible refine o_pan [0] [] (zBc cx _) ?hs ?he ?hh ?hk); (case hs => exact so); (case he | hh => exact sh wQ); (case hk => intro _ _ q; subst q; first | rfl | apply hPan | (simp [go_sem, seval, zAc]; done))) | with_reducible intro _)
      all_goals try (exfalso; omega)
     cases h6
 | none =>
   rw [hg2] at h
   simp only [parP] at h
   obtain ⟨m3, m4⟩ := zDm hg2
   rw [m3, m4] at c2
   rcases need_no h with ⟨hn, hf⟩ | ⟨t3, l3, e0, ⟨i3, hg3⟩, h3⟩
   ·have cx := need_x [40] (t :: l') (by simp; omega) en e p hn hf
    unfold hpP at c1 c2 cx ⊢
    rw [hcons] at c1 c2 cx ⊢
    have wQ := And.intro @hlr (And.intro @hel @zAc); repeat' (first | with_reducible (apply swq; constructor) | simp only [go_sem, seval, zAy, pe66, q66, hlr, hpos, tk, hd1, List.length_cons] | ((with_reducible refine o_eff [0] [] (zAm c1 _) ?hs ?he ?hh ?_); (case hs => exact so); (case he | hh => exact sh wQ); try rintro _ _ ⟨rfl, rfl⟩) | ((with_reducible refine o_eff [0] [] (zAm c2 _) ?hs ?he ?hh ?_); (case hs => exact so); (case he | hh => exact sh wQ); try rintro _ _ ⟨rfl, rfl⟩) | ((with_reducible refine o_pan [0] [] (zBc cx _) ?hs ?he ?hh ?hk); (case hs => exact so); (case he | hh => exact sh wQ); (case hk => intro _ _ q; subst q; first | rfl | apply hPan | (simp [go_sem, seval, hlr, hel, zAc]; done))) | ((with_reducible apply s_bsl); (case he | hl | hc => exact sd wQ)) | ((with_reducible refine And.intro ?hw ?_); (case hw => exact sw wQ)) | with_reducible intro _)
   cases e0
   have c3 := need_e [40] (t :: l') (by simp; omega) en hg3
   simp only [List.tail_cons] at c3
   rcases then_no h3 with h4 | ⟨f4, l4, h4, h5⟩
   ·have cx := hx l' e p (by omega) (by omega) hGt h4
    unfold hpP at c1 c2 c3 cx ⊢
    rw [hcons] at c1 c2 c3 ⊢
    have wQ := And.intro @hlr (And.intro @hel @zAc); repeat' (first | with_reducible (apply swq; constructor) | simp only [go_sem, seval, zAy, pe66, q66, hlr, hpos, tk, hd1, List.length_cons] | ((with_reducible refine o_eff [0] [] (zAm c1 _) ?hs ?he ?hh ?_); (case hs => exact so); (case he | hh => exact sh wQ); try rintro _ _ ⟨rfl, rfl⟩) | ((with_reducible refine o_eff [0] [] (zAm c2 _) ?hs ?he ?hh ?_); (case hs => exact so); (case he | hh => exact sh wQ); try rintro _ _ ⟨rfl, rfl⟩) | ((with_reducible refine o_eff [0] [] (zAm c3 _) ?hs ?he ?hh ?_); (case hs => exact so); (case he | hh => exact sh wQ); try rintro _ _ ⟨rfl, rfl⟩) | ((with_reducible refine o_pan [0] [] (zBc cx _) ?hs ?he ?hh ?hk); (case hs => exact so); (case he | hh => exact sh wQ); (case hk => intro _ _ q; subst q; first | rfl | apply hPan | (simp [go_sem, seval, hlr, hel, zAc]; done))) | ((with_reducible apply s_bsl); (case he | hl | hc => exact sd wQ)) | ((with_reducible refine And.intro ?hw ?_); (case hw => exact sw wQ)) | with_reducible intro _)
   obtain ⟨c4, q4, s4⟩ := hfo l' f4 l4 (by omega) hGt h4
   rcases need_no h5 with ⟨hn6, hf6⟩ | ⟨t6, l6, rfl, ⟨i6, hg6⟩, h6⟩
   ·have c6 := need_x [41] l4 (by omega) en e p hn6 hf6
    have hrn := fun β τ => rnL_F β τ f4.kids
    rw [F.d_eq] at c4
    unfold hpP at c1 c2 c3 c4 c6 ⊢
    rw [hcons] at c1 c2 c3 ⊢
    have wQ := And.intro @hlr (And.intro @hel (And.intro @zAc @hrn)); repeat' (first | with_reducible (apply swq; constructor) | simp only [go_sem, seval, zAy, pe66, q66, hlr, hpos, tk, hd1, List.length_cons] | ((with_reducible refine o_eff [0] [] (zAm c1 _) ?hs ?he ?hh ?_); (case hs => exact so); (case he | hh => exact sh wQ); try rintro _ _ ⟨rfl, rfl⟩) | ((with_reducible refine o_eff [0] [] (zAm c2 _) ?hs ?he ?hh ?_); (case hs => exact so); (case he | hh => exact sh wQ); try rintro _ _ ⟨rfl, rfl⟩) | ((with_reducible refine o_eff [0] [] (zAm c3 _) ?hs ?he ?hh ?_); (case hs => exact so); (case he | hh => exact sh wQ); try rintro _ _ ⟨rfl, rfl⟩) | ((with_reducible refine o_eff [0] [] (zAm c4 _) ?hs ?he ?hh ?_); (case hs => exact so); (case he | hh => exact sh wQ); try rintro _ _ ⟨rfl, rfl⟩) | ((with_reducible refine o_pan [0] [] (zBc c6 _) ?hs ?he ?hh ?hk); (case hs => exact so); (case he | hh => exact sh wQ); (case hk => intro _ _ q; subst q; first | rfl | apply hPan | (simp [go_sem, seval, hlr, hel, zAc, hrn]; done))) | ((with_reducible apply s_bsl); (case he | hl | hc => exact sd wQ)) | ((with_reducible refine And.intro ?hw ?_); (case hw => exact sw wQ)) | with_reducible intro _)
   cases h6
theorem product_x {fo : List Tok → PR} {en : Int} {N K : Nat} (hfo : OpOk 23 fo en N) (hx : OpX 23 fo en N K) (hN : N ≤ 100000) : OpX 44 (prodP fo en) en N (K + 1) := by
 intro l e p hl hK hG h
 have c1 := chain_x (factor_e hfo hN) (factor_x hfo hx hN) hN 7 (by omega) (by omega) [42] [47] l e p hl hK hG h
 refine zB8 (C := E44 1 0) (fn := Tryz.f44) Tryz.func44 (by kernel_rfl) (by kernel_rfl) (rc := c44) z44 (by kernel_rfl) rfl (by rw [show ([D.ptr 0 0] : List D).length = 1 from rfl]; decide) rfl rfl ?_ rfl (fun _ _ => trivial)
 rw [ie44]
 unfold c44
 have e3 : strs [[42], [47]] = [.str [42], .str [47]] := rfl
 rw [e3] at c1
 unfold hpP at c1 ⊢
 have wQ := @zAc; repeat' (first | with_reducible (apply swq; constructor) | simp only [go_sem, seval, zAy, pe44, q44] | ((with_reducible refine o_pan [0] [] (zBc c1 _) ?hs ?he ?hh ?hk); (case hs => exact so); (case he | hh => exact sh wQ); (case hk => intro _ _ q; subst q; first | rfl | apply hPan | (simp [go_sem, seval, zAc]; done))) | ((with_reducible apply s_bsl); (case he | hl | hc => exact sd wQ)) | with_reducible intro _)
theorem sum_x {fo : List Tok → PR} {en : Int} {N K : Nat} (hfo : OpOk 23 fo en N) (hx : OpX 23 fo en N K) (hN : N ≤ 100000) : OpX 23 (sumP fo en) en N (K + 1) := by
 intro l e p hl hK hG h
 have c1 := chain_x (product_e hfo hN) (product_x hfo hx hN) hN 5 (by omega) (by omega) [43] [45] l e p hl hK hG h
 refine zB8 (C := E23 1 0) (fn := Tryz.f23) Tryz.func23 (by kernel_rfl) (by kernel_rfl) (rc := c23) z23 (by kernel_rfl) rfl (by rw [show ([D.ptr 0 0] : List D).length = 1 from rfl]; decide) rfl rfl ?_ rfl (fun _ _ => trivial)
 rw [ie23]
 unfold c23
 have e3 : strs [[43], [45]] = [.str [43], .str [45]] := rfl
 rw [e3] at c1
 unfold hpP at c1 ⊢
 have wQ := @zAc; repeat' (first | with_reducible (apply swq; constructor) | simp only [go_sem, seval, zAy, pe23, q23] | ((with_reducible refine o_pan [0] [] (zBc c1 _) ?hs ?he ?hh ?hk); (case hs => exact so); (case he | hh => exact sh wQ); (case hk => intro _ _ q; subst q; first | rfl | apply hPan | (simp [go_sem, seval, zAc]; done))) | ((with_reducible apply s_bsl); (case he | hl | hc => exact sd wQ)) | with_reducible intro _)
theorem form_x {en : Int} {N : Nat} (hN : N ≤ 100000) : ∀ k, OpX 23 (formP en k) en N k
 | 0 => fun l e p _ hK _ h => by omega
 | k + 1 => sum_x (form_e hN k) (form_x hN k) hN
end Go.Proofs.YtkjnhkoipgdfeaaGreatDoor
end
section
set_option maxRecDepth 100000
set_option linter.unusedSimpArgs false
set_option linter.unusedVariables false
namespace Go.Proofs.YtkjnhkoipgdfeaaGreatDoor
open Go GoV Go.RowKit
theorem reg32 {C : Cfg} {a b c d f : D} {e p : Int} {en : List D} (h0 : en[0]? = some (.ptr 0 0)) (h1 : en[1]? = some (.ptr 1 0)) (h2 : en[2]? = some (.ptr 2 0)) (h4 : en[4]? = some (.ptr 3 0)) :
 SWp C (.regD r22_0 r22_1) (fun x s' => x = .normal ∧ s'.hp = ⟨[.cells [.int .i64 0, .int .i64 0, .lit (.slice none 0 0)], .cells [.int .i64 e], .cells [.int .i64 p], .cells [.int .i64 e, .int .i64 p]], []⟩)
  ⟨en, [], ⟨[.cells [a, b, c], .cells [d], .cells [f], .cells [.int .i64 e, .int .i64 p]], []⟩⟩ := by
 obtain ⟨F, hF⟩ : ∃ F : (Nat → Bool) → Hp, F = fun E => (⟨[if E 5 then .cells [.int .i64 0, .int .i64 0, .lit (.slice none 0 0)] else .cells [a, b, c], if E 6 then .cells [.int .i64 e] else .cells [d], .cells [f], .cells [.int .i64 e, .int .i64 p]], []⟩ : Hp) := ⟨_, rfl⟩
 have still : ∀ i, i ≠ 5 → i ≠ 6 → Still F i := fun i h h' E _ => by
  have h5 : (5 == i) = false := by rw [beq_eq_false_iff_ne]; omega
  have h6 : (6 == i) = false := by rw [beq_eq_false_iff_ne]; omega
  simp [hF, h5, h6]
 refine zA0 F (by simp [hF]) ?_
 refine y_q (ds := []) (.agg [.int .i64 0, .int .i64 0, .lit (.slice none 0 0)]) (by simp [go_sem]) (still _ (by decide) (by decide)) (fun _ => by simp [OcWp, zAa, isPan, opWp, fillL]) ?_
 refine y_q (ds := [.ptr 3 0]) (.ptr 3 0) (by simp [go_sem, h4]) (still _ (by decide) (by decide)) (fun _ => by simp [OcWp, zAa, isPan, opWp]) ?_
 refine y_c (ds := [.ptr 3 0]) (d := .int .i64 e) (by simp [go_sem]) (fun E hE => ?_) ?_
 ·rw [still 2 (by decide) (by decide) E hE]; simp [hF, OcWp, zAa, isPan, opWp, Blk.csq]
 refine y_q (ds := [.ptr 3 0]) (.ptr 3 1) (by simp [go_sem, h4]) (still _ (by decide) (by decide)) (fun _ => by simp [OcWp, zAa, isPan, opWp]) ?_
 refine y_c (ds := [.ptr 3 1]) (d := .int .i64 p) (by simp [go_sem]) (fun E hE => ?_) ?_
 ·rw [still 4 (by decide) (by decide) E hE]; simp [hF, OcWp, zAa, isPan, opWp, Blk.csq]
 refine y_c (ds := [.ptr 0 0, .agg [.int .i64 0, .int .i64 0, .lit (.slice none 0 0)]]) (d := .skip) (by simp [go_sem, h0]) (fun E hE => ?_) ?_
 ·have hE' : E 5 = false := hE
  simp [hF, OcWp, zAa, isPan, opWp, hE', Blk.csq, Blk.putc, D.iV, D.cells, setL]
 refine y_c (ds := [.ptr 1 0, .int .i64 e]) (d := .skip) (by simp [go_sem, h1]) (fun E hE => ?_) ?_
 ·have hE' : E 6 = false := hE
  simp [hF, OcWp, zAa, isPan, opWp, hE', Blk.csq, Blk.putc, D.iV, D.cells, setL]
 refine y_end (hp' := ⟨[.cells [.int .i64 0, .int .i64 0, .lit (.slice none 0 0)], .cells [.int .i64 e], .cells [f], .cells [.int .i64 e, .int .i64 p]], []⟩) (by simp [hF]) ?_
 simp only [go_sem, h0, h1, h2, h4]
 simp [go_sem, h0, h1, h2, h4, setL, D.iV, D.cells, St.done]
theorem zEx {C : Cfg} {w0 w : World} {B : Gh} {s : St} {a : Act} (h : Sim C w0 B s a w) {dst : Option Nat} {ds : Dst} (hd : zBq C dst = some ds) {d : D} {v : Value} (hv : Rel w0 B d v) : Sim C w0 B (s.put ds d) (a.put dst v) w := by
 obtain ⟨G, hi, hb, q1, q2, q3, q4⟩ := id h
 exact h.put hd hi q4 (Rel.evo _ hi.evo hv)
section
variable {P : Program} {ops : Array Oper} {l : List Nat} {a : Act} {cs cs' : List Frame} {w w' : World} {o : Oper} {i : Nat} {v : Value} {dst : Option Nat}
theorem opsS_val {Q : Exit → Act → List Frame → World → Prop} (ho : ops[i]? = some o) (hg : o.guard = none) (hd : o.dst = dst) (hr : (execOp a.eval o).run P w = .ok (.value v) w) (h : wpOpsS P ops Q l (a.put dst v) cs w) : wpOpsS P ops Q (i :: l) a cs w := by
 subst hd
 have hw : Region.wanted o (yielded ops a.tmps) = true := by simp [Region.wanted, hg]
 simp only [wpOpsS, ho, hw, if_true, hr]; exact h
theorem opsS_rec {Q : Exit → Act → List Frame → World → Prop} (ho : ops[i]? = some o) (hg : o.guard = none) (hd : o.dst = dst) (hr : (execOp a.eval o).run P w = .ok .recover w) (hc : recoverD cs = some (v, cs')) (h : wpOpsS P ops Q l (a.put dst v) cs' w) : wpOpsS P ops Q (i :: l) a cs w := by
 subst hd
 have hw : Region.wanted o (yielded ops a.tmps) = true := by simp [Region.wanted, hg]
 simp only [wpOpsS, ho, hw, if_true, hr, hc]; exact h
theorem opsIn_val {Q : Exit → Act → World → Prop} (ho : ops[i]? = some o) (hg : o.guard = none) (hd : o.dst = dst) (hr : (o.semAt Fence.wide.round a.eval).run P w = .ok (.value v) w) (h : wpOpsIn Fence.wide 0 P ops Q l (a.put dst v) w) : wpOpsIn Fence.wide 0 P ops Q (i :: l) a w := by
 subst hd
 have hw : Region.wanted o (yielded ops a.tmps) = true := by simp [Region.wanted, hg]
 simp only [wpOpsIn, ho, hw, if_true, Oper.wpIn, hr]; exact ⟨fun _ _ => trivial, h⟩
theorem exec_assign {ρ : Operand → Value} {x : Operand} (h : o.op = .assign x) : (execOp ρ o).run P w = .ok (.value (ρ x)) w := by
 simp only [execOp, h]; rfl
theorem exec_move {ρ : Operand → Value} {x : Operand} (h : o.op = .move x) : (execOp ρ o).run P w = .ok (.value (ρ x)) w := by
 simp only [execOp, h]; rfl
theorem exec_neq {ρ : Operand → Value} {pv : Value} (h : o.op = .binOp .neq 20 (.tmp 6) (.const .nilIface) 20) (hx : ρ (.tmp 6) = .iface 48 pv) (hc : ρ (.const .nilIface) = .nilIface) : (execOp ρ o).run Tryz.prog w = .ok (.value (.bool true)) w := by
 simp only [execOp, h, hx, hc]; kernel_rfl
theorem exec_recover {ρ : Operand → Value} (h : o.op = .call { callee := .builtin .recover, args := #[], argTypes := #[] }) : (execOp ρ o).run P w = .ok .recover w := by
 simp only [execOp, h, resolve, Sem.run_bind, Sem.run_pure, Result.andThen_ok]; rfl
theorem exec_ta {ρ : Operand → Value} {x : Operand} (h : o.op = .typeAssert x 20 48 false) {y : Value} (hx : ρ x = .iface 48 y) : (execOp ρ o).run Tryz.prog w = .ok (.value y) w := by
 simp only [execOp, h, hx]; kernel_rfl
end
def condL : Code → Code
 | .cond _ x _ => x
 | c => c
noncomputable def K32 : Code := Tryz.f22.body.getD .skip
theorem hK32 : Tryz.f22.body = some (.seq (seqL K32) (.seq (seqL (seqR K32)) (.cond (.tmp 7) (.seq (seqL (condL (seqR (seqR K32)))) (seqR (condL (seqR (seqR K32))))) .skip))) := by kernel_rfl
theorem ops32a : ∃ ops o0 o1, seqL K32 = .region 0 ops false ∧ ops.size = 2 ∧ ops[0]? = some o0 ∧ ops[1]? = some o1 ∧ o0.op = .call { callee := .builtin .recover, args := #[], argTypes := #[] } ∧ o0.dst = some 5 ∧ o0.guard = none ∧
 o1.op = .assign (.tmp 5) ∧ o1.dst = some 3 ∧ o1.guard = none := ⟨_, _, _, rfl, rfl, rfl, rfl, rfl, rfl, rfl, rfl, rfl, rfl⟩
theorem ops32b : ∃ ops o0 o1, seqL (seqR K32) = .region 1 ops false ∧ ops.size = 2 ∧ ops[0]? = some o0 ∧ ops[1]? = some o1 ∧ o0.op = .move (.tmp 3) ∧ o0.dst = some 6 ∧ o0.guard = none ∧
 o1.op = .binOp .neq 20 (.tmp 6) (.const .nilIface) 20 ∧ o1.dst = some 7 ∧ o1.guard = none := ⟨_, _, _, rfl, rfl, rfl, rfl, rfl, rfl, rfl, rfl, rfl, rfl⟩
theorem ops32c : ∃ ops o0 o1, seqL (condL (seqR (seqR K32))) = .region 2 ops false ∧ ops.size = 4 ∧ ops[0]? = some o0 ∧ ops[1]? = some o1 ∧ o0.op = .move (.tmp 3) ∧ o0.dst = some 8 ∧ o0.guard = none ∧
 o1.op = .typeAssert (.tmp 8) 20 48 false ∧ o1.dst = some 9 ∧ o1.guard = none ∧ zA7 (E22 3 0) ops [2, 3] = some [⟨.v 4, .newb [.int .i64 0, .int .i64 0], [], none⟩, ⟨.none, .st 2, [.v 4, .l 9], none⟩] := ⟨_, _, _, rfl, rfl, rfl, rfl, rfl, rfl, rfl, rfl, rfl, rfl, by kernel_rfl⟩
theorem zd32 : zAe (E22 3 0) (seqR (condL (seqR (seqR K32)))) = some (.regD r22_0 r22_1) := by kernel_rfl
theorem zDo {a : Act} {t : Nat} {v : Value} (h : t < a.tmps.size) : (a.put (some t) v).eval (.tmp t) = v := by
 simp [Act.eval, Act.put, h]
theorem eval_ne {a : Act} {t u : Nat} {v : Value} (h : u ≠ t) : (a.put (some u) v).eval (.tmp t) = a.eval (.tmp t) := by
 simp only [Act.eval, Act.put, Array.getD_eq_getD_getElem?, Array.getElem?_setIfInBounds]
 rw [if_neg h]
theorem no_pan {C : Cfg} {w0 : World} {B : Gh} {Q : Exit → Act → World → Prop} (h : ∀ d hp, ¬ C.M.pan d hp) : PQ C w0 B Q := fun a w ch _ hp => by
 obtain ⟨_, _, _, _, _, k, _⟩ := hp; exact absurd k (h _ _)
set_option maxHeartbeats 1000000 in
theorem panic32 {w5 : World} {G5 : Gh} {a b c d f : D} {e p : Int} {v x y z : Value} (hH : HeapRel w5 G5 ⟨[.cells [a, b, c], .cells [d], .cells [f]], []⟩) (hamb : M.amb w5 G5.own)
 (hv : Rel w5 G5 (probD e p) v) (hx : Rel w5 G5 (.ptr 0 0) x) (hy : Rel w5 G5 (.ptr 1 0) y) (hz : Rel w5 G5 (.ptr 2 0) z) :
 CallsD Tryz.prog 22 #[x, y, z] (.panicking [{ v, recovered := false }]) w5 fun e' u' w' => e' = .returned (.tuple #[]) ∧ u' = .panicking [{ v, recovered := true }] ∧
  ∃ G6, Inv w5 G5 ⟨[.cells [.int .i64 0, .int .i64 0, .lit (.slice none 0 0)], .cells [.int .i64 e], .cells [.int .i64 p], .cells [.int .i64 e, .int .i64 p]], []⟩ w' G6 := by
 have hsim := zD0 (C := E22 3 0) (fn := Tryz.f22) (by kernel_rfl) (args := [.ptr 0 0, .ptr 1 0, .ptr 2 0]) (hp := ⟨[.cells [a, b, c], .cells [d], .cells [f]], []⟩) (by rfl) (by decide) rfl rfl rfl hH (xs := [x, y, z]) (RelL.cons hx (RelL.cons hy (RelL.one hz)))
 rw [show St.init (E22 3 0) [.ptr 0 0, .ptr 1 0, .ptr 2 0] ⟨[.cells [a, b, c], .cells [d], .cells [f]], []⟩ = ⟨[.ptr 0 0, .ptr 1 0, .ptr 2 0, .u0, .u0, .u0], [], ⟨[.cells [a, b, c], .cells [d], .cells [f]], []⟩⟩ from ie22] at hsim
 obtain ⟨pv, rfl, hpv⟩ : ∃ pv, v = .iface 48 pv ∧ Rel w5 G5 (.agg [.int .i64 e, .int .i64 p]) pv := by
  simp only [probD, Rel] at hv ⊢; exact hv
 refine callsD_of_wpS Tryz.func22 hK32 fun c₀ cs hu => ?_
 obtain ⟨opsA, oa0, oa1, rA, sA, a0, a1, pa0, da0, ga0, pa1, da1, ga1⟩ := ops32a
 obtain ⟨opsB, ob0, ob1, rB, sB, b0, b1, pb0, db0, gb0, pb1, db1, gb1⟩ := ops32b
 obtain ⟨opsC, oc0, oc1, rC, sC, c0, c1, pc0, dc0, gc0, pc1, dc1, gc1, hrs⟩ := ops32c
 rw [rA, rB, rC]
 have hd := zd32
 generalize seqR (condL (seqR (seqR K32))) = XD at *
 have h15 : (#[x, y, z] ++ Array.replicate (Tryz.f22.ntmps - (#[x, y, z] : Array Value).size) Go.undef).size = 15 := by kernel_rfl
 generalize hA0 : ({ tmps := #[x, y, z] ++ Array.replicate (Tryz.f22.ntmps - (#[x, y, z] : Array Value).size) Go.undef, defers := [] } : Act) = A0 at *
 have z0 : A0.tmps.size = 15 := by rw [← hA0]; exact h15
 have p1 := zEx (dst := some 5) (ds := .l 5) hsim (by kernel_rfl) hv
 have p2 := zEx (dst := some 3) (ds := .v 3) p1 (by kernel_rfl) hv
 have p3 := zEx (dst := some 6) (ds := .l 6) p2 (by kernel_rfl) hv
 have p4 := zEx (d := .bool true) (v := .bool true) (dst := some 7) (ds := .v 5) p3 (by kernel_rfl) rfl
 have p5 := zEx (dst := some 8) (ds := .l 8) p4 (by kernel_rfl) hv
 have p6 := zEx (dst := some 9) (ds := .l 9) p5 (by kernel_rfl) hpv
 have z1 : (A0.put (some 5) (.iface 48 pv)).tmps.size = 15 := by rw [zA5]; exact z0
 have z2 : ((A0.put (some 5) (.iface 48 pv)).put (some 3) (.iface 48 pv)).tmps.size = 15 := by rw [zA5]; exact z1
 have z3 : (((A0.put (some 5) (.iface 48 pv)).put (some 3) (.iface 48 pv)).put (some 6) (.iface 48 pv)).tmps.size = 15 := by rw [zA5]; exact z2
 have z4 : ((((A0.put (some 5) (.iface 48 pv)).put (some 3) (.iface 48 pv)).put (some 6) (.iface 48 pv)).put (some 7) (.bool true)).tmps.size = 15 := by rw [zA5]; exact z3
 refine wpS_seq (wpS_region ?_)
 rw [sA]
 show wpOpsS Tryz.prog opsA _ [0, 1] _ _ _
 refine opsS_rec (v := .iface 48 pv) (cs' := { c₀ with mode := .panicking [{ v := .iface 48 pv, recovered := true }] } :: cs) a0 ga0 da0 (exec_recover pa0) (by simp only [recoverD, hu]) ?_
 refine opsS_val (v := .iface 48 pv) a1 ga1 da1 (by rw [exec_assign pa1, zDo (by omega)]) ?_
 simp only [wpOpsS, Exit.thenS]
 refine wpS_seq (wpS_region ?_)
 rw [sB]
 show wpOpsS Tryz.prog opsB _ [0, 1] _ _ _
 refine opsS_val (v := .iface 48 pv) b0 gb0 db0 (by rw [exec_move pb0, zDo (by omega)]) ?_
 refine opsS_val (v := .bool true) b1 gb1 db1 (exec_neq pb1 (zDo (by omega)) rfl) ?_
 simp only [wpOpsS, Exit.thenS]
 refine wpS_cond (t := true) (zDo (by omega)) ?_
 simp only [if_true]
 refine wpS_of_wp ((wpIn_wide (n := 0)).1 ?_)
 refine wpIn_seq (wpIn_region ?_)
 have hst : (E22 3 0).M.start w5 G5 := ⟨hamb, trivial⟩
 rw [sC]
 show wpOpsIn Fence.wide 0 Tryz.prog opsC _ [0, 1, 2, 3] _ _
 have v3 : ((((A0.put (some 5) (.iface 48 pv)).put (some 3) (.iface 48 pv)).put (some 6) (.iface 48 pv)).put (some 7) (.bool true)).eval (.tmp 3) = .iface 48 pv := by
  rw [eval_ne (by decide), eval_ne (by decide), zDo (by omega)]
 refine opsIn_val (v := .iface 48 pv) c0 gc0 dc0 ?_ ?_
 ·show (execOp _ oc0).run _ _ = _
  rw [exec_move pc0, v3]
 refine opsIn_val (v := pv) c1 gc1 dc1 ?_ ?_
 ·show (execOp _ oc1).run _ _ = _
  exact exec_ta pc1 (zDo (by omega))
 have hpan : ∀ d hp, ¬ (E22 3 0).M.pan d hp := fun _ _ h => h
 refine zFv (ro := none) (C := E22 3 0) ⟨hst, no_pan hpan⟩ (K := fun s' => s' = ⟨[.ptr 0 0, .ptr 1 0, .ptr 2 0, probD e p, .ptr 3 0, .bool true], s'.scr, ⟨[.cells [a, b, c], .cells [d], .cells [f], .cells [.int .i64 e, .int .i64 p]], []⟩⟩) (fun s a' w' hk hs => ?_) [2, 3] _ _ _ _ hrs ?_ p6
 ·simp only [Exit.then]
  rw [hk] at hs
  have hs' := zEa _ _ _ _ hs
  have hrun := (reg32 (C := E22 3 0) (a := a) (b := b) (c := c) (d := d) (f := f) (e := e) (p := p) (en := [.ptr 0 0, .ptr 1 0, .ptr 2 0, probD e p, .ptr 3 0, .bool true]) rfl rfl rfl rfl).run XD hd w5 G5 hst a' w' hs' none
  refine wpIn_mono hrun fun e' a2 w2 hl => ?_
  cases e' <;> simp only [Lift] at hl ⊢
  case panic => obtain ⟨_, _, _, _, _, _, k, _⟩ := hl; exact absurd k (hpan _ _)
  case exit => obtain ⟨_, _, q, _⟩ := hl; cases q
  case ret => obtain ⟨_, _, q, _⟩ := hl; cases q
  case normal =>
   obtain ⟨s2, ⟨G6, k1, k2, k3, k4, k5, k6⟩, _, k7⟩ := hl
   rw [k7] at k1
   refine ⟨k4, _, rfl, .tuple #[], ?_, rfl, rfl, G6, k1⟩
   kernel_rfl
 ·simp [go_sem, St.put]
end Go.Proofs.YtkjnhkoipgdfeaaGreatDoor
end
section
set_option maxRecDepth 100000
set_option linter.unusedSimpArgs false
set_option linter.unusedVariables false
namespace Go.Proofs.YtkjnhkoipgdfeaaGreatDoor
open Go GoV Go.RowKit
theorem ze13 : zAe (E8 3 0) (seqR (seqR (seqR (seqR K13)))) = some cR13 := by kernel_rfl
theorem zn13 : noWC [2, 3, 4] (seqR (seqR (seqR (seqR K13)))) = true := by kernel_rfl
set_option maxHeartbeats 1000000 in
theorem parse_run2 (s : Tx) {l : List Tok} (hlex : Pur M 21 [.str s] (.tup [.slice (tokL l) .no, .int .i64 0, .int .i64 0])) {d : D} {PR : D → Hp → Prop}
 (hPR : ∀ d' hp, PR d' hp → ∃ e p, d' = probD e p ∧ (∃ a b c x y, hp.H.take 3 = [.cells [a, b, c], .cells [x], .cells [y]]) ∧ d = .tup [.agg [.int .i64 0, .int .i64 0, .lit (.slice none 0 0)], .int .i64 e, .int .i64 p])
 (hR : ∀ (dd : Deferred) (a0 : Act), KWp ((defC (E8 3 0) dd).pans PR) [2, 3, 4] a0 cR13 (fun e s1 => (match e with | .exit _ => False | _ => True) ∧ rrsWp q8 s1 fun ds => D.closed (zAl ds) = true ∧ (zAl ds).er = d) (S13 s l)) : Pur M 8 [.str s] d := by
 have hcl := zDr l
 have her := zFg l
 have s1 : SWp (E8 0 0) (.reg r8_0) (fun e s' => e = .normal ∧ s' = ⟨[.str s, .ptr 0 0, .ptr 1 0, .ptr 2 0, .u0, .u0, .u0, .u0, .u0, .u0, .u0], [], ⟨[.cells [.int .i64 0, .int .i64 0, .lit (.slice none 0 0)], .cells [.int .i64 0], .cells [.int .i64 0]], []⟩⟩) (St.init (E8 0 0) [.str s] ⟨[], []⟩) := by
  rw [ie8]
  repeat' (first | with_reducible (apply swq; constructor) | simp only [go_sem, seval, pe8, q8] | with_reducible intro _)
  all_goals first | exact ⟨rfl, rfl⟩ | rfl | trivial
 have s2 : SWp (E8 0 0) (.reg r8_1) (fun e s' => e = .normal ∧ s' = ⟨[.str s, .ptr 0 0, .ptr 1 0, .ptr 2 0, .slice (tokL l) .no, .int .i64 0, .int .i64 0, .u0, .u0, .u0, .u0], [], ⟨[.cells [.int .i64 0, .int .i64 0, .lit (.slice none 0 0)], .cells [.int .i64 0], .cells [.int .i64 0]], []⟩⟩)
  ⟨[.str s, .ptr 0 0, .ptr 1 0, .ptr 2 0, .u0, .u0, .u0, .u0, .u0, .u0, .u0], [], ⟨[.cells [.int .i64 0, .int .i64 0, .lit (.slice none 0 0)], .cells [.int .i64 0], .cells [.int .i64 0]], []⟩⟩ := by
  have wQ := And.intro @hcl @her; repeat' (first | with_reducible (apply swq; constructor) | simp only [go_sem, seval, pe8, q8] | ((with_reducible refine zAb (hlex) ?he ?hc ?_); (case he | hc => exact sc wQ)) | with_reducible intro _)
  all_goals first | exact ⟨rfl, rfl⟩ | rfl | trivial
 have s3 : SWp (E8 0 0) (.seq (.reg r8_2) (.cond (.v 8) (.seq (.reg r8_3) .ret) .skip)) (fun e s' => e = .normal ∧ s' = S13 s l)
  ⟨[.str s, .ptr 0 0, .ptr 1 0, .ptr 2 0, .slice (tokL l) .no, .int .i64 0, .int .i64 0, .u0, .u0, .u0, .u0], [], ⟨[.cells [.int .i64 0, .int .i64 0, .lit (.slice none 0 0)], .cells [.int .i64 0], .cells [.int .i64 0]], []⟩⟩ := by
  repeat' (first | with_reducible (apply swq; constructor) | simp only [go_sem, seval, pe8, q8] | with_reducible intro _)
  all_goals first | exact ⟨rfl, rfl⟩ | rfl | trivial
 have hP : (E8 0 0).P = Tryz.prog := rfl
 refine zDj ⟨⟨Tryz.f8, Tryz.func8, by kernel_rfl, rfl⟩, fun w g xs hA hH hargs => ?_⟩
 refine calls_of_wp_defers Tryz.func8 hK13 ((wpIn_wide (n := 0)).1 ?_)
 have hsim := zD0 (C := E8 0 0) (fn := Tryz.f8) (by kernel_rfl) (args := [.str s]) (hp := ⟨[], []⟩) (by rfl) (by rw [show ([D.str s] : List D).length = 1 from rfl]; decide) rfl rfl rfl hH hargs
 have hstart : (E8 0 0).M.start w g := ⟨hA, trivial⟩
 have hpan : ∀ d hp, ¬ (E8 0 0).M.pan d hp := fun _ _ h => h
 refine wpIn_seq (wpIn_mono (zBn s1 za13 hpan hstart hsim) fun e a1 w1 hl => ?_)
 obtain ⟨rfl, hl⟩ := hl
 simp only [Exit.then]
 refine wpIn_seq (wpIn_mono (zBn s2 zb13 hpan hstart hl) fun e a2 w2 hl => ?_)
 obtain ⟨rfl, hl⟩ := hl
 simp only [Exit.then]
 refine wpIn_seq (wpIn_mono (zBn s3 zc13 hpan hstart hl) fun e a3 w3 hl => ?_)
 obtain ⟨rfl, hl⟩ := hl
 simp only [Exit.then]
 obtain ⟨ops, o0, o1, hr4, h0, h1, hsz, p0, p1, p2, p3, p4, p5⟩ := ops13
 obtain ⟨G, i0, ib, i1, i2, i3, i4⟩ := hl
 have e1 := i4 2
 have e2 := i4 3
 have e3 := i4 4
 refine wpIn_seq ?_
 rw [hr4]
 have hev : ∀ t, a3.eval (.tmp t) = a3.tmps.getD t Go.undef := fun t => rfl
 obtain ⟨dd, hdd⟩ : ∃ dd : Deferred, dd = { target := .fn (.func 22) #[a3.tmps.getD 2 Go.undef, a3.tmps.getD 3 Go.undef, a3.tmps.getD 4 Go.undef], args := #[] } := ⟨_, rfl⟩
 have hreg : (Code.region 4 ops false).wpIn Fence.wide 0 Tryz.prog (fun e a' w' => e = .normal ∧ w' = w3 ∧ a' = { tmps := a3.tmps.setIfInBounds 20 (.func (.func 22) #[] #[a3.tmps.getD 2 Go.undef, a3.tmps.getD 3 Go.undef, a3.tmps.getD 4 Go.undef]), defers := [dd] }) a3 w3 := by
  refine (wpIn_wide (n := 0)).2 (wp_region ?_)
  rw [hsz]
  show wpOps Tryz.prog ops _ [0, 1] a3 w3
  have r0 : (execOp a3.eval o0).run Tryz.prog w3 = .ok (.value (.func (.func 22) #[] #[a3.tmps.getD 2 Go.undef, a3.tmps.getD 3 Go.undef, a3.tmps.getD 4 Go.undef])) w3 := by
   have hmf : ∀ (fn : Fn) (first cap : Array Value) (w : World), (Instr.makeFunc fn first cap).run Tryz.prog w = .ok (.func fn first cap) w := fun _ _ _ _ => rfl
   simp only [execOp, p0, Sem.run_bind, hmf, Result.andThen_ok, Sem.run_pure]
   simp [Act.eval]
  simp only [wpOps, h0, h1, Region.wanted, p2, p5, if_true]
  refine .inl ?_
  simp only [Oper.wp, r0, Oper.upon_value]
  have hsz20 : 20 < a3.tmps.size := by rw [i1]; decide
  have e20 : (a3.put o0.dst (.func (.func 22) #[] #[a3.tmps.getD 2 Go.undef, a3.tmps.getD 3 Go.undef, a3.tmps.getD 4 Go.undef])).eval (.tmp 20) = .func (.func 22) #[] #[a3.tmps.getD 2 Go.undef, a3.tmps.getD 3 Go.undef, a3.tmps.getD 4 Go.undef] := by
   rw [p1]; simp [Act.eval, Act.put, hsz20]
  have r1 : (execOp (a3.put o0.dst (.func (.func 22) #[] #[a3.tmps.getD 2 Go.undef, a3.tmps.getD 3 Go.undef, a3.tmps.getD 4 Go.undef])).eval o1).run Tryz.prog w3 = .ok (.defer dd) w3 := by
   simp only [execOp, p3, resolve, e20, hdd, Sem.run_bind, Sem.run_pure, Result.andThen_ok]
   simp [Deferred.ofValue, Sem.run_pure]
  refine .inl ?_
  rw [r1, Oper.upon_defer, p4, p1]
  refine ⟨?_, ?_, ?_⟩
  ·trivial
  ·first | rfl | trivial
  ·simp [Act.put, i2, E8]
 refine wpIn_mono hreg fun e a4 w4 hq => ?_
 obtain ⟨rfl, rfl, rfl⟩ := hq
 simp only [Exit.then]
 have hsim4 : Sim (defC (E8 0 0) dd) w g (S13 s l) { tmps := a3.tmps.setIfInBounds 20 (.func (.func 22) #[] #[a3.tmps.getD 2 Go.undef, a3.tmps.getD 3 Go.undef, a3.tmps.getD 4 Go.undef]), defers := [dd] } w4 := by
  refine ⟨G, i0, ib, (by rw [Array.size_setIfInBounds]; exact i1), rfl, i3, fun t => ?_⟩
  by_cases ht : t = 20
  ·subst ht
   have : (S13 s l).slot (defC (E8 0 0) dd).pers 20 = .u0 := rfl
   rw [this]; simp [Rel]
  ·have := i4 t
   rw [show (a3.tmps.setIfInBounds 20 (.func (.func 22) #[] #[a3.tmps.getD 2 Go.undef, a3.tmps.getD 3 Go.undef, a3.tmps.getD 4 Go.undef])).getD t Go.undef = a3.tmps.getD t Go.undef by
    simp only [Array.getD_eq_getD_getElem?, Array.getElem?_setIfInBounds]
    rw [if_neg (fun e => ht e.symm)]]
   exact this
 obtain ⟨G4, i40, i4b, i41, i42, i43, i44⟩ := id hsim4
 have hr3 : G4.r.length = 3 := i40.heap.len.symm
 have ht3 : G4.tk.length = 0 := i40.heap.lent.symm
 have hamb4 : M.amb w4 G4.own := M.up _ _ _ _ hA i40.keeps fun n hn => i40.new n hn
 have hst4 : ((defC (E8 3 0) dd).pans PR).M.start w4 G4 := ⟨hamb4, trivial⟩
 obtain ⟨a4, ha4⟩ : ∃ a4 : Act, a4 = { tmps := a3.tmps.setIfInBounds 20 (.func (.func 22) #[] #[a3.tmps.getD 2 Go.undef, a3.tmps.getD 3 Go.undef, a3.tmps.getD 4 Go.undef]), defers := [dd] } := ⟨_, rfl⟩
 have hsim5 : Sim ((defC (E8 3 0) dd).pans PR) w4 G4 (S13 s l) a4 w4 := by
  rw [ha4]
  exact ⟨G4, Inv.refl' i40.heap, ⟨hr3, ht3⟩, i41, rfl, i43, i44⟩
 rw [← ha4]
 refine wpIn_mono ((hR dd a4).run _ (zCd ze13 rfl rfl rfl) zn13 w4 G4 hst4 _ w4 hsim5 (fun _ _ => rfl) none) fun e a5 w5 hl => ?_
 obtain ⟨hl, hag⟩ := hl
 have g2 : ∀ t, t ≠ 20 → a4.tmps.getD t Go.undef = a3.tmps.getD t Go.undef := fun t ht => by
  rw [ha4]
  simp only [Array.getD_eq_getD_getElem?, Array.getElem?_setIfInBounds]
  rw [if_neg (fun e => ht e.symm)]
 have fin : ∀ s1, Sim ((defC (E8 3 0) dd).pans PR) w4 G4 s1 a5 w5 → (rrsWp q8 s1 fun ds => D.closed (zAl ds) = true ∧ (zAl ds).er = d) → Leaves Tryz.prog Tryz.f8 a5.tmps (Post w g fun d' _ => d'.closed = true ∧ d'.er = d) a5.defers .returning w5 := by
  intro s1 hs hrr
  obtain ⟨G5, j0, jb, j1, j2, j3, j4⟩ := hs
  have j2' : a5.defers = [dd] := j2
  rw [j2', hdd]
  refine leaves_cons (f := 22) (args := #[a3.tmps.getD 2 Go.undef, a3.tmps.getD 3 Go.undef, a3.tmps.getD 4 Go.undef]) (by simp) (by simp [go_sem]) ?_
  refine (idle32 _ _ _ _).mono ?_
  rintro e u' w'' ⟨rfl, rfl, rfl⟩
  simp only [Leaves, settle]
  obtain ⟨ds, v, k1, k4, k5⟩ := zCb (C := (defC (E8 3 0) dd).pans PR) (a := a5) (fn := Tryz.f8) j0 j4 (rs := q8) (by kernel_rfl) hrr
  exact ⟨v, k5, v, _, _, G5, rfl, k1, i40.join j0, k4⟩
 cases e <;> simp only [Lift, bodyPostD] at hl ⊢
 case normal => obtain ⟨s1, h1, _, h2⟩ := hl; exact fin s1 h1 h2
 case exit => obtain ⟨s1, h1, h3, h2⟩ := hl; exact h3.elim
 case ret => obtain ⟨s1, h1, _, h2⟩ := hl; exact fin s1 h1 h2
 case panic ch =>
  obtain ⟨hdf, v, d', hp', G', hch, hpan', hi, hv⟩ := hl
  cases hch
  have hag := hag (by simp)
  have hdf' : a5.defers = [dd] := hdf
  obtain ⟨e, p, rfl, ⟨a, b, c, x, y, hH3⟩, rfl⟩ := hPR _ _ hpan'
  show Leaves Tryz.prog Tryz.f8 a5.tmps _ a5.defers _ w5
  rw [hdf', hdd]
  refine leaves_cons (f := 22) (args := #[a3.tmps.getD 2 Go.undef, a3.tmps.getD 3 Go.undef, a3.tmps.getD 4 Go.undef]) (by simp) (by simp [go_sem]) ?_
  have hi' := hi.cut 3 0 (by rw [hr3]; exact Nat.le_refl _) (by rw [ht3]; exact Nat.le_refl _)
  have hcut : hp'.cut 3 0 = ⟨[.cells [a.rn (cutF 3) (cutF 0), b.rn (cutF 3) (cutF 0), c.rn (cutF 3) (cutF 0)], .cells [x.rn (cutF 3) (cutF 0)], .cells [y.rn (cutF 3) (cutF 0)]], []⟩ := by
   simp [Hp.cut, hH3, Blk.rnL, Blk.rn, D.rnL, Tv.rnL]
  rw [hcut] at hi'
  have hv' : Rel w5 (G'.cut 3 0) (probD e p) v := by
   have := Rel.rn _ (Ren.cut G' 3 0) hv
   simpa [probD, D.rn, D.rnL] using this
  have hamb5 : M.amb w5 (G'.cut 3 0).own := M.up _ _ _ _ hamb4 hi'.keeps fun n hn => hi'.new n hn
  have r2 : Rel w4 G4 (.ptr 0 0) (a3.tmps.getD 2 Go.undef) := by have := i44 2; rw [← ha4, g2 2 (by decide)] at this; exact this
  have r3 : Rel w4 G4 (.ptr 1 0) (a3.tmps.getD 3 Go.undef) := by have := i44 3; rw [← ha4, g2 3 (by decide)] at this; exact this
  have r4 : Rel w4 G4 (.ptr 2 0) (a3.tmps.getD 4 Go.undef) := by have := i44 4; rw [← ha4, g2 4 (by decide)] at this; exact this
  refine (panic32 hi'.heap hamb5 hv' (Rel.evo _ hi'.evo r2) (Rel.evo _ hi'.evo r3) (Rel.evo _ hi'.evo r4)).mono ?_
  rintro e' u' w'' ⟨rfl, rfl, G6, k6⟩
  simp only [Leaves, settle, List.dropWhile]
  have k7 := hi'.join k6
  have k8 := i40.join k7
  obtain ⟨sR, hsR⟩ : ∃ sR : St, sR = ⟨[.u0, .ptr 0 0, .ptr 1 0, .ptr 2 0, .u0, .u0, .u0, .u0, .u0, .u0, .u0], [], ⟨[.cells [.int .i64 0, .int .i64 0, .lit (.slice none 0 0)], .cells [.int .i64 e], .cells [.int .i64 p], .cells [.int .i64 e, .int .i64 p]], []⟩⟩ := ⟨_, rfl⟩
  have hag2 := fun t (ht : t ∈ [2, 3, 4]) => hag t ht
  have hsl : ∀ t, Rel w'' G6 (sR.slot (E8 3 0).pers t) (a5.tmps.getD t Go.undef) := by
   intro t
   by_cases h2 : t = 2
   ·subst h2
    rw [hag2 2 (by simp), g2 2 (by decide), hsR]
    exact Rel.evo _ k7.evo r2
   by_cases h3 : t = 3
   ·subst h3
    rw [hag2 3 (by simp), g2 3 (by decide), hsR]
    exact Rel.evo _ k7.evo r3
   by_cases h4 : t = 4
   ·subst h4
    rw [hag2 4 (by simp), g2 4 (by decide), hsR]
    exact Rel.evo _ k7.evo r4
   have hu : sR.slot (E8 3 0).pers t = .u0 := by
    unfold St.slot
    cases hi : idx t (E8 3 0).pers with
    | none => rw [hsR]; rfl
    | some i =>
      have hj := zB5 hi
      rw [hsR]
      rcases i with _ | _ | _ | _ | i
      ·rfl
      ·exact absurd (Option.some.inj hj).symm h2
      ·exact absurd (Option.some.inj hj).symm h3
      ·exact absurd (Option.some.inj hj).symm h4
      ·rcases i with _ | _ | _ | _ | _ | _ | _ | i <;> rfl
   rw [hu]; simp [Rel]
  obtain ⟨ds, v, k1, k4, k5⟩ := zCb (C := E8 3 0) (a := a5) (fn := Tryz.f8) (s := sR) (by rw [hsR]; exact k6) hsl (rs := q8) (K := fun ds => D.closed (zAl ds) = true ∧ (zAl ds).er = .tup [.agg [.int .i64 0, .int .i64 0, .lit (.slice none 0 0)], .int .i64 e, .int .i64 p]) (by kernel_rfl) (by rw [hsR]; simp [go_sem, q8, rrsWp, D.closed, D.cL, D.er, D.erL])
  exact ⟨v, k5, v, _, _, G6, rfl, k1, k8, k4⟩
end Go.Proofs.YtkjnhkoipgdfeaaGreatDoor
end
section
set_option maxRecDepth 100000
set_option linter.unusedSimpArgs false
set_option linter.unusedVariables false
namespace Go.Proofs.YtkjnhkoipgdfeaaGreatDoor
open Go GoV Go.RowKit
@[reducible] def zD (e p : Int) : D := .tup [.agg [.int .i64 0, .int .i64 0, .lit (.slice none 0 0)], .int .i64 e, .int .i64 p]
def PRp (e p : Int) : D → Hp → Prop := fun d' hp => d' = probD e p ∧ ∃ a b c x y, hp.H.take 3 = [.cells [a, b, c], .cells [x], .cells [y]]
theorem PRp_ok {e p : Int} : ∀ d' hp, PRp e p d' hp → ∃ e' p', d' = probD e' p' ∧ (∃ a b c x y, hp.H.take 3 = [.cells [a, b, c], .cells [x], .cells [y]]) ∧ zD e p = .tup [.agg [.int .i64 0, .int .i64 0, .lit (.slice none 0 0)], .int .i64 e', .int .i64 p'] :=
 fun d' hp h => ⟨e, p, h.1, h.2, rfl⟩
theorem PRp_back {e p : Int} {hp : Hp} {a b c x y : D} (h : hp.H.take 3 = [.cells [a, b, c], .cells [x], .cells [y]]) (bl tl : List Nat) (hb : ∀ k ∈ bl, 3 ≤ k) (hp1 : Hp) : PRp e p (probD e p) (hp.back bl tl hp1) := by
 refine ⟨rfl, a, b, c, x, y, ?_⟩
 have hl : 3 ≤ hp.H.length := by
  have := congrArg List.length h
  simp at this; omega
 rw [back_take hb hl, h]
set_option maxHeartbeats 1000000 in
theorem parse_no (s : Tx) (hs : s.length ≤ 4999) (hq : zD4 s) {l : List Tok} (hl : lexP s = (l, 0, 0)) (hll : l.length ≤ 5000) (hG : GoodT l) {e p : Int} (hp : formP s.length (l.length + 1) l = .no e p) : Pur M 8 [.str s] (zD e p) := by
 have hlex := lex_p s hs hq
 rw [hl] at hlex
 refine parse_run2 s hlex PRp_ok fun dd a0 => ?_
 unfold cR13
 have c1 := form_x (en := s.length) (N := 5000) (by omega) (l.length + 1) l e p hll (by omega) hG hp
 have hPan : ∀ (a b c x y : D) (B : Blk) (hp1 : Hp), PRp e p (probD e p) (Hp.back ⟨[.cells [a, b, c], .cells [x], .cells [y], B], []⟩ [3] [] hp1) := fun a b c x y B hp1 => PRp_back rfl _ _ (by simp) _
 unfold hpP at c1
 have hcl := zDr l
 have wQ := @zAc; repeat' (first | (with_reducible first | apply kwp_seq | apply kwp_reg) | simp only [go_sem, seval, zAy, def_M, pe8, q8, e_kcdT, e_kcdF] | ((with_reducible refine o_pan [3] [] (zBc c1 _) ?hs ?he ?hh ?hk); (case hs => exact so); (case he | hh => exact sh wQ); (case hk => intro _ _ q; subst q; first | rfl | apply hPan | (simp [go_sem, seval, zAc]; done))) | with_reducible intro _)
set_option maxHeartbeats 1000000 in
theorem parse_more (s : Tx) (hs : s.length ≤ 4999) (hq : zD4 s) {l : List Tok} (hl : lexP s = (l, 0, 0)) (hll : l.length ≤ 5000) (hG : GoodT l) {f : F} {t : Tok} {r : List Tok} (hp : formP s.length (l.length + 1) l = .ok f (t :: r)) : Pur M 8 [.str s] (zD 8 t.pos) := by
 have hlex := lex_p s hs hq
 rw [hl] at hlex
 refine parse_run2 s hlex PRp_ok fun dd a0 => ?_
 unfold cR13
 obtain ⟨c1, hlt, _⟩ := form_e (en := s.length) (N := 5000) (by omega) (l.length + 1) l f (t :: r) hll hG hp
 have c2 := fail_x (t :: r) (by simp at hlt ⊢; omega) s.length 8 t.pos rfl
 have hPan : ∀ (a b c x y : D) (B : Blk) (hp1 : Hp), PRp 8 t.pos (probD 8 t.pos) (Hp.back ⟨[.cells [a, b, c], .cells [x], .cells [y], B], []⟩ [3] [] hp1) := fun a b c x y B hp1 => PRp_back rfl _ _ (by simp) _
 have hcl := zDr l
 have hck := zAd f.kids
 have hek := erL_F f.kids
 have hrn := fun β τ => rnL_F β τ f.kids
 have hlr := zBy r
 have hd : decide (((r.length + 1 : Nat) : Int) > 0) = true := by simp only [decide_eq_true_eq]; omega
 have hcons := zEb t r
 rw [F.d_eq] at c1
 unfold hpP at c1 c2
 rw [hcons] at c1 c2
 have wQ := And.intro @zAc (And.intro @hrn (And.intro @hck (And.intro @hek @hlr))); repeat' (first | (with_reducible first | apply kwp_seq | apply kwp_reg | apply kwp_cd) | simp only [go_sem, seval, zAy, def_M, pe8, q8, hlr, hd, List.length_cons, e_kcdT, e_kcdF] | ((with_reducible refine o_eff [3] [] (zAm c1 _) ?hs ?he ?hh ?_); (case hs => exact so); (case he | hh => exact sh wQ); rintro _ _ ⟨rfl, rfl⟩) | ((with_reducible refine o_pan [3] [] (zBc c2 _) ?hs ?he ?hh ?hk); (case hs => exact so); (case he | hh => exact sh wQ); (case hk => intro _ _ q; subst q; first | rfl | apply hPan | (simp [go_sem, seval, zAc, hrn, hck, hek, hlr]; done))) | with_reducible intro _)
set_option maxHeartbeats 1000000 in
theorem parse_lim (s : Tx) (hs : s.length ≤ 4999) (hq : zD4 s) {l : List Tok} (hl : lexP s = (l, 0, 0)) (hll : l.length ≤ 5000) (hG : GoodT l) {f : F} (hp : formP s.length (l.length + 1) l = .ok f []) (hn : 60 < f.nodes) : Pur M 8 [.str s] (zD 7 0) := by
 have hlex := lex_p s hs hq
 rw [hl] at hlex
 refine parse_run s hlex fun dd => ?_
 unfold cR13
 obtain ⟨c1, _, _⟩ := form_e (en := s.length) (N := 5000) (by omega) (l.length + 1) l f [] hll hG hp
 have c2 := nodes_p f.nodes f (Nat.le_refl _) 60 (by omega)
 rw [show min f.nodes (60 + 1) = 61 by omega] at c2
 have hck := zAd f.kids
 have hek := erL_F f.kids
 have hrn := fun β τ => rnL_F β τ f.kids
 rw [F.d_eq] at c1 c2
 unfold hpP at c1
 have e0 : tokL [] = [] := rfl
 rw [e0] at c1
 have wQ := And.intro @zAc (And.intro @hrn (And.intro @hck @hek)); repeat' (first | with_reducible (apply swq; constructor) | simp only [go_sem, seval, def_M, pe8, q8] | ((with_reducible refine o_eff [3] [] (c1) ?hs ?he ?hh ?_); (case hs => exact so); (case he | hh => exact sh wQ); rintro _ _ ⟨rfl, rfl⟩) | ((with_reducible refine zAb (c2) ?he ?hc ?_); (case he | hc => exact sc wQ)) | with_reducible (apply cdA; constructor) | with_reducible intro _)
 all_goals try (exfalso; omega)
 all_goals simp [D.closed, D.er, D.cL, D.erL, RcS, hck, setL]
set_option maxHeartbeats 1000000 in
theorem parse_lex (s : Tx) (hs : s.length ≤ 4999) (hq : zD4 s) {l : List Tok} {e p : Int} (hl : lexP s = (l, e, p)) (he : e ≠ 0) : Pur M 8 [.str s] (zD e p) := by
 have hlex := lex_p s hs hq
 rw [hl] at hlex
 have hcl := zDr l
 have her := zFg l
 have he' : (e != 0) = true := by simp [he]
 have s1 : SWp (E8 0 0) (.reg r8_0) (fun e s' => e = .normal ∧ s' = ⟨[.str s, .ptr 0 0, .ptr 1 0, .ptr 2 0, .u0, .u0, .u0, .u0, .u0, .u0, .u0], [], ⟨[.cells [.int .i64 0, .int .i64 0, .lit (.slice none 0 0)], .cells [.int .i64 0], .cells [.int .i64 0]], []⟩⟩) (St.init (E8 0 0) [.str s] ⟨[], []⟩) := by
  rw [ie8]
  repeat' (first | with_reducible (apply swq; constructor) | simp only [go_sem, seval, pe8, q8] | with_reducible intro _)
  all_goals first | exact ⟨rfl, rfl⟩ | rfl | trivial
 have s2 : SWp (E8 0 0) (.reg r8_1) (fun x s' => x = .normal ∧ s' = ⟨[.str s, .ptr 0 0, .ptr 1 0, .ptr 2 0, .slice (tokL l) .no, .int .i64 e, .int .i64 p, .u0, .u0, .u0, .u0], [], ⟨[.cells [.int .i64 0, .int .i64 0, .lit (.slice none 0 0)], .cells [.int .i64 0], .cells [.int .i64 0]], []⟩⟩)
  ⟨[.str s, .ptr 0 0, .ptr 1 0, .ptr 2 0, .u0, .u0, .u0, .u0, .u0, .u0, .u0], [], ⟨[.cells [.int .i64 0, .int .i64 0, .lit (.slice none 0 0)], .cells [.int .i64 0], .cells [.int .i64 0]], []⟩⟩ := by
  have wQ := And.intro @hcl @her; repeat' (first | with_reducible (apply swq; constructor) | simp only [go_sem, seval, pe8, q8] | ((with_reducible refine zAb (hlex) ?he ?hc ?_); (case he | hc => exact sc wQ)) | with_reducible intro _)
  all_goals first | exact ⟨rfl, rfl⟩ | rfl | trivial
 have s3 : SWp (E8 0 0) (.seq (.reg r8_2) (.cond (.v 8) (.seq (.reg r8_3) .ret) .skip)) (fun x s' => x = .ret ∧ rrsWp q8 s' fun ds => D.closed (zAl ds) = true ∧ (zAl ds).er = zD e p)
  ⟨[.str s, .ptr 0 0, .ptr 1 0, .ptr 2 0, .slice (tokL l) .no, .int .i64 e, .int .i64 p, .u0, .u0, .u0, .u0], [], ⟨[.cells [.int .i64 0, .int .i64 0, .lit (.slice none 0 0)], .cells [.int .i64 0], .cells [.int .i64 0]], []⟩⟩ := by
  repeat' (first | with_reducible (apply swq; constructor) | simp only [go_sem, seval, pe8, q8, he'] | with_reducible intro _)
  all_goals simp [D.closed, D.er, D.cL, D.erL, RcS, setL]
 have hP : (E8 0 0).P = Tryz.prog := rfl
 refine zDj ⟨⟨Tryz.f8, Tryz.func8, by kernel_rfl, rfl⟩, fun w g xs hA hH hargs => ?_⟩
 refine calls_of_wp_defers Tryz.func8 hK13 ((wpIn_wide (n := 0)).1 ?_)
 have hsim := zD0 (C := E8 0 0) (fn := Tryz.f8) (by kernel_rfl) (args := [.str s]) (hp := ⟨[], []⟩) (by rfl) (by rw [show ([D.str s] : List D).length = 1 from rfl]; decide) rfl rfl rfl hH hargs
 have hstart : (E8 0 0).M.start w g := ⟨hA, trivial⟩
 have hpan : ∀ d hp, ¬ (E8 0 0).M.pan d hp := fun _ _ h => h
 refine wpIn_seq (wpIn_mono (zBn s1 za13 hpan hstart hsim) fun e a1 w1 hl => ?_)
 obtain ⟨rfl, hl⟩ := hl
 simp only [Exit.then]
 refine wpIn_seq (wpIn_mono (zBn s2 zb13 hpan hstart hl) fun e a2 w2 hl => ?_)
 obtain ⟨rfl, hl⟩ := hl
 simp only [Exit.then]
 refine wpIn_seq (wpIn_mono (s3.run _ zc13 w g hstart a2 w2 hl none) fun x a3 w3 hl => ?_)
 cases x <;> simp only [Lift, Exit.then] at hl ⊢
 case normal => obtain ⟨_, _, q, _⟩ := hl; cases q
 case exit => obtain ⟨_, _, q, _⟩ := hl; cases q
 case panic => obtain ⟨_, _, _, _, _, _, k, _⟩ := hl; exact absurd k (hpan _ _)
 case ret =>
  obtain ⟨s5, ⟨G5, j0, jb, j1, j2, j3, j4⟩, _, hrr⟩ := hl
  have j2' : a3.defers = [] := j2
  simp only [bodyPostD, j2', Leaves]
  obtain ⟨ds, v, k1, k4, k5⟩ := zCb (C := E8 0 0) (a := a3) (fn := Tryz.f8) j0 j4 (rs := q8) (by kernel_rfl) hrr
  exact ⟨v, k5, v, _, _, G5, rfl, k1, j0, k4⟩
end Go.Proofs.YtkjnhkoipgdfeaaGreatDoor
end
section
set_option maxRecDepth 100000
set_option linter.unusedSimpArgs false
set_option linter.unusedVariables false
namespace Go.Proofs.YtkjnhkoipgdfeaaGreatDoor
open Go GoV Go.RowKit
def lays240_ren : Go.Shelf.Ren := ⟨fun | 240 => 88 | 276 => 97 | n => n, fun | 0 => 0 | 4 => 4 | 9 => 9 | 20 => 20 | 70 => 108 | 72 => 111 | 37 => 109 | 5 => 5 | 164 => 135 | n => n, fun | n => n⟩
theorem lays240 : Go.Proofs.Lays.n240 Tryz.prog lays240_ren := {
 mixed := by kernel_rfl
 f240 := Tryz.func88.trans (congrArg some (by kernel_rfl))
 f276 := Tryz.func97.trans (congrArg some (by kernel_rfl))
 t0 := Tryz.underlying0
 a0 := Tryz.isAgg0
 z0 := Tryz.sizeOf0
 v0 := Tryz.zeroValue0
 t4 := Tryz.underlying4
 a4 := Tryz.isAgg4
 z4 := Tryz.sizeOf4
 v4 := Tryz.zeroValue4
 t9 := Tryz.underlying9
 a9 := Tryz.isAgg9
 z9 := Tryz.sizeOf9
 v9 := Tryz.zeroValue9
 t20 := Tryz.underlying20
 a20 := Tryz.isAgg20
 z20 := Tryz.sizeOf20
 v20 := Tryz.zeroValue20
 t70 := Tryz.underlying108
 a70 := Tryz.isAgg108
 z70 := Tryz.sizeOf108
 v70 := Tryz.zeroValue108
 t72 := Tryz.underlying111
 a72 := Tryz.isAgg111
 z72 := Tryz.sizeOf111
 v72 := Tryz.zeroValue111
 t164 := Tryz.underlying135
 a164 := Tryz.isAgg135
 z164 := Tryz.sizeOf135
 v164 := Tryz.zeroValue135 }
theorem x72 : Builder.X72 Tryz.prog lays240_ren := {
 sizeBuilder := by kernel_rfl
 liesBuilder := by kernel_rfl }
theorem chk_e {p : D} (hp : p = .lit (.pointer none) ∨ p = .ptr 0 0) (bs : List UInt8) (n : Nat) : Eff M 88 [.ptr 0 0] ⟨[.tcells 111 [p, .gs 0 n]], [.byt 5 bs]⟩ (fun d hp' => d = .tup [] ∧ hp' = ⟨[.tcells 111 [.ptr 0 0, .gs 0 n]], [.byt 5 bs]⟩) :=
 copyCheck_e (M := M) lays240 x72 ⟨Tryz.f88, Tryz.func88, rfl, rfl⟩ hp
theorem wbyte_e {p : D} (hp : p = .lit (.pointer none) ∨ p = .ptr 0 0) (bs : List UInt8) (c : UInt8) (n : Nat) (hn : bs.length = n) (hr : n + 1 ≤ 140737488355328) :
 Eff M 77 [.ptr 0 0, .int .u8 c.toNat] ⟨[.tcells 111 [p, .gs 0 n]], [.byt 5 bs]⟩ (fun d hp' => d = .lit .nilIface ∧ hp' = ⟨[.tcells 111 [.ptr 0 0, .gs 0 (n + 1)]], [.byt 5 (bs ++ [c])]⟩) := by
 refine k77.oe 1 1 rfl rfl rfl ?_
 rw [ie77]
 unfold c77
 have c1 := chk_e hp bs n
 have hb : zDa [D.int .u8 c.toNat] = some [c] := by
  have : c.toNat < 256 := UInt8.toNat_lt c
  simp only [zDa]
  rw [if_pos (by omega)]; simp
 rcases hp with rfl | rfl
 iterate 2
  ·have wQ := tw; repeat' (first | with_reducible (apply swq; constructor) | simp only [go_sem, seval, pe77, q77] | ((with_reducible refine o_eff [0] [0] (c1) ?hs ?he ?hh ?_); (case hs => exact so); (case he | hh => exact sh wQ); rintro _ _ ⟨rfl, rfl⟩) | ((with_reducible apply s_bsl); (case he | hl | hc => exact sd wQ)) | with_reducible intro _)
   all_goals try (exfalso; omega)
   refine s_appB (es := [.int .u8 c.toNat]) rfl hb rfl rfl ⟨by simp; omega, by simp; omega⟩ rfl hn ?_
   repeat' (first | with_reducible (apply swq; constructor) | simp only [go_sem, seval, pe77, q77] | with_reducible intro _)
   all_goals try (exfalso; omega)
   exact ⟨_, zAf, rfl, rfl⟩
theorem str_e {p : D} {bs : List UInt8} (hl : bs.length ≤ 140737488355328) : Eff M 76 [.ptr 0 0] ⟨[.tcells 111 [p, .gs 0 bs.length]], [.byt 5 bs]⟩ (fun d hp' => d = .str bs ∧ hp' = ⟨[.tcells 111 [p, .gs 0 bs.length]], [.per 1 (bs.length + 1)]⟩) :=
 string_e (M := M) (ρ := Tryz.lays169_ren) Tryz.lays169 Tryz.Builder_Extra_169 ⟨Tryz.f76, Tryz.func76, rfl, rfl⟩ hl
end Go.Proofs.YtkjnhkoipgdfeaaGreatDoor
end
section
set_option maxRecDepth 100000
set_option linter.unusedSimpArgs false
set_option linter.unusedVariables false
namespace Go.Proofs.YtkjnhkoipgdfeaaGreatDoor
open Go GoV Go.RowKit
def oS (u : Option (Tx × Nat)) : Tx := match u with
 | some (t, _) => t
 | none => []
def oN (u : Option (Tx × Nat)) : Nat := match u with
 | some (_, n) => n
 | none => 0
theorem unq_at {s : Tx} {i : Nat} {acc : Tx} (h : i < s.length) : unq (s.drop i) acc i =
 if s.getD i 0 = 34 then some (acc, i + 1)
 else if s.getD i 0 = 10 then none
 else if s.getD i 0 = 92 then
  (if i + 1 < s.length then (if s.getD (i + 1) 0 = 92 then unq (s.drop (i + 2)) (acc ++ [92]) (i + 2) else if s.getD (i + 1) 0 = 34 then unq (s.drop (i + 2)) (acc ++ [34]) (i + 2) else if s.getD (i + 1) 0 = 110 then unq (s.drop (i + 2)) (acc ++ [10]) (i + 2) else none) else none)
 else unq (s.drop (i + 1)) (acc ++ [s.getD i 0]) (i + 1) := by
 rw [zAt h]
 by_cases h2 : i + 1 < s.length
 ·rw [if_pos h2, zAt h2]
  rw [unq]
 ·rw [if_neg h2, List.drop_eq_nil_of_le (by omega)]
  rw [unq]
  simp only [unq]
theorem u8B (c d : UInt8) : ((c.toNat : Int) == d.toNat) = (c == d) := by
 rw [Bool.eq_iff_iff, beq_iff_eq, beq_iff_eq]
 constructor
 ·intro h; exact UInt8.toNat_inj.1 (by omega)
 ·rintro rfl; rfl
theorem ix3 (d : UInt8) : Lib.indexByte [92, 34, 110] d = if d = 92 then 0 else if d = 34 then 1 else if d = 110 then 2 else -1 := by
 have key : ∀ n : Fin 256, Lib.indexByte [92, 34, 110] (UInt8.ofNat n.val) = if (UInt8.ofNat n.val) = 92 then 0 else if (UInt8.ofNat n.val) = 34 then 1 else if (UInt8.ofNat n.val) = 110 then 2 else -1 := by decide +kernel
 have h := key ⟨d.toNat, UInt8.toNat_lt d⟩
 have e : UInt8.ofNat d.toNat = d := by simp
 simpa only [e] using h
def bD (b : Bool) : D := if b then .ptr 0 0 else .lit (.pointer none)
theorem bD_or (b : Bool) : bD b = .lit (.pointer none) ∨ bD b = .ptr 0 0 := by cases b <;> simp [bD]
set_option maxHeartbeats 4000000 in
theorem unquoted_p (s : Tx) (hs : s.length ≤ 20000) : Pur M 64 [.str s] (.tup [.str (oS (unq (s.drop 1) [] 1)), .int .i64 (oN (unq (s.drop 1) [] 1) : Nat)]) := by
 refine k64.ok (C := C64) rfl rfl ?_
 rw [i64]
 unfold c64
 repeat' (first | with_reducible (apply swq; constructor) | simp only [go_sem, seval, P64, q64] | with_reducible intro _)
 all_goals try (exfalso; omega)
 refine zDt (weak_bld 0 111 5 _ rfl) ?_
 generalize hU : unq (s.drop 1) [] 1 = U
 refine zAu [0, 1, 2, 3, 4] (fun x : Nat × Tx × Bool => ⟨[.str s, .str [], .int .i64 0, .ptr 0 0, .int .i64 (x.1 : Nat), .u0, .u0, .u0, .u0, .u0, .u0, .u0, .u0, .u0], [], ⟨[.tcells 111 [bD x.2.2, .gs 0 x.2.1.length]], [.byt 5 x.2.1]⟩⟩)
  (fun x => 1 ≤ x.1 ∧ x.1 ≤ 20001 ∧ x.2.1.length ≤ x.1 ∧ unq (s.drop x.1) x.2.1 x.1 = U) (fun x => 20001 - x.1) (1, [], false) ⟨by omega, by omega, by simp, hU⟩ ?_ ?_
 ·simp [keepE, St.keep, bD]
 ·rintro ⟨i, acc, b⟩ ⟨g1, g2, g3, g4⟩
  simp only at g1 g2 g3 g4 ⊢
  have hbo := bD_or b
  have hti : ((i : Int) + 1).toNat = i + 1 := by omega
  by_cases hi : i < s.length
  ·rw [unq_at hi] at g4
   have hd : decide ((i : Int) < s.length) = true := by simp; omega
   generalize hc : s.getD i 0 = c at *
   have e34 := u8B c 34
   have e10 := u8B c 10
   have e92 := u8B c 92
   have n34 : (((34 : UInt8).toNat : Nat) : Int) = 34 := rfl
   have n10 : (((10 : UInt8).toNat : Nat) : Int) = 10 := rfl
   have n92 : (((92 : UInt8).toNat : Nat) : Int) = 92 := rfl
   rw [n34] at e34
   rw [n10] at e10
   rw [n92] at e92
   by_cases h34 : c = 34
   ·rw [if_pos h34] at g4
    have t1 : ((c.toNat : Int) == 34) = true := by rw [e34]; simp [h34]
    have cS := str_e (p := bD b) (bs := acc) (by omega)
    subst g4
    have e1 : oS (some (acc, i + 1)) = acc := rfl
    have e2 : oN (some (acc, i + 1)) = i + 1 := rfl
    rw [e1, e2]
    rcases hbo with e | e <;> rw [e] at cS ⊢
    iterate 2
     ·have wQ := tw; repeat' (first | with_reducible (apply swq; constructor) | simp only [go_sem, seval, P64, q64, hd, t1, hc] | simp (disch := omega) only [wA] | ((with_reducible refine o_eff [0] [0] (cS) ?hs ?he ?hh ?_); (case hs => exact so); (case he | hh => exact sh wQ); rintro _ _ ⟨rfl, rfl⟩) | ((with_reducible refine And.intro ?hw ?_); (case hw => exact sw wQ)) | with_reducible intro _)
      all_goals try (exfalso; omega)
      all_goals simp [D.closed, D.er, D.cL, D.erL]
   rw [if_neg h34] at g4
   have t1 : ((c.toNat : Int) == 34) = false := by rw [e34]; simp [h34]
   by_cases h10 : c = 10
   ·rw [if_pos h10] at g4
    have t2 : ((c.toNat : Int) == 10) = true := by rw [e10]; simp [h10]
    subst g4
    have e1 : oS none = [] := rfl
    have e2 : oN none = 0 := rfl
    rw [e1, e2]
    have wQ := tw; repeat' (first | with_reducible (apply swq; constructor) | simp only [go_sem, seval, P64, q64, hd, t1, t2, hc] | ((with_reducible refine And.intro ?hw ?_); (case hw => exact sw wQ)) | with_reducible intro _)
    all_goals try (exfalso; omega)
    all_goals simp [D.closed, D.er, D.cL, D.erL]
   rw [if_neg h10] at g4
   have t2 : ((c.toNat : Int) == 10) = false := by rw [e10]; simp [h10]
   by_cases h92 : c = 92
   ·rw [if_pos h92] at g4
    have t3 : ((c.toNat : Int) == 92) = true := by rw [e92]; simp [h92]
    by_cases hi2 : i + 1 < s.length
    ·rw [if_pos hi2] at g4
     have hd2 : decide ((i : Int) + 1 < s.length) = true := by simp; omega
     have hd3 : decide (((i + 1 : Nat) : Int) < s.length) = true := by simp; omega
     generalize hc2 : s.getD (i + 1) 0 = d at *
     have cI := index_p [92, 34, 110] d
     rw [ix3] at cI
     have hcc : ∀ (u : UInt8), (Eff M 77 [.ptr 0 0, .int .u8 u.toNat] ⟨[.tcells 111 [bD b, .gs 0 acc.length]], [.byt 5 acc]⟩ (fun d hp' => d = .lit .nilIface ∧ hp' = ⟨[.tcells 111 [.ptr 0 0, .gs 0 (acc.length + 1)]], [.byt 5 (acc ++ [u])]⟩)) := fun u => wbyte_e (bD_or b) acc u acc.length rfl (by omega)
     by_cases q1 : d = 92
     ·rw [if_pos q1] at g4 cI
      have cW := hcc 92
      rcases hbo with e | e <;> rw [e] at cW ⊢
      iterate 2
       ·have wQ := tw; repeat' (first | with_reducible (apply swq; constructor) | simp only [go_sem, seval, P64, q64, hd, hd2, hd3, hti, t1, t2, t3, hc, hc2] | simp (disch := omega) only [wA] | ((with_reducible refine zAb (cI) ?he ?hc ?_); (case he | hc => exact sc wQ)) | ((with_reducible refine o_eff [0] [0] (cW) ?hs ?he ?hh ?_); (case hs => exact so); (case he | hh => exact sh wQ); rintro _ _ ⟨rfl, rfl⟩) | ((with_reducible refine And.intro ?hw ?_); (case hw => exact sw wQ)) | with_reducible intro _)
        all_goals try (exfalso; omega)
        refine ⟨(i + 2, acc ++ [92], true), ⟨by simp only; omega, by simp only; omega, by simp; omega, g4⟩, by simp only; omega, ?_⟩
        simp [keepE, St.keep, bD]; omega
     rw [if_neg q1] at g4 cI
     by_cases q2 : d = 34
     ·rw [if_pos q2] at g4 cI
      have cW := hcc 34
      rcases hbo with e | e <;> rw [e] at cW ⊢
      iterate 2
       ·have wQ := tw; repeat' (first | with_reducible (apply swq; constructor) | simp only [go_sem, seval, P64, q64, hd, hd2, hd3, hti, t1, t2, t3, hc, hc2] | simp (disch := omega) only [wA] | ((with_reducible refine zAb (cI) ?he ?hc ?_); (case he | hc => exact sc wQ)) | ((with_reducible refine o_eff [0] [0] (cW) ?hs ?he ?hh ?_); (case hs => exact so); (case he | hh => exact sh wQ); rintro _ _ ⟨rfl, rfl⟩) | ((with_reducible refine And.intro ?hw ?_); (case hw => exact sw wQ)) | with_reducible intro _)
        all_goals try (exfalso; omega)
        refine ⟨(i + 2, acc ++ [34], true), ⟨by simp only; omega, by simp only; omega, by simp; omega, g4⟩, by simp only; omega, ?_⟩
        simp [keepE, St.keep, bD]; omega
     rw [if_neg q2] at g4 cI
     by_cases q3 : d = 110
     ·rw [if_pos q3] at g4 cI
      have cW := hcc 10
      rcases hbo with e | e <;> rw [e] at cW ⊢
      iterate 2
       ·have wQ := tw; repeat' (first | with_reducible (apply swq; constructor) | simp only [go_sem, seval, P64, q64, hd, hd2, hd3, hti, t1, t2, t3, hc, hc2] | simp (disch := omega) only [wA] | ((with_reducible refine zAb (cI) ?he ?hc ?_); (case he | hc => exact sc wQ)) | ((with_reducible refine o_eff [0] [0] (cW) ?hs ?he ?hh ?_); (case hs => exact so); (case he | hh => exact sh wQ); rintro _ _ ⟨rfl, rfl⟩) | ((with_reducible refine And.intro ?hw ?_); (case hw => exact sw wQ)) | with_reducible intro _)
        all_goals try (exfalso; omega)
        refine ⟨(i + 2, acc ++ [10], true), ⟨by simp only; omega, by simp only; omega, by simp; omega, g4⟩, by simp only; omega, ?_⟩
        simp [keepE, St.keep, bD]; omega
     rw [if_neg q3] at g4 cI
     subst g4
     have e1 : oS none = [] := rfl
     have e2 : oN none = 0 := rfl
     rw [e1, e2]
     have wQ := tw; repeat' (first | with_reducible (apply swq; constructor) | simp only [go_sem, seval, P64, q64, hd, hd2, hd3, hti, t1, t2, t3, hc, hc2] | simp (disch := omega) only [wA] | ((with_reducible refine zAb (cI) ?he ?hc ?_); (case he | hc => exact sc wQ)) | ((with_reducible refine And.intro ?hw ?_); (case hw => exact sw wQ)) | with_reducible intro _)
     all_goals try (exfalso; omega)
     all_goals simp [D.closed, D.er, D.cL, D.erL]
    ·rw [if_neg hi2] at g4
     have hd2 : decide ((i : Int) + 1 < s.length) = false := by simp; omega
     subst g4
     have e1 : oS none = [] := rfl
     have e2 : oN none = 0 := rfl
     rw [e1, e2]
     have wQ := tw; repeat' (first | with_reducible (apply swq; constructor) | simp only [go_sem, seval, P64, q64, hd, hd2, hti, t1, t2, t3, hc] | simp (disch := omega) only [wA] | ((with_reducible refine And.intro ?hw ?_); (case hw => exact sw wQ)) | with_reducible intro _)
     all_goals try (exfalso; omega)
     all_goals simp [D.closed, D.er, D.cL, D.erL]
   rw [if_neg h92] at g4
   have t3 : ((c.toNat : Int) == 92) = false := by rw [e92]; simp [h92]
   have cW := wbyte_e (bD_or b) acc c acc.length rfl (by omega)
   rcases hbo with e | e <;> rw [e] at cW ⊢
   iterate 2
    ·have wQ := tw; repeat' (first | with_reducible (apply swq; constructor) | simp only [go_sem, seval, P64, q64, hd, t1, t2, t3, hc] | simp (disch := omega) only [wA] | ((with_reducible refine o_eff [0] [0] (cW) ?hs ?he ?hh ?_); (case hs => exact so); (case he | hh => exact sh wQ); rintro _ _ ⟨rfl, rfl⟩) | ((with_reducible refine And.intro ?hw ?_); (case hw => exact sw wQ)) | with_reducible intro _)
     all_goals try (exfalso; omega)
     refine ⟨(i + 1, acc ++ [c], true), ⟨by simp only; omega, by simp only; omega, by simp; omega, g4⟩, by simp only; omega, ?_⟩
     simp [keepE, St.keep, bD]
  ·rw [List.drop_eq_nil_of_le (by omega)] at g4
   simp only [unq] at g4
   have hd : decide ((i : Int) < s.length) = false := by simp; omega
   subst g4
   have e1 : oS none = [] := rfl
   have e2 : oN none = 0 := rfl
   rw [e1, e2]
   repeat' (first | with_reducible (apply swq; constructor) | simp only [go_sem, seval, P64, q64, hd] | with_reducible intro _)
   all_goals try (exfalso; omega)
   all_goals simp [D.closed, D.er, D.cL, D.erL]
theorem quote_all (t : Tx) (ht : t.length ≤ 20000) : zD4 t := fun i hi hc => by
 have h := unquoted_p (t.drop i) (by simp; omega)
 rw [List.drop_drop] at h
 have e1 : unqS t i = oS (unq (t.drop (i + 1)) [] 1) := by unfold unqS oS; cases unq (t.drop (i + 1)) [] 1 <;> rfl
 have e2 : unqN t i = oN (unq (t.drop (i + 1)) [] 1) := by unfold unqN oN; cases unq (t.drop (i + 1)) [] 1 <;> rfl
 rw [e1, e2]
 exact h
end Go.Proofs.YtkjnhkoipgdfeaaGreatDoor
end
section
set_option linter.unusedSimpArgs false
set_option linter.unusedVariables false
namespace Go.Proofs.YtkjnhkoipgdfeaaGreatDoor
abbrev Kt := Int × Tx
def kt (t : Tok) : Kt := (t.kind, t.text)
def bodyK (op n : Int) (ts : List (List Kt)) : List Kt :=
 if op = 1 then [(2, Go.Lib.itoa n)] else if op = 2 then [(1, tKm)] else if op = 3 then [(1, tCy)] else if op = 4 then [(1, tLd)]
 else if op = 9 then (1, tMin) :: (4, [40]) :: (ts.getD 0 [] ++ ((4, [44]) :: (ts.getD 1 [] ++ [(4, [41])])))
 else if op = 10 then (1, tMax) :: (4, [40]) :: (ts.getD 0 [] ++ ((4, [44]) :: (ts.getD 1 [] ++ [(4, [41])])))
 else if op = 11 then (1, tIf) :: (4, [40]) :: (ts.getD 0 [] ++ ((4, [44]) :: (ts.getD 1 [] ++ ((4, [44]) :: (ts.getD 2 [] ++ [(4, [41])])))))
 else ts.getD 0 [] ++ ((4, symF op) :: ts.getD 1 [])
def parK (r least : Int) (t : List Kt) : List Kt := if r < least then (4, [40]) :: (t ++ [(4, [41])]) else t
mutual
def tkF : F → Int → List Kt
 | .mk op n ks, least => parK (rankF op) least (bodyK op n (if rankF op = 2 then tkL 0 0 ks else tkL (rankF op) (rankF op + 1) ks))
def tkL : Int → Int → List F → List (List Kt)
 | _, _, [] => []
 | a, b, k :: ks => tkF k a :: tkL b b ks
end
theorem loop_stop {op : List Tok → PR} {first : Int} {a b : Tx} {k : Nat} {f : F} {l : List Tok} (h : gotN 4 [a, b] l = none) : loopP op first a b k f l = .ok f l := by
 cases k with
 | zero => rfl
 | succ k => simp only [loopP, h]
theorem map_cons {l : List Tok} {x : Kt} {xs : List Kt} (h : l.map kt = x :: xs) : ∃ t r, l = t :: r ∧ t.kind = x.1 ∧ t.text = x.2 ∧ r.map kt = xs := by
 cases l with
 | nil => simp at h
 | cons t r =>
   simp only [List.map_cons, List.cons.injEq] at h
   obtain ⟨rfl, h2⟩ := h
   exact ⟨t, r, rfl, rfl, rfl, h2⟩
end Go.Proofs.YtkjnhkoipgdfeaaGreatDoor
end
section
set_option linter.unusedSimpArgs false
set_option linter.unusedVariables false
namespace Go.Proofs.YtkjnhkoipgdfeaaGreatDoor
def noW (s : Tx) : Prop := s.head?.any zAz = false
end Go.Proofs.YtkjnhkoipgdfeaaGreatDoor
end
section
set_option linter.unusedSimpArgs false
set_option linter.unusedVariables false
namespace Go.Proofs.YtkjnhkoipgdfeaaGreatDoor
def WellP (op : List Tok → PR) : Prop := ∀ l g r, GoodT l → op l = .ok g r → g.well = true ∧ r <:+ l
theorem well2 {op : Int} {f g : F} (h : 5 ≤ op ∧ op ≤ 10) (hf : f.well = true) (hg : g.well = true) : (F.mk op 0 [f, g]).well = true := by
 simp only [F.well, F.wellL, hf, hg, Bool.and_true, okN, List.length_cons, List.length_nil]
 have : want op = 2 := by unfold want; rw [if_neg (by omega), if_pos (by omega)]
 rw [this]
 exact decide_eq_true (by omega)
theorem loop_well {op : List Tok → PR} (h : WellP op) {first : Int} (hf : 5 ≤ first ∧ first ≤ 9) (a b : Tx) : ∀ k f l g r, GoodT l → f.well = true → loopP op first a b k f l = .ok g r → g.well = true ∧ r <:+ l
 | 0, f, l, g, r, hG, hw, e => by simp only [loopP] at e; cases e; exact ⟨hw, List.suffix_refl _⟩
 | k + 1, f, l, g, r, hG, hw, e => by
   simp only [loopP] at e
   cases hg : gotN 4 [a, b] l with
   | none => rw [hg] at e; cases e; exact ⟨hw, List.suffix_refl _⟩
   | some i =>
     rw [hg] at e
     obtain ⟨t, lt, rfl, _, _, hi, _⟩ := zBh hg
     simp only [List.tail_cons] at e
     simp only [List.length_cons, List.length_nil] at hi
     obtain ⟨f2, r2, e1, e2⟩ := zCf e
     obtain ⟨w1, s1⟩ := h _ _ _ (hG.suf (List.suffix_cons _ _)) e1
     obtain ⟨w2, s2⟩ := loop_well h hf a b k _ _ _ _ (hG.suf (s1.trans (List.suffix_cons _ _))) (well2 (by omega) hw w1) e2
     exact ⟨w2, s2.trans (s1.trans (List.suffix_cons _ _))⟩
theorem chain_well {op : List Tok → PR} (h : WellP op) {first : Int} (hf : 5 ≤ first ∧ first ≤ 9) (a b : Tx) : WellP (zFb op first a b) := by
 intro l g r hG e
 obtain ⟨f2, r2, e1, e2⟩ := zCf e
 obtain ⟨w1, s1⟩ := h _ _ _ hG e1
 obtain ⟨w2, s2⟩ := loop_well h hf a b _ _ _ _ _ (hG.suf s1) w1 e2
 exact ⟨w2, s2.trans s1⟩
theorem args_well {fo : List Tok → PR} (h : WellP fo) (en : Int) {op : Int} (m : Nat) (hm : m = want op) (ho : 9 ≤ op ∧ op ≤ 11) : ∀ n fs l g r, fs.length + n = m → (∀ f ∈ fs, f.well = true) → GoodT l → argsP fo en op n fs l = .ok g r → g.well = true ∧ r <:+ l
 | 0, fs, l, g, r, hl, hw, hG, e => by
   obtain ⟨t, l', rfl, _, e2⟩ := zBl e
   cases e2
   refine ⟨?_, List.suffix_cons _ _⟩
   simp only [F.well, Bool.and_eq_true]
   refine ⟨decide_eq_true ⟨by omega, by omega, by omega, by omega, by omega, by omega⟩, ?_⟩
   rw [zD8]
   exact List.all_eq_true.2 hw
 | n + 1, fs, l, g, r, hl, hw, hG, e => by
   obtain ⟨t, l', rfl, _, e2⟩ := zBl e
   obtain ⟨f2, r2, e3, e4⟩ := zCf e2
   obtain ⟨w1, s1⟩ := h _ _ _ (hG.suf (List.suffix_cons _ _)) e3
   obtain ⟨w2, s2⟩ := args_well h en m hm ho n _ _ _ _ (by simp; omega) (fun f hf => by
    rcases List.mem_append.1 hf with q | q
    ·exact hw f q
    ·rw [List.mem_singleton.1 q]; exact w1) (hG.suf (s1.trans (List.suffix_cons _ _))) e4
   exact ⟨w2, s2.trans (s1.trans (List.suffix_cons _ _))⟩
theorem fact_well {fo : List Tok → PR} (h : WellP fo) (en : Int) : WellP (factP fo en) := by
 intro l g r hG e
 cases l with
 | nil => simp [factP] at e
 | cons t l' =>
   have hGt : GoodT l' := hG.suf (List.suffix_cons _ _)
   simp only [factP] at e
   split at e
   ·rename_i hk
    cases e
    have hd := digs_rng (hG t (by simp) hk)
    refine ⟨?_, List.suffix_cons _ _⟩
    simp only [F.well, F.wellL, Bool.and_true]
    exact decide_eq_true ⟨by omega, by omega, rfl, by omega, by omega, fun _ => rfl⟩
   ·split at e
    ·rename_i i hg
     cases e
     obtain ⟨_, _, _, _, _, hi, _⟩ := zBh hg
     simp only [List.length_cons, List.length_nil] at hi
     refine ⟨?_, List.suffix_cons _ _⟩
     simp only [F.well, F.wellL, Bool.and_true]
     have : want (2 + i) = 0 := by unfold want; rw [if_neg (by omega), if_neg (by omega)]
     exact decide_eq_true ⟨by omega, by omega, by rw [this]; rfl, by omega, by omega, by omega⟩
    ·split at e
     ·rename_i i hg
      obtain ⟨_, _, _, _, _, hi, _⟩ := zBh hg
      simp only [List.length_cons, List.length_nil] at hi
      obtain ⟨t3, l3, rfl, _, e2⟩ := zBl e
      obtain ⟨f4, l4, e3, e4⟩ := zCf e2
      obtain ⟨w1, s1⟩ := h _ _ _ (hGt.suf (List.suffix_cons _ _)) e3
      have hwant : 1 + max 1 i = want (9 + i) := by
       have : i = 0 ∨ i = 1 ∨ i = 2 := by omega
       rcases this with rfl | rfl | rfl <;> decide
      obtain ⟨w2, s2⟩ := args_well h en (1 + max 1 i) hwant (by omega) _ _ _ _ _ (by simp) (fun f hf => by rw [List.mem_singleton.1 hf]; exact w1) (hGt.suf (s1.trans (List.suffix_cons _ _))) e4
      exact ⟨w2, s2.trans (s1.trans ((List.suffix_cons _ _).trans (List.suffix_cons _ _)))⟩
     ·obtain ⟨t3, l3, e0, _, e2⟩ := zBl e
      cases e0
      obtain ⟨f4, l4, e3, e4⟩ := zCf e2
      obtain ⟨t5, l5, rfl, _, e5⟩ := zBl e4
      cases e5
      obtain ⟨w1, s1⟩ := h _ _ _ hGt e3
      exact ⟨w1, (List.suffix_cons _ _).trans (s1.trans (List.suffix_cons _ _))⟩
theorem form_well (en : Int) : ∀ k, WellP (formP en k)
 | 0 => fun l g r _ e => by simp [formP] at e
 | k + 1 => chain_well (chain_well (fact_well (form_well en k) en) (by omega) _ _) (by omega) _ _
def ErrP (op : List Tok → PR) : Prop := ∀ l e p, op l = .no e p → e = 8 ∨ e = 9
theorem zF2 {en : Int} {l : List Tok} {e p : Int} (h : failP en l = .no e p) : e = 8 ∨ e = 9 := by
 cases l <;> (simp only [failP] at h; cases h; simp)
theorem needno {en : Int} {w : Tx} {l : List Tok} {go : List Tok → PR} {e p : Int} (h : needP en w l go = .no e p) : (failP en l = .no e p) ∨ ∃ t l', l = t :: l' ∧ go l' = .no e p := by
 unfold needP at h
 cases hg : gotN 4 [w] l with
 | none => rw [hg] at h; exact .inl h
 | some i =>
   rw [hg] at h
   obtain ⟨t, l', rfl, _⟩ := zBh hg
   exact .inr ⟨t, l', rfl, h⟩
theorem thenno {p : PR} {go : F → List Tok → PR} {e q : Int} (h : thenP p go = .no e q) : p = .no e q ∨ ∃ f r', p = .ok f r' ∧ go f r' = .no e q := by
 cases p with
 | no e1 q1 => simp only [thenP] at h; exact .inl h
 | ok f r' => exact .inr ⟨f, r', rfl, h⟩
theorem loop_err {op : List Tok → PR} (h : ErrP op) (first : Int) (a b : Tx) : ∀ k f, ErrP (loopP op first a b k f)
 | 0, f => fun l e p q => by simp [loopP] at q
 | k + 1, f => fun l e p q => by
   simp only [loopP] at q
   split at q
   ·cases q
   ·rcases thenno q with q | ⟨f2, r2, _, q⟩
    ·exact h _ _ _ q
    ·exact loop_err h first a b k _ _ _ _ q
theorem chain_err {op : List Tok → PR} (h : ErrP op) (first : Int) (a b : Tx) : ErrP (zFb op first a b) := fun l e p q => by
 rcases thenno q with q | ⟨f2, r2, _, q⟩
 ·exact h _ _ _ q
 ·exact loop_err h first a b _ _ _ _ _ q
theorem args_err {fo : List Tok → PR} (h : ErrP fo) (en op : Int) : ∀ n fs, ErrP (argsP fo en op n fs)
 | 0, fs => fun l e p q => by
   rcases needno q with q | ⟨t, l', _, q⟩
   ·exact zF2 q
   ·cases q
 | n + 1, fs => fun l e p q => by
   rcases needno q with q | ⟨t, l', _, q⟩
   ·exact zF2 q
   ·rcases thenno q with q | ⟨f2, r2, _, q⟩
    ·exact h _ _ _ q
    ·exact args_err h en op n _ _ _ _ q
theorem fact_err {fo : List Tok → PR} (h : ErrP fo) (en : Int) : ErrP (factP fo en) := fun l e p q => by
 cases l with
 | nil => simp only [factP] at q; cases q; simp
 | cons t l' =>
   simp only [factP] at q
   split at q
   ·cases q
   ·split at q
    ·cases q
    ·split at q
     ·rcases needno q with q | ⟨t, l', _, q⟩
      ·exact zF2 q
      ·rcases thenno q with q | ⟨f2, r2, _, q⟩
       ·exact h _ _ _ q
       ·exact args_err h _ _ _ _ _ _ _ q
     ·rcases needno q with q | ⟨t, l', _, q⟩
      ·exact zF2 q
      ·rcases thenno q with q | ⟨f2, r2, _, q⟩
       ·exact h _ _ _ q
       ·rcases needno q with q | ⟨t, l', _, q⟩
        ·exact zF2 q
        ·cases q
theorem form_errP (en : Int) : ∀ k, ErrP (formP en k)
 | 0 => fun l e p q => by simp only [formP] at q; cases q; simp
 | k + 1 => chain_err (chain_err (fact_err (form_errP en k) en) _ _ _) _ _ _
theorem form_err {en : Int} {k : Nat} {l : List Tok} {e p : Int} (h : formP en k l = .no e p) : e ≠ 0 := by
 rcases form_errP en k l e p h with h | h <;> omega
theorem spn_take {p : UInt8 → Bool} (s : Tx) : (s.take (spn p s)).all p = true ∧ (s.take (spn p s)).length = spn p s := by
 have h : s.take (spn p s) = s.takeWhile p := by
  unfold spn
  have h2 : s = s.takeWhile p ++ s.dropWhile p := (List.takeWhile_append_dropWhile).symm
  conv => lhs; arg 2; rw [h2]
  rw [List.take_left']
  rfl
 rw [h]
 exact ⟨List.all_takeWhile, rfl⟩
theorem step_num {s : Tx} {i : Nat} {f : Fo} (h : (step s i).2 = some f) (he : f.err = 0) (hk : f.tok.kind = 2) : numOk f.tok.text := by
 cases s with
 | nil => simp [step] at h
 | cons c r =>
   simp only [step] at h
   split at h
   ·cases h; cases hk
   ·split at h
    ·rename_i hd
     cases h
     simp only at he ⊢
     split at he
     ·cases he
     rename_i hn
     obtain ⟨q1, q2⟩ := spn_take (p := isDig) (c :: r)
     refine ⟨?_, q1, by rw [q2]; omega⟩
     intro h0
     have : spn isDig (c :: r) = 0 := by rw [← q2, h0]; rfl
     simp [spn, List.takeWhile_cons, hd] at this
    ·split at h
     ·cases h
     ·split at h
      ·cases h
      ·split at h
       ·split at h
        iterate 2
         ·cases h; cases hk
       ·split at h <;> (cases h; cases hk)
theorem lexF_num : ∀ (k : Nat) (s : Tx) (i : Nat), ∀ f ∈ lexF k s i, f.err = 0 → f.tok.kind = 2 → numOk f.tok.text
 | 0, s, i, f, hf, _, _ => by simp [lexF] at hf
 | k + 1, s, i, f, hf, he, hk => by
   simp only [lexF] at hf
   split at hf
   ·simp at hf
   ·split at hf
    ·exact lexF_num k _ _ f hf he hk
    ·rename_i f0 h0
     split at hf
     ·rename_i he0
      rcases List.mem_cons.1 hf with rfl | q
      ·exact step_num h0 he hk
      ·exact lexF_num k _ _ f q he hk
     ·have := List.mem_singleton.1 hf
      subst this
      exact step_num h0 he hk
theorem lexP_good {s : Tx} {l : List Tok} {e p : Int} (h : lexP s = (l, e, p)) : GoodT l ∧ l.length ≤ s.length := by
 unfold lexP at h
 split at h
 ·cases h
  exact ⟨fun t ht => by simp at ht, by simp⟩
 ·rename_i hb
  cases h
  refine ⟨fun t ht hk => ?_, by rw [List.length_map]; exact lexR_len s⟩
  obtain ⟨f, hf, rfl⟩ := List.mem_map.1 ht
  have he : f.err = 0 := by
   have := List.find?_eq_none.1 hb f hf
   simpa using this
  exact lexF_num _ _ _ f hf he hk
theorem parse_valid {s : Tx} {f : F} {p : Int} (h : zEl s = (f, 0, p)) : f.valid = true ∧ p = 0 := by
 unfold zEl at h
 split at h
 rename_i l e q hl
 obtain ⟨hG, _⟩ := lexP_good hl
 split at h
 ·unfold parseT at h
  split at h
  ·rename_i e1 p1 h1
   simp only [Prod.mk.injEq] at h
   exfalso
   exact absurd h.2.1 (form_err h1)
  ·simp at h
  ·rename_i g h1
   split at h
   ·rename_i hn
    simp only [Prod.mk.injEq] at h
    obtain ⟨rfl, _, rfl⟩ := h
    exact ⟨valid_iff.2 ⟨hn, (form_well _ _ _ _ _ hG h1).1⟩, rfl⟩
   ·simp at h
 ·rename_i he
  simp only [Prod.mk.injEq] at h
  exact absurd h.2.1 he
end Go.Proofs.YtkjnhkoipgdfeaaGreatDoor
end
section
set_option maxRecDepth 100000
set_option linter.unusedSimpArgs false
set_option linter.unusedVariables false
namespace Go.Proofs.YtkjnhkoipgdfeaaGreatDoor
open Go GoV Go.RowKit
theorem lexP_zero {s : Tx} {l : List Tok} {p : Int} (h : lexP s = (l, 0, p)) : p = 0 := by
 unfold lexP at h
 split at h
 ·rename_i f hf
  have := List.find?_some hf
  simp only [Prod.mk.injEq] at h
  simp [h.2.1] at this
 ·simp only [Prod.mk.injEq] at h
  exact h.2.2.symm
def parD (x : F × Int × Int) : D := .tup [x.1.d, .int .i64 x.2.1, .int .i64 x.2.2]
theorem zD_nn (e p : Int) : (zD e p).nn = parD (zeroF, e, p) := by simp [zD, parD, zeroF, F.d, F.dL, D.nn, D.nnL]
theorem parse_all (s : Tx) (hs : s.length ≤ 4999) : Pur M 8 [.str s] (parD (zEl s)) := by
 have hq := quote_all s (by omega)
 unfold zEl
 cases hl : lexP s with
 | mk l ep =>
   obtain ⟨e, p⟩ := ep
   simp only
   by_cases he : e = 0
   ·subst he
    have := lexP_zero hl
    subst this
    obtain ⟨hG, hll⟩ := lexP_good hl
    rw [if_pos rfl]
    unfold parseT
    cases hp : formP s.length (l.length + 1) l with
    | no e p => exact zEk (parse_no s hs hq hl (by omega) hG hp) (zD_nn _ _)
    | ok f r =>
      cases r with
      | cons t r => exact zEk (parse_more s hs hq hl (by omega) hG hp) (zD_nn _ _)
      | nil =>
        simp only
        by_cases hn : f.nodes ≤ 60
        ·rw [if_pos hn]; exact parse_p s hs hq hl (by omega) hG hp hn
        ·rw [if_neg hn]; exact zEk (parse_lim s hs hq hl (by omega) hG hp (by omega)) (zD_nn _ _)
   ·rw [if_neg he]
    exact zEk (parse_lex s hs hq hl he) (zD_nn _ _)
mutual
def sameB : F → F → Bool
 | .mk o n ks, .mk o' n' ks' => decide (o = o') && decide (n = n') && sameL ks ks'
def sameL : List F → List F → Bool
 | [], [] => true
 | a :: u, b :: v => sameB a b && sameL u v
 | _, _ => false
end
mutual
theorem sameB_iff : ∀ a b : F, sameB a b = true ↔ a = b
 | .mk o n ks, .mk o' n' ks' => by
   simp only [sameB, Bool.and_eq_true, decide_eq_true_eq, F.mk.injEq, zEf ks ks']
   exact and_assoc
theorem zEf : ∀ a b : List F, sameL a b = true ↔ a = b
 | [], [] => by simp [sameL]
 | [], b :: v => by simp [sameL]
 | a :: u, [] => by simp [sameL]
 | a :: u, b :: v => by simp only [sameL, Bool.and_eq_true, sameB_iff a b, zEf u v, List.cons.injEq]
end
theorem sameB_refl (a : F) : sameB a a = true := (sameB_iff a a).2 rfl
theorem sameB_eq (a b : F) : sameB a b = (decide (a.op = b.op) && decide (a.num = b.num) && sameL a.kids b.kids) := by cases a; cases b; rfl
theorem sameL_len {a b : List F} (h : a.length ≠ b.length) : sameL a b = false := by
 cases hb : sameL a b
 ·rfl
 ·rw [(zEf a b).1 hb] at h; exact absurd rfl h
theorem sameL_at {a b : List F} {i : Nat} (h1 : i < a.length) (h2 : i < b.length) (h : sameB a[i] b[i] = false) : sameL a b = false := by
 cases hb : sameL a b
 ·rfl
 ·have := (zEf a b).1 hb
  subst this
  rw [sameB_refl] at h; cases h
theorem sameL_all {a b : List F} (hl : a.length = b.length) (h : ∀ i (h1 : i < a.length) (h2 : i < b.length), sameB a[i] b[i] = true) : sameL a b = true := by
 rw [zEf]
 exact List.ext_getElem hl fun i h1 h2 => (sameB_iff _ _).1 (h i h1 h2)
set_option maxHeartbeats 4000000 in
theorem same_p : ∀ (k : Nat) (x y : F), x.nodes ≤ k → x.nodes ≤ 100000 → Pur M 12 [x.d, y.d] (.bool (sameB x y))
 | 0, x, y, hk, _ => by have := zBe x; omega
 | k + 1, x, y, hk, hk2 => by
   have ih : ∀ u ∈ x.kids, ∀ v : F, Pur M 12 [u.d, v.d] (.bool (sameB u v)) := fun u hu v => same_p k u v (by have := zAx hu; omega) (by have := zAx hu; omega)
   have hkl : x.kids.length ≤ 100000 := by have := zCs x.kids; have := F.nodes_eq x; omega
   refine k12.ok (C := C12) rfl rfl ?_
   rw [i12]
   unfold c12
   have hlx : (x.kids.map F.d).length = x.kids.length := by simp
   have hly : (y.kids.map F.d).length = y.kids.length := by simp
   rw [F.d_eq, F.d_eq, sameB_eq]
   by_cases h1 : ¬ x.op = y.op
   ·have t1 : (x.op != y.op) = true := by simp [h1]
    have e : (decide (x.op = y.op) && decide (x.num = y.num) && sameL x.kids y.kids) = false := by simp [h1]
    rw [e]
    repeat' (first | with_reducible (apply swq; constructor) | simp only [go_sem, seval, P12, q12, t1] | with_reducible intro _)
    all_goals simp [D.closed, D.er]
   have h1 := Decidable.not_not.1 h1
   have t1 : (x.op != y.op) = false := by simp [h1]
   by_cases h2 : ¬ x.num = y.num
   ·have t2 : (x.num != y.num) = true := by simp [h2]
    have e : (decide (x.op = y.op) && decide (x.num = y.num) && sameL x.kids y.kids) = false := by simp [h2]
    rw [e]
    repeat' (first | with_reducible (apply swq; constructor) | simp only [go_sem, seval, P12, q12, t1, t2] | with_reducible intro _)
    all_goals simp [D.closed, D.er]
   have h2 := Decidable.not_not.1 h2
   have t2 : (x.num != y.num) = false := by simp [h2]
   by_cases h3 : ¬ x.kids.length = y.kids.length
   ·have t3 : ((x.kids.length : Int) != y.kids.length) = true := by simp; omega
    have e : (decide (x.op = y.op) && decide (x.num = y.num) && sameL x.kids y.kids) = false := by simp [sameL_len h3]
    rw [e]
    repeat' (first | with_reducible (apply swq; constructor) | simp only [go_sem, seval, P12, q12, t1, t2, t3, hlx, hly] | with_reducible intro _)
    all_goals simp [D.closed, D.er]
   have h3 := Decidable.not_not.1 h3
   have t3 : ((x.kids.length : Int) != y.kids.length) = false := by simp; omega
   have e : (decide (x.op = y.op) && decide (x.num = y.num) && sameL x.kids y.kids) = sameL x.kids y.kids := by simp [h1, h2]
   rw [e]
   repeat' (first | with_reducible (apply swq; constructor) | simp only [go_sem, seval, P12, q12, t1, t2, t3, hlx, hly] | with_reducible intro _)
   refine zAu [2, 3, 4, 5] (fun i : Nat => ⟨[.u0, .u0, .ptr 0 0, .ptr 1 0, .bool false, .int .i64 i, .u0, .u0, .u0], [], ⟨[.cells x.cells, .cells y.cells], []⟩⟩)
    (fun i => i ≤ x.kids.length ∧ ∀ j (q1 : j < x.kids.length) (q2 : j < y.kids.length), j < i → sameB x.kids[j] y.kids[j] = true) (fun i => x.kids.length - i) 0 ⟨by omega, fun _ _ _ h => by omega⟩ ?_ ?_
   ·simp [keepE, St.keep, F.cells]
   ·rintro i ⟨hi, hall⟩
    by_cases hil : i < x.kids.length
    ·have hil2 : i < y.kids.length := by omega
     have hg : (x.kids.map F.d).getD i .u0 = .agg (x.kids[i]).cells := by simp [List.getD, hil, F.d_eq]
     have hg2 : (y.kids.map F.d).getD i .u0 = .agg (y.kids[i]).cells := by simp [List.getD, hil2, F.d_eq]
     have hd : decide ((i : Int) < x.kids.length) = true := by simp; omega
     have c1 := ih _ (List.getElem_mem hil) y.kids[i]
     have a1 := zAd (x.kids[i]).kids
     have a2 := erL_F (x.kids[i]).kids
     have a3 := zAd (y.kids[i]).kids
     have a4 := erL_F (y.kids[i]).kids
     rw [F.d_eq, F.d_eq] at c1
     cases hb : sameB x.kids[i] y.kids[i]
     ·rw [hb] at c1
      rw [sameL_at hil hil2 hb]
      have wQ := And.intro @hlx (And.intro @hly (And.intro @hg (And.intro @hg2 (And.intro @a1 (And.intro @a2 (And.intro @a3 @a4)))))); repeat' (first | with_reducible (apply swq; constructor) | simp only [go_sem, seval, P12, q12, hlx, hly, hg, hg2, hd] | ((with_reducible refine zAb (c1) ?he ?hc ?_); (case he | hc => exact sc wQ)) | ((with_reducible refine And.intro ?hw ?_); (case hw => exact sw wQ)) | with_reducible intro _)
      all_goals try (exfalso; omega)
      all_goals simp [D.closed, D.er]
     ·rw [hb] at c1
      have wQ := And.intro @hlx (And.intro @hly (And.intro @hg (And.intro @hg2 (And.intro @a1 (And.intro @a2 (And.intro @a3 @a4)))))); repeat' (first | with_reducible (apply swq; constructor) | simp only [go_sem, seval, P12, q12, hlx, hly, hg, hg2, hd] | simp (disch := omega) only [wA] | ((with_reducible refine zAb (c1) ?he ?hc ?_); (case he | hc => exact sc wQ)) | ((with_reducible refine And.intro ?hw ?_); (case hw => exact sw wQ)) | with_reducible intro _)
      all_goals try (exfalso; omega)
      refine ⟨i + 1, ⟨by omega, fun j q1 q2 hj => ?_⟩, by omega, ?_⟩
      ·by_cases e : j = i
       ·subst e; exact hb
       ·exact hall j q1 q2 (by omega)
      ·simp [keepE, St.keep, F.cells]
    ·obtain rfl : i = x.kids.length := by omega
     have hd : decide ((x.kids.length : Int) < x.kids.length) = false := by simp
     rw [sameL_all h3 (fun j q1 q2 => hall j q1 q2 q1)]
     repeat' (first | with_reducible (apply swq; constructor) | simp only [go_sem, seval, P12, q12, hlx, hly, hd] | with_reducible intro _)
     all_goals try (exfalso; omega)
     all_goals simp [D.closed, D.er]
end Go.Proofs.YtkjnhkoipgdfeaaGreatDoor
end
section
set_option maxRecDepth 100000
set_option linter.unusedSimpArgs false
set_option linter.unusedVariables false
namespace Go.Proofs.YtkjnhkoipgdfeaaGreatDoor
open Go GoV Go.RowKit
mutual
theorem nn_F : ∀ x : F, x.d.nn = x.d
 | .mk op n ks => by simp [F.d, D.nn, D.nnL, nnL_F' ks]
theorem nnL_F' : ∀ ks : List F, D.nnL (F.dL ks) = F.dL ks
 | [] => rfl
 | k :: ks => by simp [F.dL, D.nnL, nn_F k, nnL_F' ks]
end
end Go.Proofs.YtkjnhkoipgdfeaaGreatDoor
end
section
set_option maxRecDepth 100000
set_option linter.unusedSimpArgs false
set_option linter.unusedVariables false
namespace Go.Proofs.YtkjnhkoipgdfeaaGreatDoor
open Go GoV Go.RowKit
theorem opens_iv {w : World} : ∀ n, Opens Tryz.prog w n 26 (fun x : Int × Int => [.int .i64 x.1, .int .i64 x.2]) (fun x => True) := by
 refine opens_all fun n => ?_
 have hF : OpensF Tryz.prog w n [⟨"Low", 3, 0, false, "", "", 0⟩, ⟨"High", 3, 1, false, "", "", 8⟩] 0 _ _ :=
  zBo (c := 1) rfl (by kernel_rfl) (zCz Tryz.underlying3) (zBo (c := 1) rfl (by kernel_rfl) (zCz Tryz.underlying3) opensF_nil)
 exact (zEm Tryz.underlying26 (by kernel_rfl) hF).imp (fun a => (a.1, a.2.1)) (fun a _ => by simp) (fun a h => trivial)
theorem opens_use {w : World} : ∀ n, Opens Tryz.prog w n 28 (fun u : Use => [.int .i64 u.km.1, .int .i64 u.km.2, .int .i64 u.cy.1, .int .i64 u.cy.2, .int .i64 u.ld.1, .int .i64 u.ld.2]) (fun _ => True) := by
 refine opens_all fun n => ?_
 have hF : OpensF Tryz.prog w n [⟨"Km", 26, 0, false, "", "", 0⟩, ⟨"Cycles", 26, 2, false, "", "", 16⟩, ⟨"Load", 26, 4, false, "", "", 32⟩] 0 _ _ :=
  zBo (c := 2) rfl (by kernel_rfl) (opens_iv n) (zBo (c := 2) rfl (by kernel_rfl) (opens_iv n) (zBo (c := 2) rfl (by kernel_rfl) (opens_iv n) opensF_nil))
 exact (zEm Tryz.underlying28 (by kernel_rfl) hF).imp (fun a => Use.mk a.1 a.2.1 a.2.2.1) (fun a _ => by simp) (fun a h => trivial)
theorem opens_kids {w : World} (n : Nat) (h : Opens Tryz.prog w n 24 F.cells (fun _ => True)) : Opens Tryz.prog w (n + 1) 22 (fun l : List F => [.slice (l.map F.d) .no]) (fun _ => True) :=
 (opens_slice Tryz.underlying22 (show 0 < Tryz.prog.cellsOf 24 by rw [show Tryz.prog.cellsOf 24 = 3 by kernel_rfl]; omega) h).imp id (fun a _ => by
  have e : (fun x : F => pk x.cells) = F.d := by funext x; rw [F.d_eq]; rfl
  show [D.slice (a.map F.d) .no] = [D.slice (a.map fun x => pk x.cells) .no]
  rw [e]) (fun a h => trivial)
theorem opens_f {w : World} : ∀ n, Opens Tryz.prog w n 24 F.cells (fun _ => True)
 | 0 => opens_zero
 | n + 1 => by
   have hk : Opens Tryz.prog w n 22 (fun l : List F => [.slice (l.map F.d) .no]) (fun _ => True) := by
    cases n with
    | zero => exact opens_zero
    | succ m => exact opens_kids m (opens_f m)
   have hF : OpensF Tryz.prog w n [⟨"Op", 3, 0, false, "", "", 0⟩, ⟨"N", 3, 1, false, "", "", 8⟩, ⟨"Kids", 22, 2, false, "", "", 16⟩] 0 _ _ :=
    zBo (c := 1) rfl (by kernel_rfl) (zCz Tryz.underlying3) (zBo (c := 1) rfl (by kernel_rfl) (zCz Tryz.underlying3) (zBo (c := 1) rfl (by kernel_rfl) hk opensF_nil))
   exact (zEm Tryz.underlying24 (by kernel_rfl) hF).imp (fun a => F.mk a.1 a.2.1 a.2.2.1) (fun a _ => by simp [F.cells, F.op, F.num, F.kids]) (fun a h => trivial)
end Go.Proofs.YtkjnhkoipgdfeaaGreatDoor
end
section
set_option maxRecDepth 100000
set_option linter.unusedSimpArgs false
set_option linter.unusedVariables false
namespace Go.Proofs.YtkjnhkoipgdfeaaGreatDoor
open Go GoV Go.RowKit
theorem letter_p (c : UInt8) : Pur M 68 [.int .u8 c.toNat] (.bool (isLet c)) := by
 refine k68.ok (C := C68) rfl rfl ?_
 rw [i68]
 unfold c68
 repeat' (first | with_reducible (apply swq; constructor) | simp only [go_sem, seval, P68, q68] | (with_reducible (apply gdA; constructor)) | with_reducible intro _)
 all_goals try (exfalso; omega)
 all_goals simp only [D.closed, D.er, isLet, D.bool.injEq, true_and]
 all_goals first | exact (decide_eq_true (by omega)).symm | exact (decide_eq_false (by omega)).symm | exact decide_eq_decide.2 (by omega)
theorem digit_p (c : UInt8) : Pur M 70 [.int .u8 c.toNat] (.bool (isDig c)) := by
 refine k70.ok (C := C70) rfl rfl ?_
 rw [i70]
 unfold c70
 repeat' (first | with_reducible (apply swq; constructor) | simp only [go_sem, seval, P70, q70] | (with_reducible (apply gdA; constructor)) | with_reducible intro _)
 all_goals try (exfalso; omega)
 all_goals simp only [D.closed, D.er, isDig, D.bool.injEq, true_and]
 all_goals first | exact (decide_eq_true (by omega)).symm | exact (decide_eq_false (by omega)).symm | exact decide_eq_decide.2 (by omega)
theorem word_p (c : UInt8) : Pur M 69 [.int .u8 c.toNat] (.bool (zAz c)) := by
 refine k69.ok (C := C69) rfl rfl ?_
 rw [i69]
 unfold c69
 have h1 := letter_p c
 have h2 := digit_p c
 have e95 : ((c.toNat : Int) == 95) = (c == 95) := u8B c 95
 unfold zAz
 generalize isLet c = b1 at *
 generalize isDig c = b2 at *
 cases b1 <;> cases b2 <;> (
  have wQ := tw; repeat' (first | with_reducible (apply swq; constructor) | simp only [go_sem, seval, P69, q69, e95] | ((with_reducible refine zAb (h1) ?he ?hc ?_); (case he | hc => exact sc wQ)) | ((with_reducible refine zAb (h2) ?he ?hc ?_); (case he | hc => exact sc wQ)) | with_reducible intro _)
  all_goals simp [D.closed, D.er])
theorem contains_take {s : Tx} {i : Nat} (h : i < s.length) (c : UInt8) : (s.take (i + 1)).contains c = ((s.take i).contains c || s.getD i 0 == c) := by
 have e : s.take (i + 1) = s.take i ++ [s.getD i 0] := by
  rw [List.take_succ_eq_append_getElem h]
  simp [List.getD_eq_getElem?_getD, h]
 rw [e]
 simp only [List.contains_eq_any_beq, List.any_append, List.any_cons, List.any_nil, Bool.or_false]
 rw [BEq.comm (a := c)]
theorem contains_at {s : Tx} {i : Nat} (h : i < s.length) {c : UInt8} (hc : (s.getD i 0 == c) = true) : s.contains c = true := by
 have : s.getD i 0 = c := by simpa using hc
 rw [List.contains_iff_mem, ← this]
 simp [List.getD_eq_getElem?_getD, h]
set_option maxHeartbeats 4000000 in
theorem has_p (s : Tx) (c : UInt8) (hs : s.length ≤ 100000) : Pur M 67 [.str s, .int .u8 c.toNat] (.bool (s.contains c)) := by
 refine k67.ok (C := C67) rfl rfl ?_
 rw [i67]
 unfold c67
 repeat' (first | with_reducible (apply swq; constructor) | simp only [go_sem, seval, P67, q67] | with_reducible intro _)
 all_goals try (exfalso; omega)
 refine zAu [0, 1, 2, 3] (fun i : Nat => ⟨[.str s, .int .u8 c.toNat, .bool false, .int .i64 i, .u0, .u0], [], ⟨[], []⟩⟩) (fun i => i ≤ s.length ∧ (s.take i).contains c = false) (fun i => s.length - i) 0 ⟨by omega, by simp⟩ ?_ ?_
 ·simp [keepE, St.keep]
 ·rintro i ⟨hi, hb⟩
  by_cases hil : i < s.length
  ·have hd : decide ((i : Int) < s.length) = true := by simp; omega
   have hm := contains_take hil c
   have ub := u8B (s.getD i 0) c
   cases hq : (s.getD i 0 == c)
   ·rw [hq] at ub hm
    rw [hb] at hm
    generalize hc : s.getD i 0 = a at *
    have wQ := tw; repeat' (first | with_reducible (apply swq; constructor) | simp only [go_sem, seval, P67, q67, hd, ub, hc] | simp (disch := omega) only [wA] | ((with_reducible refine And.intro ?hw ?_); (case hw => exact sw wQ)) | with_reducible intro _)
    all_goals try (exfalso; omega)
    refine ⟨i + 1, ⟨by omega, hm⟩, by omega, ?_⟩
    simp [keepE, St.keep]
   ·rw [contains_at hil hq]
    rw [hq] at ub
    generalize hc : s.getD i 0 = a at *
    have wQ := tw; repeat' (first | with_reducible (apply swq; constructor) | simp only [go_sem, seval, P67, q67, hd, ub, hc] | ((with_reducible refine And.intro ?hw ?_); (case hw => exact sw wQ)) | with_reducible intro _)
    all_goals try (exfalso; omega)
    all_goals simp [D.closed, D.er]
  ·obtain rfl : i = s.length := by omega
   have hd : decide ((s.length : Int) < s.length) = false := by simp
   rw [List.take_length] at hb
   rw [hb]
   repeat' (first | with_reducible (apply swq; constructor) | simp only [go_sem, seval, P67, q67, hd] | with_reducible intro _)
   all_goals try (exfalso; omega)
   all_goals simp [D.closed, D.er]
def gapF (t : Tx) : Nat → Nat → Nat
 | 0, i => i
 | k + 1, i => if i < t.length then (if zA4 (t.getD i 0) = true then gapF t k (i + 1) else if t.getD i 0 = 35 then gapF t k (i + spn (fun d => !(d == 10)) (t.drop i)) else i) else i
theorem hash_pos {t : Tx} {i : Nat} (h : i < t.length) (hc : t.getD i 0 = 35) : 0 < spn (fun d => !(d == 10)) (t.drop i) := zEc h (by rw [hc]; decide)
theorem zDn (t : Tx) : ∀ (a b i : Nat), t.length - i ≤ a → t.length - i ≤ b → gapF t a i = gapF t b i
 | 0, 0, i, _, _ => rfl
 | 0, b + 1, i, ha, _ => by simp only [gapF]; rw [if_neg (by omega)]
 | a + 1, 0, i, _, hb => by simp only [gapF]; rw [if_neg (by omega)]
 | a + 1, b + 1, i, ha, hb => by
   simp only [gapF]
   by_cases h : i < t.length
   ·rw [if_pos h, if_pos h]
    by_cases h1 : zA4 (t.getD i 0) = true
    ·rw [if_pos h1, if_pos h1]; exact zDn t a b _ (by omega) (by omega)
    ·rw [if_neg h1, if_neg h1]
     by_cases h2 : t.getD i 0 = 35
     ·have := hash_pos h h2
      rw [if_pos h2, if_pos h2]; exact zDn t a b _ (by omega) (by omega)
     ·rw [if_neg h2, if_neg h2]
   ·rw [if_neg h, if_neg h]
def gapT (t : Tx) (i : Nat) : Nat := gapF t t.length i
theorem gapT_step {t : Tx} {i : Nat} (h : i < t.length) : gapT t i = if zA4 (t.getD i 0) = true then gapT t (i + 1) else if t.getD i 0 = 35 then gapT t (i + spn (fun d => !(d == 10)) (t.drop i)) else i := by
 have e : gapT t i = gapF t (t.length - i - 1 + 1) i := zDn t _ _ i (by omega) (by omega)
 rw [e]
 simp only [gapF]
 rw [if_pos h]
 split
 ·exact zDn t _ _ _ (by omega) (by omega)
 ·split
  ·rename_i h2
   have := hash_pos h h2
   exact zDn t _ _ _ (by omega) (by omega)
  ·rfl
theorem gapT_end {t : Tx} {i : Nat} (h : ¬ i < t.length) : gapT t i = i := by
 unfold gapT
 rw [zDn t t.length 0 i (by omega) (by omega)]
 rfl
theorem blank_has (c : UInt8) : ([32, 9, 10] : Tx).contains c = zA4 c := by
 have := zDq (p := fun c => ([32, 9, 10] : Tx).contains c == zA4 c) (by decide +kernel) c
 exact eq_of_beq this
set_option maxHeartbeats 4000000 in
theorem gap_p (t : Tx) (i : Nat) (ht : t.length ≤ 100000) (hi : i ≤ t.length) : Pur M 45 [.str t, .int .i64 i] (.int .i64 (gapT t i : Nat)) := by
 refine k45.ok (C := C45) rfl rfl ?_
 rw [i45]
 unfold c45
 repeat' (first | with_reducible (apply swq; constructor) | simp only [go_sem, seval, P45, q45] | with_reducible intro _)
 all_goals try (exfalso; omega)
 generalize hG : gapT t i = G
 refine zAu [0, 1, 2] (fun j : Nat => ⟨[.str t, .int .i64 j, .int .i64 0, .u0, .u0, .u0, .u0], [], ⟨[], []⟩⟩) (fun j => j ≤ t.length ∧ gapT t j = G) (fun j => t.length - j) i ⟨hi, hG⟩ ?_ ?_
 ·simp [keepE, St.keep]
 ·rintro j ⟨hj, hb⟩
  by_cases hjl : j < t.length
  ·have hd : decide ((j : Int) < t.length) = true := by simp; omega
   rw [gapT_step hjl] at hb
   have h1 := has_p [32, 9, 10] (t.getD j 0) (by simp)
   rw [blank_has] at h1
   have ub : (((t.getD j 0).toNat : Int) == 35) = (t.getD j 0 == 35) := u8B _ 35
   cases hq : zA4 (t.getD j 0)
   ·rw [hq] at h1 hb
    rw [if_neg (by simp)] at hb
    by_cases h35 : t.getD j 0 = 35
    ·rw [if_pos h35] at hb
     have t1 : (((t.getD j 0).toNat : Int) == 35) = true := by rw [ub]; simp only [h35]; rfl
     have hpos := hash_pos hjl h35
     have hlen := zFh (p := fun d => !(d == 10)) (t := t) (i := j) hj
     have hget := fun q => spn_get (p := fun d => !(d == 10)) (t := t) (i := j) (j := q)
     have hstop := zEw (p := fun d => !(d == 10)) (t := t) (i := j)
     generalize spn (fun d => !(d == 10)) (t.drop j) = m at *
     have wQ := tw; repeat' (first | with_reducible (apply swq; constructor) | simp only [go_sem, seval, P45, q45, hd, t1] | ((with_reducible refine zAb (h1) ?he ?hc ?_); (case he | hc => exact sc wQ)) | ((with_reducible refine And.intro ?hw ?_); (case hw => exact sw wQ)) | with_reducible intro _)
     all_goals try (exfalso; omega)
     refine zAu [0, 1, 2] (fun q : Nat => ⟨[.str t, .int .i64 (j + q : Nat), .int .i64 0, .u0, .u0, .u0, .u0], [], ⟨[], []⟩⟩) (fun q => q ≤ m) (fun q => m - q) 0 (by omega) ?_ ?_
     ·simp [keepE, St.keep]
     ·rintro q hq2
      by_cases hqm : q < m
      ·obtain ⟨g1, g2⟩ := hget q hqm
       have hd2 : decide (((j + q : Nat) : Int) < t.length) = true := by simp; omega
       have t2 : (((t.getD (j + q) 0).toNat : Int) != 10) = true := by rw [cls0B]; exact g2
       have wQ := tw; repeat' (first | with_reducible (apply swq; constructor) | simp only [go_sem, seval, P45, q45, hd2, t2] | simp (disch := omega) only [wA] | ((with_reducible refine And.intro ?hw ?_); (case hw => exact sw wQ)) | with_reducible intro _)
       all_goals try (exfalso; omega)
       refine ⟨q + 1, by omega, by omega, ?_⟩
       simp [keepE, St.keep]; omega
      ·obtain rfl : q = m := by omega
       by_cases hend : j + q < t.length
       ·have hd2 : decide (((j + q : Nat) : Int) < t.length) = true := by simp; omega
        have t2 : (((t.getD (j + q) 0).toNat : Int) != 10) = false := by rw [cls0B]; exact hstop hend
        have wQ := tw; repeat' (first | with_reducible (apply swq; constructor) | simp only [go_sem, seval, P45, q45, hd2, t2] | ((with_reducible refine And.intro ?hw ?_); (case hw => exact sw wQ)) | with_reducible intro _)
        all_goals try (exfalso; omega)
        refine ⟨j + q, ⟨by omega, hb⟩, by omega, ?_⟩
        simp [keepE, St.keep]
       ·have hd2 : decide (((j + q : Nat) : Int) < t.length) = false := by simp; omega
        repeat' (first | with_reducible (apply swq; constructor) | simp only [go_sem, seval, P45, q45, hd2] | with_reducible intro _)
        all_goals try (exfalso; omega)
        refine ⟨j + q, ⟨by omega, hb⟩, by omega, ?_⟩
        simp [keepE, St.keep]
    ·rw [if_neg h35] at hb
     have t1 : (((t.getD j 0).toNat : Int) == 35) = false := by rw [ub]; simp only [beq_eq_false_iff_ne]; exact h35
     rw [← hb]
     have wQ := tw; repeat' (first | with_reducible (apply swq; constructor) | simp only [go_sem, seval, P45, q45, hd, t1] | ((with_reducible refine zAb (h1) ?he ?hc ?_); (case he | hc => exact sc wQ)) | ((with_reducible refine And.intro ?hw ?_); (case hw => exact sw wQ)) | with_reducible intro _)
     all_goals try (exfalso; omega)
     all_goals simp [D.closed, D.er]
   ·rw [hq] at h1 hb
    rw [if_pos rfl] at hb
    have wQ := tw; repeat' (first | with_reducible (apply swq; constructor) | simp only [go_sem, seval, P45, q45, hd] | simp (disch := omega) only [wA] | ((with_reducible refine zAb (h1) ?he ?hc ?_); (case he | hc => exact sc wQ)) | ((with_reducible refine And.intro ?hw ?_); (case hw => exact sw wQ)) | with_reducible intro _)
    all_goals try (exfalso; omega)
    refine ⟨j + 1, ⟨by omega, hb⟩, by omega, ?_⟩
    simp [keepE, St.keep]
  ·have hd : decide ((j : Int) < t.length) = false := by simp; omega
   rw [gapT_end hjl] at hb
   rw [← hb]
   repeat' (first | with_reducible (apply swq; constructor) | simp only [go_sem, seval, P45, q45, hd] | with_reducible intro _)
   all_goals try (exfalso; omega)
   all_goals simp [D.closed, D.er]
end Go.Proofs.YtkjnhkoipgdfeaaGreatDoor
end
section
set_option maxRecDepth 100000
set_option linter.unusedSimpArgs false
set_option linter.unusedVariables false
namespace Go.Proofs.YtkjnhkoipgdfeaaGreatDoor
open Go GoV Go.RowKit
theorem unqG {s : Tx} {i n : Nat} {acc : Tx} (h : i < s.length) : unq (s.drop i) acc n =
 if s.getD i 0 = 34 then some (acc, n + 1)
 else if s.getD i 0 = 10 then none
 else if s.getD i 0 = 92 then
  (if i + 1 < s.length then (if s.getD (i + 1) 0 = 92 then unq (s.drop (i + 2)) (acc ++ [92]) (n + 2) else if s.getD (i + 1) 0 = 34 then unq (s.drop (i + 2)) (acc ++ [34]) (n + 2) else if s.getD (i + 1) 0 = 110 then unq (s.drop (i + 2)) (acc ++ [10]) (n + 2) else none) else none)
 else unq (s.drop (i + 1)) (acc ++ [s.getD i 0]) (n + 1) := by
 rw [zAt h]
 by_cases h2 : i + 1 < s.length
 ·rw [if_pos h2, zAt h2]
  rw [unq]
 ·rw [if_neg h2, List.drop_eq_nil_of_le (by omega)]
  rw [unq]
  simp only [unq]
def strD (i : Nat) : Option (Tx × Nat) → D
 | some (u, n) => .tup [.str u, .int .i64 ((i : Int) + n), .bool true]
 | none => .tup [.str [], .int .i64 0, .bool false]
theorem cut1 {t : Tx} {p : Nat} (h : p < t.length) : (t.take (p + 1)).drop p = [t.getD p 0] := by
 rw [List.drop_take, show p + 1 - p = 1 by omega, zAt h]; rfl
set_option maxHeartbeats 4000000 in
theorem str_p (t : Tx) (i : Nat) (ht : t.length ≤ 100000) (hi : i < t.length) : Pur M 71 [.str t, .int .i64 i] (strD i (unq (t.drop (i + 1)) [] 1)) := by
 refine k71.ok (C := C71) rfl rfl ?_
 rw [i71]
 unfold c71
 repeat' (first | with_reducible (apply swq; constructor) | simp only [go_sem, seval, P71, q71] | simp (disch := omega) only [wA] | with_reducible intro _)
 all_goals try (exfalso; omega)
 generalize hU : unq (t.drop (i + 1)) [] 1 = U
 refine zAu [0, 1, 2, 3, 4, 5, 6] (fun x : Nat × Tx => ⟨[.str t, .int .i64 i, .str [], .int .i64 0, .bool false, .str x.2, .int .i64 (i + x.1 : Nat), .u0, .u0, .u0, .u0, .u0, .u0, .u0], [], ⟨[], []⟩⟩)
  (fun x => 1 ≤ x.1 ∧ i + x.1 ≤ t.length + 1 ∧ x.2.length ≤ x.1 ∧ unq (t.drop (i + x.1)) x.2 x.1 = U) (fun x => t.length + 1 - (i + x.1)) (1, []) ⟨by omega, by omega, by simp, hU⟩ ?_ ?_
 ·simp [keepE, St.keep]
 ·rintro ⟨k, acc⟩ ⟨g1, g2, g3, g4⟩
  simp only at g1 g2 g3 g4 ⊢
  by_cases hi1 : i + k < t.length
  ·have hd : decide (((i + k : Nat) : Int) < t.length) = true := by simp; omega
   rw [unqG hi1] at g4
   have hcut := cut1 hi1
   generalize hc : t.getD (i + k) 0 = c at *
   have e34 : ((c.toNat : Int) == 34) = (c == 34) := u8B c 34
   have e10 : ((c.toNat : Int) == 10) = (c == 10) := u8B c 10
   have e92 : ((c.toNat : Int) != 92) = !(c == 92) := by rw [← u8B c 92]; rfl
   by_cases h34 : c = 34
   ·rw [if_pos h34] at g4
    rw [show (c == 34) = true by simp [h34]] at e34
    subst g4
    unfold strD
    have wQ := tw; repeat' (first | with_reducible (apply swq; constructor) | simp only [go_sem, seval, P71, q71, hd, e34, hc] | simp (disch := omega) only [wA] | ((with_reducible refine And.intro ?hw ?_); (case hw => exact sw wQ)) | with_reducible intro _)
    all_goals try (exfalso; omega)
    all_goals (simp [D.closed, D.er, D.cL, D.erL] <;> omega)
   rw [if_neg h34] at g4
   rw [show (c == 34) = false by simp [h34]] at e34
   by_cases h10 : c = 10
   ·rw [if_pos h10] at g4
    rw [show (c == 10) = true by simp [h10]] at e10
    subst g4
    unfold strD
    have wQ := tw; repeat' (first | with_reducible (apply swq; constructor) | simp only [go_sem, seval, P71, q71, hd, e34, e10, hc] | ((with_reducible refine And.intro ?hw ?_); (case hw => exact sw wQ)) | with_reducible intro _)
    all_goals try (exfalso; omega)
    all_goals simp [D.closed, D.er, D.cL, D.erL]
   rw [if_neg h10] at g4
   rw [show (c == 10) = false by simp [h10]] at e10
   by_cases h92 : c = 92
   ·rw [if_pos h92] at g4
    rw [show (c == 92) = true by simp [h92]] at e92
    by_cases hi2 : i + k + 1 < t.length
    ·rw [if_pos hi2] at g4
     have hd2 : decide (((i + k : Nat) : Int) + 1 ≥ t.length) = false := by simp; omega
     have hcut2 := cut1 hi2
     generalize hc2 : t.getD (i + k + 1) 0 = d at *
     have hh := has_p [92, 34, 110] d (by simp)
     have e110 : ((d.toNat : Int) == 110) = (d == 110) := u8B d 110
     have ti : (((i + k : Nat) : Int) + 1).toNat = i + k + 1 := by omega
     have tj : (((i + k : Nat) : Int) + 1 + 1).toNat = i + k + 1 + 1 := by omega
     by_cases q1 : d = 92 ∨ d = 34
     ·have hs : unq (t.drop (i + k + 2)) (acc ++ [d]) (k + 2) = U := by
       rcases q1 with rfl | rfl
       ·rw [if_pos rfl] at g4; exact g4
       ·rw [if_neg (by decide), if_pos rfl] at g4; exact g4
      have hb : ([92, 34, 110] : Tx).contains d = true := by rcases q1 with rfl | rfl <;> decide
      have hn : (d == 110) = false := by rcases q1 with rfl | rfl <;> decide
      rw [hb] at hh
      rw [hn] at e110
      have wQ := tw; repeat' (first | with_reducible (apply swq; constructor) | simp only [go_sem, seval, P71, q71, hd, e34, e10, e92, hc, hd2, ti, tj, e110, hc2, hcut2] | simp (disch := omega) only [wA] | ((with_reducible refine zAb (hh) ?he ?hc ?_); (case he | hc => exact sc wQ)) | ((with_reducible refine And.intro ?hw ?_); (case hw => exact sw wQ)) | with_reducible intro _)
      all_goals try (exfalso; omega)
      refine ⟨(k + 2, acc ++ [d]), ⟨by simp only; omega, by simp only; omega, by simp; omega, by simp only; rw [show i + (k + 2) = i + k + 2 by omega]; exact hs⟩, by simp only; omega, ?_⟩
      simp [keepE, St.keep]; omega
     ·have n1 : ¬ d = 92 := fun h => q1 (.inl h)
      have n2 : ¬ d = 34 := fun h => q1 (.inr h)
      rw [if_neg n1, if_neg n2] at g4
      by_cases q3 : d = 110
      ·rw [if_pos q3] at g4
       rw [show ([92, 34, 110] : Tx).contains d = true by rw [q3]; decide] at hh
       rw [show (d == 110) = true by simp [q3]] at e110
       have wQ := tw; repeat' (first | with_reducible (apply swq; constructor) | simp only [go_sem, seval, P71, q71, hd, e34, e10, e92, hc, hd2, ti, tj, e110, hc2] | simp (disch := omega) only [wA] | ((with_reducible refine zAb (hh) ?he ?hc ?_); (case he | hc => exact sc wQ)) | ((with_reducible refine And.intro ?hw ?_); (case hw => exact sw wQ)) | with_reducible intro _)
       all_goals try (exfalso; omega)
       refine ⟨(k + 2, acc ++ [10]), ⟨by simp only; omega, by simp only; omega, by simp; omega, by simp only; rw [show i + (k + 2) = i + k + 2 by omega]; exact g4⟩, by simp only; omega, ?_⟩
       simp [keepE, St.keep]; omega
      ·rw [if_neg q3] at g4
       rw [show ([92, 34, 110] : Tx).contains d = false by simp [n1, n2, q3]] at hh
       subst g4
       unfold strD
       have wQ := tw; repeat' (first | with_reducible (apply swq; constructor) | simp only [go_sem, seval, P71, q71, hd, e34, e10, e92, hc, hd2, ti, hc2] | simp (disch := omega) only [wA] | ((with_reducible refine zAb (hh) ?he ?hc ?_); (case he | hc => exact sc wQ)) | ((with_reducible refine And.intro ?hw ?_); (case hw => exact sw wQ)) | with_reducible intro _)
       all_goals try (exfalso; omega)
       all_goals simp [D.closed, D.er, D.cL, D.erL]
    ·rw [if_neg hi2] at g4
     have hd2 : decide (((i + k : Nat) : Int) + 1 ≥ t.length) = true := by simp; omega
     subst g4
     unfold strD
     have wQ := tw; repeat' (first | with_reducible (apply swq; constructor) | simp only [go_sem, seval, P71, q71, hd, e34, e10, e92, hc, hd2] | simp (disch := omega) only [wA] | ((with_reducible refine And.intro ?hw ?_); (case hw => exact sw wQ)) | with_reducible intro _)
     all_goals try (exfalso; omega)
     all_goals simp [D.closed, D.er, D.cL, D.erL]
   ·rw [if_neg h92] at g4
    rw [show (c == 92) = false by simp [h92]] at e92
    have ti : (((i + k : Nat) : Int)).toNat = i + k := by omega
    have tj : (((i + k : Nat) : Int) + 1).toNat = i + k + 1 := by omega
    have wQ := tw; repeat' (first | with_reducible (apply swq; constructor) | simp only [go_sem, seval, P71, q71, hd, e34, e10, e92, hc, ti, tj, hcut] | simp (disch := omega) only [wA] | ((with_reducible refine And.intro ?hw ?_); (case hw => exact sw wQ)) | with_reducible intro _)
    all_goals try (exfalso; omega)
    refine ⟨(k + 1, acc ++ [c]), ⟨by simp only; omega, by simp only; omega, by simp; omega, g4⟩, by simp only; omega, ?_⟩
    simp [keepE, St.keep]; omega
  ·have hd : decide (((i + k : Nat) : Int) < t.length) = false := by simp; omega
   rw [List.drop_eq_nil_of_le (by omega)] at g4
   simp only [unq] at g4
   subst g4
   unfold strD
   repeat' (first | with_reducible (apply swq; constructor) | simp only [go_sem, seval, P71, q71, hd] | with_reducible intro _)
   all_goals try (exfalso; omega)
   all_goals simp [D.closed, D.er, D.cL, D.erL]
end Go.Proofs.YtkjnhkoipgdfeaaGreatDoor
end
section
set_option maxRecDepth 100000
set_option linter.unusedSimpArgs false
set_option linter.unusedVariables false
namespace Go.Proofs.YtkjnhkoipgdfeaaGreatDoor
open Go GoV Go.RowKit
def nextD (i : Nat) : Nat × Option Fo → D
 | (n, some f) => if f.err = 0 then .tup [f.tok.d, .int .i64 ((i : Int) + n), .int .i64 0] else .tup [.agg [.int .i64 0, .str [], .int .i64 0], .int .i64 0, .int .i64 f.err]
 | (_, none) => .u0
theorem sym_has (c : UInt8) : ([59, 44, 46, 58, 40, 41, 123, 125, 91, 93, 61, 60, 62, 47, 43, 45, 42] : Tx).contains c = isSym c := rfl
theorem quote_all' {c : UInt8} : cls c = 7 → isLet c = false ∧ isDig c = false ∧ (c == 34) = true := fun h => by
 have := zDq (p := fun c => !(decide (cls c = 7)) || (!(isLet c) && !(isDig c) && (c == 34))) (by decide +kernel) c
 simpa [h, and_assoc] using this
theorem head_at {t : Tx} {p : Nat} : (t.drop p).head?.any zAz = (decide (p < t.length) && zAz (t.getD p 0)) := by
 by_cases h : p < t.length
 ·rw [zAt h]; simp [h]
 ·rw [List.drop_eq_nil_of_le (by omega)]; simp [h]
set_option maxHeartbeats 8000000 in
theorem next_p (t : Tx) (i : Nat) (ht : t.length ≤ 100000) (hi : i < t.length) (h1 : zA4 (t.getD i 0) = false) (h2 : t.getD i 0 ≠ 35) : Pur M 46 [.str t, .int .i64 i] (nextD i (step (t.drop i) i)) := by
 refine k46.ok (C := C46) rfl rfl ?_
 rw [i46]
 unfold c46
 have cl := letter_p (t.getD i 0)
 have cd := digit_p (t.getD i 0)
 have ch := has_p [59, 44, 46, 58, 40, 41, 123, 125, 91, 93, 61, 60, 62, 47, 43, 45, 42] (t.getD i 0) (by simp)
 rw [sym_has] at ch
 have cs := str_p t i ht hi
 have e34 : (((t.getD i 0).toNat : Int) == 34) = (t.getD i 0 == 34) := u8B _ 34
 have hti : ((i : Int)).toNat = i := by omega
 rcases cls_all (t.getD i 0) with h | h | h | h | h | h | h | h
 ·rw [zBw hi (.inl h)]
  obtain ⟨b1, b2, _, _, b5, b6⟩ := cls_other (.inl h)
  rw [b1] at cl
  rw [b2] at cd
  rw [b5] at e34
  rw [b6] at ch
  simp only [nextD, noErr]
  rw [if_neg (by decide)]
  have wQ := tw; repeat' (first | with_reducible (apply swq; constructor) | simp only [go_sem, seval, P46, q46, hti, e34] | simp (disch := omega) only [wA] | ((with_reducible refine zAb (cl) ?he ?hc ?_); (case he | hc => exact sc wQ)) | ((with_reducible refine zAb (cd) ?he ?hc ?_); (case he | hc => exact sc wQ)) | ((with_reducible refine zAb (ch) ?he ?hc ?_); (case he | hc => exact sc wQ)) | ((with_reducible refine And.intro ?hw ?_); (case hw => exact sw wQ)) | with_reducible intro _)
  all_goals try (exfalso; omega)
  all_goals simp [D.closed, D.er, D.cL, D.erL]
 ·exact absurd (cls_blank h).2.2 (by rw [h1]; simp)
 ·exact absurd (hash_cls _ h) h2
 ·rw [step_let hi h]
  rw [cls_let h] at cl
  have hm0 := zEc (p := zAz) hi (by unfold zAz; rw [cls_let h]; rfl)
  have hlen := zFh (p := zAz) (t := t) (i := i) (by omega)
  have hget := fun q => spn_get (p := zAz) (t := t) (i := i) (j := q)
  have hstop := zEw (p := zAz) (t := t) (i := i)
  have hsub := zCr t i (spn zAz (t.drop i))
  generalize spn zAz (t.drop i) = m at *
  have wQ := tw; repeat' (first | with_reducible (apply swq; constructor) | simp only [go_sem, seval, P46, q46, hti] | simp (disch := omega) only [wA] | ((with_reducible refine zAb (cl) ?he ?hc ?_); (case he | hc => exact sc wQ)) | ((with_reducible refine And.intro ?hw ?_); (case hw => exact sw wQ)) | with_reducible intro _)
  all_goals try (exfalso; omega)
  refine zAu [0, 1, 2, 3, 4, 5] (fun q : Nat => ⟨[.str t, .int .i64 i, .ptr 0 0, .int .i64 0, .int .i64 0, .int .i64 (i + q : Nat), .u0, .u0, .u0, .u0, .u0, .u0, .u0, .u0, .u0, .u0, .u0, .u0, .u0], [], ⟨[.cells [.int .i64 0, .str [], .int .i64 0]], []⟩⟩) (fun q => 1 ≤ q ∧ q ≤ m) (fun q => m - q) 1 (by omega) ?_ ?_
  ·simp [keepE, St.keep]
  rintro q ⟨hq1, hq⟩
  by_cases hqm : q < m
  ·obtain ⟨g1, g2⟩ := hget q hqm
   have hd : decide (((i + q : Nat) : Int) < t.length) = true := by simp; omega
   have cw := word_p (t.getD (i + q) 0)
   rw [g2] at cw
   have wQ := tw; repeat' (first | with_reducible (apply swq; constructor) | simp only [go_sem, seval, P46, q46, hd] | simp (disch := omega) only [wA] | ((with_reducible refine zAb (cw) ?he ?hc ?_); (case he | hc => exact sc wQ)) | ((with_reducible refine And.intro ?hw ?_); (case hw => exact sw wQ)) | with_reducible intro _)
   all_goals try (exfalso; omega)
   refine ⟨q + 1, by omega, by omega, ?_⟩
   simp [keepE, St.keep]; omega
  obtain rfl : q = m := by omega
  have fin : ∀ s : St, s.env.take 6 = [.str t, .int .i64 i, .ptr 0 0, .int .i64 0, .int .i64 0, .int .i64 (i + q : Nat)] → True := fun _ _ => trivial
  have hti2 : (((i + q : Nat) : Int)).toNat = i + q := by omega
  by_cases h24 : 24 < q
  ·have hd3 : decide (((i + q : Nat) : Int) - i > 24) = true := by simp; omega
   rw [if_pos h24]
   simp only [nextD]
   rw [if_neg (by decide)]
   by_cases hend : i + q < t.length
   ·have hd : decide (((i + q : Nat) : Int) < t.length) = true := by simp; omega
    have cw := word_p (t.getD (i + q) 0)
    rw [hstop hend] at cw
    have wQ := tw; repeat' (first | with_reducible (apply swq; constructor) | simp only [go_sem, seval, P46, q46, hd, hd3] | simp (disch := omega) only [wA] | ((with_reducible refine zAb (cw) ?he ?hc ?_); (case he | hc => exact sc wQ)) | ((with_reducible refine And.intro ?hw ?_); (case hw => exact sw wQ)) | with_reducible intro _)
    all_goals try (exfalso; omega)
    all_goals simp [D.closed, D.er, D.cL, D.erL]
   ·have hd : decide (((i + q : Nat) : Int) < t.length) = false := by simp; omega
    repeat' (first | with_reducible (apply swq; constructor) | simp only [go_sem, seval, P46, q46, hd, hd3] | simp (disch := omega) only [wA] | with_reducible intro _)
    all_goals try (exfalso; omega)
    all_goals simp [D.closed, D.er, D.cL, D.erL]
  ·have hd3 : decide (((i + q : Nat) : Int) - i > 24) = false := by simp; omega
   rw [if_neg h24]
   simp only [nextD, if_true, Tok.d]
   by_cases hend : i + q < t.length
   ·have hd : decide (((i + q : Nat) : Int) < t.length) = true := by simp; omega
    have cw := word_p (t.getD (i + q) 0)
    rw [hstop hend] at cw
    have wQ := tw; repeat' (first | with_reducible (apply swq; constructor) | simp only [go_sem, seval, P46, q46, hd, hd3, hti, hti2, hsub] | simp (disch := omega) only [wA] | ((with_reducible refine zAb (cw) ?he ?hc ?_); (case he | hc => exact sc wQ)) | ((with_reducible refine And.intro ?hw ?_); (case hw => exact sw wQ)) | with_reducible intro _)
    all_goals try (exfalso; omega)
    all_goals simp [D.closed, D.er, D.cL, D.erL, hsub]
   ·have hd : decide (((i + q : Nat) : Int) < t.length) = false := by simp; omega
    have wQ := tw; repeat' (first | with_reducible (apply swq; constructor) | simp only [go_sem, seval, P46, q46, hd, hd3, hti, hti2, hsub] | simp (disch := omega) only [wA] | ((with_reducible refine And.intro ?hw ?_); (case hw => exact sw wQ)) | with_reducible intro _)
    all_goals try (exfalso; omega)
    all_goals simp [D.closed, D.er, D.cL, D.erL, hsub]
 ·rw [step_dig hi h]
  obtain ⟨b1, b2⟩ := cls_dig h
  rw [b1] at cl
  rw [b2] at cd
  have hm0 := zEc (p := isDig) hi b2
  have hlen := zFh (p := isDig) (t := t) (i := i) (by omega)
  have hget := fun q => spn_get (p := isDig) (t := t) (i := i) (j := q)
  have hstop := zEw (p := isDig) (t := t) (i := i)
  have hsub := zCr t i (spn isDig (t.drop i))
  generalize spn isDig (t.drop i) = m at *
  rw [List.drop_drop, head_at]
  have wQ := tw; repeat' (first | with_reducible (apply swq; constructor) | simp only [go_sem, seval, P46, q46, hti] | simp (disch := omega) only [wA] | ((with_reducible refine zAb (cl) ?he ?hc ?_); (case he | hc => exact sc wQ)) | ((with_reducible refine zAb (cd) ?he ?hc ?_); (case he | hc => exact sc wQ)) | ((with_reducible refine And.intro ?hw ?_); (case hw => exact sw wQ)) | with_reducible intro _)
  all_goals try (exfalso; omega)
  refine zAu [0, 1, 2, 3, 4, 5] (fun q : Nat => ⟨[.str t, .int .i64 i, .ptr 0 0, .int .i64 0, .int .i64 0, .int .i64 (i + q : Nat), .u0, .u0, .u0, .u0, .u0, .u0, .u0, .u0, .u0, .u0, .u0, .u0, .u0], [], ⟨[.cells [.int .i64 0, .str [], .int .i64 0]], []⟩⟩) (fun q => 1 ≤ q ∧ q ≤ m) (fun q => m - q) 1 (by omega) ?_ ?_
  ·simp [keepE, St.keep]
  rintro q ⟨hq1, hq⟩
  by_cases hqm : q < m
  ·obtain ⟨g1, g2⟩ := hget q hqm
   have hd : decide (((i + q : Nat) : Int) < t.length) = true := by simp; omega
   have cw := digit_p (t.getD (i + q) 0)
   rw [g2] at cw
   have wQ := tw; repeat' (first | with_reducible (apply swq; constructor) | simp only [go_sem, seval, P46, q46, hd] | simp (disch := omega) only [wA] | ((with_reducible refine zAb (cw) ?he ?hc ?_); (case he | hc => exact sc wQ)) | ((with_reducible refine And.intro ?hw ?_); (case hw => exact sw wQ)) | with_reducible intro _)
   all_goals try (exfalso; omega)
   refine ⟨q + 1, by omega, by omega, ?_⟩
   simp [keepE, St.keep]; omega
  obtain rfl : q = m := by omega
  have hti2 : (((i + q : Nat) : Int)).toNat = i + q := by omega
  have cw := word_p (t.getD (i + q) 0)
  have cg := digit_p (t.getD (i + q) 0)
  by_cases hend : i + q < t.length
  ·have hd : decide (((i + q : Nat) : Int) < t.length) = true := by simp; omega
   rw [hstop hend] at cg
   by_cases h7 : 7 < q
   ·have hd3 : decide (((i + q : Nat) : Int) - i > 7) = true := by simp; omega
    rw [if_pos (.inl h7)]
    simp only [nextD]
    rw [if_neg (by decide)]
    have wQ := tw; repeat' (first | with_reducible (apply swq; constructor) | simp only [go_sem, seval, P46, q46, hd, hd3] | simp (disch := omega) only [wA] | ((with_reducible refine zAb (cg) ?he ?hc ?_); (case he | hc => exact sc wQ)) | ((with_reducible refine And.intro ?hw ?_); (case hw => exact sw wQ)) | with_reducible intro _)
    all_goals try (exfalso; omega)
    all_goals simp [D.closed, D.er, D.cL, D.erL]
   ·have hd3 : decide (((i + q : Nat) : Int) - i > 7) = false := by simp; omega
    cases hw : zAz (t.getD (i + q) 0)
    ·rw [hw] at cw
     rw [if_neg (by simp; omega)]
     simp only [nextD, if_true, Tok.d]
     have wQ := tw; repeat' (first | with_reducible (apply swq; constructor) | simp only [go_sem, seval, P46, q46, hd, hd3, hti, hti2, hsub] | simp (disch := omega) only [wA] | ((with_reducible refine zAb (cg) ?he ?hc ?_); (case he | hc => exact sc wQ)) | ((with_reducible refine zAb (cw) ?he ?hc ?_); (case he | hc => exact sc wQ)) | ((with_reducible refine And.intro ?hw ?_); (case hw => exact sw wQ)) | with_reducible intro _)
     all_goals try (exfalso; omega)
     all_goals simp [D.closed, D.er, D.cL, D.erL, hsub]
    ·rw [hw] at cw
     rw [if_pos (.inr (by simp [hend]))]
     simp only [nextD]
     rw [if_neg (by decide)]
     have wQ := tw; repeat' (first | with_reducible (apply swq; constructor) | simp only [go_sem, seval, P46, q46, hd, hd3] | simp (disch := omega) only [wA] | ((with_reducible refine zAb (cg) ?he ?hc ?_); (case he | hc => exact sc wQ)) | ((with_reducible refine zAb (cw) ?he ?hc ?_); (case he | hc => exact sc wQ)) | ((with_reducible refine And.intro ?hw ?_); (case hw => exact sw wQ)) | with_reducible intro _)
     all_goals try (exfalso; omega)
     all_goals simp [D.closed, D.er, D.cL, D.erL]
  ·have hd : decide (((i + q : Nat) : Int) < t.length) = false := by simp; omega
   by_cases h7 : 7 < q
   ·have hd3 : decide (((i + q : Nat) : Int) - i > 7) = true := by simp; omega
    rw [if_pos (.inl h7)]
    simp only [nextD]
    rw [if_neg (by decide)]
    repeat' (first | with_reducible (apply swq; constructor) | simp only [go_sem, seval, P46, q46, hd, hd3] | simp (disch := omega) only [wA] | with_reducible intro _)
    all_goals try (exfalso; omega)
    all_goals simp [D.closed, D.er, D.cL, D.erL]
   ·have hd3 : decide (((i + q : Nat) : Int) - i > 7) = false := by simp; omega
    rw [if_neg (by simp [hend]; omega)]
    simp only [nextD, if_true, Tok.d]
    have wQ := tw; repeat' (first | with_reducible (apply swq; constructor) | simp only [go_sem, seval, P46, q46, hd, hd3, hti, hti2, hsub] | simp (disch := omega) only [wA] | ((with_reducible refine And.intro ?hw ?_); (case hw => exact sw wQ)) | with_reducible intro _)
    all_goals try (exfalso; omega)
    all_goals simp [D.closed, D.er, D.cL, D.erL, hsub]
 ·obtain ⟨b1, b2, _, _, b5, b6⟩ := cls_other (.inr h)
  rw [zBw hi (.inr h)]
  rw [b1] at cl
  rw [b2] at cd
  rw [b5] at e34
  rw [b6] at ch
  simp only [nextD, noErr]
  rw [if_neg (by decide)]
  have wQ := tw; repeat' (first | with_reducible (apply swq; constructor) | simp only [go_sem, seval, P46, q46, hti, e34] | simp (disch := omega) only [wA] | ((with_reducible refine zAb (cl) ?he ?hc ?_); (case he | hc => exact sc wQ)) | ((with_reducible refine zAb (cd) ?he ?hc ?_); (case he | hc => exact sc wQ)) | ((with_reducible refine zAb (ch) ?he ?hc ?_); (case he | hc => exact sc wQ)) | ((with_reducible refine And.intro ?hw ?_); (case hw => exact sw wQ)) | with_reducible intro _)
  all_goals try (exfalso; omega)
  all_goals simp [D.closed, D.er, D.cL, D.erL]
 ·obtain ⟨b1, b2, _, _, b5, b6⟩ := cls_sym h
  rw [step_sym hi h]
  rw [b1] at cl
  rw [b2] at cd
  rw [b5] at e34
  rw [b6] at ch
  simp only [nextD, if_true, Tok.d]
  have hti2 : ((i : Int) + 1).toNat = i + 1 := by omega
  have hsub := zCr t i 1
  have wQ := tw; repeat' (first | with_reducible (apply swq; constructor) | simp only [go_sem, seval, P46, q46, hti, hti2, e34, hsub] | simp (disch := omega) only [wA] | ((with_reducible refine zAb (cl) ?he ?hc ?_); (case he | hc => exact sc wQ)) | ((with_reducible refine zAb (cd) ?he ?hc ?_); (case he | hc => exact sc wQ)) | ((with_reducible refine zAb (ch) ?he ?hc ?_); (case he | hc => exact sc wQ)) | ((with_reducible refine And.intro ?hw ?_); (case hw => exact sw wQ)) | with_reducible intro _)
  all_goals try (exfalso; omega)
  all_goals simp [D.closed, D.er, D.cL, D.erL, hsub]
 ·obtain ⟨b1, b2, b3⟩ := quote_all' h
  rw [zEv hi h]
  rw [b1] at cl
  rw [b2] at cd
  rw [b3] at e34
  cases hu : unq (t.drop (i + 1)) [] 1 with
  | none =>
    rw [hu] at cs
    simp only [strD] at cs
    simp only [nextD, noErr]
    rw [if_neg (by decide)]
    have wQ := tw; repeat' (first | with_reducible (apply swq; constructor) | simp only [go_sem, seval, P46, q46, hti, e34] | simp (disch := omega) only [wA] | ((with_reducible refine zAb (cl) ?he ?hc ?_); (case he | hc => exact sc wQ)) | ((with_reducible refine zAb (cd) ?he ?hc ?_); (case he | hc => exact sc wQ)) | ((with_reducible refine zAb (cs) ?he ?hc ?_); (case he | hc => exact sc wQ)) | ((with_reducible refine And.intro ?hw ?_); (case hw => exact sw wQ)) | with_reducible intro _)
    all_goals try (exfalso; omega)
    all_goals simp [D.closed, D.er, D.cL, D.erL]
  | some p =>
    obtain ⟨u, n⟩ := p
    rw [hu] at cs
    simp only [strD] at cs
    simp only [nextD, if_true, Tok.d]
    have wQ := tw; repeat' (first | with_reducible (apply swq; constructor) | simp only [go_sem, seval, P46, q46, hti, e34] | simp (disch := omega) only [wA] | ((with_reducible refine zAb (cl) ?he ?hc ?_); (case he | hc => exact sc wQ)) | ((with_reducible refine zAb (cd) ?he ?hc ?_); (case he | hc => exact sc wQ)) | ((with_reducible refine zAb (cs) ?he ?hc ?_); (case he | hc => exact sc wQ)) | ((with_reducible refine And.intro ?hw ?_); (case hw => exact sw wQ)) | with_reducible intro _)
    all_goals try (exfalso; omega)
    all_goals simp [D.closed, D.er, D.cL, D.erL]
end Go.Proofs.YtkjnhkoipgdfeaaGreatDoor
end