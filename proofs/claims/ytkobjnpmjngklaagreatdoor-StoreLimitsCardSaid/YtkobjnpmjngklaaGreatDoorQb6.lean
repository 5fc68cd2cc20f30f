/- Own texts, merged by a program: the engine that walks the code, and what the functions that the law reaches compute. -/
import Derived.Test.YtkobjnpmjngklaaGreatDoorQb5
section
set_option maxRecDepth 100000
set_option linter.unusedSimpArgs false
set_option linter.unusedVariables false
namespace Go.Proofs.YtkobjnpmjngklaaGreatDoor
open Go
theorem sec_put {S : Sx} {i : Nat} {l : Sx} (h : i + l.length ≤ S.length) (j : Nat) : secAt (putS S i l) j = if i ≤ j ∧ j < i + l.length then l.getD (j - i) [] else secAt S j := by
 simp only [secAt, List.getD_eq_getElem?_getD, putS_get h]
 split <;> rfl
theorem zCl {S : Sx} {i : Nat} {l : Sx} (h : i + l.length ≤ S.length) {j : Nat} (hj : ¬ (i ≤ j ∧ j < i + l.length)) : secAt (putS S i l) j = secAt S j := by
 rw [sec_put h, if_neg hj]
theorem sec_one {S : Sx} {i : Nat} {x : Tx} (h : i + 1 ≤ S.length) : secAt (putS S i [x]) i = x := by
 rw [sec_put (by simpa using h), if_pos (by simp)]; simp
theorem logK_congr {S S' : Sx} {z a : Nat} : ∀ (c : Nat), (∀ i, i < c → secAt S' (plc z a i) = secAt S (plc z a i)) → logK S' z a c = logK S z a c
 | 0, _ => rfl
 | c + 1, h => by rw [logK, logK, logK_congr c fun i hi => h i (by omega), h c (by omega)]
theorem zDw {S S' : Sx} {z a c : Nat} (h : ∀ i, i < c → secAt S' (plc z a i) = secAt S (plc z a i)) : loadK S' z a c = loadK S z a c := by
 unfold loadK; rw [logK_congr c h]
theorem plc_sum (z a c k : Nat) : plc z a (c + k) = plc z a c + k := by unfold plc; omega
theorem plc_2 (z a i : Nat) : 2 ≤ plc z a i := by unfold plc; omega
theorem plc_lt {z a i : Nat} (ha : a < 2) (hi : i ≤ z) : plc z a i ≤ 2 + 2 * z := by
 unfold plc
 have : a = 0 ∨ a = 1 := by omega
 rcases this with h | h <;> subst h <;> omega
theorem logK_add {S : Sx} {z a c : Nat} {l : Tx} (hl : logK S z a c = some l) (t : Tx) (hz : plc z a c + cntK t ≤ S.length) : logK (putS S (plc z a c) (secK (plc z a c) (chK t))) z a (c + cntK t) = some (l ++ t) := by
 have hlen : (secK (plc z a c) (chK t)).length = cntK t := by rw [zCp, zAy]
 have hb : plc z a c + (secK (plc z a c) (chK t)).length ≤ S.length := by omega
 have key : ∀ k, k ≤ (chK t).length → logK (putS S (plc z a c) (secK (plc z a c) (chK t))) z a (c + k) = some (l ++ ((chK t).take k).flatten) := by
  intro k
  induction k with
  | zero =>
    intro _
    rw [Nat.add_zero, logK_congr c fun i hi => zCl hb (by unfold plc; omega), hl]
    simp
  | succ k ih =>
    intro hk
    have hk' : k < (chK t).length := hk
    rw [← Nat.add_assoc, logK, ih (by omega)]
    have e : secAt (putS S (plc z a c) (secK (plc z a c) (chK t))) (plc z a (c + k)) = sealT (plc z a (c + k)) (dgW (chK t)[k].length 2 ++ (chK t)[k]) := by
     rw [sec_put hb, plc_sum, if_pos ⟨by omega, by rw [hlen, ← zAy]; omega⟩, List.getD_eq_getElem?_getD, Nat.add_sub_cancel_left, secK_get _ _ _ hk']
     rfl
    have hel := chK_el (List.getElem_mem hk')
    dsimp only
    rw [e, pieK_seal hel.1 hel.2, if_neg (fun h => by rw [h] at hel; simp at hel), List.append_assoc, List.take_succ_eq_append_getElem hk', List.flatten_append]
    simp
 have := key (chK t).length (Nat.le_refl _)
 rw [List.take_length, chK_cat, zAy] at this
 exact this
theorem load_add {S : Sx} {z a c : Nat} {m put : KV} {drop : List Tx} (h : loadK S z a c = some m) (hc : c ≤ 1000000) (hz : plc z a c + cntK (textK put drop) ≤ S.length)
 (hp : So (ks put)) (hd : So drop) (hw : zAm put drop = 0) (h0 : put.length + drop.length ≠ 0) (h1 : put.length ≤ 1000000) (h2 : drop.length ≤ 1000000) :
 loadK (putS S (plc z a c) (secK (plc z a c) (chK (textK put drop)))) z a (c + cntK (textK put drop)) = some (zBg m put drop) := by
 unfold loadK at h ⊢
 cases q : logK S z a c with
 | none => rw [q] at h; cases h
 | some l =>
   rw [q] at h
   dsimp only at h
   cases q2 : zB4 l with
   | none => rw [q2] at h; cases h
   | some cs =>
     rw [q2] at h
     dsimp only at h
     rw [logK_add q _ hz]
     have e1 := splitK_some q2
     have e2 := split_le _ q2
     have e3 := logK_le _ _ q
     have hs := listK_small hw h1 h2
     have hj := joinK_le (B := 20000) (by omega) _ hs
     have hll : (listK put drop).length ≤ 4000000 := by
      have := zDk put
      simp only [listK, List.cons_append, List.length_cons, List.length_append]; omega
     have hj2 : (joinK (listK put drop)).length ≤ 4000000 * (20000 + 19) := Nat.le_trans hj (Nat.mul_le_mul_right _ hll)
     have e4 : l ++ textK put drop = joinK (cs ++ [joinK (listK put drop)]) := by rw [joinK_app, e1]; rfl
     have e5 : zB4 (l ++ textK put drop) = some (cs ++ [joinK (listK put drop)]) := by
      rw [e4]
      refine splitK_join fun s hs => ?_
      rcases List.mem_append.1 hs with r | r
      ·have := e2.2 s r; omega
      ·rw [List.mem_singleton] at r; subst r; omega
     dsimp only
     rw [e5]
     dsimp only
     rw [List.foldlM_append, h]
     show ([joinK (listK put drop)].foldlM zAo m) = _
     rw [List.foldlM_cons, replay_text hp hd hw h0 h1 h2]
     rfl
structure Cns (n : Nat) (S : Sx) (h : Option (Nat × Nat)) (m : KV) : Prop where
 n4 : 4 ≤ n
 n8 : n ≤ 8000
 ok : SxOk S n
 h1 : secAt S 1 = wantK 1 h
 h0 : secAt S 0 = wantK 0 h
 hb : (h.getD (0, 0)).1 < 2 ∧ (h.getD (0, 0)).2 ≤ (n - 2) / 2
 ld : loadK S ((n - 2) / 2) (h.getD (0, 0)).1 (h.getD (0, 0)).2 = some m
structure Opn (n : Nat) (S : Sx) (h : Option (Nat × Nat)) (m : KV) : Prop where
 n4 : 4 ≤ n
 n8 : n ≤ 8000
 ok : SxOk S n
 hd : zB8 S ((n - 2) / 2) = h
 h0 : h = none → secAt S 0 = zr 64
 hb : (h.getD (0, 0)).1 < 2 ∧ (h.getD (0, 0)).2 ≤ (n - 2) / 2
 ld : loadK S ((n - 2) / 2) (h.getD (0, 0)).1 (h.getD (0, 0)).2 = some m
theorem zFk {z pl : Nat} {h : Option (Nat × Nat)} (hz : z ≤ 8000) (hb : (h.getD (0, 0)).1 < 2 ∧ (h.getD (0, 0)).2 ≤ z) : posK z pl (wantK pl h) = h := by
 cases h with
 | none => exact zr_pos z pl
 | some p => exact posK_head (a := p.1) (c := p.2) hb.1 hb.2 (by omega)
theorem Cns.head {n : Nat} {S : Sx} {h : Option (Nat × Nat)} {m : KV} (C : Cns n S h m) : zB8 S ((n - 2) / 2) = h := by
 have := C.n8
 rw [zB8, C.h1, C.h0, zFk (by omega) C.hb, zFk (by omega) C.hb]
 cases h <;> rfl
theorem Cns.opn {n : Nat} {S : Sx} {h : Option (Nat × Nat)} {m : KV} (C : Cns n S h m) : Opn n S h m :=
 ⟨C.n4, C.n8, C.ok, C.head, fun e => by rw [C.h0, e]; rfl, C.hb, C.ld⟩
theorem cns_new {n : Nat} (h4 : 4 ≤ n) (h8 : n ≤ 8000) : Cns n (newS n) none [] :=
 ⟨h4, h8, zE9 n, zD8 (by omega), zD8 (by omega), ⟨by decide, Nat.zero_le _⟩, rfl⟩
theorem rest_sec {n : Nat} {S : Sx} (hS : SxOk S n) {pl : Nat} (hp : pl < n) (h : Option (Nat × Nat)) : secAt (goW S (restW S pl h)) pl = wantK pl h ∧ ∀ j, j ≠ pl → secAt (goW S (restW S pl h)) j = secAt S j := by
 have hl := hS.len
 cases h with
 | none =>
   rw [restW_f]
   split
   ·rename_i e; exact ⟨e, fun _ _ => rfl⟩
   ·refine ⟨sec_one (by omega), fun j hj => zCl (by simp; omega) (by simp; omega)⟩
 | some p =>
   obtain ⟨a, d⟩ := p
   rw [restW_t]
   split
   ·rename_i e; exact ⟨e, fun _ _ => rfl⟩
   ·have h2 : (putS S pl [zr 64]).length = S.length := zFw (by simp; omega)
    refine ⟨sec_one (by omega), fun j hj => ?_⟩
    rw [zCl (by simp; omega) (by simp; omega), zCl (by simp; omega) (by simp; omega)]
theorem Opn.cns {n : Nat} {S : Sx} {h : Option (Nat × Nat)} {m : KV} (C : Opn n S h m) : Cns n (rest2 S h) h m := by
 have n4 := C.n4
 have n8 := C.n8
 have hb : (h.getD (0, 0)).1 < 2 ∧ (h.getD (0, 0)).2 ≤ 8000 := ⟨C.hb.1, by have := C.hb.2; omega⟩
 have k1 : SxOk (rest1 S h) n := restW_ok C.ok (by omega) hb
 have k2 : SxOk (rest2 S h) n := restW_ok k1 (by omega) hb
 have e1 := rest_sec C.ok (pl := 1) (by omega) h
 have e0 := rest_sec k1 (pl := 0) (by omega) h
 refine ⟨n4, n8, k2, ?_, e0.1, C.hb, ?_⟩
 ·rw [rest2, e0.2 1 (by omega)]; exact e1.1
 ·rw [← C.ld]
  refine zDw fun i hi => ?_
  have := plc_2 ((n - 2) / 2) (h.getD (0, 0)).1 i
  rw [rest2, e0.2 _ (by omega), rest1, e1.2 _ (by omega)]
theorem head_pad {a c : Nat} (ha : a < 10) (hc : c < 10000000) : (dgW a 1 ++ dgW c 7).length = 8 := by
 have h1 := zB7 (n := a) (w := 1) (by simpa using ha) (by omega)
 have h2 := zB7 (n := c) (w := 7) (by simpa using hc) (by omega)
 simp [h1, h2]
theorem head_tail {pl a c : Nat} (ha : a < 10) (hc : c < 10000000) {j : Nat} (hj : 24 ≤ j) : (headT pl a c)[j]? = (zr 64)[j]? := by
 have h1 := head_pad ha hc
 have h2 : (headT pl a c)[16 + (j - 16)]? = (padT (dgW a 1 ++ dgW c 7))[j - 16]? := by
  rw [← List.getElem?_drop]
  rw [show headT pl a c = sealT pl (dgW a 1 ++ dgW c 7) from rfl, zD2]
 rw [show 16 + (j - 16) = j by omega] at h2
 rw [h2, padT, List.getElem?_append_right (by omega), h1]
 simp only [zr, List.getElem?_replicate]
 by_cases e : j < 64
 ·rw [if_pos (by omega), if_pos (by omega)]
 ·rw [if_neg (by omega), if_neg (by omega)]
theorem head_first {a c : Nat} (ha : a < 10) (hc : c < 10000000) : padT (dgW a 1 ++ dgW c 7) ≠ zr 48 := by
 intro e
 have h1 := zB7 (n := a) (w := 1) (by simpa using ha) (by omega)
 have h2 : ∀ x ∈ padT (dgW a 1 ++ dgW c 7), x = 0 := fun x hx => by rw [e] at hx; exact List.eq_of_mem_replicate hx
 match q : dgW a 1, h1 with
 | [x], _ =>
   have hx := h2 x (by rw [padT, q]; simp)
   have := (dgW_dv a 1).2 x (by rw [q]; simp)
   rw [hx] at this
   revert this; decide
theorem torn_head {z pl k : Nat} {h : Option (Nat × Nat)} {p q : Nat × Nat} (hpl : pl < 2) (hz : z ≤ 8000) (hb : (h.getD (0, 0)).1 < 2 ∧ (h.getD (0, 0)).2 ≤ z) (hp : p.1 < 2 ∧ p.2 ≤ z)
 (hq : posK z pl ((headT pl p.1 p.2).take k ++ (wantK pl h).drop k) = some q) : (headT pl p.1 p.2).take k ++ (wantK pl h).drop k = wantK pl h ∨ (headT pl p.1 p.2).take k ++ (wantK pl h).drop k = headT pl p.1 p.2 := by
 obtain ⟨g1, g2, g3⟩ := posK_some hq
 have l1 : (headT pl p.1 p.2).length = 64 := zDj (by omega) (by omega)
 have c1 := head_pad (a := q.1) (c := q.2) (by omega) (by omega)
 have c2 := head_pad (a := p.1) (c := p.2) (by omega) (by omega)
 by_cases hk : 16 < k
 ·right
  have hol : (wantK pl h).length = 64 := by
   cases h with
   | none => simp [wantK]
   | some r => exact zDj (by have : r.1 < 2 := hb.1; omega) (by have : r.2 ≤ z := hb.2; omega)
  have hzz : ∀ j, 24 ≤ j → (wantK pl h)[j]? = (headT pl p.1 p.2)[j]? := fun j hj => by
   rw [head_tail (by omega) (by omega) hj]
   cases h with
   | none => rfl
   | some r => exact head_tail (by have : r.1 < 2 := hb.1; omega) (by have : r.2 ≤ z := hb.2; omega) hj
  have := seal_torn (place := pl) (k := k) (c := dgW p.1 1 ++ dgW p.2 7) (o := wantK pl h) (c' := dgW q.1 1 ++ dgW q.2 7) (by omega) (by omega) (by omega) hk hol hzz g1
  rw [← g1]
  exact this
 ·left
  have hd : (headT pl q.1 q.2).drop 16 = (wantK pl h).drop 16 := by
   rw [g1, List.drop_append, List.drop_of_length_le (by simp; omega), List.nil_append, List.drop_drop, List.length_take]
   congr 1
   omega
  rw [show headT pl q.1 q.2 = sealT pl (dgW q.1 1 ++ dgW q.2 7) from rfl, zD2] at hd
  cases h with
  | none =>
    exfalso
    refine head_first (a := q.1) (c := q.2) (by omega) (by omega) ?_
    rw [hd]
    simp [wantK, zr]
  | some r =>
    have hr1 : r.1 < 2 := hb.1
    have hr2 : r.2 ≤ z := hb.2
    have hd2 : padT (dgW q.1 1 ++ dgW q.2 7) = padT (dgW r.1 1 ++ dgW r.2 7) := by
     rw [hd, show wantK pl (some r) = sealT pl (dgW r.1 1 ++ dgW r.2 7) from rfl, zD2]
    rw [← g1]
    show sealT pl (dgW q.1 1 ++ dgW q.2 7) = sealT pl (dgW r.1 1 ++ dgW r.2 7)
    rw [zFr, zFr, hd2]
def Part (n : Nat) (S : Sx) (i : Nat) (L S' : Sx) : Prop :=
 SxOk S' n ∧ ∀ j, secAt S' j = secAt S j ∨ (i ≤ j ∧ j < i + L.length ∧ ∃ k, secAt S' j = (L.getD (j - i) []).take k ++ (secAt S j).drop k)
inductive Crash (n : Nat) : Sx → Wr → Sx → Prop
 | here {S S' : Sx} {i : Nat} {L : Sx} {ws : Wr} : Part n S i L S' → Crash n S ((i, L) :: ws) S'
 | next {S S' : Sx} {i : Nat} {L : Sx} {ws : Wr} : Crash n (putS S i L) ws S' → Crash n S ((i, L) :: ws) S'
theorem Part.out {n i : Nat} {S L S' : Sx} (h : Part n S i L S') {j : Nat} (hj : ¬ (i ≤ j ∧ j < i + L.length)) : secAt S' j = secAt S j := by
 rcases h.2 j with q | q
 ·exact q
 ·exact absurd ⟨q.1, q.2.1⟩ hj
theorem Cns.same {n : Nat} {S S' : Sx} {h : Option (Nat × Nat)} {m : KV} (C : Cns n S h m) (ok : SxOk S' n) (h1 : secAt S' 1 = secAt S 1) (h0 : secAt S' 0 = secAt S 0)
 (hl : ∀ i, i < (h.getD (0, 0)).2 → secAt S' (plc ((n - 2) / 2) (h.getD (0, 0)).1 i) = secAt S (plc ((n - 2) / 2) (h.getD (0, 0)).1 i)) : Cns n S' h m :=
 ⟨C.n4, C.n8, ok, by rw [h1]; exact C.h1, by rw [h0]; exact C.h0, C.hb, by rw [zDw hl]; exact C.ld⟩
theorem free_crash {n i : Nat} {S L : Sx} {h : Option (Nat × Nat)} {m : KV} (C : Cns n S h m) (h2 : 2 ≤ i) (hi : i + L.length ≤ n) (hL : ∀ t ∈ L, t.length = 64)
 (hf : ∀ j, j < (h.getD (0, 0)).2 → plc ((n - 2) / 2) (h.getD (0, 0)).1 j < i ∨ i + L.length ≤ plc ((n - 2) / 2) (h.getD (0, 0)).1 j) :
 (∀ S', Part n S i L S' → Cns n S' h m) ∧ Cns n (putS S i L) h m := by
 refine ⟨fun S' hP => C.same hP.1 (hP.out (by omega)) (hP.out (by omega)) fun j hj => hP.out ?_, ?_⟩
 ·have := hf j hj; omega
 ·have hl : i + L.length ≤ S.length := by rw [C.ok.len]; exact hi
  refine C.same (zD6 C.ok hi hL) (zCl hl (by omega)) (zCl hl (by omega)) fun j hj => zCl hl ?_
  have := hf j hj; omega
theorem set_crash {n : Nat} {S : Sx} {h : Option (Nat × Nat)} {m m' : KV} {a d : Nat} (C : Cns n S h m) (ha : a < 2) (hd : d ≤ (n - 2) / 2) (hl : loadK S ((n - 2) / 2) a d = some m') :
 (∀ S', Crash n S (setW a d) S' → ∃ h', Opn n S' h' m ∨ Opn n S' h' m') ∧ Cns n (goW S (setW a d)) (some (a, d)) m' := by
 have n4 := C.n4
 have n8 := C.n8
 have hS := C.ok.len
 have L1 : ∀ pl, (headT pl a d).length = 64 := fun pl => zDj (by omega) (by omega)
 have k1 : SxOk (putS S 1 [headT 1 a d]) n := zD6 C.ok (by simp; omega) (by simp [L1])
 have k0 : SxOk (putS (putS S 1 [headT 1 a d]) 0 [headT 0 a d]) n := zD6 k1 (by simp; omega) (by simp [L1])
 have s1 : secAt (putS S 1 [headT 1 a d]) 1 = headT 1 a d := sec_one (by omega)
 have lnew : ∀ S', (∀ j, 2 ≤ j → secAt S' j = secAt S j) → loadK S' ((n - 2) / 2) a d = some m' := fun S' hh => by
  rw [← hl]; exact zDw fun i hi => hh _ (plc_2 _ _ _)
 have lold : ∀ S', (∀ j, 2 ≤ j → secAt S' j = secAt S j) → loadK S' ((n - 2) / 2) (h.getD (0, 0)).1 (h.getD (0, 0)).2 = some m := fun S' hh => by
  rw [← C.ld]; exact zDw fun i hi => hh _ (plc_2 _ _ _)
 have p1 : posK ((n - 2) / 2) 1 (headT 1 a d) = some (a, d) := posK_head ha hd (by omega)
 refine ⟨fun S' hP => ?_, ?_⟩
 ·cases hP with
  | here hP =>
    have hout : ∀ j, j ≠ 1 → secAt S' j = secAt S j := fun j hj => hP.out (by simp; omega)
    have hout2 : ∀ j, 2 ≤ j → secAt S' j = secAt S j := fun j hj => hout j (by omega)
    have hs1 : ∃ k, secAt S' 1 = (headT 1 a d).take k ++ (wantK 1 h).drop k := by
     rcases hP.2 1 with q | ⟨_, _, k, q⟩
     ·exact ⟨0, by rw [q, C.h1]; simp⟩
     ·exact ⟨k, by rw [q, C.h1]; simp⟩
    obtain ⟨k, hk⟩ := hs1
    cases hpos : posK ((n - 2) / 2) 1 (secAt S' 1) with
    | none =>
      refine ⟨h, .inl ⟨n4, n8, hP.1, ?_, fun e => ?_, C.hb, lold S' hout2⟩⟩
      ·rw [zB8, hpos, hout 0 (by omega), C.h0]; exact zFk (by omega) C.hb
      ·rw [hout 0 (by omega), C.h0, e]; rfl
    | some q =>
      rw [hk] at hpos
      rcases torn_head (p := (a, d)) (by omega) (by omega) C.hb ⟨ha, hd⟩ hpos with e | e
      ·rw [e, zFk (by omega) C.hb] at hpos
       refine ⟨h, .inl ⟨n4, n8, hP.1, ?_, fun e2 => (by rw [hpos] at e2; cases e2), C.hb, lold S' hout2⟩⟩
       rw [zB8, hk, e, zFk (by omega) C.hb, hpos]
      ·refine ⟨some (a, d), .inr ⟨n4, n8, hP.1, ?_, fun e2 => (by cases e2), ⟨ha, hd⟩, lnew S' hout2⟩⟩
       rw [zB8, hk, e, p1]
  | next hP =>
    cases hP with
    | here hP =>
      have hout : ∀ j, j ≠ 0 → secAt S' j = secAt (putS S 1 [headT 1 a d]) j := fun j hj => hP.out (by simp only [List.length_cons, List.length_nil]; omega)
      have hout2 : ∀ j, 2 ≤ j → secAt S' j = secAt S j := fun j hj => by rw [hout j (by omega)]; exact zCl (by simp; omega) (by simp; omega)
      refine ⟨some (a, d), .inr ⟨n4, n8, hP.1, ?_, fun e2 => (by cases e2), ⟨ha, hd⟩, lnew S' hout2⟩⟩
      rw [zB8, hout 1 (by omega), s1, p1]
    | next hP => cases hP
 ·have hl1 : (putS S 1 [headT 1 a d]).length = n := k1.len
  have e2 : ∀ j, 2 ≤ j → secAt (putS (putS S 1 [headT 1 a d]) 0 [headT 0 a d]) j = secAt S j := fun j hj => by
   rw [zCl (by simp; omega) (by simp; omega), zCl (by simp; omega) (by simp; omega)]
  refine ⟨n4, n8, k0, ?_, sec_one (S := putS S 1 [headT 1 a d]) (by omega), ⟨ha, hd⟩, lnew _ e2⟩
  show secAt (putS (putS S 1 [headT 1 a d]) 0 [headT 0 a d]) 1 = _
  rw [zCl (by simp; omega) (by simp), s1]; rfl
theorem add_crash {n : Nat} {S : Sx} {h : Option (Nat × Nat)} {m m' : KV} {b d : Nat} {t : Tx} (C : Cns n S h m) (hb : b < 2) (hd : d + cntK t ≤ (n - 2) / 2)
 (hf : ∀ j, j < (h.getD (0, 0)).2 → plc ((n - 2) / 2) (h.getD (0, 0)).1 j < plc ((n - 2) / 2) b d ∨ plc ((n - 2) / 2) b d + cntK t ≤ plc ((n - 2) / 2) (h.getD (0, 0)).1 j)
 (hl : loadK (putS S (plc ((n - 2) / 2) b d) (secK (plc ((n - 2) / 2) b d) (chK t))) ((n - 2) / 2) b (d + cntK t) = some m') :
 (∀ S', Crash n S (addW ((n - 2) / 2) b d t) S' → ∃ h', Opn n S' h' m ∨ Opn n S' h' m') ∧ Cns n (goW S (addW ((n - 2) / 2) b d t)) (some (b, d + cntK t)) m' := by
 have n4 := C.n4
 have n8 := C.n8
 have hlen : (secK (plc ((n - 2) / 2) b d) (chK t)).length = cntK t := by rw [zCp, zAy]
 have hp := plc_lt (i := d + cntK t) hb hd
 rw [plc_sum] at hp
 have F := free_crash (i := plc ((n - 2) / 2) b d) (L := secK (plc ((n - 2) / 2) b d) (chK t)) C (plc_2 _ _ _) (by rw [hlen]; omega) (secK_64 _ _ fun x hx => (chK_el hx).2) (by rw [hlen]; exact hf)
 have T := set_crash F.2 hb hd hl
 rw [← zAy] at T
 refine ⟨fun S' hc => ?_, by rw [← zAy]; exact T.2⟩
 cases hc with
 | here hP => exact ⟨h, .inl (F.1 S' hP).opn⟩
 | next hP => exact T.1 S' hP
end Go.Proofs.YtkobjnpmjngklaaGreatDoor
end
section
set_option maxRecDepth 100000
set_option linter.unusedSimpArgs false
set_option linter.unusedVariables false
namespace Go.Proofs.YtkobjnpmjngklaaGreatDoor
open Go
theorem wrong_set {put : KV} {drop : List Tx} (h : zAm put drop = 0) : zAm put (setT drop) = 0 := by
 obtain ⟨h1, h2⟩ := wrong_ok h
 refine zFj (fun p hp => ?_) fun k hk => h2 k (setT_mem.1 hk)
 have := h1 p hp
 exact ⟨this.1, this.2.1, fun e => this.2.2.1 (setT_mem.1 e), this.2.2.2⟩
theorem commit_crash {n : Nat} {S : Sx} {h : Option (Nat × Nat)} {m put : KV} {drop : List Tx} (C : Cns n S h m) (hp : So (ks put)) (hw : zAm put drop = 0) (h0 : put.length + (setT drop).length ≠ 0)
 (h1 : put.length ≤ 1000000) (h2 : drop.length ≤ 1000000) (hc : (h.getD (0, 0)).2 + cntK (textK put (setT drop)) ≤ (n - 2) / 2) :
 (∀ S', Crash n S (addW ((n - 2) / 2) (h.getD (0, 0)).1 (h.getD (0, 0)).2 (textK put (setT drop))) S' → ∃ h', Opn n S' h' m ∨ Opn n S' h' (zBg m put (setT drop))) ∧
 Cns n (goW S (addW ((n - 2) / 2) (h.getD (0, 0)).1 (h.getD (0, 0)).2 (textK put (setT drop)))) (some ((h.getD (0, 0)).1, (h.getD (0, 0)).2 + cntK (textK put (setT drop)))) (zBg m put (setT drop)) := by
 have n8 := C.n8
 have n4 := C.n4
 have hp2 := plc_lt (i := (h.getD (0, 0)).2 + cntK (textK put (setT drop))) C.hb.1 hc
 rw [plc_sum] at hp2
 refine add_crash C C.hb.1 hc (fun j hj => .inl (by unfold plc; omega)) ?_
 refine load_add C.ld (by omega) (by rw [C.ok.len]; omega) hp (setT_so drop) (wrong_set hw) h0 h1 ?_
 exact Nat.le_trans (setT_len drop) h2
theorem goW_out {n k : Nat} : ∀ (l : Wr) {S : Sx}, S.length = n → k ≤ n → (∀ g ∈ l, g.1 + g.2.length ≤ k) → ∀ j, k ≤ j → secAt (goW S l) j = secAt S j
 | [], S, _, _, _, j, _ => rfl
 | g :: l, S, h, hk, hl, j, hj => by
   have h1 := hl g (by simp)
   have h2 : (putS S g.1 g.2).length = n := by rw [zFw (by omega)]; exact h
   show secAt (goW (putS S g.1 g.2) l) j = _
   rw [goW_out l h2 hk (fun x hx => hl x (by simp [hx])) j hj, zCl (by omega) (by omega)]
def Idle (n : Nat) (S : Sx) : Prop := ∀ j, 2 + 2 * ((n - 2) / 2) ≤ j → j < n → secAt S j = zr 64
theorem idle_go {n : Nat} {S : Sx} {l : Wr} (hS : SxOk S n) (h4 : 4 ≤ n) (h : Idle n S) (hl : ∀ g ∈ l, g.1 + g.2.length ≤ 2 + 2 * ((n - 2) / 2)) : Idle n (goW S l) := fun j hj hn => by
 rw [goW_out l hS.len (by omega) hl j hj]; exact h j hj hn
theorem idle_add {n a c : Nat} {S : Sx} {t : Tx} (hS : SxOk S n) (h4 : 4 ≤ n) (h8 : n ≤ 8000) (h : Idle n S) (ha : a < 2) (hc : c + cntK t ≤ (n - 2) / 2) : Idle n (goW S (addW ((n - 2) / 2) a c t)) :=
 idle_go hS h4 h fun g hg => (add_w (n := 2 + 2 * ((n - 2) / 2)) (z := (n - 2) / 2) (by omega) (by omega) (by omega) ha t hc g hg).1
theorem idle_new (n : Nat) : Idle n (newS n) := fun j _ h => zD8 h
theorem restW_id {S : Sx} {pl : Nat} {h : Option (Nat × Nat)} (e : secAt S pl = wantK pl h) : goW S (restW S pl h) = S := by
 have : restW S pl h = [] := by unfold restW; rw [if_pos e]
 rw [this]; rfl
theorem Cns.rest {n : Nat} {S : Sx} {h : Option (Nat × Nat)} {m : KV} (C : Cns n S h m) : rest2 S h = S := by
 have : rest1 S h = S := restW_id C.h1
 rw [rest2, this, restW_id C.h0]
end Go.Proofs.YtkobjnpmjngklaaGreatDoor
end
section
set_option maxRecDepth 100000
set_option linter.unusedSimpArgs false
set_option linter.unusedVariables false
namespace Go.Proofs.YtkobjnpmjngklaaGreatDoor
open Go
structure StJ (n : Nat) (S : Sx) (s : Sto) (h : Option (Nat × Nat)) : Prop where
 cns : Cns n S h s.kv
 idle : Idle n S
 sz : s.size = (n - 2) / 2
 ar : s.area = (h.getD (0, 0)).1
 ct : s.count = (h.getD (0, 0)).2
 so : So (ks s.kv)
 wr : zAm s.kv [] = 0
theorem StJ.st {n : Nat} {S : Sx} {s : Sto} {h : Option (Nat × Nat)} (I : StJ n S s h) : StOk n s :=
 ⟨I.cns.n4, I.cns.n8, I.sz, by rw [I.ar]; exact I.cns.hb.1, by rw [I.ct, I.sz]; exact I.cns.hb.2⟩
theorem stj_new {n : Nat} (h4 : 4 ≤ n) (h8 : n ≤ 8000) : StJ n (newS n) ⟨(n - 2) / 2, 0, 0, []⟩ none :=
 ⟨cns_new h4 h8, idle_new n, rfl, rfl, rfl, trivial, rfl⟩
theorem wrong_apply {m put : KV} {drop : List Tx} (hm : So (ks m)) (hp : (ks put).Nodup) (h1 : zAm m [] = 0) (h2 : zAm put drop = 0) (d : List Tx) : zAm (zBg m put d) [] = 0 := by
 refine zFj (fun p hpp => ?_) (by simp)
 have a1 := (wrong_ok h1).1
 have a2 := (wrong_ok h2).1
 rw [zGb hm hp] at hpp
 rcases hpp.2 with q | q
 ·have := a2 p q
  exact ⟨this.1, this.2.1, by simp, this.2.2.2⟩
 ·have := a1 p q.2
  exact ⟨this.1, this.2.1, by simp, this.2.2.2⟩
theorem commit_gen {n : Nat} {S : Sx} {s : Sto} {h : Option (Nat × Nat)} (I : StJ n S s h) (put : KV) (drop : List Tx) (hp : So (ks put)) (h1 : put.length ≤ 1000000) (h2 : drop.length ≤ 1000000) :
 (∃ f : Int, f ≠ 0 ∧ (f = 6 ∨ f = zAm put drop) ∧ zAj S s put drop = (S, s, f)) ∨
 ∃ S' s' h', zAj S s put drop = (S', s', 0) ∧ zAm put drop = 0 ∧ StJ n S' s' h' ∧ s'.kv = zBg s.kv put (setT drop) := by
 unfold zAj
 by_cases c1 : zAm put drop ≠ 0
 ·rw [if_pos c1]
  exact .inl ⟨_, c1, .inr rfl, rfl⟩
 ·rw [if_neg c1]
  have c1 : zAm put drop = 0 := by simpa using c1
  by_cases c2 : put.length + (setT drop).length = 0
  ·rw [if_pos c2]
   have e1 : put = [] := List.length_eq_zero_iff.1 (by omega)
   have e2 : setT drop = [] := List.length_eq_zero_iff.1 (by omega)
   refine .inr ⟨_, _, h, rfl, c1, I, ?_⟩
   rw [e1, e2]; rfl
  ·rw [if_neg c2]
   by_cases c3 : s.size - s.count < cntK (textK put (setT drop))
   ·rw [if_pos c3]
    exact .inl ⟨6, by decide, .inl rfl, rfl⟩
   ·rw [if_neg c3]
    have hst := I.st
    have hct := hst.ct
    have hsz := I.sz
    have hca := I.ct
    have hle : (h.getD (0, 0)).2 + cntK (textK put (setT drop)) ≤ (n - 2) / 2 := by omega
    have C := (commit_crash I.cns hp c1 c2 h1 h2 hle).2
    refine .inr ⟨_, _, some ((h.getD (0, 0)).1, (h.getD (0, 0)).2 + cntK (textK put (setT drop))), rfl, c1, ⟨?_, ?_, I.sz, I.ar, ?_, apply_so I.so, wrong_apply I.so (zEm hp) I.wr c1 _⟩, rfl⟩
    ·rw [I.sz, I.ar, I.ct]; exact C
    ·rw [I.sz, I.ar, I.ct]; exact idle_add I.cns.ok I.cns.n4 I.cns.n8 I.idle I.cns.hb.1 hle
    ·show s.count + (chK _).length = _
     rw [zAy, I.ct]; rfl
end Go.Proofs.YtkobjnpmjngklaaGreatDoor
end
section
set_option maxRecDepth 100000
set_option linter.unusedSimpArgs false
set_option linter.unusedVariables false
namespace Go.Proofs.YtkobjnpmjngklaaGreatDoor
open Go GoV Go.RowKit
def hexs : List UInt8 := [48, 49, 50, 51, 52, 53, 54, 55, 56, 57, 97, 98, 99, 100, 101, 102]
def hx (c : UInt8) : Bool := hexs.contains c
def isD (s : List UInt8) : Bool := decide (s.length = 16) && s.all hx
theorem hexd_hx {r : Nat} (h : r < 16) : hx (hexd r) = true := by
 have : r = 0 ∨ r = 1 ∨ r = 2 ∨ r = 3 ∨ r = 4 ∨ r = 5 ∨ r = 6 ∨ r = 7 ∨ r = 8 ∨ r = 9 ∨ r = 10 ∨ r = 11 ∨ r = 12 ∨ r = 13 ∨ r = 14 ∨ r = 15 := by omega
 rcases this with h | h | h | h | h | h | h | h | h | h | h | h | h | h | h | h <;> subst h <;> rfl
theorem sumN_len (t : List UInt8) : (sumN t).length = 16 := zEc _
theorem sumN_all (t : List UInt8) : (sumN t).all hx = true := by
 unfold sumN hex16
 rw [List.all_eq_true]
 intro c hc
 obtain ⟨j, _, rfl⟩ := List.mem_map.1 hc
 exact hexd_hx (Nat.mod_lt _ (by omega))
theorem sumN_is (t : List UInt8) : isD (sumN t) = true := by
 unfold isD
 rw [sumN_len, sumN_all]
 rfl
theorem mulW_word (x c : Nat) : IntKind.u64.wrap ((x : Int) * (c : Int)) = (mulW x c : Nat) := by
 unfold mulW
 rw [← Int.natCast_mul]
 generalize x * c = y
 show (y : Int) % 18446744073709551616 = ((y % 18446744073709551616 : Nat) : Int)
 omega
theorem rmix_p (x : Nat) (hx : x < W) : Pur M 58 [.int .u64 x] (.int .u64 (mixN x : Nat)) := by
 refine k58.ok (C := C58) rfl rfl ?_
 rw [i58]
 unfold c58
 have m1 := mulW_word x 6364136223846793005
 have hy := zCu x 6364136223846793005
 unfold mixN
 generalize mulW x 6364136223846793005 = y at *
 have hz := xs_lt (k := 33) hy
 have m2 := mulW_word (xs 33 y) 2685821657736338717
 have e1 := zFp y 33 (by omega)
 have e2 := bits_xor_u64_nat y (y >>> 33) hy (Nat.lt_of_le_of_lt (shr_le y 33) hy)
 have e3 : y ^^^ y >>> 33 = xs 33 y := rfl
 rw [e3] at e2
 have hu := zCu (xs 33 y) 2685821657736338717
 generalize mulW (xs 33 y) 2685821657736338717 = u at *
 have e4 := zFp u 27 (by omega)
 have e5 := bits_xor_u64_nat u (u >>> 27) hu (Nat.lt_of_le_of_lt (shr_le u 27) hu)
 have e6 : u ^^^ u >>> 27 = xs 27 u := rfl
 rw [e6] at e5
 generalize xs 33 y = z at *
 have q1 : ((6364136223846793005 : Nat) : Int) = 6364136223846793005 := rfl
 have q2 : ((2685821657736338717 : Nat) : Int) = 2685821657736338717 := rfl
 rw [q1] at m1
 rw [q2] at m2
 generalize y >>> 33 = y' at *
 generalize u >>> 27 = u' at *
 generalize xs 27 u = r at *
 repeat' (first | with_reducible (apply swq; constructor) | simp only [go_sem, seval, P58, q58, bitsV, m1, m2, e1, e2, e4, e5] | with_reducible intro _)
 all_goals first
  | omega
  | (simp [D.closed, D.er]; done)
theorem hex_at (r : Nat) (h : r < 16) : List.drop r (48 :: List.take r ([49, 50, 51, 52, 53, 54, 55, 56, 57, 97, 98, 99, 100, 101, 102] : List UInt8)) = [hexd r] := by
 have : r = 0 ∨ r = 1 ∨ r = 2 ∨ r = 3 ∨ r = 4 ∨ r = 5 ∨ r = 6 ∨ r = 7 ∨ r = 8 ∨ r = 9 ∨ r = 10 ∨ r = 11 ∨ r = 12 ∨ r = 13 ∨ r = 14 ∨ r = 15 := by omega
 rcases this with h | h | h | h | h | h | h | h | h | h | h | h | h | h | h | h <;> subst h <;> rfl
theorem hex16_step {R i : Nat} (h : i < 16) : (hex16 R).drop (16 - (i + 1)) = hexd (R / 16 ^ i % 16) :: (hex16 R).drop (16 - i) := by
 have hl : (hex16 R).length = 16 := zEc R
 rw [List.drop_eq_getElem_cons (by omega)]
 congr 1
 ·simp only [hex16, List.getElem_map, List.getElem_range]
  rw [show 15 - (16 - (i + 1)) = i by omega]
 ·rw [show 16 - (i + 1) + 1 = 16 - i by omega]
theorem pad_get {t : List UInt8} {k j : Nat} (hj : j < 8) : (pad ((t.drop (8 * k)).take 8)).getD j 0 = if 8 * k + j < t.length then t.getD (8 * k + j) 0 else 0 := by
 have hl : ((t.drop (8 * k)).take 8).length = min 8 (t.length - 8 * k) := by simp
 unfold pad
 by_cases h : 8 * k + j < t.length
 ·rw [if_pos h]
  have h1 : j < ((t.drop (8 * k)).take 8).length := by omega
  simp only [List.getD]
  rw [List.getElem?_append_left h1]
  simp [hj]
 ·rw [if_neg h]
  have h1 : ((t.drop (8 * k)).take 8).length ≤ j := by omega
  simp only [List.getD]
  rw [List.getElem?_append_right h1]
  have : ∀ n m : Nat, ((List.replicate n (0 : UInt8))[m]?).getD 0 = 0 := by
   intro n m
   rw [List.getElem?_replicate]
   split <;> rfl
  exact this _ _
set_option maxHeartbeats 4000000 in
theorem rsum_p (t : List UInt8) (ht : t.length < 65536) : Pur M 26 [.str t] (.str (sumN t)) := by
 refine k26.ok (C := C26) rfl rfl ?_
 rw [i26]
 unfold c26
 have hl := len_lt ht
 have e0 : IntKind.u64.wrap (t.length : Int) = t.length := wu64 (by omega) (by omega)
 have e1 := bits_xor_u64_nat 7046029254386353131 t.length (by decide) (by omega)
 have e2 : ((7046029254386353131 : Nat) : Int) = 7046029254386353131 := rfl
 rw [e2] at e1
 have hR : run (7046029254386353131 ^^^ t.length) t = stt t := rfl
 have hRlt := stt_lt t
 unfold sumN
 generalize stt t = R at *
 generalize hS : 7046029254386353131 ^^^ t.length = S at *
 repeat' (first | with_reducible (apply swq; constructor) | simp only [go_sem, seval, P26, q26, bitsV, e0, e1] | with_reducible intro _)
 all_goals try omega
 refine zAq [0, 1, 2, 3] (fun p : Nat × Nat => ⟨[.str t, .str [], .int .u64 p.1, .int .i64 (8 * p.2 : Nat), .u0, .u0, .u0, .u0, .u0, .u0, .u0, .u0], [], ⟨[], []⟩⟩)
  (fun p => p.1 < W ∧ 8 * p.2 ≤ t.length + 8 ∧ (8 * p.2 ≤ t.length → run p.1 (t.drop (8 * p.2)) = R) ∧ (t.length < 8 * p.2 → p.1 = R)) (fun p => t.length + 8 - 8 * p.2) (S, 0) ⟨hl, by omega, fun _ => by simpa using hR, fun h => by simp at h⟩ ?_ ?_
 ·simp [keepE, St.keep]
 ·rintro ⟨s, k⟩ ⟨g1, g2, g3, g4⟩
  simp only at g1 g2 g3 g4 ⊢
  by_cases hk : 8 * k ≤ t.length
  ·have g5 := g3 hk
   have hpl : ((t.drop (8 * k)).take 8).length ≤ 8 := by simp; omega
   have hpd := pad_len hpl
   have hpg : ∀ j, j < 8 → _ := fun j hj => pad_get (t := t) (k := k) (j := j) hj
   have hblk := blk_lt hpl
   have hvp := val_pad ((t.drop (8 * k)).take 8)
   have hnext : run s (t.drop (8 * k)) = R → (8 * (k + 1) ≤ t.length → run (mixN (s ^^^ blk ((t.drop (8 * k)).take 8))) (t.drop (8 * (k + 1))) = R) ∧ (t.length < 8 * (k + 1) → mixN (s ^^^ blk ((t.drop (8 * k)).take 8)) = R) := by
    intro e
    constructor
    ·intro h
     rw [zCq (by rw [List.length_drop]; omega), List.drop_drop] at e
     exact e
    ·intro h
     have h8 : (t.drop (8 * k)).length < 8 := by rw [List.length_drop]; omega
     rw [zB5 h8] at e
     rw [List.take_of_length_le (by omega)]
     exact e
   obtain ⟨n1, n2⟩ := hnext g5
   generalize (t.drop (8 * k)).take 8 = p at *
   have hm := rmix_p (s ^^^ blk p) (zFi g1 hblk)
   have eb := bits_xor_u64_nat s (blk p) g1 hblk
   have hmlt := zDu (s ^^^ blk p)
   repeat' (first | with_reducible (apply swq; constructor) | simp only [go_sem, seval, P26, q26] | simp (disch := omega) only [wA] | with_reducible (apply cdA; constructor) | with_reducible intro _)
   all_goals try omega
   refine zAq [0, 1, 2, 3, 4, 5] (fun j : Nat => ⟨[.str t, .str [], .int .u64 s, .int .i64 (8 * k : Nat), .int .u64 (val ((pad p).take j) : Nat), .int .i64 (8 * k + j : Nat), .u0, .u0, .u0, .u0, .u0, .u0], [], ⟨[], []⟩⟩)
    (fun j => j ≤ 8) (fun j => 8 - j) 0 (by omega) ?_ ?_
   ·simp [keepE, St.keep, val]
   ·intro j hj
    by_cases hlt : j < 8
    ·have hst : val ((pad p).take (j + 1)) = 256 * val ((pad p).take j) + ((pad p).getD j 0).toNat := by
      rw [List.take_succ_eq_append_getElem (by omega), val_app]
      congr 2
      simp [List.getD, hpd, hlt]
     have hv : val ((pad p).take j) < 72057594037927936 := by
      have h1 := val_lt ((pad p).take j)
      have h2 : ((pad p).take j).length ≤ 7 := by simp; omega
      have h3 : 256 ^ ((pad p).take j).length ≤ 256 ^ 7 := Nat.pow_le_pow_right (by omega) h2
      exact Nat.lt_of_lt_of_le h1 h3
     have hb : ((pad p).getD j 0).toNat < 256 := UInt8.toNat_lt _
     have hg := hpg j hlt
     rw [hg] at hst
     clear hpg hpd hvp hg hb hm eb hmlt n1 n2 hR hRlt g5 g3 g4 hl hS e0 e1 e2
     generalize val ((pad p).take j) = v at *
     have e1 : IntKind.u64.wrap ((v : Int) * 256) = ((256 * v : Nat) : Int) := by rw [wu64 (by omega) (by omega)]; omega
     have e3 : ((8 * k + j : Nat) : Int) < ((8 * k : Nat) : Int) + 8 := by omega
     by_cases hin : 8 * k + j < t.length
     ·rw [if_pos hin] at hst
      have hb : (t.getD (8 * k + j) 0).toNat < 256 := UInt8.toNat_lt _
      have ht1 : ((8 * k + j : Nat) : Int).toNat = 8 * k + j := Int.toNat_natCast _
      generalize ht2 : t.getD (8 * k + j) 0 = b at *
      have wQ := tw; repeat' (first | with_reducible (apply swq; constructor) | simp only [go_sem, seval, P26, q26, e1, ht1, ht2] | simp (disch := omega) only [wA] | with_reducible (apply cdA; constructor) | ((with_reducible refine And.intro ?hw ?_); (case hw => exact sw wQ)) | with_reducible intro _)
      all_goals try omega
      refine ⟨j + 1, by omega, by omega, ?_⟩
      rw [hst]
      simp [keepE, St.keep]
      omega
     ·rw [if_neg hin] at hst
      have hz : (0 : UInt8).toNat = 0 := rfl
      have wQ := tw; repeat' (first | with_reducible (apply swq; constructor) | simp only [go_sem, seval, P26, q26, e1] | simp (disch := omega) only [wA] | with_reducible (apply cdA; constructor) | ((with_reducible refine And.intro ?hw ?_); (case hw => exact sw wQ)) | with_reducible intro _)
      all_goals try omega
      refine ⟨j + 1, by omega, by omega, ?_⟩
      rw [hst, hz]
      simp [keepE, St.keep]
      omega
    ·have e : j = 8 := by omega
     subst e
     have ht8 : (pad p).take 8 = pad p := List.take_of_length_le (by omega)
     rw [ht8, hvp]
     generalize blk p = q at *
     have wQ := tw; repeat' (first | with_reducible (apply swq; constructor) | simp only [go_sem, seval, P26, q26, bitsV, eb] | simp (disch := omega) only [wA] | ((with_reducible refine zAc (hm) ?he ?hc ?_); (case he | hc => exact sc wQ)) | with_reducible (apply cdA; constructor) | ((with_reducible refine And.intro ?hw ?_); (case hw => exact sw wQ)) | with_reducible intro _)
     all_goals try omega
     refine ⟨(mixN (s ^^^ q), k + 1), ⟨zDu _, by simp only; omega, n1, n2⟩, by simp only; omega, ?_⟩
     simp [keepE, St.keep]
     omega
  ·have g5 := g4 (by omega)
   subst g5
   repeat' (first | with_reducible (apply swq; constructor) | simp only [go_sem, seval, P26, q26] | simp (disch := omega) only [wA] | with_reducible (apply cdA; constructor) | with_reducible intro _)
   all_goals try omega
   refine zAq [0, 1, 2, 6, 7] (fun i : Nat => ⟨[.str t, .str [], .int .u64 (s / 16 ^ i : Nat), .u0, .u0, .u0, .str ((hex16 s).drop (16 - i)), .int .i64 i, .u0, .u0, .u0, .u0], [], ⟨[], []⟩⟩)
    (fun i => i ≤ 16) (fun i => 16 - i) 0 (by omega) ?_ ?_
   ·simp [keepE, St.keep]
    rw [zEc]; omega
   ·intro i hi
    by_cases hlt : i < 16
    ·have hst := hex16_step (R := s) hlt
     have hq : s / 16 ^ (i + 1) = s / 16 ^ i / 16 := by rw [Nat.pow_succ, Nat.div_div_eq_div_mul]
     have hql : s / 16 ^ i ≤ s := Nat.div_le_self _ _
     have hdl : ((hex16 s).drop (16 - i)).length ≤ 16 := by rw [List.length_drop, zEc]; omega
     have hlt2 : s < 18446744073709551616 := hRlt
     generalize s / 16 ^ i = m at *
     have t1 : (m : Int).tmod 16 = ((m % 16 : Nat) : Int) := by rw [Int.tmod_eq_emod_of_nonneg (by omega)]; omega
     have t2 : (m : Int).tdiv 16 = ((m / 16 : Nat) : Int) := by rw [Int.tdiv_eq_ediv_of_nonneg (by omega)]; omega
     have t3 : ((m % 16 : Nat) : Int).toNat = m % 16 := by omega
     have t4 : (((m % 16 : Nat) : Int) + 1).toNat = m % 16 + 1 := by omega
     have t5 := hex_at (m % 16) (by omega)
     have hb : m % 16 < 16 := by omega
     have t6 : ([hexd (m % 16)] : List UInt8).length = 1 := rfl
     have wQ := tw; repeat' (first | with_reducible (apply swq; constructor) | simp only [go_sem, seval, P26, q26, t1, t2, t3, t4, t5, t6, List.length_append] | simp (disch := omega) only [wA] | with_reducible (apply cdA; constructor) | ((with_reducible refine And.intro ?hw ?_); (case hw => exact sw wQ)) | with_reducible intro _)
     all_goals try omega
     refine ⟨i + 1, by omega, by omega, ?_⟩
     rw [hst, hq]
     simp [keepE, St.keep]
    ·have e : i = 16 := by omega
     subst e
     have wQ := tw; repeat' (first | with_reducible (apply swq; constructor) | simp only [go_sem, seval, P26, q26] | simp (disch := omega) only [wA] | with_reducible (apply cdA; constructor) | ((with_reducible refine And.intro ?hw ?_); (case hw => exact sw wQ)) | with_reducible intro _)
     all_goals try omega
     all_goals (simp [D.closed, D.er]; done)
def hxv (c : UInt8) : Int := if 48 ≤ c.toNat ∧ c.toNat ≤ 57 then (c.toNat : Int) - 48 else if 97 ≤ c.toNat ∧ c.toNat ≤ 102 then (c.toNat : Int) - 97 + 10 else -1
theorem hxv_neg (c : UInt8) : hxv c < 0 ↔ hx c = false := by
 have key : ∀ n : Fin 256, (hxv (UInt8.ofNat n.val) < 0 ↔ hx (UInt8.ofNat n.val) = false) := by decide +kernel
 have := key ⟨c.toNat, UInt8.toNat_lt c⟩
 simpa using this
theorem rdigit_p (c : UInt8) : Pur M 57 [.int .u8 c.toNat] (.int .i64 (hxv c)) := by
 refine k57.ok (C := C57) rfl rfl ?_
 rw [i57]
 unfold c57
 have h : c.toNat < 256 := UInt8.toNat_lt c
 unfold hxv
 generalize c.toNat = n at *
 by_cases h1 : 48 ≤ n
 ·by_cases h2 : n ≤ 57
  ·rw [if_pos ⟨h1, h2⟩]
   repeat' (first | with_reducible (apply swq; constructor) | simp only [go_sem, seval, P57, q57] | simp (disch := omega) only [wA] | (with_reducible first | (apply cdA; constructor) | (apply gdA; constructor)) | with_reducible intro _)
   all_goals first
    | omega
    | (simp [D.closed, D.er]; done)
  ·rw [if_neg (by omega)]
   by_cases h3 : 97 ≤ n
   ·by_cases h4 : n ≤ 102
    ·rw [if_pos ⟨h3, h4⟩]
     repeat' (first | with_reducible (apply swq; constructor) | simp only [go_sem, seval, P57, q57] | simp (disch := omega) only [wA] | (with_reducible first | (apply cdA; constructor) | (apply gdA; constructor)) | with_reducible intro _)
     all_goals first
      | omega
      | (simp [D.closed, D.er]; done)
    ·rw [if_neg (by omega)]
     repeat' (first | with_reducible (apply swq; constructor) | simp only [go_sem, seval, P57, q57] | simp (disch := omega) only [wA] | (with_reducible first | (apply cdA; constructor) | (apply gdA; constructor)) | with_reducible intro _)
     all_goals first
      | omega
      | (simp [D.closed, D.er]; done)
   ·rw [if_neg (by omega)]
    repeat' (first | with_reducible (apply swq; constructor) | simp only [go_sem, seval, P57, q57] | simp (disch := omega) only [wA] | (with_reducible first | (apply cdA; constructor) | (apply gdA; constructor)) | with_reducible intro _)
    all_goals first
     | omega
     | (simp [D.closed, D.er]; done)
 ·rw [if_neg (by omega), if_neg (by omega)]
  repeat' (first | with_reducible (apply swq; constructor) | simp only [go_sem, seval, P57, q57] | simp (disch := omega) only [wA] | (with_reducible first | (apply cdA; constructor) | (apply gdA; constructor)) | with_reducible intro _)
  all_goals first
   | omega
   | (simp [D.closed, D.er]; done)
theorem hx_take {s : List UInt8} {i : Nat} (hi : i < s.length) (h : (s.take i).all hx = true) (hc : hx (s.getD i 0) = true) : (s.take (i + 1)).all hx = true := by
 rw [List.take_succ_eq_append_getElem hi, List.all_append, h]
 have : s.getD i 0 = s[i] := by simp [List.getD, hi]
 rw [this] at hc
 simp [hc]
theorem hx_not {s : List UInt8} {i : Nat} (hi : i < s.length) (hc : hx (s.getD i 0) = false) : s.all hx = false := by
 have : s.getD i 0 = s[i] := by simp [List.getD, hi]
 rw [this] at hc
 rw [List.all_eq_false]
 exact ⟨_, List.getElem_mem hi, by simp [hc]⟩
set_option maxHeartbeats 1000000 in
theorem ris_p (s : List UInt8) (hs : s.length ≤ 4611686018427387) : Pur M 25 [.str s] (.bool (isD s)) := by
 refine k25.ok (C := C25) rfl rfl ?_
 rw [i25]
 unfold c25
 unfold isD
 repeat' (first | with_reducible (apply swq; constructor) | simp only [go_sem, seval, P25, q25] | with_reducible intro _)
 refine zAq [0, 1, 2] (fun i : Nat => ⟨[.str s, .bool false, .int .i64 i, .u0, .u0], [], ⟨[], []⟩⟩)
  (fun i => i ≤ s.length ∧ i ≤ 16 ∧ (s.take i).all hx = true) (fun i => s.length - i) 0 ⟨by omega, by omega, by simp⟩ ?_ ?_
 ·simp [keepE, St.keep]
 ·rintro i ⟨g1, g2, g3⟩
  by_cases hi : i < s.length
  ·by_cases h16 : i < 16
   ·have hd := rdigit_p (s.getD i 0)
    have hn := hxv_neg (s.getD i 0)
    have h3 : decide ((i : Int) < (s.length : Int)) = true := by simp; omega
    have h4 : decide ((i : Int) < 16) = true := by simp; omega
    cases hc : hx (s.getD i 0)
    ·have h2 := hx_not hi hc
     have h5 := hn.2 hc
     rw [h2, Bool.and_false]
     generalize hxv (s.getD i 0) = v at *
     have wQ := tw; repeat' (first | with_reducible (apply swq; constructor) | simp only [go_sem, seval, P25, q25, h3, h4] | simp (disch := omega) only [wA] | ((with_reducible refine zAc (hd) ?he ?hc ?_); (case he | hc => exact sc wQ)) | (with_reducible (apply cdA; constructor)) | ((with_reducible refine And.intro ?hw ?_); (case hw => exact sw wQ)) | with_reducible intro _)
     all_goals first
      | omega
      | (simp [D.closed, D.er]; done)
    ·have h2 := hx_take hi g3 hc
     have h5 : ¬ hxv (s.getD i 0) < 0 := by rw [hn, hc]; simp
     generalize hxv (s.getD i 0) = v at *
     have wQ := tw; repeat' (first | with_reducible (apply swq; constructor) | simp only [go_sem, seval, P25, q25, h3, h4] | simp (disch := omega) only [wA] | ((with_reducible refine zAc (hd) ?he ?hc ?_); (case he | hc => exact sc wQ)) | (with_reducible (apply cdA; constructor)) | ((with_reducible refine And.intro ?hw ?_); (case hw => exact sw wQ)) | with_reducible intro _)
     all_goals try omega
     refine ⟨i + 1, ⟨by omega, by omega, h2⟩, by omega, ?_⟩
     simp [keepE, St.keep]
   ·have h3 : decide ((i : Int) < (s.length : Int)) = true := by simp; omega
    have h4 : decide ((i : Int) < 16) = false := by simp; omega
    have h5 : decide (s.length = 16) = false := by simp; omega
    have h6 : ((s.length : Int) == 16) = false := by
     have : ¬ ((s.length : Int) = 16) := by omega
     simpa using this
    rw [h5, Bool.false_and]
    repeat' (first | with_reducible (apply swq; constructor) | simp only [go_sem, seval, P25, q25, h3, h4, h6] | with_reducible intro _)
    all_goals first
     | omega
     | (simp [D.closed, D.er]; done)
  ·have e : i = s.length := by omega
   subst e
   rw [List.take_length] at g3
   have h3 : decide ((s.length : Int) < (s.length : Int)) = false := by simp
   rw [g3, Bool.and_true]
   have h6 : ((s.length : Int) == 16) = decide (s.length = 16) := by
    by_cases q : s.length = 16
    ·simp [q]
    ·have : ¬ ((s.length : Int) = 16) := by omega
     have e1 : ((s.length : Int) == 16) = false := by simpa using this
     rw [e1]; simp [q]
   repeat' (first | with_reducible (apply swq; constructor) | simp only [go_sem, seval, P25, q25, h3, h6] | with_reducible intro _)
   all_goals first
    | omega
    | (simp [D.closed, D.er]; done)
end Go.Proofs.YtkobjnpmjngklaaGreatDoor
end
section
set_option maxRecDepth 100000
set_option linter.unusedSimpArgs false
set_option linter.unusedVariables false
namespace Go.Proofs.YtkobjnpmjngklaaGreatDoor
open Go GoV
theorem cnt_b {put : KV} {drop : List Tx} (B k : Nat) (hB : B ≤ 100000) (hs : ((listK put drop).map (·.length)).sum ≤ B) (hk : (listK put drop).length = k) (hk2 : k ≤ 100) : cntK (textK put drop) ≤ (B + 14 * k + 59) / 46 := by
 have hle : ∀ (l : List Tx), ∀ s ∈ l, s.length ≤ (l.map (·.length)).sum := by
  intro l
  induction l with
  | nil => simp
  | cons x l ih =>
    intro s h
    simp only [List.map_cons, List.sum_cons]
    rcases List.mem_cons.1 h with rfl | h
    ·omega
    ·have := ih s h; omega
 have h1 := joinK_sum (B := B) (listK put drop) (fun s h => by have := hle _ s h; omega) hs
 rw [hk] at h1
 have h2 := joinK_sum (B := B + 14 * k) [joinK (listK put drop)] (fun s h => by rw [List.mem_singleton] at h; subst h; omega) (by simpa using h1)
 rw [zCy]
 unfold cntK
 simp only [List.length_cons, List.length_nil] at h2
 omega
theorem zFe {n : Nat} {S : Sx} {s : Sto} {h : Option (Nat × Nat)} (I : StJ n S s h) (put : KV) (drop : List Tx) (hp : So (ks put)) (h1 : put.length ≤ 1000000) (h2 : drop.length ≤ 1000000) (hw : zAm put drop = 0) (h0 : put.length + (setT drop).length ≠ 0) (hf : cntK (textK put (setT drop)) ≤ s.size - s.count) :
 ∃ S' s' h', zAj S s put drop = (S', s', 0) ∧ StJ n S' s' h' ∧ s'.kv = zBg s.kv put (setT drop) ∧ s'.count = s.count + cntK (textK put (setT drop)) ∧ s'.size = s.size := by
 have e : zAj S s put drop = (goW S (addW s.size s.area s.count (textK put (setT drop))), { s with count := s.count + (chK (textK put (setT drop))).length, kv := zBg s.kv put (setT drop) }, 0) := by
  unfold zAj
  rw [if_neg (fun q => q hw), if_neg h0, if_neg (by omega)]
 rcases commit_gen I put drop hp h1 h2 with ⟨f, hf0, _, e2⟩ | ⟨S', s', h', e2, _, J, hkv⟩
 ·rw [e2] at e
  injection e with e3 e4
  injection e4 with e5 e6
  exact absurd e6 hf0
 ·refine ⟨S', s', h', e2, J, hkv, ?_, ?_⟩
  ·rw [e2] at e
   injection e with e3 e4
   injection e4 with e5 e6
   rw [e5]
   show s.count + (chK _).length = _
   rw [zAy]
  ·rw [e2] at e
   injection e with e3 e4
   injection e4 with e5 e6
   rw [e5]
theorem commit_no {S : Sx} {s : Sto} {put : KV} {drop : List Tx} {f : Int} (h : zAm put drop = f) (hf : f ≠ 0) : zAj S s put drop = (S, s, f) := by
 unfold zAj
 rw [if_pos (by rw [h]; exact hf), h]
def limk (k : Nat) : Tx := List.replicate k 107
theorem zCh (k : Nat) : (limk k).length = k := by simp [limk]
theorem limk_so (k : Nat) (v : Tx) : So (ks [(limk k, v)]) := by simp [ks, So]
theorem set_one (x : Tx) : setT [x] = [x] := rfl
theorem limits_K (n k : Nat) (hn : n ≤ 20010) (hk : k ≤ 210) :
 ∃ S1 s1 h1 S2 s2 h2 S3 s3 h3 f g, zAj (newS 1000) ⟨499, 0, 0, []⟩ [([118], zr n)] [] = (S1, s1, f) ∧ zAj S1 s1 [(limk k, [120])] [] = (S2, s2, g) ∧ zAj S2 s2 [] [limk k] = (S3, s3, g) ∧ StJ 1000 S1 s1 h1 ∧ StJ 1000 S2 s2 h2 ∧ StJ 1000 S3 s3 h3 ∧
  f = (if n ≤ 20000 then (0 : Int) else 7) ∧ g = (if 1 ≤ k ∧ k ≤ 200 then (0 : Int) else 1) ∧ (n ≤ 20000 → getK [118] s3.kv = some (zr n)) := by
 have J0 : StJ 1000 (newS 1000) ⟨499, 0, 0, []⟩ none := stj_new (n := 1000) (by decide) (by decide)
 have hlen1 : (itK 1).length = 1 := rfl
 have hlen0 : (itK 0).length = 1 := rfl
 have a1 : ∃ S1 s1 h1 f, zAj (newS 1000) ⟨499, 0, 0, []⟩ [([118], zr n)] [] = (S1, s1, f) ∧ StJ 1000 S1 s1 h1 ∧ f = (if n ≤ 20000 then (0 : Int) else 7) ∧ (n ≤ 20000 → s1.kv = [([118], zr n)]) ∧ s1.size = 499 ∧ s1.count ≤ 440 := by
  by_cases hn2 : n ≤ 20000
  ·have hw : zAm [(([118] : Tx), zr n)] [] = 0 := zFj (by simp [hn2]) (by simp)
   have hc : cntK (textK [(([118] : Tx), zr n)] (setT [])) ≤ 440 := by
    have := cnt_b (put := [([118], zr n)]) (drop := []) 20003 4 (by omega) (by simp [listK, zBs, hlen1, hlen0]; omega) (by simp [listK, zBs]) (by omega)
    exact Nat.le_trans this (by decide)
   obtain ⟨S1, s1, h1, e, J, hkv, hct, hsz⟩ := zFe J0 [([118], zr n)] [] (by simp [ks, So]) (by simp) (by simp) hw (by simp) (by show _ ≤ 499 - 0; omega)
   refine ⟨S1, s1, h1, 0, e, J, by rw [if_pos hn2], fun _ => by rw [hkv]; rfl, hsz, by rw [hct]; show 0 + _ ≤ _; omega⟩
  ·have hw : zAm [(([118] : Tx), zr n)] [] = 7 := by
    have : 20000 < n := by omega
    simp [zAm, keyK, this]
   exact ⟨_, _, none, 7, commit_no hw (by decide), J0, by rw [if_neg hn2], fun q => absurd q hn2, rfl, Nat.zero_le _⟩
 obtain ⟨S1, s1, h1, f, e1, J1, hf, hv1, hz1, hc1⟩ := a1
 by_cases hk2 : 1 ≤ k ∧ k ≤ 200
 ·have hne : limk k ≠ [] := fun e => by have := zCh k; rw [e] at this; simp at this; omega
  have hw : zAm [(limk k, ([120] : Tx))] [] = 0 := zFj (by simp [hne, zCh, hk2.2]) (by simp)
  have hc : cntK (textK [(limk k, ([120] : Tx))] (setT [])) ≤ 7 := by
   have := cnt_b (put := [(limk k, [120])]) (drop := []) 203 4 (by omega) (by simp [listK, zBs, hlen1, hlen0, zCh]; omega) (by simp [listK, zBs]) (by omega)
   exact Nat.le_trans this (by decide)
  obtain ⟨S2, s2, h2, e2, J2, hkv2, hct2, hsz2⟩ := zFe J1 [(limk k, [120])] [] (limk_so k _) (by simp) (by simp) hw (by simp) (by omega)
  have hw3 : zAm ([] : KV) [limk k] = 0 := zFj (by simp) (by simp [hne, zCh, hk2.2])
  have hc3 : cntK (textK ([] : KV) (setT [limk k])) ≤ 7 := by
   have := cnt_b (put := []) (drop := [limk k]) 202 3 (by omega) (by simp [listK, zBs, hlen1, hlen0, zCh]; omega) (by simp [listK, zBs]) (by omega)
   exact Nat.le_trans this (by decide)
  obtain ⟨S3, s3, h3, e3, J3, hkv3, hct3, hsz3⟩ := zFe J2 [] [limk k] trivial (by simp) (by simp) hw3 (by simp [set_one]) (by omega)
  refine ⟨S1, s1, h1, S2, s2, h2, S3, s3, h3, f, 0, e1, e2, e3, J1, J2, J3, hf, by rw [if_pos hk2], fun hn2 => ?_⟩
  have hvk : ([118] : Tx) ≠ limk k := fun e => by
   have h1 : (118 : UInt8) ∈ limk k := by rw [← e]; simp
   have := List.eq_of_mem_replicate h1
   revert this; decide
  rw [get_mem J3.so, hkv3, zGb J2.so (by simp)]
  refine ⟨by rw [set_one]; simpa using hvk, .inr ⟨by simp, ?_⟩⟩
  rw [hkv2, zGb J1.so (by simp)]
  refine ⟨by simp [setT], .inr ⟨by simpa using hvk, ?_⟩⟩
  rw [hv1 hn2]; simp
 ·have hbad : zAm [(limk k, ([120] : Tx))] [] = 1 ∧ zAm ([] : KV) [limk k] = 1 := by
   have h3 : keyK (limk k) = false := by
    simp only [keyK, decide_eq_false_iff_not, not_and, zCh]
    intro hne
    have : k ≠ 0 := fun e => by subst e; exact hne rfl
    omega
   constructor <;> simp [zAm, h3]
  have e2 : zAj S1 s1 [(limk k, [120])] [] = (S1, s1, 1) := commit_no hbad.1 (by decide)
  have e3 : zAj S1 s1 [] [limk k] = (S1, s1, 1) := commit_no hbad.2 (by decide)
  refine ⟨S1, s1, h1, S1, s1, h1, S1, s1, h1, f, 1, e1, e2, e3, J1, J1, J1, hf, by rw [if_neg hk2], fun hn2 => ?_⟩
  rw [hv1 hn2]; simp [getK]
set_option maxHeartbeats 2000000 in
theorem loop_5 (k : Nat) (hk : k ≤ 210) (x0 x1 x2 x3 x4 x6 x7 x10 x11 x12 x13 x14 x15 x16 x17 : D) (hp : Hp) (Q : Ex → St → Prop)
 (hQ : ∀ x9 x16, Q .normal ⟨[.u0, .u0, .u0, x3, x4, .int .i64 k, x6, x7, .str (limk k), x9, .u0, .u0, .u0, .u0, .u0, .u0, x16, .u0], [], hp⟩) :
 SWp C5 (.block 0 (.loop (.seq (.seq (.reg r5_7) (.cond (.v 16) .skip (.exit 0))) (.seq (.block 1 (.reg r5_8)) (.reg r5_9))))) Q ⟨[x0, x1, x2, x3, x4, .int .i64 k, x6, x7, .str [], .int .i64 0, x10, x11, x12, x13, x14, x15, x16, x17], [], hp⟩ := by
 refine swp_block ?_
 refine zAq [3, 4, 5, 6, 7, 8, 9] (fun j : Nat => ⟨[.u0, .u0, .u0, x3, x4, .int .i64 k, x6, x7, .str (limk j), .int .i64 j, .u0, .u0, .u0, .u0, .u0, .u0, .u0, .u0], [], hp⟩)
  (fun j => j ≤ k) (fun j => k - j) 0 (Nat.zero_le _) ?_ ?_
 ·simp [keepE, St.keep, limk]
 ·intro j hj
  have hjl := zCh j
  have hs : limk j ++ [107] = limk (j + 1) := by simp [limk, List.replicate_succ']
  by_cases hlt : j < k
  ·generalize hTT : limk (j + 1) = T at *
   generalize limk j = U at *
   have wQ := @hjl; repeat' (first | with_reducible (apply swq; constructor) | simp only [go_sem, seval, P5, q5, hs] | simp (disch := omega) only [wA] | (with_reducible (apply cdA; constructor)) | ((with_reducible refine And.intro ?hw ?_); (case hw => exact sw wQ)) | with_reducible intro _)
   all_goals try omega
   exact ⟨j + 1, by omega, by omega, by simp [keepE, St.keep, hTT]⟩
  ·have e : j = k := by omega
   subst e
   have wQ := tw; repeat' (first | with_reducible (apply swq; constructor) | simp only [go_sem, seval, P5, q5] | simp (disch := omega) only [wA] | (with_reducible (apply cdA; constructor)) | ((with_reducible refine And.intro ?hw ?_); (case hw => exact sw wQ)) | with_reducible intro _)
   all_goals try omega
   exact hQ _ _
set_option maxHeartbeats 8000000 in
theorem limits_p (by_ le_ : Nat) (hb : by_ ≤ 65535) (hl : le_ ≤ 255) : Pur M 5 [.int .u16 by_, .int .u8 le_] (.bool true) := by
 classical
 refine k5.ow (C := C5) rfl rfl ?_
 rw [i5]
 unfold c5
 obtain ⟨n, hn⟩ : ∃ n, n = by_ % 20011 := ⟨_, rfl⟩
 obtain ⟨k, hk⟩ : ∃ k, k = le_ % 211 := ⟨_, rfl⟩
 have t1 : ((by_ : Nat) : Int).tmod 20011 = ((n : Nat) : Int) := by rw [Int.tmod_eq_emod_of_nonneg (Int.natCast_nonneg _)]; omega
 have t2 : ((le_ : Nat) : Int).tmod 211 = ((k : Nat) : Int) := by rw [Int.tmod_eq_emod_of_nonneg (Int.natCast_nonneg _)]; omega
 have hn2 : n ≤ 20010 := by omega
 have hk2 : k ≤ 210 := by omega
 obtain ⟨S1, s1, h1, S2, s2, h2, S3, s3, h3, f, g, e1, e2, e3, J1, J2, J3, hf, hg, hv⟩ := limits_K n k hn2 hk2
 have k10 := head_p
 have k13 := new_p 1000 (by decide) (by decide)
 have k12 := open_new 1000 (by decide) (by decide)
 have kO := one_p [118] (zr n)
 have kP := one_p (limk k) [120]
 have kA := fun l c (hm : MpOk l c (⟨499, 0, 0, []⟩ : Sto).kv) => zEu 1000 (newS 1000) (zE9 1000) ⟨499, 0, 0, []⟩ (new_st (n := 1000) (by decide) (by decide)) hm (zFa [([118], zr n)]) (by rw [ofL_1]; simp; omega) (by rw [ofL_1]; simp)
 have kB := fun l c (hm : MpOk l c s1.kv) => zEu 1000 S1 J1.cns.ok s1 J1.st hm (zFa [(limk k, [120])]) (by rw [ofL_1]; simp [zCh]; omega) (by rw [ofL_1]; simp)
 have kC := fun l c (hm : MpOk l c s2.kv) => eff_own3 .full (commit_z 1000 S2 J2.cns.ok s2 J2.st hm [limk k] (by simp) (by simp [zCh]; omega))
 have kG := fun l c (hm : MpOk l c s3.kv) => get_s 1000 S3 s3 hm [118]
 have k26 := rsum_p (limk k) (by rw [zCh]; omega)
 have k25 := ris_p (sumN (limk k)) (by rw [sumN_len]; omega)
 rw [sumN_is] at k25
 simp only [ofL_1] at kA kB
 rw [e1] at kA
 rw [e2] at kB
 rw [e3] at kC
 have hE := zAn
 have hB0 := fun β τ => zAi β τ (newS 1000).flatten
 have hB1 := fun β τ => zAi β τ S1.flatten
 have hB2 := fun β τ => zAi β τ S2.flatten
 have hB3 := fun β τ => zAi β τ S3.flatten
 have hbr := zAi
 have z1 := zD0 n
 have hz1 : (zr n).length = n := zr_len n
 have hlp := loop_5 k hk2
 generalize hRL : (RC.block 0 (.loop (.seq (.seq (.reg r5_7) (.cond (.v 16) .skip (.exit 0))) (.seq (.block 1 (.reg r5_8)) (.reg r5_9))))) = RL at *
 unfold OpRs at k12
 unfold CmR at kA kB kC
 unfold hpS stB dkB byB at *
 unfold opB at *
 simp only [queD, List.append_nil, List.cons_append, List.nil_append, Nat.reduceMul, Nat.reduceSub, Nat.reduceDiv] at *
 generalize bys (newS 1000).flatten = Y0 at *
 generalize bys S1.flatten = Y1 at *
 generalize bys S2.flatten = Y2 at *
 generalize bys S3.flatten = Y3 at *
 generalize hKK : limk k = KK at *
 generalize hZZ : zr n = ZZ at *
 have wQ := And.intro @hE @hB0; repeat' (first | with_reducible (apply swq; constructor) | simp only [go_sem, seval, P5, q5, t1, t2] | simp (disch := omega) only [wA] | ((with_reducible refine zAc (k10) ?he ?hc ?_); (case he | hc => exact sc wQ)) | ((with_reducible refine o_eff [] [] (k13) ?hs ?he ?hh ?_); (case hs => exact so); (case he | hh => exact sh wQ); rintro _ _ ⟨rfl, rfl⟩) | ((with_reducible refine o_eff [0, 1] [] (k12) ?hs ?he ?hh ?_); (case hs => exact so); (case he | hh => exact sh wQ); rintro _ _ ⟨rfl, l0, c0, rfl, m0⟩) | with_reducible intro _)
 all_goals try omega
 refine hlp _ _ _ _ _ _ _ _ _ _ _ _ _ _ _ _ _ (fun x9 x16 => ?_)
 have wQ := And.intro @hE @hB0; repeat' (first | with_reducible (apply swq; constructor) | simp only [go_sem, seval, P5, q5, Int.toNat_natCast] | ((with_reducible apply s_mks); (case h0 | h1 | h2 => exact sd wQ)) | with_reducible intro _)
 all_goals try omega
 rw [z1]
 refine s_b2z rfl hz1 ?_
 by_cases d1 : n ≤ 20000
 ·have dn : decide (((n : Nat) : Int) ≤ 20000) = true := decide_eq_true (by omega)
  have hv := hv d1
  rw [hv] at kG
  simp only [Option.getD_some, Option.isSome_some] at kG
  rw [if_pos d1] at hf
  subst hf
  by_cases d2 : 1 ≤ k ∧ k ≤ 200
  ·rw [if_pos d2] at hg
   subst hg
   obtain ⟨d3, d4⟩ := d2
   have dk : decide (((k : Nat) : Int) ≤ 200) = true := decide_eq_true (by omega)
   have wQ := And.intro @hE (And.intro @hB0 (And.intro @hB1 (And.intro @hB2 (And.intro @hB3 @hbr)))); repeat' (first | with_reducible (apply swq; constructor) | simp only [go_sem, seval, P5, q5, hz1, beq_self_eq_true, dn, dk] | simp (disch := omega) only [wA] | ((with_reducible refine o_eff [] [] (kO) ?hs ?he ?hh ?_); (case hs => exact so); (case he | hh => exact sh wQ); rintro _ _ ⟨rfl, rfl⟩) | ((with_reducible refine o_eff [3, 2, 0, 1, 5] [] ((kA _ _ m0)) ?hs ?he ?hh ?_); (case hs => exact so); (case he | hh => exact sh wQ); rintro _ _ ⟨rfl, l1, c1, rfl, m1⟩) | ((with_reducible refine o_eff [] [] (kP) ?hs ?he ?hh ?_); (case hs => exact so); (case he | hh => exact sh wQ); rintro _ _ ⟨rfl, rfl⟩) | ((with_reducible refine o_eff [3, 2, 0, 1, 6] [] ((kB _ _ m1)) ?hs ?he ?hh ?_); (case hs => exact so); (case he | hh => exact sh wQ); rintro _ _ ⟨rfl, l2, c2, rfl, m2⟩) | ((with_reducible refine o_eff [3, 2, 0, 1] [] ((kC _ _ m2)) ?hs ?he ?hh ?_); (case hs => exact so); (case he | hh => exact sh wQ); rintro _ _ ⟨rfl, l3, c3, rfl, m3⟩) | ((with_reducible refine o_eff [3, 2, 0, 1] [] ((kG _ _ m3)) ?hs ?he ?hh ?_); (case hs => exact so); (case he | hh => exact sh wQ); rintro _ _ ⟨rfl, rfl⟩) | ((with_reducible refine zAc (k26) ?he ?hc ?_); (case he | hc => exact sc wQ)) | ((with_reducible refine zAc (k25) ?he ?hc ?_); (case he | hc => exact sc wQ)) | ((with_reducible apply s_bsl); (case he | hl | hc => exact sd wQ)) | (with_reducible first | (apply cdA; constructor) | (apply gdA; constructor)) | with_reducible intro _)
   all_goals try omega
   all_goals try (exfalso; omega)
   all_goals exact ⟨_, zAa, rfl, rfl⟩
  ·rw [if_neg d2] at hg
   subst hg
   have d3 : k = 0 ∨ 200 < k := by omega
   rcases d3 with d3 | d3
   ·have dk : decide (((k : Nat) : Int) ≤ 200) = true := decide_eq_true (by omega)
    have wQ := And.intro @hE (And.intro @hB0 (And.intro @hB1 (And.intro @hB2 (And.intro @hB3 @hbr)))); repeat' (first | with_reducible (apply swq; constructor) | simp only [go_sem, seval, P5, q5, hz1, beq_self_eq_true, dn, dk] | simp (disch := omega) only [wA] | ((with_reducible refine o_eff [] [] (kO) ?hs ?he ?hh ?_); (case hs => exact so); (case he | hh => exact sh wQ); rintro _ _ ⟨rfl, rfl⟩) | ((with_reducible refine o_eff [3, 2, 0, 1, 5] [] ((kA _ _ m0)) ?hs ?he ?hh ?_); (case hs => exact so); (case he | hh => exact sh wQ); rintro _ _ ⟨rfl, l1, c1, rfl, m1⟩) | ((with_reducible refine o_eff [] [] (kP) ?hs ?he ?hh ?_); (case hs => exact so); (case he | hh => exact sh wQ); rintro _ _ ⟨rfl, rfl⟩) | ((with_reducible refine o_eff [3, 2, 0, 1, 6] [] ((kB _ _ m1)) ?hs ?he ?hh ?_); (case hs => exact so); (case he | hh => exact sh wQ); rintro _ _ ⟨rfl, l2, c2, rfl, m2⟩) | ((with_reducible refine o_eff [3, 2, 0, 1] [] ((kC _ _ m2)) ?hs ?he ?hh ?_); (case hs => exact so); (case he | hh => exact sh wQ); rintro _ _ ⟨rfl, l3, c3, rfl, m3⟩) | ((with_reducible refine o_eff [3, 2, 0, 1] [] ((kG _ _ m3)) ?hs ?he ?hh ?_); (case hs => exact so); (case he | hh => exact sh wQ); rintro _ _ ⟨rfl, rfl⟩) | ((with_reducible refine zAc (k26) ?he ?hc ?_); (case he | hc => exact sc wQ)) | ((with_reducible refine zAc (k25) ?he ?hc ?_); (case he | hc => exact sc wQ)) | ((with_reducible apply s_bsl); (case he | hl | hc => exact sd wQ)) | (with_reducible first | (apply cdA; constructor) | (apply gdA; constructor)) | with_reducible intro _)
    all_goals try omega
    all_goals try (exfalso; omega)
    all_goals exact ⟨_, zAa, rfl, rfl⟩
   ·have dk : decide (((k : Nat) : Int) ≤ 200) = false := decide_eq_false (by omega)
    have wQ := And.intro @hE (And.intro @hB0 (And.intro @hB1 (And.intro @hB2 (And.intro @hB3 @hbr)))); repeat' (first | with_reducible (apply swq; constructor) | simp only [go_sem, seval, P5, q5, hz1, beq_self_eq_true, dn, dk] | simp (disch := omega) only [wA] | ((with_reducible refine o_eff [] [] (kO) ?hs ?he ?hh ?_); (case hs => exact so); (case he | hh => exact sh wQ); rintro _ _ ⟨rfl, rfl⟩) | ((with_reducible refine o_eff [3, 2, 0, 1, 5] [] ((kA _ _ m0)) ?hs ?he ?hh ?_); (case hs => exact so); (case he | hh => exact sh wQ); rintro _ _ ⟨rfl, l1, c1, rfl, m1⟩) | ((with_reducible refine o_eff [] [] (kP) ?hs ?he ?hh ?_); (case hs => exact so); (case he | hh => exact sh wQ); rintro _ _ ⟨rfl, rfl⟩) | ((with_reducible refine o_eff [3, 2, 0, 1, 6] [] ((kB _ _ m1)) ?hs ?he ?hh ?_); (case hs => exact so); (case he | hh => exact sh wQ); rintro _ _ ⟨rfl, l2, c2, rfl, m2⟩) | ((with_reducible refine o_eff [3, 2, 0, 1] [] ((kC _ _ m2)) ?hs ?he ?hh ?_); (case hs => exact so); (case he | hh => exact sh wQ); rintro _ _ ⟨rfl, l3, c3, rfl, m3⟩) | ((with_reducible refine o_eff [3, 2, 0, 1] [] ((kG _ _ m3)) ?hs ?he ?hh ?_); (case hs => exact so); (case he | hh => exact sh wQ); rintro _ _ ⟨rfl, rfl⟩) | ((with_reducible refine zAc (k26) ?he ?hc ?_); (case he | hc => exact sc wQ)) | ((with_reducible refine zAc (k25) ?he ?hc ?_); (case he | hc => exact sc wQ)) | ((with_reducible apply s_bsl); (case he | hl | hc => exact sd wQ)) | (with_reducible first | (apply cdA; constructor) | (apply gdA; constructor)) | with_reducible intro _)
    all_goals try omega
    all_goals try (exfalso; omega)
    all_goals exact ⟨_, zAa, rfl, rfl⟩
 ·have dn : decide (((n : Nat) : Int) ≤ 20000) = false := decide_eq_false (by omega)
  rw [if_neg d1] at hf
  subst hf
  by_cases d2 : 1 ≤ k ∧ k ≤ 200
  ·rw [if_pos d2] at hg
   subst hg
   obtain ⟨d3, d4⟩ := d2
   have dk : decide (((k : Nat) : Int) ≤ 200) = true := decide_eq_true (by omega)
   have wQ := And.intro @hE (And.intro @hB0 (And.intro @hB1 (And.intro @hB2 (And.intro @hB3 @hbr)))); repeat' (first | with_reducible (apply swq; constructor) | simp only [go_sem, seval, P5, q5, hz1, beq_self_eq_true, dn, dk] | simp (disch := omega) only [wA] | ((with_reducible refine o_eff [] [] (kO) ?hs ?he ?hh ?_); (case hs => exact so); (case he | hh => exact sh wQ); rintro _ _ ⟨rfl, rfl⟩) | ((with_reducible refine o_eff [3, 2, 0, 1, 5] [] ((kA _ _ m0)) ?hs ?he ?hh ?_); (case hs => exact so); (case he | hh => exact sh wQ); rintro _ _ ⟨rfl, l1, c1, rfl, m1⟩) | ((with_reducible refine o_eff [] [] (kP) ?hs ?he ?hh ?_); (case hs => exact so); (case he | hh => exact sh wQ); rintro _ _ ⟨rfl, rfl⟩) | ((with_reducible refine o_eff [3, 2, 0, 1, 6] [] ((kB _ _ m1)) ?hs ?he ?hh ?_); (case hs => exact so); (case he | hh => exact sh wQ); rintro _ _ ⟨rfl, l2, c2, rfl, m2⟩) | ((with_reducible refine o_eff [3, 2, 0, 1] [] ((kC _ _ m2)) ?hs ?he ?hh ?_); (case hs => exact so); (case he | hh => exact sh wQ); rintro _ _ ⟨rfl, l3, c3, rfl, m3⟩) | ((with_reducible refine o_eff [3, 2, 0, 1] [] ((kG _ _ m3)) ?hs ?he ?hh ?_); (case hs => exact so); (case he | hh => exact sh wQ); rintro _ _ ⟨rfl, rfl⟩) | ((with_reducible refine zAc (k26) ?he ?hc ?_); (case he | hc => exact sc wQ)) | ((with_reducible refine zAc (k25) ?he ?hc ?_); (case he | hc => exact sc wQ)) | ((with_reducible apply s_bsl); (case he | hl | hc => exact sd wQ)) | (with_reducible (apply gdA; constructor)) | with_reducible intro _)
   all_goals try omega
   all_goals try (exfalso; omega)
   all_goals exact ⟨_, zAa, rfl, rfl⟩
  ·rw [if_neg d2] at hg
   subst hg
   have d3 : k = 0 ∨ 200 < k := by omega
   rcases d3 with d3 | d3
   ·have dk : decide (((k : Nat) : Int) ≤ 200) = true := decide_eq_true (by omega)
    have wQ := And.intro @hE (And.intro @hB0 (And.intro @hB1 (And.intro @hB2 (And.intro @hB3 @hbr)))); repeat' (first | with_reducible (apply swq; constructor) | simp only [go_sem, seval, P5, q5, hz1, beq_self_eq_true, dn, dk] | simp (disch := omega) only [wA] | ((with_reducible refine o_eff [] [] (kO) ?hs ?he ?hh ?_); (case hs => exact so); (case he | hh => exact sh wQ); rintro _ _ ⟨rfl, rfl⟩) | ((with_reducible refine o_eff [3, 2, 0, 1, 5] [] ((kA _ _ m0)) ?hs ?he ?hh ?_); (case hs => exact so); (case he | hh => exact sh wQ); rintro _ _ ⟨rfl, l1, c1, rfl, m1⟩) | ((with_reducible refine o_eff [] [] (kP) ?hs ?he ?hh ?_); (case hs => exact so); (case he | hh => exact sh wQ); rintro _ _ ⟨rfl, rfl⟩) | ((with_reducible refine o_eff [3, 2, 0, 1, 6] [] ((kB _ _ m1)) ?hs ?he ?hh ?_); (case hs => exact so); (case he | hh => exact sh wQ); rintro _ _ ⟨rfl, l2, c2, rfl, m2⟩) | ((with_reducible refine o_eff [3, 2, 0, 1] [] ((kC _ _ m2)) ?hs ?he ?hh ?_); (case hs => exact so); (case he | hh => exact sh wQ); rintro _ _ ⟨rfl, l3, c3, rfl, m3⟩) | ((with_reducible refine o_eff [3, 2, 0, 1] [] ((kG _ _ m3)) ?hs ?he ?hh ?_); (case hs => exact so); (case he | hh => exact sh wQ); rintro _ _ ⟨rfl, rfl⟩) | ((with_reducible refine zAc (k26) ?he ?hc ?_); (case he | hc => exact sc wQ)) | ((with_reducible refine zAc (k25) ?he ?hc ?_); (case he | hc => exact sc wQ)) | ((with_reducible apply s_bsl); (case he | hl | hc => exact sd wQ)) | (with_reducible (apply gdA; constructor)) | with_reducible intro _)
    all_goals try omega
    all_goals try (exfalso; omega)
    all_goals exact ⟨_, zAa, rfl, rfl⟩
   ·have dk : decide (((k : Nat) : Int) ≤ 200) = false := decide_eq_false (by omega)
    have wQ := And.intro @hE (And.intro @hB0 (And.intro @hB1 (And.intro @hB2 (And.intro @hB3 @hbr)))); repeat' (first | with_reducible (apply swq; constructor) | simp only [go_sem, seval, P5, q5, hz1, beq_self_eq_true, dn, dk] | simp (disch := omega) only [wA] | ((with_reducible refine o_eff [] [] (kO) ?hs ?he ?hh ?_); (case hs => exact so); (case he | hh => exact sh wQ); rintro _ _ ⟨rfl, rfl⟩) | ((with_reducible refine o_eff [3, 2, 0, 1, 5] [] ((kA _ _ m0)) ?hs ?he ?hh ?_); (case hs => exact so); (case he | hh => exact sh wQ); rintro _ _ ⟨rfl, l1, c1, rfl, m1⟩) | ((with_reducible refine o_eff [] [] (kP) ?hs ?he ?hh ?_); (case hs => exact so); (case he | hh => exact sh wQ); rintro _ _ ⟨rfl, rfl⟩) | ((with_reducible refine o_eff [3, 2, 0, 1, 6] [] ((kB _ _ m1)) ?hs ?he ?hh ?_); (case hs => exact so); (case he | hh => exact sh wQ); rintro _ _ ⟨rfl, l2, c2, rfl, m2⟩) | ((with_reducible refine o_eff [3, 2, 0, 1] [] ((kC _ _ m2)) ?hs ?he ?hh ?_); (case hs => exact so); (case he | hh => exact sh wQ); rintro _ _ ⟨rfl, l3, c3, rfl, m3⟩) | ((with_reducible refine o_eff [3, 2, 0, 1] [] ((kG _ _ m3)) ?hs ?he ?hh ?_); (case hs => exact so); (case he | hh => exact sh wQ); rintro _ _ ⟨rfl, rfl⟩) | ((with_reducible refine zAc (k26) ?he ?hc ?_); (case he | hc => exact sc wQ)) | ((with_reducible refine zAc (k25) ?he ?hc ?_); (case he | hc => exact sc wQ)) | ((with_reducible apply s_bsl); (case he | hl | hc => exact sd wQ)) | (with_reducible (apply gdA; constructor)) | with_reducible intro _)
    all_goals try omega
    all_goals try (exfalso; omega)
    all_goals exact ⟨_, zAa, rfl, rfl⟩
end Go.Proofs.YtkobjnpmjngklaaGreatDoor
end
section
set_option linter.unusedVariables false
namespace Go.Proofs.YtkobjnpmjngklaaGreatDoor
open Go GoV
theorem limits_c (n : Int) (h : 0 ≤ n ∧ n ≤ 65535) (m : Int) (hm : 0 ≤ m ∧ m ≤ 255) : Pur M 5 [.int .u16 n, .int .u8 m] (.bool true) := by
 obtain ⟨r, rfl⟩ : ∃ r : Nat, n = r := ⟨n.toNat, by omega⟩
 obtain ⟨m, rfl⟩ : ∃ r : Nat, m = r := ⟨m.toNat, by omega⟩
 exact limits_p r m (by omega) (by omega)
end Go.Proofs.YtkobjnpmjngklaaGreatDoor
end