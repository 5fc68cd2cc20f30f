/- Own texts, merged by a program: the engine that walks the code, and what the functions that the law reaches compute. -/
import Derived.Test.YtkobjnpmjngklaaGreatDoorQa5
import Derived.SizedLaws
section
set_option maxRecDepth 100000
set_option linter.unusedSimpArgs false
set_option linter.unusedVariables false
namespace Go.Proofs.YtkobjnpmjngklaaGreatDoor
open Go GoV
theorem rev_ind {α : Type} {P : List α → Prop} (h0 : P []) (h1 : ∀ l a, P l → P (l ++ [a])) (l : List α) : P l := by
 rw [← List.reverse_reverse l]
 induction l.reverse with
 | nil => exact h0
 | cons a r ih => rw [List.reverse_cons]; exact h1 _ _ ih
theorem foldR_mem (m : KV) (hm : So (ks m)) (l : KV) : (∀ k, k ∈ ks (ofL l) ↔ ∃ p ∈ l, p.1 = k) ∧ ∀ p, p ∈ l.foldl (fun m p => insK p.1 p.2 m) m ↔ p ∈ ofL l ∨ (p.1 ∉ ks (ofL l) ∧ p ∈ m) := by
 refine rev_ind (P := fun l => (∀ k, k ∈ ks (ofL l) ↔ ∃ p ∈ l, p.1 = k) ∧ ∀ p, p ∈ l.foldl (fun m p => insK p.1 p.2 m) m ↔ p ∈ ofL l ∨ (p.1 ∉ ks (ofL l) ∧ p ∈ m)) ?_ ?_ l
 ·simp [ofL]
 ·intro l a ih
  obtain ⟨i1, i2⟩ := ih
  have e1 : ofL (l ++ [a]) = insK a.1 a.2 (ofL l) := by simp [ofL]
  have e2 : (l ++ [a]).foldl (fun m p => insK p.1 p.2 m) m = insK a.1 a.2 (l.foldl (fun m p => insK p.1 p.2 m) m) := by simp
  have h1 : ∀ k, k ∈ ks (ofL (l ++ [a])) ↔ k = a.1 ∨ k ∈ ks (ofL l) := fun k => by
   rw [e1]
   simp only [ks, List.mem_map]
   constructor
   ·rintro ⟨p, hp, rfl⟩
    rcases (zCy (zFv l) p).1 hp with q | q
    ·left; rw [q]
    ·right; exact ⟨p, q.2, rfl⟩
   ·intro h
    by_cases hk : k = a.1
    ·exact ⟨(a.1, a.2), (zCy (zFv l) _).2 (.inl rfl), hk.symm⟩
    ·obtain ⟨p, hp, rfl⟩ := h.resolve_left hk
     exact ⟨p, (zCy (zFv l) _).2 (.inr ⟨hk, hp⟩), rfl⟩
  refine ⟨fun k => ?_, fun p => ?_⟩
  ·rw [h1, i1]
   constructor
   ·rintro (rfl | ⟨p, hp, rfl⟩)
    ·exact ⟨a, by simp, rfl⟩
    ·exact ⟨p, by simp [hp], rfl⟩
   ·rintro ⟨p, hp, rfl⟩
    rcases List.mem_append.1 hp with q | q
    ·exact .inr ⟨p, q, rfl⟩
    ·simp at q; rw [q]; exact .inl rfl
  ·rw [e2, zCy (zDb _ _ hm), i2, h1, e1, zCy (zFv l)]
   by_cases hk : p.1 = a.1
   ·simp [hk]
   ·simp [hk, or_assoc]
theorem apply_ofL {m put : KV} {drop : List Tx} (h : So (ks m)) : zA6 m (ofL put) drop = zA6 m put drop := by
 unfold zA6
 congr 1
 refine so_kv (zDb _ _ h) (zDb _ _ h) fun p => ?_
 rw [zEk _ _ (zC2 (zFv put)) h, (foldR_mem m h put).2]
theorem flat_get0 : ∀ {m : KV} {k : Nat} (h : k < m.length), (zAk m)[2 * k]'(by rw [zBg]; omega) = m[k].1
 | p :: m, 0, _ => rfl
 | p :: m, k + 1, h => by
   have := flat_get0 (m := m) (k := k) (by simpa using h)
   simpa [zAk, Nat.mul_add] using this
theorem flat_get1 : ∀ {m : KV} {k : Nat} (h : k < m.length), (zAk m)[2 * k + 1]'(by rw [zBg]; omega) = m[k].2
 | p :: m, 0, _ => rfl
 | p :: m, k + 1, h => by
   have := flat_get1 (m := m) (k := k) (by simpa using h)
   simpa [zAk, Nat.mul_add] using this
theorem so_app : ∀ {a b : List Tx}, So (a ++ b) ↔ So a ∧ So b ∧ ∀ x ∈ a, ∀ y ∈ b, lt x y = true
 | [], b => by simp [So]
 | x :: a, b => by
   simp only [List.cons_append, So, so_app, List.mem_append, List.mem_cons, or_imp, forall_and, forall_eq]
   constructor
   ·rintro ⟨⟨h1, h2⟩, h3, h4, h5⟩; exact ⟨⟨h1, h3⟩, h4, h2, h5⟩
   ·rintro ⟨⟨h1, h3⟩, h4, h2, h5⟩; exact ⟨⟨h1, h2⟩, h3, h4, h5⟩
theorem so_put {K : List Tx} {k : Nat} {key : Tx} (h : So K) (hk : key ∉ K) (hle : k ≤ K.length) (h1 : ∀ x ∈ K.take k, lt x key = true) (h2 : ∀ (hl : k < K.length), lt K[k] key = false) :
 So (K.take k ++ key :: K.drop k) := by
 have h0 : So (K.take k ++ K.drop k) := by rw [List.take_append_drop]; exact h
 obtain ⟨g1, g2, g3⟩ := so_app.1 h0
 have hd : ∀ y ∈ K.drop k, lt key y = true := by
  intro y hy
  by_cases hl : k < K.length
  ·have e := List.drop_eq_getElem_cons hl
   rw [e] at g2 hy
   have hf : lt key K[k] = true := by
    cases hq : lt key K[k] with
    | true => rfl
    | false => exact absurd (lt_tri (h2 hl) hq) fun e => hk (e ▸ List.getElem_mem hl)
   rcases List.mem_cons.1 hy with q | q
   ·rw [q]; exact hf
   ·exact lt_trans hf (g2.1 y q)
  ·rw [List.drop_eq_nil_of_le (by omega)] at hy; simp at hy
 refine so_app.2 ⟨g1, ⟨hd, g2⟩, fun x hx y hy => ?_⟩
 rcases List.mem_cons.1 hy with q | q
 ·rw [q]; exact h1 x hx
 ·exact g3 x hx y q
set_option maxHeartbeats 2000000 in
theorem model_0 (LL : List D) (m : KV) (hLL : LL = strs (zAk m)) (hml : m.length ≤ 1000000) (X : D) (B : Blk) (Q : Ex → St → Prop)
 (hQ : ∀ x5 x14, Q .normal ⟨[.slice LL .no, X, .ptr 0 0, .lit (.slice none 0 0), .mp 1, x5, .u0, .u0, .u0, .u0, .u0, .u0, .u0, .u0, x14, .u0, .u0, .u0, .u0, .u0, .u0], [], ⟨[B, .map (entT (mapT m).1) (mapT m).2], []⟩⟩) :
 SWp C16 (.block 0 (.loop (.seq (.seq (.reg r16_3) (.cond (.v 14) .skip (.exit 0))) (.seq (.block 1 (.regD r16_4 r16_5)) (.reg r16_6))))) Q ⟨[.slice LL .no, X, .ptr 0 0, .lit (.slice none 0 0), .mp 1, .int .i64 0, .u0, .u0, .u0, .u0, .u0, .u0, .u0, .u0, .u0, .u0, .u0, .u0, .u0, .u0, .u0], [], ⟨[B, .map [] 0], []⟩⟩ := by
 have hl : LL.length = 2 * m.length := by rw [hLL, zAi, zBg]
 have hg0 : ∀ k (h : k < m.length), LL.getD (2 * k) .u0 = .str m[k].1 := fun k h => by rw [hLL, zA8 (by rw [zBg]; omega), flat_get0 h]
 have hg1 : ∀ k (h : k < m.length), LL.getD (2 * k + 1) .u0 = .str m[k].2 := fun k h => by rw [hLL, zA8 (by rw [zBg]; omega), flat_get1 h]
 clear hLL
 refine zCa ?_
 refine zAp [0, 1, 2, 3, 4, 5] (fun k : Nat => ⟨[.slice LL .no, X, .ptr 0 0, .lit (.slice none 0 0), .mp 1, .int .i64 (2 * k : Nat), .u0, .u0, .u0, .u0, .u0, .u0, .u0, .u0, .u0, .u0, .u0, .u0, .u0, .u0, .u0], [], ⟨[B, .map (entT (mapT (m.take k)).1) (mapT (m.take k)).2], []⟩⟩)
  (fun k => k ≤ m.length) (fun k => m.length - k) 0 (Nat.zero_le _) ?_ ?_
 ·simp [keepE, St.keep, mapT, entT]
 ·intro k hk
  have q1 : ((2 * k : Nat) : Int) + 1 = ((2 * k + 1 : Nat) : Int) := by omega
  have q2 : ((2 * k : Nat) : Int) + 2 = ((2 * k + 2 : Nat) : Int) := by omega
  by_cases hlt : k < m.length
  ·have g1 := hg0 k hlt
   have g2 := hg1 k hlt
   obtain ⟨g3, _⟩ := zFe (zD6 (m.take k)) m[k]
   have g4 : mapT (m.take (k + 1)) = nxtT (mapT (m.take k)) m[k] := by rw [List.take_succ_eq_append_getElem hlt, mapT_app]
   have hko := zCf (mapT (m.take k)).1
   rw [← g4] at g3
   generalize m[k] = p at *
   have wQ := @hl; repeat' (first | with_reducible (apply swq; constructor) | simp only [go_sem, seval, P16, q16, q1, q2, hl, g1, g2, zAm] | simp (disch := omega) only [wA] | ((with_reducible apply s_mpu); (case h1 | hk => rfl); (case ha | hp => first | rfl | assumption)) | (with_reducible (apply cdA; constructor)) | ((with_reducible refine And.intro ?hw ?_); (case hw => exact sw wQ)) | with_reducible intro _)
   all_goals try omega
   exact ⟨k + 1, by omega, by omega, by simp [keepE, St.keep, g3, Nat.mul_add]⟩
  ·have e : k = m.length := by omega
   subst e
   rw [List.take_length]
   have wQ := @hl; repeat' (first | with_reducible (apply swq; constructor) | simp only [go_sem, seval, P16, q16, q1, q2, hl, zAm] | simp (disch := omega) only [wA] | (with_reducible (apply cdA; constructor)) | ((with_reducible refine And.intro ?hw ?_); (case hw => exact sw wQ)) | with_reducible intro _)
   all_goals try omega
   exact hQ _ _
set_option maxHeartbeats 2000000 in
theorem model_2 (LL PP DD : List D) (put m : KV) (hPP : PP = prs put) (hpl : put.length ≤ 1000000) (x0 : List Tri × Nat) (h0 : MpOk x0.1 x0.2 m) (X x5 x14 e0 ea eb ec : D) (Q : Ex → St → Prop)
 (hQ : ∀ x5 x6 x14 x15, Q .normal ⟨[.slice LL .no, X, .ptr 0 0, .lit (.slice none 0 0), .mp 1, x5, x6, .u0, .u0, .u0, .u0, .u0, .u0, .u0, x14, x15, .u0, .u0, .u0, .u0, .u0], [], ⟨[.cells [e0, .slice PP .no, .slice DD .no, ea, eb, ec], .map (entT (put.foldl nxtT x0).1) (put.foldl nxtT x0).2], []⟩⟩) :
 SWp C16 (.block 2 (.loop (.seq (.seq (.reg r16_8) (.cond (.v 15) .skip (.exit 2))) (.seq (.block 3 (.regD r16_9 r16_10)) (.reg r16_11))))) Q ⟨[.slice LL .no, X, .ptr 0 0, .lit (.slice none 0 0), .mp 1, x5, .int .i64 0, .u0, .u0, .u0, .u0, .u0, .u0, .u0, x14, .u0, .u0, .u0, .u0, .u0, .u0], [], ⟨[.cells [e0, .slice PP .no, .slice DD .no, ea, eb, ec], .map (entT x0.1) x0.2], []⟩⟩ := by
 have hl : PP.length = put.length := by rw [hPP, prs_len]
 have hg : ∀ k (h : k < put.length), PP.getD k .u0 = .agg [.str put[k].1, .str put[k].2] := fun k h => by rw [hPP, prs_get h]
 clear hPP
 refine zCa ?_
 refine zAp [0, 1, 2, 3, 4, 6] (fun k : Nat => ⟨[.slice LL .no, X, .ptr 0 0, .lit (.slice none 0 0), .mp 1, .u0, .int .i64 k, .u0, .u0, .u0, .u0, .u0, .u0, .u0, .u0, .u0, .u0, .u0, .u0, .u0, .u0], [], ⟨[.cells [e0, .slice PP .no, .slice DD .no, ea, eb, ec], .map (entT ((put.take k).foldl nxtT x0).1) ((put.take k).foldl nxtT x0).2], []⟩⟩)
  (fun k => k ≤ put.length) (fun k => put.length - k) 0 (Nat.zero_le _) ?_ ?_
 ·simp [keepE, St.keep]
 ·intro k hk
  by_cases hlt : k < put.length
  ·have g1 := hg k hlt
   obtain ⟨g3, _⟩ := zFe (mapF_ok (put.take k) h0) put[k]
   have g4 : (put.take (k + 1)).foldl nxtT x0 = nxtT ((put.take k).foldl nxtT x0) put[k] := by rw [List.take_succ_eq_append_getElem hlt, List.foldl_append]; rfl
   have hko := zCf ((put.take k).foldl nxtT x0).1
   rw [← g4] at g3
   generalize put[k] = p at *
   have wQ := @hl; repeat' (first | with_reducible (apply swq; constructor) | simp only [go_sem, seval, P16, q16, hl, g1, o_ixaI, p_ixaI, zAm] | simp (disch := omega) only [wA] | ((with_reducible apply s_mpu); (case h1 | hk => rfl); (case ha | hp => first | rfl | assumption)) | (with_reducible (apply cdA; constructor)) | ((with_reducible refine And.intro ?hw ?_); (case hw => exact sw wQ)) | with_reducible intro _)
   all_goals try omega
   exact ⟨k + 1, by omega, by omega, by simp [keepE, St.keep, g3]⟩
  ·have e : k = put.length := by omega
   subst e
   rw [List.take_length]
   have wQ := @hl; repeat' (first | with_reducible (apply swq; constructor) | simp only [go_sem, seval, P16, q16, hl, zAm] | simp (disch := omega) only [wA] | (with_reducible (apply cdA; constructor)) | ((with_reducible refine And.intro ?hw ?_); (case hw => exact sw wQ)) | with_reducible intro _)
   all_goals try omega
   exact hQ _ _ _ _
set_option maxHeartbeats 2000000 in
theorem model_4 (LL PP DD : List D) (drop : List Tx) (m : KV) (hDD : DD = strs drop) (hpl : drop.length ≤ 1000000) (l : List Tri) (c : Nat) (h0 : MpOk l c m) (X x5 x6 x14 x15 e0 ea eb ec : D) (Q : Ex → St → Prop)
 (hQ : ∀ l', MpOk l' c (drop.foldl (fun m k => delK k m) m) → ∀ x5 x6 x7 x14 x15 x16, Q .normal ⟨[.slice LL .no, X, .ptr 0 0, .lit (.slice none 0 0), .mp 1, x5, x6, x7, .u0, .u0, .u0, .u0, .u0, .u0, x14, x15, x16, .u0, .u0, .u0, .u0], [], ⟨[.cells [e0, .slice PP .no, .slice DD .no, ea, eb, ec], .map (entT l') c], []⟩⟩) :
 SWp C16 (.block 4 (.loop (.seq (.seq (.reg r16_13) (.cond (.v 16) .skip (.exit 4))) (.seq (.block 5 (.reg r16_14)) (.reg r16_15))))) Q ⟨[.slice LL .no, X, .ptr 0 0, .lit (.slice none 0 0), .mp 1, x5, x6, .int .i64 0, .u0, .u0, .u0, .u0, .u0, .u0, x14, x15, .u0, .u0, .u0, .u0, .u0], [], ⟨[.cells [e0, .slice PP .no, .slice DD .no, ea, eb, ec], .map (entT l) c], []⟩⟩ := by
 have hl : DD.length = drop.length := by rw [hDD, zAi]
 have hg : ∀ k (h : k < drop.length), DD.getD k .u0 = .str drop[k] := fun k h => by rw [hDD, zA8 h]
 clear hDD
 refine zCa ?_
 refine zAp [0, 1, 2, 3, 4, 7] (fun x : Nat × List Tri => ⟨[.slice LL .no, X, .ptr 0 0, .lit (.slice none 0 0), .mp 1, .u0, .u0, .int .i64 x.1, .u0, .u0, .u0, .u0, .u0, .u0, .u0, .u0, .u0, .u0, .u0, .u0, .u0], [], ⟨[.cells [e0, .slice PP .no, .slice DD .no, ea, eb, ec], .map (entT x.2) c], []⟩⟩)
  (fun x => x.1 ≤ drop.length ∧ MpOk x.2 c ((drop.take x.1).foldl (fun m k => delK k m) m)) (fun x => drop.length - x.1) (0, l) ⟨Nat.zero_le _, h0⟩ ?_ ?_
 ·simp [keepE, St.keep]
 ·rintro ⟨k, l1⟩ ⟨hk, hm⟩
  dsimp only at hk hm ⊢
  by_cases hlt : k < drop.length
  ·have g1 := hg k hlt
   obtain ⟨l3, h3, h4⟩ := hm.del drop[k]
   have h5 : delK drop[k] ((drop.take k).foldl (fun m k => delK k m) m) = (drop.take (k + 1)).foldl (fun m k => delK k m) m := by
    rw [List.take_succ_eq_append_getElem hlt, List.foldl_append]; rfl
   rw [h5] at h4
   have hko := zCf l1
   generalize drop[k] = p at *
   have wQ := @hl; repeat' (first | with_reducible (apply swq; constructor) | simp only [go_sem, seval, P16, q16, hl, g1, zAm] | simp (disch := omega) only [wA] | ((with_reducible apply s_mdl); (case h1 | hk => rfl); (case ha | hp => first | rfl | assumption)) | (with_reducible (apply cdA; constructor)) | ((with_reducible refine And.intro ?hw ?_); (case hw => exact sw wQ)) | with_reducible intro _)
   all_goals try omega
   exact ⟨(k + 1, l3), ⟨by dsimp only; omega, h4⟩, by dsimp only; omega, by simp [keepE, St.keep, h3]⟩
  ·have e : k = drop.length := by omega
   subst e
   rw [List.take_length] at hm
   have wQ := @hl; repeat' (first | with_reducible (apply swq; constructor) | simp only [go_sem, seval, P16, q16, hl, zAm] | simp (disch := omega) only [wA] | (with_reducible (apply cdA; constructor)) | ((with_reducible refine And.intro ?hw ?_); (case hw => exact sw wQ)) | with_reducible intro _)
   all_goals try omega
   exact hQ _ hm _ _ _ _ _ _
set_option maxHeartbeats 2000000 in
theorem model_8 (LL : List D) (K : List Tx) (key : Tx) (hpl : K.length ≤ 1000000) (X x5 x6 x7 x11 x12 x13 x14 x15 x16 x18 x20 IT : D) (h : Hp) (Q : Ex → St → Prop)
 (hQ : ∀ k, k ≤ K.length → (∀ x ∈ K.take k, lt x key = true) → (∀ (hl : k < K.length), lt K[k] key = false) → ∀ x19, Q .normal ⟨[.slice LL .no, X, .ptr 0 0, .lit (.slice none 0 0), .mp 1, .u0, .u0, .u0, .slice (strs K) .no, .str key, .int .i64 k, .u0, .u0, .u0, .u0, .u0, .u0, IT, .u0, x19, .u0], [], h⟩) :
 SWp C16 (.block 8 (.loop (.seq (.seq (.reg r16_21) (.cond (.v 19) .skip (.exit 8))) (.block 9 (.reg r16_22))))) Q ⟨[.slice LL .no, X, .ptr 0 0, .lit (.slice none 0 0), .mp 1, x5, x6, x7, .slice (strs K) .no, .str key, .int .i64 0, x11, x12, x13, x14, x15, x16, IT, x18, .u0, x20], [], h⟩ := by
 have hl := zAi K
 have hg : ∀ k (h : k < K.length), (strs K).getD k .u0 = .str K[k] := fun k h => zA8 h
 generalize strs K = KK at *
 refine zCa ?_
 refine zAp [0, 1, 2, 3, 4, 8, 9, 10, 17] (fun k : Nat => ⟨[.slice LL .no, X, .ptr 0 0, .lit (.slice none 0 0), .mp 1, .u0, .u0, .u0, .slice KK .no, .str key, .int .i64 k, .u0, .u0, .u0, .u0, .u0, .u0, IT, .u0, .u0, .u0], [], h⟩)
  (fun k => k ≤ K.length ∧ ∀ x ∈ K.take k, lt x key = true) (fun k => K.length - k) 0 ⟨Nat.zero_le _, by simp⟩ ?_ ?_
 ·simp [keepE, St.keep]
 ·rintro k ⟨hk, hm⟩
  by_cases hlt : k < K.length
  ·have g1 := hg k hlt
   have g2 := fun h => take_all hlt hm h
   cases hb : lt K[k] key with
   | true =>
     have g3 := g2 hb
     generalize K[k] = p at *
     have wQ := @hl; repeat' (first | with_reducible (apply swq; constructor) | simp only [go_sem, seval, P16, q16, hl, g1, hb, zAm] | simp (disch := omega) only [wA] | (with_reducible (apply gdA; constructor)) | ((with_reducible refine And.intro ?hw ?_); (case hw => exact sw wQ)) | with_reducible intro _)
     all_goals try omega
     exact ⟨k + 1, ⟨by omega, g3⟩, by omega, by simp [keepE, St.keep]⟩
   | false =>
     have g3 := hQ k hk hm fun _ => hb
     generalize K[k] = p at *
     have wQ := @hl; repeat' (first | with_reducible (apply swq; constructor) | simp only [go_sem, seval, P16, q16, hl, g1, hb, zAm] | (with_reducible (apply gdA; constructor)) | ((with_reducible refine And.intro ?hw ?_); (case hw => exact sw wQ)) | with_reducible intro _)
     all_goals try omega
     exact g3 _
  ·have e : k = K.length := by omega
   subst e
   have wQ := @hl; repeat' (first | with_reducible (apply swq; constructor) | simp only [go_sem, seval, P16, q16, hl, zAm] | simp (disch := omega) only [wA] | (with_reducible (apply gdA; constructor)) | ((with_reducible refine And.intro ?hw ?_); (case hw => exact sw wQ)) | with_reducible intro _)
   all_goals try omega
   exact hQ _ (Nat.le_refl _) hm (fun h => absurd h (Nat.lt_irrefl _)) _
set_option maxHeartbeats 4000000 in
theorem model_6 (LL PP DD : List D) (l : List Tri) (c : Nat) (m : KV) (h0 : MpOk l c m) (hll : l.length ≤ 1000000) (X x5 x6 x7 x9 x10 x11 x12 x13 x14 x15 x16 : D) (hX : ∀ β τ, X.rn β τ = X) (e0 ea eb ec : Int) (Q : Ex → St → Prop)
 (hQ : ∀ K, So K → (∀ x, x ∈ K ↔ x ∈ ks m) → ∀ x18 IT, Q .normal ⟨[.slice LL .no, X, .ptr 0 0, .lit (.slice none 0 0), .mp 1, .u0, .u0, .u0, .slice (strs K) .no, .u0, .u0, .u0, .u0, .u0, .u0, .u0, .u0, .ptr 2 0, x18, .u0, .u0], [], ⟨[.cells [.int .i64 e0, .slice PP .no, .slice DD .no, .int .i64 ea, .int .i64 eb, .int .i64 ec], .map (entT l) c, IT], []⟩⟩) :
 SWp C16 (.block 6 (.loop (.seq (.reg r16_18) (.seq (.cond (.v 18) .skip (.exit 6)) (.block 7 (.seq (.reg r16_19) (.seq (.reg r16_20) (.seq (.block 8 (.loop (.seq (.seq (.reg r16_21) (.cond (.v 19) .skip (.exit 8))) (.block 9 (.reg r16_22))))) (.seq (.reg r16_23) (.reg r16_24)))))))))) Q ⟨[.slice LL .no, X, .ptr 0 0, .lit (.slice none 0 0), .mp 1, x5, x6, x7, .slice [] .no, x9, x10, x11, x12, x13, x14, x15, x16, .ptr 2 0, .u0, .u0, .u0], [], ⟨[.cells [.int .i64 e0, .slice PP .no, .slice DD .no, .int .i64 ea, .int .i64 eb, .int .i64 ec], .map (entT l) c, .miter 1 c [] c], []⟩⟩ := by
 have h8 := @model_8
 have hE := fun β τ => zAl β τ l
 generalize hB8 : RC.block 8 (.loop (.seq (.seq (.reg r16_21) (.cond (.v 19) .skip (.exit 8))) (.block 9 (.reg r16_22)))) = B8 at *
 refine zCa ?_
 refine zDv [0, 1, 2, 3, 4, 8, 17] 3 0 (Nat.zero_le _) (Nat.le_refl _) (fun x : List Tri × List Tx => ⟨[.slice LL .no, X, .ptr 0 0, .lit (.slice none 0 0), .mp 1, .u0, .u0, .u0, .slice (strs x.2) .no, .u0, .u0, .u0, .u0, .u0, .u0, .u0, .u0, .ptr 2 0, .u0, .u0, .u0], [], ⟨[.cells [.int .i64 e0, .slice PP .no, .slice DD .no, .int .i64 ea, .int .i64 eb, .int .i64 ec], .map (entT l) c, .miter 1 c (x.1.map (·.2.2)) c], []⟩⟩)
  (fun x => (x.1.map (·.2.2)).Nodup ∧ (∀ t ∈ x.1, t ∈ l) ∧ So x.2 ∧ (∀ k, k ∈ x.2 ↔ k ∈ x.1.map (·.1)) ∧ x.2.length = x.1.length) (fun x => l.length + 1 - x.1.length) ([], []) ⟨by simp, by simp, trivial, by simp, rfl⟩ ?_ ?_
 ·simp [keepE, St.keepG, St.keep, St.gc, RcS, RcB, Hp.cut, Hp.back, putAt, bakF, Blk.rnL, rC, rM, Tv.rnL, Tv.rn, D.rnL, D.rn, cutF, Own.rn, hE, hX, strs, Blk.rn]
 ·rintro ⟨V, K⟩ ⟨g1, g2, g3, g4, g5⟩
  dsimp only at g1 g2 g3 g4 g5 ⊢
  have hKl : K.length ≤ l.length := by rw [g5]; exact vis_len h0.bn g1 g2
  repeat' (first | with_reducible (apply swq; constructor) | simp only [go_sem, seval, P16, q16, zAm] | with_reducible intro _)
  refine s_nxtM rfl rfl (fun e he => ?_) (Nat.le_refl _) (fun e he hn => ?_) (fun hall => ?_)
  ·obtain ⟨t, ht, rfl⟩ := zEz he
   exact h0.lt t ht
  ·obtain ⟨t, ht, rfl⟩ := zEz he
   dsimp only at hn ⊢
   have hnd : ((entT l).map (·.2.2)).Nodup := by rw [zF3]; exact h0.bn
   have hmem := zDp ht
   have g1' : ((V ++ [t]).map (·.2.2)).Nodup := by
    rw [List.map_append, List.nodup_append]
    exact ⟨g1, by simp, fun a ha b hb e => by simp at hb; subst hb; subst e; exact hn ha⟩
   have g2' : ∀ u ∈ V ++ [t], u ∈ l := fun u hu => by
    rcases List.mem_append.1 hu with q | q
    ·exact g2 u q
    ·simp at q; subst q; exact ht
   have hVl' := vis_len h0.bn g1' g2'
   rw [List.length_append, List.length_singleton] at hVl'
   have hkn : t.1 ∉ K := fun h => by
    obtain ⟨u, hu, e⟩ := List.mem_map.1 ((g4 _).1 h)
    have := key_inj h0.nd (g2 u hu) ht e
    subst this
    exact hn (List.mem_map_of_mem hu)
   repeat' (first | with_reducible (apply swq; constructor) | simp only [go_sem, seval, P16, q16, zAm] | with_reducible intro _)
   refine s_ent rfl rfl hnd hmem ?_
   repeat' (first | with_reducible (apply swq; constructor) | simp only [go_sem, seval, P16, q16, zAm] | with_reducible intro _)
   refine h8 LL K t.1 (by omega) _ _ _ _ _ _ _ _ _ _ _ _ _ _ _ (fun k q1 q2 q3 x19 => ?_)
   have hso := so_put g3 hkn q1 q2 q3
   have hl1 := zAi K
   have hdr : (strs K).drop k = strs (K.drop k) := strs_drop K k
   have htk : (strs K).take k = strs (K.take k) := strs_take K k
   have hcd := zAt (K.drop k)
   have hed := zAz (K.drop k)
   have hkd := zA2 (K.drop k)
   have hct := zAt (K.take k)
   have het := zAz (K.take k)
   have hkt := zA2 (K.take k)
   have hld := zAi (K.drop k)
   have hlt := zAi (K.take k)
   rw [List.length_drop] at hld
   rw [List.length_take] at hlt
   have hkS := zA2 K
   have htn : ((k : Nat) : Int).toNat = k := Int.toNat_natCast k
   have hnew : strs (K.take k ++ t.1 :: K.drop k) = strs (K.take k) ++ .str t.1 :: strs (K.drop k) := by simp [strs]
   generalize strs (K.take k) = KT at *
   generalize strs (K.drop k) = KD at *
   generalize hSK : strs K = SK at *
   have wQ := And.intro @hl1 (And.intro @hld (And.intro @hlt (And.intro @hcd (And.intro @hed (And.intro @hkd (And.intro @hct (And.intro @het @hkt))))))); repeat' (first | with_reducible (apply swq; constructor) | simp only [go_sem, seval, P16, q16, hl1, hdr, htk, htn, zAm] | ((with_reducible apply zE4); (case he => rfl); (case hK | hc | hr | hV => exact sd wQ)) | ((with_reducible apply s_appFT); (case he => rfl); (case hK | hc | hr | hx | hn => exact sd wQ)) | ((with_reducible apply s_bsl); (case he | hl | hc => exact sd wQ)) | ((with_reducible first | apply s_slTF | apply s_slFT); (case h0 | h1 | hx => exact sd wQ)) | with_reducible intro _)
   all_goals try omega
   refine ⟨(V ++ [t], K.take k ++ t.1 :: K.drop k), ⟨g1', g2', hso, fun x => ?_, ?_⟩, ?_, ?_⟩
   ·dsimp only
    rw [List.mem_append, List.mem_cons, List.map_append, List.mem_append, ← g4]
    have : x ∈ K ↔ x ∈ K.take k ∨ x ∈ K.drop k := by rw [← List.mem_append, List.take_append_drop]
    rw [this]
    simp only [List.map_cons, List.map_nil, List.mem_singleton]
    constructor
    ·rintro (q | q | q)
     ·exact .inl (.inl q)
     ·exact .inr q
     ·exact .inl (.inr q)
    ·rintro ((q | q) | q)
     ·exact .inl q
     ·exact .inr (.inr q)
     ·exact .inr (.inl q)
   ·dsimp only
    simp only [List.length_append, List.length_cons, List.length_nil, List.length_take, List.length_drop]
    omega
   ·dsimp only
    simp only [List.length_append, List.length_cons, List.length_nil]
    omega
   ·dsimp only
    rw [hnew]
    simp [keepE, St.keepG, St.keep, St.gc, RcS, RcB, Hp.cut, Hp.back, putAt, bakF, Blk.rnL, rC, rM, Tv.rnL, Tv.rn, D.rnL, D.rn, cutF, Own.rn, hE, hX, het, hed, Blk.rn]
  ·repeat' (first | with_reducible (apply swq; constructor) | simp only [go_sem, seval, P16, q16, zAm] | with_reducible intro _)
   all_goals try omega
   have hp := vis_perm h0.bn g1 g2 (fun t ht => hall _ (zDp ht))
   refine hQ K g3 (fun x => ?_) _ _
   rw [g4, (hp.map _).mem_iff]
   simp only [ks, List.mem_map]
   constructor
   ·rintro ⟨t, ht, rfl⟩; exact ⟨_, (h0.mem _).1 (List.mem_map_of_mem ht), rfl⟩
   ·rintro ⟨q, hq, rfl⟩; obtain ⟨t, ht, e⟩ := List.mem_map.1 ((h0.mem q).2 hq); exact ⟨t, ht, by rw [← e]⟩
section
variable {P : Mod} {dst : Dst} {rq : List (RO × Bool)} {K : St → Prop} {s : St}
theorem t_lkpS {kd : MK} {ok : Bool} {zero : D} {bk clock i : Nat} {es : List (D × D × Nat)} {k v : D} (h1 : s.hp.H[bk]? = some (.map es clock)) (hk : keyOk kd k = true) (ha : (es.all fun e => keyOk kd e.1) = true) (hf : findM k es 0 = some (i, v))
 (h : opsQ P rq K (s.put dst (if ok then .tup [v, .bool true] else v))) : OpQ P (.lkp kd ok zero) [.mp bk, k] dst rq K s := by
 simp only [OpQ, zAf, zAb, Bool.false_eq_true, if_false, opWp]
 refine ⟨es, clock, h1, hk, ha, fun j x hx => ?_, fun hx => ?_⟩
 ·rw [hf] at hx; cases hx; exact ⟨by trivial, h⟩
 ·rw [hf] at hx; cases hx
end
set_option maxHeartbeats 4000000 in
theorem model_10 (LL PP DD : List D) (l : List Tri) (c : Nat) (m : KV) (h0 : MpOk l c m) (hll : m.length ≤ 1000000) (X x18 : D) (IT : Blk) (e0 ea eb ec : Int) (Q : Ex → St → Prop)
 (hQ : ∀ x3 x5 x6 x7 x9 x10 x11 x13 x14 x15 x16 x17 x18 x19 x20 IT, Q .ret ⟨[.slice LL .no, X, .ptr 0 0, .slice (strs (zAk m)) (.tok 0), .mp 1, x5, x6, x7, .slice (strs (ks m)) .no, x9, x10, x11, x3, x13, x14, x15, x16, x17, x18, x19, x20], [], ⟨[.cells [.int .i64 e0, .slice PP .no, .slice DD .no, .int .i64 ea, .int .i64 eb, .int .i64 ec], .map (entT l) c, IT], [.per 1 (2 * m.length)]⟩⟩) :
 SWp C16 (.seq (.seq (.reg r16_26) (.block 10 (.loop (.seq (.seq (.reg r16_27) (.cond (.v 20) .skip (.exit 10))) (.seq (.block 11 (.regD r16_28 r16_29)) (.reg r16_30)))))) (.seq (.reg r16_31) .ret)) Q ⟨[.slice LL .no, X, .ptr 0 0, .lit (.slice none 0 0), .mp 1, .u0, .u0, .u0, .slice (strs (ks m)) .no, .u0, .u0, .u0, .lit (.slice none 0 0), .u0, .u0, .u0, .u0, .ptr 2 0, x18, .u0, .u0], [], ⟨[.cells [.int .i64 e0, .slice PP .no, .slice DD .no, .int .i64 ea, .int .i64 eb, .int .i64 ec], .map (entT l) c, IT], []⟩⟩ := by
 have hE := fun β τ => zAl β τ l
 have hK : (strs (ks m)).length = m.length := by rw [zAi]; simp
 have hget : ∀ (j : Nat) (h : j < m.length), (strs (ks m)).getD j .u0 = .str m[j].1 := fun j h => by rw [zA8 (by simpa using h)]; simp
 have hfind : ∀ (j : Nat) (h : j < m.length), ∃ i, findM (.str m[j].1) (entT l) 0 = some (i, .str m[j].2) := fun j h => h0.some ((get_mem h0.so).2 (List.getElem_mem h))
 have hok := zCf l
 have hstep := fun k h => flat_step m (k := k) h
 have hTl := fun k h => flat_tlen m (k := k) h
 have hT0 : strs (zAk (m.take 0)) = [] := by simp [strs, zAk]
 have hTn : strs (zAk (m.take m.length)) = strs (zAk m) := by rw [List.take_length]
 obtain ⟨T, hT⟩ : ∃ T : Nat → List D, ∀ k, T k = strs (zAk (m.take k)) := ⟨_, fun _ => rfl⟩
 have hTc : ∀ k, D.cL (T k) = true := fun k => by rw [hT]; exact zAt _
 have hTr : ∀ k, D.erL (T k) = T k := fun k => by rw [hT]; exact zAz _
 have hTe : ∀ k, zAh 1 (T k) = true := fun k => by rw [hT]; exact zA2 _
 simp only [← hT] at hstep hTl hT0 hTn
 clear hT
 rw [← hTn] at hQ
 generalize strs (ks m) = K at *
 generalize entT l = E at *
 repeat' (first | with_reducible (apply swq; constructor) | simp only [go_sem, seval, P16, q16, zAm] | with_reducible intro _)
 refine zAu (weak_new 12 1 (by decide) false rfl) ?_
 refine zAp (C := C16) [0, 1, 2, 4, 8, 12, 13] (fun k : Nat => ⟨[.slice LL .no, X, .ptr 0 0, .u0, .mp 1, .u0, .u0, .u0, .slice K .no, .u0, .u0, .u0, .slice (T k) (.tok 0), .int .i64 k, .u0, .u0, .u0, .u0, .u0, .u0, .u0], [], ⟨[.cells [.int .i64 e0, .slice PP .no, .slice DD .no, .int .i64 ea, .int .i64 eb, .int .i64 ec], .map E c, IT], [.per 1 (2 * k)]⟩⟩)
  (fun k => k ≤ m.length) (fun k => m.length - k) 0 (Nat.zero_le _) ?_ ?_
 ·simp [keepE, St.keep, hT0]
 ·intro k hk
  have g4 := hTl k hk
  have g5 := hTe k
  have g6 := hTc k
  have g7 := hTr k
  by_cases hlt : k < m.length
  ·have g1 := hget k hlt
   obtain ⟨i, g2⟩ := hfind k hlt
   have g3 := hstep k hlt
   generalize m[k].1 = kx at *
   generalize m[k].2 = vx at *
   generalize hTk : T k = Tk at *
   have wQ := And.intro @hE (And.intro @hK (And.intro @g4 @hok)); repeat' (first | with_reducible (apply swq; constructor) | simp only [go_sem, seval, P16, q16, hK, g1, g4, g2, zAm] | simp (disch := omega) only [wA] | ((with_reducible apply zE4); (case he => rfl); (case hK | hc | hr | hV => exact sd wQ)) | ((with_reducible apply s_bsl); (case he | hl | hc => exact sd wQ)) | ((with_reducible apply t_lkpS); (case h1 | hk => rfl); (case ha | hf => first | rfl | assumption)) | (with_reducible (apply cdA; constructor)) | ((with_reducible refine And.intro ?hw ?_); (case hw => exact sw wQ)) | with_reducible intro _)
   all_goals try omega
   exact ⟨k + 1, by omega, by omega, by simp [keepE, St.keep, g3, Nat.mul_add]⟩
  ·have e : k = m.length := by omega
   subst e
   have wQ := @hE; repeat' (first | with_reducible (apply swq; constructor) | simp only [go_sem, seval, P16, q16, hK, zAm] | simp (disch := omega) only [wA] | (with_reducible (apply cdA; constructor)) | ((with_reducible refine And.intro ?hw ?_); (case hw => exact sw wQ)) | with_reducible intro _)
   all_goals try omega
   exact hQ _ _ _ _ _ _ _ _ _ _ _ _ _ _ _ _
theorem del_len (k : Tx) : ∀ m : KV, (delK k m).length ≤ m.length
 | [] => by simp [delK]
 | p :: r => by
   have := del_len k r
   rw [delK]
   split
   ·simp
   ·simp only [List.length_cons]; omega
theorem foldD_len : ∀ (drop : List Tx) (m : KV), (drop.foldl (fun m k => delK k m) m).length ≤ m.length
 | [], m => by simp
 | k :: drop, m => by
   have h1 := foldD_len drop (delK k m)
   have h2 := del_len k m
   simp only [List.foldl_cons]; omega
theorem apply_len (m put : KV) (drop : List Tx) : (zA6 m put drop).length ≤ m.length + put.length :=
 Nat.le_trans (foldD_len _ _) (zF2 _ _)
set_option maxHeartbeats 4000000 in
theorem model_p (m : KV) (hm : So (ks m)) (hml : m.length ≤ 500000) (o : OpR) (hp : o.put.length ≤ 500000) (hd : o.drop.length ≤ 1000000) :
 Pur M 16 [.slice (strs (zAk m)) .no, opD o] (.slice (strs (zAk (zA6 m o.put o.drop))) .no) := by
 refine k16.ow (C := C16) rfl rfl ?_
 rw [i16]
 unfold c16
 have hal := apply_len m o.put o.drop
 have hml2 : MpOk (mapT m).1 (mapT m).2 m := by have := zD6 m; rwa [ofL_id hm] at this
 have hX : ∀ β τ, (opD o).rn β τ = opD o := fun β τ => by simp [opD, D.rn, D.rnL, Own.rn]
 have hcl := zAt (zAk (zA6 m o.put o.drop))
 have her := zAz (zAk (zA6 m o.put o.drop))
 have e1 : (o.drop.foldl (fun m k => delK k m) (o.put.foldl (fun m p => insK p.1 p.2 m) m)) = zA6 m o.put o.drop := rfl
 have h0 := model_0 (strs (zAk m)) m rfl (by omega) (opD o)
 have h2 := fun x0 m1 h => model_2 (strs (zAk m)) (prs o.put) (strs o.drop) o.put m1 rfl (by omega) x0 h (opD o)
 have h4 := fun m1 l c h => model_4 (strs (zAk m)) (prs o.put) (strs o.drop) o.drop m1 rfl hd l c h (opD o)
 have h6 := fun l c hc hl => model_6 (strs (zAk m)) (prs o.put) (strs o.drop) l c (zA6 m o.put o.drop) hc hl (opD o)
 have h10 := fun l c hc => model_10 (strs (zAk m)) (prs o.put) (strs o.drop) l c (zA6 m o.put o.drop) hc (by omega) (opD o)
 generalize hB0 : RC.block 0 (.loop (.seq (.seq (.reg r16_3) (.cond (.v 14) .skip (.exit 0))) (.seq (.block 1 (.regD r16_4 r16_5)) (.reg r16_6)))) = B0 at *
 generalize hB2 : RC.block 2 (.loop (.seq (.seq (.reg r16_8) (.cond (.v 15) .skip (.exit 2))) (.seq (.block 3 (.regD r16_9 r16_10)) (.reg r16_11)))) = B2 at *
 generalize hB4 : RC.block 4 (.loop (.seq (.seq (.reg r16_13) (.cond (.v 16) .skip (.exit 4))) (.seq (.block 5 (.reg r16_14)) (.reg r16_15)))) = B4 at *
 generalize hB6 : RC.block 6 (.loop (.seq (.reg r16_18) (.seq (.cond (.v 18) .skip (.exit 6)) (.block 7 (.seq (.reg r16_19) (.seq (.reg r16_20) (.seq (.block 8 (.loop (.seq (.seq (.reg r16_21) (.cond (.v 19) .skip (.exit 8))) (.block 9 (.reg r16_22))))) (.seq (.reg r16_23) (.reg r16_24))))))))) = B6 at *
 generalize hB10 : RC.seq (.seq (.reg r16_26) (.block 10 (.loop (.seq (.seq (.reg r16_27) (.cond (.v 20) .skip (.exit 10))) (.seq (.block 11 (.regD r16_28 r16_29)) (.reg r16_30)))))) (.seq (.reg r16_31) .ret) = B10 at *
 unfold opD at *
 generalize hLL : strs (zAk m) = LL at *
 generalize prs o.put = PP at *
 generalize strs o.drop = DD at *
 repeat' (first | with_reducible (apply swq; constructor) | simp only [go_sem, seval, P16, q16, zAm] | with_reducible intro _)
 all_goals try omega
 refine h0 _ _ (fun x5 x14 => ?_)
 repeat' (first | with_reducible (apply swq; constructor) | simp only [go_sem, seval, P16, q16, zAm] | with_reducible intro _)
 all_goals try omega
 refine h2 _ _ hml2 _ _ _ _ _ _ _ (fun x5 x6 x14 x15 => ?_)
 have hm2 := mapF_ok o.put hml2
 repeat' (first | with_reducible (apply swq; constructor) | simp only [go_sem, seval, P16, q16, zAm] | with_reducible intro _)
 all_goals try omega
 refine h4 _ _ _ hm2 _ _ _ _ _ _ _ _ _ (fun l' hl' x5 x6 x7 x14 x15 x16 => ?_)
 rw [e1] at hl'
 have hll := hl'.len
 have h6 := h6 _ _ hl' (by omega)
 have h10 := h10 _ _ hl'
 have hso := apply_so (put := o.put) (drop := o.drop) hm
 repeat' (first | with_reducible (apply swq; constructor) | simp only [go_sem, seval, P16, q16, zAm] | ((with_reducible apply s_rngM); (case h1 => rfl)) | with_reducible intro _)
 all_goals try omega
 refine zAu (weak_nil 8 rfl) ?_
 refine h6 _ _ _ _ _ _ _ _ _ _ _ hX _ _ _ _ _ (fun K g1 g2 x18 IT => ?_)
 have hK := so_ext g1 hso g2
 subst hK
 repeat' (first | with_reducible (apply swq; constructor) | simp only [go_sem, seval, P16, q16, zAm] | with_reducible intro _)
 all_goals try omega
 refine h10 _ _ _ _ _ _ _ (fun _ _ _ _ _ _ _ _ _ _ _ _ _ _ _ _ => ⟨trivial, _, zAa, ?_, ?_⟩)
 ·simp [D.closed, hcl]
 ·simp [D.er, her]
end Go.Proofs.YtkobjnpmjngklaaGreatDoor
end
section
set_option maxRecDepth 100000
set_option linter.unusedSimpArgs false
set_option linter.unusedVariables false
namespace Go.Proofs.YtkobjnpmjngklaaGreatDoor
open Go
theorem head_w {n : Nat} {z a c : Nat} (h4 : 4 ≤ n) (h8 : n ≤ 8000) (ha : a < 2) (hc : c ≤ 8000) : ∀ g ∈ setW a c, g.1 + g.2.length ≤ n ∧ ∀ t ∈ g.2, t.length = 64 := by
 intro g hg
 simp only [setW, List.mem_cons, List.not_mem_nil, or_false] at hg
 rcases hg with rfl | rfl
 iterate 2
  ·refine ⟨by simp; omega, fun t ht => ?_⟩
   simp only [List.mem_singleton] at ht
   subst ht
   exact headT_len (by omega) (by omega)
theorem add_w {n z a c : Nat} (h4 : 4 ≤ n) (h8 : n ≤ 8000) (hz : z = (n - 2) / 2) (ha : a < 2) (t : Tx) (hc : c + cntK t ≤ z) : ∀ g ∈ addW z a c t, g.1 + g.2.length ≤ n ∧ ∀ t ∈ g.2, t.length = 64 := by
 intro g hg
 rw [addW] at hg
 rcases List.mem_cons.1 hg with rfl | hg
 ·refine ⟨?_, secK_64 _ _ fun x hx => (chK_el hx).2⟩
  show plc z a c + (secK (plc z a c) (chK t)).length ≤ n
  rw [zD1, zBp]
  unfold plc
  have : a = 0 ∨ a = 1 := by omega
  rcases this with h | h <;> subst h <;> omega
 ·refine head_w (z := z) h4 h8 ha ?_ g hg
  rw [zBp]; omega
theorem clr_w {n z a i : Nat} (h4 : 4 ≤ n) (hz : z = (n - 2) / 2) (ha : a < 2) (hi : i ≤ z) : ∀ g ∈ clrW z a i, g.1 + g.2.length ≤ n ∧ ∀ t ∈ g.2, t.length = 64 := by
 intro g hg
 simp only [clrW, List.mem_singleton] at hg
 subst hg
 refine ⟨?_, fun t ht => by rw [List.eq_of_mem_replicate ht]; simp⟩
 simp only [List.length_replicate]
 unfold plc
 have : a = 0 ∨ a = 1 := by omega
 rcases this with h | h <;> subst h <;> omega
theorem zCp (n : Nat) {S : Sx} (hS : SxOk S n) {s : Sto} (hs : StOk n s) (put : KV) (drop : List Tx) :
 ((zAo S s put drop).2.2 ≠ 0 ∧ zAo S s put drop = (S, s, (zAo S s put drop).2.2) ∧ ((zAo S s put drop).2.2 = 6 ∨ (zAo S s put drop).2.2 = zA9 put drop)) ∨
 ((zAo S s put drop).2.2 = 0 ∧ zA9 put drop = 0 ∧ SxOk (zAo S s put drop).1 n ∧ StOk n (zAo S s put drop).2.1 ∧ (zAo S s put drop).2.1.kv = zA6 s.kv put (setT drop)) := by
 unfold zAo
 by_cases h1 : zA9 put drop ≠ 0
 ·rw [if_pos h1]
  exact .inl ⟨h1, rfl, .inr rfl⟩
 ·rw [if_neg h1]
  have h1 : zA9 put drop = 0 := by simpa using h1
  by_cases h2 : put.length + (setT drop).length = 0
  ·rw [if_pos h2]
   have e1 : put = [] := List.length_eq_zero_iff.1 (by omega)
   have e2 : setT drop = [] := List.length_eq_zero_iff.1 (by omega)
   refine .inr ⟨rfl, h1, hS, hs, ?_⟩
   rw [e1, e2]; rfl
  ·rw [if_neg h2]
   by_cases h3 : s.size - s.count < cntK (textK put (setT drop))
   ·rw [if_pos h3]
    exact .inl ⟨show (6 : Int) ≠ 0 by decide, rfl, .inl rfl⟩
   ·rw [if_neg h3]
    have := hs.ct
    refine .inr ⟨rfl, h1, goW_ok _ hS (add_w hs.n4 hs.n8 hs.sz hs.ar _ (by omega)), ⟨hs.n4, hs.n8, hs.sz, hs.ar, ?_⟩, rfl⟩
    show s.count + (chK _).length ≤ s.size
    rw [zBp]; omega
theorem comp_w {n z a : Nat} (h4 : 4 ≤ n) (h8 : n ≤ 8000) (hz : z = (n - 2) / 2) (ha : a < 2) (t : Tx) (hc : cntK t ≤ z) : ∀ g ∈ compW z a t, g.1 + g.2.length ≤ n ∧ ∀ t ∈ g.2, t.length = 64 := by
 have hr : ∀ a, a < 2 → ∀ g ∈ zCr z a t, g.1 + g.2.length ≤ n ∧ ∀ t ∈ g.2, t.length = 64 := fun a ha g hg => by
  rcases List.mem_append.1 hg with q | q
  ·exact add_w h4 h8 hz (by omega) t (by omega) g q
  ·exact clr_w h4 hz ha (Nat.zero_le _) g q
 intro g hg
 rw [compW] at hg
 rcases List.mem_append.1 hg with q | q
 ·split at q
  ·exact hr 1 (by decide) g q
  ·rcases List.mem_append.1 q with r | r
   ·exact hr a ha g r
   ·exact hr 1 (by decide) g r
 ·exact clr_w h4 hz (by decide) (by rw [zBp]; exact hc) g q
theorem zF7 (n : Nat) {S : Sx} (hS : SxOk S n) {s : Sto} (hs : StOk n s) :
 zBr S s = (S, s, 6) ∨ ((zBr S s).2.2 = 0 ∧ SxOk (zBr S s).1 n ∧ StOk n (zBr S s).2.1 ∧ (zBr S s).2.1.kv = s.kv) := by
 unfold zBr
 by_cases h : s.size < cntK (zDh s.kv)
 ·rw [if_pos h]; exact .inl rfl
 ·rw [if_neg h]
  exact .inr ⟨rfl, goW_ok _ hS (comp_w hs.n4 hs.n8 hs.sz hs.ar _ (by omega)), ⟨hs.n4, hs.n8, hs.sz, show (0 : Nat) < 2 by decide, by show (chK _).length ≤ s.size; rw [zBp]; omega⟩, rfl⟩
def hS0 : Sx := newS 20
def hs0 : Sto := ⟨9, 0, 0, []⟩
def hA : Sx × Sto × Int := zAo hS0 hs0 [([97], [49]), ([98], [50])] []
def hB : Sx × Sto × Int := zAo hA.1 hA.2.1 [] [[97]]
def hF : Sx × Sto × Int := zAo hB.1 hB.2.1 [([99], zr 500)] []
def hC : Sx × Sto × Int := zBr hB.1 hB.2.1
def hU : Sx × Sto × Int := zAo hS0 hs0 [([98], [50])] []
def hV : Sx × Sto × Int := zBr hU.1 hU.2.1
theorem ex_A : hA.2.2 = 0 ∧ hB.2.2 = 0 ∧ hC.2.2 = 0 ∧ hU.2.2 = 0 ∧ hV.2.2 = 0 := by decide +kernel
theorem ex_F : hF.2.2 = 6 := by decide +kernel
theorem ex_kv : hB.2.1.kv = [([98], [50])] ∧ hC.2.1.kv = [([98], [50])] := by decide +kernel
theorem ex_head : zEj hC.1 9 = some (0, 1) := by decide +kernel
theorem ex_load : loadK hC.1 9 0 1 = some [([98], [50])] := by decide +kernel
theorem ex_rest : rest2 hC.1 (some (0, 1)) = hC.1 := by decide +kernel
theorem ex_raw : hC.1.flatten = hV.1.flatten := by decide +kernel
theorem ex_len : hC.1.flatten.length = 1280 := by decide +kernel
theorem ex_big : zA9 [([99], zr 20001)] [] = 7 := by
 simp [zA9, keyK]
end Go.Proofs.YtkobjnpmjngklaaGreatDoor
end
section
set_option maxRecDepth 100000
set_option linter.unusedSimpArgs false
set_option linter.unusedVariables false
namespace Go.Proofs.YtkobjnpmjngklaaGreatDoor
open Go GoV
def OpRs (n : Nat) (S : Sx) (s : Sto) (d : D) (h : Hp) : Prop := d = .tup [.ptr 3 0, .int .i64 0] ∧ ∃ l c, h = ⟨[dkB 1 n [] false, byB S, .map (entT l) c, opB s.size s.area s.count], []⟩ ∧ MpOk l c s.kv
theorem new_sec {n i : Nat} (h : i < n) : secAt (newS n) i = zr 64 := by
 simp [secAt, newS, List.getD_eq_getElem?_getD, List.getElem?_replicate, h]
theorem zr_pos (z p : Nat) : posK z p (zr 64) = none := by
 have : atK (((zr 64).take 24).drop 16) = none := by decide +kernel
 rw [posK, this]
theorem new_head {n : Nat} (h : 4 ≤ n) : zEj (newS n) ((n - 2) / 2) = none := by
 rw [zEj, new_sec (by omega), new_sec (by omega), zr_pos, zr_pos]
theorem new_rest {n : Nat} (h : 4 ≤ n) : rest2 (newS n) none = newS n := by
 have h1 : restW (newS n) 1 none = [] := by rw [restW, new_sec (by omega)]; exact if_pos rfl
 have h0 : restW (newS n) 0 none = [] := by rw [restW, new_sec (by omega)]; exact if_pos rfl
 have e : rest1 (newS n) none = newS n := by rw [rest1, h1]; rfl
 rw [rest2, e, h0]; rfl
theorem open_new (n : Nat) (h4 : 4 ≤ n) (hn : n ≤ 8000) : Eff M 12 [.ptr 0 0] ⟨[dkB 1 n [] false, byB (newS n)], []⟩ (OpRs n (newS n) ⟨(n - 2) / 2, 0, 0, []⟩) := by
 have hl : loadK (newS n) ((n - 2) / 2) 0 0 = some [] := rfl
 have := open_ok n h4 hn (newS n) (newS_ok n) none (new_head h4) ⟨by decide, Nat.zero_le _⟩ [] hl (fun _ => new_sec (by omega))
 rw [new_rest h4] at this
 exact this
theorem new_st {n : Nat} (h4 : 4 ≤ n) (hn : n ≤ 8000) : StOk n ⟨(n - 2) / 2, 0, 0, []⟩ := ⟨h4, hn, rfl, show (0 : Nat) < 2 by decide, Nat.zero_le _⟩
theorem put_1 (k v : Tx) : putM [] 0 (.str k) (.str v) = .map (entT (mapT [(k, v)]).1) (mapT [(k, v)]).2 := (zFe (x := ([], 0)) (m := []) mp_nil (k, v)).1
theorem put_2 (p : Tx × Tx) (k v : Tx) : putM (entT (mapT [p]).1) (mapT [p]).2 (.str k) (.str v) = .map (entT (mapT [p, (k, v)]).1) (mapT [p, (k, v)]).2 := (zFe (zD6 [p]) (k, v)).1
theorem bd_small {put : KV} (h : (put.all fun p => decide (p.1.length ≤ 1000000 ∧ p.2.length ≤ 1000000)) = true) : ∀ p ∈ put, p.1.length ≤ 1000000 ∧ p.2.length ≤ 1000000 := fun p hp => by
 simpa using List.all_eq_true.1 h p hp
theorem ex_kvU : hU.2.1.kv = [([98], [50])] := by decide +kernel
theorem hs0_ok : StOk 20 hs0 := new_st (n := 20) (by decide) (by decide)
theorem hA_ok : SxOk hA.1 20 ∧ StOk 20 hA.2.1 := by
 rcases zCp 20 (newS_ok 20) hs0_ok [([97], [49]), ([98], [50])] [] with h | h
 ·exact absurd ex_A.1 h.1
 ·exact ⟨h.2.2.1, h.2.2.2.1⟩
theorem hB_ok : SxOk hB.1 20 ∧ StOk 20 hB.2.1 := by
 rcases zCp 20 hA_ok.1 hA_ok.2 [] [[97]] with h | h
 ·exact absurd ex_A.2.1 h.1
 ·exact ⟨h.2.2.1, h.2.2.2.1⟩
theorem hC_ok : SxOk hC.1 20 ∧ StOk 20 hC.2.1 := by
 rcases zF7 20 hB_ok.1 hB_ok.2 with h | h
 ·have := ex_A.2.2.1
  rw [hC, h] at this
  exact absurd this (show (6 : Int) ≠ 0 by decide)
 ·exact ⟨h.2.1, h.2.2.1⟩
theorem hU_ok : SxOk hU.1 20 ∧ StOk 20 hU.2.1 := by
 rcases zCp 20 (newS_ok 20) hs0_ok [([98], [50])] [] with h | h
 ·exact absurd ex_A.2.2.2.1 h.1
 ·exact ⟨h.2.2.1, h.2.2.2.1⟩
theorem hV_ok : SxOk hV.1 20 := by
 rcases zF7 20 hU_ok.1 hU_ok.2 with h | h
 ·have := ex_A.2.2.2.2
  rw [hV, h] at this
  exact absurd this (show (6 : Int) ≠ 0 by decide)
 ·exact h.2.1
theorem s_b2z {P : Mod} {dst : Dst} {r : List RO} {K : St → Prop} {s : St} {b k : Nat} {Z : Tx} (hB : s.hp.H[b]? = some (.cells (bys Z))) (hk : Z.length = k) (h : opsWp P r K (s.put dst (.str Z))) : OpS P .b2s [.sl b 1 0 k k] dst r K s := by
 refine s_b2s rfl (elems_sec hB (by omega) (Nat.le_refl _)) (zF8 _) ?_
 rw [List.drop_zero, List.take_of_length_le (by omega)]
 exact h
theorem commit_m (n : Nat) (S : Sx) (hS : SxOk S n) (s : Sto) (hs : StOk n s) {l : List Tri} {c : Nat} (hm : MpOk l c s.kv) {lp : List Tri} {cp : Nat} {put : KV} (hp : MpOk lp cp put) (hpb : ∀ p ∈ put, p.1.length ≤ 1000000 ∧ p.2.length ≤ 1000000) (hpl : put.length ≤ 1000000) :
 Eff M 14 [.ptr 0 0, .mp 4, .lit (.slice none 0 0)] ⟨(hpS n S s l c).H ++ [.map (entT lp) cp], []⟩ (CmR n (zAo S s put []) [.map (entT lp) cp]) :=
 eff_args (commit_e n S hS s hs hm hp hpb hpl [] (by simp) (by simp)) rfl
theorem rel_own {w : World} {g : Gh} {es : List D} {o : GoV.Own} {x : Value} (h : Rel w g (.slice es o) x) : Rel w g (.slice es .no) x := by
 simp only [Rel] at h ⊢
 obtain ⟨b, cap, k, ys, h1, h2, h3, h4, h5, h6⟩ := h
 exact ⟨b, cap, k, ys, h1, h2, h3, h4, h5, trivial⟩
theorem eff_own3 {M : Mod} {f : FuncId} {a b : D} {es : List D} (o : GoV.Own) {hp : Hp} {R : D → Hp → Prop} (h : Eff M f [a, b, .slice es .no] hp R) : Eff M f [a, b, .slice es o] hp R :=
 ⟨h.1, fun w g xs hA hh hr => h.2 w g xs hA hh (by
  obtain ⟨x, xs, rfl, h1, hr⟩ := hr.inv
  obtain ⟨y, ys, rfl, h2, hr⟩ := hr.inv
  obtain ⟨z, zs, rfl, h3, hr⟩ := hr.inv
  exact RelL.cons h1 (RelL.cons h2 (RelL.cons (rel_own h3) hr)))⟩
theorem ofL_1 (k v : Tx) : ofL [(k, v)] = [(k, v)] := rfl
set_option maxHeartbeats 8000000 in
theorem head_p : Pur M 10 [] (.bool true) := by
 refine k10.ow (C := C10) rfl rfl ?_
 rw [i10]
 unfold c10
 have k13 := new_p 20 (by decide) (by decide)
 have k12 := open_new 20 (by decide) (by decide)
 have kA := fun l c (hm : MpOk l c hs0.kv) => commit_m 20 hS0 (newS_ok 20) hs0 hs0_ok hm (zD6 [([97], [49]), ([98], [50])]) (bd_small (by decide +kernel)) (by decide +kernel)
 have kB := fun l c (hm : MpOk l c hA.2.1.kv) => eff_own3 .full (commit_z 20 hA.1 hA_ok.1 hA.2.1 hA_ok.2 hm [[97]] (by decide) (by decide))
 have kG := fun l c (hm : MpOk l c hB.2.1.kv) => get_s 20 hB.1 hB.2.1 hm [97]
 have kH := fun l c (hm : MpOk l c hB.2.1.kv) => get_s 20 hB.1 hB.2.1 hm [98]
 have kO := one_p [99] (zr 20001)
 have kP := one_p [99] (zr 500)
 have kR := one_p [98] [50]
 have kD := fun l c (hm : MpOk l c hB.2.1.kv) => commit_m 20 hB.1 hB_ok.1 hB.2.1 hB_ok.2 hm (zD6 [([99], zr 20001)]) (by rw [ofL_1]; simp) (by rw [ofL_1]; simp)
 have kE := fun l c (hm : MpOk l c hB.2.1.kv) => commit_m 20 hB.1 hB_ok.1 hB.2.1 hB_ok.2 hm (zD6 [([99], zr 500)]) (by rw [ofL_1]; simp) (by rw [ofL_1]; simp)
 have kC := fun l c (hm : MpOk l c hB.2.1.kv) => compact_s 20 hB.1 hB_ok.1 hB.2.1 hB_ok.2 hm (by rw [ex_kv.1]; simp) (by rw [ex_kv.1]; simp)
 have kW := raw_p 20 (by decide) hC.1 hC_ok.1
 have kI := open_ok 20 (by decide) (by decide) hC.1 hC_ok.1 (some (0, 1)) ex_head (by decide) [([98], [50])] ex_load (by simp)
 have kU := fun l c (hm : MpOk l c hs0.kv) => commit_m 20 hS0 (newS_ok 20) hs0 hs0_ok hm (zD6 [([98], [50])]) (by rw [ofL_1]; simp) (by rw [ofL_1]; simp)
 have kV := fun l c (hm : MpOk l c hU.2.1.kv) => compact_s 20 hU.1 hU_ok.1 hU.2.1 hU_ok.2 hm (by rw [ex_kvU]; simp) (by rw [ex_kvU]; simp)
 have kX := raw_p 20 (by decide) hV.1 hV_ok
 have kK := fun l c (hm : MpOk l c [([98], [50])]) => keysS_s 20 hC.1 ⟨9, 0, 1, [([98], [50])]⟩ hm (by simp) (by simp)
 have kS : Pur M 17 [.slice [.str [98]] .no, .slice [.str [98]] .no] (.bool true) := same_p [[98]] [[98]] (by simp)
 have kK : ∀ l c (hm : MpOk l c [([98], [50])]), Eff M 19 [.ptr 0 0] (hpS 20 hC.1 ⟨9, 0, 1, [([98], [50])]⟩ l c) fun d hp => d = .slice [.str [98]] .no ∧ hp = hpS 20 hC.1 ⟨9, 0, 1, [([98], [50])]⟩ l c := kK
 simp only [Option.getD_some] at kI
 have oA : ofL [([97], [49]), ([98], [50])] = [([97], [49]), ([98], [50])] := by decide +kernel
 rw [oA] at kA
 simp only [ofL_1] at kD kE kU
 have rD : zAo hB.1 hB.2.1 [([99], zr 20001)] [] = (hB.1, hB.2.1, 7) := by
  unfold zAo
  rw [if_pos (by rw [ex_big]; decide), ex_big]
 have rE : zAo hB.1 hB.2.1 [([99], zr 500)] [] = (hB.1, hB.2.1, 6) := by
  rcases zCp 20 hB_ok.1 hB_ok.2 [([99], zr 500)] [] with h | h
  ·rw [h.2.1, show (zAo hB.1 hB.2.1 [([99], zr 500)] []).2.2 = 6 from ex_F]
  ·exact absurd (ex_F.symm.trans h.1) (by decide)
 rw [rD] at kD
 rw [rE] at kE
 rw [ex_rest] at kI
 rw [show zAo hS0 hs0 [([97], [49]), ([98], [50])] [] = hA from rfl] at kA
 rw [show zAo hA.1 hA.2.1 [] [[97]] = hB from rfl] at kB
 rw [show zBr hB.1 hB.2.1 = hC from rfl] at kC
 rw [show zAo hS0 hs0 [([98], [50])] [] = hU from rfl] at kU
 rw [show zBr hU.1 hU.2.1 = hV from rfl] at kV
 have g1 : getK [97] hB.2.1.kv = none := by rw [ex_kv.1]; rfl
 have g2 : getK [98] hB.2.1.kv = some [50] := by rw [ex_kv.1]; rfl
 rw [g1] at kG
 rw [g2] at kH
 simp only [Option.getD_none, Option.isSome_none, Option.getD_some, Option.isSome_some] at kG kH
 rw [← ex_raw] at kX
 have hRF : (hC.1.flatten == hC.1.flatten) = true := beq_self_eq_true _
 have hRL := ex_len
 have h50 : (([50] : Tx) == [50]) = true := rfl
 have hE := zAl
 have hB0 := fun β τ => zAj β τ hS0.flatten
 have hB1 := fun β τ => zAj β τ hA.1.flatten
 have hB2 := fun β τ => zAj β τ hB.1.flatten
 have hB3 := fun β τ => zAj β τ hC.1.flatten
 have hB4 := fun β τ => zAj β τ hU.1.flatten
 have hB5 := fun β τ => zAj β τ hV.1.flatten
 have p1 := put_1 [97] [49]
 have p2 := put_2 ([97], [49]) [98] [50]
 have o1 := zCf (mapT [([97], [49])]).1
 have o0 := zCf []
 have z1 := zFl 20001
 have z2 := zFl 500
 have hbr := zAj
 have hz1 : (zr 20001).length = 20001 := zr_len _
 have hz2 : (zr 500).length = 500 := zr_len _
 have t1 : Int.toNat 20001 = 20001 := rfl
 have t2 : Int.toNat 500 = 500 := rfl
 unfold OpRs at k12
 unfold CmR at kA kB kD kE kU
 simp only [ex_A.1, ex_A.2.1, ex_A.2.2.1, ex_A.2.2.2.1, ex_A.2.2.2.2] at kA kB kC kU kV
 unfold hpS stB dkB byB at *
 unfold opB at *
 simp only [queD, hs0, List.append_nil, List.cons_append, List.nil_append] at *
 rw [show hS0 = newS 20 from rfl] at hB0 kA kU
 simp only [Nat.reduceMul, Nat.reduceSub, Nat.reduceDiv] at *
 generalize bys (newS 20).flatten = Y0 at *
 generalize bys hA.1.flatten = YA at *
 generalize bys hB.1.flatten = YB at *
 generalize bys hC.1.flatten = YC at *
 generalize bys hU.1.flatten = YU at *
 generalize bys hV.1.flatten = YV at *
 generalize hA.2.1.size = zA at *
 generalize hA.2.1.area = aA at *
 generalize hA.2.1.count = nA at *
 generalize hA.2.1.kv = mA at *
 generalize hB.2.1.size = zB at *
 generalize hB.2.1.area = aB at *
 generalize hB.2.1.count = nB at *
 generalize hB.2.1.kv = mB at *
 generalize hC.2.1.size = zC at *
 generalize hC.2.1.area = aC at *
 generalize hC.2.1.count = nC at *
 generalize hC.2.1.kv = mC at *
 generalize hU.2.1.size = zU at *
 generalize hU.2.1.area = aU at *
 generalize hU.2.1.count = nU at *
 generalize hU.2.1.kv = mU at *
 generalize hV.2.1.size = zV at *
 generalize hV.2.1.area = aV at *
 generalize hV.2.1.count = nV at *
 generalize hV.2.1.kv = mV at *
 generalize hC.1.flatten = RF at *
 generalize zr 20001 = Z1 at *
 generalize zr 500 = Z2 at *
 have wQ := And.intro @hE (And.intro @hB0 (And.intro @hB1 (And.intro @hB2 (And.intro @hB3 (And.intro @hB4 @hB5))))); repeat' (first | with_reducible (apply swq; constructor) | simp only [go_sem, seval, P10, pe10, q10, p1, p2, o0, o1, zAm] | simp (disch := omega) only [wA] | ((with_reducible refine o_eff [] [] (k13) ?hs ?he ?hh ?_); (case hs => exact so); (case he | hh => exact sh wQ); rintro _ _ ⟨rfl, rfl⟩) | ((with_reducible refine o_eff [0, 1] [] (k12) ?hs ?he ?hh ?_); (case hs => exact so); (case he | hh => exact sh wQ); rintro _ _ ⟨rfl, l0, c0, rfl, m0⟩) | ((with_reducible refine o_eff [3, 2, 0, 1, 4] [] ((kA _ _ m0)) ?hs ?he ?hh ?_); (case hs => exact so); (case he | hh => exact sh wQ); rintro _ _ ⟨rfl, l1, c1, rfl, m1⟩) | ((with_reducible refine o_eff [3, 2, 0, 1] [] ((kB _ _ m1)) ?hs ?he ?hh ?_); (case hs => exact so); (case he | hh => exact sh wQ); rintro _ _ ⟨rfl, l2, c2, rfl, m2⟩) | ((with_reducible refine o_eff [3, 2, 0, 1] [] ((kG _ _ m2)) ?hs ?he ?hh ?_); (case hs => exact so); (case he | hh => exact sh wQ); rintro _ _ ⟨rfl, rfl⟩) | ((with_reducible refine o_eff [3, 2, 0, 1] [] ((kH _ _ m2)) ?hs ?he ?hh ?_); (case hs => exact so); (case he | hh => exact sh wQ); rintro _ _ ⟨rfl, rfl⟩) | ((with_reducible apply s_bsl); (case he | hl | hc => exact sd wQ)) | ((with_reducible apply s_mks); (case h0 | h1 | h2 => exact sd wQ)) | ((with_reducible apply s_mpu); (case h1 | hk => rfl); (case ha | hp => first | rfl | assumption)) | with_reducible intro _)
 all_goals try omega
 rw [t1, z1]
 repeat' (first | with_reducible (apply swq; constructor) | simp only [go_sem, seval, P10, pe10, q10, zAm] | with_reducible intro _)
 refine s_b2z rfl hz1 ?_
 have wQ := And.intro @hE (And.intro @hB0 (And.intro @hB1 (And.intro @hB2 (And.intro @hB3 (And.intro @hB4 @hB5))))); repeat' (first | with_reducible (apply swq; constructor) | simp only [go_sem, seval, P10, pe10, q10, t2, z2, zAm] | ((with_reducible refine o_eff [] [] (kO) ?hs ?he ?hh ?_); (case hs => exact so); (case he | hh => exact sh wQ); rintro _ _ ⟨rfl, rfl⟩) | ((with_reducible refine o_eff [3, 2, 0, 1, 6] [] ((kD _ _ m2)) ?hs ?he ?hh ?_); (case hs => exact so); (case he | hh => exact sh wQ); rintro _ _ ⟨rfl, l3, c3, rfl, m3⟩) | ((with_reducible apply s_mks); (case h0 | h1 | h2 => exact sd wQ)) | with_reducible intro _)
 all_goals try omega
 refine s_b2z rfl hz2 ?_
 have wQ := And.intro @hE (And.intro @hB0 (And.intro @hB1 (And.intro @hB2 (And.intro @hB3 (And.intro @hB4 @hB5))))); repeat' (first | with_reducible (apply swq; constructor) | simp only [go_sem, seval, P10, pe10, q10, hRF, hRL, h50, zAm] | ((with_reducible refine o_eff [] [] (kP) ?hs ?he ?hh ?_); (case hs => exact so); (case he | hh => exact sh wQ); rintro _ _ ⟨rfl, rfl⟩) | ((with_reducible refine o_eff [3, 2, 0, 1, 8] [] ((kE _ _ m3)) ?hs ?he ?hh ?_); (case hs => exact so); (case he | hh => exact sh wQ); rintro _ _ ⟨rfl, l4, c4, rfl, m4⟩) | ((with_reducible refine o_eff [3, 2, 0, 1] [] ((kC _ _ m4)) ?hs ?he ?hh ?_); (case hs => exact so); (case he | hh => exact sh wQ); rintro _ _ ⟨rfl, rfl⟩) | ((with_reducible refine o_eff [0, 1] [] (kW) ?hs ?he ?hh ?_); (case hs => exact so); (case he | hh => exact sh wQ); rintro _ _ ⟨rfl, rfl⟩) | ((with_reducible refine o_eff [0, 1] [] (kI) ?hs ?he ?hh ?_); (case hs => exact so); (case he | hh => exact sh wQ); rintro _ _ ⟨rfl, l5, c5, rfl, m5⟩) | ((with_reducible refine o_eff [] [] (k13) ?hs ?he ?hh ?_); (case hs => exact so); (case he | hh => exact sh wQ); rintro _ _ ⟨rfl, rfl⟩) | ((with_reducible refine o_eff [11, 12] [] (k12) ?hs ?he ?hh ?_); (case hs => exact so); (case he | hh => exact sh wQ); rintro _ _ ⟨rfl, l6, c6, rfl, m6⟩) | ((with_reducible refine o_eff [] [] (kR) ?hs ?he ?hh ?_); (case hs => exact so); (case he | hh => exact sh wQ); rintro _ _ ⟨rfl, rfl⟩) | ((with_reducible refine o_eff [14, 13, 11, 12, 15] [] ((kU _ _ m6)) ?hs ?he ?hh ?_); (case hs => exact so); (case he | hh => exact sh wQ); rintro _ _ ⟨rfl, l7, c7, rfl, m7⟩) | ((with_reducible refine o_eff [14, 13, 11, 12] [] ((kV _ _ m7)) ?hs ?he ?hh ?_); (case hs => exact so); (case he | hh => exact sh wQ); rintro _ _ ⟨rfl, rfl⟩) | ((with_reducible refine o_eff [10, 9, 0, 1] [] ((kK _ _ m5)) ?hs ?he ?hh ?_); (case hs => exact so); (case he | hh => exact sh wQ); rintro _ _ ⟨rfl, rfl⟩) | ((with_reducible refine zAc (kS) ?he ?hc ?_); (case he | hc => exact sc wQ)) | ((with_reducible refine o_eff [11, 12] [] (kX) ?hs ?he ?hh ?_); (case hs => exact so); (case he | hh => exact sh wQ); rintro _ _ ⟨rfl, rfl⟩) | ((with_reducible apply s_bsl); (case he | hl | hc => exact sd wQ)) | with_reducible intro _)
 all_goals try omega
 exact ⟨_, zAa, rfl, rfl⟩
end Go.Proofs.YtkobjnpmjngklaaGreatDoor
end
section
set_option maxRecDepth 100000
set_option linter.unusedSimpArgs false
set_option linter.unusedVariables false
namespace Go.Proofs.YtkobjnpmjngklaaGreatDoor
open Go GoV
theorem ofL_sub (l : KV) : ∀ p ∈ ofL l, p ∈ l := by
 refine rev_ind (P := fun l => ∀ p ∈ ofL l, p ∈ l) (by simp [ofL]) (fun l a ih p hp => ?_) l
 have e : ofL (l ++ [a]) = insK a.1 a.2 (ofL l) := by simp [ofL]
 rw [e, zCy (zFv l)] at hp
 rcases hp with h | h
 ·simp [h]
 ·simp [ih p h.2]
theorem ofL_len (l : KV) : (ofL l).length ≤ l.length := by have := zF2 l []; simpa [ofL] using this
def KvB (i : Nat) (m : KV) : Prop := m.length ≤ 6 * i ∧ ∀ p ∈ m, p.1.length + p.2.length ≤ 600
theorem wrong_vals {put : KV} {drop : List Tx} (h : ∀ p ∈ put, p.2.length ≤ 20000) : zA9 put drop = 0 ∨ zA9 put drop = 1 := by
 unfold zA9
 split
 ·left
  rw [if_neg]
  simp only [List.any_eq_true, decide_eq_true_eq, not_exists, not_and]
  intro p hp
  have := h p hp
  omega
 ·exact .inr rfl
theorem apply_b {i : Nat} {m put : KV} {drop : List Tx} (hm : So (ks m)) (h : KvB i m) (hp : put.length ≤ 6) (hpb : ∀ p ∈ put, p.1.length + p.2.length ≤ 600) : KvB (i + 1) (zA6 m put drop) := by
 refine ⟨by have := apply_len m put drop; have := h.1; omega, fun p hq => ?_⟩
 rw [← apply_ofL hm, zF9 hm (zC2 (zFv put))] at hq
 rcases hq.2 with q | q
 ·exact hpb p (ofL_sub put p q)
 ·exact h.2 p q.2
theorem apply_same {m put : KV} {drop : List Tx} (hm : So (ks m)) : zA6 m (ofL put) (setT drop) = zA6 m put drop := by
 rw [apply_set hm (zC2 (zFv put)), apply_ofL hm]
theorem so_lt : ∀ {l : List Tx} {i : Nat} (h : i + 1 < l.length), So l → lt (l[i]'(by omega)) l[i + 1] = true
 | a :: l, 0, h, hs => hs.1 _ (List.getElem_mem (by simpa using h))
 | a :: l, i + 1, h, hs => so_lt (l := l) (i := i) (by simpa using h) hs.2
theorem cl_prs : ∀ l : KV, D.cL (prs l) = true
 | [] => rfl
 | p :: l => by
   have := cl_prs l
   simp only [prs, List.map_cons, D.cL, pairD, D.closed, Bool.true_and] at this ⊢
   exact this
theorem er_prs : ∀ l : KV, D.erL (prs l) = prs l
 | [] => rfl
 | p :: l => by
   have := er_prs l
   simp only [prs, List.map_cons, D.erL, pairD, D.er] at this ⊢
   rw [this]
theorem cl_ops : ∀ l : List OpR, D.cL (ops l) = true
 | [] => rfl
 | o :: l => by
   have := cl_ops l
   simp only [ops, List.map_cons, D.cL, opD, D.closed, cl_prs, zAt, Bool.true_and] at this ⊢
   exact this
theorem er_ops : ∀ l : List OpR, D.erL (ops l) = ops l
 | [] => rfl
 | o :: l => by
   have := er_ops l
   simp only [ops, List.map_cons, D.erL, opD, D.er] at this ⊢
   rw [this]
theorem few_o {o : OpR} (h : OpFew o) : o.put.length ≤ 6 ∧ o.drop.length ≤ 6 ∧ (∀ p ∈ o.put, p.1.length + p.2.length ≤ 600) ∧ ∀ k ∈ o.drop, k.length ≤ 600 := ⟨h.1.1, h.1.2, h.2.1, h.2.2⟩
theorem commit_o (n : Nat) (S : Sx) (hS : SxOk S n) (s : Sto) (hs : StOk n s) {l : List Tri} {c : Nat} (hm : MpOk l c s.kv) {o : OpR} (ho : OpFew o) :
 Eff M 14 [.ptr 0 0, .mp 4, .slice (strs o.drop) .no] ⟨(hpS n S s l c).H ++ [.map (entT (mapT o.put).1) (mapT o.put).2], []⟩ (CmR n (zAo S s (ofL o.put) o.drop) [.map (entT (mapT o.put).1) (mapT o.put).2]) := by
 obtain ⟨h1, h2, h3, h4⟩ := few_o ho
 have := ofL_len o.put
 exact commit_e n S hS s hs hm (zD6 o.put) (fun p hp => by have := h3 p (ofL_sub _ p hp); omega) (by omega) o.drop (by omega) (fun k hk => by have := h4 k hk; omega)
theorem commit_oc (n : Nat) {S : Sx} (hS : SxOk S n) {s : Sto} (hs : StOk n s) (hso : So (ks s.kv)) {o : OpR} (ho : OpFew o) {i : Nat} (hk : KvB i s.kv) :
 (∃ f : Int, (f = 1 ∨ f = 6) ∧ zAo S s (ofL o.put) o.drop = (S, s, f)) ∨
 ∃ S' s', zAo S s (ofL o.put) o.drop = (S', s', 0) ∧ SxOk S' n ∧ StOk n s' ∧ s'.kv = zA6 s.kv o.put o.drop := by
 obtain ⟨h1, h2, h3, h4⟩ := few_o ho
 have hv := wrong_vals (put := ofL o.put) (drop := o.drop) fun p hp => by have := h3 p (ofL_sub _ p hp); omega
 rcases zCp n hS hs (ofL o.put) o.drop with ⟨g1, g2, g3⟩ | ⟨g1, g2, g3, g4, g5⟩
 ·refine .inl ⟨_, ?_, g2⟩
  rcases g3 with q | q
  ·exact .inr q
  ·rcases hv with r | r
   ·exact absurd (q.trans r) g1
   ·exact .inl (q.trans r)
 ·refine .inr ⟨_, _, ?_, g3, g4, ?_⟩
  ·rw [← g1]
  ·rw [g5, apply_same hso]
set_option maxHeartbeats 2000000 in
theorem reg_3 (n : Nat) (S : Sx) (hS : SxOk S n) (s : Sto) (hs : StOk n s) {l : List Tri} {c : Nat} (hm : MpOk l c s.kv) {o : OpR} (ho : OpFew o)
 (L : List D) (i : Nat) (k1 : L.getD i .u0 = .agg [.int .i64 o.kind, .slice (prs o.put) .no, .slice (strs o.drop) .no, .int .i64 o.a, .int .i64 o.b, .int .i64 o.c]) (hi : i < L.length)
 (x0 x2 x3 x5 x6 x8 x9 x10 x11 x12 x13 x14 x15 x16 x17 : D) (Q : Ex → St → Prop)
 (hQ : ∀ l' c', MpOk l' c' (zAo S s (ofL o.put) o.drop).2.1.kv → Q .normal ⟨[x0, .slice L .no, x2, x3, .ptr 0 0, x5, x6, .int .i64 i, .int .i64 (zAo S s (ofL o.put) o.drop).2.2, x9, x10, x11, x12, x13, x14, x15, x16, x17], [], ⟨(hpS n (zAo S s (ofL o.put) o.drop).1 (zAo S s (ofL o.put) o.drop).2.1 l' c').H ++ [.map (entT (mapT o.put).1) (mapT o.put).2], []⟩⟩) :
 SWp C3 (.regD r3_10 r3_11) Q ⟨[x0, .slice L .no, x2, x3, .ptr 0 0, x5, x6, .int .i64 i, x8, x9, x10, x11, x12, x13, x14, x15, x16, x17], [], hpS n S s l c⟩ := by
 have kC := commit_o n S hS s hs hm ho
 obtain ⟨h1, h2, h3, h4⟩ := few_o ho
 have kM := mapped_p o.put (by omega)
 have hB := fun β τ => zAj β τ S.flatten
 have hB1 := fun β τ => zAj β τ (zAo S s (ofL o.put) o.drop).1.flatten
 have hE := zAl
 refine swp_regDX 6 ?_
 rw [P3]
 refine x_q (ds := [.ptr 0 0]) (.ptr 0 0) (by decide) rfl (fun _ => by simp [OcWp, zAb, isPan, opWp]) ?_
 refine x_q (ds := [.slice L .no]) (.slice L .no) (by decide) rfl (fun _ => by simp [OcWp, zAb, isPan, opWp]) ?_
 refine x_q (ds := [.int .i64 i]) (.int .i64 i) (by decide) rfl (fun _ => by simp [OcWp, zAb, isPan, opWp]) ?_
 refine x_q (ds := [.slice L .no, .int .i64 i]) (.ip [.int .i64 o.kind, .slice (prs o.put) .no, .slice (strs o.drop) .no, .int .i64 o.a, .int .i64 o.b, .int .i64 o.c]) (by decide) rfl (fun _ => by simp only [OcWp, zAb, isPan, opWp, Int.toNat_natCast, k1]; simp [D.iV, D.cells, hi]) ?_
 refine x_q (ds := [.ip [.int .i64 o.kind, .slice (prs o.put) .no, .slice (strs o.drop) .no, .int .i64 o.a, .int .i64 o.b, .int .i64 o.c]]) (.ip [.slice (prs o.put) .no, .slice (strs o.drop) .no, .int .i64 o.a, .int .i64 o.b, .int .i64 o.c]) (by decide) rfl (fun _ => by simp [OcWp, zAb, isPan, opWp]) ?_
 refine x_q (ds := [.ip [.slice (prs o.put) .no, .slice (strs o.drop) .no, .int .i64 o.a, .int .i64 o.b, .int .i64 o.c]]) (.slice (prs o.put) .no) (by decide) rfl (fun _ => by simp [OcWp, zAb, isPan, opWp]) ?_
 refine x_eff [] [] kM rfl ⟨by simp, by simp, by simp, by simp⟩ rfl rfl ?_
 refine x_q (ds := [.slice L .no]) (.slice L .no) (by decide) rfl (fun _ => by simp [OcWp, zAb, isPan, opWp]) ?_
 refine x_q (ds := [.int .i64 i]) (.int .i64 i) (by decide) rfl (fun _ => by simp [OcWp, zAb, isPan, opWp]) ?_
 refine x_q (ds := [.slice L .no, .int .i64 i]) (.ip [.int .i64 o.kind, .slice (prs o.put) .no, .slice (strs o.drop) .no, .int .i64 o.a, .int .i64 o.b, .int .i64 o.c]) (by decide) rfl (fun _ => by simp only [OcWp, zAb, isPan, opWp, Int.toNat_natCast, k1]; simp [D.iV, D.cells, hi]) ?_
 refine x_q (ds := [.ip [.int .i64 o.kind, .slice (prs o.put) .no, .slice (strs o.drop) .no, .int .i64 o.a, .int .i64 o.b, .int .i64 o.c]]) (.ip [.slice (strs o.drop) .no, .int .i64 o.a, .int .i64 o.b, .int .i64 o.c]) (by decide) rfl (fun _ => by simp [OcWp, zAb, isPan, opWp]) ?_
 refine x_q (ds := [.ip [.slice (strs o.drop) .no, .int .i64 o.a, .int .i64 o.b, .int .i64 o.c]]) (.slice (strs o.drop) .no) (by decide) rfl (fun _ => by simp [OcWp, zAb, isPan, opWp]) ?_
 refine x_nil ?_
 generalize zAo S s (ofL o.put) o.drop = r at *
 unfold CmR hpS stB dkB byB at *
 simp only [queD, List.cons_append, List.nil_append] at *
 generalize bys S.flatten = Y at *
 generalize bys r.1.flatten = Y1 at *
 generalize strs o.drop = DD at *
 generalize prs o.put = PP at *
 have wQ := And.intro @hE (And.intro @hB @hB1); repeat' (first | with_reducible (apply swq; constructor) | simp only [go_sem, seval, P3, q3] | ((with_reducible refine o_eff [0, 1, 2, 3, 4] [] (kC) ?hs ?he ?hh ?_); (case hs => exact so); (case he | hh => exact sh wQ); rintro _ _ ⟨rfl, l1, c1, rfl, m1⟩) | with_reducible intro _)
 all_goals try omega
 have := hQ l1 c1 m1
 simpa only [hE, hB1] using this
theorem rem_n (r : Nat) : (4 : Int) + Int.tmod ((r : Nat) : Int) 100 = ((4 + r % 100 : Nat) : Int) := by
 rw [Int.tmod_eq_emod_of_nonneg (Int.natCast_nonneg r)]; omega
set_option maxHeartbeats 4000000 in
theorem commits_p (r : Nat) (hr : r ≤ 255) (l : List OpR) (hl : l.length ≤ 1000000000000000) (hb : ∀ o ∈ l, OpBd o) : Pur M 3 [.int .u8 r, .slice (ops l) .no] (.bool true) := by
 classical
 refine k3.ow (C := C3) rfl rfl ?_
 rw [i3]
 unfold c3
 have k10 := head_p
 have k11 := few_p l hl hb
 have hlo := cl_ops l
 have hle := er_ops l
 by_cases hF : Few l
 ·have hdec : decide (Few l) = true := decide_eq_true hF
  rw [hdec] at k11
  obtain ⟨n, hn⟩ : ∃ n, n = 4 + r % 100 := ⟨_, rfl⟩
  have q1 := rem_n r
  rw [← hn] at q1
  have hn4 : 4 ≤ n := by omega
  have hn8 : n ≤ 8000 := by omega
  have k13 := new_p n (by omega) hn8
  have k12 := open_new n hn4 hn8
  have hol := ops_len l
  have hget := fun i (h : i < l.length) => ops_get h
  have hE := zAl
  have hB0 := fun β τ => zAj β τ (newS n).flatten
  have hreg := @reg_3
  generalize hRG : RC.regD r3_10 r3_11 = RG at *
  unfold OpRs at k12
  unfold dkB byB at k12 k13
  unfold opB at k12
  simp only [queD] at k12 k13
  have hYY : ∃ Y, Y = bys (newS n).flatten := ⟨_, rfl⟩
  obtain ⟨Y, hY⟩ := hYY
  rw [← hY] at hB0 k12 k13
  generalize ops l = L at *
  have wQ := And.intro @hE (And.intro @hB0 (And.intro @hlo @hle)); repeat' (first | with_reducible (apply swq; constructor) | simp only [go_sem, seval, P3, q3, q1, hol] | simp (disch := omega) only [wA] | ((with_reducible refine zAc (k10) ?he ?hc ?_); (case he | hc => exact sc wQ)) | ((with_reducible refine zAc (k11) ?he ?hc ?_); (case he | hc => exact sc wQ)) | ((with_reducible refine o_eff [] [] (k13) ?hs ?he ?hh ?_); (case hs => exact so); (case he | hh => exact sh wQ); try rintro _ _ ⟨rfl, rfl⟩) | ((with_reducible refine o_eff [0, 1] [] (k12) ?hs ?he ?hh ?_); (case hs => exact so); (case he | hh => exact sh wQ); rintro _ _ ⟨rfl, l0, c0, rfl, m0⟩) | with_reducible intro _)
  all_goals try omega
  subst hY
  have hlm : l0 = [] := List.length_eq_zero_iff.1 m0.len
  refine zAu (weak_sel [3, 2, 0, 1] [] ⟨by simp, by simp, by simp, by simp⟩ rfl rfl) ?_
  refine zAu (weak_nil 6 rfl) ?_
  refine zDv (C := C3) [1, 3, 4, 6, 7] 4 0 (Nat.zero_le _) (Nat.le_refl _) (fun x : Nat × Sx × Sto × List Tri × Nat => ⟨[.u0, .slice L .no, .u0, .bool true, .ptr 0 0, .u0, .slice (strs (zAk x.2.2.1.kv)) .no, .int .i64 x.1, .u0, .u0, .u0, .u0, .u0, .u0, .u0, .u0, .u0, .u0], [], hpS n x.2.1 x.2.2.1 x.2.2.2.1 x.2.2.2.2⟩)
   (fun x => x.1 ≤ l.length ∧ SxOk x.2.1 n ∧ StOk n x.2.2.1 ∧ MpOk x.2.2.2.1 x.2.2.2.2 x.2.2.1.kv ∧ KvB x.1 x.2.2.1.kv) (fun x => l.length - x.1) (0, newS n, ⟨(n - 2) / 2, 0, 0, []⟩, l0, c0) ⟨Nat.zero_le _, newS_ok n, new_st hn4 hn8, m0, by simp [KvB]⟩ ?_ ?_
  ·unfold hpS stB dkB byB
   generalize bys (newS n).flatten = Y at *
   simp [keepE, St.keepG, St.keep, St.gc, RcS, RcB, Hp.cut, Hp.back, putAt, bakF, Blk.rnL, rC, rM, Tv.rnL, Tv.rn, D.rnL, D.rn, cutF, Own.rn, St.sel, Hp.sel, posF, idx, hE, hB0, queD, strs, zAk]
  ·rintro ⟨i, S, s, lm, c⟩ ⟨g1, g2, g3, g4, g5⟩
   dsimp only at g1 g2 g3 g4 g5 ⊢
   have hcl := zAt (zAk s.kv)
   have her := zAz (zAk s.kv)
   by_cases hi : i < l.length
   ·have e1 := hget i hi
    have ho := hF.1 _ (List.getElem_mem hi)
    generalize l[i] = o at *
    have hr := fun x2 x5 x6 => hreg n S g2 s g3 g4 ho L i e1 (by omega) .u0 x2 (.bool true) x5 x6
    have hso := g4.so
    have hkl := g5.1
    have hl12 := hF.2
    have hkb : ∀ p ∈ s.kv, p.1.length ≤ 1000000 := fun p hp => by have := g5.2 p hp; omega
    obtain ⟨o1, o2, o3, o4⟩ := few_o ho
    rcases commit_oc n g2 g3 hso ho g5 with ⟨f, hf, hc⟩ | ⟨S', s', hc, d1, d2, d3⟩
    ·rw [hc] at hr
     dsimp only at hr
     rcases hf with rfl | rfl
     iterate 2
      ·have hB := fun β τ => zAj β τ S.flatten
       have kN := contents_s n S s g4 hkb (by omega)
       have kS := same_p (zAk s.kv) (zAk s.kv) (by rw [zBg]; omega)
       rw [show decide (zAk s.kv = zAk s.kv) = true from decide_eq_true rfl] at kS
       repeat' (first | with_reducible (apply swq; constructor) | simp only [go_sem, seval, P3, q3, hol] | simp (disch := omega) only [wA] | (with_reducible (apply cdA; constructor)) | with_reducible intro _)
       all_goals try omega
       refine hr _ _ _ _ _ _ _ _ _ _ _ _ _ _ (fun l1 c1 m1 => ?_)
       have kN := contents_s n S s m1 hkb (by omega)
       unfold hpS stB dkB byB at *
       simp only [queD, List.cons_append, List.nil_append] at *
       generalize hYS : bys S.flatten = Y at *
       generalize hW : strs (zAk s.kv) = W at *
       have wQ := And.intro @hE (And.intro @hB (And.intro @hcl @her)); repeat' (first | with_reducible (apply swq; constructor) | simp only [go_sem, seval, P3, q3] | simp (disch := omega) only [wA] | ((with_reducible refine o_eff [0, 1, 2, 3] [] (kN) ?hs ?he ?hh ?_); (case hs => exact so); (case he | hh => exact sh wQ); try rintro _ _ ⟨rfl, rfl⟩) | ((with_reducible refine zAc (kS) ?he ?hc ?_); (case he | hc => exact sc wQ)) | with_reducible intro _)
       all_goals try omega
       refine ⟨(i + 1, S, s, l1, c1), ⟨by dsimp only; omega, g2, g3, m1, by dsimp only; omega, g5.2⟩, by dsimp only; omega, ?_⟩
       dsimp only
       rw [hYS, hW]
       simp [keepE, St.keepG, St.keep, St.gc, RcS, RcB, Hp.cut, Hp.back, putAt, bakF, Blk.rnL, rC, rM, Tv.rnL, Tv.rn, D.rnL, D.rn, cutF, Own.rn, hE, hB]
    ·rw [hc] at hr
     dsimp only at hr
     have kN := fun l1 c1 (m1 : MpOk l1 c1 s'.kv) => contents_s n S' s' m1 (fun p hp => by rw [d3] at hp; have := (apply_b hso g5 o1 o3).2 p hp; omega) (by rw [d3]; have := (apply_b (drop := o.drop) hso g5 o1 o3).1; omega)
     have kP := model_p s.kv hso (by omega) o (by omega) (by omega)
     have kS := same_p (zAk s'.kv) (zAk s'.kv) (by rw [zBg, d3]; have := (apply_b (drop := o.drop) hso g5 o1 o3).1; omega)
     rw [show decide (zAk s'.kv = zAk s'.kv) = true from decide_eq_true rfl] at kS
     have gB := apply_b (drop := o.drop) hso g5 o1 o3
     rw [← d3] at kP gB
     have hB := fun β τ => zAj β τ S'.flatten
     have hcl' := zAt (zAk s'.kv)
     have her' := zAz (zAk s'.kv)
     have cp1 := cl_prs o.put
     have cp2 := er_prs o.put
     have cp3 := zAt o.drop
     have cp4 := zAz o.drop
     unfold opD at kP
     repeat' (first | with_reducible (apply swq; constructor) | simp only [go_sem, seval, P3, q3, hol] | simp (disch := omega) only [wA] | (with_reducible (apply cdA; constructor)) | with_reducible intro _)
     all_goals try omega
     refine hr _ _ _ _ _ _ _ _ _ _ _ _ _ _ (fun l1 c1 m1 => ?_)
     have kN := kN l1 c1 m1
     unfold hpS stB dkB byB at *
     simp only [queD, List.cons_append, List.nil_append] at *
     generalize hYS : bys S'.flatten = Y at *
     generalize hW' : strs (zAk s'.kv) = W' at *
     generalize strs (zAk s.kv) = W at *
     generalize strs o.drop = DD at *
     generalize prs o.put = PP at *
     have wQ := And.intro @hE (And.intro @hB (And.intro @hcl (And.intro @her (And.intro @hcl' (And.intro @her' (And.intro @cp1 (And.intro @cp2 (And.intro @cp3 @cp4)))))))); repeat' (first | with_reducible (apply swq; constructor) | simp only [go_sem, seval, P3, q3, e1, hol] | simp (disch := omega) only [wA] | ((with_reducible refine zAc (kP) ?he ?hc ?_); (case he | hc => exact sc wQ)) | ((with_reducible refine o_eff [0, 1, 2, 3] [] (kN) ?hs ?he ?hh ?_); (case hs => exact so); (case he | hh => exact sh wQ); try rintro _ _ ⟨rfl, rfl⟩) | ((with_reducible refine zAc (kS) ?he ?hc ?_); (case he | hc => exact sc wQ)) | ((with_reducible refine And.intro ?hw ?_); (case hw => exact sw wQ)) | with_reducible intro _)
     all_goals try omega
     refine ⟨(i + 1, S', s', l1, c1), ⟨by dsimp only; omega, d1, d2, m1, gB⟩, by dsimp only; omega, ?_⟩
     dsimp only
     rw [hYS, hW']
     simp [keepE, St.keepG, St.keep, St.gc, RcS, RcB, Hp.cut, Hp.back, putAt, bakF, Blk.rnL, rC, rM, Tv.rnL, Tv.rn, D.rnL, D.rn, cutF, Own.rn, hE, hB]
   ·have hi : i = l.length := by omega
    have hkb : ∀ p ∈ s.kv, p.1.length ≤ 1000000 := fun p hp => by have := g5.2 p hp; omega
    have hkl := g5.1
    have hl12 := hF.2
    have kK := keysS_s n S s g4 hkb (by omega)
    have hB := fun β τ => zAj β τ S.flatten
    have hgetK : ∀ (j : Nat) (h : j < s.kv.length), (strs (ks s.kv)).getD j .u0 = .str s.kv[j].1 := fun j h => by rw [zA8 (by simpa using h)]; simp
    have hslt : ∀ (j : Nat) (h : j + 1 < s.kv.length), lt (s.kv[j]'(by omega)).1 s.kv[j + 1].1 = true := fun j h => by
     have := so_lt (i := j) (by simpa using h) g4.so
     simpa using this
    have hK : (strs (ks s.kv)).length = s.kv.length := by rw [zAi]; simp
    unfold hpS stB dkB byB at *
    simp only [queD, List.cons_append, List.nil_append] at *
    generalize bys S.flatten = Y at *
    generalize strs (zAk s.kv) = W at *
    generalize strs (ks s.kv) = K at *
    subst hi
    have wQ := And.intro @hE @hB; repeat' (first | with_reducible (apply swq; constructor) | simp only [go_sem, seval, P3, q3, hol] | simp (disch := omega) only [wA] | ((with_reducible refine o_eff [0, 1, 2, 3] [] (kK) ?hs ?he ?hh ?_); (case hs => exact so); (case he | hh => exact sh wQ); try rintro _ _ ⟨rfl, rfl⟩) | (with_reducible (apply cdA; constructor)) | with_reducible intro _)
    all_goals try omega
    refine zAp (C := C3) [3, 9, 10] (fun j : Nat => ⟨[.u0, .u0, .u0, .bool true, .u0, .u0, .u0, .u0, .u0, .slice K .no, .int .i64 j, .u0, .u0, .u0, .u0, .u0, .u0, .u0], [], ⟨[.cells [.ptr 2 0, .int .i64 s.size, .int .i64 s.area, .int .i64 s.count, .mp 1, .bool false], .map (entT lm) c, .cells [.sl 3 1 0 (64 * n) (64 * n), .lit (.slice none 0 0), .bool false, .lit (.pointer none)], .cells Y], []⟩⟩)
     (fun j => 1 ≤ j ∧ (j ≤ s.kv.length ∨ j = 1)) (fun j => s.kv.length + 1 - j) 1 (by omega) ?_ ?_
    ·simp [keepE, St.keepG, St.keep, St.gc, RcS, RcB, Hp.cut, Hp.back, putAt, bakF, Blk.rnL, rC, rM, Tv.rnL, Tv.rn, D.rnL, D.rn, cutF, Own.rn, hE, hB]
    ·rintro j ⟨f1, f2⟩
     by_cases hj : j < s.kv.length
     ·have e2 := hgetK (j - 1) (by omega)
      have e3 := hgetK j hj
      have e4 := hslt (j - 1) (by omega)
      have q5 : (j : Int) - 1 = ((j - 1 : Nat) : Int) := by omega
      have e5 : s.kv[j - 1 + 1]'(by omega) = s.kv[j] := by congr 1; omega
      rw [e5] at e4
      generalize s.kv[j - 1].1 = ka at *
      generalize s.kv[j].1 = kb at *
      have wQ := And.intro @hE @hB; repeat' (first | with_reducible (apply swq; constructor) | simp only [go_sem, seval, P3, q3, hK, e2, e3, q5, e4] | simp (disch := omega) only [wA] | (with_reducible (apply cdA; constructor)) | ((with_reducible refine And.intro ?hw ?_); (case hw => exact sw wQ)) | with_reducible intro _)
      all_goals try omega
      exact ⟨j + 1, by omega, by omega, by simp [keepE, St.keepG, St.keep, St.gc, RcS, RcB, Hp.cut, Hp.back, putAt, bakF, Blk.rnL, rC, rM, Tv.rnL, Tv.rn, D.rnL, D.rn, cutF, Own.rn]⟩
     ·have wQ := And.intro @hE @hB; repeat' (first | with_reducible (apply swq; constructor) | simp only [go_sem, seval, P3, q3, hK] | simp (disch := omega) only [wA] | (with_reducible (apply cdA; constructor)) | ((with_reducible refine And.intro ?hw ?_); (case hw => exact sw wQ)) | with_reducible intro _)
      all_goals try omega
      exact ⟨_, zAa, rfl, rfl⟩
 ·have hdec : decide (Few l) = false := decide_eq_false hF
  rw [hdec] at k11
  generalize ops l = L at *
  have wQ := And.intro @hlo @hle; repeat' (first | with_reducible (apply swq; constructor) | simp only [go_sem, seval, P3, q3] | ((with_reducible refine zAc (k10) ?he ?hc ?_); (case he | hc => exact sc wQ)) | ((with_reducible refine zAc (k11) ?he ?hc ?_); (case he | hc => exact sc wQ)) | with_reducible intro _)
  all_goals try omega
  exact ⟨_, zAa, rfl, rfl⟩
end Go.Proofs.YtkobjnpmjngklaaGreatDoor
end
section
set_option maxRecDepth 100000
set_option linter.unusedSimpArgs false
set_option linter.unusedVariables false
namespace GoV
open Go Go.RowKit Go.ChangeShapes Go.Deep
def OpensZ (P : Program) (w : World) (n : Nat) (t : TypeId) {α : Type} (f : α → List D) (ok : α → Prop) : Prop :=
 ∀ (H : Type) (enc : TypeId × Value → H) (cs : List Value) (x : DataW H × List MemPlace), DataW.trod enc P w 0 (fun _ => true) true n t cs = some x → (∀ m ∈ DataW.weights P t x.1, m ≤ reachBytes) →
  ∃ a, ok a ∧ RelL w (G0 w) (f a) cs ∧ ∀ y ∈ cs, oneC y
section
variable {P : Program} {w : World} {n : Nat} {t e : TypeId}
theorem zDr {H : Type} {e : TypeId} : ∀ {l : List (DataW H)} {d : DataW H} {m : Nat}, d ∈ l → m ∈ DataW.weights P e d → m ∈ DataW.weightsAll P e l
 | [], _, _, h, _ => by simp at h
 | d0 :: l, d, m, h, hm => by
   simp only [DataW.weightsAll, List.mem_append]
   rcases List.mem_cons.1 h with rfl | h
   ·exact .inl hm
   ·exact .inr (zDr h hm)
theorem OpensZ.imp {α β : Type} {f : α → List D} {ok : α → Prop} {f' : β → List D} {ok' : β → Prop} (h : OpensZ P w n t f ok) (c : α → β) (h1 : ∀ a, ok a → f' (c a) = f a) (h2 : ∀ a, ok a → ok' (c a)) : OpensZ P w n t f' ok' := by
 intro H enc cs x hx hz
 obtain ⟨a, k1, k2, k3⟩ := h H enc cs x hx hz
 exact ⟨c a, h2 a k1, by rw [h1 a k1]; exact k2, k3⟩
theorem Opens.toZ {α : Type} {f : α → List D} {ok : α → Prop} (h : Opens P w n t f ok) : OpensZ P w n t f ok := fun H enc cs x hx _ => h H enc cs x hx
theorem opensZ_str (ht : P.underlying t = some .string) : OpensZ P w n t (fun s : List UInt8 => [.str s]) (fun s => s.length ≤ reachBytes) := by
 intro H enc cs x hx hz
 obtain ⟨s, rfl, rfl, hl⟩ := DataW.trod_string ht hx
 refine ⟨s.data.toList, ?_, RelL.one (by simp [Rel]), by simp [oneC, Value.oneCell']⟩
 exact hz _ (by simp [DataW.weights])
theorem zEg {α : Type} {f : α → List D} {ok : α → Prop} (ht : P.underlying t = some (.slice e)) (hc : 0 < P.cellsOf e) (h : OpensZ P w n e f ok) :
 OpensZ P w (n + 1) t (fun l : List α => [.slice (l.map fun a => pk (f a)) .no]) (fun l => l.length * P.bytesOf e ≤ reachBytes ∧ ∀ a ∈ l, ok a) := by
 intro H enc cs x hx hz
 rcases DataW.trod_slice ht hx with ⟨rfl, _⟩ | ⟨a, len, cap, elems, rest, n', hn, rfl, hxe, _, hlc, hm, hlen, hel, _⟩
 ·refine ⟨[], by simp, RelL.one ?_, by simp [oneC, Value.oneCell']⟩
  simp only [Rel]
  exact ⟨⟨0, 0, none⟩, 0, 0, [], .inr ⟨by simp, by simp, rfl⟩, by simp, RelL.nil, by simp, At.nil, trivial⟩
 obtain rfl : n = n' := by omega
 have hx1 : x.1 = .slice (elems.map (·.1)) (rest.map (·.1)) := congrArg Prod.fst hxe
 rw [hx1, DataW.weights, ht] at hz
 have hzl : len * P.bytesOf e ≤ reachBytes := by
  have := hz _ (List.mem_cons_self ..)
  rw [List.length_map, List.length_map, hlen] at this
  exact Nat.le_trans (Nat.mul_le_mul_right _ (Nat.le_add_right _ _)) this
 have hze : ∀ y ∈ elems, ∀ m ∈ DataW.weights P e y.1, m ≤ reachBytes := fun y hy m hm => hz m (List.mem_cons_of_mem _ (List.mem_append_left _ (zDr (List.mem_map_of_mem hy) hm)))
 have one : ∀ i, i < len → ∃ av : α × Value, ok av.1 ∧ Rel w (G0 w) (pk (f av.1)) av.2 ∧ w.cells? 0 (a.add (i * P.cellsOf e)) (P.cellsOf e) = some av.2.cells.toList ∧ ∀ y ∈ av.2.cells.toList, oneC y := by
  intro i hi
  have h1 := hel i hi
  rw [List.getElem?_eq_getElem (by omega)] at h1
  obtain ⟨cs', h2, h3⟩ := Option.bind_eq_some_iff.1 h1
  obtain ⟨b, k1, k2, k3⟩ := h H enc cs' _ h3 (hze _ (List.getElem_mem _))
  obtain ⟨v, k4, k5⟩ := rel_pk k2 k3
  exact ⟨⟨b, v⟩, k1, k4, by rw [k5]; exact h2, by rw [k5]; exact k3⟩
 obtain ⟨l, hl, hq⟩ := list_choose len one
 have hrel : ∀ (l : List (α × Value)), (∀ i (h : i < l.length), Rel w (G0 w) (pk (f (l[i]).1)) (l[i]).2) → RelL w (G0 w) (l.map fun av => pk (f av.1)) (l.map (·.2)) := by
  intro l
  induction l with
  | nil => intro _; exact RelL.nil
  | cons x l ih => intro hh; exact RelL.cons (hh 0 (by simp)) (ih fun i hi => hh (i + 1) (by simpa using hi))
 have hsz : ∀ y ∈ l.map (·.2), y.cells.size = P.cellsOf e := by
  intro y hy
  obtain ⟨av, hav, rfl⟩ := List.mem_map.1 hy
  obtain ⟨i, hi, rfl⟩ := List.getElem_of_mem hav
  have := (World.cells?_some (hq i hi).2.2.1).2.1
  simpa using this
 have cap_le := hzl
 refine ⟨l.map (·.1), ⟨by simpa [hl] using cap_le, fun b hb => ?_⟩, RelL.one ?_, by simp [oneC, Value.oneCell']⟩
 ·obtain ⟨av, hav, rfl⟩ := List.mem_map.1 hb
  obtain ⟨i, hi, rfl⟩ := List.getElem_of_mem hav
  exact (hq i hi).1
 ·simp only [Rel]
  refine ⟨a, cap, P.cellsOf e, l.map (·.2), .inl (by simp [hl]), by simp [hl, hlc], ?_, hsz, ⟨fun hne => ?_, fun j y hj => ?_⟩, trivial⟩
  ·have := hrel l fun i hi => (hq i hi).2.1
   rw [List.map_map]
   exact this
  ·have hpos : 0 < l.length := by
    rcases Nat.eq_zero_or_pos l.length with q | q
    ·exfalso; apply hne
     rw [List.length_eq_zero_iff.1 q]; rfl
    ·exact q
   have hc0 := (World.cells?_some (hq 0 hpos).2.2.1).2.2 0 hc
   have hlen0 := (World.cells?_some (hq 0 hpos).2.2.1).2.1
   rw [List.getElem?_eq_getElem (by omega)] at hc0
   simp only [Nat.zero_mul] at hc0
   have ha0 : ∀ b : Addr, b.add 0 = b := fun b => by simp [Addr.add]
   rw [ha0, ha0] at hc0
   unfold World.cell? at hc0
   split at hc0
   ·split at hc0
    ·cases hc0
    ·rename_i hs; simpa using hs
   ·cases hc0
  ·obtain ⟨x, h1, h2⟩ := flat_get hc hsz hj
   rw [List.getElem?_map] at h1
   obtain ⟨av, hav, rfl⟩ := Option.map_eq_some_iff.1 h1
   have hi : j / P.cellsOf e < l.length := by
    rcases Nat.lt_or_ge (j / P.cellsOf e) l.length with q | q
    ·exact q
    ·rw [List.getElem?_eq_none q] at hav; cases hav
   rw [List.getElem?_eq_getElem hi] at hav
   cases hav
   obtain ⟨_, _, k3, k4⟩ := hq _ hi
   have hm := Nat.mod_lt j hc
   have hcell := (World.cells?_some k3).2.2 _ hm
   rw [h2] at hcell
   have hadd : w.cell? ((a.add (j / P.cellsOf e * P.cellsOf e)).add (j % P.cellsOf e)) = w.cell? ⟨a.block, a.off + j, none⟩ := by
    rw [add_add]
    have e1 : j / P.cellsOf e * P.cellsOf e + j % P.cellsOf e = j := Nat.div_add_mod' j _
    rw [e1]
    unfold Addr.add
    split
    ·rename_i hj0
     subst hj0
     rw [add_add, e1] at hcell
     have : a.add 0 = a := by simp [Addr.add]
     rw [this] at hcell
     have hsp : a.spot = none := by
      unfold World.cell? at hcell
      split at hcell
      ·split at hcell
       ·cases hcell
       ·rename_i hs; simpa using hs
      ·cases hcell
     obtain ⟨b, o, s⟩ := a
     simp at hsp; subst hsp; rfl
    ·rfl
   rw [hadd] at hcell
   refine ⟨hcell, ?_, k4 y (List.mem_of_getElem? h2)⟩
   have := World.block_lt_of_cell? w _ hcell
   exact this
def OpensFZ (P : Program) (w : World) (n : Nat) (fs : List Field) (off : Nat) {α : Type} (f : α → List D) (ok : α → Prop) : Prop :=
 ∀ (H : Type) (enc : TypeId × Value → H) (cs : List Value), cs.length = off + (fs.map fun f => P.cellsOf f.type).sum →
  (∀ f ∈ fs, ∃ x, DataW.trod enc P w 0 (fun _ => true) true n f.type ((cs.drop f.offset).take (P.cellsOf f.type)) = some x ∧ ∀ m ∈ DataW.weights P f.type x.1, m ≤ reachBytes) →
  ∃ a, ok a ∧ RelL w (G0 w) (f a) (cs.drop off) ∧ ∀ y ∈ cs.drop off, oneC y
theorem opensFZ_nil {off : Nat} : OpensFZ P w n [] off (fun _ : Unit => []) (fun _ => True) := by
 intro H enc cs hl _
 have : cs.drop off = [] := List.drop_eq_nil_of_le (by simp at hl; omega)
 rw [this]
 exact ⟨(), trivial, RelL.nil, by simp⟩
theorem zB6 {α β : Type} {f : α → List D} {ok : α → Prop} {g : β → List D} {ok' : β → Prop} {fl : Field} {fs : List Field} {off c : Nat} (ho : fl.offset = off) (hc : P.cellsOf fl.type = c) (h : OpensZ P w n fl.type f ok) (hr : OpensFZ P w n fs (off + c) g ok') :
 OpensFZ P w n (fl :: fs) off (fun p : α × β => f p.1 ++ g p.2) (fun p => ok p.1 ∧ ok' p.2) := by
 subst ho; subst hc
 intro H enc cs hl hf
 simp only [List.map_cons, List.sum_cons] at hl
 obtain ⟨x, hx, hz⟩ := hf fl (by simp)
 obtain ⟨a, k1, k2, k3⟩ := h H enc _ x hx hz
 obtain ⟨b, j1, j2, j3⟩ := hr H enc cs (by omega) (fun f hm => hf f (by simp [hm]))
 have e : cs.drop fl.offset = (cs.drop fl.offset).take (P.cellsOf fl.type) ++ cs.drop (fl.offset + P.cellsOf fl.type) := by
  rw [← List.drop_drop, List.take_append_drop]
 refine ⟨(a, b), ⟨k1, j1⟩, ?_, ?_⟩
 ·rw [e]; exact k2.append j2
 ·rw [e]
  intro y hy
  rcases List.mem_append.1 hy with q | q
  ·exact k3 y q
  ·exact j3 y q
theorem opensZ_struct {α : Type} {f : α → List D} {ok : α → Prop} {fs : List Field} (ht : P.underlying t = some (.struct fs.toArray)) (hc : P.cellsOf t = (fs.map fun f => P.cellsOf f.type).sum) (h : OpensFZ P w n fs 0 f ok) : OpensZ P w (n + 1) t f ok := by
 intro H enc cs x hx hz
 obtain ⟨xs, n', hn, hxe, hl, hlen, hf⟩ := DataW.trod_struct ht hx
 obtain rfl : n = n' := by omega
 have hx1 : x.1 = .agg (xs.map (·.1)) := congrArg Prod.fst hxe
 rw [hx1, DataW.weights, ht] at hz
 have := h H enc cs (by omega) (fun f hm => by
  obtain ⟨i, hi, rfl⟩ := List.getElem_of_mem hm
  have hq := hf i fs[i] (by simp [hi])
  rw [hq]
  have : i < xs.length := by rw [hlen]; simpa using hi
  refine ⟨xs[i], List.getElem?_eq_getElem this, fun m hm => hz m (DataW.weights_mem_each (j := i) (t := fs[i].type) (d := xs[i].1) ?_ ?_ m hm)⟩
  ·simp [hi]
  ·simp [this])
 simpa using this
theorem opensZ_two {α : Type} {f : α → D} {ok : α → Prop} (ht : P.underlying t = some (.array 2 e)) (hc : P.cellsOf e = 1) (hc2 : P.cellsOf t = 2) (h : OpensZ P w n e (fun a : α => [f a]) ok) :
 OpensZ P w (n + 1) t (fun p : α × α => [f p.1, f p.2]) (fun p => ok p.1 ∧ ok p.2) := by
 intro H enc cs x hx hz
 obtain ⟨xs, n', hn, hxe, hl, hlen, hf⟩ := DataW.trod_array ht hx
 obtain rfl : n = n' := by omega
 have hx1 : x.1 = .agg (xs.map (·.1)) := congrArg Prod.fst hxe
 rw [hx1, DataW.weights, ht] at hz
 rw [hc2] at hl
 rw [hc] at hf
 obtain ⟨c0, c1, rfl⟩ : ∃ c0 c1, cs = [c0, c1] := by
  match cs, hl with
  | [c0, c1], _ => exact ⟨c0, c1, rfl⟩
 have h0 := hf 0 (by decide)
 have h1 := hf 1 (by decide)
 rw [List.getElem?_eq_getElem (by omega)] at h0 h1
 obtain ⟨a, k1, k2, k3⟩ := h H enc _ _ h0 (fun m hm => hz m (zDr (List.mem_map_of_mem (List.getElem_mem _)) hm))
 obtain ⟨b, j1, j2, j3⟩ := h H enc _ _ h1 (fun m hm => hz m (zDr (List.mem_map_of_mem (List.getElem_mem _)) hm))
 simp only [Nat.zero_mul, List.drop_zero, Nat.one_mul, List.drop_succ_cons, List.take_succ_cons, List.take_zero] at k2 k3 j2 j3
 refine ⟨(a, b), ⟨k1, j1⟩, ?_, ?_⟩
 ·exact k2.append j2
 ·intro y hy
  simp only [List.mem_cons, List.not_mem_nil, or_false] at hy
  rcases hy with rfl | rfl
  ·exact k3 _ (by simp)
  ·exact j3 _ (by simp)
theorem opensZ_zero {α : Type} {f : α → List D} {ok : α → Prop} : OpensZ P w 0 t f ok := by
 intro H enc cs x hx
 simp [DataW.trod] at hx
theorem zDm {α : Type} {f : α → List D} {ok : α → Prop} (h : ∀ n, OpensZ P w (n + 1) t f ok) : ∀ n, OpensZ P w n t f ok
 | 0 => opensZ_zero
 | n + 1 => h n
theorem arg_cellZ {α : Type} {f : α → List D} {ok : α → Prop} {H : Type} {enc : TypeId × Value → H} {v : Value} {d : DataW H} {ps : List MemPlace} {b : Nat} {desc : TypeDesc} (ht : P.underlying t = some desc) (hd : zBf desc = false) (hval : Value.okWide P w .any b t v)
 (h : DataW.Trod enc P w 0 (fun _ => true) true t v d ps) (hO : ∀ n, OpensZ P w n t f ok) {ts : List TypeId} {ds : List (DataW H)} (hZ : (DataW.weightsEach P ts ds).all (· ≤ reachBytes) = true) (j : Nat) (h1 : ts[j]? = some t) (h2 : ds[j]? = some d) : ∃ a, ok a ∧ RelL w (G0 w) (f a) [v] := by
 obtain ⟨fuel, hx⟩ := h
 obtain ⟨a, k1, k2, _⟩ := hO fuel H enc _ _ hx (fun m hm => by
  have := List.all_eq_true.1 hZ _ (DataW.weights_mem_each h1 h2 m hm)
  simpa using this)
 refine ⟨a, k1, ?_⟩
 have hv : oneC v := by
  cases v with
  | agg cs =>
    exfalso
    unfold Value.okWide at hval
    rw [ht] at hval
    cases desc <;> simp_all [zBf, Cell.okWide, Cell.ok]
  | tuple cs =>
    exfalso
    unfold Value.okWide at hval
    rw [ht] at hval
    cases desc <;> simp_all [zBf, Cell.okWide, Cell.ok]
  | _ => simp [oneC, Value.oneCell']
 rw [zEs hv] at k2
 exact k2
end
end GoV
namespace Go.Proofs.YtkobjnpmjngklaaGreatDoor
open Go GoV
theorem opens_pair {w : World} : ∀ n, OpensZ Tryz.prog w n 66 (fun p : Tx × Tx => [.str p.1, .str p.2]) (fun p => p.1.length ≤ reachBytes ∧ p.2.length ≤ reachBytes) :=
 zDm fun n => opensZ_two (f := fun s : Tx => .str s) Tryz.underlying66 (by kernel_rfl) (by kernel_rfl) (opensZ_str Tryz.underlying9)
theorem opens_put {w : World} : ∀ n, OpensZ Tryz.prog w n 35 (fun l : KV => [.slice (prs l) .no]) (fun l => l.length ≤ reachBytes ∧ ∀ p ∈ l, p.1.length ≤ reachBytes ∧ p.2.length ≤ reachBytes) :=
 zDm fun n => (zEg Tryz.underlying35 (show 0 < Tryz.prog.cellsOf 66 by rw [show Tryz.prog.cellsOf 66 = 2 by kernel_rfl]; omega) (opens_pair n)).imp id (fun a _ => rfl) (fun a h => ⟨by
  have := h.1
  rw [show Tryz.prog.bytesOf 66 = 32 by kernel_rfl] at this
  exact Nat.le_trans (Nat.le_mul_of_pos_right _ (by decide)) this, h.2⟩)
theorem opens_drop {w : World} : ∀ n, OpensZ Tryz.prog w n 31 (fun l : List Tx => [.slice (strs l) .no]) (fun l => l.length ≤ reachBytes ∧ ∀ p ∈ l, p.length ≤ reachBytes) :=
 zDm fun n => (zEg Tryz.underlying31 (show 0 < Tryz.prog.cellsOf 9 by rw [show Tryz.prog.cellsOf 9 = 1 by kernel_rfl]; omega) (opensZ_str (n := n) Tryz.underlying9)).imp id (fun a _ => rfl) (fun a h => ⟨by
  have := h.1
  rw [show Tryz.prog.bytesOf 9 = 16 by kernel_rfl] at this
  exact Nat.le_trans (Nat.le_mul_of_pos_right _ (by decide)) this, h.2⟩)
theorem opens_op {w : World} : ∀ n, OpensZ Tryz.prog w n 37 (fun o : OpR => [.int .i64 o.kind, .slice (prs o.put) .no, .slice (strs o.drop) .no, .int .i64 o.a, .int .i64 o.b, .int .i64 o.c]) (fun o => OpBd o) :=
 zDm fun n => (opensZ_struct (fs := [_, _, _, _, _, _]) Tryz.underlying37 (by kernel_rfl)
  (zB6 (c := 1) rfl (by kernel_rfl) (zFu Tryz.underlying3).toZ (zB6 (c := 1) rfl (by kernel_rfl) (opens_put n) (zB6 (c := 1) rfl (by kernel_rfl) (opens_drop n)
   (zB6 (c := 1) rfl (by kernel_rfl) (zFu Tryz.underlying3).toZ (zB6 (c := 1) rfl (by kernel_rfl) (zFu Tryz.underlying3).toZ (zB6 (c := 1) rfl (by kernel_rfl) (zFu Tryz.underlying3).toZ opensFZ_nil)))))
  )).imp (fun x => ⟨x.1, x.2.1, x.2.2.1, x.2.2.2.1, x.2.2.2.2.1, x.2.2.2.2.2.1⟩) (fun a _ => rfl) (fun a h => by
   have hr : reachBytes ≤ 1000000000000000 := by decide
   obtain ⟨_, ⟨h1, h2⟩, ⟨h3, h4⟩, _⟩ := h
   exact ⟨Nat.le_trans h1 hr, Nat.le_trans h3 hr, fun p hp => ⟨Nat.le_trans (h2 p hp).1 hr, Nat.le_trans (h2 p hp).2 hr⟩, fun k hk => Nat.le_trans (h4 k hk) hr⟩)
theorem opens_ops {w : World} : ∀ n, OpensZ Tryz.prog w n 22 (fun l : List OpR => [.slice (ops l) .no]) (fun l => l.length ≤ 1000000000000000 ∧ ∀ o ∈ l, OpBd o) :=
 zDm fun n => (zEg Tryz.underlying22 (show 0 < Tryz.prog.cellsOf 37 by rw [show Tryz.prog.cellsOf 37 = 6 by kernel_rfl]; omega) (opens_op n)).imp id (fun a _ => rfl) (fun a h => ⟨by
  have := h.1
  rw [show Tryz.prog.bytesOf 37 = 80 by kernel_rfl] at this
  have hr : reachBytes ≤ 1000000000000000 := by decide
  exact Nat.le_trans (Nat.le_trans (Nat.le_mul_of_pos_right _ (by decide)) this) hr, h.2⟩)
end Go.Proofs.YtkobjnpmjngklaaGreatDoor
end
section
set_option linter.unusedVariables false
namespace Go.Proofs.YtkobjnpmjngklaaGreatDoor
open Go GoV
theorem commits_c (n : Int) (h : 0 ≤ n ∧ n ≤ 255) (l : List OpR) (hl : l.length ≤ 1000000000000000 ∧ ∀ o ∈ l, OpBd o) : Pur M 3 [.int .u8 n, .slice (ops l) .no] (.bool true) := by
 obtain ⟨r, rfl⟩ : ∃ r : Nat, n = r := ⟨n.toNat, by omega⟩
 exact commits_p r (by omega) l hl.1 hl.2
end Go.Proofs.YtkobjnpmjngklaaGreatDoor
end