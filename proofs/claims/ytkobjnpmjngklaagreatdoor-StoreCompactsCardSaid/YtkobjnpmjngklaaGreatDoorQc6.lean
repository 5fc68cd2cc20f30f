/- Own texts, merged by a program: the engine that walks the code, and what the functions that the law reaches compute. -/
import Derived.Test.YtkobjnpmjngklaaGreatDoorQc5
import Derived.SizedLaws
section
set_option maxRecDepth 100000
set_option linter.unusedSimpArgs false
set_option linter.unusedVariables false
namespace Go.Proofs.YtkobjnpmjngklaaGreatDoor
open Go GoV
theorem flat_step (m : KV) {k : Nat} (h : k < m.length) : strs (zAq (m.take (k + 1))) = strs (zAq (m.take k)) ++ [.str m[k].1, .str m[k].2] := by
 rw [List.take_succ_eq_append_getElem h, flatKV_app]
 simp [strs, zAq, -List.take_append_getElem]
theorem flat_tlen (m : KV) {k : Nat} (h : k ≤ m.length) : (strs (zAq (m.take k))).length = 2 * k := by
 rw [zAk, zBb, List.length_take, Nat.min_eq_left h]
set_option maxHeartbeats 2000000 in
theorem contents_s (n : Nat) (S : Sx) (s : Sto) {l : List Tri} {c : Nat} (hm : MpOk l c s.kv) (hkb : ∀ p ∈ s.kv, p.1.length ≤ 1000000) (hkl : s.kv.length ≤ 1000000) :
 Eff M 18 [.ptr 0 0] (hpS n S s l c) fun d hp => d = .slice (strs (zAq s.kv)) .no ∧ hp = hpS n S s l c := by
 refine zAu 4 0 (Nat.le_refl 4) (Nat.le_refl 0) (k18.oe 4 0 rfl rfl rfl ?_)
 rw [ie18]
 unfold c18
 have k1 := keysS_s n S s hm hkb hkl
 have k2 := fun k v (h : getK k s.kv = some v) => get_s n S s hm k
 have k2 : ∀ k v, getK k s.kv = some v → Eff M 24 [.ptr 0 0, .str k] (hpS n S s l c) fun d hp => d = .tup [.str v, .bool true] ∧ hp = hpS n S s l c := fun k v h => by
  have := get_s n S s hm k
  rw [h] at this
  simpa using this
 have hB := fun β τ => zAi β τ S.flatten
 have hE := fun β τ => zAl β τ l
 have hK : (strs (ks s.kv)).length = s.kv.length := by rw [zAk]; simp
 have hget : ∀ (j : Nat) (h : j < s.kv.length), (strs (ks s.kv)).getD j .u0 = .str s.kv[j].1 := fun j h => by rw [zBt (by simpa using h)]; simp
 have hfind : ∀ (j : Nat) (h : j < s.kv.length), getK s.kv[j].1 s.kv = some s.kv[j].2 := fun j h => (get_mem hm.so).2 (List.getElem_mem h)
 have hstep := fun k h => flat_step s.kv (k := k) h
 have hTl := fun k h => flat_tlen s.kv (k := k) h
 have hT0 : strs (zAq (s.kv.take 0)) = [] := by simp [strs, zAq]
 have hTn : strs (zAq (s.kv.take s.kv.length)) = strs (zAq s.kv) := by rw [List.take_length]
 obtain ⟨T, hT⟩ : ∃ T : Nat → List D, ∀ k, T k = strs (zAq (s.kv.take k)) := ⟨_, fun _ => rfl⟩
 have hTc : ∀ k, D.cL (T k) = true := fun k => by rw [hT]; exact zAv _
 have hTr : ∀ k, D.erL (T k) = T k := fun k => by rw [hT]; exact zA3 _
 have hTe : ∀ k, zAh 1 (T k) = true := fun k => by rw [hT]; exact zBk _
 simp only [← hT] at hstep hTl hT0 hTn
 clear hT
 rw [← hTn]
 unfold hpS stB dkB byB at *
 simp only [queD] at *
 generalize bys S.flatten = Y at *
 generalize entT l = E at *
 generalize strs (ks s.kv) = K at *
 have wQ := And.intro @hB @hE; repeat' (first | with_reducible (apply swq; constructor) | simp only [go_sem, seval, pe18, q18] | ((with_reducible refine o_eff [0, 1, 2, 3] [] (k1) ?hs ?he ?hh ?_); (case hs => exact so); (case he | hh => exact sh wQ); rintro _ _ ⟨rfl, rfl⟩) | with_reducible intro _)
 all_goals try omega
 refine zA1 (weak_new 3 1 (by decide) false rfl) ?_
 refine zAs (C := E18 4 0) [0, 2, 3, 4] (fun k : Nat => ⟨[.ptr 0 0, .u0, .slice K .no, .slice (T k) (.tok 0), .int .i64 k, .u0, .u0, .u0, .u0], [], ⟨[.cells [.ptr 2 0, .int .i64 s.size, .int .i64 s.area, .int .i64 s.count, .mp 1, .bool false], .map E c, .cells [.sl 3 1 0 (64 * n) (64 * n), .lit (.slice none 0 0), .bool false, .lit (.pointer none)], .cells Y], [.per 1 (2 * k)]⟩⟩)
  (fun k => k ≤ s.kv.length) (fun k => s.kv.length - k) 0 (Nat.zero_le _) ?_ ?_
 ·simp [keepE, St.keepG, St.keep, St.gc, RcS, RcB, Hp.cut, Hp.back, putAt, bakF, Blk.rnL, rC, rM, Tv.rnL, Tv.rn, D.rnL, D.rn, cutF, Own.rn, hE, hB, hT0]
 ·intro k hk
  have g4 := hTl k hk
  have g5 := hTe k
  have g6 := hTc k
  have g7 := hTr k
  by_cases hlt : k < s.kv.length
  ·have g1 := hget k hlt
   have g2 := k2 _ _ (hfind k hlt)
   have g3 := hstep k hlt
   generalize s.kv[k].1 = kx at *
   generalize s.kv[k].2 = vx at *
   rw [show 2 * k = 2 * k from rfl] at g4
   generalize hTk : T k = Tk at *
   have wQ := And.intro @hB (And.intro @hE (And.intro @hK @g4)); repeat' (first | with_reducible (apply swq; constructor) | simp only [go_sem, seval, pe18, q18, hK, g1, g4] | simp (disch := omega) only [wA] | ((with_reducible refine o_eff [0, 1, 2, 3] [] (g2) ?hs ?he ?hh ?_); (case hs => exact so); (case he | hh => exact sh wQ); rintro _ _ ⟨rfl, rfl⟩) | ((with_reducible apply s_appT); (case he => rfl); (case hK | hc | hr | hV => exact sd wQ)) | ((with_reducible apply s_bsl); (case he | hl | hc => exact sd wQ)) | with_reducible (apply cdA; constructor) | ((with_reducible refine And.intro ?hw ?_); (case hw => exact sw wQ)) | with_reducible intro _)
   all_goals try omega
   refine ⟨k + 1, by omega, by omega, ?_⟩
   simp [keepE, St.keepG, St.keep, St.gc, RcS, RcB, Hp.cut, Hp.back, putAt, bakF, Blk.rnL, rC, rM, Tv.rnL, Tv.rn, D.rnL, D.rn, cutF, Own.rn, hE, hB, g3, Nat.mul_add]
  ·have e : k = s.kv.length := by omega
   subst e
   have wQ := And.intro @hB @hE; repeat' (first | with_reducible (apply swq; constructor) | simp only [go_sem, seval, pe18, q18, hK] | simp (disch := omega) only [wA] | with_reducible (apply cdA; constructor) | ((with_reducible refine And.intro ?hw ?_); (case hw => exact sw wQ)) | with_reducible intro _)
   all_goals try omega
   exact ⟨_, zAa, by simp [D.rn, Own.rn, cutF], by simp [RcS, RcB, Hp.cut, Hp.back, putAt, bakF, Blk.rnL, rC, rM, Tv.rnL, Tv.rn, D.rnL, D.rn, cutF, Own.rn, hB, hE]⟩
structure OpR where
 kind : Int
 put : KV
 drop : List Tx
 a : Int
 b : Int
 c : Int
def opD (o : OpR) : D := .agg [.int .i64 o.kind, .slice (prs o.put) .no, .slice (strs o.drop) .no, .int .i64 o.a, .int .i64 o.b, .int .i64 o.c]
def ops (l : List OpR) : List D := l.map opD
theorem ops_len (l : List OpR) : (ops l).length = l.length := List.length_map _
theorem ops_get {l : List OpR} {i : Nat} (h : i < l.length) : (ops l).getD i .u0 = .agg [.int .i64 l[i].kind, .slice (prs l[i].put) .no, .slice (strs l[i].drop) .no, .int .i64 l[i].a, .int .i64 l[i].b, .int .i64 l[i].c] := by
 simp [ops, opD, List.getD_eq_getElem?_getD, List.getElem?_map, h]
def OpFew (o : OpR) : Prop := (o.put.length ≤ 6 ∧ o.drop.length ≤ 6) ∧ (∀ p ∈ o.put, p.1.length + p.2.length ≤ 600) ∧ ∀ k ∈ o.drop, k.length ≤ 600
def Few (l : List OpR) : Prop := (∀ o ∈ l, OpFew o) ∧ l.length ≤ 12
def OpBd (o : OpR) : Prop := o.put.length ≤ 1000000000000000 ∧ o.drop.length ≤ 1000000000000000 ∧ (∀ p ∈ o.put, p.1.length ≤ 1000000000000000 ∧ p.2.length ≤ 1000000000000000) ∧ ∀ k ∈ o.drop, k.length ≤ 1000000000000000
theorem take_all {α : Type} {P : α → Prop} {l : List α} {i : Nat} (h : i < l.length) (ha : ∀ x ∈ l.take i, P x) (hx : P l[i]) : ∀ x ∈ l.take (i + 1), P x := by
 rw [List.take_succ_eq_append_getElem h]
 intro x hx2
 rcases List.mem_append.1 hx2 with q | q
 ·exact ha x q
 ·rw [List.mem_singleton] at q; rw [q]; exact hx
set_option maxHeartbeats 1000000 in
theorem few_put (L : List D) (i : Nat) (x1 x4 x5 x6 x7 x8 x9 x10 : D) (put : KV) (hi : i < L.length) (hL : L.length ≤ 1000000000000000) (e1 e2 e3 e4 e5 : D) (k1 : L.getD i .u0 = .agg [e1, .slice (prs put) .no, e2, e3, e4, e5]) (hb : put.length ≤ 1000000000000000) (hbb : ∀ p ∈ put, p.1.length ≤ 1000000000000000 ∧ p.2.length ≤ 1000000000000000) {Q : Ex → St → Prop}
 (hret : ∀ p ∈ put, 600 < p.1.length + p.2.length → ∀ x3 x4 x5 x6 x7 x8 x9 x10, Q .ret ⟨[.slice L .no, .bool false, .int .i64 i, x3, x4, x5, x6, x7, x8, x9, x10], [], ⟨[], []⟩⟩)
 (hgo : (∀ p ∈ put, p.1.length + p.2.length ≤ 600) → ∀ x1 x3 x4 x5 x6 x7 x8 x9 x10, Q .normal ⟨[.slice L .no, x1, .int .i64 i, x3, x4, x5, x6, x7, x8, x9, x10], [], ⟨[], []⟩⟩) :
 SWp C11 (.block 2 (.loop (.seq (.seq (.reg r11_6) (.cond (.v 7) .skip (.exit 2))) (.seq (.block 3 (.seq (.regD r11_7 r11_8) (.cond (.v 8) (.seq (.reg r11_9) .ret) .skip))) (.reg r11_10))))) Q ⟨[.slice L .no, x1, .int .i64 i, .int .i64 0, x4, x5, x6, x7, x8, x9, x10], [], ⟨[], []⟩⟩ := by
 have hpl := prs_len put
 have hpg := fun j (h : j < put.length) => prs_get h
 generalize prs put = PP at *
 refine zEk ?_
 refine zAs [0, 2, 3] (fun k : Nat => ⟨[.slice L .no, .u0, .int .i64 i, .int .i64 k, .u0, .u0, .u0, .u0, .u0, .u0, .u0], [], ⟨[], []⟩⟩)
  (fun k => k ≤ put.length ∧ ∀ p ∈ put.take k, p.1.length + p.2.length ≤ 600) (fun k => put.length - k) 0 ⟨Nat.zero_le _, by simp⟩ ?_ ?_
 ·simp [keepE, St.keep]
 ·rintro k ⟨h1, h2⟩
  by_cases hk : k < put.length
  ·have m1 := hpg k hk
   have m2 := hbb _ (List.getElem_mem hk)
   have m3 := fun h => take_all hk h2 h
   have m4 := hret _ (List.getElem_mem hk)
   generalize put[k] = p at *
   by_cases hp : 600 < p.1.length + p.2.length
   ·have m5 := m4 hp
    have wQ := tw; repeat' (first | with_reducible (apply swq; constructor) | simp only [go_sem, seval, P11, q11, k1, hpl, m1, o_ixaI, p_ixaI] | simp (disch := omega) only [wA] | (with_reducible (apply cdA; constructor)) | ((with_reducible refine And.intro ?hw ?_); (case hw => exact sw wQ)) | with_reducible intro _)
    all_goals try omega
    exact m5 _ _ _ _ _ _ _ _
   ·have wQ := tw; repeat' (first | with_reducible (apply swq; constructor) | simp only [go_sem, seval, P11, q11, k1, hpl, m1, o_ixaI, p_ixaI] | simp (disch := omega) only [wA] | (with_reducible (apply cdA; constructor)) | ((with_reducible refine And.intro ?hw ?_); (case hw => exact sw wQ)) | with_reducible intro _)
    all_goals try omega
    exact ⟨k + 1, ⟨by omega, m3 (by omega)⟩, by omega, by simp [keepE, St.keep]⟩
  ·have e : k = put.length := by omega
   subst e
   rw [List.take_length] at h2
   have m5 := hgo h2
   have wQ := tw; repeat' (first | with_reducible (apply swq; constructor) | simp only [go_sem, seval, P11, q11, k1, hpl] | simp (disch := omega) only [wA] | (with_reducible (apply cdA; constructor)) | ((with_reducible refine And.intro ?hw ?_); (case hw => exact sw wQ)) | with_reducible intro _)
   all_goals try omega
   exact m5 _ _ _ _ _ _ _ _ _
set_option maxHeartbeats 1000000 in
theorem few_drop (L : List D) (i : Nat) (x1 x3 x5 x6 x7 x8 x9 x10 : D) (drop : List Tx) (hi : i < L.length) (hL : L.length ≤ 1000000000000000) (e1 e2 e3 e4 e5 : D) (k1 : L.getD i .u0 = .agg [e1, e2, .slice (strs drop) .no, e3, e4, e5]) (hb : drop.length ≤ 1000000000000000) {Q : Ex → St → Prop}
 (hret : ∀ p ∈ drop, 600 < p.length → ∀ x3 x4 x5 x6 x7 x8 x9 x10, Q .ret ⟨[.slice L .no, .bool false, .int .i64 i, x3, x4, x5, x6, x7, x8, x9, x10], [], ⟨[], []⟩⟩)
 (hgo : (∀ p ∈ drop, p.length ≤ 600) → ∀ x1 x3 x4 x5 x6 x7 x8 x9 x10, Q .normal ⟨[.slice L .no, x1, .int .i64 i, x3, x4, x5, x6, x7, x8, x9, x10], [], ⟨[], []⟩⟩) :
 SWp C11 (.block 4 (.loop (.seq (.seq (.reg r11_12) (.cond (.v 9) .skip (.exit 4))) (.seq (.block 5 (.seq (.reg r11_13) (.cond (.v 10) (.seq (.reg r11_14) .ret) .skip))) (.reg r11_15))))) Q ⟨[.slice L .no, x1, .int .i64 i, x3, .int .i64 0, x5, x6, x7, x8, x9, x10], [], ⟨[], []⟩⟩ := by
 have hpl := zAk drop
 have hpg := fun j (h : j < drop.length) => zBt h
 generalize strs drop = PP at *
 refine zEk ?_
 refine zAs [0, 2, 4] (fun k : Nat => ⟨[.slice L .no, .u0, .int .i64 i, .u0, .int .i64 k, .u0, .u0, .u0, .u0, .u0, .u0], [], ⟨[], []⟩⟩)
  (fun k => k ≤ drop.length ∧ ∀ p ∈ drop.take k, p.length ≤ 600) (fun k => drop.length - k) 0 ⟨Nat.zero_le _, by simp⟩ ?_ ?_
 ·simp [keepE, St.keep]
 ·rintro k ⟨h1, h2⟩
  by_cases hk : k < drop.length
  ·have m1 := hpg k hk
   have m3 := fun h => take_all hk h2 h
   have m4 := hret _ (List.getElem_mem hk)
   generalize drop[k] = p at *
   by_cases hp : 600 < p.length
   ·have m5 := m4 hp
    have wQ := tw; repeat' (first | with_reducible (apply swq; constructor) | simp only [go_sem, seval, P11, q11, k1, hpl, m1] | simp (disch := omega) only [wA] | (with_reducible (apply cdA; constructor)) | ((with_reducible refine And.intro ?hw ?_); (case hw => exact sw wQ)) | with_reducible intro _)
    all_goals try omega
    exact m5 _ _ _ _ _ _ _ _
   ·have wQ := tw; repeat' (first | with_reducible (apply swq; constructor) | simp only [go_sem, seval, P11, q11, k1, hpl, m1] | simp (disch := omega) only [wA] | (with_reducible (apply cdA; constructor)) | ((with_reducible refine And.intro ?hw ?_); (case hw => exact sw wQ)) | with_reducible intro _)
    all_goals try omega
    exact ⟨k + 1, ⟨by omega, m3 (by omega)⟩, by omega, by simp [keepE, St.keep]⟩
  ·have e : k = drop.length := by omega
   subst e
   rw [List.take_length] at h2
   have m5 := hgo h2
   have wQ := tw; repeat' (first | with_reducible (apply swq; constructor) | simp only [go_sem, seval, P11, q11, k1, hpl] | simp (disch := omega) only [wA] | (with_reducible (apply cdA; constructor)) | ((with_reducible refine And.intro ?hw ?_); (case hw => exact sw wQ)) | with_reducible intro _)
   all_goals try omega
   exact m5 _ _ _ _ _ _ _ _ _
open Classical in
set_option maxHeartbeats 4000000 in
theorem few_p (l : List OpR) (hl : l.length ≤ 1000000000000000) (hb : ∀ o ∈ l, OpBd o) : Pur M 11 [.slice (ops l) .no] (.bool (decide (Few l))) := by
 refine k11.ok (C := C11) rfl rfl ?_
 rw [i11]
 unfold c11
 have hol := ops_len l
 have hget := fun i (h : i < l.length) => ops_get h
 have hno : ¬ Few l → decide (Few l) = false := fun h => decide_eq_false h
 have hyes : Few l → decide (Few l) = true := fun h => decide_eq_true h
 have hbi : ∀ (i : Nat) (h : i < l.length), OpBd l[i] := fun i h => hb _ (List.getElem_mem h)
 have hnf : ∀ (i : Nat) (h : i < l.length), ¬ OpFew l[i] → ¬ Few l := fun i h h1 h2 => h1 (h2.1 _ (List.getElem_mem h))
 have hF1 := @few_put
 have hF2 := @few_drop
 generalize hL1 : RC.block 2 (.loop (.seq (.seq (.reg r11_6) (.cond (.v 7) .skip (.exit 2))) (.seq (.block 3 (.seq (.regD r11_7 r11_8) (.cond (.v 8) (.seq (.reg r11_9) .ret) .skip))) (.reg r11_10)))) = L1 at *
 generalize hL2 : RC.block 4 (.loop (.seq (.seq (.reg r11_12) (.cond (.v 9) .skip (.exit 4))) (.seq (.block 5 (.seq (.reg r11_13) (.cond (.v 10) (.seq (.reg r11_14) .ret) .skip))) (.reg r11_15)))) = L2 at *
 generalize ops l = L at *
 generalize hdd : decide (Few l) = dd at *
 repeat' (first | with_reducible (apply swq; constructor) | simp only [go_sem, seval, P11, q11, hol] | with_reducible intro _)
 all_goals try omega
 refine zAs [0, 2] (fun i : Nat => ⟨[.slice L .no, .u0, .int .i64 i, .u0, .u0, .u0, .u0, .u0, .u0, .u0, .u0], [], ⟨[], []⟩⟩)
  (fun i => i ≤ l.length ∧ ∀ o ∈ l.take i, OpFew o) (fun i => l.length - i) 0 ⟨Nat.zero_le _, by simp⟩ ?_ ?_
 ·simp [keepE, St.keep]
 ·rintro i ⟨g1, g2⟩
  by_cases hi : i < l.length
  ·have k1 := hget i hi
   have k2 := hbi i hi
   have k3 := hnf i hi
   have k4 := fun h => take_all hi g2 h
   unfold OpFew at k3
   unfold OpBd at k2
   generalize l[i] = o at *
   obtain ⟨b1, b2, b3, b4⟩ := k2
   have hpl := prs_len o.put
   have hdl := zAk o.drop
   by_cases hA : o.put.length > 6
   ·have hn := hno (k3 fun h => by omega)
    rw [hn]
    have wQ := tw; repeat' (first | with_reducible (apply swq; constructor) | simp only [go_sem, seval, P11, q11, hol, k1, hpl, hdl] | simp (disch := omega) only [wA] | (with_reducible first | (apply cdA; constructor) | (apply gdA; constructor)) | ((with_reducible refine And.intro ?hw ?_); (case hw => exact sw wQ)) | with_reducible intro _)
    all_goals first | omega | (simp [D.closed, D.er]; done)
   by_cases hB : o.drop.length > 6
   ·have hn := hno (k3 fun h => by omega)
    rw [hn]
    have wQ := tw; repeat' (first | with_reducible (apply swq; constructor) | simp only [go_sem, seval, P11, q11, hol, k1, hpl, hdl] | simp (disch := omega) only [wA] | (with_reducible first | (apply cdA; constructor) | (apply gdA; constructor)) | ((with_reducible refine And.intro ?hw ?_); (case hw => exact sw wQ)) | with_reducible intro _)
    all_goals first | omega | (simp [D.closed, D.er]; done)
   have wQ := tw; repeat' (first | with_reducible (apply swq; constructor) | simp only [go_sem, seval, P11, q11, hol, k1, hpl, hdl] | (with_reducible first | (apply cdA; constructor) | (apply gdA; constructor)) | ((with_reducible refine And.intro ?hw ?_); (case hw => exact sw wQ)) | with_reducible intro _)
   all_goals try omega
   refine hF1 _ _ _ _ _ _ _ _ _ _ o.put (by omega) (by omega) _ _ _ _ _ k1 b1 b3 (fun p hp h => ?_) (fun hput => ?_)
   ·have hn := hno (k3 fun q => by have := q.2.1 _ hp; omega)
    rw [hn]
    intros
    simp [D.closed, D.er]
   ·intros
    repeat' (first | with_reducible (apply swq; constructor) | simp only [go_sem, seval, P11, q11, hol, k1, hpl, hdl] | with_reducible intro _)
    all_goals try omega
    refine hF2 _ _ _ _ _ _ _ _ _ _ o.drop (by omega) (by omega) _ _ _ _ _ k1 b2 (fun p hp h => ?_) (fun hdrop => ?_)
    ·have hn := hno (k3 fun q => by have := q.2.2 _ hp; omega)
     rw [hn]
     intros
     simp [D.closed, D.er]
    ·intros
     repeat' (first | with_reducible (apply swq; constructor) | simp only [go_sem, seval, P11, q11, hol, k1, hpl, hdl] | simp (disch := omega) only [wA] | with_reducible intro _)
     all_goals try omega
     exact ⟨i + 1, ⟨by omega, k4 ⟨⟨by omega, by omega⟩, hput, hdrop⟩⟩, by omega, by simp [keepE, St.keep]⟩
  ·have e : i = l.length := by omega
   subst e
   rw [List.take_length] at g2
   by_cases h12 : l.length ≤ 12
   ·rw [hyes ⟨g2, h12⟩]
    have : decide ((l.length : Int) ≤ 12) = true := by simp; omega
    have wQ := tw; repeat' (first | with_reducible (apply swq; constructor) | simp only [go_sem, seval, P11, q11, hol, this] | simp (disch := omega) only [wA] | (with_reducible (apply cdA; constructor)) | ((with_reducible refine And.intro ?hw ?_); (case hw => exact sw wQ)) | with_reducible intro _)
    all_goals first | omega | (simp [D.closed, D.er]; done)
   ·rw [hno fun h => h12 h.2]
    have : decide ((l.length : Int) ≤ 12) = false := by simp; omega
    have wQ := tw; repeat' (first | with_reducible (apply swq; constructor) | simp only [go_sem, seval, P11, q11, hol, this] | simp (disch := omega) only [wA] | (with_reducible (apply cdA; constructor)) | ((with_reducible refine And.intro ?hw ?_); (case hw => exact sw wQ)) | with_reducible intro _)
    all_goals first | omega | (simp [D.closed, D.er]; done)
end Go.Proofs.YtkobjnpmjngklaaGreatDoor
end
section
set_option maxRecDepth 100000
set_option linter.unusedSimpArgs false
set_option linter.unusedVariables false
namespace Go.Proofs.YtkobjnpmjngklaaGreatDoor
open Go GoV
theorem rev_ind {α : Type} {P : List α → Prop} (h0 : P []) (h1 : ∀ l a, P l → P (l ++ [a])) (l : List α) : P l := by
 rw [← List.reverse_reverse l]
 induction l.reverse with
 | nil => exact h0
 | cons a r ih => rw [List.reverse_cons]; exact h1 _ _ ih
theorem foldR_mem (m : KV) (hm : So (ks m)) (l : KV) : (∀ k, k ∈ ks (ofL l) ↔ ∃ p ∈ l, p.1 = k) ∧ ∀ p, p ∈ l.foldl (fun m p => insK p.1 p.2 m) m ↔ p ∈ ofL l ∨ (p.1 ∉ ks (ofL l) ∧ p ∈ m) := by
 refine rev_ind (P := fun l => (∀ k, k ∈ ks (ofL l) ↔ ∃ p ∈ l, p.1 = k) ∧ ∀ p, p ∈ l.foldl (fun m p => insK p.1 p.2 m) m ↔ p ∈ ofL l ∨ (p.1 ∉ ks (ofL l) ∧ p ∈ m)) ?_ ?_ l
 ·simp [ofL]
 ·intro l a ih
  obtain ⟨i1, i2⟩ := ih
  have e1 : ofL (l ++ [a]) = insK a.1 a.2 (ofL l) := by simp [ofL]
  have e2 : (l ++ [a]).foldl (fun m p => insK p.1 p.2 m) m = insK a.1 a.2 (l.foldl (fun m p => insK p.1 p.2 m) m) := by simp
  have h1 : ∀ k, k ∈ ks (ofL (l ++ [a])) ↔ k = a.1 ∨ k ∈ ks (ofL l) := fun k => by
   rw [e1]
   simp only [ks, List.mem_map]
   constructor
   ·rintro ⟨p, hp, rfl⟩
    rcases (zC6 (zFk l) p).1 hp with q | q
    ·left; rw [q]
    ·right; exact ⟨p, q.2, rfl⟩
   ·intro h
    by_cases hk : k = a.1
    ·exact ⟨(a.1, a.2), (zC6 (zFk l) _).2 (.inl rfl), hk.symm⟩
    ·obtain ⟨p, hp, rfl⟩ := h.resolve_left hk
     exact ⟨p, (zC6 (zFk l) _).2 (.inr ⟨hk, hp⟩), rfl⟩
  refine ⟨fun k => ?_, fun p => ?_⟩
  ·rw [h1, i1]
   constructor
   ·rintro (rfl | ⟨p, hp, rfl⟩)
    ·exact ⟨a, by simp, rfl⟩
    ·exact ⟨p, by simp [hp], rfl⟩
   ·rintro ⟨p, hp, rfl⟩
    rcases List.mem_append.1 hp with q | q
    ·exact .inr ⟨p, q, rfl⟩
    ·simp at q; rw [q]; exact .inl rfl
  ·rw [e2, zC6 (zDk _ _ hm), i2, h1, e1, zC6 (zFk l)]
   by_cases hk : p.1 = a.1
   ·simp [hk]
   ·simp [hk, or_assoc]
theorem apply_ofL {m put : KV} {drop : List Tx} (h : So (ks m)) : zA9 m (ofL put) drop = zA9 m put drop := by
 unfold zA9
 congr 1
 refine so_kv (zDk _ _ h) (zDk _ _ h) fun p => ?_
 rw [zEw _ _ (zCy (zFk put)) h, (foldR_mem m h put).2]
theorem flat_get0 : ∀ {m : KV} {k : Nat} (h : k < m.length), (zAq m)[2 * k]'(by rw [zBb]; omega) = m[k].1
 | p :: m, 0, _ => rfl
 | p :: m, k + 1, h => by
   have := flat_get0 (m := m) (k := k) (by simpa using h)
   simpa [zAq, Nat.mul_add] using this
theorem flat_get1 : ∀ {m : KV} {k : Nat} (h : k < m.length), (zAq m)[2 * k + 1]'(by rw [zBb]; omega) = m[k].2
 | p :: m, 0, _ => rfl
 | p :: m, k + 1, h => by
   have := flat_get1 (m := m) (k := k) (by simpa using h)
   simpa [zAq, Nat.mul_add] using this
section
variable {P : Mod} {dst : Dst} {rq : List (RO × Bool)} {K : St → Prop} {s : St}
end
theorem del_len (k : Tx) : ∀ m : KV, (delK k m).length ≤ m.length
 | [] => by simp [delK]
 | p :: r => by
   have := del_len k r
   rw [delK]
   split
   ·simp
   ·simp only [List.length_cons]; omega
theorem foldD_len : ∀ (drop : List Tx) (m : KV), (drop.foldl (fun m k => delK k m) m).length ≤ m.length
 | [], m => by simp
 | k :: drop, m => by
   have h1 := foldD_len drop (delK k m)
   have h2 := del_len k m
   simp only [List.foldl_cons]; omega
theorem apply_len (m put : KV) (drop : List Tx) : (zA9 m put drop).length ≤ m.length + put.length :=
 Nat.le_trans (foldD_len _ _) (zGm _ _)
end Go.Proofs.YtkobjnpmjngklaaGreatDoor
end
section
set_option maxRecDepth 100000
set_option linter.unusedSimpArgs false
set_option linter.unusedVariables false
namespace Go.Proofs.YtkobjnpmjngklaaGreatDoor
open Go
theorem head_w {n : Nat} {z a c : Nat} (h4 : 4 ≤ n) (h8 : n ≤ 8000) (ha : a < 2) (hc : c ≤ 8000) : ∀ g ∈ setW a c, g.1 + g.2.length ≤ n ∧ ∀ t ∈ g.2, t.length = 64 := by
 intro g hg
 simp only [setW, List.mem_cons, List.not_mem_nil, or_false] at hg
 rcases hg with rfl | rfl
 iterate 2
  ·refine ⟨by simp; omega, fun t ht => ?_⟩
   simp only [List.mem_singleton] at ht
   subst ht
   exact zC7 (by omega) (by omega)
theorem add_w {n z a c : Nat} (h4 : 4 ≤ n) (h8 : n ≤ 8000) (hz : z = (n - 2) / 2) (ha : a < 2) (t : Tx) (hc : c + cntK t ≤ z) : ∀ g ∈ addW z a c t, g.1 + g.2.length ≤ n ∧ ∀ t ∈ g.2, t.length = 64 := by
 intro g hg
 rw [addW] at hg
 rcases List.mem_cons.1 hg with rfl | hg
 ·refine ⟨?_, zFo _ _ fun x hx => (chK_el hx).2⟩
  show plc z a c + (secK (plc z a c) (chK t)).length ≤ n
  rw [zCo, zA0]
  unfold plc
  have : a = 0 ∨ a = 1 := by omega
  rcases this with h | h <;> subst h <;> omega
 ·refine head_w (z := z) h4 h8 ha ?_ g hg
  rw [zA0]; omega
theorem clr_w {n z a i : Nat} (h4 : 4 ≤ n) (hz : z = (n - 2) / 2) (ha : a < 2) (hi : i ≤ z) : ∀ g ∈ clrW z a i, g.1 + g.2.length ≤ n ∧ ∀ t ∈ g.2, t.length = 64 := by
 intro g hg
 simp only [clrW, List.mem_singleton] at hg
 subst hg
 refine ⟨?_, fun t ht => by rw [List.eq_of_mem_replicate ht]; simp⟩
 simp only [List.length_replicate]
 unfold plc
 have : a = 0 ∨ a = 1 := by omega
 rcases this with h | h <;> subst h <;> omega
theorem zDm (n : Nat) {S : Sx} (hS : SxOk S n) {s : Sto} (hs : StOk n s) (put : KV) (drop : List Tx) :
 ((zAj S s put drop).2.2 ≠ 0 ∧ zAj S s put drop = (S, s, (zAj S s put drop).2.2) ∧ ((zAj S s put drop).2.2 = 6 ∨ (zAj S s put drop).2.2 = zAr put drop)) ∨
 ((zAj S s put drop).2.2 = 0 ∧ zAr put drop = 0 ∧ SxOk (zAj S s put drop).1 n ∧ StOk n (zAj S s put drop).2.1 ∧ (zAj S s put drop).2.1.kv = zA9 s.kv put (setT drop)) := by
 unfold zAj
 by_cases h1 : zAr put drop ≠ 0
 ·rw [if_pos h1]
  exact .inl ⟨h1, rfl, .inr rfl⟩
 ·rw [if_neg h1]
  have h1 : zAr put drop = 0 := by simpa using h1
  by_cases h2 : put.length + (setT drop).length = 0
  ·rw [if_pos h2]
   have e1 : put = [] := List.length_eq_zero_iff.1 (by omega)
   have e2 : setT drop = [] := List.length_eq_zero_iff.1 (by omega)
   refine .inr ⟨rfl, h1, hS, hs, ?_⟩
   rw [e1, e2]; rfl
  ·rw [if_neg h2]
   by_cases h3 : s.size - s.count < cntK (textK put (setT drop))
   ·rw [if_pos h3]
    exact .inl ⟨show (6 : Int) ≠ 0 by decide, rfl, .inl rfl⟩
   ·rw [if_neg h3]
    have := hs.ct
    refine .inr ⟨rfl, h1, goW_ok _ hS (add_w hs.n4 hs.n8 hs.sz hs.ar _ (by omega)), ⟨hs.n4, hs.n8, hs.sz, hs.ar, ?_⟩, rfl⟩
    show s.count + (chK _).length ≤ s.size
    rw [zA0]; omega
theorem comp_w {n z a : Nat} (h4 : 4 ≤ n) (h8 : n ≤ 8000) (hz : z = (n - 2) / 2) (ha : a < 2) (t : Tx) (hc : cntK t ≤ z) : ∀ g ∈ compW z a t, g.1 + g.2.length ≤ n ∧ ∀ t ∈ g.2, t.length = 64 := by
 have hr : ∀ a, a < 2 → ∀ g ∈ zBc z a t, g.1 + g.2.length ≤ n ∧ ∀ t ∈ g.2, t.length = 64 := fun a ha g hg => by
  rcases List.mem_append.1 hg with q | q
  ·exact add_w h4 h8 hz (by omega) t (by omega) g q
  ·exact clr_w h4 hz ha (Nat.zero_le _) g q
 intro g hg
 rw [compW] at hg
 rcases List.mem_append.1 hg with q | q
 ·split at q
  ·exact hr 1 (by decide) g q
  ·rcases List.mem_append.1 q with r | r
   ·exact hr a ha g r
   ·exact hr 1 (by decide) g r
 ·exact clr_w h4 hz (by decide) (by rw [zA0]; exact hc) g q
theorem zGs (n : Nat) {S : Sx} (hS : SxOk S n) {s : Sto} (hs : StOk n s) :
 zAw S s = (S, s, 6) ∨ ((zAw S s).2.2 = 0 ∧ SxOk (zAw S s).1 n ∧ StOk n (zAw S s).2.1 ∧ (zAw S s).2.1.kv = s.kv) := by
 unfold zAw
 by_cases h : s.size < cntK (zAn s.kv)
 ·rw [if_pos h]; exact .inl rfl
 ·rw [if_neg h]
  exact .inr ⟨rfl, goW_ok _ hS (comp_w hs.n4 hs.n8 hs.sz hs.ar _ (by omega)), ⟨hs.n4, hs.n8, hs.sz, show (0 : Nat) < 2 by decide, by show (chK _).length ≤ s.size; rw [zA0]; omega⟩, rfl⟩
def hS0 : Sx := newS 20
def hs0 : Sto := ⟨9, 0, 0, []⟩
def hA : Sx × Sto × Int := zAj hS0 hs0 [([97], [49]), ([98], [50])] []
def hB : Sx × Sto × Int := zAj hA.1 hA.2.1 [] [[97]]
def hF : Sx × Sto × Int := zAj hB.1 hB.2.1 [([99], zr 500)] []
def hC : Sx × Sto × Int := zAw hB.1 hB.2.1
def hU : Sx × Sto × Int := zAj hS0 hs0 [([98], [50])] []
def hV : Sx × Sto × Int := zAw hU.1 hU.2.1
theorem ex_A : hA.2.2 = 0 ∧ hB.2.2 = 0 ∧ hC.2.2 = 0 ∧ hU.2.2 = 0 ∧ hV.2.2 = 0 := by decide +kernel
theorem ex_F : hF.2.2 = 6 := by decide +kernel
theorem ex_kv : hB.2.1.kv = [([98], [50])] ∧ hC.2.1.kv = [([98], [50])] := by decide +kernel
theorem ex_head : zCi hC.1 9 = some (0, 1) := by decide +kernel
theorem ex_load : loadK hC.1 9 0 1 = some [([98], [50])] := by decide +kernel
theorem ex_rest : rest2 hC.1 (some (0, 1)) = hC.1 := by decide +kernel
theorem ex_raw : hC.1.flatten = hV.1.flatten := by decide +kernel
theorem ex_len : hC.1.flatten.length = 1280 := by decide +kernel
theorem ex_big : zAr [([99], zr 20001)] [] = 7 := by
 simp [zAr, keyK]
end Go.Proofs.YtkobjnpmjngklaaGreatDoor
end
section
set_option maxRecDepth 100000
set_option linter.unusedSimpArgs false
set_option linter.unusedVariables false
namespace Go.Proofs.YtkobjnpmjngklaaGreatDoor
open Go GoV
def OpRs (n : Nat) (S : Sx) (s : Sto) (d : D) (h : Hp) : Prop := d = .tup [.ptr 3 0, .int .i64 0] ∧ ∃ l c, h = ⟨[dkB 1 n [] false, byB S, .map (entT l) c, opB s.size s.area s.count], []⟩ ∧ MpOk l c s.kv
theorem zC4 {n i : Nat} (h : i < n) : secAt (newS n) i = zr 64 := by
 simp [secAt, newS, List.getD_eq_getElem?_getD, List.getElem?_replicate, h]
theorem zr_pos (z p : Nat) : posK z p (zr 64) = none := by
 have : atK (((zr 64).take 24).drop 16) = none := by decide +kernel
 rw [posK, this]
theorem new_head {n : Nat} (h : 4 ≤ n) : zCi (newS n) ((n - 2) / 2) = none := by
 rw [zCi, zC4 (by omega), zC4 (by omega), zr_pos, zr_pos]
theorem new_rest {n : Nat} (h : 4 ≤ n) : rest2 (newS n) none = newS n := by
 have h1 : restW (newS n) 1 none = [] := by rw [restW, zC4 (by omega)]; exact if_pos rfl
 have h0 : restW (newS n) 0 none = [] := by rw [restW, zC4 (by omega)]; exact if_pos rfl
 have e : rest1 (newS n) none = newS n := by rw [rest1, h1]; rfl
 rw [rest2, e, h0]; rfl
theorem open_new (n : Nat) (h4 : 4 ≤ n) (hn : n ≤ 8000) : Eff M 12 [.ptr 0 0] ⟨[dkB 1 n [] false, byB (newS n)], []⟩ (OpRs n (newS n) ⟨(n - 2) / 2, 0, 0, []⟩) := by
 have hl : loadK (newS n) ((n - 2) / 2) 0 0 = some [] := rfl
 have := open_ok n h4 hn (newS n) (zEc n) none (new_head h4) ⟨by decide, Nat.zero_le _⟩ [] hl (fun _ => zC4 (by omega))
 rw [new_rest h4] at this
 exact this
theorem new_st {n : Nat} (h4 : 4 ≤ n) (hn : n ≤ 8000) : StOk n ⟨(n - 2) / 2, 0, 0, []⟩ := ⟨h4, hn, rfl, show (0 : Nat) < 2 by decide, Nat.zero_le _⟩
theorem put_1 (k v : Tx) : putM [] 0 (.str k) (.str v) = .map (entT (mapT [(k, v)]).1) (mapT [(k, v)]).2 := (nxtT_ok (x := ([], 0)) (m := []) mp_nil (k, v)).1
theorem put_2 (p : Tx × Tx) (k v : Tx) : putM (entT (mapT [p]).1) (mapT [p]).2 (.str k) (.str v) = .map (entT (mapT [p, (k, v)]).1) (mapT [p, (k, v)]).2 := (nxtT_ok (zEf [p]) (k, v)).1
theorem bd_small {put : KV} (h : (put.all fun p => decide (p.1.length ≤ 1000000 ∧ p.2.length ≤ 1000000)) = true) : ∀ p ∈ put, p.1.length ≤ 1000000 ∧ p.2.length ≤ 1000000 := fun p hp => by
 simpa using List.all_eq_true.1 h p hp
theorem ex_kvU : hU.2.1.kv = [([98], [50])] := by decide +kernel
theorem hs0_ok : StOk 20 hs0 := new_st (n := 20) (by decide) (by decide)
theorem hA_ok : SxOk hA.1 20 ∧ StOk 20 hA.2.1 := by
 rcases zDm 20 (zEc 20) hs0_ok [([97], [49]), ([98], [50])] [] with h | h
 ·exact absurd ex_A.1 h.1
 ·exact ⟨h.2.2.1, h.2.2.2.1⟩
theorem hB_ok : SxOk hB.1 20 ∧ StOk 20 hB.2.1 := by
 rcases zDm 20 hA_ok.1 hA_ok.2 [] [[97]] with h | h
 ·exact absurd ex_A.2.1 h.1
 ·exact ⟨h.2.2.1, h.2.2.2.1⟩
theorem hC_ok : SxOk hC.1 20 ∧ StOk 20 hC.2.1 := by
 rcases zGs 20 hB_ok.1 hB_ok.2 with h | h
 ·have := ex_A.2.2.1
  rw [hC, h] at this
  exact absurd this (show (6 : Int) ≠ 0 by decide)
 ·exact ⟨h.2.1, h.2.2.1⟩
theorem hU_ok : SxOk hU.1 20 ∧ StOk 20 hU.2.1 := by
 rcases zDm 20 (zEc 20) hs0_ok [([98], [50])] [] with h | h
 ·exact absurd ex_A.2.2.2.1 h.1
 ·exact ⟨h.2.2.1, h.2.2.2.1⟩
theorem hV_ok : SxOk hV.1 20 := by
 rcases zGs 20 hU_ok.1 hU_ok.2 with h | h
 ·have := ex_A.2.2.2.2
  rw [hV, h] at this
  exact absurd this (show (6 : Int) ≠ 0 by decide)
 ·exact h.2.1
theorem s_b2z {P : Mod} {dst : Dst} {r : List RO} {K : St → Prop} {s : St} {b k : Nat} {Z : Tx} (hB : s.hp.H[b]? = some (.cells (bys Z))) (hk : Z.length = k) (h : opsWp P r K (s.put dst (.str Z))) : OpS P .b2s [.sl b 1 0 k k] dst r K s := by
 refine s_b2s rfl (elems_sec hB (by omega) (Nat.le_refl _)) (zGu _) ?_
 rw [List.drop_zero, List.take_of_length_le (by omega)]
 exact h
theorem zGt (n : Nat) (S : Sx) (hS : SxOk S n) (s : Sto) (hs : StOk n s) {l : List Tri} {c : Nat} (hm : MpOk l c s.kv) {lp : List Tri} {cp : Nat} {put : KV} (hp : MpOk lp cp put) (hpb : ∀ p ∈ put, p.1.length ≤ 1000000 ∧ p.2.length ≤ 1000000) (hpl : put.length ≤ 1000000) :
 Eff M 14 [.ptr 0 0, .mp 4, .lit (.slice none 0 0)] ⟨(hpS n S s l c).H ++ [.map (entT lp) cp], []⟩ (CmR n (zAj S s put []) [.map (entT lp) cp]) :=
 eff_args (commit_e n S hS s hs hm hp hpb hpl [] (by simp) (by simp)) rfl
theorem rel_own {w : World} {g : Gh} {es : List D} {o : GoV.Own} {x : Value} (h : Rel w g (.slice es o) x) : Rel w g (.slice es .no) x := by
 simp only [Rel] at h ⊢
 obtain ⟨b, cap, k, ys, h1, h2, h3, h4, h5, h6⟩ := h
 exact ⟨b, cap, k, ys, h1, h2, h3, h4, h5, trivial⟩
theorem eff_own3 {M : Mod} {f : FuncId} {a b : D} {es : List D} (o : GoV.Own) {hp : Hp} {R : D → Hp → Prop} (h : Eff M f [a, b, .slice es .no] hp R) : Eff M f [a, b, .slice es o] hp R :=
 ⟨h.1, fun w g xs hA hh hr => h.2 w g xs hA hh (by
  obtain ⟨x, xs, rfl, h1, hr⟩ := hr.inv
  obtain ⟨y, ys, rfl, h2, hr⟩ := hr.inv
  obtain ⟨z, zs, rfl, h3, hr⟩ := hr.inv
  exact RelL.cons h1 (RelL.cons h2 (RelL.cons (rel_own h3) hr)))⟩
theorem ofL_1 (k v : Tx) : ofL [(k, v)] = [(k, v)] := rfl
set_option maxHeartbeats 8000000 in
theorem head_p : Pur M 10 [] (.bool true) := by
 refine k10.ow (C := C10) rfl rfl ?_
 rw [i10]
 unfold c10
 have k13 := new_p 20 (by decide) (by decide)
 have k12 := open_new 20 (by decide) (by decide)
 have kA := fun l c (hm : MpOk l c hs0.kv) => zGt 20 hS0 (zEc 20) hs0 hs0_ok hm (zEf [([97], [49]), ([98], [50])]) (bd_small (by decide +kernel)) (by decide +kernel)
 have kB := fun l c (hm : MpOk l c hA.2.1.kv) => eff_own3 .full (commit_z 20 hA.1 hA_ok.1 hA.2.1 hA_ok.2 hm [[97]] (by decide) (by decide))
 have kG := fun l c (hm : MpOk l c hB.2.1.kv) => get_s 20 hB.1 hB.2.1 hm [97]
 have kH := fun l c (hm : MpOk l c hB.2.1.kv) => get_s 20 hB.1 hB.2.1 hm [98]
 have kO := one_p [99] (zr 20001)
 have kP := one_p [99] (zr 500)
 have kR := one_p [98] [50]
 have kD := fun l c (hm : MpOk l c hB.2.1.kv) => zGt 20 hB.1 hB_ok.1 hB.2.1 hB_ok.2 hm (zEf [([99], zr 20001)]) (by rw [ofL_1]; simp) (by rw [ofL_1]; simp)
 have kE := fun l c (hm : MpOk l c hB.2.1.kv) => zGt 20 hB.1 hB_ok.1 hB.2.1 hB_ok.2 hm (zEf [([99], zr 500)]) (by rw [ofL_1]; simp) (by rw [ofL_1]; simp)
 have kC := fun l c (hm : MpOk l c hB.2.1.kv) => zE1 20 hB.1 hB_ok.1 hB.2.1 hB_ok.2 hm (by rw [ex_kv.1]; simp) (by rw [ex_kv.1]; simp)
 have kW := raw_p 20 (by decide) hC.1 hC_ok.1
 have kI := open_ok 20 (by decide) (by decide) hC.1 hC_ok.1 (some (0, 1)) ex_head (by decide) [([98], [50])] ex_load (by simp)
 have kU := fun l c (hm : MpOk l c hs0.kv) => zGt 20 hS0 (zEc 20) hs0 hs0_ok hm (zEf [([98], [50])]) (by rw [ofL_1]; simp) (by rw [ofL_1]; simp)
 have kV := fun l c (hm : MpOk l c hU.2.1.kv) => zE1 20 hU.1 hU_ok.1 hU.2.1 hU_ok.2 hm (by rw [ex_kvU]; simp) (by rw [ex_kvU]; simp)
 have kX := raw_p 20 (by decide) hV.1 hV_ok
 have kK := fun l c (hm : MpOk l c [([98], [50])]) => keysS_s 20 hC.1 ⟨9, 0, 1, [([98], [50])]⟩ hm (by simp) (by simp)
 have kS : Pur M 17 [.slice [.str [98]] .no, .slice [.str [98]] .no] (.bool true) := same_p [[98]] [[98]] (by simp)
 have kK : ∀ l c (hm : MpOk l c [([98], [50])]), Eff M 19 [.ptr 0 0] (hpS 20 hC.1 ⟨9, 0, 1, [([98], [50])]⟩ l c) fun d hp => d = .slice [.str [98]] .no ∧ hp = hpS 20 hC.1 ⟨9, 0, 1, [([98], [50])]⟩ l c := kK
 simp only [Option.getD_some] at kI
 have oA : ofL [([97], [49]), ([98], [50])] = [([97], [49]), ([98], [50])] := by decide +kernel
 rw [oA] at kA
 simp only [ofL_1] at kD kE kU
 have rD : zAj hB.1 hB.2.1 [([99], zr 20001)] [] = (hB.1, hB.2.1, 7) := by
  unfold zAj
  rw [if_pos (by rw [ex_big]; decide), ex_big]
 have rE : zAj hB.1 hB.2.1 [([99], zr 500)] [] = (hB.1, hB.2.1, 6) := by
  rcases zDm 20 hB_ok.1 hB_ok.2 [([99], zr 500)] [] with h | h
  ·rw [h.2.1, show (zAj hB.1 hB.2.1 [([99], zr 500)] []).2.2 = 6 from ex_F]
  ·exact absurd (ex_F.symm.trans h.1) (by decide)
 rw [rD] at kD
 rw [rE] at kE
 rw [ex_rest] at kI
 rw [show zAj hS0 hs0 [([97], [49]), ([98], [50])] [] = hA from rfl] at kA
 rw [show zAj hA.1 hA.2.1 [] [[97]] = hB from rfl] at kB
 rw [show zAw hB.1 hB.2.1 = hC from rfl] at kC
 rw [show zAj hS0 hs0 [([98], [50])] [] = hU from rfl] at kU
 rw [show zAw hU.1 hU.2.1 = hV from rfl] at kV
 have g1 : getK [97] hB.2.1.kv = none := by rw [ex_kv.1]; rfl
 have g2 : getK [98] hB.2.1.kv = some [50] := by rw [ex_kv.1]; rfl
 rw [g1] at kG
 rw [g2] at kH
 simp only [Option.getD_none, Option.isSome_none, Option.getD_some, Option.isSome_some] at kG kH
 rw [← ex_raw] at kX
 have hRF : (hC.1.flatten == hC.1.flatten) = true := beq_self_eq_true _
 have hRL := ex_len
 have h50 : (([50] : Tx) == [50]) = true := rfl
 have hE := zAl
 have hB0 := fun β τ => zAi β τ hS0.flatten
 have hB1 := fun β τ => zAi β τ hA.1.flatten
 have hB2 := fun β τ => zAi β τ hB.1.flatten
 have hB3 := fun β τ => zAi β τ hC.1.flatten
 have hB4 := fun β τ => zAi β τ hU.1.flatten
 have hB5 := fun β τ => zAi β τ hV.1.flatten
 have p1 := put_1 [97] [49]
 have p2 := put_2 ([97], [49]) [98] [50]
 have o1 := zDq (mapT [([97], [49])]).1
 have o0 := zDq []
 have z1 := zF2 20001
 have z2 := zF2 500
 have hbr := zAi
 have hz1 : (zr 20001).length = 20001 := zr_len _
 have hz2 : (zr 500).length = 500 := zr_len _
 have t1 : Int.toNat 20001 = 20001 := rfl
 have t2 : Int.toNat 500 = 500 := rfl
 unfold OpRs at k12
 unfold CmR at kA kB kD kE kU
 simp only [ex_A.1, ex_A.2.1, ex_A.2.2.1, ex_A.2.2.2.1, ex_A.2.2.2.2] at kA kB kC kU kV
 unfold hpS stB dkB byB at *
 unfold opB at *
 simp only [queD, hs0, List.append_nil, List.cons_append, List.nil_append] at *
 rw [show hS0 = newS 20 from rfl] at hB0 kA kU
 simp only [Nat.reduceMul, Nat.reduceSub, Nat.reduceDiv] at *
 generalize bys (newS 20).flatten = Y0 at *
 generalize bys hA.1.flatten = YA at *
 generalize bys hB.1.flatten = YB at *
 generalize bys hC.1.flatten = YC at *
 generalize bys hU.1.flatten = YU at *
 generalize bys hV.1.flatten = YV at *
 generalize hA.2.1.size = zA at *
 generalize hA.2.1.area = aA at *
 generalize hA.2.1.count = nA at *
 generalize hA.2.1.kv = mA at *
 generalize hB.2.1.size = zB at *
 generalize hB.2.1.area = aB at *
 generalize hB.2.1.count = nB at *
 generalize hB.2.1.kv = mB at *
 generalize hC.2.1.size = zC at *
 generalize hC.2.1.area = aC at *
 generalize hC.2.1.count = nC at *
 generalize hC.2.1.kv = mC at *
 generalize hU.2.1.size = zU at *
 generalize hU.2.1.area = aU at *
 generalize hU.2.1.count = nU at *
 generalize hU.2.1.kv = mU at *
 generalize hV.2.1.size = zV at *
 generalize hV.2.1.area = aV at *
 generalize hV.2.1.count = nV at *
 generalize hV.2.1.kv = mV at *
 generalize hC.1.flatten = RF at *
 generalize zr 20001 = Z1 at *
 generalize zr 500 = Z2 at *
 have wQ := And.intro @hE (And.intro @hB0 (And.intro @hB1 (And.intro @hB2 (And.intro @hB3 (And.intro @hB4 @hB5))))); repeat' (first | with_reducible (apply swq; constructor) | simp only [go_sem, seval, P10, pe10, q10, p1, p2, o0, o1, zAp] | simp (disch := omega) only [wA] | ((with_reducible refine o_eff [] [] (k13) ?hs ?he ?hh ?_); (case hs => exact so); (case he | hh => exact sh wQ); rintro _ _ ⟨rfl, rfl⟩) | ((with_reducible refine o_eff [0, 1] [] (k12) ?hs ?he ?hh ?_); (case hs => exact so); (case he | hh => exact sh wQ); rintro _ _ ⟨rfl, l0, c0, rfl, m0⟩) | ((with_reducible refine o_eff [3, 2, 0, 1, 4] [] ((kA _ _ m0)) ?hs ?he ?hh ?_); (case hs => exact so); (case he | hh => exact sh wQ); rintro _ _ ⟨rfl, l1, c1, rfl, m1⟩) | ((with_reducible refine o_eff [3, 2, 0, 1] [] ((kB _ _ m1)) ?hs ?he ?hh ?_); (case hs => exact so); (case he | hh => exact sh wQ); rintro _ _ ⟨rfl, l2, c2, rfl, m2⟩) | ((with_reducible refine o_eff [3, 2, 0, 1] [] ((kG _ _ m2)) ?hs ?he ?hh ?_); (case hs => exact so); (case he | hh => exact sh wQ); rintro _ _ ⟨rfl, rfl⟩) | ((with_reducible refine o_eff [3, 2, 0, 1] [] ((kH _ _ m2)) ?hs ?he ?hh ?_); (case hs => exact so); (case he | hh => exact sh wQ); rintro _ _ ⟨rfl, rfl⟩) | ((with_reducible apply s_bsl); (case he | hl | hc => exact sd wQ)) | ((with_reducible apply s_mks); (case h0 | h1 | h2 => exact sd wQ)) | ((with_reducible apply s_mpu); (case h1 | hk => rfl); (case ha | hp => first | rfl | assumption)) | with_reducible intro _)
 all_goals try omega
 rw [t1, z1]
 repeat' (first | with_reducible (apply swq; constructor) | simp only [go_sem, seval, P10, pe10, q10, zAp] | with_reducible intro _)
 refine s_b2z rfl hz1 ?_
 have wQ := And.intro @hE (And.intro @hB0 (And.intro @hB1 (And.intro @hB2 (And.intro @hB3 (And.intro @hB4 @hB5))))); repeat' (first | with_reducible (apply swq; constructor) | simp only [go_sem, seval, P10, pe10, q10, t2, z2, zAp] | ((with_reducible refine o_eff [] [] (kO) ?hs ?he ?hh ?_); (case hs => exact so); (case he | hh => exact sh wQ); rintro _ _ ⟨rfl, rfl⟩) | ((with_reducible refine o_eff [3, 2, 0, 1, 6] [] ((kD _ _ m2)) ?hs ?he ?hh ?_); (case hs => exact so); (case he | hh => exact sh wQ); rintro _ _ ⟨rfl, l3, c3, rfl, m3⟩) | ((with_reducible apply s_mks); (case h0 | h1 | h2 => exact sd wQ)) | with_reducible intro _)
 all_goals try omega
 refine s_b2z rfl hz2 ?_
 have wQ := And.intro @hE (And.intro @hB0 (And.intro @hB1 (And.intro @hB2 (And.intro @hB3 (And.intro @hB4 @hB5))))); repeat' (first | with_reducible (apply swq; constructor) | simp only [go_sem, seval, P10, pe10, q10, hRF, hRL, h50, zAp] | ((with_reducible refine o_eff [] [] (kP) ?hs ?he ?hh ?_); (case hs => exact so); (case he | hh => exact sh wQ); rintro _ _ ⟨rfl, rfl⟩) | ((with_reducible refine o_eff [3, 2, 0, 1, 8] [] ((kE _ _ m3)) ?hs ?he ?hh ?_); (case hs => exact so); (case he | hh => exact sh wQ); rintro _ _ ⟨rfl, l4, c4, rfl, m4⟩) | ((with_reducible refine o_eff [3, 2, 0, 1] [] ((kC _ _ m4)) ?hs ?he ?hh ?_); (case hs => exact so); (case he | hh => exact sh wQ); rintro _ _ ⟨rfl, rfl⟩) | ((with_reducible refine o_eff [0, 1] [] (kW) ?hs ?he ?hh ?_); (case hs => exact so); (case he | hh => exact sh wQ); rintro _ _ ⟨rfl, rfl⟩) | ((with_reducible refine o_eff [0, 1] [] (kI) ?hs ?he ?hh ?_); (case hs => exact so); (case he | hh => exact sh wQ); rintro _ _ ⟨rfl, l5, c5, rfl, m5⟩) | ((with_reducible refine o_eff [] [] (k13) ?hs ?he ?hh ?_); (case hs => exact so); (case he | hh => exact sh wQ); rintro _ _ ⟨rfl, rfl⟩) | ((with_reducible refine o_eff [11, 12] [] (k12) ?hs ?he ?hh ?_); (case hs => exact so); (case he | hh => exact sh wQ); rintro _ _ ⟨rfl, l6, c6, rfl, m6⟩) | ((with_reducible refine o_eff [] [] (kR) ?hs ?he ?hh ?_); (case hs => exact so); (case he | hh => exact sh wQ); rintro _ _ ⟨rfl, rfl⟩) | ((with_reducible refine o_eff [14, 13, 11, 12, 15] [] ((kU _ _ m6)) ?hs ?he ?hh ?_); (case hs => exact so); (case he | hh => exact sh wQ); rintro _ _ ⟨rfl, l7, c7, rfl, m7⟩) | ((with_reducible refine o_eff [14, 13, 11, 12] [] ((kV _ _ m7)) ?hs ?he ?hh ?_); (case hs => exact so); (case he | hh => exact sh wQ); rintro _ _ ⟨rfl, rfl⟩) | ((with_reducible refine o_eff [10, 9, 0, 1] [] ((kK _ _ m5)) ?hs ?he ?hh ?_); (case hs => exact so); (case he | hh => exact sh wQ); rintro _ _ ⟨rfl, rfl⟩) | ((with_reducible refine zAc (kS) ?he ?hc ?_); (case he | hc => exact sc wQ)) | ((with_reducible refine o_eff [11, 12] [] (kX) ?hs ?he ?hh ?_); (case hs => exact so); (case he | hh => exact sh wQ); rintro _ _ ⟨rfl, rfl⟩) | ((with_reducible apply s_bsl); (case he | hl | hc => exact sd wQ)) | with_reducible intro _)
 all_goals try omega
 exact ⟨_, zAa, rfl, rfl⟩
end Go.Proofs.YtkobjnpmjngklaaGreatDoor
end
section
set_option maxRecDepth 100000
set_option linter.unusedSimpArgs false
set_option linter.unusedVariables false
namespace Go.Proofs.YtkobjnpmjngklaaGreatDoor
open Go GoV
theorem ofL_sub (l : KV) : ∀ p ∈ ofL l, p ∈ l := by
 refine rev_ind (P := fun l => ∀ p ∈ ofL l, p ∈ l) (by simp [ofL]) (fun l a ih p hp => ?_) l
 have e : ofL (l ++ [a]) = insK a.1 a.2 (ofL l) := by simp [ofL]
 rw [e, zC6 (zFk l)] at hp
 rcases hp with h | h
 ·simp [h]
 ·simp [ih p h.2]
theorem ofL_len (l : KV) : (ofL l).length ≤ l.length := by have := zGm l []; simpa [ofL] using this
def KvB (i : Nat) (m : KV) : Prop := m.length ≤ 6 * i ∧ ∀ p ∈ m, p.1.length + p.2.length ≤ 600
theorem apply_b {i : Nat} {m put : KV} {drop : List Tx} (hm : So (ks m)) (h : KvB i m) (hp : put.length ≤ 6) (hpb : ∀ p ∈ put, p.1.length + p.2.length ≤ 600) : KvB (i + 1) (zA9 m put drop) := by
 refine ⟨by have := apply_len m put drop; have := h.1; omega, fun p hq => ?_⟩
 rw [← apply_ofL hm, zE5 hm (zCy (zFk put))] at hq
 rcases hq.2 with q | q
 ·exact hpb p (ofL_sub put p q)
 ·exact h.2 p q.2
theorem apply_same {m put : KV} {drop : List Tx} (hm : So (ks m)) : zA9 m (ofL put) (setT drop) = zA9 m put drop := by
 rw [apply_set hm (zCy (zFk put)), apply_ofL hm]
theorem cl_prs : ∀ l : KV, D.cL (prs l) = true
 | [] => rfl
 | p :: l => by
   have := cl_prs l
   simp only [prs, List.map_cons, D.cL, pairD, D.closed, Bool.true_and] at this ⊢
   exact this
theorem cl_ops : ∀ l : List OpR, D.cL (ops l) = true
 | [] => rfl
 | o :: l => by
   have := cl_ops l
   simp only [ops, List.map_cons, D.cL, opD, D.closed, cl_prs, zAv, Bool.true_and] at this ⊢
   exact this
theorem er_ops : ∀ l : List OpR, D.erL (ops l) = ops l
 | [] => rfl
 | o :: l => by
   have := er_ops l
   simp only [ops, List.map_cons, D.erL, opD, D.er] at this ⊢
   rw [this]
theorem few_o {o : OpR} (h : OpFew o) : o.put.length ≤ 6 ∧ o.drop.length ≤ 6 ∧ (∀ p ∈ o.put, p.1.length + p.2.length ≤ 600) ∧ ∀ k ∈ o.drop, k.length ≤ 600 := ⟨h.1.1, h.1.2, h.2.1, h.2.2⟩
theorem commit_o (n : Nat) (S : Sx) (hS : SxOk S n) (s : Sto) (hs : StOk n s) {l : List Tri} {c : Nat} (hm : MpOk l c s.kv) {o : OpR} (ho : OpFew o) :
 Eff M 14 [.ptr 0 0, .mp 4, .slice (strs o.drop) .no] ⟨(hpS n S s l c).H ++ [.map (entT (mapT o.put).1) (mapT o.put).2], []⟩ (CmR n (zAj S s (ofL o.put) o.drop) [.map (entT (mapT o.put).1) (mapT o.put).2]) := by
 obtain ⟨h1, h2, h3, h4⟩ := few_o ho
 have := ofL_len o.put
 exact commit_e n S hS s hs hm (zEf o.put) (fun p hp => by have := h3 p (ofL_sub _ p hp); omega) (by omega) o.drop (by omega) (fun k hk => by have := h4 k hk; omega)
theorem rem_n (r : Nat) : (4 : Int) + Int.tmod ((r : Nat) : Int) 100 = ((4 + r % 100 : Nat) : Int) := by
 rw [Int.tmod_eq_emod_of_nonneg (Int.natCast_nonneg r)]; omega
end Go.Proofs.YtkobjnpmjngklaaGreatDoor
end
section
set_option maxRecDepth 100000
set_option linter.unusedSimpArgs false
set_option linter.unusedVariables false
namespace GoV
open Go Go.RowKit Go.ChangeShapes Go.Deep
def OpensZ (P : Program) (w : World) (n : Nat) (t : TypeId) {α : Type} (f : α → List D) (ok : α → Prop) : Prop :=
 ∀ (H : Type) (enc : TypeId × Value → H) (cs : List Value) (x : DataW H × List MemPlace), DataW.trod enc P w 0 (fun _ => true) true n t cs = some x → (∀ m ∈ DataW.weights P t x.1, m ≤ reachBytes) →
  ∃ a, ok a ∧ RelL w (G0 w) (f a) cs ∧ ∀ y ∈ cs, oneC y
section
variable {P : Program} {w : World} {n : Nat} {t e : TypeId}
theorem zD0 {H : Type} {e : TypeId} : ∀ {l : List (DataW H)} {d : DataW H} {m : Nat}, d ∈ l → m ∈ DataW.weights P e d → m ∈ DataW.weightsAll P e l
 | [], _, _, h, _ => by simp at h
 | d0 :: l, d, m, h, hm => by
   simp only [DataW.weightsAll, List.mem_append]
   rcases List.mem_cons.1 h with rfl | h
   ·exact .inl hm
   ·exact .inr (zD0 h hm)
theorem OpensZ.imp {α β : Type} {f : α → List D} {ok : α → Prop} {f' : β → List D} {ok' : β → Prop} (h : OpensZ P w n t f ok) (c : α → β) (h1 : ∀ a, ok a → f' (c a) = f a) (h2 : ∀ a, ok a → ok' (c a)) : OpensZ P w n t f' ok' := by
 intro H enc cs x hx hz
 obtain ⟨a, k1, k2, k3⟩ := h H enc cs x hx hz
 exact ⟨c a, h2 a k1, by rw [h1 a k1]; exact k2, k3⟩
theorem Opens.toZ {α : Type} {f : α → List D} {ok : α → Prop} (h : Opens P w n t f ok) : OpensZ P w n t f ok := fun H enc cs x hx _ => h H enc cs x hx
theorem opensZ_str (ht : P.underlying t = some .string) : OpensZ P w n t (fun s : List UInt8 => [.str s]) (fun s => s.length ≤ reachBytes) := by
 intro H enc cs x hx hz
 obtain ⟨s, rfl, rfl, hl⟩ := DataW.trod_string ht hx
 refine ⟨s.data.toList, ?_, RelL.one (by simp [Rel]), by simp [oneC, Value.oneCell']⟩
 exact hz _ (by simp [DataW.weights])
theorem zEs {α : Type} {f : α → List D} {ok : α → Prop} (ht : P.underlying t = some (.slice e)) (hc : 0 < P.cellsOf e) (h : OpensZ P w n e f ok) :
 OpensZ P w (n + 1) t (fun l : List α => [.slice (l.map fun a => pk (f a)) .no]) (fun l => l.length * P.bytesOf e ≤ reachBytes ∧ ∀ a ∈ l, ok a) := by
 intro H enc cs x hx hz
 rcases DataW.trod_slice ht hx with ⟨rfl, _⟩ | ⟨a, len, cap, elems, rest, n', hn, rfl, hxe, _, hlc, hm, hlen, hel, _⟩
 ·refine ⟨[], by simp, RelL.one ?_, by simp [oneC, Value.oneCell']⟩
  simp only [Rel]
  exact ⟨⟨0, 0, none⟩, 0, 0, [], .inr ⟨by simp, by simp, rfl⟩, by simp, RelL.nil, by simp, At.nil, trivial⟩
 obtain rfl : n = n' := by omega
 have hx1 : x.1 = .slice (elems.map (·.1)) (rest.map (·.1)) := congrArg Prod.fst hxe
 rw [hx1, DataW.weights, ht] at hz
 have hzl : len * P.bytesOf e ≤ reachBytes := by
  have := hz _ (List.mem_cons_self ..)
  rw [List.length_map, List.length_map, hlen] at this
  exact Nat.le_trans (Nat.mul_le_mul_right _ (Nat.le_add_right _ _)) this
 have hze : ∀ y ∈ elems, ∀ m ∈ DataW.weights P e y.1, m ≤ reachBytes := fun y hy m hm => hz m (List.mem_cons_of_mem _ (List.mem_append_left _ (zD0 (List.mem_map_of_mem hy) hm)))
 have one : ∀ i, i < len → ∃ av : α × Value, ok av.1 ∧ Rel w (G0 w) (pk (f av.1)) av.2 ∧ w.cells? 0 (a.add (i * P.cellsOf e)) (P.cellsOf e) = some av.2.cells.toList ∧ ∀ y ∈ av.2.cells.toList, oneC y := by
  intro i hi
  have h1 := hel i hi
  rw [List.getElem?_eq_getElem (by omega)] at h1
  obtain ⟨cs', h2, h3⟩ := Option.bind_eq_some_iff.1 h1
  obtain ⟨b, k1, k2, k3⟩ := h H enc cs' _ h3 (hze _ (List.getElem_mem _))
  obtain ⟨v, k4, k5⟩ := rel_pk k2 k3
  exact ⟨⟨b, v⟩, k1, k4, by rw [k5]; exact h2, by rw [k5]; exact k3⟩
 obtain ⟨l, hl, hq⟩ := list_choose len one
 have hrel : ∀ (l : List (α × Value)), (∀ i (h : i < l.length), Rel w (G0 w) (pk (f (l[i]).1)) (l[i]).2) → RelL w (G0 w) (l.map fun av => pk (f av.1)) (l.map (·.2)) := by
  intro l
  induction l with
  | nil => intro _; exact RelL.nil
  | cons x l ih => intro hh; exact RelL.cons (hh 0 (by simp)) (ih fun i hi => hh (i + 1) (by simpa using hi))
 have hsz : ∀ y ∈ l.map (·.2), y.cells.size = P.cellsOf e := by
  intro y hy
  obtain ⟨av, hav, rfl⟩ := List.mem_map.1 hy
  obtain ⟨i, hi, rfl⟩ := List.getElem_of_mem hav
  have := (World.cells?_some (hq i hi).2.2.1).2.1
  simpa using this
 have cap_le := hzl
 refine ⟨l.map (·.1), ⟨by simpa [hl] using cap_le, fun b hb => ?_⟩, RelL.one ?_, by simp [oneC, Value.oneCell']⟩
 ·obtain ⟨av, hav, rfl⟩ := List.mem_map.1 hb
  obtain ⟨i, hi, rfl⟩ := List.getElem_of_mem hav
  exact (hq i hi).1
 ·simp only [Rel]
  refine ⟨a, cap, P.cellsOf e, l.map (·.2), .inl (by simp [hl]), by simp [hl, hlc], ?_, hsz, ⟨fun hne => ?_, fun j y hj => ?_⟩, trivial⟩
  ·have := hrel l fun i hi => (hq i hi).2.1
   rw [List.map_map]
   exact this
  ·have hpos : 0 < l.length := by
    rcases Nat.eq_zero_or_pos l.length with q | q
    ·exfalso; apply hne
     rw [List.length_eq_zero_iff.1 q]; rfl
    ·exact q
   have hc0 := (World.cells?_some (hq 0 hpos).2.2.1).2.2 0 hc
   have hlen0 := (World.cells?_some (hq 0 hpos).2.2.1).2.1
   rw [List.getElem?_eq_getElem (by omega)] at hc0
   simp only [Nat.zero_mul] at hc0
   have ha0 : ∀ b : Addr, b.add 0 = b := fun b => by simp [Addr.add]
   rw [ha0, ha0] at hc0
   unfold World.cell? at hc0
   split at hc0
   ·split at hc0
    ·cases hc0
    ·rename_i hs; simpa using hs
   ·cases hc0
  ·obtain ⟨x, h1, h2⟩ := flat_get hc hsz hj
   rw [List.getElem?_map] at h1
   obtain ⟨av, hav, rfl⟩ := Option.map_eq_some_iff.1 h1
   have hi : j / P.cellsOf e < l.length := by
    rcases Nat.lt_or_ge (j / P.cellsOf e) l.length with q | q
    ·exact q
    ·rw [List.getElem?_eq_none q] at hav; cases hav
   rw [List.getElem?_eq_getElem hi] at hav
   cases hav
   obtain ⟨_, _, k3, k4⟩ := hq _ hi
   have hm := Nat.mod_lt j hc
   have hcell := (World.cells?_some k3).2.2 _ hm
   rw [h2] at hcell
   have hadd : w.cell? ((a.add (j / P.cellsOf e * P.cellsOf e)).add (j % P.cellsOf e)) = w.cell? ⟨a.block, a.off + j, none⟩ := by
    rw [add_add]
    have e1 : j / P.cellsOf e * P.cellsOf e + j % P.cellsOf e = j := Nat.div_add_mod' j _
    rw [e1]
    unfold Addr.add
    split
    ·rename_i hj0
     subst hj0
     rw [add_add, e1] at hcell
     have : a.add 0 = a := by simp [Addr.add]
     rw [this] at hcell
     have hsp : a.spot = none := by
      unfold World.cell? at hcell
      split at hcell
      ·split at hcell
       ·cases hcell
       ·rename_i hs; simpa using hs
      ·cases hcell
     obtain ⟨b, o, s⟩ := a
     simp at hsp; subst hsp; rfl
    ·rfl
   rw [hadd] at hcell
   refine ⟨hcell, ?_, k4 y (List.mem_of_getElem? h2)⟩
   have := World.block_lt_of_cell? w _ hcell
   exact this
def OpensFZ (P : Program) (w : World) (n : Nat) (fs : List Field) (off : Nat) {α : Type} (f : α → List D) (ok : α → Prop) : Prop :=
 ∀ (H : Type) (enc : TypeId × Value → H) (cs : List Value), cs.length = off + (fs.map fun f => P.cellsOf f.type).sum →
  (∀ f ∈ fs, ∃ x, DataW.trod enc P w 0 (fun _ => true) true n f.type ((cs.drop f.offset).take (P.cellsOf f.type)) = some x ∧ ∀ m ∈ DataW.weights P f.type x.1, m ≤ reachBytes) →
  ∃ a, ok a ∧ RelL w (G0 w) (f a) (cs.drop off) ∧ ∀ y ∈ cs.drop off, oneC y
theorem opensFZ_nil {off : Nat} : OpensFZ P w n [] off (fun _ : Unit => []) (fun _ => True) := by
 intro H enc cs hl _
 have : cs.drop off = [] := List.drop_eq_nil_of_le (by simp at hl; omega)
 rw [this]
 exact ⟨(), trivial, RelL.nil, by simp⟩
theorem zCa {α β : Type} {f : α → List D} {ok : α → Prop} {g : β → List D} {ok' : β → Prop} {fl : Field} {fs : List Field} {off c : Nat} (ho : fl.offset = off) (hc : P.cellsOf fl.type = c) (h : OpensZ P w n fl.type f ok) (hr : OpensFZ P w n fs (off + c) g ok') :
 OpensFZ P w n (fl :: fs) off (fun p : α × β => f p.1 ++ g p.2) (fun p => ok p.1 ∧ ok' p.2) := by
 subst ho; subst hc
 intro H enc cs hl hf
 simp only [List.map_cons, List.sum_cons] at hl
 obtain ⟨x, hx, hz⟩ := hf fl (by simp)
 obtain ⟨a, k1, k2, k3⟩ := h H enc _ x hx hz
 obtain ⟨b, j1, j2, j3⟩ := hr H enc cs (by omega) (fun f hm => hf f (by simp [hm]))
 have e : cs.drop fl.offset = (cs.drop fl.offset).take (P.cellsOf fl.type) ++ cs.drop (fl.offset + P.cellsOf fl.type) := by
  rw [← List.drop_drop, List.take_append_drop]
 refine ⟨(a, b), ⟨k1, j1⟩, ?_, ?_⟩
 ·rw [e]; exact k2.append j2
 ·rw [e]
  intro y hy
  rcases List.mem_append.1 hy with q | q
  ·exact k3 y q
  ·exact j3 y q
theorem opensZ_struct {α : Type} {f : α → List D} {ok : α → Prop} {fs : List Field} (ht : P.underlying t = some (.struct fs.toArray)) (hc : P.cellsOf t = (fs.map fun f => P.cellsOf f.type).sum) (h : OpensFZ P w n fs 0 f ok) : OpensZ P w (n + 1) t f ok := by
 intro H enc cs x hx hz
 obtain ⟨xs, n', hn, hxe, hl, hlen, hf⟩ := DataW.trod_struct ht hx
 obtain rfl : n = n' := by omega
 have hx1 : x.1 = .agg (xs.map (·.1)) := congrArg Prod.fst hxe
 rw [hx1, DataW.weights, ht] at hz
 have := h H enc cs (by omega) (fun f hm => by
  obtain ⟨i, hi, rfl⟩ := List.getElem_of_mem hm
  have hq := hf i fs[i] (by simp [hi])
  rw [hq]
  have : i < xs.length := by rw [hlen]; simpa using hi
  refine ⟨xs[i], List.getElem?_eq_getElem this, fun m hm => hz m (DataW.weights_mem_each (j := i) (t := fs[i].type) (d := xs[i].1) ?_ ?_ m hm)⟩
  ·simp [hi]
  ·simp [this])
 simpa using this
theorem opensZ_two {α : Type} {f : α → D} {ok : α → Prop} (ht : P.underlying t = some (.array 2 e)) (hc : P.cellsOf e = 1) (hc2 : P.cellsOf t = 2) (h : OpensZ P w n e (fun a : α => [f a]) ok) :
 OpensZ P w (n + 1) t (fun p : α × α => [f p.1, f p.2]) (fun p => ok p.1 ∧ ok p.2) := by
 intro H enc cs x hx hz
 obtain ⟨xs, n', hn, hxe, hl, hlen, hf⟩ := DataW.trod_array ht hx
 obtain rfl : n = n' := by omega
 have hx1 : x.1 = .agg (xs.map (·.1)) := congrArg Prod.fst hxe
 rw [hx1, DataW.weights, ht] at hz
 rw [hc2] at hl
 rw [hc] at hf
 obtain ⟨c0, c1, rfl⟩ : ∃ c0 c1, cs = [c0, c1] := by
  match cs, hl with
  | [c0, c1], _ => exact ⟨c0, c1, rfl⟩
 have h0 := hf 0 (by decide)
 have h1 := hf 1 (by decide)
 rw [List.getElem?_eq_getElem (by omega)] at h0 h1
 obtain ⟨a, k1, k2, k3⟩ := h H enc _ _ h0 (fun m hm => hz m (zD0 (List.mem_map_of_mem (List.getElem_mem _)) hm))
 obtain ⟨b, j1, j2, j3⟩ := h H enc _ _ h1 (fun m hm => hz m (zD0 (List.mem_map_of_mem (List.getElem_mem _)) hm))
 simp only [Nat.zero_mul, List.drop_zero, Nat.one_mul, List.drop_succ_cons, List.take_succ_cons, List.take_zero] at k2 k3 j2 j3
 refine ⟨(a, b), ⟨k1, j1⟩, ?_, ?_⟩
 ·exact k2.append j2
 ·intro y hy
  simp only [List.mem_cons, List.not_mem_nil, or_false] at hy
  rcases hy with rfl | rfl
  ·exact k3 _ (by simp)
  ·exact j3 _ (by simp)
theorem opensZ_zero {α : Type} {f : α → List D} {ok : α → Prop} : OpensZ P w 0 t f ok := by
 intro H enc cs x hx
 simp [DataW.trod] at hx
theorem zDw {α : Type} {f : α → List D} {ok : α → Prop} (h : ∀ n, OpensZ P w (n + 1) t f ok) : ∀ n, OpensZ P w n t f ok
 | 0 => opensZ_zero
 | n + 1 => h n
theorem arg_cellZ {α : Type} {f : α → List D} {ok : α → Prop} {H : Type} {enc : TypeId × Value → H} {v : Value} {d : DataW H} {ps : List MemPlace} {b : Nat} {desc : TypeDesc} (ht : P.underlying t = some desc) (hd : zBi desc = false) (hval : Value.okWide P w .any b t v)
 (h : DataW.Trod enc P w 0 (fun _ => true) true t v d ps) (hO : ∀ n, OpensZ P w n t f ok) {ts : List TypeId} {ds : List (DataW H)} (hZ : (DataW.weightsEach P ts ds).all (· ≤ reachBytes) = true) (j : Nat) (h1 : ts[j]? = some t) (h2 : ds[j]? = some d) : ∃ a, ok a ∧ RelL w (G0 w) (f a) [v] := by
 obtain ⟨fuel, hx⟩ := h
 obtain ⟨a, k1, k2, _⟩ := hO fuel H enc _ _ hx (fun m hm => by
  have := List.all_eq_true.1 hZ _ (DataW.weights_mem_each h1 h2 m hm)
  simpa using this)
 refine ⟨a, k1, ?_⟩
 have hv : oneC v := by
  cases v with
  | agg cs =>
    exfalso
    unfold Value.okWide at hval
    rw [ht] at hval
    cases desc <;> simp_all [zBi, Cell.okWide, Cell.ok]
  | tuple cs =>
    exfalso
    unfold Value.okWide at hval
    rw [ht] at hval
    cases desc <;> simp_all [zBi, Cell.okWide, Cell.ok]
  | _ => simp [oneC, Value.oneCell']
 rw [zE4 hv] at k2
 exact k2
end
end GoV
namespace Go.Proofs.YtkobjnpmjngklaaGreatDoor
open Go GoV
theorem opens_pair {w : World} : ∀ n, OpensZ Tryz.prog w n 66 (fun p : Tx × Tx => [.str p.1, .str p.2]) (fun p => p.1.length ≤ reachBytes ∧ p.2.length ≤ reachBytes) :=
 zDw fun n => opensZ_two (f := fun s : Tx => .str s) Tryz.underlying66 (by kernel_rfl) (by kernel_rfl) (opensZ_str Tryz.underlying9)
theorem opens_put {w : World} : ∀ n, OpensZ Tryz.prog w n 35 (fun l : KV => [.slice (prs l) .no]) (fun l => l.length ≤ reachBytes ∧ ∀ p ∈ l, p.1.length ≤ reachBytes ∧ p.2.length ≤ reachBytes) :=
 zDw fun n => (zEs Tryz.underlying35 (show 0 < Tryz.prog.cellsOf 66 by rw [show Tryz.prog.cellsOf 66 = 2 by kernel_rfl]; omega) (opens_pair n)).imp id (fun a _ => rfl) (fun a h => ⟨by
  have := h.1
  rw [show Tryz.prog.bytesOf 66 = 32 by kernel_rfl] at this
  exact Nat.le_trans (Nat.le_mul_of_pos_right _ (by decide)) this, h.2⟩)
theorem opens_drop {w : World} : ∀ n, OpensZ Tryz.prog w n 31 (fun l : List Tx => [.slice (strs l) .no]) (fun l => l.length ≤ reachBytes ∧ ∀ p ∈ l, p.length ≤ reachBytes) :=
 zDw fun n => (zEs Tryz.underlying31 (show 0 < Tryz.prog.cellsOf 9 by rw [show Tryz.prog.cellsOf 9 = 1 by kernel_rfl]; omega) (opensZ_str (n := n) Tryz.underlying9)).imp id (fun a _ => rfl) (fun a h => ⟨by
  have := h.1
  rw [show Tryz.prog.bytesOf 9 = 16 by kernel_rfl] at this
  exact Nat.le_trans (Nat.le_mul_of_pos_right _ (by decide)) this, h.2⟩)
theorem opens_op {w : World} : ∀ n, OpensZ Tryz.prog w n 37 (fun o : OpR => [.int .i64 o.kind, .slice (prs o.put) .no, .slice (strs o.drop) .no, .int .i64 o.a, .int .i64 o.b, .int .i64 o.c]) (fun o => OpBd o) :=
 zDw fun n => (opensZ_struct (fs := [_, _, _, _, _, _]) Tryz.underlying37 (by kernel_rfl)
  (zCa (c := 1) rfl (by kernel_rfl) (zGf Tryz.underlying3).toZ (zCa (c := 1) rfl (by kernel_rfl) (opens_put n) (zCa (c := 1) rfl (by kernel_rfl) (opens_drop n)
   (zCa (c := 1) rfl (by kernel_rfl) (zGf Tryz.underlying3).toZ (zCa (c := 1) rfl (by kernel_rfl) (zGf Tryz.underlying3).toZ (zCa (c := 1) rfl (by kernel_rfl) (zGf Tryz.underlying3).toZ opensFZ_nil)))))
  )).imp (fun x => ⟨x.1, x.2.1, x.2.2.1, x.2.2.2.1, x.2.2.2.2.1, x.2.2.2.2.2.1⟩) (fun a _ => rfl) (fun a h => by
   have hr : reachBytes ≤ 1000000000000000 := by decide
   obtain ⟨_, ⟨h1, h2⟩, ⟨h3, h4⟩, _⟩ := h
   exact ⟨Nat.le_trans h1 hr, Nat.le_trans h3 hr, fun p hp => ⟨Nat.le_trans (h2 p hp).1 hr, Nat.le_trans (h2 p hp).2 hr⟩, fun k hk => Nat.le_trans (h4 k hk) hr⟩)
theorem opens_ops {w : World} : ∀ n, OpensZ Tryz.prog w n 22 (fun l : List OpR => [.slice (ops l) .no]) (fun l => l.length ≤ 1000000000000000 ∧ ∀ o ∈ l, OpBd o) :=
 zDw fun n => (zEs Tryz.underlying22 (show 0 < Tryz.prog.cellsOf 37 by rw [show Tryz.prog.cellsOf 37 = 6 by kernel_rfl]; omega) (opens_op n)).imp id (fun a _ => rfl) (fun a h => ⟨by
  have := h.1
  rw [show Tryz.prog.bytesOf 37 = 80 by kernel_rfl] at this
  have hr : reachBytes ≤ 1000000000000000 := by decide
  exact Nat.le_trans (Nat.le_trans (Nat.le_mul_of_pos_right _ (by decide)) this) hr, h.2⟩)
end Go.Proofs.YtkobjnpmjngklaaGreatDoor
end
section
set_option maxRecDepth 100000
set_option linter.unusedSimpArgs false
set_option linter.unusedVariables false
namespace Go.Proofs.YtkobjnpmjngklaaGreatDoor
open Go
theorem zC1 {S : Sx} {i : Nat} {l : Sx} (h : i + l.length ≤ S.length) (j : Nat) : secAt (putS S i l) j = if i ≤ j ∧ j < i + l.length then l.getD (j - i) [] else secAt S j := by
 simp only [secAt, List.getD_eq_getElem?_getD, putS_get h]
 split <;> rfl
theorem zCv {S : Sx} {i : Nat} {l : Sx} (h : i + l.length ≤ S.length) {j : Nat} (hj : ¬ (i ≤ j ∧ j < i + l.length)) : secAt (putS S i l) j = secAt S j := by
 rw [zC1 h, if_neg hj]
theorem sec_one {S : Sx} {i : Nat} {x : Tx} (h : i + 1 ≤ S.length) : secAt (putS S i [x]) i = x := by
 rw [zC1 (by simpa using h), if_pos (by simp)]; simp
theorem sx_ext {A B : Sx} {n : Nat} (hA : SxOk A n) (hB : SxOk B n) (h : ∀ j, j < n → secAt A j = secAt B j) : A = B := by
 refine List.ext_getElem (by rw [hA.len, hB.len]) fun j h1 h2 => ?_
 have := h j (by rw [← hA.len]; exact h1)
 simpa [secAt, List.getD_eq_getElem?_getD, h1, h2] using this
theorem logK_congr {S S' : Sx} {z a : Nat} : ∀ (c : Nat), (∀ i, i < c → secAt S' (plc z a i) = secAt S (plc z a i)) → logK S' z a c = logK S z a c
 | 0, _ => rfl
 | c + 1, h => by rw [logK, logK, logK_congr c fun i hi => h i (by omega), h c (by omega)]
theorem zEg {S S' : Sx} {z a c : Nat} (h : ∀ i, i < c → secAt S' (plc z a i) = secAt S (plc z a i)) : loadK S' z a c = loadK S z a c := by
 unfold loadK; rw [logK_congr c h]
theorem plc_sum (z a c k : Nat) : plc z a (c + k) = plc z a c + k := by unfold plc; omega
theorem plc_2 (z a i : Nat) : 2 ≤ plc z a i := by unfold plc; omega
theorem plc_lt {z a i : Nat} (ha : a < 2) (hi : i ≤ z) : plc z a i ≤ 2 + 2 * z := by
 unfold plc
 have : a = 0 ∨ a = 1 := by omega
 rcases this with h | h <;> subst h <;> omega
theorem logK_add {S : Sx} {z a c : Nat} {l : Tx} (hl : logK S z a c = some l) (t : Tx) (hz : plc z a c + cntK t ≤ S.length) : logK (putS S (plc z a c) (secK (plc z a c) (chK t))) z a (c + cntK t) = some (l ++ t) := by
 have hlen : (secK (plc z a c) (chK t)).length = cntK t := by rw [zCo, zA0]
 have hb : plc z a c + (secK (plc z a c) (chK t)).length ≤ S.length := by omega
 have key : ∀ k, k ≤ (chK t).length → logK (putS S (plc z a c) (secK (plc z a c) (chK t))) z a (c + k) = some (l ++ ((chK t).take k).flatten) := by
  intro k
  induction k with
  | zero =>
    intro _
    rw [Nat.add_zero, logK_congr c fun i hi => zCv hb (by unfold plc; omega), hl]
    simp
  | succ k ih =>
    intro hk
    have hk' : k < (chK t).length := hk
    rw [← Nat.add_assoc, logK, ih (by omega)]
    have e : secAt (putS S (plc z a c) (secK (plc z a c) (chK t))) (plc z a (c + k)) = sealT (plc z a (c + k)) (dgW (chK t)[k].length 2 ++ (chK t)[k]) := by
     rw [zC1 hb, plc_sum, if_pos ⟨by omega, by rw [hlen, ← zA0]; omega⟩, List.getD_eq_getElem?_getD, Nat.add_sub_cancel_left, secK_get _ _ _ hk']
     rfl
    have hel := chK_el (List.getElem_mem hk')
    dsimp only
    rw [e, pieK_seal hel.1 hel.2, if_neg (fun h => by rw [h] at hel; simp at hel), List.append_assoc, List.take_succ_eq_append_getElem hk', List.flatten_append]
    simp
 have := key (chK t).length (Nat.le_refl _)
 rw [List.take_length, chK_cat, zA0] at this
 exact this
theorem load_add {S : Sx} {z a c : Nat} {m put : KV} {drop : List Tx} (h : loadK S z a c = some m) (hc : c ≤ 1000000) (hz : plc z a c + cntK (textK put drop) ≤ S.length)
 (hp : So (ks put)) (hd : So drop) (hw : zAr put drop = 0) (h0 : put.length + drop.length ≠ 0) (h1 : put.length ≤ 1000000) (h2 : drop.length ≤ 1000000) :
 loadK (putS S (plc z a c) (secK (plc z a c) (chK (textK put drop)))) z a (c + cntK (textK put drop)) = some (zA9 m put drop) := by
 unfold loadK at h ⊢
 cases q : logK S z a c with
 | none => rw [q] at h; cases h
 | some l =>
   rw [q] at h
   dsimp only at h
   cases q2 : zCe l with
   | none => rw [q2] at h; cases h
   | some cs =>
     rw [q2] at h
     dsimp only at h
     rw [logK_add q _ hz]
     have e1 := splitK_some q2
     have e2 := split_le _ q2
     have e3 := logK_le _ _ q
     have hs := listK_small hw h1 h2
     have hj := joinK_le (B := 20000) (by omega) _ hs
     have hll : (listK put drop).length ≤ 4000000 := by
      have := zBb put
      simp only [listK, List.cons_append, List.length_cons, List.length_append]; omega
     have hj2 : (joinK (listK put drop)).length ≤ 4000000 * (20000 + 19) := Nat.le_trans hj (Nat.mul_le_mul_right _ hll)
     have e4 : l ++ textK put drop = joinK (cs ++ [joinK (listK put drop)]) := by rw [joinK_app, e1]; rfl
     have e5 : zCe (l ++ textK put drop) = some (cs ++ [joinK (listK put drop)]) := by
      rw [e4]
      refine splitK_join fun s hs => ?_
      rcases List.mem_append.1 hs with r | r
      ·have := e2.2 s r; omega
      ·rw [List.mem_singleton] at r; subst r; omega
     dsimp only
     rw [e5]
     dsimp only
     rw [List.foldlM_append, h]
     show ([joinK (listK put drop)].foldlM zAo m) = _
     rw [List.foldlM_cons, replay_text hp hd hw h0 h1 h2]
     rfl
structure Cns (n : Nat) (S : Sx) (h : Option (Nat × Nat)) (m : KV) : Prop where
 n4 : 4 ≤ n
 n8 : n ≤ 8000
 ok : SxOk S n
 h1 : secAt S 1 = wantK 1 h
 h0 : secAt S 0 = wantK 0 h
 hb : (h.getD (0, 0)).1 < 2 ∧ (h.getD (0, 0)).2 ≤ (n - 2) / 2
 ld : loadK S ((n - 2) / 2) (h.getD (0, 0)).1 (h.getD (0, 0)).2 = some m
structure Opn (n : Nat) (S : Sx) (h : Option (Nat × Nat)) (m : KV) : Prop where
 n4 : 4 ≤ n
 n8 : n ≤ 8000
 ok : SxOk S n
 hd : zCi S ((n - 2) / 2) = h
 h0 : h = none → secAt S 0 = zr 64
 hb : (h.getD (0, 0)).1 < 2 ∧ (h.getD (0, 0)).2 ≤ (n - 2) / 2
 ld : loadK S ((n - 2) / 2) (h.getD (0, 0)).1 (h.getD (0, 0)).2 = some m
theorem zF5 {z pl : Nat} {h : Option (Nat × Nat)} (hz : z ≤ 8000) (hb : (h.getD (0, 0)).1 < 2 ∧ (h.getD (0, 0)).2 ≤ z) : posK z pl (wantK pl h) = h := by
 cases h with
 | none => exact zr_pos z pl
 | some p => exact posK_head (a := p.1) (c := p.2) hb.1 hb.2 (by omega)
theorem Cns.head {n : Nat} {S : Sx} {h : Option (Nat × Nat)} {m : KV} (C : Cns n S h m) : zCi S ((n - 2) / 2) = h := by
 have := C.n8
 rw [zCi, C.h1, C.h0, zF5 (by omega) C.hb, zF5 (by omega) C.hb]
 cases h <;> rfl
theorem Cns.opn {n : Nat} {S : Sx} {h : Option (Nat × Nat)} {m : KV} (C : Cns n S h m) : Opn n S h m :=
 ⟨C.n4, C.n8, C.ok, C.head, fun e => by rw [C.h0, e]; rfl, C.hb, C.ld⟩
theorem cns_new {n : Nat} (h4 : 4 ≤ n) (h8 : n ≤ 8000) : Cns n (newS n) none [] :=
 ⟨h4, h8, zEc n, zC4 (by omega), zC4 (by omega), ⟨by decide, Nat.zero_le _⟩, rfl⟩
theorem rest_sec {n : Nat} {S : Sx} (hS : SxOk S n) {pl : Nat} (hp : pl < n) (h : Option (Nat × Nat)) : secAt (goW S (restW S pl h)) pl = wantK pl h ∧ ∀ j, j ≠ pl → secAt (goW S (restW S pl h)) j = secAt S j := by
 have hl := hS.len
 cases h with
 | none =>
   rw [restW_f]
   split
   ·rename_i e; exact ⟨e, fun _ _ => rfl⟩
   ·refine ⟨sec_one (by omega), fun j hj => zCv (by simp; omega) (by simp; omega)⟩
 | some p =>
   obtain ⟨a, d⟩ := p
   rw [restW_t]
   split
   ·rename_i e; exact ⟨e, fun _ _ => rfl⟩
   ·have h2 : (putS S pl [zr 64]).length = S.length := zGe (by simp; omega)
    refine ⟨sec_one (by omega), fun j hj => ?_⟩
    rw [zCv (by simp; omega) (by simp; omega), zCv (by simp; omega) (by simp; omega)]
theorem Opn.cns {n : Nat} {S : Sx} {h : Option (Nat × Nat)} {m : KV} (C : Opn n S h m) : Cns n (rest2 S h) h m := by
 have n4 := C.n4
 have n8 := C.n8
 have hb : (h.getD (0, 0)).1 < 2 ∧ (h.getD (0, 0)).2 ≤ 8000 := ⟨C.hb.1, by have := C.hb.2; omega⟩
 have k1 : SxOk (rest1 S h) n := restW_ok C.ok (by omega) hb
 have k2 : SxOk (rest2 S h) n := restW_ok k1 (by omega) hb
 have e1 := rest_sec C.ok (pl := 1) (by omega) h
 have e0 := rest_sec k1 (pl := 0) (by omega) h
 refine ⟨n4, n8, k2, ?_, e0.1, C.hb, ?_⟩
 ·rw [rest2, e0.2 1 (by omega)]; exact e1.1
 ·rw [← C.ld]
  refine zEg fun i hi => ?_
  have := plc_2 ((n - 2) / 2) (h.getD (0, 0)).1 i
  rw [rest2, e0.2 _ (by omega), rest1, e1.2 _ (by omega)]
theorem head_pad {a c : Nat} (ha : a < 10) (hc : c < 10000000) : (dgW a 1 ++ dgW c 7).length = 8 := by
 have h1 := zCh (n := a) (w := 1) (by simpa using ha) (by omega)
 have h2 := zCh (n := c) (w := 7) (by simpa using hc) (by omega)
 simp [h1, h2]
theorem head_tail {pl a c : Nat} (ha : a < 10) (hc : c < 10000000) {j : Nat} (hj : 24 ≤ j) : (headT pl a c)[j]? = (zr 64)[j]? := by
 have h1 := head_pad ha hc
 have h2 : (headT pl a c)[16 + (j - 16)]? = (padT (dgW a 1 ++ dgW c 7))[j - 16]? := by
  rw [← List.getElem?_drop]
  rw [show headT pl a c = sealT pl (dgW a 1 ++ dgW c 7) from rfl, zEn]
 rw [show 16 + (j - 16) = j by omega] at h2
 rw [h2, padT, List.getElem?_append_right (by omega), h1]
 simp only [zr, List.getElem?_replicate]
 by_cases e : j < 64
 ·rw [if_pos (by omega), if_pos (by omega)]
 ·rw [if_neg (by omega), if_neg (by omega)]
theorem head_first {a c : Nat} (ha : a < 10) (hc : c < 10000000) : padT (dgW a 1 ++ dgW c 7) ≠ zr 48 := by
 intro e
 have h1 := zCh (n := a) (w := 1) (by simpa using ha) (by omega)
 have h2 : ∀ x ∈ padT (dgW a 1 ++ dgW c 7), x = 0 := fun x hx => by rw [e] at hx; exact List.eq_of_mem_replicate hx
 match q : dgW a 1, h1 with
 | [x], _ =>
   have hx := h2 x (by rw [padT, q]; simp)
   have := (dgW_dv a 1).2 x (by rw [q]; simp)
   rw [hx] at this
   revert this; decide
theorem torn_head {z pl k : Nat} {h : Option (Nat × Nat)} {p q : Nat × Nat} (hpl : pl < 2) (hz : z ≤ 8000) (hb : (h.getD (0, 0)).1 < 2 ∧ (h.getD (0, 0)).2 ≤ z) (hp : p.1 < 2 ∧ p.2 ≤ z)
 (hq : posK z pl ((headT pl p.1 p.2).take k ++ (wantK pl h).drop k) = some q) : (headT pl p.1 p.2).take k ++ (wantK pl h).drop k = wantK pl h ∨ (headT pl p.1 p.2).take k ++ (wantK pl h).drop k = headT pl p.1 p.2 := by
 obtain ⟨g1, g2, g3⟩ := posK_some hq
 have l1 : (headT pl p.1 p.2).length = 64 := zC7 (by omega) (by omega)
 have c1 := head_pad (a := q.1) (c := q.2) (by omega) (by omega)
 have c2 := head_pad (a := p.1) (c := p.2) (by omega) (by omega)
 by_cases hk : 16 < k
 ·right
  have hol : (wantK pl h).length = 64 := by
   cases h with
   | none => simp [wantK]
   | some r => exact zC7 (by have : r.1 < 2 := hb.1; omega) (by have : r.2 ≤ z := hb.2; omega)
  have hzz : ∀ j, 24 ≤ j → (wantK pl h)[j]? = (headT pl p.1 p.2)[j]? := fun j hj => by
   rw [head_tail (by omega) (by omega) hj]
   cases h with
   | none => rfl
   | some r => exact head_tail (by have : r.1 < 2 := hb.1; omega) (by have : r.2 ≤ z := hb.2; omega) hj
  have := seal_torn (place := pl) (k := k) (c := dgW p.1 1 ++ dgW p.2 7) (o := wantK pl h) (c' := dgW q.1 1 ++ dgW q.2 7) (by omega) (by omega) (by omega) hk hol hzz g1
  rw [← g1]
  exact this
 ·left
  have hd : (headT pl q.1 q.2).drop 16 = (wantK pl h).drop 16 := by
   rw [g1, List.drop_append, List.drop_of_length_le (by simp; omega), List.nil_append, List.drop_drop, List.length_take]
   congr 1
   omega
  rw [show headT pl q.1 q.2 = sealT pl (dgW q.1 1 ++ dgW q.2 7) from rfl, zEn] at hd
  cases h with
  | none =>
    exfalso
    refine head_first (a := q.1) (c := q.2) (by omega) (by omega) ?_
    rw [hd]
    simp [wantK, zr]
  | some r =>
    have hr1 : r.1 < 2 := hb.1
    have hr2 : r.2 ≤ z := hb.2
    have hd2 : padT (dgW q.1 1 ++ dgW q.2 7) = padT (dgW r.1 1 ++ dgW r.2 7) := by
     rw [hd, show wantK pl (some r) = sealT pl (dgW r.1 1 ++ dgW r.2 7) from rfl, zEn]
    rw [← g1]
    show sealT pl (dgW q.1 1 ++ dgW q.2 7) = sealT pl (dgW r.1 1 ++ dgW r.2 7)
    rw [zF9, zF9, hd2]
def Part (n : Nat) (S : Sx) (i : Nat) (L S' : Sx) : Prop :=
 SxOk S' n ∧ ∀ j, secAt S' j = secAt S j ∨ (i ≤ j ∧ j < i + L.length ∧ ∃ k, secAt S' j = (L.getD (j - i) []).take k ++ (secAt S j).drop k)
inductive Crash (n : Nat) : Sx → Wr → Sx → Prop
 | here {S S' : Sx} {i : Nat} {L : Sx} {ws : Wr} : Part n S i L S' → Crash n S ((i, L) :: ws) S'
 | next {S S' : Sx} {i : Nat} {L : Sx} {ws : Wr} : Crash n (putS S i L) ws S' → Crash n S ((i, L) :: ws) S'
theorem zGr {n : Nat} : ∀ (a : Wr) {b : Wr} {S S' : Sx}, Crash n S (a ++ b) S' → Crash n S a S' ∨ Crash n (goW S a) b S'
 | [], b, S, S', h => .inr h
 | g :: a, b, S, S', h => by
   cases h with
   | here h => exact .inl (.here h)
   | next h =>
     rcases zGr a h with q | q
     ·exact .inl (.next q)
     ·exact .inr q
theorem Part.out {n i : Nat} {S L S' : Sx} (h : Part n S i L S') {j : Nat} (hj : ¬ (i ≤ j ∧ j < i + L.length)) : secAt S' j = secAt S j := by
 rcases h.2 j with q | q
 ·exact q
 ·exact absurd ⟨q.1, q.2.1⟩ hj
theorem Cns.same {n : Nat} {S S' : Sx} {h : Option (Nat × Nat)} {m : KV} (C : Cns n S h m) (ok : SxOk S' n) (h1 : secAt S' 1 = secAt S 1) (h0 : secAt S' 0 = secAt S 0)
 (hl : ∀ i, i < (h.getD (0, 0)).2 → secAt S' (plc ((n - 2) / 2) (h.getD (0, 0)).1 i) = secAt S (plc ((n - 2) / 2) (h.getD (0, 0)).1 i)) : Cns n S' h m :=
 ⟨C.n4, C.n8, ok, by rw [h1]; exact C.h1, by rw [h0]; exact C.h0, C.hb, by rw [zEg hl]; exact C.ld⟩
theorem free_crash {n i : Nat} {S L : Sx} {h : Option (Nat × Nat)} {m : KV} (C : Cns n S h m) (h2 : 2 ≤ i) (hi : i + L.length ≤ n) (hL : ∀ t ∈ L, t.length = 64)
 (hf : ∀ j, j < (h.getD (0, 0)).2 → plc ((n - 2) / 2) (h.getD (0, 0)).1 j < i ∨ i + L.length ≤ plc ((n - 2) / 2) (h.getD (0, 0)).1 j) :
 (∀ S', Part n S i L S' → Cns n S' h m) ∧ Cns n (putS S i L) h m := by
 refine ⟨fun S' hP => C.same hP.1 (hP.out (by omega)) (hP.out (by omega)) fun j hj => hP.out ?_, ?_⟩
 ·have := hf j hj; omega
 ·have hl : i + L.length ≤ S.length := by rw [C.ok.len]; exact hi
  refine C.same (zB1 C.ok hi hL) (zCv hl (by omega)) (zCv hl (by omega)) fun j hj => zCv hl ?_
  have := hf j hj; omega
theorem set_crash {n : Nat} {S : Sx} {h : Option (Nat × Nat)} {m m' : KV} {a d : Nat} (C : Cns n S h m) (ha : a < 2) (hd : d ≤ (n - 2) / 2) (hl : loadK S ((n - 2) / 2) a d = some m') :
 (∀ S', Crash n S (setW a d) S' → ∃ h', Opn n S' h' m ∨ Opn n S' h' m') ∧ Cns n (goW S (setW a d)) (some (a, d)) m' := by
 have n4 := C.n4
 have n8 := C.n8
 have hS := C.ok.len
 have L1 : ∀ pl, (headT pl a d).length = 64 := fun pl => zC7 (by omega) (by omega)
 have k1 : SxOk (putS S 1 [headT 1 a d]) n := zB1 C.ok (by simp; omega) (by simp [L1])
 have k0 : SxOk (putS (putS S 1 [headT 1 a d]) 0 [headT 0 a d]) n := zB1 k1 (by simp; omega) (by simp [L1])
 have s1 : secAt (putS S 1 [headT 1 a d]) 1 = headT 1 a d := sec_one (by omega)
 have lnew : ∀ S', (∀ j, 2 ≤ j → secAt S' j = secAt S j) → loadK S' ((n - 2) / 2) a d = some m' := fun S' hh => by
  rw [← hl]; exact zEg fun i hi => hh _ (plc_2 _ _ _)
 have lold : ∀ S', (∀ j, 2 ≤ j → secAt S' j = secAt S j) → loadK S' ((n - 2) / 2) (h.getD (0, 0)).1 (h.getD (0, 0)).2 = some m := fun S' hh => by
  rw [← C.ld]; exact zEg fun i hi => hh _ (plc_2 _ _ _)
 have p1 : posK ((n - 2) / 2) 1 (headT 1 a d) = some (a, d) := posK_head ha hd (by omega)
 refine ⟨fun S' hP => ?_, ?_⟩
 ·cases hP with
  | here hP =>
    have hout : ∀ j, j ≠ 1 → secAt S' j = secAt S j := fun j hj => hP.out (by simp; omega)
    have hout2 : ∀ j, 2 ≤ j → secAt S' j = secAt S j := fun j hj => hout j (by omega)
    have hs1 : ∃ k, secAt S' 1 = (headT 1 a d).take k ++ (wantK 1 h).drop k := by
     rcases hP.2 1 with q | ⟨_, _, k, q⟩
     ·exact ⟨0, by rw [q, C.h1]; simp⟩
     ·exact ⟨k, by rw [q, C.h1]; simp⟩
    obtain ⟨k, hk⟩ := hs1
    cases hpos : posK ((n - 2) / 2) 1 (secAt S' 1) with
    | none =>
      refine ⟨h, .inl ⟨n4, n8, hP.1, ?_, fun e => ?_, C.hb, lold S' hout2⟩⟩
      ·rw [zCi, hpos, hout 0 (by omega), C.h0]; exact zF5 (by omega) C.hb
      ·rw [hout 0 (by omega), C.h0, e]; rfl
    | some q =>
      rw [hk] at hpos
      rcases torn_head (p := (a, d)) (by omega) (by omega) C.hb ⟨ha, hd⟩ hpos with e | e
      ·rw [e, zF5 (by omega) C.hb] at hpos
       refine ⟨h, .inl ⟨n4, n8, hP.1, ?_, fun e2 => (by rw [hpos] at e2; cases e2), C.hb, lold S' hout2⟩⟩
       rw [zCi, hk, e, zF5 (by omega) C.hb, hpos]
      ·refine ⟨some (a, d), .inr ⟨n4, n8, hP.1, ?_, fun e2 => (by cases e2), ⟨ha, hd⟩, lnew S' hout2⟩⟩
       rw [zCi, hk, e, p1]
  | next hP =>
    cases hP with
    | here hP =>
      have hout : ∀ j, j ≠ 0 → secAt S' j = secAt (putS S 1 [headT 1 a d]) j := fun j hj => hP.out (by simp only [List.length_cons, List.length_nil]; omega)
      have hout2 : ∀ j, 2 ≤ j → secAt S' j = secAt S j := fun j hj => by rw [hout j (by omega)]; exact zCv (by simp; omega) (by simp; omega)
      refine ⟨some (a, d), .inr ⟨n4, n8, hP.1, ?_, fun e2 => (by cases e2), ⟨ha, hd⟩, lnew S' hout2⟩⟩
      rw [zCi, hout 1 (by omega), s1, p1]
    | next hP => cases hP
 ·have hl1 : (putS S 1 [headT 1 a d]).length = n := k1.len
  have e2 : ∀ j, 2 ≤ j → secAt (putS (putS S 1 [headT 1 a d]) 0 [headT 0 a d]) j = secAt S j := fun j hj => by
   rw [zCv (by simp; omega) (by simp; omega), zCv (by simp; omega) (by simp; omega)]
  refine ⟨n4, n8, k0, ?_, sec_one (S := putS S 1 [headT 1 a d]) (by omega), ⟨ha, hd⟩, lnew _ e2⟩
  show secAt (putS (putS S 1 [headT 1 a d]) 0 [headT 0 a d]) 1 = _
  rw [zCv (by simp; omega) (by simp), s1]; rfl
theorem add_crash {n : Nat} {S : Sx} {h : Option (Nat × Nat)} {m m' : KV} {b d : Nat} {t : Tx} (C : Cns n S h m) (hb : b < 2) (hd : d + cntK t ≤ (n - 2) / 2)
 (hf : ∀ j, j < (h.getD (0, 0)).2 → plc ((n - 2) / 2) (h.getD (0, 0)).1 j < plc ((n - 2) / 2) b d ∨ plc ((n - 2) / 2) b d + cntK t ≤ plc ((n - 2) / 2) (h.getD (0, 0)).1 j)
 (hl : loadK (putS S (plc ((n - 2) / 2) b d) (secK (plc ((n - 2) / 2) b d) (chK t))) ((n - 2) / 2) b (d + cntK t) = some m') :
 (∀ S', Crash n S (addW ((n - 2) / 2) b d t) S' → ∃ h', Opn n S' h' m ∨ Opn n S' h' m') ∧ Cns n (goW S (addW ((n - 2) / 2) b d t)) (some (b, d + cntK t)) m' := by
 have n4 := C.n4
 have n8 := C.n8
 have hlen : (secK (plc ((n - 2) / 2) b d) (chK t)).length = cntK t := by rw [zCo, zA0]
 have hp := plc_lt (i := d + cntK t) hb hd
 rw [plc_sum] at hp
 have F := free_crash (i := plc ((n - 2) / 2) b d) (L := secK (plc ((n - 2) / 2) b d) (chK t)) C (plc_2 _ _ _) (by rw [hlen]; omega) (zFo _ _ fun x hx => (chK_el hx).2) (by rw [hlen]; exact hf)
 have T := set_crash F.2 hb hd hl
 rw [← zA0] at T
 refine ⟨fun S' hc => ?_, by rw [← zA0]; exact T.2⟩
 cases hc with
 | here hP => exact ⟨h, .inl (F.1 S' hP).opn⟩
 | next hP => exact T.1 S' hP
theorem clr_crash {n : Nat} {S : Sx} {h : Option (Nat × Nat)} {m : KV} {b i : Nat} (C : Cns n S h m) (hb : b < 2) (hi : i ≤ (n - 2) / 2)
 (hf : ∀ j, j < (h.getD (0, 0)).2 → plc ((n - 2) / 2) (h.getD (0, 0)).1 j < plc ((n - 2) / 2) b i ∨ plc ((n - 2) / 2) b i + ((n - 2) / 2 - i) ≤ plc ((n - 2) / 2) (h.getD (0, 0)).1 j) :
 (∀ S', Crash n S (clrW ((n - 2) / 2) b i) S' → ∃ h', Opn n S' h' m) ∧ Cns n (goW S (clrW ((n - 2) / 2) b i)) h m := by
 have n4 := C.n4
 have hp := plc_lt (i := (n - 2) / 2) hb (Nat.le_refl _)
 have e : plc ((n - 2) / 2) b ((n - 2) / 2) = plc ((n - 2) / 2) b i + ((n - 2) / 2 - i) := by rw [← plc_sum]; congr 1; omega
 have F := free_crash (i := plc ((n - 2) / 2) b i) (L := List.replicate ((n - 2) / 2 - i) (zr 64)) C (plc_2 _ _ _) (by simp; omega) (fun t ht => by rw [List.eq_of_mem_replicate ht]; simp) (by simpa using hf)
 refine ⟨fun S' hc => ?_, F.2⟩
 cases hc with
 | here hP => exact ⟨h, (F.1 S' hP).opn⟩
 | next hP => cases hP
end Go.Proofs.YtkobjnpmjngklaaGreatDoor
end
section
set_option maxRecDepth 100000
set_option linter.unusedSimpArgs false
set_option linter.unusedVariables false
namespace Go.Proofs.YtkobjnpmjngklaaGreatDoor
open Go
theorem wrong_set {put : KV} {drop : List Tx} (h : zAr put drop = 0) : zAr put (setT drop) = 0 := by
 obtain ⟨h1, h2⟩ := wrong_ok h
 refine wrong_of (fun p hp => ?_) fun k hk => h2 k (setT_mem.1 hk)
 have := h1 p hp
 exact ⟨this.1, this.2.1, fun e => this.2.2.1 (setT_mem.1 e), this.2.2.2⟩
theorem commit_crash {n : Nat} {S : Sx} {h : Option (Nat × Nat)} {m put : KV} {drop : List Tx} (C : Cns n S h m) (hp : So (ks put)) (hw : zAr put drop = 0) (h0 : put.length + (setT drop).length ≠ 0)
 (h1 : put.length ≤ 1000000) (h2 : drop.length ≤ 1000000) (hc : (h.getD (0, 0)).2 + cntK (textK put (setT drop)) ≤ (n - 2) / 2) :
 (∀ S', Crash n S (addW ((n - 2) / 2) (h.getD (0, 0)).1 (h.getD (0, 0)).2 (textK put (setT drop))) S' → ∃ h', Opn n S' h' m ∨ Opn n S' h' (zA9 m put (setT drop))) ∧
 Cns n (goW S (addW ((n - 2) / 2) (h.getD (0, 0)).1 (h.getD (0, 0)).2 (textK put (setT drop)))) (some ((h.getD (0, 0)).1, (h.getD (0, 0)).2 + cntK (textK put (setT drop)))) (zA9 m put (setT drop)) := by
 have n8 := C.n8
 have n4 := C.n4
 have hp2 := plc_lt (i := (h.getD (0, 0)).2 + cntK (textK put (setT drop))) C.hb.1 hc
 rw [plc_sum] at hp2
 refine add_crash C C.hb.1 hc (fun j hj => .inl (by unfold plc; omega)) ?_
 refine load_add C.ld (by omega) (by rw [C.ok.len]; omega) hp (setT_so drop) (wrong_set hw) h0 h1 ?_
 exact Nat.le_trans (setT_len drop) h2
theorem load_whole {S : Sx} {z b : Nat} {m : KV} (hm : So (ks m)) (hw : zAr m [] = 0) (hl : m.length ≤ 1000000) (hz : plc z b 0 + cntK (zAn m) ≤ S.length) :
 loadK (putS S (plc z b 0) (secK (plc z b 0) (chK (zAn m)))) z b (0 + cntK (zAn m)) = some m := by
 by_cases e : m = []
 ·subst e
  have : zAn ([] : KV) = [] := rfl
  rw [this]; rfl
 ·have e2 : zAn m = textK m [] := by rw [zAn, if_neg e]
  rw [e2] at hz ⊢
  have hne : m.length ≠ 0 := fun h => e (List.length_eq_zero_iff.1 h)
  rw [load_add (m := []) (put := m) (drop := []) rfl (by omega) hz hm trivial hw (by simpa using hne) hl (by simp), apply_nil hm]
theorem zFq {n a : Nat} {S : Sx} {h : Option (Nat × Nat)} {m : KV} (C : Cns n S h m) (ha : (h.getD (0, 0)).1 = a) (hm : So (ks m)) (hw : zAr m [] = 0) (hl : m.length ≤ 1000000) (ht : cntK (zAn m) ≤ (n - 2) / 2) :
 (∀ S', Crash n S (zBc ((n - 2) / 2) a (zAn m)) S' → ∃ h', Opn n S' h' m) ∧ Cns n (goW S (zBc ((n - 2) / 2) a (zAn m))) (some (1 - a, cntK (zAn m))) m := by
 have n4 := C.n4
 have hb := C.hb
 rw [ha] at hb
 have ha2 : a = 0 ∨ a = 1 := by omega
 have hS := C.ok.len
 have hp2 := plc_lt (z := (n - 2) / 2) (a := 1 - a) (i := cntK (zAn m)) (by omega) ht
 have ep : plc ((n - 2) / 2) (1 - a) (cntK (zAn m)) = plc ((n - 2) / 2) (1 - a) 0 + cntK (zAn m) := by rw [← plc_sum, Nat.zero_add]
 have A := add_crash (b := 1 - a) (d := 0) (t := zAn m) (m' := m) C (by omega) (by omega) (fun j hj => by
  have := hb.2
  rw [ha]
  unfold plc
  rcases ha2 with q | q <;> subst q <;> simp <;> omega) (load_whole hm hw hl (by omega))
 rw [Nat.zero_add] at A
 have B := clr_crash (b := a) (i := 0) A.2 (by omega) (Nat.zero_le _) (fun j hj => by
  simp only [Option.getD_some] at hj ⊢
  unfold plc
  rcases ha2 with q | q <;> subst q <;> simp <;> omega)
 refine ⟨fun S' hc => ?_, by rw [zBc, zEv]; exact B.2⟩
 rcases zGr _ hc with q | q
 ·obtain ⟨h', e | e⟩ := A.1 S' q
  iterate 2
   ·exact ⟨h', e⟩
 ·exact B.1 S' q
theorem comp_crash {n : Nat} {S : Sx} {h : Option (Nat × Nat)} {m : KV} (C : Cns n S h m) (hm : So (ks m)) (hw : zAr m [] = 0) (hl : m.length ≤ 1000000) (ht : cntK (zAn m) ≤ (n - 2) / 2) :
 (∀ S', Crash n S (compW ((n - 2) / 2) (h.getD (0, 0)).1 (zAn m)) S' → ∃ h', Opn n S' h' m) ∧ Cns n (goW S (compW ((n - 2) / 2) (h.getD (0, 0)).1 (zAn m))) (some (0, cntK (zAn m))) m := by
 have hb := C.hb
 have key : (∀ S', Crash n S (if (h.getD (0, 0)).1 = 1 then zBc ((n - 2) / 2) 1 (zAn m) else zBc ((n - 2) / 2) (h.getD (0, 0)).1 (zAn m) ++ zBc ((n - 2) / 2) 1 (zAn m)) S' → ∃ h', Opn n S' h' m) ∧
  Cns n (goW S (if (h.getD (0, 0)).1 = 1 then zBc ((n - 2) / 2) 1 (zAn m) else zBc ((n - 2) / 2) (h.getD (0, 0)).1 (zAn m) ++ zBc ((n - 2) / 2) 1 (zAn m))) (some (0, cntK (zAn m))) m := by
  split
  ·rename_i e; exact zFq C e hm hw hl ht
  ·have e : (h.getD (0, 0)).1 = 0 := by omega
   have A := zFq C e hm hw hl ht
   have B := zFq (a := 1) A.2 rfl hm hw hl ht
   rw [e]
   refine ⟨fun S' hc => ?_, by rw [zEv]; exact B.2⟩
   rcases zGr _ hc with q | q
   ·exact A.1 S' q
   ·exact B.1 S' q
 have D := clr_crash (b := 0) (i := (chK (zAn m)).length) key.2 (by decide) (by rw [zA0]; exact ht) (fun j hj => by
  rw [zA0]
  simp only [Option.getD_some] at hj ⊢
  unfold plc
  simp; omega)
 rw [compW]
 refine ⟨fun S' hc => ?_, by rw [zEv]; exact D.2⟩
 rcases zGr _ hc with q | q
 ·exact key.1 S' q
 ·exact D.1 S' q
theorem goW_out {n k : Nat} : ∀ (l : Wr) {S : Sx}, S.length = n → k ≤ n → (∀ g ∈ l, g.1 + g.2.length ≤ k) → ∀ j, k ≤ j → secAt (goW S l) j = secAt S j
 | [], S, _, _, _, j, _ => rfl
 | g :: l, S, h, hk, hl, j, hj => by
   have h1 := hl g (by simp)
   have h2 : (putS S g.1 g.2).length = n := by rw [zGe (by omega)]; exact h
   show secAt (goW (putS S g.1 g.2) l) j = _
   rw [goW_out l h2 hk (fun x hx => hl x (by simp [hx])) j hj, zCv (by omega) (by omega)]
def Idle (n : Nat) (S : Sx) : Prop := ∀ j, 2 + 2 * ((n - 2) / 2) ≤ j → j < n → secAt S j = zr 64
theorem idle_go {n : Nat} {S : Sx} {l : Wr} (hS : SxOk S n) (h4 : 4 ≤ n) (h : Idle n S) (hl : ∀ g ∈ l, g.1 + g.2.length ≤ 2 + 2 * ((n - 2) / 2)) : Idle n (goW S l) := fun j hj hn => by
 rw [goW_out l hS.len (by omega) hl j hj]; exact h j hj hn
theorem idle_add {n a c : Nat} {S : Sx} {t : Tx} (hS : SxOk S n) (h4 : 4 ≤ n) (h8 : n ≤ 8000) (h : Idle n S) (ha : a < 2) (hc : c + cntK t ≤ (n - 2) / 2) : Idle n (goW S (addW ((n - 2) / 2) a c t)) :=
 idle_go hS h4 h fun g hg => (add_w (n := 2 + 2 * ((n - 2) / 2)) (z := (n - 2) / 2) (by omega) (by omega) (by omega) ha t hc g hg).1
theorem idle_comp {n a : Nat} {S : Sx} {t : Tx} (hS : SxOk S n) (h4 : 4 ≤ n) (h8 : n ≤ 8000) (h : Idle n S) (ha : a < 2) (hc : cntK t ≤ (n - 2) / 2) : Idle n (goW S (compW ((n - 2) / 2) a t)) :=
 idle_go hS h4 h fun g hg => (comp_w (n := 2 + 2 * ((n - 2) / 2)) (z := (n - 2) / 2) (by omega) (by omega) (by omega) ha t hc g hg).1
theorem idle_new (n : Nat) : Idle n (newS n) := fun j _ h => zC4 h
def canS (n : Nat) (t : Tx) : Sx := putS (putS (putS (newS n) 2 (secK 2 (chK t))) 1 [headT 1 0 (cntK t)]) 0 [headT 0 0 (cntK t)]
theorem last_raw {n : Nat} {S : Sx} {t : Tx} (hS : SxOk S n) (h4 : 4 ≤ n) (h8 : n ≤ 8000) (h : Idle n S) (ht : cntK t ≤ (n - 2) / 2) :
 goW S (zBc ((n - 2) / 2) 1 t ++ clrW ((n - 2) / 2) 0 (chK t).length) = canS n t := by
 obtain ⟨z, hz⟩ : ∃ z, z = (n - 2) / 2 := ⟨_, rfl⟩
 rw [← hz] at ht ⊢
 have L1 : ∀ pl, (headT pl 0 (cntK t)).length = 64 := fun pl => zC7 (by omega) (by omega)
 have p0 : ∀ i, plc z 0 i = 2 + i := fun i => by simp [plc]
 have p1 : plc z 1 0 = 2 + z := by simp [plc]
 have hl : (secK 2 (chK t)).length = cntK t := by rw [zCo, zA0]
 have h64 : ∀ x ∈ secK 2 (chK t), x.length = 64 := zFo _ _ fun x hx => (chK_el hx).2
 have hr : ∀ k, ∀ x ∈ List.replicate k (zr 64), x.length = 64 := fun k x hx => by rw [List.eq_of_mem_replicate hx]; simp
 have e : goW S (zBc z 1 t ++ clrW z 0 (chK t).length) = putS (putS (putS (putS (putS S 2 (secK 2 (chK t))) 1 [headT 1 0 (cntK t)]) 0 [headT 0 0 (cntK t)]) (2 + z) (List.replicate z (zr 64))) (2 + cntK t) (List.replicate (z - cntK t) (zr 64)) := by
  simp only [zBc, addW, setW, clrW, goW, List.foldl_append, List.foldl_cons, List.foldl_nil, List.cons_append, List.nil_append, zA0, Nat.sub_self, p0, p1, Nat.add_zero, Nat.zero_add, Nat.sub_zero]
 rw [e]
 have k1 : SxOk (putS S 2 (secK 2 (chK t))) n := zB1 hS (by omega) h64
 have k2 : SxOk (putS (putS S 2 (secK 2 (chK t))) 1 [headT 1 0 (cntK t)]) n := zB1 k1 (by simp; omega) (by simp [L1])
 have k3 : SxOk (putS (putS (putS S 2 (secK 2 (chK t))) 1 [headT 1 0 (cntK t)]) 0 [headT 0 0 (cntK t)]) n := zB1 k2 (by simp; omega) (by simp [L1])
 have k4 : SxOk (putS (putS (putS (putS S 2 (secK 2 (chK t))) 1 [headT 1 0 (cntK t)]) 0 [headT 0 0 (cntK t)]) (2 + z) (List.replicate z (zr 64))) n := zB1 k3 (by simp; omega) (hr _)
 have k5 := zB1 (i := 2 + cntK t) (l := List.replicate (z - cntK t) (zr 64)) k4 (by simp; omega) (hr _)
 have q1 : SxOk (putS (newS n) 2 (secK 2 (chK t))) n := zB1 (zEc n) (by omega) h64
 have q2 : SxOk (putS (putS (newS n) 2 (secK 2 (chK t))) 1 [headT 1 0 (cntK t)]) n := zB1 q1 (by simp; omega) (by simp [L1])
 have q3 : SxOk (canS n t) n := zB1 q2 (by simp; omega) (by simp [L1])
 refine sx_ext k5 q3 fun j hj => ?_
 have R : ∀ k i, i < k → (List.replicate k (zr 64)).getD i [] = zr 64 := fun k i hi => by simp [List.getD_eq_getElem?_getD, List.getElem?_replicate, hi]
 rw [canS, zC1 (by rw [k4.len]; simp; omega), zC1 (by rw [k3.len]; simp; omega), zC1 (by rw [k2.len]; simp; omega), zC1 (by rw [k1.len]; simp; omega), zC1 (by rw [hS.len]; omega),
  zC1 (by rw [q2.len]; simp; omega), zC1 (by rw [q1.len]; simp; omega), zC1 (by rw [(zEc n).len]; omega)]
 simp only [List.length_replicate, List.length_cons, List.length_nil, hl]
 by_cases c1 : 2 + cntK t ≤ j ∧ j < 2 + cntK t + (z - cntK t)
 ·rw [if_pos c1, R _ _ (by omega), if_neg (by omega), if_neg (by omega), if_neg (by omega), zC4 hj]
 ·rw [if_neg c1]
  by_cases c2 : 2 + z ≤ j ∧ j < 2 + z + z
  ·rw [if_pos c2, R _ _ (by omega), if_neg (by omega), if_neg (by omega), if_neg (by omega), zC4 hj]
  ·rw [if_neg c2]
   by_cases c3 : 2 + 2 * z ≤ j
   ·rw [if_neg (by omega), if_neg (by omega), if_neg (by omega), if_neg (by omega), if_neg (by omega), if_neg (by omega), zC4 hj]
    exact h j (by omega) hj
   ·by_cases c4 : 2 ≤ j
    ·have c5 : 2 ≤ j ∧ j < 2 + cntK t := by omega
     simp only [if_pos c5]
    ·rcases (by omega : j = 0 ∨ j = 1) with rfl | rfl <;> simp
theorem comp_raw {n a : Nat} {S : Sx} {t : Tx} (hS : SxOk S n) (h4 : 4 ≤ n) (h8 : n ≤ 8000) (h : Idle n S) (ha : a < 2) (ht : cntK t ≤ (n - 2) / 2) : goW S (compW ((n - 2) / 2) a t) = canS n t := by
 rw [compW]
 split
 ·exact last_raw hS h4 h8 h ht
 ·rw [List.append_assoc, zEv]
  refine last_raw (round_ok hS t h4 h8 rfl ha ht).2 h4 h8 ?_ ht
  rw [zBc]
  refine idle_go hS h4 h fun g hg => ?_
  rcases List.mem_append.1 hg with q | q
  ·exact (add_w (n := 2 + 2 * ((n - 2) / 2)) (z := (n - 2) / 2) (by omega) (by omega) (by omega) (by omega) t (by omega) g q).1
  ·exact (clr_w (n := 2 + 2 * ((n - 2) / 2)) (z := (n - 2) / 2) (by omega) (by omega) ha (Nat.zero_le _) g q).1
theorem restW_id {S : Sx} {pl : Nat} {h : Option (Nat × Nat)} (e : secAt S pl = wantK pl h) : goW S (restW S pl h) = S := by
 have : restW S pl h = [] := by unfold restW; rw [if_pos e]
 rw [this]; rfl
theorem Cns.rest {n : Nat} {S : Sx} {h : Option (Nat × Nat)} {m : KV} (C : Cns n S h m) : rest2 S h = S := by
 have : rest1 S h = S := restW_id C.h1
 rw [rest2, this, restW_id C.h0]
end Go.Proofs.YtkobjnpmjngklaaGreatDoor
end
section
set_option maxRecDepth 100000
set_option linter.unusedSimpArgs false
set_option linter.unusedVariables false
namespace Go.Proofs.YtkobjnpmjngklaaGreatDoor
open Go
structure StJ (n : Nat) (S : Sx) (s : Sto) (h : Option (Nat × Nat)) : Prop where
 cns : Cns n S h s.kv
 idle : Idle n S
 sz : s.size = (n - 2) / 2
 ar : s.area = (h.getD (0, 0)).1
 ct : s.count = (h.getD (0, 0)).2
 so : So (ks s.kv)
 wr : zAr s.kv [] = 0
theorem StJ.st {n : Nat} {S : Sx} {s : Sto} {h : Option (Nat × Nat)} (I : StJ n S s h) : StOk n s :=
 ⟨I.cns.n4, I.cns.n8, I.sz, by rw [I.ar]; exact I.cns.hb.1, by rw [I.ct, I.sz]; exact I.cns.hb.2⟩
theorem stj_new {n : Nat} (h4 : 4 ≤ n) (h8 : n ≤ 8000) : StJ n (newS n) ⟨(n - 2) / 2, 0, 0, []⟩ none :=
 ⟨cns_new h4 h8, idle_new n, rfl, rfl, rfl, trivial, rfl⟩
theorem wrong_apply {m put : KV} {drop : List Tx} (hm : So (ks m)) (hp : (ks put).Nodup) (h1 : zAr m [] = 0) (h2 : zAr put drop = 0) (d : List Tx) : zAr (zA9 m put d) [] = 0 := by
 refine wrong_of (fun p hpp => ?_) (by simp)
 have a1 := (wrong_ok h1).1
 have a2 := (wrong_ok h2).1
 rw [zE5 hm hp] at hpp
 rcases hpp.2 with q | q
 ·have := a2 p q
  exact ⟨this.1, this.2.1, by simp, this.2.2.2⟩
 ·have := a1 p q.2
  exact ⟨this.1, this.2.1, by simp, this.2.2.2⟩
theorem commit_gen {n : Nat} {S : Sx} {s : Sto} {h : Option (Nat × Nat)} (I : StJ n S s h) (put : KV) (drop : List Tx) (hp : So (ks put)) (h1 : put.length ≤ 1000000) (h2 : drop.length ≤ 1000000) :
 (∃ f : Int, f ≠ 0 ∧ (f = 6 ∨ f = zAr put drop) ∧ zAj S s put drop = (S, s, f)) ∨
 ∃ S' s' h', zAj S s put drop = (S', s', 0) ∧ zAr put drop = 0 ∧ StJ n S' s' h' ∧ s'.kv = zA9 s.kv put (setT drop) := by
 unfold zAj
 by_cases c1 : zAr put drop ≠ 0
 ·rw [if_pos c1]
  exact .inl ⟨_, c1, .inr rfl, rfl⟩
 ·rw [if_neg c1]
  have c1 : zAr put drop = 0 := by simpa using c1
  by_cases c2 : put.length + (setT drop).length = 0
  ·rw [if_pos c2]
   have e1 : put = [] := List.length_eq_zero_iff.1 (by omega)
   have e2 : setT drop = [] := List.length_eq_zero_iff.1 (by omega)
   refine .inr ⟨_, _, h, rfl, c1, I, ?_⟩
   rw [e1, e2]; rfl
  ·rw [if_neg c2]
   by_cases c3 : s.size - s.count < cntK (textK put (setT drop))
   ·rw [if_pos c3]
    exact .inl ⟨6, by decide, .inl rfl, rfl⟩
   ·rw [if_neg c3]
    have hst := I.st
    have hct := hst.ct
    have hsz := I.sz
    have hca := I.ct
    have hle : (h.getD (0, 0)).2 + cntK (textK put (setT drop)) ≤ (n - 2) / 2 := by omega
    have C := (commit_crash I.cns hp c1 c2 h1 h2 hle).2
    refine .inr ⟨_, _, some ((h.getD (0, 0)).1, (h.getD (0, 0)).2 + cntK (textK put (setT drop))), rfl, c1, ⟨?_, ?_, I.sz, I.ar, ?_, apply_so I.so, wrong_apply I.so (zCy hp) I.wr c1 _⟩, rfl⟩
    ·rw [I.sz, I.ar, I.ct]; exact C
    ·rw [I.sz, I.ar, I.ct]; exact idle_add I.cns.ok I.cns.n4 I.cns.n8 I.idle I.cns.hb.1 hle
    ·show s.count + (chK _).length = _
     rw [zA0, I.ct]; rfl
theorem zC9 {n : Nat} {S : Sx} {s : Sto} {h : Option (Nat × Nat)} (I : StJ n S s h) (hl : s.kv.length ≤ 1000000) :
 zAw S s = (S, s, 6) ∨ ∃ s', zAw S s = (canS n (zAn s.kv), s', 0) ∧ StJ n (canS n (zAn s.kv)) s' (some (0, cntK (zAn s.kv))) ∧ s'.kv = s.kv := by
 unfold zAw
 by_cases c : s.size < cntK (zAn s.kv)
 ·rw [if_pos c]; exact .inl rfl
 ·rw [if_neg c]
  right
  have hz := I.sz
  have ht : cntK (zAn s.kv) ≤ (n - 2) / 2 := by omega
  have C := (comp_crash I.cns I.so I.wr hl ht).2
  have E := comp_raw I.cns.ok I.cns.n4 I.cns.n8 I.idle I.cns.hb.1 ht
  have D := idle_comp I.cns.ok I.cns.n4 I.cns.n8 I.idle I.cns.hb.1 ht
  rw [E] at C D
  refine ⟨{ s with area := 0, count := (chK (zAn s.kv)).length }, ?_, ⟨C, D, I.sz, rfl, ?_, I.so, I.wr⟩, rfl⟩
  ·rw [I.sz, I.ar, E]
  ·show (chK _).length = _
   rw [zA0]; rfl
def stepK (x : Sx × Sto) (o : OpR) : Sx × Sto := if o.kind = 1 then ((zAw x.1 x.2).1, (zAw x.1 x.2).2.1) else ((zAj x.1 x.2 (ofL o.put) o.drop).1, (zAj x.1 x.2 (ofL o.put) o.drop).2.1)
def runK (n : Nat) (l : List OpR) : Sx × Sto := l.foldl stepK (newS n, ⟨(n - 2) / 2, 0, 0, []⟩)
theorem runK_step {n : Nat} {l : List OpR} {i : Nat} (h : i < l.length) : runK n (l.take (i + 1)) = stepK (runK n (l.take i)) l[i] := by
 rw [List.take_succ_eq_append_getElem h]; simp [runK, -List.take_append_getElem]
theorem kvb_le {i j : Nat} {m : KV} (h : KvB i m) (hij : i ≤ j) : KvB j m := ⟨by have := h.1; omega, h.2⟩
theorem step_ok {n : Nat} {x : Sx × Sto} {h : Option (Nat × Nat)} (I : StJ n x.1 x.2 h) {i : Nat} (hi : i ≤ 100) (hk : KvB i x.2.kv) {o : OpR} (ho : OpFew o) : ∃ h', StJ n (stepK x o).1 (stepK x o).2 h' ∧ KvB (i + 1) (stepK x o).2.kv := by
 obtain ⟨o1, o2, o3, o4⟩ := few_o ho
 have hk1 := hk.1
 unfold stepK
 split
 ·rcases zC9 I (by omega) with e | ⟨s', e, J, hkv⟩
  ·rw [e]; exact ⟨h, I, kvb_le hk (by omega)⟩
  ·rw [e]; exact ⟨_, J, by dsimp only; rw [hkv]; exact kvb_le hk (by omega)⟩
 ·have := ofL_len o.put
  rcases commit_gen I (ofL o.put) o.drop (zFk _) (by omega) (by omega) with ⟨f, _, _, e⟩ | ⟨S', s', h', e, _, J, hkv⟩
  ·rw [e]; exact ⟨h, I, kvb_le hk (by omega)⟩
  ·rw [e]
   refine ⟨h', J, ?_⟩
   dsimp only
   rw [hkv, apply_same I.so]
   exact apply_b I.so hk o1 o3
theorem run_ok {n : Nat} (h4 : 4 ≤ n) (h8 : n ≤ 8000) {l : List OpR} (hF : Few l) : ∀ i, i ≤ l.length → ∃ h, StJ n (runK n (l.take i)).1 (runK n (l.take i)).2 h ∧ KvB i (runK n (l.take i)).2.kv
 | 0, _ => ⟨none, stj_new h4 h8, by simp [KvB, runK]⟩
 | i + 1, hi => by
   obtain ⟨h, I, hk⟩ := run_ok h4 h8 hF i (by omega)
   rw [runK_step (show i < l.length from hi)]
   exact step_ok I (by have := hF.2; omega) hk (hF.1 _ (List.getElem_mem _))
end Go.Proofs.YtkobjnpmjngklaaGreatDoor
end
section
set_option maxRecDepth 100000
set_option linter.unusedSimpArgs false
set_option linter.unusedVariables false
namespace Go.Proofs.YtkobjnpmjngklaaGreatDoor
open Go GoV
def cmpM (n : Nat) (l : List OpR) : KV := (runK n l).2.kv
def cmpA (n : Nat) (l : List OpR) : Tx := if (zAw (runK n l).1 (runK n l).2).2.2 = 0 then (zAw (runK n l).1 (runK n l).2).1.flatten else []
theorem kvb_b {i : Nat} {m : KV} (h : KvB i m) (hi : i ≤ 100) : (∀ p ∈ m, p.1.length ≤ 1000000 ∧ p.2.length ≤ 1000000) ∧ m.length ≤ 1000000 ∧ ∀ p ∈ m, p.1.length ≤ 1000000 :=
 ⟨fun p hp => by have := h.2 p hp; omega, by have := h.1; omega, fun p hp => by have := h.2 p hp; omega⟩
set_option maxHeartbeats 2000000 in
theorem reg_20 (n : Nat) (S : Sx) (hS : SxOk S n) (s : Sto) (hs : StOk n s) {l : List Tri} {c : Nat} (hm : MpOk l c s.kv) {o : OpR} (ho : OpFew o)
 (L : List D) (i : Nat) (k1 : L.getD i .u0 = .agg [.int .i64 o.kind, .slice (prs o.put) .no, .slice (strs o.drop) .no, .int .i64 o.a, .int .i64 o.b, .int .i64 o.c]) (hi : i < L.length)
 (x0 x2 x3 x4 x5 x7 x9 x10 x11 x12 x13 : D) (Q : Ex → St → Prop)
 (hQ : ∀ l' c', MpOk l' c' (zAj S s (ofL o.put) o.drop).2.1.kv → Q .normal ⟨[x0, .slice L .no, x2, x3, x4, x5, .ptr 0 0, x7, .int .i64 i, x9, x10, x11, x12, x13], [], ⟨(hpS n (zAj S s (ofL o.put) o.drop).1 (zAj S s (ofL o.put) o.drop).2.1 l' c').H ++ [.map (entT (mapT o.put).1) (mapT o.put).2], []⟩⟩) :
 SWp C20 (.regD r20_9 r20_10) Q ⟨[x0, .slice L .no, x2, x3, x4, x5, .ptr 0 0, x7, .int .i64 i, x9, x10, x11, x12, x13], [], hpS n S s l c⟩ := by
 have kC := commit_o n S hS s hs hm ho
 obtain ⟨h1, h2, h3, h4⟩ := few_o ho
 have kM := mapped_p o.put (by omega)
 have hB := fun β τ => zAi β τ S.flatten
 have hB1 := fun β τ => zAi β τ (zAj S s (ofL o.put) o.drop).1.flatten
 have hE := zAl
 refine swp_regDX 6 ?_
 rw [P20]
 refine x_q (ds := [.ptr 0 0]) (.ptr 0 0) (by decide) rfl (fun _ => by simp [OcWp, zAb, isPan, opWp]) ?_
 refine x_q (ds := [.slice L .no]) (.slice L .no) (by decide) rfl (fun _ => by simp [OcWp, zAb, isPan, opWp]) ?_
 refine x_q (ds := [.int .i64 i]) (.int .i64 i) (by decide) rfl (fun _ => by simp [OcWp, zAb, isPan, opWp]) ?_
 refine x_q (ds := [.slice L .no, .int .i64 i]) (.ip [.int .i64 o.kind, .slice (prs o.put) .no, .slice (strs o.drop) .no, .int .i64 o.a, .int .i64 o.b, .int .i64 o.c]) (by decide) rfl (fun _ => by simp only [OcWp, zAb, isPan, opWp, Int.toNat_natCast, k1]; simp [D.iV, D.cells, hi]) ?_
 refine x_q (ds := [.ip [.int .i64 o.kind, .slice (prs o.put) .no, .slice (strs o.drop) .no, .int .i64 o.a, .int .i64 o.b, .int .i64 o.c]]) (.ip [.slice (prs o.put) .no, .slice (strs o.drop) .no, .int .i64 o.a, .int .i64 o.b, .int .i64 o.c]) (by decide) rfl (fun _ => by simp [OcWp, zAb, isPan, opWp]) ?_
 refine x_q (ds := [.ip [.slice (prs o.put) .no, .slice (strs o.drop) .no, .int .i64 o.a, .int .i64 o.b, .int .i64 o.c]]) (.slice (prs o.put) .no) (by decide) rfl (fun _ => by simp [OcWp, zAb, isPan, opWp]) ?_
 refine x_eff [] [] kM rfl ⟨by simp, by simp, by simp, by simp⟩ rfl rfl ?_
 refine x_q (ds := [.slice L .no]) (.slice L .no) (by decide) rfl (fun _ => by simp [OcWp, zAb, isPan, opWp]) ?_
 refine x_q (ds := [.int .i64 i]) (.int .i64 i) (by decide) rfl (fun _ => by simp [OcWp, zAb, isPan, opWp]) ?_
 refine x_q (ds := [.slice L .no, .int .i64 i]) (.ip [.int .i64 o.kind, .slice (prs o.put) .no, .slice (strs o.drop) .no, .int .i64 o.a, .int .i64 o.b, .int .i64 o.c]) (by decide) rfl (fun _ => by simp only [OcWp, zAb, isPan, opWp, Int.toNat_natCast, k1]; simp [D.iV, D.cells, hi]) ?_
 refine x_q (ds := [.ip [.int .i64 o.kind, .slice (prs o.put) .no, .slice (strs o.drop) .no, .int .i64 o.a, .int .i64 o.b, .int .i64 o.c]]) (.ip [.slice (strs o.drop) .no, .int .i64 o.a, .int .i64 o.b, .int .i64 o.c]) (by decide) rfl (fun _ => by simp [OcWp, zAb, isPan, opWp]) ?_
 refine x_q (ds := [.ip [.slice (strs o.drop) .no, .int .i64 o.a, .int .i64 o.b, .int .i64 o.c]]) (.slice (strs o.drop) .no) (by decide) rfl (fun _ => by simp [OcWp, zAb, isPan, opWp]) ?_
 refine x_nil ?_
 generalize zAj S s (ofL o.put) o.drop = r at *
 unfold CmR hpS stB dkB byB at *
 simp only [queD, List.cons_append, List.nil_append] at *
 generalize bys S.flatten = Y at *
 generalize bys r.1.flatten = Y1 at *
 generalize strs o.drop = DD at *
 generalize prs o.put = PP at *
 have wQ := And.intro @hE (And.intro @hB @hB1); repeat' (first | with_reducible (apply swq; constructor) | simp only [go_sem, seval, P20, q20] | ((with_reducible refine o_eff [0, 1, 2, 3, 4] [] (kC) ?hs ?he ?hh ?_); (case hs => exact so); (case he | hh => exact sh wQ); rintro _ _ ⟨rfl, l1, c1, rfl, m1⟩) | with_reducible intro _)
 all_goals try omega
 have := hQ l1 c1 m1
 simpa only [hE, hB1] using this
set_option maxHeartbeats 4000000 in
theorem compacted_p (n : Nat) (h4 : 4 ≤ n) (h8 : n ≤ 8000) (l : List OpR) (hF : Few l) : Pur M 20 [.int .i64 n, .slice (ops l) .no] (.tup [.str (cmpA n l), .slice (strs (zAq (cmpM n l))) .no, .bool true]) := by
 refine k20.ow (C := C20) rfl rfl ?_
 rw [i20]
 unfold c20
 have k13 := new_p n (by omega) h8
 have k12 := open_new n h4 h8
 have hol := ops_len l
 have hget := fun i (h : i < l.length) => ops_get h
 have hlo := cl_ops l
 have hle := er_ops l
 have hE := zAl
 have hB0 := fun β τ => zAi β τ (newS n).flatten
 have hreg := @reg_20
 have hrun := run_ok h4 h8 hF
 have hl12 := hF.2
 generalize hRG : RC.regD r20_9 r20_10 = RG at *
 unfold OpRs at k12
 unfold dkB byB at k12 k13
 unfold opB at k12
 simp only [queD] at k12 k13
 obtain ⟨Y, hY⟩ : ∃ Y, Y = bys (newS n).flatten := ⟨_, rfl⟩
 rw [← hY] at hB0 k12 k13
 generalize ops l = L at *
 have wQ := And.intro @hE (And.intro @hB0 (And.intro @hlo @hle)); repeat' (first | with_reducible (apply swq; constructor) | simp only [go_sem, seval, P20, q20, hol] | ((with_reducible refine o_eff [] [] (k13) ?hs ?he ?hh ?_); (case hs => exact so); (case he | hh => exact sh wQ); try rintro _ _ ⟨rfl, rfl⟩) | ((with_reducible refine o_eff [0, 1] [] (k12) ?hs ?he ?hh ?_); (case hs => exact so); (case he | hh => exact sh wQ); rintro _ _ ⟨rfl, l0, c0, rfl, m0⟩) | with_reducible intro _)
 all_goals try omega
 subst hY
 have hlm : l0 = [] := List.length_eq_zero_iff.1 m0.len
 refine zA1 (zF4 [3, 2, 0, 1] [] ⟨by simp, by simp, by simp, by simp⟩ rfl rfl) ?_
 refine zE8 (C := C20) [1, 5, 6, 8] 4 0 (Nat.zero_le _) (Nat.le_refl _) (fun x : Nat × List Tri × Nat => ⟨[.u0, .slice L .no, .u0, .u0, .u0, .ptr 2 0, .ptr 0 0, .u0, .int .i64 x.1, .u0, .u0, .u0, .u0, .u0], [], hpS n (runK n (l.take x.1)).1 (runK n (l.take x.1)).2 x.2.1 x.2.2⟩)
  (fun x => x.1 ≤ l.length ∧ MpOk x.2.1 x.2.2 (runK n (l.take x.1)).2.kv) (fun x => l.length - x.1) (0, l0, c0) ⟨Nat.zero_le _, m0⟩ ?_ ?_
 ·have e0 : runK n (l.take 0) = (newS n, ⟨(n - 2) / 2, 0, 0, []⟩) := rfl
  rw [e0]
  unfold hpS stB dkB byB
  generalize bys (newS n).flatten = Y at *
  simp [keepE, St.keepG, St.keep, St.gc, RcS, RcB, Hp.cut, Hp.back, putAt, bakF, Blk.rnL, rC, rM, Tv.rnL, Tv.rn, D.rnL, D.rn, cutF, Own.rn, St.sel, Hp.sel, posF, idx, hE, hB0, queD]
 ·rintro ⟨i, lm, c⟩ ⟨g1, g4⟩
  dsimp only at g1 g4 ⊢
  obtain ⟨hd, I, hk⟩ := hrun i g1
  obtain ⟨b1, b2, b3⟩ := kvb_b hk (by omega)
  by_cases hi : i < l.length
  ·have hst := runK_step (n := n) hi
   have e1 := hget i hi
   have ho := hF.1 _ (List.getElem_mem hi)
   generalize l[i] = o at *
   generalize runK n (l.take i) = x at *
   by_cases hk1 : o.kind = 1
   ·have e2 : stepK x o = ((zAw x.1 x.2).1, (zAw x.1 x.2).2.1) := by rw [stepK, if_pos hk1]
    rw [hk1] at e1
    have kC := zE1 n x.1 I.cns.ok x.2 I.st g4 b1 b2
    have hm1 : MpOk lm c (zAw x.1 x.2).2.1.kv := by
     rcases zC9 I b2 with e | ⟨s', e, J, hkv⟩
     ·rw [e]; exact g4
     ·rw [e]; dsimp only; rw [hkv]; exact g4
    have hB := fun β τ => zAi β τ x.1.flatten
    have hB1 := fun β τ => zAi β τ (zAw x.1 x.2).1.flatten
    rw [e2] at hst
    generalize zAw x.1 x.2 = y at *
    unfold hpS stB dkB byB at *
    simp only [queD] at *
    generalize hYS : bys x.1.flatten = Y at *
    generalize hY1 : bys y.1.flatten = Y1 at *
    have wQ := And.intro @hE (And.intro @hB @hB1); repeat' (first | with_reducible (apply swq; constructor) | simp only [go_sem, seval, P20, q20, e1, hol] | simp (disch := omega) only [wA] | ((with_reducible refine o_eff [0, 1, 2, 3] [] (kC) ?hs ?he ?hh ?_); (case hs => exact so); (case he | hh => exact sh wQ); try rintro _ _ ⟨rfl, rfl⟩) | with_reducible (apply cdA; constructor) | ((with_reducible refine And.intro ?hw ?_); (case hw => exact sw wQ)) | with_reducible intro _)
    all_goals try omega
    refine ⟨(i + 1, lm, c), ⟨by dsimp only; omega, by dsimp only; rw [hst]; exact hm1⟩, by dsimp only; omega, ?_⟩
    dsimp only
    rw [hst]
    dsimp only
    rw [hY1]
    simp [keepE, St.keepG, St.keep, St.gc, RcS, RcB, Hp.cut, Hp.back, putAt, bakF, Blk.rnL, rC, rM, Tv.rnL, Tv.rn, D.rnL, D.rn, cutF, Own.rn, hE, hB1]
   ·have e2 : stepK x o = ((zAj x.1 x.2 (ofL o.put) o.drop).1, (zAj x.1 x.2 (ofL o.put) o.drop).2.1) := by rw [stepK, if_neg hk1]
    have hr := fun x2 x3 x4 x7 x9 => hreg n x.1 I.cns.ok x.2 I.st g4 ho L i e1 (by omega) .u0 x2 x3 x4 (.ptr 2 0) x7 x9
    rw [e2] at hst
    have wQ := tw; repeat' (first | with_reducible (apply swq; constructor) | simp only [go_sem, seval, P20, q20, e1, hol] | simp (disch := omega) only [wA] | with_reducible (apply cdA; constructor) | ((with_reducible refine And.intro ?hw ?_); (case hw => exact sw wQ)) | with_reducible intro _)
    all_goals try omega
    all_goals try (exfalso; omega)
    refine hr _ _ _ _ _ _ _ _ _ _ (fun l1 c1 m1 => ?_)
    have hB1 := fun β τ => zAi β τ (zAj x.1 x.2 (ofL o.put) o.drop).1.flatten
    generalize zAj x.1 x.2 (ofL o.put) o.drop = y at *
    unfold hpS stB dkB byB at *
    simp only [queD, List.cons_append, List.nil_append] at *
    generalize hY1 : bys y.1.flatten = Y1 at *
    repeat' (first | with_reducible (apply swq; constructor) | simp only [go_sem, seval, P20, q20] | simp (disch := omega) only [wA] | with_reducible intro _)
    all_goals try omega
    refine ⟨(i + 1, l1, c1), ⟨by dsimp only; omega, by dsimp only; rw [hst]; exact m1⟩, by dsimp only; omega, ?_⟩
    dsimp only
    rw [hst]
    dsimp only
    rw [hY1]
    simp [keepE, St.keepG, St.keep, St.gc, RcS, RcB, Hp.cut, Hp.back, putAt, bakF, Blk.rnL, rC, rM, Tv.rnL, Tv.rn, D.rnL, D.rn, cutF, Own.rn, hE, hB1]
  ·have hi : i = l.length := by omega
   subst hi
   rw [List.take_length] at *
   have hcl := zAv (zAq (cmpM n l))
   have her := zA3 (zAq (cmpM n l))
   have kC := zE1 n _ I.cns.ok _ I.st g4 b1 b2
   have hB := fun β τ => zAi β τ (runK n l).1.flatten
   rcases zC9 I b2 with e | ⟨s', e, J, hkv⟩
   ·have eA : cmpA n l = [] := by rw [cmpA, e]; rfl
    rw [eA]
    rw [e] at kC
    have kN := contents_s n (runK n l).1 (runK n l).2 g4 b3 b2
    unfold cmpM at *
    unfold hpS stB dkB byB at *
    simp only [queD] at *
    generalize bys (runK n l).1.flatten = Y at *
    generalize strs (zAq (runK n l).2.kv) = W at *
    have wQ := And.intro @hE (And.intro @hB (And.intro @hcl @her)); repeat' (first | with_reducible (apply swq; constructor) | simp only [go_sem, seval, P20, q20, hol] | simp (disch := omega) only [wA] | ((with_reducible refine o_eff [0, 1, 2, 3] [] (kC) ?hs ?he ?hh ?_); (case hs => exact so); (case he | hh => exact sh wQ); try rintro _ _ ⟨rfl, rfl⟩) | ((with_reducible refine o_eff [0, 1, 2, 3] [] (kN) ?hs ?he ?hh ?_); (case hs => exact so); (case he | hh => exact sh wQ); try rintro _ _ ⟨rfl, rfl⟩) | with_reducible (apply cdA; constructor) | ((with_reducible refine And.intro ?hw ?_); (case hw => exact sw wQ)) | with_reducible intro _)
    all_goals try omega
    exact ⟨_, zAa, rfl, by simp [D.closed, D.er, D.cL, D.erL, hcl, her]⟩
   ·have eA : cmpA n l = (canS n (zAn (runK n l).2.kv)).flatten := by rw [cmpA, e]; rfl
    rw [eA]
    rw [e] at kC
    have g4 : MpOk lm c s'.kv := by rw [hkv]; exact g4
    have kN := contents_s n (canS n (zAn (runK n l).2.kv)) s' g4 (by rw [hkv]; exact b3) (by rw [hkv]; exact b2)
    have kW := raw_p n h8 _ J.cns.ok
    rw [hkv] at kN
    unfold cmpM at *
    dsimp only at kC kN kW
    have hB1 := fun β τ => zAi β τ (canS n (zAn (runK n l).2.kv)).flatten
    generalize canS n (zAn (runK n l).2.kv) = Z at *
    unfold hpS stB dkB byB at *
    simp only [queD] at *
    generalize bys (runK n l).1.flatten = Y at *
    generalize bys Z.flatten = Y1 at *
    generalize strs (zAq (runK n l).2.kv) = W at *
    have wQ := And.intro @hE (And.intro @hB (And.intro @hB1 (And.intro @hcl @her))); repeat' (first | with_reducible (apply swq; constructor) | simp only [go_sem, seval, P20, q20, hol] | simp (disch := omega) only [wA] | ((with_reducible refine o_eff [0, 1, 2, 3] [] (kC) ?hs ?he ?hh ?_); (case hs => exact so); (case he | hh => exact sh wQ); try rintro _ _ ⟨rfl, rfl⟩) | ((with_reducible refine o_eff [2, 3] [] (kW) ?hs ?he ?hh ?_); (case hs => exact so); (case he | hh => exact sh wQ); try rintro _ _ ⟨rfl, rfl⟩) | ((with_reducible refine o_eff [0, 1, 2, 3] [] (kN) ?hs ?he ?hh ?_); (case hs => exact so); (case he | hh => exact sh wQ); try rintro _ _ ⟨rfl, rfl⟩) | with_reducible (apply cdA; constructor) | ((with_reducible refine And.intro ?hw ?_); (case hw => exact sw wQ)) | with_reducible intro _)
    all_goals try omega
    exact ⟨_, zAa, rfl, by simp [D.closed, D.er, D.cL, D.erL, hcl, her]⟩
end Go.Proofs.YtkobjnpmjngklaaGreatDoor
end
section
set_option maxRecDepth 100000
set_option linter.unusedSimpArgs false
set_option linter.unusedVariables false
namespace Go.Proofs.YtkobjnpmjngklaaGreatDoor
open Go GoV
theorem cmpA_cases {n : Nat} (h4 : 4 ≤ n) (h8 : n ≤ 8000) {l : List OpR} (hF : Few l) :
 (cmpA n l = [] ∨ cmpA n l = (canS n (zAn (cmpM n l))).flatten) ∧ So (ks (cmpM n l)) ∧ zAr (cmpM n l) [] = 0 ∧ KvB 12 (cmpM n l) := by
 obtain ⟨h, I, hk⟩ := run_ok h4 h8 hF l.length (Nat.le_refl _)
 rw [List.take_length] at I hk
 refine ⟨?_, I.so, I.wr, kvb_le hk hF.2⟩
 have hl := (kvb_b hk (by have := hF.2; omega)).2.1
 unfold cmpA cmpM
 rcases zC9 I hl with e | ⟨s', e, J, hkv⟩
 ·rw [e]; exact .inl rfl
 ·rw [e]; exact .inr rfl
set_option maxHeartbeats 2000000 in
theorem loop_4 (LL : List D) (m : KV) (hLL : LL = strs (zAq m)) (hml : m.length ≤ 1000000) (x0 x1 x2 x3 x4 x6 x8 x9 x10 x11 x12 x13 x14 x17 x18 x19 x20 x21 x22 : D) (n : Int) (B0 B1 B2 B3 : Blk) (Q : Ex → St → Prop)
 (hQ : ∀ x16 x21, Q .normal ⟨[.u0, .u0, .u0, .u0, x4, .int .i64 n, x6, .slice LL .no, .u0, x9, x10, .u0, x12, x13, x14, .mp 4, x16, .u0, .u0, .u0, .u0, x21, .u0], [], ⟨[B0, B1, B2, B3, .map (entT (mapT m).1) (mapT m).2], []⟩⟩) :
 SWp C4 (.block 0 (.loop (.seq (.seq (.reg r4_13) (.cond (.v 21) .skip (.exit 0))) (.seq (.block 1 (.regD r4_14 r4_15)) (.reg r4_16))))) Q ⟨[x0, x1, x2, x3, x4, .int .i64 n, x6, .slice LL .no, x8, x9, x10, x11, x12, x13, x14, .mp 4, .int .i64 0, x17, x18, x19, x20, x21, x22], [], ⟨[B0, B1, B2, B3, .map [] 0], []⟩⟩ := by
 have hl : LL.length = 2 * m.length := by rw [hLL, zAk, zBb]
 have hg0 : ∀ k (h : k < m.length), LL.getD (2 * k) .u0 = .str m[k].1 := fun k h => by rw [hLL, zBt (by rw [zBb]; omega), flat_get0 h]
 have hg1 : ∀ k (h : k < m.length), LL.getD (2 * k + 1) .u0 = .str m[k].2 := fun k h => by rw [hLL, zBt (by rw [zBb]; omega), flat_get1 h]
 clear hLL
 refine zEk ?_
 refine zAs [4, 5, 6, 7, 9, 10, 12, 13, 14, 15, 16] (fun k : Nat => ⟨[.u0, .u0, .u0, .u0, x4, .int .i64 n, x6, .slice LL .no, .u0, x9, x10, .u0, x12, x13, x14, .mp 4, .int .i64 (2 * k : Nat), .u0, .u0, .u0, .u0, .u0, .u0], [], ⟨[B0, B1, B2, B3, .map (entT (mapT (m.take k)).1) (mapT (m.take k)).2], []⟩⟩)
  (fun k => k ≤ m.length) (fun k => m.length - k) 0 (Nat.zero_le _) ?_ ?_
 ·simp [keepE, St.keep, mapT, entT]
 ·intro k hk
  have q1 : ((2 * k : Nat) : Int) + 1 = ((2 * k + 1 : Nat) : Int) := by omega
  have q2 : ((2 * k : Nat) : Int) + 2 = ((2 * k + 2 : Nat) : Int) := by omega
  by_cases hlt : k < m.length
  ·have g1 := hg0 k hlt
   have g2 := hg1 k hlt
   obtain ⟨g3, _⟩ := nxtT_ok (zEf (m.take k)) m[k]
   have g4 : mapT (m.take (k + 1)) = nxtT (mapT (m.take k)) m[k] := by rw [List.take_succ_eq_append_getElem hlt, mapT_app]
   have hko := zDq (mapT (m.take k)).1
   rw [← g4] at g3
   generalize m[k] = p at *
   have wQ := @hl; repeat' (first | with_reducible (apply swq; constructor) | simp only [go_sem, seval, P4, q4, q1, q2, hl, g1, g2, zAp] | simp (disch := omega) only [wA] | ((with_reducible apply s_mpu); (case h1 | hk => rfl); (case ha | hp => first | rfl | assumption)) | (with_reducible (apply cdA; constructor)) | ((with_reducible refine And.intro ?hw ?_); (case hw => exact sw wQ)) | with_reducible intro _)
   all_goals try omega
   exact ⟨k + 1, by omega, by omega, by simp [keepE, St.keep, g3, Nat.mul_add]⟩
  ·have e : k = m.length := by omega
   subst e
   rw [List.take_length]
   have wQ := @hl; repeat' (first | with_reducible (apply swq; constructor) | simp only [go_sem, seval, P4, q4, q1, q2, hl, zAp] | simp (disch := omega) only [wA] | (with_reducible (apply cdA; constructor)) | ((with_reducible refine And.intro ?hw ?_); (case hw => exact sw wQ)) | with_reducible intro _)
   all_goals try omega
   exact hQ _ _
theorem tail_4 (X Y : List Tx) (a b : Tx) (hX : X.length ≤ 4611686018427387904) (h : a = [] ∨ b = [] ∨ X ≠ Y ∨ a = b) (Q : Ex → St → Prop) (hp : Hp) (hQ : ∀ e, e.getD 3 .u0 = .bool true → Q .ret ⟨e, [], hp⟩) (x0 x1 x2 x3 x5 x8 x11 x12 x13 x14 x15 x16 x17 x18 x19 x20 x21 x22 : D) :
 SWp C4 (.seq (.reg r4_21) .ret) Q ⟨[x0, x1, x2, x3, .bool true, x5, .str a, .slice (strs X) .no, x8, .str b, .slice (strs Y) .no, x11, x12, x13, x14, x15, x16, x17, x18, x19, x20, x21, x22], [], hp⟩ := by
 have kS := same_p X Y hX
 have hc := zAv X
 have he := zA3 X
 have hc2 := zAv Y
 have he2 := zA3 Y
 by_cases ha : a = []
 ·have e1 : (a == []) = true := by rw [ha]; rfl
  generalize strs X = SX at *
  generalize strs Y = SY at *
  repeat' (first | with_reducible (apply swq; constructor) | simp only [go_sem, seval, P4, q4, e1, zAp] | with_reducible intro _)
  all_goals try omega
  exact hQ _ rfl
 ·have e1 : (a == []) = false := by simpa using ha
  by_cases hb : b = []
  ·have e2 : (b == []) = true := by rw [hb]; rfl
   generalize strs X = SX at *
   generalize strs Y = SY at *
   repeat' (first | with_reducible (apply swq; constructor) | simp only [go_sem, seval, P4, q4, e1, e2, zAp] | with_reducible intro _)
   all_goals try omega
   exact hQ _ rfl
  ·have e2 : (b == []) = false := by simpa using hb
   by_cases hx : X = Y
   ·have e3 : decide (X = Y) = true := decide_eq_true hx
    have e4 : (a == b) = true := by
     rcases h with h | h | h | h
     ·exact absurd h ha
     ·exact absurd h hb
     ·exact absurd hx h
     ·rw [h]; exact beq_self_eq_true _
    rw [e3] at kS
    generalize strs X = SX at *
    generalize strs Y = SY at *
    have wQ := And.intro @hc (And.intro @he (And.intro @hc2 @he2)); repeat' (first | with_reducible (apply swq; constructor) | simp only [go_sem, seval, P4, q4, e1, e2, e4, Bool.not_true, zAp] | ((with_reducible refine zAc (kS) ?he ?hc ?_); (case he | hc => exact sc wQ)) | with_reducible intro _)
    all_goals try omega
    exact hQ _ rfl
   ·have e3 : decide (X = Y) = false := decide_eq_false hx
    rw [e3] at kS
    generalize strs X = SX at *
    generalize strs Y = SY at *
    have wQ := And.intro @hc (And.intro @he (And.intro @hc2 @he2)); repeat' (first | with_reducible (apply swq; constructor) | simp only [go_sem, seval, P4, q4, e1, e2, Bool.not_false, zAp] | ((with_reducible refine zAc (kS) ?he ?hc ?_); (case he | hc => exact sc wQ)) | with_reducible intro _)
    all_goals try omega
    exact hQ _ rfl
set_option maxHeartbeats 2000000 in
theorem mid_4 (X Y : List Tx) (a b : Tx) (hX : X.length ≤ 4611686018427387904) (h : a = [] ∨ b = [] ∨ X ≠ Y ∨ a = b) (n : Nat) (h8 : n ≤ 8000) (S : Sx) (hS : SxOk S n) (B0 B1 B4 : Blk) (f g : Int) (hfg : a = [] ∨ f ≠ 0 ∨ g ≠ 0 ∨ S.flatten = a) (Q : Ex → St → Prop) (hQ : ∀ e hp, e.getD 3 .u0 = .bool true → Q .ret ⟨e, [], hp⟩) (x0 x1 x2 x3 x5 x8 x11 x13 x15 x16 x19 x20 x21 x22 : D) :
 SWp C4 (.seq (.seq (.reg r4_19) (.cond (.v 22) (.seq (.reg r4_20) .ret) .skip)) (.seq (.reg r4_21) .ret)) Q ⟨[x0, x1, x2, x3, .bool true, x5, .str a, .slice (strs X) .no, x8, .str b, .slice (strs Y) .no, x11, .ptr 2 0, x13, .int .i64 0, x15, x16, .int .i64 f, .int .i64 g, x19, x20, x21, x22], [], ⟨[B0, B1, dkB 3 n [] false, byB S, B4], []⟩⟩ := by
 have hT := tail_4 X Y a b hX h
 have kW := raw_p n h8 S hS
 have hcl := zAv X
 have her := zA3 X
 have hcl2 := zAv Y
 have her2 := zA3 Y
 have hB := fun β τ => zAi β τ S.flatten
 generalize hRT : RC.seq (.reg r4_21) .ret = RT at *
 generalize strs X = SX at *
 generalize strs Y = SY at *
 unfold dkB byB at *
 simp only [queD] at *
 generalize bys S.flatten = YY at *
 by_cases ha : a = []
 ·have e1 : (a == []) = true := by rw [ha]; rfl
  repeat' (first | with_reducible (apply swq; constructor) | simp only [go_sem, seval, P4, q4, e1, Bool.not_true, zAp] | with_reducible intro _)
  all_goals try omega
  exact hT _ _ (hQ · _) _ _ _ _ _ _ _ _ _ _ _ _ _ _ _ _ _ _
 ·have e1 : (a == []) = false := by simpa using ha
  by_cases hf : f = 0
  ·by_cases hg : g = 0
   ·subst hf; subst hg
    have e2 : S.flatten = a := by
     rcases hfg with q | q | q | q
     ·exact absurd q ha
     iterate 2
      ·exact absurd rfl q
     ·exact q
    rw [e2] at kW
    have e3 : (a == a) = true := beq_self_eq_true _
    have wQ := And.intro @hB (And.intro @hcl (And.intro @her (And.intro @hcl2 @her2))); repeat' (first | with_reducible (apply swq; constructor) | simp only [go_sem, seval, P4, q4, e1, e3, Bool.not_false, Bool.not_true, zAp] | ((with_reducible refine o_eff [2, 3] [] (kW) ?hs ?he ?hh ?_); (case hs => exact so); (case he | hh => exact sh wQ); rintro _ _ ⟨rfl, rfl⟩) | with_reducible intro _)
    all_goals try omega
    exact hT _ _ (hQ · _) _ _ _ _ _ _ _ _ _ _ _ _ _ _ _ _ _ _
   ·subst hf
    repeat' (first | with_reducible (apply swq; constructor) | simp only [go_sem, seval, P4, q4, e1, Bool.not_false, zAp] | simp (disch := omega) only [wA] | (with_reducible (apply gdA; constructor)) | with_reducible intro _)
    all_goals try omega
    all_goals try (exfalso; omega)
    exact hT _ _ (hQ · _) _ _ _ _ _ _ _ _ _ _ _ _ _ _ _ _ _ _
  ·repeat' (first | with_reducible (apply swq; constructor) | simp only [go_sem, seval, P4, q4, e1, Bool.not_false, zAp] | simp (disch := omega) only [wA] | (with_reducible (apply gdA; constructor)) | with_reducible intro _)
   all_goals try omega
   all_goals try (exfalso; omega)
   exact hT _ _ (hQ · _) _ _ _ _ _ _ _ _ _ _ _ _ _ _ _ _ _ _
set_option maxHeartbeats 8000000 in
theorem compacts_p (r : Nat) (hr : r ≤ 255) (l m : List OpR) (hl : l.length ≤ 1000000000000000) (hb : ∀ o ∈ l, OpBd o) (hl2 : m.length ≤ 1000000000000000) (hb2 : ∀ o ∈ m, OpBd o) : Pur M 4 [.int .u8 r, .slice (ops l) .no, .slice (ops m) .no] (.bool true) := by
 classical
 refine k4.ow (C := C4) rfl rfl ?_
 rw [i4]
 unfold c4
 have k10 := head_p
 have k11 := few_p l hl hb
 have k11' := few_p m hl2 hb2
 have hlo := cl_ops l
 have hle := er_ops l
 have hlo2 := cl_ops m
 have hle2 := er_ops m
 by_cases hF : Few l
 ·rw [decide_eq_true hF] at k11
  by_cases hF2 : Few m
  ·rw [decide_eq_true hF2] at k11'
   obtain ⟨n, hn⟩ : ∃ n, n = 4 + r % 100 := ⟨_, rfl⟩
   have q1 := rem_n r
   rw [← hn] at q1
   have h4 : 4 ≤ n := by omega
   have h8 : n ≤ 8000 := by omega
   have kc1 := compacted_p n h4 h8 l hF
   have kc2 := compacted_p n h4 h8 m hF2
   obtain ⟨a1, a2, a3, a4⟩ := cmpA_cases h4 h8 hF
   obtain ⟨b1, b2, b3, b4⟩ := cmpA_cases h4 h8 hF2
   have k13 := new_p n (by omega) h8
   have k12 := open_new n h4 h8
   have J0 := stj_new h4 h8
   generalize hA : cmpA n l = A at *
   generalize hA2 : cmpA n m = A2 at *
   generalize hm1 : cmpM n l = m1 at *
   generalize hm2 : cmpM n m = m2 at *
   obtain ⟨v1, v2, v3⟩ := kvb_b a4 (by omega)
   have hT := mid_4 (zAq m1) (zAq m2) A A2 (by rw [zBb]; omega) (by
    rcases a1 with q | q
    ·exact .inl q
    ·rcases b1 with q2 | q2
     ·exact .inr (.inl q2)
     ·by_cases e : zAq m1 = zAq m2
      ·refine .inr (.inr (.inr ?_))
       rw [q, q2, flat_inj e]
      ·exact .inr (.inr (.inl e))) n h8
   have hlp := loop_4 (strs (zAq m1)) m1 rfl v2
   have hcl := zAv (zAq m1)
   have her := zA3 (zAq m1)
   have hcl2 := zAv (zAq m2)
   have her2 := zA3 (zAq m2)
   have hE := zAl
   have hB0 := fun β τ => zAi β τ (newS n).flatten
   have hid : ofL m1 = m1 := ofL_id a2
   generalize hRL : (RC.block 0 (.loop (.seq (.seq (.reg r4_13) (.cond (.v 21) .skip (.exit 0))) (.seq (.block 1 (.regD r4_14 r4_15)) (.reg r4_16))))) = RL at *
   generalize hRT : RC.seq (.seq (.reg r4_19) (.cond (.v 22) (.seq (.reg r4_20) .ret) .skip)) (.seq (.reg r4_21) .ret) = RT at *
   unfold OpRs at k12
   unfold dkB byB at k12 k13
   unfold opB at k12
   simp only [queD] at k12 k13
   obtain ⟨Y, hY⟩ : ∃ Y, Y = bys (newS n).flatten := ⟨_, rfl⟩
   rw [← hY] at hB0 k12 k13
   generalize strs (zAq m1) = SX at *
   generalize strs (zAq m2) = SY at *
   generalize ops l = L at *
   generalize ops m = L2 at *
   have wQ := And.intro @hE (And.intro @hB0 (And.intro @hlo (And.intro @hle (And.intro @hlo2 (And.intro @hle2 (And.intro @hcl (And.intro @her (And.intro @hcl2 @her2)))))))); repeat' (first | with_reducible (apply swq; constructor) | simp only [go_sem, seval, P4, q4, q1, zAp] | simp (disch := omega) only [wA] | ((with_reducible refine zAc (k10) ?he ?hc ?_); (case he | hc => exact sc wQ)) | ((with_reducible refine zAc (k11) ?he ?hc ?_); (case he | hc => exact sc wQ)) | ((with_reducible refine zAc (k11') ?he ?hc ?_); (case he | hc => exact sc wQ)) | ((with_reducible refine zAc (kc1) ?he ?hc ?_); (case he | hc => exact sc wQ)) | ((with_reducible refine zAc (kc2) ?he ?hc ?_); (case he | hc => exact sc wQ)) | ((with_reducible refine o_eff [] [] (k13) ?hs ?he ?hh ?_); (case hs => exact so); (case he | hh => exact sh wQ); rintro _ _ ⟨rfl, rfl⟩) | ((with_reducible refine o_eff [0, 1] [] (k12) ?hs ?he ?hh ?_); (case hs => exact so); (case he | hh => exact sh wQ); rintro _ _ ⟨rfl, l0, c0, rfl, m0⟩) | with_reducible intro _)
   all_goals try omega
   subst hY
   refine zA1 (zF4 [3, 2, 0, 1, 4] [] ⟨by simp, by simp, by simp, by simp⟩ rfl rfl) ?_
   have hst : ∀ {Q : Ex → St → Prop} {s1 s2 : St}, s1 = s2 → SWp C4 RL Q s1 → SWp C4 RL Q s2 := fun e h => e ▸ h
   refine hst ?he (hlp (.int .u8 r) (.slice L .no) (.slice L2 .no) (.bool false) (.bool true) (.str A) (.bool true) (.str A2) (.slice SY .no) (.bool true) (.ptr 2 0) (.ptr 0 0) (.int .i64 0) .u0 .u0 (.bool false) (.bool false) .u0 .u0 n (stB ⟨(n - 2) / 2, 0, 0, []⟩) (.map (entT l0) c0) (dkB 3 n [] false) (byB (newS n)) _ fun x16 x21 => ?_)
   case he =>
    unfold stB dkB byB
    generalize bys (newS n).flatten = Y at *
    simp [St.sel, Hp.sel, posF, idx, Blk.rnL, rC, rM, D.rnL, D.rn, Tv.rnL, hE, hB0, queD, Own.rn, pairs]
   have kA := zGt n (newS n) (zEc n) ⟨(n - 2) / 2, 0, 0, []⟩ J0.st m0 (zEf m1) (by rw [hid]; exact v1) (by rw [hid]; exact v2)
   rw [hid] at kA
   have key : ∀ (S1 : Sx) (s1 : Sto) (h1 : Option (Nat × Nat)) (f : Int), zAj (newS n) ⟨(n - 2) / 2, 0, 0, []⟩ m1 [] = (S1, s1, f) → StJ n S1 s1 h1 → (f = 0 → s1.kv = m1) → KvB 12 s1.kv →
    SWp C4 (.seq (.reg r4_17) (.seq (.reg r4_18) RT)) (fun e s => (match e with | .exit _ => False | _ => True) ∧ ∃ s1, Weak C4 s s1 ∧ (s1.env.getD 3 .u0).closed = true ∧ (s1.env.getD 3 .u0).er = .bool true)
     ⟨[.u0, .u0, .u0, .u0, .bool true, .int .i64 n, .str A, .slice SX .no, .u0, .str A2, .slice SY .no, .u0, .ptr 2 0, .ptr 0 0, .int .i64 0, .mp 4, x16, .u0, .u0, .u0, .u0, x21, .u0], [], ⟨[stB ⟨(n - 2) / 2, 0, 0, []⟩, .map (entT l0) c0, dkB 3 n [] false, byB (newS n), .map (entT (mapT m1).1) (mapT m1).2], []⟩⟩ := by
    intro S1 s1 h1 f e J hf hk
    obtain ⟨w1, w2, w3⟩ := kvb_b hk (by omega)
    rw [e] at kA
    unfold CmR at kA
    dsimp only at kA
    have kC := fun l1 c1 (m1 : MpOk l1 c1 s1.kv) => zE1 n S1 J.cns.ok s1 J.st m1 w1 w2
    have hB1 := fun β τ => zAi β τ S1.flatten
    rcases zC9 J w2 with e2 | ⟨s2, e2, J2, hkv⟩
    ·rw [e2] at kC
     have hT := hT S1 J.cns.ok
     unfold hpS stB dkB byB at *
     simp only [queD, List.cons_append, List.nil_append] at *
     generalize bys (newS n).flatten = Y at *
     generalize bys S1.flatten = Y1 at *
     have wQ := And.intro @hE (And.intro @hB0 @hB1); repeat' (first | with_reducible (apply swq; constructor) | simp only [go_sem, seval, P4, q4, zAp] | ((with_reducible refine o_eff [0, 1, 2, 3, 4] [] (kA) ?hs ?he ?hh ?_); (case hs => exact so); (case he | hh => exact sh wQ); rintro _ _ ⟨rfl, l1, c1, rfl, mm1⟩) | ((with_reducible refine o_eff [0, 1, 2, 3] [] ((kC l1 c1 mm1)) ?hs ?he ?hh ?_); (case hs => exact so); (case he | hh => exact sh wQ); rintro _ _ ⟨rfl, rfl⟩) | with_reducible intro _)
     all_goals try omega
     simp only [hB1, hE]
     exact hT _ _ _ f 6 (.inr (.inr (.inl (by decide)))) _ (fun e hp he => ⟨trivial, _, zAa, by rw [he]; rfl, by rw [he]; rfl⟩) _ _ _ _ _ _ _ _ _ _ _ _ _ _
    ·rw [e2] at kC
     have hT := hT _ J2.cns.ok
     have hB2 := fun β τ => zAi β τ (canS n (zAn s1.kv)).flatten
     have hfg : A = [] ∨ f ≠ 0 ∨ (0 : Int) ≠ 0 ∨ (canS n (zAn s1.kv)).flatten = A := by
      rcases a1 with q | q
      ·exact .inl q
      ·by_cases hf0 : f = 0
       ·rw [hf hf0]; exact .inr (.inr (.inr q.symm))
       ·exact .inr (.inl hf0)
     generalize canS n (zAn s1.kv) = Z at *
     unfold hpS stB dkB byB at *
     simp only [queD, List.cons_append, List.nil_append] at *
     generalize bys (newS n).flatten = Y at *
     generalize bys S1.flatten = Y1 at *
     generalize bys Z.flatten = Y2 at *
     have wQ := And.intro @hE (And.intro @hB0 (And.intro @hB1 @hB2)); repeat' (first | with_reducible (apply swq; constructor) | simp only [go_sem, seval, P4, q4, zAp] | ((with_reducible refine o_eff [0, 1, 2, 3, 4] [] (kA) ?hs ?he ?hh ?_); (case hs => exact so); (case he | hh => exact sh wQ); rintro _ _ ⟨rfl, l1, c1, rfl, mm1⟩) | ((with_reducible refine o_eff [0, 1, 2, 3] [] ((kC l1 c1 mm1)) ?hs ?he ?hh ?_); (case hs => exact so); (case he | hh => exact sh wQ); rintro _ _ ⟨rfl, rfl⟩) | with_reducible intro _)
     all_goals try omega
     simp only [hB2, hE]
     exact hT _ _ _ f 0 hfg _ (fun e hp he => ⟨trivial, _, zAa, by rw [he]; rfl, by rw [he]; rfl⟩) _ _ _ _ _ _ _ _ _ _ _ _ _ _
   rcases commit_gen J0 m1 [] a2 v2 (by simp) with ⟨f, hf0, hf, e⟩ | ⟨S1, s1, h1, e, hw, J, hkv⟩
   ·exact key _ _ _ f e J0 (fun q => absurd q hf0) (by simp [KvB])
   ·have hs0 : setT [] = [] := rfl
    rw [hs0, apply_nil a2] at hkv
    exact key _ _ _ 0 e J (fun _ => hkv) (by rw [hkv]; exact a4)
  ·rw [decide_eq_false hF2] at k11'
   generalize ops l = L at *
   generalize ops m = L2 at *
   have wQ := And.intro @hlo (And.intro @hle (And.intro @hlo2 @hle2)); repeat' (first | with_reducible (apply swq; constructor) | simp only [go_sem, seval, P4, q4, zAp] | ((with_reducible refine zAc (k10) ?he ?hc ?_); (case he | hc => exact sc wQ)) | ((with_reducible refine zAc (k11) ?he ?hc ?_); (case he | hc => exact sc wQ)) | ((with_reducible refine zAc (k11') ?he ?hc ?_); (case he | hc => exact sc wQ)) | with_reducible intro _)
   all_goals try omega
   exact ⟨_, zAa, rfl, rfl⟩
 ·rw [decide_eq_false hF] at k11
  generalize ops l = L at *
  generalize ops m = L2 at *
  have wQ := And.intro @hlo (And.intro @hle (And.intro @hlo2 @hle2)); repeat' (first | with_reducible (apply swq; constructor) | simp only [go_sem, seval, P4, q4, zAp] | ((with_reducible refine zAc (k10) ?he ?hc ?_); (case he | hc => exact sc wQ)) | ((with_reducible refine zAc (k11) ?he ?hc ?_); (case he | hc => exact sc wQ)) | with_reducible intro _)
  all_goals try omega
  exact ⟨_, zAa, rfl, rfl⟩
end Go.Proofs.YtkobjnpmjngklaaGreatDoor
end
section
set_option linter.unusedVariables false
namespace Go.Proofs.YtkobjnpmjngklaaGreatDoor
open Go GoV
theorem compacts_c (n : Int) (h : 0 ≤ n ∧ n ≤ 255) (l : List OpR) (hl : l.length ≤ 1000000000000000 ∧ ∀ o ∈ l, OpBd o) (m : List OpR) (hm : m.length ≤ 1000000000000000 ∧ ∀ o ∈ m, OpBd o) : Pur M 4 [.int .u8 n, .slice (ops l) .no, .slice (ops m) .no] (.bool true) := by
 obtain ⟨r, rfl⟩ : ∃ r : Nat, n = r := ⟨n.toNat, by omega⟩
 exact compacts_p r (by omega) l m hl.1 hl.2 hm.1 hm.2
end Go.Proofs.YtkobjnpmjngklaaGreatDoor
end