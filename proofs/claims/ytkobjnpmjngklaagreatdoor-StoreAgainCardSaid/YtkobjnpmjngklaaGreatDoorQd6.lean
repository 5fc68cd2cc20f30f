/- Own texts, merged by a program: the engine that walks the code, and what the functions that the law reaches compute. -/
import Derived.Test.YtkobjnpmjngklaaGreatDoorQd5
import Derived.SizedLaws
section
set_option maxRecDepth 100000
set_option linter.unusedSimpArgs false
set_option linter.unusedVariables false
namespace Go.Proofs.YtkobjnpmjngklaaGreatDoor
open Go GoV
def OpRs (n : Nat) (S : Sx) (s : Sto) (d : D) (h : Hp) : Prop := d = .tup [.ptr 3 0, .int .i64 0] ∧ ∃ l c, h = ⟨[dkB 1 n [] false, byB S, .map (entT l) c, opB s.size s.area s.count], []⟩ ∧ MpOk l c s.kv
theorem new_sec {n i : Nat} (h : i < n) : secAt (newS n) i = zr 64 := by
 simp [secAt, newS, List.getD_eq_getElem?_getD, List.getElem?_replicate, h]
theorem zr_pos (z p : Nat) : posK z p (zr 64) = none := by
 have : atK (((zr 64).take 24).drop 16) = none := by decide +kernel
 rw [posK, this]
theorem new_head {n : Nat} (h : 4 ≤ n) : zBq (newS n) ((n - 2) / 2) = none := by
 rw [zBq, new_sec (by omega), new_sec (by omega), zr_pos, zr_pos]
theorem new_rest {n : Nat} (h : 4 ≤ n) : rest2 (newS n) none = newS n := by
 have h1 : restW (newS n) 1 none = [] := by rw [restW, new_sec (by omega)]; exact if_pos rfl
 have h0 : restW (newS n) 0 none = [] := by rw [restW, new_sec (by omega)]; exact if_pos rfl
 have e : rest1 (newS n) none = newS n := by rw [rest1, h1]; rfl
 rw [rest2, e, h0]; rfl
theorem open_new (n : Nat) (h4 : 4 ≤ n) (hn : n ≤ 8000) : Eff M 12 [.ptr 0 0] ⟨[dkB 1 n [] false, byB (newS n)], []⟩ (OpRs n (newS n) ⟨(n - 2) / 2, 0, 0, []⟩) := by
 have hl : loadK (newS n) ((n - 2) / 2) 0 0 = some [] := rfl
 have := open_ok n h4 hn (newS n) (newS_ok n) none (new_head h4) ⟨by decide, Nat.zero_le _⟩ [] hl (fun _ => new_sec (by omega))
 rw [new_rest h4] at this
 exact this
theorem new_st {n : Nat} (h4 : 4 ≤ n) (hn : n ≤ 8000) : StOk n ⟨(n - 2) / 2, 0, 0, []⟩ := ⟨h4, hn, rfl, show (0 : Nat) < 2 by decide, Nat.zero_le _⟩
theorem put_1 (k v : Tx) : putM [] 0 (.str k) (.str v) = .map (entT (mapT [(k, v)]).1) (mapT [(k, v)]).2 := (nxtT_ok (x := ([], 0)) (m := []) mp_nil (k, v)).1
theorem put_2 (p : Tx × Tx) (k v : Tx) : putM (entT (mapT [p]).1) (mapT [p]).2 (.str k) (.str v) = .map (entT (mapT [p, (k, v)]).1) (mapT [p, (k, v)]).2 := (nxtT_ok (zFb [p]) (k, v)).1
theorem bd_small {put : KV} (h : (put.all fun p => decide (p.1.length ≤ 1000000 ∧ p.2.length ≤ 1000000)) = true) : ∀ p ∈ put, p.1.length ≤ 1000000 ∧ p.2.length ≤ 1000000 := fun p hp => by
 simpa using List.all_eq_true.1 h p hp
theorem ex_kvU : hU.2.1.kv = [([98], [50])] := by decide +kernel
theorem hs0_ok : StOk 20 hs0 := new_st (n := 20) (by decide) (by decide)
theorem hA_ok : SxOk hA.1 20 ∧ StOk 20 hA.2.1 := by
 rcases zCo 20 (newS_ok 20) hs0_ok [([97], [49]), ([98], [50])] [] with h | h
 ·exact absurd ex_A.1 h.1
 ·exact ⟨h.2.2.1, h.2.2.2.1⟩
theorem hB_ok : SxOk hB.1 20 ∧ StOk 20 hB.2.1 := by
 rcases zCo 20 hA_ok.1 hA_ok.2 [] [[97]] with h | h
 ·exact absurd ex_A.2.1 h.1
 ·exact ⟨h.2.2.1, h.2.2.2.1⟩
theorem hC_ok : SxOk hC.1 20 ∧ StOk 20 hC.2.1 := by
 rcases zD8 20 hB_ok.1 hB_ok.2 with h | h
 ·have := ex_A.2.2.1
  rw [hC, h] at this
  exact absurd this (show (6 : Int) ≠ 0 by decide)
 ·exact ⟨h.2.1, h.2.2.1⟩
theorem hU_ok : SxOk hU.1 20 ∧ StOk 20 hU.2.1 := by
 rcases zCo 20 (newS_ok 20) hs0_ok [([98], [50])] [] with h | h
 ·exact absurd ex_A.2.2.2.1 h.1
 ·exact ⟨h.2.2.1, h.2.2.2.1⟩
theorem hV_ok : SxOk hV.1 20 := by
 rcases zD8 20 hU_ok.1 hU_ok.2 with h | h
 ·have := ex_A.2.2.2.2
  rw [hV, h] at this
  exact absurd this (show (6 : Int) ≠ 0 by decide)
 ·exact h.2.1
theorem s_b2z {P : Mod} {dst : Dst} {r : List RO} {K : St → Prop} {s : St} {b k : Nat} {Z : Tx} (hB : s.hp.H[b]? = some (.cells (bys Z))) (hk : Z.length = k) (h : opsWp P r K (s.put dst (.str Z))) : OpS P .b2s [.sl b 1 0 k k] dst r K s := by
 refine s_b2s rfl (elems_sec hB (by omega) (Nat.le_refl _)) (zF5 _) ?_
 rw [List.drop_zero, List.take_of_length_le (by omega)]
 exact h
theorem commit_m (n : Nat) (S : Sx) (hS : SxOk S n) (s : Sto) (hs : StOk n s) {l : List Tri} {c : Nat} (hm : MpOk l c s.kv) {lp : List Tri} {cp : Nat} {put : KV} (hp : MpOk lp cp put) (hpb : ∀ p ∈ put, p.1.length ≤ 1000000 ∧ p.2.length ≤ 1000000) (hpl : put.length ≤ 1000000) :
 Eff M 14 [.ptr 0 0, .mp 4, .lit (.slice none 0 0)] ⟨(hpS n S s l c).H ++ [.map (entT lp) cp], []⟩ (CmR n (zAm S s put []) [.map (entT lp) cp]) :=
 eff_args (commit_e n S hS s hs hm hp hpb hpl [] (by simp) (by simp)) rfl
theorem rel_own {w : World} {g : Gh} {es : List D} {o : GoV.Own} {x : Value} (h : Rel w g (.slice es o) x) : Rel w g (.slice es .no) x := by
 simp only [Rel] at h ⊢
 obtain ⟨b, cap, k, ys, h1, h2, h3, h4, h5, h6⟩ := h
 exact ⟨b, cap, k, ys, h1, h2, h3, h4, h5, trivial⟩
theorem eff_own3 {M : Mod} {f : FuncId} {a b : D} {es : List D} (o : GoV.Own) {hp : Hp} {R : D → Hp → Prop} (h : Eff M f [a, b, .slice es .no] hp R) : Eff M f [a, b, .slice es o] hp R :=
 ⟨h.1, fun w g xs hA hh hr => h.2 w g xs hA hh (by
  obtain ⟨x, xs, rfl, h1, hr⟩ := hr.inv
  obtain ⟨y, ys, rfl, h2, hr⟩ := hr.inv
  obtain ⟨z, zs, rfl, h3, hr⟩ := hr.inv
  exact RelL.cons h1 (RelL.cons h2 (RelL.cons (rel_own h3) hr)))⟩
theorem ofL_1 (k v : Tx) : ofL [(k, v)] = [(k, v)] := rfl
set_option maxHeartbeats 8000000 in
theorem head_p : Pur M 10 [] (.bool true) := by
 refine k10.ow (C := C10) rfl rfl ?_
 rw [i10]
 unfold c10
 have k13 := new_p 20 (by decide) (by decide)
 have k12 := open_new 20 (by decide) (by decide)
 have kA := fun l c (hm : MpOk l c hs0.kv) => commit_m 20 hS0 (newS_ok 20) hs0 hs0_ok hm (zFb [([97], [49]), ([98], [50])]) (bd_small (by decide +kernel)) (by decide +kernel)
 have kB := fun l c (hm : MpOk l c hA.2.1.kv) => eff_own3 .full (commit_z 20 hA.1 hA_ok.1 hA.2.1 hA_ok.2 hm [[97]] (by decide) (by decide))
 have kG := fun l c (hm : MpOk l c hB.2.1.kv) => get_s 20 hB.1 hB.2.1 hm [97]
 have kH := fun l c (hm : MpOk l c hB.2.1.kv) => get_s 20 hB.1 hB.2.1 hm [98]
 have kO := one_p [99] (zr 20001)
 have kP := one_p [99] (zr 500)
 have kR := one_p [98] [50]
 have kD := fun l c (hm : MpOk l c hB.2.1.kv) => commit_m 20 hB.1 hB_ok.1 hB.2.1 hB_ok.2 hm (zFb [([99], zr 20001)]) (by rw [ofL_1]; simp) (by rw [ofL_1]; simp)
 have kE := fun l c (hm : MpOk l c hB.2.1.kv) => commit_m 20 hB.1 hB_ok.1 hB.2.1 hB_ok.2 hm (zFb [([99], zr 500)]) (by rw [ofL_1]; simp) (by rw [ofL_1]; simp)
 have kC := fun l c (hm : MpOk l c hB.2.1.kv) => compact_s 20 hB.1 hB_ok.1 hB.2.1 hB_ok.2 hm (by rw [ex_kv.1]; simp) (by rw [ex_kv.1]; simp)
 have kW := raw_p 20 (by decide) hC.1 hC_ok.1
 have kI := open_ok 20 (by decide) (by decide) hC.1 hC_ok.1 (some (0, 1)) ex_head (by decide) [([98], [50])] ex_load (by simp)
 have kU := fun l c (hm : MpOk l c hs0.kv) => commit_m 20 hS0 (newS_ok 20) hs0 hs0_ok hm (zFb [([98], [50])]) (by rw [ofL_1]; simp) (by rw [ofL_1]; simp)
 have kV := fun l c (hm : MpOk l c hU.2.1.kv) => compact_s 20 hU.1 hU_ok.1 hU.2.1 hU_ok.2 hm (by rw [ex_kvU]; simp) (by rw [ex_kvU]; simp)
 have kX := raw_p 20 (by decide) hV.1 hV_ok
 have kK := fun l c (hm : MpOk l c [([98], [50])]) => keysS_s 20 hC.1 ⟨9, 0, 1, [([98], [50])]⟩ hm (by simp) (by simp)
 have kS : Pur M 17 [.slice [.str [98]] .no, .slice [.str [98]] .no] (.bool true) := same_p [[98]] [[98]] (by simp)
 have kK : ∀ l c (hm : MpOk l c [([98], [50])]), Eff M 19 [.ptr 0 0] (hpS 20 hC.1 ⟨9, 0, 1, [([98], [50])]⟩ l c) fun d hp => d = .slice [.str [98]] .no ∧ hp = hpS 20 hC.1 ⟨9, 0, 1, [([98], [50])]⟩ l c := kK
 simp only [Option.getD_some] at kI
 have oA : ofL [([97], [49]), ([98], [50])] = [([97], [49]), ([98], [50])] := by decide +kernel
 rw [oA] at kA
 simp only [ofL_1] at kD kE kU
 have rD : zAm hB.1 hB.2.1 [([99], zr 20001)] [] = (hB.1, hB.2.1, 7) := by
  unfold zAm
  rw [if_pos (by rw [ex_big]; decide), ex_big]
 have rE : zAm hB.1 hB.2.1 [([99], zr 500)] [] = (hB.1, hB.2.1, 6) := by
  rcases zCo 20 hB_ok.1 hB_ok.2 [([99], zr 500)] [] with h | h
  ·rw [h.2.1, show (zAm hB.1 hB.2.1 [([99], zr 500)] []).2.2 = 6 from ex_F]
  ·exact absurd (ex_F.symm.trans h.1) (by decide)
 rw [rD] at kD
 rw [rE] at kE
 rw [ex_rest] at kI
 rw [show zAm hS0 hs0 [([97], [49]), ([98], [50])] [] = hA from rfl] at kA
 rw [show zAm hA.1 hA.2.1 [] [[97]] = hB from rfl] at kB
 rw [show zBj hB.1 hB.2.1 = hC from rfl] at kC
 rw [show zAm hS0 hs0 [([98], [50])] [] = hU from rfl] at kU
 rw [show zBj hU.1 hU.2.1 = hV from rfl] at kV
 have g1 : getK [97] hB.2.1.kv = none := by rw [ex_kv.1]; rfl
 have g2 : getK [98] hB.2.1.kv = some [50] := by rw [ex_kv.1]; rfl
 rw [g1] at kG
 rw [g2] at kH
 simp only [Option.getD_none, Option.isSome_none, Option.getD_some, Option.isSome_some] at kG kH
 rw [← ex_raw] at kX
 have hRF : (hC.1.flatten == hC.1.flatten) = true := beq_self_eq_true _
 have hRL := ex_len
 have h50 : (([50] : Tx) == [50]) = true := rfl
 have hE := zAk
 have hB0 := fun β τ => zAi β τ hS0.flatten
 have hB1 := fun β τ => zAi β τ hA.1.flatten
 have hB2 := fun β τ => zAi β τ hB.1.flatten
 have hB3 := fun β τ => zAi β τ hC.1.flatten
 have hB4 := fun β τ => zAi β τ hU.1.flatten
 have hB5 := fun β τ => zAi β τ hV.1.flatten
 have p1 := put_1 [97] [49]
 have p2 := put_2 ([97], [49]) [98] [50]
 have o1 := zD7 (mapT [([97], [49])]).1
 have o0 := zD7 []
 have z1 := zFh 20001
 have z2 := zFh 500
 have hbr := zAi
 have hz1 : (zr 20001).length = 20001 := zr_len _
 have hz2 : (zr 500).length = 500 := zr_len _
 have t1 : Int.toNat 20001 = 20001 := rfl
 have t2 : Int.toNat 500 = 500 := rfl
 unfold OpRs at k12
 unfold CmR at kA kB kD kE kU
 simp only [ex_A.1, ex_A.2.1, ex_A.2.2.1, ex_A.2.2.2.1, ex_A.2.2.2.2] at kA kB kC kU kV
 unfold hpS stB dkB byB at *
 unfold opB at *
 simp only [queD, hs0, List.append_nil, List.cons_append, List.nil_append] at *
 rw [show hS0 = newS 20 from rfl] at hB0 kA kU
 simp only [Nat.reduceMul, Nat.reduceSub, Nat.reduceDiv] at *
 generalize bys (newS 20).flatten = Y0 at *
 generalize bys hA.1.flatten = YA at *
 generalize bys hB.1.flatten = YB at *
 generalize bys hC.1.flatten = YC at *
 generalize bys hU.1.flatten = YU at *
 generalize bys hV.1.flatten = YV at *
 generalize hA.2.1.size = zA at *
 generalize hA.2.1.area = aA at *
 generalize hA.2.1.count = nA at *
 generalize hA.2.1.kv = mA at *
 generalize hB.2.1.size = zB at *
 generalize hB.2.1.area = aB at *
 generalize hB.2.1.count = nB at *
 generalize hB.2.1.kv = mB at *
 generalize hC.2.1.size = zC at *
 generalize hC.2.1.area = aC at *
 generalize hC.2.1.count = nC at *
 generalize hC.2.1.kv = mC at *
 generalize hU.2.1.size = zU at *
 generalize hU.2.1.area = aU at *
 generalize hU.2.1.count = nU at *
 generalize hU.2.1.kv = mU at *
 generalize hV.2.1.size = zV at *
 generalize hV.2.1.area = aV at *
 generalize hV.2.1.count = nV at *
 generalize hV.2.1.kv = mV at *
 generalize hC.1.flatten = RF at *
 generalize zr 20001 = Z1 at *
 generalize zr 500 = Z2 at *
 have wQ := And.intro @hE (And.intro @hB0 (And.intro @hB1 (And.intro @hB2 (And.intro @hB3 (And.intro @hB4 @hB5))))); repeat' (first | with_reducible (apply swq; constructor) | simp only [go_sem, seval, P10, pe10, q10, p1, p2, o0, o1, zAv] | simp (disch := omega) only [wA] | ((with_reducible refine o_eff [] [] (k13) ?hs ?he ?hh ?_); (case hs => exact so); (case he | hh => exact sh wQ); rintro _ _ ⟨rfl, rfl⟩) | ((with_reducible refine o_eff [0, 1] [] (k12) ?hs ?he ?hh ?_); (case hs => exact so); (case he | hh => exact sh wQ); rintro _ _ ⟨rfl, l0, c0, rfl, m0⟩) | ((with_reducible refine o_eff [3, 2, 0, 1, 4] [] ((kA _ _ m0)) ?hs ?he ?hh ?_); (case hs => exact so); (case he | hh => exact sh wQ); rintro _ _ ⟨rfl, l1, c1, rfl, m1⟩) | ((with_reducible refine o_eff [3, 2, 0, 1] [] ((kB _ _ m1)) ?hs ?he ?hh ?_); (case hs => exact so); (case he | hh => exact sh wQ); rintro _ _ ⟨rfl, l2, c2, rfl, m2⟩) | ((with_reducible refine o_eff [3, 2, 0, 1] [] ((kG _ _ m2)) ?hs ?he ?hh ?_); (case hs => exact so); (case he | hh => exact sh wQ); rintro _ _ ⟨rfl, rfl⟩) | ((with_reducible refine o_eff [3, 2, 0, 1] [] ((kH _ _ m2)) ?hs ?he ?hh ?_); (case hs => exact so); (case he | hh => exact sh wQ); rintro _ _ ⟨rfl, rfl⟩) | ((with_reducible apply s_bsl); (case he | hl | hc => exact sd wQ)) | ((with_reducible apply s_mks); (case h0 | h1 | h2 => exact sd wQ)) | ((with_reducible apply s_mpu); (case h1 | hk => rfl); (case ha | hp => first | rfl | assumption)) | with_reducible intro _)
 all_goals try omega
 rw [t1, z1]
 repeat' (first | with_reducible (apply swq; constructor) | simp only [go_sem, seval, P10, pe10, q10, zAv] | with_reducible intro _)
 refine s_b2z rfl hz1 ?_
 have wQ := And.intro @hE (And.intro @hB0 (And.intro @hB1 (And.intro @hB2 (And.intro @hB3 (And.intro @hB4 @hB5))))); repeat' (first | with_reducible (apply swq; constructor) | simp only [go_sem, seval, P10, pe10, q10, t2, z2, zAv] | ((with_reducible refine o_eff [] [] (kO) ?hs ?he ?hh ?_); (case hs => exact so); (case he | hh => exact sh wQ); rintro _ _ ⟨rfl, rfl⟩) | ((with_reducible refine o_eff [3, 2, 0, 1, 6] [] ((kD _ _ m2)) ?hs ?he ?hh ?_); (case hs => exact so); (case he | hh => exact sh wQ); rintro _ _ ⟨rfl, l3, c3, rfl, m3⟩) | ((with_reducible apply s_mks); (case h0 | h1 | h2 => exact sd wQ)) | with_reducible intro _)
 all_goals try omega
 refine s_b2z rfl hz2 ?_
 have wQ := And.intro @hE (And.intro @hB0 (And.intro @hB1 (And.intro @hB2 (And.intro @hB3 (And.intro @hB4 @hB5))))); repeat' (first | with_reducible (apply swq; constructor) | simp only [go_sem, seval, P10, pe10, q10, hRF, hRL, h50, zAv] | ((with_reducible refine o_eff [] [] (kP) ?hs ?he ?hh ?_); (case hs => exact so); (case he | hh => exact sh wQ); rintro _ _ ⟨rfl, rfl⟩) | ((with_reducible refine o_eff [3, 2, 0, 1, 8] [] ((kE _ _ m3)) ?hs ?he ?hh ?_); (case hs => exact so); (case he | hh => exact sh wQ); rintro _ _ ⟨rfl, l4, c4, rfl, m4⟩) | ((with_reducible refine o_eff [3, 2, 0, 1] [] ((kC _ _ m4)) ?hs ?he ?hh ?_); (case hs => exact so); (case he | hh => exact sh wQ); rintro _ _ ⟨rfl, rfl⟩) | ((with_reducible refine o_eff [0, 1] [] (kW) ?hs ?he ?hh ?_); (case hs => exact so); (case he | hh => exact sh wQ); rintro _ _ ⟨rfl, rfl⟩) | ((with_reducible refine o_eff [0, 1] [] (kI) ?hs ?he ?hh ?_); (case hs => exact so); (case he | hh => exact sh wQ); rintro _ _ ⟨rfl, l5, c5, rfl, m5⟩) | ((with_reducible refine o_eff [] [] (k13) ?hs ?he ?hh ?_); (case hs => exact so); (case he | hh => exact sh wQ); rintro _ _ ⟨rfl, rfl⟩) | ((with_reducible refine o_eff [11, 12] [] (k12) ?hs ?he ?hh ?_); (case hs => exact so); (case he | hh => exact sh wQ); rintro _ _ ⟨rfl, l6, c6, rfl, m6⟩) | ((with_reducible refine o_eff [] [] (kR) ?hs ?he ?hh ?_); (case hs => exact so); (case he | hh => exact sh wQ); rintro _ _ ⟨rfl, rfl⟩) | ((with_reducible refine o_eff [14, 13, 11, 12, 15] [] ((kU _ _ m6)) ?hs ?he ?hh ?_); (case hs => exact so); (case he | hh => exact sh wQ); rintro _ _ ⟨rfl, l7, c7, rfl, m7⟩) | ((with_reducible refine o_eff [14, 13, 11, 12] [] ((kV _ _ m7)) ?hs ?he ?hh ?_); (case hs => exact so); (case he | hh => exact sh wQ); rintro _ _ ⟨rfl, rfl⟩) | ((with_reducible refine o_eff [10, 9, 0, 1] [] ((kK _ _ m5)) ?hs ?he ?hh ?_); (case hs => exact so); (case he | hh => exact sh wQ); rintro _ _ ⟨rfl, rfl⟩) | ((with_reducible refine zAc (kS) ?he ?hc ?_); (case he | hc => exact sc wQ)) | ((with_reducible refine o_eff [11, 12] [] (kX) ?hs ?he ?hh ?_); (case hs => exact so); (case he | hh => exact sh wQ); rintro _ _ ⟨rfl, rfl⟩) | ((with_reducible apply s_bsl); (case he | hl | hc => exact sd wQ)) | with_reducible intro _)
 all_goals try omega
 exact ⟨_, zAa, rfl, rfl⟩
end Go.Proofs.YtkobjnpmjngklaaGreatDoor
end
section
set_option maxRecDepth 100000
set_option linter.unusedSimpArgs false
set_option linter.unusedVariables false
namespace Go.Proofs.YtkobjnpmjngklaaGreatDoor
open Go GoV
theorem ofL_sub (l : KV) : ∀ p ∈ ofL l, p ∈ l := by
 refine rev_ind (P := fun l => ∀ p ∈ ofL l, p ∈ l) (by simp [ofL]) (fun l a ih p hp => ?_) l
 have e : ofL (l ++ [a]) = insK a.1 a.2 (ofL l) := by simp [ofL]
 rw [e, zCw (zFs l)] at hp
 rcases hp with h | h
 ·simp [h]
 ·simp [ih p h.2]
theorem ofL_len (l : KV) : (ofL l).length ≤ l.length := by have := zF0 l []; simpa [ofL] using this
def KvB (i : Nat) (m : KV) : Prop := m.length ≤ 6 * i ∧ ∀ p ∈ m, p.1.length + p.2.length ≤ 600
theorem wrong_vals {put : KV} {drop : List Tx} (h : ∀ p ∈ put, p.2.length ≤ 20000) : zA2 put drop = 0 ∨ zA2 put drop = 1 := by
 unfold zA2
 split
 ·left
  rw [if_neg]
  simp only [List.any_eq_true, decide_eq_true_eq, not_exists, not_and]
  intro p hp
  have := h p hp
  omega
 ·exact .inr rfl
theorem apply_b {i : Nat} {m put : KV} {drop : List Tx} (hm : So (ks m)) (h : KvB i m) (hp : put.length ≤ 6) (hpb : ∀ p ∈ put, p.1.length + p.2.length ≤ 600) : KvB (i + 1) (zBf m put drop) := by
 refine ⟨by have := apply_len m put drop; have := h.1; omega, fun p hq => ?_⟩
 rw [← apply_ofL hm, zEq hm (zC0 (zFs put))] at hq
 rcases hq.2 with q | q
 ·exact hpb p (ofL_sub put p q)
 ·exact h.2 p q.2
theorem apply_same {m put : KV} {drop : List Tx} (hm : So (ks m)) : zBf m (ofL put) (setT drop) = zBf m put drop := by
 rw [apply_set hm (zC0 (zFs put)), apply_ofL hm]
theorem cl_prs : ∀ l : KV, D.cL (prs l) = true
 | [] => rfl
 | p :: l => by
   have := cl_prs l
   simp only [prs, List.map_cons, D.cL, pairD, D.closed, Bool.true_and] at this ⊢
   exact this
theorem er_prs : ∀ l : KV, D.erL (prs l) = prs l
 | [] => rfl
 | p :: l => by
   have := er_prs l
   simp only [prs, List.map_cons, D.erL, pairD, D.er] at this ⊢
   rw [this]
theorem cl_ops : ∀ l : List OpR, D.cL (ops l) = true
 | [] => rfl
 | o :: l => by
   have := cl_ops l
   simp only [ops, List.map_cons, D.cL, opD, D.closed, cl_prs, zAz, Bool.true_and] at this ⊢
   exact this
theorem er_ops : ∀ l : List OpR, D.erL (ops l) = ops l
 | [] => rfl
 | o :: l => by
   have := er_ops l
   simp only [ops, List.map_cons, D.erL, opD, D.er] at this ⊢
   rw [this]
theorem few_o {o : OpR} (h : OpFew o) : o.put.length ≤ 6 ∧ o.drop.length ≤ 6 ∧ (∀ p ∈ o.put, p.1.length + p.2.length ≤ 600) ∧ ∀ k ∈ o.drop, k.length ≤ 600 := ⟨h.1.1, h.1.2, h.2.1, h.2.2⟩
theorem commit_o (n : Nat) (S : Sx) (hS : SxOk S n) (s : Sto) (hs : StOk n s) {l : List Tri} {c : Nat} (hm : MpOk l c s.kv) {o : OpR} (ho : OpFew o) :
 Eff M 14 [.ptr 0 0, .mp 4, .slice (strs o.drop) .no] ⟨(hpS n S s l c).H ++ [.map (entT (mapT o.put).1) (mapT o.put).2], []⟩ (CmR n (zAm S s (ofL o.put) o.drop) [.map (entT (mapT o.put).1) (mapT o.put).2]) := by
 obtain ⟨h1, h2, h3, h4⟩ := few_o ho
 have := ofL_len o.put
 exact commit_e n S hS s hs hm (zFb o.put) (fun p hp => by have := h3 p (ofL_sub _ p hp); omega) (by omega) o.drop (by omega) (fun k hk => by have := h4 k hk; omega)
theorem commit_oc (n : Nat) {S : Sx} (hS : SxOk S n) {s : Sto} (hs : StOk n s) (hso : So (ks s.kv)) {o : OpR} (ho : OpFew o) {i : Nat} (hk : KvB i s.kv) :
 (∃ f : Int, (f = 1 ∨ f = 6) ∧ zAm S s (ofL o.put) o.drop = (S, s, f)) ∨
 ∃ S' s', zAm S s (ofL o.put) o.drop = (S', s', 0) ∧ SxOk S' n ∧ StOk n s' ∧ s'.kv = zBf s.kv o.put o.drop := by
 obtain ⟨h1, h2, h3, h4⟩ := few_o ho
 have hv := wrong_vals (put := ofL o.put) (drop := o.drop) fun p hp => by have := h3 p (ofL_sub _ p hp); omega
 rcases zCo n hS hs (ofL o.put) o.drop with ⟨g1, g2, g3⟩ | ⟨g1, g2, g3, g4, g5⟩
 ·refine .inl ⟨_, ?_, g2⟩
  rcases g3 with q | q
  ·exact .inr q
  ·rcases hv with r | r
   ·exact absurd (q.trans r) g1
   ·exact .inl (q.trans r)
 ·refine .inr ⟨_, _, ?_, g3, g4, ?_⟩
  ·rw [← g1]
  ·rw [g5, apply_same hso]
theorem rem_n (r : Nat) : (4 : Int) + Int.tmod ((r : Nat) : Int) 100 = ((4 + r % 100 : Nat) : Int) := by
 rw [Int.tmod_eq_emod_of_nonneg (Int.natCast_nonneg r)]; omega
end Go.Proofs.YtkobjnpmjngklaaGreatDoor
end
section
set_option maxRecDepth 100000
set_option linter.unusedSimpArgs false
set_option linter.unusedVariables false
namespace GoV
open Go Go.RowKit Go.ChangeShapes Go.Deep
def OpensZ (P : Program) (w : World) (n : Nat) (t : TypeId) {α : Type} (f : α → List D) (ok : α → Prop) : Prop :=
 ∀ (H : Type) (enc : TypeId × Value → H) (cs : List Value) (x : DataW H × List MemPlace), DataW.trod enc P w 0 (fun _ => true) true n t cs = some x → (∀ m ∈ DataW.weights P t x.1, m ≤ reachBytes) →
  ∃ a, ok a ∧ RelL w (G0 w) (f a) cs ∧ ∀ y ∈ cs, oneC y
section
variable {P : Program} {w : World} {n : Nat} {t e : TypeId}
theorem zDr {H : Type} {e : TypeId} : ∀ {l : List (DataW H)} {d : DataW H} {m : Nat}, d ∈ l → m ∈ DataW.weights P e d → m ∈ DataW.weightsAll P e l
 | [], _, _, h, _ => by simp at h
 | d0 :: l, d, m, h, hm => by
   simp only [DataW.weightsAll, List.mem_append]
   rcases List.mem_cons.1 h with rfl | h
   ·exact .inl hm
   ·exact .inr (zDr h hm)
theorem OpensZ.imp {α β : Type} {f : α → List D} {ok : α → Prop} {f' : β → List D} {ok' : β → Prop} (h : OpensZ P w n t f ok) (c : α → β) (h1 : ∀ a, ok a → f' (c a) = f a) (h2 : ∀ a, ok a → ok' (c a)) : OpensZ P w n t f' ok' := by
 intro H enc cs x hx hz
 obtain ⟨a, k1, k2, k3⟩ := h H enc cs x hx hz
 exact ⟨c a, h2 a k1, by rw [h1 a k1]; exact k2, k3⟩
theorem Opens.toZ {α : Type} {f : α → List D} {ok : α → Prop} (h : Opens P w n t f ok) : OpensZ P w n t f ok := fun H enc cs x hx _ => h H enc cs x hx
theorem opensZ_str (ht : P.underlying t = some .string) : OpensZ P w n t (fun s : List UInt8 => [.str s]) (fun s => s.length ≤ reachBytes) := by
 intro H enc cs x hx hz
 obtain ⟨s, rfl, rfl, hl⟩ := DataW.trod_string ht hx
 refine ⟨s.data.toList, ?_, RelL.one (by simp [Rel]), by simp [oneC, Value.oneCell']⟩
 exact hz _ (by simp [DataW.weights])
theorem zEg {α : Type} {f : α → List D} {ok : α → Prop} (ht : P.underlying t = some (.slice e)) (hc : 0 < P.cellsOf e) (h : OpensZ P w n e f ok) :
 OpensZ P w (n + 1) t (fun l : List α => [.slice (l.map fun a => pk (f a)) .no]) (fun l => l.length * P.bytesOf e ≤ reachBytes ∧ ∀ a ∈ l, ok a) := by
 intro H enc cs x hx hz
 rcases DataW.trod_slice ht hx with ⟨rfl, _⟩ | ⟨a, len, cap, elems, rest, n', hn, rfl, hxe, _, hlc, hm, hlen, hel, _⟩
 ·refine ⟨[], by simp, RelL.one ?_, by simp [oneC, Value.oneCell']⟩
  simp only [Rel]
  exact ⟨⟨0, 0, none⟩, 0, 0, [], .inr ⟨by simp, by simp, rfl⟩, by simp, RelL.nil, by simp, At.nil, trivial⟩
 obtain rfl : n = n' := by omega
 have hx1 : x.1 = .slice (elems.map (·.1)) (rest.map (·.1)) := congrArg Prod.fst hxe
 rw [hx1, DataW.weights, ht] at hz
 have hzl : len * P.bytesOf e ≤ reachBytes := by
  have := hz _ (List.mem_cons_self ..)
  rw [List.length_map, List.length_map, hlen] at this
  exact Nat.le_trans (Nat.mul_le_mul_right _ (Nat.le_add_right _ _)) this
 have hze : ∀ y ∈ elems, ∀ m ∈ DataW.weights P e y.1, m ≤ reachBytes := fun y hy m hm => hz m (List.mem_cons_of_mem _ (List.mem_append_left _ (zDr (List.mem_map_of_mem hy) hm)))
 have one : ∀ i, i < len → ∃ av : α × Value, ok av.1 ∧ Rel w (G0 w) (pk (f av.1)) av.2 ∧ w.cells? 0 (a.add (i * P.cellsOf e)) (P.cellsOf e) = some av.2.cells.toList ∧ ∀ y ∈ av.2.cells.toList, oneC y := by
  intro i hi
  have h1 := hel i hi
  rw [List.getElem?_eq_getElem (by omega)] at h1
  obtain ⟨cs', h2, h3⟩ := Option.bind_eq_some_iff.1 h1
  obtain ⟨b, k1, k2, k3⟩ := h H enc cs' _ h3 (hze _ (List.getElem_mem _))
  obtain ⟨v, k4, k5⟩ := rel_pk k2 k3
  exact ⟨⟨b, v⟩, k1, k4, by rw [k5]; exact h2, by rw [k5]; exact k3⟩
 obtain ⟨l, hl, hq⟩ := list_choose len one
 have hrel : ∀ (l : List (α × Value)), (∀ i (h : i < l.length), Rel w (G0 w) (pk (f (l[i]).1)) (l[i]).2) → RelL w (G0 w) (l.map fun av => pk (f av.1)) (l.map (·.2)) := by
  intro l
  induction l with
  | nil => intro _; exact RelL.nil
  | cons x l ih => intro hh; exact RelL.cons (hh 0 (by simp)) (ih fun i hi => hh (i + 1) (by simpa using hi))
 have hsz : ∀ y ∈ l.map (·.2), y.cells.size = P.cellsOf e := by
  intro y hy
  obtain ⟨av, hav, rfl⟩ := List.mem_map.1 hy
  obtain ⟨i, hi, rfl⟩ := List.getElem_of_mem hav
  have := (World.cells?_some (hq i hi).2.2.1).2.1
  simpa using this
 have cap_le := hzl
 refine ⟨l.map (·.1), ⟨by simpa [hl] using cap_le, fun b hb => ?_⟩, RelL.one ?_, by simp [oneC, Value.oneCell']⟩
 ·obtain ⟨av, hav, rfl⟩ := List.mem_map.1 hb
  obtain ⟨i, hi, rfl⟩ := List.getElem_of_mem hav
  exact (hq i hi).1
 ·simp only [Rel]
  refine ⟨a, cap, P.cellsOf e, l.map (·.2), .inl (by simp [hl]), by simp [hl, hlc], ?_, hsz, ⟨fun hne => ?_, fun j y hj => ?_⟩, trivial⟩
  ·have := hrel l fun i hi => (hq i hi).2.1
   rw [List.map_map]
   exact this
  ·have hpos : 0 < l.length := by
    rcases Nat.eq_zero_or_pos l.length with q | q
    ·exfalso; apply hne
     rw [List.length_eq_zero_iff.1 q]; rfl
    ·exact q
   have hc0 := (World.cells?_some (hq 0 hpos).2.2.1).2.2 0 hc
   have hlen0 := (World.cells?_some (hq 0 hpos).2.2.1).2.1
   rw [List.getElem?_eq_getElem (by omega)] at hc0
   simp only [Nat.zero_mul] at hc0
   have ha0 : ∀ b : Addr, b.add 0 = b := fun b => by simp [Addr.add]
   rw [ha0, ha0] at hc0
   unfold World.cell? at hc0
   split at hc0
   ·split at hc0
    ·cases hc0
    ·rename_i hs; simpa using hs
   ·cases hc0
  ·obtain ⟨x, h1, h2⟩ := flat_get hc hsz hj
   rw [List.getElem?_map] at h1
   obtain ⟨av, hav, rfl⟩ := Option.map_eq_some_iff.1 h1
   have hi : j / P.cellsOf e < l.length := by
    rcases Nat.lt_or_ge (j / P.cellsOf e) l.length with q | q
    ·exact q
    ·rw [List.getElem?_eq_none q] at hav; cases hav
   rw [List.getElem?_eq_getElem hi] at hav
   cases hav
   obtain ⟨_, _, k3, k4⟩ := hq _ hi
   have hm := Nat.mod_lt j hc
   have hcell := (World.cells?_some k3).2.2 _ hm
   rw [h2] at hcell
   have hadd : w.cell? ((a.add (j / P.cellsOf e * P.cellsOf e)).add (j % P.cellsOf e)) = w.cell? ⟨a.block, a.off + j, none⟩ := by
    rw [add_add]
    have e1 : j / P.cellsOf e * P.cellsOf e + j % P.cellsOf e = j := Nat.div_add_mod' j _
    rw [e1]
    unfold Addr.add
    split
    ·rename_i hj0
     subst hj0
     rw [add_add, e1] at hcell
     have : a.add 0 = a := by simp [Addr.add]
     rw [this] at hcell
     have hsp : a.spot = none := by
      unfold World.cell? at hcell
      split at hcell
      ·split at hcell
       ·cases hcell
       ·rename_i hs; simpa using hs
      ·cases hcell
     obtain ⟨b, o, s⟩ := a
     simp at hsp; subst hsp; rfl
    ·rfl
   rw [hadd] at hcell
   refine ⟨hcell, ?_, k4 y (List.mem_of_getElem? h2)⟩
   have := World.block_lt_of_cell? w _ hcell
   exact this
def OpensFZ (P : Program) (w : World) (n : Nat) (fs : List Field) (off : Nat) {α : Type} (f : α → List D) (ok : α → Prop) : Prop :=
 ∀ (H : Type) (enc : TypeId × Value → H) (cs : List Value), cs.length = off + (fs.map fun f => P.cellsOf f.type).sum →
  (∀ f ∈ fs, ∃ x, DataW.trod enc P w 0 (fun _ => true) true n f.type ((cs.drop f.offset).take (P.cellsOf f.type)) = some x ∧ ∀ m ∈ DataW.weights P f.type x.1, m ≤ reachBytes) →
  ∃ a, ok a ∧ RelL w (G0 w) (f a) (cs.drop off) ∧ ∀ y ∈ cs.drop off, oneC y
theorem opensFZ_nil {off : Nat} : OpensFZ P w n [] off (fun _ : Unit => []) (fun _ => True) := by
 intro H enc cs hl _
 have : cs.drop off = [] := List.drop_eq_nil_of_le (by simp at hl; omega)
 rw [this]
 exact ⟨(), trivial, RelL.nil, by simp⟩
theorem zB6 {α β : Type} {f : α → List D} {ok : α → Prop} {g : β → List D} {ok' : β → Prop} {fl : Field} {fs : List Field} {off c : Nat} (ho : fl.offset = off) (hc : P.cellsOf fl.type = c) (h : OpensZ P w n fl.type f ok) (hr : OpensFZ P w n fs (off + c) g ok') :
 OpensFZ P w n (fl :: fs) off (fun p : α × β => f p.1 ++ g p.2) (fun p => ok p.1 ∧ ok' p.2) := by
 subst ho; subst hc
 intro H enc cs hl hf
 simp only [List.map_cons, List.sum_cons] at hl
 obtain ⟨x, hx, hz⟩ := hf fl (by simp)
 obtain ⟨a, k1, k2, k3⟩ := h H enc _ x hx hz
 obtain ⟨b, j1, j2, j3⟩ := hr H enc cs (by omega) (fun f hm => hf f (by simp [hm]))
 have e : cs.drop fl.offset = (cs.drop fl.offset).take (P.cellsOf fl.type) ++ cs.drop (fl.offset + P.cellsOf fl.type) := by
  rw [← List.drop_drop, List.take_append_drop]
 refine ⟨(a, b), ⟨k1, j1⟩, ?_, ?_⟩
 ·rw [e]; exact k2.append j2
 ·rw [e]
  intro y hy
  rcases List.mem_append.1 hy with q | q
  ·exact k3 y q
  ·exact j3 y q
theorem opensZ_struct {α : Type} {f : α → List D} {ok : α → Prop} {fs : List Field} (ht : P.underlying t = some (.struct fs.toArray)) (hc : P.cellsOf t = (fs.map fun f => P.cellsOf f.type).sum) (h : OpensFZ P w n fs 0 f ok) : OpensZ P w (n + 1) t f ok := by
 intro H enc cs x hx hz
 obtain ⟨xs, n', hn, hxe, hl, hlen, hf⟩ := DataW.trod_struct ht hx
 obtain rfl : n = n' := by omega
 have hx1 : x.1 = .agg (xs.map (·.1)) := congrArg Prod.fst hxe
 rw [hx1, DataW.weights, ht] at hz
 have := h H enc cs (by omega) (fun f hm => by
  obtain ⟨i, hi, rfl⟩ := List.getElem_of_mem hm
  have hq := hf i fs[i] (by simp [hi])
  rw [hq]
  have : i < xs.length := by rw [hlen]; simpa using hi
  refine ⟨xs[i], List.getElem?_eq_getElem this, fun m hm => hz m (DataW.weights_mem_each (j := i) (t := fs[i].type) (d := xs[i].1) ?_ ?_ m hm)⟩
  ·simp [hi]
  ·simp [this])
 simpa using this
theorem opensZ_two {α : Type} {f : α → D} {ok : α → Prop} (ht : P.underlying t = some (.array 2 e)) (hc : P.cellsOf e = 1) (hc2 : P.cellsOf t = 2) (h : OpensZ P w n e (fun a : α => [f a]) ok) :
 OpensZ P w (n + 1) t (fun p : α × α => [f p.1, f p.2]) (fun p => ok p.1 ∧ ok p.2) := by
 intro H enc cs x hx hz
 obtain ⟨xs, n', hn, hxe, hl, hlen, hf⟩ := DataW.trod_array ht hx
 obtain rfl : n = n' := by omega
 have hx1 : x.1 = .agg (xs.map (·.1)) := congrArg Prod.fst hxe
 rw [hx1, DataW.weights, ht] at hz
 rw [hc2] at hl
 rw [hc] at hf
 obtain ⟨c0, c1, rfl⟩ : ∃ c0 c1, cs = [c0, c1] := by
  match cs, hl with
  | [c0, c1], _ => exact ⟨c0, c1, rfl⟩
 have h0 := hf 0 (by decide)
 have h1 := hf 1 (by decide)
 rw [List.getElem?_eq_getElem (by omega)] at h0 h1
 obtain ⟨a, k1, k2, k3⟩ := h H enc _ _ h0 (fun m hm => hz m (zDr (List.mem_map_of_mem (List.getElem_mem _)) hm))
 obtain ⟨b, j1, j2, j3⟩ := h H enc _ _ h1 (fun m hm => hz m (zDr (List.mem_map_of_mem (List.getElem_mem _)) hm))
 simp only [Nat.zero_mul, List.drop_zero, Nat.one_mul, List.drop_succ_cons, List.take_succ_cons, List.take_zero] at k2 k3 j2 j3
 refine ⟨(a, b), ⟨k1, j1⟩, ?_, ?_⟩
 ·exact k2.append j2
 ·intro y hy
  simp only [List.mem_cons, List.not_mem_nil, or_false] at hy
  rcases hy with rfl | rfl
  ·exact k3 _ (by simp)
  ·exact j3 _ (by simp)
theorem opensZ_zero {α : Type} {f : α → List D} {ok : α → Prop} : OpensZ P w 0 t f ok := by
 intro H enc cs x hx
 simp [DataW.trod] at hx
theorem zDm {α : Type} {f : α → List D} {ok : α → Prop} (h : ∀ n, OpensZ P w (n + 1) t f ok) : ∀ n, OpensZ P w n t f ok
 | 0 => opensZ_zero
 | n + 1 => h n
theorem arg_cellZ {α : Type} {f : α → List D} {ok : α → Prop} {H : Type} {enc : TypeId × Value → H} {v : Value} {d : DataW H} {ps : List MemPlace} {b : Nat} {desc : TypeDesc} (ht : P.underlying t = some desc) (hd : zBd desc = false) (hval : Value.okWide P w .any b t v)
 (h : DataW.Trod enc P w 0 (fun _ => true) true t v d ps) (hO : ∀ n, OpensZ P w n t f ok) {ts : List TypeId} {ds : List (DataW H)} (hZ : (DataW.weightsEach P ts ds).all (· ≤ reachBytes) = true) (j : Nat) (h1 : ts[j]? = some t) (h2 : ds[j]? = some d) : ∃ a, ok a ∧ RelL w (G0 w) (f a) [v] := by
 obtain ⟨fuel, hx⟩ := h
 obtain ⟨a, k1, k2, _⟩ := hO fuel H enc _ _ hx (fun m hm => by
  have := List.all_eq_true.1 hZ _ (DataW.weights_mem_each h1 h2 m hm)
  simpa using this)
 refine ⟨a, k1, ?_⟩
 have hv : oneC v := by
  cases v with
  | agg cs =>
    exfalso
    unfold Value.okWide at hval
    rw [ht] at hval
    cases desc <;> simp_all [zBd, Cell.okWide, Cell.ok]
  | tuple cs =>
    exfalso
    unfold Value.okWide at hval
    rw [ht] at hval
    cases desc <;> simp_all [zBd, Cell.okWide, Cell.ok]
  | _ => simp [oneC, Value.oneCell']
 rw [zEp hv] at k2
 exact k2
end
end GoV
namespace Go.Proofs.YtkobjnpmjngklaaGreatDoor
open Go GoV
theorem opens_pair {w : World} : ∀ n, OpensZ Tryz.prog w n 66 (fun p : Tx × Tx => [.str p.1, .str p.2]) (fun p => p.1.length ≤ reachBytes ∧ p.2.length ≤ reachBytes) :=
 zDm fun n => opensZ_two (f := fun s : Tx => .str s) Tryz.underlying66 (by kernel_rfl) (by kernel_rfl) (opensZ_str Tryz.underlying9)
theorem opens_put {w : World} : ∀ n, OpensZ Tryz.prog w n 35 (fun l : KV => [.slice (prs l) .no]) (fun l => l.length ≤ reachBytes ∧ ∀ p ∈ l, p.1.length ≤ reachBytes ∧ p.2.length ≤ reachBytes) :=
 zDm fun n => (zEg Tryz.underlying35 (show 0 < Tryz.prog.cellsOf 66 by rw [show Tryz.prog.cellsOf 66 = 2 by kernel_rfl]; omega) (opens_pair n)).imp id (fun a _ => rfl) (fun a h => ⟨by
  have := h.1
  rw [show Tryz.prog.bytesOf 66 = 32 by kernel_rfl] at this
  exact Nat.le_trans (Nat.le_mul_of_pos_right _ (by decide)) this, h.2⟩)
theorem opens_drop {w : World} : ∀ n, OpensZ Tryz.prog w n 31 (fun l : List Tx => [.slice (strs l) .no]) (fun l => l.length ≤ reachBytes ∧ ∀ p ∈ l, p.length ≤ reachBytes) :=
 zDm fun n => (zEg Tryz.underlying31 (show 0 < Tryz.prog.cellsOf 9 by rw [show Tryz.prog.cellsOf 9 = 1 by kernel_rfl]; omega) (opensZ_str (n := n) Tryz.underlying9)).imp id (fun a _ => rfl) (fun a h => ⟨by
  have := h.1
  rw [show Tryz.prog.bytesOf 9 = 16 by kernel_rfl] at this
  exact Nat.le_trans (Nat.le_mul_of_pos_right _ (by decide)) this, h.2⟩)
theorem opens_op {w : World} : ∀ n, OpensZ Tryz.prog w n 37 (fun o : OpR => [.int .i64 o.kind, .slice (prs o.put) .no, .slice (strs o.drop) .no, .int .i64 o.a, .int .i64 o.b, .int .i64 o.c]) (fun o => OpBd o) :=
 zDm fun n => (opensZ_struct (fs := [_, _, _, _, _, _]) Tryz.underlying37 (by kernel_rfl)
  (zB6 (c := 1) rfl (by kernel_rfl) (zFr Tryz.underlying3).toZ (zB6 (c := 1) rfl (by kernel_rfl) (opens_put n) (zB6 (c := 1) rfl (by kernel_rfl) (opens_drop n)
   (zB6 (c := 1) rfl (by kernel_rfl) (zFr Tryz.underlying3).toZ (zB6 (c := 1) rfl (by kernel_rfl) (zFr Tryz.underlying3).toZ (zB6 (c := 1) rfl (by kernel_rfl) (zFr Tryz.underlying3).toZ opensFZ_nil)))))
  )).imp (fun x => ⟨x.1, x.2.1, x.2.2.1, x.2.2.2.1, x.2.2.2.2.1, x.2.2.2.2.2.1⟩) (fun a _ => rfl) (fun a h => by
   have hr : reachBytes ≤ 1000000000000000 := by decide
   obtain ⟨_, ⟨h1, h2⟩, ⟨h3, h4⟩, _⟩ := h
   exact ⟨Nat.le_trans h1 hr, Nat.le_trans h3 hr, fun p hp => ⟨Nat.le_trans (h2 p hp).1 hr, Nat.le_trans (h2 p hp).2 hr⟩, fun k hk => Nat.le_trans (h4 k hk) hr⟩)
theorem opens_ops {w : World} : ∀ n, OpensZ Tryz.prog w n 22 (fun l : List OpR => [.slice (ops l) .no]) (fun l => l.length ≤ 1000000000000000 ∧ ∀ o ∈ l, OpBd o) :=
 zDm fun n => (zEg Tryz.underlying22 (show 0 < Tryz.prog.cellsOf 37 by rw [show Tryz.prog.cellsOf 37 = 6 by kernel_rfl]; omega) (opens_op n)).imp id (fun a _ => rfl) (fun a h => ⟨by
  have := h.1
  rw [show Tryz.prog.bytesOf 37 = 80 by kernel_rfl] at this
  have hr : reachBytes ≤ 1000000000000000 := by decide
  exact Nat.le_trans (Nat.le_trans (Nat.le_mul_of_pos_right _ (by decide)) this) hr, h.2⟩)
end Go.Proofs.YtkobjnpmjngklaaGreatDoor
end
section
set_option maxRecDepth 100000
set_option linter.unusedSimpArgs false
set_option linter.unusedVariables false
namespace Go.Proofs.YtkobjnpmjngklaaGreatDoor
open Go
theorem sec_put {S : Sx} {i : Nat} {l : Sx} (h : i + l.length ≤ S.length) (j : Nat) : secAt (putS S i l) j = if i ≤ j ∧ j < i + l.length then l.getD (j - i) [] else secAt S j := by
 simp only [secAt, List.getD_eq_getElem?_getD, putS_get h]
 split <;> rfl
theorem sec_out {S : Sx} {i : Nat} {l : Sx} (h : i + l.length ≤ S.length) {j : Nat} (hj : ¬ (i ≤ j ∧ j < i + l.length)) : secAt (putS S i l) j = secAt S j := by
 rw [sec_put h, if_neg hj]
theorem sec_one {S : Sx} {i : Nat} {x : Tx} (h : i + 1 ≤ S.length) : secAt (putS S i [x]) i = x := by
 rw [sec_put (by simpa using h), if_pos (by simp)]; simp
theorem logK_congr {S S' : Sx} {z a : Nat} : ∀ (c : Nat), (∀ i, i < c → secAt S' (plc z a i) = secAt S (plc z a i)) → logK S' z a c = logK S z a c
 | 0, _ => rfl
 | c + 1, h => by rw [logK, logK, logK_congr c fun i hi => h i (by omega), h c (by omega)]
theorem loadK_congr {S S' : Sx} {z a c : Nat} (h : ∀ i, i < c → secAt S' (plc z a i) = secAt S (plc z a i)) : loadK S' z a c = loadK S z a c := by
 unfold loadK; rw [logK_congr c h]
theorem plc_2 (z a i : Nat) : 2 ≤ plc z a i := by unfold plc; omega
structure Cns (n : Nat) (S : Sx) (h : Option (Nat × Nat)) (m : KV) : Prop where
 n4 : 4 ≤ n
 n8 : n ≤ 8000
 ok : SxOk S n
 h1 : secAt S 1 = wantK 1 h
 h0 : secAt S 0 = wantK 0 h
 hb : (h.getD (0, 0)).1 < 2 ∧ (h.getD (0, 0)).2 ≤ (n - 2) / 2
 ld : loadK S ((n - 2) / 2) (h.getD (0, 0)).1 (h.getD (0, 0)).2 = some m
structure Opn (n : Nat) (S : Sx) (h : Option (Nat × Nat)) (m : KV) : Prop where
 n4 : 4 ≤ n
 n8 : n ≤ 8000
 ok : SxOk S n
 hd : zBq S ((n - 2) / 2) = h
 h0 : h = none → secAt S 0 = zr 64
 hb : (h.getD (0, 0)).1 < 2 ∧ (h.getD (0, 0)).2 ≤ (n - 2) / 2
 ld : loadK S ((n - 2) / 2) (h.getD (0, 0)).1 (h.getD (0, 0)).2 = some m
theorem want_pos {z pl : Nat} {h : Option (Nat × Nat)} (hz : z ≤ 8000) (hb : (h.getD (0, 0)).1 < 2 ∧ (h.getD (0, 0)).2 ≤ z) : posK z pl (wantK pl h) = h := by
 cases h with
 | none => exact zr_pos z pl
 | some p => exact posK_head (a := p.1) (c := p.2) hb.1 hb.2 (by omega)
theorem Cns.head {n : Nat} {S : Sx} {h : Option (Nat × Nat)} {m : KV} (C : Cns n S h m) : zBq S ((n - 2) / 2) = h := by
 have := C.n8
 rw [zBq, C.h1, C.h0, want_pos (by omega) C.hb, want_pos (by omega) C.hb]
 cases h <;> rfl
theorem Cns.opn {n : Nat} {S : Sx} {h : Option (Nat × Nat)} {m : KV} (C : Cns n S h m) : Opn n S h m :=
 ⟨C.n4, C.n8, C.ok, C.head, fun e => by rw [C.h0, e]; rfl, C.hb, C.ld⟩
theorem rest_sec {n : Nat} {S : Sx} (hS : SxOk S n) {pl : Nat} (hp : pl < n) (h : Option (Nat × Nat)) : secAt (goW S (restW S pl h)) pl = wantK pl h ∧ ∀ j, j ≠ pl → secAt (goW S (restW S pl h)) j = secAt S j := by
 have hl := hS.len
 cases h with
 | none =>
   rw [restW_f]
   split
   ·rename_i e; exact ⟨e, fun _ _ => rfl⟩
   ·refine ⟨sec_one (by omega), fun j hj => sec_out (by simp; omega) (by simp; omega)⟩
 | some p =>
   obtain ⟨a, d⟩ := p
   rw [restW_t]
   split
   ·rename_i e; exact ⟨e, fun _ _ => rfl⟩
   ·have h2 : (putS S pl [zr 64]).length = S.length := putS_len (by simp; omega)
    refine ⟨sec_one (by omega), fun j hj => ?_⟩
    rw [sec_out (by simp; omega) (by simp; omega), sec_out (by simp; omega) (by simp; omega)]
theorem Opn.cns {n : Nat} {S : Sx} {h : Option (Nat × Nat)} {m : KV} (C : Opn n S h m) : Cns n (rest2 S h) h m := by
 have n4 := C.n4
 have n8 := C.n8
 have hb : (h.getD (0, 0)).1 < 2 ∧ (h.getD (0, 0)).2 ≤ 8000 := ⟨C.hb.1, by have := C.hb.2; omega⟩
 have k1 : SxOk (rest1 S h) n := restW_ok C.ok (by omega) hb
 have k2 : SxOk (rest2 S h) n := restW_ok k1 (by omega) hb
 have e1 := rest_sec C.ok (pl := 1) (by omega) h
 have e0 := rest_sec k1 (pl := 0) (by omega) h
 refine ⟨n4, n8, k2, ?_, e0.1, C.hb, ?_⟩
 ·rw [rest2, e0.2 1 (by omega)]; exact e1.1
 ·rw [← C.ld]
  refine loadK_congr fun i hi => ?_
  have := plc_2 ((n - 2) / 2) (h.getD (0, 0)).1 i
  rw [rest2, e0.2 _ (by omega), rest1, e1.2 _ (by omega)]
def Part (n : Nat) (S : Sx) (i : Nat) (L S' : Sx) : Prop :=
 SxOk S' n ∧ ∀ j, secAt S' j = secAt S j ∨ (i ≤ j ∧ j < i + L.length ∧ ∃ k, secAt S' j = (L.getD (j - i) []).take k ++ (secAt S j).drop k)
inductive Crash (n : Nat) : Sx → Wr → Sx → Prop
 | here {S S' : Sx} {i : Nat} {L : Sx} {ws : Wr} : Part n S i L S' → Crash n S ((i, L) :: ws) S'
 | next {S S' : Sx} {i : Nat} {L : Sx} {ws : Wr} : Crash n (putS S i L) ws S' → Crash n S ((i, L) :: ws) S'
theorem Cns.same {n : Nat} {S S' : Sx} {h : Option (Nat × Nat)} {m : KV} (C : Cns n S h m) (ok : SxOk S' n) (h1 : secAt S' 1 = secAt S 1) (h0 : secAt S' 0 = secAt S 0)
 (hl : ∀ i, i < (h.getD (0, 0)).2 → secAt S' (plc ((n - 2) / 2) (h.getD (0, 0)).1 i) = secAt S (plc ((n - 2) / 2) (h.getD (0, 0)).1 i)) : Cns n S' h m :=
 ⟨C.n4, C.n8, ok, by rw [h1]; exact C.h1, by rw [h0]; exact C.h0, C.hb, by rw [loadK_congr hl]; exact C.ld⟩
end Go.Proofs.YtkobjnpmjngklaaGreatDoor
end
section
set_option maxRecDepth 100000
set_option linter.unusedSimpArgs false
set_option linter.unusedVariables false
namespace Go.Proofs.YtkobjnpmjngklaaGreatDoor
open Go
def Idle (n : Nat) (S : Sx) : Prop := ∀ j, 2 + 2 * ((n - 2) / 2) ≤ j → j < n → secAt S j = zr 64
theorem restW_id {S : Sx} {pl : Nat} {h : Option (Nat × Nat)} (e : secAt S pl = wantK pl h) : goW S (restW S pl h) = S := by
 have : restW S pl h = [] := by unfold restW; rw [if_pos e]
 rw [this]; rfl
theorem Cns.rest {n : Nat} {S : Sx} {h : Option (Nat × Nat)} {m : KV} (C : Cns n S h m) : rest2 S h = S := by
 have : rest1 S h = S := restW_id C.h1
 rw [rest2, this, restW_id C.h0]
end Go.Proofs.YtkobjnpmjngklaaGreatDoor
end
section
set_option maxRecDepth 100000
set_option linter.unusedSimpArgs false
set_option linter.unusedVariables false
namespace Go.Proofs.YtkobjnpmjngklaaGreatDoor
open Go GoV
theorem mod_l {x r : Tx} {b : Nat} (f : UInt8 → UInt8) (h : b < x.length) : (x ++ r).modify b f = x.modify b f ++ r := by
 refine List.ext_getElem? fun j => ?_
 rw [List.getElem?_modify, List.getElem?_append, List.getElem?_append, List.length_modify]
 by_cases hj : j < x.length
 ·rw [if_pos hj, if_pos hj, List.getElem?_modify]
 ·have : ¬ b = j := by omega
  rw [if_neg hj, if_neg hj]
  simp [this]
theorem mod_r {x r : Tx} {b : Nat} (f : UInt8 → UInt8) : (x ++ r).modify (x.length + b) f = x ++ r.modify b f := by
 refine List.ext_getElem? fun j => ?_
 rw [List.getElem?_modify, List.getElem?_append, List.getElem?_append]
 by_cases hj : j < x.length
 ·have : ¬ x.length + b = j := by omega
  rw [if_pos hj, if_pos hj]
  simp [this]
 ·rw [if_neg hj, if_neg hj, List.getElem?_modify]
  have : (x.length + b = j) = (b = j - x.length) := by simp only [eq_iff_iff]; omega
  simp only [this]
theorem flat_mod {S : Sx} {n i b : Nat} (hS : SxOk S n) (hi : i < n) (hb : b < 64) (f : UInt8 → UInt8) : (S.modify i fun t => t.modify b f).flatten = S.flatten.modify (64 * i + b) f := by
 have hl := hS.len
 have h64 := hS.s64
 clear hS
 induction S generalizing n i with
 | nil => simp at hl; omega
 | cons x S ih =>
   have hx := h64 x (by simp)
   cases i with
   | zero =>
     simp only [List.modify_zero_cons, List.flatten_cons, Nat.mul_zero, Nat.zero_add]
     rw [mod_l f (by omega)]
   | succ i =>
     simp only [List.modify_succ_cons, List.flatten_cons]
     rw [ih (n := n - 1) (by omega) (by simp at hl; omega) fun t ht => h64 t (by simp [ht]), show 64 * (i + 1) + b = x.length + (64 * i + b) by omega, mod_r]
theorem xor_u8 (a b : Nat) (ha : a < 256) (hb : b < 256) : bits .xor .u8 (a : Int) (b : Int) = ((a ^^^ b : Nat) : Int) := by
 have hx : a ^^^ b < 2 ^ 8 := Nat.xor_lt_two_pow (by omega) (by omega)
 have h1 : (BitVec.ofInt 8 (a : Int)).toNat = a := by
  rw [BitVec.ofInt_natCast, BitVec.toNat_ofNat]; exact Nat.mod_eq_of_lt (by omega)
 have h2 : (BitVec.ofInt 8 (b : Int)).toNat = b := by
  rw [BitVec.ofInt_natCast, BitVec.toNat_ofNat]; exact Nat.mod_eq_of_lt (by omega)
 show IntKind.u8.wrap ((BitVec.ofInt 8 (a : Int) ^^^ BitVec.ofInt 8 (b : Int)).toNat : Int) = _
 rw [BitVec.toNat_xor, h1, h2, IntKind.wrap_u8]
 omega
theorem mod_set {F : Tx} {k : Nat} (h : k < F.length) {f : UInt8 → UInt8} : F.modify k f = F.set k (f (F.getD k 0)) := by
 refine List.ext_getElem? fun j => ?_
 rw [List.getElem?_modify, List.getElem?_set]
 by_cases e : k = j
 ·subst e; simp [h, List.getD_eq_getElem?_getD]
 ·simp [e]
theorem rot_p (n : Nat) (hn : n ≤ 8000) (S : Sx) (hS : SxOk S n) (i a m : Int) :
 Eff M 27 [.ptr 0 0, .int .i64 i, .int .i64 a, .int .i64 m] ⟨[dkB 1 n [] false, byB S], []⟩ fun d hp => d = .tup [] ∧ hp = ⟨[dkB 1 n [] false, byB (rotS S i a m)], []⟩ := by
 refine zAo 2 0 (Nat.le_refl 2) (Nat.le_refl 0) (k27.oe 2 0 rfl rfl rfl ?_)
 rw [ie27]
 unfold c27
 have c1 := place_p n hn [] false S i
 have hB := fun β τ => zAi β τ S.flatten
 have hl : S.flatten.length = 64 * n := by rw [flat_len hS.s64, hS.len]
 have hYl := zDf S.flatten
 by_cases hi : 0 ≤ i ∧ i < n
 ·rw [if_pos hi] at c1
  by_cases hr : 0 ≤ a ∧ a < 64 ∧ 0 < m ∧ m < 256
  ·obtain ⟨i, rfl⟩ : ∃ k : Nat, i = k := ⟨i.toNat, by omega⟩
   obtain ⟨a, rfl⟩ : ∃ k : Nat, a = k := ⟨a.toNat, by omega⟩
   obtain ⟨m, rfl⟩ : ∃ k : Nat, m = k := ⟨m.toNat, by omega⟩
   have e : rotS S i a m = S.modify i fun t => t.modify a fun b => b ^^^ UInt8.ofNat m := by
    rw [rotS, if_pos (by have := hS.len; omega)]
    rfl
   have hfl : (rotS S i a m).flatten = S.flatten.modify (64 * i + a) fun b => b ^^^ UInt8.ofNat m := by rw [e, flat_mod hS (by omega) (by omega)]
   have hlt : 64 * i + a < S.flatten.length := by omega
   have hg := bys_get hlt
   have hs : (bys S.flatten).set (64 * i + a) (.int .u8 (((S.flatten.getD (64 * i + a) 0).toNat ^^^ m : Nat) : Int)) = bys (rotS S i a m).flatten := by
    rw [hfl, mod_set hlt, ← bys_set, UInt8.toNat_xor, UInt8.toNat_ofNat', Nat.mod_eq_of_lt (by omega)]
   have hB2 := fun β τ => zAi β τ (rotS S i a m).flatten
   unfold dkB byB at *
   simp only [queD, tkq] at *
   have q1 : (64 * (i : Int) + (a : Int)).toNat = 64 * i + a := by omega
   have e8 := xor_u8 (S.flatten.getD (64 * i + a) 0).toNat m (UInt8.toNat_lt _) (by omega)
   generalize (S.flatten.getD (64 * i + a) 0).toNat = x at *
   generalize bys (rotS S i a m).flatten = Z at *
   generalize bys S.flatten = Y at *
   have wQ := @hB; repeat' (first | with_reducible (apply swq; constructor) | simp only [go_sem, seval, P27, pe27, q27, q1, hg, hB, Nat.mul_one, bitsV, e8, hs] | simp (disch := omega) only [wA] | ((with_reducible refine o_eff [0, 1] [] (c1) ?hs ?he ?hh ?_); (case hs => exact so); (case he | hh => exact sh wQ); rintro _ _ ⟨rfl, rfl⟩) | (with_reducible first | (apply cdA; constructor) | (apply gdA; constructor)) | ((with_reducible refine And.intro ?hw ?_); (case hw => exact sw wQ)) | with_reducible intro _)
   all_goals try omega
   (refine ⟨_, zAa, ?_⟩; simp [RcS, RcB, Hp.cut, Hp.back, putAt, bakF, Blk.rnL, rC, rM, Tv.rnL, Tv.rn, D.rnL, D.rn, cutF, Own.rn, hB, hB2])
  ·have e : rotS S i a m = S := by
    rw [rotS, if_neg (by omega)]
   rw [e]
   unfold dkB byB at *
   simp only [queD, tkq] at *
   generalize bys S.flatten = Y at *
   have h3 : ¬ (0 ≤ a) ∨ ¬ (a < 64) ∨ ¬ (0 < m) ∨ ¬ (m < 256) := by omega
   rcases h3 with q | q | q | q <;> have wQ := @hB; repeat' (first | with_reducible (apply swq; constructor) | simp only [go_sem, seval, P27, pe27, q27, hB] | simp (disch := omega) only [wA] | ((with_reducible refine o_eff [0, 1] [] (c1) ?hs ?he ?hh ?_); (case hs => exact so); (case he | hh => exact sh wQ); rintro _ _ ⟨rfl, rfl⟩) | (with_reducible first | (apply cdA; constructor) | (apply gdA; constructor)) | ((with_reducible refine And.intro ?hw ?_); (case hw => exact sw wQ)) | with_reducible intro _)
   all_goals try omega
   all_goals (refine ⟨_, zAa, ?_⟩; simp [RcS, RcB, Hp.cut, Hp.back, putAt, bakF, Blk.rnL, rC, rM, Tv.rnL, Tv.rn, D.rnL, D.rn, cutF, Own.rn, hB])
 ·have e : rotS S i a m = S := by
   rw [rotS, if_neg (by have := hS.len; omega)]
  rw [e]
  rw [if_neg hi] at c1
  unfold dkB byB at *
  simp only [queD, tkq] at *
  generalize bys S.flatten = Y at *
  have wQ := @hB; repeat' (first | with_reducible (apply swq; constructor) | simp only [go_sem, seval, P27, pe27, q27, hB] | ((with_reducible refine o_eff [0, 1] [] (c1) ?hs ?he ?hh ?_); (case hs => exact so); (case he | hh => exact sh wQ); rintro _ _ ⟨rfl, rfl⟩) | with_reducible intro _)
  all_goals try omega
  all_goals (refine ⟨_, zAa, ?_⟩; simp [RcS, RcB, Hp.cut, Hp.back, putAt, bakF, Blk.rnL, rC, rM, Tv.rnL, Tv.rn, D.rnL, D.rn, cutF, Own.rn, hB])
end Go.Proofs.YtkobjnpmjngklaaGreatDoor
end
section
set_option maxRecDepth 100000
set_option linter.unusedSimpArgs false
set_option linter.unusedVariables false
namespace Go.Proofs.YtkobjnpmjngklaaGreatDoor
open Go GoV
def dkA (i k n : Nat) (q : List (Nat × Tx)) (off : Bool) : Blk := .cells [.sl i 1 0 (64 * n) (64 * n), queD q, .bool off, .ptr k 0]
def alB (a : Nat) (w b : Int) : Blk := .cells [.int .i64 a, .int .i64 w, .int .i64 b]
theorem max_if (w : Int) : (if 0 > w then 0 else w) = max w 0 := by omega
theorem s_slNil {P : Mod} {dst : Dst} {r : List RO} {K : St → Prop} {s : St} {n : Nat} {k : IntKind} (h : opsWp P r K (s.put dst (.lit (.slice none 0 0)))) : OpS P (.slcL n false true) [.lit (.slice none 0 0), .int k 0] dst r K s := by
 simp only [OpS, OcWp, zAb, isPan, Bool.false_eq_true, if_false, opWp]
 exact ⟨0, 0, ⟨rfl, rfl⟩, by omega, by omega, by simp [dlen], h⟩
end Go.Proofs.YtkobjnpmjngklaaGreatDoor
end
section
set_option maxRecDepth 100000
set_option linter.unusedSimpArgs false
set_option linter.unusedVariables false
namespace Go.Proofs.YtkobjnpmjngklaaGreatDoor
open Go
structure StJ (n : Nat) (S : Sx) (s : Sto) (h : Option (Nat × Nat)) : Prop where
 cns : Cns n S h s.kv
 idle : Idle n S
 sz : s.size = (n - 2) / 2
 ar : s.area = (h.getD (0, 0)).1
 ct : s.count = (h.getD (0, 0)).2
 so : So (ks s.kv)
 wr : zA2 s.kv [] = 0
theorem StJ.st {n : Nat} {S : Sx} {s : Sto} {h : Option (Nat × Nat)} (I : StJ n S s h) : StOk n s :=
 ⟨I.cns.n4, I.cns.n8, I.sz, by rw [I.ar]; exact I.cns.hb.1, by rw [I.ct, I.sz]; exact I.cns.hb.2⟩
theorem kvb_le {i j : Nat} {m : KV} (h : KvB i m) (hij : i ≤ j) : KvB j m := ⟨by have := h.1; omega, h.2⟩
end Go.Proofs.YtkobjnpmjngklaaGreatDoor
end
section
set_option maxRecDepth 100000
set_option linter.unusedSimpArgs false
set_option linter.unusedVariables false
namespace Go.Proofs.YtkobjnpmjngklaaGreatDoor
open Go GoV
theorem arm_n (n : Nat) (S : Sx) (a w b : Int) (ha : a < 0) :
 Eff M 28 [.ptr 0 0, .int .i64 a, .int .i64 w, .int .i64 b] ⟨[dkB 1 n [] false, byB S], []⟩ fun d hp => d = .tup [] ∧ hp = ⟨[dkB 1 n [] false, byB S], []⟩ := by
 refine k28.oe 2 0 rfl rfl rfl ?_
 rw [ie28]
 unfold c28
 have hB := fun β τ => zAi β τ S.flatten
 unfold dkB byB at *
 simp only [queD] at *
 generalize bys S.flatten = Y at *
 repeat' (first | with_reducible (apply swq; constructor) | simp only [go_sem, seval, P28, pe28, q28] | (with_reducible (apply cdA; constructor)) | with_reducible intro _)
 all_goals try omega
 exact ⟨_, zAa, by simp [RcS, RcB, Hp.cut, Hp.back, putAt, bakF, Blk.rnL, rC, rM, Tv.rnL, Tv.rn, D.rnL, D.rn, cutF, Own.rn, hB]⟩
theorem arm_y (n : Nat) (S : Sx) (a : Nat) (w b : Int) :
 Eff M 28 [.ptr 0 0, .int .i64 a, .int .i64 w, .int .i64 b] ⟨[dkB 1 n [] false, byB S], []⟩ fun d hp => d = .tup [] ∧ hp = ⟨[dkA 1 2 n [] false, byB S, alB a w b], []⟩ := by
 refine k28.oe 2 0 rfl rfl rfl ?_
 rw [ie28]
 unfold c28
 have hB := fun β τ => zAi β τ S.flatten
 unfold dkB dkA byB alB at *
 simp only [queD] at *
 generalize bys S.flatten = Y at *
 repeat' (first | with_reducible (apply swq; constructor) | simp only [go_sem, seval, P28, pe28, q28] | (with_reducible (apply cdA; constructor)) | with_reducible intro _)
 all_goals try omega
 exact ⟨_, zAa, by simp [RcS, RcB, Hp.cut, Hp.back, putAt, bakF, Blk.rnL, rC, rM, Tv.rnL, Tv.rn, D.rnL, D.rn, cutF, Own.rn, hB]⟩
theorem start_a (n : Nat) (S : Sx) (a : Nat) (w b : Int) : Eff M 30 [.ptr 0 0] ⟨[dkA 1 2 n [] false, byB S, alB a w b], []⟩ fun d hp => d = .tup [] ∧ hp = ⟨[dkB 1 n [] false, byB S, alB a w b], []⟩ := by
 refine k30.oe 3 0 rfl rfl rfl ?_
 rw [ie30]
 unfold c30 dkA dkB
 repeat' (first | with_reducible (apply swq; constructor) | simp only [go_sem, seval, P30, pe30, q30] | with_reducible intro _)
 exact ⟨_, zAa, rfl⟩
theorem fail_u (n : Nat) (S : Sx) (w b : Int) :
 Eff M 29 [.ptr 0 0, .int .i64 w, .int .i64 b] ⟨[dkB 1 n [] false, byB S], []⟩ fun d hp => d = .tup [] ∧ hp = ⟨[dkB 1 n [] true, byB S], []⟩ := by
 refine k29.oe 2 0 rfl rfl rfl ?_
 rw [ie29]
 unfold c29
 have ks := settle_0 n S
 have hB := fun β τ => zAi β τ S.flatten
 have hmn : (if (0 : Int) < max w 0 then 0 else max w 0) = 0 := by omega
 unfold dkB byB at *
 simp only [queD] at *
 generalize bys S.flatten = Y at *
 repeat' (first | with_reducible (apply swq; constructor) | simp only [go_sem, seval, P29, pe29, q29, max_if, hmn] | with_reducible intro _)
 all_goals try omega
 refine s_slNil ?_
 have wQ := @hB; repeat' (first | with_reducible (apply swq; constructor) | simp only [go_sem, seval, P29, pe29, q29, max_if, hmn] | ((with_reducible refine o_eff [0, 1] [] (ks) ?hs ?he ?hh ?_); (case hs => exact so); (case he | hh => exact sh wQ); rintro _ _ ⟨rfl, rfl⟩) | with_reducible intro _)
 all_goals try omega
 exact ⟨_, zAa, by simp [RcS, RcB, Hp.cut, Hp.back, putAt, bakF, Blk.rnL, rC, rM, Tv.rnL, Tv.rn, D.rnL, D.rn, cutF, Own.rn, hB]⟩
end Go.Proofs.YtkobjnpmjngklaaGreatDoor
end
section
set_option maxRecDepth 100000
set_option linter.unusedSimpArgs false
set_option linter.unusedVariables false
namespace Go.Proofs.YtkobjnpmjngklaaGreatDoor
open Go
theorem pairs_len : ∀ l : List Tx, (zA6 l).length ≤ l.length
 | [] => by simp [zA6]
 | [_] => by simp [zA6]
 | a :: b :: r => by
   have := pairs_len r
   simp only [zA6, List.length_cons]; omega
def KvV (m : KV) : Prop := ∀ p ∈ m, p.1 ≠ [] ∧ p.1.length ≤ 200 ∧ p.2.length ≤ 20000
theorem replay_b {m m' : KV} {c : Tx} (h : zAn m c = some m') (hs : So (ks m)) (hv : KvV m) : So (ks m') ∧ m'.length ≤ m.length + c.length ∧ KvV m' := by
 unfold zAn at h
 cases q : zCd c with
 | none => rw [q] at h; cases h
 | some l0 =>
   rw [q] at h
   cases l0 with
   | nil => cases h
   | cons a l =>
     dsimp only at h
     cases q2 : atK a with
     | none => rw [q2] at h; cases h
     | some n =>
       rw [q2] at h
       dsimp only at h
       split at h
       ·split at h
        ·rename_i g1 g2
         simp only [Option.some.injEq] at h
         subst h
         have hl := split_le _ q
         have e1 := apply_len m (ofL (zA6 (l.take (2 * n)))) (l.drop (2 * n + 1))
         have e2 := ofL_len (zA6 (l.take (2 * n)))
         have e3 := pairs_len (l.take (2 * n))
         have e4 : (l.take (2 * n)).length ≤ l.length := by rw [List.length_take]; omega
         have e5 := hl.1
         simp only [List.length_cons] at e5
         refine ⟨apply_so hs, by omega, fun p hp => ?_⟩
         rw [zEq hs (zC0 (zFs _))] at hp
         rcases hp.2 with r | r
         ·have := (wrong_ok g2.2.1).1 p r
          exact ⟨this.1, this.2.1, this.2.2.2⟩
         ·exact hv p r.2
        ·cases h
       ·cases h
theorem fold_b : ∀ (cs : List Tx) {m m' : KV}, cs.foldlM zAn m = some m' → So (ks m) → KvV m → So (ks m') ∧ m'.length ≤ m.length + (joinK cs).length ∧ KvV m'
 | [], m, m', h, hs, hv => by
   simp only [List.foldlM_nil] at h
   cases h
   exact ⟨hs, Nat.le_add_right _ _, hv⟩
 | c :: cs, m, m', h, hs, hv => by
   rw [List.foldlM_cons] at h
   cases q : zAn m c with
   | none => rw [q] at h; cases h
   | some m1 =>
     rw [q] at h
     obtain ⟨a1, a2, a3⟩ := replay_b q hs hv
     obtain ⟨b1, b2, b3⟩ := fold_b cs (show cs.foldlM zAn m1 = some m' from h) a1 a3
     refine ⟨b1, ?_, b3⟩
     rw [zCc]
     simp only [List.length_append, List.length_cons]
     omega
theorem load_b {S : Sx} {z a c : Nat} {m : KV} (h : loadK S z a c = some m) : So (ks m) ∧ m.length ≤ 46 * c ∧ KvV m := by
 unfold loadK at h
 cases q : logK S z a c with
 | none => rw [q] at h; cases h
 | some l =>
   rw [q] at h
   dsimp only at h
   cases q2 : zCd l with
   | none => rw [q2] at h; cases h
   | some cs =>
     rw [q2] at h
     dsimp only at h
     obtain ⟨a1, a2, a3⟩ := fold_b cs h trivial (by simp [KvV])
     rw [splitK_some q2] at a2
     have := logK_le _ _ q
     exact ⟨a1, by simp at a2; omega, a3⟩
theorem Opn.bd {n : Nat} {S : Sx} {h : Option (Nat × Nat)} {m : KV} (O : Opn n S h m) : (∀ p ∈ m, p.1.length ≤ 1000000 ∧ p.2.length ≤ 1000000) ∧ m.length ≤ 1000000 ∧ ∀ p ∈ m, p.1.length ≤ 1000000 := by
 obtain ⟨a1, a2, a3⟩ := load_b O.ld
 have := O.hb.2
 have := O.n8
 exact ⟨fun p hp => by have := a3 p hp; omega, by omega, fun p hp => by have := a3 p hp; omega⟩
theorem Opn.wr {n : Nat} {S : Sx} {h : Option (Nat × Nat)} {m : KV} (O : Opn n S h m) : So (ks m) ∧ zA2 m [] = 0 := by
 obtain ⟨a1, a2, a3⟩ := load_b O.ld
 exact ⟨a1, wrong_of (fun p hp => ⟨(a3 p hp).1, (a3 p hp).2.1, by simp, (a3 p hp).2.2⟩) (by simp)⟩
theorem opn_cases {n : Nat} {S : Sx} (hS : SxOk S n) (h4 : 4 ≤ n) (h8 : n ≤ 8000) :
 (∃ h m, Opn n S h m) ∨ (zBq S ((n - 2) / 2) = none ∧ secAt S 0 ≠ zr 64) ∨
 ∃ h : Option (Nat × Nat), zBq S ((n - 2) / 2) = h ∧ ((h.getD (0, 0)).1 < 2 ∧ (h.getD (0, 0)).2 ≤ (n - 2) / 2) ∧ loadK S ((n - 2) / 2) (h.getD (0, 0)).1 (h.getD (0, 0)).2 = none ∧ (h = none → secAt S 0 = zr 64) := by
 have hb : ∀ h, zBq S ((n - 2) / 2) = h → (h.getD (0, 0)).1 < 2 ∧ (h.getD (0, 0)).2 ≤ (n - 2) / 2 := by
  intro h e
  cases h with
  | none => exact ⟨by decide, Nat.zero_le _⟩
  | some p =>
    unfold zBq at e
    cases q : posK ((n - 2) / 2) 1 (secAt S 1) with
    | none =>
      rw [q] at e
      exact (posK_some e).2
    | some r =>
      rw [q] at e
      dsimp only at e
      rw [e] at q
      exact (posK_some q).2
 by_cases c : zBq S ((n - 2) / 2) = none ∧ secAt S 0 ≠ zr 64
 ·exact .inr (.inl c)
 ·have h0 : zBq S ((n - 2) / 2) = none → secAt S 0 = zr 64 := fun e => Decidable.byContradiction fun q => c ⟨e, q⟩
  cases q : loadK S ((n - 2) / 2) ((zBq S ((n - 2) / 2)).getD (0, 0)).1 ((zBq S ((n - 2) / 2)).getD (0, 0)).2 with
  | none => exact .inr (.inr ⟨_, rfl, hb _ rfl, q, h0⟩)
  | some m => exact .inl ⟨_, m, h4, h8, hS, rfl, h0, hb _ rfl, q⟩
end Go.Proofs.YtkobjnpmjngklaaGreatDoor
end
section
set_option maxRecDepth 100000
set_option linter.unusedSimpArgs false
set_option linter.unusedVariables false
namespace Go.Proofs.YtkobjnpmjngklaaGreatDoor
open Go GoV
theorem kvb_b {i : Nat} {m : KV} (h : KvB i m) (hi : i ≤ 100) : (∀ p ∈ m, p.1.length ≤ 1000000 ∧ p.2.length ≤ 1000000) ∧ m.length ≤ 1000000 ∧ ∀ p ∈ m, p.1.length ≤ 1000000 :=
 ⟨fun p hp => by have := h.2 p hp; omega, by have := h.1; omega, fun p hp => by have := h.2 p hp; omega⟩
end Go.Proofs.YtkobjnpmjngklaaGreatDoor
end
section
set_option maxRecDepth 100000
set_option linter.unusedSimpArgs false
set_option linter.unusedVariables false
namespace Go.Proofs.YtkobjnpmjngklaaGreatDoor
open Go GoV
theorem rotS_ok {n : Nat} {S : Sx} (hS : SxOk S n) (i a m : Int) : SxOk (rotS S i a m) n := by
 unfold rotS
 split
 ·refine ⟨by simp [hS.len], fun t ht => ?_⟩
  obtain ⟨j, hj, rfl⟩ := List.getElem_of_mem ht
  rw [List.getElem_modify]
  split
  ·simp only [rotT, List.length_modify]; exact hS.s64 _ (List.getElem_mem _)
  ·exact hS.s64 _ (List.getElem_mem _)
 ·exact hS
theorem keys_n : Pur M 19 [.lit (.pointer none)] (.lit (.slice none 0 0)) := by
 refine k19.ok (C := C19) rfl rfl ?_
 rw [i19]
 unfold c19
 repeat' (first | with_reducible (apply swq; constructor) | simp only [go_sem, seval, P19, q19] | with_reducible intro _)
 all_goals try omega
 all_goals rfl
theorem contents_n : Pur M 18 [.lit (.pointer none)] (.slice [] .no) := by
 refine k18.ow (C := C18) rfl rfl ?_
 rw [i18]
 unfold c18
 have k1 := keys_n
 have wQ := tw; repeat' (first | with_reducible (apply swq; constructor) | simp only [go_sem, seval, P18, q18] | ((with_reducible refine zAc (k1) ?he ?hc ?_); (case he | hc => exact sc wQ)) | with_reducible intro _)
 all_goals try omega
 refine zAp (C := C18) [2, 3, 4] (fun _ : Unit => ⟨[.u0, .u0, .lit (.slice none 0 0), .lit (.slice none 0 0), .int .i64 0, .u0, .u0, .u0, .u0], [], ⟨[], []⟩⟩) (fun _ => True) (fun _ => 0) () trivial ?_ ?_
 ·simp [keepE, St.keep]
 ·intro _ _
  repeat' (first | with_reducible (apply swq; constructor) | simp only [go_sem, seval, P18, q18] | with_reducible intro _)
  all_goals try omega
  refine ⟨_, weak_nil 1 rfl, ?_⟩
  simp [D.closed, D.cL, D.er, D.erL]
set_option maxHeartbeats 2000000 in
theorem reg_9 (n : Nat) (S : Sx) (hS : SxOk S n) (s : Sto) (hs : StOk n s) {l : List Tri} {c : Nat} (hm : MpOk l c s.kv) {o : OpR} (ho : OpFew o)
 (x0 x1 x2 x3 x4 x6 x7 x9 x10 x11 x12 x13 x14 x15 x16 x17 x18 x19 x20 x21 : D) (Q : Ex → St → Prop)
 (hQ : ∀ l' c', MpOk l' c' (zAm S s (ofL o.put) o.drop).2.1.kv → Q .normal ⟨[x0, x1, x2, x3, x4, .ptr 0 0, x6, x7, .ip [.int .i64 o.kind, .slice (prs o.put) .no, .slice (strs o.drop) .no, .int .i64 o.a, .int .i64 o.b, .int .i64 o.c], x9, x10, x11, x12, x13, x14, x15, x16, x17, x18, x19, x20, x21], [], ⟨(hpS n (zAm S s (ofL o.put) o.drop).1 (zAm S s (ofL o.put) o.drop).2.1 l' c').H ++ [.gone, .map (entT (mapT o.put).1) (mapT o.put).2], []⟩⟩) :
 SWp C9 (.regD r9_20 r9_21) Q ⟨[x0, x1, x2, x3, x4, .ptr 0 0, x6, x7, .ip [.int .i64 o.kind, .slice (prs o.put) .no, .slice (strs o.drop) .no, .int .i64 o.a, .int .i64 o.b, .int .i64 o.c], x9, x10, x11, x12, x13, x14, x15, x16, x17, x18, x19, x20, x21], [], ⟨(hpS n S s l c).H ++ [.gone], []⟩⟩ := by
 have kC := commit_o n S hS s hs hm ho
 obtain ⟨h1, h2, h3, h4⟩ := few_o ho
 have kM := mapped_p o.put (by omega)
 have hB := fun β τ => zAi β τ S.flatten
 have hB1 := fun β τ => zAi β τ (zAm S s (ofL o.put) o.drop).1.flatten
 have hE := zAk
 refine swp_regDX 3 ?_
 rw [P9]
 refine x_q (ds := [.ptr 0 0]) (.ptr 0 0) (by decide) rfl (fun _ => by simp [OcWp, zAb, isPan, opWp]) ?_
 refine x_q (ds := [.ip [.int .i64 o.kind, .slice (prs o.put) .no, .slice (strs o.drop) .no, .int .i64 o.a, .int .i64 o.b, .int .i64 o.c]]) (.ip [.slice (prs o.put) .no, .slice (strs o.drop) .no, .int .i64 o.a, .int .i64 o.b, .int .i64 o.c]) (by decide) rfl (fun _ => by simp [OcWp, zAb, isPan, opWp]) ?_
 refine x_q (ds := [.ip [.slice (prs o.put) .no, .slice (strs o.drop) .no, .int .i64 o.a, .int .i64 o.b, .int .i64 o.c]]) (.slice (prs o.put) .no) (by decide) rfl (fun _ => by simp [OcWp, zAb, isPan, opWp]) ?_
 refine x_eff [] [] kM rfl ⟨by simp, by simp, by simp, by simp⟩ rfl rfl ?_
 refine x_q (ds := [.ip [.int .i64 o.kind, .slice (prs o.put) .no, .slice (strs o.drop) .no, .int .i64 o.a, .int .i64 o.b, .int .i64 o.c]]) (.ip [.slice (strs o.drop) .no, .int .i64 o.a, .int .i64 o.b, .int .i64 o.c]) (by decide) rfl (fun _ => by simp [OcWp, zAb, isPan, opWp]) ?_
 refine x_q (ds := [.ip [.slice (strs o.drop) .no, .int .i64 o.a, .int .i64 o.b, .int .i64 o.c]]) (.slice (strs o.drop) .no) (by decide) rfl (fun _ => by simp [OcWp, zAb, isPan, opWp]) ?_
 refine x_nil ?_
 generalize zAm S s (ofL o.put) o.drop = r at *
 unfold CmR hpS stB dkB byB at *
 simp only [queD, List.cons_append, List.nil_append] at *
 generalize bys S.flatten = Y at *
 generalize bys r.1.flatten = Y1 at *
 generalize strs o.drop = DD at *
 generalize prs o.put = PP at *
 have wQ := And.intro @hE (And.intro @hB @hB1); repeat' (first | with_reducible (apply swq; constructor) | simp only [go_sem, seval, P9, q9] | ((with_reducible refine o_eff [0, 1, 2, 3, 5] [] (kC) ?hs ?he ?hh ?_); (case hs => exact so); (case he | hh => exact sh wQ); rintro _ _ ⟨rfl, l1, c1, rfl, m1⟩) | with_reducible intro _)
 all_goals try omega
 have := hQ l1 c1 m1
 simpa only [hE, hB1] using this
set_option maxHeartbeats 8000000 in
theorem again_p (r : Nat) (hr : r ≤ 255) (l : List OpR) (hl : l.length ≤ 1000000000000000) (hb : ∀ o ∈ l, OpBd o) :
 Pur M 9 [.int .u8 r, .slice (ops l) .no] (.bool true) := by
 classical
 refine k9.ow (C := C9) rfl rfl ?_
 rw [i9]
 unfold c9
 have k10 := head_p
 have k11 := few_p l hl hb
 have hlo := cl_ops l
 have hle := er_ops l
 by_cases hF : Few l
 ·rw [decide_eq_true hF] at k11
  obtain ⟨n, hn⟩ : ∃ n, n = 4 + r % 100 := ⟨_, rfl⟩
  have q1 := rem_n r
  rw [← hn] at q1
  have h4 : 4 ≤ n := by omega
  have h8 : n ≤ 8000 := by omega
  have k13 := new_p n (by omega) h8
  have k12 := open_new n h4 h8
  have hol := ops_len l
  have hget := fun i (h : i < l.length) => ops_get h
  have hE := zAk
  have hB0 := fun β τ => zAi β τ (newS n).flatten
  have hreg := @reg_9
  have hl12 := hF.2
  generalize hRG : RC.regD r9_20 r9_21 = RG at *
  unfold OpRs at k12
  unfold dkB byB at k12 k13
  unfold opB at k12
  simp only [queD] at k12 k13
  obtain ⟨Y, hY⟩ : ∃ Y, Y = bys (newS n).flatten := ⟨_, rfl⟩
  rw [← hY] at hB0 k12 k13
  generalize ops l = L at *
  have wQ := And.intro @hE (And.intro @hB0 (And.intro @hlo @hle)); repeat' (first | with_reducible (apply swq; constructor) | simp only [go_sem, seval, P9, q9, q1, hol] | simp (disch := omega) only [wA] | ((with_reducible refine zAc (k10) ?he ?hc ?_); (case he | hc => exact sc wQ)) | ((with_reducible refine zAc (k11) ?he ?hc ?_); (case he | hc => exact sc wQ)) | ((with_reducible refine o_eff [] [] (k13) ?hs ?he ?hh ?_); (case hs => exact so); (case he | hh => exact sh wQ); try rintro _ _ ⟨rfl, rfl⟩) | ((with_reducible refine o_eff [0, 1] [] (k12) ?hs ?he ?hh ?_); (case hs => exact so); (case he | hh => exact sh wQ); rintro _ _ ⟨rfl, l0, c0, rfl, m0⟩) | with_reducible intro _)
  all_goals try omega
  subst hY
  have hlm : l0 = [] := List.length_eq_zero_iff.1 m0.len
  refine zAt (weak_sel [3, 2, 0, 1] [] ⟨by simp, by simp, by simp, by simp⟩ rfl rfl) ?_
  refine zEr (C := C9) [1, 3, 4, 5, 7] 4 0 (Nat.zero_le _) (Nat.le_refl _) (fun x : Nat × Sx × Sto × List Tri × Nat => ⟨[.u0, .slice L .no, .u0, .bool true, .ptr 2 0, .ptr 0 0, .u0, .int .i64 x.1, .u0, .u0, .u0, .u0, .u0, .u0, .u0, .u0, .u0, .u0, .u0, .u0, .u0, .u0], [], hpS n x.2.1 x.2.2.1 x.2.2.2.1 x.2.2.2.2⟩)
   (fun x => x.1 ≤ l.length ∧ SxOk x.2.1 n ∧ StOk n x.2.2.1 ∧ MpOk x.2.2.2.1 x.2.2.2.2 x.2.2.1.kv ∧ KvB x.1 x.2.2.1.kv) (fun x => l.length - x.1) (0, newS n, ⟨(n - 2) / 2, 0, 0, []⟩, l0, c0) ⟨Nat.zero_le _, newS_ok n, new_st h4 h8, m0, by simp [KvB]⟩ ?_ ?_
  ·unfold hpS stB dkB byB
   generalize bys (newS n).flatten = Y at *
   simp [keepE, St.keepG, St.keep, St.gc, RcS, RcB, Hp.cut, Hp.back, putAt, bakF, Blk.rnL, rC, rM, Tv.rnL, Tv.rn, D.rnL, D.rn, cutF, Own.rn, St.sel, Hp.sel, posF, idx, hE, hB0, queD]
  ·rintro ⟨i, S, s, lm, c⟩ ⟨g1, g2, g3, g4, g5⟩
   dsimp only at g1 g2 g3 g4 g5 ⊢
   obtain ⟨b1, b2, b3⟩ := kvb_b g5 (by omega)
   by_cases hi : i < l.length
   ·have e1 := hget i hi
    have ho := hF.1 _ (List.getElem_mem hi)
    generalize l[i] = o at *
    have hB := fun β τ => zAi β τ S.flatten
    have cp1 := cl_prs o.put
    have cp2 := er_prs o.put
    have cp3 := zAz o.drop
    have cp4 := zA4 o.drop
    generalize hR11 : RC.reg r9_11 = R11 at *
    have hfB := fun b cs => fz_bys b cs S.flatten
    have hfE := fun b cs => fz_entT b cs lm
    unfold hpS stB dkB byB
    simp only [queD]
    generalize hYS : bys S.flatten = Y at *
    have wQ := And.intro @hE (And.intro @hB (And.intro @hlo @hle)); repeat' (first | with_reducible (apply swq; constructor) | simp only [go_sem, seval, P9, q9, e1, hol] | simp (disch := omega) only [wA] | (with_reducible (apply cdA; constructor)) | ((with_reducible refine And.intro ?hw ?_); (case hw => exact sw wQ)) | with_reducible intro _)
    all_goals try omega
    refine zAt (zDt 4 [.int .i64 o.kind, .slice (prs o.put) .no, .slice (strs o.drop) .no, .int .i64 o.a, .int .i64 o.b, .int .i64 o.c] rfl (Nat.zero_le _) (by simp [D.cL, D.closed, cp1, cp3])) ?_
    have hw : ∀ {s1 s2 : St}, s1 = s2 → Weak C9 s1 s2 := fun e => e ▸ zAa
    refine zAt (hw (s2 := ⟨[.u0, .slice L .no, .u0, .bool true, .ptr 2 0, .ptr 0 0, .u0, .int .i64 i, .ip [.int .i64 o.kind, .slice (prs o.put) .no, .slice (strs o.drop) .no, .int .i64 o.a, .int .i64 o.b, .int .i64 o.c], .u0, .u0, .u0, .u0, .u0, .u0, .u0, .bool true, .u0, .u0, .u0, .u0, .u0], [], ⟨[.cells [.ptr 2 0, .int .i64 s.size, .int .i64 s.area, .int .i64 s.count, .mp 1, .bool false], .map (entT lm) c, .cells [.sl 3 1 0 (64 * n) (64 * n), .lit (.slice none 0 0), .bool false, .lit (.pointer none)], .cells Y, .gone], []⟩⟩) (by simp [St.frz, D.fz, D.fzL, Blk.mapD, hfB, hfE, D.erL, D.er, cp2, cp4])) ?_
    subst hR11
    by_cases z1 : o.kind = 1
    ·rw [z1] at *
     have kC := compact_s n S g2 s g3 g4 b1 b2
     have hcc : ∃ S' s' f, zBj S s = (S', s', f) ∧ SxOk S' n ∧ StOk n s' ∧ s'.kv = s.kv := by
      rcases zD8 n g2 g3 with e | ⟨e, w1, w2, w3⟩
      ·exact ⟨S, s, 6, e, g2, g3, rfl⟩
      ·exact ⟨_, _, _, rfl, w1, w2, w3⟩
     obtain ⟨S', s', f, e, w1, w2, w3⟩ := hcc
     rw [e] at kC
     have kT := start_p n S' false
     have hB1 := fun β τ => zAi β τ S'.flatten
     unfold hpS stB dkB byB at *
     simp only [queD] at *
     rw [hYS] at kC
     generalize hY1 : bys S'.flatten = Y1 at *
     have wQ := And.intro @hE (And.intro @hB @hB1); repeat' (first | with_reducible (apply swq; constructor) | simp only [go_sem, seval, P9, q9] | simp (disch := omega) only [wA] | ((with_reducible refine o_eff [0, 1, 2, 3] [] (kC) ?hs ?he ?hh ?_); (case hs => exact so); (case he | hh => exact sh wQ); try rintro _ _ ⟨rfl, rfl⟩) | ((with_reducible refine o_eff [2, 3] [] (kT) ?hs ?he ?hh ?_); (case hs => exact so); (case he | hh => exact sh wQ); try rintro _ _ ⟨rfl, rfl⟩) | with_reducible intro _)
     all_goals try omega
     refine ⟨(i + 1, S', s', lm, c), ⟨by dsimp only; omega, w1, w2, by dsimp only; rw [w3]; exact g4, by dsimp only; rw [w3]; exact kvb_le g5 (by omega)⟩, by dsimp only; omega, ?_⟩
     dsimp only
     rw [hY1]
     simp [keepE, St.keepG, St.keep, St.gc, RcS, RcB, Hp.cut, Hp.back, putAt, bakF, Blk.rnL, rC, rM, Tv.rnL, Tv.rn, D.rnL, D.rn, cutF, Own.rn, hE, hB1]
    ·by_cases z2 : o.kind = 2
     ·rw [z2] at *
      by_cases za : o.a < 0
      ·have kA := arm_n n S o.a o.b o.c za
       have kT := start_p n S false
       unfold hpS stB dkB byB at *
       simp only [queD] at *
       rw [hYS] at kA kT
       have wQ := And.intro @hE @hB; repeat' (first | with_reducible (apply swq; constructor) | simp only [go_sem, seval, P9, q9] | simp (disch := omega) only [wA] | ((with_reducible refine o_eff [2, 3] [] (kA) ?hs ?he ?hh ?_); (case hs => exact so); (case he | hh => exact sh wQ); try rintro _ _ ⟨rfl, rfl⟩) | ((with_reducible refine o_eff [2, 3] [] (kT) ?hs ?he ?hh ?_); (case hs => exact so); (case he | hh => exact sh wQ); try rintro _ _ ⟨rfl, rfl⟩) | with_reducible intro _)
       all_goals try omega
       refine ⟨(i + 1, S, s, lm, c), ⟨by dsimp only; omega, g2, g3, g4, kvb_le g5 (by omega)⟩, by dsimp only; omega, ?_⟩
       dsimp only
       rw [hYS]
       simp [keepE, St.keepG, St.keep, St.gc, RcS, RcB, Hp.cut, Hp.back, putAt, bakF, Blk.rnL, rC, rM, Tv.rnL, Tv.rn, D.rnL, D.rn, cutF, Own.rn, hE, hB]
      ·obtain ⟨a, ha⟩ : ∃ a : Nat, o.a = a := ⟨o.a.toNat, by omega⟩
       rw [ha] at *
       have kA := arm_y n S a o.b o.c
       have kT := start_a n S a o.b o.c
       unfold hpS stB dkA dkB byB alB at *
       simp only [queD] at *
       rw [hYS] at kA kT
       have wQ := And.intro @hE @hB; repeat' (first | with_reducible (apply swq; constructor) | simp only [go_sem, seval, P9, q9] | simp (disch := omega) only [wA] | ((with_reducible refine o_eff [2, 3] [] (kA) ?hs ?he ?hh ?_); (case hs => exact so); (case he | hh => exact sh wQ); try rintro _ _ ⟨rfl, rfl⟩) | ((with_reducible refine o_eff [2, 3, 5] [] (kT) ?hs ?he ?hh ?_); (case hs => exact so); (case he | hh => exact sh wQ); try rintro _ _ ⟨rfl, rfl⟩) | with_reducible intro _)
       all_goals try omega
       refine ⟨(i + 1, S, s, lm, c), ⟨by dsimp only; omega, g2, g3, g4, kvb_le g5 (by omega)⟩, by dsimp only; omega, ?_⟩
       dsimp only
       rw [hYS]
       simp [keepE, St.keepG, St.keep, St.gc, RcS, RcB, Hp.cut, Hp.back, putAt, bakF, Blk.rnL, rC, rM, Tv.rnL, Tv.rn, D.rnL, D.rn, cutF, Own.rn, hE, hB]
     ·by_cases z3 : o.kind = 3
      ·rw [z3] at *
       have kA := fail_u n S o.a o.b
       have kT := start_p n S true
       unfold hpS stB dkB byB at *
       simp only [queD] at *
       rw [hYS] at kA kT
       have wQ := And.intro @hE @hB; repeat' (first | with_reducible (apply swq; constructor) | simp only [go_sem, seval, P9, q9] | simp (disch := omega) only [wA] | ((with_reducible refine o_eff [2, 3] [] (kA) ?hs ?he ?hh ?_); (case hs => exact so); (case he | hh => exact sh wQ); try rintro _ _ ⟨rfl, rfl⟩) | ((with_reducible refine o_eff [2, 3] [] (kT) ?hs ?he ?hh ?_); (case hs => exact so); (case he | hh => exact sh wQ); try rintro _ _ ⟨rfl, rfl⟩) | with_reducible intro _)
       all_goals try omega
       refine ⟨(i + 1, S, s, lm, c), ⟨by dsimp only; omega, g2, g3, g4, kvb_le g5 (by omega)⟩, by dsimp only; omega, ?_⟩
       dsimp only
       rw [hYS]
       simp [keepE, St.keepG, St.keep, St.gc, RcS, RcB, Hp.cut, Hp.back, putAt, bakF, Blk.rnL, rC, rM, Tv.rnL, Tv.rn, D.rnL, D.rn, cutF, Own.rn, hE, hB]
      ·by_cases z5 : o.kind = 5
       ·rw [z5] at *
        have kA := rot_p n h8 S g2 o.a o.b o.c
        have w1 := rotS_ok g2 o.a o.b o.c
        have hB1 := fun β τ => zAi β τ (rotS S o.a o.b o.c).flatten
        generalize rotS S o.a o.b o.c = S' at *
        have kT := start_p n S' false
        unfold hpS stB dkB byB at *
        simp only [queD] at *
        rw [hYS] at kA
        generalize hY1 : bys S'.flatten = Y1 at *
        have wQ := And.intro @hE (And.intro @hB @hB1); repeat' (first | with_reducible (apply swq; constructor) | simp only [go_sem, seval, P9, q9] | simp (disch := omega) only [wA] | ((with_reducible refine o_eff [2, 3] [] (kA) ?hs ?he ?hh ?_); (case hs => exact so); (case he | hh => exact sh wQ); try rintro _ _ ⟨rfl, rfl⟩) | ((with_reducible refine o_eff [2, 3] [] (kT) ?hs ?he ?hh ?_); (case hs => exact so); (case he | hh => exact sh wQ); try rintro _ _ ⟨rfl, rfl⟩) | with_reducible intro _)
        all_goals try omega
        refine ⟨(i + 1, S', s, lm, c), ⟨by dsimp only; omega, w1, g3, g4, kvb_le g5 (by omega)⟩, by dsimp only; omega, ?_⟩
        dsimp only
        rw [hY1]
        simp [keepE, St.keepG, St.keep, St.gc, RcS, RcB, Hp.cut, Hp.back, putAt, bakF, Blk.rnL, rC, rM, Tv.rnL, Tv.rn, D.rnL, D.rn, cutF, Own.rn, hE, hB1]
       ·have hcc : ∃ S' s' f, zAm S s (ofL o.put) o.drop = (S', s', f) ∧ SxOk S' n ∧ StOk n s' ∧ KvB (i + 1) s'.kv := by
         obtain ⟨o1, o2, o3, o4⟩ := few_o ho
         rcases commit_oc n g2 g3 g4.so ho g5 with ⟨f, _, e⟩ | ⟨S', s', e, w1, w2, w3⟩
         ·exact ⟨S, s, f, e, g2, g3, kvb_le g5 (by omega)⟩
         ·exact ⟨S', s', 0, e, w1, w2, by rw [w3]; exact apply_b g4.so g5 o1 o3⟩
        obtain ⟨S', s', f, e, w1, w2, w3⟩ := hcc
        have hr := fun x0 x1 x2 x3 x4 => hreg n S g2 s g3 g4 ho x0 x1 x2 x3 x4
        rw [e] at hr
        have kT := start_p n S' false
        have hB1 := fun β τ => zAi β τ S'.flatten
        unfold hpS stB dkB byB at *
        simp only [queD, List.cons_append, List.nil_append] at *
        rw [hYS] at hr
        generalize hY1 : bys S'.flatten = Y1 at *
        repeat' (first | with_reducible (apply swq; constructor) | simp only [go_sem, seval, P9, q9] | simp (disch := omega) only [wA] | (with_reducible (apply cdA; constructor)) | with_reducible intro _)
        all_goals try omega
        all_goals try (exfalso; omega)
        refine hr _ _ _ _ _ _ _ _ _ _ _ _ _ _ _ _ _ _ _ _ _ (fun l1 c1 m1 => ?_)
        have wQ := And.intro @hE (And.intro @hB @hB1); repeat' (first | with_reducible (apply swq; constructor) | simp only [go_sem, seval, P9, q9] | simp (disch := omega) only [wA] | ((with_reducible refine o_eff [2, 3] [] (kT) ?hs ?he ?hh ?_); (case hs => exact so); (case he | hh => exact sh wQ); try rintro _ _ ⟨rfl, rfl⟩) | with_reducible intro _)
        all_goals try omega
        refine ⟨(i + 1, S', s', l1, c1), ⟨by dsimp only; omega, w1, w2, m1, w3⟩, by dsimp only; omega, ?_⟩
        dsimp only
        rw [hY1]
        simp [keepE, St.keepG, St.keep, St.gc, RcS, RcB, Hp.cut, Hp.back, putAt, bakF, Blk.rnL, rC, rM, Tv.rnL, Tv.rn, D.rnL, D.rn, cutF, Own.rn, hE, hB1]
   ·have hi : i = l.length := by omega
    subst hi
    have hB := fun β τ => zAi β τ S.flatten
    have kF := fail_u n S 0 0
    have kT := start_p n S true
    rcases opn_cases g2 h4 h8 with ⟨h, m, O⟩ | ⟨e1, e2⟩ | ⟨h, e1, e2, e3, e4⟩
    ·obtain ⟨w1, w2, w3⟩ := O.bd
     have C := O.cns
     have O2 := C.opn
     have kO := open_ok n h4 h8 S g2 h O.hd O.hb m O.ld O.h0
     have kO2 := open_ok n h4 h8 (rest2 S h) O2.ok h O2.hd O2.hb m O2.ld O2.h0
     rw [C.rest] at kO2
     have kW := raw_p n h8 (rest2 S h) C.ok
     have kN := fun l2 c2 (m2 : MpOk l2 c2 m) => contents_s n (rest2 S h) ⟨(n - 2) / 2, (h.getD (0, 0)).1, (h.getD (0, 0)).2, m⟩ m2 w3 w2
     have kS := same_p (zA9 m) (zA9 m) (by rw [zDp]; omega)
     rw [show decide (zA9 m = zA9 m) = true from decide_eq_true rfl] at kS
     have hcl := zAz (zA9 m)
     have her := zA4 (zA9 m)
     have hB1 := fun β τ => zAi β τ (rest2 S h).flatten
     generalize rest2 S h = S1 at *
     have hRF : (S1.flatten == S1.flatten) = true := beq_self_eq_true _
     unfold hpS stB opB dkB byB at *
     simp only [queD] at *
     generalize bys S1.flatten = Y1 at *
     generalize bys S.flatten = Y at *
     generalize strs (zA9 m) = W at *
     have wQ := And.intro @hE (And.intro @hB (And.intro @hB1 (And.intro @hcl @her))); repeat' (first | with_reducible (apply swq; constructor) | simp only [go_sem, seval, P9, q9, hol, hRF, beq_self_eq_true] | simp (disch := omega) only [wA] | ((with_reducible refine o_eff [2, 3] [] (kF) ?hs ?he ?hh ?_); (case hs => exact so); (case he | hh => exact sh wQ); try rintro _ _ ⟨rfl, rfl⟩) | ((with_reducible refine o_eff [2, 3] [] (kT) ?hs ?he ?hh ?_); (case hs => exact so); (case he | hh => exact sh wQ); try rintro _ _ ⟨rfl, rfl⟩) | ((with_reducible refine o_eff [2, 3] [] (kO) ?hs ?he ?hh ?_); (case hs => exact so); (case he | hh => exact sh wQ); rintro _ _ ⟨rfl, l2, c2, rfl, m2⟩) | ((with_reducible refine o_eff [2, 3] [] (kW) ?hs ?he ?hh ?_); (case hs => exact so); (case he | hh => exact sh wQ); try rintro _ _ ⟨rfl, rfl⟩) | ((with_reducible refine o_eff [2, 3] [] (kO2) ?hs ?he ?hh ?_); (case hs => exact so); (case he | hh => exact sh wQ); rintro _ _ ⟨rfl, l3, c3, rfl, m3⟩) | ((with_reducible refine o_eff [5, 4, 2, 3] [] ((kN l2 c2 m2)) ?hs ?he ?hh ?_); (case hs => exact so); (case he | hh => exact sh wQ); try rintro _ _ ⟨rfl, rfl⟩) | ((with_reducible refine o_eff [7, 6, 2, 3] [] ((kN l3 c3 m3)) ?hs ?he ?hh ?_); (case hs => exact so); (case he | hh => exact sh wQ); try rintro _ _ ⟨rfl, rfl⟩) | ((with_reducible refine zAc (kS) ?he ?hc ?_); (case he | hc => exact sc wQ)) | (with_reducible (apply cdA; constructor)) | ((with_reducible refine And.intro ?hw ?_); (case hw => exact sw wQ)) | with_reducible intro _)
     all_goals try omega
     exact ⟨_, zAa, rfl, rfl⟩
    all_goals
     have kN := contents_n
     have kS : Pur M 17 [.slice [] .no, .slice [] .no] (.bool true) := same_p [] [] (by simp)
     have kW := raw_p n h8 S g2
     have hRF : (S.flatten == S.flatten) = true := beq_self_eq_true _
    ·have kO := open_d1 n h4 h8 S g2 _ e1 rfl e2
     unfold hpS stB dkB byB at *
     simp only [queD] at *
     generalize bys S.flatten = Y at *
     have wQ := And.intro @hE @hB; repeat' (first | with_reducible (apply swq; constructor) | simp only [go_sem, seval, P9, q9, hol, hRF, beq_self_eq_true] | simp (disch := omega) only [wA] | ((with_reducible refine o_eff [2, 3] [] (kF) ?hs ?he ?hh ?_); (case hs => exact so); (case he | hh => exact sh wQ); try rintro _ _ ⟨rfl, rfl⟩) | ((with_reducible refine o_eff [2, 3] [] (kT) ?hs ?he ?hh ?_); (case hs => exact so); (case he | hh => exact sh wQ); try rintro _ _ ⟨rfl, rfl⟩) | ((with_reducible refine o_eff [2, 3] [] (kO) ?hs ?he ?hh ?_); (case hs => exact so); (case he | hh => exact sh wQ); try rintro _ _ ⟨rfl, rfl⟩) | ((with_reducible refine o_eff [2, 3] [] (kW) ?hs ?he ?hh ?_); (case hs => exact so); (case he | hh => exact sh wQ); try rintro _ _ ⟨rfl, rfl⟩) | ((with_reducible refine zAc (kN) ?he ?hc ?_); (case he | hc => exact sc wQ)) | ((with_reducible refine zAc (kS) ?he ?hc ?_); (case he | hc => exact sc wQ)) | (with_reducible (apply cdA; constructor)) | ((with_reducible refine And.intro ?hw ?_); (case hw => exact sw wQ)) | with_reducible intro _)
     all_goals try omega
     exact ⟨_, zAa, rfl, rfl⟩
    ·have kO := open_d2 n h4 h8 S g2 h e1 e2 e3 e4
     unfold hpS stB dkB byB at *
     simp only [queD] at *
     generalize bys S.flatten = Y at *
     have wQ := And.intro @hE @hB; repeat' (first | with_reducible (apply swq; constructor) | simp only [go_sem, seval, P9, q9, hol, hRF, beq_self_eq_true] | simp (disch := omega) only [wA] | ((with_reducible refine o_eff [2, 3] [] (kF) ?hs ?he ?hh ?_); (case hs => exact so); (case he | hh => exact sh wQ); try rintro _ _ ⟨rfl, rfl⟩) | ((with_reducible refine o_eff [2, 3] [] (kT) ?hs ?he ?hh ?_); (case hs => exact so); (case he | hh => exact sh wQ); try rintro _ _ ⟨rfl, rfl⟩) | ((with_reducible refine o_eff [2, 3] [] (kO) ?hs ?he ?hh ?_); (case hs => exact so); (case he | hh => exact sh wQ); try rintro _ _ ⟨rfl, rfl⟩) | ((with_reducible refine o_eff [2, 3] [] (kW) ?hs ?he ?hh ?_); (case hs => exact so); (case he | hh => exact sh wQ); try rintro _ _ ⟨rfl, rfl⟩) | ((with_reducible refine zAc (kN) ?he ?hc ?_); (case he | hc => exact sc wQ)) | ((with_reducible refine zAc (kS) ?he ?hc ?_); (case he | hc => exact sc wQ)) | (with_reducible (apply cdA; constructor)) | ((with_reducible refine And.intro ?hw ?_); (case hw => exact sw wQ)) | with_reducible intro _)
     all_goals try omega
     exact ⟨_, zAa, rfl, rfl⟩
 ·rw [decide_eq_false hF] at k11
  generalize ops l = L at *
  have wQ := And.intro @hlo @hle; repeat' (first | with_reducible (apply swq; constructor) | simp only [go_sem, seval, P9, q9] | ((with_reducible refine zAc (k10) ?he ?hc ?_); (case he | hc => exact sc wQ)) | ((with_reducible refine zAc (k11) ?he ?hc ?_); (case he | hc => exact sc wQ)) | with_reducible intro _)
  all_goals try omega
  exact ⟨_, zAa, rfl, rfl⟩
end Go.Proofs.YtkobjnpmjngklaaGreatDoor
end
section
set_option linter.unusedVariables false
namespace Go.Proofs.YtkobjnpmjngklaaGreatDoor
open Go GoV
theorem again_c (n : Int) (h : 0 ≤ n ∧ n ≤ 255) (l : List OpR) (hl : l.length ≤ 1000000000000000 ∧ ∀ o ∈ l, OpBd o) : Pur M 9 [.int .u8 n, .slice (ops l) .no] (.bool true) := by
 obtain ⟨r, rfl⟩ : ∃ r : Nat, n = r := ⟨n.toNat, by omega⟩
 exact again_p r (by omega) l hl.1 hl.2
end Go.Proofs.YtkobjnpmjngklaaGreatDoor
end