/- Own texts, merged by a program: the engine that walks the code, and what the functions that the law reaches compute. -/
import Derived.Test.YtkobjnpmjngklaaGreatDoorQc4
import Derived.Shelf.SlIter.Sorted
import Derived.Shelf.SlGeneric
import Derived.Test.YtkobjnpmjngklaaGreatDoorProg
import Derived.Shelf.SlIter.NilStops
import Derived.Maps.Range
import Derived.Sort.KeysCollected
import Derived.Lib.SlicesCompact
section
set_option maxRecDepth 100000
set_option linter.unusedSimpArgs false
set_option linter.unusedVariables false
namespace Go.Proofs.YtkobjnpmjngklaaGreatDoor
open Go GoV
theorem mulb_p (x y : Nat) (hx : x < 4294967296) (hy : y < 4294967296) : Pur M 132 [.int .u64 x, .int .u64 y] (.tup [.int .u64 0, .int .u64 (x * y : Nat)]) := by
 have hxy : x * y < 18446744073709551616 := Nat.lt_of_lt_of_le (Nat.mul_lt_mul'' hx hy) (by decide)
 have e1 : x * y / 18446744073709551616 = 0 := Nat.div_eq_of_lt hxy
 have e2 : x * y % 18446744073709551616 = x * y := Nat.mod_eq_of_lt hxy
 refine pur_ext (vs := [.int .u64 x, .int .u64 y]) (v := .tuple #[.int .u64 0, .int .u64 (x * y : Nat)]) ⟨Tryz.f132, Tryz.func132, rfl, rfl⟩ (fun w I xs h => ?_) (fun w I => ?_) (fun w hA => ?_)
 ·obtain ⟨x, xs', rfl, g1, g2⟩ := h.inv
  obtain ⟨x2, xs2, rfl, g3, g4⟩ := g2.inv
  simp only [Rel] at g1 g3
  rw [g4.inv_nil, g1, g3]
 ·simp only [Rel]
  exact ⟨_, rfl, by simp [RelL, Rel]⟩
 ·refine (Tryz.bits_Mul x y (by omega) (by omega) w).mono fun e w' h' => ?_
  obtain ⟨rfl, rfl⟩ := h'
  rw [e1, e2]
  exact ⟨rfl, ⟨rfl, rfl, rfl, Nat.le_refl _, fun _ _ => rfl⟩⟩
section
variable {P : Mod} {dst : Dst} {rq : List (RO × Bool)} {K : St → Prop} {s : St}
theorem t_smTF {n : Nat} {k : IntKind} {a : Int} {bk off len cap : Nat} (h0 : 0 ≤ a) (h1 : a ≤ len) (hc : len ≤ cap) (h : opsQ P rq K (s.put dst (.sl bk n (off + a.toNat * n) (len - a.toNat) (cap - a.toNat)))) : OpQ P (.slcL n true false) [.sl bk n off len cap, .int k a] dst rq K s := by
 simp only [OpQ, zAf, zAb, Bool.false_eq_true, if_false, opWp]
 exact ⟨a, len, ⟨rfl, rfl⟩, h0, h1, by simp [dlen], trivial, hc, by trivial, by simpa using h⟩
theorem t_smFT {n : Nat} {k : IntKind} {a : Int} {bk off len cap : Nat} (h0 : 0 ≤ a) (h1 : a ≤ len) (hc : len ≤ cap) (h : opsQ P rq K (s.put dst (.sl bk n off a.toNat cap))) : OpQ P (.slcL n false true) [.sl bk n off len cap, .int k a] dst rq K s := by
 simp only [OpQ, zAf, zAb, Bool.false_eq_true, if_false, opWp]
 exact ⟨0, a, ⟨rfl, rfl⟩, by omega, h0, by simpa [dlen] using h1, trivial, hc, by trivial, by simpa using h⟩
end
def repS (x : Tx) (N m : Nat) : List Tx := List.replicate m x ++ List.replicate (N - m) []
theorem zEb {x : Tx} {N m : Nat} (h : m ≤ N) : (repS x N m).length = N := by simp [repS]; omega
theorem zeros_strs : ∀ n : Nat, zeros [.str []] n = strs (List.replicate n [])
 | 0 => rfl
 | n + 1 => by
   have := zeros_strs n
   simp only [zeros, this]
   rfl
theorem rep_set {x : Tx} {N m k : Nat} (hm : m + k ≤ N) : setL (strs (repS x N m)) m (strs (List.replicate k x)) = strs (repS x N (m + k)) := by
 rw [setL_strs _ _ _ (by rw [zEb (by omega)]; simp; omega)]
 congr 1
 unfold repS
 rw [List.take_append_of_le_length (by simp), List.take_of_length_le (by simp), List.drop_append, List.drop_of_length_le (by simp), List.nil_append, ← List.append_assoc, List.replicate_append_replicate]
 simp
 omega
theorem rep_elems {x : Tx} {N m : Nat} (hm : m ≤ N) (H : List Blk) (tk : List Tv) : zA4 ⟨.cells (strs (repS x N m)) :: H, tk⟩ 1 (.sl 0 1 0 m N) = some (strs (List.replicate m x)) := by
 have h2 : 0 + m ≤ N := by omega
 simp only [zA4, List.getElem?_cons_zero, true_and, hm, if_true, Nat.mul_one, zAk, zEb hm, h2, List.drop_zero]
 rw [chunk_strs _ _ (by rw [zEb hm]; exact hm), repS, List.take_append_of_le_length (by simp), List.take_of_length_le (by simp)]
theorem repeat_p (x : Tx) (N : Nat) (hN : N ≤ 8000) : Pur M 106 [.slice [.str x] .no, .int .i64 N] (.slice (strs (List.replicate N x)) .no) := by
 refine k106.ow (C := C106) rfl rfl ?_
 rw [i106]
 unfold c106
 have c1 : Pur M 132 [.int .u64 1, .int .u64 N] (.tup [.int .u64 0, .int .u64 N]) := by
  have := mulb_p 1 N (by omega) (by omega)
  rwa [Nat.one_mul] at this
 have hz : zeros [.str []] N = strs (repS x N 0) := by rw [zeros_strs]; simp [repS]
 have hzl : (strs (repS x N 0)).length = N := by rw [zAk, zEb (by omega)]
 have hr := zD9
 have wQ := tw; repeat' (first | with_reducible (apply swq; constructor) | simp only [go_sem, seval, P106, q106, hz] | simp (disch := omega) only [wA] | ((with_reducible refine zAc (c1) ?he ?hc ?_); (case he | hc => exact sc wQ)) | ((with_reducible apply s_mks); (case h0 | h1 | h2 => exact sd wQ)) | ((with_reducible apply s_cpy); (case h1 | he => rfl); (case h2 | h3 | hK => exact sd wQ)) | (with_reducible (apply cdA; constructor)) | with_reducible intro _)
 all_goals try omega
 have hset : setL (strs (repS x N 0)) 0 (flatD ([D.str x].take N)) = strs (repS x N (min 1 N)) := by
  have := rep_set (x := x) (N := N) (m := 0) (k := min 1 N) (by omega)
  rw [Nat.zero_add] at this
  rw [← this]
  congr 1
  cases N with
  | zero => rfl
  | succ N => rw [show min 1 (N + 1) = 1 by omega, List.take_of_length_le (by simp)]; rfl
 rw [hset]
 refine zAs [5, 6] (fun m : Nat => ⟨[.u0, .u0, .u0, .u0, .u0, .sl 0 1 0 N N, .int .i64 m, .u0, .u0, .u0], [], ⟨[.cells (strs (repS x N m))], []⟩⟩)
  (fun m => m ≤ N ∧ min 1 N ≤ m) (fun m => N - m) (min 1 N) ⟨by omega, Nat.le_refl _⟩ ?_ ?_
 ·simp [keepE, St.keepG, St.keep, St.gc, RcS, RcB, Hp.cut, Hp.back, putAt, bakF, Blk.rnL, rC, rM, Tv.rnL, Tv.rn, D.rnL, D.rn, cutF, Own.rn, hr]
 ·rintro m ⟨h1, h2⟩
  by_cases hlt : m < N
  ·have he := rep_elems (x := x) h1 [] []
   have hl := zAk (repS x N m)
   rw [zEb h1] at hl
   have hs : setL (strs (repS x N m)) m (flatD ((strs (List.replicate m x)).take (N - m))) = strs (repS x N (m + min m (N - m))) := by
    rw [strs_take, List.take_replicate, flat_strs, Nat.min_comm, rep_set (by omega)]
   have hel := zBk (List.replicate m x)
   have hll := zAk (List.replicate m x)
   rw [List.length_replicate] at hll
   generalize strs (List.replicate m x) = R at *
   generalize strs (repS x N m) = K at *
   repeat' (first | with_reducible (apply swq; constructor) | simp only [go_sem, seval, P106, q106] | (with_reducible (apply cdA; constructor)) | with_reducible intro _)
   all_goals try omega
   refine t_smTF (by omega) (by omega) (Nat.le_refl _) ?_
   repeat' (first | with_reducible (apply swq; constructor) | simp only [go_sem, seval, P106, q106] | with_reducible intro _)
   refine t_smFT (by omega) (by omega) (Nat.le_refl _) ?_
   rw [Int.toNat_natCast, Nat.mul_one]
   repeat' (first | with_reducible (apply swq; constructor) | simp only [go_sem, seval, P106, q106] | with_reducible intro _)
   refine s_cpy (cs := K) (es := R) rfl (by omega) (Nat.le_refl _) he hel ?_
   rw [hs, hll]
   have q1 : (m : Int) + (min m (N - m) : Nat) = ((m + min m (N - m) : Nat) : Int) := by omega
   repeat' (first | with_reducible (apply swq; constructor) | simp only [go_sem, seval, P106, q106, q1] | simp (disch := omega) only [wA] | with_reducible intro _)
   all_goals try omega
   exact ⟨m + min m (N - m), ⟨by omega, by omega⟩, by omega, by simp [keepE, St.keepG, St.keep, St.gc, RcS, RcB, Hp.cut, Hp.back, putAt, bakF, Blk.rnL, rC, rM, Tv.rnL, Tv.rn, D.rnL, D.rn, cutF, Own.rn, hr]⟩
  ·have e : m = N := by omega
   subst e
   repeat' (first | with_reducible (apply swq; constructor) | simp only [go_sem, seval, P106, q106] | (with_reducible (apply cdA; constructor)) | with_reducible intro _)
   all_goals try omega
   have hk := chunk_strs m (repS x m m) (by rw [zEb h1]; exact h1)
   have ht : (repS x m m).take m = List.replicate m x := by rw [repS, List.take_append_of_le_length (by simp), List.take_of_length_le (by simp)]
   rw [ht] at hk
   have hl := zAk (repS x m m)
   rw [zEb h1] at hl
   have hel := zBk (List.replicate m x)
   have hcl := zAv (List.replicate m x)
   have her := zA3 (repS x m m)
   have her2 := zA3 (List.replicate m x)
   refine ⟨_, zE7 0 (strs (repS x m m)) rfl (Nat.zero_le _) (zAv _), ?_⟩
   rw [her]
   simp [St.frz, D.fz, hk, hl, hel, D.closed, D.er, hcl, her2]
end Go.Proofs.YtkobjnpmjngklaaGreatDoor
end
section
set_option maxRecDepth 100000
set_option linter.unusedSimpArgs false
set_option linter.unusedVariables false
namespace Go.Proofs.YtkobjnpmjngklaaGreatDoor
open Go GoV
theorem clear_s (n : Nat) (S : Sx) (hS : SxOk S n) (s : Sto) (hs : StOk n s) (l : List Tri) (c a i : Nat) (ha : a < 2) (hi : i ≤ s.size) :
 Eff M 56 [.ptr 0 0, .int .i64 a, .int .i64 i] (hpS n S s l c) fun d hp => d = .int .i64 0 ∧ hp = hpS n (goW S (clrW s.size a i)) s l c := by
 refine k56.oe 4 0 rfl rfl rfl ?_
 rw [ie56]
 unfold c56
 have hz : s.size ≤ 4000 := by have := hs.sz; have := hs.n8; omega
 have hpl : plc s.size a i + (s.size - i) ≤ n := by
  have := hs.sz; have := hs.n8; have := hs.n4
  unfold plc
  have : a = 0 ∨ a = 1 := by omega
  rcases this with h | h <;> subst h <;> omega
 have c1 := place_s n S s l c a i hz ha (by omega)
 have c2 := blank_p
 have c3 := repeat_p (zr 64) (s.size - i) (by omega)
 have c4 := write_s n hs.n8 S hS s l c (plc s.size a i) (List.replicate (s.size - i) (zr 64)) (by simpa using hpl) (fun x hx => by rw [List.eq_of_mem_replicate hx, zr_len])
 have hB := fun β τ => zAi β τ S.flatten
 have e : goW S (clrW s.size a i) = putS S (plc s.size a i) (List.replicate (s.size - i) (zr 64)) := rfl
 rw [e]
 have hB2 := fun β τ => zAi β τ (putS S (plc s.size a i) (List.replicate (s.size - i) (zr 64))).flatten
 have hE := fun β τ => zAl β τ l
 have q1 : (s.size : Int) - (i : Int) = ((s.size - i : Nat) : Int) := by omega
 unfold hpS stB dkB byB at *
 simp only [queD] at *
 generalize bys (putS S (plc s.size a i) (List.replicate (s.size - i) (zr 64))).flatten = Z at *
 generalize bys S.flatten = Y at *
 generalize entT l = E at *
 generalize zr 64 = z at *
 generalize strs (List.replicate (s.size - i) z) = R at *
 generalize plc s.size a i = p at *
 have wQ := And.intro @hB @hE; repeat' (first | with_reducible (apply swq; constructor) | simp only [go_sem, seval, P56, pe56, q56, q1] | simp (disch := omega) only [wA] | ((with_reducible refine zDi (c2) ?he ?hc ?_); (case he | hc => exact sc wQ)) | ((with_reducible refine c_call (c3) ?he ?hc ?_); (case he | hc => exact sc wQ)) | ((with_reducible refine p_eff [0, 1, 2, 3] [] (c1) ?hs ?he ?hh ?hb ?_); (case hs => exact so); (case he | hh | hb => first | rfl | (simp [go_sem, seval, hB, hE]; done))) | ((with_reducible refine o_eff [0, 1, 2, 3] [] (c4) ?hs ?he ?hh ?_); (case hs => exact so); (case he | hh => exact sh wQ); try rintro _ _ ⟨rfl, rfl⟩) | ((with_reducible apply t_bsl); (case he | hl | hc => exact sd wQ)) | with_reducible intro _)
 all_goals try omega
 exact ⟨_, zAa, rfl, by simp [RcS, RcB, Hp.cut, Hp.back, putAt, bakF, Blk.rnL, rC, rM, Tv.rnL, Tv.rn, D.rnL, D.rn, cutF, Own.rn, hB2, hE]⟩
def rowsP (t : Tx) : List (List D) := (chK t).map fun x => [.str x]
theorem rowsP_len (t : Tx) : (rowsP t).length = cntK t := by rw [rowsP, List.length_map, zA0]
theorem chK_get : ∀ (k : Nat) (t : Tx), 46 * k < t.length → (chK t)[k]? = some ((t.drop (46 * k)).take 46)
 | 0, t, h => by rw [chK_step (fun e => by subst e; simp at h)]; rfl
 | k + 1, t, h => by
   rw [chK_step (fun e => by subst e; simp at h), List.getElem?_cons_succ, chK_get k _ (by simp; omega), List.drop_drop, show 46 + 46 * k = 46 * (k + 1) by omega]
theorem cnt_lt {t : Tx} {k : Nat} : k < cntK t ↔ 46 * k < t.length := by unfold cntK; omega
set_option maxHeartbeats 1000000 in
theorem pieces_it (t : Tx) (ht : t.length ≤ 1000000000000000) (B0 B1 B2 B3 B4 B5 : Blk) (B6 : Nat → Blk) (T : Nat → List Tv) :
 Iter2 M 129 [.ptr 7 0] (rowsP t) (fun k => ⟨[B0, B1, B2, B3, B4, B5, B6 k, .cells [.str (t.drop (46 * k))]], T k⟩) (fun k => ⟨[B0, B1, B2, B3, B4, B5, B6 (k + 1), .cells [.str (t.drop (46 * k))]], T (k + 1)⟩) := by
 refine zEh (C := E129 0 0) (fn := Tryz.f129) Tryz.func129 (by kernel_rfl) (by kernel_rfl) (rc := c129) z129 (by kernel_rfl) (by kernel_rfl) rfl (by decide) (fun b y hY => ?_)
 rw [ie129]
 unfold c129
 rw [rowsP_len]
 repeat' (first | with_reducible (apply swq; constructor) | simp only [go_sem, seval, atB_M, pe129] | with_reducible intro _)
 refine zAs [0, 1] (fun k : Nat => ⟨[yldD y, .ptr 7 0, .u0, .u0, .u0], [], ⟨[B0, B1, B2, B3, B4, B5, B6 k, .cells [.str (t.drop (46 * k))]], T k⟩⟩)
  (fun k => k ≤ cntK t) (fun k => cntK t - k) 0 (Nat.zero_le _) ?_ ?_
 ·simp [keepE, St.keep]
 ·intro k hk
  by_cases hlt : k < cntK t
  ·have h46 := cnt_lt.1 hlt
   have h8 := hY k _ (by rw [rowsP, List.getElem?_map, chK_get k t h46]; rfl)
   have hl : (t.drop (46 * k)).length = t.length - 46 * k := List.length_drop ..
   obtain ⟨m, hm, hm2⟩ : ∃ m : Nat, (if (((t.drop (46 * k)).length : Nat) : Int) < 46 then (((t.drop (46 * k)).length : Nat) : Int) else 46) = (m : Int) ∧ m = min 46 (t.drop (46 * k)).length := ⟨_, by split <;> omega, rfl⟩
   have hnx : (t.drop (46 * k)).drop m = t.drop (46 * (k + 1)) := by
    rw [List.drop_drop]
    by_cases h : 46 ≤ (t.drop (46 * k)).length
    ·congr 1; omega
    ·rw [List.drop_of_length_le (by omega), List.drop_of_length_le (by omega)]
   have htk : (t.drop (46 * k)).take m = (t.drop (46 * k)).take 46 := by
    by_cases h : 46 ≤ (t.drop (46 * k)).length
    ·congr 1; omega
    ·rw [List.take_of_length_le (by omega), List.take_of_length_le (by omega)]
   have htn : ((m : Nat) : Int).toNat = m := Int.toNat_natCast m
   have hu0 : t.drop (46 * k) ≠ [] := fun e => by rw [e] at hl; simp at hl; omega
   generalize t.drop (46 * k) = u at *
   generalize hu' : t.drop (46 * (k + 1)) = u' at *
   rw [htk.symm] at h8
   have h8 : YOk (M.with b) y [.str (u.take m)] ⟨[B0, B1, B2, B3, B4, B5, B6 k, .cells [.str u]], T k⟩ ⟨[B0, B1, B2, B3, B4, B5, B6 (k + 1), .cells [.str u]], T (k + 1)⟩ := h8
   have wQ := @hl; repeat' (first | with_reducible (apply swq; constructor) | simp only [go_sem, seval, atB_M, pe129, hm, htn, hnx] | ((with_reducible refine o_yield (h8) ?he ?hh ?_); (case he => first | rfl | (simp [hl]; done)); (case hh => first | rfl | assumption | (simp [hl]; done))) | with_reducible (apply cdA; constructor) | ((with_reducible refine And.intro ?hw ?_); (case hw => exact sw wQ)) | with_reducible intro _)
   all_goals try omega
   exact ⟨k + 1, by omega, by omega, by simp [keepE, St.keep, hu']⟩
  ·have e : k = cntK t := by omega
   subst e
   have h46 : t.drop (46 * cntK t) = [] := List.drop_of_length_le (by unfold cntK; omega)
   rw [h46]
   have wQ := tw; repeat' (first | with_reducible (apply swq; constructor) | simp only [go_sem, seval, atB_M, pe129] | simp (disch := omega) only [wA] | with_reducible (apply cdA; constructor) | ((with_reducible refine And.intro ?hw ?_); (case hw => exact sw wQ)) | with_reducible intro _)
   all_goals try omega
   exact ⟨_, zAa, rfl⟩
theorem pieces_p (t : Tx) : Eff M 100 [.str t] ⟨[], []⟩ fun d hp => d = .fn (.func 129) [] [.ptr 0 0] ∧ hp = ⟨[.cells [.str t]], []⟩ := by
 refine k100.oe 0 0 rfl rfl rfl ?_
 rw [ie100]
 unfold c100
 repeat' (first | with_reducible (apply swq; constructor) | simp only [go_sem, seval, pe100, q100] | with_reducible intro _)
 exact ⟨_, zAa, rfl, rfl⟩
theorem secK_step {t : Tx} {p k : Nat} (h : 46 * k < t.length) : secK p ((chK t).take (k + 1)) = secK p ((chK t).take k) ++ [sealT (p + k) (dgW ((t.drop (46 * k)).take 46).length 2 ++ (t.drop (46 * k)).take 46)] := by
 have h1 := chK_get k t h
 have hk := zAd h1
 rw [List.take_add_one, h1, Option.toList_some, secK_app, List.length_take, Nat.min_eq_left (by omega)]
def hpA (n : Nat) (Y : List D) (E : List (D × D × Nat)) (c : Nat) (s : Sto) (a d p : Nat) (t : Tx) (k j : Nat) : Hp :=
 ⟨[.cells [.ptr 2 0, .int .i64 s.size, .int .i64 s.area, .int .i64 s.count, .mp 1, .bool false], .map E c, .cells [.sl 3 1 0 (64 * n) (64 * n), .lit (.slice none 0 0), .bool false, .lit (.pointer none)], .cells Y,
   .cells [.int .i64 a, .int .i64 d], .cells [.int .i64 p], .cells [.slice (strs (secK p ((chK t).take k))) (.tok 0)], .cells [.str (t.drop (46 * j))]], [.per 1 k]⟩
set_option maxHeartbeats 4000000 in
theorem add_s (n : Nat) (S : Sx) (hS : SxOk S n) (s : Sto) (hs : StOk n s) (l : List Tri) (c a d : Nat) (ha : a < 2) (t : Tx) (hd : d + cntK t ≤ s.size) :
 Eff M 52 [.ptr 0 0, .agg [.int .i64 a, .int .i64 d], .str t] (hpS n S s l c) fun v hp => v = .int .i64 0 ∧ hp = hpS n (goW S (addW s.size a d t)) { s with area := a, count := d + cntK t } l c := by
 refine zAu 4 0 (Nat.le_refl 4) (Nat.le_refl 0) (zEy (C := E52 4 0) (fn := Tryz.f52) Tryz.func52 (by kernel_rfl) (by kernel_rfl) (rc := c52) z52 (rs := q52) zr52 (by kernel_rfl) rfl (show 3 ≤ 49 by decide) rfl rfl ?_)
 rw [ie52]
 unfold c52
 have hz : s.size ≤ 4000 := by have := hs.sz; have := hs.n8; omega
 have ht : t.length ≤ 1000000 := by unfold cntK at hd; omega
 have hpl : plc s.size a d + cntK t ≤ n := by
  have := hs.sz; have := hs.n8; have := hs.n4
  unfold plc
  have : a = 0 ∨ a = 1 := by omega
  rcases this with h | h <;> subst h <;> omega
 have hS1 : SxOk (putS S (plc s.size a d) (secK (plc s.size a d) (chK t))) n := zB1 hS (by rw [zCo, zA0]; exact hpl) (zFo _ _ fun x hx => (chK_el hx).2)
 have c1 := place_s n S s l c a d hz ha (by omega)
 have c2 := pieces_p t
 have c3 := write_s n hs.n8 S hS s l c (plc s.size a d) (secK (plc s.size a d) (chK t)) (by rw [zCo, zA0]; exact hpl) (zFo _ _ fun x hx => (chK_el hx).2)
 have c4 := set_s n hs.n8 hs.n4 _ hS1 s l c a (d + cntK t) ha (by omega)
 have e : goW S (addW s.size a d t) = goW (putS S (plc s.size a d) (secK (plc s.size a d) (chK t))) (setW a (d + cntK t)) := by unfold addW; rw [zA0]; rfl
 rw [e]
 have hB := fun β τ => zAi β τ S.flatten
 have hB1 := fun β τ => zAi β τ (putS S (plc s.size a d) (secK (plc s.size a d) (chK t))).flatten
 have hB2 := fun β τ => zAi β τ (goW (putS S (plc s.size a d) (secK (plc s.size a d) (chK t))) (setW a (d + cntK t))).flatten
 have hE := fun β τ => zAl β τ l
 have hsk : ∀ k, secK (plc s.size a d) ((chK t).take k) = secK (plc s.size a d) ((chK t).take k) := fun _ => rfl
 have hstep := fun k => secK_step (t := t) (p := plc s.size a d) (k := k)
 have hall : secK (plc s.size a d) ((chK t).take (cntK t)) = secK (plc s.size a d) (chK t) := by rw [← zA0, List.take_length]
 have hlk : ∀ k, k ≤ cntK t → (secK (plc s.size a d) ((chK t).take k)).length = k := fun k hk => by rw [zCo, List.length_take, zA0, Nat.min_eq_left hk]
 unfold hpS stB dkB byB at *
 simp only [queD] at *
 generalize bys (goW (putS S (plc s.size a d) (secK (plc s.size a d) (chK t))) (setW a (d + cntK t))).flatten = Z at *
 generalize bys (putS S (plc s.size a d) (secK (plc s.size a d) (chK t))).flatten = Y1 at *
 generalize bys S.flatten = Y at *
 generalize entT l = E at *
 generalize hp : plc s.size a d = p at *
 have hpn : p ≤ 8002 := by have := hs.n8; omega
 have wQ := And.intro @hB @hE; repeat' (first | with_reducible (apply swq; constructor) | with_reducible apply zBv | with_reducible apply twp_block | ((with_reducible refine zBw ?hb ?_); (case hb => exact fun _ _ => trivial); with_reducible intro _) | simp only [go_sem, seval, pe52, q52] | ((with_reducible refine o_eff [0, 1, 2, 3] [] (c1) ?hs ?he ?hh ?_); (case hs => exact so); (case he | hh => exact sh wQ); try rintro _ _ ⟨rfl, rfl⟩) | ((with_reducible refine o_eff [] [] (c2) ?hs ?he ?hh ?_); (case hs => exact so); (case he | hh => exact sh wQ); try rintro _ _ ⟨rfl, rfl⟩) | with_reducible intro _)
 all_goals try omega
 rw [hB, hE]
 have hit : Iter2 M 129 [.ptr 7 0] (rowsP t) (fun k => hpA n Y E c s a d p t k k) (fun k => hpA n Y E c s a d p t (k + 1) k) :=
  pieces_it t (by omega) _ _ _ _ _ _ (fun k => .cells [.slice (strs (secK p ((chK t).take k))) (.tok 0)]) (fun k => [.per 1 k])
 refine twp_weak (fun _ => weak_newC 6 0 1 (by decide) rfl rfl) (show TWp (E52 4 0) 4 0 _ _ ⟨[.ptr 0 0, .agg [.int .i64 a, .int .i64 d], .str t, .ptr 4 0, .int .i64 0, .ptr 5 0, .ptr 6 0, .u0, .u0, .fn (.func 129) [] [.ptr 7 0], .u0, .u0], [], hpA n Y E c s a d p t 0 0⟩ from ?_)
 refine twp_range2 (fun _ _ => trivial) (fun k => hpA n Y E c s a d p t k k) (fun k => hpA n Y E c s a d p t (k + 1) k) hit rfl ?_ rfl ?_ ?_
 ·intro r hr
  obtain ⟨k, _, rfl⟩ := List.mem_map.1 hr
  rfl
 ·intro k r hk
  have hlt : k < cntK t := by rw [← rowsP_len]; exact zAd hk
  have h46 := cnt_lt.1 hlt
  rw [rowsP, List.getElem?_map, chK_get k t h46] at hk
  cases hk
  have hx1 : ((t.drop (46 * k)).take 46).length ≤ 46 := by simp; omega
  have k1 : Pur M 102 [.int .i64 (((t.drop (46 * k)).take 46).length : Nat), .int .i64 2] (.str (dgW ((t.drop (46 * k)).take 46).length 2)) := zGq _ 2 (by omega) (by omega)
  have hdl := zCh (n := ((t.drop (46 * k)).take 46).length) (w := 2) (by simp; omega) (by omega)
  have k2 := sealed_p (p + k) (dgW ((t.drop (46 * k)).take 46).length 2 ++ (t.drop (46 * k)).take 46) (by omega) (by rw [List.length_append, hdl]; omega)
  have h1 := hstep k h46
  have hl1 := hlk k (by omega)
  have q1 : (p : Int) + (k : Int) = ((p + k : Nat) : Int) := by omega
  simp only [hpA, h1]
  generalize secK p ((chK t).take k) = T at *
  generalize sealT (p + k) (dgW ((t.drop (46 * k)).take 46).length 2 ++ (t.drop (46 * k)).take 46) = z at *
  generalize dgW ((t.drop (46 * k)).take 46).length 2 = g at *
  generalize (t.drop (46 * k)).take 46 = x at *
  generalize t.drop (46 * k) = u at *
  have hT := zAk T
  rw [hl1] at hT
  have hs : strs (T ++ [z]) = strs T ++ [.str z] := by simp [strs]
  rw [hs]
  generalize strs T = K at *
  simp only [binds]
  have wQ := @hT; repeat' (first | with_reducible (apply swq; constructor) | simp only [go_sem, seval, pe52, q52, hT, q1] | simp (disch := omega) only [wA] | ((with_reducible refine zDi (k1) ?he ?hc ?_); (case he | hc => exact sc wQ)) | ((with_reducible refine zDi (k2) ?he ?hc ?_); (case he | hc => exact sc wQ)) | ((with_reducible apply s_appT); (case he => rfl); (case hK | hc | hr | hV => exact sd wQ)) | ((with_reducible apply t_bsl); (case he | hl | hc => exact sd wQ)) | ((with_reducible refine And.intro ?hw ?_); (case hw => exact sw wQ)) | with_reducible intro _)
  all_goals try omega
  exact ⟨_, zAa, rfl⟩
 ·rw [rowsP_len]
  simp only [hpA, hall]
  have hsl := zAk (secK p (chK t))
  rw [zCo, zA0] at hsl
  generalize strs (secK p (chK t)) = K at *
  have q2 : (d : Int) + (cntK t : Nat) = ((d + cntK t : Nat) : Int) := by omega
  have wQ := And.intro @hB (And.intro @hB1 @hE); repeat' (first | with_reducible (apply swq; constructor) | with_reducible apply zBv | ((with_reducible refine zBw ?hb ?_); (case hb => exact fun _ _ => trivial); with_reducible intro _) | ((with_reducible refine zBs ?hb ?_); (case hb => exact fun _ _ => trivial); with_reducible intro _) | ((with_reducible refine twp_ret ?hb ?_); (case hb => exact fun _ _ => trivial)) | simp only [go_sem, seval, pe52, q52, hsl, q2] | simp (disch := omega) only [wA] | ((with_reducible refine o_eff [0, 1, 2, 3] [] (c3) ?hs ?he ?hh ?_); (case hs => exact so); (case he | hh => exact sh wQ); try rintro _ _ ⟨rfl, rfl⟩) | ((with_reducible refine o_eff [0, 1, 2, 3] [] (c4) ?hs ?he ?hh ?_); (case hs => exact so); (case he | hh => exact sh wQ); try rintro _ _ ⟨rfl, rfl⟩) | with_reducible intro _)
  all_goals try omega
  refine ⟨_, fun _ => zAa, rfl, ?_⟩
  simp [RcS, RcB, Hp.cut, Hp.back, putAt, bakF, Blk.rnL, rC, rM, Tv.rnL, Tv.rn, D.rnL, D.rn, cutF, Own.rn, hB2, hE]
end Go.Proofs.YtkobjnpmjngklaaGreatDoor
end
section
set_option maxRecDepth 100000
set_option linter.unusedSimpArgs false
set_option linter.unusedVariables false
namespace Go.Proofs.YtkobjnpmjngklaaGreatDoor
open Go GoV
def posR (size pl : Nat) (t : Tx) : (Nat × Nat) × Bool := match atK ((t.take 24).drop 16) with
 | none => ((0, 0), false)
 | some m => ((m / 10000000, m % 10000000), decide (m / 10000000 < 2 ∧ m % 10000000 ≤ size ∧ headT pl (m / 10000000) (m % 10000000) = t))
theorem posR_K (size pl : Nat) (t : Tx) : posK size pl t = if (posR size pl t).2 = true then some (posR size pl t).1 else none := by
 unfold posK posR
 cases atK ((t.take 24).drop 16) with
 | none => rfl
 | some m =>
   simp only [decide_eq_true_eq]
def posD (r : (Nat × Nat) × Bool) : D := .tup [.agg [.int .i64 r.1.1, .int .i64 r.1.2], .bool r.2]
set_option maxHeartbeats 1000000 in
theorem positioned_s (n : Nat) (hn : n ≤ 8000) (S : Sx) (hS : SxOk S n) (s : Sto) (hs : s.size ≤ 4000) (l : List Tri) (c pl : Nat) (hp : pl < n) :
 Eff M 42 [.ptr 0 0, .int .i64 pl] (hpS n S s l c) fun d hp => d = posD (posR s.size pl (secAt S pl)) ∧ hp = hpS n S s l c := by
 refine zAu 4 0 (Nat.le_refl 4) (Nat.le_refl 0) (k42.oe 4 0 rfl rfl rfl ?_)
 rw [ie42]
 unfold c42
 have c1 := read_p n hn S hS pl hp
 have ht := sec_len hS hp
 have hB := fun β τ => zAi β τ S.flatten
 have hE := fun β τ => zAl β τ l
 unfold hpS stB dkB byB at *
 simp only [queD] at *
 generalize bys S.flatten = Y at *
 generalize entT l = E at *
 generalize secAt S pl = t at *
 have c2 := atoi_p ((t.take 24).drop 16) (by simp; omega)
 unfold posR posD
 cases hk : atK ((t.take 24).drop 16) with
 | none =>
   generalize hu : (t.take 24).drop 16 = u at *
   rcases atK_none hk with h1 | ⟨h1, h2⟩
   iterate 2
    ·rw [h1] at c2
     generalize atv u = v at *
     have wQ := And.intro @hB @hE; repeat' (first | with_reducible (apply swq; constructor) | simp only [go_sem, seval, P42, pe42, q42, hu] | simp (disch := omega) only [wA] | ((with_reducible refine zAc (c2) ?he ?hc ?_); (case he | hc => exact sc wQ)) | ((with_reducible refine o_eff [2, 3] [] (c1) ?hs ?he ?hh ?_); (case hs => exact so); (case he | hh => exact sh wQ); try rintro _ _ ⟨rfl, rfl⟩) | (with_reducible first | (apply cdA; constructor) | (apply gqA; constructor)) | ((with_reducible refine And.intro ?hw ?_); (case hw => exact sw wQ)) | with_reducible intro _)
     all_goals try omega
     (refine ⟨_, zAa, ?_⟩; simp [RcS, RcB, Hp.cut, Hp.back, putAt, bakF, Blk.rnL, rC, rM, Tv.rnL, Tv.rn, D.rnL, D.rn, cutF, Own.rn, hB, hE])
 | some m =>
   dsimp only
   obtain ⟨h1, h2⟩ := atK_some hk
   have h3 := atK_bd hk
   rw [h1, h2] at c2
   generalize hu : (t.take 24).drop 16 = u at *
   have e1 : (m : Int).tdiv 10000000 = ((m / 10000000 : Nat) : Int) := by rw [Int.tdiv_eq_ediv_of_nonneg (by omega)]; omega
   have e2 : (m : Int).tmod 10000000 = ((m % 10000000 : Nat) : Int) := by rw [Int.tmod_eq_emod_of_nonneg (by omega)]; omega
   have hm : m % 10000000 < 10000000 := Nat.mod_lt _ (by omega)
   have hq : m / 10000000 ≤ 9223372036854775807 := by omega
   by_cases g1 : m / 10000000 < 2
   ·have k1 := head_k pl (m / 10000000) (m % 10000000) (by omega) (by omega) hm
    generalize m / 10000000 = a at *
    generalize m % 10000000 = b at *
    by_cases g2 : b ≤ s.size
    ·generalize headT pl a b = z at *
     by_cases g3 : z = t
     ·have hb : (z == t) = true := by simpa using g3
      have wQ := And.intro @hB @hE; repeat' (first | with_reducible (apply swq; constructor) | simp only [go_sem, seval, P42, pe42, q42, hu, e1, e2, hb] | simp (disch := omega) only [wA] | ((with_reducible refine zAc (c2) ?he ?hc ?_); (case he | hc => exact sc wQ)) | ((with_reducible refine zDi (k1) ?he ?hc ?_); (case he | hc => exact sc wQ)) | ((with_reducible refine o_eff [2, 3] [] (c1) ?hs ?he ?hh ?_); (case hs => exact so); (case he | hh => exact sh wQ); try rintro _ _ ⟨rfl, rfl⟩) | (with_reducible first | (apply cdA; constructor) | (apply gqA; constructor)) | ((with_reducible refine And.intro ?hw ?_); (case hw => exact sw wQ)) | with_reducible intro _)
      all_goals try omega
      (refine ⟨_, zAa, ?_⟩; simp [RcS, RcB, Hp.cut, Hp.back, putAt, bakF, Blk.rnL, rC, rM, Tv.rnL, Tv.rn, D.rnL, D.rn, cutF, Own.rn, hB, hE, g1, g2, g3])
     ·have hb : (z == t) = false := by simpa using g3
      have wQ := And.intro @hB @hE; repeat' (first | with_reducible (apply swq; constructor) | simp only [go_sem, seval, P42, pe42, q42, hu, e1, e2, hb] | simp (disch := omega) only [wA] | ((with_reducible refine zAc (c2) ?he ?hc ?_); (case he | hc => exact sc wQ)) | ((with_reducible refine zDi (k1) ?he ?hc ?_); (case he | hc => exact sc wQ)) | ((with_reducible refine o_eff [2, 3] [] (c1) ?hs ?he ?hh ?_); (case hs => exact so); (case he | hh => exact sh wQ); try rintro _ _ ⟨rfl, rfl⟩) | (with_reducible first | (apply cdA; constructor) | (apply gqA; constructor)) | ((with_reducible refine And.intro ?hw ?_); (case hw => exact sw wQ)) | with_reducible intro _)
      all_goals try omega
      (refine ⟨_, zAa, ?_⟩; simp [RcS, RcB, Hp.cut, Hp.back, putAt, bakF, Blk.rnL, rC, rM, Tv.rnL, Tv.rn, D.rnL, D.rn, cutF, Own.rn, hB, hE, g1, g2, g3])
    ·have wQ := And.intro @hB @hE; repeat' (first | with_reducible (apply swq; constructor) | simp only [go_sem, seval, P42, pe42, q42, hu, e1, e2] | simp (disch := omega) only [wA] | ((with_reducible refine zAc (c2) ?he ?hc ?_); (case he | hc => exact sc wQ)) | ((with_reducible refine zDi (k1) ?he ?hc ?_); (case he | hc => exact sc wQ)) | ((with_reducible refine o_eff [2, 3] [] (c1) ?hs ?he ?hh ?_); (case hs => exact so); (case he | hh => exact sh wQ); try rintro _ _ ⟨rfl, rfl⟩) | (with_reducible first | (apply cdA; constructor) | (apply gqA; constructor)) | ((with_reducible refine And.intro ?hw ?_); (case hw => exact sw wQ)) | with_reducible intro _)
     all_goals try omega
     (refine ⟨_, zAa, ?_⟩; simp [RcS, RcB, Hp.cut, Hp.back, putAt, bakF, Blk.rnL, rC, rM, Tv.rnL, Tv.rn, D.rnL, D.rn, cutF, Own.rn, hB, hE, g1, g2])
   ·generalize m / 10000000 = a at *
    generalize m % 10000000 = b at *
    have wQ := And.intro @hB @hE; repeat' (first | with_reducible (apply swq; constructor) | simp only [go_sem, seval, P42, pe42, q42, hu, e1, e2] | simp (disch := omega) only [wA] | ((with_reducible refine zAc (c2) ?he ?hc ?_); (case he | hc => exact sc wQ)) | ((with_reducible refine o_eff [2, 3] [] (c1) ?hs ?he ?hh ?_); (case hs => exact so); (case he | hh => exact sh wQ); try rintro _ _ ⟨rfl, rfl⟩) | (with_reducible first | (apply cdA; constructor) | (apply gqA; constructor)) | ((with_reducible refine And.intro ?hw ?_); (case hw => exact sw wQ)) | with_reducible intro _)
    all_goals try omega
    (refine ⟨_, zAa, ?_⟩; simp [RcS, RcB, Hp.cut, Hp.back, putAt, bakF, Blk.rnL, rC, rM, Tv.rnL, Tv.rn, D.rnL, D.rn, cutF, Own.rn, hB, hE, g1])
set_option maxHeartbeats 1000000 in
theorem piece_s (n : Nat) (hn : n ≤ 8000) (S : Sx) (hS : SxOk S n) (s : Sto) (l : List Tri) (c pl : Nat) (hp : pl < n) :
 Eff M 84 [.ptr 0 0, .int .i64 pl] (hpS n S s l c) fun d hp => d = .str (pieK pl (secAt S pl)) ∧ hp = hpS n S s l c := by
 refine zAu 4 0 (Nat.le_refl 4) (Nat.le_refl 0) (k84.oe 4 0 rfl rfl rfl ?_)
 rw [ie84]
 unfold c84
 have c1 := read_p n hn S hS pl hp
 have ht := sec_len hS hp
 have hB := fun β τ => zAi β τ S.flatten
 have hE := fun β τ => zAl β τ l
 unfold hpS stB dkB byB at *
 simp only [queD] at *
 generalize bys S.flatten = Y at *
 generalize entT l = E at *
 generalize secAt S pl = t at *
 have c2 := atoi_p ((t.take 18).drop 16) (by simp; omega)
 unfold pieK
 cases hk : atK ((t.take 18).drop 16) with
 | none =>
   generalize hu : (t.take 18).drop 16 = u at *
   rcases atK_none hk with h1 | ⟨h1, h2⟩
   iterate 2
    ·rw [h1] at c2
     generalize atv u = v at *
     have wQ := And.intro @hB @hE; repeat' (first | with_reducible (apply swq; constructor) | simp only [go_sem, seval, P84, pe84, q84, hu] | simp (disch := omega) only [wA] | ((with_reducible refine zAc (c2) ?he ?hc ?_); (case he | hc => exact sc wQ)) | ((with_reducible refine o_eff [2, 3] [] (c1) ?hs ?he ?hh ?_); (case hs => exact so); (case he | hh => exact sh wQ); rintro _ _ ⟨rfl, rfl⟩) | (with_reducible first | (apply cdA; constructor) | (apply gdA; constructor)) | ((with_reducible refine And.intro ?hw ?_); (case hw => exact sw wQ)) | with_reducible intro _)
     all_goals try omega
     (refine ⟨_, zAa, ?_⟩; simp [RcS, RcB, Hp.cut, Hp.back, putAt, bakF, Blk.rnL, rC, rM, Tv.rnL, Tv.rn, D.rnL, D.rn, cutF, Own.rn, hB, hE])
 | some m =>
   dsimp only
   obtain ⟨h1, h2⟩ := atK_some hk
   have h3 := atK_bd hk
   rw [h1, h2] at c2
   generalize hu : (t.take 18).drop 16 = u at *
   by_cases g1 : 1 ≤ m ∧ m ≤ 46
   ·have e1 : ((18 : Int) + (m : Nat)).toNat = 18 + m := by omega
    have hx : ((t.take (18 + m)).drop 18).length = m := by rw [List.length_drop, List.length_take]; omega
    have k1 : Pur M 102 [.int .i64 m, .int .i64 2] (.str (dgW m 2)) := zGq m 2 (by omega) (by omega)
    have hd := zCh (n := m) (w := 2) (by omega) (by omega)
    have k2 := sealed_p pl (dgW m 2 ++ (t.take (18 + m)).drop 18) (by omega) (by rw [List.length_append, hd, hx]; omega)
    generalize hxx : (t.take (18 + m)).drop 18 = x at *
    generalize dgW m 2 = g at *
    generalize sealT pl (g ++ x) = z at *
    by_cases g3 : z = t
    ·have hb : (z == t) = true := by simpa using g3
     have wQ := And.intro @hB @hE; repeat' (first | with_reducible (apply swq; constructor) | simp only [go_sem, seval, P84, pe84, q84, hu, e1, hxx, hb, Bool.not_true, Bool.not_false] | simp (disch := omega) only [wA] | ((with_reducible refine zAc (c2) ?he ?hc ?_); (case he | hc => exact sc wQ)) | ((with_reducible refine zAc (k1) ?he ?hc ?_); (case he | hc => exact sc wQ)) | ((with_reducible refine zAc (k2) ?he ?hc ?_); (case he | hc => exact sc wQ)) | ((with_reducible refine o_eff [2, 3] [] (c1) ?hs ?he ?hh ?_); (case hs => exact so); (case he | hh => exact sh wQ); rintro _ _ ⟨rfl, rfl⟩) | (with_reducible first | (apply cdA; constructor) | (apply gdA; constructor)) | ((with_reducible refine And.intro ?hw ?_); (case hw => exact sw wQ)) | with_reducible intro _)
     all_goals try omega
     (refine ⟨_, zAa, ?_⟩; simp [RcS, RcB, Hp.cut, Hp.back, putAt, bakF, Blk.rnL, rC, rM, Tv.rnL, Tv.rn, D.rnL, D.rn, cutF, Own.rn, hB, hE, g1, g3])
    ·have hb : (z == t) = false := by simpa using g3
     have wQ := And.intro @hB @hE; repeat' (first | with_reducible (apply swq; constructor) | simp only [go_sem, seval, P84, pe84, q84, hu, e1, hxx, hb, Bool.not_true, Bool.not_false] | simp (disch := omega) only [wA] | ((with_reducible refine zAc (c2) ?he ?hc ?_); (case he | hc => exact sc wQ)) | ((with_reducible refine zAc (k1) ?he ?hc ?_); (case he | hc => exact sc wQ)) | ((with_reducible refine zAc (k2) ?he ?hc ?_); (case he | hc => exact sc wQ)) | ((with_reducible refine o_eff [2, 3] [] (c1) ?hs ?he ?hh ?_); (case hs => exact so); (case he | hh => exact sh wQ); rintro _ _ ⟨rfl, rfl⟩) | (with_reducible first | (apply cdA; constructor) | (apply gdA; constructor)) | ((with_reducible refine And.intro ?hw ?_); (case hw => exact sw wQ)) | with_reducible intro _)
     all_goals try omega
     (refine ⟨_, zAa, ?_⟩; simp [RcS, RcB, Hp.cut, Hp.back, putAt, bakF, Blk.rnL, rC, rM, Tv.rnL, Tv.rn, D.rnL, D.rn, cutF, Own.rn, hB, hE, g1, g3])
   ·rw [if_neg (fun h => g1 ⟨h.1, h.2.1⟩)]
    have wQ := And.intro @hB @hE; repeat' (first | with_reducible (apply swq; constructor) | simp only [go_sem, seval, P84, pe84, q84, hu] | simp (disch := omega) only [wA] | ((with_reducible refine zAc (c2) ?he ?hc ?_); (case he | hc => exact sc wQ)) | ((with_reducible refine o_eff [2, 3] [] (c1) ?hs ?he ?hh ?_); (case hs => exact so); (case he | hh => exact sh wQ); rintro _ _ ⟨rfl, rfl⟩) | (with_reducible first | (apply cdA; constructor) | (apply gdA; constructor)) | ((with_reducible refine And.intro ?hw ?_); (case hw => exact sw wQ)) | with_reducible intro _)
    all_goals try omega
    all_goals (refine ⟨_, zAa, ?_⟩; simp [RcS, RcB, Hp.cut, Hp.back, putAt, bakF, Blk.rnL, rC, rM, Tv.rnL, Tv.rn, D.rnL, D.rn, cutF, Own.rn, hB, hE])
end Go.Proofs.YtkobjnpmjngklaaGreatDoor
end
section
set_option maxRecDepth 100000
set_option linter.unusedSimpArgs false
set_option linter.unusedVariables false
namespace Go.Proofs.YtkobjnpmjngklaaGreatDoor
open Go GoV
theorem joinK_take {L : List Tx} {i : Nat} (h : i < L.length) : joinK (L.take (i + 1)) = joinK (L.take i) ++ zEr L[i] := by
 rw [List.take_succ_eq_append_getElem h, joinK_app]; simp [joinK]
theorem joinK_le_all (L : List Tx) (i : Nat) : (joinK (L.take i)).length ≤ (joinK L).length := by
 have : joinK L = joinK (L.take i) ++ joinK (L.drop i) := by rw [← joinK_app, List.take_append_drop]
 rw [this]; simp
theorem joinK_len (L : List Tx) : L.length ≤ (joinK L).length := by
 induction L with
 | nil => simp
 | cons s L ih => rw [zB5]; simp; omega
set_option maxHeartbeats 1000000 in
theorem zGj (L : List Tx) (hJ : (joinK L).length ≤ 100000000000000) : Pur M 99 [.slice (strs L) .no] (.str (joinK L)) := by
 refine k99.ok (C := C99) rfl rfl ?_
 rw [i99]
 unfold c99
 have hll := joinK_len L
 have hsl := zAk L
 have hget : ∀ (j : Nat) (h : j < L.length), (strs L).getD j .u0 = .str L[j] := fun j h => zBt h
 generalize strs L = K at *
 repeat' (first | with_reducible (apply swq; constructor) | simp only [go_sem, seval, P99, q99] | with_reducible intro _)
 refine zA1 (weak_bld 0 138 5 _ rfl) ?_
 refine zAs [2, 4, 5, 6] (fun i : Nat => ⟨[.u0, .u0, .ptr 0 0, .u0, .slice K .no, .int .i64 K.length, .int .i64 i, .u0], [], ⟨[.tcells 138 [if i = 0 then .lit (.pointer none) else .ptr 0 0, .gs 0 (joinK (L.take i)).length]], [.byt 5 (joinK (L.take i))]⟩⟩)
  (fun i => i ≤ L.length) (fun i => L.length - i) 0 (by omega) ?_ ?_
 ·simp [keepE, St.keep, joinK]
 ·intro i g1
  by_cases hi : i < L.length
  ·have hg := hget i hi
   have h2 := joinK_le_all L i
   have h2' := joinK_le_all L (i + 1)
   have c4 := joinK_take hi
   have hpl : (joinK (L.take i)).length + (zEr L[i]).length = (joinK (L.take (i + 1))).length := by rw [c4, List.length_append]
   have hx : L[i].length ≤ (zEr L[i]).length := by simp [zEr]; omega
   have h3 := itK_p L[i].length (by omega)
   have hit : (itK L[i].length).length ≤ 19 := itK_le (by omega) (by omega)
   have cA := wstr_e (.inl rfl) (joinK (L.take i)) (zEr L[i]) _ rfl (by omega)
   have cB := wstr_e (.inr rfl) (joinK (L.take i)) (zEr L[i]) _ rfl (by omega)
   have c3 : itK L[i].length ++ [58] ++ L[i] = zEr L[i] := by simp [zEr]
   have e0 : i + 1 ≠ 0 := by omega
   generalize zEr L[i] = pc at *
   generalize itK L[i].length = it at *
   generalize L[i] = x at *
   rcases Nat.eq_zero_or_pos i with e | e
   ·simp only [if_pos e]
    have wQ := tw; repeat' (first | with_reducible (apply swq; constructor) | simp only [go_sem, seval, P99, q99, hg, c3] | simp (disch := omega) only [wA] | ((with_reducible refine zAc (h3) ?he ?hc ?_); (case he | hc => exact sc wQ)) | ((with_reducible refine o_eff [0] [0] (cA) ?hs ?he ?hh ?_); (case hs => exact so); (case he | hh => exact sh wQ); rintro _ _ ⟨rfl, rfl⟩) | with_reducible (apply cdA; constructor) | ((with_reducible refine And.intro ?hw ?_); (case hw => exact sw wQ)) | with_reducible intro _)
    all_goals try omega
    refine ⟨i + 1, by omega, by omega, ?_⟩
    rw [if_neg e0, c4]
    simp [keepE, St.keep]
   ·have e1 : i ≠ 0 := by omega
    simp only [if_neg e1]
    have wQ := tw; repeat' (first | with_reducible (apply swq; constructor) | simp only [go_sem, seval, P99, q99, hg, c3] | simp (disch := omega) only [wA] | ((with_reducible refine zAc (h3) ?he ?hc ?_); (case he | hc => exact sc wQ)) | ((with_reducible refine o_eff [0] [0] (cB) ?hs ?he ?hh ?_); (case hs => exact so); (case he | hh => exact sh wQ); rintro _ _ ⟨rfl, rfl⟩) | with_reducible (apply cdA; constructor) | ((with_reducible refine And.intro ?hw ?_); (case hw => exact sw wQ)) | with_reducible intro _)
    all_goals try omega
    refine ⟨i + 1, by omega, by omega, ?_⟩
    rw [if_neg e0, c4]
    simp [keepE, St.keep]
  ·have e : i = L.length := by omega
   subst e
   have e1 : L.take L.length = L := List.take_length
   rw [e1]
   have cA := str_e (p := .lit (.pointer none)) (bs := joinK L) (by omega)
   have cB := str_e (p := .ptr 0 0) (bs := joinK L) (by omega)
   rcases Nat.eq_zero_or_pos L.length with e | e
   ·simp only [if_pos e]
    have wQ := tw; repeat' (first | with_reducible (apply swq; constructor) | simp only [go_sem, seval, P99, q99] | simp (disch := omega) only [wA] | ((with_reducible refine o_eff [0] [0] (cA) ?hs ?he ?hh ?_); (case hs => exact so); (case he | hh => exact sh wQ); rintro _ _ ⟨rfl, rfl⟩) | with_reducible (apply cdA; constructor) | ((with_reducible refine And.intro ?hw ?_); (case hw => exact sw wQ)) | with_reducible intro _)
    all_goals try omega
    all_goals (simp [D.closed, D.er]; done)
   ·have e1 : L.length ≠ 0 := by omega
    simp only [if_neg e1]
    have wQ := tw; repeat' (first | with_reducible (apply swq; constructor) | simp only [go_sem, seval, P99, q99] | simp (disch := omega) only [wA] | ((with_reducible refine o_eff [0] [0] (cB) ?hs ?he ?hh ?_); (case hs => exact so); (case he | hh => exact sh wQ); rintro _ _ ⟨rfl, rfl⟩) | with_reducible (apply cdA; constructor) | ((with_reducible refine And.intro ?hw ?_); (case hw => exact sw wQ)) | with_reducible intro _)
    all_goals try omega
    all_goals (simp [D.closed, D.er]; done)
theorem splitF_any : ∀ (f g : Nat) (t : Tx), t.length ≤ f → t.length ≤ g → zCx f t = zCx g t
 | 0, 0, t, _, _ => rfl
 | 0, g + 1, t, h, _ => by simp at h; subst h; rfl
 | f + 1, 0, t, _, h => by simp at h; subst h; rfl
 | f + 1, g + 1, t, h1, h2 => by
   rw [zCx, zCx]
   split
   ·rfl
   ·split
    ·rfl
    ·rename_i s r hc
     have hr := congrArg List.length (zEz hc)
     simp only [List.length_append, List.length_cons] at hr
     split
     ·rfl
     ·split
      ·rw [splitF_any f g _ (by simp; omega) (by simp; omega)]
      ·rfl
theorem splitK_step {t : Tx} (h : t ≠ []) : zCe t = match cutK t with
 | none => none
 | some (s, r) => match atK s with
   | none => none
   | some n => if n ≤ r.length ∧ itK n = s then (zCe (r.drop n)).map fun l => r.take n :: l else none := by
 have hp : 0 < t.length := List.length_pos_iff.2 h
 have e : zCe t = zCx (t.length - 1 + 1) t := by rw [zCe]; congr 1; omega
 rw [e, zCx, if_neg h]
 cases hc : cutK t with
 | none => rfl
 | some p =>
   obtain ⟨s, r⟩ := p
   have hr := congrArg List.length (zEz hc)
   simp only [List.length_append, List.length_cons] at hr
   dsimp only
   cases atK s with
   | none => rfl
   | some n =>
     dsimp only
     split
     ·rw [zCe, splitF_any (t.length - 1) (r.drop n).length _ (by simp; omega) (Nat.le_refl _)]
     ·rfl
def splD : Option (List Tx) → D
 | none => .tup [.lit (.slice none 0 0), .bool false]
 | some l => .tup [.slice (strs l) .no, .bool true]
set_option maxHeartbeats 1000000 in
theorem split_p (t : Tx) (ht : t.length ≤ 1000000) : Pur M 87 [.str t] (splD (zCe t)) := by
 refine k87.ow (C := C87) rfl rfl ?_
 rw [i87]
 unfold c87
 repeat' (first | with_reducible (apply swq; constructor) | simp only [go_sem, seval, P87, q87] | with_reducible intro _)
 refine zA1 (weak_new 3 1 (by decide) false rfl) ?_
 refine zAs [0, 3] (fun p : Tx × List Tx => ⟨[.str p.1, .u0, .u0, .slice (strs p.2) (.tok 0), .u0, .u0, .u0, .u0, .u0, .u0, .u0], [], ⟨[], [.per 1 p.2.length]⟩⟩)
  (fun p => p.1.length + p.2.length ≤ t.length ∧ zCe t = (zCe p.1).map (p.2 ++ ·)) (fun p => p.1.length) (t, []) ⟨by simp, by simp⟩ ?_ ?_
 ·simp [keepE, St.keep, strs]
 ·rintro ⟨u, o⟩ ⟨h1, h2⟩
  dsimp only at h1 h2 ⊢
  have hso := zAk o
  by_cases hu : u = []
  ·subst hu
   rw [h2]
   have hcl := zAv o
   have her := zA3 o
   repeat' (first | with_reducible (apply swq; constructor) | simp only [go_sem, seval, P87, q87] | simp (disch := omega) only [wA] | (with_reducible (apply cdA; constructor)) | with_reducible intro _)
   all_goals try omega
   refine ⟨_, zAa, ?_⟩
   simp [zCe, zCx, splD, D.closed, D.cL, D.er, D.erL, hcl, her]
  ·have hup : 0 < u.length := List.length_pos_iff.2 hu
   rw [splitK_step hu] at h2
   have c1 := cut_p u (by omega)
   cases hc : cutK u with
   | none =>
     rw [hc] at c1 h2
     dsimp only at c1 h2
     have c2 := atoi_p u (by omega)
     rw [h2]
     generalize atE u = ee at *
     generalize atv u = vv at *
     have wQ := tw; repeat' (first | with_reducible (apply swq; constructor) | simp only [go_sem, seval, P87, q87] | ((with_reducible refine zAc (c1) ?he ?hc ?_); (case he | hc => exact sc wQ)) | ((with_reducible refine zAc (c2) ?he ?hc ?_); (case he | hc => exact sc wQ)) | (with_reducible (apply cdA; constructor)) | with_reducible intro _)
     all_goals try omega
     refine ⟨_, zAa, ?_⟩
     simp [splD, D.closed, D.cL, D.er, D.erL]
   | some p =>
     obtain ⟨s, r⟩ := p
     rw [hc] at c1 h2
     dsimp only at c1 h2
     have hr := congrArg List.length (zEz hc)
     simp only [List.length_append, List.length_cons] at hr
     have c2 := atoi_p s (by omega)
     cases hk : atK s with
     | none =>
       rw [hk] at h2
       dsimp only at h2
       rw [h2]
       rcases atK_none hk with g1 | ⟨g1, g2⟩
       iterate 2
        ·rw [g1] at c2
         generalize atv s = vv at *
         have wQ := tw; repeat' (first | with_reducible (apply swq; constructor) | simp only [go_sem, seval, P87, q87] | simp (disch := omega) only [wA] | ((with_reducible refine zAc (c1) ?he ?hc ?_); (case he | hc => exact sc wQ)) | ((with_reducible refine zAc (c2) ?he ?hc ?_); (case he | hc => exact sc wQ)) | (with_reducible first | (apply cdA; constructor) | (apply gdA; constructor)) | with_reducible intro _)
         all_goals try omega
         refine ⟨_, zAa, ?_⟩
         simp [splD, D.closed, D.cL, D.er, D.erL]
     | some m =>
       rw [hk] at h2
       dsimp only at h2
       obtain ⟨g1, g2⟩ := atK_some hk
       have g3 := atK_bd hk
       rw [g1, g2] at c2
       by_cases hm : m ≤ r.length
       ·have c3 := itK_p m (by omega)
        by_cases hs : itK m = s
        ·rw [if_pos ⟨hm, hs⟩] at h2
         have hb : (itK m == s) = true := by simpa using hs
         generalize itK m = w at *
         have q1 : ((m : Nat) : Int).toNat = m := Int.toNat_natCast m
         have hcl := zAv o
         have wQ := @hso; repeat' (first | with_reducible (apply swq; constructor) | simp only [go_sem, seval, P87, q87, hb, q1, Bool.not_true] | ((with_reducible refine zAc (c1) ?he ?hc ?_); (case he | hc => exact sc wQ)) | ((with_reducible refine zAc (c2) ?he ?hc ?_); (case he | hc => exact sc wQ)) | ((with_reducible refine zAc (c3) ?he ?hc ?_); (case he | hc => exact sc wQ)) | ((with_reducible apply s_appT); (case he => rfl); (case hK | hc | hr | hV => exact sd wQ)) | ((with_reducible apply s_bsl); (case he | hl | hc => exact sd wQ)) | (with_reducible first | (apply cdA; constructor) | (apply gdA; constructor)) | ((with_reducible refine And.intro ?hw ?_); (case hw => exact sw wQ)) | with_reducible intro _)
         all_goals try omega
         have hdr : (r.drop m).length = r.length - m := List.length_drop ..
         have hst : strs (o ++ [r.take m]) = strs o ++ [.str (r.take m)] := by simp [strs]
         refine ⟨(r.drop m, o ++ [r.take m]), ⟨?_, ?_⟩, ?_, ?_⟩
         ·dsimp only; rw [List.length_append, List.length_singleton]; omega
         ·dsimp only
          rw [h2, Option.map_map]
          congr 1
          funext l
          simp
         ·dsimp only; omega
         ·simp [keepE, St.keep, hst, hso]
        ·rw [if_neg (fun h => hs h.2)] at h2
         have hb : (itK m == s) = false := by simpa using hs
         rw [h2]
         generalize itK m = w at *
         have wQ := tw; repeat' (first | with_reducible (apply swq; constructor) | simp only [go_sem, seval, P87, q87, hb, Bool.not_false] | ((with_reducible refine zAc (c1) ?he ?hc ?_); (case he | hc => exact sc wQ)) | ((with_reducible refine zAc (c2) ?he ?hc ?_); (case he | hc => exact sc wQ)) | ((with_reducible refine zAc (c3) ?he ?hc ?_); (case he | hc => exact sc wQ)) | (with_reducible first | (apply cdA; constructor) | (apply gdA; constructor)) | with_reducible intro _)
         all_goals try omega
         refine ⟨_, zAa, ?_⟩
         simp [splD, D.closed, D.cL, D.er, D.erL]
       ·rw [if_neg (fun h => hm h.1)] at h2
        rw [h2]
        have wQ := tw; repeat' (first | with_reducible (apply swq; constructor) | simp only [go_sem, seval, P87, q87] | simp (disch := omega) only [wA] | ((with_reducible refine zAc (c1) ?he ?hc ?_); (case he | hc => exact sc wQ)) | ((with_reducible refine zAc (c2) ?he ?hc ?_); (case he | hc => exact sc wQ)) | (with_reducible first | (apply cdA; constructor) | (apply gdA; constructor)) | with_reducible intro _)
        all_goals try omega
        refine ⟨_, zAa, ?_⟩
        simp [splD, D.closed, D.cL, D.er, D.erL]
end Go.Proofs.YtkobjnpmjngklaaGreatDoor
end
section
namespace Go.Proofs
open Go.Shelf
def Tryz.sortedG_ren : Go.Shelf.Ren := ⟨fun | 6 => 48 | 8 => 95 | 9 => 96 | 11 => 125 | 13 => 127 | 12 => 126 | 23 => 156 | 24 => 157 | 14 => 148 | 15 => 149 | 16 => 150 | 17 => 151 | 18 => 152 | 19 => 153 | 20 => 146 | 21 => 154 | 22 => 155 | 25 => 173 | 26 => 174 | 27 => 175 | 28 => 176 | 29 => 177 | 30 => 172 | 31 => 190 | n => n, fun | 26 => 9 | 28 => 84 | 24 => 31 | 0 => 0 | 3 => 3 | 37 => 150 | 48 => 191 | 50 => 93 | 4 => 4 | 40 => 184 | 39 => 183 | 45 => 188 | 5 => 5 | 9 => 9 | 51 => 209 | 55 => 213 | 57 => 225 | 58 => 226 | 33 => 53 | n => n, fun | n => n⟩
theorem Tryz.sortedG : Go.Proofs.SlLaysZ.n6 Tryz.prog Tryz.sortedG_ren := {
 mixed := by kernel_rfl
 f6 := ⟨Tryz.f48.name, by decide, Tryz.func48.trans (congrArg some (by kernel_rfl))⟩
 f8 := ⟨Tryz.f95.name, by decide, Tryz.func95.trans (congrArg some (by kernel_rfl))⟩
 f11 := ⟨Tryz.f125.name, by decide, Tryz.func125.trans (congrArg some (by kernel_rfl))⟩
 t0 := Tryz.underlying0
 a0 := Tryz.isAgg0
 z0 := Tryz.sizeOf0
 v0 := Tryz.zeroValue0
 t24 := Tryz.underlying31
 a24 := Tryz.isAgg31
 z24 := Tryz.sizeOf31
 v24 := Tryz.zeroValue31
 t26 := Tryz.underlying9
 a26 := Tryz.isAgg9
 z26 := Tryz.sizeOf9
 v26 := Tryz.zeroValue9
 t28 := Tryz.underlying84
 a28 := Tryz.isAgg84
 z28 := Tryz.sizeOf84
 v28 := Tryz.zeroValue84
 i26 := by kernel_rfl }
def Tryz.keysG_ren : Go.Shelf.Ren := ⟨fun | 10 => 105 | n => n, fun | 33 => 53 | 23 => 33 | 0 => 0 | 4 => 4 | 26 => 9 | 3 => 9 | n => n, fun | n => n⟩
theorem Tryz.keysG : Go.Proofs.SlLaysZ.n10 Tryz.prog Tryz.keysG_ren := {
 mixed := by kernel_rfl
 f10 := ⟨Tryz.f105.name, by decide, Tryz.func105.trans (congrArg some (by kernel_rfl))⟩
 t0 := Tryz.underlying0
 a0 := Tryz.isAgg0
 z0 := Tryz.sizeOf0
 v0 := Tryz.zeroValue0
 t4 := Tryz.underlying4
 a4 := Tryz.isAgg4
 z4 := Tryz.sizeOf4
 v4 := Tryz.zeroValue4
 t23 := Tryz.underlying33
 a23 := Tryz.isAgg33
 z23 := Tryz.sizeOf33
 v23 := Tryz.zeroValue33
 t26 := Tryz.underlying9
 a26 := Tryz.isAgg9
 z26 := Tryz.sizeOf9
 v26 := Tryz.zeroValue9
 t33 := Tryz.underlying53
 a33 := Tryz.isAgg53
 z33 := Tryz.sizeOf53
 v33 := Tryz.zeroValue53 }
end Go.Proofs
end
section
set_option maxRecDepth 100000
set_option linter.unusedSimpArgs false
set_option linter.unusedVariables false
namespace Go.Proofs.YtkobjnpmjngklaaGreatDoor
open Go GoV Go.RowKit
theorem sorts96 (m : Nat) : AnyZ.SortsIn Tryz.prog Tryz.sortedG_ren Fence.wide m :=
 ⟨fun blk off cap ss W hH hblk hsz => callsIn_wide.2 (Tryz.slices_Sort_string blk off cap ss W hH hblk hsz),
  fun p cap W => callsIn_wide.2 (Tryz.slices_Sort_string_none p cap W)⟩
def anyV {H : Type} : Value → Option (DataW H × List MemPlace) := fun _ => some (.lit (.bool true), [])
theorem ents_rows (w : World) (g : Gh) : ∀ (l : List Tri) (ents : List MapEntry), RelL w g ((entT l).map (·.1)) (ents.map (·.key)) → ents.map (·.key) = l.map fun t => Go.Proofs.encStr t.1
 | [], ents, h => by
   have := h.inv_nil
   simpa using this
 | x :: l, ents, h => by
   simp only [entT, List.map_cons] at h
   obtain ⟨y, ys, e, h1, h2⟩ := h.inv
   cases ents with
   | nil => cases e
   | cons z ents =>
     simp only [List.map_cons, List.cons.injEq] at e
     simp only [Rel] at h1
     have := ents_rows w g l ents (by rw [e.2]; exact h2)
     simp only [List.map_cons, this, e.1, h1, Go.Proofs.encStr]
theorem leB_srt : ∀ (l : List Tx), So l → l.mergeSort leB = l := fun l h => by
 refine List.mergeSort_of_pairwise ?_
 induction l with
 | nil => exact .nil
 | cons a r ih =>
   refine .cons (fun b hb => ?_) (ih h.2)
   have := h.1 b hb
   rw [lt, Go.Proofs.bytesLess_eq] at this
   simp only [decide_eq_true_eq] at this
   simp only [leB, decide_eq_true_eq]
   exact List.le_of_lt this
theorem owns_keys {H : Type} {w : World} {n clock : Nat} {l : List Tri} {m : KV} (hm : MpOk l clock m) {ents : List MapEntry} (hw : w.heap[n]? = some (.map ents.toArray clock)) (hk : ents.map (·.key) = l.map fun t => Go.Proofs.encStr t.1)
 (hb : l.map (·.2.2) = ents.map (·.born)) (hr : ∀ t ∈ l, t.1.length ≤ 1000000) (hl : l.length ≤ 1000000) :
 ∃ D0 : DataW H, w.ownsMap Tryz.prog 9 anyV n l.length D0 ∧ (strKeys D0).Perm (l.map (·.1)) ∧ Maps.size D0 ≤ l.length := by
 have hlen : ents.length = l.length := by have := congrArg List.length hk; simpa using this
 have hkey : ∀ x : Tx, x.length ≤ 1000000 → keyOf Tryz.prog 9 (Go.Proofs.encStr x) = some (.string x) := fun x h1 => by
  simp only [keyOf, Tryz.underlying9, mapKey, Go.Proofs.encStr]
  rw [if_pos (by simp [maxLen, ByteArray.size]; omega)]
 have hin : ∀ x ∈ ents, ∃ t ∈ l, x.key = Go.Proofs.encStr t.1 := fun x hx => by
  have : x.key ∈ ents.map (·.key) := List.mem_map_of_mem hx
  rw [hk] at this
  obtain ⟨d, hd, e⟩ := List.mem_map.1 this
  exact ⟨d, hd, e.symm⟩
 have hrd : ∀ x ∈ ents, ∀ t ∈ l, x.key = Go.Proofs.encStr t.1 → WideElems.rd Tryz.prog 9 (anyV (H := H)) x = some (.string t.1, .lit (.bool true)) := fun x hx d hd e => by
  simp [WideElems.rd, e, hkey d.1 (hr d hd), anyV]
 have hinj : ∀ a b : Tx, Go.Proofs.encStr a = Go.Proofs.encStr b → a = b := fun a b h => by simpa [Go.Proofs.encStr] using h
 have hF : WideElems.Fit Tryz.prog 9 (anyV (H := H)) ents.toArray clock := by
  refine ⟨by simp [maxLen]; omega, ⟨fun x hx => ?_, ?_, ?_⟩, fun x hx => ?_⟩
  ·have h1 : x.born ∈ ents.map (·.born) := List.mem_map_of_mem (by simpa using hx)
   rw [← hb] at h1
   obtain ⟨t, ht, e⟩ := List.mem_map.1 h1
   rw [← e]; exact hm.lt t ht
  ·simp only [List.toList_toArray]
   rw [← hb]; exact hm.bn
  ·simp only [List.toList_toArray]
   rw [hk]
   have h1 := hm.nd
   rw [List.nodup_iff_pairwise_ne, List.pairwise_map] at h1 ⊢
   exact h1.imp fun h e => h (hinj _ _ e)
  ·obtain ⟨d, hd, e⟩ := hin x (by simpa using hx)
   exact ⟨_, hrd x (by simpa using hx) d hd e⟩
 have hown : w.ownsMap Tryz.prog 9 (anyV (H := H)) n l.length (.map ((ents.map (WideElems.rg Tryz.prog 9 anyV)).foldr DataW.insert [])) :=
  ⟨ents.toArray, clock, hw, hF, by simp [hlen], by simp⟩
 refine ⟨_, hown, ?_, hown.size_le⟩
 show ((((ents.map (WideElems.rg Tryz.prog 9 anyV)).foldr DataW.insert []).map fun p => strOf p.1)).Perm (l.map (·.1))
 refine ((WideShapes.sorted_perm _).map _).trans ?_
 rw [List.map_map]
 have : ents.map ((fun p => strOf p.1) ∘ WideElems.rg Tryz.prog 9 (anyV (H := H))) = l.map (·.1) := by
  have e1 : ents.map ((fun p => strOf p.1) ∘ WideElems.rg Tryz.prog 9 (anyV (H := H))) = (ents.map (·.key)).map fun v => match v with | .string d => d.data.toList | _ => [] := by
   rw [List.map_map]
   refine List.map_congr_left fun x hx => ?_
   obtain ⟨d, hd, e⟩ := hin x hx
   simp [WideElems.rg, hrd x hx d hd e, e, strOf, Go.Proofs.encStr]
  rw [e1, hk, List.map_map]
  refine List.map_congr_left fun t ht => ?_
  simp [Go.Proofs.encStr]
 rw [this]
abbrev keysH (l : List Tri) (c : Nat) : Hp := ⟨[.map (entT l) c, .cells [.mp 0]], []⟩
theorem keys_e (l : List Tri) (c : Nat) : Eff M 55 [.mp 0] ⟨[.map (entT l) c], []⟩ fun d hp => d = .fn (.func 105) [] [.ptr 1 0] ∧ hp = keysH l c := by
 refine k55.oe 1 0 rfl rfl rfl ?_
 rw [ie55]
 unfold c55
 repeat' (first | with_reducible (apply swq; constructor) | simp only [go_sem, seval, pe55, q55] | with_reducible intro _)
 exact ⟨_, zAa, rfl, rfl⟩
theorem keys_z : Eff M 55 [.lit (.map none)] ⟨[], []⟩ fun d hp => d = .fn (.func 105) [] [.ptr 0 0] ∧ hp = ⟨[.cells [.lit (.map none)]], []⟩ := by
 refine k55.oe 0 0 rfl rfl rfl ?_
 rw [ie55]
 unfold c55
 repeat' (first | with_reducible (apply swq; constructor) | simp only [go_sem, seval, pe55, q55] | with_reducible intro _)
 exact ⟨_, zAa, rfl, rfl⟩
theorem sortedKeys_e {l : List Tri} {c : Nat} {m : KV} (hm : MpOk l c m) (hr : ∀ t ∈ l, t.1.length ≤ 1000000) (hl : l.length ≤ 1000000) :
 Eff M 48 [.fn (.func 105) [] [.ptr 1 0]] (keysH l c) fun d hp => d = .slice (strs (ks m)) .no ∧ hp = keysH l c := by
 refine ⟨⟨Tryz.f48, Tryz.func48, rfl, rfl⟩, fun w g xs hA hH hargs => ?_⟩
 obtain ⟨v, vs, rfl, g1, g2⟩ := hargs.inv
 have := g2.inv_nil
 subst this
 simp only [Rel] at g1
 obtain ⟨a1, cs, rfl, ha, hcs⟩ := g1
 have := ha.inv_nil
 subst this
 obtain ⟨p, ps, rfl, hp, hps⟩ := hcs.inv
 have := hps.inv_nil
 subst this
 simp only [Rel] at hp
 obtain ⟨nb, hnb, rfl⟩ := hp
 obtain ⟨n0, hn0⟩ : ∃ n0, g.r[0]? = some n0 := by
  have hlt : 0 < g.r.length := by rw [← hH.len]; simp
  exact ⟨_, List.getElem?_eq_getElem hlt⟩
 obtain ⟨ents, k1, k2, k3, k4⟩ := hH.blk 0 _ n0 rfl hn0
 obtain ⟨ys, e, q1, q2, q3⟩ := hH.blk 1 _ nb rfl hnb
 obtain ⟨y, ys', rfl, q4, q5⟩ := q2.inv
 have := q5.inv_nil
 subst this
 simp only [Rel] at q4
 obtain ⟨n0', hn0', rfl⟩ := q4
 rw [hn0] at hn0'
 cases hn0'
 have hkeys := ents_rows w g l ents k2
 rw [entT_born] at k4
 obtain ⟨D0, hown, hperm, hsz⟩ := owns_keys (H := Unit) hm k1 hkeys k4 hr hl
 have hblt : nb < w.heap.size := hH.lt nb (List.mem_of_getElem? hnb)
 have hcell : w.cell? ⟨nb, 0, none⟩ = some (.map (some n0)) := by simp [World.cell?, q1]
 have hmax : Maps.size D0 ≤ maxLen := by simp only [maxLen]; omega
 have hbytes : Maps.size D0 * 16 ≤ 140737488355328 := by omega
 have hseq : SeqGives Fence.wide 2 Tryz.prog 105 #[.pointer (some ⟨nb, 0, none⟩)] encStr (fun ss => ss.Perm (strKeys D0)) (Maps.size D0) w :=
  AnyZ.keys_gives (ρ := Tryz.keysG_ren) Tryz.keysG Fence.wide 2 trivial rfl (by omega) nb n0 l.length D0 w hblt hcell hown
 have cS := AnyZ.sorted_in Tryz.sortedG Fence.wide 5 trivial trivial trivial trivial rfl (by omega) (sorts96 _) (enters_of Tryz.func96 (by kernel_rfl) rfl) 105 #[.pointer (some ⟨nb, 0, none⟩)] trivial (enters_of Tryz.func105 (by kernel_rfl) rfl) _ _ hmax hbytes w hseq
 change CallsIn _ _ Tryz.prog 48 _ _ _ at cS
 refine (callsIn_wide.1 cS).mono fun e' w' hh => ?_
 obtain ⟨v, ss, rfl, hS, hrow, _, hb⟩ := hh
 have hpk : (l.map (·.1)).Perm (ks m) := by
  rw [List.perm_ext_iff_of_nodup hm.nd (zCy hm.so)]
  intro a
  constructor
  ·intro h
   obtain ⟨t, ht, rfl⟩ := List.mem_map.1 h
   exact List.mem_map.2 ⟨_, (hm.mem _).1 (List.mem_map_of_mem (f := prT) ht), rfl⟩
  ·intro h
   obtain ⟨q, hq, rfl⟩ := List.mem_map.1 h
   obtain ⟨t, ht, rfl⟩ := List.mem_map.1 ((hm.mem q).2 hq)
   exact List.mem_map_of_mem ht
 have hsp : ss.Perm (ks m) := (hS.trans hperm).trans hpk
 have hsorted : ss.mergeSort (fun x y => decide (x ≤ y)) = ks m := (mergeSort_of_perm hsp).trans (leB_srt _ hm.so)
 rw [hsorted] at hrow
 rw [hsp.length_eq] at hrow
 exact post_row hH hb encStr D.str (fun w g x => by simp [Rel, Go.Proofs.encStr]) (fun x => by simp [oneC, Value.oneCell', Go.Proofs.encStr]) (fun x => rfl) hrow
theorem sortedKeys_z : Eff M 48 [.fn (.func 105) [] [.ptr 0 0]] ⟨[.cells [.lit (.map none)]], []⟩ fun d hp => d = .slice (strs []) .no ∧ hp = ⟨[.cells [.lit (.map none)]], []⟩ := by
 refine ⟨⟨Tryz.f48, Tryz.func48, rfl, rfl⟩, fun w g xs hA hH hargs => ?_⟩
 obtain ⟨v, vs, rfl, g1, g2⟩ := hargs.inv
 have := g2.inv_nil
 subst this
 simp only [Rel] at g1
 obtain ⟨a1, cs, rfl, ha, hcs⟩ := g1
 have := ha.inv_nil
 subst this
 obtain ⟨p, ps, rfl, hp, hps⟩ := hcs.inv
 have := hps.inv_nil
 subst this
 simp only [Rel] at hp
 obtain ⟨nb, hnb, rfl⟩ := hp
 obtain ⟨ys, e, q1, q2, q3⟩ := hH.blk 0 _ nb rfl hnb
 obtain ⟨y, ys', rfl, q4, q5⟩ := q2.inv
 have := q5.inv_nil
 subst this
 simp only [Rel] at q4
 obtain ⟨rfl, _⟩ := q4
 have hblt : nb < w.heap.size := hH.lt nb (List.mem_of_getElem? hnb)
 have hcell : w.cell? ⟨nb, 0, none⟩ = some (.map none) := by simp [World.cell?, q1]
 have hseq := AnyZ.keys_gives_nil (ρ := Tryz.keysG_ren) Tryz.keysG Fence.wide 2 trivial rfl nb w hblt hcell
 have cS := AnyZ.sorted_in Tryz.sortedG Fence.wide 5 trivial trivial trivial trivial rfl (by omega) (sorts96 _) (enters_of Tryz.func96 (by kernel_rfl) rfl) 105 #[.pointer (some ⟨nb, 0, none⟩)] trivial (enters_of Tryz.func105 (by kernel_rfl) rfl) _ _ (by simp) (by simp) w hseq
 change CallsIn _ _ Tryz.prog 48 _ _ _ at cS
 refine (callsIn_wide.1 cS).mono fun e' w' hh => ?_
 obtain ⟨v, ss, rfl, hS, hrow, _, hb⟩ := hh
 have hs0 : ss = [] := by simpa using hS
 subst hs0
 rw [List.mergeSort_nil] at hrow
 exact post_row (l := ([] : List Tx)) hH hb encStr D.str (fun w g x => by simp [Rel, Go.Proofs.encStr]) (fun x => by simp [oneC, Value.oneCell', Go.Proofs.encStr]) (fun x => rfl) hrow
end Go.Proofs.YtkobjnpmjngklaaGreatDoor
end
section
set_option maxRecDepth 100000
set_option linter.unusedSimpArgs false
set_option linter.unusedVariables false
namespace Go.Proofs.YtkobjnpmjngklaaGreatDoor
open Go GoV
def listT (m : KV) (k : Nat) : List Tx := itK m.length :: zAq (m.take k)
theorem listT_len (m : KV) {k : Nat} (h : k ≤ m.length) : (listT m k).length = 2 * k + 1 := by simp [listT, zBb, Nat.min_eq_left h]
theorem listT_step (m : KV) {k : Nat} (h : k < m.length) : strs (listT m (k + 1)) = strs (listT m k) ++ [.str m[k].1, .str m[k].2] := by
 rw [listT, List.take_succ_eq_append_getElem h, flatKV_app]
 simp [listT, strs, zAq, -List.take_append_getElem]
theorem listK_T (m : KV) (drop : List Tx) : strs (listT m m.length) ++ [.str (itK drop.length)] ++ strs drop = strs (listK m drop) := by
 rw [listT, List.take_length, listK]
 simp [strs]
set_option maxHeartbeats 4000000 in
theorem text_e {l : List Tri} {c : Nat} {m : KV} (hm : MpOk l c m) (drop : List Tx) (hr : ∀ t ∈ l, t.1.length ≤ 1000000) (hl : l.length ≤ 1000000) (hd : drop.length ≤ 1000000) (hJ : (textK m drop).length ≤ 10000000000000) :
 Eff M 50 [.mp 0, .slice (strs drop) .no] ⟨[.map (entT l) c], []⟩ fun d hp => d = .str (textK m drop) ∧ hp = ⟨[.map (entT l) c], []⟩ := by
 refine zAu 1 0 (Nat.le_refl 1) (Nat.le_refl 0) (k50.oe 1 0 rfl rfl rfl ?_)
 rw [ie50]
 unfold c50
 have hml := hm.len
 have hel := entT_len l
 have c1 := keys_e l c
 have c2 := sortedKeys_e hm hr hl
 have hin : (joinK (listK m drop)).length ≤ (textK m drop).length := by rw [zD2, zB5]; simp; omega
 have c3 := zGj (listK m drop) (by omega)
 have c4 := zGj [joinK (listK m drop)] (by rw [← zD2]; omega)
 rw [← zD2] at c4
 have k1 := itK_p m.length (by omega)
 have k2 := itK_p drop.length (by omega)
 have hE := fun β τ => zAl β τ l
 have hok := zDq l
 have hget : ∀ (j : Nat) (h : j < m.length), (strs (ks m)).getD j .u0 = .str m[j].1 := fun j h => by rw [zBt (by simpa using h)]; simp
 have hfind : ∀ (j : Nat) (h : j < m.length), ∃ i, findM (.str m[j].1) (entT l) 0 = some (i, .str m[j].2) := fun j h => hm.some ((get_mem hm.so).2 (List.getElem_mem h))
 have hkl : (strs (ks m)).length = m.length := by rw [zAk]; simp
 have hstep := fun k => listT_step m (k := k)
 have hT0 : strs (listT m 0) = [.str (itK m.length)] := by simp [listT, strs, zAq]
 have hTl := fun k (h : k ≤ m.length) => (zAk (listT m k)).trans (listT_len m h)
 have hTe := fun k => zBk (listT m k)
 have hTK := listK_T m drop
 have hds := zAk drop
 have hdc := zAv drop
 have hde := zA3 drop
 have hdk := zBk drop
 have hs1 : strs [joinK (listK m drop)] = [.str (joinK (listK m drop))] := rfl
 rw [hs1] at c4
 rw [hml] at hel
 obtain ⟨T, hT⟩ : ∃ T : Nat → List D, ∀ k, T k = strs (listT m k) := ⟨_, fun _ => rfl⟩
 simp only [← hT] at hstep hT0 hTl hTe hTK
 have hTc : ∀ k, D.cL (T k) = true := fun k => by rw [hT]; exact zAv _
 have hTr : ∀ k, D.erL (T k) = T k := fun k => by rw [hT]; exact zA3 _
 clear hT
 have hRc := zAv (listK m drop)
 have hRe := zA3 (listK m drop)
 simp only [keysH] at c1 c2
 generalize textK m drop = tt at *
 generalize joinK (listK m drop) = jj at *
 generalize strs (listK m drop) = R at *
 generalize entT l = E at *
 generalize strs (ks m) = K at *
 generalize strs drop = DD at *
 have wQ := @hE; repeat' (first | with_reducible (apply swq; constructor) | simp only [go_sem, seval, pe50, q50, hel] | ((with_reducible refine zAc (k1) ?he ?hc ?_); (case he | hc => exact sc wQ)) | ((with_reducible refine o_eff [0] [] (c1) ?hs ?he ?hh ?_); (case hs => exact so); (case he | hh => exact sh wQ); rintro _ _ ⟨rfl, rfl⟩) | ((with_reducible refine o_eff [0, 1] [] (c2) ?hs ?he ?hh ?_); (case hs => exact so); (case he | hh => exact sh wQ); rintro _ _ ⟨rfl, rfl⟩) | ((with_reducible apply s_bsl); (case he | hl | hc => exact sd wQ)) | ((with_reducible apply zDb); (case h1 => rfl)) | with_reducible intro _)
 all_goals try omega
 refine zE8 (C := E50 1 0) [0, 1, 3, 5, 6, 7] 1 1 (Nat.le_refl 1) (Nat.zero_le 1) (fun k : Nat => ⟨[.mp 0, .slice DD .no, .u0, .slice (T k) (if k = 0 then .full else .tok 0), .u0, .slice K .no, .int .i64 m.length, .int .i64 k, .u0], [], ⟨[.map E c], if k = 0 then [] else [.per 1 (2 * k + 1)]⟩⟩)
  (fun k => k ≤ m.length) (fun k => m.length - k) 0 (Nat.zero_le _) ?_ ?_
 ·simp [keepE, St.keepG, St.keep, St.gc, RcS, RcB, Hp.cut, Hp.back, putAt, bakF, Blk.rnL, rC, rM, Tv.rnL, Tv.rn, D.rnL, D.rn, cutF, Own.rn, hE, hT0, hkl]
 ·intro k hk
  by_cases hlt : k < m.length
  ·have g1 := hget k hlt
   obtain ⟨i, g2⟩ := hfind k hlt
   have g3 := hstep k hlt
   have g4 := hTl k hk
   have g5 := hTe k
   have g6 := hTc k
   generalize m[k].1 = kx at *
   generalize m[k].2 = vx at *
   by_cases h0 : k = 0
   ·subst h0
    rw [hT0] at g3
    simp only [if_true, hT0]
    have wQ := @hE; repeat' (first | with_reducible (apply swq; constructor) | simp only [go_sem, seval, pe50, q50, g1] | simp (disch := omega) only [wA] | ((with_reducible apply s_appFT); (case he => rfl); (case hK | hc | hr | hx | hn => exact sd wQ)) | ((with_reducible apply s_bsl); (case he | hl | hc => exact sd wQ)) | ((with_reducible apply s_lkpS); (case h1 | hk => rfl); (case ha | hf => first | rfl | assumption)) | with_reducible (apply cdA; constructor) | ((with_reducible refine And.intro ?hw ?_); (case hw => exact sw wQ)) | with_reducible intro _)
    all_goals try omega
    have g7 : T 1 = [.str (itK m.length), .str kx, .str vx] := g3
    exact ⟨1, by omega, by omega, by simp [keepE, St.keepG, St.keep, St.gc, RcS, RcB, Hp.cut, Hp.back, putAt, bakF, Blk.rnL, rC, rM, Tv.rnL, Tv.rn, D.rnL, D.rn, cutF, Own.rn, hE, g7]⟩
   ·simp only [h0, if_false]
    have wQ := And.intro @hE @g4; repeat' (first | with_reducible (apply swq; constructor) | simp only [go_sem, seval, pe50, q50, g1, g4] | simp (disch := omega) only [wA] | ((with_reducible apply s_appT); (case he => rfl); (case hK | hc | hr | hV => exact sd wQ)) | ((with_reducible apply s_bsl); (case he | hl | hc => exact sd wQ)) | ((with_reducible apply s_lkpS); (case h1 | hk => rfl); (case ha | hf => first | rfl | assumption)) | with_reducible (apply cdA; constructor) | ((with_reducible refine And.intro ?hw ?_); (case hw => exact sw wQ)) | with_reducible intro _)
    all_goals try omega
    have g8 : 2 * k + 1 + 2 = 2 * (k + 1) + 1 := by omega
    exact ⟨k + 1, by omega, by omega, by simp [keepE, St.keepG, St.keep, St.gc, RcS, RcB, Hp.cut, Hp.back, putAt, bakF, Blk.rnL, rC, rM, Tv.rnL, Tv.rn, D.rnL, D.rn, cutF, Own.rn, hE, g3, g8]⟩
  ·have e : k = m.length := by omega
   subst e
   have g4 := hTl m.length (Nat.le_refl _)
   have g5 := hTe m.length
   have g6 := hTc m.length
   have g7 := hTr m.length
   by_cases h0 : m.length = 0
   ·simp only [h0, if_true] at *
    generalize T 0 = TT at *
    have wQ := And.intro @hE (And.intro @g4 (And.intro @g5 (And.intro @g6 (And.intro @hdc (And.intro @hdk (And.intro @hds (And.intro @hRc @hRe))))))); repeat' (first | with_reducible (apply swq; constructor) | simp only [go_sem, seval, pe50, q50, hkl, g4, hds, hde, hTK] | simp (disch := omega) only [wA] | ((with_reducible refine zAc (k2) ?he ?hc ?_); (case he | hc => exact sc wQ)) | ((with_reducible refine zAc (c3) ?he ?hc ?_); (case he | hc => exact sc wQ)) | ((with_reducible refine zAc (c4) ?he ?hc ?_); (case he | hc => exact sc wQ)) | ((with_reducible apply s_appT); (case he => rfl); (case hK | hc | hr | hV => exact sd wQ)) | ((with_reducible apply s_appFT); (case he => rfl); (case hK | hc | hr | hx | hn => exact sd wQ)) | ((with_reducible apply s_bsl); (case he | hl | hc => exact sd wQ)) | with_reducible (apply cdA; constructor) | ((with_reducible refine And.intro ?hw ?_); (case hw => exact sw wQ)) | with_reducible intro _)
    all_goals try omega
    (refine ⟨_, zAa, ?_⟩; simp [RcS, RcB, Hp.cut, Hp.back, putAt, bakF, Blk.rnL, rC, rM, Tv.rnL, Tv.rn, D.rnL, D.rn, cutF, Own.rn, hE])
   ·simp only [h0, if_false]
    generalize T m.length = TT at *
    have wQ := And.intro @hE (And.intro @g4 (And.intro @g5 (And.intro @g6 (And.intro @hdc (And.intro @hdk (And.intro @hds (And.intro @hRc @hRe))))))); repeat' (first | with_reducible (apply swq; constructor) | simp only [go_sem, seval, pe50, q50, hkl, g4, hds, hde, hTK] | simp (disch := omega) only [wA] | ((with_reducible refine zAc (k2) ?he ?hc ?_); (case he | hc => exact sc wQ)) | ((with_reducible refine zAc (c3) ?he ?hc ?_); (case he | hc => exact sc wQ)) | ((with_reducible refine zAc (c4) ?he ?hc ?_); (case he | hc => exact sc wQ)) | ((with_reducible apply s_appT); (case he => rfl); (case hK | hc | hr | hV => exact sd wQ)) | ((with_reducible apply s_bsl); (case he | hl | hc => exact sd wQ)) | with_reducible (apply cdA; constructor) | ((with_reducible refine And.intro ?hw ?_); (case hw => exact sw wQ)) | with_reducible intro _)
    all_goals try omega
    (refine ⟨_, zAa, ?_⟩; simp [RcS, RcB, Hp.cut, Hp.back, putAt, bakF, Blk.rnL, rC, rM, Tv.rnL, Tv.rn, D.rnL, D.rn, cutF, Own.rn, hE])
set_option maxHeartbeats 4000000 in
theorem text_z (drop : List Tx) (hd : drop.length ≤ 1000000) (hJ : (textK [] drop).length ≤ 10000000000000) :
 Eff M 50 [.lit (.map none), .slice (strs drop) .no] ⟨[], []⟩ fun d hp => d = .str (textK [] drop) ∧ hp = ⟨[], []⟩ := by
 refine zAu 0 0 (Nat.le_refl 0) (Nat.le_refl 0) (k50.oe 0 0 rfl rfl rfl ?_)
 rw [ie50]
 unfold c50
 have c1 := keys_z
 have c2 := sortedKeys_z
 have hin : (joinK (listK [] drop)).length ≤ (textK [] drop).length := by rw [zD2, zB5]; simp; omega
 have c3 := zGj (listK [] drop) (by omega)
 have c4 := zGj [joinK (listK [] drop)] (by rw [← zD2]; omega)
 rw [← zD2] at c4
 have k1 : Pur M 98 [.int .i64 0] (.str (itK 0)) := itK_p 0 (by omega)
 have k2 := itK_p drop.length (by omega)
 have hTK : [.str (itK 0)] ++ [.str (itK drop.length)] ++ strs drop = strs (listK [] drop) := listK_T [] drop
 have hds := zAk drop
 have hdc := zAv drop
 have hde := zA3 drop
 have hdk := zBk drop
 have hs1 : strs [joinK (listK [] drop)] = [.str (joinK (listK [] drop))] := rfl
 rw [hs1] at c4
 have hRc := zAv (listK [] drop)
 have hRe := zA3 (listK [] drop)
 have hs0 : strs [] = [] := rfl
 rw [hs0] at c2
 generalize textK [] drop = tt at *
 generalize joinK (listK [] drop) = jj at *
 generalize strs (listK [] drop) = R at *
 generalize strs drop = DD at *
 have wQ := tw; repeat' (first | with_reducible (apply swq; constructor) | simp only [go_sem, seval, pe50, q50] | ((with_reducible refine zAc (k1) ?he ?hc ?_); (case he | hc => exact sc wQ)) | ((with_reducible refine o_eff [] [] (c1) ?hs ?he ?hh ?_); (case hs => exact so); (case he | hh => exact sh wQ); rintro _ _ ⟨rfl, rfl⟩) | ((with_reducible refine o_eff [0] [] (c2) ?hs ?he ?hh ?_); (case hs => exact so); (case he | hh => exact sh wQ); rintro _ _ ⟨rfl, rfl⟩) | ((with_reducible apply s_bsl); (case he | hl | hc => exact sd wQ)) | with_reducible intro _)
 all_goals try omega
 refine zE8 (C := E50 0 0) [1, 3, 5, 6, 7] 0 0 (Nat.le_refl 0) (Nat.le_refl 0) (fun _ : Unit => ⟨[.u0, .slice DD .no, .u0, .slice [.str (itK 0)] .full, .u0, .slice [] .no, .int .i64 0, .int .i64 0, .u0], [], ⟨[], []⟩⟩)
  (fun _ => True) (fun _ => 0) () trivial ?_ ?_
 ·simp [keepE, St.keepG, St.keep, St.gc, RcS, RcB, Hp.cut, Hp.back, putAt, bakF, Blk.rnL, rC, rM, Tv.rnL, Tv.rn, D.rnL, D.rn, cutF, Own.rn]
 ·intro _ _
  generalize itK 0 = i0 at *
  generalize itK drop.length = i1 at *
  have hTK : [D.str i0, D.str i1] ++ DD = R := hTK
  have wQ := And.intro @hdc (And.intro @hdk (And.intro @hds (And.intro @hRc @hRe))); repeat' (first | with_reducible (apply swq; constructor) | simp only [go_sem, seval, pe50, q50, hds, hde, hTK] | ((with_reducible refine zAc (k2) ?he ?hc ?_); (case he | hc => exact sc wQ)) | ((with_reducible refine zAc (c3) ?he ?hc ?_); (case he | hc => exact sc wQ)) | ((with_reducible refine zAc (c4) ?he ?hc ?_); (case he | hc => exact sc wQ)) | ((with_reducible apply s_appT); (case he => rfl); (case hK | hc | hr | hV => exact sd wQ)) | ((with_reducible apply s_appFT); (case he => rfl); (case hK | hc | hr | hx | hn => exact sd wQ)) | ((with_reducible apply s_bsl); (case he | hl | hc => exact sd wQ)) | with_reducible intro _)
  all_goals try omega
  (refine ⟨_, zAa, ?_⟩; simp [RcS, RcB, Hp.cut, Hp.back, putAt, bakF, Blk.rnL, rC, rM, Tv.rnL, Tv.rn, D.rnL, D.rn, cutF, Own.rn])
end Go.Proofs.YtkobjnpmjngklaaGreatDoor
end
section
set_option maxRecDepth 100000
set_option linter.unusedSimpArgs false
set_option linter.unusedVariables false
namespace Go.Proofs.YtkobjnpmjngklaaGreatDoor
open Go GoV
def insV (m : KV) (V : List Tri) : KV := V.foldl (fun m t => insK t.1 t.2.1 m) m
theorem insV_app (m : KV) (V : List Tri) (t : Tri) : insV m (V ++ [t]) = insK t.1 t.2.1 (insV m V) := by simp [insV]
theorem insV_eq (m : KV) (V : List Tri) : insV m V = (V.map prT).foldl (fun m p => insK p.1 p.2 m) m := by simp [insV, List.foldl_map]
theorem insV_perm {m put : KV} {V l2 : List Tri} {c2 : Nat} (hm : So (ks m)) (h2 : MpOk l2 c2 put) (hp : V.Perm l2) : insV m V = zA9 m put [] := by
 have hk : (ks (V.map prT)).Nodup := by
  have : ks (V.map prT) = V.map (·.1) := by simp [ks]
  rw [this]
  exact (hp.map _).nodup_iff.2 h2.nd
 rw [insV_eq]
 refine so_kv (zDk _ _ hm) (apply_so hm) fun p => ?_
 rw [zEw _ _ hk hm, zE5 hm (zCy h2.so)]
 have e1 : ∀ q : Tx × Tx, q ∈ V.map prT ↔ q ∈ put := fun q => by rw [← h2.mem]; exact (hp.map _).mem_iff
 have e2 : ∀ k : Tx, k ∈ ks (V.map prT) ↔ k ∈ ks put := fun k => by
  simp only [ks, List.mem_map]
  constructor
  ·rintro ⟨q, hq, rfl⟩; exact ⟨q, (e1 q).1 (List.mem_map.2 hq), rfl⟩
  ·rintro ⟨q, hq, rfl⟩; exact ⟨q, List.mem_map.1 ((e1 q).2 hq), rfl⟩
 rw [e1, e2]
 simp
set_option maxHeartbeats 1000000 in
theorem copy_e {l l2 : List Tri} {c c2 : Nat} {m put : KV} (hm : MpOk l c m) (h2 : MpOk l2 c2 put) :
 Eff M 104 [.mp 0, .mp 1] ⟨[.map (entT l) c, .map (entT l2) c2], []⟩ fun d hp => d = .tup [] ∧ ∃ l' c', hp = ⟨[.map (entT l') c', .map (entT l2) c2], []⟩ ∧ MpOk l' c' (zA9 m put []) := by
 refine k104.oe 2 0 rfl rfl rfl ?_
 rw [ie104]
 unfold c104
 repeat' (first | with_reducible (apply swq; constructor) | simp only [go_sem, seval, pe104, q104] | ((with_reducible apply s_rngM); (case h1 => rfl)) | with_reducible intro _)
 refine zAs (C := E104 2 0) [0, 4] (fun p : List Tri × List Tri × Nat => ⟨[.mp 0, .u0, .u0, .u0, .ptr 2 0, .u0], [], ⟨[.map (entT p.2.1) p.2.2, .map (entT l2) c2, .miter 1 c2 (p.1.map (·.2.2)) c2], []⟩⟩)
  (fun p => (p.1.map (·.2.2)).Nodup ∧ (∀ t ∈ p.1, t ∈ l2) ∧ MpOk p.2.1 p.2.2 (insV m p.1)) (fun p => l2.length + 1 - p.1.length) ([], l, c) ⟨by simp, by simp, hm⟩ ?_ ?_
 ·simp [keepE, St.keepG, St.keep, St.gc, RcS, RcB, Hp.cut, Hp.back, putAt, bakF, Blk.rnL, rC, rM, Tv.rnL, Tv.rn, D.rnL, D.rn, cutF, Own.rn]
 ·rintro ⟨V, l', c'⟩ ⟨g1, g2, g3⟩
  dsimp only at g1 g2 g3 ⊢
  repeat' (first | with_reducible (apply swq; constructor) | simp only [go_sem, seval, pe104, q104] | with_reducible intro _)
  refine s_nxtM rfl rfl (fun e he => ?_) (Nat.le_refl _) (fun e he hn => ?_) (fun hall => ?_)
  ·obtain ⟨t, ht, rfl⟩ := entT_mem he
   exact h2.lt t ht
  ·obtain ⟨t, ht, rfl⟩ := entT_mem he
   dsimp only at hn ⊢
   have hnd : ((entT l2).map (·.2.2)).Nodup := by rw [entT_born]; exact h2.bn
   have hmem := zGn ht
   have g1' : ((V ++ [t]).map (·.2.2)).Nodup := by
    rw [List.map_append, List.nodup_append]
    exact ⟨g1, by simp, fun a ha b hb e => by simp at hb; subst hb; subst e; exact hn ha⟩
   have g2' : ∀ u ∈ V ++ [t], u ∈ l2 := fun u hu => by
    rcases List.mem_append.1 hu with q | q
    ·exact g2 u q
    ·simp at q; subst q; exact ht
   have hVl' := vis_len h2.bn g1' g2'
   rw [List.length_append, List.length_singleton] at hVl'
   obtain ⟨l3, c3, hput, hok⟩ := g3.put t.1 t.2.1
   rw [← insV_app] at hok
   have hko := zDq l'
   repeat' (first | with_reducible (apply swq; constructor) | simp only [go_sem, seval, pe104, q104] | with_reducible intro _)
   refine s_ent rfl rfl hnd hmem ?_
   repeat' (first | with_reducible (apply swq; constructor) | simp only [go_sem, seval, pe104, q104] | ((with_reducible apply s_mpu); (case h1 | hk => rfl); (case ha | hp => first | rfl | assumption)) | with_reducible intro _)
   exact ⟨(V ++ [t], l3, c3), ⟨g1', g2', hok⟩, by dsimp only; rw [List.length_append, List.length_singleton]; omega, by simp [keepE, St.keep, hput]⟩
  ·have hp := vis_perm h2.bn g1 g2 (fun t ht => hall _ (zGn ht))
   repeat' (first | with_reducible (apply swq; constructor) | simp only [go_sem, seval, pe104, q104] | with_reducible intro _)
   refine ⟨_, zD1 2 0 (Nat.le_refl 2) (Nat.le_refl 0), ?_⟩
   rw [insV_perm hm.so h2 hp] at g3
   exact ⟨l', c', by simp [St.gc, Hp.cut, Blk.rnL, rM, zAl, Tv.rnL], g3⟩
theorem copy_z {l : List Tri} {c : Nat} : Eff M 104 [.mp 0, .lit (.map none)] ⟨[.map (entT l) c], []⟩ fun d hp => d = .tup [] ∧ hp = ⟨[.map (entT l) c], []⟩ := by
 refine zAu 1 0 (Nat.le_refl 1) (Nat.le_refl 0) (k104.oe 1 0 rfl rfl rfl ?_)
 rw [ie104]
 unfold c104
 have hE := fun β τ => zAl β τ l
 generalize entT l = E at *
 repeat' (first | with_reducible (apply swq; constructor) | simp only [go_sem, seval, pe104, q104, o_rngZ] | with_reducible intro _)
 refine zAs (C := E104 1 0) [4] (fun _ : Unit => ⟨[.u0, .u0, .u0, .u0, .ptr 1 0, .u0], [], ⟨[.map E c, nilIt], []⟩⟩)
  (fun _ => True) (fun _ => 0) () trivial ?_ ?_
 ·simp [keepE, St.keepG, St.keep, St.gc, RcS, RcB, Hp.cut, Hp.back, putAt, bakF, Blk.rnL, rC, rM, Tv.rnL, Tv.rn, D.rnL, D.rn, cutF, Own.rn, hE]
 ·intro _ _
  repeat' (first | with_reducible (apply swq; constructor) | simp only [go_sem, seval, pe104, q104] | with_reducible intro _)
  refine s_nxtZ rfl ?_
  repeat' (first | with_reducible (apply swq; constructor) | simp only [go_sem, seval, pe104, q104] | with_reducible intro _)
  (refine ⟨_, zAa, ?_⟩; simp [RcS, RcB, Hp.cut, Hp.back, putAt, bakF, Blk.rnL, rC, rM, Tv.rnL, Tv.rn, D.rnL, D.rn, cutF, Own.rn, hE])
set_option maxHeartbeats 1000000 in
theorem dels_e (PA : D) (B : List Blk) (n : Nat) {l : List Tri} {c : Nat} {m0 put : KV} (hm : MpOk l c (zA9 m0 put [])) (drop : List Tx) (hd : drop.length ≤ 1000000) (Q : Ex → St → Prop)
 (hQ : ∀ l' c' x y z u v, MpOk l' c' (zA9 m0 put drop) → Q .normal ⟨[.mp 0, PA, .slice (strs drop) .no, x, y, z, u, v], [], ⟨.map (entT l') c' :: B, []⟩⟩) :
 SWp (E53 n 0) (.seq (.reg r53_1) (.block 0 (.loop (.seq (.reg r53_2) (.seq (.cond (.v 7) .skip (.exit 0)) (.seq (.block 1 (.seq (.reg r53_3) (.reg r53_4))) (.reg r53_5))))))) Q
  ⟨[.mp 0, PA, .slice (strs drop) .no, .u0, .u0, .u0, .u0, .u0], [], ⟨.map (entT l) c :: B, []⟩⟩ := by
 have hsl := zAk drop
 have hget : ∀ (j : Nat) (h : j < drop.length), (strs drop).getD j .u0 = .str drop[j] := fun j h => zBt h
 generalize strs drop = K at *
 repeat' (first | with_reducible (apply swq; constructor) | simp only [go_sem, seval, pe53, q53] | with_reducible intro _)
 refine zAs (C := E53 n 0) [0, 1, 2, 4, 5, 6] (fun p : Nat × List Tri => ⟨[.mp 0, PA, .slice K .no, .u0, .slice K .no, .int .i64 K.length, .int .i64 p.1, .u0], [], ⟨.map (entT p.2) c :: B, []⟩⟩)
  (fun p => p.1 ≤ drop.length ∧ MpOk p.2 c (zA9 m0 put (drop.take p.1))) (fun p => drop.length - p.1) (0, l) ⟨Nat.zero_le _, hm⟩ ?_ ?_
 ·simp [keepE, St.keepG, St.keep, St.gc, RcS, RcB, Hp.cut, Hp.back, putAt, bakF, Blk.rnL, rC, rM, Tv.rnL, Tv.rn, D.rnL, D.rn, cutF, Own.rn]
 ·rintro ⟨j, l'⟩ ⟨g1, g2⟩
  dsimp only at g1 g2 ⊢
  by_cases hlt : j < drop.length
  ·have g3 := hget j hlt
   obtain ⟨l3, h3, h4⟩ := g2.del drop[j]
   have h5 : delK drop[j] (zA9 m0 put (drop.take j)) = zA9 m0 put (drop.take (j + 1)) := by
    rw [List.take_succ_eq_append_getElem hlt]; simp [zA9, -List.take_append_getElem]
   rw [h5] at h4
   have hko := zDq l'
   generalize drop[j] = k at *
   have wQ := tw; repeat' (first | with_reducible (apply swq; constructor) | simp only [go_sem, seval, pe53, q53, g3] | simp (disch := omega) only [wA] | ((with_reducible apply s_mdl); (case h1 | hk => rfl); (case ha | hp => first | rfl | assumption)) | with_reducible (apply cdA; constructor) | ((with_reducible refine And.intro ?hw ?_); (case hw => exact sw wQ)) | with_reducible intro _)
   all_goals try omega
   exact ⟨(j + 1, l3), ⟨by dsimp only; omega, h4⟩, by dsimp only; omega, by simp [keepE, St.keep, h3]⟩
  ·have e : j = drop.length := by omega
   subst e
   rw [List.take_length] at g2
   have wQ := tw; repeat' (first | with_reducible (apply swq; constructor) | simp only [go_sem, seval, pe53, q53] | simp (disch := omega) only [wA] | with_reducible (apply cdA; constructor) | ((with_reducible refine And.intro ?hw ?_); (case hw => exact sw wQ)) | with_reducible intro _)
   all_goals try omega
   exact hQ _ _ _ _ _ _ _ g2
theorem apply_e {l l2 : List Tri} {c c2 : Nat} {m put : KV} (hm : MpOk l c m) (h2 : MpOk l2 c2 put) (drop : List Tx) (hd : drop.length ≤ 1000000) :
 Eff M 53 [.mp 0, .mp 1, .slice (strs drop) .no] ⟨[.map (entT l) c, .map (entT l2) c2], []⟩ fun d hp => d = .tup [] ∧ ∃ l' c', hp = ⟨[.map (entT l') c', .map (entT l2) c2], []⟩ ∧ MpOk l' c' (zA9 m put drop) := by
 refine k53.oe 2 0 rfl rfl rfl ?_
 rw [ie53]
 unfold c53
 have c1 := copy_e hm h2
 have hE := fun β τ => zAl β τ l
 have hE2 := fun β τ => zAl β τ l2
 have hEE := fun β τ => zAl β τ
 obtain ⟨R, hR⟩ : ∃ R, R = RC.seq (.reg r53_1) (.block 0 (.loop (.seq (.reg r53_2) (.seq (.cond (.v 7) .skip (.exit 0)) (.seq (.block 1 (.seq (.reg r53_3) (.reg r53_4))) (.reg r53_5)))))) := ⟨_, rfl⟩
 rw [← hR]
 have wQ := And.intro @hE @hE2; repeat' (first | with_reducible (apply swq; constructor) | simp only [go_sem, seval, pe53, q53] | ((with_reducible refine o_eff [0, 1] [] (c1) ?hs ?he ?hh ?_); (case hs => exact so); (case he | hh => exact sh wQ); rintro _ _ ⟨rfl, l', c', rfl, hm'⟩) | with_reducible intro _)
 all_goals try omega
 rw [hR]
 simp only [hEE]
 refine dels_e (.mp 1) [.map (entT l2) c2] 2 hm' drop hd _ (fun l3 c3 x y z u v h3 => ⟨trivial, _, zAa, ?_⟩)
 simp only [go_sem, seval]
 exact ⟨l3, c3, rfl, h3⟩
theorem apply_z {l : List Tri} {c : Nat} {m : KV} (hm : MpOk l c m) (drop : List Tx) (hd : drop.length ≤ 1000000) :
 Eff M 53 [.mp 0, .lit (.map none), .slice (strs drop) .no] ⟨[.map (entT l) c], []⟩ fun d hp => d = .tup [] ∧ ∃ l' c', hp = ⟨[.map (entT l') c'], []⟩ ∧ MpOk l' c' (zA9 m [] drop) := by
 refine k53.oe 1 0 rfl rfl rfl ?_
 rw [ie53]
 unfold c53
 have c1 := copy_z (l := l) (c := c)
 have hE := fun β τ => zAl β τ l
 obtain ⟨R, hR⟩ : ∃ R, R = RC.seq (.reg r53_1) (.block 0 (.loop (.seq (.reg r53_2) (.seq (.cond (.v 7) .skip (.exit 0)) (.seq (.block 1 (.seq (.reg r53_3) (.reg r53_4))) (.reg r53_5)))))) := ⟨_, rfl⟩
 rw [← hR]
 have wQ := @hE; repeat' (first | with_reducible (apply swq; constructor) | simp only [go_sem, seval, pe53, q53] | ((with_reducible refine o_eff [0] [] (c1) ?hs ?he ?hh ?_); (case hs => exact so); (case he | hh => exact sh wQ); rintro _ _ ⟨rfl, rfl⟩) | with_reducible intro _)
 all_goals try omega
 rw [hR]
 simp only [hE]
 refine dels_e (.lit (.map none)) [] 1 (m0 := m) (put := []) hm drop hd _ (fun l3 c3 x y z u v h3 => ⟨trivial, _, zAa, ?_⟩)
 simp only [go_sem, seval]
 exact ⟨l3, c3, rfl, h3⟩
end Go.Proofs.YtkobjnpmjngklaaGreatDoor
end
section
set_option maxRecDepth 100000
set_option linter.unusedSimpArgs false
set_option linter.unusedVariables false
namespace Go.Proofs.YtkobjnpmjngklaaGreatDoor
open Go GoV
theorem index123 (l : List (List UInt8)) (s : List UInt8) (hl : l.length < 4611686018427387904) (i : Nat) (hi : i < l.length) (he : l[i] = s) (hm : ∀ j (h : j < i), l[j] ≠ s) :
 Pur M 123 [.slice (strs l) .no, .str s] (.int .i64 i) := by
 refine k123.ok (C := C123) rfl rfl ?_
 rw [i123]
 unfold c123
 have hlen : (strs l).length = l.length := by simp [strs]
 repeat' (first | with_reducible (apply swq; constructor) | simp only [go_sem, seval, P123, q123, hlen] | with_reducible intro _)
 refine zAs [0, 1, 2, 4, 5] (fun j : Nat => ⟨[.slice (strs l) .no, .str s, .int .i64 0, .u0, .int .i64 l.length, .int .i64 j, .u0, .u0], [], ⟨[], []⟩⟩) (fun j => j ≤ i) (fun j => l.length - j) 0 (by omega) ?_ ?_
 ·simp [keepE, St.keep]
 ·intro j hj
  have hjl : j < l.length := by omega
  have hg : (strs l).getD j .u0 = .str l[j] := by simp [strs, List.getD, hjl]
  have hb : (s == l[j]) = decide (j = i) := by
   by_cases e : j = i
   ·subst e; simp [he]
   ·have := hm j (by omega)
    simp [e, Ne.symm this]
  have wQ := And.intro @hlen @hg; repeat' (first | with_reducible (apply swq; constructor) | simp only [go_sem, seval, P123, q123, hlen, hg, hb] | simp (disch := omega) only [wA] | with_reducible (apply cdA; constructor) | ((with_reducible refine And.intro ?hw ?_); (case hw => exact sw wQ)) | with_reducible intro _)
  all_goals try omega
  all_goals first
   | (refine ⟨j + 1, by omega, by omega, ?_⟩; simp [St.keep, keepE])
   | (rename_i h; subst h; simp [D.closed, D.er, D.cL, D.erL])
   | skip
theorem index123n (l : List (List UInt8)) (s : List UInt8) (hl : l.length < 4611686018427387904) (hm : ∀ j (h : j < l.length), l[j] ≠ s) :
 Pur M 123 [.slice (strs l) .no, .str s] (.int .i64 (-1)) := by
 refine k123.ok (C := C123) rfl rfl ?_
 rw [i123]
 unfold c123
 have hlen : (strs l).length = l.length := by simp [strs]
 repeat' (first | with_reducible (apply swq; constructor) | simp only [go_sem, seval, P123, q123, hlen] | with_reducible intro _)
 refine zAs [0, 1, 2, 4, 5] (fun j : Nat => ⟨[.slice (strs l) .no, .str s, .int .i64 0, .u0, .int .i64 l.length, .int .i64 j, .u0, .u0], [], ⟨[], []⟩⟩) (fun j => j ≤ l.length) (fun j => l.length - j) 0 (by omega) ?_ ?_
 ·simp [keepE, St.keep]
 ·intro j hj
  by_cases hjl : j < l.length
  ·have hg : (strs l).getD j .u0 = .str l[j] := by simp [strs, List.getD, hjl]
   have hb : (s == l[j]) = false := by
    have := hm j hjl
    simp [Ne.symm this]
   have wQ := And.intro @hlen @hg; repeat' (first | with_reducible (apply swq; constructor) | simp only [go_sem, seval, P123, q123, hlen, hg, hb] | simp (disch := omega) only [wA] | with_reducible (apply cdA; constructor) | ((with_reducible refine And.intro ?hw ?_); (case hw => exact sw wQ)) | with_reducible intro _)
   all_goals try omega
   all_goals first
    | (refine ⟨j + 1, by omega, by omega, ?_⟩; simp [St.keep, keepE])
    | skip
  ·have wQ := @hlen; repeat' (first | with_reducible (apply swq; constructor) | simp only [go_sem, seval, P123, q123, hlen] | simp (disch := omega) only [wA] | with_reducible (apply cdA; constructor) | ((with_reducible refine And.intro ?hw ?_); (case hw => exact sw wQ)) | with_reducible intro _)
   all_goals try omega
   all_goals simp [D.closed, D.er, D.cL, D.erL]
theorem first_of {α : Type} {p : α → Prop} [DecidablePred p] : ∀ (l : List α), (∃ i, ∃ h : i < l.length, p l[i] ∧ ∀ j (g : j < i), ¬ p l[j]) ∨ ∀ j (h : j < l.length), ¬ p l[j]
 | [] => .inr (by simp)
 | x :: l => by
   by_cases hx : p x
   ·exact .inl ⟨0, by simp, hx, by simp⟩
   ·rcases first_of (p := p) l with ⟨i, h, h1, h2⟩ | h
    ·refine .inl ⟨i + 1, by simpa using h, by simpa using h1, fun j g => ?_⟩
     cases j with
     | zero => simpa using hx
     | succ j => simpa using h2 j (by omega)
    ·refine .inr fun j hj => ?_
     cases j with
     | zero => simpa using hx
     | succ j => simpa using h j (by simpa using hj)
theorem contains_p (l : List (List UInt8)) (s : List UInt8) (hl : l.length < 4611686018427387904) : Pur M 92 [.slice (strs l) .no, .str s] (.bool (l.contains s)) := by
 refine k92.ok (C := C92) rfl rfl ?_
 rw [i92]
 unfold c92
 rcases first_of (p := fun x => x = s) l with ⟨i, h, h1, h2⟩ | h
 ·have c1 := index123 l s hl i h h1 h2
  have hc : l.contains s = true := by simp only [List.contains_iff_mem]; rw [← h1]; exact List.getElem_mem h
  rw [hc]
  have wQ := tw; repeat' (first | with_reducible (apply swq; constructor) | simp only [go_sem, seval, P92, q92] | ((with_reducible refine zAc (c1) ?he ?hc ?_); (case he | hc => exact sc wQ)) | with_reducible intro _)
  all_goals simp [D.closed, D.er, D.cL, D.erL]
 ·have c1 := index123n l s hl h
  have hc : l.contains s = false := by
   cases e : l.contains s with
   | false => rfl
   | true =>
     simp only [List.contains_iff_mem] at e
     obtain ⟨j, hj, rfl⟩ := List.getElem_of_mem e
     exact absurd rfl (h j hj)
  rw [hc]
  have wQ := tw; repeat' (first | with_reducible (apply swq; constructor) | simp only [go_sem, seval, P92, q92] | ((with_reducible refine zAc (c1) ?he ?hc ?_); (case he | hc => exact sc wQ)) | with_reducible intro _)
  all_goals simp [D.closed, D.er, D.cL, D.erL]
theorem isKey_p (k : Tx) : Pur M 91 [.str k] (.bool (keyK k)) := by
 refine k91.ok (C := C91) rfl rfl ?_
 rw [i91]
 unfold c91 keyK
 by_cases h0 : k = []
 ·have hb : (k == []) = true := by simpa using h0
  repeat' (first | with_reducible (apply swq; constructor) | simp only [go_sem, seval, P91, q91, hb, Bool.not_true] | with_reducible intro _)
  all_goals first | omega | simp [D.closed, D.er, h0]
 ·have hb : (k == []) = false := by simpa using h0
  repeat' (first | with_reducible (apply swq; constructor) | simp only [go_sem, seval, P91, q91, hb, Bool.not_false] | with_reducible intro _)
  all_goals first | omega | simp [D.closed, D.er, h0]
  all_goals omega
abbrev keyB : Blk := .cells [.fn (.func 91) [] []]
theorem noKey_e (k : Tx) : Eff M 94 [.str k, .ptr 0 0] ⟨[keyB], []⟩ fun d hp => d = .bool (!keyK k) ∧ hp = ⟨[keyB], []⟩ := by
 refine k94.oe 1 0 rfl rfl rfl ?_
 rw [ie94]
 unfold c94
 have c1 := isKey_p k
 have wQ := tw; repeat' (first | with_reducible (apply swq; constructor) | simp only [go_sem, seval, pe94, q94] | ((with_reducible refine zAc (c1) ?he ?hc ?_); (case he | hc => exact sc wQ)) | with_reducible intro _)
 exact ⟨_, zAa, rfl, rfl⟩
def ixF : List Tx → Nat → Int
 | [], _ => -1
 | k :: l, i => if keyK k then ixF l (i + 1) else i
theorem ixF_drop : ∀ (l : List Tx) (j i : Nat), (∀ k ∈ l.take j, keyK k = true) → j ≤ l.length → ixF l i = ixF (l.drop j) (i + j)
 | l, 0, i, _, _ => rfl
 | [], j + 1, i, _, h => by simp at h
 | k :: l, j + 1, i, h, hj => by
   have hk := h k (by simp)
   rw [ixF, if_pos hk, ixF_drop l j (i + 1) (fun x hx => h x (by simp [hx])) (by simpa using hj), List.drop_succ_cons]
   congr 1; omega
theorem ixF_neg : ∀ (l : List Tx) (i : Nat), (0 ≤ ixF l i) ↔ l.any (fun k => !keyK k) = true
 | [], i => by simp [ixF]
 | k :: l, i => by
   rw [ixF]
   cases hk : keyK k with
   | true => simp only [if_true, List.any_cons, hk, Bool.not_true, Bool.false_or]; exact ixF_neg l (i + 1)
   | false => simp [hk]
theorem indexF_e (l : List Tx) (hl : l.length ≤ 1000000) : Eff M 124 [.slice (strs l) .no, .fn (.func 94) [] [.ptr 0 0]] ⟨[keyB], []⟩ fun d hp => d = .int .i64 (ixF l 0) ∧ hp = ⟨[keyB], []⟩ := by
 refine k124.oe 1 0 rfl rfl rfl ?_
 rw [ie124]
 unfold c124
 have hsl := zAk l
 have hget : ∀ (j : Nat) (h : j < l.length), (strs l).getD j .u0 = .str l[j] := fun j h => zBt h
 generalize strs l = K at *
 repeat' (first | with_reducible (apply swq; constructor) | simp only [go_sem, seval, pe124, q124] | with_reducible intro _)
 refine zAs (C := E124 1 0) [0, 1, 4, 5] (fun j : Nat => ⟨[.slice K .no, .fn (.func 94) [] [.ptr 0 0], .u0, .u0, .int .i64 K.length, .int .i64 j, .u0, .u0], [], ⟨[keyB], []⟩⟩)
  (fun j => j ≤ l.length ∧ ∀ k ∈ l.take j, keyK k = true) (fun j => l.length - j) 0 ⟨Nat.zero_le _, by simp⟩ ?_ ?_
 ·simp [keepE, St.keepG, St.keep, St.gc, RcS, RcB, Hp.cut, Hp.back, putAt, bakF, Blk.rnL, rC, rM, Tv.rnL, Tv.rn, D.rnL, D.rn, cutF, Own.rn]
 ·rintro j ⟨g1, g2⟩
  have hx := ixF_drop l j 0 g2 g1
  rw [Nat.zero_add] at hx
  by_cases hlt : j < l.length
  ·have g3 := hget j hlt
   have c1 := noKey_e l[j]
   rw [List.drop_eq_getElem_cons hlt, ixF] at hx
   have htk : ∀ k ∈ l.take (j + 1), k ∈ l.take j ∨ k = l[j] := fun k hk => by
    rw [List.take_succ_eq_append_getElem hlt] at hk; simpa [-List.take_append_getElem] using hk
   generalize l[j] = k at *
   cases hk : keyK k with
   | true =>
     rw [hk, Bool.not_true] at c1
     have wQ := tw; repeat' (first | with_reducible (apply swq; constructor) | simp only [go_sem, seval, pe124, q124, g3] | simp (disch := omega) only [wA] | ((with_reducible refine o_eff [0] [] (c1) ?hs ?he ?hh ?_); (case hs => exact so); (case he | hh => exact sh wQ); rintro _ _ ⟨rfl, rfl⟩) | with_reducible (apply cdA; constructor) | ((with_reducible refine And.intro ?hw ?_); (case hw => exact sw wQ)) | with_reducible intro _)
     all_goals try omega
     refine ⟨j + 1, ⟨by omega, fun x hx => ?_⟩, by omega, by simp [keepE, St.keepG, St.keep, St.gc, RcS, RcB, Hp.cut, Hp.back, putAt, bakF, Blk.rnL, rC, rM, Tv.rnL, Tv.rn, D.rnL, D.rn, cutF, Own.rn]⟩
     rcases htk x hx with q | q
     ·exact g2 x q
     ·subst q; exact hk
   | false =>
     rw [hk, Bool.not_false] at c1
     rw [hk] at hx
     have wQ := tw; repeat' (first | with_reducible (apply swq; constructor) | simp only [go_sem, seval, pe124, q124, g3] | ((with_reducible refine o_eff [0] [] (c1) ?hs ?he ?hh ?_); (case hs => exact so); (case he | hh => exact sh wQ); rintro _ _ ⟨rfl, rfl⟩) | with_reducible (apply cdA; constructor) | ((with_reducible refine And.intro ?hw ?_); (case hw => exact sw wQ)) | with_reducible intro _)
     all_goals try omega
     refine ⟨_, zAa, ?_⟩
     rw [hx]
     simp
  ·have e : j = l.length := by omega
   subst e
   rw [List.drop_length, ixF] at hx
   have wQ := tw; repeat' (first | with_reducible (apply swq; constructor) | simp only [go_sem, seval, pe124, q124] | simp (disch := omega) only [wA] | with_reducible (apply cdA; constructor) | ((with_reducible refine And.intro ?hw ?_); (case hw => exact sw wQ)) | with_reducible intro _)
   all_goals try omega
   refine ⟨_, zAa, ?_⟩
   rw [hx]
   simp
theorem containsF_e (l : List Tx) (hl : l.length ≤ 1000000) : Eff M 93 [.slice (strs l) .no, .fn (.func 94) [] [.ptr 0 0]] ⟨[keyB], []⟩ fun d hp => d = .bool (l.any fun k => !keyK k) ∧ hp = ⟨[keyB], []⟩ := by
 refine k93.oe 1 0 rfl rfl rfl ?_
 rw [ie93]
 unfold c93
 have c1 := indexF_e l hl
 have h1 := ixF_neg l 0
 have h2 : decide (0 ≤ ixF l 0) = l.any fun k => !keyK k := by
  rw [Bool.eq_iff_iff]; simpa using h1
 generalize (l.any fun k => !keyK k) = b at *
 generalize ixF l 0 = z at *
 have wQ := tw; repeat' (first | with_reducible (apply swq; constructor) | simp only [go_sem, seval, pe93, q93, ge_iff_le, h2] | ((with_reducible refine o_eff [0] [] (c1) ?hs ?he ?hh ?_); (case hs => exact so); (case he | hh => exact sh wQ); rintro _ _ ⟨rfl, rfl⟩) | with_reducible intro _)
 all_goals first
  | omega
  | exact ⟨_, zAa, rfl, rfl⟩
end Go.Proofs.YtkobjnpmjngklaaGreatDoor
end
section
set_option maxRecDepth 100000
set_option linter.unusedSimpArgs false
set_option linter.unusedVariables false
namespace Go.Proofs.YtkobjnpmjngklaaGreatDoor
open Go GoV
theorem wrong_1 {m : KV} {drop : List Tx} {p : Tx × Tx} (hp : p ∈ m) (h : keyK p.1 = false ∨ drop.contains p.1 = true) : zAr m drop = 1 := by
 unfold zAr
 rw [if_neg]
 simp only [Bool.and_eq_true, List.all_eq_true, not_and]
 intro h1
 have := h1 p hp
 simp only [Bool.and_eq_true, Bool.not_eq_true'] at this
 rcases h with h | h
 ·rw [this.1] at h; cases h
 ·rw [this.2] at h; cases h
theorem wrong_2 {m : KV} {drop : List Tx} {l V : List Tri} {c : Nat} (hm : MpOk l c m) (hp : V.Perm l) (h : ∀ t ∈ V, keyK t.1 = true ∧ drop.contains t.1 = false) :
 zAr m drop = if (drop.any fun k => !keyK k) = true then 1 else if (V.any fun t => decide (20000 < t.2.1.length)) = true then 7 else 0 := by
 have h1 : (m.all fun p => keyK p.1 && !drop.contains p.1) = true := by
  rw [List.all_eq_true]
  intro p hpm
  obtain ⟨t, ht, rfl⟩ := List.mem_map.1 ((hm.mem p).2 hpm)
  have := h t (hp.mem_iff.2 ht)
  rw [this.1, this.2]; rfl
 have h2 : (m.any fun p => decide (20000 < p.2.length)) = V.any fun t => decide (20000 < t.2.1.length) := by
  rw [Bool.eq_iff_iff, List.any_eq_true, List.any_eq_true]
  constructor
  ·rintro ⟨p, hpm, hl⟩
   obtain ⟨t, ht, rfl⟩ := List.mem_map.1 ((hm.mem p).2 hpm)
   exact ⟨t, hp.mem_iff.2 ht, hl⟩
  ·rintro ⟨t, ht, hl⟩
   exact ⟨prT t, (hm.mem _).1 (List.mem_map_of_mem (hp.mem_iff.1 ht)), hl⟩
 have h3 : drop.all keyK = !(drop.any fun k => !keyK k) := by rw [List.all_eq_not_any_not]
 unfold zAr
 rw [h1, h2, h3]
 cases drop.any fun k => !keyK k <;> simp
set_option maxHeartbeats 2000000 in
theorem wrong_e {l : List Tri} {c : Nat} {m : KV} (hm : MpOk l c m) (drop : List Tx) (hd : drop.length ≤ 1000000) :
 Eff M 46 [.mp 0, .slice (strs drop) .no] ⟨[.map (entT l) c], []⟩ fun d hp => d = .int .i64 (zAr m drop) ∧ hp = ⟨[.map (entT l) c], []⟩ := by
 refine zAu 1 0 (Nat.le_refl 1) (Nat.le_refl 0) (k46.oe 1 0 rfl rfl rfl ?_)
 rw [ie46]
 unfold c46
 have hE := fun β τ => zAl β τ l
 have hdc := zAv drop
 have hde := zA3 drop
 have c9 := containsF_e drop hd
 repeat' (first | with_reducible (apply swq; constructor) | simp only [go_sem, seval, pe46, q46] | ((with_reducible apply s_rngM); (case h1 => rfl)) | with_reducible intro _)
 refine zAs (C := E46 1 0) [0, 1, 3, 4, 7] (fun V : List Tri => ⟨[.mp 0, .slice (strs drop) .no, .u0, .ptr 1 0, .bool (V.any fun t => decide (20000 < t.2.1.length)), .u0, .u0, .ptr 2 0, .u0, .u0, .u0, .u0], [], ⟨[.map (entT l) c, keyB, .miter 0 c (V.map (·.2.2)) c], []⟩⟩)
  (fun V => (V.map (·.2.2)).Nodup ∧ (∀ t ∈ V, t ∈ l) ∧ ∀ t ∈ V, keyK t.1 = true ∧ drop.contains t.1 = false) (fun V => l.length + 1 - V.length) [] ⟨by simp, by simp, by simp⟩ ?_ ?_
 ·simp [keepE, St.keepG, St.keep, St.gc, RcS, RcB, Hp.cut, Hp.back, putAt, bakF, Blk.rnL, rC, rM, Tv.rnL, Tv.rn, D.rnL, D.rn, cutF, Own.rn]
 ·rintro V ⟨g1, g2, g3⟩
  repeat' (first | with_reducible (apply swq; constructor) | simp only [go_sem, seval, pe46, q46] | with_reducible intro _)
  refine s_nxtM rfl rfl (fun e he => ?_) (Nat.le_refl _) (fun e he hn => ?_) (fun hall => ?_)
  ·obtain ⟨t, ht, rfl⟩ := entT_mem he
   exact hm.lt t ht
  ·obtain ⟨t, ht, rfl⟩ := entT_mem he
   dsimp only at hn ⊢
   have hnd : ((entT l).map (·.2.2)).Nodup := by rw [entT_born]; exact hm.bn
   have hmem := zGn ht
   have g1' : ((V ++ [t]).map (·.2.2)).Nodup := by
    rw [List.map_append, List.nodup_append]
    exact ⟨g1, by simp, fun a ha b hb e => by simp at hb; subst hb; subst e; exact hn ha⟩
   have g2' : ∀ u ∈ V ++ [t], u ∈ l := fun u hu => by
    rcases List.mem_append.1 hu with q | q
    ·exact g2 u q
    ·simp at q; subst q; exact ht
   have hVl' := vis_len hm.bn g1' g2'
   rw [List.length_append, List.length_singleton] at hVl'
   have c1 := isKey_p t.1
   have c2 := contains_p drop t.1 (by omega)
   have hpm : prT t ∈ m := (hm.mem _).1 (List.mem_map_of_mem ht)
   have hany : ((V ++ [t]).any fun t => decide (20000 < t.2.1.length)) = ((V.any fun t => decide (20000 < t.2.1.length)) || decide (20000 < t.2.1.length)) := by simp
   cases hk : keyK t.1 with
   | false =>
     have hw := wrong_1 (m := m) (drop := drop) hpm (.inl hk)
     rw [hk] at c1
     generalize strs drop = K at *
     repeat' (first | with_reducible (apply swq; constructor) | simp only [go_sem, seval, pe46, q46, Bool.not_false] | with_reducible intro _)
     refine s_ent rfl rfl hnd hmem ?_
     have wQ := And.intro @hdc @hde; repeat' (first | with_reducible (apply swq; constructor) | simp only [go_sem, seval, pe46, q46, Bool.not_false] | ((with_reducible refine zAc (c1) ?he ?hc ?_); (case he | hc => exact sc wQ)) | with_reducible intro _)
     all_goals try omega
     rw [hw]
     (refine ⟨_, zAa, ?_⟩; simp [RcS, RcB, Hp.cut, Hp.back, putAt, bakF, Blk.rnL, rC, rM, Tv.rnL, Tv.rn, D.rnL, D.rn, cutF, Own.rn, hE])
   | true =>
     rw [hk] at c1
     cases hc : drop.contains t.1 with
     | true =>
       have hw := wrong_1 (m := m) (drop := drop) hpm (.inr hc)
       rw [hc] at c2
       generalize strs drop = K at *
       repeat' (first | with_reducible (apply swq; constructor) | simp only [go_sem, seval, pe46, q46, Bool.not_true] | with_reducible intro _)
       refine s_ent rfl rfl hnd hmem ?_
       have wQ := And.intro @hdc @hde; repeat' (first | with_reducible (apply swq; constructor) | simp only [go_sem, seval, pe46, q46, Bool.not_true] | ((with_reducible refine zAc (c1) ?he ?hc ?_); (case he | hc => exact sc wQ)) | ((with_reducible refine zAc (c2) ?he ?hc ?_); (case he | hc => exact sc wQ)) | with_reducible intro _)
       all_goals try omega
       rw [hw]
       (refine ⟨_, zAa, ?_⟩; simp [RcS, RcB, Hp.cut, Hp.back, putAt, bakF, Blk.rnL, rC, rM, Tv.rnL, Tv.rn, D.rnL, D.rn, cutF, Own.rn, hE])
     | false =>
       rw [hc] at c2
       generalize strs drop = K at *
       have g3' : ∀ u ∈ V ++ [t], keyK u.1 = true ∧ drop.contains u.1 = false := fun u hu => by
        rcases List.mem_append.1 hu with q | q
        ·exact g3 u q
        ·simp at q; subst q; exact ⟨hk, hc⟩
       generalize (V.any fun t => decide (20000 < t.2.1.length)) = lg at *
       repeat' (first | with_reducible (apply swq; constructor) | simp only [go_sem, seval, pe46, q46, Bool.not_true] | with_reducible intro _)
       refine s_ent rfl rfl hnd hmem ?_
       have wQ := And.intro @hdc @hde; repeat' (first | with_reducible (apply swq; constructor) | simp only [go_sem, seval, pe46, q46, Bool.not_true] | ((with_reducible refine zAc (c1) ?he ?hc ?_); (case he | hc => exact sc wQ)) | ((with_reducible refine zAc (c2) ?he ?hc ?_); (case he | hc => exact sc wQ)) | (with_reducible (apply gdA; constructor)) | with_reducible intro _)
       all_goals try omega
       all_goals
        rename_i hlg
        rw [hlg] at hany
        have hcast : decide ((20000 : Int) < (t.2.1.length : Nat)) = decide (20000 < t.2.1.length) := decide_eq_decide.2 (by omega)
        refine ⟨V ++ [t], ⟨g1', g2', g3'⟩, by rw [List.length_append, List.length_singleton]; omega, ?_⟩
        rw [hany]
        first
         | (simp [keepE, St.keep]; done)
         | (simp [keepE, St.keep]; omega)
  ·have hp := vis_perm hm.bn g1 g2 (fun t ht => hall _ (zGn ht))
   have hw := wrong_2 hm hp g3
   generalize zAr m drop = wv at *
   generalize (V.any fun t => decide (20000 < t.2.1.length)) = lg at *
   generalize strs drop = K at *
   cases hb : drop.any fun k => !keyK k with
   | true =>
     rw [hb] at c9 hw
     simp only [if_true] at hw
     have wQ := tw; repeat' (first | with_reducible (apply swq; constructor) | simp only [go_sem, seval, pe46, q46] | ((with_reducible refine o_eff [1] [] (c9) ?hs ?he ?hh ?_); (case hs => exact so); (case he | hh => exact sh wQ); rintro _ _ ⟨rfl, rfl⟩) | with_reducible intro _)
     all_goals try omega
     (refine ⟨_, zAa, ?_⟩; simp [RcS, RcB, Hp.cut, Hp.back, putAt, bakF, Blk.rnL, rC, rM, Tv.rnL, Tv.rn, D.rnL, D.rn, cutF, Own.rn, hE, hw])
   | false =>
     rw [hb] at c9 hw
     cases lg
     iterate 2
      ·have wQ := tw; repeat' (first | with_reducible (apply swq; constructor) | simp only [go_sem, seval, pe46, q46] | ((with_reducible refine o_eff [1] [] (c9) ?hs ?he ?hh ?_); (case hs => exact so); (case he | hh => exact sh wQ); rintro _ _ ⟨rfl, rfl⟩) | with_reducible intro _)
       all_goals try omega
       (refine ⟨_, zAa, ?_⟩; simp [RcS, RcB, Hp.cut, Hp.back, putAt, bakF, Blk.rnL, rC, rM, Tv.rnL, Tv.rn, D.rnL, D.rn, cutF, Own.rn, hE, hw])
set_option maxHeartbeats 1000000 in
theorem wrong_z (drop : List Tx) (hd : drop.length ≤ 1000000) :
 Eff M 46 [.lit (.map none), .slice (strs drop) .no] ⟨[], []⟩ fun d hp => d = .int .i64 (zAr [] drop) ∧ hp = ⟨[], []⟩ := by
 refine zAu 0 0 (Nat.le_refl 0) (Nat.le_refl 0) (k46.oe 0 0 rfl rfl rfl ?_)
 rw [ie46]
 unfold c46
 have c9 := containsF_e drop hd
 have hw := wrong_2 (drop := drop) mp_nil (List.Perm.refl []) (by simp)
 generalize zAr [] drop = wv at *
 generalize strs drop = K at *
 repeat' (first | with_reducible (apply swq; constructor) | simp only [go_sem, seval, pe46, q46, o_rngZ] | with_reducible intro _)
 refine zAs (C := E46 0 0) [1, 3, 4, 7] (fun _ : Unit => ⟨[.u0, .slice K .no, .u0, .ptr 0 0, .bool false, .u0, .u0, .ptr 1 0, .u0, .u0, .u0, .u0], [], ⟨[keyB, nilIt], []⟩⟩)
  (fun _ => True) (fun _ => 0) () trivial ?_ ?_
 ·simp [keepE, St.keepG, St.keep, St.gc, RcS, RcB, Hp.cut, Hp.back, putAt, bakF, Blk.rnL, rC, rM, Tv.rnL, Tv.rn, D.rnL, D.rn, cutF, Own.rn]
 ·intro _ _
  repeat' (first | with_reducible (apply swq; constructor) | simp only [go_sem, seval, pe46, q46] | with_reducible intro _)
  refine s_nxtZ rfl ?_
  cases hb : drop.any fun k => !keyK k with
  | true =>
    rw [hb] at c9 hw
    simp only [if_true] at hw
    have wQ := tw; repeat' (first | with_reducible (apply swq; constructor) | simp only [go_sem, seval, pe46, q46] | ((with_reducible refine o_eff [0] [] (c9) ?hs ?he ?hh ?_); (case hs => exact so); (case he | hh => exact sh wQ); rintro _ _ ⟨rfl, rfl⟩) | with_reducible intro _)
    all_goals try omega
    (refine ⟨_, zAa, ?_⟩; simp [RcS, RcB, Hp.cut, Hp.back, putAt, bakF, Blk.rnL, rC, rM, Tv.rnL, Tv.rn, D.rnL, D.rn, cutF, Own.rn, hw])
  | false =>
    rw [hb] at c9 hw
    have wQ := tw; repeat' (first | with_reducible (apply swq; constructor) | simp only [go_sem, seval, pe46, q46] | ((with_reducible refine o_eff [0] [] (c9) ?hs ?he ?hh ?_); (case hs => exact so); (case he | hh => exact sh wQ); rintro _ _ ⟨rfl, rfl⟩) | with_reducible intro _)
    all_goals try omega
    (refine ⟨_, zAa, ?_⟩; simp [RcS, RcB, Hp.cut, Hp.back, putAt, bakF, Blk.rnL, rC, rM, Tv.rnL, Tv.rn, D.rnL, D.rn, cutF, Own.rn, hw])
end Go.Proofs.YtkobjnpmjngklaaGreatDoor
end
section
set_option maxRecDepth 100000
set_option linter.unusedSimpArgs false
set_option linter.unusedVariables false
namespace Go.Proofs.YtkobjnpmjngklaaGreatDoor
open Go GoV Go.RowKit
def und (n : Nat) : List D := List.replicate n .u0
theorem und_len (n : Nat) : (und n).length = n := by simp [und]
theorem rnL_app (β τ : Nat → Option Nat) : ∀ (a b : List D), D.rnL β τ (a ++ b) = D.rnL β τ a ++ D.rnL β τ b
 | [], b => rfl
 | x :: a, b => by simp [D.rnL, rnL_app β τ a b]
theorem rnL_und (β τ : Nat → Option Nat) : ∀ n : Nat, D.rnL β τ (und n) = und n
 | 0 => rfl
 | n + 1 => by
   have := rnL_und β τ n
   simp only [und, List.replicate_succ, D.rnL, D.rn] at this ⊢
   rw [this]
theorem zGc (β τ : Nat → Option Nat) (l : List Tx) (n : Nat) : D.rnL β τ (strs l ++ und n) = strs l ++ und n := by rw [rnL_app, zD9, rnL_und]
theorem su_len (N : List Tx) (u : Nat) : (strs N ++ und u).length = N.length + u := by rw [List.length_append, zAk, und_len]
theorem cl_und (n : Nat) : D.cL (und n) = true := by
 unfold und
 induction n with
 | zero => rfl
 | succ n ih => simp [List.replicate_succ, D.cL, D.closed, ih]
theorem zF0 : ∀ (a b : List D), D.cL a = true → D.cL b = true → D.cL (a ++ b) = true
 | [], b, _, h => h
 | x :: a, b, h1, h2 => by
   simp only [D.cL, Bool.and_eq_true, List.cons_append] at h1 ⊢
   exact ⟨h1.1, zF0 a b h1.2 h2⟩
theorem er_und (n : Nat) : D.erL (und n) = und n := by
 unfold und
 induction n with
 | zero => rfl
 | succ n ih => simp [List.replicate_succ, D.erL, D.er, ih]
theorem erL_app : ∀ (a b : List D), D.erL (a ++ b) = D.erL a ++ D.erL b
 | [], b => rfl
 | x :: a, b => by simp [D.erL, erL_app a b]
def srtS (L : List Tx) : List Tx := L.mergeSort fun x y => decide (x ≤ y)
theorem sort_e (L : List Tx) (rest : List D) (n cap : Nat) (hn : n = L.length) (hc : n + rest.length = cap) (hl : n ≤ 1000000) :
 Eff M 96 [.sl 0 1 0 n cap] ⟨[.cells (strs L ++ rest)], []⟩ fun d hp => d = .tup [] ∧ hp = ⟨[.cells (strs (srtS L) ++ rest)], []⟩ := by
 refine eff_row (M := M) ⟨Tryz.f96, Tryz.func96, rfl, rfl⟩ Go.Proofs.encStr D.str (fun w g x => by simp [Rel, Go.Proofs.encStr]) (fun w g x y h => by simpa [Rel, Go.Proofs.encStr] using h) (fun x => by simp [oneC, Value.oneCell', Go.Proofs.encStr])
  L (srtS L) rest n cap hn (List.length_mergeSort _) hc fun w blk off hH hb => ?_
 exact (Tryz.slices_Sort_string blk off cap L w hH hb (by omega)).mono fun e w' hh => hh
theorem zCl (L : List Tx) : (Lib.compact L).length ≤ L.length := by
 unfold Lib.compact Lib.compactUpTo
 rw [List.length_map]
 refine Nat.le_trans (List.length_filter_le _ _) ?_
 simp
def compS (L : List Tx) : List Tx := Lib.compact L ++ List.replicate (L.length - (Lib.compact L).length) []
theorem zE2 (L : List Tx) : (compS L).length = L.length := by
 have := zCl L
 unfold compS; simp; omega
theorem compact_e (L : List Tx) (rest : List D) (n cap : Nat) (hn : n = L.length) (hc : n + rest.length = cap) (hl : n ≤ 1000000) :
 Eff M 47 [.sl 0 1 0 n cap] ⟨[.cells (strs L ++ rest)], []⟩ fun d hp => d = .sl 0 1 0 (Lib.compact L).length cap ∧ hp = ⟨[.cells (strs (compS L) ++ rest)], []⟩ := by
 refine eff_rowS (M := M) ⟨Tryz.f47, Tryz.func47, rfl, rfl⟩ Go.Proofs.encStr D.str (fun w g x => by simp [Rel, Go.Proofs.encStr]) (fun w g x y h => by simpa [Rel, Go.Proofs.encStr] using h) (fun x => by simp [oneC, Value.oneCell', Go.Proofs.encStr])
  L (compS L) rest n cap _ hn (zE2 L) hc fun w blk off hH hb => ?_
 refine (Tryz.slices_Compact_string blk off cap L w hH (by omega) (by omega)).mono fun e w' hh => ?_
 obtain ⟨h1, q, h2⟩ := hh
 exact ⟨h1, q, #[], by rw [Go.Sort.grow_empty]; exact h2⟩
def rowsT (L : List Tx) : List (List D) := L.map fun x => [.str x]
theorem values_p (L : List Tx) : Pur M 49 [.slice (strs L) .no] (.fn (.func 97) [] [.ip [.slice (strs L) .no]]) := by
 refine k49.ow (C := C49) rfl rfl ?_
 rw [i49]
 unfold c49
 have hcl := zAv L
 have her := zA3 L
 generalize strs L = K at *
 repeat' (first | with_reducible (apply swq; constructor) | simp only [go_sem, seval, P49, q49] | with_reducible intro _)
 all_goals try omega
 refine ⟨_, zCz (zB2 [2]) (zE7 0 [.slice K .no] rfl (Nat.le_refl 0) (by simp [D.cL, D.closed, hcl])), ?_⟩
 simp [St.frz, keepE, D.fz, D.fzL, D.closed, D.er, D.cL, D.erL, hcl, her]
theorem values_it (L : List Tx) (hL : L.length ≤ 1000000) (hpk : Nat → Hp) : Iter2 M 97 [.ip [.slice (strs L) .no]] (rowsT L) hpk (fun k => hpk (k + 1)) := by
 refine zEh (C := E97 0 0) (fn := Tryz.f97) Tryz.func97 (by kernel_rfl) (by kernel_rfl) (rc := c97) z97 (by kernel_rfl) (by kernel_rfl) rfl (show 2 ≤ 16 by decide) (fun b y hY => ?_)
 rw [ie97]
 unfold c97
 have hrl : (rowsT L).length = L.length := by simp [rowsT]
 rw [hrl]
 have hsl := zAk L
 have hget : ∀ (j : Nat) (h : j < L.length), (strs L).getD j .u0 = .str L[j] := fun j h => zBt h
 generalize strs L = K at *
 repeat' (first | with_reducible (apply swq; constructor) | simp only [go_sem, seval, atB_M, pe97] | with_reducible intro _)
 refine zAs [0, 3, 4, 5] (fun k : Nat => ⟨[yldD y, .u0, .u0, .slice K .no, .int .i64 K.length, .int .i64 k, .u0, .u0], [], hpk k⟩)
  (fun k => k ≤ L.length) (fun k => L.length - k) 0 (Nat.zero_le _) ?_ ?_
 ·simp [keepE, St.keep]
 ·intro k hk
  by_cases hlt : k < L.length
  ·have g1 := hget k hlt
   have h8 := hY k [.str L[k]] (by rw [rowsT, List.getElem?_map, List.getElem?_eq_getElem hlt]; rfl)
   have h8 : YOk (M.with b) y [.str L[k]] (hpk k) (hpk (k + 1)) := h8
   generalize L[k] = x at *
   have wQ := tw; repeat' (first | with_reducible (apply swq; constructor) | simp only [go_sem, seval, atB_M, pe97, g1] | simp (disch := omega) only [wA] | ((with_reducible refine o_yield (h8) ?he ?hh ?_); (case he => first | rfl | (simp []; done)); (case hh => first | rfl | assumption | (simp []; done))) | with_reducible (apply cdA; constructor) | ((with_reducible refine And.intro ?hw ?_); (case hw => exact sw wQ)) | with_reducible intro _)
   all_goals try omega
   exact ⟨k + 1, by omega, by omega, by simp [keepE, St.keep]⟩
  ·have e : k = L.length := by omega
   subst e
   have wQ := tw; repeat' (first | with_reducible (apply swq; constructor) | simp only [go_sem, seval, atB_M, pe97] | simp (disch := omega) only [wA] | with_reducible (apply cdA; constructor) | ((with_reducible refine And.intro ?hw ?_); (case hw => exact sw wQ)) | with_reducible intro _)
   all_goals try omega
   exact ⟨_, zAa, rfl⟩
def hpV (L : List Tx) (k : Nat) : Hp := ⟨[.cells [.gs 0 k]], [.chg 1 (strs (L.take k))]⟩
theorem appendSeq_e (L : List Tx) (hL : L.length ≤ 1000000) : Eff M 125 [.lit (.slice none 0 0), .fn (.func 97) [] [.ip [.slice (strs L) .no]]] ⟨[], []⟩ fun d hp => d = .gs 0 L.length ∧ hp = ⟨[], [.chg 1 (strs L)]⟩ := by
 refine zAu 0 1 (Nat.le_refl 0) (Nat.zero_le 1) (zEy (C := E125 0 0) (fn := Tryz.f125) Tryz.func125 (by kernel_rfl) (by kernel_rfl) (rc := c125) z125 (rs := q125) zr125 (by kernel_rfl) rfl (show 2 ≤ 13 by decide) rfl rfl ?_)
 rw [ie125]
 unfold c125
 have hit := values_it L hL (hpV L)
 repeat' (first | with_reducible (apply swq; constructor) | with_reducible apply zBv | with_reducible apply twp_block | ((with_reducible refine zBw ?hb ?_); (case hb => exact fun _ _ => trivial); with_reducible intro _) | simp only [go_sem, seval, pe125, q125] | with_reducible intro _)
 all_goals try omega
 refine twp_weak (fun _ => weak_newG 0 0 1 (by decide) rfl rfl) (show TWp (E125 0 0) 0 0 _ _ ⟨[.lit (.slice none 0 0), .fn (.func 97) [] [.ip [.slice (strs L) .no]], .ptr 0 0, .lit (.slice none 0 0), .u0, .fn (.func 97) [] [.ip [.slice (strs L) .no]], .u0], [], hpV L 0⟩ from ?_)
 refine twp_range2 (fun _ _ => trivial) (hpV L) (fun k => hpV L (k + 1)) hit rfl ?_ rfl ?_ ?_
 ·intro r hr
  obtain ⟨k, _, rfl⟩ := List.mem_map.1 hr
  rfl
 ·intro k r hk
  have hlt : k < L.length := by have := zAd hk; simpa [rowsT] using this
  rw [rowsT, List.getElem?_map, List.getElem?_eq_getElem hlt] at hk
  cases hk
  have hs : strs (L.take (k + 1)) = strs (L.take k) ++ [.str L[k]] := by rw [List.take_succ_eq_append_getElem hlt]; simp [strs, -List.take_append_getElem]
  have hl : (strs (L.take k)).length = k := by rw [zAk, List.length_take]; omega
  unfold hpV
  simp only [hs]
  generalize strs (L.take k) = K at *
  generalize L[k] = x at *
  simp only [binds]
  have wQ := @hl; repeat' (first | with_reducible (apply swq; constructor) | simp only [go_sem, seval, pe125, q125, hl] | ((with_reducible apply s_appG); (case he => rfl); (case hV | hK | hr | hl => exact sd wQ)) | ((with_reducible apply s_bsl); (case he | hl | hc => exact sd wQ)) | with_reducible intro _)
  all_goals try omega
  exact ⟨_, zAa, rfl⟩
 ·have hh : hpV L (rowsT L).length = ⟨[.cells [.gs 0 L.length]], [.chg 1 (strs L)]⟩ := by simp [hpV, rowsT]
  rw [hh]
  have hr := fun β τ => zD9 β τ L
  generalize strs L = K at *
  repeat' (first | with_reducible (apply swq; constructor) | with_reducible apply zBv | ((with_reducible refine zBw ?hb ?_); (case hb => exact fun _ _ => trivial); with_reducible intro _) | ((with_reducible refine twp_ret ?hb ?_); (case hb => exact fun _ _ => trivial)) | simp only [go_sem, seval, pe125, q125] | with_reducible intro _)
  all_goals try omega
  refine ⟨_, fun _ => zAa, ?_⟩
  simp [Hp.cut, Blk.rnL, Tv.rnL, Tv.rn, D.rnL, D.rn, cutF, hr]
theorem collect_e (L : List Tx) (hL : L.length ≤ 1000000) : Eff M 95 [.fn (.func 97) [] [.ip [.slice (strs L) .no]]] ⟨[], []⟩ fun d hp => d = .gs 0 L.length ∧ hp = ⟨[], [.chg 1 (strs L)]⟩ := by
 refine k95.oe 0 0 rfl rfl rfl ?_
 rw [ie95]
 unfold c95
 have c1 := appendSeq_e L hL
 have hr := fun β τ => zD9 β τ L
 generalize strs L = K at *
 have wQ := @hr; repeat' (first | with_reducible (apply swq; constructor) | simp only [go_sem, seval, pe95, q95] | ((with_reducible refine o_eff [] [] (c1) ?hs ?he ?hh ?_); (case hs => exact so); (case he | hh => exact sh wQ); rintro _ _ ⟨rfl, rfl⟩) | with_reducible intro _)
 all_goals try omega
 exact ⟨_, zAa, rfl, by simp [RcS, RcB, Hp.cut, Hp.back, putAt, bakF, Blk.rnL, rC, rM, Tv.rnL, Tv.rn, D.rnL, D.rn, cutF, Own.rn, hr]⟩
theorem sort_0 : Pur M 96 [.slice [] .no] (.tup []) := by
 refine ⟨⟨Tryz.f96, Tryz.func96, rfl, rfl⟩, fun w g xs hA hH hr => ?_⟩
 obtain ⟨x, xs', rfl, g1, g2⟩ := hr.inv
 have := g2.inv_nil
 subst this
 have hx : ∃ p cap, x = .slice p 0 cap := by
  simp only [Rel] at g1
  obtain ⟨a, cap, k, ys, h, _⟩ := g1
  rcases h with h | ⟨h, _⟩
  ·exact ⟨_, _, by simpa using h⟩
  ·exact ⟨_, _, h⟩
 obtain ⟨p, cap, rfl⟩ := hx
 refine (Tryz.slices_Sort_string_none p cap w).mono fun e w' hh => ?_
 obtain ⟨rfl, rfl⟩ := hh
 exact ⟨_, _, _, g, rfl, ⟨rfl, rfl⟩, Inv.refl' hH, by simp only [Rel]; exact ⟨[], rfl, rfl⟩⟩
theorem compact_0 : Pur M 47 [.slice [] .no] (.slice [] .no) := by
 refine ⟨⟨Tryz.f47, Tryz.func47, rfl, rfl⟩, fun w g xs hA hH hr => ?_⟩
 obtain ⟨x, xs', rfl, g1, g2⟩ := hr.inv
 have := g2.inv_nil
 subst this
 have hx : ∃ p cap, x = .slice p 0 cap := by
  have g1' := g1
  simp only [Rel] at g1'
  obtain ⟨a, cap, k, ys, h, _⟩ := g1'
  rcases h with h | ⟨h, _⟩
  ·exact ⟨_, _, by simpa using h⟩
  ·exact ⟨_, _, h⟩
 obtain ⟨p, cap, rfl⟩ := hx
 refine (Tryz.slices_Compact_string_empty p cap w).mono fun e w' hh => ?_
 obtain ⟨rfl, rfl⟩ := hh
 exact ⟨_, _, _, g, rfl, ⟨rfl, rfl⟩, Inv.refl' hH, g1⟩
theorem sortedV_0 : Pur M 48 [.fn (.func 97) [] [.ip [.slice [] .no]]] (.slice [] .no) := by
 refine k48.ow (C := C48) rfl rfl ?_
 rw [i48]
 unfold c48
 have c1 : Eff M 95 [.fn (.func 97) [] [.ip [.slice [] .no]]] ⟨[], []⟩ fun d hp => d = .gs 0 0 ∧ hp = ⟨[], [.chg 1 []]⟩ := collect_e [] (by simp)
 have c2 := sort_0
 generalize hR : (RC.seq (.reg r48_2) (RC.seq (.reg r48_3) .ret)) = R
 have wQ := tw; repeat' (first | with_reducible (apply swq; constructor) | simp only [go_sem, seval, P48, pe48, q48] | ((with_reducible refine o_eff [] [] (c1) ?hs ?he ?hh ?_); (case hs => exact so); (case he | hh => exact sh wQ); rintro _ _ ⟨rfl, rfl⟩) | with_reducible intro _)
 all_goals try omega
 subst hR
 refine zA1 (zCz (zB2 [2]) (weak_frzT 0 1 0 [] rfl rfl (Nat.zero_le _) rfl rfl)) ?_
 simp [St.frzT, keepE, D.fzt, chunk]
 have wQ := tw; repeat' (first | with_reducible (apply swq; constructor) | simp only [go_sem, seval, P48, pe48, q48] | ((with_reducible refine zAc (c2) ?he ?hc ?_); (case he | hc => exact sc wQ)) | with_reducible intro _)
 all_goals try omega
 refine ⟨_, zAa, ?_⟩
 simp [D.closed, D.cL, D.er, D.erL]
theorem sortedV_e (L : List Tx) (hL : L.length ≤ 1000000) (h0 : 0 < L.length) :
 Eff M 48 [.fn (.func 97) [] [.ip [.slice (strs L) .no]]] ⟨[], []⟩ fun d hp => ∃ cap, L.length ≤ cap ∧ d = .sl 0 1 0 L.length cap ∧ hp = ⟨[.cells (strs (srtS L) ++ und (cap - L.length))], []⟩ := by
 refine k48.oe 0 0 rfl rfl rfl ?_
 rw [ie48]
 unfold c48
 have c1 := collect_e L hL
 have hr := fun β τ => zD9 β τ L
 have hsl := zAk L
 have hrs := fun β τ u => zGc β τ L u
 have hrt := fun β τ u => zGc β τ (srtS L) u
 have hsrt := fun cap (hc : L.length ≤ cap) => sort_e L (und (cap - L.length)) L.length cap rfl (by rw [und_len]; omega) hL
 generalize hKK : strs L = K at *
 generalize strs (srtS L) = T at *
 generalize hR : (RC.seq (.reg r48_2) (RC.seq (.reg r48_3) .ret)) = R
 have wQ := @hr; repeat' (first | with_reducible (apply swq; constructor) | simp only [go_sem, seval, pe48, q48] | ((with_reducible refine o_eff [] [] (c1) ?hs ?he ?hh ?_); (case hs => exact so); (case he | hh => exact sh wQ); rintro _ _ ⟨rfl, rfl⟩) | with_reducible intro _)
 all_goals try omega
 subst hR
 rw [hr]
 refine swp_sl 2 0 1 L.length K rfl rfl (by rw [hsl, Nat.mul_one]) rfl h0 fun cap hc => ?_
 simp only [St.toSl, List.set_cons_zero, List.set_cons_succ, List.length_cons, List.length_nil, List.nil_append, List.cons_append, Nat.mul_one]
 have hu : List.replicate (cap - L.length) D.u0 = und (cap - L.length) := rfl
 rw [hu]
 have c2 := hsrt cap hc
 have hrs' := fun β τ => hrs β τ (cap - L.length)
 have hrt' := fun β τ => hrt β τ (cap - L.length)
 generalize K ++ und (cap - L.length) = KU at *
 generalize hTU : T ++ und (cap - L.length) = TU at *
 have wQ := @hrs'; repeat' (first | with_reducible (apply swq; constructor) | simp only [go_sem, seval, pe48, q48] | ((with_reducible refine o_eff [0] [] (c2) ?hs ?he ?hh ?_); (case hs => exact so); (case he | hh => exact sh wQ); rintro _ _ ⟨rfl, rfl⟩) | with_reducible intro _)
 all_goals try omega
 refine ⟨_, zF4 [0] [] ⟨by simp, by simp, by simp [Hp.back, putAt, bakF, Blk.rnL], by simp⟩ rfl rfl, ?_⟩
 refine ⟨cap, hc, ?_⟩
 simp [St.sel, Hp.sel, Hp.back, putAt, bakF, D.rnL, D.rn, posF, idx, rC, Blk.rnL, Tv.rnL, hrt']
 exact hTU.symm
section
variable {P : Mod} {r : List RO} {K : St → Prop} {s : St} {dst : Dst}
theorem s_appR {n bytes : Nat} {ety : TypeId} {x : D} {es : List D} (t : Nat) (he : zA4 s.hp n x = some es) (hK : zAh n es = true) (hr : zB3 es.length bytes) (hpos : 0 < es.length) (hV : s.hp.tk[t]? = some (.chg n []))
 (h : opsWp P r K ({ s with hp := { s.hp with tk := s.hp.tk.set t (.chg n (flatD es)) } }.put dst (.gs t es.length))) : OpS P (.app n bytes ety) [.slice [] .full, x] dst r K s := by
 simp only [OpS, OcWp, zAb, isPan, Bool.false_eq_true, if_false, opWp]
 exact ⟨es, he, hK, by simpa using hr, .inr ⟨rfl, hpos, t, hV, h⟩⟩
end
theorem clone_0 : Pur M 120 [.slice [] .no] (.slice [] .no) := by
 refine k120.ow (C := C120) rfl rfl ?_
 rw [i120]
 unfold c120
 have wQ := tw; repeat' (first | with_reducible (apply swq; constructor) | simp only [go_sem, seval, P120, q120, n_emp] | ((with_reducible apply s_appF); (case he => rfl); (case hK | hc | hr | hx | hn => exact sd wQ)) | ((with_reducible apply s_bsl); (case he | hl | hc => exact sd wQ)) | with_reducible (apply cdA; constructor) | with_reducible intro _)
 ·refine ⟨_, weak_new 1 1 (by decide) false rfl, ?_⟩
  simp [D.closed, D.cL, D.er, D.erL]
 ·refine ⟨_, zAa, ?_⟩
  simp [D.closed, D.cL, D.er, D.erL]
theorem clone_e (L : List Tx) (hL : L.length ≤ 1000000) (h0 : 0 < L.length) : Eff M 120 [.slice (strs L) .no] ⟨[], []⟩ fun d hp => ∃ cap, L.length ≤ cap ∧ d = .sl 0 1 0 L.length cap ∧ hp = ⟨[.cells (strs L ++ und (cap - L.length))], []⟩ := by
 have hlen := zAk L
 have hel := zBk L
 have hfl := flat_strs L
 have hrs := fun β τ u => zGc β τ L u
 refine k120.oe 0 0 rfl rfl rfl ?_
 rw [ie120]
 unfold c120
 generalize hK : strs L = K at *
 obtain ⟨x, xs, hx⟩ : ∃ x xs, K = x :: xs := by cases K with | nil => simp at hlen; omega | cons a b => exact ⟨_, _, rfl⟩
 refine zA1 (weak_resv 1 (by omega)) ?_
 generalize hrt : RC.ret = rt at *
 rw [hx]
 simp only [List.nil_append]
 have wQ := @hlen; repeat' (first | with_reducible (apply swq; constructor) | simp only [go_sem, seval, pe120, q120] | ((with_reducible apply s_bsl); (case he | hl | hc => exact sd wQ)) | with_reducible intro _)
 refine s_appR 0 (x := .slice (x :: xs) .no) (es := x :: xs) rfl (by rw [← hx]; exact hel) (by rw [← hx, hlen]; exact ⟨by omega, by omega⟩) (by simp) rfl ?_
 rw [← hx, hfl, hlen]
 repeat' (first | with_reducible (apply swq; constructor) | simp only [go_sem, seval, pe120, q120] | with_reducible intro _)
 rw [← hrt]
 refine swp_sl 1 0 1 L.length K rfl rfl (by rw [hlen, Nat.mul_one]) (by unfold E120; rfl) h0 fun cap hc => ?_
 simp only [St.toSl, List.set_cons_zero, List.set_cons_succ, List.length_cons, List.length_nil, List.nil_append, Nat.mul_one]
 have hu : List.replicate (cap - L.length) D.u0 = und (cap - L.length) := rfl
 rw [hu]
 repeat' (first | with_reducible (apply swq; constructor) | simp only [go_sem, seval, pe120, q120] | with_reducible intro _)
 refine ⟨_, zCz (zB2 [1]) (zF4 [0] [] ⟨by simp, by simp, by simp, by simp⟩ rfl rfl), ?_⟩
 have hrs' := fun β τ => hrs β τ (cap - L.length)
 refine ⟨cap, hc, ?_⟩
 generalize hKU : K ++ und (cap - L.length) = KU at *
 simp [St.sel, Hp.sel, keepE, D.rnL, D.rn, posF, idx, rC, Blk.rnL, Tv.rnL, hrs']
 rw [← hKU, hx]; rfl
end Go.Proofs.YtkobjnpmjngklaaGreatDoor
end
section
set_option maxRecDepth 100000
set_option linter.unusedSimpArgs false
set_option linter.unusedVariables false
namespace Go.Proofs.YtkobjnpmjngklaaGreatDoor
open Go GoV
def IncS (l : List Tx) : Prop := l.Pairwise fun a b => lt a b = true
theorem so_inc : ∀ {l : List Tx}, IncS l → So l
 | [], _ => trivial
 | a :: r, h => by
   unfold IncS at h
   rw [List.pairwise_cons] at h
   exact ⟨h.1, so_inc h.2⟩
theorem inc_so : ∀ {l : List Tx}, So l → IncS l
 | [], _ => .nil
 | a :: r, h => .cons h.1 (inc_so h.2)
theorem zFz {zs : List Tx} (hS : ∀ i j (hj : j < zs.length) (hij : i < j), lt zs[j] (zs[i]'(by omega)) = false) : ∀ m, m ≤ zs.length →
 IncS (Lib.compactUpTo zs.toArray m) ∧ ∀ t, t ∈ Lib.compactUpTo zs.toArray m ↔ t ∈ zs.take m
 | 0, _ => by simp [Lib.compactUpTo, IncS]
 | m + 1, hm => by
   obtain ⟨h1, h2⟩ := zFz hS m (by omega)
   have hg : zs.toArray[m]! = zs[m] := by simp [show m < zs.length by omega]
   rw [Lib.compactUpTo_succ, hg, List.take_succ_eq_append_getElem (by omega)]
   have hle : ∀ t ∈ zs.take m, lt zs[m] t = false := fun t ht => by
    obtain ⟨i, hi, e⟩ := List.mem_take_iff_getElem.1 ht
    rw [← e]
    exact hS i m (by omega) (by omega)
   cases hk : Lib.keeps zs.toArray m
   ·simp only [Bool.false_eq_true, if_false, List.append_nil]
    refine ⟨h1, fun t => ?_⟩
    rw [h2 t, List.mem_append, List.mem_singleton]
    have hpos : 0 < m := by
     rcases Nat.eq_zero_or_pos m with q | q
     ·subst q; simp [Lib.keeps] at hk
     ·exact q
    have hq : zs[m] = zs[m - 1] := by
     simp [Lib.keeps, show m < zs.length by omega, show m - 1 < zs.length by omega] at hk
     exact hk.2
    refine ⟨.inl, fun q => q.elim id fun e => ?_⟩
    rw [e, hq]
    exact List.mem_take_iff_getElem.2 ⟨m - 1, by omega, rfl⟩
   ·simp only [if_true]
    refine ⟨?_, fun t => by rw [List.mem_append, List.mem_append, h2 t]⟩
    unfold IncS
    rw [List.pairwise_append]
    refine ⟨h1, by simp, fun t ht u hu => ?_⟩
    rw [List.mem_singleton.1 hu]
    have ht2 := (h2 t).1 ht
    cases e : lt t zs[m] with
    | true => rfl
    | false =>
      exfalso
      have e1 := lt_tri e (hle t ht2)
      obtain ⟨i, hi, e2⟩ := List.mem_take_iff_getElem.1 ht2
      have him : i < m := by omega
      have e3 : zs[m] ≠ zs[m - 1] := by
       simp [Lib.keeps, show m < zs.length by omega, show m - 1 < zs.length by omega] at hk
       rcases hk with q | q
       ·omega
       ·exact q
      by_cases e4 : i = m - 1
      ·subst e4; exact e3 (by rw [e2, ← e1])
      ·have a1 := hS i (m - 1) (by omega) (by omega)
       have a2 := hS (m - 1) m (by omega) (by omega)
       rw [e2, e1] at a1
       exact e3 (lt_tri a2 a1)
theorem sort_srt (N : List Tx) : ∀ i j (hj : j < (N.mergeSort fun x y => decide (x ≤ y)).length) (hij : i < j), lt (N.mergeSort fun x y => decide (x ≤ y))[j] ((N.mergeSort fun x y => decide (x ≤ y))[i]'(by omega)) = false := by
 have hd : ∀ x y : Tx, decide (x ≤ y) = !(lt y x) := fun x y => by
  rw [lt, Go.Proofs.bytesLess_eq, Bool.eq_iff_iff]
  simp [List.not_lt]
 have hp := List.pairwise_mergeSort (le := fun x y : Tx => decide (x ≤ y)) (fun a b c h1 h2 => by
  rw [hd] at h1 h2 ⊢
  simp only [Bool.not_eq_true'] at *
  cases e : lt c a with
  | false => rfl
  | true =>
    exfalso
    cases f : lt a b with
    | true =>
      have := lt_trans e f
      rw [h2] at this; cases this
    | false =>
      have := lt_tri f h1
      subst this
      rw [h2] at e; cases e) (fun a b => by
  rw [hd, hd]
  cases e : lt b a with
  | false => rfl
  | true =>
    cases f : lt a b with
    | false => rfl
    | true =>
      have := lt_trans e f
      rw [lt_irr] at this; cases this) N
 intro i j hj hij
 have := List.pairwise_iff_getElem.1 hp i j (by omega) hj hij
 rw [hd] at this
 simpa using this
theorem zE0 (L : List Tx) : Lib.compact (srtS L) = setT L := by
 obtain ⟨h1, h2⟩ := zFz (sort_srt L) _ (Nat.le_refl _)
 refine so_ext (so_inc h1) (setT_so L) fun t => ?_
 rw [setT_mem]
 unfold srtS Lib.compact
 rw [h2, List.take_length, List.mem_mergeSort]
def issK (L : List Tx) : Prop := ∀ i (h : i + 1 < L.length), lt L[i + 1] (L[i]'(by omega)) = false
theorem iss_so {L : List Tx} (h : So L) : issK L := fun i hi => by
 have := List.pairwise_iff_getElem.1 (inc_so h) i (i + 1) (by omega) hi (by omega)
 exact lt_asym this
theorem le_trans' {a b c : Tx} (h1 : lt b a = false) (h2 : lt c b = false) : lt c a = false := by
 cases e : lt c a with
 | false => rfl
 | true =>
   cases f : lt a b with
   | true => have := lt_trans e f; rw [h2] at this; cases this
   | false =>
     have := lt_tri f h1
     subst this
     rw [h2] at e; cases e
theorem iss_all {L : List Tx} (h : issK L) : ∀ i j (hj : j < L.length) (hij : i < j), lt L[j] (L[i]'(by omega)) = false := by
 intro i j
 induction j with
 | zero => intro _ h0; omega
 | succ j ih =>
   intro hj hij
   by_cases e : i = j
   ·subst e; exact h i hj
   ·exact le_trans' (ih (by omega) (by omega)) (h j hj)
theorem iss_iff {L : List Tx} (h : issK L) : (Lib.compact L).length < L.length ↔ ¬ setT L = L := by
 obtain ⟨h1, h2⟩ := zFz (iss_all h) _ (Nat.le_refl _)
 constructor
 ·intro hl e
  have hso : So L := by rw [← e]; exact setT_so L
  rw [Lib.compact_all L] at hl
  ·omega
  ·intro j hj
   unfold Lib.keeps
   rw [decide_eq_true_eq]
   rcases Nat.eq_zero_or_pos j with q | q
   ·exact .inl q
   ·right
    have := List.pairwise_iff_getElem.1 (inc_so hso) (j - 1) j (by omega) hj (by omega)
    have hne := lt_ne this
    simp [hj, show j - 1 < L.length by omega]
    exact fun e => hne e.symm
 ·intro hn
  rcases Nat.lt_or_ge (Lib.compact L).length L.length with q | q
  ·exact q
  ·exfalso
   apply hn
   have hall : ∀ j, j < L.length → Lib.keeps L.toArray j = true := by
    intro j hj
    have hf : ((List.range L.length).filter (Lib.keeps L.toArray)).length = (List.range L.length).length := by
     have h3 : (Lib.compact L).length = ((List.range L.length).filter (Lib.keeps L.toArray)).length := by simp [Lib.compact, Lib.compactUpTo]
     have h4 := List.length_filter_le (Lib.keeps L.toArray) (List.range L.length)
     rw [List.length_range] at h4 ⊢
     omega
    exact (List.length_filter_eq_length_iff.1 hf) j (by simpa using hj)
   have hc := Lib.compact_all L hall
   have h5 : So (Lib.compact L) := so_inc h1
   rw [hc] at h5
   exact setT_id h5
theorem nan_p (x : Tx) : Pur M 172 [.str x] (.bool false) := by
 refine k172.ok (C := C172) rfl rfl ?_
 rw [i172]
 unfold c172
 have hb : (x == x) = true := by simp
 repeat' (first | with_reducible (apply swq; constructor) | simp only [go_sem, seval, P172, q172, hb, Bool.not_true] | with_reducible intro _)
 all_goals simp [D.closed, D.er]
theorem less_p (x y : Tx) : Pur M 146 [.str x, .str y] (.bool (lt x y)) := by
 refine k146.ok (C := C146) rfl rfl ?_
 rw [i146]
 unfold c146
 have c1 := nan_p x
 have wQ := tw; repeat' (first | with_reducible (apply swq; constructor) | simp only [go_sem, seval, P146, q146] | ((with_reducible refine zAc (c1) ?he ?hc ?_); (case he | hc => exact sc wQ)) | with_reducible intro _)
 all_goals simp [D.closed, D.er]
theorem isSorted_p (L : List Tx) (hL : L.length ≤ 1000000) (b : Bool) (hb : b = true ↔ issK L) : Pur M 119 [.slice (strs L) .no] (.bool b) := by
 refine k119.ok (C := C119) rfl rfl ?_
 rw [i119]
 unfold c119
 have hsl := zAk L
 have hget : ∀ (j : Nat) (h : j < L.length), (strs L).getD j .u0 = .str L[j] := fun j h => zBt h
 generalize strs L = K at *
 repeat' (first | with_reducible (apply swq; constructor) | simp only [go_sem, seval, P119, q119] | simp (disch := omega) only [wA] | with_reducible intro _)
 all_goals try omega
 refine zAs [0, 2] (fun d : Nat => ⟨[.slice K .no, .u0, .int .i64 ((L.length : Int) - 1 - d), .u0, .u0], [], ⟨[], []⟩⟩)
  (fun d => (d = 0 ∨ d + 1 ≤ L.length) ∧ ∀ i (h : i + 1 < L.length), L.length - d ≤ i + 1 → lt L[i + 1] (L[i]'(by omega)) = false) (fun d => L.length - d) 0 ⟨.inl rfl, fun i h h2 => by omega⟩ ?_ ?_
 ·simp [keepE, St.keep, hsl]
 ·rintro d ⟨g1, g2⟩
  by_cases hlt : d + 1 < L.length
  ·obtain ⟨i, hi⟩ : ∃ i, i + 1 + d + 1 = L.length := ⟨L.length - d - 2, by omega⟩
   have e1 : (L.length : Int) - 1 - d = ((i + 1 : Nat) : Int) := by omega
   have e2 : ((i + 1 : Nat) : Int) - 1 = (i : Int) := by omega
   have e3 : ((i + 1 : Nat) : Int).toNat = i + 1 := Int.toNat_natCast _
   have e4 : ((i : Nat) : Int).toNat = i := Int.toNat_natCast _
   rw [e1]
   have k1 := hget (i + 1) (by omega)
   have k2 := hget i (by omega)
   have c1 := less_p (L[i + 1]'(by omega)) (L[i]'(by omega))
   cases hx : lt (L[i + 1]'(by omega)) (L[i]'(by omega)) with
   | true =>
     have hbf : b = false := by
      cases b with
      | false => rfl
      | true => have := (hb.1 rfl) i (by omega); rw [hx] at this; cases this
     rw [hx] at c1
     rw [hbf]
     have wQ := tw; repeat' (first | with_reducible (apply swq; constructor) | simp only [go_sem, seval, P119, q119, e2, e3, e4, k1, k2] | simp (disch := omega) only [wA] | ((with_reducible refine zAc (c1) ?he ?hc ?_); (case he | hc => exact sc wQ)) | with_reducible (apply cdA; constructor) | ((with_reducible refine And.intro ?hw ?_); (case hw => exact sw wQ)) | with_reducible intro _)
     all_goals try omega
     all_goals simp [D.closed, D.er]
   | false =>
     rw [hx] at c1
     have wQ := tw; repeat' (first | with_reducible (apply swq; constructor) | simp only [go_sem, seval, P119, q119, e2, e3, e4, k1, k2] | simp (disch := omega) only [wA] | ((with_reducible refine zAc (c1) ?he ?hc ?_); (case he | hc => exact sc wQ)) | with_reducible (apply cdA; constructor) | ((with_reducible refine And.intro ?hw ?_); (case hw => exact sw wQ)) | with_reducible intro _)
     all_goals try omega
     refine ⟨d + 1, ⟨.inr (by omega), fun j hj h2 => ?_⟩, by omega, ?_⟩
     ·by_cases ej : j = i
      ·subst ej; exact hx
      ·exact g2 j hj (by omega)
     ·simp [keepE, St.keep]; omega
  ·have hbt : b = true := hb.2 fun i hi => g2 i hi (by omega)
   rw [hbt]
   have hle : ¬ ((L.length : Int) - 1 - d > 0) := by omega
   have wQ := tw; repeat' (first | with_reducible (apply swq; constructor) | simp only [go_sem, seval, P119, q119] | simp (disch := omega) only [wA] | with_reducible (apply cdA; constructor) | ((with_reducible refine And.intro ?hw ?_); (case hw => exact sw wQ)) | with_reducible intro _)
   all_goals try omega
   all_goals simp [D.closed, D.er]
end Go.Proofs.YtkobjnpmjngklaaGreatDoor
end
section
set_option maxRecDepth 100000
set_option linter.unusedSimpArgs false
set_option linter.unusedVariables false
namespace Go.Proofs.YtkobjnpmjngklaaGreatDoor
open Go GoV
theorem zGp {M : Mod} {f : FuncId} {args : List D} {hp : Hp} {R : D → Hp → Prop} (n m : Nat) (hn : hp.H.length ≤ n) (hm : hp.tk.length ≤ m) (h : Eff M f args hp fun d h => R (d.rn (cutF n) (cutF m)) (h.cut n m)) : Eff M f args hp R := by
 refine ⟨h.1, fun w g xs hA hh hr => Calls.mono (h.2 w g xs hA hh hr) fun e w' ⟨v, d, hp', g', e1, e2, h1, h2⟩ => ?_⟩
 exact ⟨v, _, _, g'.cut n m, e1, e2, h1.cut n m (by rw [← hh.len]; exact hn) (by rw [← hh.lent]; exact hm), Rel.rn _ (Ren.cut g' n m) h2⟩
def crows (l : List Tx) : List (List D) := (List.range (l.length / 2)).map fun k => [.slice [.str (l.getD (2 * k) []), .str (l.getD (2 * k + 1) [])] .no]
theorem crows_len (l : List Tx) : (crows l).length = l.length / 2 := by simp [crows]
theorem crows_get {l : List Tx} {k : Nat} (h : k < l.length / 2) : (crows l)[k]? = some [.slice [.str (l.getD (2 * k) []), .str (l.getD (2 * k + 1) [])] .no] := by simp [crows, h]
theorem pair_of {l : List Tx} {k : Nat} (h : 2 * k + 1 < l.length) : ((strs l).take (2 * k + 2)).drop (2 * k) = [.str (l.getD (2 * k) []), .str (l.getD (2 * k + 1) [])] := by
 have h1 : (strs l).length = l.length := zAk l
 rw [List.take_succ_eq_append_getElem (by omega), List.take_succ_eq_append_getElem (by omega), List.append_assoc, List.drop_append]
 simp [strs, List.getD, h, show 2 * k < l.length by omega, Nat.min_eq_left (show 2 * k ≤ l.length by omega)]
theorem chunk_p (L : List Tx) : Pur M 118 [.slice (strs L) .no, .int .i64 2] (.fn (.func 145) [] [.ip [.slice (strs L) .no], .ip [.int .i64 2]]) := by
 refine k118.ow (C := C118) rfl rfl ?_
 rw [i118]
 unfold c118
 have hcl := zAv L
 have her := zA3 L
 generalize strs L = K at *
 repeat' (first | with_reducible (apply swq; constructor) | simp only [go_sem, seval, P118, q118] | with_reducible intro _)
 all_goals try omega
 refine ⟨_, zCz (zB2 [4]) (zCz (zE7 0 [.slice K .no] rfl (Nat.le_refl 0) (by simp [D.cL, D.closed, hcl])) (zE7 1 [.int .i64 2] (by simp [St.frz, keepE, Blk.mapD, D.fz]) (Nat.zero_le _) (by simp [D.cL, D.closed]))), ?_⟩
 simp [St.frz, keepE, D.fz, D.fzL, D.closed, D.er, D.cL, D.erL, Blk.mapD, hcl, her]
set_option maxHeartbeats 1000000 in
theorem chunk_it (l : List Tx) (hl : l.length ≤ 1000000) (he : l.length % 2 = 0) (hpk : Nat → Hp) : Iter2 M 145 [.ip [.slice (strs l) .no], .ip [.int .i64 2]] (crows l) hpk (fun k => hpk (k + 1)) := by
 refine zEh (C := E145 0 0) (fn := Tryz.f145) Tryz.func145 (by kernel_rfl) (by kernel_rfl) (rc := c145) z145 (by kernel_rfl) (by kernel_rfl) rfl (show 3 ≤ 31 by decide) (fun b y hY => ?_)
 rw [ie145]
 unfold c145
 have hsl : (strs l).length = l.length := zAk l
 have hlen := crows_len l
 rw [hlen]
 have hel := zBk l
 repeat' (first | with_reducible (apply swq; constructor) | simp only [go_sem, seval, atB_M, pe145] | with_reducible intro _)
 refine zAs [0, 1, 2, 3] (fun j : Nat => ⟨[yldD y, .ip [.slice (strs l) .no], .ip [.int .i64 2], .int .i64 (2 * j : Nat), .u0, .u0, .u0], [], hpk j⟩)
  (fun j => j ≤ l.length / 2) (fun j => l.length / 2 - j) 0 (by omega) ?_ ?_
 ·simp [keepE, St.keep]
 ·intro j hj
  by_cases hlt : j < l.length / 2
  ·have h8 : YOk (M.with b) y _ (hpk j) (hpk (j + 1)) := hY j _ (crows_get hlt)
   have hpr := pair_of (l := l) (k := j) (by omega)
   have t1 : ((2 * j : Nat) : Int).toNat = 2 * j := Int.toNat_natCast _
   have t2 : (((2 * j : Nat) : Int) + 2).toNat = 2 * j + 2 := by omega
   generalize l.getD (2 * j) [] = p at *
   generalize l.getD (2 * j + 1) [] = q at *
   generalize strs l = L at *
   generalize hn : l.length = n at *
   have t3 : (L.drop (2 * j)).length = n - 2 * j := by simp; omega
   have tm : (if ((n - 2 * j : Nat) : Int) < 2 then ((n - 2 * j : Nat) : Int) else 2) = 2 := by split <;> omega
   have wQ := And.intro @hsl (And.intro @t3 @hel); repeat' (first | with_reducible (apply swq; constructor) | simp only [go_sem, seval, atB_M, pe145, t1, t2, hpr, hsl, t3, tm] | simp (disch := omega) only [wA] | ((with_reducible refine o_yield (h8) ?he ?hh ?_); (case he => first | rfl | (simp [hsl, t3, hel]; done)); (case hh => first | rfl | assumption | (simp [hsl, t3, hel]; done))) | ((with_reducible apply t_slTF); (case h0 | h1 | hx => exact sd wQ)) | ((with_reducible apply s_sl3); (case h0 | h1 | h2 | h3 | hx => exact sd wQ)) | with_reducible (apply cdA; constructor) | with_reducible intro _)
   all_goals first
    | omega
    | (exfalso; omega)
    | skip
   refine ⟨j + 1, by omega, by omega, ?_⟩
   simp [keepE, St.keep]
   try omega
  ·have e : j = l.length / 2 := by omega
   subst e
   have wQ := @hsl; repeat' (first | with_reducible (apply swq; constructor) | simp only [go_sem, seval, atB_M, pe145, hsl] | simp (disch := omega) only [wA] | ((with_reducible apply t_slTF); (case h0 | h1 | hx => exact sd wQ)) | ((with_reducible apply s_sl3); (case h0 | h1 | h2 | h3 | hx => exact sd wQ)) | with_reducible (apply cdA; constructor) | with_reducible intro _)
   all_goals first
    | omega
    | (exfalso; omega)
    | exact ⟨_, zAa, rfl⟩
theorem puts_fam : ∀ (ps : KV) {l : List Tri} {c : Nat} {m : KV}, MpOk l c m → ∃ f : Nat → List Tri × Nat, f 0 = (l, c) ∧
 (∀ k (h : k < ps.length), putM (entT (f k).1) (f k).2 (.str ps[k].1) (.str ps[k].2) = .map (entT (f (k + 1)).1) (f (k + 1)).2) ∧ MpOk (f ps.length).1 (f ps.length).2 (ps.foldl (fun m p => insK p.1 p.2 m) m)
 | [], l, c, m, h => ⟨fun _ => (l, c), rfl, fun k hk => by simp at hk, h⟩
 | p :: ps, l, c, m, h => by
   obtain ⟨l', c', h1, h2⟩ := h.put p.1 p.2
   obtain ⟨f, g1, g2, g3⟩ := puts_fam ps h2
   refine ⟨fun | 0 => (l, c) | k + 1 => f k, rfl, fun k hk => ?_, g3⟩
   cases k with
   | zero => simp only [List.getElem_cons_zero, g1]; exact h1
   | succ k => exact g2 k (by simpa using hk)
theorem pairsT_len : ∀ (n : Nat) (l : List Tx), l.length = 2 * n → (zBj l).length = n ∧ ∀ k (h : k < (zBj l).length), (zBj l)[k] = (l.getD (2 * k) [], l.getD (2 * k + 1) [])
 | 0, l, h => by
   have : l = [] := List.eq_nil_of_length_eq_zero (by omega)
   subst this
   exact ⟨rfl, fun k h => by simp [zBj] at h⟩
 | n + 1, [], h => by simp at h
 | n + 1, [a], h => by simp at h; omega
 | n + 1, a :: b :: r, h => by
   obtain ⟨h1, h2⟩ := pairsT_len n r (by simp at h; omega)
   refine ⟨by simp [zBj, h1], fun k hk => ?_⟩
   cases k with
   | zero => rfl
   | succ k =>
     have := h2 k (by simpa [zBj] using hk)
     simp only [zBj, List.getElem_cons_succ]
     rw [this, show 2 * (k + 1) = 2 * k + 1 + 1 by omega, show 2 * k + 1 + 1 + 1 = (2 * k + 1) + 1 + 1 by omega]
     simp only [List.getD_cons_succ]
end Go.Proofs.YtkobjnpmjngklaaGreatDoor
end
section
set_option maxRecDepth 100000
set_option linter.unusedSimpArgs false
set_option linter.unusedVariables false
namespace Go.Proofs.YtkobjnpmjngklaaGreatDoor
open Go GoV
def RpR (o : Option KV) (l : List Tri) (c : Nat) (d : D) (h : Hp) : Prop := match o with
 | none => d = .bool false ∧ h = ⟨[.map (entT l) c], []⟩
 | some m' => d = .bool true ∧ ∃ l' c', h = ⟨[.map (entT l') c'], []⟩ ∧ MpOk l' c' m'
theorem splitK_le {t : Tx} {l : List Tx} (h : zCe t = some l) : l.length ≤ t.length ∧ ∀ s ∈ l, s.length ≤ t.length := split_le _ h
theorem textK_le {put : KV} {drop : List Tx} (h1 : put.length ≤ 1000000) (h2 : drop.length ≤ 1000000) (h3 : ∀ p ∈ put, p.1.length ≤ 1000000 ∧ p.2.length ≤ 1000000) (h4 : ∀ k ∈ drop, k.length ≤ 1000000) : (textK put drop).length ≤ 10000000000000 := by
 have hs : ∀ s ∈ listK put drop, s.length ≤ 1000000 := by
  intro s hs
  have hi : ∀ n : Nat, n ≤ 1000000 → (itK n).length ≤ 1000000 := fun n hn => Nat.le_trans (itK_le (n := n) (w := 7) (by omega) (by omega)) (by omega)
  simp only [listK, List.cons_append, List.mem_cons, List.mem_append] at hs
  rcases hs with q | q | q | q
  ·subst q; exact hi _ h1
  ·obtain ⟨p, hp, e⟩ := flatKV_mem q
   have := h3 p hp
   rcases e with e | e <;> subst e <;> omega
  ·subst q; exact hi _ h2
  ·exact h4 s q
 have hl : (listK put drop).length ≤ 3000002 := by simp [listK, zBb]; omega
 have := joinK_le (B := 1000000) (by omega) (listK put drop) hs
 have h5 : (listK put drop).length * (1000000 + 19) ≤ 3000002 * (1000000 + 19) := Nat.mul_le_mul_right _ hl
 rw [zD2, zB5]
 have h6 := itK_le (n := (joinK (listK put drop)).length) (w := 18) (by omega) (by omega)
 simp only [joinK, List.map_nil, List.flatten_nil, List.append_nil, List.length_append, List.length_cons]
 unfold joinK at h6 this
 omega
theorem ins_len {k v : Tx} : ∀ (m : KV), (insK k v m).length ≤ m.length + 1
 | [] => by simp [insK]
 | q :: r => by
   rw [insK]
   split
   ·simp
   ·split
    ·simp
    ·have := ins_len (k := k) (v := v) r
     simp; omega
theorem zGm : ∀ (ps m : KV), (ps.foldl (fun m p => insK p.1 p.2 m) m).length ≤ m.length + ps.length
 | [], m => by simp
 | p :: ps, m => by
   have h1 := zGm ps (insK p.1 p.2 m)
   have h2 := ins_len (k := p.1) (v := p.2) m
   rw [List.foldl_cons, List.length_cons]; omega
theorem ins_sub {k v : Tx} : ∀ {m : KV} {p : Tx × Tx}, p ∈ insK k v m → p = (k, v) ∨ p ∈ m
 | [], p, h => by simpa [insK] using h
 | q :: r, p, h => by
   rw [insK] at h
   split at h
   ·rcases List.mem_cons.1 h with e | e
    ·exact .inl e
    ·exact .inr (List.mem_cons_of_mem _ e)
   ·split at h
    ·rcases List.mem_cons.1 h with e | e
     ·exact .inl e
     ·exact .inr e
    ·rcases List.mem_cons.1 h with e | e
     ·exact .inr (by rw [e]; simp)
     ·rcases ins_sub e with g | g
      ·exact .inl g
      ·exact .inr (List.mem_cons_of_mem _ g)
theorem foldK_sub : ∀ {ps m : KV} {p : Tx × Tx}, p ∈ ps.foldl (fun m p => insK p.1 p.2 m) m → p ∈ ps ∨ p ∈ m
 | [], m, p, h => .inr h
 | q :: ps, m, p, h => by
   rcases foldK_sub (ps := ps) h with g | g
   ·exact .inl (List.mem_cons_of_mem _ g)
   ·rcases ins_sub g with e | e
    ·exact .inl (by rw [e]; simp)
    ·exact .inr e
theorem pairsT_sub : ∀ {l : List Tx} {p : Tx × Tx}, p ∈ zBj l → p.1 ∈ l ∧ p.2 ∈ l
 | [], p, h => by simp [zBj] at h
 | [a], p, h => by simp [zBj] at h
 | a :: b :: r, p, h => by
   rcases List.mem_cons.1 h with e | e
   ·subst e; simp
   ·have := pairsT_sub e
    exact ⟨by simp [this.1], by simp [this.2]⟩
def rpK (m : KV) (c : Tx) (t : List Tx) (n : Nat) : Option KV :=
 if (ofL (zBj (t.take (2 * n)))).length + (t.drop (2 * n + 1)).length ≠ 0 ∧ zAr (ofL (zBj (t.take (2 * n)))) (t.drop (2 * n + 1)) = 0 ∧ textK (ofL (zBj (t.take (2 * n)))) (t.drop (2 * n + 1)) = joinK [c] ∧ setT (t.drop (2 * n + 1)) = t.drop (2 * n + 1)
 then some (zA9 m (ofL (zBj (t.take (2 * n)))) (t.drop (2 * n + 1))) else none
theorem replay_eq {m : KV} {c a : Tx} {t : List Tx} {n : Nat} (h1 : zCe c = some (a :: t)) (h2 : atK a = some n) (h3 : n ≤ (t.length + 1) / 2) (h4 : 2 * n + 1 ≤ t.length) : zAo m c = rpK m c t n := by
 unfold zAo rpK
 rw [h1]
 simp only [h2]
 rw [if_pos ⟨h3, h4⟩]
def hpP (l : List Tri) (cl : Nat) (f : Nat → List Tri × Nat) (k : Nat) : Hp := ⟨[.map (entT l) cl, .map (entT (f k).1) (f k).2, .cells [.mp 1]], []⟩
set_option maxHeartbeats 8000000 in
theorem replay_e {l : List Tri} {cl : Nat} {m : KV} (hm : MpOk l cl m) (c : Tx) (hc : c.length ≤ 1000000) :
 Eff M 89 [.mp 0, .str c] ⟨[.map (entT l) cl], []⟩ (RpR (zAo m c) l cl) := by
 refine zGp 1 0 (Nat.le_refl 1) (Nat.le_refl 0) (zEy (C := E89 1 0) (fn := Tryz.f89) Tryz.func89 (by kernel_rfl) (by kernel_rfl) (rc := c89) z89 (rs := q89) zr89 (by kernel_rfl) rfl (show 2 ≤ 111 by decide) rfl rfl ?_)
 rw [ie89]
 unfold c89
 have hE := fun β τ => zAl β τ l
 have c1 := split_p c hc
 cases hs : zCe c with
 | none =>
   have hr : zAo m c = none := by unfold zAo; rw [hs]
   rw [hs] at c1
   simp only [splD] at c1
   generalize hEl : entT l = E at *
   have wQ := @hE; repeat' (first | with_reducible (apply swq; constructor) | with_reducible apply zBv | ((with_reducible refine zBw ?hb ?_); (case hb => exact fun _ _ => trivial); with_reducible intro _) | ((with_reducible refine zBs ?hb ?_); (case hb => exact fun _ _ => trivial); with_reducible intro _) | simp only [go_sem, seval, pe89, q89, zAp] | ((with_reducible refine zAc (c1) ?he ?hc ?_); (case he | hc => exact sc wQ)) | with_reducible intro _)
   all_goals try omega
   refine ⟨_, fun _ => zAa, ?_⟩
   rw [hr]
   simp [RpR, Hp.cut, Blk.rnL, rM, Tv.rnL, D.rn, hE, hEl]
 | some L =>
   rw [hs] at c1
   simp only [splD] at c1
   obtain ⟨hll, hel⟩ := splitK_le hs
   cases L with
   | nil =>
     have hr : zAo m c = none := by unfold zAo; rw [hs]
     have c1 : Pur M 87 [.str c] (.tup [.slice [] .no, .bool true]) := c1
     generalize hEl : entT l = E at *
     have wQ := @hE; repeat' (first | with_reducible (apply swq; constructor) | with_reducible apply zBv | ((with_reducible refine zBw ?hb ?_); (case hb => exact fun _ _ => trivial); with_reducible intro _) | ((with_reducible refine zBs ?hb ?_); (case hb => exact fun _ _ => trivial); with_reducible intro _) | simp only [go_sem, seval, pe89, q89, zAp] | simp (disch := omega) only [wA] | ((with_reducible refine zAc (c1) ?he ?hc ?_); (case he | hc => exact sc wQ)) | (with_reducible (apply cdA; constructor)) | ((with_reducible refine And.intro ?hw ?_); (case hw => exact sw wQ)) | with_reducible intro _)
     all_goals try omega
     refine ⟨_, fun _ => zAa, ?_⟩
     rw [hr]
     simp [RpR, Hp.cut, Blk.rnL, rM, Tv.rnL, D.rn, hE, hEl]
   | cons a t =>
     have c2 := atoi_p a (by have := hel a (by simp); omega)
     have hsl := zAk (a :: t)
     have hg0 : (strs (a :: t)).getD 0 .u0 = .str a := rfl
     have hss := zBk (a :: t)
     simp only [List.length_cons] at hsl hll
     cases hk : atK a with
     | none =>
       have hr : zAo m c = none := by unfold zAo; rw [hs]; simp only [hk]
       rw [hr]
       generalize hEl : entT l = E at *
       generalize strs (a :: t) = K at *
       rcases atK_none hk with h1 | ⟨h1, h2⟩
       iterate 2
        ·rw [h1] at c2
         generalize atv a = v at *
         have wQ := And.intro @hE @hsl; repeat' (first | with_reducible (apply swq; constructor) | with_reducible apply zBv | ((with_reducible refine zBw ?hb ?_); (case hb => exact fun _ _ => trivial); with_reducible intro _) | ((with_reducible refine zBs ?hb ?_); (case hb => exact fun _ _ => trivial); with_reducible intro _) | simp only [go_sem, seval, pe89, q89, hsl, hg0, zAp] | simp (disch := omega) only [wA] | ((with_reducible refine zAc (c1) ?he ?hc ?_); (case he | hc => exact sc wQ)) | ((with_reducible refine zAc (c2) ?he ?hc ?_); (case he | hc => exact sc wQ)) | (with_reducible first | (apply cdA; constructor) | (apply gdA; constructor)) | ((with_reducible refine And.intro ?hw ?_); (case hw => exact sw wQ)) | with_reducible intro _)
         all_goals try omega
         refine ⟨_, fun _ => zAa, ?_⟩
         simp [RpR, Hp.cut, Blk.rnL, rM, Tv.rnL, D.rn, hE, hEl]
     | some n =>
       obtain ⟨h1, h2⟩ := atK_some hk
       have h3 := atK_bd hk
       rw [h1, h2] at c2
       have e1 : ((t.length + 1 : Nat) : Int).tdiv 2 = (((t.length + 1) / 2 : Nat) : Int) := by rw [Int.tdiv_eq_ediv_of_nonneg (by omega)]; omega
       by_cases g1 : n ≤ (t.length + 1) / 2
       ·by_cases g2 : 2 * n + 1 ≤ t.length
        ·rw [replay_eq hs hk g1 g2]
         have q1 : (2 * (n : Int) + 1).toNat = 2 * n + 1 := by omega
         have q2 : (2 * (n : Int) + 2).toNat = 2 * n + 2 := by omega
         have hT1 : ((strs (a :: t)).take (2 * n + 1)).drop 1 = strs (t.take (2 * n)) := by rw [strs_take, strs_drop]; rfl
         have hT2 : (strs (a :: t)).drop (2 * n + 2) = strs (t.drop (2 * n + 1)) := by rw [strs_drop]; rfl
         have c3 := chunk_p (t.take (2 * n))
         have htl : (t.take (2 * n)).length = 2 * n := by rw [List.length_take]; omega
         obtain ⟨f, f0, f1, f2⟩ := puts_fam (zBj (t.take (2 * n))) mp_nil
         obtain ⟨pl, pg⟩ := pairsT_len n (t.take (2 * n)) htl
         have hit := chunk_it (t.take (2 * n)) (by omega) (by omega) (hpP l cl f)
         rw [pl] at f2
         have f2 : MpOk (f n).1 (f n).2 (ofL (zBj (t.take (2 * n)))) := f2
         have hrl : (crows (t.take (2 * n))).length = n := by rw [crows_len, htl]; omega
         have hcl := zAv (t.take (2 * n))
         have her := zA3 (t.take (2 * n))
         have hdl : (t.drop (2 * n + 1)).length = t.length - (2 * n + 1) := List.length_drop ..
         have hds := zAk (t.drop (2 * n + 1))
         have hdc := zAv (t.drop (2 * n + 1))
         have hde := zA3 (t.drop (2 * n + 1))
         have hPl : (ofL (zBj (t.take (2 * n)))).length ≤ n := by have := zGm (zBj (t.take (2 * n))) []; rw [pl] at this; unfold ofL; simpa using this
         have hPs : ∀ p ∈ ofL (zBj (t.take (2 * n))), p.1.length ≤ 1000000 ∧ p.2.length ≤ 1000000 := fun p hp => by
          rcases foldK_sub (ps := zBj (t.take (2 * n))) hp with g | g
          ·have := pairsT_sub g
           have k1 := hel p.1 (List.mem_cons_of_mem _ (List.mem_of_mem_take this.1))
           have k2 := hel p.2 (List.mem_cons_of_mem _ (List.mem_of_mem_take this.2))
           omega
          ·simp at g
         have hDs : ∀ k ∈ t.drop (2 * n + 1), k.length ≤ 1000000 := fun k hk => by have := hel k (List.mem_cons_of_mem _ (List.mem_of_mem_drop hk)); omega
         have hTl := textK_le (put := ofL (zBj (t.take (2 * n)))) (drop := t.drop (2 * n + 1)) (by omega) (by omega) hPs hDs
         have hfl : (f n).1.length ≤ 1000000 := by rw [f2.len]; omega
         have hfk : ∀ t' ∈ (f n).1, t'.1.length ≤ 1000000 := fun t' ht' => (hPs _ ((f2.mem _).1 (List.mem_map_of_mem ht'))).1
         have k1 := wrong_e f2 (t.drop (2 * n + 1)) (by omega)
         have k2 := text_e f2 (t.drop (2 * n + 1)) hfk hfl (by omega) hTl
         have k3 : Pur M 99 [.slice [.str c] .no] (.str (joinK [c])) := zGj [c] (by rw [zB5]; have := itK_le (n := c.length) (w := 18) (by omega) (by omega); simp only [joinK, List.map_nil, List.flatten_nil, List.append_nil, List.length_append, List.length_cons]; omega)
         have k6 := apply_e hm f2 (t.drop (2 * n + 1)) (by omega)
         have hE2 := fun β τ => zAl β τ (f n).1
         have hE3 := fun β τ => zAl β τ
         have hF := f2.len
         have hFl := entT_len (f n).1
         generalize hKK : strs (a :: t) = K at *
         generalize hTT : strs (t.take (2 * n)) = TT at *
         have wQ := And.intro @hE (And.intro @hsl (And.intro @hss (And.intro @hcl @her))); repeat' (first | with_reducible (apply swq; constructor) | with_reducible apply zBv | with_reducible apply twp_block | ((with_reducible refine zBw ?hb ?_); (case hb => exact fun _ _ => trivial); with_reducible intro _) | ((with_reducible refine zBs ?hb ?_); (case hb => exact fun _ _ => trivial); with_reducible intro _) | simp only [go_sem, seval, pe89, q89, hsl, hg0, e1, q1, hT1, zAp] | simp (disch := omega) only [wA] | ((with_reducible refine zAc (c1) ?he ?hc ?_); (case he | hc => exact sc wQ)) | ((with_reducible refine zAc (c2) ?he ?hc ?_); (case he | hc => exact sc wQ)) | ((with_reducible refine zAc (c3) ?he ?hc ?_); (case he | hc => exact sc wQ)) | ((with_reducible apply s_slTT); (case h0 | h1 | h2 | hx => exact sd wQ)) | (with_reducible first | (apply cdA; constructor) | (apply gdA; constructor)) | ((with_reducible refine And.intro ?hw ?_); (case hw => exact sw wQ)) | with_reducible intro _)
         all_goals try omega
         have h0 : hpP l cl f 0 = ⟨[.map (entT l) cl, .map [] 0, .cells [.mp 1]], []⟩ := by unfold hpP; rw [f0]; rfl
         rw [← h0]
         refine twp_range2 (fun _ _ => trivial) (hpP l cl f) (fun k => hpP l cl f (k + 1)) hit rfl ?_ rfl ?_ ?_
         ·intro r hr
          obtain ⟨k, _, rfl⟩ := List.mem_map.1 hr
          rfl
         ·intro k r hk
          have hlt : k < n := by rw [← hrl]; exact zAd hk
          rw [crows_get (by omega)] at hk
          cases hk
          have h5 := f1 k (by omega)
          have h6 := pg k (by omega)
          rw [h6] at h5
          dsimp only at h5
          have hko := zDq (f k).1
          unfold hpP
          generalize (t.take (2 * n)).getD (2 * k) [] = kx at *
          generalize (t.take (2 * n)).getD (2 * k + 1) [] = vx at *
          simp only [binds]
          have wQ := tw; repeat' (first | with_reducible (apply swq; constructor) | simp only [go_sem, seval, pe89, q89, zAp] | ((with_reducible apply s_mpu); (case h1 | hk => rfl); (case ha | hp => first | rfl | assumption)) | ((with_reducible refine And.intro ?hw ?_); (case hw => exact sw wQ)) | with_reducible intro _)
          all_goals try omega
          exact ⟨_, zAa, by simp [h5]⟩
         ·rw [hrl]
          unfold hpP rpK
          clear hit h0 f1 f0 pg
          have hDr : (t.drop (2 * n + 1)).length ≤ 1000000 := by omega
          have hPn : (ofL (zBj (t.take (2 * n)))).length ≤ 1000000 := by omega
          have hcl0 := fun h => clone_e (t.drop (2 * n + 1)) hDr h
          have hcE := fun cap (hc : (t.drop (2 * n + 1)).length ≤ cap) => compact_e (t.drop (2 * n + 1)) (und (cap - (t.drop (2 * n + 1)).length)) (t.drop (2 * n + 1)).length cap rfl (by rw [und_len]; omega) hDr
          have hrsu := fun β τ u => zGc β τ (t.drop (2 * n + 1)) u
          have hrsu2 := fun β τ u => zGc β τ (compS (t.drop (2 * n + 1))) u
          generalize (f n).1 = fl at *
          generalize (f n).2 = fc at *
          generalize ofL (zBj (t.take (2 * n))) = P at *
          generalize t.drop (2 * n + 1) = Dr at *
          rw [hF] at hFl
          generalize hwv : zAr P Dr = wv at *
          generalize htt : textK P Dr = tt at *
          generalize hjc : joinK [c] = jc at *
          generalize hel0 : entT l = E at *
          generalize hfl0 : entT fl = FE at *
          generalize strs (compS Dr) = CC at *
          generalize hDD : strs Dr = DD at *
          have q3 : ((P.length : Nat) : Int) + ((Dr.length : Nat) : Int) = ((P.length + Dr.length : Nat) : Int) := by omega
          have hbs : ∀ (b : Bool), (b = true ↔ issK Dr) → Pur M 119 [.slice DD .no] (.bool b) := fun b hb => by
           have := isSorted_p Dr hDr b hb
           rwa [hDD] at this
          by_cases gA : P.length + Dr.length = 0
          ·rw [if_neg (fun h => h.1 gA)]
           have hz : (((P.length + Dr.length : Nat) : Int) = 0) = True := eq_true (by omega)
           have wQ := And.intro @hE (And.intro @hE2 (And.intro @hss (And.intro @hsl (And.intro @hdc @hde)))); repeat' (first | with_reducible (apply swq; constructor) | with_reducible apply zBv | ((with_reducible refine zBw ?hb ?_); (case hb => exact fun _ _ => trivial); with_reducible intro _) | ((with_reducible refine zBs ?hb ?_); (case hb => exact fun _ _ => trivial); with_reducible intro _) | simp only [go_sem, seval, pe89, q89, hsl, q2, hT2, hds, hFl, q3, zAp] | simp (disch := omega) only [wA] | ((with_reducible apply s_slTF); (case h0 | h1 | hx => exact sd wQ)) | ((with_reducible apply zDb); (case h1 => rfl)) | (with_reducible (apply gdA; constructor)) | with_reducible intro _)
           all_goals try omega
           refine ⟨_, fun _ => zAa, ?_⟩
           simp [RpR, Hp.cut, Blk.rnL, rM, Tv.rnL, D.rn, hE, hel0]
          ·by_cases gB : wv = 0
           ·by_cases gC : tt = jc
            ·by_cases gD : issK Dr
             ·have k4 := hbs true (by simpa using gD)
              have hii := iss_iff gD
              have hb : (tt == jc) = true := by simpa using gC
              by_cases gE : setT Dr = Dr
              ·rw [if_pos ⟨gA, gB, gC, gE⟩]
               by_cases gN : Dr = []
               ·subst gN
                have hD0 : DD = [] := hDD.symm
                subst hD0
                have gA' : ¬ P.length = 0 := fun h => gA (by rw [h]; rfl)
                have k5 := clone_0
                have k7 := compact_0
                have wQ := And.intro @hE (And.intro @hE2 (And.intro @hss (And.intro @hsl (And.intro @hdc @hde)))); repeat' (first | with_reducible (apply swq; constructor) | with_reducible apply zBv | ((with_reducible refine zBw ?hb ?_); (case hb => exact fun _ _ => trivial); with_reducible intro _) | ((with_reducible refine zBs ?hb ?_); (case hb => exact fun _ _ => trivial); with_reducible intro _) | ((with_reducible refine twp_ret ?hb ?_); (case hb => exact fun _ _ => trivial)) | simp only [go_sem, seval, pe89, q89, hsl, q2, hT2, hds, hFl, q3, hb, Bool.not_true, Bool.not_false, zAp] | simp (disch := omega) only [wA] | ((with_reducible refine zAc (k3) ?he ?hc ?_); (case he | hc => exact sc wQ)) | ((with_reducible refine zAc (k4) ?he ?hc ?_); (case he | hc => exact sc wQ)) | ((with_reducible refine zAc (k5) ?he ?hc ?_); (case he | hc => exact sc wQ)) | ((with_reducible refine zAc (k7) ?he ?hc ?_); (case he | hc => exact sc wQ)) | ((with_reducible refine o_eff [1] [] (k1) ?hs ?he ?hh ?_); (case hs => exact so); (case he | hh => exact sh wQ); rintro _ _ ⟨rfl, rfl⟩) | ((with_reducible refine o_eff [1] [] (k2) ?hs ?he ?hh ?_); (case hs => exact so); (case he | hh => exact sh wQ); rintro _ _ ⟨rfl, rfl⟩) | ((with_reducible refine o_eff [0, 1] [] (k6) ?hs ?he ?hh ?_); (case hs => exact so); (case he | hh => exact sh wQ); rintro _ _ ⟨rfl, l', c', rfl, hm'⟩) | ((with_reducible apply s_bsl); (case he | hl | hc => exact sd wQ)) | ((with_reducible apply s_slTF); (case h0 | h1 | hx => exact sd wQ)) | ((with_reducible apply zDb); (case h1 => rfl)) | (with_reducible first | (apply cdA; constructor) | (apply gdA; constructor)) | with_reducible intro _)
                all_goals try omega
                exact ⟨_, fun _ => zAa, rfl, l', c', by simp [Hp.cut, Hp.back, putAt, bakF, Blk.rnL, rM, rC, Tv.rnL, D.rnL, D.rn, hE3], hm'⟩
               ·have hpos : 0 < Dr.length := List.length_pos_iff.2 gN
                have k5 := hcl0 hpos
                have hnl : ¬ ((Lib.compact Dr).length < Dr.length) := fun h => (hii.1 h) gE
                have wQ := And.intro @hE (And.intro @hE2 (And.intro @hss (And.intro @hsl (And.intro @hdc (And.intro @hde (And.intro @hrsu @hrsu2)))))); repeat' (first | with_reducible (apply swq; constructor) | with_reducible apply zBv | ((with_reducible refine zBw ?hb ?_); (case hb => exact fun _ _ => trivial); with_reducible intro _) | ((with_reducible refine zBs ?hb ?_); (case hb => exact fun _ _ => trivial); with_reducible intro _) | ((with_reducible refine twp_ret ?hb ?_); (case hb => exact fun _ _ => trivial)) | simp only [go_sem, seval, pe89, q89, hsl, q2, hT2, hds, hFl, q3, hb, Bool.not_true, Bool.not_false, zAp] | simp (disch := omega) only [wA] | ((with_reducible refine zAc (k3) ?he ?hc ?_); (case he | hc => exact sc wQ)) | ((with_reducible refine zAc (k4) ?he ?hc ?_); (case he | hc => exact sc wQ)) | ((with_reducible refine o_eff [] [] (k5) ?hs ?he ?hh ?_); (case hs => exact so); (case he | hh => exact sh wQ); rintro _ _ ⟨cap, hcap, rfl, rfl⟩) | ((with_reducible refine o_eff [3] [] ((hcE cap hcap)) ?hs ?he ?hh ?_); (case hs => exact so); (case he | hh => exact sh wQ); rintro _ _ ⟨rfl, rfl⟩) | ((with_reducible refine o_eff [1] [] (k1) ?hs ?he ?hh ?_); (case hs => exact so); (case he | hh => exact sh wQ); rintro _ _ ⟨rfl, rfl⟩) | ((with_reducible refine o_eff [1] [] (k2) ?hs ?he ?hh ?_); (case hs => exact so); (case he | hh => exact sh wQ); rintro _ _ ⟨rfl, rfl⟩) | ((with_reducible refine o_eff [0, 1] [] (k6) ?hs ?he ?hh ?_); (case hs => exact so); (case he | hh => exact sh wQ); rintro _ _ ⟨rfl, l', c', rfl, hm'⟩) | ((with_reducible apply s_bsl); (case he | hl | hc => exact sd wQ)) | ((with_reducible apply s_slTF); (case h0 | h1 | hx => exact sd wQ)) | ((with_reducible apply zDb); (case h1 => rfl)) | (with_reducible first | (apply cdA; constructor) | (apply gdA; constructor)) | with_reducible intro _)
                all_goals try omega
                exact ⟨_, fun _ => zAa, rfl, l', c', by simp [Hp.cut, Hp.back, putAt, bakF, Blk.rnL, rM, rC, Tv.rnL, D.rnL, D.rn, hE3], hm'⟩
              ·rw [if_neg (fun h => gE h.2.2.2)]
               have gN : Dr ≠ [] := fun e => by subst e; exact gE rfl
               have hpos : 0 < Dr.length := List.length_pos_iff.2 gN
               have k5 := hcl0 hpos
               have hnl : (Lib.compact Dr).length < Dr.length := hii.2 gE
               have wQ := And.intro @hE (And.intro @hE2 (And.intro @hss (And.intro @hsl (And.intro @hdc (And.intro @hde (And.intro @hrsu @hrsu2)))))); repeat' (first | with_reducible (apply swq; constructor) | with_reducible apply zBv | ((with_reducible refine zBw ?hb ?_); (case hb => exact fun _ _ => trivial); with_reducible intro _) | ((with_reducible refine zBs ?hb ?_); (case hb => exact fun _ _ => trivial); with_reducible intro _) | simp only [go_sem, seval, pe89, q89, hsl, q2, hT2, hds, hFl, q3, hb, Bool.not_true, Bool.not_false, zAp] | simp (disch := omega) only [wA] | ((with_reducible refine zAc (k3) ?he ?hc ?_); (case he | hc => exact sc wQ)) | ((with_reducible refine zAc (k4) ?he ?hc ?_); (case he | hc => exact sc wQ)) | ((with_reducible refine o_eff [] [] (k5) ?hs ?he ?hh ?_); (case hs => exact so); (case he | hh => exact sh wQ); rintro _ _ ⟨cap, hcap, rfl, rfl⟩) | ((with_reducible refine o_eff [3] [] ((hcE cap hcap)) ?hs ?he ?hh ?_); (case hs => exact so); (case he | hh => exact sh wQ); rintro _ _ ⟨rfl, rfl⟩) | ((with_reducible refine o_eff [1] [] (k1) ?hs ?he ?hh ?_); (case hs => exact so); (case he | hh => exact sh wQ); rintro _ _ ⟨rfl, rfl⟩) | ((with_reducible refine o_eff [1] [] (k2) ?hs ?he ?hh ?_); (case hs => exact so); (case he | hh => exact sh wQ); rintro _ _ ⟨rfl, rfl⟩) | ((with_reducible apply s_bsl); (case he | hl | hc => exact sd wQ)) | ((with_reducible apply s_slTF); (case h0 | h1 | hx => exact sd wQ)) | ((with_reducible apply zDb); (case h1 => rfl)) | (with_reducible first | (apply cdA; constructor) | (apply gdA; constructor)) | with_reducible intro _)
               all_goals try omega
               refine ⟨_, fun _ => zAa, ?_⟩
               simp [RpR, Hp.cut, Hp.back, putAt, bakF, Blk.rnL, rM, rC, Tv.rnL, D.rnL, D.rn, hE, hel0]
             ·have hni : ¬ setT Dr = Dr := fun e => gD (iss_so (by rw [← e]; exact setT_so Dr))
              rw [if_neg (fun h => hni h.2.2.2)]
              have k4 := hbs false (by simpa using gD)
              have hb : (tt == jc) = true := by simpa using gC
              have wQ := And.intro @hE (And.intro @hE2 (And.intro @hss (And.intro @hsl (And.intro @hdc @hde)))); repeat' (first | with_reducible (apply swq; constructor) | with_reducible apply zBv | ((with_reducible refine zBw ?hb ?_); (case hb => exact fun _ _ => trivial); with_reducible intro _) | ((with_reducible refine zBs ?hb ?_); (case hb => exact fun _ _ => trivial); with_reducible intro _) | simp only [go_sem, seval, pe89, q89, hsl, q2, hT2, hds, hFl, q3, hb, Bool.not_true, Bool.not_false, zAp] | simp (disch := omega) only [wA] | ((with_reducible refine zAc (k3) ?he ?hc ?_); (case he | hc => exact sc wQ)) | ((with_reducible refine zAc (k4) ?he ?hc ?_); (case he | hc => exact sc wQ)) | ((with_reducible refine o_eff [1] [] (k1) ?hs ?he ?hh ?_); (case hs => exact so); (case he | hh => exact sh wQ); rintro _ _ ⟨rfl, rfl⟩) | ((with_reducible refine o_eff [1] [] (k2) ?hs ?he ?hh ?_); (case hs => exact so); (case he | hh => exact sh wQ); rintro _ _ ⟨rfl, rfl⟩) | ((with_reducible apply s_bsl); (case he | hl | hc => exact sd wQ)) | ((with_reducible apply s_slTF); (case h0 | h1 | hx => exact sd wQ)) | ((with_reducible apply zDb); (case h1 => rfl)) | (with_reducible (apply gdA; constructor)) | with_reducible intro _)
              all_goals try omega
              refine ⟨_, fun _ => zAa, ?_⟩
              simp [RpR, Hp.cut, Hp.back, putAt, bakF, Blk.rnL, rM, rC, Tv.rnL, D.rnL, D.rn, hE, hel0]
            ·rw [if_neg (fun h => gC h.2.2.1)]
             have hb : (tt == jc) = false := by simpa using gC
             have wQ := And.intro @hE (And.intro @hE2 (And.intro @hss (And.intro @hsl (And.intro @hdc @hde)))); repeat' (first | with_reducible (apply swq; constructor) | with_reducible apply zBv | ((with_reducible refine zBw ?hb ?_); (case hb => exact fun _ _ => trivial); with_reducible intro _) | ((with_reducible refine zBs ?hb ?_); (case hb => exact fun _ _ => trivial); with_reducible intro _) | simp only [go_sem, seval, pe89, q89, hsl, q2, hT2, hds, hFl, q3, hb, Bool.not_true, Bool.not_false, zAp] | simp (disch := omega) only [wA] | ((with_reducible refine zAc (k3) ?he ?hc ?_); (case he | hc => exact sc wQ)) | ((with_reducible refine o_eff [1] [] (k1) ?hs ?he ?hh ?_); (case hs => exact so); (case he | hh => exact sh wQ); rintro _ _ ⟨rfl, rfl⟩) | ((with_reducible refine o_eff [1] [] (k2) ?hs ?he ?hh ?_); (case hs => exact so); (case he | hh => exact sh wQ); rintro _ _ ⟨rfl, rfl⟩) | ((with_reducible apply s_bsl); (case he | hl | hc => exact sd wQ)) | ((with_reducible apply s_slTF); (case h0 | h1 | hx => exact sd wQ)) | ((with_reducible apply zDb); (case h1 => rfl)) | (with_reducible (apply gdA; constructor)) | with_reducible intro _)
             all_goals try omega
             refine ⟨_, fun _ => zAa, ?_⟩
             simp [RpR, Hp.cut, Hp.back, putAt, bakF, Blk.rnL, rM, rC, Tv.rnL, D.rnL, D.rn, hE, hel0]
           ·rw [if_neg (fun h => gB h.2.1)]
            have wQ := And.intro @hE (And.intro @hE2 (And.intro @hss (And.intro @hsl (And.intro @hdc @hde)))); repeat' (first | with_reducible (apply swq; constructor) | with_reducible apply zBv | ((with_reducible refine zBw ?hb ?_); (case hb => exact fun _ _ => trivial); with_reducible intro _) | ((with_reducible refine zBs ?hb ?_); (case hb => exact fun _ _ => trivial); with_reducible intro _) | simp only [go_sem, seval, pe89, q89, hsl, q2, hT2, hds, hFl, q3, zAp] | simp (disch := omega) only [wA] | ((with_reducible refine o_eff [1] [] (k1) ?hs ?he ?hh ?_); (case hs => exact so); (case he | hh => exact sh wQ); rintro _ _ ⟨rfl, rfl⟩) | ((with_reducible apply s_slTF); (case h0 | h1 | hx => exact sd wQ)) | ((with_reducible apply zDb); (case h1 => rfl)) | (with_reducible (apply gdA; constructor)) | with_reducible intro _)
            all_goals try omega
            refine ⟨_, fun _ => zAa, ?_⟩
            simp [RpR, Hp.cut, Hp.back, putAt, bakF, Blk.rnL, rM, rC, Tv.rnL, D.rnL, D.rn, hE, hel0]
        ·have hr : zAo m c = none := by
          unfold zAo
          rw [hs]
          simp only [hk]
          rw [if_neg (fun h => g2 h.2)]
         rw [hr]
         generalize hEl : entT l = E at *
         generalize strs (a :: t) = K at *
         have wQ := And.intro @hE @hsl; repeat' (first | with_reducible (apply swq; constructor) | with_reducible apply zBv | ((with_reducible refine zBw ?hb ?_); (case hb => exact fun _ _ => trivial); with_reducible intro _) | ((with_reducible refine zBs ?hb ?_); (case hb => exact fun _ _ => trivial); with_reducible intro _) | simp only [go_sem, seval, pe89, q89, hsl, hg0, e1, zAp] | simp (disch := omega) only [wA] | ((with_reducible refine zAc (c1) ?he ?hc ?_); (case he | hc => exact sc wQ)) | ((with_reducible refine zAc (c2) ?he ?hc ?_); (case he | hc => exact sc wQ)) | ((with_reducible apply s_slTT); (case h0 | h1 | h2 | hx => exact sd wQ)) | (with_reducible first | (apply cdA; constructor) | (apply gdA; constructor)) | ((with_reducible refine And.intro ?hw ?_); (case hw => exact sw wQ)) | with_reducible intro _)
         all_goals try omega
         refine ⟨_, fun _ => zAa, ?_⟩
         simp [RpR, Hp.cut, Blk.rnL, rM, Tv.rnL, D.rn, hE, hEl]
       ·have hr : zAo m c = none := by
         unfold zAo
         rw [hs]
         simp only [hk]
         rw [if_neg (fun h => g1 h.1)]
        rw [hr]
        generalize hEl : entT l = E at *
        generalize strs (a :: t) = K at *
        have wQ := And.intro @hE @hsl; repeat' (first | with_reducible (apply swq; constructor) | with_reducible apply zBv | ((with_reducible refine zBw ?hb ?_); (case hb => exact fun _ _ => trivial); with_reducible intro _) | ((with_reducible refine zBs ?hb ?_); (case hb => exact fun _ _ => trivial); with_reducible intro _) | simp only [go_sem, seval, pe89, q89, hsl, hg0, e1, zAp] | simp (disch := omega) only [wA] | ((with_reducible refine zAc (c1) ?he ?hc ?_); (case he | hc => exact sc wQ)) | ((with_reducible refine zAc (c2) ?he ?hc ?_); (case he | hc => exact sc wQ)) | (with_reducible first | (apply cdA; constructor) | (apply gdA; constructor)) | ((with_reducible refine And.intro ?hw ?_); (case hw => exact sw wQ)) | with_reducible intro _)
        all_goals try omega
        refine ⟨_, fun _ => zAa, ?_⟩
        simp [RpR, Hp.cut, Blk.rnL, rM, Tv.rnL, D.rn, hE, hEl]
end Go.Proofs.YtkobjnpmjngklaaGreatDoor
end
section
set_option maxRecDepth 100000
set_option linter.unusedSimpArgs false
set_option linter.unusedVariables false
namespace Go.Proofs.YtkobjnpmjngklaaGreatDoor
open Go GoV
theorem logK_none {S : Sx} {size area i : Nat} (h : logK S size area i = none) : ∀ j, i ≤ j → logK S size area j = none
 | 0, hj => by have : i = 0 := by omega
               subst this; exact h
 | j + 1, hj => by
   by_cases e : i = j + 1
   ·subst e; exact h
   ·rw [logK, logK_none h j (by omega)]
theorem logK_le {S : Sx} {size area : Nat} : ∀ (i : Nat) (l : Tx), logK S size area i = some l → l.length ≤ 46 * i
 | 0, l, h => by simp only [logK, Option.some.injEq] at h; subst h; simp
 | i + 1, l, h => by
   rw [logK] at h
   cases q : logK S size area i with
   | none => rw [q] at h; cases h
   | some l' =>
     rw [q] at h
     dsimp only at h
     split at h
     ·cases h
     ·rename_i hne
      have h1 := logK_le i l' q
      have h2 := (pieK_some hne).2
      simp only [Option.some.injEq] at h
      subst h
      rw [List.length_append]; omega
theorem foldlM_take {cs : List Tx} {j : Nat} (h : j < cs.length) : (cs.take (j + 1)).foldlM zAo [] = ((cs.take j).foldlM zAo []).bind fun m => zAo m cs[j] := by
 rw [List.take_succ_eq_append_getElem h, List.foldlM_append]
 cases (cs.take j).foldlM zAo [] with
 | none => rfl
 | some m =>
   show ([cs[j]].foldlM zAo m) = zAo m cs[j]
   rw [List.foldlM_cons]
   show (zAo m cs[j]).bind (fun s' => some s') = _
   cases zAo m cs[j] <;> rfl
def LdR (o : Option KV) (n : Nat) (S : Sx) (s : Sto) (d : D) (h : Hp) : Prop := match o with
 | none => d = .bool false ∧ ∃ l' c', h = hpS n S s l' c'
 | some m => d = .bool true ∧ ∃ l' c', h = hpS n S s l' c' ∧ MpOk l' c' m
noncomputable def RR44 : RC := RC.seq (.seq (.reg r44_11) (.block 2 (.loop (.seq (.reg r44_12) (.seq (.cond (.v 15) .skip (.exit 2)) (.seq (.block 3 (.seq (.reg r44_13) (.reg r44_14))) (.reg r44_15))))))) (.seq (.reg r44_16) .ret)
theorem load_tail0 (B0 B1 B2 B3 : Blk) (Q : Ex → St → Prop) (hQ : ∀ e, e.getD 1 .u0 = .bool false → Q .ret ⟨e, [], ⟨[B0, B1, B2, B3], []⟩⟩) (x1 x2 x3 x4 x7 x8 x9 x10 x11 x12 x13 x14 x15 : D) :
 SWp (E44 4 0) RR44 Q ⟨[.ptr 0 0, x1, x2, x3, x4, .lit (.slice none 0 0), .bool false, x7, x8, x9, x10, x11, x12, x13, x14, x15], [], ⟨[B0, B1, B2, B3], []⟩⟩ := by
 unfold RR44
 repeat' (first | with_reducible (apply swq; constructor) | simp only [go_sem, seval, pe44, q44] | with_reducible intro _)
 refine zAs (C := E44 4 0) [6, 13, 14] (fun _ : Unit => ⟨[.u0, .u0, .u0, .u0, .u0, .u0, .bool false, .u0, .u0, .u0, .u0, .u0, .u0, .int .i64 0, .int .i64 0, .u0], [], ⟨[B0, B1, B2, B3], []⟩⟩)
  (fun _ => True) (fun _ => 0) () trivial ?_ ?_
 ·simp [keepE, St.keep]
 ·intro _ _
  repeat' (first | with_reducible (apply swq; constructor) | simp only [go_sem, seval, pe44, q44] | with_reducible intro _)
  exact hQ _ rfl
set_option maxHeartbeats 4000000 in
theorem load_tail (v0 v1 v2 v3 v5 : D) (B2 B3 : Blk) (cs : List Tx) (hcs : cs.length ≤ 1000000) (hcl : ∀ c ∈ cs, c.length ≤ 1000000) (Q : Ex → St → Prop)
 (hQ : ∀ e l' c', e.getD 1 .u0 = .bool (cs.foldlM zAo []).isSome → (∀ m, cs.foldlM zAo [] = some m → MpOk l' c' m) → Q .ret ⟨e, [], ⟨[.cells [v0, v1, v2, v3, .mp 1, v5], .map (entT l') c', B2, B3], []⟩⟩) (x1 x2 x3 x4 x7 x8 x9 x10 x11 x12 x13 x14 x15 : D) :
 SWp (E44 4 0) RR44 Q ⟨[.ptr 0 0, x1, x2, x3, x4, .slice (strs cs) .no, .bool true, x7, x8, x9, x10, x11, x12, x13, x14, x15], [], ⟨[.cells [v0, v1, v2, v3, .mp 1, v5], .map [] 0, B2, B3], []⟩⟩ := by
 unfold RR44
 have hsl := zAk cs
 have hE3 := fun β τ => zAl β τ
 have hget : ∀ (j : Nat) (h : j < cs.length), (strs cs).getD j .u0 = .str cs[j] := fun j h => zBt h
 generalize strs cs = K at *
 repeat' (first | with_reducible (apply swq; constructor) | simp only [go_sem, seval, pe44, q44] | with_reducible intro _)
 refine zAs (C := E44 4 0) [0, 6, 12, 13, 14] (fun p : Nat × List Tri × Nat => ⟨[.ptr 0 0, .u0, .u0, .u0, .u0, .u0, .bool ((cs.take p.1).foldlM zAo []).isSome, .u0, .u0, .u0, .u0, .u0, .slice K .no, .int .i64 K.length, .int .i64 p.1, .u0], [], ⟨[.cells [v0, v1, v2, v3, .mp 1, v5], .map (entT p.2.1) p.2.2, B2, B3], []⟩⟩)
  (fun p => p.1 ≤ cs.length ∧ ∀ m, (cs.take p.1).foldlM zAo [] = some m → MpOk p.2.1 p.2.2 m) (fun p => cs.length - p.1) (0, [], 0) ⟨Nat.zero_le _, fun m h => ?_⟩ ?_ ?_
 ·simp [List.foldlM, pure] at h
  subst h
  exact mp_nil
 ·simp [keepE, St.keep, List.foldlM, pure, entT]
 ·rintro ⟨j, l', c'⟩ ⟨g1, g2⟩
  dsimp only at g1 g2 ⊢
  by_cases hlt : j < cs.length
  ·have g3 := hget j hlt
   have g4 := foldlM_take hlt
   have g5 := hcl cs[j] (List.getElem_mem hlt)
   generalize cs[j] = cm at *
   cases ho : (cs.take j).foldlM zAo [] with
   | none =>
     rw [ho] at g4
     have g4 : (cs.take (j + 1)).foldlM zAo [] = none := g4
     simp only [Option.isSome_none]
     have wQ := tw; repeat' (first | with_reducible (apply swq; constructor) | simp only [go_sem, seval, pe44, q44, g3] | simp (disch := omega) only [wA] | (with_reducible (apply cdA; constructor)) | ((with_reducible refine And.intro ?hw ?_); (case hw => exact sw wQ)) | with_reducible intro _)
     all_goals try omega
     exact ⟨(j + 1, l', c'), ⟨by dsimp only; omega, fun m h => by dsimp only at h; rw [g4] at h; cases h⟩, by dsimp only; omega, by simp [keepE, St.keep, g4]⟩
   | some m =>
     rw [ho] at g4
     have g4 : (cs.take (j + 1)).foldlM zAo [] = zAo m cm := g4
     have c1 := replay_e (g2 m ho) cm g5
     have hEl := fun β τ => zAl β τ l'
     simp only [Option.isSome_some]
     cases hr : zAo m cm with
     | none =>
       rw [hr] at c1 g4
       have c1 : Eff M 89 [.mp 0, .str cm] ⟨[.map (entT l') c'], []⟩ fun d h => d = .bool false ∧ h = ⟨[.map (entT l') c'], []⟩ := c1
       have wQ := @hEl; repeat' (first | with_reducible (apply swq; constructor) | simp only [go_sem, seval, pe44, q44, g3] | simp (disch := omega) only [wA] | ((with_reducible refine o_eff [1] [] (c1) ?hs ?he ?hh ?_); (case hs => exact so); (case he | hh => exact sh wQ); rintro _ _ ⟨rfl, rfl⟩) | (with_reducible (apply cdA; constructor)) | ((with_reducible refine And.intro ?hw ?_); (case hw => exact sw wQ)) | with_reducible intro _)
       all_goals try omega
       exact ⟨(j + 1, l', c'), ⟨by dsimp only; omega, fun m h => by dsimp only at h; rw [g4] at h; cases h⟩, by dsimp only; omega, by simp [keepE, St.keep, g4, hE3]⟩
     | some m2 =>
       rw [hr] at c1 g4
       have c1 : Eff M 89 [.mp 0, .str cm] ⟨[.map (entT l') c'], []⟩ fun d h => d = .bool true ∧ ∃ l' c', h = ⟨[.map (entT l') c'], []⟩ ∧ MpOk l' c' m2 := c1
       have wQ := @hEl; repeat' (first | with_reducible (apply swq; constructor) | simp only [go_sem, seval, pe44, q44, g3] | simp (disch := omega) only [wA] | ((with_reducible refine o_eff [1] [] (c1) ?hs ?he ?hh ?_); (case hs => exact so); (case he | hh => exact sh wQ); rintro _ _ ⟨rfl, l3, c3, rfl, hm3⟩) | (with_reducible (apply cdA; constructor)) | ((with_reducible refine And.intro ?hw ?_); (case hw => exact sw wQ)) | with_reducible intro _)
       all_goals try omega
       exact ⟨(j + 1, l3, c3), ⟨by dsimp only; omega, fun m h => by dsimp only at h; rw [g4] at h; cases h; exact hm3⟩, by dsimp only; omega, by simp [keepE, St.keep, g4, hE3]⟩
  ·have e : j = cs.length := by omega
   subst e
   rw [List.take_length] at *
   generalize hbb : (cs.foldlM zAo []).isSome = bb at *
   have wQ := tw; repeat' (first | with_reducible (apply swq; constructor) | simp only [go_sem, seval, pe44, q44] | simp (disch := omega) only [wA] | (with_reducible first | (apply cdA; constructor) | (apply gdA; constructor)) | ((with_reducible refine And.intro ?hw ?_); (case hw => exact sw wQ)) | with_reducible intro _)
   all_goals try omega
   exact hQ _ _ _ rfl g2
set_option maxHeartbeats 8000000 in
theorem load_e (n : Nat) (S : Sx) (hS : SxOk S n) (s : Sto) (hs : StOk n s) : Eff M 44 [.ptr 0 0] (hpS n S s [] 0) (LdR (loadK S s.size s.area s.count) n S s) := by
 refine zGp 4 0 (Nat.le_refl 4) (Nat.le_refl 0) (k44.oe 4 0 rfl rfl rfl ?_)
 rw [ie44]
 unfold c44
 have hz : s.size ≤ 4000 := by have := hs.sz; have := hs.n8; omega
 have hct := hs.ct
 have har := hs.ar
 have hpl : ∀ i, i < s.count → plc s.size s.area i < n := fun i hi => by
  have := hs.sz; have := hs.n8; have := hs.n4
  unfold plc
  have : s.area = 0 ∨ s.area = 1 := by omega
  rcases this with h | h <;> rw [h] <;> omega
 have cpl := fun i (hi : i < s.count) => place_s n S s [] 0 s.area i hz har (by omega)
 have cpi := fun i (hi : i < s.count) => piece_s n hs.n8 S hS s [] 0 (plc s.size s.area i) (hpl i hi)
 have hB := fun β τ => zAi β τ S.flatten
 have hE3 := fun β τ => zAl β τ
 have hfin : ∀ l' c', Hp.cut (hpS n S s l' c') 4 0 = hpS n S s l' c' := fun l' c' => by unfold hpS stB dkB byB queD; clear cpl cpi; generalize bys S.flatten = Y at *; simp [RcS, RcB, Hp.cut, Hp.back, putAt, bakF, Blk.rnL, rC, rM, Tv.rnL, Tv.rn, D.rnL, D.rn, cutF, Own.rn, hB, hE3]
 unfold LdR
 unfold hpS stB dkB byB at *
 simp only [queD] at *
 generalize bys S.flatten = Y at *
 have hE0 : entT [] = [] := rfl
 have hP0 : ∀ β τ, pairs β τ [] = [] := fun _ _ => rfl
 simp only [hE0] at cpl cpi ⊢
 repeat' (first | with_reducible (apply swq; constructor) | simp only [go_sem, seval, pe44, q44] | with_reducible intro _)
 refine zA1 (weak_bld 4 138 5 _ rfl) ?_
 simp only []
 refine zAs (C := E44 4 0) [0, 2, 8, 9] (fun p : Nat × Tx => ⟨[.ptr 0 0, .u0, .ptr 4 0, .u0, .u0, .u0, .u0, .u0, .int .i64 s.count, .int .i64 p.1, .u0, .u0, .u0, .u0, .u0, .u0], [],
  ⟨[.cells [.ptr 2 0, .int .i64 s.size, .int .i64 s.area, .int .i64 s.count, .mp 1, .bool false], .map [] 0, .cells [.sl 3 1 0 (64 * n) (64 * n), .lit (.slice none 0 0), .bool false, .lit (.pointer none)], .cells Y, .tcells 138 [if p.1 = 0 then .lit (.pointer none) else .ptr 4 0, .gs 0 p.2.length]], [.byt 5 p.2]⟩⟩)
  (fun p => p.1 ≤ s.count ∧ logK S s.size s.area p.1 = some p.2) (fun p => s.count - p.1) (0, []) ⟨Nat.zero_le _, rfl⟩ ?_ ?_
 ·simp [keepE, St.keep]
 ·rintro ⟨i, acc⟩ ⟨g1, g2⟩
  dsimp only at g1 g2 ⊢
  have hal := logK_le i acc g2
  by_cases hlt : i < s.count
  ·have c1 := cpl i hlt
   have c2 := cpi i hlt
   have hlk : logK S s.size s.area (i + 1) = if pieK (plc s.size s.area i) (secAt S (plc s.size s.area i)) = [] then none else some (acc ++ pieK (plc s.size s.area i) (secAt S (plc s.size s.area i))) := by rw [logK, g2]
   have hpb := pieK_some (place := plc s.size s.area i) (t := secAt S (plc s.size s.area i))
   generalize pieK (plc s.size s.area i) (secAt S (plc s.size s.area i)) = x at *
   generalize plc s.size s.area i = pl at *
   by_cases hx : x = []
   ·subst hx
    rw [if_pos rfl] at hlk
    have hno := logK_none hlk s.count (by omega)
    have hld : loadK S s.size s.area s.count = none := by unfold loadK; rw [hno]
    rw [hld]
    have hb : (([] : Tx) == []) = true := rfl
    by_cases h0 : i = 0
    ·subst h0
     simp only [if_true]
     have wQ := And.intro @hB @hP0; repeat' (first | with_reducible (apply swq; constructor) | simp only [go_sem, seval, pe44, q44, hb] | simp (disch := omega) only [wA] | ((with_reducible refine o_eff [0, 1, 2, 3] [] (c1) ?hs ?he ?hh ?_); (case hs => exact so); (case he | hh => exact sh wQ); rintro _ _ ⟨rfl, rfl⟩) | ((with_reducible refine o_eff [0, 1, 2, 3] [] (c2) ?hs ?he ?hh ?_); (case hs => exact so); (case he | hh => exact sh wQ); rintro _ _ ⟨rfl, rfl⟩) | (with_reducible (apply cdA; constructor)) | with_reducible intro _)
     all_goals try omega
     exact ⟨_, zAa, rfl, [], 0, by simp [RcS, RcB, Hp.cut, Hp.back, putAt, bakF, Blk.rnL, rC, rM, Tv.rnL, Tv.rn, D.rnL, D.rn, cutF, Own.rn, hB, hP0, hE0]⟩
    ·simp only [h0, if_false]
     have wQ := And.intro @hB @hP0; repeat' (first | with_reducible (apply swq; constructor) | simp only [go_sem, seval, pe44, q44, hb] | simp (disch := omega) only [wA] | ((with_reducible refine o_eff [0, 1, 2, 3] [] (c1) ?hs ?he ?hh ?_); (case hs => exact so); (case he | hh => exact sh wQ); rintro _ _ ⟨rfl, rfl⟩) | ((with_reducible refine o_eff [0, 1, 2, 3] [] (c2) ?hs ?he ?hh ?_); (case hs => exact so); (case he | hh => exact sh wQ); rintro _ _ ⟨rfl, rfl⟩) | (with_reducible (apply cdA; constructor)) | with_reducible intro _)
     all_goals try omega
     exact ⟨_, zAa, rfl, [], 0, by simp [RcS, RcB, Hp.cut, Hp.back, putAt, bakF, Blk.rnL, rC, rM, Tv.rnL, Tv.rn, D.rnL, D.rn, cutF, Own.rn, hB, hP0, hE0]⟩
   ·rw [if_neg hx] at hlk
    have hxl := (hpb hx).2
    have hb : (x == []) = false := by simpa using hx
    have cA := wstr_e (.inl rfl) acc x _ rfl (by omega)
    have cB := wstr_e (.inr rfl) acc x _ rfl (by omega)
    by_cases h0 : i = 0
    ·subst h0
     simp only [if_true]
     have wQ := And.intro @hB @hP0; repeat' (first | with_reducible (apply swq; constructor) | simp only [go_sem, seval, pe44, q44, hb] | simp (disch := omega) only [wA] | ((with_reducible refine o_eff [0, 1, 2, 3] [] (c1) ?hs ?he ?hh ?_); (case hs => exact so); (case he | hh => exact sh wQ); rintro _ _ ⟨rfl, rfl⟩) | ((with_reducible refine o_eff [0, 1, 2, 3] [] (c2) ?hs ?he ?hh ?_); (case hs => exact so); (case he | hh => exact sh wQ); rintro _ _ ⟨rfl, rfl⟩) | ((with_reducible refine o_eff [4] [0] (cA) ?hs ?he ?hh ?_); (case hs => exact so); (case he | hh => exact sh wQ); rintro _ _ ⟨rfl, rfl⟩) | (with_reducible (apply cdA; constructor)) | with_reducible intro _)
     all_goals try omega
     exact ⟨(1, acc ++ x), ⟨by dsimp only; omega, hlk⟩, by dsimp only; omega, by simp [keepE, St.keep, hB, hP0]⟩
    ·simp only [h0, if_false]
     have wQ := And.intro @hB @hP0; repeat' (first | with_reducible (apply swq; constructor) | simp only [go_sem, seval, pe44, q44, hb] | simp (disch := omega) only [wA] | ((with_reducible refine o_eff [0, 1, 2, 3] [] (c1) ?hs ?he ?hh ?_); (case hs => exact so); (case he | hh => exact sh wQ); rintro _ _ ⟨rfl, rfl⟩) | ((with_reducible refine o_eff [0, 1, 2, 3] [] (c2) ?hs ?he ?hh ?_); (case hs => exact so); (case he | hh => exact sh wQ); rintro _ _ ⟨rfl, rfl⟩) | ((with_reducible refine o_eff [4] [0] (cB) ?hs ?he ?hh ?_); (case hs => exact so); (case he | hh => exact sh wQ); rintro _ _ ⟨rfl, rfl⟩) | (with_reducible (apply cdA; constructor)) | with_reducible intro _)
     all_goals try omega
     exact ⟨(i + 1, acc ++ x), ⟨by dsimp only; omega, hlk⟩, by dsimp only; omega, by simp [keepE, St.keep, hB, hP0]⟩
  ·have e : i = s.count := by omega
   subst e
   have cA := str_e (p := .lit (.pointer none)) (bs := acc) (by omega)
   have cB := str_e (p := .ptr 0 0) (bs := acc) (by omega)
   have cP := split_p acc (by omega)
   rw [show RC.seq (.seq (.reg r44_11) (.block 2 (.loop (.seq (.reg r44_12) (.seq (.cond (.v 15) .skip (.exit 2)) (.seq (.block 3 (.seq (.reg r44_13) (.reg r44_14))) (.reg r44_15))))))) (.seq (.reg r44_16) .ret) = RR44 from rfl]
   cases hsp : zCe acc with
   | none =>
     have hld : loadK S s.size s.area s.count = none := by unfold loadK; rw [g2]; simp only [hsp]
     rw [hld]
     rw [hsp] at cP
     simp only [splD] at cP
     by_cases h0 : s.count = 0
     ·simp only [h0, if_true]
      have wQ := And.intro @hB @hP0; repeat' (first | with_reducible (apply swq; constructor) | simp only [go_sem, seval, pe44, q44] | simp (disch := omega) only [wA] | ((with_reducible refine zAc (cP) ?he ?hc ?_); (case he | hc => exact sc wQ)) | ((with_reducible refine o_eff [4] [0] (cA) ?hs ?he ?hh ?_); (case hs => exact so); (case he | hh => exact sh wQ); rintro _ _ ⟨rfl, rfl⟩) | (with_reducible (apply cdA; constructor)) | with_reducible intro _)
      all_goals try omega
      refine zA1 (zD1 4 0 (Nat.le_refl 4) (Nat.le_refl 0)) ?_
      simp [St.gc, Hp.cut, Hp.back, putAt, bakF, Blk.rnL, rC, rM, Tv.rnL, D.rnL, D.rn, cutF, hB, hP0, Own.rn]
      refine load_tail0 _ _ _ _ _ (fun e he => ⟨trivial, _, zAa, ?_⟩) _ _ _ _ _ _ _ _ _ _ _ _ _
      simp only [List.getD_eq_getElem?_getD] at he
      exact ⟨by simp [he, D.rn], [], 0, by simp [Blk.rnL, rC, rM, Tv.rnL, D.rnL, D.rn, cutF, hB, hP0, hE0, hE3]⟩
     ·simp only [h0, if_false]
      have wQ := And.intro @hB @hP0; repeat' (first | with_reducible (apply swq; constructor) | simp only [go_sem, seval, pe44, q44] | simp (disch := omega) only [wA] | ((with_reducible refine zAc (cP) ?he ?hc ?_); (case he | hc => exact sc wQ)) | ((with_reducible refine o_eff [4] [0] (cB) ?hs ?he ?hh ?_); (case hs => exact so); (case he | hh => exact sh wQ); rintro _ _ ⟨rfl, rfl⟩) | (with_reducible (apply cdA; constructor)) | with_reducible intro _)
      all_goals try omega
      refine zA1 (zD1 4 0 (Nat.le_refl 4) (Nat.le_refl 0)) ?_
      simp [St.gc, Hp.cut, Hp.back, putAt, bakF, Blk.rnL, rC, rM, Tv.rnL, D.rnL, D.rn, cutF, hB, hP0, Own.rn]
      refine load_tail0 _ _ _ _ _ (fun e he => ⟨trivial, _, zAa, ?_⟩) _ _ _ _ _ _ _ _ _ _ _ _ _
      simp only [List.getD_eq_getElem?_getD] at he
      exact ⟨by simp [he, D.rn], [], 0, by simp [Blk.rnL, rC, rM, Tv.rnL, D.rnL, D.rn, cutF, hB, hP0, hE0, hE3]⟩
   | some cs =>
     have hld : loadK S s.size s.area s.count = cs.foldlM zAo [] := by unfold loadK; rw [g2]; simp only [hsp]
     rw [hld]
     rw [hsp] at cP
     simp only [splD] at cP
     obtain ⟨q1, q2⟩ := splitK_le hsp
     have hrK := fun β τ => zD9 β τ cs
     by_cases h0 : s.count = 0
     ·simp only [h0, if_true]
      have wQ := And.intro @hB @hP0; repeat' (first | with_reducible (apply swq; constructor) | simp only [go_sem, seval, pe44, q44] | simp (disch := omega) only [wA] | ((with_reducible refine zAc (cP) ?he ?hc ?_); (case he | hc => exact sc wQ)) | ((with_reducible refine o_eff [4] [0] (cA) ?hs ?he ?hh ?_); (case hs => exact so); (case he | hh => exact sh wQ); rintro _ _ ⟨rfl, rfl⟩) | (with_reducible (apply cdA; constructor)) | with_reducible intro _)
      all_goals try omega
      refine zA1 (zD1 4 0 (Nat.le_refl 4) (Nat.le_refl 0)) ?_
      simp [St.gc, Hp.cut, Hp.back, putAt, bakF, Blk.rnL, rC, rM, Tv.rnL, D.rnL, D.rn, cutF, hB, hP0, Own.rn]
      refine load_tail _ _ _ _ _ _ _ cs (by omega) (fun c hc => by have := q2 c hc; omega) _ (fun e l' c' he hm => ⟨trivial, _, zAa, ?_⟩) _ _ _ _ _ _ _ _ _ _ _ _ _
      simp only [List.getD_eq_getElem?_getD] at he
      cases hf : cs.foldlM zAo [] with
      | none =>
        rw [hf] at he
        exact ⟨by simp [he, D.rn], l', c', by simp [Blk.rnL, rC, rM, Tv.rnL, D.rnL, D.rn, cutF, hB, hP0, hE0, hE3]⟩
      | some m =>
        rw [hf] at he
        exact ⟨by simp [he, D.rn], l', c', by simp [Blk.rnL, rC, rM, Tv.rnL, D.rnL, D.rn, cutF, hB, hP0, hE0, hE3], hm m hf⟩
     ·simp only [h0, if_false]
      have wQ := And.intro @hB @hP0; repeat' (first | with_reducible (apply swq; constructor) | simp only [go_sem, seval, pe44, q44] | simp (disch := omega) only [wA] | ((with_reducible refine zAc (cP) ?he ?hc ?_); (case he | hc => exact sc wQ)) | ((with_reducible refine o_eff [4] [0] (cB) ?hs ?he ?hh ?_); (case hs => exact so); (case he | hh => exact sh wQ); rintro _ _ ⟨rfl, rfl⟩) | (with_reducible (apply cdA; constructor)) | with_reducible intro _)
      all_goals try omega
      refine zA1 (zD1 4 0 (Nat.le_refl 4) (Nat.le_refl 0)) ?_
      simp [St.gc, Hp.cut, Hp.back, putAt, bakF, Blk.rnL, rC, rM, Tv.rnL, D.rnL, D.rn, cutF, hB, hP0, Own.rn]
      refine load_tail _ _ _ _ _ _ _ cs (by omega) (fun c hc => by have := q2 c hc; omega) _ (fun e l' c' he hm => ⟨trivial, _, zAa, ?_⟩) _ _ _ _ _ _ _ _ _ _ _ _ _
      simp only [List.getD_eq_getElem?_getD] at he
      cases hf : cs.foldlM zAo [] with
      | none =>
        rw [hf] at he
        exact ⟨by simp [he, D.rn], l', c', by simp [Blk.rnL, rC, rM, Tv.rnL, D.rnL, D.rn, cutF, hB, hP0, hE0, hE3]⟩
      | some m =>
        rw [hf] at he
        exact ⟨by simp [he, D.rn], l', c', by simp [Blk.rnL, rC, rM, Tv.rnL, D.rnL, D.rn, cutF, hB, hP0, hE0, hE3], hm m hf⟩
end Go.Proofs.YtkobjnpmjngklaaGreatDoor
end
section
set_option maxRecDepth 100000
set_option linter.unusedSimpArgs false
set_option linter.unusedVariables false
namespace Go.Proofs.YtkobjnpmjngklaaGreatDoor
open Go GoV
theorem read_o (n : Nat) (hn : n ≤ 8000) (S : Sx) :
 Eff M 41 [.ptr 0 0, .int .i64 n] ⟨[dkB 1 n [] false, byB S], []⟩ fun d hp => d = .tup [.str [], .int .i64 1] ∧ hp = ⟨[dkB 1 n [] false, byB S], []⟩ := by
 refine zAu 2 0 (Nat.le_refl 2) (Nat.le_refl 0) (k41.oe 2 0 rfl rfl rfl ?_)
 rw [ie41]
 unfold c41
 have c1 := at_p n hn [] false S n
 have hB := fun β τ => zAi β τ S.flatten
 have hi2 : ¬ ((0 : Int) ≤ n ∧ (n : Int) < n) := by omega
 unfold atD at c1
 rw [if_neg (by simp), if_neg hi2] at c1
 unfold dkB byB at *
 simp only [queD, tkq] at *
 generalize bys S.flatten = Y at *
 have wQ := @hB; repeat' (first | with_reducible (apply swq; constructor) | simp only [go_sem, seval, P41, pe41, q41] | ((with_reducible refine o_eff [0, 1] [] (c1) ?hs ?he ?hh ?_); (case hs => exact so); (case he | hh => exact sh wQ); rintro _ _ ⟨rfl, rfl⟩) | with_reducible intro _)
 all_goals try omega
 (refine ⟨_, zAa, ?_⟩; simp [RcS, RcB, Hp.cut, Hp.back, putAt, bakF, Blk.rnL, rC, rM, Tv.rnL, Tv.rn, D.rnL, D.rn, cutF, Own.rn, hB])
def opB (size a c : Nat) : Blk := .cells [.ptr 0 0, .int .i64 size, .int .i64 a, .int .i64 c, .mp 2, .bool false]
def opSt (n : Nat) (S : Sx) (size a c : Nat) (hd : Bool) : St :=
 ⟨[.u0, .u0, .u0, .u0, .u0, .ptr 3 0, .ptr 4 0, .bool hd, .str (secAt S 0), .u0, .u0, .u0, .u0, .u0, .u0, .u0, .u0, .u0, .u0, .u0, .u0, .u0, .u0], [],
   ⟨[dkB 1 n [] false, byB S, .map [] 0, opB size 0 0, .cells [.int .i64 a, .int .i64 c]], []⟩⟩
noncomputable def RT12 : RC := (.seq (.seq (.reg r12_20) (.seq (.reg r12_21) (.cond (.v 17) (.seq (.reg r12_22) .ret) .skip))) (.seq (.seq (.reg r12_23) (.block 2 (.loop (.seq (.reg r12_24) (.seq (.cond (.v 21) .skip (.exit 2)) (.seq (.block 3 (.seq (.reg r12_25) (.seq (.reg r12_26) (.seq (.reg r12_27) (.cond (.v 22) (.seq (.reg r12_28) .ret) .skip))))) (.reg r12_29))))))) (.seq (.reg r12_30) .ret)))
theorem head_cases (S : Sx) (size : Nat) :
 (zCi S size = some (posR size 1 (secAt S 1)).1 ∧ (posR size 1 (secAt S 1)).2 = true) ∨
 (zCi S size = some (posR size 0 (secAt S 0)).1 ∧ (posR size 1 (secAt S 1)).2 = false ∧ (posR size 0 (secAt S 0)).2 = true) ∨
 (zCi S size = none ∧ (posR size 1 (secAt S 1)).2 = false ∧ (posR size 0 (secAt S 0)).2 = false) := by
 unfold zCi
 rw [posR_K, posR_K]
 cases (posR size 1 (secAt S 1)).2
 ·cases (posR size 0 (secAt S 0)).2
  ·exact .inr (.inr ⟨by simp, rfl, rfl⟩)
  ·exact .inr (.inl ⟨by simp, rfl, rfl⟩)
 ·exact .inl ⟨by simp, rfl⟩
set_option maxHeartbeats 8000000 in
theorem open_pre (n : Nat) (h4 : 4 ≤ n) (hn : n ≤ 8000) (S : Sx) (hS : SxOk S n) (Q : Ex → St → Prop)
 (h : SWp (E12 2 0) RT12 Q (opSt n S ((n - 2) / 2) ((zCi S ((n - 2) / 2)).getD (0, 0)).1 ((zCi S ((n - 2) / 2)).getD (0, 0)).2 (zCi S ((n - 2) / 2)).isSome)) :
 SWp (E12 2 0) c12 Q ⟨[.ptr 0 0, .u0, .u0, .u0, .u0, .u0, .u0, .u0, .u0, .u0, .u0, .u0, .u0, .u0, .u0, .u0, .u0, .u0, .u0, .u0, .u0, .u0, .u0], [], ⟨[dkB 1 n [] false, byB S], []⟩⟩ := by
 unfold c12
 have hRT : RT12 = (RC.seq (.seq (.reg r12_20) (.seq (.reg r12_21) (.cond (.v 17) (.seq (.reg r12_22) .ret) .skip))) (.seq (.seq (.reg r12_23) (.block 2 (.loop (.seq (.reg r12_24) (.seq (.cond (.v 21) .skip (.exit 2)) (.seq (.block 3 (.seq (.reg r12_25) (.seq (.reg r12_26) (.seq (.reg r12_27) (.cond (.v 22) (.seq (.reg r12_28) .ret) .skip))))) (.reg r12_29))))))) (.seq (.reg r12_30) .ret))) := rfl
 rw [← hRT]
 unfold opSt at h
 generalize RT12 = RT at *
 have rd := fun i hi => read_p n hn S hS i hi
 have ro := read_o n hn S
 have r0 := read_p n hn S hS 0 (by omega)
 obtain ⟨size, hsz⟩ : ∃ size, size = (n - 2) / 2 := ⟨_, rfl⟩
 rw [← hsz] at h
 have hs4 : size ≤ 4000 := by omega
 have p1 := positioned_s n hn S hS ⟨size, 0, 0, []⟩ hs4 [] 0 1 (by omega)
 have p0 := positioned_s n hn S hS ⟨size, 0, 0, []⟩ hs4 [] 0 0 (by omega)
 dsimp only at p1 p0
 have hhc := head_cases S size
 have hB := fun β τ => zAi β τ S.flatten
 have hE0 : entT [] = [] := rfl
 have hP0 : ∀ β τ, pairs β τ [] = [] := fun _ _ => rfl
 unfold opB at h
 unfold hpS stB at p1 p0
 unfold dkB byB at *
 simp only [queD, hE0] at *
 generalize bys S.flatten = Y at *
 have e1 : ((n : Int) - 2).tdiv 2 = (size : Int) := by rw [Int.tdiv_eq_ediv_of_nonneg (by omega)]; omega
 repeat' (first | with_reducible (apply swq; constructor) | simp only [go_sem, seval, pe12, q12, zAp] | with_reducible intro _)
 all_goals try omega
 refine zAs (C := E12 2 0) [0, 3, 4] (fun j : Nat => ⟨[.ptr 0 0, .u0, .u0, .int .i64 j, .int .i64 (if j = n + 1 then 1 else 0), .u0, .u0, .u0, .u0, .u0, .u0, .u0, .u0, .u0, .u0, .u0, .u0, .u0, .u0, .u0, .u0, .u0, .u0], [], ⟨[.cells [.sl 1 1 0 (64 * n) (64 * n), .lit (.slice none 0 0), .bool false, .lit (.pointer none)], .cells Y], []⟩⟩)
  (fun j => j ≤ n + 1) (fun j => n + 1 - j) 0 (Nat.zero_le _) ?_ ?_
 ·simp [keepE, St.keepG, St.keep, St.gc, RcS, RcB, Hp.cut, Hp.back, putAt, bakF, Blk.rnL, rC, rM, Tv.rnL, Tv.rn, D.rnL, D.rn, cutF, Own.rn, hB]
 ·intro j hj
  by_cases hlt : j < n
  ·have c1 := rd j hlt
   have hne : ¬ j = n + 1 := by omega
   have hne2 : ¬ j = n := by omega
   generalize secAt S j = t at *
   simp only [hne, if_false]
   have wQ := @hB; repeat' (first | with_reducible (apply swq; constructor) | simp only [go_sem, seval, pe12, q12, zAp] | simp (disch := omega) only [wA] | ((with_reducible refine o_eff [0, 1] [] (c1) ?hs ?he ?hh ?_); (case hs => exact so); (case he | hh => exact sh wQ); rintro _ _ ⟨rfl, rfl⟩) | with_reducible intro _)
   all_goals try omega
   exact ⟨j + 1, by omega, by omega, by simp [keepE, St.keepG, St.keep, St.gc, RcS, RcB, Hp.cut, Hp.back, putAt, bakF, Blk.rnL, rC, rM, Tv.rnL, Tv.rn, D.rnL, D.rn, cutF, Own.rn, hB, hne2]⟩
  ·by_cases hen : j = n
   ·subst hen
    have hne : ¬ j = j + 1 := by omega
    simp only [hne, if_false]
    have wQ := @hB; repeat' (first | with_reducible (apply swq; constructor) | simp only [go_sem, seval, pe12, q12, zAp] | simp (disch := omega) only [wA] | ((with_reducible refine o_eff [0, 1] [] (ro) ?hs ?he ?hh ?_); (case hs => exact so); (case he | hh => exact sh wQ); rintro _ _ ⟨rfl, rfl⟩) | with_reducible intro _)
    all_goals try omega
    exact ⟨j + 1, by omega, by omega, by simp [keepE, St.keepG, St.keep, St.gc, RcS, RcB, Hp.cut, Hp.back, putAt, bakF, Blk.rnL, rC, rM, Tv.rnL, Tv.rn, D.rnL, D.rn, cutF, Own.rn, hB]⟩
   ·have e : j = n + 1 := by omega
    subst e
    simp only [if_true]
    have e2 : ((n + 1 : Nat) : Int) - 1 = (n : Int) := by omega
    have hst : ∀ {s1 s2 : St}, s1 = s2 → SWp (E12 2 0) RT Q s1 → SWp (E12 2 0) RT Q s2 := fun e h => e ▸ h
    rcases hhc with ⟨g1, g2⟩ | ⟨g1, g2, g3⟩ | ⟨g1, g2, g3⟩
    ·rw [g1] at h
     simp only [Option.getD_some, Option.isSome_some] at h
     unfold posD at p1
     rw [g2] at p1
     generalize (posR size 1 (secAt S 1)).1 = pp at *
     generalize secAt S 0 = t0 at *
     have wQ := And.intro @hB @hP0; repeat' (first | with_reducible (apply swq; constructor) | simp only [go_sem, seval, pe12, q12, e1, e2, zAp] | simp (disch := omega) only [wA] | ((with_reducible refine o_eff [3, 2, 0, 1] [] (p1) ?hs ?he ?hh ?_); (case hs => exact so); (case he | hh => exact sh wQ); rintro _ _ ⟨rfl, rfl⟩) | ((with_reducible refine o_eff [0, 1] [] (r0) ?hs ?he ?hh ?_); (case hs => exact so); (case he | hh => exact sh wQ); rintro _ _ ⟨rfl, rfl⟩) | (with_reducible (apply cdA; constructor)) | with_reducible intro _)
     all_goals try omega
     exact zA1 (zB2 [5, 6, 7, 8]) (hst (by simp [keepE, St.keep, hB, hP0]) h)
    ·rw [g1] at h
     simp only [Option.getD_some, Option.isSome_some] at h
     unfold posD at p1 p0
     rw [g2] at p1
     rw [g3] at p0
     generalize (posR size 1 (secAt S 1)).1 = pp at *
     generalize (posR size 0 (secAt S 0)).1 = qq at *
     generalize secAt S 0 = t0 at *
     have wQ := And.intro @hB @hP0; repeat' (first | with_reducible (apply swq; constructor) | simp only [go_sem, seval, pe12, q12, e1, e2, zAp] | simp (disch := omega) only [wA] | ((with_reducible refine o_eff [3, 2, 0, 1] [] (p1) ?hs ?he ?hh ?_); (case hs => exact so); (case he | hh => exact sh wQ); rintro _ _ ⟨rfl, rfl⟩) | ((with_reducible refine o_eff [3, 2, 0, 1] [] (p0) ?hs ?he ?hh ?_); (case hs => exact so); (case he | hh => exact sh wQ); rintro _ _ ⟨rfl, rfl⟩) | ((with_reducible refine o_eff [0, 1] [] (r0) ?hs ?he ?hh ?_); (case hs => exact so); (case he | hh => exact sh wQ); rintro _ _ ⟨rfl, rfl⟩) | (with_reducible (apply cdA; constructor)) | with_reducible intro _)
     all_goals try omega
     exact zA1 (zB2 [5, 6, 7, 8]) (hst (by simp [keepE, St.keep, hB, hP0]) h)
    ·rw [g1] at h
     simp only [Option.getD_none, Option.isSome_none] at h
     unfold posD at p1 p0
     rw [g2] at p1
     rw [g3] at p0
     generalize (posR size 1 (secAt S 1)).1 = pp at *
     generalize (posR size 0 (secAt S 0)).1 = qq at *
     generalize secAt S 0 = t0 at *
     have wQ := And.intro @hB @hP0; repeat' (first | with_reducible (apply swq; constructor) | simp only [go_sem, seval, pe12, q12, e1, e2, zAp] | simp (disch := omega) only [wA] | ((with_reducible refine o_eff [3, 2, 0, 1] [] (p1) ?hs ?he ?hh ?_); (case hs => exact so); (case he | hh => exact sh wQ); rintro _ _ ⟨rfl, rfl⟩) | ((with_reducible refine o_eff [3, 2, 0, 1] [] (p0) ?hs ?he ?hh ?_); (case hs => exact so); (case he | hh => exact sh wQ); rintro _ _ ⟨rfl, rfl⟩) | ((with_reducible refine o_eff [0, 1] [] (r0) ?hs ?he ?hh ?_); (case hs => exact so); (case he | hh => exact sh wQ); rintro _ _ ⟨rfl, rfl⟩) | (with_reducible (apply cdA; constructor)) | with_reducible intro _)
     all_goals try omega
     exact zA1 (zB2 [5, 6, 7, 8]) (hst (by simp [keepE, St.keep, hB, hP0]) h)
end Go.Proofs.YtkobjnpmjngklaaGreatDoor
end
section
set_option maxRecDepth 100000
set_option linter.unusedSimpArgs false
set_option linter.unusedVariables false
namespace Go.Proofs.YtkobjnpmjngklaaGreatDoor
open Go GoV
theorem restore_h (n : Nat) (hn : n ≤ 8000) (S : Sx) (hS : SxOk S n) (size : Nat) (h : Option (Nat × Nat)) (hs : (h.getD (0, 0)).1 < 2 ∧ (h.getD (0, 0)).2 ≤ 8000) (l : List Tri) (c pl : Nat) (hp : pl < n) :
 Eff M 45 [.ptr 0 0, .int .i64 pl, .bool h.isSome] (hpS n S ⟨size, (h.getD (0, 0)).1, (h.getD (0, 0)).2, []⟩ l c) fun v hp => v = .int .i64 0 ∧ hp = hpS n (goW S (restW S pl h)) ⟨size, (h.getD (0, 0)).1, (h.getD (0, 0)).2, []⟩ l c := by
 cases h with
 | none => exact restore_f n hn S hS _ l c pl hp
 | some p => exact restore_t n hn S hS ⟨size, p.1, p.2, []⟩ hs l c pl hp
theorem restW_ok {n : Nat} {S : Sx} (hS : SxOk S n) {pl : Nat} (hp : pl < n) {h : Option (Nat × Nat)} (hs : (h.getD (0, 0)).1 < 2 ∧ (h.getD (0, 0)).2 ≤ 8000) : SxOk (goW S (restW S pl h)) n := by
 have hz : (zr 64).length = 64 := zr_len 64
 refine goW_ok _ hS fun g hg => ?_
 unfold restW at hg
 split at hg
 ·simp at hg
 ·rcases List.mem_cons.1 hg with e | e
  ·subst e; simp; omega
  ·cases h with
   | none => simp at e
   | some p =>
     simp at e
     subst e
     have := head_64 (p := pl) (a := p.1) (c := p.2) (by have := hs.1; simp at this; omega) (by have := hs.2; simp at this; omega)
     simp [this]; omega
def rest1 (S : Sx) (h : Option (Nat × Nat)) : Sx := goW S (restW S 1 h)
def rest2 (S : Sx) (h : Option (Nat × Nat)) : Sx := goW (rest1 S h) (restW (rest1 S h) 0 h)
set_option maxHeartbeats 8000000 in
theorem open_tail (n : Nat) (h4 : 4 ≤ n) (hn : n ≤ 8000) (S : Sx) (hS : SxOk S n) (h : Option (Nat × Nat)) (hs : (h.getD (0, 0)).1 < 2 ∧ (h.getD (0, 0)).2 ≤ (n - 2) / 2) (m : KV) (hl : loadK S ((n - 2) / 2) (h.getD (0, 0)).1 (h.getD (0, 0)).2 = some m) (hb : h = none → secAt S 0 = zr 64)
 (Q : Ex → St → Prop) (hQ : ∀ e l c, e.getD 1 .u0 = .ptr 3 0 → e.getD 2 .u0 = .int .i64 0 → MpOk l c m → Q .ret ⟨e, [], ⟨[dkB 1 n [] false, byB (rest2 S h), .map (entT l) c, opB ((n - 2) / 2) (h.getD (0, 0)).1 (h.getD (0, 0)).2, .cells [.int .i64 (h.getD (0, 0)).1, .int .i64 (h.getD (0, 0)).2]], []⟩⟩) :
 SWp (E12 2 0) RT12 Q (opSt n S ((n - 2) / 2) (h.getD (0, 0)).1 (h.getD (0, 0)).2 h.isSome) := by
 unfold RT12 opSt
 obtain ⟨size, hsz⟩ : ∃ size, size = (n - 2) / 2 := ⟨_, rfl⟩
 rw [← hsz] at hl hQ hs ⊢
 have hst : StOk n ⟨size, (h.getD (0, 0)).1, (h.getD (0, 0)).2, []⟩ := ⟨h4, hn, hsz, hs.1, hs.2⟩
 have c1 := load_e n S hS ⟨size, (h.getD (0, 0)).1, (h.getD (0, 0)).2, []⟩ hst
 dsimp only at c1
 rw [hl] at c1
 have c1 : Eff M 44 [.ptr 0 0] (hpS n S ⟨size, (h.getD (0, 0)).1, (h.getD (0, 0)).2, []⟩ [] 0) fun d hp => d = .bool true ∧ ∃ l' c', hp = hpS n S ⟨size, (h.getD (0, 0)).1, (h.getD (0, 0)).2, []⟩ l' c' ∧ MpOk l' c' m := c1
 have hs8 : (h.getD (0, 0)).1 < 2 ∧ (h.getD (0, 0)).2 ≤ 8000 := ⟨hs.1, by have := hs.2; omega⟩
 have r1 := fun l c => restore_h n hn S hS size h hs8 l c 1 (by omega)
 have hS1 : SxOk (rest1 S h) n := restW_ok hS (by omega) hs8
 have r0 := fun l c => restore_h n hn (rest1 S h) hS1 size h hs8 l c 0 (by omega)
 have hr1 : goW S (restW S 1 h) = rest1 S h := rfl
 have hr2 : goW (rest1 S h) (restW (rest1 S h) 0 h) = rest2 S h := rfl
 rw [hr1] at r1
 rw [hr2] at r0
 have k1 := blank_p
 have hB := fun β τ => zAi β τ S.flatten
 have hB1 := fun β τ => zAi β τ (rest1 S h).flatten
 have hB2 := fun β τ => zAi β τ (rest2 S h).flatten
 have hE0 : entT [] = [] := rfl
 have hP0 : ∀ β τ, pairs β τ [] = [] := fun _ _ => rfl
 have hE3 := fun β τ => zAl β τ
 unfold opB at hQ
 unfold hpS stB at c1 r1 r0
 unfold opB
 unfold dkB byB at *
 simp only [queD, hE0] at *
 obtain ⟨Y, hY⟩ : ∃ Y : Nat → List D, Y 0 = bys S.flatten ∧ Y 1 = bys (rest1 S h).flatten ∧ Y 2 = bys (rest2 S h).flatten := ⟨fun | 0 => _ | 1 => _ | _ => _, rfl, rfl, rfl⟩
 rw [← hY.1] at c1 hB ⊢
 simp only [← hY.1, ← hY.2.1] at r1
 simp only [← hY.2.1, ← hY.2.2] at r0
 rw [← hY.2.1] at hB1
 simp only [← hY.2.2] at hQ hB2
 clear hY hr1 hr2 hS1
 have hzb : ∀ x : Tx, (x == x) = true := fun x => by simp
 generalize secAt S 0 = t0 at *
 generalize zr 64 = z at *
 generalize hx : (h.getD (0, 0)).1 = a at *
 generalize hy : (h.getD (0, 0)).2 = ct at *
 cases h with
 | none =>
   have ht := hb rfl
   subst ht
   simp only [Option.isSome_none] at r1 r0 ⊢
   have wQ := And.intro @hB @hP0; repeat' (first | with_reducible (apply swq; constructor) | simp only [go_sem, seval, pe12, q12, hzb, Bool.not_true, Bool.not_false, zAp] | ((with_reducible refine zAc (k1) ?he ?hc ?_); (case he | hc => exact sc wQ)) | ((with_reducible refine o_eff [3, 2, 0, 1] [] (c1) ?hs ?he ?hh ?_); (case hs => exact so); (case he | hh => exact sh wQ); rintro _ _ ⟨rfl, l, c, rfl, hm'⟩) | ((with_reducible apply s_bsl); (case he | hl | hc => exact sd wQ)) | with_reducible intro _)
   all_goals try omega
   have hEl := fun β τ => zAl β τ l
   have r1 := r1 l c
   have r0 := r0 l c
   refine zAs (C := E12 2 0) [5, 7, 18, 19, 20] (fun j : Nat => ⟨[.u0, .u0, .u0, .u0, .u0, .ptr 3 0, .u0, .bool false, .u0, .u0, .u0, .u0, .u0, .u0, .u0, .u0, .u0, .u0, .slice [.int .i64 1, .int .i64 0] .full, .int .i64 2, .int .i64 j, .u0, .u0], [], ⟨[.cells [.sl 1 1 0 (64 * n) (64 * n), .lit (.slice none 0 0), .bool false, .lit (.pointer none)], .cells (Y j), .map (entT l) c, .cells [.ptr 0 0, .int .i64 size, .int .i64 a, .int .i64 ct, .mp 2, .bool false], .cells [.int .i64 a, .int .i64 ct]], []⟩⟩)
    (fun j => j ≤ 2) (fun j => 2 - j) 0 (Nat.zero_le _) ?_ ?_
   ·simp [keepE, St.keep, hB, hE3]
   ·intro j hj
    by_cases h0 : j = 0
    ·subst h0
     have wQ := And.intro @hB @hEl; repeat' (first | with_reducible (apply swq; constructor) | simp only [go_sem, seval, pe12, q12, zAp] | simp (disch := omega) only [wA] | ((with_reducible refine o_eff [3, 2, 0, 1] [] (r1) ?hs ?he ?hh ?_); (case hs => exact so); (case he | hh => exact sh wQ); rintro _ _ ⟨rfl, rfl⟩) | (with_reducible (apply cdA; constructor)) | ((with_reducible refine And.intro ?hw ?_); (case hw => exact sw wQ)) | with_reducible intro _)
     all_goals try omega
     exact ⟨1, by omega, by omega, by simp [keepE, St.keep, hB1, hE3]⟩
    ·by_cases h1 : j = 1
     ·subst h1
      have wQ := And.intro @hB1 @hEl; repeat' (first | with_reducible (apply swq; constructor) | simp only [go_sem, seval, pe12, q12, zAp] | simp (disch := omega) only [wA] | ((with_reducible refine o_eff [3, 2, 0, 1] [] (r0) ?hs ?he ?hh ?_); (case hs => exact so); (case he | hh => exact sh wQ); rintro _ _ ⟨rfl, rfl⟩) | (with_reducible (apply cdA; constructor)) | ((with_reducible refine And.intro ?hw ?_); (case hw => exact sw wQ)) | with_reducible intro _)
      all_goals try omega
      exact ⟨2, by omega, by omega, by simp [keepE, St.keep, hB2, hE3]⟩
     ·have h2 : j = 2 := by omega
      subst h2
      have wQ := tw; repeat' (first | with_reducible (apply swq; constructor) | simp only [go_sem, seval, pe12, q12, zAp] | simp (disch := omega) only [wA] | (with_reducible (apply cdA; constructor)) | ((with_reducible refine And.intro ?hw ?_); (case hw => exact sw wQ)) | with_reducible intro _)
      all_goals try omega
      exact hQ _ _ _ rfl rfl hm'
 | some p =>
   simp only [Option.isSome_some] at r1 r0 ⊢
   have wQ := And.intro @hB @hP0; repeat' (first | with_reducible (apply swq; constructor) | simp only [go_sem, seval, pe12, q12, Bool.not_true, Bool.not_false, zAp] | ((with_reducible refine o_eff [3, 2, 0, 1] [] (c1) ?hs ?he ?hh ?_); (case hs => exact so); (case he | hh => exact sh wQ); rintro _ _ ⟨rfl, l, c, rfl, hm'⟩) | ((with_reducible apply s_bsl); (case he | hl | hc => exact sd wQ)) | with_reducible intro _)
   all_goals try omega
   have hEl := fun β τ => zAl β τ l
   have r1 := r1 l c
   have r0 := r0 l c
   refine zAs (C := E12 2 0) [5, 7, 18, 19, 20] (fun j : Nat => ⟨[.u0, .u0, .u0, .u0, .u0, .ptr 3 0, .u0, .bool true, .u0, .u0, .u0, .u0, .u0, .u0, .u0, .u0, .u0, .u0, .slice [.int .i64 1, .int .i64 0] .full, .int .i64 2, .int .i64 j, .u0, .u0], [], ⟨[.cells [.sl 1 1 0 (64 * n) (64 * n), .lit (.slice none 0 0), .bool false, .lit (.pointer none)], .cells (Y j), .map (entT l) c, .cells [.ptr 0 0, .int .i64 size, .int .i64 a, .int .i64 ct, .mp 2, .bool false], .cells [.int .i64 a, .int .i64 ct]], []⟩⟩)
    (fun j => j ≤ 2) (fun j => 2 - j) 0 (Nat.zero_le _) ?_ ?_
   ·simp [keepE, St.keep, hB, hE3]
   ·intro j hj
    by_cases h0 : j = 0
    ·subst h0
     have wQ := And.intro @hB @hEl; repeat' (first | with_reducible (apply swq; constructor) | simp only [go_sem, seval, pe12, q12, zAp] | simp (disch := omega) only [wA] | ((with_reducible refine o_eff [3, 2, 0, 1] [] (r1) ?hs ?he ?hh ?_); (case hs => exact so); (case he | hh => exact sh wQ); rintro _ _ ⟨rfl, rfl⟩) | (with_reducible (apply cdA; constructor)) | ((with_reducible refine And.intro ?hw ?_); (case hw => exact sw wQ)) | with_reducible intro _)
     all_goals try omega
     exact ⟨1, by omega, by omega, by simp [keepE, St.keep, hB1, hE3]⟩
    ·by_cases h1 : j = 1
     ·subst h1
      have wQ := And.intro @hB1 @hEl; repeat' (first | with_reducible (apply swq; constructor) | simp only [go_sem, seval, pe12, q12, zAp] | simp (disch := omega) only [wA] | ((with_reducible refine o_eff [3, 2, 0, 1] [] (r0) ?hs ?he ?hh ?_); (case hs => exact so); (case he | hh => exact sh wQ); rintro _ _ ⟨rfl, rfl⟩) | (with_reducible (apply cdA; constructor)) | ((with_reducible refine And.intro ?hw ?_); (case hw => exact sw wQ)) | with_reducible intro _)
      all_goals try omega
      exact ⟨2, by omega, by omega, by simp [keepE, St.keep, hB2, hE3]⟩
     ·have h2 : j = 2 := by omega
      subst h2
      have wQ := tw; repeat' (first | with_reducible (apply swq; constructor) | simp only [go_sem, seval, pe12, q12, zAp] | simp (disch := omega) only [wA] | (with_reducible (apply cdA; constructor)) | ((with_reducible refine And.intro ?hw ?_); (case hw => exact sw wQ)) | with_reducible intro _)
      all_goals try omega
      exact hQ _ _ _ rfl rfl hm'
theorem open_ok (n : Nat) (h4 : 4 ≤ n) (hn : n ≤ 8000) (S : Sx) (hS : SxOk S n) (h : Option (Nat × Nat)) (hh : zCi S ((n - 2) / 2) = h) (hs : (h.getD (0, 0)).1 < 2 ∧ (h.getD (0, 0)).2 ≤ (n - 2) / 2) (m : KV) (hl : loadK S ((n - 2) / 2) (h.getD (0, 0)).1 (h.getD (0, 0)).2 = some m) (hb : h = none → secAt S 0 = zr 64) :
 Eff M 12 [.ptr 0 0] ⟨[dkB 1 n [] false, byB S], []⟩ fun d hp => d = .tup [.ptr 3 0, .int .i64 0] ∧ ∃ l c, hp = ⟨[dkB 1 n [] false, byB (rest2 S h), .map (entT l) c, opB ((n - 2) / 2) (h.getD (0, 0)).1 (h.getD (0, 0)).2], []⟩ ∧ MpOk l c m := by
 refine zGp 4 0 (show 2 ≤ 4 by decide) (Nat.le_refl 0) (k12.oe 2 0 rfl rfl rfl ?_)
 rw [ie12]
 refine open_pre n h4 hn S hS _ ?_
 rw [hh]
 refine open_tail n h4 hn S hS h hs m hl hb _ fun e l c h1 h2 hm => ⟨trivial, _, zAa, ?_⟩
 have hB := fun β τ => zAi β τ (rest2 S h).flatten
 have hE := fun β τ => zAl β τ l
 unfold opB dkB byB
 generalize bys (rest2 S h).flatten = Y at *
 simp only [q12, go_sem, seval]
 refine ⟨?_, l, c, ?_, hm⟩
 ·simp only [h1, h2]
  simp [D.rn, D.rnL, cutF]
 ·generalize entT l = E at *
  simp [queD, Hp.cut, Blk.rnL, rC, rM, Tv.rnL, D.rnL, D.rn, cutF, hB, hE]
end Go.Proofs.YtkobjnpmjngklaaGreatDoor
end
section
set_option maxRecDepth 100000
set_option linter.unusedSimpArgs false
set_option linter.unusedVariables false
namespace Go.Proofs.YtkobjnpmjngklaaGreatDoor
open Go GoV
theorem weak_own {C : Cfg} {s : St} (i : Nat) {es : List D} {ow : GoV.Own} (h : s.env.getD i .u0 = .slice es ow) : Weak C s { s with env := s.env.set i (.slice es .no) } := by
 intro w0 B a w hh
 obtain ⟨G, g0, gb, g1, g2, g3, g4⟩ := hh
 refine ⟨G, g0, gb, g1, g2, by simpa using g3, fun t => ?_⟩
 have := g4 t
 unfold St.slot at *
 split
 ·rename_i j hj
  rw [hj] at this
  simp only [List.getD_eq_getElem?_getD, List.getElem?_set] at this ⊢ h
  by_cases e : i = j
  ·subst e
   rw [h] at this
   split
   ·rename_i h1
    have hr : ∀ x, Rel w G (.slice es ow) x → Rel w G (.slice es .no) x := fun x hx => by
     simp only [Rel] at hx ⊢
     obtain ⟨b, cap, k, ys, h1, h2, h3, h4, h5, h6⟩ := hx
     exact ⟨b, cap, k, ys, h1, h2, h3, h4, h5, trivial⟩
    split
    ·exact hr _ this
    ·simp [Rel]
   ·rename_i h1; exact absurd rfl h1
  ·rw [if_neg e]; exact this
 ·rename_i hj; rw [hj] at this; exact this
def CmR (n : Nat) (r : Sx × Sto × Int) (J : List Blk) (d : D) (h : Hp) : Prop := d = .int .i64 r.2.2 ∧ ∃ l c, h = ⟨(hpS n r.1 r.2.1 l c).H ++ J, []⟩ ∧ MpOk l c r.2.1.kv
noncomputable def TL14 : RC := (.seq (.seq (.reg r14_9) (.cond (.v 10) (.seq (.reg r14_10) .ret) .skip)) (.seq (.reg r14_11) (.seq (.seq (.regD r14_12 r14_13) (.cond (.v 11) (.seq (.reg r14_14) .ret) .skip)) (.seq (.seq (.reg r14_15) (.seq (.reg r14_16) (.cond (.v 12) (.seq (.reg r14_17) .ret) .skip))) (.seq (.reg r14_18) (.seq (.reg r14_19) .ret))))))
set_option maxHeartbeats 4000000 in
theorem commit_te (n : Nat) (S : Sx) (hS : SxOk S n) (s : Sto) (hs : StOk n s) {l : List Tri} {c : Nat} (hm : MpOk l c s.kv) {lp : List Tri} {cp : Nat} {put : KV} (hp : MpOk lp cp put) (hpb : ∀ p ∈ put, p.1.length ≤ 1000000 ∧ p.2.length ≤ 1000000) (hpl : put.length ≤ 1000000) (drop : List Tx) (hdl : (setT drop).length ≤ 1000000) (hdb : ∀ k ∈ setT drop, k.length ≤ 1000000) (hw : zAr put drop = 0)
 (x3 x4 x5 x6 x7 x8 x9 x10 x11 x12 : D) :
 SWp (E14 5 0) TL14 (fun e s1 => (match e with | .exit _ => False | _ => True) ∧ ∃ s2, Weak (E14 5 0) s1 s2 ∧ CmR n (zAj S s put drop) [.map (entT lp) cp] ((s2.env.getD 3 .u0).rn (cutF 5) (cutF 0)) (s2.hp.cut 5 0))
  ⟨[.ptr 0 0, .mp 4, .slice (strs (setT drop)) .no, x3, x4, x5, x6, x7, x8, x9, x10, x11, x12], [], ⟨(hpS n S s l c).H ++ [.map (entT lp) cp], []⟩⟩ := by
 unfold TL14 zAj
 rw [if_neg (fun h => h hw)]
 generalize hdd : setT drop = dd at *
 have hz : s.size ≤ 4000 := by have := hs.sz; have := hs.n8; omega
 have hct := hs.ct
 have hTl : (textK put dd).length ≤ 10000000000000 := textK_le (by first | exact hpl | simp) hdl (by first | exact hpb | simp) hdb
 have k1 := text_e hp dd (fun t ht => (hpb _ ((hp.mem _).1 (List.mem_map_of_mem ht))).1) (by rw [hp.len]; exact hpl) hdl hTl
 have k2 := cnt_p (textK put dd) (by omega)
 have k4 := apply_e hm hp dd hdl
 have hlk := zA0 (textK put dd)
 have hB := fun β τ => zAi β τ S.flatten
 have hE := fun β τ => zAl β τ l
 have hE3 := fun β τ => zAl β τ
 have hEp := fun β τ => zAl β τ lp
 have hELl := entT_len lp
 rw [hp.len] at hELl
 have hds := zAk dd
 have hdc := zAv dd
 have q3 : ((put.length : Nat) : Int) + ((dd.length : Nat) : Int) = ((put.length + dd.length : Nat) : Int) := by omega
 have q4 : (s.size : Int) - (s.count : Nat) = ((s.size - s.count : Nat) : Int) := by omega
 by_cases gA : put.length + dd.length = 0
 ·rw [if_pos gA]
  have gA' : (put.length + dd.length) = 0 := by first | exact gA | (rw [List.length_nil, Nat.zero_add] at gA; exact gA)
  unfold CmR hpS stB dkB byB
  simp only [queD]
  generalize bys S.flatten = Y at *
  generalize strs dd = DD at *
  skip
  repeat' (first | with_reducible (apply swq; constructor) | simp only [go_sem, seval, pe14, q14, hELl, hds, q3] | simp (disch := omega) only [wA] | ((with_reducible apply zDb); (case h1 => rfl)) | with_reducible (apply cdA; constructor) | with_reducible intro _)
  all_goals try omega
  exact ⟨_, zAa, rfl, l, c, by simp [queD, Hp.cut, Blk.rnL, rC, rM, Tv.rnL, D.rnL, D.rn, cutF, hB, hE3], hm⟩
 ·rw [if_neg gA]
  have gA' : ¬ (put.length + dd.length) = 0 := by first | exact gA | (rw [List.length_nil, Nat.zero_add] at gA; exact gA)
  by_cases gB : s.size - s.count < cntK (textK put dd)
  ·rw [if_pos gB]
   generalize cntK (textK put dd) = cn at *
   generalize textK put dd = tt at *
   unfold CmR hpS stB dkB byB
   simp only [queD]
   generalize bys S.flatten = Y at *
   generalize strs dd = DD at *
   skip
   have wQ := And.intro @hB (And.intro @hE @hEp); repeat' (first | with_reducible (apply swq; constructor) | simp only [go_sem, seval, pe14, q14, hELl, hds, q3, q4] | simp (disch := omega) only [wA] | ((with_reducible refine zDi (k2) ?he ?hc ?_); (case he | hc => exact sc wQ)) | ((with_reducible refine o_eff [4] [] (k1) ?hs ?he ?hh ?_); (case hs => exact so); (case he | hh => exact sh wQ); try rintro _ _ ⟨rfl, rfl⟩) | ((with_reducible apply zDb); (case h1 => rfl)) | with_reducible (apply cdA; constructor) | with_reducible intro _)
   all_goals try omega
   exact ⟨_, zAa, rfl, l, c, by simp [queD, Hp.cut, Hp.back, putAt, bakF, Blk.rnL, rC, rM, Tv.rnL, D.rnL, D.rn, cutF, hB, hE3], hm⟩
  ·rw [if_neg gB]
   have k3 := add_s n S hS s hs l c s.area s.count hs.ar (textK put dd) (by omega)
   rw [hlk]
   have hB2 := fun β τ => zAi β τ (goW S (addW s.size s.area s.count (textK put dd))).flatten
   generalize goW S (addW s.size s.area s.count (textK put dd)) = S2 at *
   generalize cntK (textK put dd) = cn at *
   generalize textK put dd = tt at *
   unfold CmR
   unfold hpS stB dkB byB at *
   simp only [queD] at *
   generalize bys S.flatten = Y at *
   generalize bys S2.flatten = Y2 at *
   generalize strs dd = DD at *
   have wQ := And.intro @hB (And.intro @hE (And.intro @hB2 @hEp)); repeat' (first | with_reducible (apply swq; constructor) | simp only [go_sem, seval, pe14, q14, hELl, hds, q3, q4] | simp (disch := omega) only [wA] | ((with_reducible refine zDi (k2) ?he ?hc ?_); (case he | hc => exact sc wQ)) | ((with_reducible refine o_eff [4] [] (k1) ?hs ?he ?hh ?_); (case hs => exact so); (case he | hh => exact sh wQ); try rintro _ _ ⟨rfl, rfl⟩) | ((with_reducible refine o_eff [0, 1, 2, 3] [] (k3) ?hs ?he ?hh ?_); (case hs => exact so); (case he | hh => exact sh wQ); try rintro _ _ ⟨rfl, rfl⟩) | ((with_reducible refine o_eff [1, 4] [] (k4) ?hs ?he ?hh ?_); (case hs => exact so); (case he | hh => exact sh wQ); rintro _ _ ⟨rfl, l', c', rfl, hm'⟩) | ((with_reducible apply zDb); (case h1 => rfl)) | with_reducible (apply cdA; constructor) | with_reducible intro _)
   all_goals try omega
   exact ⟨_, zAa, rfl, l', c', by simp [queD, Hp.cut, Hp.back, putAt, bakF, Blk.rnL, rC, rM, Tv.rnL, D.rnL, D.rn, cutF, hB2, hE3], hm'⟩
set_option maxHeartbeats 4000000 in
theorem commit_tz (n : Nat) (S : Sx) (hS : SxOk S n) (s : Sto) (hs : StOk n s) {l : List Tri} {c : Nat} (hm : MpOk l c s.kv) (drop : List Tx) (hdl : (setT drop).length ≤ 1000000) (hdb : ∀ k ∈ setT drop, k.length ≤ 1000000) (hw : zAr ([] : KV) drop = 0)
 (x3 x4 x5 x6 x7 x8 x9 x10 x11 x12 : D) :
 SWp (E14 4 0) TL14 (fun e s1 => (match e with | .exit _ => False | _ => True) ∧ ∃ s2, Weak (E14 4 0) s1 s2 ∧ CmR n (zAj S s ([] : KV) drop) [] ((s2.env.getD 3 .u0).rn (cutF 4) (cutF 0)) (s2.hp.cut 4 0))
  ⟨[.ptr 0 0, .lit (.map none), .slice (strs (setT drop)) .no, x3, x4, x5, x6, x7, x8, x9, x10, x11, x12], [], ⟨(hpS n S s l c).H ++ [], []⟩⟩ := by
 unfold TL14 zAj
 rw [if_neg (fun h => h hw)]
 generalize hdd : setT drop = dd at *
 have hz : s.size ≤ 4000 := by have := hs.sz; have := hs.n8; omega
 have hct := hs.ct
 have hTl : (textK ([] : KV) dd).length ≤ 10000000000000 := textK_le (by first | exact hpl | simp) hdl (by first | exact hpb | simp) hdb
 have k1 := text_z dd hdl hTl
 have k2 := cnt_p (textK ([] : KV) dd) (by omega)
 have k4 := apply_z hm dd hdl
 have hlk := zA0 (textK ([] : KV) dd)
 have hB := fun β τ => zAi β τ S.flatten
 have hE := fun β τ => zAl β τ l
 have hE3 := fun β τ => zAl β τ
 have hds := zAk dd
 have hdc := zAv dd
 have q3 : (0 : Int) + ((dd.length : Nat) : Int) = ((dd.length : Nat) : Int) := by omega
 have q4 : (s.size : Int) - (s.count : Nat) = ((s.size - s.count : Nat) : Int) := by omega
 by_cases gA : ([] : KV).length + dd.length = 0
 ·rw [if_pos gA]
  have gA' : dd.length = 0 := by first | exact gA | (rw [List.length_nil, Nat.zero_add] at gA; exact gA)
  unfold CmR hpS stB dkB byB
  simp only [queD]
  generalize bys S.flatten = Y at *
  generalize strs dd = DD at *
  skip
  repeat' (first | with_reducible (apply swq; constructor) | simp only [go_sem, seval, pe14, q14, o_lenZ, hds, q3] | simp (disch := omega) only [wA] | with_reducible (apply cdA; constructor) | with_reducible intro _)
  all_goals try omega
  exact ⟨_, zAa, rfl, l, c, by simp [queD, Hp.cut, Blk.rnL, rC, rM, Tv.rnL, D.rnL, D.rn, cutF, hB, hE3], hm⟩
 ·rw [if_neg gA]
  have gA' : ¬ dd.length = 0 := by first | exact gA | (rw [List.length_nil, Nat.zero_add] at gA; exact gA)
  by_cases gB : s.size - s.count < cntK (textK ([] : KV) dd)
  ·rw [if_pos gB]
   generalize cntK (textK ([] : KV) dd) = cn at *
   generalize textK ([] : KV) dd = tt at *
   unfold CmR hpS stB dkB byB
   simp only [queD]
   generalize bys S.flatten = Y at *
   generalize strs dd = DD at *
   skip
   have wQ := And.intro @hB @hE; repeat' (first | with_reducible (apply swq; constructor) | simp only [go_sem, seval, pe14, q14, o_lenZ, hds, q3, q4] | simp (disch := omega) only [wA] | ((with_reducible refine zDi (k2) ?he ?hc ?_); (case he | hc => exact sc wQ)) | ((with_reducible refine o_eff [] [] (k1) ?hs ?he ?hh ?_); (case hs => exact so); (case he | hh => exact sh wQ); try rintro _ _ ⟨rfl, rfl⟩) | with_reducible (apply cdA; constructor) | with_reducible intro _)
   all_goals try omega
   exact ⟨_, zAa, rfl, l, c, by simp [queD, Hp.cut, Hp.back, putAt, bakF, Blk.rnL, rC, rM, Tv.rnL, D.rnL, D.rn, cutF, hB, hE3], hm⟩
  ·rw [if_neg gB]
   have k3 := add_s n S hS s hs l c s.area s.count hs.ar (textK ([] : KV) dd) (by omega)
   rw [hlk]
   have hB2 := fun β τ => zAi β τ (goW S (addW s.size s.area s.count (textK ([] : KV) dd))).flatten
   generalize goW S (addW s.size s.area s.count (textK ([] : KV) dd)) = S2 at *
   generalize cntK (textK ([] : KV) dd) = cn at *
   generalize textK ([] : KV) dd = tt at *
   unfold CmR
   unfold hpS stB dkB byB at *
   simp only [queD] at *
   generalize bys S.flatten = Y at *
   generalize bys S2.flatten = Y2 at *
   generalize strs dd = DD at *
   have wQ := And.intro @hB (And.intro @hE @hB2); repeat' (first | with_reducible (apply swq; constructor) | simp only [go_sem, seval, pe14, q14, o_lenZ, hds, q3, q4] | simp (disch := omega) only [wA] | ((with_reducible refine zDi (k2) ?he ?hc ?_); (case he | hc => exact sc wQ)) | ((with_reducible refine o_eff [] [] (k1) ?hs ?he ?hh ?_); (case hs => exact so); (case he | hh => exact sh wQ); try rintro _ _ ⟨rfl, rfl⟩) | ((with_reducible refine o_eff [0, 1, 2, 3] [] (k3) ?hs ?he ?hh ?_); (case hs => exact so); (case he | hh => exact sh wQ); try rintro _ _ ⟨rfl, rfl⟩) | ((with_reducible refine o_eff [1] [] (k4) ?hs ?he ?hh ?_); (case hs => exact so); (case he | hh => exact sh wQ); rintro _ _ ⟨rfl, l', c', rfl, hm'⟩) | with_reducible (apply cdA; constructor) | with_reducible intro _)
   all_goals try omega
   exact ⟨_, zAa, rfl, l', c', by simp [queD, Hp.cut, Hp.back, putAt, bakF, Blk.rnL, rC, rM, Tv.rnL, D.rnL, D.rn, cutF, hB2, hE3], hm'⟩
end Go.Proofs.YtkobjnpmjngklaaGreatDoor
end
section
set_option maxRecDepth 100000
set_option linter.unusedSimpArgs false
set_option linter.unusedVariables false
namespace Go.Proofs.YtkobjnpmjngklaaGreatDoor
open Go GoV
theorem chunk_app : ∀ (n : Nat) (X : List Tx) (r : List D), n ≤ X.length → chunk 1 n (strs X ++ r) = strs (X.take n)
 | 0, X, r, _ => by simp [chunk, strs]
 | n + 1, [], r, h => by simp at h
 | n + 1, b :: X, r, h => by
   have := chunk_app n X r (by simpa using h)
   simpa [chunk, strs] using this
theorem fz_bys (b : Nat) (cs : List D) (l : List UInt8) : (bys l).map (D.fz b cs) = bys l := by
 induction l with
 | nil => rfl
 | cons x l ih =>
   show D.fz b cs _ :: (bys l).map (D.fz b cs) = _ :: bys l
   rw [ih]; rfl
theorem fz_entT (b : Nat) (cs : List D) (l : List Tri) : (entT l).map (fun p => (D.fz b cs p.1, D.fz b cs p.2.1, p.2.2)) = entT l := by
 simp [entT, D.fz]
theorem setT_len (L : List Tx) : (setT L).length ≤ L.length := by
 rw [← zE0]
 refine Nat.le_trans (zCl _) ?_
 rw [srtS, List.length_mergeSort]; exact Nat.le_refl _
theorem comp_take (L : List Tx) : (compS L).take (Lib.compact L).length = Lib.compact L := by
 rw [compS, List.take_append_of_le_length (Nat.le_refl _), List.take_of_length_le (Nat.le_refl _)]
set_option maxHeartbeats 4000000 in
theorem commit_e (n : Nat) (S : Sx) (hS : SxOk S n) (s : Sto) (hs : StOk n s) {l : List Tri} {c : Nat} (hm : MpOk l c s.kv) {lp : List Tri} {cp : Nat} {put : KV} (hp : MpOk lp cp put) (hpb : ∀ p ∈ put, p.1.length ≤ 1000000 ∧ p.2.length ≤ 1000000) (hpl : put.length ≤ 1000000) (drop : List Tx) (hd : drop.length ≤ 1000000) (hdb : ∀ k ∈ drop, k.length ≤ 1000000) :
 Eff M 14 [.ptr 0 0, .mp 4, .slice (strs drop) .no] ⟨(hpS n S s l c).H ++ [.map (entT lp) cp], []⟩ (CmR n (zAj S s put drop) [.map (entT lp) cp]) := by
 refine zGp 5 0 (show 5 ≤ 5 by decide) (Nat.le_refl 0) (k14.oe 5 0 rfl rfl rfl ?_)
 rw [ie14]
 unfold c14
 have k1 := wrong_e hp drop hd
 have hsl := setT_len drop
 have hT := fun hw => commit_te n S hS s hs hm hp hpb hpl drop (by omega) (fun k hk => hdb k (setT_mem.1 hk)) hw
 have hTL : TL14 = (RC.seq (.seq (.reg r14_9) (.cond (.v 10) (.seq (.reg r14_10) .ret) .skip)) (.seq (.reg r14_11) (.seq (.seq (.regD r14_12 r14_13) (.cond (.v 11) (.seq (.reg r14_14) .ret) .skip)) (.seq (.seq (.reg r14_15) (.seq (.reg r14_16) (.cond (.v 12) (.seq (.reg r14_17) .ret) .skip))) (.seq (.reg r14_18) (.seq (.reg r14_19) .ret)))))) := rfl
 rw [← hTL]
 generalize TL14 = TL at *
 have hB := fun β τ => zAi β τ S.flatten
 have hE := fun β τ => zAl β τ l
 have hEp := fun β τ => zAl β τ lp
 have hdc := zAv drop
 have hde := zA3 drop
 by_cases hw : zAr put drop = 0
 ·rw [hw] at k1
  have hT := hT hw
  have hst : ∀ {Q : Ex → St → Prop} {s1 s2 : St}, s1 = s2 → SWp (E14 5 0) TL Q s1 → SWp (E14 5 0) TL Q s2 := fun e h => e ▸ h
  by_cases h0 : drop = []
  ·subst h0
   have k2 : Pur M 49 [.slice [] .no] (.fn (.func 97) [] [.ip [.slice [] .no]]) := values_p []
   have k3 := sortedV_0
   have k4 := compact_0
   have hs0 : setT [] = [] := rfl
   have hss : strs [] = [] := rfl
   rw [hs0, hss] at hT
   have k1 : Eff M 46 [_, .slice [] .no] _ _ := k1
   rw [hss]
   unfold hpS stB dkB byB at *
   simp only [queD, List.cons_append, List.nil_append] at *
   generalize bys S.flatten = Y at *
   generalize entT l = E at *
   generalize entT lp = EP at *
   have wQ := And.intro @hB (And.intro @hE @hEp); repeat' (first | with_reducible (apply swq; constructor) | simp only [go_sem, seval, pe14, q14] | ((with_reducible refine zAc (k2) ?he ?hc ?_); (case he | hc => exact sc wQ)) | ((with_reducible refine zAc (k3) ?he ?hc ?_); (case he | hc => exact sc wQ)) | ((with_reducible refine zAc (k4) ?he ?hc ?_); (case he | hc => exact sc wQ)) | ((with_reducible refine o_eff [4] [] (k1) ?hs ?he ?hh ?_); (case hs => exact so); (case he | hh => exact sh wQ); try rintro _ _ ⟨rfl, rfl⟩) | with_reducible intro _)
   all_goals try omega
   exact hst (by simp [hB, hE, hEp]) (hT (.int .i64 0) (.int .i64 0) .u0 .u0 (.bool false) (.bool false) (.bool false) .u0 .u0 .u0)
  ·have hpos : 0 < drop.length := List.length_pos_iff.2 h0
   have k2 := values_p drop
   have k3 := sortedV_e drop hd hpos
   have hcs := zE0 drop
   have hsl2 : (srtS drop).length = drop.length := List.length_mergeSort _
   have k4 := fun cap (hc : drop.length ≤ cap) => compact_e (srtS drop) (und (cap - drop.length)) drop.length cap hsl2.symm (by rw [und_len]; omega) hd
   have hcl := zCl (srtS drop)
   have hfz := fun r => chunk_app (Lib.compact (srtS drop)).length (compS (srtS drop)) r (by rw [zE2]; exact zCl _)
   rw [comp_take, hcs] at hfz
   have hfe := zBk (setT drop)
   have hrs := fun β τ u => zGc β τ (srtS drop) u
   have hfB := fun b cs => fz_bys b cs S.flatten
   have hfE := fun b cs => fz_entT b cs l
   have hfP := fun b cs => fz_entT b cs lp
   have hrc := fun β τ u => zGc β τ (compS (srtS drop)) u
   have hul : ∀ u, (strs (compS (srtS drop)) ++ und u).length = drop.length + u := fun u => by rw [su_len, zE2, hsl2]
   have hcc : ∀ u, D.cL (strs (compS (srtS drop)) ++ und u) = true := fun u => zF0 _ _ (zAv _) (cl_und _)
   have hce : ∀ u, D.erL (strs (compS (srtS drop)) ++ und u) = strs (compS (srtS drop)) ++ und u := fun u => by rw [erL_app, zA3, er_und]
   have hsd := zAk (setT drop)
   rw [hcs] at k4 hcl
   generalize strs (compS (srtS drop)) = CC at *
   generalize strs (srtS drop) = SS at *
   generalize hSD : strs (setT drop) = SD at *
   generalize hDD : strs drop = DD at *
   have hml : (setT drop).length ≤ drop.length := by omega
   generalize (setT drop).length = ml at *
   unfold hpS stB dkB byB at *
   simp only [queD, List.cons_append, List.nil_append] at *
   generalize bys S.flatten = Y at *
   generalize entT l = E at *
   generalize entT lp = EP at *
   have wQ := And.intro @hB (And.intro @hE (And.intro @hdc (And.intro @hde (And.intro @hrs (And.intro @hrc @hEp))))); repeat' (first | with_reducible (apply swq; constructor) | simp only [go_sem, seval, pe14, q14] | ((with_reducible refine zAc (k2) ?he ?hc ?_); (case he | hc => exact sc wQ)) | ((with_reducible refine o_eff [] [] (k3) ?hs ?he ?hh ?_); (case hs => exact so); (case he | hh => exact sh wQ); rintro _ _ ⟨cap, hcap, rfl, rfl⟩) | ((with_reducible refine o_eff [5] [] ((k4 cap hcap)) ?hs ?he ?hh ?_); (case hs => exact so); (case he | hh => exact sh wQ); try rintro _ _ ⟨rfl, rfl⟩) | ((with_reducible refine o_eff [4] [] (k1) ?hs ?he ?hh ?_); (case hs => exact so); (case he | hh => exact sh wQ); try rintro _ _ ⟨rfl, rfl⟩) | with_reducible intro _)
   all_goals try omega
   simp only [hrc, hB, hE, hEp]
   refine zA1 (zE7 5 (CC ++ und (cap - drop.length)) rfl (Nat.le_refl _) (hcc _)) ?_
   rw [hce]
   have hq : (0 + ml * 1 ≤ (CC ++ und (cap - drop.length)).length ∧ ml ≤ cap ∧ zAh 1 SD = true) := ⟨by rw [hul]; omega, by omega, hfe⟩
   have hw : ∀ {s1 s2 : St}, s1 = s2 → Weak (E14 5 0) s1 s2 := fun e => e ▸ zAa
   refine zA1 (hw (by simp only [St.frz, List.map, D.fz, D.fzL, Blk.mapD, hfB, hfE, hfP, List.drop_zero, hfz, if_pos hq, List.set, List.map_cons, List.map_nil, reduceCtorEq, Nat.reduceEqDiff, if_false, if_true]; rfl)) ?_
   refine zA1 (weak_own 2 rfl) ?_
   refine zA1 (zD1 5 0 (Nat.le_refl _) (Nat.le_refl _)) ?_
   exact hst (by simp [Own.rn, St.gc, Hp.cut, Blk.rnL, rC, rM, Tv.rnL, D.rnL, D.rn, cutF, hB, hE, hEp]) (hT (.int .i64 0) (.int .i64 0) .u0 .u0 (.bool false) (.bool false) (.bool false) .u0 .u0 .u0)
 ·have hr : zAj S s put drop = (S, s, zAr put drop) := by unfold zAj; rw [if_pos hw]
  rw [hr]
  generalize zAr put drop = wv at *
  clear hT
  unfold CmR hpS stB dkB byB
  simp only [queD]
  generalize strs drop = DD at *
  generalize bys S.flatten = Y at *
  have wQ := And.intro @hB (And.intro @hE @hEp); repeat' (first | with_reducible (apply swq; constructor) | simp only [go_sem, seval, pe14, q14] | simp (disch := omega) only [wA] | ((with_reducible refine o_eff [4] [] (k1) ?hs ?he ?hh ?_); (case hs => exact so); (case he | hh => exact sh wQ); try rintro _ _ ⟨rfl, rfl⟩) | with_reducible (apply cdA; constructor) | with_reducible intro _)
  all_goals try omega
  exact ⟨_, zAa, rfl, l, c, by simp [queD, Hp.cut, Hp.back, putAt, bakF, Blk.rnL, rC, rM, Tv.rnL, D.rnL, D.rn, cutF, hB, hE, hEp], hm⟩
set_option maxHeartbeats 4000000 in
theorem commit_z (n : Nat) (S : Sx) (hS : SxOk S n) (s : Sto) (hs : StOk n s) {l : List Tri} {c : Nat} (hm : MpOk l c s.kv) (drop : List Tx) (hd : drop.length ≤ 1000000) (hdb : ∀ k ∈ drop, k.length ≤ 1000000) :
 Eff M 14 [.ptr 0 0, .lit (.map none), .slice (strs drop) .no] ⟨(hpS n S s l c).H ++ [], []⟩ (CmR n (zAj S s ([] : KV) drop) []) := by
 refine zGp 4 0 (show 4 ≤ 4 by decide) (Nat.le_refl 0) (k14.oe 4 0 rfl rfl rfl ?_)
 rw [ie14]
 unfold c14
 have k1 := wrong_z drop hd
 have hsl := setT_len drop
 have hT := fun hw => commit_tz n S hS s hs hm drop (by omega) (fun k hk => hdb k (setT_mem.1 hk)) hw
 have hTL : TL14 = (RC.seq (.seq (.reg r14_9) (.cond (.v 10) (.seq (.reg r14_10) .ret) .skip)) (.seq (.reg r14_11) (.seq (.seq (.regD r14_12 r14_13) (.cond (.v 11) (.seq (.reg r14_14) .ret) .skip)) (.seq (.seq (.reg r14_15) (.seq (.reg r14_16) (.cond (.v 12) (.seq (.reg r14_17) .ret) .skip))) (.seq (.reg r14_18) (.seq (.reg r14_19) .ret)))))) := rfl
 rw [← hTL]
 generalize TL14 = TL at *
 have hB := fun β τ => zAi β τ S.flatten
 have hE := fun β τ => zAl β τ l
 have hdc := zAv drop
 have hde := zA3 drop
 by_cases hw : zAr ([] : KV) drop = 0
 ·rw [hw] at k1
  have hT := hT hw
  have hst : ∀ {Q : Ex → St → Prop} {s1 s2 : St}, s1 = s2 → SWp (E14 4 0) TL Q s1 → SWp (E14 4 0) TL Q s2 := fun e h => e ▸ h
  by_cases h0 : drop = []
  ·subst h0
   have k2 : Pur M 49 [.slice [] .no] (.fn (.func 97) [] [.ip [.slice [] .no]]) := values_p []
   have k3 := sortedV_0
   have k4 := compact_0
   have hs0 : setT [] = [] := rfl
   have hss : strs [] = [] := rfl
   rw [hs0, hss] at hT
   have k1 : Eff M 46 [_, .slice [] .no] _ _ := k1
   rw [hss]
   unfold hpS stB dkB byB at *
   simp only [queD, List.cons_append, List.nil_append] at *
   generalize bys S.flatten = Y at *
   generalize entT l = E at *
   have wQ := And.intro @hB @hE; repeat' (first | with_reducible (apply swq; constructor) | simp only [go_sem, seval, pe14, q14] | ((with_reducible refine zAc (k2) ?he ?hc ?_); (case he | hc => exact sc wQ)) | ((with_reducible refine zAc (k3) ?he ?hc ?_); (case he | hc => exact sc wQ)) | ((with_reducible refine zAc (k4) ?he ?hc ?_); (case he | hc => exact sc wQ)) | ((with_reducible refine o_eff [] [] (k1) ?hs ?he ?hh ?_); (case hs => exact so); (case he | hh => exact sh wQ); try rintro _ _ ⟨rfl, rfl⟩) | with_reducible intro _)
   all_goals try omega
   exact hst (by simp [hB, hE]) (hT (.int .i64 0) (.int .i64 0) .u0 .u0 (.bool false) (.bool false) (.bool false) .u0 .u0 .u0)
  ·have hpos : 0 < drop.length := List.length_pos_iff.2 h0
   have k2 := values_p drop
   have k3 := sortedV_e drop hd hpos
   have hcs := zE0 drop
   have hsl2 : (srtS drop).length = drop.length := List.length_mergeSort _
   have k4 := fun cap (hc : drop.length ≤ cap) => compact_e (srtS drop) (und (cap - drop.length)) drop.length cap hsl2.symm (by rw [und_len]; omega) hd
   have hcl := zCl (srtS drop)
   have hfz := fun r => chunk_app (Lib.compact (srtS drop)).length (compS (srtS drop)) r (by rw [zE2]; exact zCl _)
   rw [comp_take, hcs] at hfz
   have hfe := zBk (setT drop)
   have hrs := fun β τ u => zGc β τ (srtS drop) u
   have hfB := fun b cs => fz_bys b cs S.flatten
   have hfE := fun b cs => fz_entT b cs l
   have hrc := fun β τ u => zGc β τ (compS (srtS drop)) u
   have hul : ∀ u, (strs (compS (srtS drop)) ++ und u).length = drop.length + u := fun u => by rw [su_len, zE2, hsl2]
   have hcc : ∀ u, D.cL (strs (compS (srtS drop)) ++ und u) = true := fun u => zF0 _ _ (zAv _) (cl_und _)
   have hce : ∀ u, D.erL (strs (compS (srtS drop)) ++ und u) = strs (compS (srtS drop)) ++ und u := fun u => by rw [erL_app, zA3, er_und]
   have hsd := zAk (setT drop)
   rw [hcs] at k4 hcl
   generalize strs (compS (srtS drop)) = CC at *
   generalize strs (srtS drop) = SS at *
   generalize hSD : strs (setT drop) = SD at *
   generalize hDD : strs drop = DD at *
   have hml : (setT drop).length ≤ drop.length := by omega
   generalize (setT drop).length = ml at *
   unfold hpS stB dkB byB at *
   simp only [queD, List.cons_append, List.nil_append] at *
   generalize bys S.flatten = Y at *
   generalize entT l = E at *
   have wQ := And.intro @hB (And.intro @hE (And.intro @hdc (And.intro @hde (And.intro @hrs @hrc)))); repeat' (first | with_reducible (apply swq; constructor) | simp only [go_sem, seval, pe14, q14] | ((with_reducible refine zAc (k2) ?he ?hc ?_); (case he | hc => exact sc wQ)) | ((with_reducible refine o_eff [] [] (k3) ?hs ?he ?hh ?_); (case hs => exact so); (case he | hh => exact sh wQ); rintro _ _ ⟨cap, hcap, rfl, rfl⟩) | ((with_reducible refine o_eff [4] [] ((k4 cap hcap)) ?hs ?he ?hh ?_); (case hs => exact so); (case he | hh => exact sh wQ); try rintro _ _ ⟨rfl, rfl⟩) | ((with_reducible refine o_eff [] [] (k1) ?hs ?he ?hh ?_); (case hs => exact so); (case he | hh => exact sh wQ); try rintro _ _ ⟨rfl, rfl⟩) | with_reducible intro _)
   all_goals try omega
   simp only [hrc, hB, hE]
   refine zA1 (zE7 4 (CC ++ und (cap - drop.length)) rfl (Nat.le_refl _) (hcc _)) ?_
   rw [hce]
   have hq : (0 + ml * 1 ≤ (CC ++ und (cap - drop.length)).length ∧ ml ≤ cap ∧ zAh 1 SD = true) := ⟨by rw [hul]; omega, by omega, hfe⟩
   have hw : ∀ {s1 s2 : St}, s1 = s2 → Weak (E14 4 0) s1 s2 := fun e => e ▸ zAa
   refine zA1 (hw (by simp only [St.frz, List.map, D.fz, D.fzL, Blk.mapD, hfB, hfE, List.drop_zero, hfz, if_pos hq, List.set, List.map_cons, List.map_nil, reduceCtorEq, Nat.reduceEqDiff, if_false, if_true]; rfl)) ?_
   refine zA1 (weak_own 2 rfl) ?_
   refine zA1 (zD1 4 0 (Nat.le_refl _) (Nat.le_refl _)) ?_
   exact hst (by simp [Own.rn, St.gc, Hp.cut, Blk.rnL, rC, rM, Tv.rnL, D.rnL, D.rn, cutF, hB, hE]) (hT (.int .i64 0) (.int .i64 0) .u0 .u0 (.bool false) (.bool false) (.bool false) .u0 .u0 .u0)
 ·have hr : zAj S s ([] : KV) drop = (S, s, zAr ([] : KV) drop) := by unfold zAj; rw [if_pos hw]
  rw [hr]
  generalize zAr ([] : KV) drop = wv at *
  clear hT
  unfold CmR hpS stB dkB byB
  simp only [queD]
  generalize strs drop = DD at *
  generalize bys S.flatten = Y at *
  have wQ := And.intro @hB @hE; repeat' (first | with_reducible (apply swq; constructor) | simp only [go_sem, seval, pe14, q14] | simp (disch := omega) only [wA] | ((with_reducible refine o_eff [] [] (k1) ?hs ?he ?hh ?_); (case hs => exact so); (case he | hh => exact sh wQ); try rintro _ _ ⟨rfl, rfl⟩) | with_reducible (apply cdA; constructor) | with_reducible intro _)
  all_goals try omega
  exact ⟨_, zAa, rfl, l, c, by simp [queD, Hp.cut, Hp.back, putAt, bakF, Blk.rnL, rC, rM, Tv.rnL, D.rnL, D.rn, cutF, hB, hE], hm⟩
end Go.Proofs.YtkobjnpmjngklaaGreatDoor
end
section
set_option maxRecDepth 100000
set_option linter.unusedSimpArgs false
set_option linter.unusedVariables false
namespace Go.Proofs.YtkobjnpmjngklaaGreatDoor
open Go GoV
theorem round_ok {n : Nat} {S : Sx} (hS : SxOk S n) {z a : Nat} (t : Tx) (h4 : 4 ≤ n) (h8 : n ≤ 8000) (hz : z = (n - 2) / 2) (ha : a < 2) (ht : cntK t ≤ z) :
 SxOk (goW S (addW z (1 - a) 0 t)) n ∧ SxOk (goW S (zBc z a t)) n := by
 have h1 : SxOk (goW S (addW z (1 - a) 0 t)) n := by
  refine goW_ok _ hS fun g hg => ?_
  simp only [addW, setW, List.mem_cons, List.not_mem_nil, or_false] at hg
  rcases hg with rfl | rfl | rfl
  ·refine ⟨?_, zFo _ _ fun x hx => (chK_el hx).2⟩
   show plc z (1 - a) 0 + (secK (plc z (1 - a) 0) (chK t)).length ≤ n
   rw [zCo, zA0]
   unfold plc
   have : a = 0 ∨ a = 1 := by omega
   rcases this with h | h <;> subst h <;> omega
  iterate 2
   ·refine ⟨by simp; omega, fun t ht => ?_⟩
    simp only [List.mem_singleton] at ht
    subst ht
    exact zC7 (by omega) (by have : (chK t).length = cntK t := zA0 t; omega)
 refine ⟨h1, ?_⟩
 rw [zBc, zEv]
 refine goW_ok _ h1 fun g hg => ?_
 simp only [clrW, List.mem_singleton] at hg
 subst hg
 refine ⟨?_, fun t ht => by rw [List.eq_of_mem_replicate ht]; simp⟩
 simp only [List.length_replicate]
 unfold plc
 have : a = 0 ∨ a = 1 := by omega
 rcases this with h | h <;> subst h <;> omega
def Sto.at (s : Sto) (a d : Nat) : Sto := { s with area := a, count := d }
set_option maxHeartbeats 4000000 in
theorem compact_loop (n : Nat) (S : Sx) (hS : SxOk S n) (s : Sto) (hs : StOk n s) (l : List Tri) (c : Nat) (t : Tx) (ht : cntK t ≤ s.size) (x1 x3 x4 x5 x6 x7 x8 x9 x10 x11 : D) {Q : Ex → St → Prop}
 (hQ : ∀ x3 x4 x5 x6 x7 x8 x9 x10 x11, Q .ret ⟨[.ptr 0 0, .int .i64 0, .str t, x3, x4, x5, x6, x7, x8, x9, x10, x11], [], hpS n (goW S (compW s.size s.area t)) (s.at 0 (cntK t)) l c⟩) :
 SWp (E21 4 0) (.block 1 (.loop (.block 2 (.seq (.reg r21_11) (.seq (.reg r21_12) (.seq (.seq (.reg r21_13) (.cond (.v 9) (.reg r21_14) .skip)) (.seq (.seq (.reg r21_15) (.cond (.v 10) (.seq (.reg r21_16) .ret) .skip)) (.seq (.reg r21_17) (.cond (.v 11) (.seq (.reg r21_18) .ret) .skip))))))))) Q
  ⟨[.ptr 0 0, x1, .str t, x3, x4, x5, x6, x7, x8, x9, x10, x11], [], hpS n S s l c⟩ := by
 have hz : s.size ≤ 4000 := by have := hs.sz; have := hs.n8; omega
 refine zEk ?_
 refine zAs [0, 2] (fun x : Sx × Nat × Nat => ⟨[.ptr 0 0, .u0, .str t, .u0, .u0, .u0, .u0, .u0, .u0, .u0, .u0, .u0], [], hpS n x.1 (s.at x.2.1 x.2.2) l c⟩)
  (fun x => SxOk x.1 n ∧ x.2.1 < 2 ∧ x.2.2 ≤ s.size ∧ goW x.1 (compW s.size x.2.1 t) = goW S (compW s.size s.area t)) (fun x => 1 - x.2.1) (S, s.area, s.count) ⟨hS, hs.ar, hs.ct, rfl⟩ rfl ?_
 rintro ⟨X, a, d⟩ ⟨hX, ha, hd, hgo⟩
 simp only at hX ha hd hgo ⊢
 have hs1 : StOk n (s.at a d) := ⟨hs.n4, hs.n8, hs.sz, ha, hd⟩
 have ha' : a = 0 ∨ a = 1 := by omega
 obtain ⟨hR1, hR2⟩ := round_ok hX t hs.n4 hs.n8 hs.sz ha ht
 have hs2 : StOk n (s.at (1 - a) (cntK t)) := ⟨hs.n4, hs.n8, hs.sz, by show 1 - a < 2; omega, ht⟩
 have k1 := add_s n X hX (s.at a d) hs1 l c (1 - a) 0 (by omega) t (by show 0 + cntK t ≤ s.size; omega)
 have k2 := clear_s n _ hR1 (s.at (1 - a) (cntK t)) hs2 l c a 0 ha (Nat.zero_le _)
 have e1 : (s.at a d).at (1 - a) (0 + cntK t) = s.at (1 - a) (cntK t) := by rw [Nat.zero_add]; rfl
 have e2 : goW (goW X (addW s.size (1 - a) 0 t)) (clrW s.size a 0) = goW X (zBc s.size a t) := by rw [zBc, zEv]
 have k1 : Eff M 52 [.ptr 0 0, .agg [.int .i64 (1 - a : Nat), .int .i64 (0 : Nat)], .str t] (hpS n X (s.at a d) l c) fun v hp => v = .int .i64 0 ∧ hp = hpS n (goW X (addW s.size (1 - a) 0 t)) (s.at (1 - a) (cntK t)) l c := by rw [← e1]; exact k1
 have k2 : Eff M 56 [.ptr 0 0, .int .i64 a, .int .i64 (0 : Nat)] (hpS n (goW X (addW s.size (1 - a) 0 t)) (s.at (1 - a) (cntK t)) l c) fun v hp => v = .int .i64 0 ∧ hp = hpS n (goW X (zBc s.size a t)) (s.at (1 - a) (cntK t)) l c := by rw [← e2]; exact k2
 have hB := fun β τ => zAi β τ X.flatten
 have hB1 := fun β τ => zAi β τ (goW X (addW s.size (1 - a) 0 t)).flatten
 have hB2 := fun β τ => zAi β τ (goW X (zBc s.size a t)).flatten
 have hE := fun β τ => zAl β τ l
 rcases ha' with rfl | rfl
 ·have e3 : goW (goW X (zBc s.size 0 t)) (compW s.size 1 t) = goW X (compW s.size 0 t) := by
   simp [compW, zEv]
  have hgo := e3.trans hgo
  unfold hpS stB dkB byB Sto.at at *
  simp only [queD] at *
  generalize hY2 : bys (goW X (zBc s.size 0 t)).flatten = Y2 at *
  generalize bys (goW X (addW s.size (1 - 0) 0 t)).flatten = Y1 at *
  generalize bys X.flatten = Y at *
  generalize entT l = E at *
  have wQ := And.intro @hB (And.intro @hB1 @hE); repeat' (first | with_reducible (apply swq; constructor) | simp only [go_sem, seval, pe21, q21] | simp (disch := omega) only [wA] | ((with_reducible refine o_eff [0, 1, 2, 3] [] (k1) ?hs ?he ?hh ?_); (case hs => exact so); (case he | hh => exact sh wQ); try rintro _ _ ⟨rfl, rfl⟩) | ((with_reducible refine o_eff [0, 1, 2, 3] [] (k2) ?hs ?he ?hh ?_); (case hs => exact so); (case he | hh => exact sh wQ); try rintro _ _ ⟨rfl, rfl⟩) | with_reducible (apply cdA; constructor) | with_reducible intro _)
  all_goals try omega
  refine ⟨(goW X (zBc s.size 0 t), 1, cntK t), ⟨hR2, (show (1 : Nat) < 2 by decide), ht, hgo⟩, (show (1 : Nat) - 1 < 1 by decide), ?_⟩
  dsimp only
  rw [hY2]
  simp [keepE, St.keepG, St.keep, St.gc, RcS, RcB, Hp.cut, Hp.back, putAt, bakF, Blk.rnL, rC, rM, Tv.rnL, Tv.rn, D.rnL, D.rn, cutF, Own.rn, hB2, hE]
 ·have k3 := clear_s n _ hR2 (s.at 0 (cntK t)) hs2 l c 0 (cntK t) (by decide) ht
  have e3 : goW (goW X (zBc s.size 1 t)) (clrW s.size 0 (cntK t)) = goW S (compW s.size s.area t) := by
   rw [← hgo, ← zA0 t]
   simp [compW, zEv]
  have k3 : Eff M 56 [.ptr 0 0, .int .i64 (0 : Nat), .int .i64 (cntK t : Nat)] (hpS n (goW X (zBc s.size 1 t)) (s.at 0 (cntK t)) l c) fun v hp => v = .int .i64 0 ∧ hp = hpS n (goW S (compW s.size s.area t)) (s.at 0 (cntK t)) l c := by rw [← e3]; exact k3
  have hB3 := fun β τ => zAi β τ (goW S (compW s.size s.area t)).flatten
  unfold hpS stB dkB byB Sto.at at *
  simp only [queD] at *
  generalize bys (goW S (compW s.size s.area t)).flatten = Y3 at *
  generalize bys (goW X (zBc s.size 1 t)).flatten = Y2 at *
  generalize bys (goW X (addW s.size (1 - 1) 0 t)).flatten = Y1 at *
  generalize bys X.flatten = Y at *
  generalize entT l = E at *
  have wQ := And.intro @hB (And.intro @hB1 (And.intro @hB2 @hE)); repeat' (first | with_reducible (apply swq; constructor) | simp only [go_sem, seval, pe21, q21] | simp (disch := omega) only [wA] | ((with_reducible refine o_eff [0, 1, 2, 3] [] (k1) ?hs ?he ?hh ?_); (case hs => exact so); (case he | hh => exact sh wQ); try rintro _ _ ⟨rfl, rfl⟩) | ((with_reducible refine o_eff [0, 1, 2, 3] [] (k2) ?hs ?he ?hh ?_); (case hs => exact so); (case he | hh => exact sh wQ); try rintro _ _ ⟨rfl, rfl⟩) | ((with_reducible refine o_eff [0, 1, 2, 3] [] (k3) ?hs ?he ?hh ?_); (case hs => exact so); (case he | hh => exact sh wQ); try rintro _ _ ⟨rfl, rfl⟩) | with_reducible (apply cdA; constructor) | with_reducible intro _)
  all_goals try omega
  have h := hQ (.int .i64 (1 : Nat)) (.int .i64 0) .u0 .u0 .u0 .u0 (.bool true) (.bool false) (.bool true)
  exact (by simpa [hB3, hE, bakF, Blk.rnL, D.rnL, D.rn] using h)
set_option maxHeartbeats 4000000 in
theorem zE1 (n : Nat) (S : Sx) (hS : SxOk S n) (s : Sto) (hs : StOk n s) {l : List Tri} {c : Nat} (hm : MpOk l c s.kv) (hkb : ∀ p ∈ s.kv, p.1.length ≤ 1000000 ∧ p.2.length ≤ 1000000) (hkl : s.kv.length ≤ 1000000) :
 Eff M 21 [.ptr 0 0] (hpS n S s l c) fun d hp => d = .int .i64 (zAw S s).2.2 ∧ hp = hpS n (zAw S s).1 (zAw S s).2.1 l c := by
 refine zAu 4 0 (Nat.le_refl 4) (Nat.le_refl 0) (k21.oe 4 0 rfl rfl rfl ?_)
 rw [ie21]
 unfold c21
 have hz : s.size ≤ 4000 := by have := hs.sz; have := hs.n8; omega
 have hTl : (textK s.kv []).length ≤ 10000000000000 := textK_le hkl (by simp) hkb (by simp)
 have k1 : Eff M 50 [.mp 0, .lit (.slice none 0 0)] ⟨[.map (entT l) c], []⟩ _ := eff_args (text_e hm [] (fun t ht => (hkb _ ((hm.mem _).1 (List.mem_map_of_mem ht))).1) (by rw [hm.len]; exact hkl) (by simp) hTl) rfl
 have hw : zAn s.kv = if s.kv = [] then [] else textK s.kv [] := rfl
 have hwl : (zAn s.kv).length ≤ 10000000000000 := by rw [hw]; split <;> first | omega | simp
 have k2 := cnt_p (zAn s.kv) (by omega)
 have hlen := hm.len
 have hel := entT_len l
 rw [hlen] at hel
 unfold zAw
 have hL := compact_loop n S hS s hs l c (zAn s.kv)
 generalize hLL : RC.block 1 (.loop (.block 2 (.seq (.reg r21_11) (.seq (.reg r21_12) (.seq (.seq (.reg r21_13) (.cond (.v 9) (.reg r21_14) .skip)) (.seq (.seq (.reg r21_15) (.cond (.v 10) (.seq (.reg r21_16) .ret) .skip)) (.seq (.reg r21_17) (.cond (.v 11) (.seq (.reg r21_18) .ret) .skip)))))))) = LL at *
 have hB := fun β τ => zAi β τ S.flatten
 have hB3 := fun β τ => zAi β τ (goW S (compW s.size s.area (zAn s.kv))).flatten
 have hE := fun β τ => zAl β τ l
 have e9 : ({ s with area := 0, count := (chK (zAn s.kv)).length } : Sto) = s.at 0 (cntK (zAn s.kv)) := by rw [zA0]; rfl
 rw [e9]
 have hst : ∀ {Q : Ex → St → Prop} {s1 s2 : St}, s1 = s2 → SWp (E21 4 0) LL Q s1 → SWp (E21 4 0) LL Q s2 := fun e h => e ▸ h
 by_cases h0 : s.kv = []
 ·rw [h0] at hw
  have hw : zAn s.kv = [] := by rw [h0]; rfl
  rw [hw] at hL k2 hB3 ⊢
  have hl0 : s.kv.length = 0 := by rw [h0]; rfl
  have hc0 : cntK [] = 0 := by decide
  rw [hl0] at hel
  rw [hc0] at hL k2 ⊢
  rw [if_neg (by omega)]
  have hL := hL (Nat.zero_le _)
  unfold hpS stB dkB byB Sto.at at *
  simp only [queD] at *
  generalize bys (goW S (compW s.size s.area [])).flatten = Y3 at *
  generalize bys S.flatten = Y at *
  generalize entT l = E at *
  have wQ := And.intro @hB @hE; repeat' (first | with_reducible (apply swq; constructor) | simp only [go_sem, seval, pe21, q21, hel] | simp (disch := omega) only [wA] | ((with_reducible refine zDi (k2) ?he ?hc ?_); (case he | hc => exact sc wQ)) | ((with_reducible apply zDb); (case h1 => rfl)) | with_reducible (apply cdA; constructor) | with_reducible intro _)
  all_goals try omega
  exact hst rfl (hL (.int .i64 0) .u0 .u0 (.bool false) (.bool false) (.bool false) (.bool false) .u0 .u0 .u0 (fun y3 y4 y5 y6 y7 y8 y9 y10 y11 => ⟨trivial, _, zAa, rfl, by simp [RcS, RcB, Hp.cut, Hp.back, putAt, bakF, Blk.rnL, rC, rM, Tv.rnL, Tv.rn, D.rnL, D.rn, cutF, Own.rn, hB3, hE]⟩))
 ·rw [if_neg h0] at hw
  have hpos : 0 < s.kv.length := List.length_pos_iff.2 h0
  rw [← hw] at k1
  generalize zAn s.kv = t at *
  clear hw hTl hkb hm e9 h0
  by_cases gB : s.size < cntK t
  ·rw [if_pos gB]
   unfold hpS stB dkB byB Sto.at at *
   simp only [queD] at *
   generalize bys (goW S (compW s.size s.area t)).flatten = Y3 at *
   generalize bys S.flatten = Y at *
   generalize entT l = E at *
   have wQ := And.intro @hB @hE; repeat' (first | with_reducible (apply swq; constructor) | simp only [go_sem, seval, pe21, q21, hel] | simp (disch := omega) only [wA] | ((with_reducible refine zDi (k2) ?he ?hc ?_); (case he | hc => exact sc wQ)) | ((with_reducible refine o_eff [1] [] (k1) ?hs ?he ?hh ?_); (case hs => exact so); (case he | hh => exact sh wQ); try rintro _ _ ⟨rfl, rfl⟩) | ((with_reducible apply zDb); (case h1 => rfl)) | with_reducible (apply cdA; constructor) | with_reducible intro _)
   all_goals try omega
   exact ⟨_, zAa, rfl, by simp [RcS, RcB, Hp.cut, Hp.back, putAt, bakF, Blk.rnL, rC, rM, Tv.rnL, Tv.rn, D.rnL, D.rn, cutF, Own.rn, hB, hE]⟩
  ·rw [if_neg gB]
   have hL := hL (by omega)
   unfold hpS stB dkB byB Sto.at at *
   simp only [queD] at *
   generalize bys (goW S (compW s.size s.area t)).flatten = Y3 at *
   generalize bys S.flatten = Y at *
   generalize entT l = E at *
   have wQ := And.intro @hB @hE; repeat' (first | with_reducible (apply swq; constructor) | simp only [go_sem, seval, pe21, q21, hel] | simp (disch := omega) only [wA] | ((with_reducible refine zDi (k2) ?he ?hc ?_); (case he | hc => exact sc wQ)) | ((with_reducible refine o_eff [1] [] (k1) ?hs ?he ?hh ?_); (case hs => exact so); (case he | hh => exact sh wQ); try rintro _ _ ⟨rfl, rfl⟩) | ((with_reducible apply zDb); (case h1 => rfl)) | with_reducible (apply cdA; constructor) | with_reducible intro _)
   all_goals try omega
   exact hst (by simp only [hE]) (hL (.int .i64 0) .u0 .u0 (.bool false) (.bool false) (.bool true) (.bool false) .u0 .u0 .u0 (fun y3 y4 y5 y6 y7 y8 y9 y10 y11 => ⟨trivial, _, zAa, rfl, by simp [RcS, RcB, Hp.cut, Hp.back, putAt, bakF, Blk.rnL, rC, rM, Tv.rnL, Tv.rn, D.rnL, D.rn, cutF, Own.rn, hB3, hE]⟩))
theorem get_s (n : Nat) (S : Sx) (s : Sto) {l : List Tri} {c : Nat} (hm : MpOk l c s.kv) (k : Tx) :
 Eff M 24 [.ptr 0 0, .str k] (hpS n S s l c) fun d hp => d = .tup [.str ((getK k s.kv).getD []), .bool (getK k s.kv).isSome] ∧ hp = hpS n S s l c := by
 refine zAu 4 0 (Nat.le_refl 4) (Nat.le_refl 0) (k24.oe 4 0 rfl rfl rfl ?_)
 rw [ie24]
 unfold c24
 have hok := zDq l
 have hB := fun β τ => zAi β τ S.flatten
 have hE := fun β τ => zAl β τ l
 cases hg : getK k s.kv with
 | some v =>
   obtain ⟨i, g2⟩ := hm.some hg
   simp only [Option.getD_some, Option.isSome_some]
   unfold hpS stB dkB byB at *
   simp only [queD] at *
   generalize bys S.flatten = Y at *
   generalize entT l = E at *
   repeat' (first | with_reducible (apply swq; constructor) | simp only [go_sem, seval, pe24, q24, hok, g2] | ((with_reducible apply s_lkpS); (case h1 | hk => rfl); (case ha | hf => first | rfl | assumption)) | with_reducible intro _)
   all_goals try omega
   exact ⟨_, zAa, rfl, by simp [RcS, RcB, Hp.cut, Hp.back, putAt, bakF, Blk.rnL, rC, rM, Tv.rnL, Tv.rn, D.rnL, D.rn, cutF, Own.rn, hB, hE]⟩
 | none =>
   have g2 := hm.none hg
   simp only [Option.getD_none, Option.isSome_none]
   unfold hpS stB dkB byB at *
   simp only [queD] at *
   generalize bys S.flatten = Y at *
   generalize entT l = E at *
   repeat' (first | with_reducible (apply swq; constructor) | simp only [go_sem, seval, pe24, q24, hok, g2] | ((with_reducible apply s_lkpN); (case h1 | hk => rfl); (case hf | ha => first | rfl | assumption)) | with_reducible intro _)
   all_goals try omega
   exact ⟨_, zAa, rfl, by simp [RcS, RcB, Hp.cut, Hp.back, putAt, bakF, Blk.rnL, rC, rM, Tv.rnL, Tv.rn, D.rnL, D.rn, cutF, Own.rn, hB, hE]⟩
set_option maxHeartbeats 1000000 in
theorem keysS_s (n : Nat) (S : Sx) (s : Sto) {l : List Tri} {c : Nat} (hm : MpOk l c s.kv) (hkb : ∀ p ∈ s.kv, p.1.length ≤ 1000000) (hkl : s.kv.length ≤ 1000000) :
 Eff M 19 [.ptr 0 0] (hpS n S s l c) fun d hp => d = .slice (strs (ks s.kv)) .no ∧ hp = hpS n S s l c := by
 refine zAu 4 0 (Nat.le_refl 4) (Nat.le_refl 0) (k19.oe 4 0 rfl rfl rfl ?_)
 rw [ie19]
 unfold c19
 have c1 := keys_e l c
 have c2 := sortedKeys_e hm (fun t ht => hkb _ ((hm.mem _).1 (List.mem_map_of_mem ht))) (by rw [hm.len]; exact hkl)
 have hB := fun β τ => zAi β τ S.flatten
 have hE := fun β τ => zAl β τ l
 have hc := zAv (ks s.kv)
 have he := zA3 (ks s.kv)
 simp only [keysH] at c1 c2
 unfold hpS stB dkB byB at *
 simp only [queD] at *
 generalize bys S.flatten = Y at *
 generalize entT l = E at *
 generalize strs (ks s.kv) = K at *
 have wQ := And.intro @hB @hE; repeat' (first | with_reducible (apply swq; constructor) | simp only [go_sem, seval, pe19, q19] | ((with_reducible refine o_eff [1] [] (c1) ?hs ?he ?hh ?_); (case hs => exact so); (case he | hh => exact sh wQ); rintro _ _ ⟨rfl, rfl⟩) | ((with_reducible refine o_eff [1, 4] [] (c2) ?hs ?he ?hh ?_); (case hs => exact so); (case he | hh => exact sh wQ); rintro _ _ ⟨rfl, rfl⟩) | with_reducible intro _)
 all_goals try omega
 exact ⟨_, zAa, rfl, by simp [RcS, RcB, Hp.cut, Hp.back, putAt, bakF, Blk.rnL, rC, rM, Tv.rnL, Tv.rn, D.rnL, D.rn, cutF, Own.rn, hB, hE]⟩
end Go.Proofs.YtkobjnpmjngklaaGreatDoor
end
section
set_option maxRecDepth 100000
set_option linter.unusedSimpArgs false
set_option linter.unusedVariables false
namespace Go.Proofs.YtkobjnpmjngklaaGreatDoor
open Go GoV
section
variable {M : Mod} {j i : Nat} {dst : Dst} {q : Bool} {r : List (RO × Bool)} {K : St → Prop} {s : St} {oc : OC} {args : List Opd}
theorem x_q {ds : List D} (d : D) (hij : i ≠ j) (ha : args.map s.get = ds) (hA : AnyS M oc ds d) (h : opsX M j (i + 1) r K (s.put dst d)) : opsX M j i ((⟨dst, oc, args, none⟩, q) :: r) K s := by
 simp only [opsX]
 rw [if_neg hij]
 simp only [headA]
 rw [ha]
 exact ⟨d, hA, h⟩
theorem x_eff {f : FuncId} {first cap ds ds' : List D} {hp0 hp1 : Hp} {d : D} (bl tl : List Nat) (h : Eff M f ds' hp0 fun d' hp' => d' = d ∧ hp' = hp1) (ha : args.map s.get = .fn (.func f) first cap :: ds) (hs : SelOk s.hp bl tl) (hd : D.rnL (posF bl) (posF tl) (first ++ ds ++ cap) = ds') (hh : s.hp.sel bl tl = hp0)
 (hk : opsX M j (j + 1) r K ({ s with hp := s.hp.back bl tl hp1 }.put dst (d.rn (bakF bl s.hp.H.length) (bakF tl s.hp.tk.length)))) : opsX M j j ((⟨dst, .call, args, none⟩, q) :: r) K s := by
 simp only [opsX, if_true, headQ]
 simp only [stepWp, Bool.false_eq_true, if_false, detWp, qOp]
 refine ⟨_, _, ?_, hk⟩
 rw [ha]
 simp only [OcWp, zAb, if_true]
 exact call_eff bl tl h hs hd hh (by rintro d' hp' ⟨rfl, rfl⟩; exact ⟨rfl, rfl⟩)
end
theorem o_ixaI {P : Mod} {r : List RO} {K : St → Prop} {s : St} {dst : Dst} {len n : Nat} {k : IntKind} {a : Int} {cs : List D} : OpS P (.ixaA len n) [.ip cs, .int k a] dst r K s = (0 ≤ a ∧ a < len ∧ opsWp P r K (s.put dst (.ip (cs.drop (a.toNat * n))))) := by simp [OpS, OcWp, zAb, isPan, opWp]
theorem p_ixaI {P : Mod} {rq : List (RO × Bool)} {K : St → Prop} {s : St} {dst : Dst} {len n : Nat} {k : IntKind} {a : Int} {cs : List D} : OpQ P (.ixaA len n) [.ip cs, .int k a] dst rq K s = (0 ≤ a ∧ a < len ∧ opsQ P rq K (s.put dst (.ip (cs.drop (a.toNat * n))))) := by simp [OpQ, zAf, zAb, opWp]
def pairD (p : Tx × Tx) : D := .agg [.str p.1, .str p.2]
def prs (l : KV) : List D := l.map pairD
theorem prs_len (l : KV) : (prs l).length = l.length := List.length_map _
theorem prs_get {l : KV} {i : Nat} (h : i < l.length) : (prs l).getD i .u0 = .agg [.str l[i].1, .str l[i].2] := by
 simp [prs, pairD, List.getD_eq_getElem?_getD, List.getElem?_map, h]
theorem entT_inj : ∀ {a b : List Tri}, entT a = entT b → a = b
 | [], [], _ => rfl
 | [], _ :: _, h => by simp [entT] at h
 | _ :: _, [], h => by simp [entT] at h
 | (x, y, z) :: a, (x', y', z') :: b, h => by
   simp only [entT, List.map_cons, List.cons.injEq, Prod.mk.injEq, D.str.injEq] at h
   obtain ⟨⟨rfl, rfl, rfl⟩, h2⟩ := h
   rw [entT_inj (show entT a = entT b from h2)]
open Classical in
noncomputable def nxtT (x : List Tri × Nat) (p : Tx × Tx) : List Tri × Nat :=
 if h : ∃ y : List Tri × Nat, putM (entT x.1) x.2 (.str p.1) (.str p.2) = .map (entT y.1) y.2 then Classical.choose h else x
theorem nxtT_ok {x : List Tri × Nat} {m : KV} (h : MpOk x.1 x.2 m) (p : Tx × Tx) :
 putM (entT x.1) x.2 (.str p.1) (.str p.2) = .map (entT (nxtT x p).1) (nxtT x p).2 ∧ MpOk (nxtT x p).1 (nxtT x p).2 (insK p.1 p.2 m) := by
 obtain ⟨l', c', h1, h2⟩ := h.put p.1 p.2
 have he : ∃ y : List Tri × Nat, putM (entT x.1) x.2 (.str p.1) (.str p.2) = .map (entT y.1) y.2 := ⟨(l', c'), h1⟩
 have e : nxtT x p = Classical.choose he := by rw [nxtT, dif_pos he]
 have hc := Classical.choose_spec he
 rw [← e] at hc
 refine ⟨hc, ?_⟩
 rw [hc] at h1
 injection h1 with e1 e2
 rw [entT_inj e1, e2]
 exact h2
noncomputable def mapT (l : KV) : List Tri × Nat := l.foldl nxtT ([], 0)
theorem mapF_ok : ∀ (l : KV) {x : List Tri × Nat} {m : KV}, MpOk x.1 x.2 m → MpOk (l.foldl nxtT x).1 (l.foldl nxtT x).2 (l.foldl (fun m p => insK p.1 p.2 m) m)
 | [], _, _, h => h
 | p :: l, _, _, h => mapF_ok l (nxtT_ok h p).2
theorem zEf (l : KV) : MpOk (mapT l).1 (mapT l).2 (ofL l) := mapF_ok l mp_nil
theorem mapT_app (l : KV) (p : Tx × Tx) : mapT (l ++ [p]) = nxtT (mapT l) p := by simp [mapT]
set_option maxHeartbeats 1000000 in
theorem mapped_p (l : KV) (hl : l.length ≤ 1000000) : Eff M 15 [.slice (prs l) .no] ⟨[], []⟩ fun d hp => d = .mp 0 ∧ hp = ⟨[.map (entT (mapT l).1) (mapT l).2], []⟩ := by
 refine k15.oe 0 0 rfl rfl rfl ?_
 rw [ie15]
 unfold c15
 have hpl := prs_len l
 have hget := fun i (h : i < l.length) => prs_get h
 have hE0 : entT [] = [] := rfl
 generalize prs l = P at *
 repeat' (first | with_reducible (apply swq; constructor) | simp only [go_sem, seval, pe15, q15, zAp] | with_reducible intro _)
 all_goals try omega
 refine zAs (C := E15 0 0) [0, 2, 3] (fun k : Nat => ⟨[.slice P .no, .u0, .mp 0, .int .i64 k, .u0], [], ⟨[.map (entT (mapT (l.take k)).1) (mapT (l.take k)).2], []⟩⟩)
  (fun k => k ≤ l.length) (fun k => l.length - k) 0 (Nat.zero_le _) ?_ ?_
 ·simp [keepE, St.keep, mapT, hE0]
 ·intro k hk
  by_cases hlt : k < l.length
  ·have g1 := hget k hlt
   obtain ⟨g2, g3⟩ := nxtT_ok (zEf (l.take k)) l[k]
   have g4 : mapT (l.take (k + 1)) = nxtT (mapT (l.take k)) l[k] := by rw [List.take_succ_eq_append_getElem hlt, mapT_app]
   have hko := zDq (mapT (l.take k)).1
   rw [← g4] at g2
   generalize l[k] = p at *
   have wQ := @hpl; repeat' (first | with_reducible (apply swq; constructor) | simp only [go_sem, seval, pe15, q15, g1, o_ixaI, p_ixaI, zAp] | simp (disch := omega) only [wA] | ((with_reducible apply s_mpu); (case h1 | hk => rfl); (case ha | hp => first | rfl | assumption)) | with_reducible (apply cdA; constructor) | ((with_reducible refine And.intro ?hw ?_); (case hw => exact sw wQ)) | with_reducible intro _)
   all_goals try omega
   exact ⟨k + 1, by omega, by omega, by simp [keepE, St.keep, g2]⟩
  ·have e : k = l.length := by omega
   subst e
   rw [List.take_length]
   have wQ := @hpl; repeat' (first | with_reducible (apply swq; constructor) | simp only [go_sem, seval, pe15, q15, zAp] | simp (disch := omega) only [wA] | with_reducible (apply cdA; constructor) | ((with_reducible refine And.intro ?hw ?_); (case hw => exact sw wQ)) | with_reducible intro _)
   all_goals try omega
   exact ⟨_, zAa, rfl, rfl⟩
theorem one_p (k v : Tx) : Eff M 23 [.str k, .str v] ⟨[], []⟩ fun d hp => d = .mp 0 ∧ hp = ⟨[.map (entT (mapT [(k, v)]).1) (mapT [(k, v)]).2], []⟩ := by
 refine k23.oe 0 0 rfl rfl rfl ?_
 rw [ie23]
 unfold c23
 obtain ⟨g2, g3⟩ := nxtT_ok (x := ([], 0)) (m := []) mp_nil (k, v)
 have g4 : mapT [(k, v)] = nxtT ([], 0) (k, v) := rfl
 rw [g4]
 have hE0 : entT [] = [] := rfl
 rw [hE0] at g2
 dsimp only at g2
 have hko := zDq []
 rw [hE0] at hko
 repeat' (first | with_reducible (apply swq; constructor) | simp only [go_sem, seval, pe23, q23, zAp] | ((with_reducible apply s_mpu); (case h1 | hk => rfl); (case ha | hp => first | rfl | assumption)) | with_reducible intro _)
 all_goals try omega
 exact ⟨_, zAa, rfl, by simp [g2]⟩
set_option maxHeartbeats 1000000 in
theorem same_r (a b : List Tx) (hl : a.length ≤ 4611686018427387904) : Pur M 54 [.slice (strs a) .no, .slice (strs b) .no] (.bool (decide (a = b))) := by
 refine k54.ok (C := C54) rfl rfl ?_
 rw [i54]
 unfold c54
 have hal := zAk a
 have hbl := zAk b
 have ga := fun i (h : i < a.length) => zBt h
 have gb := fun i (h : i < b.length) => zBt h
 generalize strs a = A at *
 generalize strs b = B at *
 by_cases hn : a.length = b.length
 ·repeat' (first | with_reducible (apply swq; constructor) | simp only [go_sem, seval, P54, q54, hal, hbl] | with_reducible (apply cdA; constructor) | with_reducible intro _)
  all_goals try omega
  refine zAs [0, 1, 2, 3] (fun i : Nat => ⟨[.slice A .no, .slice B .no, .bool false, .int .i64 i, .u0, .u0, .u0], [], ⟨[], []⟩⟩)
   (fun i => i ≤ a.length ∧ a.take i = b.take i) (fun i => a.length - i) 0 ⟨by omega, by simp⟩ ?_ ?_
  ·simp [keepE, St.keep]
  ·rintro i ⟨g1, g2⟩
   by_cases hi : i < a.length
   ·have hg := ga i hi
    have hg2 := gb i (by omega)
    by_cases he : a[i] = b[i]
    ·have h6 : (b[i] == b[i]) = true := by simp
     rw [he] at hg
     have wQ := tw; repeat' (first | with_reducible (apply swq; constructor) | simp only [go_sem, seval, P54, q54, hal, hbl, hg, hg2, h6] | simp (disch := omega) only [wA] | with_reducible (apply cdA; constructor) | ((with_reducible refine And.intro ?hw ?_); (case hw => exact sw wQ)) | with_reducible intro _)
     all_goals try omega
     all_goals try (simp at *; done)
     refine ⟨i + 1, ⟨by omega, ?_⟩, by omega, ?_⟩
     ·rw [List.take_succ_eq_append_getElem hi, List.take_succ_eq_append_getElem (show i < b.length by omega), g2, he]
     ·simp [keepE, St.keep]
    ·have hne : decide (a = b) = false := by
      simp only [decide_eq_false_iff_not]
      rintro rfl
      exact he rfl
     have h6 : (a[i] == b[i]) = false := by simpa using he
     rw [hne]
     generalize a[i] = x at *
     generalize b[i] = y at *
     have wQ := tw; repeat' (first | with_reducible (apply swq; constructor) | simp only [go_sem, seval, P54, q54, hal, hbl, hg, hg2, h6, Bool.not_false] | with_reducible (apply cdA; constructor) | ((with_reducible refine And.intro ?hw ?_); (case hw => exact sw wQ)) | with_reducible intro _)
     all_goals first
      | omega
      | (simp [D.closed, D.er]; done)
      | (simp at *; done)
      | (simp_all; done)
   ·have e : i = a.length := by omega
    subst e
    rw [List.take_length, hn, List.take_length] at g2
    have hne : decide (a = b) = true := by simpa using g2
    rw [hne]
    have wQ := tw; repeat' (first | with_reducible (apply swq; constructor) | simp only [go_sem, seval, P54, q54, hal, hbl] | simp (disch := omega) only [wA] | with_reducible (apply cdA; constructor) | ((with_reducible refine And.intro ?hw ?_); (case hw => exact sw wQ)) | with_reducible intro _)
    all_goals first
     | omega
     | (simp [D.closed, D.er]; done)
 ·have hne : decide (a = b) = false := by
   simp only [decide_eq_false_iff_not]
   rintro rfl
   exact hn rfl
  rw [hne]
  repeat' (first | with_reducible (apply swq; constructor) | simp only [go_sem, seval, P54, q54, hal, hbl] | simp (disch := omega) only [wA] | with_reducible (apply cdA; constructor) | with_reducible intro _)
  all_goals first
   | omega
   | (simp [D.closed, D.er]; done)
theorem same_p (a b : List Tx) (hl : a.length ≤ 4611686018427387904) : Pur M 17 [.slice (strs a) .no, .slice (strs b) .no] (.bool (decide (a = b))) := by
 refine k17.ok (C := C17) rfl rfl ?_
 rw [i17]
 unfold c17
 have k1 := same_r a b hl
 have hc := zAv a
 have he := zA3 a
 have hc2 := zAv b
 have he2 := zA3 b
 generalize decide (a = b) = r at *
 generalize strs a = A at *
 generalize strs b = B at *
 have wQ := And.intro @hc (And.intro @he (And.intro @hc2 @he2)); repeat' (first | with_reducible (apply swq; constructor) | simp only [go_sem, seval, P17, q17] | ((with_reducible refine zAc (k1) ?he ?hc ?_); (case he | hc => exact sc wQ)) | with_reducible intro _)
 all_goals try omega
 all_goals (simp [D.closed, D.er]; done)
end Go.Proofs.YtkobjnpmjngklaaGreatDoor
end