/- The laws of digests: lists. Own work. -/
import Derived.Test.YtiodnobmnfjdlaaDoorDo
set_option maxRecDepth 100000
set_option linter.unusedSimpArgs false
set_option linter.unusedVariables false
namespace Go.Proofs.YtiodnobmnfjdlaaDoor
open Go GoV Go.RowKit

/-! ### Joined texts -/

def dv (l : List UInt8) : Nat := l.foldl (fun n b => 10 * n + (b.toNat - 48)) 0

theorem dig_toNat (r : Nat) (h : r < 10) : (UInt8.ofNat (48 + r)).toNat = 48 + r := by
  rw [UInt8.toNat_ofNat']; omega

theorem dv_dec : ∀ u : Nat, dv (Lib.decDigits u) = u := by
  intro u
  induction u using Nat.strongRecOn with
  | _ u ih =>
    by_cases h : u < 10
    · rw [Lib.decDigits_one h]
      simp only [dv, List.foldl_cons, List.foldl_nil, dig_toNat u h]
      omega
    · rw [dec_step h]
      have := ih (u / 10) (by omega)
      unfold dv at this ⊢
      rw [List.foldl_append, this]
      simp only [List.foldl_cons, List.foldl_nil, dig_toNat (u % 10) (by omega)]
      omega

theorem dec_dig : ∀ u : Nat, ∀ c ∈ Lib.decDigits u, c ≠ 58 := by
  intro u
  induction u using Nat.strongRecOn with
  | _ u ih =>
    have one : ∀ r, r < 10 → UInt8.ofNat (48 + r) ≠ 58 := by
      intro r hr e
      have := congrArg UInt8.toNat e
      rw [dig_toNat r hr] at this
      have h2 : (58 : UInt8).toNat = 58 := rfl
      omega
    by_cases h : u < 10
    · rw [Lib.decDigits_one h]
      intro c hc
      rw [List.mem_singleton] at hc
      subst hc
      exact one u h
    · rw [dec_step h]
      intro c hc
      rcases List.mem_append.1 hc with hc | hc
      · exact ih (u / 10) (by omega) c hc
      · rw [List.mem_singleton] at hc
        subst hc
        exact one _ (by omega)

theorem itoa_nat (u : Nat) : Lib.itoa (u : Int) = Lib.decDigits u := by unfold Lib.itoa; simp

theorem cut_eq : ∀ (u v r s : List UInt8), (∀ c ∈ u, c ≠ 58) → (∀ c ∈ v, c ≠ 58) → u ++ 58 :: r = v ++ 58 :: s → u = v ∧ r = s
  | [], [], r, s, _, _, h => by simpa using h
  | [], y :: v, r, s, _, h2, h => by
    simp only [List.nil_append, List.cons_append, List.cons.injEq] at h
    exact absurd h.1.symm (h2 y List.mem_cons_self)
  | x :: u, [], r, s, h1, _, h => by
    simp only [List.nil_append, List.cons_append, List.cons.injEq] at h
    exact absurd h.1 (h1 x List.mem_cons_self)
  | x :: u, y :: v, r, s, h1, h2, h => by
    simp only [List.cons_append, List.cons.injEq] at h
    obtain ⟨e1, e2⟩ := cut_eq u v r s (fun c hc => h1 c (List.mem_cons_of_mem _ hc)) (fun c hc => h2 c (List.mem_cons_of_mem _ hc)) h.2
    exact ⟨by rw [h.1, e1], e2⟩

theorem joined_cons (s : List UInt8) (l : List (List UInt8)) : joined (s :: l) = Lib.decDigits s.length ++ 58 :: (s ++ joined l) := by
  simp [joined, piece, itoa_nat]

theorem joined_ne (s : List UInt8) (l : List (List UInt8)) : joined (s :: l) ≠ [] := by
  rw [joined_cons]; simp

theorem joined_inj : ∀ (l m : List (List UInt8)), joined l = joined m → l = m
  | [], [], _ => rfl
  | [], s :: m, h => absurd h.symm (joined_ne s m)
  | s :: l, [], h => absurd h (joined_ne s l)
  | s :: l, t :: m, h => by
    rw [joined_cons, joined_cons] at h
    obtain ⟨e1, e2⟩ := cut_eq _ _ _ _ (dec_dig _) (dec_dig _) h
    have e3 := congrArg dv e1
    rw [dv_dec, dv_dec] at e3
    obtain ⟨e4, e5⟩ := List.append_inj e2 e3
    rw [e4, joined_inj l m e5]

theorem joined_one (s : List UInt8) (h : s.length ≤ 9) : joined [s] = [UInt8.ofNat (48 + s.length), 58] ++ s := by
  rw [joined_cons, Lib.decDigits_one (by omega)]
  simp [joined]

/-- Lists of one element that begin alike. -/
theorem one_iff {a b : List UInt8} (h9 : a.length ≤ 9) (h : a.length = b.length) (h6 : a.take 6 = b.take 6) : sumN (joined [a]) = sumN (joined [b]) ↔ a = b := by
  rw [joined_one a h9, joined_one b (by omega), h]
  by_cases hl : a.length < 6
  · rw [List.take_of_length_le (by omega), List.take_of_length_le (by omega)] at h6
    rw [h6]
    exact ⟨fun _ => rfl, fun _ => rfl⟩
  · have e : ∀ s : List UInt8, [UInt8.ofNat (48 + b.length), 58] ++ s = ([UInt8.ofNat (48 + b.length), 58] ++ s.take 6) ++ s.drop 6 ++ [] := by
      intro s
      rw [List.append_nil, List.append_assoc, List.take_append_drop]
    rw [e a, e b, h6]
    rw [sum_block 1 (by simp; omega) (by simp [h]) (by simp; omega) (by simp; omega)]
    constructor
    · intro hd
      rw [← List.take_append_drop 6 a, ← List.take_append_drop 6 b, h6, hd]
    · rintro rfl; rfl


/-- The second text: its first six bytes are those of the first one. -/
def mix2 (a b : List UInt8) (n : Nat) : List UInt8 := a.take (min n 6) ++ (b.take n).drop (min n 6)

theorem mix2_len {a b : List UInt8} {n : Nat} (ha : a.length = n) (hb : n ≤ b.length) : (mix2 a b n).length = n := by
  simp [mix2]; omega

theorem mix2_six {a b : List UInt8} {n : Nat} (ha : a.length = n) (hb : n ≤ b.length) : a.take 6 = (mix2 a b n).take 6 := by
  unfold mix2
  by_cases h : n ≤ 6
  · rw [Nat.min_eq_left h, List.drop_eq_nil_of_le (by rw [List.length_take]; omega), List.append_nil, List.take_of_length_le (show a.length ≤ n by omega)]
  · rw [Nat.min_eq_right (by omega), List.take_append_of_le_length (by rw [List.length_take]; omega), List.take_take]
    rfl

set_option maxHeartbeats 4000000 in
theorem l7_p (l m : List (List UInt8)) (one two : List UInt8) (hl : okIn l) (hm : okIn m) (h1 : one.length ≤ 9223372036854775807) (h2 : two.length ≤ 9223372036854775807) : Pur M 7 [.slice (strs l) .no, .slice (strs m) .no, .str one, .str two] (.bool true) := by
  refine ok7 rfl ?_
  rw [i7]
  unfold c7
  have hf := few_p l hl.1 hl.2
  have hg := few_p m hm.1 hm.2
  cases hfl : few l
  · rw [hfl] at hf
    repeat' (first
    | with_reducible apply swp_seq
    | with_reducible apply swp_reg
    | with_reducible apply swp_regD
    | with_reducible apply swp_block
    | with_reducible apply swp_exit
    | with_reducible apply swp_ret
    | with_reducible apply swp_skip
    | with_reducible apply swp_cd
    | simp only [go_sem, Nat.reduceAdd, Nat.reduceSub, Nat.reduceMul, Nat.reduceEqDiff, Nat.reduceLeDiff, Nat.reduceLT, Int.reduceEq, Int.reduceNe, Int.reduceLT, Int.reduceLE, Int.reduceAdd, Int.reduceSub, Int.reduceMul, Int.reduceNeg, Int.reduceToNat, Int.reduceTDiv, Int.reduceTMod, Int.reduceBEq, Int.reduceBNe, decide_true, decide_false, reduceCtorEq, reduceIte, P7, q7]
    | simp (disch := omega) only [w64, w32, wu8, wu16, wu32, wu64]
    | ((with_reducible refine o_call (head_p) ?he ?hc ?_); (case he => first | rfl | (simp [D.erL, D.er]; done)); (case hc => first | rfl | (simp [D.closedL, D.closed]; done)))
    | ((with_reducible refine o_call (hf) ?he ?hc ?_); (case he => first | rfl | (simp [D.erL, D.er]; done)); (case hc => first | rfl | (simp [D.closedL, D.closed]; done)))
    | ((with_reducible apply s_bsl); (case he => first | rfl | assumption | omega | (simp only [List.length_cons, List.length_nil, List.length_append, List.length_map, List.length_replicate, List.length_take, List.length_drop] <;> omega) | (constructor <;> (simp only [List.length_cons, List.length_nil, List.length_append, List.length_map, List.length_replicate, List.length_take, List.length_drop] <;> omega)) | (constructor <;> omega) | (simp [elemsK, D.isVal, D.cells, D.closedL, D.closed]; done) | (simp [elemsK, D.isVal, D.cells, D.closedL, D.closed]; omega)); (case hl => first | rfl | assumption | omega | (simp only [List.length_cons, List.length_nil, List.length_append, List.length_map, List.length_replicate, List.length_take, List.length_drop] <;> omega) | (constructor <;> (simp only [List.length_cons, List.length_nil, List.length_append, List.length_map, List.length_replicate, List.length_take, List.length_drop] <;> omega)) | (constructor <;> omega) | (simp [elemsK, D.isVal, D.cells, D.closedL, D.closed]; done) | (simp [elemsK, D.isVal, D.cells, D.closedL, D.closed]; omega)); (case hc => first | rfl | assumption | omega | (simp only [List.length_cons, List.length_nil, List.length_append, List.length_map, List.length_replicate, List.length_take, List.length_drop] <;> omega) | (constructor <;> (simp only [List.length_cons, List.length_nil, List.length_append, List.length_map, List.length_replicate, List.length_take, List.length_drop] <;> omega)) | (constructor <;> omega) | (simp [elemsK, D.isVal, D.cells, D.closedL, D.closed]; done) | (simp [elemsK, D.isVal, D.cells, D.closedL, D.closed]; omega)))
    | with_reducible apply cd_dec
    | with_reducible apply cd_eq
    | with_reducible apply cd_ne
    | with_reducible apply cd_split
    | with_reducible apply gd_dec
    | with_reducible apply gd_eq
    | with_reducible apply gd_ne
    | with_reducible apply gd_split
    | ((with_reducible refine And.intro ?hw ?_); (case hw => first | omega | rfl | exact ⟨_, _, rfl⟩ | assumption | (simp only [List.length_cons, List.length_nil, List.length_append, List.length_map, List.length_replicate, List.length_take, List.length_drop] <;> omega)))
    | with_reducible intro _)
    all_goals first
      | omega
      | (simp [D.closed, D.er]; done)
  cases hfm : few m
  · rw [hfl] at hf
    rw [hfm] at hg
    repeat' (first
    | with_reducible apply swp_seq
    | with_reducible apply swp_reg
    | with_reducible apply swp_regD
    | with_reducible apply swp_block
    | with_reducible apply swp_exit
    | with_reducible apply swp_ret
    | with_reducible apply swp_skip
    | with_reducible apply swp_cd
    | simp only [go_sem, Nat.reduceAdd, Nat.reduceSub, Nat.reduceMul, Nat.reduceEqDiff, Nat.reduceLeDiff, Nat.reduceLT, Int.reduceEq, Int.reduceNe, Int.reduceLT, Int.reduceLE, Int.reduceAdd, Int.reduceSub, Int.reduceMul, Int.reduceNeg, Int.reduceToNat, Int.reduceTDiv, Int.reduceTMod, Int.reduceBEq, Int.reduceBNe, decide_true, decide_false, reduceCtorEq, reduceIte, P7, q7]
    | simp (disch := omega) only [w64, w32, wu8, wu16, wu32, wu64]
    | ((with_reducible refine o_call (head_p) ?he ?hc ?_); (case he => first | rfl | (simp [D.erL, D.er]; done)); (case hc => first | rfl | (simp [D.closedL, D.closed]; done)))
    | ((with_reducible refine o_call (hf) ?he ?hc ?_); (case he => first | rfl | (simp [D.erL, D.er]; done)); (case hc => first | rfl | (simp [D.closedL, D.closed]; done)))
    | ((with_reducible refine o_call (hg) ?he ?hc ?_); (case he => first | rfl | (simp [D.erL, D.er]; done)); (case hc => first | rfl | (simp [D.closedL, D.closed]; done)))
    | ((with_reducible apply s_bsl); (case he => first | rfl | assumption | omega | (simp only [List.length_cons, List.length_nil, List.length_append, List.length_map, List.length_replicate, List.length_take, List.length_drop] <;> omega) | (constructor <;> (simp only [List.length_cons, List.length_nil, List.length_append, List.length_map, List.length_replicate, List.length_take, List.length_drop] <;> omega)) | (constructor <;> omega) | (simp [elemsK, D.isVal, D.cells, D.closedL, D.closed]; done) | (simp [elemsK, D.isVal, D.cells, D.closedL, D.closed]; omega)); (case hl => first | rfl | assumption | omega | (simp only [List.length_cons, List.length_nil, List.length_append, List.length_map, List.length_replicate, List.length_take, List.length_drop] <;> omega) | (constructor <;> (simp only [List.length_cons, List.length_nil, List.length_append, List.length_map, List.length_replicate, List.length_take, List.length_drop] <;> omega)) | (constructor <;> omega) | (simp [elemsK, D.isVal, D.cells, D.closedL, D.closed]; done) | (simp [elemsK, D.isVal, D.cells, D.closedL, D.closed]; omega)); (case hc => first | rfl | assumption | omega | (simp only [List.length_cons, List.length_nil, List.length_append, List.length_map, List.length_replicate, List.length_take, List.length_drop] <;> omega) | (constructor <;> (simp only [List.length_cons, List.length_nil, List.length_append, List.length_map, List.length_replicate, List.length_take, List.length_drop] <;> omega)) | (constructor <;> omega) | (simp [elemsK, D.isVal, D.cells, D.closedL, D.closed]; done) | (simp [elemsK, D.isVal, D.cells, D.closedL, D.closed]; omega)))
    | with_reducible apply cd_dec
    | with_reducible apply cd_eq
    | with_reducible apply cd_ne
    | with_reducible apply cd_split
    | with_reducible apply gd_dec
    | with_reducible apply gd_eq
    | with_reducible apply gd_ne
    | with_reducible apply gd_split
    | ((with_reducible refine And.intro ?hw ?_); (case hw => first | omega | rfl | exact ⟨_, _, rfl⟩ | assumption | (simp only [List.length_cons, List.length_nil, List.length_append, List.length_map, List.length_replicate, List.length_take, List.length_drop] <;> omega)))
    | with_reducible intro _)
    all_goals first
      | omega
      | (simp [D.closed, D.er]; done)
  rw [hfl] at hf
  rw [hfm] at hg
  have okl := few_ok.1 hfl
  have okm := few_ok.1 hfm
  have jl := joined_len okl
  have jm := joined_len okm
  have a1 := joined_p l okl
  have a2 := joined_p m okm
  have a3 := list_p l okl
  have a4 := list_p m okm
  have a5 := sum_p (joined l) (by omega)
  have a6 := same_p l m (by have := okl.1; omega)
  have q1 : (joined l == joined m) = decide (l = m) := by
    by_cases h : l = m
    · subst h; simp
    · have : joined l ≠ joined m := fun e => h (joined_inj l m e)
      rw [beq_eq_false_iff_ne.2 this]; simp [h]
  have q2 : (joined l).length ≤ 7 → (joined m).length ≤ 7 → (sumN (joined l) == sumN (joined m)) = decide (l = m) := by
    intro u v
    by_cases h : l = m
    · subst h; simp
    · have : joined l ≠ joined m := fun e => h (joined_inj l m e)
      rw [sum_ne u v this]; simp [h]
  generalize decide (l = m) = q at *
  have m1 := min_word one.length two.length
  have m2 := min_word (min one.length two.length) 9
  have m3 : ((9 : Nat) : Int) = 9 := rfl
  rw [m3] at m2
  have hn : min (min one.length two.length) 9 ≤ 9 ∧ min (min one.length two.length) 9 ≤ one.length ∧ min (min one.length two.length) 9 ≤ two.length := by omega
  generalize min (min one.length two.length) 9 = n at *
  generalize min one.length two.length = n' at *
  have m4 := min_word n 6
  have m5 : ((6 : Nat) : Int) = 6 := rfl
  rw [m5] at m4
  have l1 : (one.take n).length = n := by rw [List.length_take]; omega
  have l2 := mix2_len (b := two) l1 hn.2.2
  have l3 := one_iff (a := one.take n) (b := mix2 (one.take n) two n) (by omega) (by omega) (mix2_six l1 hn.2.2)
  have a7 := list_p [one.take n] ⟨by simp, by intro s hs; rw [List.mem_singleton.1 hs]; omega⟩
  have a8 := list_p [mix2 (one.take n) two n] ⟨by simp, by intro s hs; rw [List.mem_singleton.1 hs]; omega⟩
  have n3 : ((sumN (joined [one.take n]) == sumN (joined [mix2 (one.take n) two n])) == (one.take n == mix2 (one.take n) two n)) = true := eqv (by simpa using l3)
  have s1 : strs [one.take n] = [.str (one.take n)] := rfl
  have s2 : strs [mix2 (one.take n) two n] = [.str (mix2 (one.take n) two n)] := rfl
  rw [s1] at a7
  rw [s2] at a8
  have hx : (one.take n).take (min n 6) ++ (two.take n).drop (min n 6) = mix2 (one.take n) two n := rfl
  have hmn : min n 6 ≤ n := Nat.min_le_left _ _
  generalize mix2 (one.take n) two n = tw at *
  generalize sumN (joined [one.take n]) = x7 at *
  generalize sumN (joined [tw]) = x8 at *
  generalize joined l = A at *
  generalize joined m = B at *
  generalize sumN A = xa at *
  generalize sumN B = xb at *
  have w1 : (xa != xa) = false := by simp
  have w2 : (q != q) = false := by simp
  have w3 : (q == q) = true := by simp
  have w4 : (xa == xa) = true := by simp
  clear hfl hfm okl okm hl hm h1 h2
  generalize min n 6 = k at *
  by_cases c1 : A.length ≤ 7
  · have d1 : decide ((A.length : Int) ≤ 7) = true := by simp; omega
    by_cases c2 : B.length ≤ 7
    · have d2 : decide ((B.length : Int) ≤ 7) = true := by simp; omega
      have q3 := q2 c1 c2
      repeat' (first
    | with_reducible apply swp_seq
    | with_reducible apply swp_reg
    | with_reducible apply swp_regD
    | with_reducible apply swp_block
    | with_reducible apply swp_exit
    | with_reducible apply swp_ret
    | with_reducible apply swp_skip
    | with_reducible apply swp_cd
    | simp only [go_sem, Nat.reduceAdd, Nat.reduceSub, Nat.reduceMul, Nat.reduceEqDiff, Nat.reduceLeDiff, Nat.reduceLT, Int.reduceEq, Int.reduceNe, Int.reduceLT, Int.reduceLE, Int.reduceAdd, Int.reduceSub, Int.reduceMul, Int.reduceNeg, Int.reduceToNat, Int.reduceTDiv, Int.reduceTMod, Int.reduceBEq, Int.reduceBNe, decide_true, decide_false, reduceCtorEq, reduceIte, P7, q7, d1, d2, q1, q3, w1, w2, w3, w4, m1, m2, m4, n3, hx, Int.toNat_natCast]
    | simp (disch := omega) only [w64, w32, wu8, wu16, wu32, wu64]
    | ((with_reducible refine o_call (head_p) ?he ?hc ?_); (case he => first | rfl | (simp [D.erL, D.er, l1]; done)); (case hc => first | rfl | (simp [D.closedL, D.closed, l1]; done)))
    | ((with_reducible refine o_call (hf) ?he ?hc ?_); (case he => first | rfl | (simp [D.erL, D.er, l1]; done)); (case hc => first | rfl | (simp [D.closedL, D.closed, l1]; done)))
    | ((with_reducible refine o_call (hg) ?he ?hc ?_); (case he => first | rfl | (simp [D.erL, D.er, l1]; done)); (case hc => first | rfl | (simp [D.closedL, D.closed, l1]; done)))
    | ((with_reducible refine o_call (a1) ?he ?hc ?_); (case he => first | rfl | (simp [D.erL, D.er, l1]; done)); (case hc => first | rfl | (simp [D.closedL, D.closed, l1]; done)))
    | ((with_reducible refine o_call (a2) ?he ?hc ?_); (case he => first | rfl | (simp [D.erL, D.er, l1]; done)); (case hc => first | rfl | (simp [D.closedL, D.closed, l1]; done)))
    | ((with_reducible refine o_call (a3) ?he ?hc ?_); (case he => first | rfl | (simp [D.erL, D.er, l1]; done)); (case hc => first | rfl | (simp [D.closedL, D.closed, l1]; done)))
    | ((with_reducible refine o_call (a4) ?he ?hc ?_); (case he => first | rfl | (simp [D.erL, D.er, l1]; done)); (case hc => first | rfl | (simp [D.closedL, D.closed, l1]; done)))
    | ((with_reducible refine o_call (a5) ?he ?hc ?_); (case he => first | rfl | (simp [D.erL, D.er, l1]; done)); (case hc => first | rfl | (simp [D.closedL, D.closed, l1]; done)))
    | ((with_reducible refine o_call (a6) ?he ?hc ?_); (case he => first | rfl | (simp [D.erL, D.er, l1]; done)); (case hc => first | rfl | (simp [D.closedL, D.closed, l1]; done)))
    | ((with_reducible refine o_call (a7) ?he ?hc ?_); (case he => first | rfl | (simp [D.erL, D.er, l1]; done)); (case hc => first | rfl | (simp [D.closedL, D.closed, l1]; done)))
    | ((with_reducible refine o_call (a8) ?he ?hc ?_); (case he => first | rfl | (simp [D.erL, D.er, l1]; done)); (case hc => first | rfl | (simp [D.closedL, D.closed, l1]; done)))
    | ((with_reducible apply s_bsl); (case he => first | rfl | assumption | omega | (simp only [List.length_cons, List.length_nil, List.length_append, List.length_map, List.length_replicate, List.length_take, List.length_drop, l1] <;> omega) | (constructor <;> (simp only [List.length_cons, List.length_nil, List.length_append, List.length_map, List.length_replicate, List.length_take, List.length_drop, l1] <;> omega)) | (constructor <;> omega) | (simp [elemsK, D.isVal, D.cells, D.closedL, D.closed, l1]; done) | (simp [elemsK, D.isVal, D.cells, D.closedL, D.closed, l1]; omega)); (case hl => first | rfl | assumption | omega | (simp only [List.length_cons, List.length_nil, List.length_append, List.length_map, List.length_replicate, List.length_take, List.length_drop, l1] <;> omega) | (constructor <;> (simp only [List.length_cons, List.length_nil, List.length_append, List.length_map, List.length_replicate, List.length_take, List.length_drop, l1] <;> omega)) | (constructor <;> omega) | (simp [elemsK, D.isVal, D.cells, D.closedL, D.closed, l1]; done) | (simp [elemsK, D.isVal, D.cells, D.closedL, D.closed, l1]; omega)); (case hc => first | rfl | assumption | omega | (simp only [List.length_cons, List.length_nil, List.length_append, List.length_map, List.length_replicate, List.length_take, List.length_drop, l1] <;> omega) | (constructor <;> (simp only [List.length_cons, List.length_nil, List.length_append, List.length_map, List.length_replicate, List.length_take, List.length_drop, l1] <;> omega)) | (constructor <;> omega) | (simp [elemsK, D.isVal, D.cells, D.closedL, D.closed, l1]; done) | (simp [elemsK, D.isVal, D.cells, D.closedL, D.closed, l1]; omega)))
    | with_reducible apply cd_dec
    | with_reducible apply cd_eq
    | with_reducible apply cd_ne
    | with_reducible apply cd_split
    | with_reducible apply gd_dec
    | with_reducible apply gd_eq
    | with_reducible apply gd_ne
    | with_reducible apply gd_split
    | ((with_reducible refine And.intro ?hw ?_); (case hw => first | omega | rfl | exact ⟨_, _, rfl⟩ | assumption | (simp only [List.length_cons, List.length_nil, List.length_append, List.length_map, List.length_replicate, List.length_take, List.length_drop, l1] <;> omega)))
    | with_reducible intro _)
      all_goals first
        | omega
        | (simp [D.closed, D.er]; done)
    · have d2 : decide ((B.length : Int) ≤ 7) = false := by simp; omega
      repeat' (first
    | with_reducible apply swp_seq
    | with_reducible apply swp_reg
    | with_reducible apply swp_regD
    | with_reducible apply swp_block
    | with_reducible apply swp_exit
    | with_reducible apply swp_ret
    | with_reducible apply swp_skip
    | with_reducible apply swp_cd
    | simp only [go_sem, Nat.reduceAdd, Nat.reduceSub, Nat.reduceMul, Nat.reduceEqDiff, Nat.reduceLeDiff, Nat.reduceLT, Int.reduceEq, Int.reduceNe, Int.reduceLT, Int.reduceLE, Int.reduceAdd, Int.reduceSub, Int.reduceMul, Int.reduceNeg, Int.reduceToNat, Int.reduceTDiv, Int.reduceTMod, Int.reduceBEq, Int.reduceBNe, decide_true, decide_false, reduceCtorEq, reduceIte, P7, q7, d1, d2, q1, w1, w2, w3, w4, m1, m2, m4, n3, hx, Int.toNat_natCast]
    | simp (disch := omega) only [w64, w32, wu8, wu16, wu32, wu64]
    | ((with_reducible refine o_call (head_p) ?he ?hc ?_); (case he => first | rfl | (simp [D.erL, D.er, l1]; done)); (case hc => first | rfl | (simp [D.closedL, D.closed, l1]; done)))
    | ((with_reducible refine o_call (hf) ?he ?hc ?_); (case he => first | rfl | (simp [D.erL, D.er, l1]; done)); (case hc => first | rfl | (simp [D.closedL, D.closed, l1]; done)))
    | ((with_reducible refine o_call (hg) ?he ?hc ?_); (case he => first | rfl | (simp [D.erL, D.er, l1]; done)); (case hc => first | rfl | (simp [D.closedL, D.closed, l1]; done)))
    | ((with_reducible refine o_call (a1) ?he ?hc ?_); (case he => first | rfl | (simp [D.erL, D.er, l1]; done)); (case hc => first | rfl | (simp [D.closedL, D.closed, l1]; done)))
    | ((with_reducible refine o_call (a2) ?he ?hc ?_); (case he => first | rfl | (simp [D.erL, D.er, l1]; done)); (case hc => first | rfl | (simp [D.closedL, D.closed, l1]; done)))
    | ((with_reducible refine o_call (a3) ?he ?hc ?_); (case he => first | rfl | (simp [D.erL, D.er, l1]; done)); (case hc => first | rfl | (simp [D.closedL, D.closed, l1]; done)))
    | ((with_reducible refine o_call (a4) ?he ?hc ?_); (case he => first | rfl | (simp [D.erL, D.er, l1]; done)); (case hc => first | rfl | (simp [D.closedL, D.closed, l1]; done)))
    | ((with_reducible refine o_call (a5) ?he ?hc ?_); (case he => first | rfl | (simp [D.erL, D.er, l1]; done)); (case hc => first | rfl | (simp [D.closedL, D.closed, l1]; done)))
    | ((with_reducible refine o_call (a6) ?he ?hc ?_); (case he => first | rfl | (simp [D.erL, D.er, l1]; done)); (case hc => first | rfl | (simp [D.closedL, D.closed, l1]; done)))
    | ((with_reducible refine o_call (a7) ?he ?hc ?_); (case he => first | rfl | (simp [D.erL, D.er, l1]; done)); (case hc => first | rfl | (simp [D.closedL, D.closed, l1]; done)))
    | ((with_reducible refine o_call (a8) ?he ?hc ?_); (case he => first | rfl | (simp [D.erL, D.er, l1]; done)); (case hc => first | rfl | (simp [D.closedL, D.closed, l1]; done)))
    | ((with_reducible apply s_bsl); (case he => first | rfl | assumption | omega | (simp only [List.length_cons, List.length_nil, List.length_append, List.length_map, List.length_replicate, List.length_take, List.length_drop, l1] <;> omega) | (constructor <;> (simp only [List.length_cons, List.length_nil, List.length_append, List.length_map, List.length_replicate, List.length_take, List.length_drop, l1] <;> omega)) | (constructor <;> omega) | (simp [elemsK, D.isVal, D.cells, D.closedL, D.closed, l1]; done) | (simp [elemsK, D.isVal, D.cells, D.closedL, D.closed, l1]; omega)); (case hl => first | rfl | assumption | omega | (simp only [List.length_cons, List.length_nil, List.length_append, List.length_map, List.length_replicate, List.length_take, List.length_drop, l1] <;> omega) | (constructor <;> (simp only [List.length_cons, List.length_nil, List.length_append, List.length_map, List.length_replicate, List.length_take, List.length_drop, l1] <;> omega)) | (constructor <;> omega) | (simp [elemsK, D.isVal, D.cells, D.closedL, D.closed, l1]; done) | (simp [elemsK, D.isVal, D.cells, D.closedL, D.closed, l1]; omega)); (case hc => first | rfl | assumption | omega | (simp only [List.length_cons, List.length_nil, List.length_append, List.length_map, List.length_replicate, List.length_take, List.length_drop, l1] <;> omega) | (constructor <;> (simp only [List.length_cons, List.length_nil, List.length_append, List.length_map, List.length_replicate, List.length_take, List.length_drop, l1] <;> omega)) | (constructor <;> omega) | (simp [elemsK, D.isVal, D.cells, D.closedL, D.closed, l1]; done) | (simp [elemsK, D.isVal, D.cells, D.closedL, D.closed, l1]; omega)))
    | with_reducible apply cd_dec
    | with_reducible apply cd_eq
    | with_reducible apply cd_ne
    | with_reducible apply cd_split
    | with_reducible apply gd_dec
    | with_reducible apply gd_eq
    | with_reducible apply gd_ne
    | with_reducible apply gd_split
    | ((with_reducible refine And.intro ?hw ?_); (case hw => first | omega | rfl | exact ⟨_, _, rfl⟩ | assumption | (simp only [List.length_cons, List.length_nil, List.length_append, List.length_map, List.length_replicate, List.length_take, List.length_drop, l1] <;> omega)))
    | with_reducible intro _)
      all_goals first
        | omega
        | (simp [D.closed, D.er]; done)
  · have d1 : decide ((A.length : Int) ≤ 7) = false := by simp; omega
    repeat' (first
    | with_reducible apply swp_seq
    | with_reducible apply swp_reg
    | with_reducible apply swp_regD
    | with_reducible apply swp_block
    | with_reducible apply swp_exit
    | with_reducible apply swp_ret
    | with_reducible apply swp_skip
    | with_reducible apply swp_cd
    | simp only [go_sem, Nat.reduceAdd, Nat.reduceSub, Nat.reduceMul, Nat.reduceEqDiff, Nat.reduceLeDiff, Nat.reduceLT, Int.reduceEq, Int.reduceNe, Int.reduceLT, Int.reduceLE, Int.reduceAdd, Int.reduceSub, Int.reduceMul, Int.reduceNeg, Int.reduceToNat, Int.reduceTDiv, Int.reduceTMod, Int.reduceBEq, Int.reduceBNe, decide_true, decide_false, reduceCtorEq, reduceIte, P7, q7, d1, q1, w1, w2, w3, w4, m1, m2, m4, n3, hx, Int.toNat_natCast]
    | simp (disch := omega) only [w64, w32, wu8, wu16, wu32, wu64]
    | ((with_reducible refine o_call (head_p) ?he ?hc ?_); (case he => first | rfl | (simp [D.erL, D.er, l1]; done)); (case hc => first | rfl | (simp [D.closedL, D.closed, l1]; done)))
    | ((with_reducible refine o_call (hf) ?he ?hc ?_); (case he => first | rfl | (simp [D.erL, D.er, l1]; done)); (case hc => first | rfl | (simp [D.closedL, D.closed, l1]; done)))
    | ((with_reducible refine o_call (hg) ?he ?hc ?_); (case he => first | rfl | (simp [D.erL, D.er, l1]; done)); (case hc => first | rfl | (simp [D.closedL, D.closed, l1]; done)))
    | ((with_reducible refine o_call (a1) ?he ?hc ?_); (case he => first | rfl | (simp [D.erL, D.er, l1]; done)); (case hc => first | rfl | (simp [D.closedL, D.closed, l1]; done)))
    | ((with_reducible refine o_call (a2) ?he ?hc ?_); (case he => first | rfl | (simp [D.erL, D.er, l1]; done)); (case hc => first | rfl | (simp [D.closedL, D.closed, l1]; done)))
    | ((with_reducible refine o_call (a3) ?he ?hc ?_); (case he => first | rfl | (simp [D.erL, D.er, l1]; done)); (case hc => first | rfl | (simp [D.closedL, D.closed, l1]; done)))
    | ((with_reducible refine o_call (a4) ?he ?hc ?_); (case he => first | rfl | (simp [D.erL, D.er, l1]; done)); (case hc => first | rfl | (simp [D.closedL, D.closed, l1]; done)))
    | ((with_reducible refine o_call (a5) ?he ?hc ?_); (case he => first | rfl | (simp [D.erL, D.er, l1]; done)); (case hc => first | rfl | (simp [D.closedL, D.closed, l1]; done)))
    | ((with_reducible refine o_call (a6) ?he ?hc ?_); (case he => first | rfl | (simp [D.erL, D.er, l1]; done)); (case hc => first | rfl | (simp [D.closedL, D.closed, l1]; done)))
    | ((with_reducible refine o_call (a7) ?he ?hc ?_); (case he => first | rfl | (simp [D.erL, D.er, l1]; done)); (case hc => first | rfl | (simp [D.closedL, D.closed, l1]; done)))
    | ((with_reducible refine o_call (a8) ?he ?hc ?_); (case he => first | rfl | (simp [D.erL, D.er, l1]; done)); (case hc => first | rfl | (simp [D.closedL, D.closed, l1]; done)))
    | ((with_reducible apply s_bsl); (case he => first | rfl | assumption | omega | (simp only [List.length_cons, List.length_nil, List.length_append, List.length_map, List.length_replicate, List.length_take, List.length_drop, l1] <;> omega) | (constructor <;> (simp only [List.length_cons, List.length_nil, List.length_append, List.length_map, List.length_replicate, List.length_take, List.length_drop, l1] <;> omega)) | (constructor <;> omega) | (simp [elemsK, D.isVal, D.cells, D.closedL, D.closed, l1]; done) | (simp [elemsK, D.isVal, D.cells, D.closedL, D.closed, l1]; omega)); (case hl => first | rfl | assumption | omega | (simp only [List.length_cons, List.length_nil, List.length_append, List.length_map, List.length_replicate, List.length_take, List.length_drop, l1] <;> omega) | (constructor <;> (simp only [List.length_cons, List.length_nil, List.length_append, List.length_map, List.length_replicate, List.length_take, List.length_drop, l1] <;> omega)) | (constructor <;> omega) | (simp [elemsK, D.isVal, D.cells, D.closedL, D.closed, l1]; done) | (simp [elemsK, D.isVal, D.cells, D.closedL, D.closed, l1]; omega)); (case hc => first | rfl | assumption | omega | (simp only [List.length_cons, List.length_nil, List.length_append, List.length_map, List.length_replicate, List.length_take, List.length_drop, l1] <;> omega) | (constructor <;> (simp only [List.length_cons, List.length_nil, List.length_append, List.length_map, List.length_replicate, List.length_take, List.length_drop, l1] <;> omega)) | (constructor <;> omega) | (simp [elemsK, D.isVal, D.cells, D.closedL, D.closed, l1]; done) | (simp [elemsK, D.isVal, D.cells, D.closedL, D.closed, l1]; omega)))
    | with_reducible apply cd_dec
    | with_reducible apply cd_eq
    | with_reducible apply cd_ne
    | with_reducible apply cd_split
    | with_reducible apply gd_dec
    | with_reducible apply gd_eq
    | with_reducible apply gd_ne
    | with_reducible apply gd_split
    | ((with_reducible refine And.intro ?hw ?_); (case hw => first | omega | rfl | exact ⟨_, _, rfl⟩ | assumption | (simp only [List.length_cons, List.length_nil, List.length_append, List.length_map, List.length_replicate, List.length_take, List.length_drop, l1] <;> omega)))
    | with_reducible intro _)
    all_goals first
      | omega
      | (simp [D.closed, D.er]; done)
end Go.Proofs.YtiodnobmnfjdlaaDoor
