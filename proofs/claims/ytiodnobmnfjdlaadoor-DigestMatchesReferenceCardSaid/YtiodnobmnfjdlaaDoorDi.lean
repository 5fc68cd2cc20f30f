/- What the functions of the digest compute: the walks, fifth part: the reference. Own work. -/
import Derived.Test.YtiodnobmnfjdlaaDoorDh
import Derived.Test.YtiodnobmnfjdlaaDoorDb
set_option maxRecDepth 100000
set_option linter.unusedSimpArgs false
set_option linter.unusedVariables false
namespace Go.Proofs.YtiodnobmnfjdlaaDoor
open Go GoV Go.RowKit

theorem mulW_word (x c : Nat) : IntKind.u64.wrap ((x : Int) * (c : Int)) = (mulW x c : Nat) := by
  unfold mulW
  rw [← Int.natCast_mul]
  generalize x * c = y
  show (y : Int) % 18446744073709551616 = ((y % 18446744073709551616 : Nat) : Int)
  omega

theorem rmix_p (x : Nat) (hx : x < W) : Pur M 21 [.int .u64 x] (.int .u64 (mixN x : Nat)) := by
  refine ok21 rfl ?_
  rw [i21]
  unfold c21
  have m1 := mulW_word x 6364136223846793005
  have hy := mulW_lt x 6364136223846793005
  unfold mixN
  generalize mulW x 6364136223846793005 = y at *
  have hz := xs_lt (k := 33) hy
  have m2 := mulW_word (xs 33 y) 2685821657736338717
  have e1 := shr_word y 33 (by omega)
  have e2 := bits_xor_u64_nat y (y >>> 33) hy (Nat.lt_of_le_of_lt (shr_le y 33) hy)
  have e3 : y ^^^ y >>> 33 = xs 33 y := rfl
  rw [e3] at e2
  have hu := mulW_lt (xs 33 y) 2685821657736338717
  generalize mulW (xs 33 y) 2685821657736338717 = u at *
  have e4 := shr_word u 27 (by omega)
  have e5 := bits_xor_u64_nat u (u >>> 27) hu (Nat.lt_of_le_of_lt (shr_le u 27) hu)
  have e6 : u ^^^ u >>> 27 = xs 27 u := rfl
  rw [e6] at e5
  generalize xs 33 y = z at *
  have q1 : ((6364136223846793005 : Nat) : Int) = 6364136223846793005 := rfl
  have q2 : ((2685821657736338717 : Nat) : Int) = 2685821657736338717 := rfl
  rw [q1] at m1
  rw [q2] at m2
  generalize y >>> 33 = y' at *
  generalize u >>> 27 = u' at *
  generalize xs 27 u = r at *
  repeat' (first
    | with_reducible apply swp_seq
    | with_reducible apply swp_reg
    | with_reducible apply swp_regD
    | with_reducible apply swp_block
    | with_reducible apply swp_exit
    | with_reducible apply swp_ret
    | with_reducible apply swp_skip
    | with_reducible apply swp_cd
    | simp only [go_sem, Nat.reduceAdd, Nat.reduceSub, Nat.reduceMul, Nat.reduceEqDiff, Nat.reduceLeDiff, Nat.reduceLT, Int.reduceEq, Int.reduceNe, Int.reduceLT, Int.reduceLE, Int.reduceAdd, Int.reduceSub, Int.reduceMul, Int.reduceNeg, Int.reduceToNat, Int.reduceTDiv, Int.reduceTMod, Int.reduceBEq, Int.reduceBNe, decide_true, decide_false, reduceCtorEq, reduceIte, P21, q21, bitsV, m1, m2, e1, e2, e4, e5]
    | with_reducible apply cd_dec
    | with_reducible apply cd_eq
    | with_reducible apply cd_ne
    | with_reducible apply cd_split
    | ((with_reducible refine And.intro ?hw ?_); (case hw => first | omega | rfl | exact ⟨_, _, rfl⟩ | assumption | (simp only [List.length_cons, List.length_nil, List.length_append, List.length_map, List.length_replicate, List.length_take, List.length_drop] <;> omega)))
    | with_reducible intro _)
  all_goals first
    | omega
    | (simp [D.closed, D.er]; done)

theorem hex_at (r : Nat) (h : r < 16) : List.drop r (48 :: List.take r ([49, 50, 51, 52, 53, 54, 55, 56, 57, 97, 98, 99, 100, 101, 102] : List UInt8)) = [hexd r] := by
  have : r = 0 ∨ r = 1 ∨ r = 2 ∨ r = 3 ∨ r = 4 ∨ r = 5 ∨ r = 6 ∨ r = 7 ∨ r = 8 ∨ r = 9 ∨ r = 10 ∨ r = 11 ∨ r = 12 ∨ r = 13 ∨ r = 14 ∨ r = 15 := by omega
  rcases this with h | h | h | h | h | h | h | h | h | h | h | h | h | h | h | h <;> subst h <;> rfl

theorem hex16_step {R i : Nat} (h : i < 16) : (hex16 R).drop (16 - (i + 1)) = hexd (R / 16 ^ i % 16) :: (hex16 R).drop (16 - i) := by
  have hl : (hex16 R).length = 16 := hex16_len R
  rw [List.drop_eq_getElem_cons (by omega)]
  congr 1
  · simp only [hex16, List.getElem_map, List.getElem_range]
    rw [show 15 - (16 - (i + 1)) = i by omega]
  · rw [show 16 - (i + 1) + 1 = 16 - i by omega]

theorem pad_get {t : List UInt8} {k j : Nat} (hj : j < 8) : (pad ((t.drop (8 * k)).take 8)).getD j 0 = if 8 * k + j < t.length then t.getD (8 * k + j) 0 else 0 := by
  have hl : ((t.drop (8 * k)).take 8).length = min 8 (t.length - 8 * k) := by simp
  unfold pad
  by_cases h : 8 * k + j < t.length
  · rw [if_pos h]
    have h1 : j < ((t.drop (8 * k)).take 8).length := by omega
    simp only [List.getD]
    rw [List.getElem?_append_left h1]
    simp [hj]
  · rw [if_neg h]
    have h1 : ((t.drop (8 * k)).take 8).length ≤ j := by omega
    simp only [List.getD]
    rw [List.getElem?_append_right h1]
    have : ∀ n m : Nat, ((List.replicate n (0 : UInt8))[m]?).getD 0 = 0 := by
      intro n m
      rw [List.getElem?_replicate]
      split <;> rfl
    exact this _ _

set_option maxHeartbeats 4000000 in
theorem rsum_p (t : List UInt8) (ht : t.length < 65536) : Pur M 11 [.str t] (.str (sumN t)) := by
  refine ok11 rfl ?_
  rw [i11]
  unfold c11
  have hl := len_lt ht
  have e0 : IntKind.u64.wrap (t.length : Int) = t.length := wu64 (by omega) (by omega)
  have e1 := bits_xor_u64_nat 7046029254386353131 t.length (by decide) (by omega)
  have e2 : ((7046029254386353131 : Nat) : Int) = 7046029254386353131 := rfl
  rw [e2] at e1
  have hR : run (7046029254386353131 ^^^ t.length) t = stt t := rfl
  have hRlt := stt_lt t
  unfold sumN
  generalize stt t = R at *
  generalize hS : 7046029254386353131 ^^^ t.length = S at *
  repeat' (first
    | with_reducible apply swp_seq
    | with_reducible apply swp_reg
    | with_reducible apply swp_regD
    | with_reducible apply swp_block
    | with_reducible apply swp_exit
    | with_reducible apply swp_ret
    | with_reducible apply swp_skip
    | with_reducible apply swp_cd
    | simp only [go_sem, Nat.reduceAdd, Nat.reduceSub, Nat.reduceMul, Nat.reduceEqDiff, Nat.reduceLeDiff, Nat.reduceLT, Int.reduceEq, Int.reduceNe, Int.reduceLT, Int.reduceLE, Int.reduceAdd, Int.reduceSub, Int.reduceMul, Int.reduceNeg, Int.reduceToNat, Int.reduceTDiv, Int.reduceTMod, Int.reduceBEq, Int.reduceBNe, decide_true, decide_false, reduceCtorEq, reduceIte, P11, q11, bitsV, e0, e1]
    | simp (disch := omega) only [w64, w32, wu8, wu16, wu32, wu64]
    | with_reducible apply cd_dec
    | with_reducible apply cd_eq
    | with_reducible apply cd_ne
    | with_reducible apply cd_split
    | ((with_reducible refine And.intro ?hw ?_); (case hw => first | omega | rfl | exact ⟨_, _, rfl⟩ | assumption | (simp only [List.length_cons, List.length_nil, List.length_append, List.length_map, List.length_replicate, List.length_take, List.length_drop] <;> omega)))
    | with_reducible intro _)
  all_goals try omega
  refine swp_fam [0, 1, 2, 3] (fun p : Nat × Nat => ⟨[.str t, .str [], .int .u64 p.1, .int .i64 (8 * p.2 : Nat), .undef, .undef, .undef, .undef, .undef, .undef, .undef, .undef], [], ⟨[], []⟩⟩)
    (fun p => p.1 < W ∧ 8 * p.2 ≤ t.length + 8 ∧ (8 * p.2 ≤ t.length → run p.1 (t.drop (8 * p.2)) = R) ∧ (t.length < 8 * p.2 → p.1 = R)) (fun p => t.length + 8 - 8 * p.2) (S, 0) ⟨hl, by omega, fun _ => by simpa using hR, fun h => by simp at h⟩ ?_ ?_
  · simp [keepE, St.keep]
  · rintro ⟨s, k⟩ ⟨g1, g2, g3, g4⟩
    simp only at g1 g2 g3 g4 ⊢
    by_cases hk : 8 * k ≤ t.length
    · have g5 := g3 hk
      have hpl : ((t.drop (8 * k)).take 8).length ≤ 8 := by simp; omega
      have hpd := pad_len hpl
      have hpg : ∀ j, j < 8 → _ := fun j hj => pad_get (t := t) (k := k) (j := j) hj
      have hblk := blk_lt hpl
      have hvp := val_pad ((t.drop (8 * k)).take 8)
      have hnext : run s (t.drop (8 * k)) = R → (8 * (k + 1) ≤ t.length → run (mixN (s ^^^ blk ((t.drop (8 * k)).take 8))) (t.drop (8 * (k + 1))) = R) ∧ (t.length < 8 * (k + 1) → mixN (s ^^^ blk ((t.drop (8 * k)).take 8)) = R) := by
        intro e
        constructor
        · intro h
          rw [run_long (by rw [List.length_drop]; omega), List.drop_drop] at e
          exact e
        · intro h
          have h8 : (t.drop (8 * k)).length < 8 := by rw [List.length_drop]; omega
          rw [run_short h8] at e
          rw [List.take_of_length_le (by omega)]
          exact e
      obtain ⟨n1, n2⟩ := hnext g5
      generalize (t.drop (8 * k)).take 8 = p at *
      have hm := rmix_p (s ^^^ blk p) (xor_lt g1 hblk)
      have eb := bits_xor_u64_nat s (blk p) g1 hblk
      have hmlt := mixN_lt (s ^^^ blk p)
      repeat' (first
    | with_reducible apply swp_seq
    | with_reducible apply swp_reg
    | with_reducible apply swp_regD
    | with_reducible apply swp_block
    | with_reducible apply swp_exit
    | with_reducible apply swp_ret
    | with_reducible apply swp_skip
    | with_reducible apply swp_cd
    | simp only [go_sem, Nat.reduceAdd, Nat.reduceSub, Nat.reduceMul, Nat.reduceEqDiff, Nat.reduceLeDiff, Nat.reduceLT, Int.reduceEq, Int.reduceNe, Int.reduceLT, Int.reduceLE, Int.reduceAdd, Int.reduceSub, Int.reduceMul, Int.reduceNeg, Int.reduceToNat, Int.reduceTDiv, Int.reduceTMod, Int.reduceBEq, Int.reduceBNe, decide_true, decide_false, reduceCtorEq, reduceIte, P11, q11]
    | simp (disch := omega) only [w64, w32, wu8, wu16, wu32, wu64]
    | with_reducible apply cd_dec
    | with_reducible apply cd_eq
    | with_reducible apply cd_ne
    | with_reducible apply cd_split
    | ((with_reducible refine And.intro ?hw ?_); (case hw => first | omega | rfl | exact ⟨_, _, rfl⟩ | assumption | (simp only [List.length_cons, List.length_nil, List.length_append, List.length_map, List.length_replicate, List.length_take, List.length_drop] <;> omega)))
    | with_reducible intro _)
      all_goals try omega
      refine swp_fam [0, 1, 2, 3, 4, 5] (fun j : Nat => ⟨[.str t, .str [], .int .u64 s, .int .i64 (8 * k : Nat), .int .u64 (val ((pad p).take j) : Nat), .int .i64 (8 * k + j : Nat), .undef, .undef, .undef, .undef, .undef, .undef], [], ⟨[], []⟩⟩)
        (fun j => j ≤ 8) (fun j => 8 - j) 0 (by omega) ?_ ?_
      · simp [keepE, St.keep, val]
      · intro j hj
        by_cases hlt : j < 8
        · have hst : val ((pad p).take (j + 1)) = 256 * val ((pad p).take j) + ((pad p).getD j 0).toNat := by
            rw [List.take_succ_eq_append_getElem (by omega), val_app]
            congr 2
            simp [List.getD, hpd, hlt]
          have hv : val ((pad p).take j) < 72057594037927936 := by
            have h1 := val_lt ((pad p).take j)
            have h2 : ((pad p).take j).length ≤ 7 := by simp; omega
            have h3 : 256 ^ ((pad p).take j).length ≤ 256 ^ 7 := Nat.pow_le_pow_right (by omega) h2
            exact Nat.lt_of_lt_of_le h1 h3
          have hb : ((pad p).getD j 0).toNat < 256 := UInt8.toNat_lt _
          have hg := hpg j hlt
          rw [hg] at hst
          clear hpg hpd hvp hg hb hm eb hmlt n1 n2 hR hRlt g5 g3 g4 hl hS e0 e1 e2
          generalize val ((pad p).take j) = v at *
          have e1 : IntKind.u64.wrap ((v : Int) * 256) = ((256 * v : Nat) : Int) := by rw [wu64 (by omega) (by omega)]; omega
          have e3 : ((8 * k + j : Nat) : Int) < ((8 * k : Nat) : Int) + 8 := by omega
          by_cases hin : 8 * k + j < t.length
          · rw [if_pos hin] at hst
            have hb : (t.getD (8 * k + j) 0).toNat < 256 := UInt8.toNat_lt _
            have ht1 : ((8 * k + j : Nat) : Int).toNat = 8 * k + j := Int.toNat_natCast _
            generalize ht2 : t.getD (8 * k + j) 0 = b at *
            repeat' (first
    | with_reducible apply swp_seq
    | with_reducible apply swp_reg
    | with_reducible apply swp_regD
    | with_reducible apply swp_block
    | with_reducible apply swp_exit
    | with_reducible apply swp_ret
    | with_reducible apply swp_skip
    | with_reducible apply swp_cd
    | simp only [go_sem, Nat.reduceAdd, Nat.reduceSub, Nat.reduceMul, Nat.reduceEqDiff, Nat.reduceLeDiff, Nat.reduceLT, Int.reduceEq, Int.reduceNe, Int.reduceLT, Int.reduceLE, Int.reduceAdd, Int.reduceSub, Int.reduceMul, Int.reduceNeg, Int.reduceToNat, Int.reduceTDiv, Int.reduceTMod, Int.reduceBEq, Int.reduceBNe, decide_true, decide_false, reduceCtorEq, reduceIte, P11, q11, e1, ht1, ht2]
    | simp (disch := omega) only [w64, w32, wu8, wu16, wu32, wu64]
    | with_reducible apply cd_dec
    | with_reducible apply cd_eq
    | with_reducible apply cd_ne
    | with_reducible apply cd_split
    | ((with_reducible refine And.intro ?hw ?_); (case hw => first | omega | rfl | exact ⟨_, _, rfl⟩ | assumption | (simp only [List.length_cons, List.length_nil, List.length_append, List.length_map, List.length_replicate, List.length_take, List.length_drop] <;> omega)))
    | with_reducible intro _)
            all_goals try omega
            refine ⟨j + 1, by omega, by omega, ?_⟩
            rw [hst]
            simp [keepE, St.keep]
            omega
          · rw [if_neg hin] at hst
            have hz : (0 : UInt8).toNat = 0 := rfl
            repeat' (first
    | with_reducible apply swp_seq
    | with_reducible apply swp_reg
    | with_reducible apply swp_regD
    | with_reducible apply swp_block
    | with_reducible apply swp_exit
    | with_reducible apply swp_ret
    | with_reducible apply swp_skip
    | with_reducible apply swp_cd
    | simp only [go_sem, Nat.reduceAdd, Nat.reduceSub, Nat.reduceMul, Nat.reduceEqDiff, Nat.reduceLeDiff, Nat.reduceLT, Int.reduceEq, Int.reduceNe, Int.reduceLT, Int.reduceLE, Int.reduceAdd, Int.reduceSub, Int.reduceMul, Int.reduceNeg, Int.reduceToNat, Int.reduceTDiv, Int.reduceTMod, Int.reduceBEq, Int.reduceBNe, decide_true, decide_false, reduceCtorEq, reduceIte, P11, q11, e1]
    | simp (disch := omega) only [w64, w32, wu8, wu16, wu32, wu64]
    | with_reducible apply cd_dec
    | with_reducible apply cd_eq
    | with_reducible apply cd_ne
    | with_reducible apply cd_split
    | ((with_reducible refine And.intro ?hw ?_); (case hw => first | omega | rfl | exact ⟨_, _, rfl⟩ | assumption | (simp only [List.length_cons, List.length_nil, List.length_append, List.length_map, List.length_replicate, List.length_take, List.length_drop] <;> omega)))
    | with_reducible intro _)
            all_goals try omega
            refine ⟨j + 1, by omega, by omega, ?_⟩
            rw [hst, hz]
            simp [keepE, St.keep]
            omega
        · have e : j = 8 := by omega
          subst e
          have ht8 : (pad p).take 8 = pad p := List.take_of_length_le (by omega)
          rw [ht8, hvp]
          generalize blk p = q at *
          repeat' (first
    | with_reducible apply swp_seq
    | with_reducible apply swp_reg
    | with_reducible apply swp_regD
    | with_reducible apply swp_block
    | with_reducible apply swp_exit
    | with_reducible apply swp_ret
    | with_reducible apply swp_skip
    | with_reducible apply swp_cd
    | simp only [go_sem, Nat.reduceAdd, Nat.reduceSub, Nat.reduceMul, Nat.reduceEqDiff, Nat.reduceLeDiff, Nat.reduceLT, Int.reduceEq, Int.reduceNe, Int.reduceLT, Int.reduceLE, Int.reduceAdd, Int.reduceSub, Int.reduceMul, Int.reduceNeg, Int.reduceToNat, Int.reduceTDiv, Int.reduceTMod, Int.reduceBEq, Int.reduceBNe, decide_true, decide_false, reduceCtorEq, reduceIte, P11, q11, bitsV, eb]
    | simp (disch := omega) only [w64, w32, wu8, wu16, wu32, wu64]
    | ((with_reducible refine o_call (hm) ?he ?hc ?_); (case he => first | rfl | (simp [D.erL, D.er]; done)); (case hc => first | rfl | (simp [D.closedL, D.closed]; done)))
    | with_reducible apply cd_dec
    | with_reducible apply cd_eq
    | with_reducible apply cd_ne
    | with_reducible apply cd_split
    | ((with_reducible refine And.intro ?hw ?_); (case hw => first | omega | rfl | exact ⟨_, _, rfl⟩ | assumption | (simp only [List.length_cons, List.length_nil, List.length_append, List.length_map, List.length_replicate, List.length_take, List.length_drop] <;> omega)))
    | with_reducible intro _)
          all_goals try omega
          refine ⟨(mixN (s ^^^ q), k + 1), ⟨mixN_lt _, by simp only; omega, n1, n2⟩, by simp only; omega, ?_⟩
          simp [keepE, St.keep]
          omega
    · have g5 := g4 (by omega)
      subst g5
      repeat' (first
    | with_reducible apply swp_seq
    | with_reducible apply swp_reg
    | with_reducible apply swp_regD
    | with_reducible apply swp_block
    | with_reducible apply swp_exit
    | with_reducible apply swp_ret
    | with_reducible apply swp_skip
    | with_reducible apply swp_cd
    | simp only [go_sem, Nat.reduceAdd, Nat.reduceSub, Nat.reduceMul, Nat.reduceEqDiff, Nat.reduceLeDiff, Nat.reduceLT, Int.reduceEq, Int.reduceNe, Int.reduceLT, Int.reduceLE, Int.reduceAdd, Int.reduceSub, Int.reduceMul, Int.reduceNeg, Int.reduceToNat, Int.reduceTDiv, Int.reduceTMod, Int.reduceBEq, Int.reduceBNe, decide_true, decide_false, reduceCtorEq, reduceIte, P11, q11]
    | simp (disch := omega) only [w64, w32, wu8, wu16, wu32, wu64]
    | with_reducible apply cd_dec
    | with_reducible apply cd_eq
    | with_reducible apply cd_ne
    | with_reducible apply cd_split
    | ((with_reducible refine And.intro ?hw ?_); (case hw => first | omega | rfl | exact ⟨_, _, rfl⟩ | assumption | (simp only [List.length_cons, List.length_nil, List.length_append, List.length_map, List.length_replicate, List.length_take, List.length_drop] <;> omega)))
    | with_reducible intro _)
      all_goals try omega
      refine swp_fam [0, 1, 2, 6, 7] (fun i : Nat => ⟨[.str t, .str [], .int .u64 (s / 16 ^ i : Nat), .undef, .undef, .undef, .str ((hex16 s).drop (16 - i)), .int .i64 i, .undef, .undef, .undef, .undef], [], ⟨[], []⟩⟩)
        (fun i => i ≤ 16) (fun i => 16 - i) 0 (by omega) ?_ ?_
      · simp [keepE, St.keep]
        rw [hex16_len]; omega
      · intro i hi
        by_cases hlt : i < 16
        · have hst := hex16_step (R := s) hlt
          have hq : s / 16 ^ (i + 1) = s / 16 ^ i / 16 := by rw [Nat.pow_succ, Nat.div_div_eq_div_mul]
          have hql : s / 16 ^ i ≤ s := Nat.div_le_self _ _
          have hdl : ((hex16 s).drop (16 - i)).length ≤ 16 := by rw [List.length_drop, hex16_len]; omega
          have hlt2 : s < 18446744073709551616 := hRlt
          generalize s / 16 ^ i = m at *
          have t1 : (m : Int).tmod 16 = ((m % 16 : Nat) : Int) := by rw [Int.tmod_eq_emod_of_nonneg (by omega)]; omega
          have t2 : (m : Int).tdiv 16 = ((m / 16 : Nat) : Int) := by rw [Int.tdiv_eq_ediv_of_nonneg (by omega)]; omega
          have t3 : ((m % 16 : Nat) : Int).toNat = m % 16 := by omega
          have t4 : (((m % 16 : Nat) : Int) + 1).toNat = m % 16 + 1 := by omega
          have t5 := hex_at (m % 16) (by omega)
          have hb : m % 16 < 16 := by omega
          have t6 : ([hexd (m % 16)] : List UInt8).length = 1 := rfl
          repeat' (first
    | with_reducible apply swp_seq
    | with_reducible apply swp_reg
    | with_reducible apply swp_regD
    | with_reducible apply swp_block
    | with_reducible apply swp_exit
    | with_reducible apply swp_ret
    | with_reducible apply swp_skip
    | with_reducible apply swp_cd
    | simp only [go_sem, Nat.reduceAdd, Nat.reduceSub, Nat.reduceMul, Nat.reduceEqDiff, Nat.reduceLeDiff, Nat.reduceLT, Int.reduceEq, Int.reduceNe, Int.reduceLT, Int.reduceLE, Int.reduceAdd, Int.reduceSub, Int.reduceMul, Int.reduceNeg, Int.reduceToNat, Int.reduceTDiv, Int.reduceTMod, Int.reduceBEq, Int.reduceBNe, decide_true, decide_false, reduceCtorEq, reduceIte, P11, q11, t1, t2, t3, t4, t5, t6, List.length_append]
    | simp (disch := omega) only [w64, w32, wu8, wu16, wu32, wu64]
    | with_reducible apply cd_dec
    | with_reducible apply cd_eq
    | with_reducible apply cd_ne
    | with_reducible apply cd_split
    | ((with_reducible refine And.intro ?hw ?_); (case hw => first | omega | rfl | exact ⟨_, _, rfl⟩ | assumption | (simp only [List.length_cons, List.length_nil, List.length_append, List.length_map, List.length_replicate, List.length_take, List.length_drop] <;> omega)))
    | with_reducible intro _)
          all_goals try omega
          refine ⟨i + 1, by omega, by omega, ?_⟩
          rw [hst, hq]
          simp [keepE, St.keep]
        · have e : i = 16 := by omega
          subst e
          repeat' (first
    | with_reducible apply swp_seq
    | with_reducible apply swp_reg
    | with_reducible apply swp_regD
    | with_reducible apply swp_block
    | with_reducible apply swp_exit
    | with_reducible apply swp_ret
    | with_reducible apply swp_skip
    | with_reducible apply swp_cd
    | simp only [go_sem, Nat.reduceAdd, Nat.reduceSub, Nat.reduceMul, Nat.reduceEqDiff, Nat.reduceLeDiff, Nat.reduceLT, Int.reduceEq, Int.reduceNe, Int.reduceLT, Int.reduceLE, Int.reduceAdd, Int.reduceSub, Int.reduceMul, Int.reduceNeg, Int.reduceToNat, Int.reduceTDiv, Int.reduceTMod, Int.reduceBEq, Int.reduceBNe, decide_true, decide_false, reduceCtorEq, reduceIte, P11, q11]
    | simp (disch := omega) only [w64, w32, wu8, wu16, wu32, wu64]
    | with_reducible apply cd_dec
    | with_reducible apply cd_eq
    | with_reducible apply cd_ne
    | with_reducible apply cd_split
    | ((with_reducible refine And.intro ?hw ?_); (case hw => first | omega | rfl | exact ⟨_, _, rfl⟩ | assumption | (simp only [List.length_cons, List.length_nil, List.length_append, List.length_map, List.length_replicate, List.length_take, List.length_drop] <;> omega)))
    | with_reducible intro _)
          all_goals try omega
          all_goals (simp [D.closed, D.er]; done)
end Go.Proofs.YtiodnobmnfjdlaaDoor
