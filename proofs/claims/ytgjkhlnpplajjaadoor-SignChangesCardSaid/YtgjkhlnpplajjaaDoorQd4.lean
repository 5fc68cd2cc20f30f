/- Own texts, merged by a program: the engine that walks the code, and what the functions that the law reaches compute. -/
import Derived.Test.YtgjkhlnpplajjaaDoorQd3
import Derived.Test.YtgjkhlnpplajjaaDoorProg
import Derived.KernelRfl
import Derived.Lib.ItoaNum
section
set_option maxRecDepth 100000
set_option linter.unusedSimpArgs false
set_option linter.unusedVariables false
namespace Go.Proofs.YtgjkhlnpplajjaaDoor
open Go GoV Go.RowKit
theorem mulW_word (x c : Nat) : IntKind.u64.wrap ((x : Int) * (c : Int)) = (mulW x c : Nat) := by
  unfold mulW
  rw [← Int.natCast_mul]
  generalize x * c = y
  show (y : Int) % 18446744073709551616 = ((y % 18446744073709551616 : Nat) : Int)
  omega
theorem rmix_p (x : Nat) (hx : x < W) : Pur M 51 [.int .u64 x] (.int .u64 (mixN x : Nat)) := by
  refine ok51 rfl ?_
  rw [i51]
  unfold c51
  have m1 := mulW_word x 6364136223846793005
  have hy := mulW_lt x 6364136223846793005
  unfold mixN
  generalize mulW x 6364136223846793005 = y at *
  have hz := xs_lt (k := 33) hy
  have m2 := mulW_word (xs 33 y) 2685821657736338717
  have e1 := shr_word y 33 (by omega)
  have e2 := bits_xor_u64_nat y (y >>> 33) hy (Nat.lt_of_le_of_lt (shr_le y 33) hy)
  have e3 : y ^^^ y >>> 33 = xs 33 y := rfl
  rw [e3] at e2
  have hu := mulW_lt (xs 33 y) 2685821657736338717
  generalize mulW (xs 33 y) 2685821657736338717 = u at *
  have e4 := shr_word u 27 (by omega)
  have e5 := bits_xor_u64_nat u (u >>> 27) hu (Nat.lt_of_le_of_lt (shr_le u 27) hu)
  have e6 : u ^^^ u >>> 27 = xs 27 u := rfl
  rw [e6] at e5
  generalize xs 33 y = z at *
  have q1 : ((6364136223846793005 : Nat) : Int) = 6364136223846793005 := rfl
  have q2 : ((2685821657736338717 : Nat) : Int) = 2685821657736338717 := rfl
  rw [q1] at m1
  rw [q2] at m2
  generalize y >>> 33 = y' at *
  generalize u >>> 27 = u' at *
  generalize xs 27 u = r at *
  repeat' (first
    | with_reducible first | apply swp_seq | apply swp_reg | apply swp_regD | apply swp_block | apply swp_exit | apply swp_ret | apply swp_skip | apply swp_cd
    | simp only [go_sem, seval, P51, q51, bitsV, m1, m2, e1, e2, e4, e5]
    | with_reducible first | apply cd_dec | apply cd_eq | apply cd_ne | apply cd_split
    | ((with_reducible refine And.intro ?hw ?_); (case hw => first | omega | rfl | exact ⟨_, _, rfl⟩ | assumption | (simp only [lN] <;> omega)))
    | with_reducible intro _)
  all_goals first
    | omega
    | (simp [D.closed, D.er]; done)
theorem hex_at (r : Nat) (h : r < 16) : List.drop r (48 :: List.take r ([49, 50, 51, 52, 53, 54, 55, 56, 57, 97, 98, 99, 100, 101, 102] : List UInt8)) = [hexd r] := by
  have : r = 0 ∨ r = 1 ∨ r = 2 ∨ r = 3 ∨ r = 4 ∨ r = 5 ∨ r = 6 ∨ r = 7 ∨ r = 8 ∨ r = 9 ∨ r = 10 ∨ r = 11 ∨ r = 12 ∨ r = 13 ∨ r = 14 ∨ r = 15 := by omega
  rcases this with h | h | h | h | h | h | h | h | h | h | h | h | h | h | h | h <;> subst h <;> rfl
theorem hex16_step {R i : Nat} (h : i < 16) : (hex16 R).drop (16 - (i + 1)) = hexd (R / 16 ^ i % 16) :: (hex16 R).drop (16 - i) := by
  have hl : (hex16 R).length = 16 := hex16_len R
  rw [List.drop_eq_getElem_cons (by omega)]
  congr 1
  · simp only [hex16, List.getElem_map, List.getElem_range]
    rw [show 15 - (16 - (i + 1)) = i by omega]
  · rw [show 16 - (i + 1) + 1 = 16 - i by omega]
theorem pad_get {t : List UInt8} {k j : Nat} (hj : j < 8) : (pad ((t.drop (8 * k)).take 8)).getD j 0 = if 8 * k + j < t.length then t.getD (8 * k + j) 0 else 0 := by
  have hl : ((t.drop (8 * k)).take 8).length = min 8 (t.length - 8 * k) := by simp
  unfold pad
  by_cases h : 8 * k + j < t.length
  · rw [if_pos h]
    have h1 : j < ((t.drop (8 * k)).take 8).length := by omega
    simp only [List.getD]
    rw [List.getElem?_append_left h1]
    simp [hj]
  · rw [if_neg h]
    have h1 : ((t.drop (8 * k)).take 8).length ≤ j := by omega
    simp only [List.getD]
    rw [List.getElem?_append_right h1]
    have : ∀ n m : Nat, ((List.replicate n (0 : UInt8))[m]?).getD 0 = 0 := by
      intro n m
      rw [List.getElem?_replicate]
      split <;> rfl
    exact this _ _
set_option maxHeartbeats 4000000 in
theorem rsum_p (t : List UInt8) (ht : t.length < 65536) : Pur M 25 [.str t] (.str (sumN t)) := by
  refine ok25 rfl ?_
  rw [i25]
  unfold c25
  have hl := len_lt ht
  have e0 : IntKind.u64.wrap (t.length : Int) = t.length := wu64 (by omega) (by omega)
  have e1 := bits_xor_u64_nat 7046029254386353131 t.length (by decide) (by omega)
  have e2 : ((7046029254386353131 : Nat) : Int) = 7046029254386353131 := rfl
  rw [e2] at e1
  have hR : run (7046029254386353131 ^^^ t.length) t = stt t := rfl
  have hRlt := stt_lt t
  unfold sumN
  generalize stt t = R at *
  generalize hS : 7046029254386353131 ^^^ t.length = S at *
  repeat' (first
    | with_reducible first | apply swp_seq | apply swp_reg | apply swp_regD | apply swp_block | apply swp_exit | apply swp_ret | apply swp_skip | apply swp_cd
    | simp only [go_sem, seval, P25, q25, bitsV, e0, e1]
    | simp (disch := omega) only [w64, w32, wu8, wu16, wu32, wu64]
    | with_reducible first | apply cd_dec | apply cd_eq | apply cd_ne | apply cd_split
    | ((with_reducible refine And.intro ?hw ?_); (case hw => first | omega | rfl | exact ⟨_, _, rfl⟩ | assumption | (simp only [lN] <;> omega)))
    | with_reducible intro _)
  all_goals try omega
  refine swp_fam [0, 1, 2, 3] (fun p : Nat × Nat => ⟨[.str t, .str [], .int .u64 p.1, .int .i64 (8 * p.2 : Nat), .undef, .undef, .undef, .undef, .undef, .undef, .undef, .undef], [], ⟨[], []⟩⟩)
    (fun p => p.1 < W ∧ 8 * p.2 ≤ t.length + 8 ∧ (8 * p.2 ≤ t.length → run p.1 (t.drop (8 * p.2)) = R) ∧ (t.length < 8 * p.2 → p.1 = R)) (fun p => t.length + 8 - 8 * p.2) (S, 0) ⟨hl, by omega, fun _ => by simpa using hR, fun h => by simp at h⟩ ?_ ?_
  · simp [keepE, St.keep]
  · rintro ⟨s, k⟩ ⟨g1, g2, g3, g4⟩
    simp only at g1 g2 g3 g4 ⊢
    by_cases hk : 8 * k ≤ t.length
    · have g5 := g3 hk
      have hpl : ((t.drop (8 * k)).take 8).length ≤ 8 := by simp; omega
      have hpd := pad_len hpl
      have hpg : ∀ j, j < 8 → _ := fun j hj => pad_get (t := t) (k := k) (j := j) hj
      have hblk := blk_lt hpl
      have hvp := val_pad ((t.drop (8 * k)).take 8)
      have hnext : run s (t.drop (8 * k)) = R → (8 * (k + 1) ≤ t.length → run (mixN (s ^^^ blk ((t.drop (8 * k)).take 8))) (t.drop (8 * (k + 1))) = R) ∧ (t.length < 8 * (k + 1) → mixN (s ^^^ blk ((t.drop (8 * k)).take 8)) = R) := by
        intro e
        constructor
        · intro h
          rw [run_long (by rw [List.length_drop]; omega), List.drop_drop] at e
          exact e
        · intro h
          have h8 : (t.drop (8 * k)).length < 8 := by rw [List.length_drop]; omega
          rw [run_short h8] at e
          rw [List.take_of_length_le (by omega)]
          exact e
      obtain ⟨n1, n2⟩ := hnext g5
      generalize (t.drop (8 * k)).take 8 = p at *
      have hm := rmix_p (s ^^^ blk p) (xor_lt g1 hblk)
      have eb := bits_xor_u64_nat s (blk p) g1 hblk
      have hmlt := mixN_lt (s ^^^ blk p)
      repeat' (first
    | with_reducible first | apply swp_seq | apply swp_reg | apply swp_regD | apply swp_block | apply swp_exit | apply swp_ret | apply swp_skip | apply swp_cd
    | simp only [go_sem, seval, P25, q25]
    | simp (disch := omega) only [w64, w32, wu8, wu16, wu32, wu64]
    | with_reducible first | apply cd_dec | apply cd_eq | apply cd_ne | apply cd_split
    | ((with_reducible refine And.intro ?hw ?_); (case hw => first | omega | rfl | exact ⟨_, _, rfl⟩ | assumption | (simp only [lN] <;> omega)))
    | with_reducible intro _)
      all_goals try omega
      refine swp_fam [0, 1, 2, 3, 4, 5] (fun j : Nat => ⟨[.str t, .str [], .int .u64 s, .int .i64 (8 * k : Nat), .int .u64 (val ((pad p).take j) : Nat), .int .i64 (8 * k + j : Nat), .undef, .undef, .undef, .undef, .undef, .undef], [], ⟨[], []⟩⟩)
        (fun j => j ≤ 8) (fun j => 8 - j) 0 (by omega) ?_ ?_
      · simp [keepE, St.keep, val]
      · intro j hj
        by_cases hlt : j < 8
        · have hst : val ((pad p).take (j + 1)) = 256 * val ((pad p).take j) + ((pad p).getD j 0).toNat := by
            rw [List.take_succ_eq_append_getElem (by omega), val_app]
            congr 2
            simp [List.getD, hpd, hlt]
          have hv : val ((pad p).take j) < 72057594037927936 := by
            have h1 := val_lt ((pad p).take j)
            have h2 : ((pad p).take j).length ≤ 7 := by simp; omega
            have h3 : 256 ^ ((pad p).take j).length ≤ 256 ^ 7 := Nat.pow_le_pow_right (by omega) h2
            exact Nat.lt_of_lt_of_le h1 h3
          have hb : ((pad p).getD j 0).toNat < 256 := UInt8.toNat_lt _
          have hg := hpg j hlt
          rw [hg] at hst
          clear hpg hpd hvp hg hb hm eb hmlt n1 n2 hR hRlt g5 g3 g4 hl hS e0 e1 e2
          generalize val ((pad p).take j) = v at *
          have e1 : IntKind.u64.wrap ((v : Int) * 256) = ((256 * v : Nat) : Int) := by rw [wu64 (by omega) (by omega)]; omega
          have e3 : ((8 * k + j : Nat) : Int) < ((8 * k : Nat) : Int) + 8 := by omega
          by_cases hin : 8 * k + j < t.length
          · rw [if_pos hin] at hst
            have hb : (t.getD (8 * k + j) 0).toNat < 256 := UInt8.toNat_lt _
            have ht1 : ((8 * k + j : Nat) : Int).toNat = 8 * k + j := Int.toNat_natCast _
            generalize ht2 : t.getD (8 * k + j) 0 = b at *
            repeat' (first
    | with_reducible first | apply swp_seq | apply swp_reg | apply swp_regD | apply swp_block | apply swp_exit | apply swp_ret | apply swp_skip | apply swp_cd
    | simp only [go_sem, seval, P25, q25, e1, ht1, ht2]
    | simp (disch := omega) only [w64, w32, wu8, wu16, wu32, wu64]
    | with_reducible first | apply cd_dec | apply cd_eq | apply cd_ne | apply cd_split
    | ((with_reducible refine And.intro ?hw ?_); (case hw => first | omega | rfl | exact ⟨_, _, rfl⟩ | assumption | (simp only [lN] <;> omega)))
    | with_reducible intro _)
            all_goals try omega
            refine ⟨j + 1, by omega, by omega, ?_⟩
            rw [hst]
            simp [keepE, St.keep]
            omega
          · rw [if_neg hin] at hst
            have hz : (0 : UInt8).toNat = 0 := rfl
            repeat' (first
    | with_reducible first | apply swp_seq | apply swp_reg | apply swp_regD | apply swp_block | apply swp_exit | apply swp_ret | apply swp_skip | apply swp_cd
    | simp only [go_sem, seval, P25, q25, e1]
    | simp (disch := omega) only [w64, w32, wu8, wu16, wu32, wu64]
    | with_reducible first | apply cd_dec | apply cd_eq | apply cd_ne | apply cd_split
    | ((with_reducible refine And.intro ?hw ?_); (case hw => first | omega | rfl | exact ⟨_, _, rfl⟩ | assumption | (simp only [lN] <;> omega)))
    | with_reducible intro _)
            all_goals try omega
            refine ⟨j + 1, by omega, by omega, ?_⟩
            rw [hst, hz]
            simp [keepE, St.keep]
            omega
        · have e : j = 8 := by omega
          subst e
          have ht8 : (pad p).take 8 = pad p := List.take_of_length_le (by omega)
          rw [ht8, hvp]
          generalize blk p = q at *
          repeat' (first
    | with_reducible first | apply swp_seq | apply swp_reg | apply swp_regD | apply swp_block | apply swp_exit | apply swp_ret | apply swp_skip | apply swp_cd
    | simp only [go_sem, seval, P25, q25, bitsV, eb]
    | simp (disch := omega) only [w64, w32, wu8, wu16, wu32, wu64]
    | ((with_reducible refine o_call (hm) ?he ?hc ?_); (case he | hc => first | rfl | (simp [D.erL, D.er, D.closedL, D.closed]; done)))
    | with_reducible first | apply cd_dec | apply cd_eq | apply cd_ne | apply cd_split
    | ((with_reducible refine And.intro ?hw ?_); (case hw => first | omega | rfl | exact ⟨_, _, rfl⟩ | assumption | (simp only [lN] <;> omega)))
    | with_reducible intro _)
          all_goals try omega
          refine ⟨(mixN (s ^^^ q), k + 1), ⟨mixN_lt _, by simp only; omega, n1, n2⟩, by simp only; omega, ?_⟩
          simp [keepE, St.keep]
          omega
    · have g5 := g4 (by omega)
      subst g5
      repeat' (first
    | with_reducible first | apply swp_seq | apply swp_reg | apply swp_regD | apply swp_block | apply swp_exit | apply swp_ret | apply swp_skip | apply swp_cd
    | simp only [go_sem, seval, P25, q25]
    | simp (disch := omega) only [w64, w32, wu8, wu16, wu32, wu64]
    | with_reducible first | apply cd_dec | apply cd_eq | apply cd_ne | apply cd_split
    | ((with_reducible refine And.intro ?hw ?_); (case hw => first | omega | rfl | exact ⟨_, _, rfl⟩ | assumption | (simp only [lN] <;> omega)))
    | with_reducible intro _)
      all_goals try omega
      refine swp_fam [0, 1, 2, 6, 7] (fun i : Nat => ⟨[.str t, .str [], .int .u64 (s / 16 ^ i : Nat), .undef, .undef, .undef, .str ((hex16 s).drop (16 - i)), .int .i64 i, .undef, .undef, .undef, .undef], [], ⟨[], []⟩⟩)
        (fun i => i ≤ 16) (fun i => 16 - i) 0 (by omega) ?_ ?_
      · simp [keepE, St.keep]
        rw [hex16_len]; omega
      · intro i hi
        by_cases hlt : i < 16
        · have hst := hex16_step (R := s) hlt
          have hq : s / 16 ^ (i + 1) = s / 16 ^ i / 16 := by rw [Nat.pow_succ, Nat.div_div_eq_div_mul]
          have hql : s / 16 ^ i ≤ s := Nat.div_le_self _ _
          have hdl : ((hex16 s).drop (16 - i)).length ≤ 16 := by rw [List.length_drop, hex16_len]; omega
          have hlt2 : s < 18446744073709551616 := hRlt
          generalize s / 16 ^ i = m at *
          have t1 : (m : Int).tmod 16 = ((m % 16 : Nat) : Int) := by rw [Int.tmod_eq_emod_of_nonneg (by omega)]; omega
          have t2 : (m : Int).tdiv 16 = ((m / 16 : Nat) : Int) := by rw [Int.tdiv_eq_ediv_of_nonneg (by omega)]; omega
          have t3 : ((m % 16 : Nat) : Int).toNat = m % 16 := by omega
          have t4 : (((m % 16 : Nat) : Int) + 1).toNat = m % 16 + 1 := by omega
          have t5 := hex_at (m % 16) (by omega)
          have hb : m % 16 < 16 := by omega
          have t6 : ([hexd (m % 16)] : List UInt8).length = 1 := rfl
          repeat' (first
    | with_reducible first | apply swp_seq | apply swp_reg | apply swp_regD | apply swp_block | apply swp_exit | apply swp_ret | apply swp_skip | apply swp_cd
    | simp only [go_sem, seval, P25, q25, t1, t2, t3, t4, t5, t6, List.length_append]
    | simp (disch := omega) only [w64, w32, wu8, wu16, wu32, wu64]
    | with_reducible first | apply cd_dec | apply cd_eq | apply cd_ne | apply cd_split
    | ((with_reducible refine And.intro ?hw ?_); (case hw => first | omega | rfl | exact ⟨_, _, rfl⟩ | assumption | (simp only [lN] <;> omega)))
    | with_reducible intro _)
          all_goals try omega
          refine ⟨i + 1, by omega, by omega, ?_⟩
          rw [hst, hq]
          simp [keepE, St.keep]
        · have e : i = 16 := by omega
          subst e
          repeat' (first
    | with_reducible first | apply swp_seq | apply swp_reg | apply swp_regD | apply swp_block | apply swp_exit | apply swp_ret | apply swp_skip | apply swp_cd
    | simp only [go_sem, seval, P25, q25]
    | simp (disch := omega) only [w64, w32, wu8, wu16, wu32, wu64]
    | with_reducible first | apply cd_dec | apply cd_eq | apply cd_ne | apply cd_split
    | ((with_reducible refine And.intro ?hw ?_); (case hw => first | omega | rfl | exact ⟨_, _, rfl⟩ | assumption | (simp only [lN] <;> omega)))
    | with_reducible intro _)
          all_goals try omega
          all_goals (simp [D.closed, D.er]; done)
end Go.Proofs.YtgjkhlnpplajjaaDoor
end
section
set_option maxRecDepth 100000
namespace Go.Proofs.YtgjkhlnpplajjaaDoor
open Go GoV
/- 31 bogie.sign.chain · 2 arguments · kept slots [0, 1, 4, 5, 6, 7] -/
noncomputable def E31 (n m : Nat) : Cfg := ⟨M, [0, 1, 4, 5, 6, 7], 12, n, m, []⟩
noncomputable def C31 : Cfg := E31 0 0
@[reducible] noncomputable def r31_0 : List RO := [
  ⟨.var 2, .mv, [(.con (.str []))], none⟩]
@[reducible] noncomputable def r31_1 : List RO := [
  ⟨.var 3, .mv, [.var 1], none⟩,
  ⟨.var 4, .mv, [.con (.int .i64 0)], none⟩]
@[reducible] noncomputable def r31_2 : List RO := [
  ⟨.var 5, .bin .lss, [.var 4, .var 3], none⟩]
@[reducible] noncomputable def r31_3 : List RO := [
  ⟨.loc 8, .mv, [.var 0], none⟩,
  ⟨.loc 9, .call, [(.con (.fn (.func 57) [] [])), .loc 8], none⟩,
  ⟨.var 0, .mv, [.loc 9], none⟩]
@[reducible] noncomputable def r31_4 : List RO := [
  ⟨.loc 10, .bin .add, [.var 4, .con (.int .i64 1)], none⟩,
  ⟨.var 4, .mv, [.loc 10], none⟩]
@[reducible] noncomputable def r31_5 : List RO := [
  ⟨.loc 11, .mv, [.var 0], none⟩,
  ⟨.var 2, .mv, [.loc 11], none⟩]
theorem P31 : C31.M = M := by unfold C31 E31; rfl
theorem i31 {a0 a1 : D} : St.init C31 [a0, a1] ⟨[], []⟩ = ⟨[a0, a1, .undef, .undef, .undef, .undef], [], ⟨[], []⟩⟩ := by unfold C31 E31; rfl
noncomputable def c31 : RC := (.seq (.reg r31_0) (.seq (.seq (.reg r31_1) (.block 0 (.loop (.seq (.reg r31_2) (.seq (.cond (.var 5) .skip (.exit 0)) (.seq (.block 1 (.reg r31_3)) (.reg r31_4))))))) (.seq (.reg r31_5) .ret)))
noncomputable def q31 : List RR := [(.slot (.var 2))]
theorem z31 {n m : Nat} : resCode (E31 n m) (Tryd.f31.body.getD .skip) = some c31 := by kernel_rfl
theorem zr31 {n m : Nat} : resRs (E31 n m) Tryd.f31.results.toList = some q31 := by kernel_rfl
theorem ok31 {args : List D} {d : D} (hl : args.length = 2) (h : SWp C31 c31 (fun e s => (match e with | .exit _ => False | _ => True) ∧ rrsWp q31 s fun ds => D.closed (oneOrTup ds) = true ∧ (oneOrTup ds).er = d) (St.init C31 args ⟨[], []⟩)) : Pur M 31 args d :=
  pur_of_body (C := C31) (fn := Tryd.f31) Tryd.func31 (by kernel_rfl) (by kernel_rfl) (rc := c31) z31 (rs := q31) zr31 (by kernel_rfl) (by rw [hl]; rfl) (by rw [hl]; decide) rfl rfl h
/- 32 bogie.sign.start · 3 arguments · kept slots [0, 1, 2, 6] -/
noncomputable def E32 (n m : Nat) : Cfg := ⟨M, [0, 1, 2, 6], 14, n, m, []⟩
noncomputable def C32 : Cfg := E32 0 0
@[reducible] noncomputable def r32_0 : List RO := [
  ⟨.var 3, .mv, [(.con (.str []))], none⟩]
@[reducible] noncomputable def r32_1 : List RO := [
  ⟨.loc 7, .mv, [.var 0], none⟩,
  ⟨.loc 8, .mv, [.var 1], none⟩,
  ⟨.loc 9, .call, [(.con (.fn (.func 59) [] [])), .loc 8], none⟩,
  ⟨.loc 10, .mv, [.var 2], none⟩,
  ⟨.loc 11, .call, [(.con (.fn (.func 59) [] [])), .loc 10], none⟩,
  ⟨.loc 12, .bsl 1, [.loc 7, .loc 9, .loc 11], none⟩,
  ⟨.loc 13, .call, [(.con (.fn (.func 41) [] [])), .loc 12], none⟩,
  ⟨.var 3, .mv, [.loc 13], none⟩]
theorem P32 : C32.M = M := by unfold C32 E32; rfl
theorem i32 {a0 a1 a2 : D} : St.init C32 [a0, a1, a2] ⟨[], []⟩ = ⟨[a0, a1, a2, .undef], [], ⟨[], []⟩⟩ := by unfold C32 E32; rfl
noncomputable def c32 : RC := (.seq (.reg r32_0) (.seq (.reg r32_1) .ret))
noncomputable def q32 : List RR := [(.slot (.var 3))]
theorem z32 {n m : Nat} : resCode (E32 n m) (Tryd.f32.body.getD .skip) = some c32 := by kernel_rfl
theorem zr32 {n m : Nat} : resRs (E32 n m) Tryd.f32.results.toList = some q32 := by kernel_rfl
theorem ok32 {args : List D} {d : D} (hl : args.length = 3) (h : SWp C32 c32 (fun e s => (match e with | .exit _ => False | _ => True) ∧ rrsWp q32 s fun ds => D.closed (oneOrTup ds) = true ∧ (oneOrTup ds).er = d) (St.init C32 args ⟨[], []⟩)) : Pur M 32 args d :=
  pur_of_body (C := C32) (fn := Tryd.f32) Tryd.func32 (by kernel_rfl) (by kernel_rfl) (rc := c32) z32 (rs := q32) zr32 (by kernel_rfl) (by rw [hl]; rfl) (by rw [hl]; decide) rfl rfl h
/- 41 bogie.sign.of · 1 arguments · kept slots [0, 2] -/
noncomputable def E41 (n m : Nat) : Cfg := ⟨M, [0, 2], 5, n, m, []⟩
noncomputable def C41 : Cfg := E41 0 0
@[reducible] noncomputable def r41_0 : List RO := [
  ⟨.var 1, .mv, [(.con (.str []))], none⟩]
@[reducible] noncomputable def r41_1 : List RO := [
  ⟨.loc 3, .mv, [.var 0], none⟩,
  ⟨.loc 4, .call, [(.con (.fn (.func 62) [] [])), .loc 3], none⟩,
  ⟨.var 1, .mv, [.loc 4], none⟩]
theorem P41 : C41.M = M := by unfold C41 E41; rfl
theorem i41 {a0 : D} : St.init C41 [a0] ⟨[], []⟩ = ⟨[a0, .undef], [], ⟨[], []⟩⟩ := by unfold C41 E41; rfl
noncomputable def c41 : RC := (.seq (.reg r41_0) (.seq (.reg r41_1) .ret))
noncomputable def q41 : List RR := [(.slot (.var 1))]
theorem z41 {n m : Nat} : resCode (E41 n m) (Tryd.f41.body.getD .skip) = some c41 := by kernel_rfl
theorem zr41 {n m : Nat} : resRs (E41 n m) Tryd.f41.results.toList = some q41 := by kernel_rfl
theorem ok41 {args : List D} {d : D} (hl : args.length = 1) (h : SWp C41 c41 (fun e s => (match e with | .exit _ => False | _ => True) ∧ rrsWp q41 s fun ds => D.closed (oneOrTup ds) = true ∧ (oneOrTup ds).er = d) (St.init C41 args ⟨[], []⟩)) : Pur M 41 args d :=
  pur_of_body (C := C41) (fn := Tryd.f41) Tryd.func41 (by kernel_rfl) (by kernel_rfl) (rc := c41) z41 (rs := q41) zr41 (by kernel_rfl) (by rw [hl]; rfl) (by rw [hl]; decide) rfl rfl h
/- 42 bogie.sign.node · 3 arguments · kept slots [0, 1, 2, 6, 7] -/
noncomputable def E42 (n m : Nat) : Cfg := ⟨M, [0, 1, 2, 6, 7], 14, n, m, []⟩
noncomputable def C42 : Cfg := E42 0 0
@[reducible] noncomputable def r42_0 : List RO := [
  ⟨.var 3, .mv, [(.con (.str []))], none⟩]
@[reducible] noncomputable def r42_1 : List RO := [
  ⟨.var 4, .mv, [.var 2], none⟩]
@[reducible] noncomputable def r42_2 : List RO := [
  ⟨.loc 8, .mv, [.var 1], none⟩,
  ⟨.loc 9, .mv, [.var 0], none⟩,
  ⟨.var 0, .mv, [.loc 8], none⟩,
  ⟨.var 1, .mv, [.loc 9], none⟩]
@[reducible] noncomputable def r42_3 : List RO := [
  ⟨.loc 10, .mv, [.var 0], none⟩,
  ⟨.loc 11, .mv, [.var 1], none⟩,
  ⟨.loc 12, .bsl 1, [(.con (.str [110, 111, 100, 101])), .loc 10, .loc 11], none⟩,
  ⟨.loc 13, .call, [(.con (.fn (.func 41) [] [])), .loc 12], none⟩,
  ⟨.var 3, .mv, [.loc 13], none⟩]
theorem P42 : C42.M = M := by unfold C42 E42; rfl
theorem i42 {a0 a1 a2 : D} : St.init C42 [a0, a1, a2] ⟨[], []⟩ = ⟨[a0, a1, a2, .undef, .undef], [], ⟨[], []⟩⟩ := by unfold C42 E42; rfl
noncomputable def c42 : RC := (.seq (.reg r42_0) (.seq (.seq (.reg r42_1) (.cond (.var 4) (.reg r42_2) .skip)) (.seq (.reg r42_3) .ret)))
noncomputable def q42 : List RR := [(.slot (.var 3))]
theorem z42 {n m : Nat} : resCode (E42 n m) (Tryd.f42.body.getD .skip) = some c42 := by kernel_rfl
theorem zr42 {n m : Nat} : resRs (E42 n m) Tryd.f42.results.toList = some q42 := by kernel_rfl
theorem ok42 {args : List D} {d : D} (hl : args.length = 3) (h : SWp C42 c42 (fun e s => (match e with | .exit _ => False | _ => True) ∧ rrsWp q42 s fun ds => D.closed (oneOrTup ds) = true ∧ (oneOrTup ds).er = d) (St.init C42 args ⟨[], []⟩)) : Pur M 42 args d :=
  pur_of_body (C := C42) (fn := Tryd.f42) Tryd.func42 (by kernel_rfl) (by kernel_rfl) (rc := c42) z42 (rs := q42) zr42 (by kernel_rfl) (by rw [hl]; rfl) (by rw [hl]; decide) rfl rfl h
/- 52 bogie.sign.key · 2 arguments · kept slots [0, 1, 4, 5, 6, 7, 8] -/
noncomputable def E52 (n m : Nat) : Cfg := ⟨M, [0, 1, 4, 5, 6, 7, 8], 21, n, m, []⟩
noncomputable def C52 : Cfg := E52 0 0
@[reducible] noncomputable def r52_0 : List RO := [
  ⟨.var 2, .mv, [(.con (.str []))], none⟩]
@[reducible] noncomputable def r52_1 : List RO := [
  ⟨.var 3, .mv, [(.con (.lit (.slice none 0 0)))], none⟩]
@[reducible] noncomputable def r52_2 : List RO := [
  ⟨.var 5, .mv, [.con (.int .i64 0)], none⟩]
@[reducible] noncomputable def r52_3 : List RO := [
  ⟨.var 6, .bin .lss, [.var 5, .con (.int .i64 18)], none⟩]
@[reducible] noncomputable def r52_4 : List RO := [
  ⟨.loc 9, .mv, [.var 5], none⟩,
  ⟨.var 4, .mv, [.loc 9], none⟩]
@[reducible] noncomputable def r52_5 : List RO := [
  ⟨.loc 10, .mv, [.var 3], none⟩,
  ⟨.loc 11, .mv, [.var 0], none⟩,
  ⟨.loc 12, .mv, [.var 1], none⟩,
  ⟨.loc 13, .mv, [.var 4], none⟩,
  ⟨.loc 14, .call, [(.con (.fn (.func 32) [] [])), .loc 11, .loc 12, .loc 13], none⟩,
  ⟨.loc 15, .call, [(.con (.fn (.func 31) [] [])), .loc 14, .con (.int .i64 15)], none⟩,
  ⟨.loc 16, .bsl 1, [.loc 15], none⟩,
  ⟨.loc 17, .app 1 16 9, [.loc 10, .loc 16], none⟩,
  ⟨.var 3, .mv, [.loc 17], none⟩]
@[reducible] noncomputable def r52_6 : List RO := [
  ⟨.loc 18, .bin .add, [.var 5, .con (.int .i64 1)], none⟩,
  ⟨.var 5, .mv, [.loc 18], none⟩]
@[reducible] noncomputable def r52_7 : List RO := [
  ⟨.loc 19, .mv, [.var 3], none⟩,
  ⟨.loc 20, .call, [(.con (.fn (.func 41) [] [])), .loc 19], none⟩,
  ⟨.var 2, .mv, [.loc 20], none⟩]
theorem P52 : C52.M = M := by unfold C52 E52; rfl
theorem i52 {a0 a1 : D} : St.init C52 [a0, a1] ⟨[], []⟩ = ⟨[a0, a1, .undef, .undef, .undef, .undef, .undef], [], ⟨[], []⟩⟩ := by unfold C52 E52; rfl
noncomputable def c52 : RC := (.seq (.reg r52_0) (.seq (.reg r52_1) (.seq (.seq (.reg r52_2) (.block 0 (.loop (.seq (.reg r52_3) (.seq (.cond (.var 6) .skip (.exit 0)) (.seq (.block 1 (.seq (.reg r52_4) (.reg r52_5))) (.reg r52_6))))))) (.seq (.reg r52_7) .ret))))
noncomputable def q52 : List RR := [(.slot (.var 2))]
theorem z52 {n m : Nat} : resCode (E52 n m) (Tryd.f52.body.getD .skip) = some c52 := by kernel_rfl
theorem zr52 {n m : Nat} : resRs (E52 n m) Tryd.f52.results.toList = some q52 := by kernel_rfl
theorem ok52 {args : List D} {d : D} (hl : args.length = 2) (h : SWp C52 c52 (fun e s => (match e with | .exit _ => False | _ => True) ∧ rrsWp q52 s fun ds => D.closed (oneOrTup ds) = true ∧ (oneOrTup ds).er = d) (St.init C52 args ⟨[], []⟩)) : Pur M 52 args d :=
  pur_of_body (C := C52) (fn := Tryd.f52) Tryd.func52 (by kernel_rfl) (by kernel_rfl) (rc := c52) z52 (rs := q52) zr52 (by kernel_rfl) (by rw [hl]; rfl) (by rw [hl]; decide) rfl rfl h
/- 26 bogie.sign.keys · 2 arguments · kept slots [0, 1, 4, 5, 6, 11, 12, 13] -/
noncomputable def E26 (n m : Nat) : Cfg := ⟨M, [0, 1, 4, 5, 6, 11, 12, 13], 23, n, m, []⟩
noncomputable def C26 : Cfg := E26 0 0
@[reducible] noncomputable def r26_0 : List RO := [
  ⟨.var 2, .mv, [(.con (.lit (.slice none 0 0)))], none⟩]
@[reducible] noncomputable def r26_1 : List RO := [
  ⟨.loc 7, .mv, [.var 1], none⟩,
  ⟨.loc 8, .bin .shl, [.con (.int .i64 1), .loc 7], none⟩,
  ⟨.loc 9, (.mks 1 16 [(.str [])]), [.loc 8, .loc 8], none⟩,
  ⟨.var 3, .mv, [.loc 9], none⟩]
@[reducible] noncomputable def r26_2 : List RO := [
  ⟨.loc 10, .mv, [.var 3], none⟩,
  ⟨.var 5, .lenL, [.loc 10], none⟩,
  ⟨.var 6, .mv, [.con (.int .i64 0)], none⟩]
@[reducible] noncomputable def r26_3 : List RO := [
  ⟨.var 7, .bin .lss, [.var 6, .var 5], none⟩]
@[reducible] noncomputable def r26_4 : List RO := [
  ⟨.loc 14, .mv, [.var 6], none⟩,
  ⟨.var 4, .mv, [.loc 14], none⟩]
@[reducible] noncomputable def r26_5 : List RO := [
  ⟨.loc 15, .mv, [.var 3], none⟩,
  ⟨.loc 16, .mv, [.var 4], none⟩,
  ⟨.loc 17, .mv, [.var 0], none⟩,
  ⟨.loc 18, .mv, [.var 4], none⟩,
  ⟨.loc 19, .call, [(.con (.fn (.func 52) [] [])), .loc 17, .loc 18], none⟩,
  ⟨.loc 20, .ixaS 1, [.loc 15, .loc 16], none⟩,
  ⟨.none, .st 1, [.loc 20, .loc 19], none⟩]
@[reducible] noncomputable def r26_6 : List RO := [
  ⟨.loc 21, .bin .add, [.var 6, .con (.int .i64 1)], none⟩,
  ⟨.var 6, .mv, [.loc 21], none⟩]
@[reducible] noncomputable def r26_7 : List RO := [
  ⟨.loc 22, .mv, [.var 3], none⟩,
  ⟨.var 2, .mv, [.loc 22], none⟩]
theorem P26 : C26.M = M := by unfold C26 E26; rfl
theorem i26 {a0 a1 : D} : St.init C26 [a0, a1] ⟨[], []⟩ = ⟨[a0, a1, .undef, .undef, .undef, .undef, .undef, .undef], [], ⟨[], []⟩⟩ := by unfold C26 E26; rfl
noncomputable def c26 : RC := (.seq (.reg r26_0) (.seq (.reg r26_1) (.seq (.seq (.reg r26_2) (.block 0 (.loop (.seq (.reg r26_3) (.seq (.cond (.var 7) .skip (.exit 0)) (.seq (.block 1 (.seq (.reg r26_4) (.reg r26_5))) (.reg r26_6))))))) (.seq (.reg r26_7) .ret))))
noncomputable def q26 : List RR := [(.slot (.var 2))]
theorem z26 {n m : Nat} : resCode (E26 n m) (Tryd.f26.body.getD .skip) = some c26 := by kernel_rfl
theorem zr26 {n m : Nat} : resRs (E26 n m) Tryd.f26.results.toList = some q26 := by kernel_rfl
theorem ow26 {args : List D} {d : D} (hl : args.length = 2) (h : SWp C26 c26 (fun e s => (match e with | .exit _ => False | _ => True) ∧ ∃ s1, Weak C26 s s1 ∧ rrsWp q26 s1 fun ds => D.closed (oneOrTup ds) = true ∧ (oneOrTup ds).er = d) (St.init C26 args ⟨[], []⟩)) : Pur M 26 args d :=
  pur_of_bodyW (C := C26) (fn := Tryd.f26) Tryd.func26 (by kernel_rfl) (by kernel_rfl) (rc := c26) z26 (rs := q26) zr26 (by kernel_rfl) (by rw [hl]; rfl) (by rw [hl]; decide) rfl rfl h
/- 35 bogie.bogieref02.chain · 2 arguments · kept slots [0, 1, 4, 5, 8] -/
/- 36 bogie.bogieref02.Start · 3 arguments · kept slots [0, 1, 2, 6] -/
/- 33 bogie.bogieref02.Power · 1 arguments · kept slots [0, 2, 3, 4, 7] -/
noncomputable def E33 (n m : Nat) : Cfg := ⟨M, [0, 2, 3, 4, 7], 13, n, m, []⟩
noncomputable def C33 : Cfg := E33 0 0
@[reducible] noncomputable def r33_0 : List RO := [
  ⟨.var 1, .mv, [.con (.int .i64 0)], none⟩]
@[reducible] noncomputable def r33_1 : List RO := [
  ⟨.var 2, .mv, [.con (.int .i64 1)], none⟩]
@[reducible] noncomputable def r33_2 : List RO := [
  ⟨.var 3, .mv, [.con (.int .i64 0)], none⟩]
@[reducible] noncomputable def r33_3 : List RO := [
  ⟨.loc 5, .mv, [.var 3], none⟩,
  ⟨.loc 6, .mv, [.var 0], none⟩,
  ⟨.var 4, .bin .lss, [.loc 5, .loc 6], none⟩]
@[reducible] noncomputable def r33_4 : List RO := [
  ⟨.loc 10, .mv, [.var 2], none⟩,
  ⟨.loc 11, .bin .mul, [.con (.int .i64 2), .loc 10], none⟩,
  ⟨.var 2, .mv, [.loc 11], none⟩]
@[reducible] noncomputable def r33_5 : List RO := [
  ⟨.loc 8, .mv, [.var 3], none⟩,
  ⟨.loc 9, .bin .add, [.loc 8, .con (.int .i64 1)], none⟩,
  ⟨.var 3, .mv, [.loc 9], none⟩]
@[reducible] noncomputable def r33_6 : List RO := [
  ⟨.loc 12, .mv, [.var 2], none⟩,
  ⟨.var 1, .mv, [.loc 12], none⟩]
theorem P33 : C33.M = M := by unfold C33 E33; rfl
theorem i33 {a0 : D} : St.init C33 [a0] ⟨[], []⟩ = ⟨[a0, .undef, .undef, .undef, .undef], [], ⟨[], []⟩⟩ := by unfold C33 E33; rfl
noncomputable def c33 : RC := (.seq (.reg r33_0) (.seq (.reg r33_1) (.seq (.seq (.reg r33_2) (.block 0 (.loop (.seq (.seq (.reg r33_3) (.cond (.var 4) .skip (.exit 0))) (.seq (.block 1 (.reg r33_4)) (.reg r33_5)))))) (.seq (.reg r33_6) .ret))))
noncomputable def q33 : List RR := [(.slot (.var 1))]
theorem z33 {n m : Nat} : resCode (E33 n m) (Tryd.f33.body.getD .skip) = some c33 := by kernel_rfl
theorem zr33 {n m : Nat} : resRs (E33 n m) Tryd.f33.results.toList = some q33 := by kernel_rfl
theorem ok33 {args : List D} {d : D} (hl : args.length = 1) (h : SWp C33 c33 (fun e s => (match e with | .exit _ => False | _ => True) ∧ rrsWp q33 s fun ds => D.closed (oneOrTup ds) = true ∧ (oneOrTup ds).er = d) (St.init C33 args ⟨[], []⟩)) : Pur M 33 args d :=
  pur_of_body (C := C33) (fn := Tryd.f33) Tryd.func33 (by kernel_rfl) (by kernel_rfl) (rc := c33) z33 (rs := q33) zr33 (by kernel_rfl) (by rw [hl]; rfl) (by rw [hl]; decide) rfl rfl h
/- 55 bogie.bogieref02.Key · 2 arguments · kept slots [0, 1, 4, 5, 6, 8] -/
/- 29 bogie.bogieref02.Keys · 2 arguments · kept slots [0, 1, 4, 5, 6, 10] -/
/- 54 bogie.bogieref02.up · 1 arguments · kept slots [0, 2, 3, 4, 9] -/
/- 28 bogie.bogieref02.Root · 1 arguments · kept slots [0, 2, 5] -/
/- 37 bogie.bogieref02.Path · 2 arguments · kept slots [0, 1, 4, 5, 8, 11] -/
noncomputable def E37 (n m : Nat) : Cfg := ⟨M, [0, 1, 4, 5, 8, 11], 33, n, m, []⟩
noncomputable def C37 : Cfg := E37 0 0
@[reducible] noncomputable def r37_0 : List RO := [
  ⟨.var 2, .mv, [(.con (.lit (.slice none 0 0)))], none⟩]
@[reducible] noncomputable def r37_1 : List RO := [
  ⟨.var 3, .mv, [(.con (.lit (.slice none 0 0)))], none⟩]
@[reducible] noncomputable def r37_2 : List RO := [
  ⟨.loc 6, .mv, [.var 0], none⟩,
  ⟨.loc 7, .lenL, [.loc 6], none⟩,
  ⟨.var 4, .bin .gtr, [.loc 7, .con (.int .i64 1)], none⟩]
@[reducible] noncomputable def r37_3 : List RO := [
  ⟨.loc 9, .mv, [.var 1], none⟩,
  ⟨.loc 10, .bin .rem, [.loc 9, .con (.int .i64 2)], none⟩,
  ⟨.var 5, .bin .eql, [.loc 10, .con (.int .i64 0)], none⟩]
@[reducible] noncomputable def r37_4 : List RO := [
  ⟨.loc 12, .mv, [.var 3], none⟩,
  ⟨.loc 13, .mv, [.var 0], none⟩,
  ⟨.loc 14, .mv, [.var 1], none⟩,
  ⟨.loc 15, .bin .add, [.loc 14, .con (.int .i64 1)], none⟩,
  ⟨.loc 16, .ixaS 1, [.loc 13, .loc 15], none⟩,
  ⟨.loc 17, .ld false 1, [.loc 16], none⟩,
  ⟨.loc 18, .bsl 1, [.loc 17], none⟩,
  ⟨.loc 19, .app 1 16 9, [.loc 12, .loc 18], none⟩,
  ⟨.var 3, .mv, [.loc 19], none⟩]
@[reducible] noncomputable def r37_5 : List RO := [
  ⟨.loc 20, .mv, [.var 3], none⟩,
  ⟨.loc 21, .mv, [.var 0], none⟩,
  ⟨.loc 22, .mv, [.var 1], none⟩,
  ⟨.loc 23, .bin .sub, [.loc 22, .con (.int .i64 1)], none⟩,
  ⟨.loc 24, .ixaS 1, [.loc 21, .loc 23], none⟩,
  ⟨.loc 25, .ld false 1, [.loc 24], none⟩,
  ⟨.loc 26, .bsl 1, [.loc 25], none⟩,
  ⟨.loc 27, .app 1 16 9, [.loc 20, .loc 26], none⟩,
  ⟨.var 3, .mv, [.loc 27], none⟩]
@[reducible] noncomputable def r37_6 : List RO := [
  ⟨.loc 28, .mv, [.var 0], none⟩,
  ⟨.loc 29, .call, [(.con (.fn (.func 54) [] [])), .loc 28], none⟩,
  ⟨.var 0, .mv, [.loc 29], none⟩]
@[reducible] noncomputable def r37_7 : List RO := [
  ⟨.loc 30, .mv, [.var 1], none⟩,
  ⟨.loc 31, .bin .quo, [.loc 30, .con (.int .i64 2)], none⟩,
  ⟨.var 1, .mv, [.loc 31], none⟩]
@[reducible] noncomputable def r37_8 : List RO := [
  ⟨.loc 32, .mv, [.var 3], none⟩,
  ⟨.var 2, .mv, [.loc 32], none⟩]
theorem i37 {a0 a1 : D} : St.init C37 [a0, a1] ⟨[], []⟩ = ⟨[a0, a1, .undef, .undef, .undef, .undef], [], ⟨[], []⟩⟩ := by unfold C37 E37; rfl
noncomputable def c37 : RC := (.seq (.reg r37_0) (.seq (.reg r37_1) (.seq (.block 0 (.loop (.seq (.seq (.reg r37_2) (.cond (.var 4) .skip (.exit 0))) (.block 1 (.seq (.seq (.reg r37_3) (.cond (.var 5) (.reg r37_4) (.reg r37_5))) (.seq (.reg r37_6) (.reg r37_7))))))) (.seq (.reg r37_8) .ret))))
theorem z37 {n m : Nat} : resCode (E37 n m) (Tryd.f37.body.getD .skip) = some c37 := by kernel_rfl
/- 45 bogie.bogieref02.parent · 3 arguments · kept slots [0, 1, 2, 6, 7] -/
/- 34 bogie.bogieref02.Digits · 1 arguments · kept slots [0, 2, 3, 4, 5, 6, 7, 13] -/
noncomputable def E34 (n m : Nat) : Cfg := ⟨M, [0, 2, 3, 4, 5, 6, 7, 13], 35, n, m, []⟩
noncomputable def C34 : Cfg := E34 0 0
@[reducible] noncomputable def r34_0 : List RO := [
  ⟨.var 1, .mv, [(.con (.lit (.slice none 0 0)))], none⟩]
@[reducible] noncomputable def r34_1 : List RO := [
  ⟨.loc 8, .mv, [.var 0], none⟩,
  ⟨.loc 9, .call, [(.con (.fn (.func 25) [] [])), .loc 8], none⟩,
  ⟨.var 2, .mv, [.loc 9], none⟩]
@[reducible] noncomputable def r34_2 : List RO := [
  ⟨.var 3, .mv, [(.con (.lit (.slice none 0 0)))], none⟩]
@[reducible] noncomputable def r34_3 : List RO := [
  ⟨.var 4, .mv, [.con (.int .i64 0)], none⟩]
@[reducible] noncomputable def r34_4 : List RO := [
  ⟨.var 5, .mv, [.con (.int .i64 0)], none⟩]
@[reducible] noncomputable def r34_5 : List RO := [
  ⟨.loc 10, .mv, [.var 5], none⟩,
  ⟨.loc 11, .mv, [.var 2], none⟩,
  ⟨.loc 12, .lenS, [.loc 11], none⟩,
  ⟨.var 7, .bin .lss, [.loc 10, .loc 12], none⟩]
@[reducible] noncomputable def r34_6 : List RO := [
  ⟨.loc 16, .mv, [.var 2], none⟩,
  ⟨.loc 17, .mv, [.var 5], none⟩,
  ⟨.loc 18, .ixvS, [.loc 16, .loc 17], none⟩,
  ⟨.loc 19, .call, [(.con (.fn (.func 60) [] [])), .loc 18], none⟩,
  ⟨.var 6, .mv, [.loc 19], none⟩]
@[reducible] noncomputable def r34_7 : List RO := [
  ⟨.loc 20, .mv, [.var 3], none⟩,
  ⟨.loc 21, .mv, [.var 6], none⟩,
  ⟨.loc 22, .bsl 1, [.loc 21], none⟩,
  ⟨.loc 23, .app 1 8 3, [.loc 20, .loc 22], none⟩,
  ⟨.var 3, .mv, [.loc 23], none⟩]
@[reducible] noncomputable def r34_8 : List RO := [
  ⟨.loc 24, .mv, [.var 4], none⟩,
  ⟨.loc 25, .bin .add, [.loc 24, .con (.int .i64 15)], none⟩,
  ⟨.loc 26, .mv, [.var 6], none⟩,
  ⟨.loc 27, .bin .sub, [.loc 25, .loc 26], none⟩,
  ⟨.var 4, .mv, [.loc 27], none⟩]
@[reducible] noncomputable def r34_9 : List RO := [
  ⟨.loc 14, .mv, [.var 5], none⟩,
  ⟨.loc 15, .bin .add, [.loc 14, .con (.int .i64 1)], none⟩,
  ⟨.var 5, .mv, [.loc 15], none⟩]
@[reducible] noncomputable def r34_10 : List RO := [
  ⟨.loc 28, .mv, [.var 3], none⟩,
  ⟨.loc 29, .mv, [.var 4], none⟩,
  ⟨.loc 30, .bin .quo, [.loc 29, .con (.int .i64 16)], none⟩,
  ⟨.loc 31, .mv, [.var 4], none⟩,
  ⟨.loc 32, .bin .rem, [.loc 31, .con (.int .i64 16)], none⟩,
  ⟨.loc 33, .bsl 1, [.loc 30, .loc 32], none⟩,
  ⟨.loc 34, .app 1 8 3, [.loc 28, .loc 33], none⟩,
  ⟨.var 1, .mv, [.loc 34], none⟩]
theorem P34 : C34.M = M := by unfold C34 E34; rfl
theorem i34 {a0 : D} : St.init C34 [a0] ⟨[], []⟩ = ⟨[a0, .undef, .undef, .undef, .undef, .undef, .undef, .undef], [], ⟨[], []⟩⟩ := by unfold C34 E34; rfl
noncomputable def c34 : RC := (.seq (.reg r34_0) (.seq (.reg r34_1) (.seq (.reg r34_2) (.seq (.reg r34_3) (.seq (.seq (.reg r34_4) (.block 0 (.loop (.seq (.seq (.reg r34_5) (.cond (.var 7) .skip (.exit 0))) (.seq (.block 1 (.seq (.reg r34_6) (.seq (.reg r34_7) (.reg r34_8)))) (.reg r34_9)))))) (.seq (.reg r34_10) .ret))))))
noncomputable def q34 : List RR := [(.slot (.var 1))]
theorem z34 {n m : Nat} : resCode (E34 n m) (Tryd.f34.body.getD .skip) = some c34 := by kernel_rfl
theorem zr34 {n m : Nat} : resRs (E34 n m) Tryd.f34.results.toList = some q34 := by kernel_rfl
theorem ok34 {args : List D} {d : D} (hl : args.length = 1) (h : SWp C34 c34 (fun e s => (match e with | .exit _ => False | _ => True) ∧ rrsWp q34 s fun ds => D.closed (oneOrTup ds) = true ∧ (oneOrTup ds).er = d) (St.init C34 args ⟨[], []⟩)) : Pur M 34 args d :=
  pur_of_body (C := C34) (fn := Tryd.f34) Tryd.func34 (by kernel_rfl) (by kernel_rfl) (rc := c34) z34 (rs := q34) zr34 (by kernel_rfl) (by rw [hl]; rfl) (by rw [hl]; decide) rfl rfl h
end Go.Proofs.YtgjkhlnpplajjaaDoor
end
section
set_option maxRecDepth 100000
set_option linter.unusedSimpArgs false
set_option linter.unusedVariables false
namespace Go.Proofs.YtgjkhlnpplajjaaDoor
open Go GoV Go.RowKit
theorem of_p (l : List (List UInt8)) (h : okL l) : Pur M 41 [.slice (strs l) .no] (.str (sumN (joined l))) := by
  refine ok41 rfl ?_
  rw [i41]
  unfold c41
  have h1 := list_p l h
  repeat' (first
    | with_reducible first | apply swp_seq | apply swp_reg | apply swp_regD | apply swp_block | apply swp_exit | apply swp_ret | apply swp_skip | apply swp_cd
    | simp only [go_sem, seval, P41, q41]
    | simp (disch := omega) only [w64, w32, wu8, wu16, wu32, wu64]
    | ((with_reducible refine o_call (h1) ?he ?hc ?_); (case he | hc => first | rfl | (simp [D.erL, D.er, D.closedL, D.closed]; done)))
    | with_reducible first | apply cd_dec | apply cd_eq | apply cd_ne | apply cd_split
    | ((with_reducible refine And.intro ?hw ?_); (case hw => first | omega | rfl | exact ⟨_, _, rfl⟩ | assumption | (simp only [lN] <;> omega)))
    | with_reducible intro _)
  all_goals first
    | omega
    | (simp [D.closed, D.er]; done)
theorem chn_lt {t : List UInt8} (ht : t.length < 65536) (n : Nat) : (chn n t).length < 65536 := by
  cases n with
  | zero => exact ht
  | succ n => rw [chn_len (by omega)]; omega
set_option maxHeartbeats 1000000 in
theorem chain_p (t : List UInt8) (n : Nat) (ht : t.length < 65536) (hn : n ≤ 1000) : Pur M 31 [.str t, .int .i64 n] (.str (chn n t)) := by
  refine ok31 rfl ?_
  rw [i31]
  unfold c31
  repeat' (first
    | with_reducible first | apply swp_seq | apply swp_reg | apply swp_regD | apply swp_block | apply swp_exit | apply swp_ret | apply swp_skip | apply swp_cd
    | simp only [go_sem, seval, P31, q31]
    | simp (disch := omega) only [w64, w32, wu8, wu16, wu32, wu64]
    | with_reducible first | apply cd_dec | apply cd_eq | apply cd_ne | apply cd_split
    | ((with_reducible refine And.intro ?hw ?_); (case hw => first | omega | rfl | exact ⟨_, _, rfl⟩ | assumption | (simp only [lN] <;> omega)))
    | with_reducible intro _)
  refine swp_fam [0, 1, 2, 3, 4] (fun i : Nat => ⟨[.str (chn i t), .int .i64 n, .str [], .int .i64 n, .int .i64 i, .undef], [], ⟨[], []⟩⟩)
    (fun i => i ≤ n) (fun i => n - i) 0 (by omega) ?_ ?_
  · simp [keepE, St.keep, chn]
  · intro i hi
    have h1 := sum_p (chn i t) (chn_lt ht i)
    rw [← chn_succ] at h1
    by_cases hlt : i < n
    · repeat' (first
    | with_reducible first | apply swp_seq | apply swp_reg | apply swp_regD | apply swp_block | apply swp_exit | apply swp_ret | apply swp_skip | apply swp_cd
    | simp only [go_sem, seval, P31, q31]
    | simp (disch := omega) only [w64, w32, wu8, wu16, wu32, wu64]
    | ((with_reducible refine o_call (h1) ?he ?hc ?_); (case he | hc => first | rfl | (simp [D.erL, D.er, D.closedL, D.closed]; done)))
    | with_reducible first | apply cd_dec | apply cd_eq | apply cd_ne | apply cd_split
    | ((with_reducible refine And.intro ?hw ?_); (case hw => first | omega | rfl | exact ⟨_, _, rfl⟩ | assumption | (simp only [lN] <;> omega)))
    | with_reducible intro _)
      all_goals try omega
      refine ⟨i + 1, by omega, by omega, ?_⟩
      simp [keepE, St.keep]
    · have e : i = n := by omega
      subst e
      repeat' (first
    | with_reducible first | apply swp_seq | apply swp_reg | apply swp_regD | apply swp_block | apply swp_exit | apply swp_ret | apply swp_skip | apply swp_cd
    | simp only [go_sem, seval, P31, q31]
    | simp (disch := omega) only [w64, w32, wu8, wu16, wu32, wu64]
    | with_reducible first | apply cd_dec | apply cd_eq | apply cd_ne | apply cd_split
    | ((with_reducible refine And.intro ?hw ?_); (case hw => first | omega | rfl | exact ⟨_, _, rfl⟩ | assumption | (simp only [lN] <;> omega)))
    | with_reducible intro _)
      all_goals first
        | omega
        | (simp [D.closed, D.er]; done)
theorem itoa_len {n : Nat} (h : n ≤ 1000) : (Lib.itoa (n : Int)).length ≤ 4 := itoa3 h
theorem okL_start {s : List UInt8} {i k : Nat} (hs : s.length ≤ 300) (hi : i ≤ 1000) (hk : k ≤ 1000) : okL [s, Lib.itoa (i : Int), Lib.itoa (k : Int)] := by
  have h1 := itoa_len hi
  have h2 := itoa_len hk
  refine ⟨by simp, ?_⟩
  intro x hx
  simp only [List.mem_cons, List.not_mem_nil, or_false] at hx
  rcases hx with rfl | rfl | rfl <;> omega
theorem start_p (s : List UInt8) (i k : Nat) (hs : s.length ≤ 300) (hi : i ≤ 1000) (hk : k ≤ 1000) : Pur M 32 [.str s, .int .i64 i, .int .i64 k] (.str (start s i k)) := by
  refine ok32 rfl ?_
  rw [i32]
  unfold c32
  have h1 := itoa_p (i : Int) (by omega) (by omega)
  have h2 := itoa_p (k : Int) (by omega) (by omega)
  have h3 := of_p _ (okL_start hs hi hk)
  have e : sumN (joined [s, Lib.itoa (i : Int), Lib.itoa (k : Int)]) = start s i k := rfl
  rw [e] at h3
  have e2 : strs [s, Lib.itoa (i : Int), Lib.itoa (k : Int)] = [.str s, .str (Lib.itoa (i : Int)), .str (Lib.itoa (k : Int))] := rfl
  rw [e2] at h3
  generalize Lib.itoa (i : Int) = u at *
  generalize Lib.itoa (k : Int) = v at *
  generalize start s i k = r at *
  repeat' (first
    | with_reducible first | apply swp_seq | apply swp_reg | apply swp_regD | apply swp_block | apply swp_exit | apply swp_ret | apply swp_skip | apply swp_cd
    | simp only [go_sem, seval, P32, q32]
    | simp (disch := omega) only [w64, w32, wu8, wu16, wu32, wu64]
    | ((with_reducible refine o_call (h1) ?he ?hc ?_); (case he | hc => first | rfl | (simp [D.erL, D.er, D.closedL, D.closed]; done)))
    | ((with_reducible refine o_call (h2) ?he ?hc ?_); (case he | hc => first | rfl | (simp [D.erL, D.er, D.closedL, D.closed]; done)))
    | ((with_reducible refine o_call (h3) ?he ?hc ?_); (case he | hc => first | rfl | (simp [D.erL, D.er, D.closedL, D.closed]; done)))
    | ((with_reducible apply s_bsl); (case he | hl | hc => first | rfl | assumption | omega | ((first | refine ⟨?_, ?_⟩ | skip) <;> first | omega | (simp only [lN] <;> omega)) | (simp [elemsK, D.isVal, D.cells, D.closedL, D.closed]; first | done | omega)))
    | with_reducible first | apply cd_dec | apply cd_eq | apply cd_ne | apply cd_split
    | ((with_reducible refine And.intro ?hw ?_); (case hw => first | omega | rfl | exact ⟨_, _, rfl⟩ | assumption | (simp only [lN] <;> omega)))
    | with_reducible intro _)
  all_goals first
    | omega
    | (simp [D.closed, D.er]; done)
theorem okL_node {a b : List UInt8} (ha : a.length ≤ 1000) (hb : b.length ≤ 1000) : okL [wnode, a, b] := by
  refine ⟨by simp, ?_⟩
  intro x hx
  simp only [List.mem_cons, List.not_mem_nil, or_false] at hx
  rcases hx with rfl | rfl | rfl
  · decide
  · exact ha
  · exact hb
theorem node_p (a b : List UInt8) (back : Bool) (ha : a.length ≤ 1000) (hb : b.length ≤ 1000) : Pur M 42 [.str a, .str b, .bool back] (.str (par a b back)) := by
  refine ok42 rfl ?_
  rw [i42]
  unfold c42
  have h1 := of_p _ (okL_node ha hb)
  have h2 := of_p _ (okL_node hb ha)
  have e1 : strs [wnode, a, b] = [.str [110, 111, 100, 101], .str a, .str b] := rfl
  have e2 : strs [wnode, b, a] = [.str [110, 111, 100, 101], .str b, .str a] := rfl
  rw [e1] at h1
  rw [e2] at h2
  have e3 : sumN (joined [wnode, a, b]) = nod a b := rfl
  have e4 : sumN (joined [wnode, b, a]) = nod b a := rfl
  rw [e3] at h1
  rw [e4] at h2
  cases back
  · have e : par a b false = nod a b := rfl
    rw [e]
    repeat' (first
    | with_reducible first | apply swp_seq | apply swp_reg | apply swp_regD | apply swp_block | apply swp_exit | apply swp_ret | apply swp_skip | apply swp_cd
    | simp only [go_sem, seval, P42, q42]
    | simp (disch := omega) only [w64, w32, wu8, wu16, wu32, wu64]
    | ((with_reducible refine o_call (h1) ?he ?hc ?_); (case he | hc => first | rfl | (simp [D.erL, D.er, D.closedL, D.closed]; done)))
    | ((with_reducible apply s_bsl); (case he | hl | hc => first | rfl | assumption | omega | ((first | refine ⟨?_, ?_⟩ | skip) <;> first | omega | (simp only [lN] <;> omega)) | (simp [elemsK, D.isVal, D.cells, D.closedL, D.closed]; first | done | omega)))
    | with_reducible first | apply cd_dec | apply cd_eq | apply cd_ne | apply cd_split
    | ((with_reducible refine And.intro ?hw ?_); (case hw => first | omega | rfl | exact ⟨_, _, rfl⟩ | assumption | (simp only [lN] <;> omega)))
    | with_reducible intro _)
    all_goals first
      | omega
      | (simp [D.closed, D.er]; done)
  · have e : par a b true = nod b a := rfl
    rw [e]
    repeat' (first
    | with_reducible first | apply swp_seq | apply swp_reg | apply swp_regD | apply swp_block | apply swp_exit | apply swp_ret | apply swp_skip | apply swp_cd
    | simp only [go_sem, seval, P42, q42]
    | simp (disch := omega) only [w64, w32, wu8, wu16, wu32, wu64]
    | ((with_reducible refine o_call (h2) ?he ?hc ?_); (case he | hc => first | rfl | (simp [D.erL, D.er, D.closedL, D.closed]; done)))
    | ((with_reducible apply s_bsl); (case he | hl | hc => first | rfl | assumption | omega | ((first | refine ⟨?_, ?_⟩ | skip) <;> first | omega | (simp only [lN] <;> omega)) | (simp [elemsK, D.isVal, D.cells, D.closedL, D.closed]; first | done | omega)))
    | with_reducible first | apply cd_dec | apply cd_eq | apply cd_ne | apply cd_split
    | ((with_reducible refine And.intro ?hw ?_); (case hw => first | omega | rfl | exact ⟨_, _, rfl⟩ | assumption | (simp only [lN] <;> omega)))
    | with_reducible intro _)
    all_goals first
      | omega
      | (simp [D.closed, D.er]; done)
end Go.Proofs.YtgjkhlnpplajjaaDoor
end
section
set_option maxRecDepth 100000
set_option linter.unusedSimpArgs false
set_option linter.unusedVariables false
namespace Go.Proofs.YtgjkhlnpplajjaaDoor
open Go GoV Go.RowKit
def endsP (s : List UInt8) (i j : Nat) : List (List UInt8) := (List.range j).map fun k => chn 15 (start s i k)
theorem endsP_all (s : List UInt8) (i : Nat) : endsP s i 18 = ends s i := rfl
theorem endsP_step (s : List UInt8) (i j : Nat) : endsP s i (j + 1) = endsP s i j ++ [chn 15 (start s i j)] := by simp [endsP, List.range_succ]
theorem endsP_len (s : List UInt8) (i j : Nat) : (endsP s i j).length = j := by simp [endsP]
theorem strs_app (a b : List (List UInt8)) : strs (a ++ b) = strs a ++ strs b := by simp [strs]
theorem strs_len (a : List (List UInt8)) : (strs a).length = a.length := by simp [strs]
theorem okL_ends (s : List UInt8) (i : Nat) : okL (ends s i) := by
  refine ⟨by rw [← endsP_all, endsP_len]; omega, ?_⟩
  intro x hx
  obtain ⟨k, _, rfl⟩ := List.mem_map.1 hx
  rw [chn_len (by omega)]
  omega
theorem start_len (s : List UInt8) (i k : Nat) : (start s i k).length = 16 := sumN_len _
set_option maxHeartbeats 1000000 in
theorem key_p (s : List UInt8) (i : Nat) (hs : s.length ≤ 300) (hi : i ≤ 1000) : Pur M 52 [.str s, .int .i64 i] (.str (key s i)) := by
  refine ok52 rfl ?_
  rw [i52]
  unfold c52
  repeat' (first
    | with_reducible first | apply swp_seq | apply swp_reg | apply swp_regD | apply swp_block | apply swp_exit | apply swp_ret | apply swp_skip | apply swp_cd
    | simp only [go_sem, seval, P52, q52]
    | simp (disch := omega) only [w64, w32, wu8, wu16, wu32, wu64]
    | ((with_reducible apply s_appT); (case he => rfl); (case hK | hc | hr | hV => first | rfl | assumption | omega | ((first | refine ⟨?_, ?_⟩ | skip) <;> first | omega | (simp only [lN] <;> omega)) | (simp [elemsK, D.isVal, D.cells, D.closedL, D.closed]; first | done | omega)))
    | ((with_reducible apply s_appG); (case he => rfl); (case hV | hK | hr | hl => first | rfl | assumption | omega | ((first | refine ⟨?_, ?_⟩ | skip) <;> first | omega | (simp only [lN] <;> omega)) | (simp [elemsK, D.isVal, D.cells, D.closedL, D.closed]; first | done | omega)))
    | ((with_reducible apply s_app0); (case he => rfl); (case hK | hc | hr => first | rfl | assumption | omega | ((first | refine ⟨?_, ?_⟩ | skip) <;> first | omega | (simp only [lN] <;> omega)) | (simp [elemsK, D.isVal, D.cells, D.closedL, D.closed]; first | done | omega)))
    | ((with_reducible apply s_appF); (case he => rfl); (case hK | hc | hr | hx | hn => first | rfl | assumption | omega | ((first | refine ⟨?_, ?_⟩ | skip) <;> first | omega | (simp only [lN] <;> omega)) | (simp [elemsK, D.isVal, D.cells, D.closedL, D.closed]; first | done | omega)))
    | ((with_reducible apply s_bsl); (case he | hl | hc => first | rfl | assumption | omega | ((first | refine ⟨?_, ?_⟩ | skip) <;> first | omega | (simp only [lN] <;> omega)) | (simp [elemsK, D.isVal, D.cells, D.closedL, D.closed]; first | done | omega)))
    | with_reducible first | apply cd_dec | apply cd_eq | apply cd_ne | apply cd_split
    | ((with_reducible refine And.intro ?hw ?_); (case hw => first | omega | rfl | exact ⟨_, _, rfl⟩ | assumption | (simp only [lN] <;> omega)))
    | with_reducible intro _)
  refine swp_weak (weak_new 3 1 (by decide) false rfl) ?_
  refine swp_fam [0, 1, 2, 3, 5] (fun j : Nat => ⟨[.str s, .int .i64 i, .str [], .slice (strs (endsP s i j)) (.tok 0), .undef, .int .i64 j, .undef], [], ⟨[], [.per 1 j]⟩⟩)
    (fun j => j ≤ 18) (fun j => 18 - j) 0 (by omega) ?_ ?_
  · simp [keepE, St.keep, endsP]
  · intro j hj
    have hl : (strs (endsP s i j)).length = j := by rw [strs_len, endsP_len]
    by_cases hlt : j < 18
    · have h1 := start_p s i j hs hi (by omega)
      have h2 := chain_p (start s i j) 15 (by rw [start_len]; omega) (by omega)
      have h3 := endsP_step s i j
      have hc : (chn 15 (start s i j)).length = 16 := chn_len (by omega)
      have q15 : ((15 : Nat) : Int) = 15 := rfl
      rw [q15] at h2
      generalize chn 15 (start s i j) = x at *
      generalize start s i j = y at *
      repeat' (first
    | with_reducible first | apply swp_seq | apply swp_reg | apply swp_regD | apply swp_block | apply swp_exit | apply swp_ret | apply swp_skip | apply swp_cd
    | simp only [go_sem, seval, P52, q52]
    | simp (disch := omega) only [w64, w32, wu8, wu16, wu32, wu64]
    | ((with_reducible refine o_call (h1) ?he ?hc ?_); (case he | hc => first | rfl | (simp [D.erL, D.er, D.closedL, D.closed, hl]; done)))
    | ((with_reducible refine o_call (h2) ?he ?hc ?_); (case he | hc => first | rfl | (simp [D.erL, D.er, D.closedL, D.closed, hl]; done)))
    | ((with_reducible apply s_appT); (case he => rfl); (case hK | hc | hr | hV => first | rfl | assumption | omega | ((first | refine ⟨?_, ?_⟩ | skip) <;> first | omega | (simp only [lN, hl] <;> omega)) | (simp [elemsK, D.isVal, D.cells, D.closedL, D.closed, hl]; first | done | omega)))
    | ((with_reducible apply s_appG); (case he => rfl); (case hV | hK | hr | hl => first | rfl | assumption | omega | ((first | refine ⟨?_, ?_⟩ | skip) <;> first | omega | (simp only [lN, hl] <;> omega)) | (simp [elemsK, D.isVal, D.cells, D.closedL, D.closed, hl]; first | done | omega)))
    | ((with_reducible apply s_app0); (case he => rfl); (case hK | hc | hr => first | rfl | assumption | omega | ((first | refine ⟨?_, ?_⟩ | skip) <;> first | omega | (simp only [lN, hl] <;> omega)) | (simp [elemsK, D.isVal, D.cells, D.closedL, D.closed, hl]; first | done | omega)))
    | ((with_reducible apply s_appF); (case he => rfl); (case hK | hc | hr | hx | hn => first | rfl | assumption | omega | ((first | refine ⟨?_, ?_⟩ | skip) <;> first | omega | (simp only [lN, hl] <;> omega)) | (simp [elemsK, D.isVal, D.cells, D.closedL, D.closed, hl]; first | done | omega)))
    | ((with_reducible apply s_bsl); (case he | hl | hc => first | rfl | assumption | omega | ((first | refine ⟨?_, ?_⟩ | skip) <;> first | omega | (simp only [lN, hl] <;> omega)) | (simp [elemsK, D.isVal, D.cells, D.closedL, D.closed, hl]; first | done | omega)))
    | with_reducible first | apply cd_dec | apply cd_eq | apply cd_ne | apply cd_split
    | ((with_reducible refine And.intro ?hw ?_); (case hw => first | omega | rfl | exact ⟨_, _, rfl⟩ | assumption | (simp only [lN, hl] <;> omega)))
    | with_reducible intro _)
      all_goals try omega
      refine ⟨j + 1, by omega, by omega, ?_⟩
      rw [h3, strs_app]
      simp [keepE, St.keep, hl, strs]
      try omega
    · have e : j = 18 := by omega
      subst e
      have h1 := of_p (endsP s i 18) (okL_ends s i)
      have e2 : sumN (joined (endsP s i 18)) = key s i := rfl
      rw [e2] at h1
      repeat' (first
    | with_reducible first | apply swp_seq | apply swp_reg | apply swp_regD | apply swp_block | apply swp_exit | apply swp_ret | apply swp_skip | apply swp_cd
    | simp only [go_sem, seval, P52, q52]
    | simp (disch := omega) only [w64, w32, wu8, wu16, wu32, wu64]
    | ((with_reducible refine o_call (h1) ?he ?hc ?_); (case he | hc => first | rfl | (simp [D.erL, D.er, D.closedL, D.closed]; done)))
    | ((with_reducible apply s_appT); (case he => rfl); (case hK | hc | hr | hV => first | rfl | assumption | omega | ((first | refine ⟨?_, ?_⟩ | skip) <;> first | omega | (simp only [lN] <;> omega)) | (simp [elemsK, D.isVal, D.cells, D.closedL, D.closed]; first | done | omega)))
    | ((with_reducible apply s_appG); (case he => rfl); (case hV | hK | hr | hl => first | rfl | assumption | omega | ((first | refine ⟨?_, ?_⟩ | skip) <;> first | omega | (simp only [lN] <;> omega)) | (simp [elemsK, D.isVal, D.cells, D.closedL, D.closed]; first | done | omega)))
    | ((with_reducible apply s_app0); (case he => rfl); (case hK | hc | hr => first | rfl | assumption | omega | ((first | refine ⟨?_, ?_⟩ | skip) <;> first | omega | (simp only [lN] <;> omega)) | (simp [elemsK, D.isVal, D.cells, D.closedL, D.closed]; first | done | omega)))
    | ((with_reducible apply s_appF); (case he => rfl); (case hK | hc | hr | hx | hn => first | rfl | assumption | omega | ((first | refine ⟨?_, ?_⟩ | skip) <;> first | omega | (simp only [lN] <;> omega)) | (simp [elemsK, D.isVal, D.cells, D.closedL, D.closed]; first | done | omega)))
    | ((with_reducible apply s_bsl); (case he | hl | hc => first | rfl | assumption | omega | ((first | refine ⟨?_, ?_⟩ | skip) <;> first | omega | (simp only [lN] <;> omega)) | (simp [elemsK, D.isVal, D.cells, D.closedL, D.closed]; first | done | omega)))
    | with_reducible first | apply cd_dec | apply cd_eq | apply cd_ne | apply cd_split
    | ((with_reducible refine And.intro ?hw ?_); (case hw => first | omega | rfl | exact ⟨_, _, rfl⟩ | assumption | (simp only [lN] <;> omega)))
    | with_reducible intro _)
      all_goals first
        | omega
        | (simp [D.closed, D.er]; done)
theorem power_p (n : Nat) (hn : n ≤ 30) : Pur M 33 [.int .i64 n] (.int .i64 (2 ^ n : Nat)) := by
  refine ok33 rfl ?_
  rw [i33]
  unfold c33
  repeat' (first
    | with_reducible first | apply swp_seq | apply swp_reg | apply swp_regD | apply swp_block | apply swp_exit | apply swp_ret | apply swp_skip | apply swp_cd
    | simp only [go_sem, seval, P33, q33]
    | simp (disch := omega) only [w64, w32, wu8, wu16, wu32, wu64]
    | with_reducible first | apply cd_dec | apply cd_eq | apply cd_ne | apply cd_split
    | ((with_reducible refine And.intro ?hw ?_); (case hw => first | omega | rfl | exact ⟨_, _, rfl⟩ | assumption | (simp only [lN] <;> omega)))
    | with_reducible intro _)
  refine swp_fam [0, 1, 2, 3] (fun j : Nat => ⟨[.int .i64 n, .int .i64 0, .int .i64 (2 ^ j : Nat), .int .i64 j, .undef], [], ⟨[], []⟩⟩)
    (fun j => j ≤ n) (fun j => n - j) 0 (by omega) ?_ ?_
  · simp [keepE, St.keep]
  · intro j hj
    have h2 : 2 ^ (j + 1) = 2 * 2 ^ j := by rw [Nat.pow_succ, Nat.mul_comm]
    have h3 : 2 ^ j ≤ 2 ^ 30 := Nat.pow_le_pow_right (by omega) (by omega)
    have h4 : (2 : Nat) ^ 30 = 1073741824 := by decide
    rw [h4] at h3
    by_cases hlt : j < n
    · have e : (2 : Int) * ((2 ^ j : Nat) : Int) = ((2 ^ (j + 1) : Nat) : Int) := by rw [h2]; omega
      generalize 2 ^ (j + 1) = a at *
      generalize hb : 2 ^ j = b at *
      repeat' (first
    | with_reducible first | apply swp_seq | apply swp_reg | apply swp_regD | apply swp_block | apply swp_exit | apply swp_ret | apply swp_skip | apply swp_cd
    | simp only [go_sem, seval, P33, q33]
    | simp (disch := omega) only [w64, w32, wu8, wu16, wu32, wu64]
    | with_reducible first | apply cd_dec | apply cd_eq | apply cd_ne | apply cd_split
    | ((with_reducible refine And.intro ?hw ?_); (case hw => first | omega | rfl | exact ⟨_, _, rfl⟩ | assumption | (simp only [lN] <;> omega)))
    | with_reducible intro _)
      all_goals try omega
      refine ⟨j + 1, by omega, by omega, ?_⟩
      have e3 : 2 ^ (j + 1) = 2 * b := by rw [Nat.pow_succ, Nat.mul_comm, hb]
      simp only [keepE, St.keep, e3]
      simp
      try omega
    · have e : j = n := by omega
      subst e
      generalize 2 ^ j = b at *
      repeat' (first
    | with_reducible first | apply swp_seq | apply swp_reg | apply swp_regD | apply swp_block | apply swp_exit | apply swp_ret | apply swp_skip | apply swp_cd
    | simp only [go_sem, seval, P33, q33]
    | simp (disch := omega) only [w64, w32, wu8, wu16, wu32, wu64]
    | with_reducible first | apply cd_dec | apply cd_eq | apply cd_ne | apply cd_split
    | ((with_reducible refine And.intro ?hw ?_); (case hw => first | omega | rfl | exact ⟨_, _, rfl⟩ | assumption | (simp only [lN] <;> omega)))
    | with_reducible intro _)
      all_goals first
        | omega
        | (simp [D.closed, D.er]; done)
end Go.Proofs.YtgjkhlnpplajjaaDoor
end
section
set_option maxRecDepth 100000
set_option linter.unusedSimpArgs false
set_option linter.unusedVariables false
namespace Go.Proofs.YtgjkhlnpplajjaaDoor
open Go GoV Go.RowKit
theorem keys_step (s : List UInt8) (n : Nat) : keys s (n + 1) = keys s n ++ [key s n] := by simp [keys, List.range_succ]
theorem erL_strs (l : List (List UInt8)) : D.erL (strs l) = strs l := by
  induction l with
  | nil => rfl
  | cons a l ih => simp only [strs, List.map_cons, D.erL, D.er] at ih ⊢; rw [ih]
theorem up_take {l : List (List UInt8)} {j : Nat} (h : 2 * j + 1 < l.length) : (up l).take (j + 1) = (up l).take j ++ [nod (l.getD (2 * j) []) (l.getD (2 * j + 1) [])] := by
  have hl : j < (up l).length := by rw [up_len]; omega
  rw [List.take_succ_eq_append_getElem hl, ← up_get l j h]
  congr 2
  simp [List.getD, hl]
end Go.Proofs.YtgjkhlnpplajjaaDoor
end
section
set_option maxRecDepth 100000
set_option linter.unusedSimpArgs false
set_option linter.unusedVariables false
namespace Go.Proofs.YtgjkhlnpplajjaaDoor
open Go GoV Go.RowKit
theorem up_small (l : List (List UInt8)) : ∀ x ∈ up l, x.length ≤ 1000 := by
  intro x hx
  have := up_is l x hx
  unfold isD at this
  simp only [Bool.and_eq_true, decide_eq_true_eq] at this
  omega
end Go.Proofs.YtgjkhlnpplajjaaDoor
end
section
set_option maxRecDepth 100000
set_option linter.unusedSimpArgs false
set_option linter.unusedVariables false
namespace Go.Proofs.YtgjkhlnpplajjaaDoor
open Go GoV Go.RowKit
end Go.Proofs.YtgjkhlnpplajjaaDoor
end
section
set_option maxRecDepth 100000
set_option linter.unusedSimpArgs false
set_option linter.unusedVariables false
namespace Go.Proofs.YtgjkhlnpplajjaaDoor
open Go GoV Go.RowKit
abbrev ints (l : List Nat) : List D := l.map fun d => .int .i64 (d : Nat)
theorem ints_len (l : List Nat) : (ints l).length = l.length := List.length_map _
theorem ints_app (a b : List Nat) : ints (a ++ b) = ints a ++ ints b := by simp [ints]
theorem erL_ints (l : List Nat) : D.erL (ints l) = ints l := by
  induction l with
  | nil => rfl
  | cons a l ih => simp only [ints, List.map_cons, D.erL, D.er] at ih ⊢; rw [ih]
def restP (m : List UInt8) (j : Nat) : Nat := (((hexs16 m).take j).map fun d => 15 - d).sum
theorem restP_all (m : List UInt8) : restP m 16 = rest m := by
  unfold restP rest
  rw [List.take_of_length_le (by rw [hexs16_len]; omega)]
theorem restP_le (m : List UInt8) (j : Nat) : restP m j ≤ 240 := by
  have := sum_le (l := ((hexs16 m).take j).map fun d => 15 - d) (b := 15) (by
    intro d hd
    obtain ⟨c, _, rfl⟩ := List.mem_map.1 hd
    omega)
  rw [List.length_map, List.length_take, hexs16_len] at this
  unfold restP
  omega
theorem hexs16_at {m : List UInt8} {j : Nat} (h : j < 16) : hxv ((sumN m).getD j 0) = (((hexs16 m).getD j 0 : Nat) : Int) ∧ (hexs16 m).getD j 0 < 16 := by
  have hl := sumN_len m
  have e : (sumN m).getD j 0 = (sumN m)[j]'(by omega) := by
    have h' : j < (sumN m).length := by omega
    simp [List.getD, h']
  have e2 : (hexs16 m).getD j 0 = (hxv ((sumN m)[j]'(by omega))).toNat := by
    have h' : j < (sumN m).length := by omega
    simp [hexs16, List.getD, h']
  have h3 := hxv_lt (List.all_eq_true.1 (sumN_all m) _ (List.getElem_mem (show j < (sumN m).length by omega)))
  rw [e, e2]
  omega
theorem hexs16_take {m : List UInt8} {j : Nat} (h : j < 16) : (hexs16 m).take (j + 1) = (hexs16 m).take j ++ [(hexs16 m).getD j 0] := by
  have hl := hexs16_len m
  rw [List.take_succ_eq_append_getElem (by omega)]
  simp [List.getD, hl, h]
theorem restP_step {m : List UInt8} {j : Nat} (h : j < 16) : restP m (j + 1) = restP m j + (15 - (hexs16 m).getD j 0) := by
  unfold restP
  rw [hexs16_take h, List.map_append, List.sum_append]
  simp
set_option maxHeartbeats 1000000 in
theorem rdgt_p (m : List UInt8) (hm : m.length < 65536) : Pur M 34 [.str m] (.slice (ints (dgt m)) .no) := by
  refine ok34 rfl ?_
  rw [i34]
  unfold c34
  have h1 := rsum_p m hm
  have hl := sumN_len m
  have hd : dgt m = (hexs16 m).take 16 ++ [rest m / 16, rest m % 16] := by
    rw [List.take_of_length_le (by rw [hexs16_len]; omega)]; rfl
  repeat' (first
    | with_reducible first | apply swp_seq | apply swp_reg | apply swp_regD | apply swp_block | apply swp_exit | apply swp_ret | apply swp_skip | apply swp_cd
    | simp only [go_sem, seval, P34, q34]
    | simp (disch := omega) only [w64, w32, wu8, wu16, wu32, wu64]
    | ((with_reducible refine o_call (h1) ?he ?hc ?_); (case he | hc => first | rfl | (simp [D.erL, D.er, D.closedL, D.closed]; done)))
    | ((with_reducible apply s_appT); (case he => rfl); (case hK | hc | hr | hV => first | rfl | assumption | omega | ((first | refine ⟨?_, ?_⟩ | skip) <;> first | omega | (simp only [lN] <;> omega)) | (simp [elemsK, D.isVal, D.cells, D.closedL, D.closed]; first | done | omega)))
    | ((with_reducible apply s_appG); (case he => rfl); (case hV | hK | hr | hl => first | rfl | assumption | omega | ((first | refine ⟨?_, ?_⟩ | skip) <;> first | omega | (simp only [lN] <;> omega)) | (simp [elemsK, D.isVal, D.cells, D.closedL, D.closed]; first | done | omega)))
    | ((with_reducible apply s_app0); (case he => rfl); (case hK | hc | hr => first | rfl | assumption | omega | ((first | refine ⟨?_, ?_⟩ | skip) <;> first | omega | (simp only [lN] <;> omega)) | (simp [elemsK, D.isVal, D.cells, D.closedL, D.closed]; first | done | omega)))
    | ((with_reducible apply s_appF); (case he => rfl); (case hK | hc | hr | hx | hn => first | rfl | assumption | omega | ((first | refine ⟨?_, ?_⟩ | skip) <;> first | omega | (simp only [lN] <;> omega)) | (simp [elemsK, D.isVal, D.cells, D.closedL, D.closed]; first | done | omega)))
    | ((with_reducible apply s_bsl); (case he | hl | hc => first | rfl | assumption | omega | ((first | refine ⟨?_, ?_⟩ | skip) <;> first | omega | (simp only [lN] <;> omega)) | (simp [elemsK, D.isVal, D.cells, D.closedL, D.closed]; first | done | omega)))
    | with_reducible first | apply cd_dec | apply cd_eq | apply cd_ne | apply cd_split
    | ((with_reducible refine And.intro ?hw ?_); (case hw => first | omega | rfl | exact ⟨_, _, rfl⟩ | assumption | (simp only [lN] <;> omega)))
    | with_reducible intro _)
  refine swp_weak (weak_new 3 1 (by decide) false rfl) ?_
  refine swp_fam [0, 1, 2, 3, 4, 5] (fun j : Nat => ⟨[.str m, .lit (.slice none 0 0), .str (sumN m), .slice (ints ((hexs16 m).take j)) (.tok 0), .int .i64 (restP m j : Nat), .int .i64 j, .undef, .undef], [], ⟨[], [.per 1 j]⟩⟩)
    (fun j => j ≤ 16) (fun j => 16 - j) 0 (by omega) ?_ ?_
  · simp [keepE, St.keep, restP]
  · intro j hj
    have hil : (ints ((hexs16 m).take j)).length = j := by rw [ints_len, List.length_take, hexs16_len]; omega
    have hrp := restP_le m j
    by_cases hlt : j < 16
    · have h2 := rdigit_p ((sumN m).getD j 0)
      obtain ⟨h3, h4⟩ := hexs16_at (m := m) hlt
      rw [h3] at h2
      have h5 := hexs16_take (m := m) hlt
      have h6 := restP_step (m := m) hlt
      have t1 : ((j : Nat) : Int).toNat = j := Int.toNat_natCast j
      generalize (hexs16 m).getD j 0 = d at *
      generalize hS : sumN m = S at *
      generalize hq : restP m j = q at *
      have hT : ((hexs16 m).take j).length = j := by rw [List.length_take, hexs16_len]; omega
      generalize (hexs16 m).take j = T at *
      repeat' (first
    | with_reducible first | apply swp_seq | apply swp_reg | apply swp_regD | apply swp_block | apply swp_exit | apply swp_ret | apply swp_skip | apply swp_cd
    | simp only [go_sem, seval, P34, q34, t1]
    | simp (disch := omega) only [w64, w32, wu8, wu16, wu32, wu64]
    | ((with_reducible refine o_call (h2) ?he ?hc ?_); (case he | hc => first | rfl | (simp [D.erL, D.er, D.closedL, D.closed, hT, hl]; done)))
    | ((with_reducible apply s_appT); (case he => rfl); (case hK | hc | hr | hV => first | rfl | assumption | omega | ((first | refine ⟨?_, ?_⟩ | skip) <;> first | omega | (simp only [lN, hT, hl] <;> omega)) | (simp [elemsK, D.isVal, D.cells, D.closedL, D.closed, hT, hl]; first | done | omega)))
    | ((with_reducible apply s_appG); (case he => rfl); (case hV | hK | hr | hl => first | rfl | assumption | omega | ((first | refine ⟨?_, ?_⟩ | skip) <;> first | omega | (simp only [lN, hT, hl] <;> omega)) | (simp [elemsK, D.isVal, D.cells, D.closedL, D.closed, hT, hl]; first | done | omega)))
    | ((with_reducible apply s_app0); (case he => rfl); (case hK | hc | hr => first | rfl | assumption | omega | ((first | refine ⟨?_, ?_⟩ | skip) <;> first | omega | (simp only [lN, hT, hl] <;> omega)) | (simp [elemsK, D.isVal, D.cells, D.closedL, D.closed, hT, hl]; first | done | omega)))
    | ((with_reducible apply s_appF); (case he => rfl); (case hK | hc | hr | hx | hn => first | rfl | assumption | omega | ((first | refine ⟨?_, ?_⟩ | skip) <;> first | omega | (simp only [lN, hT, hl] <;> omega)) | (simp [elemsK, D.isVal, D.cells, D.closedL, D.closed, hT, hl]; first | done | omega)))
    | ((with_reducible apply s_bsl); (case he | hl | hc => first | rfl | assumption | omega | ((first | refine ⟨?_, ?_⟩ | skip) <;> first | omega | (simp only [lN, hT, hl] <;> omega)) | (simp [elemsK, D.isVal, D.cells, D.closedL, D.closed, hT, hl]; first | done | omega)))
    | with_reducible first | apply cd_dec | apply cd_eq | apply cd_ne | apply cd_split
    | ((with_reducible refine And.intro ?hw ?_); (case hw => first | omega | rfl | exact ⟨_, _, rfl⟩ | assumption | (simp only [lN, hT, hl] <;> omega)))
    | with_reducible intro _)
      all_goals try omega
      refine ⟨j + 1, by omega, by omega, ?_⟩
      rw [h5, h6, ints_app]
      simp [keepE, St.keep, hT, ints]
      try omega
    · have e : j = 16 := by omega
      have hr : restP m j = rest m := by rw [e]; exact restP_all m
      have hTd : (hexs16 m).take j = hexs16 m := List.take_of_length_le (by rw [hexs16_len]; omega)
      rw [hr] at hrp ⊢
      rw [hTd] at hil ⊢
      have t1 : (rest m : Int).tdiv 16 = ((rest m / 16 : Nat) : Int) := by rw [Int.tdiv_eq_ediv_of_nonneg (by omega)]; omega
      have t2 : (rest m : Int).tmod 16 = ((rest m % 16 : Nat) : Int) := by rw [Int.tmod_eq_emod_of_nonneg (by omega)]; omega
      have hA : ints (dgt m) = ints (hexs16 m) ++ [.int .i64 (rest m / 16 : Nat), .int .i64 (rest m % 16 : Nat)] := by unfold dgt; rw [ints_app]; rfl
      have he := erL_ints (dgt m)
      rw [hA] at he ⊢
      have hT : (hexs16 m).length = j := by rw [hexs16_len, e]
      clear h1 hd hA hil hTd hr
      have ha : rest m / 16 ≤ 15 := by omega
      have hw : IntKind.i64.wrap ((rest m / 16 : Nat) : Int) = ((rest m / 16 : Nat) : Int) := w64 (by omega) (by omega)
      generalize rest m / 16 = a at *
      generalize rest m % 16 = b at *
      generalize rest m = c at *
      generalize hexs16 m = T at *
      generalize sumN m = S at *
      repeat' (first
    | with_reducible first | apply swp_seq | apply swp_reg | apply swp_regD | apply swp_block | apply swp_exit | apply swp_ret | apply swp_skip | apply swp_cd
    | simp only [go_sem, seval, P34, q34, t1, t2, hw]
    | simp (disch := omega) only [w64, w32, wu8, wu16, wu32, wu64]
    | ((with_reducible apply s_appT); (case he => rfl); (case hK | hc | hr | hV => first | rfl | assumption | omega | ((first | refine ⟨?_, ?_⟩ | skip) <;> first | omega | (simp only [lN, hT, hl] <;> omega)) | (simp [elemsK, D.isVal, D.cells, D.closedL, D.closed, hT, hl]; first | done | omega)))
    | ((with_reducible apply s_appG); (case he => rfl); (case hV | hK | hr | hl => first | rfl | assumption | omega | ((first | refine ⟨?_, ?_⟩ | skip) <;> first | omega | (simp only [lN, hT, hl] <;> omega)) | (simp [elemsK, D.isVal, D.cells, D.closedL, D.closed, hT, hl]; first | done | omega)))
    | ((with_reducible apply s_app0); (case he => rfl); (case hK | hc | hr => first | rfl | assumption | omega | ((first | refine ⟨?_, ?_⟩ | skip) <;> first | omega | (simp only [lN, hT, hl] <;> omega)) | (simp [elemsK, D.isVal, D.cells, D.closedL, D.closed, hT, hl]; first | done | omega)))
    | ((with_reducible apply s_appF); (case he => rfl); (case hK | hc | hr | hx | hn => first | rfl | assumption | omega | ((first | refine ⟨?_, ?_⟩ | skip) <;> first | omega | (simp only [lN, hT, hl] <;> omega)) | (simp [elemsK, D.isVal, D.cells, D.closedL, D.closed, hT, hl]; first | done | omega)))
    | ((with_reducible apply s_bsl); (case he | hl | hc => first | rfl | assumption | omega | ((first | refine ⟨?_, ?_⟩ | skip) <;> first | omega | (simp only [lN, hT, hl] <;> omega)) | (simp [elemsK, D.isVal, D.cells, D.closedL, D.closed, hT, hl]; first | done | omega)))
    | with_reducible first | apply cd_dec | apply cd_eq | apply cd_ne | apply cd_split
    | ((with_reducible refine And.intro ?hw ?_); (case hw => first | omega | rfl | exact ⟨_, _, rfl⟩ | assumption | (simp only [lN, hT, hl] <;> omega)))
    | with_reducible intro _)
      all_goals first
        | omega
        | (simp [D.closed, D.er, he]; done)
        | (rw [hw]; done)
end Go.Proofs.YtgjkhlnpplajjaaDoor
end
section
set_option maxRecDepth 100000
set_option linter.unusedSimpArgs false
set_option linter.unusedVariables false
namespace Go.Proofs.YtgjkhlnpplajjaaDoor
open Go GoV Go.RowKit
theorem closed_strs : ∀ l : List (List UInt8), D.closedL (strs l) = true
  | [] => rfl
  | a :: l => by simp only [strs, List.map_cons, D.closedL, D.closed, Bool.true_and]; exact closed_strs l
def outK (s : List UInt8) (N i : Nat) : List (List UInt8) := keys s i ++ List.replicate (N - i) []
theorem outK_len {s : List UInt8} {N i : Nat} (h : i ≤ N) : (outK s N i).length = N := by simp [outK, keys_len]; omega
theorem outK_end (s : List UInt8) (N : Nat) : outK s N N = keys s N := by simp [outK]
theorem outK_set {s : List UInt8} {N i : Nat} (h : i < N) : (strs (outK s N i)).set i (.str (key s i)) = strs (outK s N (i + 1)) := by
  have h1 : N - i = (N - (i + 1)) + 1 := by omega
  have h2 : (strs (keys s i)).length = i := by rw [strs_len, keys_len]
  unfold outK
  rw [h1, List.replicate_succ, strs_app, strs_app, List.set_append_right _ _ (by omega), h2, Nat.sub_self]
  have : strs (keys s (i + 1)) = strs (keys s i) ++ [.str (key s i)] := by simp [keys, List.range_succ]
  rw [this]
  simp
theorem zeros_strs : ∀ N : Nat, zeros [.str []] N = strs (List.replicate N [])
  | 0 => rfl
  | N + 1 => by simp [zeros, zeros_strs N, List.replicate_succ]
theorem chunk_strs : ∀ l : List (List UInt8), chunk 1 l.length (strs l) = strs l
  | [] => rfl
  | a :: l => by
    simp only [List.length_cons, strs, List.map_cons, chunk]
    have := chunk_strs l
    simp only [strs] at this
    simp [this]
theorem elems_strs : ∀ l : List (List UInt8), elemsK 1 (strs l) = true
  | [] => rfl
  | a :: l => by
    have := elems_strs l
    simp only [strs, List.map_cons, elemsK] at this ⊢
    simpa [D.isVal, D.cells] using this
theorem shl_one {h : Nat} (hh : h ≤ 40) : IntKind.i64.wrap (1 * 2 ^ (min h 64)) = ((2 ^ h : Nat) : Int) := by
  have h2 : 2 ^ h ≤ 2 ^ 40 := Nat.pow_le_pow_right (by omega) hh
  have h3 : (2 : Nat) ^ 40 = 1099511627776 := by decide
  rw [Nat.min_eq_left (by omega), Int.one_mul]
  have h4 : (2 : Int) ^ h = ((2 ^ h : Nat) : Int) := by simp
  rw [h4]
  generalize 2 ^ h = N at *
  rw [w64 (by omega) (by omega)]
set_option maxHeartbeats 1000000 in
theorem keys_p (s : List UInt8) (h : Nat) (hs : s.length ≤ 300) (hh : h ≤ 8) : Pur M 26 [.str s, .int .i64 (h : Nat)] (.slice (strs (keys s (2 ^ h))) .no) := by
  refine ow26 rfl ?_
  rw [i26]
  unfold c26
  have hw := shl_one (h := h) (by omega)
  have hp : 2 ^ h ≤ 2 ^ 8 := Nat.pow_le_pow_right (by omega) hh
  have h4 : (2 : Nat) ^ 8 = 256 := by decide
  rw [h4] at hp
  generalize 2 ^ h = N at *
  have hz := zeros_strs N
  repeat' (first
    | with_reducible first | apply swp_seq | apply swp_reg | apply swp_regD | apply swp_block | apply swp_exit | apply swp_ret | apply swp_skip | apply swp_cd
    | simp only [go_sem, seval, P26, q26, hw, hz]
    | simp (disch := omega) only [w64, w32, wu8, wu16, wu32, wu64]
    | ((with_reducible apply s_mks); (case h0 | h1 | h2 => first | rfl | assumption | omega | ((first | refine ⟨?_, ?_⟩ | skip) <;> first | omega | (simp only [lN] <;> omega)) | (simp [elemsK, D.isVal, D.cells, D.closedL, D.closed]; first | done | omega)))
    | with_reducible first | apply cd_dec | apply cd_eq | apply cd_ne | apply cd_split
    | ((with_reducible refine And.intro ?hw ?_); (case hw => first | omega | rfl | exact ⟨_, _, rfl⟩ | assumption | (simp only [lN] <;> omega)))
    | with_reducible intro _)
  all_goals try omega
  refine swp_fam [0, 1, 2, 3, 5, 6] (fun i : Nat => ⟨[.str s, .int .i64 (h : Nat), .lit (.slice none 0 0), .sl 0 1 0 N N, .undef, .int .i64 (N : Nat), .int .i64 (i : Nat), .undef], [], ⟨[.cells (strs (outK s N i))], []⟩⟩)
    (fun i => i ≤ N) (fun i => N - i) 0 (by omega) ?_ ?_
  · simp [keepE, St.keep, outK, keys]
  · intro i hi
    have hol := outK_len (s := s) hi
    have hsl : (strs (outK s N i)).length = N := by rw [strs_len, hol]
    by_cases hlt : i < N
    · have h1 := key_p s i hs (by omega)
      have hset := outK_set (s := s) hlt
      have t1 : ((i : Nat) : Int).toNat = i := Int.toNat_natCast i
      generalize hO : strs (outK s N i) = O at *
      generalize hO' : strs (outK s N (i + 1)) = O' at *
      generalize hk : key s i = kk at *
      repeat' (first
    | with_reducible first | apply swp_seq | apply swp_reg | apply swp_regD | apply swp_block | apply swp_exit | apply swp_ret | apply swp_skip | apply swp_cd
    | simp only [go_sem, seval, P26, q26, t1, hset]
    | simp (disch := omega) only [w64, w32, wu8, wu16, wu32, wu64]
    | ((with_reducible refine o_call (h1) ?he ?hc ?_); (case he | hc => first | rfl | (simp [D.erL, D.er, D.closedL, D.closed, hsl]; done)))
    | ((with_reducible apply s_mks); (case h0 | h1 | h2 => first | rfl | assumption | omega | ((first | refine ⟨?_, ?_⟩ | skip) <;> first | omega | (simp only [lN, hsl] <;> omega)) | (simp [elemsK, D.isVal, D.cells, D.closedL, D.closed, hsl]; first | done | omega)))
    | with_reducible first | apply cd_dec | apply cd_eq | apply cd_ne | apply cd_split
    | ((with_reducible refine And.intro ?hw ?_); (case hw => first | omega | rfl | exact ⟨_, _, rfl⟩ | assumption | (simp only [lN, hsl] <;> omega)))
    | with_reducible intro _)
      all_goals try omega
      refine ⟨i + 1, by omega, by omega, ?_⟩
      rw [hO']
      simp [keepE, St.keep, -List.map_set, t1, hset]
    · have e : i = N := by omega
      subst e
      rw [outK_end] at *
      have hch := chunk_strs (keys s i)
      rw [keys_len] at hch
      have hel := elems_strs (keys s i)
      have hcl := closed_strs (keys s i)
      have her := erL_strs (keys s i)
      generalize hO : strs (keys s i) = O at *
      repeat' (first
    | with_reducible first | apply swp_seq | apply swp_reg | apply swp_regD | apply swp_block | apply swp_exit | apply swp_ret | apply swp_skip | apply swp_cd
    | simp only [go_sem, seval, P26, q26]
    | simp (disch := omega) only [w64, w32, wu8, wu16, wu32, wu64]
    | ((with_reducible apply s_mks); (case h0 | h1 | h2 => first | rfl | assumption | omega | ((first | refine ⟨?_, ?_⟩ | skip) <;> first | omega | (simp only [lN] <;> omega)) | (simp [elemsK, D.isVal, D.cells, D.closedL, D.closed]; first | done | omega)))
    | with_reducible first | apply cd_dec | apply cd_eq | apply cd_ne | apply cd_split
    | ((with_reducible refine And.intro ?hw ?_); (case hw => first | omega | rfl | exact ⟨_, _, rfl⟩ | assumption | (simp only [lN] <;> omega)))
    | with_reducible intro _)
      all_goals try omega
      refine ⟨_, weak_trans (weak_keep [2, 3]) (weak_frz 0 O rfl (Nat.le_refl 0) hcl), ?_⟩
      rw [her]
      simp [St.frz, keepE, D.fz, hch, D.closed, D.er, hcl, her, hel, hsl]
end Go.Proofs.YtgjkhlnpplajjaaDoor
end
section
set_option maxRecDepth 100000
namespace Go.Proofs.YtgjkhlnpplajjaaDoor
open Go GoV
/- 27 bogie.sign.above · 1 arguments · kept slots [0, 2, 3, 4, 6, 7] -/
noncomputable def E27 (n m : Nat) : Cfg := ⟨M, [0, 2, 3, 4, 6, 7], 19, n, m, []⟩
noncomputable def C27 : Cfg := E27 0 0
@[reducible] noncomputable def r27_0 : List RO := [
  ⟨.var 1, .mv, [(.con (.lit (.slice none 0 0)))], none⟩]
@[reducible] noncomputable def r27_1 : List RO := [
  ⟨.var 2, (.newb [(.lit (.slice none 0 0))]), [], none⟩]
@[reducible] noncomputable def r27_2 : List RO := [
  ⟨.loc 5, .mv, [.var 0], none⟩,
  ⟨.var 4, .call, [(.con (.fn (.func 53) [] [])), .loc 5, .con (.int .i64 2)], none⟩]
@[reducible] noncomputable def r27_3 : List RO := [
  ⟨.var 3, .mv, [.var 5], none⟩]
@[reducible] noncomputable def r27_4 : List (RO × Bool) := [
  (⟨.loc 8, .ld false 1, [.var 2], none⟩, true),
  (⟨.loc 9, .mv, [.var 3], none⟩, true),
  (⟨.loc 10, .ixaS 1, [.loc 9, .con (.int .i64 0)], none⟩, true),
  (⟨.loc 11, .ld false 1, [.loc 10], none⟩, true),
  (⟨.loc 12, .mv, [.var 3], none⟩, true),
  (⟨.loc 13, .ixaS 1, [.loc 12, .con (.int .i64 1)], none⟩, true),
  (⟨.loc 14, .ld false 1, [.loc 13], none⟩, true),
  (⟨.loc 15, .call, [(.con (.fn (.func 42) [] [])), .loc 11, .loc 14, .con (.bool false)], none⟩, true),
  (⟨.loc 16, .bsl 1, [.loc 15], none⟩, true)]
@[reducible] noncomputable def r27_5 : List RO := [
  ⟨.loc 17, .app 1 16 9, [.loc 8, .loc 16], none⟩,
  ⟨.none, .st 1, [.var 2, .loc 17], none⟩]
@[reducible] noncomputable def r27_6 : List RO := [
  ⟨.loc 18, .ld false 1, [.var 2], none⟩,
  ⟨.var 1, .mv, [.loc 18], none⟩]
theorem P27 : C27.M = M := by unfold C27 E27; rfl
theorem i27 {a0 : D} : St.init C27 [a0] ⟨[], []⟩ = ⟨[a0, .undef, .undef, .undef, .undef, .undef], [], ⟨[], []⟩⟩ := by unfold C27 E27; rfl
noncomputable def c27 : RC := (.seq (.reg r27_0) (.seq (.reg r27_1) (.seq (.seq (.reg r27_2) (.block 0 (.rangeF (.var 4) [(.var 5)] (.reg r27_3) (.block 1 (.regD r27_4 r27_5))))) (.seq (.reg r27_6) .ret))))
noncomputable def q27 : List RR := [(.slot (.var 1))]
theorem z27 {n m : Nat} : resCode (E27 n m) (Tryd.f27.body.getD .skip) = some c27 := by kernel_rfl
theorem zr27 {n m : Nat} : resRs (E27 n m) Tryd.f27.results.toList = some q27 := by kernel_rfl
theorem oT27 {args : List D} {d : D} (hl : args.length = 1) (h : TWp C27 0 0 c27 (fun e n m s => (match e with | .exit _ => False | _ => True) ∧ ∃ s1, (∀ ds, Weak { C27 with n0 := n, m0 := m, dfs := ds } s s1) ∧ rrsWp q27 s1 fun ds => D.closed (oneOrTup ds) = true ∧ (oneOrTup ds).er = d) (St.init C27 args ⟨[], []⟩)) : Pur M 27 args d :=
  pur_of_bodyT (C := C27) (fn := Tryd.f27) Tryd.func27 (by kernel_rfl) (by kernel_rfl) (rc := c27) z27 (rs := q27) zr27 (by kernel_rfl) (by rw [hl]; rfl) (by rw [hl]; decide) rfl rfl h
/- 30 bogie.sign.digits · 1 arguments · kept slots [0, 1, 2] -/
noncomputable def E30 (n m : Nat) : Cfg := ⟨M, [0, 1, 2], 4, n, m, []⟩
noncomputable def C30 : Cfg := E30 0 0
@[reducible] noncomputable def r30_0 : List RO := [
  ⟨.var 1, .box, [.var 0], none⟩,
  ⟨.var 2, .mv, [(.con (.lit .nilFunc))], none⟩]
@[reducible] noncomputable def r30_1 : List RO := [
  ⟨.loc 3, (.mkF (.func 56) 0), [.var 1], none⟩,
  ⟨.var 2, .mv, [.loc 3], none⟩]
theorem P30 : C30.M = M := by unfold C30 E30; rfl
theorem i30 {a0 : D} : St.init C30 [a0] ⟨[], []⟩ = ⟨[a0, .undef, .undef], [], ⟨[], []⟩⟩ := by unfold C30 E30; rfl
noncomputable def c30 : RC := (.seq (.reg r30_0) (.seq (.reg r30_1) .ret))
noncomputable def q30 : List RR := [(.slot (.var 2))]
theorem z30 {n m : Nat} : resCode (E30 n m) (Tryd.f30.body.getD .skip) = some c30 := by kernel_rfl
theorem zr30 {n m : Nat} : resRs (E30 n m) Tryd.f30.results.toList = some q30 := by kernel_rfl
theorem ow30 {args : List D} {d : D} (hl : args.length = 1) (h : SWp C30 c30 (fun e s => (match e with | .exit _ => False | _ => True) ∧ ∃ s1, Weak C30 s s1 ∧ rrsWp q30 s1 fun ds => D.closed (oneOrTup ds) = true ∧ (oneOrTup ds).er = d) (St.init C30 args ⟨[], []⟩)) : Pur M 30 args d :=
  pur_of_bodyW (C := C30) (fn := Tryd.f30) Tryd.func30 (by kernel_rfl) (by kernel_rfl) (rc := c30) z30 (rs := q30) zr30 (by kernel_rfl) (by rw [hl]; rfl) (by rw [hl]; decide) rfl rfl h
/- 56 bogie.sign.digits$1 · 2 arguments · kept slots [0, 1, 3, 4, 5, 6, 10, 11, 12, 26, 31] -/
noncomputable def E56 (n m : Nat) : Cfg := ⟨M, [0, 1, 3, 4, 5, 6, 10, 11, 12, 26, 31], 36, n, m, []⟩
@[reducible] noncomputable def r56_0 : List RO := [
  ⟨.var 2, .mv, [.con (.int .i64 0)], none⟩]
@[reducible] noncomputable def r56_1 : List RO := [
  ⟨.loc 7, .ld false 1, [.var 1], none⟩,
  ⟨.loc 8, .call, [(.con (.fn (.func 57) [] [])), .loc 7], none⟩,
  ⟨.var 3, .mv, [.loc 8], none⟩]
@[reducible] noncomputable def r56_2 : List RO := [
  ⟨.loc 9, .mv, [.var 3], none⟩,
  ⟨.var 6, .lenS, [.loc 9], none⟩,
  ⟨.var 7, .mv, [.con (.int .i64 0)], none⟩]
@[reducible] noncomputable def r56_3 : List RO := [
  ⟨.var 8, .bin .lss, [.var 7, .var 6], none⟩]
@[reducible] noncomputable def r56_4 : List RO := [
  ⟨.loc 13, .mv, [.var 7], none⟩,
  ⟨.var 4, .mv, [.loc 13], none⟩]
@[reducible] noncomputable def r56_5 : List RO := [
  ⟨.loc 14, .mv, [.var 3], none⟩,
  ⟨.loc 15, .mv, [.var 4], none⟩,
  ⟨.loc 16, .ixvS, [.loc 14, .loc 15], none⟩,
  ⟨.loc 17, .call, [(.con (.fn (.func 58) [] [])), (.con (.str [48, 49, 50, 51, 52, 53, 54, 55, 56, 57, 97, 98, 99, 100, 101, 102])), .loc 16], none⟩,
  ⟨.var 5, .mv, [.loc 17], none⟩]
@[reducible] noncomputable def r56_6 : List RO := [
  ⟨.loc 18, .mv, [.var 2], none⟩,
  ⟨.loc 19, .mv, [.var 5], none⟩,
  ⟨.loc 20, .bin .sub, [.con (.int .i64 15), .loc 19], none⟩,
  ⟨.loc 21, .bin .add, [.loc 18, .loc 20], none⟩,
  ⟨.var 2, .mv, [.loc 21], none⟩]
@[reducible] noncomputable def r56_7 : List RO := [
  ⟨.loc 22, .mv, [.var 0], none⟩,
  ⟨.loc 23, .mv, [.var 4], none⟩,
  ⟨.loc 24, .mv, [.var 5], none⟩,
  ⟨.loc 25, .call, [.loc 22, .loc 23, .loc 24], none⟩,
  ⟨.var 9, .un .not, [.loc 25], none⟩]
@[reducible] noncomputable def r56_8 : List RO := [
  ⟨.loc 27, .bin .add, [.var 7, .con (.int .i64 1)], none⟩,
  ⟨.var 7, .mv, [.loc 27], none⟩]
@[reducible] noncomputable def r56_9 : List RO := [
  ⟨.loc 28, .mv, [.var 0], none⟩,
  ⟨.loc 29, .mv, [.var 2], none⟩,
  ⟨.loc 30, .bin .quo, [.loc 29, .con (.int .i64 16)], none⟩,
  ⟨.var 10, .call, [.loc 28, .con (.int .i64 16), .loc 30], none⟩]
@[reducible] noncomputable def r56_10 : List RO := [
  ⟨.loc 32, .mv, [.var 0], none⟩,
  ⟨.loc 33, .mv, [.var 2], none⟩,
  ⟨.loc 34, .bin .rem, [.loc 33, .con (.int .i64 16)], none⟩,
  ⟨.loc 35, .call, [.loc 32, .con (.int .i64 17), .loc 34], none⟩]
theorem pe56 {n m : Nat} : (E56 n m).M = M := by unfold E56; rfl
theorem ie56 {n m : Nat} {hp : Hp} {a0 a1 : D} : St.init (E56 n m) [a0, a1] hp = ⟨[a0, a1, .undef, .undef, .undef, .undef, .undef, .undef, .undef, .undef, .undef], [], hp⟩ := by unfold E56; rfl
noncomputable def c56 : RC := (.seq (.reg r56_0) (.seq (.reg r56_1) (.seq (.seq (.reg r56_2) (.block 0 (.loop (.seq (.reg r56_3) (.seq (.cond (.var 8) .skip (.exit 0)) (.seq (.block 1 (.seq (.reg r56_4) (.seq (.reg r56_5) (.seq (.reg r56_6) (.seq (.reg r56_7) (.cond (.var 9) .ret .skip)))))) (.reg r56_8))))))) (.seq (.reg r56_9) (.cond (.var 10) (.reg r56_10) .skip)))))
theorem z56 {n m : Nat} : resCode (E56 n m) (Tryd.f56.body.getD .skip) = some c56 := by kernel_rfl
theorem oi56 {caps : List D} {xs : List (List D)} (hl : caps.length + 1 = 2) (h : ∀ (b : World → Gh → Prop) (hpk : Nat → Hp) (l : Nat), (∀ k x, xs[k]? = some x → YOk (M.with b) l x (hpk k) (hpk (k + 1))) → SWp ((E56 0 0).atB b (hpk 0)) c56 (fun e s => (match e with | .exit _ => False | _ => True) ∧ s.hp = hpk xs.length) (St.init (E56 0 0) (yldD l :: caps) (hpk 0))) : Iter M 56 caps xs :=
  iter_of_body (C := E56 0 0) (fn := Tryd.f56) Tryd.func56 (by kernel_rfl) (by kernel_rfl) (rc := c56) z56 (by kernel_rfl) (by kernel_rfl) (by rw [hl]; rfl) (by rw [hl]; decide) h
/- 53 slices.Chunk[[]string,string] · 2 arguments · kept slots [0, 1, 2, 3, 4, 6] -/
noncomputable def E53 (n m : Nat) : Cfg := ⟨M, [0, 1, 2, 3, 4, 6], 9, n, m, []⟩
noncomputable def C53 : Cfg := E53 0 0
@[reducible] noncomputable def r53_0 : List RO := [
  ⟨.var 2, .box, [.var 0], none⟩,
  ⟨.var 3, .box, [.var 1], none⟩,
  ⟨.var 4, .mv, [(.con (.lit .nilFunc))], none⟩]
@[reducible] noncomputable def r53_1 : List RO := [
  ⟨.loc 5, .ld false 1, [.var 3], none⟩,
  ⟨.var 5, .bin .lss, [.loc 5, .con (.int .i64 1)], none⟩]
@[reducible] noncomputable def r53_2 : List RO := [
  ⟨.loc 8, (.mkF (.func 71) 0), [.var 2, .var 3], none⟩,
  ⟨.var 4, .mv, [.loc 8], none⟩]
theorem P53 : C53.M = M := by unfold C53 E53; rfl
theorem i53 {a0 a1 : D} : St.init C53 [a0, a1] ⟨[], []⟩ = ⟨[a0, a1, .undef, .undef, .undef, .undef], [], ⟨[], []⟩⟩ := by unfold C53 E53; rfl
noncomputable def c53 : RC := (.seq (.reg r53_0) (.seq (.seq (.reg r53_1) (.cond (.var 5) .bad .skip)) (.seq (.reg r53_2) .ret)))
noncomputable def q53 : List RR := [(.slot (.var 4))]
theorem z53 {n m : Nat} : resCode (E53 n m) (Tryd.f53.body.getD .skip) = some c53 := by kernel_rfl
theorem zr53 {n m : Nat} : resRs (E53 n m) Tryd.f53.results.toList = some q53 := by kernel_rfl
theorem ow53 {args : List D} {d : D} (hl : args.length = 2) (h : SWp C53 c53 (fun e s => (match e with | .exit _ => False | _ => True) ∧ ∃ s1, Weak C53 s s1 ∧ rrsWp q53 s1 fun ds => D.closed (oneOrTup ds) = true ∧ (oneOrTup ds).er = d) (St.init C53 args ⟨[], []⟩)) : Pur M 53 args d :=
  pur_of_bodyW (C := C53) (fn := Tryd.f53) Tryd.func53 (by kernel_rfl) (by kernel_rfl) (rc := c53) z53 (rs := q53) zr53 (by kernel_rfl) (by rw [hl]; rfl) (by rw [hl]; decide) rfl rfl h
/- 71 slices.Chunk[[]string,string]$1 · 3 arguments · kept slots [0, 1, 2, 4, 5, 9, 30] -/
noncomputable def E71 (n m : Nat) : Cfg := ⟨M, [0, 1, 2, 4, 5, 9, 30], 31, n, m, []⟩
@[reducible] noncomputable def r71_0 : List RO := [
  ⟨.var 3, .mv, [.con (.int .i64 0)], none⟩]
@[reducible] noncomputable def r71_1 : List RO := [
  ⟨.loc 6, .mv, [.var 3], none⟩,
  ⟨.loc 7, .ld false 1, [.var 1], none⟩,
  ⟨.loc 8, .lenL, [.loc 7], none⟩,
  ⟨.var 5, .bin .lss, [.loc 6, .loc 8], none⟩]
@[reducible] noncomputable def r71_2 : List (RO × Bool) := [
  (⟨.loc 13, .ld false 1, [.var 2], none⟩, true),
  (⟨.loc 14, .ld false 1, [.var 1], none⟩, true),
  (⟨.loc 15, .mv, [.var 3], none⟩, true),
  (⟨.loc 16, .slcL 1 true false, [.loc 14, .loc 15], none⟩, true),
  (⟨.loc 17, .lenL, [.loc 16], none⟩, true)]
@[reducible] noncomputable def r71_3 : List RO := [
  ⟨.loc 18, .minI, [.loc 13, .loc 17], none⟩,
  ⟨.var 4, .mv, [.loc 18], none⟩]
@[reducible] noncomputable def r71_4 : List RO := [
  ⟨.loc 19, .mv, [.var 0], none⟩,
  ⟨.loc 20, .ld false 1, [.var 1], none⟩,
  ⟨.loc 21, .mv, [.var 3], none⟩,
  ⟨.loc 22, .mv, [.var 3], none⟩,
  ⟨.loc 23, .mv, [.var 4], none⟩,
  ⟨.loc 24, .bin .add, [.loc 22, .loc 23], none⟩,
  ⟨.loc 25, .mv, [.var 3], none⟩,
  ⟨.loc 26, .mv, [.var 4], none⟩,
  ⟨.loc 27, .bin .add, [.loc 25, .loc 26], none⟩,
  ⟨.loc 28, .slc3 1, [.loc 20, .loc 21, .loc 24, .loc 27], none⟩,
  ⟨.loc 29, .call, [.loc 19, .loc 28], none⟩,
  ⟨.var 6, .un .not, [.loc 29], none⟩]
@[reducible] noncomputable def r71_5 : List RO := [
  ⟨.loc 10, .mv, [.var 3], none⟩,
  ⟨.loc 11, .ld false 1, [.var 2], none⟩,
  ⟨.loc 12, .bin .add, [.loc 10, .loc 11], none⟩,
  ⟨.var 3, .mv, [.loc 12], none⟩]
theorem pe71 {n m : Nat} : (E71 n m).M = M := by unfold E71; rfl
theorem ie71 {n m : Nat} {hp : Hp} {a0 a1 a2 : D} : St.init (E71 n m) [a0, a1, a2] hp = ⟨[a0, a1, a2, .undef, .undef, .undef, .undef], [], hp⟩ := by unfold E71; rfl
noncomputable def c71 : RC := (.seq (.reg r71_0) (.block 0 (.loop (.seq (.seq (.reg r71_1) (.cond (.var 5) .skip (.exit 0))) (.seq (.block 1 (.seq (.regD r71_2 r71_3) (.seq (.reg r71_4) (.cond (.var 6) .ret .skip)))) (.reg r71_5))))))
theorem z71 {n m : Nat} : resCode (E71 n m) (Tryd.f71.body.getD .skip) = some c71 := by kernel_rfl
theorem oi71 {caps : List D} {xs : List (List D)} (hl : caps.length + 1 = 3) (h : ∀ (b : World → Gh → Prop) (hpk : Nat → Hp) (l : Nat), (∀ k x, xs[k]? = some x → YOk (M.with b) l x (hpk k) (hpk (k + 1))) → SWp ((E71 0 0).atB b (hpk 0)) c71 (fun e s => (match e with | .exit _ => False | _ => True) ∧ s.hp = hpk xs.length) (St.init (E71 0 0) (yldD l :: caps) (hpk 0))) : Iter M 71 caps xs :=
  iter_of_body (C := E71 0 0) (fn := Tryd.f71) Tryd.func71 (by kernel_rfl) (by kernel_rfl) (rc := c71) z71 (by kernel_rfl) (by kernel_rfl) (by rw [hl]; rfl) (by rw [hl]; decide) h
/- 38 bogie.sign.Verify$1 · 1 arguments · kept slots [0, 2] -/
noncomputable def E38 (n m : Nat) : Cfg := ⟨M, [0, 2], 5, n, m, []⟩
noncomputable def C38 : Cfg := E38 0 0
@[reducible] noncomputable def r38_0 : List RO := [
  ⟨.var 1, .mv, [.con (.bool false)], none⟩]
@[reducible] noncomputable def r38_1 : List RO := [
  ⟨.loc 3, .mv, [.var 0], none⟩,
  ⟨.loc 4, .call, [(.con (.fn (.func 39) [] [])), .loc 3, (.con (.fn (.func 40) [] []))], none⟩,
  ⟨.var 1, .mv, [.loc 4], none⟩]
theorem P38 : C38.M = M := by unfold C38 E38; rfl
theorem i38 {a0 : D} : St.init C38 [a0] ⟨[], []⟩ = ⟨[a0, .undef], [], ⟨[], []⟩⟩ := by unfold C38 E38; rfl
noncomputable def c38 : RC := (.seq (.reg r38_0) (.seq (.reg r38_1) .ret))
noncomputable def q38 : List RR := [(.slot (.var 1))]
theorem z38 {n m : Nat} : resCode (E38 n m) (Tryd.f38.body.getD .skip) = some c38 := by kernel_rfl
theorem zr38 {n m : Nat} : resRs (E38 n m) Tryd.f38.results.toList = some q38 := by kernel_rfl
theorem ok38 {args : List D} {d : D} (hl : args.length = 1) (h : SWp C38 c38 (fun e s => (match e with | .exit _ => False | _ => True) ∧ rrsWp q38 s fun ds => D.closed (oneOrTup ds) = true ∧ (oneOrTup ds).er = d) (St.init C38 args ⟨[], []⟩)) : Pur M 38 args d :=
  pur_of_body (C := C38) (fn := Tryd.f38) Tryd.func38 (by kernel_rfl) (by kernel_rfl) (rc := c38) z38 (rs := q38) zr38 (by kernel_rfl) (by rw [hl]; rfl) (by rw [hl]; decide) rfl rfl h
/- 39 slices.ContainsFunc[[]string,string] · 2 arguments · kept slots [0, 1, 4] -/
noncomputable def E39 (n m : Nat) : Cfg := ⟨M, [0, 1, 4], 9, n, m, []⟩
noncomputable def C39 : Cfg := E39 0 0
@[reducible] noncomputable def r39_0 : List RO := [
  ⟨.var 2, .mv, [.con (.bool false)], none⟩]
@[reducible] noncomputable def r39_1 : List RO := [
  ⟨.loc 5, .mv, [.var 0], none⟩,
  ⟨.loc 6, .mv, [.var 1], none⟩,
  ⟨.loc 7, .call, [(.con (.fn (.func 61) [] [])), .loc 5, .loc 6], none⟩,
  ⟨.loc 8, .bin .geq, [.loc 7, .con (.int .i64 0)], none⟩,
  ⟨.var 2, .mv, [.loc 8], none⟩]
theorem P39 : C39.M = M := by unfold C39 E39; rfl
theorem i39 {a0 a1 : D} : St.init C39 [a0, a1] ⟨[], []⟩ = ⟨[a0, a1, .undef], [], ⟨[], []⟩⟩ := by unfold C39 E39; rfl
noncomputable def c39 : RC := (.seq (.reg r39_0) (.seq (.reg r39_1) .ret))
noncomputable def q39 : List RR := [(.slot (.var 2))]
theorem z39 {n m : Nat} : resCode (E39 n m) (Tryd.f39.body.getD .skip) = some c39 := by kernel_rfl
theorem zr39 {n m : Nat} : resRs (E39 n m) Tryd.f39.results.toList = some q39 := by kernel_rfl
theorem ok39 {args : List D} {d : D} (hl : args.length = 2) (h : SWp C39 c39 (fun e s => (match e with | .exit _ => False | _ => True) ∧ rrsWp q39 s fun ds => D.closed (oneOrTup ds) = true ∧ (oneOrTup ds).er = d) (St.init C39 args ⟨[], []⟩)) : Pur M 39 args d :=
  pur_of_body (C := C39) (fn := Tryd.f39) Tryd.func39 (by kernel_rfl) (by kernel_rfl) (rc := c39) z39 (rs := q39) zr39 (by kernel_rfl) (by rw [hl]; rfl) (by rw [hl]; decide) rfl rfl h
/- 40 bogie.sign.Verify$1$1 · 1 arguments · kept slots [0, 2] -/
noncomputable def E40 (n m : Nat) : Cfg := ⟨M, [0, 2], 6, n, m, []⟩
noncomputable def C40 : Cfg := E40 0 0
@[reducible] noncomputable def r40_0 : List RO := [
  ⟨.var 1, .mv, [.con (.bool false)], none⟩]
@[reducible] noncomputable def r40_1 : List RO := [
  ⟨.loc 3, .mv, [.var 0], none⟩,
  ⟨.loc 4, .call, [(.con (.fn (.func 20) [] [])), .loc 3], none⟩,
  ⟨.loc 5, .un .not, [.loc 4], none⟩,
  ⟨.var 1, .mv, [.loc 5], none⟩]
theorem P40 : C40.M = M := by unfold C40 E40; rfl
theorem i40 {a0 : D} : St.init C40 [a0] ⟨[], []⟩ = ⟨[a0, .undef], [], ⟨[], []⟩⟩ := by unfold C40 E40; rfl
noncomputable def c40 : RC := (.seq (.reg r40_0) (.seq (.reg r40_1) .ret))
noncomputable def q40 : List RR := [(.slot (.var 1))]
theorem z40 {n m : Nat} : resCode (E40 n m) (Tryd.f40.body.getD .skip) = some c40 := by kernel_rfl
theorem zr40 {n m : Nat} : resRs (E40 n m) Tryd.f40.results.toList = some q40 := by kernel_rfl
theorem ok40 {args : List D} {d : D} (hl : args.length = 1) (h : SWp C40 c40 (fun e s => (match e with | .exit _ => False | _ => True) ∧ rrsWp q40 s fun ds => D.closed (oneOrTup ds) = true ∧ (oneOrTup ds).er = d) (St.init C40 args ⟨[], []⟩)) : Pur M 40 args d :=
  pur_of_body (C := C40) (fn := Tryd.f40) Tryd.func40 (by kernel_rfl) (by kernel_rfl) (rc := c40) z40 (rs := q40) zr40 (by kernel_rfl) (by rw [hl]; rfl) (by rw [hl]; decide) rfl rfl h
/- 61 slices.IndexFunc[[]string,string] · 2 arguments · kept slots [0, 1, 4, 5, 7, 8, 9, 16] -/
noncomputable def E61 (n m : Nat) : Cfg := ⟨M, [0, 1, 4, 5, 7, 8, 9, 16], 19, n, m, []⟩
noncomputable def C61 : Cfg := E61 0 0
@[reducible] noncomputable def r61_0 : List RO := [
  ⟨.var 2, .mv, [.con (.int .i64 0)], none⟩]
@[reducible] noncomputable def r61_1 : List RO := [
  ⟨.loc 6, .mv, [.var 0], none⟩,
  ⟨.var 4, .lenL, [.loc 6], none⟩,
  ⟨.var 5, .mv, [.con (.int .i64 0)], none⟩]
@[reducible] noncomputable def r61_2 : List RO := [
  ⟨.var 6, .bin .lss, [.var 5, .var 4], none⟩]
@[reducible] noncomputable def r61_3 : List RO := [
  ⟨.loc 10, .mv, [.var 5], none⟩,
  ⟨.var 3, .mv, [.loc 10], none⟩]
@[reducible] noncomputable def r61_4 : List RO := [
  ⟨.loc 11, .mv, [.var 1], none⟩,
  ⟨.loc 12, .mv, [.var 0], none⟩,
  ⟨.loc 13, .mv, [.var 3], none⟩,
  ⟨.loc 14, .ixaS 1, [.loc 12, .loc 13], none⟩,
  ⟨.loc 15, .ld false 1, [.loc 14], none⟩,
  ⟨.var 7, .call, [.loc 11, .loc 15], none⟩]
@[reducible] noncomputable def r61_5 : List RO := [
  ⟨.loc 17, .mv, [.var 3], none⟩,
  ⟨.var 2, .mv, [.loc 17], none⟩]
@[reducible] noncomputable def r61_6 : List RO := [
  ⟨.loc 18, .bin .add, [.var 5, .con (.int .i64 1)], none⟩,
  ⟨.var 5, .mv, [.loc 18], none⟩]
@[reducible] noncomputable def r61_7 : List RO := [
  ⟨.var 2, .mv, [(.con (.int .i64 (-1)))], none⟩]
theorem P61 : C61.M = M := by unfold C61 E61; rfl
theorem i61 {a0 a1 : D} : St.init C61 [a0, a1] ⟨[], []⟩ = ⟨[a0, a1, .undef, .undef, .undef, .undef, .undef, .undef], [], ⟨[], []⟩⟩ := by unfold C61 E61; rfl
noncomputable def c61 : RC := (.seq (.reg r61_0) (.seq (.seq (.reg r61_1) (.block 0 (.loop (.seq (.reg r61_2) (.seq (.cond (.var 6) .skip (.exit 0)) (.seq (.block 1 (.seq (.reg r61_3) (.seq (.reg r61_4) (.cond (.var 7) (.seq (.reg r61_5) .ret) .skip)))) (.reg r61_6))))))) (.seq (.reg r61_7) .ret)))
noncomputable def q61 : List RR := [(.slot (.var 2))]
theorem z61 {n m : Nat} : resCode (E61 n m) (Tryd.f61.body.getD .skip) = some c61 := by kernel_rfl
theorem zr61 {n m : Nat} : resRs (E61 n m) Tryd.f61.results.toList = some q61 := by kernel_rfl
theorem ok61 {args : List D} {d : D} (hl : args.length = 2) (h : SWp C61 c61 (fun e s => (match e with | .exit _ => False | _ => True) ∧ rrsWp q61 s fun ds => D.closed (oneOrTup ds) = true ∧ (oneOrTup ds).er = d) (St.init C61 args ⟨[], []⟩)) : Pur M 61 args d :=
  pur_of_body (C := C61) (fn := Tryd.f61) Tryd.func61 (by kernel_rfl) (by kernel_rfl) (rc := c61) z61 (rs := q61) zr61 (by kernel_rfl) (by rw [hl]; rfl) (by rw [hl]; decide) rfl rfl h
/- 14 bogie.bogieref02.Public · 2 arguments · kept slots [0, 1, 4, 5, 11] -/
/- 16 bogie.bogieref02.Sign · 4 arguments · kept slots [0, 1, 2, 3, 8, 9, 10, 11, 12, 28, 35] -/
/- 19 bogie.bogieref02.Verify · 3 arguments · kept slots [0, 1, 2, 5, 6, 7, 8, 9, 10, 11, 12, 13, 37, 41, 50, 69, 78, 87] -/
/- 17 bogie.bogieref02.Same · 2 arguments · kept slots [0, 1, 2, 3, 4] -/
noncomputable def E17 (n m : Nat) : Cfg := ⟨M, [0, 1, 2, 3, 4], 24, n, m, []⟩
noncomputable def C17 : Cfg := E17 0 0
@[reducible] noncomputable def r17_0 : List RO := [
  ⟨.var 2, .box, [.var 0], none⟩,
  ⟨.var 3, .box, [.var 1], none⟩,
  ⟨.var 4, .mv, [.con (.bool false)], none⟩]
@[reducible] noncomputable def r17_1 : List RO := [
  ⟨.loc 5, .fld 0, [.var 2], none⟩,
  ⟨.loc 6, .ld false 1, [.loc 5], none⟩,
  ⟨.loc 7, .fld 0, [.var 3], none⟩,
  ⟨.loc 8, .ld false 1, [.loc 7], none⟩,
  ⟨.loc 9, .bin .eql, [.loc 6, .loc 8], none⟩,
  ⟨.loc 10, .mv, [.loc 9], none⟩,
  ⟨.loc 11, .fld 1, [.var 2], (some (.loc 10, true))⟩,
  ⟨.loc 12, .ld false 1, [.loc 11], (some (.loc 10, true))⟩,
  ⟨.loc 13, .fld 1, [.var 3], (some (.loc 10, true))⟩,
  ⟨.loc 14, .ld false 1, [.loc 13], (some (.loc 10, true))⟩,
  ⟨.loc 15, .call, [(.con (.fn (.func 21) [] [])), .loc 12, .loc 14], (some (.loc 10, true))⟩,
  ⟨.loc 16, .pick, [.loc 10, .loc 15, .con (.bool false)], none⟩,
  ⟨.loc 17, .mv, [.loc 16], none⟩,
  ⟨.loc 18, .fld 2, [.var 2], (some (.loc 17, true))⟩,
  ⟨.loc 19, .ld false 1, [.loc 18], (some (.loc 17, true))⟩,
  ⟨.loc 20, .fld 2, [.var 3], (some (.loc 17, true))⟩,
  ⟨.loc 21, .ld false 1, [.loc 20], (some (.loc 17, true))⟩,
  ⟨.loc 22, .call, [(.con (.fn (.func 21) [] [])), .loc 19, .loc 21], (some (.loc 17, true))⟩,
  ⟨.loc 23, .pick, [.loc 17, .loc 22, .con (.bool false)], none⟩,
  ⟨.var 4, .mv, [.loc 23], none⟩]
theorem P17 : C17.M = M := by unfold C17 E17; rfl
theorem i17 {a0 a1 : D} : St.init C17 [a0, a1] ⟨[], []⟩ = ⟨[a0, a1, .undef, .undef, .undef], [], ⟨[], []⟩⟩ := by unfold C17 E17; rfl
noncomputable def c17 : RC := (.seq (.reg r17_0) (.seq (.reg r17_1) .ret))
noncomputable def q17 : List RR := [(.slot (.var 4))]
theorem z17 {n m : Nat} : resCode (E17 n m) (Tryd.f17.body.getD .skip) = some c17 := by kernel_rfl
theorem zr17 {n m : Nat} : resRs (E17 n m) Tryd.f17.results.toList = some q17 := by kernel_rfl
theorem ok17 {args : List D} {d : D} (hl : args.length = 2) (h : SWp C17 c17 (fun e s => (match e with | .exit _ => False | _ => True) ∧ rrsWp q17 s fun ds => D.closed (oneOrTup ds) = true ∧ (oneOrTup ds).er = d) (St.init C17 args ⟨[], []⟩)) : Pur M 17 args d :=
  pur_of_body (C := C17) (fn := Tryd.f17) Tryd.func17 (by kernel_rfl) (by kernel_rfl) (rc := c17) z17 (rs := q17) zr17 (by kernel_rfl) (by rw [hl]; rfl) (by rw [hl]; decide) rfl rfl h
/- 12 bogie.bogieref02.Few · 1 arguments · kept slots [0, 1, 2, 3, 4, 13, 22, 31, 40] -/
/- 11 bogie.bogielaw02.short · 1 arguments · kept slots [0, 2, 3, 7, 15] -/
noncomputable def E11 (n m : Nat) : Cfg := ⟨M, [0, 2, 3, 7, 15], 16, n, m, []⟩
noncomputable def C11 : Cfg := E11 0 0
@[reducible] noncomputable def r11_0 : List RO := [
  ⟨.var 1, .mv, [.con (.bool false)], none⟩]
@[reducible] noncomputable def r11_1 : List RO := [
  ⟨.var 2, .mv, [.con (.int .i64 0)], none⟩]
@[reducible] noncomputable def r11_2 : List RO := [
  ⟨.loc 4, .mv, [.var 2], none⟩,
  ⟨.loc 5, .mv, [.var 0], none⟩,
  ⟨.loc 6, .lenL, [.loc 5], none⟩,
  ⟨.var 3, .bin .lss, [.loc 4, .loc 6], none⟩]
@[reducible] noncomputable def r11_3 : List RO := [
  ⟨.loc 10, .mv, [.var 0], none⟩,
  ⟨.loc 11, .mv, [.var 2], none⟩,
  ⟨.loc 12, .ixaS 1, [.loc 10, .loc 11], none⟩,
  ⟨.loc 13, .ld false 1, [.loc 12], none⟩,
  ⟨.loc 14, .lenS, [.loc 13], none⟩,
  ⟨.var 4, .bin .gtr, [.loc 14, .con (.int .i64 300)], none⟩]
@[reducible] noncomputable def r11_4 : List RO := [
  ⟨.var 1, .mv, [.con (.bool false)], none⟩]
@[reducible] noncomputable def r11_5 : List RO := [
  ⟨.loc 8, .mv, [.var 2], none⟩,
  ⟨.loc 9, .bin .add, [.loc 8, .con (.int .i64 1)], none⟩,
  ⟨.var 2, .mv, [.loc 9], none⟩]
@[reducible] noncomputable def r11_6 : List RO := [
  ⟨.var 1, .mv, [.con (.bool true)], none⟩]
theorem P11 : C11.M = M := by unfold C11 E11; rfl
theorem i11 {a0 : D} : St.init C11 [a0] ⟨[], []⟩ = ⟨[a0, .undef, .undef, .undef, .undef], [], ⟨[], []⟩⟩ := by unfold C11 E11; rfl
noncomputable def c11 : RC := (.seq (.reg r11_0) (.seq (.seq (.reg r11_1) (.block 0 (.loop (.seq (.seq (.reg r11_2) (.cond (.var 3) .skip (.exit 0))) (.seq (.block 1 (.seq (.reg r11_3) (.cond (.var 4) (.seq (.reg r11_4) .ret) .skip))) (.reg r11_5)))))) (.seq (.reg r11_6) .ret)))
noncomputable def q11 : List RR := [(.slot (.var 1))]
theorem z11 {n m : Nat} : resCode (E11 n m) (Tryd.f11.body.getD .skip) = some c11 := by kernel_rfl
theorem zr11 {n m : Nat} : resRs (E11 n m) Tryd.f11.results.toList = some q11 := by kernel_rfl
theorem ok11 {args : List D} {d : D} (hl : args.length = 1) (h : SWp C11 c11 (fun e s => (match e with | .exit _ => False | _ => True) ∧ rrsWp q11 s fun ds => D.closed (oneOrTup ds) = true ∧ (oneOrTup ds).er = d) (St.init C11 args ⟨[], []⟩)) : Pur M 11 args d :=
  pur_of_body (C := C11) (fn := Tryd.f11) Tryd.func11 (by kernel_rfl) (by kernel_rfl) (rc := c11) z11 (rs := q11) zr11 (by kernel_rfl) (by rw [hl]; rfl) (by rw [hl]; decide) rfl rfl h
/- 49 bogie.bogieref02.chained · 2 arguments · kept slots [0, 1, 4, 5, 6, 11] -/
noncomputable def E49 (n m : Nat) : Cfg := ⟨M, [0, 1, 4, 5, 6, 11], 21, n, m, []⟩
noncomputable def C49 : Cfg := E49 0 0
@[reducible] noncomputable def r49_0 : List RO := [
  ⟨.var 2, .mv, [(.con (.lit (.slice none 0 0)))], none⟩]
@[reducible] noncomputable def r49_1 : List RO := [
  ⟨.loc 7, .mv, [.var 0], none⟩,
  ⟨.loc 8, .bsl 1, [.loc 7], none⟩,
  ⟨.var 3, .mv, [.loc 8], none⟩]
@[reducible] noncomputable def r49_2 : List RO := [
  ⟨.var 4, .mv, [.con (.int .i64 0)], none⟩]
@[reducible] noncomputable def r49_3 : List RO := [
  ⟨.loc 9, .mv, [.var 4], none⟩,
  ⟨.loc 10, .mv, [.var 1], none⟩,
  ⟨.var 5, .bin .lss, [.loc 9, .loc 10], none⟩]
@[reducible] noncomputable def r49_4 : List RO := [
  ⟨.loc 14, .mv, [.var 0], none⟩,
  ⟨.loc 15, .call, [(.con (.fn (.func 25) [] [])), .loc 14], none⟩,
  ⟨.var 0, .mv, [.loc 15], none⟩]
@[reducible] noncomputable def r49_5 : List RO := [
  ⟨.loc 16, .mv, [.var 3], none⟩,
  ⟨.loc 17, .mv, [.var 0], none⟩,
  ⟨.loc 18, .bsl 1, [.loc 17], none⟩,
  ⟨.loc 19, .app 1 16 9, [.loc 16, .loc 18], none⟩,
  ⟨.var 3, .mv, [.loc 19], none⟩]
@[reducible] noncomputable def r49_6 : List RO := [
  ⟨.loc 12, .mv, [.var 4], none⟩,
  ⟨.loc 13, .bin .add, [.loc 12, .con (.int .i64 1)], none⟩,
  ⟨.var 4, .mv, [.loc 13], none⟩]
@[reducible] noncomputable def r49_7 : List RO := [
  ⟨.loc 20, .mv, [.var 3], none⟩,
  ⟨.var 2, .mv, [.loc 20], none⟩]
theorem P49 : C49.M = M := by unfold C49 E49; rfl
theorem i49 {a0 a1 : D} : St.init C49 [a0, a1] ⟨[], []⟩ = ⟨[a0, a1, .undef, .undef, .undef, .undef], [], ⟨[], []⟩⟩ := by unfold C49 E49; rfl
noncomputable def c49 : RC := (.seq (.reg r49_0) (.seq (.reg r49_1) (.seq (.seq (.reg r49_2) (.block 0 (.loop (.seq (.seq (.reg r49_3) (.cond (.var 5) .skip (.exit 0))) (.seq (.block 1 (.seq (.reg r49_4) (.reg r49_5))) (.reg r49_6)))))) (.seq (.reg r49_7) .ret))))
noncomputable def q49 : List RR := [(.slot (.var 2))]
theorem z49 {n m : Nat} : resCode (E49 n m) (Tryd.f49.body.getD .skip) = some c49 := by kernel_rfl
theorem zr49 {n m : Nat} : resRs (E49 n m) Tryd.f49.results.toList = some q49 := by kernel_rfl
theorem ok49 {args : List D} {d : D} (hl : args.length = 2) (h : SWp C49 c49 (fun e s => (match e with | .exit _ => False | _ => True) ∧ rrsWp q49 s fun ds => D.closed (oneOrTup ds) = true ∧ (oneOrTup ds).er = d) (St.init C49 args ⟨[], []⟩)) : Pur M 49 args d :=
  pur_of_body (C := C49) (fn := Tryd.f49) Tryd.func49 (by kernel_rfl) (by kernel_rfl) (rc := c49) z49 (rs := q49) zr49 (by kernel_rfl) (by rw [hl]; rfl) (by rw [hl]; decide) rfl rfl h
/- 50 bogie.bogieref02.node · 2 arguments · kept slots [0, 1, 4] -/
noncomputable def E50 (n m : Nat) : Cfg := ⟨M, [0, 1, 4], 9, n, m, []⟩
noncomputable def C50 : Cfg := E50 0 0
@[reducible] noncomputable def r50_0 : List RO := [
  ⟨.var 2, .mv, [(.con (.str []))], none⟩]
@[reducible] noncomputable def r50_1 : List RO := [
  ⟨.loc 5, .mv, [.var 0], none⟩,
  ⟨.loc 6, .mv, [.var 1], none⟩,
  ⟨.loc 7, .bsl 1, [(.con (.str [110, 111, 100, 101])), .loc 5, .loc 6], none⟩,
  ⟨.loc 8, .call, [(.con (.fn (.func 47) [] [])), .loc 7], none⟩,
  ⟨.var 2, .mv, [.loc 8], none⟩]
theorem P50 : C50.M = M := by unfold C50 E50; rfl
theorem i50 {a0 a1 : D} : St.init C50 [a0, a1] ⟨[], []⟩ = ⟨[a0, a1, .undef], [], ⟨[], []⟩⟩ := by unfold C50 E50; rfl
noncomputable def c50 : RC := (.seq (.reg r50_0) (.seq (.reg r50_1) .ret))
noncomputable def q50 : List RR := [(.slot (.var 2))]
theorem z50 {n m : Nat} : resCode (E50 n m) (Tryd.f50.body.getD .skip) = some c50 := by kernel_rfl
theorem zr50 {n m : Nat} : resRs (E50 n m) Tryd.f50.results.toList = some q50 := by kernel_rfl
theorem ok50 {args : List D} {d : D} (hl : args.length = 2) (h : SWp C50 c50 (fun e s => (match e with | .exit _ => False | _ => True) ∧ rrsWp q50 s fun ds => D.closed (oneOrTup ds) = true ∧ (oneOrTup ds).er = d) (St.init C50 args ⟨[], []⟩)) : Pur M 50 args d :=
  pur_of_body (C := C50) (fn := Tryd.f50) Tryd.func50 (by kernel_rfl) (by kernel_rfl) (rc := c50) z50 (rs := q50) zr50 (by kernel_rfl) (by rw [hl]; rfl) (by rw [hl]; decide) rfl rfl h
/- 23 bogie.bogieref02.Made · 3 arguments · kept slots [0, 1, 2, 6, 7, 8, 9, 10, 11, 12, 13, 14, 15, 16, 20, 24, 64, 69] -/
noncomputable def E23 (n m : Nat) : Cfg := ⟨M, [0, 1, 2, 6, 7, 8, 9, 10, 11, 12, 13, 14, 15, 16, 20, 24, 64, 69], 101, n, m, []⟩
@[reducible] noncomputable def r23_0 : List RO := [
  ⟨.var 3, .mv, [(.con (.lit (.slice none 0 0)))], none⟩]
@[reducible] noncomputable def r23_1 : List RO := [
  ⟨.var 4, .mv, [(.con (.lit (.slice none 0 0)))], none⟩]
@[reducible] noncomputable def r23_2 : List RO := [
  ⟨.var 5, .mv, [(.con (.lit (.slice none 0 0)))], none⟩]
@[reducible] noncomputable def r23_3 : List RO := [
  ⟨.var 6, .mv, [.con (.int .i64 0)], none⟩]
@[reducible] noncomputable def r23_4 : List RO := [
  ⟨.loc 17, .mv, [.var 6], none⟩,
  ⟨.loc 18, .mv, [.var 1], none⟩,
  ⟨.loc 19, .call, [(.con (.fn (.func 33) [] [])), .loc 18], none⟩,
  ⟨.var 14, .bin .lss, [.loc 17, .loc 19], none⟩]
@[reducible] noncomputable def r23_5 : List RO := [
  ⟨.var 7, .mv, [(.con (.lit (.slice none 0 0)))], none⟩]
@[reducible] noncomputable def r23_6 : List RO := [
  ⟨.var 8, .mv, [.con (.int .i64 0)], none⟩]
@[reducible] noncomputable def r23_7 : List RO := [
  ⟨.loc 23, .mv, [.var 8], none⟩,
  ⟨.var 15, .bin .lss, [.loc 23, .con (.int .i64 18)], none⟩]
@[reducible] noncomputable def r23_8 : List RO := [
  ⟨.loc 27, .mv, [.var 0], none⟩,
  ⟨.loc 28, .mv, [.var 6], none⟩,
  ⟨.loc 29, .call, [(.con (.fn (.func 48) [] [])), .loc 28], none⟩,
  ⟨.loc 30, .mv, [.var 8], none⟩,
  ⟨.loc 31, .call, [(.con (.fn (.func 48) [] [])), .loc 30], none⟩,
  ⟨.loc 32, .bsl 1, [.loc 27, .loc 29, .loc 31], none⟩,
  ⟨.loc 33, .call, [(.con (.fn (.func 47) [] [])), .loc 32], none⟩,
  ⟨.var 9, .mv, [.loc 33], none⟩]
@[reducible] noncomputable def r23_9 : List RO := [
  ⟨.loc 34, .mv, [.var 4], none⟩,
  ⟨.loc 35, .mv, [.var 9], none⟩,
  ⟨.loc 36, .bsl 1, [.loc 35], none⟩,
  ⟨.loc 37, .app 1 16 9, [.loc 34, .loc 36], none⟩,
  ⟨.var 4, .mv, [.loc 37], none⟩]
@[reducible] noncomputable def r23_10 : List RO := [
  ⟨.loc 38, .mv, [.var 9], none⟩,
  ⟨.loc 39, .call, [(.con (.fn (.func 25) [] [])), .loc 38], none⟩,
  ⟨.loc 40, .mv, [.var 2], none⟩,
  ⟨.loc 41, .call, [(.con (.fn (.func 49) [] [])), .loc 39, .loc 40], none⟩,
  ⟨.var 10, .mv, [.loc 41], none⟩]
@[reducible] noncomputable def r23_11 : List RO := [
  ⟨.loc 42, .mv, [.var 4], none⟩,
  ⟨.loc 43, .mv, [.var 10], none⟩,
  ⟨.loc 44, .app 1 16 9, [.loc 42, .loc 43], none⟩,
  ⟨.var 4, .mv, [.loc 44], none⟩]
@[reducible] noncomputable def r23_12 : List RO := [
  ⟨.loc 45, .mv, [.var 7], none⟩,
  ⟨.loc 46, .mv, [.var 10], none⟩,
  ⟨.loc 47, .ixaS 1, [.loc 46, .con (.int .i64 15)], none⟩,
  ⟨.loc 48, .ld false 1, [.loc 47], none⟩,
  ⟨.loc 49, .bsl 1, [.loc 48], none⟩,
  ⟨.loc 50, .app 1 16 9, [.loc 45, .loc 49], none⟩,
  ⟨.var 7, .mv, [.loc 50], none⟩]
@[reducible] noncomputable def r23_13 : List RO := [
  ⟨.loc 25, .mv, [.var 8], none⟩,
  ⟨.loc 26, .bin .add, [.loc 25, .con (.int .i64 1)], none⟩,
  ⟨.var 8, .mv, [.loc 26], none⟩]
@[reducible] noncomputable def r23_14 : List RO := [
  ⟨.loc 51, .mv, [.var 7], none⟩,
  ⟨.loc 52, .call, [(.con (.fn (.func 47) [] [])), .loc 51], none⟩,
  ⟨.var 11, .mv, [.loc 52], none⟩]
@[reducible] noncomputable def r23_15 : List RO := [
  ⟨.loc 53, .mv, [.var 4], none⟩,
  ⟨.loc 54, .mv, [.var 11], none⟩,
  ⟨.loc 55, .bsl 1, [.loc 54], none⟩,
  ⟨.loc 56, .app 1 16 9, [.loc 53, .loc 55], none⟩,
  ⟨.var 4, .mv, [.loc 56], none⟩]
@[reducible] noncomputable def r23_16 : List RO := [
  ⟨.loc 57, .mv, [.var 5], none⟩,
  ⟨.loc 58, .mv, [.var 11], none⟩,
  ⟨.loc 59, .call, [(.con (.fn (.func 25) [] [])), .loc 58], none⟩,
  ⟨.loc 60, .bsl 1, [.loc 59], none⟩,
  ⟨.loc 61, .app 1 16 9, [.loc 57, .loc 60], none⟩,
  ⟨.var 5, .mv, [.loc 61], none⟩]
@[reducible] noncomputable def r23_17 : List RO := [
  ⟨.loc 21, .mv, [.var 6], none⟩,
  ⟨.loc 22, .bin .add, [.loc 21, .con (.int .i64 1)], none⟩,
  ⟨.var 6, .mv, [.loc 22], none⟩]
@[reducible] noncomputable def r23_18 : List RO := [
  ⟨.loc 62, .mv, [.var 5], none⟩,
  ⟨.loc 63, .lenL, [.loc 62], none⟩,
  ⟨.var 16, .bin .gtr, [.loc 63, .con (.int .i64 1)], none⟩]
@[reducible] noncomputable def r23_19 : List RO := [
  ⟨.var 12, .mv, [(.con (.lit (.slice none 0 0)))], none⟩]
@[reducible] noncomputable def r23_20 : List RO := [
  ⟨.var 13, .mv, [.con (.int .i64 0)], none⟩]
@[reducible] noncomputable def r23_21 : List RO := [
  ⟨.loc 65, .mv, [.var 13], none⟩,
  ⟨.loc 66, .bin .add, [.loc 65, .con (.int .i64 1)], none⟩,
  ⟨.loc 67, .mv, [.var 5], none⟩,
  ⟨.loc 68, .lenL, [.loc 67], none⟩,
  ⟨.var 17, .bin .lss, [.loc 66, .loc 68], none⟩]
@[reducible] noncomputable def r23_22 : List (RO × Bool) := [
  (⟨.loc 72, .mv, [.var 4], none⟩, true),
  (⟨.loc 73, .mv, [.var 5], none⟩, true),
  (⟨.loc 74, .mv, [.var 13], none⟩, true),
  (⟨.loc 75, .ixaS 1, [.loc 73, .loc 74], none⟩, true),
  (⟨.loc 76, .ld false 1, [.loc 75], none⟩, true),
  (⟨.loc 77, .mv, [.var 5], none⟩, true),
  (⟨.loc 78, .mv, [.var 13], none⟩, true),
  (⟨.loc 79, .bin .add, [.loc 78, .con (.int .i64 1)], none⟩, true),
  (⟨.loc 80, .ixaS 1, [.loc 77, .loc 79], none⟩, true),
  (⟨.loc 81, .ld false 1, [.loc 80], none⟩, true),
  (⟨.loc 82, .call, [(.con (.fn (.func 50) [] [])), .loc 76, .loc 81], none⟩, false),
  (⟨.loc 83, .bsl 1, [.loc 82], none⟩, false)]
@[reducible] noncomputable def r23_23 : List RO := [
  ⟨.loc 84, .app 1 16 9, [.loc 72, .loc 83], none⟩,
  ⟨.var 4, .mv, [.loc 84], none⟩]
@[reducible] noncomputable def r23_24 : List (RO × Bool) := [
  (⟨.loc 85, .mv, [.var 12], none⟩, true),
  (⟨.loc 86, .mv, [.var 5], none⟩, true),
  (⟨.loc 87, .mv, [.var 13], none⟩, true),
  (⟨.loc 88, .ixaS 1, [.loc 86, .loc 87], none⟩, true),
  (⟨.loc 89, .ld false 1, [.loc 88], none⟩, true),
  (⟨.loc 90, .mv, [.var 5], none⟩, true),
  (⟨.loc 91, .mv, [.var 13], none⟩, true),
  (⟨.loc 92, .bin .add, [.loc 91, .con (.int .i64 1)], none⟩, true),
  (⟨.loc 93, .ixaS 1, [.loc 90, .loc 92], none⟩, true),
  (⟨.loc 94, .ld false 1, [.loc 93], none⟩, true),
  (⟨.loc 95, .call, [(.con (.fn (.func 50) [] [])), .loc 89, .loc 94], none⟩, false),
  (⟨.loc 96, .call, [(.con (.fn (.func 25) [] [])), .loc 95], none⟩, false),
  (⟨.loc 97, .bsl 1, [.loc 96], none⟩, false)]
@[reducible] noncomputable def r23_25 : List RO := [
  ⟨.loc 98, .app 1 16 9, [.loc 85, .loc 97], none⟩,
  ⟨.var 12, .mv, [.loc 98], none⟩]
@[reducible] noncomputable def r23_26 : List RO := [
  ⟨.loc 70, .mv, [.var 13], none⟩,
  ⟨.loc 71, .bin .add, [.loc 70, .con (.int .i64 2)], none⟩,
  ⟨.var 13, .mv, [.loc 71], none⟩]
@[reducible] noncomputable def r23_27 : List RO := [
  ⟨.loc 99, .mv, [.var 12], none⟩,
  ⟨.var 5, .mv, [.loc 99], none⟩]
@[reducible] noncomputable def r23_28 : List RO := [
  ⟨.loc 100, .mv, [.var 4], none⟩,
  ⟨.var 3, .mv, [.loc 100], none⟩]
theorem pe23 {n m : Nat} : (E23 n m).M = M := by unfold E23; rfl
theorem ie23 {n m : Nat} {hp : Hp} {a0 a1 a2 : D} : St.init (E23 n m) [a0, a1, a2] hp = ⟨[a0, a1, a2, .undef, .undef, .undef, .undef, .undef, .undef, .undef, .undef, .undef, .undef, .undef, .undef, .undef, .undef, .undef], [], hp⟩ := by unfold E23; rfl
noncomputable def c23 : RC := (.seq (.reg r23_0) (.seq (.reg r23_1) (.seq (.reg r23_2) (.seq (.seq (.reg r23_3) (.block 0 (.loop (.seq (.seq (.reg r23_4) (.cond (.var 14) .skip (.exit 0))) (.seq (.block 1 (.seq (.reg r23_5) (.seq (.seq (.reg r23_6) (.block 2 (.loop (.seq (.seq (.reg r23_7) (.cond (.var 15) .skip (.exit 2))) (.seq (.block 3 (.seq (.reg r23_8) (.seq (.reg r23_9) (.seq (.reg r23_10) (.seq (.reg r23_11) (.reg r23_12)))))) (.reg r23_13)))))) (.seq (.reg r23_14) (.seq (.reg r23_15) (.reg r23_16)))))) (.reg r23_17)))))) (.seq (.block 4 (.loop (.seq (.seq (.reg r23_18) (.cond (.var 16) .skip (.exit 4))) (.block 5 (.seq (.reg r23_19) (.seq (.seq (.reg r23_20) (.block 6 (.loop (.seq (.seq (.reg r23_21) (.cond (.var 17) .skip (.exit 6))) (.seq (.block 7 (.seq (.regD r23_22 r23_23) (.regD r23_24 r23_25))) (.reg r23_26)))))) (.reg r23_27))))))) (.seq (.reg r23_28) .ret))))))
noncomputable def q23 : List RR := [(.slot (.var 3))]
theorem z23 {n m : Nat} : resCode (E23 n m) (Tryd.f23.body.getD .skip) = some c23 := by kernel_rfl
theorem zr23 {n m : Nat} : resRs (E23 n m) Tryd.f23.results.toList = some q23 := by kernel_rfl
theorem oe23 {args : List D} {hp : Hp} {R : D → Hp → Prop} (n m : Nat) (hl : args.length = 3) (hn : n = hp.H.length) (hm : m = hp.tk.length) (h : SWp (E23 n m) c23 (fun e s => (match e with | .exit _ => False | _ => True) ∧ ∃ s1, Weak (E23 n m) s s1 ∧ rrsWp q23 s1 fun ds => R (oneOrTup ds) s1.hp) (St.init (E23 n m) args hp)) : Eff M 23 args hp R :=
  eff_of_body (C := E23 n m) (fn := Tryd.f23) Tryd.func23 (by kernel_rfl) (by kernel_rfl) (rc := c23) z23 (rs := q23) zr23 (by kernel_rfl) (by rw [hl]; rfl) (by rw [hl]; exact (by decide : 3 ≤ 101)) hn hm h
/- 24 bogie.bogieref02.Checked · 2 arguments · kept slots [0, 1, 3, 4, 5, 6, 7, 8, 9, 10, 11, 12, 13, 14, 25, 67, 79] -/
noncomputable def E24 (n m : Nat) : Cfg := ⟨M, [0, 1, 3, 4, 5, 6, 7, 8, 9, 10, 11, 12, 13, 14, 25, 67, 79], 96, n, m, []⟩
noncomputable def C24 : Cfg := E24 0 0
@[reducible] noncomputable def r24_0 : List RO := [
  ⟨.var 2, .box, [.var 1], none⟩,
  ⟨.var 3, .mv, [(.con (.lit (.slice none 0 0)))], none⟩]
@[reducible] noncomputable def r24_1 : List RO := [
  ⟨.loc 15, .mv, [.var 0], none⟩,
  ⟨.loc 16, .call, [(.con (.fn (.func 34) [] [])), .loc 15], none⟩,
  ⟨.var 4, .mv, [.loc 16], none⟩]
@[reducible] noncomputable def r24_2 : List RO := [
  ⟨.var 5, .mv, [(.con (.lit (.slice none 0 0)))], none⟩]
@[reducible] noncomputable def r24_3 : List RO := [
  ⟨.var 6, .mv, [(.con (.lit (.slice none 0 0)))], none⟩]
@[reducible] noncomputable def r24_4 : List RO := [
  ⟨.var 7, .mv, [.con (.int .i64 0)], none⟩]
@[reducible] noncomputable def r24_5 : List RO := [
  ⟨.loc 17, .mv, [.var 7], none⟩,
  ⟨.loc 18, .bin .lss, [.loc 17, .con (.int .i64 18)], none⟩,
  ⟨.loc 19, .mv, [.loc 18], none⟩,
  ⟨.loc 20, .mv, [.var 7], (some (.loc 19, true))⟩,
  ⟨.loc 21, .fld 1, [.var 2], (some (.loc 19, true))⟩,
  ⟨.loc 22, .ld false 1, [.loc 21], (some (.loc 19, true))⟩,
  ⟨.loc 23, .lenL, [.loc 22], (some (.loc 19, true))⟩,
  ⟨.loc 24, .bin .lss, [.loc 20, .loc 23], (some (.loc 19, true))⟩,
  ⟨.var 14, .pick, [.loc 19, .loc 24, .con (.bool false)], none⟩]
@[reducible] noncomputable def r24_6 : List (RO × Bool) := [
  (⟨.loc 28, .fld 1, [.var 2], none⟩, true),
  (⟨.loc 29, .ld false 1, [.loc 28], none⟩, true),
  (⟨.loc 30, .mv, [.var 7], none⟩, true),
  (⟨.loc 31, .ixaS 1, [.loc 29, .loc 30], none⟩, true),
  (⟨.loc 32, .ld false 1, [.loc 31], none⟩, true),
  (⟨.loc 33, .mv, [.var 4], none⟩, true),
  (⟨.loc 34, .mv, [.var 7], none⟩, true),
  (⟨.loc 35, .ixaS 1, [.loc 33, .loc 34], none⟩, true),
  (⟨.loc 36, .ld false 1, [.loc 35], none⟩, true),
  (⟨.loc 37, .bin .sub, [.con (.int .i64 15), .loc 36], none⟩, true)]
@[reducible] noncomputable def r24_7 : List RO := [
  ⟨.loc 38, .call, [(.con (.fn (.func 49) [] [])), .loc 32, .loc 37], none⟩,
  ⟨.var 8, .mv, [.loc 38], none⟩]
@[reducible] noncomputable def r24_8 : List RO := [
  ⟨.loc 39, .mv, [.var 5], none⟩,
  ⟨.loc 40, .mv, [.var 8], none⟩,
  ⟨.loc 41, .app 1 16 9, [.loc 39, .loc 40], none⟩,
  ⟨.var 5, .mv, [.loc 41], none⟩]
@[reducible] noncomputable def r24_9 : List RO := [
  ⟨.loc 42, .mv, [.var 6], none⟩,
  ⟨.loc 43, .mv, [.var 8], none⟩,
  ⟨.loc 44, .mv, [.var 4], none⟩,
  ⟨.loc 45, .mv, [.var 7], none⟩,
  ⟨.loc 46, .ixaS 1, [.loc 44, .loc 45], none⟩,
  ⟨.loc 47, .ld false 1, [.loc 46], none⟩,
  ⟨.loc 48, .bin .sub, [.con (.int .i64 15), .loc 47], none⟩,
  ⟨.loc 49, .ixaS 1, [.loc 43, .loc 48], none⟩,
  ⟨.loc 50, .ld false 1, [.loc 49], none⟩,
  ⟨.loc 51, .bsl 1, [.loc 50], none⟩,
  ⟨.loc 52, .app 1 16 9, [.loc 42, .loc 51], none⟩,
  ⟨.var 6, .mv, [.loc 52], none⟩]
@[reducible] noncomputable def r24_10 : List RO := [
  ⟨.loc 26, .mv, [.var 7], none⟩,
  ⟨.loc 27, .bin .add, [.loc 26, .con (.int .i64 1)], none⟩,
  ⟨.var 7, .mv, [.loc 27], none⟩]
@[reducible] noncomputable def r24_11 : List RO := [
  ⟨.loc 53, .mv, [.var 6], none⟩,
  ⟨.loc 54, .call, [(.con (.fn (.func 47) [] [])), .loc 53], none⟩,
  ⟨.var 9, .mv, [.loc 54], none⟩]
@[reducible] noncomputable def r24_12 : List RO := [
  ⟨.loc 55, .mv, [.var 5], none⟩,
  ⟨.loc 56, .mv, [.var 9], none⟩,
  ⟨.loc 57, .bsl 1, [.loc 56], none⟩,
  ⟨.loc 58, .app 1 16 9, [.loc 55, .loc 57], none⟩,
  ⟨.var 5, .mv, [.loc 58], none⟩]
@[reducible] noncomputable def r24_13 : List RO := [
  ⟨.loc 59, .mv, [.var 9], none⟩,
  ⟨.loc 60, .call, [(.con (.fn (.func 25) [] [])), .loc 59], none⟩,
  ⟨.var 10, .mv, [.loc 60], none⟩]
@[reducible] noncomputable def r24_14 : List RO := [
  ⟨.loc 61, .fld 0, [.var 2], none⟩,
  ⟨.loc 62, .ld false 1, [.loc 61], none⟩,
  ⟨.var 11, .mv, [.loc 62], none⟩]
@[reducible] noncomputable def r24_15 : List RO := [
  ⟨.var 12, .mv, [.con (.int .i64 0)], none⟩]
@[reducible] noncomputable def r24_16 : List RO := [
  ⟨.loc 63, .mv, [.var 12], none⟩,
  ⟨.loc 64, .fld 2, [.var 2], none⟩,
  ⟨.loc 65, .ld false 1, [.loc 64], none⟩,
  ⟨.loc 66, .lenL, [.loc 65], none⟩,
  ⟨.var 15, .bin .lss, [.loc 63, .loc 66], none⟩]
@[reducible] noncomputable def r24_17 : List RO := [
  ⟨.loc 70, .mv, [.var 10], none⟩,
  ⟨.loc 71, .fld 2, [.var 2], none⟩,
  ⟨.loc 72, .ld false 1, [.loc 71], none⟩,
  ⟨.loc 73, .mv, [.var 12], none⟩,
  ⟨.loc 74, .ixaS 1, [.loc 72, .loc 73], none⟩,
  ⟨.loc 75, .ld false 1, [.loc 74], none⟩,
  ⟨.loc 76, .call, [(.con (.fn (.func 50) [] [])), .loc 70, .loc 75], none⟩,
  ⟨.var 13, .mv, [.loc 76], none⟩]
@[reducible] noncomputable def r24_18 : List RO := [
  ⟨.loc 77, .mv, [.var 11], none⟩,
  ⟨.loc 78, .bin .rem, [.loc 77, .con (.int .i64 2)], none⟩,
  ⟨.var 16, .bin .eql, [.loc 78, .con (.int .i64 1)], none⟩]
@[reducible] noncomputable def r24_19 : List RO := [
  ⟨.loc 80, .fld 2, [.var 2], none⟩,
  ⟨.loc 81, .ld false 1, [.loc 80], none⟩,
  ⟨.loc 82, .mv, [.var 12], none⟩,
  ⟨.loc 83, .ixaS 1, [.loc 81, .loc 82], none⟩,
  ⟨.loc 84, .ld false 1, [.loc 83], none⟩,
  ⟨.loc 85, .mv, [.var 10], none⟩,
  ⟨.loc 86, .call, [(.con (.fn (.func 50) [] [])), .loc 84, .loc 85], none⟩,
  ⟨.var 13, .mv, [.loc 86], none⟩]
@[reducible] noncomputable def r24_20 : List RO := [
  ⟨.loc 87, .mv, [.var 5], none⟩,
  ⟨.loc 88, .mv, [.var 13], none⟩,
  ⟨.loc 89, .bsl 1, [.loc 88], none⟩,
  ⟨.loc 90, .app 1 16 9, [.loc 87, .loc 89], none⟩,
  ⟨.var 5, .mv, [.loc 90], none⟩]
@[reducible] noncomputable def r24_21 : List RO := [
  ⟨.loc 91, .mv, [.var 13], none⟩,
  ⟨.loc 92, .call, [(.con (.fn (.func 25) [] [])), .loc 91], none⟩,
  ⟨.var 10, .mv, [.loc 92], none⟩]
@[reducible] noncomputable def r24_22 : List RO := [
  ⟨.loc 93, .mv, [.var 11], none⟩,
  ⟨.loc 94, .bin .quo, [.loc 93, .con (.int .i64 2)], none⟩,
  ⟨.var 11, .mv, [.loc 94], none⟩]
@[reducible] noncomputable def r24_23 : List RO := [
  ⟨.loc 68, .mv, [.var 12], none⟩,
  ⟨.loc 69, .bin .add, [.loc 68, .con (.int .i64 1)], none⟩,
  ⟨.var 12, .mv, [.loc 69], none⟩]
@[reducible] noncomputable def r24_24 : List RO := [
  ⟨.loc 95, .mv, [.var 5], none⟩,
  ⟨.var 3, .mv, [.loc 95], none⟩]
theorem P24 : C24.M = M := by unfold C24 E24; rfl
theorem i24 {a0 a1 : D} : St.init C24 [a0, a1] ⟨[], []⟩ = ⟨[a0, a1, .undef, .undef, .undef, .undef, .undef, .undef, .undef, .undef, .undef, .undef, .undef, .undef, .undef, .undef, .undef], [], ⟨[], []⟩⟩ := by unfold C24 E24; rfl
noncomputable def c24 : RC := (.seq (.reg r24_0) (.seq (.reg r24_1) (.seq (.reg r24_2) (.seq (.reg r24_3) (.seq (.seq (.reg r24_4) (.block 0 (.loop (.seq (.seq (.reg r24_5) (.cond (.var 14) .skip (.exit 0))) (.seq (.block 1 (.seq (.regD r24_6 r24_7) (.seq (.reg r24_8) (.reg r24_9)))) (.reg r24_10)))))) (.seq (.reg r24_11) (.seq (.reg r24_12) (.seq (.reg r24_13) (.seq (.reg r24_14) (.seq (.seq (.reg r24_15) (.block 2 (.loop (.seq (.seq (.reg r24_16) (.cond (.var 15) .skip (.exit 2))) (.seq (.block 3 (.seq (.reg r24_17) (.seq (.seq (.reg r24_18) (.cond (.var 16) (.reg r24_19) .skip)) (.seq (.reg r24_20) (.seq (.reg r24_21) (.reg r24_22)))))) (.reg r24_23)))))) (.seq (.reg r24_24) .ret)))))))))))
noncomputable def q24 : List RR := [(.slot (.var 3))]
theorem z24 {n m : Nat} : resCode (E24 n m) (Tryd.f24.body.getD .skip) = some c24 := by kernel_rfl
theorem zr24 {n m : Nat} : resRs (E24 n m) Tryd.f24.results.toList = some q24 := by kernel_rfl
theorem ok24 {args : List D} {d : D} (hl : args.length = 2) (h : SWp C24 c24 (fun e s => (match e with | .exit _ => False | _ => True) ∧ rrsWp q24 s fun ds => D.closed (oneOrTup ds) = true ∧ (oneOrTup ds).er = d) (St.init C24 args ⟨[], []⟩)) : Pur M 24 args d :=
  pur_of_body (C := C24) (fn := Tryd.f24) Tryd.func24 (by kernel_rfl) (by kernel_rfl) (rc := c24) z24 (rs := q24) zr24 (by kernel_rfl) (by rw [hl]; rfl) (by rw [hl]; decide) rfl rfl h
/- 22 bogie.bogieref02.Shown · 1 arguments · kept slots [0, 2, 3, 4, 5, 6, 10, 24, 29, 51] -/
noncomputable def E22 (n m : Nat) : Cfg := ⟨M, [0, 2, 3, 4, 5, 6, 10, 24, 29, 51], 52, n, m, []⟩
noncomputable def C22 : Cfg := E22 0 0
@[reducible] noncomputable def r22_0 : List RO := [
  ⟨.var 1, .mv, [.con (.bool false)], none⟩]
@[reducible] noncomputable def r22_1 : List RO := [
  ⟨.var 2, .mv, [(.con (.lit (.slice none 0 0)))], none⟩]
@[reducible] noncomputable def r22_2 : List RO := [
  ⟨.var 3, .mv, [.con (.int .i64 0)], none⟩]
@[reducible] noncomputable def r22_3 : List RO := [
  ⟨.loc 7, .mv, [.var 3], none⟩,
  ⟨.loc 8, .mv, [.var 0], none⟩,
  ⟨.loc 9, .lenL, [.loc 8], none⟩,
  ⟨.var 6, .bin .lss, [.loc 7, .loc 9], none⟩]
@[reducible] noncomputable def r22_4 : List RO := [
  ⟨.loc 13, .mv, [.var 2], none⟩,
  ⟨.loc 14, .mv, [.var 0], none⟩,
  ⟨.loc 15, .mv, [.var 3], none⟩,
  ⟨.loc 16, .ixaS 1, [.loc 14, .loc 15], none⟩,
  ⟨.loc 17, .ld false 1, [.loc 16], none⟩,
  ⟨.loc 18, .call, [(.con (.fn (.func 25) [] [])), .loc 17], none⟩,
  ⟨.loc 19, .bsl 1, [.loc 18], none⟩,
  ⟨.loc 20, .app 1 16 9, [.loc 13, .loc 19], none⟩,
  ⟨.var 2, .mv, [.loc 20], none⟩]
@[reducible] noncomputable def r22_5 : List RO := [
  ⟨.loc 11, .mv, [.var 3], none⟩,
  ⟨.loc 12, .bin .add, [.loc 11, .con (.int .i64 1)], none⟩,
  ⟨.var 3, .mv, [.loc 12], none⟩]
@[reducible] noncomputable def r22_6 : List RO := [
  ⟨.var 4, .mv, [.con (.int .i64 0)], none⟩]
@[reducible] noncomputable def r22_7 : List RO := [
  ⟨.loc 21, .mv, [.var 4], none⟩,
  ⟨.loc 22, .mv, [.var 0], none⟩,
  ⟨.loc 23, .lenL, [.loc 22], none⟩,
  ⟨.var 7, .bin .lss, [.loc 21, .loc 23], none⟩]
@[reducible] noncomputable def r22_8 : List RO := [
  ⟨.var 5, .mv, [.con (.int .i64 0)], none⟩]
@[reducible] noncomputable def r22_9 : List RO := [
  ⟨.loc 27, .mv, [.var 5], none⟩,
  ⟨.loc 28, .mv, [.var 4], none⟩,
  ⟨.var 8, .bin .lss, [.loc 27, .loc 28], none⟩]
@[reducible] noncomputable def r22_10 : List (RO × Bool) := [
  (⟨.loc 32, .mv, [.var 2], none⟩, true),
  (⟨.loc 33, .mv, [.var 4], none⟩, true),
  (⟨.loc 34, .ixaS 1, [.loc 32, .loc 33], none⟩, true),
  (⟨.loc 35, .ld false 1, [.loc 34], none⟩, true),
  (⟨.loc 36, .mv, [.var 2], none⟩, true),
  (⟨.loc 37, .mv, [.var 5], none⟩, true),
  (⟨.loc 38, .ixaS 1, [.loc 36, .loc 37], none⟩, true),
  (⟨.loc 39, .ld false 1, [.loc 38], none⟩, true),
  (⟨.loc 40, .bin .eql, [.loc 35, .loc 39], none⟩, true),
  (⟨.loc 41, .mv, [.loc 40], none⟩, true),
  (⟨.loc 42, .mv, [.var 0], (some (.loc 41, true))⟩, true),
  (⟨.loc 43, .mv, [.var 4], (some (.loc 41, true))⟩, true),
  (⟨.loc 44, .ixaS 1, [.loc 42, .loc 43], (some (.loc 41, true))⟩, true),
  (⟨.loc 45, .ld false 1, [.loc 44], (some (.loc 41, true))⟩, true),
  (⟨.loc 46, .mv, [.var 0], (some (.loc 41, true))⟩, true),
  (⟨.loc 47, .mv, [.var 5], (some (.loc 41, true))⟩, true),
  (⟨.loc 48, .ixaS 1, [.loc 46, .loc 47], (some (.loc 41, true))⟩, true),
  (⟨.loc 49, .ld false 1, [.loc 48], (some (.loc 41, true))⟩, true)]
@[reducible] noncomputable def r22_11 : List RO := [
  ⟨.loc 50, .bin .neq, [.loc 45, .loc 49], (some (.loc 41, true))⟩,
  ⟨.var 9, .pick, [.loc 41, .loc 50, .con (.bool false)], none⟩]
@[reducible] noncomputable def r22_12 : List RO := [
  ⟨.var 1, .mv, [.con (.bool true)], none⟩]
@[reducible] noncomputable def r22_13 : List RO := [
  ⟨.loc 30, .mv, [.var 5], none⟩,
  ⟨.loc 31, .bin .add, [.loc 30, .con (.int .i64 1)], none⟩,
  ⟨.var 5, .mv, [.loc 31], none⟩]
@[reducible] noncomputable def r22_14 : List RO := [
  ⟨.loc 25, .mv, [.var 4], none⟩,
  ⟨.loc 26, .bin .add, [.loc 25, .con (.int .i64 1)], none⟩,
  ⟨.var 4, .mv, [.loc 26], none⟩]
@[reducible] noncomputable def r22_15 : List RO := [
  ⟨.var 1, .mv, [.con (.bool false)], none⟩]
theorem P22 : C22.M = M := by unfold C22 E22; rfl
theorem i22 {a0 : D} : St.init C22 [a0] ⟨[], []⟩ = ⟨[a0, .undef, .undef, .undef, .undef, .undef, .undef, .undef, .undef, .undef], [], ⟨[], []⟩⟩ := by unfold C22 E22; rfl
noncomputable def c22 : RC := (.seq (.reg r22_0) (.seq (.reg r22_1) (.seq (.seq (.reg r22_2) (.block 0 (.loop (.seq (.seq (.reg r22_3) (.cond (.var 6) .skip (.exit 0))) (.seq (.block 1 (.reg r22_4)) (.reg r22_5)))))) (.seq (.seq (.reg r22_6) (.block 2 (.loop (.seq (.seq (.reg r22_7) (.cond (.var 7) .skip (.exit 2))) (.seq (.block 3 (.seq (.reg r22_8) (.block 4 (.loop (.seq (.seq (.reg r22_9) (.cond (.var 8) .skip (.exit 4))) (.seq (.block 5 (.seq (.regD r22_10 r22_11) (.cond (.var 9) (.seq (.reg r22_12) .ret) .skip))) (.reg r22_13))))))) (.reg r22_14)))))) (.seq (.reg r22_15) .ret)))))
noncomputable def q22 : List RR := [(.slot (.var 1))]
theorem z22 {n m : Nat} : resCode (E22 n m) (Tryd.f22.body.getD .skip) = some c22 := by kernel_rfl
theorem zr22 {n m : Nat} : resRs (E22 n m) Tryd.f22.results.toList = some q22 := by kernel_rfl
theorem ok22 {args : List D} {d : D} (hl : args.length = 1) (h : SWp C22 c22 (fun e s => (match e with | .exit _ => False | _ => True) ∧ rrsWp q22 s fun ds => D.closed (oneOrTup ds) = true ∧ (oneOrTup ds).er = d) (St.init C22 args ⟨[], []⟩)) : Pur M 22 args d :=
  pur_of_body (C := C22) (fn := Tryd.f22) Tryd.func22 (by kernel_rfl) (by kernel_rfl) (rc := c22) z22 (rs := q22) zr22 (by kernel_rfl) (by rw [hl]; rfl) (by rw [hl]; decide) rfl rfl h
/- 13 bogie.sign.Public · 2 arguments · kept slots [0, 1, 4, 5, 6, 12, 18] -/
noncomputable def E13 (n m : Nat) : Cfg := ⟨M, [0, 1, 4, 5, 6, 12, 18], 24, n, m, []⟩
noncomputable def C13 : Cfg := E13 0 0
@[reducible] noncomputable def r13_0 : List RO := [
  ⟨.var 2, .mv, [(.con (.str []))], none⟩,
  ⟨.var 3, .mv, [.con (.int .i64 0)], none⟩]
@[reducible] noncomputable def r13_1 : List RO := [
  ⟨.loc 7, .mv, [.var 1], none⟩,
  ⟨.loc 8, .bin .lss, [.loc 7, .con (.int .i64 0)], none⟩,
  ⟨.loc 9, .mv, [.loc 8], none⟩,
  ⟨.loc 10, .mv, [.var 1], (some (.loc 9, false))⟩,
  ⟨.loc 11, .bin .gtr, [.loc 10, .con (.int .i64 8)], (some (.loc 9, false))⟩,
  ⟨.var 5, .pick, [.loc 9, .con (.bool true), .loc 11], none⟩]
@[reducible] noncomputable def r13_2 : List RO := [
  ⟨.var 2, .mv, [(.con (.str []))], none⟩,
  ⟨.var 3, .mv, [.con (.int .i64 1)], none⟩]
@[reducible] noncomputable def r13_3 : List RO := [
  ⟨.loc 13, .mv, [.var 0], none⟩,
  ⟨.loc 14, .mv, [.var 1], none⟩,
  ⟨.loc 15, .call, [(.con (.fn (.func 26) [] [])), .loc 13, .loc 14], none⟩,
  ⟨.var 4, .mv, [.loc 15], none⟩]
@[reducible] noncomputable def r13_4 : List RO := [
  ⟨.loc 16, .mv, [.var 4], none⟩,
  ⟨.loc 17, .lenL, [.loc 16], none⟩,
  ⟨.var 6, .bin .gtr, [.loc 17, .con (.int .i64 1)], none⟩]
@[reducible] noncomputable def r13_5 : List RO := [
  ⟨.loc 19, .mv, [.var 4], none⟩,
  ⟨.loc 20, .call, [(.con (.fn (.func 27) [] [])), .loc 19], none⟩,
  ⟨.var 4, .mv, [.loc 20], none⟩]
@[reducible] noncomputable def r13_6 : List RO := [
  ⟨.loc 21, .mv, [.var 4], none⟩,
  ⟨.loc 22, .ixaS 1, [.loc 21, .con (.int .i64 0)], none⟩,
  ⟨.loc 23, .ld false 1, [.loc 22], none⟩,
  ⟨.var 2, .mv, [.loc 23], none⟩,
  ⟨.var 3, .mv, [.con (.int .i64 0)], none⟩]
theorem P13 : C13.M = M := by unfold C13 E13; rfl
theorem i13 {a0 a1 : D} : St.init C13 [a0, a1] ⟨[], []⟩ = ⟨[a0, a1, .undef, .undef, .undef, .undef, .undef], [], ⟨[], []⟩⟩ := by unfold C13 E13; rfl
noncomputable def c13 : RC := (.seq (.reg r13_0) (.seq (.seq (.reg r13_1) (.cond (.var 5) (.seq (.reg r13_2) .ret) .skip)) (.seq (.reg r13_3) (.seq (.block 0 (.loop (.seq (.seq (.reg r13_4) (.cond (.var 6) .skip (.exit 0))) (.block 1 (.reg r13_5))))) (.seq (.reg r13_6) .ret)))))
noncomputable def q13 : List RR := [(.slot (.var 2)), (.slot (.var 3))]
theorem z13 {n m : Nat} : resCode (E13 n m) (Tryd.f13.body.getD .skip) = some c13 := by kernel_rfl
theorem zr13 {n m : Nat} : resRs (E13 n m) Tryd.f13.results.toList = some q13 := by kernel_rfl
theorem ok13 {args : List D} {d : D} (hl : args.length = 2) (h : SWp C13 c13 (fun e s => (match e with | .exit _ => False | _ => True) ∧ rrsWp q13 s fun ds => D.closed (oneOrTup ds) = true ∧ (oneOrTup ds).er = d) (St.init C13 args ⟨[], []⟩)) : Pur M 13 args d :=
  pur_of_body (C := C13) (fn := Tryd.f13) Tryd.func13 (by kernel_rfl) (by kernel_rfl) (rc := c13) z13 (rs := q13) zr13 (by kernel_rfl) (by rw [hl]; rfl) (by rw [hl]; decide) rfl rfl h
/- 15 bogie.sign.Sign · 4 arguments · kept slots [0, 1, 2, 3, 4, 6, 8, 9, 10, 11, 12, 13, 14, 30, 35, 36, 37, 55] -/
noncomputable def E15 (n m : Nat) : Cfg := ⟨M, [0, 1, 2, 3, 4, 6, 8, 9, 10, 11, 12, 13, 14, 30, 35, 36, 37, 55], 71, n, m, []⟩
noncomputable def C15 : Cfg := E15 0 0
@[reducible] noncomputable def r15_0 : List RO := [
  ⟨.var 4, .box, [.var 0], none⟩,
  ⟨.var 5, .box, [.var 2], none⟩,
  ⟨.var 6, (.newb [(.int .i64 0), (.lit (.slice none 0 0)), (.lit (.slice none 0 0))]), [], none⟩,
  ⟨.var 7, .mv, [.con (.int .i64 0)], none⟩]
@[reducible] noncomputable def r15_1 : List (RO × Bool) := [
  (⟨.loc 15, .mv, [.var 1], none⟩, true),
  (⟨.loc 16, .bin .lss, [.loc 15, .con (.int .i64 0)], none⟩, true),
  (⟨.loc 17, .mv, [.loc 16], none⟩, true),
  (⟨.loc 18, .mv, [.var 1], (some (.loc 17, false))⟩, true),
  (⟨.loc 19, .bin .gtr, [.loc 18, .con (.int .i64 8)], (some (.loc 17, false))⟩, true),
  (⟨.loc 20, .pick, [.loc 17, .con (.bool true), .loc 19], none⟩, true),
  (⟨.loc 21, .mv, [.loc 20], none⟩, true),
  (⟨.loc 22, .ld false 1, [.var 5], (some (.loc 21, false))⟩, true),
  (⟨.loc 23, .bin .lss, [.loc 22, .con (.int .i64 0)], (some (.loc 21, false))⟩, true),
  (⟨.loc 24, .pick, [.loc 21, .con (.bool true), .loc 23], none⟩, true),
  (⟨.loc 25, .mv, [.loc 24], none⟩, true),
  (⟨.loc 26, .ld false 1, [.var 5], (some (.loc 25, false))⟩, true),
  (⟨.loc 27, .mv, [.var 1], (some (.loc 25, false))⟩, true),
  (⟨.loc 28, .bin .shl, [.con (.int .i64 1), .loc 27], (some (.loc 25, false))⟩, true)]
@[reducible] noncomputable def r15_2 : List RO := [
  ⟨.loc 29, .bin .geq, [.loc 26, .loc 28], (some (.loc 25, false))⟩,
  ⟨.var 13, .pick, [.loc 25, .con (.bool true), .loc 29], none⟩]
@[reducible] noncomputable def r15_3 : List RO := [
  ⟨.loc 31, (.bld [(.int .i64 0), (.lit (.slice none 0 0)), (.lit (.slice none 0 0))] []), [], none⟩,
  ⟨.none, .st 3, [.var 6, .loc 31], none⟩,
  ⟨.var 7, .mv, [.con (.int .i64 1)], none⟩]
@[reducible] noncomputable def r15_4 : List RO := [
  ⟨.loc 32, .ld false 1, [.var 5], none⟩,
  ⟨.loc 33, (.bld [(.int .i64 0), (.lit (.slice none 0 0)), (.lit (.slice none 0 0))] [(0, 1)]), [.loc 32], none⟩,
  ⟨.var 8, (.newb [(.int .i64 0), (.lit (.slice none 0 0)), (.lit (.slice none 0 0))]), [], none⟩,
  ⟨.none, .st 3, [.var 8, .loc 33], none⟩]
@[reducible] noncomputable def r15_5 : List RO := [
  ⟨.loc 34, .mv, [.var 3], none⟩,
  ⟨.var 14, .call, [(.con (.fn (.func 30) [] [])), .loc 34], none⟩]
@[reducible] noncomputable def r15_6 : List RO := [
  ⟨.var 9, .mv, [.var 15], none⟩]
@[reducible] noncomputable def r15_7 : List RO := [
  ⟨.var 10, .mv, [.var 16], none⟩]
@[reducible] noncomputable def r15_8 : List (RO × Bool) := [
  (⟨.loc 38, .fld 1, [.var 8], none⟩, true),
  (⟨.loc 39, .ld false 1, [.loc 38], none⟩, true),
  (⟨.loc 40, .ld false 1, [.var 4], none⟩, true),
  (⟨.loc 41, .ld false 1, [.var 5], none⟩, true),
  (⟨.loc 42, .mv, [.var 9], none⟩, true),
  (⟨.loc 43, .call, [(.con (.fn (.func 32) [] [])), .loc 40, .loc 41, .loc 42], none⟩, true),
  (⟨.loc 44, .mv, [.var 10], none⟩, true),
  (⟨.loc 45, .call, [(.con (.fn (.func 31) [] [])), .loc 43, .loc 44], none⟩, true),
  (⟨.loc 46, .bsl 1, [.loc 45], none⟩, true)]
@[reducible] noncomputable def r15_9 : List RO := [
  ⟨.loc 47, .app 1 16 9, [.loc 39, .loc 46], none⟩,
  ⟨.loc 48, .fld 1, [.var 8], none⟩,
  ⟨.none, .st 1, [.loc 48, .loc 47], none⟩]
@[reducible] noncomputable def r15_10 : List (RO × Bool) := [
  (⟨.loc 49, .ld false 1, [.var 4], none⟩, true),
  (⟨.loc 50, .mv, [.var 1], none⟩, true),
  (⟨.loc 51, .call, [(.con (.fn (.func 26) [] [])), .loc 49, .loc 50], none⟩, true),
  (⟨.loc 52, .ld false 1, [.var 5], none⟩, true),
  (⟨.var 11, .mv, [.loc 51], none⟩, true)]
@[reducible] noncomputable def r15_11 : List RO := [
  ⟨.var 12, .mv, [.loc 52], none⟩]
@[reducible] noncomputable def r15_12 : List RO := [
  ⟨.loc 53, .mv, [.var 11], none⟩,
  ⟨.loc 54, .lenL, [.loc 53], none⟩,
  ⟨.var 17, .bin .gtr, [.loc 54, .con (.int .i64 1)], none⟩]
@[reducible] noncomputable def r15_13 : List (RO × Bool) := [
  (⟨.loc 60, .fld 2, [.var 8], none⟩, true),
  (⟨.loc 61, .ld false 1, [.loc 60], none⟩, true),
  (⟨.loc 62, .mv, [.var 11], none⟩, true),
  (⟨.loc 63, .mv, [.var 12], none⟩, true),
  (⟨.loc 64, .bin .xor, [.loc 63, .con (.int .i64 1)], none⟩, true),
  (⟨.loc 65, .ixaS 1, [.loc 62, .loc 64], none⟩, true),
  (⟨.loc 66, .ld false 1, [.loc 65], none⟩, true),
  (⟨.loc 67, .bsl 1, [.loc 66], none⟩, true)]
@[reducible] noncomputable def r15_14 : List RO := [
  ⟨.loc 68, .app 1 16 9, [.loc 61, .loc 67], none⟩,
  ⟨.loc 69, .fld 2, [.var 8], none⟩,
  ⟨.none, .st 1, [.loc 69, .loc 68], none⟩]
@[reducible] noncomputable def r15_15 : List RO := [
  ⟨.loc 56, .mv, [.var 11], none⟩,
  ⟨.loc 57, .call, [(.con (.fn (.func 27) [] [])), .loc 56], none⟩,
  ⟨.loc 58, .mv, [.var 12], none⟩,
  ⟨.loc 59, .bin .quo, [.loc 58, .con (.int .i64 2)], none⟩,
  ⟨.var 11, .mv, [.loc 57], none⟩,
  ⟨.var 12, .mv, [.loc 59], none⟩]
@[reducible] noncomputable def r15_16 : List RO := [
  ⟨.loc 70, .ld true 3, [.var 8], none⟩,
  ⟨.none, .st 3, [.var 6, .loc 70], none⟩,
  ⟨.var 7, .mv, [.con (.int .i64 0)], none⟩]
theorem P15 : C15.M = M := by unfold C15 E15; rfl
theorem i15 {a0 a1 a2 a3 : D} : St.init C15 [a0, a1, a2, a3] ⟨[], []⟩ = ⟨[a0, a1, a2, a3, .undef, .undef, .undef, .undef, .undef, .undef, .undef, .undef, .undef, .undef, .undef, .undef, .undef, .undef], [], ⟨[], []⟩⟩ := by unfold C15 E15; rfl
noncomputable def c15 : RC := (.seq (.reg r15_0) (.seq (.seq (.regD r15_1 r15_2) (.cond (.var 13) (.seq (.reg r15_3) .ret) .skip)) (.seq (.reg r15_4) (.seq (.seq (.reg r15_5) (.block 0 (.rangeF (.var 14) [(.var 15), (.var 16)] (.seq (.reg r15_6) (.reg r15_7)) (.block 1 (.regD r15_8 r15_9))))) (.seq (.seq (.regD r15_10 r15_11) (.block 2 (.loop (.seq (.seq (.reg r15_12) (.cond (.var 17) .skip (.exit 2))) (.seq (.block 3 (.regD r15_13 r15_14)) (.reg r15_15)))))) (.seq (.reg r15_16) .ret))))))
noncomputable def q15 : List RR := [(.cell (.var 6) true 3), (.slot (.var 7))]
theorem z15 {n m : Nat} : resCode (E15 n m) (Tryd.f15.body.getD .skip) = some c15 := by kernel_rfl
theorem zr15 {n m : Nat} : resRs (E15 n m) Tryd.f15.results.toList = some q15 := by kernel_rfl
theorem oT15 {args : List D} {d : D} (hl : args.length = 4) (h : TWp C15 0 0 c15 (fun e n m s => (match e with | .exit _ => False | _ => True) ∧ ∃ s1, (∀ ds, Weak { C15 with n0 := n, m0 := m, dfs := ds } s s1) ∧ rrsWp q15 s1 fun ds => D.closed (oneOrTup ds) = true ∧ (oneOrTup ds).er = d) (St.init C15 args ⟨[], []⟩)) : Pur M 15 args d :=
  pur_of_bodyT (C := C15) (fn := Tryd.f15) Tryd.func15 (by kernel_rfl) (by kernel_rfl) (rc := c15) z15 (rs := q15) zr15 (by kernel_rfl) (by rw [hl]; rfl) (by rw [hl]; decide) rfl rfl h
/- 18 bogie.sign.Verify · 3 arguments · kept slots [0, 1, 2, 5, 6, 7, 8, 9, 10, 11, 12, 13, 14, 49, 51, 52, 53, 68, 69, 70, 71] -/
noncomputable def E18 (n m : Nat) : Cfg := ⟨M, [0, 1, 2, 5, 6, 7, 8, 9, 10, 11, 12, 13, 14, 49, 51, 52, 53, 68, 69, 70, 71], 88, n, m, []⟩
noncomputable def C18 : Cfg := E18 0 0
@[reducible] noncomputable def r18_0 : List RO := [
  ⟨.var 3, .box, [.var 2], none⟩,
  ⟨.var 4, .mv, [.con (.bool false)], none⟩]
@[reducible] noncomputable def r18_1 : List RO := [
  ⟨.loc 15, .fld 2, [.var 3], none⟩,
  ⟨.loc 16, .ld false 1, [.loc 15], none⟩,
  ⟨.loc 17, .lenL, [.loc 16], none⟩,
  ⟨.var 5, .mv, [.loc 17], none⟩]
@[reducible] noncomputable def r18_2 : List RO := [
  ⟨.var 6, .mv, [(.con (.fn (.func 38) [] []))], none⟩]
@[reducible] noncomputable def r18_3 : List (RO × Bool) := [
  (⟨.loc 18, .fld 1, [.var 3], none⟩, true),
  (⟨.loc 19, .ld false 1, [.loc 18], none⟩, true),
  (⟨.loc 20, .lenL, [.loc 19], none⟩, true),
  (⟨.loc 21, .bin .neq, [.loc 20, .con (.int .i64 18)], none⟩, true),
  (⟨.loc 22, .mv, [.loc 21], none⟩, true),
  (⟨.loc 23, .mv, [.var 5], (some (.loc 22, false))⟩, true),
  (⟨.loc 24, .bin .gtr, [.loc 23, .con (.int .i64 8)], (some (.loc 22, false))⟩, true),
  (⟨.loc 25, .pick, [.loc 22, .con (.bool true), .loc 24], none⟩, true),
  (⟨.loc 26, .mv, [.loc 25], none⟩, true),
  (⟨.loc 27, .mv, [.var 6], (some (.loc 26, false))⟩, true),
  (⟨.loc 28, .fld 1, [.var 3], (some (.loc 26, false))⟩, true),
  (⟨.loc 29, .ld false 1, [.loc 28], (some (.loc 26, false))⟩, true),
  (⟨.loc 30, .call, [.loc 27, .loc 29], (some (.loc 26, false))⟩, false),
  (⟨.loc 31, .pick, [.loc 26, .con (.bool true), .loc 30], none⟩, true),
  (⟨.loc 32, .mv, [.loc 31], none⟩, true),
  (⟨.loc 33, .mv, [.var 6], (some (.loc 32, false))⟩, true),
  (⟨.loc 34, .fld 2, [.var 3], (some (.loc 32, false))⟩, true),
  (⟨.loc 35, .ld false 1, [.loc 34], (some (.loc 32, false))⟩, true),
  (⟨.loc 36, .call, [.loc 33, .loc 35], (some (.loc 32, false))⟩, false),
  (⟨.loc 37, .pick, [.loc 32, .con (.bool true), .loc 36], none⟩, true),
  (⟨.loc 38, .mv, [.loc 37], none⟩, true),
  (⟨.loc 39, .fld 0, [.var 3], (some (.loc 38, false))⟩, true),
  (⟨.loc 40, .ld false 1, [.loc 39], (some (.loc 38, false))⟩, true),
  (⟨.loc 41, .bin .lss, [.loc 40, .con (.int .i64 0)], (some (.loc 38, false))⟩, true),
  (⟨.loc 42, .pick, [.loc 38, .con (.bool true), .loc 41], none⟩, true),
  (⟨.loc 43, .mv, [.loc 42], none⟩, true),
  (⟨.loc 44, .fld 0, [.var 3], (some (.loc 43, false))⟩, true),
  (⟨.loc 45, .ld false 1, [.loc 44], (some (.loc 43, false))⟩, true),
  (⟨.loc 46, .mv, [.var 5], (some (.loc 43, false))⟩, true),
  (⟨.loc 47, .bin .shl, [.con (.int .i64 1), .loc 46], (some (.loc 43, false))⟩, true)]
@[reducible] noncomputable def r18_4 : List RO := [
  ⟨.loc 48, .bin .geq, [.loc 45, .loc 47], (some (.loc 43, false))⟩,
  ⟨.var 13, .pick, [.loc 43, .con (.bool true), .loc 48], none⟩]
@[reducible] noncomputable def r18_5 : List RO := [
  ⟨.var 4, .mv, [.con (.bool false)], none⟩]
@[reducible] noncomputable def r18_6 : List RO := [
  ⟨.var 7, (.newb [(.lit (.slice none 0 0))]), [], none⟩]
@[reducible] noncomputable def r18_7 : List RO := [
  ⟨.loc 50, .mv, [.var 1], none⟩,
  ⟨.var 14, .call, [(.con (.fn (.func 30) [] [])), .loc 50], none⟩]
@[reducible] noncomputable def r18_8 : List RO := [
  ⟨.var 8, .mv, [.var 15], none⟩]
@[reducible] noncomputable def r18_9 : List RO := [
  ⟨.var 9, .mv, [.var 16], none⟩]
@[reducible] noncomputable def r18_10 : List (RO × Bool) := [
  (⟨.loc 54, .ld false 1, [.var 7], none⟩, true),
  (⟨.loc 55, .fld 1, [.var 3], none⟩, true),
  (⟨.loc 56, .ld false 1, [.loc 55], none⟩, true),
  (⟨.loc 57, .mv, [.var 8], none⟩, true),
  (⟨.loc 58, .ixaS 1, [.loc 56, .loc 57], none⟩, true),
  (⟨.loc 59, .ld false 1, [.loc 58], none⟩, true),
  (⟨.loc 60, .mv, [.var 9], none⟩, true),
  (⟨.loc 61, .bin .sub, [.con (.int .i64 15), .loc 60], none⟩, true),
  (⟨.loc 62, .call, [(.con (.fn (.func 31) [] [])), .loc 59, .loc 61], none⟩, true),
  (⟨.loc 63, .bsl 1, [.loc 62], none⟩, true)]
@[reducible] noncomputable def r18_11 : List RO := [
  ⟨.loc 64, .app 1 16 9, [.loc 54, .loc 63], none⟩,
  ⟨.none, .st 1, [.var 7, .loc 64], none⟩]
@[reducible] noncomputable def r18_12 : List RO := [
  ⟨.loc 65, .ld false 1, [.var 7], none⟩,
  ⟨.loc 66, .call, [(.con (.fn (.func 41) [] [])), .loc 65], none⟩,
  ⟨.var 10, .mv, [.loc 66], none⟩]
@[reducible] noncomputable def r18_13 : List RO := [
  ⟨.loc 67, .fld 2, [.var 3], none⟩,
  ⟨.var 17, .ld false 1, [.loc 67], none⟩,
  ⟨.var 18, .lenL, [.var 17], none⟩,
  ⟨.var 19, .mv, [.con (.int .i64 0)], none⟩]
@[reducible] noncomputable def r18_14 : List RO := [
  ⟨.var 20, .bin .lss, [.var 19, .var 18], none⟩]
@[reducible] noncomputable def r18_15 : List RO := [
  ⟨.loc 72, .mv, [.var 19], none⟩,
  ⟨.loc 73, .ixaS 1, [.var 17, .var 19], none⟩,
  ⟨.loc 74, .ld false 1, [.loc 73], none⟩,
  ⟨.var 11, .mv, [.loc 72], none⟩,
  ⟨.var 12, .mv, [.loc 74], none⟩]
@[reducible] noncomputable def r18_16 : List RO := [
  ⟨.loc 75, .mv, [.var 10], none⟩,
  ⟨.loc 76, .mv, [.var 12], none⟩,
  ⟨.loc 77, .fld 0, [.var 3], none⟩,
  ⟨.loc 78, .ld false 1, [.loc 77], none⟩,
  ⟨.loc 79, .mv, [.var 11], none⟩,
  ⟨.loc 80, .bin .shr, [.loc 78, .loc 79], none⟩,
  ⟨.loc 81, .bin .and, [.loc 80, .con (.int .i64 1)], none⟩,
  ⟨.loc 82, .bin .eql, [.loc 81, .con (.int .i64 1)], none⟩,
  ⟨.loc 83, .call, [(.con (.fn (.func 42) [] [])), .loc 75, .loc 76, .loc 82], none⟩,
  ⟨.var 10, .mv, [.loc 83], none⟩]
@[reducible] noncomputable def r18_17 : List RO := [
  ⟨.loc 84, .bin .add, [.var 19, .con (.int .i64 1)], none⟩,
  ⟨.var 19, .mv, [.loc 84], none⟩]
@[reducible] noncomputable def r18_18 : List RO := [
  ⟨.loc 85, .mv, [.var 10], none⟩,
  ⟨.loc 86, .mv, [.var 0], none⟩,
  ⟨.loc 87, .bin .eql, [.loc 85, .loc 86], none⟩,
  ⟨.var 4, .mv, [.loc 87], none⟩]
theorem P18 : C18.M = M := by unfold C18 E18; rfl
theorem i18 {a0 a1 a2 : D} : St.init C18 [a0, a1, a2] ⟨[], []⟩ = ⟨[a0, a1, a2, .undef, .undef, .undef, .undef, .undef, .undef, .undef, .undef, .undef, .undef, .undef, .undef, .undef, .undef, .undef, .undef, .undef, .undef], [], ⟨[], []⟩⟩ := by unfold C18 E18; rfl
noncomputable def c18 : RC := (.seq (.reg r18_0) (.seq (.reg r18_1) (.seq (.reg r18_2) (.seq (.seq (.regD r18_3 r18_4) (.cond (.var 13) (.seq (.reg r18_5) .ret) .skip)) (.seq (.reg r18_6) (.seq (.seq (.reg r18_7) (.block 0 (.rangeF (.var 14) [(.var 15), (.var 16)] (.seq (.reg r18_8) (.reg r18_9)) (.block 1 (.regD r18_10 r18_11))))) (.seq (.reg r18_12) (.seq (.seq (.reg r18_13) (.block 2 (.loop (.seq (.reg r18_14) (.seq (.cond (.var 20) .skip (.exit 2)) (.seq (.block 3 (.seq (.reg r18_15) (.reg r18_16))) (.reg r18_17))))))) (.seq (.reg r18_18) .ret)))))))))
noncomputable def q18 : List RR := [(.slot (.var 4))]
theorem z18 {n m : Nat} : resCode (E18 n m) (Tryd.f18.body.getD .skip) = some c18 := by kernel_rfl
theorem zr18 {n m : Nat} : resRs (E18 n m) Tryd.f18.results.toList = some q18 := by kernel_rfl
theorem oT18 {args : List D} {d : D} (hl : args.length = 3) (h : TWp C18 0 0 c18 (fun e n m s => (match e with | .exit _ => False | _ => True) ∧ ∃ s1, (∀ ds, Weak { C18 with n0 := n, m0 := m, dfs := ds } s s1) ∧ rrsWp q18 s1 fun ds => D.closed (oneOrTup ds) = true ∧ (oneOrTup ds).er = d) (St.init C18 args ⟨[], []⟩)) : Pur M 18 args d :=
  pur_of_bodyT (C := C18) (fn := Tryd.f18) Tryd.func18 (by kernel_rfl) (by kernel_rfl) (rc := c18) z18 (rs := q18) zr18 (by kernel_rfl) (by rw [hl]; rfl) (by rw [hl]; decide) rfl rfl h
end Go.Proofs.YtgjkhlnpplajjaaDoor
end
section
set_option maxRecDepth 100000
set_option linter.unusedSimpArgs false
set_option linter.unusedVariables false
namespace Go.Proofs.YtgjkhlnpplajjaaDoor
open Go GoV Go.RowKit
theorem index_hx (c : UInt8) : Lib.indexByte hexs c = hxv c := by
  have key : ∀ n : Fin 256, Lib.indexByte hexs (UInt8.ofNat n.val) = hxv (UInt8.ofNat n.val) := by decide +kernel
  have := key ⟨c.toNat, UInt8.toNat_lt c⟩
  simpa only [UInt8.ofNat_toNat] using this
theorem index_p (c : UInt8) : Pur M 58 [.str hexs, .int .u8 c.toNat] (.int .i64 (hxv c)) := by
  refine pur_ext (vs := [.string ⟨hexs.toArray⟩, .int .u8 c.toNat]) (v := .int .i64 (hxv c)) ⟨Tryd.f58, Tryd.func58, rfl, rfl⟩ (fun w I xs h => ?_) (fun w I => ?_) (fun w hA => ?_)
  · obtain ⟨x, xs', rfl, g1, g2⟩ := h.inv
    obtain ⟨y, ys', rfl, g3, g4⟩ := g2.inv
    simp only [Rel] at g1 g3
    rw [g4.inv_nil, g1, g3]
  · simp [Rel]
  · refine (Tryd.strings_IndexByte ⟨hexs.toArray⟩ c.toNat w).mono fun e w' hh => ?_
    obtain ⟨rfl, rfl⟩ := hh
    refine ⟨?_, Below.refl _ _⟩
    have : ((c.toNat : Int).toNat).toUInt8 = c := by simp
    rw [this, ← index_hx]
def drows (m : List UInt8) : List (List D) := (List.range 18).map fun k => [.int .i64 (k : Nat), .int .i64 ((dgt m).getD k 0 : Nat)]
theorem drows_len (m : List UInt8) : (drows m).length = 18 := by simp [drows]
theorem drows_get {m : List UInt8} {k : Nat} (h : k < 18) : (drows m)[k]? = some [.int .i64 (k : Nat), .int .i64 ((dgt m).getD k 0 : Nat)] := by simp [drows, h]
theorem dgt_lo {m : List UInt8} {k : Nat} (h : k < 16) : (dgt m).getD k 0 = (hexs16 m).getD k 0 := by
  have := hexs16_len m
  simp [dgt, List.getD, List.getElem?_append_left (show k < (hexs16 m).length by omega)]
theorem dgt_16 (m : List UInt8) : (dgt m).getD 16 0 = rest m / 16 := by
  have := hexs16_len m
  simp [dgt, List.getD, List.getElem?_append_right (show (hexs16 m).length ≤ 16 by omega), this]
theorem dgt_17 (m : List UInt8) : (dgt m).getD 17 0 = rest m % 16 := by
  have := hexs16_len m
  simp [dgt, List.getD, List.getElem?_append_right (show (hexs16 m).length ≤ 17 by omega), this]
set_option maxHeartbeats 1000000 in
theorem digits_it (m : List UInt8) (hm : m.length < 65536) : Iter M 56 [.ip [.str m]] (drows m) := by
  refine oi56 rfl fun b hpk l hY => ?_
  rw [ie56]
  unfold c56
  have h1 := pur_with (sum_p m hm) b
  have hl := sumN_len m
  have hlen := drows_len m
  rw [hlen]
  repeat' (first
    | with_reducible first | apply swp_seq | apply swp_reg | apply swp_regD | apply swp_block | apply swp_exit | apply swp_ret | apply swp_skip | apply swp_cd
    | simp only [go_sem, seval, atB_M, pe56]
    | simp (disch := omega) only [w64, w32, wu8, wu16, wu32, wu64]
    | ((with_reducible refine o_call (h1) ?he ?hc ?_); (case he | hc => first | rfl | (simp [D.erL, D.er, D.closedL, D.closed]; done)))
    | with_reducible first | apply cd_dec | apply cd_eq | apply cd_ne | apply cd_split
    | ((with_reducible refine And.intro ?hw ?_); (case hw => first | omega | rfl | exact ⟨_, _, rfl⟩ | assumption | (simp only [lN] <;> omega)))
    | with_reducible intro _)
  refine swp_fam [0, 1, 2, 3, 6, 7] (fun j : Nat => ⟨[yldD l, .ip [.str m], .int .i64 (restP m j : Nat), .str (sumN m), .undef, .undef, .int .i64 16, .int .i64 j, .undef, .undef, .undef], [], hpk j⟩)
    (fun j => j ≤ 16) (fun j => 16 - j) 0 (by omega) ?_ ?_
  · simp [keepE, St.keep, restP, hl]
  · intro j hj
    have hrp := restP_le m j
    by_cases hlt : j < 16
    · have h2 := pur_with (index_p ((sumN m).getD j 0)) b
      have h8 := hY j _ (drows_get (by omega))
      rw [dgt_lo hlt] at h8
      obtain ⟨h3, h4⟩ := hexs16_at (m := m) hlt
      rw [h3] at h2
      have h6 := restP_step (m := m) hlt
      have t1 : ((j : Nat) : Int).toNat = j := Int.toNat_natCast j
      generalize (hexs16 m).getD j 0 = d at *
      generalize hS : sumN m = S at *
      generalize hq : restP m j = q at *
      repeat' (first
    | with_reducible first | apply swp_seq | apply swp_reg | apply swp_regD | apply swp_block | apply swp_exit | apply swp_ret | apply swp_skip | apply swp_cd
    | simp only [go_sem, seval, atB_M, pe56, t1]
    | simp (disch := omega) only [w64, w32, wu8, wu16, wu32, wu64]
    | ((with_reducible refine o_call (h2) ?he ?hc ?_); (case he | hc => first | rfl | (simp [D.erL, D.er, D.closedL, D.closed, hl]; done)))
    | ((with_reducible refine o_yield (h8) ?he ?hh ?_); (case he => first | rfl | (simp [hl]; done)); (case hh => first | rfl | assumption | (simp [hl]; done)))
    | with_reducible first | apply cd_dec | apply cd_eq | apply cd_ne | apply cd_split
    | ((with_reducible refine And.intro ?hw ?_); (case hw => first | omega | rfl | exact ⟨_, _, rfl⟩ | assumption | (simp only [lN, hl] <;> omega)))
    | with_reducible intro _)
      all_goals try omega
      refine ⟨j + 1, by omega, by omega, ?_⟩
      simp only [keepE, St.keep]
      rw [h6]
      simp
      try omega
    · have e : j = 16 := by omega
      subst e
      have h8 := hY 16 _ (drows_get (by omega))
      have h9 := hY 17 _ (drows_get (by omega))
      rw [dgt_16] at h8
      rw [dgt_17] at h9
      rw [restP_all] at *
      have t1 : ((rest m : Nat) : Int).tdiv 16 = ((rest m / 16 : Nat) : Int) := by rw [Int.tdiv_eq_ediv_of_nonneg (by omega)]; omega
      have t2 : ((rest m : Nat) : Int).tmod 16 = ((rest m % 16 : Nat) : Int) := by rw [Int.tmod_eq_emod_of_nonneg (by omega)]; omega
      have bx : rest m / 16 ≤ 15 := by omega
      have by' : rest m % 16 ≤ 15 := by omega
      generalize rest m / 16 = x at *
      generalize rest m % 16 = y at *
      repeat' (first
    | with_reducible first | apply swp_seq | apply swp_reg | apply swp_regD | apply swp_block | apply swp_exit | apply swp_ret | apply swp_skip | apply swp_cd
    | simp only [go_sem, seval, atB_M, pe56, t1, t2]
    | simp (disch := omega) only [w64, w32, wu8, wu16, wu32, wu64]
    | ((with_reducible refine o_yield (h8) ?he ?hh ?_); (case he => first | rfl | (simp [hl]; done)); (case hh => first | rfl | assumption | (simp [hl]; done)))
    | ((with_reducible refine o_yield (h9) ?he ?hh ?_); (case he => first | rfl | (simp [hl]; done)); (case hh => first | rfl | assumption | (simp [hl]; done)))
    | with_reducible first | apply cd_dec | apply cd_eq | apply cd_ne | apply cd_split
    | ((with_reducible refine And.intro ?hw ?_); (case hw => first | omega | rfl | exact ⟨_, _, rfl⟩ | assumption | (simp only [lN, hl] <;> omega)))
    | with_reducible intro _)
      all_goals try omega
theorem sdigits_p (m : List UInt8) : Pur M 30 [.str m] (.fn (.func 56) [] [.ip [.str m]]) := by
  refine ow30 rfl ?_
  rw [i30]
  unfold c30
  repeat' (first
    | with_reducible first | apply swp_seq | apply swp_reg | apply swp_regD | apply swp_block | apply swp_exit | apply swp_ret | apply swp_skip | apply swp_cd
    | simp only [go_sem, seval, P30, q30]
    | simp (disch := omega) only [w64, w32, wu8, wu16, wu32, wu64]
    | with_reducible first | apply cd_dec | apply cd_eq | apply cd_ne | apply cd_split
    | ((with_reducible refine And.intro ?hw ?_); (case hw => first | omega | rfl | exact ⟨_, _, rfl⟩ | assumption | (simp only [lN] <;> omega)))
    | with_reducible intro _)
  all_goals try omega
  refine ⟨_, weak_trans (weak_keep [2]) (weak_frz 0 [.str m] rfl (Nat.le_refl 0) (by simp [D.closedL, D.closed])), ?_⟩
  simp [St.frz, keepE, D.fz, D.fzL, D.closed, D.er, D.closedL, D.erL]
def crows (l : List (List UInt8)) : List (List D) := (List.range (l.length / 2)).map fun k => [.slice [.str (l.getD (2 * k) []), .str (l.getD (2 * k + 1) [])] .no]
theorem crows_len (l : List (List UInt8)) : (crows l).length = l.length / 2 := by simp [crows]
theorem crows_get {l : List (List UInt8)} {k : Nat} (h : k < l.length / 2) : (crows l)[k]? = some [.slice [.str (l.getD (2 * k) []), .str (l.getD (2 * k + 1) [])] .no] := by simp [crows, h]
theorem pair_of {l : List (List UInt8)} {k : Nat} (h : 2 * k + 1 < l.length) : ((strs l).take (2 * k + 2)).drop (2 * k) = [.str (l.getD (2 * k) []), .str (l.getD (2 * k + 1) [])] := by
  have h1 : (strs l).length = l.length := strs_len l
  rw [List.take_succ_eq_append_getElem (by omega), List.take_succ_eq_append_getElem (by omega), List.append_assoc, List.drop_append]
  simp [List.getD, h, show 2 * k < l.length by omega, Nat.min_eq_left (show 2 * k ≤ l.length by omega)]
set_option maxHeartbeats 1000000 in
theorem chunk_it (l : List (List UInt8)) (hl : l.length ≤ 1000) (he : l.length % 2 = 0) : Iter M 71 [.ip [.slice (strs l) .no], .ip [.int .i64 2]] (crows l) := by
  refine oi71 rfl fun b hpk y hY => ?_
  rw [ie71]
  unfold c71
  have hsl : (strs l).length = l.length := strs_len l
  have hlen := crows_len l
  rw [hlen]
  have hel := elems_strs l
  repeat' (first
    | with_reducible first | apply swp_seq | apply swp_reg | apply swp_regD | apply swp_block | apply swp_exit | apply swp_ret | apply swp_skip | apply swp_cd
    | simp only [go_sem, seval, atB_M, pe71]
    | simp (disch := omega) only [w64, w32, wu8, wu16, wu32, wu64]
    | ((with_reducible first | apply s_slFF | apply t_slFF); (case hx => first | rfl | assumption | omega | ((first | refine ⟨?_, ?_⟩ | skip) <;> first | omega | (simp only [lN] <;> omega)) | (simp [elemsK, D.isVal, D.cells, D.closedL, D.closed]; first | done | omega)))
    | ((with_reducible first | apply s_slTF | apply s_slFT | apply t_slTF | apply t_slFT); (case h0 | h1 | hx => first | rfl | assumption | omega | ((first | refine ⟨?_, ?_⟩ | skip) <;> first | omega | (simp only [lN] <;> omega)) | (simp [elemsK, D.isVal, D.cells, D.closedL, D.closed]; first | done | omega)))
    | ((with_reducible first | apply s_slTT | apply t_slTT); (case h0 | h1 | h2 | hx => first | rfl | assumption | omega | ((first | refine ⟨?_, ?_⟩ | skip) <;> first | omega | (simp only [lN] <;> omega)) | (simp [elemsK, D.isVal, D.cells, D.closedL, D.closed]; first | done | omega)))
    | ((with_reducible apply s_sl3); (case h0 | h1 | h2 | h3 | hx => first | rfl | assumption | omega | ((first | refine ⟨?_, ?_⟩ | skip) <;> first | omega | (simp only [lN] <;> omega)) | (simp [elemsK, D.isVal, D.cells, D.closedL, D.closed]; first | done | omega)))
    | ((with_reducible first | apply s_smTF | apply s_smFT); (case h0 | h1 | hc => first | rfl | assumption | omega | ((first | refine ⟨?_, ?_⟩ | skip) <;> first | omega | (simp only [lN] <;> omega)) | (simp [elemsK, D.isVal, D.cells, D.closedL, D.closed]; first | done | omega)))
    | ((with_reducible apply s_smTT); (case h0 | h1 | h2 | hc => first | rfl | assumption | omega | ((first | refine ⟨?_, ?_⟩ | skip) <;> first | omega | (simp only [lN] <;> omega)) | (simp [elemsK, D.isVal, D.cells, D.closedL, D.closed]; first | done | omega)))
    | with_reducible first | apply cd_dec | apply cd_eq | apply cd_ne | apply cd_split
    | ((with_reducible refine And.intro ?hw ?_); (case hw => first | omega | rfl | exact ⟨_, _, rfl⟩ | assumption | (simp only [lN] <;> omega)))
    | with_reducible intro _)
  refine swp_fam [0, 1, 2, 3] (fun j : Nat => ⟨[yldD y, .ip [.slice (strs l) .no], .ip [.int .i64 2], .int .i64 (2 * j : Nat), .undef, .undef, .undef], [], hpk j⟩)
    (fun j => j ≤ l.length / 2) (fun j => l.length / 2 - j) 0 (by omega) ?_ ?_
  · simp [keepE, St.keep]
  · intro j hj
    by_cases hlt : j < l.length / 2
    · have h8 := hY j _ (crows_get hlt)
      have hpr := pair_of (l := l) (k := j) (by omega)
      have t1 : ((2 * j : Nat) : Int).toNat = 2 * j := Int.toNat_natCast _
      have t2 : (((2 * j : Nat) : Int) + 2).toNat = 2 * j + 2 := by omega
      generalize l.getD (2 * j) [] = p at *
      generalize l.getD (2 * j + 1) [] = q at *
      generalize strs l = L at *
      generalize hn : l.length = n at *
      have t3 : (L.drop (2 * j)).length = n - 2 * j := by simp; omega
      have tm : (if ((n - 2 * j : Nat) : Int) < 2 then ((n - 2 * j : Nat) : Int) else 2) = 2 := by split <;> omega
      repeat' (first
    | with_reducible first | apply swp_seq | apply swp_reg | apply swp_regD | apply swp_block | apply swp_exit | apply swp_ret | apply swp_skip | apply swp_cd
    | simp only [go_sem, seval, atB_M, pe71, t1, t2, hpr, hsl, t3, tm]
    | simp (disch := omega) only [w64, w32, wu8, wu16, wu32, wu64]
    | ((with_reducible refine o_yield (h8) ?he ?hh ?_); (case he => first | rfl | (simp [hsl, t3, hel]; done)); (case hh => first | rfl | assumption | (simp [hsl, t3, hel]; done)))
    | ((with_reducible first | apply s_slFF | apply t_slFF); (case hx => first | rfl | assumption | omega | ((first | refine ⟨?_, ?_⟩ | skip) <;> first | omega | (simp only [lN, hsl, t3, hel] <;> omega)) | (simp [elemsK, D.isVal, D.cells, D.closedL, D.closed, hsl, t3, hel]; first | done | omega)))
    | ((with_reducible first | apply s_slTF | apply s_slFT | apply t_slTF | apply t_slFT); (case h0 | h1 | hx => first | rfl | assumption | omega | ((first | refine ⟨?_, ?_⟩ | skip) <;> first | omega | (simp only [lN, hsl, t3, hel] <;> omega)) | (simp [elemsK, D.isVal, D.cells, D.closedL, D.closed, hsl, t3, hel]; first | done | omega)))
    | ((with_reducible first | apply s_slTT | apply t_slTT); (case h0 | h1 | h2 | hx => first | rfl | assumption | omega | ((first | refine ⟨?_, ?_⟩ | skip) <;> first | omega | (simp only [lN, hsl, t3, hel] <;> omega)) | (simp [elemsK, D.isVal, D.cells, D.closedL, D.closed, hsl, t3, hel]; first | done | omega)))
    | ((with_reducible apply s_sl3); (case h0 | h1 | h2 | h3 | hx => first | rfl | assumption | omega | ((first | refine ⟨?_, ?_⟩ | skip) <;> first | omega | (simp only [lN, hsl, t3, hel] <;> omega)) | (simp [elemsK, D.isVal, D.cells, D.closedL, D.closed, hsl, t3, hel]; first | done | omega)))
    | ((with_reducible first | apply s_smTF | apply s_smFT); (case h0 | h1 | hc => first | rfl | assumption | omega | ((first | refine ⟨?_, ?_⟩ | skip) <;> first | omega | (simp only [lN, hsl, t3, hel] <;> omega)) | (simp [elemsK, D.isVal, D.cells, D.closedL, D.closed, hsl, t3, hel]; first | done | omega)))
    | ((with_reducible apply s_smTT); (case h0 | h1 | h2 | hc => first | rfl | assumption | omega | ((first | refine ⟨?_, ?_⟩ | skip) <;> first | omega | (simp only [lN, hsl, t3, hel] <;> omega)) | (simp [elemsK, D.isVal, D.cells, D.closedL, D.closed, hsl, t3, hel]; first | done | omega)))
    | with_reducible first | apply cd_dec | apply cd_eq | apply cd_ne | apply cd_split
    | ((with_reducible refine And.intro ?hw ?_); (case hw => first | omega | rfl | exact ⟨_, _, rfl⟩ | assumption | (simp only [lN, hsl, t3, hel] <;> omega)))
    | with_reducible intro _)
      all_goals first
        | omega
        | (exfalso; omega)
        | skip
      refine ⟨j + 1, by omega, by omega, ?_⟩
      simp [keepE, St.keep]
      try omega
    · have e : j = l.length / 2 := by omega
      subst e
      repeat' (first
    | with_reducible first | apply swp_seq | apply swp_reg | apply swp_regD | apply swp_block | apply swp_exit | apply swp_ret | apply swp_skip | apply swp_cd
    | simp only [go_sem, seval, atB_M, pe71, hsl]
    | simp (disch := omega) only [w64, w32, wu8, wu16, wu32, wu64]
    | ((with_reducible first | apply s_slFF | apply t_slFF); (case hx => first | rfl | assumption | omega | ((first | refine ⟨?_, ?_⟩ | skip) <;> first | omega | (simp only [lN, hsl] <;> omega)) | (simp [elemsK, D.isVal, D.cells, D.closedL, D.closed, hsl]; first | done | omega)))
    | ((with_reducible first | apply s_slTF | apply s_slFT | apply t_slTF | apply t_slFT); (case h0 | h1 | hx => first | rfl | assumption | omega | ((first | refine ⟨?_, ?_⟩ | skip) <;> first | omega | (simp only [lN, hsl] <;> omega)) | (simp [elemsK, D.isVal, D.cells, D.closedL, D.closed, hsl]; first | done | omega)))
    | ((with_reducible first | apply s_slTT | apply t_slTT); (case h0 | h1 | h2 | hx => first | rfl | assumption | omega | ((first | refine ⟨?_, ?_⟩ | skip) <;> first | omega | (simp only [lN, hsl] <;> omega)) | (simp [elemsK, D.isVal, D.cells, D.closedL, D.closed, hsl]; first | done | omega)))
    | ((with_reducible apply s_sl3); (case h0 | h1 | h2 | h3 | hx => first | rfl | assumption | omega | ((first | refine ⟨?_, ?_⟩ | skip) <;> first | omega | (simp only [lN, hsl] <;> omega)) | (simp [elemsK, D.isVal, D.cells, D.closedL, D.closed, hsl]; first | done | omega)))
    | ((with_reducible first | apply s_smTF | apply s_smFT); (case h0 | h1 | hc => first | rfl | assumption | omega | ((first | refine ⟨?_, ?_⟩ | skip) <;> first | omega | (simp only [lN, hsl] <;> omega)) | (simp [elemsK, D.isVal, D.cells, D.closedL, D.closed, hsl]; first | done | omega)))
    | ((with_reducible apply s_smTT); (case h0 | h1 | h2 | hc => first | rfl | assumption | omega | ((first | refine ⟨?_, ?_⟩ | skip) <;> first | omega | (simp only [lN, hsl] <;> omega)) | (simp [elemsK, D.isVal, D.cells, D.closedL, D.closed, hsl]; first | done | omega)))
    | with_reducible first | apply cd_dec | apply cd_eq | apply cd_ne | apply cd_split
    | ((with_reducible refine And.intro ?hw ?_); (case hw => first | omega | rfl | exact ⟨_, _, rfl⟩ | assumption | (simp only [lN, hsl] <;> omega)))
    | with_reducible intro _)
      all_goals first
        | omega
        | (exfalso; omega)
end Go.Proofs.YtgjkhlnpplajjaaDoor
end
section
set_option maxRecDepth 100000
set_option linter.unusedSimpArgs false
set_option linter.unusedVariables false
namespace Go.Proofs.YtgjkhlnpplajjaaDoor
open Go GoV Go.RowKit
theorem chunk_p (l : List (List UInt8)) : Pur M 53 [.slice (strs l) .no, .int .i64 2] (.fn (.func 71) [] [.ip [.slice (strs l) .no], .ip [.int .i64 2]]) := by
  refine ow53 rfl ?_
  rw [i53]
  unfold c53
  have hcl := closed_strs l
  have her := erL_strs l
  generalize strs l = L at *
  repeat' (first
    | with_reducible first | apply swp_seq | apply swp_reg | apply swp_regD | apply swp_block | apply swp_exit | apply swp_ret | apply swp_skip | apply swp_cd
    | simp only [go_sem, seval, P53, q53]
    | simp (disch := omega) only [w64, w32, wu8, wu16, wu32, wu64]
    | with_reducible first | apply cd_dec | apply cd_eq | apply cd_ne | apply cd_split
    | ((with_reducible refine And.intro ?hw ?_); (case hw => first | omega | rfl | exact ⟨_, _, rfl⟩ | assumption | (simp only [lN] <;> omega)))
    | with_reducible intro _)
  all_goals try omega
  refine ⟨_, weak_trans (weak_keep [4]) (weak_trans (weak_frz 0 [.slice L .no] rfl (Nat.le_refl 0) (by simp [D.closedL, D.closed, hcl])) (weak_frz 1 [.int .i64 2] rfl (Nat.zero_le _) (by simp [D.closedL, D.closed]))), ?_⟩
  simp [St.frz, keepE, D.fz, D.fzL, D.closed, D.er, D.closedL, D.erL, hcl, her]
theorem get_small {l : List (List UInt8)} (h : ∀ x ∈ l, x.length ≤ 1000) {i : Nat} : (l.getD i []).length ≤ 1000 := by
  by_cases hi : i < l.length
  · have : l.getD i [] = l[i] := by simp [List.getD, hi]
    rw [this]; exact h _ (List.getElem_mem hi)
  · have : l.getD i [] = [] := by simp [List.getD, List.getElem?_eq_none (Nat.le_of_not_lt hi)]
    rw [this]; simp
def hpA (l : List (List UInt8)) (k : Nat) : Hp := ⟨[.cells [.slice (strs ((up l).take k)) (.tok 0)]], [.per 1 k]⟩
set_option maxHeartbeats 1000000 in
theorem above_p (l : List (List UInt8)) (hl : l.length ≤ 1000) (he : l.length % 2 = 0) (hx : ∀ x ∈ l, x.length ≤ 1000) : Pur M 27 [.slice (strs l) .no] (.slice (strs (up l)) .no) := by
  refine oT27 rfl ?_
  rw [i27]
  unfold c27
  have h1 := chunk_p l
  have hit := chunk_it l hl he
  have hul := up_len l
  repeat' (first
    | with_reducible first | apply swp_seq | apply swp_reg | apply swp_regD | apply swp_block | apply swp_exit | apply swp_ret | apply swp_skip | apply swp_cd
    | with_reducible apply twp_seq
    | with_reducible apply twp_block
    | ((with_reducible refine twp_reg ?hb ?_); (case hb => exact fun _ _ => trivial); with_reducible intro _)
    | ((with_reducible refine twp_regD ?hb ?_); (case hb => exact fun _ _ => trivial); with_reducible intro _)
    | ((with_reducible refine twp_cond ?hb ?_); (case hb => exact fun _ _ => trivial); with_reducible intro _)
    | ((with_reducible refine twp_ret ?hb ?_); (case hb => exact fun _ _ => trivial))
    | simp only [go_sem, seval, P27, q27]
    | simp (disch := omega) only [w64, w32, wu8, wu16, wu32, wu64]
    | ((with_reducible first | refine o_call (h1) ?he ?hc ?_ | refine p_call (h1) ?he ?hc ?_ | refine c_call (h1) ?he ?hc ?_); (case he | hc => first | rfl | (simp [D.erL, D.er, D.closedL, D.closed]; done)))
    | ((with_reducible apply s_appT); (case he => rfl); (case hK | hc | hr | hV => first | rfl | assumption | omega | ((first | refine ⟨?_, ?_⟩ | skip) <;> first | omega | (simp only [lN] <;> omega)) | (simp [elemsK, D.isVal, D.cells, D.closedL, D.closed]; first | done | omega)))
    | ((with_reducible apply s_appG); (case he => rfl); (case hV | hK | hr | hl => first | rfl | assumption | omega | ((first | refine ⟨?_, ?_⟩ | skip) <;> first | omega | (simp only [lN] <;> omega)) | (simp [elemsK, D.isVal, D.cells, D.closedL, D.closed]; first | done | omega)))
    | ((with_reducible apply s_app0); (case he => rfl); (case hK | hc | hr => first | rfl | assumption | omega | ((first | refine ⟨?_, ?_⟩ | skip) <;> first | omega | (simp only [lN] <;> omega)) | (simp [elemsK, D.isVal, D.cells, D.closedL, D.closed]; first | done | omega)))
    | ((with_reducible apply s_appF); (case he => rfl); (case hK | hc | hr | hx | hn => first | rfl | assumption | omega | ((first | refine ⟨?_, ?_⟩ | skip) <;> first | omega | (simp only [lN] <;> omega)) | (simp [elemsK, D.isVal, D.cells, D.closedL, D.closed]; first | done | omega)))
    | ((with_reducible first | apply s_bsl | apply t_bsl); (case he | hl | hc => first | rfl | assumption | omega | ((first | refine ⟨?_, ?_⟩ | skip) <;> first | omega | (simp only [lN] <;> omega)) | (simp [elemsK, D.isVal, D.cells, D.closedL, D.closed]; first | done | omega)))
    | with_reducible first | apply cd_dec | apply cd_eq | apply cd_ne | apply cd_split
    | ((with_reducible refine And.intro ?hw ?_); (case hw => first | omega | rfl | exact ⟨_, _, rfl⟩ | assumption | (simp only [lN] <;> omega)))
    | with_reducible intro _)
  refine twp_weak (fun _ => weak_newC 0 0 1 (by decide) rfl rfl) (show TWp C27 0 0 _ _ ⟨[.slice (strs l) .no, .lit (.slice none 0 0), .ptr 0 0, .undef, .fn (.func 71) [] [.ip [.slice (strs l) .no], .ip [.int .i64 2]], .undef], [], hpA l 0⟩ from ?_)
  refine twp_range (fun _ _ => trivial) hit (hpA l) rfl ?_ rfl ?_ ?_
  · intro r hr
    obtain ⟨k, _, rfl⟩ := List.mem_map.1 hr
    rfl
  · intro k r hk
    have hlt : k < l.length / 2 := by rw [← crows_len]; exact (List.getElem?_eq_some_iff.1 hk).1
    rw [crows_get hlt] at hk
    cases hk
    have h2 := node_p (l.getD (2 * k) []) (l.getD (2 * k + 1) []) false (get_small hx) (get_small hx)
    have hut := up_take (l := l) (j := k) (by omega)
    have hT : ((up l).take k).length = k := by rw [List.length_take]; omega
    have hp : par (l.getD (2 * k) []) (l.getD (2 * k + 1) []) false = nod (l.getD (2 * k) []) (l.getD (2 * k + 1) []) := rfl
    rw [hp] at h2
    simp only [hpA, hut]
    generalize nod (l.getD (2 * k) []) (l.getD (2 * k + 1) []) = z at *
    generalize l.getD (2 * k) [] = p at *
    generalize l.getD (2 * k + 1) [] = q at *
    generalize (up l).take k = T at *
    have hT' := strs_len T
    have hs : strs (T ++ [z]) = strs T ++ [.str z] := by simp
    rw [hs]
    simp only [binds]
    repeat' (first
    | with_reducible first | apply swp_seq | apply swp_reg | apply swp_regD | apply swp_block | apply swp_exit | apply swp_ret | apply swp_skip | apply swp_cd
    | with_reducible apply twp_seq
    | with_reducible apply twp_block
    | ((with_reducible refine twp_reg ?hb ?_); (case hb => exact fun _ _ => trivial); with_reducible intro _)
    | ((with_reducible refine twp_regD ?hb ?_); (case hb => exact fun _ _ => trivial); with_reducible intro _)
    | ((with_reducible refine twp_cond ?hb ?_); (case hb => exact fun _ _ => trivial); with_reducible intro _)
    | ((with_reducible refine twp_ret ?hb ?_); (case hb => exact fun _ _ => trivial))
    | simp only [go_sem, seval, P27, q27]
    | simp (disch := omega) only [w64, w32, wu8, wu16, wu32, wu64]
    | ((with_reducible first | refine o_call (h2) ?he ?hc ?_ | refine p_call (h2) ?he ?hc ?_ | refine c_call (h2) ?he ?hc ?_); (case he | hc => first | rfl | (simp [D.erL, D.er, D.closedL, D.closed, hT', hT]; done)))
    | ((with_reducible apply s_appT); (case he => rfl); (case hK | hc | hr | hV => first | rfl | assumption | omega | ((first | refine ⟨?_, ?_⟩ | skip) <;> first | omega | (simp only [lN, hT', hT] <;> omega)) | (simp [elemsK, D.isVal, D.cells, D.closedL, D.closed, hT', hT]; first | done | omega)))
    | ((with_reducible apply s_appG); (case he => rfl); (case hV | hK | hr | hl => first | rfl | assumption | omega | ((first | refine ⟨?_, ?_⟩ | skip) <;> first | omega | (simp only [lN, hT', hT] <;> omega)) | (simp [elemsK, D.isVal, D.cells, D.closedL, D.closed, hT', hT]; first | done | omega)))
    | ((with_reducible apply s_app0); (case he => rfl); (case hK | hc | hr => first | rfl | assumption | omega | ((first | refine ⟨?_, ?_⟩ | skip) <;> first | omega | (simp only [lN, hT', hT] <;> omega)) | (simp [elemsK, D.isVal, D.cells, D.closedL, D.closed, hT', hT]; first | done | omega)))
    | ((with_reducible apply s_appF); (case he => rfl); (case hK | hc | hr | hx | hn => first | rfl | assumption | omega | ((first | refine ⟨?_, ?_⟩ | skip) <;> first | omega | (simp only [lN, hT', hT] <;> omega)) | (simp [elemsK, D.isVal, D.cells, D.closedL, D.closed, hT', hT]; first | done | omega)))
    | ((with_reducible first | apply s_bsl | apply t_bsl); (case he | hl | hc => first | rfl | assumption | omega | ((first | refine ⟨?_, ?_⟩ | skip) <;> first | omega | (simp only [lN, hT', hT] <;> omega)) | (simp [elemsK, D.isVal, D.cells, D.closedL, D.closed, hT', hT]; first | done | omega)))
    | with_reducible first | apply cd_dec | apply cd_eq | apply cd_ne | apply cd_split
    | ((with_reducible refine And.intro ?hw ?_); (case hw => first | omega | rfl | exact ⟨_, _, rfl⟩ | assumption | (simp only [lN, hT', hT] <;> omega)))
    | with_reducible intro _)
    all_goals try omega
    exact ⟨_, weak_refl, by simp [hT', hT]⟩
  · have hh : hpA l (crows l).length = ⟨[.cells [.slice (strs (up l)) (.tok 0)]], [.per 1 (l.length / 2)]⟩ := by
      rw [crows_len]
      unfold hpA
      rw [List.take_of_length_le (by omega)]
    rw [hh]
    simp only []
    have hcl := closed_strs (up l)
    have her := erL_strs (up l)
    generalize strs (up l) = L at *
    repeat' (first
    | with_reducible first | apply swp_seq | apply swp_reg | apply swp_regD | apply swp_block | apply swp_exit | apply swp_ret | apply swp_skip | apply swp_cd
    | with_reducible apply twp_seq
    | with_reducible apply twp_block
    | ((with_reducible refine twp_reg ?hb ?_); (case hb => exact fun _ _ => trivial); with_reducible intro _)
    | ((with_reducible refine twp_regD ?hb ?_); (case hb => exact fun _ _ => trivial); with_reducible intro _)
    | ((with_reducible refine twp_cond ?hb ?_); (case hb => exact fun _ _ => trivial); with_reducible intro _)
    | ((with_reducible refine twp_ret ?hb ?_); (case hb => exact fun _ _ => trivial))
    | simp only [go_sem, seval, P27, q27]
    | simp (disch := omega) only [w64, w32, wu8, wu16, wu32, wu64]
    | ((with_reducible apply s_appT); (case he => rfl); (case hK | hc | hr | hV => first | rfl | assumption | omega | ((first | refine ⟨?_, ?_⟩ | skip) <;> first | omega | (simp only [lN] <;> omega)) | (simp [elemsK, D.isVal, D.cells, D.closedL, D.closed]; first | done | omega)))
    | ((with_reducible apply s_appG); (case he => rfl); (case hV | hK | hr | hl => first | rfl | assumption | omega | ((first | refine ⟨?_, ?_⟩ | skip) <;> first | omega | (simp only [lN] <;> omega)) | (simp [elemsK, D.isVal, D.cells, D.closedL, D.closed]; first | done | omega)))
    | ((with_reducible apply s_app0); (case he => rfl); (case hK | hc | hr => first | rfl | assumption | omega | ((first | refine ⟨?_, ?_⟩ | skip) <;> first | omega | (simp only [lN] <;> omega)) | (simp [elemsK, D.isVal, D.cells, D.closedL, D.closed]; first | done | omega)))
    | ((with_reducible apply s_appF); (case he => rfl); (case hK | hc | hr | hx | hn => first | rfl | assumption | omega | ((first | refine ⟨?_, ?_⟩ | skip) <;> first | omega | (simp only [lN] <;> omega)) | (simp [elemsK, D.isVal, D.cells, D.closedL, D.closed]; first | done | omega)))
    | ((with_reducible first | apply s_bsl | apply t_bsl); (case he | hl | hc => first | rfl | assumption | omega | ((first | refine ⟨?_, ?_⟩ | skip) <;> first | omega | (simp only [lN] <;> omega)) | (simp [elemsK, D.isVal, D.cells, D.closedL, D.closed]; first | done | omega)))
    | with_reducible first | apply cd_dec | apply cd_eq | apply cd_ne | apply cd_split
    | ((with_reducible refine And.intro ?hw ?_); (case hw => first | omega | rfl | exact ⟨_, _, rfl⟩ | assumption | (simp only [lN] <;> omega)))
    | with_reducible intro _)
    refine ⟨_, fun _ => weak_refl, ?_⟩
    simp [D.closed, D.er, hcl, her]
end Go.Proofs.YtgjkhlnpplajjaaDoor
end
section
set_option linter.unusedSimpArgs false
set_option linter.unusedVariables false
namespace Go.Proofs.YtgjkhlnpplajjaaDoor
open Go GoV
def Inj (S : List UInt8 → Prop) : Prop := ∀ a b, S a → S b → sumN a = sumN b → a = b
theorem chn_back {S : List UInt8 → Prop} (hS : Inj S) : ∀ (e d : Nat) (g s : List UInt8), (∀ j, j < e → S (chn j g)) → (∀ j, j < d + e → S (chn j s)) → chn e g = chn (d + e) s → g = chn d s
  | 0, d, g, s, _, _, h => h
  | e + 1, d, g, s, h1, h2, h => by
    rw [chn_succ, show d + (e + 1) = (d + e) + 1 by omega, chn_succ] at h
    have := hS _ _ (h1 e (by omega)) (h2 (d + e) (by omega)) h
    exact chn_back hS e d g s (fun j hj => h1 j (by omega)) (fun j hj => h2 j (by omega)) this
/-! ### Trees, from above -/

def nodeR (s : List UInt8) : Nat → Nat → List UInt8
  | 0, o => key s o
  | h + 1, o => nod (nodeR s h o) (nodeR s h (o + 2 ^ h))
def pathR (s : List UInt8) : Nat → Nat → Nat → List (List UInt8)
  | 0, _, _ => []
  | h + 1, o, i => pathR s h (if (i / 2 ^ h) % 2 == 1 then o + 2 ^ h else o) (i % 2 ^ h) ++ [nodeR s h (if (i / 2 ^ h) % 2 == 1 then o else o + 2 ^ h)]
def nodeS (s : List UInt8) : Nat → Nat → List UInt8 → Prop
  | 0, o, t => t = keyT s o
  | h + 1, o, t => t = nodT (nodeR s h o) (nodeR s h (o + 2 ^ h)) ∨ nodeS s h o t ∨ nodeS s h (o + 2 ^ h) t
def climbT : List UInt8 → List (List UInt8) → Nat → List (List UInt8)
  | _, [], _ => []
  | a, x :: p, i => (if i % 2 == 1 then nodT x a else nodT a x) :: climbT (par a x (i % 2 == 1)) p (i / 2)
theorem par_sum (a x : List UInt8) (b : Bool) : par a x b = sumN (if b then nodT x a else nodT a x) := by cases b <;> rfl
theorem climb_snoc : ∀ (p : List (List UInt8)) (a x : List UInt8) (i : Nat), climb a (p ++ [x]) i = par (climb a p i) x ((i / 2 ^ p.length) % 2 == 1)
  | [], a, x, i => by simp [climb]
  | y :: p, a, x, i => by
    simp only [List.cons_append, climb, climb_snoc p, List.length_cons]
    rw [Nat.div_div_eq_div_mul, show 2 * 2 ^ p.length = 2 ^ (p.length + 1) by rw [Nat.pow_succ, Nat.mul_comm]]
theorem climbT_snoc : ∀ (p : List (List UInt8)) (a x : List UInt8) (i : Nat), climbT a (p ++ [x]) i = climbT a p i ++ [if (i / 2 ^ p.length) % 2 == 1 then nodT x (climb a p i) else nodT (climb a p i) x]
  | [], a, x, i => by simp [climb, climbT]
  | y :: p, a, x, i => by
    simp only [List.cons_append, climb, climbT, climbT_snoc p, List.length_cons]
    rw [Nat.div_div_eq_div_mul, show 2 * 2 ^ p.length = 2 ^ (p.length + 1) by rw [Nat.pow_succ, Nat.mul_comm]]
theorem mod_half (i n : Nat) : (i % 2 ^ (n + 1)) % 2 = i % 2 ∧ (i % 2 ^ (n + 1)) / 2 = (i / 2) % 2 ^ n := by
  have h : 2 ^ (n + 1) = 2 * 2 ^ n := by rw [Nat.pow_succ, Nat.mul_comm]
  rw [h]
  constructor
  · exact Nat.mod_mul_right_mod i 2 (2 ^ n)
  · exact Nat.mod_mul_right_div_self i 2 (2 ^ n)
theorem climb_low : ∀ (p : List (List UInt8)) (a : List UInt8) (i : Nat), climb a p i = climb a p (i % 2 ^ p.length)
  | [], a, i => rfl
  | y :: p, a, i => by
    obtain ⟨h1, h2⟩ := mod_half i p.length
    simp only [climb, List.length_cons, h1, h2]
    exact climb_low p _ _
theorem climbT_low : ∀ (p : List (List UInt8)) (a : List UInt8) (i : Nat), climbT a p i = climbT a p (i % 2 ^ p.length)
  | [], a, i => rfl
  | y :: p, a, i => by
    obtain ⟨h1, h2⟩ := mod_half i p.length
    simp only [climbT, List.length_cons, h1, h2]
    rw [climbT_low p _ (i / 2)]
theorem nodT_ne {a b : List UInt8} {l : List (List UInt8)} (h : l.length = 18) : nodT a b ≠ joined l := by
  intro e
  have := joined_inj _ _ e
  rw [← this] at h
  simp at h
theorem topdown {S : List UInt8 → Prop} (hS : Inj S) (s : List UInt8) {l : List (List UInt8)} (hl : l.length = 18) (hT : S (joined l)) :
    ∀ (h o : Nat) (p : List (List UInt8)) (i : Nat), (∀ t, nodeS s h o t → S t) → (∀ t ∈ climbT (sumN (joined l)) p i, S t) → i < 2 ^ p.length →
      climb (sumN (joined l)) p i = nodeR s h o → p.length = h ∧ l = ends s (o + i) ∧ p = pathR s h o i
  | 0, o, p, i, h1, h2, hi, he => by
    have hk : S (keyT s o) := h1 _ rfl
    rcases List.eq_nil_or_concat p with rfl | ⟨q, x, rfl⟩
    · have hi0 : i = 0 := by simpa using hi
      subst hi0
      have := hS _ _ hT hk he
      exact ⟨rfl, joined_inj _ _ this, rfl⟩
    · exfalso
      simp only [List.concat_eq_append] at *
      rw [climb_snoc, par_sum] at he
      rw [climbT_snoc] at h2
      have h3 := h2 _ (List.mem_append.2 (.inr (List.mem_singleton.2 rfl)))
      have := hS _ _ h3 hk he
      have he18 : (ends s o).length = 18 := by simp [ends]
      split at this <;> exact nodT_ne he18 this
  | h + 1, o, p, i, h1, h2, hi, he => by
    have hk : S (nodT (nodeR s h o) (nodeR s h (o + 2 ^ h))) := h1 _ (.inl rfl)
    rcases List.eq_nil_or_concat p with rfl | ⟨q, x, rfl⟩
    · exfalso
      exact nodT_ne hl (hS _ _ hk hT he.symm)
    · simp only [List.concat_eq_append] at *
      rw [climb_snoc, par_sum] at he
      rw [climbT_snoc] at h2
      have h3 := h2 _ (List.mem_append.2 (.inr (List.mem_singleton.2 rfl)))
      have h4 := hS _ _ h3 hk he
      have hlen : (q ++ [x]).length = q.length + 1 := by simp
      rw [hlen] at hi ⊢
      have hq : 0 < 2 ^ q.length := Nat.pow_pos (by omega)
      have hp : 2 ^ (q.length + 1) = 2 ^ q.length * 2 := Nat.pow_succ ..
      have hlow : ∀ t ∈ climbT (sumN (joined l)) q (i % 2 ^ q.length), S t := by
        intro t ht
        rw [← climbT_low] at ht
        exact h2 t (List.mem_append.2 (.inl ht))
      have hmod : i % 2 ^ q.length < 2 ^ q.length := Nat.mod_lt _ hq
      have hdm := Nat.div_add_mod i (2 ^ q.length)
      have hd2 : i / 2 ^ q.length < 2 := by rw [Nat.div_lt_iff_lt_mul hq]; omega
      by_cases hb : (i / 2 ^ q.length) % 2 = 1
      · have hb1 : i / 2 ^ q.length = 1 := by
          revert hb hd2; generalize i / 2 ^ q.length = z; intro hb hd2; omega
        have hb' : ((i / 2 ^ q.length) % 2 == 1) = true := by simp [hb]
        rw [if_pos hb'] at h4
        obtain ⟨e1, e2⟩ := nodT_inj h4
        rw [climb_low] at e2
        obtain ⟨r1, r2, r3⟩ := topdown hS s hl hT h (o + 2 ^ h) q (i % 2 ^ q.length) (fun t ht => h1 t (.inr (.inr ht))) hlow hmod e2
        subst r1
        rw [hb1] at hdm
        refine ⟨rfl, by rw [r2]; congr 1; omega, ?_⟩
        simp only [pathR]
        rw [if_pos hb', if_pos hb', ← e1, ← r3]
      · have hb1 : i / 2 ^ q.length = 0 := by
          revert hb hd2; generalize i / 2 ^ q.length = z; intro hb hd2; omega
        have hb' : ¬((i / 2 ^ q.length) % 2 == 1) = true := by simp [hb]
        rw [if_neg hb'] at h4
        obtain ⟨e1, e2⟩ := nodT_inj h4
        rw [climb_low] at e1
        obtain ⟨r1, r2, r3⟩ := topdown hS s hl hT h o q (i % 2 ^ q.length) (fun t ht => h1 t (.inr (.inl ht))) hlow hmod e1
        subst r1
        rw [hb1] at hdm
        refine ⟨rfl, by rw [r2]; congr 1; omega, ?_⟩
        simp only [pathR]
        rw [if_neg hb', if_neg hb', ← e2, ← r3]
theorem range_two (f : Nat → List UInt8) : (List.range 2).map f = [f 0, f 1] := rfl
theorem range_four (f : Nat → List UInt8) : (List.range 4).map f = [f 0, f 1, f 2, f 3] := rfl
theorem pub_R {s : List UInt8} {h : Nat} (hh : h ≤ 2) : pub s h = nodeR s h 0 := by
  unfold pub keys
  have : h = 0 ∨ h = 1 ∨ h = 2 := by omega
  rcases this with rfl | rfl | rfl
  · rw [rootL_one (by simp)]; rfl
  · show rootL ((List.range 2).map (key s)) = _
    rw [range_two, rootL_up (by simp), rootL_one (by simp [up])]
    rfl
  · show rootL ((List.range 4).map (key s)) = _
    rw [range_four, rootL_up (by simp), rootL_up (by simp [up]), rootL_one (by simp [up])]
    rfl
theorem path_R {s : List UInt8} {h i : Nat} (hh : h ≤ 2) (hi : i < 2 ^ h) : pathL (keys s (2 ^ h)) i = pathR s h 0 i := by
  unfold keys
  have : h = 0 ∨ h = 1 ∨ h = 2 := by omega
  rcases this with rfl | rfl | rfl
  · rw [pathL_one (by simp)]; rfl
  · show pathL ((List.range 2).map (key s)) i = _
    rw [range_two, pathL_up (by simp), pathL_one (by simp [up])]
    have : i = 0 ∨ i = 1 := by simp at hi; omega
    rcases this with rfl | rfl <;> simp [pathR, nodeR]
  · show pathL ((List.range 4).map (key s)) i = _
    rw [range_four, pathL_up (by simp), pathL_up (by simp [up]), pathL_one (by simp [up])]
    have : i = 0 ∨ i = 1 ∨ i = 2 ∨ i = 3 := by simp at hi; omega
    rcases this with rfl | rfl | rfl | rfl <;> simp [pathR, nodeR, up]
/-! ### What is digested -/

def chnL (t : List UInt8) (n : Nat) : List (List UInt8) := (List.range (n + 1)).map fun j => chn j t
theorem mem_chnL {t : List UInt8} {n j : Nat} (h : j ≤ n) : chn j t ∈ chnL t n := List.mem_map.2 ⟨j, by simp; omega, rfl⟩
def pairsT : List (List UInt8) → List (List UInt8)
  | a :: b :: l => nodT a b :: pairsT l
  | _ => []
def nodesL (l : List (List UInt8)) : List (List UInt8) := if 1 < l.length then pairsT l ++ nodesL (up l) else []
  termination_by l.length
  decreasing_by rw [up_len]; omega
theorem nodesL_up {l : List (List UInt8)} (h : 1 < l.length) : nodesL l = pairsT l ++ nodesL (up l) := by rw [nodesL, if_pos h]
theorem nodesL_one {l : List (List UInt8)} (h : l.length ≤ 1) : nodesL l = [] := by rw [nodesL, if_neg (by omega)]
def madeK (s : List UInt8) (i n k : Nat) : List (List UInt8) := startT s i k :: chnL (start s i k) n
def madeI (s : List UInt8) (n i : Nat) : List (List UInt8) := ((List.range 18).map (madeK s i n)).flatten ++ [keyT s i]
def made (s : List UInt8) (h n : Nat) : List (List UInt8) := ((List.range (2 ^ h)).map (madeI s n)).flatten ++ nodesL (keys s (2 ^ h))
def checked (m : List UInt8) (x : Seal) : List (List UInt8) :=
  ((List.range 18).map fun k => chnL (x.sig.getD k []) (15 - (dgt m).getD k 0)).flatten ++ [joined (ends' m x.sig)] ++ climbT (sumN (joined (ends' m x.sig))) x.path x.idx.toNat
theorem made_start {s : List UInt8} {h n i k : Nat} (hi : i < 2 ^ h) (hk : k < 18) : startT s i k ∈ made s h n := by
  refine List.mem_append.2 (.inl (List.mem_flatten.2 ⟨madeI s n i, List.mem_map.2 ⟨i, by simpa using hi, rfl⟩, ?_⟩))
  exact List.mem_append.2 (.inl (List.mem_flatten.2 ⟨madeK s i n k, List.mem_map.2 ⟨k, by simpa using hk, rfl⟩, List.mem_cons_self ..⟩))
theorem made_chn {s : List UInt8} {h n i k j : Nat} (hi : i < 2 ^ h) (hk : k < 18) (hj : j ≤ n) : chn j (start s i k) ∈ made s h n := by
  refine List.mem_append.2 (.inl (List.mem_flatten.2 ⟨madeI s n i, List.mem_map.2 ⟨i, by simpa using hi, rfl⟩, ?_⟩))
  exact List.mem_append.2 (.inl (List.mem_flatten.2 ⟨madeK s i n k, List.mem_map.2 ⟨k, by simpa using hk, rfl⟩, List.mem_cons_of_mem _ (mem_chnL hj)⟩))
theorem made_key {s : List UInt8} {h n i : Nat} (hi : i < 2 ^ h) : keyT s i ∈ made s h n := by
  refine List.mem_append.2 (.inl (List.mem_flatten.2 ⟨madeI s n i, List.mem_map.2 ⟨i, by simpa using hi, rfl⟩, ?_⟩))
  exact List.mem_append.2 (.inr (List.mem_singleton.2 rfl))
theorem made_nodes {s : List UInt8} {h n : Nat} (hh : h ≤ 2) : ∀ t, nodeS s h 0 t → t ∈ made s h n := by
  have : h = 0 ∨ h = 1 ∨ h = 2 := by omega
  intro t ht
  have hn : ∀ t, t ∈ nodesL (keys s (2 ^ h)) → t ∈ made s h n := fun t h => List.mem_append.2 (.inr h)
  unfold keys at hn
  rcases this with rfl | rfl | rfl
  · simp only [nodeS] at ht; subst ht; exact made_key (by omega)
  · have e : nodesL ((List.range (2 ^ 1)).map (key s)) = [nodT (key s 0) (key s 1)] := by
      show nodesL ((List.range 2).map (key s)) = _
      rw [range_two, nodesL_up (by simp), nodesL_one (by simp [up])]; rfl
    rw [e] at hn
    simp only [nodeS, nodeR] at ht
    rcases ht with rfl | rfl | rfl
    · exact hn _ (by simp)
    · exact made_key (by omega)
    · exact made_key (by omega)
  · have e : nodesL ((List.range (2 ^ 2)).map (key s)) = [nodT (key s 0) (key s 1), nodT (key s 2) (key s 3), nodT (nod (key s 0) (key s 1)) (nod (key s 2) (key s 3))] := by
      show nodesL ((List.range 4).map (key s)) = _
      rw [range_four, nodesL_up (by simp), nodesL_up (by simp [up]), nodesL_one (by simp [up])]; rfl
    rw [e] at hn
    simp only [nodeS, nodeR] at ht
    rcases ht with rfl | (rfl | rfl | rfl) | (rfl | rfl | rfl)
    · exact hn _ (by simp)
    · exact hn _ (by simp)
    · exact made_key (by omega)
    · exact made_key (by omega)
    · exact hn _ (by simp)
    · exact made_key (by omega)
    · exact made_key (by omega)
theorem checked_chn {m : List UInt8} {x : Seal} {k j : Nat} (hk : k < 18) (hj : j ≤ 15 - (dgt m).getD k 0) : chn j (x.sig.getD k []) ∈ checked m x :=
  List.mem_append.2 (.inl (List.mem_append.2 (.inl (List.mem_flatten.2 ⟨_, List.mem_map.2 ⟨k, by simpa using hk, rfl⟩, mem_chnL hj⟩))))
theorem checked_key {m : List UInt8} {x : Seal} : joined (ends' m x.sig) ∈ checked m x :=
  List.mem_append.2 (.inl (List.mem_append.2 (.inr (List.mem_singleton.2 rfl))))
theorem checked_climb {m : List UInt8} {x : Seal} : ∀ t ∈ climbT (sumN (joined (ends' m x.sig))) x.path x.idx.toNat, t ∈ checked m x := fun t ht => List.mem_append.2 (.inr ht)
/-! ### The laws -/

theorem okS_parts {x : Seal} (h : okS x = true) : x.sig.length = 18 ∧ x.path.length ≤ 8 ∧ (∀ t ∈ x.sig, isD t = true) ∧ (∀ t ∈ x.path, isD t = true) ∧ 0 ≤ x.idx ∧ x.idx < 2 ^ x.path.length := by
  unfold okS at h
  simp only [Bool.and_eq_true, decide_eq_true_eq, List.all_eq_true] at h
  obtain ⟨⟨⟨⟨⟨h1, h2⟩, h3⟩, h4⟩, h5⟩, h6⟩ := h
  exact ⟨h1, h2, h3, h4, h5, h6⟩
theorem map_ext18 {f g : Nat → List UInt8} (h : (List.range 18).map f = (List.range 18).map g) : ∀ k, k < 18 → f k = g k := by
  intro k hk
  have := congrArg (fun l => l[k]?) h
  simpa [hk] using this
theorem sound {S : List UInt8 → Prop} (hS : Inj S) {s m : List UInt8} {h n : Nat} (hh : h ≤ 2) (hn : 15 ≤ n) {x : Seal} (hm : ∀ t ∈ made s h n, S t) (hc : ∀ t ∈ checked m x, S t) (hv : ver (pub s h) m x = true) :
    ∃ i, i < 2 ^ h ∧ x = sgn s h i m := by
  unfold ver at hv
  simp only [Bool.and_eq_true, beq_iff_eq] at hv
  obtain ⟨h1, h2⟩ := hv
  obtain ⟨c1, c2, c3, c4, c5, c6⟩ := okS_parts h1
  have hi : x.idx.toNat < 2 ^ x.path.length := by
    have : ((x.idx.toNat : Nat) : Int) < ((2 ^ x.path.length : Nat) : Int) := by
      rw [Int.toNat_of_nonneg c5]; exact_mod_cast c6
    exact_mod_cast this
  have hl : (ends' m x.sig).length = 18 := by simp [ends']
  rw [pub_R hh] at h2
  obtain ⟨r1, r2, r3⟩ := topdown hS s hl (hc _ checked_key) h 0 x.path x.idx.toNat (fun t ht => hm _ (made_nodes hh t ht)) (fun t ht => hc _ (checked_climb t ht)) hi h2
  rw [Nat.zero_add] at r2
  rw [r1] at hi
  refine ⟨x.idx.toNat, hi, ?_⟩
  have hk : ∀ k, k < 18 → x.sig.getD k [] = chn ((dgt m).getD k 0) (start s x.idx.toNat k) := by
    intro k hk
    have e := map_ext18 r2 k hk
    have hd := dgt_get m k
    refine chn_back hS (15 - (dgt m).getD k 0) _ _ _ (fun j hj => hc _ (checked_chn hk (by omega))) (fun j hj => hm _ (made_chn hi hk (by omega))) ?_
    rw [e, show (dgt m).getD k 0 + (15 - (dgt m).getD k 0) = 15 by omega]
  have hsig : x.sig = (List.range 18).map fun k => chn ((dgt m).getD k 0) (start s x.idx.toNat k) := by
    apply List.ext_getElem
    · simp [c1]
    · intro k hk1 hk2
      have := hk k (by omega)
      simp only [List.getD, List.getElem?_eq_getElem hk1, Option.getD_some] at this
      simp [this]
  obtain ⟨xi, xs, xp⟩ := x
  simp only at hsig r3 c5 hi ⊢
  unfold sgn
  rw [path_R hh hi, ← r3, ← hsig]
  congr 1
  omega
theorem chn_circle {S : List UInt8 → Prop} (hS : Inj S) {s : List UInt8} {i k a b : Nat} (hst : S (startT s i k)) (hc : ∀ j, j ≤ 15 → S (chn j (start s i k))) (ha : a < b) (hb : b ≤ 15)
    (h : chn a (start s i k) = chn b (start s i k)) : False := by
  have h1 := chn_back hS a (b - a) (start s i k) (start s i k) (fun j hj => hc j (by omega)) (fun j hj => hc j (by omega)) (by rw [h]; congr 1; omega)
  obtain ⟨c, hc'⟩ : ∃ c, b - a = c + 1 := ⟨b - a - 1, by omega⟩
  rw [hc', chn_succ] at h1
  have h2 := hS _ _ hst (hc c (by omega)) h1
  cases c with
  | zero => exact joined_sum _ _ _ h2
  | succ c => rw [chn_succ] at h2; exact joined_sum _ _ _ h2
theorem hex_inj : ∀ a b : List UInt8, (∀ c ∈ a, hx c = true) → (∀ c ∈ b, hx c = true) → (a.map fun c => (hxv c).toNat) = (b.map fun c => (hxv c).toNat) → a = b
  | [], [], _, _, _ => rfl
  | [], y :: b, _, _, h => by simp at h
  | x :: a, [], _, _, h => by simp at h
  | x :: a, y :: b, h1, h2, h => by
    simp only [List.map_cons, List.cons.injEq] at h
    have hx := h1 x (List.mem_cons_self ..)
    have hy := h2 y (List.mem_cons_self ..)
    have l1 := hxv_lt hx
    have l2 := hxv_lt hy
    have e := hxv_inj hx hy (by omega)
    rw [e, hex_inj a b (fun z hz => h1 z (List.mem_cons_of_mem _ hz)) (fun z hz => h2 z (List.mem_cons_of_mem _ hz)) h.2]
theorem hexs16_inj {m o : List UInt8} (h : hexs16 m = hexs16 o) : sumN m = sumN o :=
  hex_inj _ _ (List.all_eq_true.1 (sumN_all m)) (List.all_eq_true.1 (sumN_all o)) h
theorem dgt_ne {m o : List UInt8} (h : sumN m ≠ sumN o) : ∃ k, k < 18 ∧ (dgt m).getD k 0 ≠ (dgt o).getD k 0 := by
  by_cases hx : ∃ k, k < 18 ∧ (dgt m).getD k 0 ≠ (dgt o).getD k 0
  · exact hx
  · exfalso
    refine h (hexs16_inj ?_)
    apply List.ext_getElem
    · rw [hexs16_len, hexs16_len]
    · intro k h1 h2
      have h3 : k < 18 := by rw [hexs16_len] at h1; omega
      have : (dgt m).getD k 0 = (dgt o).getD k 0 := by
        by_cases q : (dgt m).getD k 0 = (dgt o).getD k 0
        · exact q
        · exact absurd ⟨k, h3, q⟩ hx
      simpa [dgt, List.getD, List.getElem?_append_left h1, List.getElem?_append_left h2, h1, h2] using this
theorem binds {S : List UInt8 → Prop} (hS : Inj S) {s m o : List UInt8} {h n i : Nat} (hh : h ≤ 2) (hn : 15 ≤ n) (hi : i < 2 ^ h) (hm : ∀ t ∈ made s h n, S t) (hc : ∀ t ∈ checked o (sgn s h i m), S t) (hne : sumN m ≠ sumN o)
    (hv : ver (pub s h) o (sgn s h i m) = true) : False := by
  obtain ⟨j, hj, e⟩ := sound hS hh hn hm hc hv
  have e0 : (i : Int) = (j : Int) := congrArg Seal.idx e
  have : i = j := by omega
  subst this
  have e1 := map_ext18 (f := fun k => chn ((dgt m).getD k 0) (start s i k)) (g := fun k => chn ((dgt o).getD k 0) (start s i k)) (congrArg Seal.sig e)
  obtain ⟨k, hk, hd⟩ := dgt_ne hne
  have h1 := dgt_get m k
  have h2 := dgt_get o k
  have e2 := e1 k hk
  have hst := hm _ (made_start (n := n) hi hk (s := s))
  have hch : ∀ j, j ≤ 15 → S (chn j (start s i k)) := fun j hj => hm _ (made_chn hi hk (by omega))
  rcases Nat.lt_or_gt_of_ne hd with q | q
  · exact chn_circle hS hst hch q (by omega) e2
  · exact chn_circle hS hst hch q (by omega) e2.symm
theorem chn_inj {S : List UInt8 → Prop} (hS : Inj S) {d : Nat} {g g' : List UInt8} (h1 : ∀ j, j < d → S (chn j g)) (h2 : ∀ j, j < d → S (chn j g')) (h : chn d g = chn d g') : g = g' :=
  chn_back hS d 0 g g' h1 (fun j hj => h2 j (by omega)) (by rw [Nat.zero_add]; exact h)
theorem one_idx {S : List UInt8 → Prop} (hS : Inj S) {s m : List UInt8} {h n i j : Nat} (hn : 15 ≤ n) (hi : i < 2 ^ h) (hj : j < 2 ^ h) (hm : ∀ t ∈ made s h n, S t) (he : (sgn s h i m).sig = (sgn s h j m).sig) : i = j := by
  have e1 := map_ext18 (f := fun k => chn ((dgt m).getD k 0) (start s i k)) (g := fun k => chn ((dgt m).getD k 0) (start s j k)) he 0 (by omega)
  have hd := dgt_get m 0
  have e2 := chn_inj hS (fun k hk => hm _ (made_chn hi (by omega) (by omega))) (fun k hk => hm _ (made_chn hj (by omega) (by omega))) e1
  exact (startT_inj (hS _ _ (hm _ (made_start hi (by omega))) (hm _ (made_start hj (by omega))) e2)).2.1
end Go.Proofs.YtgjkhlnpplajjaaDoor
end
section
set_option maxRecDepth 100000
set_option linter.unusedSimpArgs false
set_option linter.unusedVariables false
namespace Go.Proofs.YtgjkhlnpplajjaaDoor
open Go GoV Go.RowKit
def pubR (s : List UInt8) (h : Int) : List UInt8 × Int := if 0 ≤ h ∧ h ≤ 8 then (pub s h.toNat, 0) else ([], 1)
abbrev pubD (x : List UInt8 × Int) : D := .tup [.str x.1, .int .i64 x.2]
theorem keys_small (s : List UInt8) (n : Nat) : ∀ x ∈ keys s n, x.length ≤ 1000 := by
  intro x hx
  obtain ⟨i, _, rfl⟩ := List.mem_map.1 hx
  unfold key
  rw [sumN_len]
  omega
set_option maxHeartbeats 1000000 in
theorem public_p (s : List UInt8) (h : Int) (hs : s.length ≤ 300) : Pur M 13 [.str s, .int .i64 h] (pubD (pubR s h)) := by
  refine ok13 rfl ?_
  rw [i13]
  unfold c13
  unfold pubR
  by_cases hh : 0 ≤ h ∧ h ≤ 8
  · rw [if_pos hh]
    obtain ⟨h0, h8⟩ := hh
    obtain ⟨n, rfl⟩ : ∃ n : Nat, h = n := ⟨h.toNat, by omega⟩
    have e1 : decide ((n : Int) < 0) = false := decide_eq_false (by omega)
    have e2 : decide (8 < (n : Int)) = false := decide_eq_false (by omega)
    have e3 : ((n : Nat) : Int).toNat = n := Int.toNat_natCast n
    rw [e3]
    have h1 := keys_p s n hs (by omega)
    have hl := keys_len s (2 ^ n)
    have hx := keys_small s (2 ^ n)
    unfold pub
    generalize keys s (2 ^ n) = l at *
    have hn : n ≤ 8 := by omega
    clear h0 h8
    repeat' (first
    | with_reducible first | apply swp_seq | apply swp_reg | apply swp_regD | apply swp_block | apply swp_exit | apply swp_ret | apply swp_skip | apply swp_cd
    | simp only [go_sem, seval, P13, q13, e1, e2]
    | simp (disch := omega) only [w64, w32, wu8, wu16, wu32, wu64]
    | ((with_reducible refine o_call (h1) ?he ?hc ?_); (case he | hc => first | rfl | (simp [D.erL, D.er, D.closedL, D.closed]; done)))
    | with_reducible first | apply cd_dec | apply cd_eq | apply cd_ne | apply cd_split | apply gd_dec | apply gd_eq | apply gd_ne | apply gd_split
    | ((with_reducible refine And.intro ?hw ?_); (case hw => first | omega | rfl | exact ⟨_, _, rfl⟩ | assumption | (simp only [lN] <;> omega)))
    | with_reducible intro _)
    all_goals try omega
    refine swp_fam [0, 1, 2, 3, 4] (fun p : Nat × List (List UInt8) => ⟨[.str s, .int .i64 (n : Nat), .str [], .int .i64 0, .slice (strs p.2) .no, .undef, .undef], [], ⟨[], []⟩⟩)
      (fun p => p.1 ≤ 8 ∧ p.2.length = 2 ^ p.1 ∧ (∀ x ∈ p.2, x.length ≤ 1000) ∧ rootL p.2 = rootL l) (fun p => p.1) (n, l) ⟨hn, hl, hx, rfl⟩ ?_ ?_
    · simp [keepE, St.keep]
    · rintro ⟨k, u⟩ ⟨g0, g1, g2, g3⟩
      simp only at g0 g1 g2 g3 ⊢
      have hul : (strs u).length = u.length := strs_len u
      have hp : 2 ^ k ≤ 2 ^ 8 := Nat.pow_le_pow_right (by omega) g0
      have h4 : (2 : Nat) ^ 8 = 256 := by decide
      rw [h4] at hp
      rcases k with _ | k
      · have hu1 : u.length = 1 := by simpa using g1
        have hg := strs_get (l := u) (i := 0) (by omega)
        have hr := rootL_one (l := u) (by omega)
        rw [← g3, hr]
        have t1 : (0 : Int).toNat = 0 := rfl
        generalize u.getD 0 [] = x at *
        repeat' (first
    | with_reducible first | apply swp_seq | apply swp_reg | apply swp_regD | apply swp_block | apply swp_exit | apply swp_ret | apply swp_skip | apply swp_cd
    | simp only [go_sem, seval, P13, q13, hul, t1, hg]
    | simp (disch := omega) only [w64, w32, wu8, wu16, wu32, wu64]
    | with_reducible first | apply cd_dec | apply cd_eq | apply cd_ne | apply cd_split | apply gd_dec | apply gd_eq | apply gd_ne | apply gd_split
    | ((with_reducible refine And.intro ?hw ?_); (case hw => first | omega | rfl | exact ⟨_, _, rfl⟩ | assumption | (simp only [lN, hul] <;> omega)))
    | with_reducible intro _)
        all_goals first
          | omega
          | (simp [D.closed, D.er]; done)
      · have h2 : 2 ^ (k + 1) = 2 * 2 ^ k := by rw [Nat.pow_succ, Nat.mul_comm]
        have hp2 : 0 < 2 ^ k := Nat.pow_pos (by omega)
        have h3 := above_p u (by omega) (by omega) g2
        have hr := rootL_up (l := u) (by omega)
        have hle := up_len u
        repeat' (first
    | with_reducible first | apply swp_seq | apply swp_reg | apply swp_regD | apply swp_block | apply swp_exit | apply swp_ret | apply swp_skip | apply swp_cd
    | simp only [go_sem, seval, P13, q13, hul]
    | simp (disch := omega) only [w64, w32, wu8, wu16, wu32, wu64]
    | ((with_reducible refine o_call (h3) ?he ?hc ?_); (case he | hc => first | rfl | (simp [D.erL, D.er, D.closedL, D.closed, hul]; done)))
    | with_reducible first | apply cd_dec | apply cd_eq | apply cd_ne | apply cd_split | apply gd_dec | apply gd_eq | apply gd_ne | apply gd_split
    | ((with_reducible refine And.intro ?hw ?_); (case hw => first | omega | rfl | exact ⟨_, _, rfl⟩ | assumption | (simp only [lN, hul] <;> omega)))
    | with_reducible intro _)
        all_goals try omega
        refine ⟨(k, up u), ⟨by simp only; omega, by simp only; omega, up_small u, by simp only; rw [← g3, hr]⟩, by simp only; omega, ?_⟩
        simp [keepE, St.keep]
  · rw [if_neg hh]
    by_cases hn : h < 0
    · have e1 : decide (h < 0) = true := decide_eq_true hn
      repeat' (first
    | with_reducible first | apply swp_seq | apply swp_reg | apply swp_regD | apply swp_block | apply swp_exit | apply swp_ret | apply swp_skip | apply swp_cd
    | simp only [go_sem, seval, P13, q13, e1]
    | simp (disch := omega) only [w64, w32, wu8, wu16, wu32, wu64]
    | with_reducible first | apply cd_dec | apply cd_eq | apply cd_ne | apply cd_split | apply gd_dec | apply gd_eq | apply gd_ne | apply gd_split
    | ((with_reducible refine And.intro ?hw ?_); (case hw => first | omega | rfl | exact ⟨_, _, rfl⟩ | assumption | (simp only [lN] <;> omega)))
    | with_reducible intro _)
      all_goals first
        | omega
        | (simp [D.closed, D.closedL, D.er, D.erL]; done)
    · have e1 : decide (h < 0) = false := decide_eq_false hn
      have e2 : decide (8 < h) = true := decide_eq_true (by omega)
      repeat' (first
    | with_reducible first | apply swp_seq | apply swp_reg | apply swp_regD | apply swp_block | apply swp_exit | apply swp_ret | apply swp_skip | apply swp_cd
    | simp only [go_sem, seval, P13, q13, e1, e2]
    | simp (disch := omega) only [w64, w32, wu8, wu16, wu32, wu64]
    | with_reducible first | apply cd_dec | apply cd_eq | apply cd_ne | apply cd_split | apply gd_dec | apply gd_eq | apply gd_ne | apply gd_split
    | ((with_reducible refine And.intro ?hw ?_); (case hw => first | omega | rfl | exact ⟨_, _, rfl⟩ | assumption | (simp only [lN] <;> omega)))
    | with_reducible intro _)
      all_goals first
        | omega
        | (simp [D.closed, D.closedL, D.er, D.erL]; done)
theorem short_p (l : List (List UInt8)) (hl : l.length ≤ 1000) : Pur M 11 [.slice (strs l) .no] (.bool (l.all fun x => decide (x.length ≤ 300))) := by
  refine ok11 rfl ?_
  rw [i11]
  unfold c11
  repeat' (first
    | with_reducible first | apply swp_seq | apply swp_reg | apply swp_regD | apply swp_block | apply swp_exit | apply swp_ret | apply swp_skip | apply swp_cd
    | simp only [go_sem, seval, P11, q11]
    | simp (disch := omega) only [w64, w32, wu8, wu16, wu32, wu64]
    | with_reducible first | apply cd_dec | apply cd_eq | apply cd_ne | apply cd_split
    | ((with_reducible refine And.intro ?hw ?_); (case hw => first | omega | rfl | exact ⟨_, _, rfl⟩ | assumption | (simp only [lN] <;> omega)))
    | with_reducible intro _)
  refine swp_fam [0, 1, 2] (fun j : Nat => ⟨[.slice (strs l) .no, .bool false, .int .i64 j, .undef, .undef], [], ⟨[], []⟩⟩)
    (fun j => j ≤ l.length ∧ (l.take j).all (fun x => decide (x.length ≤ 300)) = true) (fun j => l.length - j) 0 ⟨by omega, rfl⟩ ?_ ?_
  · simp [keepE, St.keep]
  · rintro j ⟨g0, g1⟩
    have hsl := strs_len l
    by_cases hlt : j < l.length
    · have hg := strs_get hlt
      have t1 : ((j : Nat) : Int).toNat = j := Int.toNat_natCast j
      have htk : l.take (j + 1) = l.take j ++ [l.getD j []] := by
        rw [List.take_succ_eq_append_getElem hlt]; simp [List.getD, hlt]
      have hmem : l.getD j [] ∈ l := by simp [List.getD, hlt]
      by_cases hb : (l.getD j []).length ≤ 300
      · have e1 : decide (300 < ((l.getD j []).length : Int)) = false := decide_eq_false (by omega)
        generalize l.getD j [] = x at *
        generalize strs l = L at *
        repeat' (first
    | with_reducible first | apply swp_seq | apply swp_reg | apply swp_regD | apply swp_block | apply swp_exit | apply swp_ret | apply swp_skip | apply swp_cd
    | simp only [go_sem, seval, P11, q11, hsl, hg, t1, e1]
    | simp (disch := omega) only [w64, w32, wu8, wu16, wu32, wu64]
    | with_reducible first | apply cd_dec | apply cd_eq | apply cd_ne | apply cd_split
    | ((with_reducible refine And.intro ?hw ?_); (case hw => first | omega | rfl | exact ⟨_, _, rfl⟩ | assumption | (simp only [lN, hsl] <;> omega)))
    | with_reducible intro _)
        all_goals try omega
        refine ⟨j + 1, ⟨by omega, by rw [htk, List.all_append, g1]; simp [hb]⟩, by omega, ?_⟩
        simp [keepE, St.keep]
      · have e1 : decide (300 < ((l.getD j []).length : Int)) = true := decide_eq_true (by omega)
        have hf : l.all (fun x => decide (x.length ≤ 300)) = false := by
          rw [List.all_eq_false]
          exact ⟨_, hmem, fun q => hb (of_decide_eq_true q)⟩
        rw [hf]
        generalize l.getD j [] = x at *
        generalize strs l = L at *
        repeat' (first
    | with_reducible first | apply swp_seq | apply swp_reg | apply swp_regD | apply swp_block | apply swp_exit | apply swp_ret | apply swp_skip | apply swp_cd
    | simp only [go_sem, seval, P11, q11, hsl, hg, t1, e1]
    | simp (disch := omega) only [w64, w32, wu8, wu16, wu32, wu64]
    | with_reducible first | apply cd_dec | apply cd_eq | apply cd_ne | apply cd_split
    | ((with_reducible refine And.intro ?hw ?_); (case hw => first | omega | rfl | exact ⟨_, _, rfl⟩ | assumption | (simp only [lN, hsl] <;> omega)))
    | with_reducible intro _)
        all_goals first
          | omega
          | (simp [D.closed, D.er]; done)
    · have e : j = l.length := by omega
      subst e
      rw [List.take_length] at g1
      rw [g1]
      generalize strs l = L at *
      repeat' (first
    | with_reducible first | apply swp_seq | apply swp_reg | apply swp_regD | apply swp_block | apply swp_exit | apply swp_ret | apply swp_skip | apply swp_cd
    | simp only [go_sem, seval, P11, q11, hsl]
    | simp (disch := omega) only [w64, w32, wu8, wu16, wu32, wu64]
    | with_reducible first | apply cd_dec | apply cd_eq | apply cd_ne | apply cd_split
    | ((with_reducible refine And.intro ?hw ?_); (case hw => first | omega | rfl | exact ⟨_, _, rfl⟩ | assumption | (simp only [lN, hsl] <;> omega)))
    | with_reducible intro _)
      all_goals first
        | omega
        | (simp [D.closed, D.er]; done)
theorem notis_p (s : List UInt8) (hs : s.length ≤ 1000) : Pur M 40 [.str s] (.bool (!isD s)) := by
  refine ok40 rfl ?_
  rw [i40]
  unfold c40
  have h1 := is_p s (by omega)
  repeat' (first
    | with_reducible first | apply swp_seq | apply swp_reg | apply swp_regD | apply swp_block | apply swp_exit | apply swp_ret | apply swp_skip | apply swp_cd
    | simp only [go_sem, seval, P40, q40]
    | simp (disch := omega) only [w64, w32, wu8, wu16, wu32, wu64]
    | ((with_reducible refine o_call (h1) ?he ?hc ?_); (case he | hc => first | rfl | (simp [D.erL, D.er, D.closedL, D.closed]; done)))
    | with_reducible first | apply cd_dec | apply cd_eq | apply cd_ne | apply cd_split
    | ((with_reducible refine And.intro ?hw ?_); (case hw => first | omega | rfl | exact ⟨_, _, rfl⟩ | assumption | (simp only [lN] <;> omega)))
    | with_reducible intro _)
  all_goals first
    | omega
    | (simp [D.closed, D.er]; done)
def idxN : List (List UInt8) → Nat → Int
  | [], _ => -1
  | x :: l, i => if isD x then idxN l (i + 1) else i
theorem idxN_all : ∀ (l : List (List UInt8)) (i : Nat), decide (0 ≤ idxN l i) = !(l.all isD)
  | [], i => by simp [idxN]
  | x :: l, i => by
    by_cases h : isD x = true
    · have e1 : idxN (x :: l) i = idxN l (i + 1) := by simp [idxN, h]
      simp only [e1, List.all_cons, h, Bool.true_and]
      exact idxN_all l (i + 1)
    · have e1 : idxN (x :: l) i = (i : Int) := by simp [idxN, h]
      simp [e1, h]
theorem idxN_drop {l : List (List UInt8)} {j : Nat} (h : j < l.length) : idxN (l.drop j) j = if isD (l.getD j []) then idxN (l.drop (j + 1)) (j + 1) else (j : Int) := by
  rw [List.drop_eq_getElem_cons h]
  simp [idxN, List.getD, h]
set_option maxHeartbeats 1000000 in
theorem indexf_p (l : List (List UInt8)) (hl : l.length ≤ 1000) (hx : ∀ x ∈ l, x.length ≤ 1000) : Pur M 61 [.slice (strs l) .no, .fn (.func 40) [] []] (.int .i64 (idxN l 0)) := by
  refine ok61 rfl ?_
  rw [i61]
  unfold c61
  have hsl := strs_len l
  repeat' (first
    | with_reducible first | apply swp_seq | apply swp_reg | apply swp_regD | apply swp_block | apply swp_exit | apply swp_ret | apply swp_skip | apply swp_cd
    | simp only [go_sem, seval, P61, q61, hsl]
    | simp (disch := omega) only [w64, w32, wu8, wu16, wu32, wu64]
    | with_reducible first | apply cd_dec | apply cd_eq | apply cd_ne | apply cd_split
    | ((with_reducible refine And.intro ?hw ?_); (case hw => first | omega | rfl | exact ⟨_, _, rfl⟩ | assumption | (simp only [lN] <;> omega)))
    | with_reducible intro _)
  refine swp_fam [0, 1, 2, 4, 5] (fun j : Nat => ⟨[.slice (strs l) .no, .fn (.func 40) [] [], .int .i64 0, .undef, .int .i64 l.length, .int .i64 j, .undef, .undef], [], ⟨[], []⟩⟩)
    (fun j => j ≤ l.length ∧ idxN (l.drop j) j = idxN l 0) (fun j => l.length - j) 0 ⟨by omega, rfl⟩ ?_ ?_
  · simp [keepE, St.keep]
  · rintro j ⟨g0, g1⟩
    by_cases hlt : j < l.length
    · have hg := strs_get hlt
      have t1 : ((j : Nat) : Int).toNat = j := Int.toNat_natCast j
      have h1 := notis_p (l.getD j []) (get_small hx)
      have hd := idxN_drop hlt
      by_cases hb : isD (l.getD j []) = true
      · rw [hb] at h1 hd
        rw [if_pos rfl] at hd
        generalize l.getD j [] = x at *
        generalize strs l = L at *
        repeat' (first
    | with_reducible first | apply swp_seq | apply swp_reg | apply swp_regD | apply swp_block | apply swp_exit | apply swp_ret | apply swp_skip | apply swp_cd
    | simp only [go_sem, seval, P61, q61, hsl, hg, t1]
    | simp (disch := omega) only [w64, w32, wu8, wu16, wu32, wu64]
    | ((with_reducible refine o_call (h1) ?he ?hc ?_); (case he | hc => first | rfl | (simp [D.erL, D.er, D.closedL, D.closed, hsl]; done)))
    | with_reducible first | apply cd_dec | apply cd_eq | apply cd_ne | apply cd_split
    | ((with_reducible refine And.intro ?hw ?_); (case hw => first | omega | rfl | exact ⟨_, _, rfl⟩ | assumption | (simp only [lN, hsl] <;> omega)))
    | with_reducible intro _)
        all_goals try omega
        refine ⟨j + 1, ⟨by omega, by rw [← hd]; exact g1⟩, by omega, ?_⟩
        simp [keepE, St.keep]
      · have hb' : isD (l.getD j []) = false := by simpa using hb
        rw [hb'] at h1 hd
        rw [if_neg (by simp)] at hd
        rw [← g1, hd]
        generalize l.getD j [] = x at *
        generalize strs l = L at *
        repeat' (first
    | with_reducible first | apply swp_seq | apply swp_reg | apply swp_regD | apply swp_block | apply swp_exit | apply swp_ret | apply swp_skip | apply swp_cd
    | simp only [go_sem, seval, P61, q61, hsl, hg, t1]
    | simp (disch := omega) only [w64, w32, wu8, wu16, wu32, wu64]
    | ((with_reducible refine o_call (h1) ?he ?hc ?_); (case he | hc => first | rfl | (simp [D.erL, D.er, D.closedL, D.closed, hsl]; done)))
    | with_reducible first | apply cd_dec | apply cd_eq | apply cd_ne | apply cd_split
    | ((with_reducible refine And.intro ?hw ?_); (case hw => first | omega | rfl | exact ⟨_, _, rfl⟩ | assumption | (simp only [lN, hsl] <;> omega)))
    | with_reducible intro _)
        all_goals first
          | omega
          | (simp [D.closed, D.er]; done)
    · have e : j = l.length := by omega
      subst e
      rw [List.drop_length] at g1
      rw [← g1]
      generalize strs l = L at *
      repeat' (first
    | with_reducible first | apply swp_seq | apply swp_reg | apply swp_regD | apply swp_block | apply swp_exit | apply swp_ret | apply swp_skip | apply swp_cd
    | simp only [go_sem, seval, P61, q61, hsl]
    | simp (disch := omega) only [w64, w32, wu8, wu16, wu32, wu64]
    | with_reducible first | apply cd_dec | apply cd_eq | apply cd_ne | apply cd_split
    | ((with_reducible refine And.intro ?hw ?_); (case hw => first | omega | rfl | exact ⟨_, _, rfl⟩ | assumption | (simp only [lN, hsl] <;> omega)))
    | with_reducible intro _)
      all_goals first
        | omega
        | (simp [D.closed, D.er, idxN]; done)
theorem contains_p (l : List (List UInt8)) (hl : l.length ≤ 1000) (hx : ∀ x ∈ l, x.length ≤ 1000) : Pur M 39 [.slice (strs l) .no, .fn (.func 40) [] []] (.bool (!(l.all isD))) := by
  refine ok39 rfl ?_
  rw [i39]
  unfold c39
  have h1 := indexf_p l hl hx
  have h2 := idxN_all l 0
  rw [← h2]
  have he := erL_strs l
  have hc := closed_strs l
  generalize idxN l 0 = n at *
  generalize strs l = L at *
  repeat' (first
    | with_reducible first | apply swp_seq | apply swp_reg | apply swp_regD | apply swp_block | apply swp_exit | apply swp_ret | apply swp_skip | apply swp_cd
    | simp only [go_sem, seval, P39, q39]
    | simp (disch := omega) only [w64, w32, wu8, wu16, wu32, wu64]
    | ((with_reducible refine o_call (h1) ?he ?hc ?_); (case he | hc => first | rfl | (simp [D.erL, D.er, D.closedL, D.closed, he, hc]; done)))
    | with_reducible first | apply cd_dec | apply cd_eq | apply cd_ne | apply cd_split
    | ((with_reducible refine And.intro ?hw ?_); (case hw => first | omega | rfl | exact ⟨_, _, rfl⟩ | assumption | (simp only [lN, he, hc] <;> omega)))
    | with_reducible intro _)
  all_goals first
    | omega
    | (simp [D.closed, D.er]; done)
theorem odd_p (l : List (List UInt8)) (hl : l.length ≤ 1000) (hx : ∀ x ∈ l, x.length ≤ 1000) : Pur M 38 [.slice (strs l) .no] (.bool (!(l.all isD))) := by
  refine ok38 rfl ?_
  rw [i38]
  unfold c38
  have h1 := contains_p l hl hx
  have he := erL_strs l
  have hc := closed_strs l
  generalize strs l = L at *
  repeat' (first
    | with_reducible first | apply swp_seq | apply swp_reg | apply swp_regD | apply swp_block | apply swp_exit | apply swp_ret | apply swp_skip | apply swp_cd
    | simp only [go_sem, seval, P38, q38]
    | simp (disch := omega) only [w64, w32, wu8, wu16, wu32, wu64]
    | ((with_reducible refine o_call (h1) ?he ?hc ?_); (case he | hc => first | rfl | (simp [D.erL, D.er, D.closedL, D.closed, he, hc]; done)))
    | with_reducible first | apply cd_dec | apply cd_eq | apply cd_ne | apply cd_split
    | ((with_reducible refine And.intro ?hw ?_); (case hw => first | omega | rfl | exact ⟨_, _, rfl⟩ | assumption | (simp only [lN, he, hc] <;> omega)))
    | with_reducible intro _)
  all_goals first
    | omega
    | (simp [D.closed, D.er]; done)
end Go.Proofs.YtgjkhlnpplajjaaDoor
end
section
set_option maxRecDepth 100000
set_option linter.unusedSimpArgs false
set_option linter.unusedVariables false
namespace Go.Proofs.YtgjkhlnpplajjaaDoor
open Go GoV Go.RowKit
theorem ints_get {l : List Nat} {k : Nat} (h : k < l.length) : (ints l).getD k .undef = .int .i64 (l.getD k 0 : Nat) := by
  simp [List.getD, h]
abbrev sealD (x : Seal) : D := .agg [.int .i64 x.idx, .slice (strs x.sig) .no, .slice (strs x.path) .no]
def sgnR (s : List UInt8) (h i : Int) (m : List UInt8) : Seal × Int := if 0 ≤ h ∧ h ≤ 8 ∧ 0 ≤ i ∧ i < 2 ^ h.toNat then (sgn s h.toNat i.toNat m, 0) else (⟨0, [], []⟩, 1)
abbrev sgnD (x : Seal × Int) : D := .tup [sealD x.1, .int .i64 x.2]
def sigP (s : List UInt8) (i : Nat) (m : List UInt8) (k : Nat) : List (List UInt8) := (List.range k).map fun k => chn ((dgt m).getD k 0) (start s i k)
theorem sigP_len (s : List UInt8) (i : Nat) (m : List UInt8) (k : Nat) : (sigP s i m k).length = k := by simp [sigP]
theorem sigP_succ (s : List UInt8) (i : Nat) (m : List UInt8) (k : Nat) : sigP s i m (k + 1) = sigP s i m k ++ [chn ((dgt m).getD k 0) (start s i k)] := by simp [sigP, List.range_succ]
end Go.Proofs.YtgjkhlnpplajjaaDoor
end
section
set_option maxRecDepth 100000
set_option linter.unusedSimpArgs false
set_option linter.unusedVariables false
namespace Go.Proofs.YtgjkhlnpplajjaaDoor
open Go GoV Go.RowKit
theorem q_shl {Q : Mod} {rq : List (RO × Bool)} {K : St → Prop} {s : St} {dst : Dst} {k k' : IntKind} {a b : Int} : OpQ Q (.bin .shl) [.int k a, .int k' b] dst rq K s = (0 ≤ b ∧ opsQ Q rq K (s.put dst (.int k (k.wrap (a * 2 ^ (min b.toNat k.bits)))))) := by simp [OpQ, quietWp, isCall, opWp, binWp]
theorem q_xor {Q : Mod} {rq : List (RO × Bool)} {K : St → Prop} {s : St} {dst : Dst} {k : IntKind} {a b : Int} : OpQ Q (.bin .xor) [.int k a, .int k b] dst rq K s = opsQ Q rq K (s.put dst (.int k (bitsV .xor k a b))) := by simp [OpQ, quietWp, isCall, opWp, binWp]
theorem xor_one {j : Nat} (h : j < 256) : Go.bits .xor .i64 (j : Int) 1 = ((if j % 2 = 0 then j + 1 else j - 1 : Nat) : Int) := by
  have key : ∀ n : Fin 256, Go.bits .xor .i64 ((n.val : Nat) : Int) 1 = ((if n.val % 2 = 0 then n.val + 1 else n.val - 1 : Nat) : Int) := by decide +kernel
  exact key ⟨j, h⟩
theorem and_one {j : Nat} (h : j < 256) : Go.bits .and .i64 (j : Int) 1 = ((j % 2 : Nat) : Int) := by
  have key : ∀ n : Fin 256, Go.bits .and .i64 ((n.val : Nat) : Int) 1 = ((n.val % 2 : Nat) : Int) := by decide +kernel
  exact key ⟨j, h⟩
def hpS (s : List UInt8) (j : Nat) (m : List UInt8) (k : Nat) : Hp :=
  ⟨[.cells [.str s], .cells [.int .i64 (j : Nat)], .cells [.int .i64 0, .lit (.slice none 0 0), .lit (.slice none 0 0)], .cells [.int .i64 (j : Nat), .slice (strs (sigP s j m k)) (.tok 0), .lit (.slice none 0 0)]], [.per 1 k]⟩
set_option maxHeartbeats 2000000 in
theorem sign_p (s : List UInt8) (h i : Int) (m : List UInt8) (hs : s.length ≤ 300) (hm : m.length ≤ 300) (hb : -9223372036854775808 ≤ i) :
    Pur M 15 [.str s, .int .i64 h, .int .i64 i, .str m] (sgnD (sgnR s h i m)) := by
  refine oT15 rfl ?_
  rw [i15]
  unfold c15
  unfold sgnR
  by_cases hh : 0 ≤ h ∧ h ≤ 8
  case neg =>
    rw [if_neg (by intro q; exact hh ⟨q.1, q.2.1⟩)]
    by_cases hn : h < 0
    · have e1 : decide (h < 0) = true := decide_eq_true hn
      repeat' (first
    | with_reducible first | apply swp_seq | apply swp_reg | apply swp_regD | apply swp_block | apply swp_exit | apply swp_ret | apply swp_skip | apply swp_cd
    | with_reducible apply twp_seq
    | with_reducible apply twp_block
    | ((with_reducible refine twp_reg ?hb ?_); (case hb => exact fun _ _ => trivial); with_reducible intro _)
    | ((with_reducible refine twp_regD ?hb ?_); (case hb => exact fun _ _ => trivial); with_reducible intro _)
    | ((with_reducible refine twp_cond ?hb ?_); (case hb => exact fun _ _ => trivial); with_reducible intro _)
    | ((with_reducible refine twp_ret ?hb ?_); (case hb => exact fun _ _ => trivial))
    | simp only [go_sem, seval, P15, q15, q_shl, q_xor, e1]
    | simp (disch := omega) only [w64, w32, wu8, wu16, wu32, wu64]
    | ((with_reducible apply s_appT); (case he => rfl); (case hK | hc | hr | hV => first | rfl | assumption | omega | ((first | refine ⟨?_, ?_⟩ | skip) <;> first | omega | (simp only [lN] <;> omega)) | (simp [elemsK, D.isVal, D.cells, D.closedL, D.closed]; first | done | omega)))
    | ((with_reducible apply s_appG); (case he => rfl); (case hV | hK | hr | hl => first | rfl | assumption | omega | ((first | refine ⟨?_, ?_⟩ | skip) <;> first | omega | (simp only [lN] <;> omega)) | (simp [elemsK, D.isVal, D.cells, D.closedL, D.closed]; first | done | omega)))
    | ((with_reducible apply s_app0); (case he => rfl); (case hK | hc | hr => first | rfl | assumption | omega | ((first | refine ⟨?_, ?_⟩ | skip) <;> first | omega | (simp only [lN] <;> omega)) | (simp [elemsK, D.isVal, D.cells, D.closedL, D.closed]; first | done | omega)))
    | ((with_reducible apply s_appF); (case he => rfl); (case hK | hc | hr | hx | hn => first | rfl | assumption | omega | ((first | refine ⟨?_, ?_⟩ | skip) <;> first | omega | (simp only [lN] <;> omega)) | (simp [elemsK, D.isVal, D.cells, D.closedL, D.closed]; first | done | omega)))
    | ((with_reducible first | apply s_bsl | apply t_bsl); (case he | hl | hc => first | rfl | assumption | omega | ((first | refine ⟨?_, ?_⟩ | skip) <;> first | omega | (simp only [lN] <;> omega)) | (simp [elemsK, D.isVal, D.cells, D.closedL, D.closed]; first | done | omega)))
    | with_reducible first | apply cd_dec | apply cd_eq | apply cd_ne | apply cd_split | apply gd_dec | apply gd_eq | apply gd_ne | apply gd_split | apply gq_dec | apply gq_eq | apply gq_ne | apply gq_split
    | ((with_reducible refine And.intro ?hw ?_); (case hw => first | omega | rfl | exact ⟨_, _, rfl⟩ | assumption | (simp only [lN] <;> omega)))
    | with_reducible intro _)
      all_goals try omega
      refine ⟨_, fun _ => weak_trans (weak_newC 2 1 1 (by decide) rfl rfl) (weak_newC 2 2 1 (by decide) rfl rfl), ?_⟩
      simp [go_sem, D.closed, D.closedL, D.er, D.erL]
    · have e1 : decide (h < 0) = false := decide_eq_false hn
      have e2 : decide (8 < h) = true := decide_eq_true (by omega)
      repeat' (first
    | with_reducible first | apply swp_seq | apply swp_reg | apply swp_regD | apply swp_block | apply swp_exit | apply swp_ret | apply swp_skip | apply swp_cd
    | with_reducible apply twp_seq
    | with_reducible apply twp_block
    | ((with_reducible refine twp_reg ?hb ?_); (case hb => exact fun _ _ => trivial); with_reducible intro _)
    | ((with_reducible refine twp_regD ?hb ?_); (case hb => exact fun _ _ => trivial); with_reducible intro _)
    | ((with_reducible refine twp_cond ?hb ?_); (case hb => exact fun _ _ => trivial); with_reducible intro _)
    | ((with_reducible refine twp_ret ?hb ?_); (case hb => exact fun _ _ => trivial))
    | simp only [go_sem, seval, P15, q15, q_shl, q_xor, e1, e2]
    | simp (disch := omega) only [w64, w32, wu8, wu16, wu32, wu64]
    | ((with_reducible apply s_appT); (case he => rfl); (case hK | hc | hr | hV => first | rfl | assumption | omega | ((first | refine ⟨?_, ?_⟩ | skip) <;> first | omega | (simp only [lN] <;> omega)) | (simp [elemsK, D.isVal, D.cells, D.closedL, D.closed]; first | done | omega)))
    | ((with_reducible apply s_appG); (case he => rfl); (case hV | hK | hr | hl => first | rfl | assumption | omega | ((first | refine ⟨?_, ?_⟩ | skip) <;> first | omega | (simp only [lN] <;> omega)) | (simp [elemsK, D.isVal, D.cells, D.closedL, D.closed]; first | done | omega)))
    | ((with_reducible apply s_app0); (case he => rfl); (case hK | hc | hr => first | rfl | assumption | omega | ((first | refine ⟨?_, ?_⟩ | skip) <;> first | omega | (simp only [lN] <;> omega)) | (simp [elemsK, D.isVal, D.cells, D.closedL, D.closed]; first | done | omega)))
    | ((with_reducible apply s_appF); (case he => rfl); (case hK | hc | hr | hx | hn => first | rfl | assumption | omega | ((first | refine ⟨?_, ?_⟩ | skip) <;> first | omega | (simp only [lN] <;> omega)) | (simp [elemsK, D.isVal, D.cells, D.closedL, D.closed]; first | done | omega)))
    | ((with_reducible first | apply s_bsl | apply t_bsl); (case he | hl | hc => first | rfl | assumption | omega | ((first | refine ⟨?_, ?_⟩ | skip) <;> first | omega | (simp only [lN] <;> omega)) | (simp [elemsK, D.isVal, D.cells, D.closedL, D.closed]; first | done | omega)))
    | with_reducible first | apply cd_dec | apply cd_eq | apply cd_ne | apply cd_split | apply gd_dec | apply gd_eq | apply gd_ne | apply gd_split | apply gq_dec | apply gq_eq | apply gq_ne | apply gq_split
    | ((with_reducible refine And.intro ?hw ?_); (case hw => first | omega | rfl | exact ⟨_, _, rfl⟩ | assumption | (simp only [lN] <;> omega)))
    | with_reducible intro _)
      all_goals try omega
      refine ⟨_, fun _ => weak_trans (weak_newC 2 1 1 (by decide) rfl rfl) (weak_newC 2 2 1 (by decide) rfl rfl), ?_⟩
      simp [go_sem, D.closed, D.closedL, D.er, D.erL]
  case pos =>
    obtain ⟨h0, h8⟩ := hh
    obtain ⟨n, rfl⟩ : ∃ n : Nat, h = n := ⟨h.toNat, by omega⟩
    have e1 : decide ((n : Int) < 0) = false := decide_eq_false (by omega)
    have e2 : decide (8 < (n : Int)) = false := decide_eq_false (by omega)
    have e3 : ((n : Nat) : Int).toNat = n := Int.toNat_natCast n
    rw [e3]
    have e4 : (2 : Int) ^ n = ((2 ^ n : Nat) : Int) := by simp
    rw [e4]
    have hw := shl_one (h := n) (by omega)
    by_cases hi : 0 ≤ i ∧ i < ((2 ^ n : Nat) : Int)
    case neg =>
      rw [if_neg (by intro q; exact hi q.2.2)]
      by_cases hn : i < 0
      · have e5 : decide (i < 0) = true := decide_eq_true hn
        generalize 2 ^ n = N at *
        repeat' (first
    | with_reducible first | apply swp_seq | apply swp_reg | apply swp_regD | apply swp_block | apply swp_exit | apply swp_ret | apply swp_skip | apply swp_cd
    | with_reducible apply twp_seq
    | with_reducible apply twp_block
    | ((with_reducible refine twp_reg ?hb ?_); (case hb => exact fun _ _ => trivial); with_reducible intro _)
    | ((with_reducible refine twp_regD ?hb ?_); (case hb => exact fun _ _ => trivial); with_reducible intro _)
    | ((with_reducible refine twp_cond ?hb ?_); (case hb => exact fun _ _ => trivial); with_reducible intro _)
    | ((with_reducible refine twp_ret ?hb ?_); (case hb => exact fun _ _ => trivial))
    | simp only [go_sem, seval, P15, q15, q_shl, q_xor, e1, e2, e5, hw]
    | simp (disch := omega) only [w64, w32, wu8, wu16, wu32, wu64]
    | ((with_reducible apply s_appT); (case he => rfl); (case hK | hc | hr | hV => first | rfl | assumption | omega | ((first | refine ⟨?_, ?_⟩ | skip) <;> first | omega | (simp only [lN] <;> omega)) | (simp [elemsK, D.isVal, D.cells, D.closedL, D.closed]; first | done | omega)))
    | ((with_reducible apply s_appG); (case he => rfl); (case hV | hK | hr | hl => first | rfl | assumption | omega | ((first | refine ⟨?_, ?_⟩ | skip) <;> first | omega | (simp only [lN] <;> omega)) | (simp [elemsK, D.isVal, D.cells, D.closedL, D.closed]; first | done | omega)))
    | ((with_reducible apply s_app0); (case he => rfl); (case hK | hc | hr => first | rfl | assumption | omega | ((first | refine ⟨?_, ?_⟩ | skip) <;> first | omega | (simp only [lN] <;> omega)) | (simp [elemsK, D.isVal, D.cells, D.closedL, D.closed]; first | done | omega)))
    | ((with_reducible apply s_appF); (case he => rfl); (case hK | hc | hr | hx | hn => first | rfl | assumption | omega | ((first | refine ⟨?_, ?_⟩ | skip) <;> first | omega | (simp only [lN] <;> omega)) | (simp [elemsK, D.isVal, D.cells, D.closedL, D.closed]; first | done | omega)))
    | ((with_reducible first | apply s_bsl | apply t_bsl); (case he | hl | hc => first | rfl | assumption | omega | ((first | refine ⟨?_, ?_⟩ | skip) <;> first | omega | (simp only [lN] <;> omega)) | (simp [elemsK, D.isVal, D.cells, D.closedL, D.closed]; first | done | omega)))
    | with_reducible first | apply cd_dec | apply cd_eq | apply cd_ne | apply cd_split | apply gd_dec | apply gd_eq | apply gd_ne | apply gd_split | apply gq_dec | apply gq_eq | apply gq_ne | apply gq_split
    | ((with_reducible refine And.intro ?hw ?_); (case hw => first | omega | rfl | exact ⟨_, _, rfl⟩ | assumption | (simp only [lN] <;> omega)))
    | with_reducible intro _)
        all_goals try omega
        refine ⟨_, fun _ => weak_trans (weak_newC 2 1 1 (by decide) rfl rfl) (weak_newC 2 2 1 (by decide) rfl rfl), ?_⟩
        simp [go_sem, D.closed, D.closedL, D.er, D.erL]
      · have e5 : decide (i < 0) = false := decide_eq_false hn
        have e6 : decide (((2 ^ n : Nat) : Int) ≤ i) = true := decide_eq_true (by omega)
        generalize 2 ^ n = N at *
        repeat' (first
    | with_reducible first | apply swp_seq | apply swp_reg | apply swp_regD | apply swp_block | apply swp_exit | apply swp_ret | apply swp_skip | apply swp_cd
    | with_reducible apply twp_seq
    | with_reducible apply twp_block
    | ((with_reducible refine twp_reg ?hb ?_); (case hb => exact fun _ _ => trivial); with_reducible intro _)
    | ((with_reducible refine twp_regD ?hb ?_); (case hb => exact fun _ _ => trivial); with_reducible intro _)
    | ((with_reducible refine twp_cond ?hb ?_); (case hb => exact fun _ _ => trivial); with_reducible intro _)
    | ((with_reducible refine twp_ret ?hb ?_); (case hb => exact fun _ _ => trivial))
    | simp only [go_sem, seval, P15, q15, q_shl, q_xor, e1, e2, e5, e6, hw]
    | simp (disch := omega) only [w64, w32, wu8, wu16, wu32, wu64]
    | ((with_reducible apply s_appT); (case he => rfl); (case hK | hc | hr | hV => first | rfl | assumption | omega | ((first | refine ⟨?_, ?_⟩ | skip) <;> first | omega | (simp only [lN] <;> omega)) | (simp [elemsK, D.isVal, D.cells, D.closedL, D.closed]; first | done | omega)))
    | ((with_reducible apply s_appG); (case he => rfl); (case hV | hK | hr | hl => first | rfl | assumption | omega | ((first | refine ⟨?_, ?_⟩ | skip) <;> first | omega | (simp only [lN] <;> omega)) | (simp [elemsK, D.isVal, D.cells, D.closedL, D.closed]; first | done | omega)))
    | ((with_reducible apply s_app0); (case he => rfl); (case hK | hc | hr => first | rfl | assumption | omega | ((first | refine ⟨?_, ?_⟩ | skip) <;> first | omega | (simp only [lN] <;> omega)) | (simp [elemsK, D.isVal, D.cells, D.closedL, D.closed]; first | done | omega)))
    | ((with_reducible apply s_appF); (case he => rfl); (case hK | hc | hr | hx | hn => first | rfl | assumption | omega | ((first | refine ⟨?_, ?_⟩ | skip) <;> first | omega | (simp only [lN] <;> omega)) | (simp [elemsK, D.isVal, D.cells, D.closedL, D.closed]; first | done | omega)))
    | ((with_reducible first | apply s_bsl | apply t_bsl); (case he | hl | hc => first | rfl | assumption | omega | ((first | refine ⟨?_, ?_⟩ | skip) <;> first | omega | (simp only [lN] <;> omega)) | (simp [elemsK, D.isVal, D.cells, D.closedL, D.closed]; first | done | omega)))
    | with_reducible first | apply cd_dec | apply cd_eq | apply cd_ne | apply cd_split | apply gd_dec | apply gd_eq | apply gd_ne | apply gd_split | apply gq_dec | apply gq_eq | apply gq_ne | apply gq_split
    | ((with_reducible refine And.intro ?hw ?_); (case hw => first | omega | rfl | exact ⟨_, _, rfl⟩ | assumption | (simp only [lN] <;> omega)))
    | with_reducible intro _)
        all_goals try omega
        refine ⟨_, fun _ => weak_trans (weak_newC 2 1 1 (by decide) rfl rfl) (weak_newC 2 2 1 (by decide) rfl rfl), ?_⟩
        simp [go_sem, D.closed, D.closedL, D.er, D.erL]
    case pos =>
      rw [if_pos ⟨h0, h8, hi⟩]
      obtain ⟨i0, i1⟩ := hi
      obtain ⟨j, rfl⟩ : ∃ j : Nat, i = j := ⟨i.toNat, by omega⟩
      have e5 : decide ((j : Int) < 0) = false := decide_eq_false (by omega)
      have e6 : decide (((2 ^ n : Nat) : Int) ≤ (j : Int)) = false := decide_eq_false (by omega)
      have e7 : ((j : Nat) : Int).toNat = j := Int.toNat_natCast j
      rw [e7]
      have hN : 2 ^ n ≤ 2 ^ 8 := Nat.pow_le_pow_right (by omega) (by omega)
      have h256 : (2 : Nat) ^ 8 = 256 := by decide
      have c1 := sdigits_p m
      have hit := digits_it m (by omega)
      have c3 := keys_p s n hs (by omega)
      have hkl := keys_len s (2 ^ n)
      have hks := keys_small s (2 ^ n)
      have hsg : sgn s n j m = ⟨(j : Nat), sigP s j m 18, pathL (keys s (2 ^ n)) j⟩ := rfl
      rw [hsg]
      generalize keys s (2 ^ n) = K at *
      have hj : j < 256 := by omega
      have hjn : j < 2 ^ n := by omega
      have hn8 : n ≤ 8 := by omega
      generalize hN2 : 2 ^ n = N at *
      repeat' (first
    | with_reducible first | apply swp_seq | apply swp_reg | apply swp_regD | apply swp_block | apply swp_exit | apply swp_ret | apply swp_skip | apply swp_cd
    | with_reducible apply twp_seq
    | with_reducible apply twp_block
    | ((with_reducible refine twp_reg ?hb ?_); (case hb => exact fun _ _ => trivial); with_reducible intro _)
    | ((with_reducible refine twp_regD ?hb ?_); (case hb => exact fun _ _ => trivial); with_reducible intro _)
    | ((with_reducible refine twp_cond ?hb ?_); (case hb => exact fun _ _ => trivial); with_reducible intro _)
    | ((with_reducible refine twp_ret ?hb ?_); (case hb => exact fun _ _ => trivial))
    | simp only [go_sem, seval, P15, q15, q_shl, q_xor, e1, e2, e5, e6, hw]
    | simp (disch := omega) only [w64, w32, wu8, wu16, wu32, wu64]
    | ((with_reducible first | refine o_call (c1) ?he ?hc ?_ | refine p_call (c1) ?he ?hc ?_ | refine c_call (c1) ?he ?hc ?_); (case he | hc => first | rfl | (simp [D.erL, D.er, D.closedL, D.closed]; done)))
    | ((with_reducible apply s_appT); (case he => rfl); (case hK | hc | hr | hV => first | rfl | assumption | omega | ((first | refine ⟨?_, ?_⟩ | skip) <;> first | omega | (simp only [lN] <;> omega)) | (simp [elemsK, D.isVal, D.cells, D.closedL, D.closed]; first | done | omega)))
    | ((with_reducible apply s_appG); (case he => rfl); (case hV | hK | hr | hl => first | rfl | assumption | omega | ((first | refine ⟨?_, ?_⟩ | skip) <;> first | omega | (simp only [lN] <;> omega)) | (simp [elemsK, D.isVal, D.cells, D.closedL, D.closed]; first | done | omega)))
    | ((with_reducible apply s_app0); (case he => rfl); (case hK | hc | hr => first | rfl | assumption | omega | ((first | refine ⟨?_, ?_⟩ | skip) <;> first | omega | (simp only [lN] <;> omega)) | (simp [elemsK, D.isVal, D.cells, D.closedL, D.closed]; first | done | omega)))
    | ((with_reducible apply s_appF); (case he => rfl); (case hK | hc | hr | hx | hn => first | rfl | assumption | omega | ((first | refine ⟨?_, ?_⟩ | skip) <;> first | omega | (simp only [lN] <;> omega)) | (simp [elemsK, D.isVal, D.cells, D.closedL, D.closed]; first | done | omega)))
    | ((with_reducible first | apply s_bsl | apply t_bsl); (case he | hl | hc => first | rfl | assumption | omega | ((first | refine ⟨?_, ?_⟩ | skip) <;> first | omega | (simp only [lN] <;> omega)) | (simp [elemsK, D.isVal, D.cells, D.closedL, D.closed]; first | done | omega)))
    | with_reducible first | apply cd_dec | apply cd_eq | apply cd_ne | apply cd_split | apply gd_dec | apply gd_eq | apply gd_ne | apply gd_split | apply gq_dec | apply gq_eq | apply gq_ne | apply gq_split
    | ((with_reducible refine And.intro ?hw ?_); (case hw => first | omega | rfl | exact ⟨_, _, rfl⟩ | assumption | (simp only [lN] <;> omega)))
    | with_reducible intro _)
      all_goals try omega
      refine twp_weak (fun _ => weak_newC 3 1 1 (by decide) rfl rfl) (show TWp C15 0 0 _ _ ⟨[.str s, .int .i64 (n : Nat), .int .i64 (j : Nat), .str m, .ptr 0 0, .ptr 1 0, .ptr 2 0, .int .i64 0, .ptr 3 0, .undef, .undef, .undef, .undef, .bool false, .fn (.func 56) [] [.ip [.str m]], .undef, .undef, .undef], [], hpS s j m 0⟩ from ?_)
      refine twp_range (fun _ _ => trivial) hit (hpS s j m) rfl ?_ rfl ?_ ?_
      · intro r hr
        obtain ⟨k, _, rfl⟩ := List.mem_map.1 hr
        rfl
      · intro k r hk
        have hlt : k < 18 := by rw [← drows_len m]; exact (List.getElem?_eq_some_iff.1 hk).1
        rw [drows_get hlt] at hk
        cases hk
        have c5 := start_p s j k hs (by omega) (by omega)
        have c6 := chain_p (start s j k) ((dgt m).getD k 0) (by rw [start_len]; omega) (by have := dgt_get m k; omega)
        have hss := sigP_succ s j m k
        have hsl := sigP_len s j m k
        simp only [hpS, hss]
        generalize chn ((dgt m).getD k 0) (start s j k) = z at *
        generalize start s j k = st at *
        generalize (dgt m).getD k 0 = d at *
        generalize hT0 : sigP s j m k = T at *
        have hT := strs_len T
        have hs2 : strs (T ++ [z]) = strs T ++ [.str z] := by simp
        rw [hs2]
        simp only [GoV.binds]
        repeat' (first
    | with_reducible first | apply swp_seq | apply swp_reg | apply swp_regD | apply swp_block | apply swp_exit | apply swp_ret | apply swp_skip | apply swp_cd
    | with_reducible apply twp_seq
    | with_reducible apply twp_block
    | ((with_reducible refine twp_reg ?hb ?_); (case hb => exact fun _ _ => trivial); with_reducible intro _)
    | ((with_reducible refine twp_regD ?hb ?_); (case hb => exact fun _ _ => trivial); with_reducible intro _)
    | ((with_reducible refine twp_cond ?hb ?_); (case hb => exact fun _ _ => trivial); with_reducible intro _)
    | ((with_reducible refine twp_ret ?hb ?_); (case hb => exact fun _ _ => trivial))
    | simp only [go_sem, seval, P15, q15, q_shl, q_xor]
    | simp (disch := omega) only [w64, w32, wu8, wu16, wu32, wu64]
    | ((with_reducible first | refine o_call (c5) ?he ?hc ?_ | refine p_call (c5) ?he ?hc ?_ | refine c_call (c5) ?he ?hc ?_); (case he | hc => first | rfl | (simp [D.erL, D.er, D.closedL, D.closed, hT, hsl]; done)))
    | ((with_reducible first | refine o_call (c6) ?he ?hc ?_ | refine p_call (c6) ?he ?hc ?_ | refine c_call (c6) ?he ?hc ?_); (case he | hc => first | rfl | (simp [D.erL, D.er, D.closedL, D.closed, hT, hsl]; done)))
    | ((with_reducible apply s_appT); (case he => rfl); (case hK | hc | hr | hV => first | rfl | assumption | omega | ((first | refine ⟨?_, ?_⟩ | skip) <;> first | omega | (simp only [lN, hT, hsl] <;> omega)) | (simp [elemsK, D.isVal, D.cells, D.closedL, D.closed, hT, hsl]; first | done | omega)))
    | ((with_reducible apply s_appG); (case he => rfl); (case hV | hK | hr | hl => first | rfl | assumption | omega | ((first | refine ⟨?_, ?_⟩ | skip) <;> first | omega | (simp only [lN, hT, hsl] <;> omega)) | (simp [elemsK, D.isVal, D.cells, D.closedL, D.closed, hT, hsl]; first | done | omega)))
    | ((with_reducible apply s_app0); (case he => rfl); (case hK | hc | hr => first | rfl | assumption | omega | ((first | refine ⟨?_, ?_⟩ | skip) <;> first | omega | (simp only [lN, hT, hsl] <;> omega)) | (simp [elemsK, D.isVal, D.cells, D.closedL, D.closed, hT, hsl]; first | done | omega)))
    | ((with_reducible apply s_appF); (case he => rfl); (case hK | hc | hr | hx | hn => first | rfl | assumption | omega | ((first | refine ⟨?_, ?_⟩ | skip) <;> first | omega | (simp only [lN, hT, hsl] <;> omega)) | (simp [elemsK, D.isVal, D.cells, D.closedL, D.closed, hT, hsl]; first | done | omega)))
    | ((with_reducible first | apply s_bsl | apply t_bsl); (case he | hl | hc => first | rfl | assumption | omega | ((first | refine ⟨?_, ?_⟩ | skip) <;> first | omega | (simp only [lN, hT, hsl] <;> omega)) | (simp [elemsK, D.isVal, D.cells, D.closedL, D.closed, hT, hsl]; first | done | omega)))
    | with_reducible first | apply cd_dec | apply cd_eq | apply cd_ne | apply cd_split | apply gd_dec | apply gd_eq | apply gd_ne | apply gd_split | apply gq_dec | apply gq_eq | apply gq_ne | apply gq_split
    | ((with_reducible refine And.intro ?hw ?_); (case hw => first | omega | rfl | exact ⟨_, _, rfl⟩ | assumption | (simp only [lN, hT, hsl] <;> omega)))
    | with_reducible intro _)
        all_goals try omega
        exact ⟨_, weak_refl, by simp [hT, hsl]⟩
      · rw [drows_len]
        have hh : hpS s j m 18 = ⟨[.cells [.str s], .cells [.int .i64 (j : Nat)], .cells [.int .i64 0, .lit (.slice none 0 0), .lit (.slice none 0 0)], .cells [.int .i64 (j : Nat), .slice (strs (sigP s j m 18)) (.tok 0), .lit (.slice none 0 0)]], [.per 1 18]⟩ := rfl
        rw [hh]
        have hcS := closed_strs (sigP s j m 18)
        have heS := erL_strs (sigP s j m 18)
        generalize sigP s j m 18 = T at *
        try simp only [List.length_cons, List.length_nil]
        repeat' (first
    | with_reducible first | apply swp_seq | apply swp_reg | apply swp_regD | apply swp_block | apply swp_exit | apply swp_ret | apply swp_skip | apply swp_cd
    | with_reducible apply twp_seq
    | with_reducible apply twp_block
    | ((with_reducible refine twp_reg ?hb ?_); (case hb => exact fun _ _ => trivial); with_reducible intro _)
    | ((with_reducible refine twp_regD ?hb ?_); (case hb => exact fun _ _ => trivial); with_reducible intro _)
    | ((with_reducible refine twp_cond ?hb ?_); (case hb => exact fun _ _ => trivial); with_reducible intro _)
    | ((with_reducible refine twp_ret ?hb ?_); (case hb => exact fun _ _ => trivial))
    | simp only [go_sem, seval, P15, q15, q_shl, q_xor]
    | simp (disch := omega) only [w64, w32, wu8, wu16, wu32, wu64]
    | ((with_reducible first | refine o_call (c3) ?he ?hc ?_ | refine p_call (c3) ?he ?hc ?_ | refine c_call (c3) ?he ?hc ?_); (case he | hc => first | rfl | (simp [D.erL, D.er, D.closedL, D.closed]; done)))
    | ((with_reducible apply s_appT); (case he => rfl); (case hK | hc | hr | hV => first | rfl | assumption | omega | ((first | refine ⟨?_, ?_⟩ | skip) <;> first | omega | (simp only [lN] <;> omega)) | (simp [elemsK, D.isVal, D.cells, D.closedL, D.closed]; first | done | omega)))
    | ((with_reducible apply s_appG); (case he => rfl); (case hV | hK | hr | hl => first | rfl | assumption | omega | ((first | refine ⟨?_, ?_⟩ | skip) <;> first | omega | (simp only [lN] <;> omega)) | (simp [elemsK, D.isVal, D.cells, D.closedL, D.closed]; first | done | omega)))
    | ((with_reducible apply s_app0); (case he => rfl); (case hK | hc | hr => first | rfl | assumption | omega | ((first | refine ⟨?_, ?_⟩ | skip) <;> first | omega | (simp only [lN] <;> omega)) | (simp [elemsK, D.isVal, D.cells, D.closedL, D.closed]; first | done | omega)))
    | ((with_reducible apply s_appF); (case he => rfl); (case hK | hc | hr | hx | hn => first | rfl | assumption | omega | ((first | refine ⟨?_, ?_⟩ | skip) <;> first | omega | (simp only [lN] <;> omega)) | (simp [elemsK, D.isVal, D.cells, D.closedL, D.closed]; first | done | omega)))
    | ((with_reducible first | apply s_bsl | apply t_bsl); (case he | hl | hc => first | rfl | assumption | omega | ((first | refine ⟨?_, ?_⟩ | skip) <;> first | omega | (simp only [lN] <;> omega)) | (simp [elemsK, D.isVal, D.cells, D.closedL, D.closed]; first | done | omega)))
    | with_reducible first | apply cd_dec | apply cd_eq | apply cd_ne | apply cd_split | apply gd_dec | apply gd_eq | apply gd_ne | apply gd_split | apply gq_dec | apply gq_eq | apply gq_ne | apply gq_split
    | ((with_reducible refine And.intro ?hw ?_); (case hw => first | omega | rfl | exact ⟨_, _, rfl⟩ | assumption | (simp only [lN] <;> omega)))
    | with_reducible intro _)
        all_goals try omega
        refine twp_weak (fun _ => weak_newC 3 2 1 (by decide) rfl rfl) ?_
        refine twp_of (fun _ _ => trivial) fun ds => ?_
        refine swp_fam [0, 1, 2, 3, 4, 5, 6, 7, 8, 11, 12] (fun p : Nat × List (List UInt8) × Nat × List (List UInt8) => ⟨[.str s, .int .i64 (n : Nat), .int .i64 (j : Nat), .str m, .ptr 0 0, .ptr 1 0, .ptr 2 0, .int .i64 0, .ptr 3 0, .undef, .undef, .slice (strs p.2.1) .no, .int .i64 p.2.2.1, .undef, .undef, .undef, .undef, .undef], [],
            ⟨[.cells [.str s], .cells [.int .i64 (j : Nat)], .cells [.int .i64 0, .lit (.slice none 0 0), .lit (.slice none 0 0)], .cells [.int .i64 (j : Nat), .slice (strs T) (.tok 0), .slice (strs p.2.2.2) (.tok 1)]], [.per 1 18, .per 1 p.2.2.2.length]⟩⟩)
          (fun p => p.1 ≤ 8 ∧ p.2.1.length = 2 ^ p.1 ∧ p.2.2.1 < 2 ^ p.1 ∧ (∀ x ∈ p.2.1, x.length ≤ 1000) ∧ p.2.2.2.length + p.1 ≤ 8 ∧ p.2.2.2 ++ pathL p.2.1 p.2.2.1 = pathL K j) (fun p => p.1) (n, K, j, []) ⟨hn8, by simp only; omega, by simp only; omega, hks, by simpa using hn8, by simp⟩ ?_ ?_
        · simp [keepE, St.keep]
        · rintro ⟨q, u, k, acc⟩ ⟨g0, g1, g2, g3, g5, g4⟩
          simp only at g0 g1 g2 g3 g4 g5 ⊢
          have hul : (strs u).length = u.length := strs_len u
          have hal : (strs acc).length = acc.length := strs_len acc
          have hp : 2 ^ q ≤ 2 ^ 8 := Nat.pow_le_pow_right (by omega) g0
          rw [h256] at hp
          rcases q with _ | q
          · have hu1 : u.length = 1 := by simpa using g1
            have hr := pathL_one (l := u) (i := k) (by omega)
            rw [hr, List.append_nil] at g4
            rw [← g4]
            have heA := erL_strs acc
            have hcA := closed_strs acc
            repeat' (first
    | with_reducible first | apply swp_seq | apply swp_reg | apply swp_regD | apply swp_block | apply swp_exit | apply swp_ret | apply swp_skip | apply swp_cd
    | with_reducible apply twp_seq
    | with_reducible apply twp_block
    | ((with_reducible refine twp_reg ?hb ?_); (case hb => exact fun _ _ => trivial); with_reducible intro _)
    | ((with_reducible refine twp_regD ?hb ?_); (case hb => exact fun _ _ => trivial); with_reducible intro _)
    | ((with_reducible refine twp_cond ?hb ?_); (case hb => exact fun _ _ => trivial); with_reducible intro _)
    | ((with_reducible refine twp_ret ?hb ?_); (case hb => exact fun _ _ => trivial))
    | simp only [go_sem, seval, P15, q15, hul]
    | simp (disch := omega) only [w64, w32, wu8, wu16, wu32, wu64]
    | ((with_reducible apply s_appT); (case he => rfl); (case hK | hc | hr | hV => first | rfl | assumption | omega | ((first | refine ⟨?_, ?_⟩ | skip) <;> first | omega | (simp only [lN, hul] <;> omega)) | (simp [elemsK, D.isVal, D.cells, D.closedL, D.closed, hul]; first | done | omega)))
    | ((with_reducible apply s_appG); (case he => rfl); (case hV | hK | hr | hl => first | rfl | assumption | omega | ((first | refine ⟨?_, ?_⟩ | skip) <;> first | omega | (simp only [lN, hul] <;> omega)) | (simp [elemsK, D.isVal, D.cells, D.closedL, D.closed, hul]; first | done | omega)))
    | ((with_reducible apply s_app0); (case he => rfl); (case hK | hc | hr => first | rfl | assumption | omega | ((first | refine ⟨?_, ?_⟩ | skip) <;> first | omega | (simp only [lN, hul] <;> omega)) | (simp [elemsK, D.isVal, D.cells, D.closedL, D.closed, hul]; first | done | omega)))
    | ((with_reducible apply s_appF); (case he => rfl); (case hK | hc | hr | hx | hn => first | rfl | assumption | omega | ((first | refine ⟨?_, ?_⟩ | skip) <;> first | omega | (simp only [lN, hul] <;> omega)) | (simp [elemsK, D.isVal, D.cells, D.closedL, D.closed, hul]; first | done | omega)))
    | ((with_reducible first | apply s_bsl | apply t_bsl); (case he | hl | hc => first | rfl | assumption | omega | ((first | refine ⟨?_, ?_⟩ | skip) <;> first | omega | (simp only [lN, hul] <;> omega)) | (simp [elemsK, D.isVal, D.cells, D.closedL, D.closed, hul]; first | done | omega)))
    | with_reducible first | apply cd_dec | apply cd_eq | apply cd_ne | apply cd_split | apply gd_dec | apply gd_eq | apply gd_ne | apply gd_split | apply gq_dec | apply gq_eq | apply gq_ne | apply gq_split
    | ((with_reducible refine And.intro ?hw ?_); (case hw => first | omega | rfl | exact ⟨_, _, rfl⟩ | assumption | (simp only [lN, hul] <;> omega)))
    | with_reducible intro _)
            all_goals try omega
            refine ⟨_, fun _ => weak_refl, ?_⟩
            simp [go_sem, D.closed, D.closedL, D.er, D.erL, hcS, heS, heA, hcA]
          · have h2 : 2 ^ (q + 1) = 2 * 2 ^ q := by rw [Nat.pow_succ, Nat.mul_comm]
            have hp2 : 0 < 2 ^ q := Nat.pow_pos (by omega)
            have h1 := above_p u (by omega) (by omega) g3
            have hr := pathL_up (l := u) (i := k) (by omega)
            have hle := up_len u
            have t2 : (k : Int).tdiv 2 = ((k / 2 : Nat) : Int) := by rw [Int.tdiv_eq_ediv_of_nonneg (by omega)]; omega
            have hx : bitsV .xor .i64 (k : Int) 1 = _ := xor_one (j := k) (by omega)
            have hlt : (if k % 2 = 0 then k + 1 else k - 1) < u.length := by split <;> omega
            have hg := strs_get (l := u) hlt
            have t3 : (((if k % 2 = 0 then k + 1 else k - 1 : Nat)) : Int).toNat = (if k % 2 = 0 then k + 1 else k - 1) := Int.toNat_natCast _
            generalize (if k % 2 = 0 then k + 1 else k - 1) = e at *
            generalize u.getD e [] = x at *
            repeat' (first
    | with_reducible first | apply swp_seq | apply swp_reg | apply swp_regD | apply swp_block | apply swp_exit | apply swp_ret | apply swp_skip | apply swp_cd
    | with_reducible apply twp_seq
    | with_reducible apply twp_block
    | ((with_reducible refine twp_reg ?hb ?_); (case hb => exact fun _ _ => trivial); with_reducible intro _)
    | ((with_reducible refine twp_regD ?hb ?_); (case hb => exact fun _ _ => trivial); with_reducible intro _)
    | ((with_reducible refine twp_cond ?hb ?_); (case hb => exact fun _ _ => trivial); with_reducible intro _)
    | ((with_reducible refine twp_ret ?hb ?_); (case hb => exact fun _ _ => trivial))
    | simp only [go_sem, seval, P15, q15, q_xor, hx, hul, t2, t3, hg]
    | simp (disch := omega) only [w64, w32, wu8, wu16, wu32, wu64]
    | ((with_reducible first | refine o_call (h1) ?he ?hc ?_ | refine p_call (h1) ?he ?hc ?_ | refine c_call (h1) ?he ?hc ?_); (case he | hc => first | rfl | (simp [D.erL, D.er, D.closedL, D.closed, hul, hal]; done)))
    | ((with_reducible apply s_appT); (case he => rfl); (case hK | hc | hr | hV => first | rfl | assumption | omega | ((first | refine ⟨?_, ?_⟩ | skip) <;> first | omega | (simp only [lN, hul, hal] <;> omega)) | (simp [elemsK, D.isVal, D.cells, D.closedL, D.closed, hul, hal]; first | done | omega)))
    | ((with_reducible apply s_appG); (case he => rfl); (case hV | hK | hr | hl => first | rfl | assumption | omega | ((first | refine ⟨?_, ?_⟩ | skip) <;> first | omega | (simp only [lN, hul, hal] <;> omega)) | (simp [elemsK, D.isVal, D.cells, D.closedL, D.closed, hul, hal]; first | done | omega)))
    | ((with_reducible apply s_app0); (case he => rfl); (case hK | hc | hr => first | rfl | assumption | omega | ((first | refine ⟨?_, ?_⟩ | skip) <;> first | omega | (simp only [lN, hul, hal] <;> omega)) | (simp [elemsK, D.isVal, D.cells, D.closedL, D.closed, hul, hal]; first | done | omega)))
    | ((with_reducible apply s_appF); (case he => rfl); (case hK | hc | hr | hx | hn => first | rfl | assumption | omega | ((first | refine ⟨?_, ?_⟩ | skip) <;> first | omega | (simp only [lN, hul, hal] <;> omega)) | (simp [elemsK, D.isVal, D.cells, D.closedL, D.closed, hul, hal]; first | done | omega)))
    | ((with_reducible first | apply s_bsl | apply t_bsl); (case he | hl | hc => first | rfl | assumption | omega | ((first | refine ⟨?_, ?_⟩ | skip) <;> first | omega | (simp only [lN, hul, hal] <;> omega)) | (simp [elemsK, D.isVal, D.cells, D.closedL, D.closed, hul, hal]; first | done | omega)))
    | with_reducible first | apply cd_dec | apply cd_eq | apply cd_ne | apply cd_split | apply gd_dec | apply gd_eq | apply gd_ne | apply gd_split | apply gq_dec | apply gq_eq | apply gq_ne | apply gq_split
    | ((with_reducible refine And.intro ?hw ?_); (case hw => first | omega | rfl | exact ⟨_, _, rfl⟩ | assumption | (simp only [lN, hul, hal] <;> omega)))
    | with_reducible intro _)
            all_goals try omega
            refine ⟨(q, up u, k / 2, acc ++ [x]), ⟨by simp only; omega, by simp only; omega, by simp only; omega, up_small u, by simp only [List.length_append, List.length_cons, List.length_nil]; omega, by simp only; rw [← g4, hr]; simp⟩, by simp only; omega, ?_⟩
            simp [keepE, St.keep, strs]
            try omega
end Go.Proofs.YtgjkhlnpplajjaaDoor
end
