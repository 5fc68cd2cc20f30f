/- What the functions of the digest compute: the walks, first part: words, chunks, Sum. Own work. -/
import Derived.Test.YtiodnobmnfjdlaaDoorDa
import Derived.Test.YtiodnobmnfjdlaaDoorDl
import Derived.Test.YtiodnobmnfjdlaaDoorFc
import Derived.Test.YtiodnobmnfjdlaaDoorShelf
import Derived.Laws.Bits64
import Derived.Laws.Bits64b
set_option maxRecDepth 100000
set_option linter.unusedSimpArgs false
set_option linter.unusedVariables false
namespace Go.Proofs.YtiodnobmnfjdlaaDoor
open Go GoV

theorem tab_ok (w : World) (h : M.amb w []) : Lib.TabIs Tryd.prog w "internal/strconv.uint64pow10" .u64 Lib.pow10Tab :=
  tabIs_var (P := Tryd.prog) (r := []) h (by kernel_rfl) (List.mem_cons.2 (.inl rfl))

theorem itoa_p (n : Int) (h0 : -9223372036854775808 ≤ n) (h1 : n ≤ 9223372036854775807) : Pur M 23 [.int .i64 n] (.str (Lib.itoa n)) := by
  refine pur_ext (vs := [.int .i64 n]) (v := .string ⟨(Lib.itoa n).toArray⟩) ⟨Tryd.f23, Tryd.func23, rfl, rfl⟩ (fun w I xs h => ?_) (fun w I => ?_) (fun w hA => ?_)
  · obtain ⟨x, xs', rfl, g1, g2⟩ := h.inv
    simp only [Rel] at g1
    rw [g2.inv_nil, g1]
  · simp [Rel]
  · refine (Tryd.strconv_Itoa n h0 h1 w (tab_ok w hA)).mono fun e w' h => ?_
    obtain ⟨rfl, k, os, rfl⟩ := h
    exact ⟨rfl, below_grow k os⟩

theorem mul_p (x y : Nat) (hx : x < W) (hy : y < W) : ∃ hi : Int, Pur M 28 [.int .u64 x, .int .u64 y] (.tup [.int .u64 hi, .int .u64 (mulW x y : Nat)]) := by
  refine ⟨((x * y / W : Nat) : Int), pur_ext (vs := [.int .u64 x, .int .u64 y]) (v := .tuple #[.int .u64 ((x * y / W : Nat) : Int), .int .u64 (mulW x y : Nat)]) ⟨Tryd.f28, Tryd.func28, rfl, rfl⟩ (fun w I xs h => ?_) (fun w I => ?_) (fun w hA => ?_)⟩
  · obtain ⟨x, xs', rfl, g1, g2⟩ := h.inv
    obtain ⟨x2, xs2, rfl, g3, g4⟩ := g2.inv
    simp only [Rel] at g1 g3
    rw [g4.inv_nil, g1, g3]
  · simp only [Rel]
    exact ⟨_, rfl, by simp [RelL, Rel]⟩
  · refine (Tryd.bits_Mul64 x y hx hy w).mono fun e w' h' => ?_
    obtain ⟨rfl, rfl⟩ := h'
    exact ⟨rfl, ⟨rfl, rfl, rfl, Nat.le_refl _, fun _ _ => rfl⟩⟩

theorem shr_word (y k : Nat) (hk : k ≤ 64) : Int.fdiv (y : Int) (2 ^ min k 64) = ((y >>> k : Nat) : Int) := by
  have e : min k 64 = k := Nat.min_eq_left hk
  have e2 : (2 : Int) ^ k = ((2 ^ k : Nat) : Int) := by rw [Int.natCast_pow]; rfl
  rw [e, e2, Int.fdiv_eq_ediv_of_nonneg _ (Int.natCast_nonneg _), Nat.shiftRight_eq_div_pow]
  exact (Int.natCast_ediv y (2 ^ k)).symm

theorem mix_p (x : Nat) (hx : x < W) : Pur M 19 [.int .u64 x] (.int .u64 (mixN x : Nat)) := by
  refine ok19 rfl ?_
  rw [i19]
  unfold c19
  obtain ⟨h1, m1⟩ := mul_p x 6364136223846793005 hx (by decide)
  have hy := mulW_lt x 6364136223846793005
  unfold mixN
  generalize mulW x 6364136223846793005 = y at *
  have hz := xs_lt (k := 33) hy
  obtain ⟨h2, m2⟩ := mul_p (xs 33 y) 2685821657736338717 hz (by decide)
  have e1 := shr_word y 33 (by omega)
  have e2 := bits_xor_u64_nat y (y >>> 33) hy (Nat.lt_of_le_of_lt (shr_le y 33) hy)
  have e3 : y ^^^ y >>> 33 = xs 33 y := rfl
  rw [e3] at e2
  have hu := mulW_lt (xs 33 y) 2685821657736338717
  generalize mulW (xs 33 y) 2685821657736338717 = u at *
  have e4 := shr_word u 27 (by omega)
  have e5 := bits_xor_u64_nat u (u >>> 27) hu (Nat.lt_of_le_of_lt (shr_le u 27) hu)
  have e6 : u ^^^ u >>> 27 = xs 27 u := rfl
  rw [e6] at e5
  generalize xs 33 y = z at *
  have q1 : ((6364136223846793005 : Nat) : Int) = 6364136223846793005 := rfl
  have q2 : ((2685821657736338717 : Nat) : Int) = 2685821657736338717 := rfl
  rw [q1] at m1
  rw [q2] at m2
  generalize y >>> 33 = y' at *
  generalize u >>> 27 = u' at *
  generalize xs 27 u = r at *
  repeat' (first
    | with_reducible apply swp_seq
    | with_reducible apply swp_reg
    | with_reducible apply swp_regD
    | with_reducible apply swp_block
    | with_reducible apply swp_exit
    | with_reducible apply swp_ret
    | with_reducible apply swp_skip
    | with_reducible apply swp_cd
    | simp only [go_sem, Nat.reduceAdd, Nat.reduceSub, Nat.reduceMul, Nat.reduceEqDiff, Nat.reduceLeDiff, Nat.reduceLT, Int.reduceEq, Int.reduceNe, Int.reduceLT, Int.reduceLE, Int.reduceAdd, Int.reduceSub, Int.reduceMul, Int.reduceNeg, Int.reduceToNat, Int.reduceTDiv, Int.reduceTMod, Int.reduceBEq, Int.reduceBNe, decide_true, decide_false, reduceCtorEq, reduceIte, P19, q19, bitsV, e1, e2, e4, e5]
    | ((with_reducible refine o_call (m1) ?he ?hc ?_); (case he => first | rfl | (simp [D.erL, D.er]; done)); (case hc => first | rfl | (simp [D.closedL, D.closed]; done)))
    | ((with_reducible refine o_call (m2) ?he ?hc ?_); (case he => first | rfl | (simp [D.erL, D.er]; done)); (case hc => first | rfl | (simp [D.closedL, D.closed]; done)))
    | with_reducible apply cd_dec
    | with_reducible apply cd_eq
    | with_reducible apply cd_ne
    | with_reducible apply cd_split
    | ((with_reducible refine And.intro ?hw ?_); (case hw => first | omega | rfl | exact ⟨_, _, rfl⟩ | assumption | (simp only [List.length_cons, List.length_nil, List.length_append, List.length_map, List.length_replicate, List.length_take, List.length_drop] <;> omega)))
    | with_reducible intro _)
  all_goals first
    | omega
    | (simp [D.closed, D.er]; done)

/-! ### Rows of bytes -/

abbrev bys (l : List UInt8) : List D := l.map fun b => .int .u8 b.toNat

theorem bys_len (l : List UInt8) : (bys l).length = l.length := List.length_map _
theorem bys_elems : ∀ l : List UInt8, elemsK 1 (bys l) = true
  | [] => rfl
  | b :: l => by simp [elemsK, D.isVal, D.cells, bys_elems l]
theorem bys_closed : ∀ l : List UInt8, D.closedL (bys l) = true
  | [] => rfl
  | b :: l => by simp [D.closedL, D.closed, bys_closed l]
theorem bys_chunk : ∀ l : List UInt8, chunk 1 l.length (bys l) = bys l
  | [] => rfl
  | b :: l => by
    have := bys_chunk l
    simpa [chunk, bys] using this
theorem bys_bytes : ∀ l : List UInt8, bytesOf (bys l) = some l
  | [] => rfl
  | b :: l => by
    have : b.toNat < 256 := UInt8.toNat_lt b
    simp only [bys, List.map_cons, bytesOf]
    rw [show bytesOf (List.map (fun b => D.int .u8 b.toNat) l) = some l from bys_bytes l]
    simp
theorem bys_flat : ∀ l : List UInt8, flatD (bys l) = bys l
  | [] => rfl
  | b :: l => by simp [flatD, D.cells, bys_flat l]
theorem bys_get {l : List UInt8} {i : Nat} (h : i < l.length) : (bys l).getD i .undef = .int .u8 ((l.getD i 0).toNat : Nat) := by
  simp [bys, List.getD, h]
theorem bys_set (l : List UInt8) (i : Nat) (b : UInt8) : (bys l).set i (.int .u8 (b.toNat : Nat)) = bys (l.set i b) := by simp [bys, List.map_set]
theorem bys_rn (f g : Nat → Option Nat) : ∀ l : List UInt8, D.rnL f g (bys l) = bys l
  | [] => rfl
  | b :: l => by simp [D.rnL, D.rn, bys_rn f g l]

/-! ### The digits -/

def dgs (i : Nat) : List UInt8 := (List.range 16).map fun j => if j < i then hexd j else 0

theorem dgs_step {i : Nat} (h : i < 16) : (dgs i).set i (hexd i) = dgs (i + 1) := by
  have : i = 0 ∨ i = 1 ∨ i = 2 ∨ i = 3 ∨ i = 4 ∨ i = 5 ∨ i = 6 ∨ i = 7 ∨ i = 8 ∨ i = 9 ∨ i = 10 ∨ i = 11 ∨ i = 12 ∨ i = 13 ∨ i = 14 ∨ i = 15 := by omega
  rcases this with h | h | h | h | h | h | h | h | h | h | h | h | h | h | h | h <;> subst h <;> decide

theorem dgs_len (i : Nat) : (dgs i).length = 16 := by simp [dgs]

set_option maxHeartbeats 1000000 in
theorem digits_p : Pur M 20 [] (.agg (bys (dgs 16))) := by
  refine ok20 rfl ?_
  rw [i20]
  unfold c20
  repeat' (first
    | with_reducible apply swp_seq
    | with_reducible apply swp_reg
    | with_reducible apply swp_regD
    | with_reducible apply swp_block
    | with_reducible apply swp_exit
    | with_reducible apply swp_ret
    | with_reducible apply swp_skip
    | with_reducible apply swp_cd
    | simp only [go_sem, Nat.reduceAdd, Nat.reduceSub, Nat.reduceMul, Nat.reduceEqDiff, Nat.reduceLeDiff, Nat.reduceLT, Int.reduceEq, Int.reduceNe, Int.reduceLT, Int.reduceLE, Int.reduceAdd, Int.reduceSub, Int.reduceMul, Int.reduceNeg, Int.reduceToNat, Int.reduceTDiv, Int.reduceTMod, Int.reduceBEq, Int.reduceBNe, decide_true, decide_false, reduceCtorEq, reduceIte, P20, q20]
    | simp (disch := omega) only [w64, w32, wu8, wu16, wu32, wu64]
    | with_reducible apply cd_dec
    | with_reducible apply cd_eq
    | with_reducible apply cd_ne
    | with_reducible apply cd_split
    | ((with_reducible refine And.intro ?hw ?_); (case hw => first | omega | rfl | exact ⟨_, _, rfl⟩ | assumption | (simp only [List.length_cons, List.length_nil, List.length_append, List.length_map, List.length_replicate, List.length_take, List.length_drop] <;> omega)))
    | with_reducible intro _)
  refine swp_fam [0, 1, 3] (fun i : Nat => ⟨[.ptr 0 0, .ptr 1 0, .undef, .int .i64 i, .undef, .undef], [], ⟨[.cells (bys (dgs 0)), .cells (bys (dgs i))], []⟩⟩)
    (fun i => i ≤ 16) (fun i => 16 - i) 0 (by omega) ?_ ?_
  · simp [keepE, St.keep]
    rfl
  · intro i hi
    have hl : (bys (dgs i)).length = 16 := by rw [bys_len, dgs_len]
    by_cases hlt : i < 16
    · have hst := dgs_step hlt
      have hset : ∀ v : Int, v = ((hexd i).toNat : Nat) → (bys (dgs i)).set i (.int .u8 v) = bys (dgs (i + 1)) := fun v hv => by rw [hv, bys_set, hst]
      have hx := hexd_toNat hlt
      by_cases h10 : i < 10
      · rw [if_pos h10] at hx
        have w1 : IntKind.u8.wrap (48 + (i : Int)) = ((hexd i).toNat : Nat) := by rw [wu8 (by omega) (by omega), hx]; omega
        have h2 := hset _ rfl
        repeat' (first
    | with_reducible apply swp_seq
    | with_reducible apply swp_reg
    | with_reducible apply swp_regD
    | with_reducible apply swp_block
    | with_reducible apply swp_exit
    | with_reducible apply swp_ret
    | with_reducible apply swp_skip
    | with_reducible apply swp_cd
    | simp only [go_sem, Nat.reduceAdd, Nat.reduceSub, Nat.reduceMul, Nat.reduceEqDiff, Nat.reduceLeDiff, Nat.reduceLT, Int.reduceEq, Int.reduceNe, Int.reduceLT, Int.reduceLE, Int.reduceAdd, Int.reduceSub, Int.reduceMul, Int.reduceNeg, Int.reduceToNat, Int.reduceTDiv, Int.reduceTMod, Int.reduceBEq, Int.reduceBNe, decide_true, decide_false, reduceCtorEq, reduceIte, P20, q20, Nat.mul_one, w1, h2]
    | simp (disch := omega) only [w64, w32, wu8, wu16, wu32, wu64]
    | with_reducible apply cd_dec
    | with_reducible apply cd_eq
    | with_reducible apply cd_ne
    | with_reducible apply cd_split
    | ((with_reducible refine And.intro ?hw ?_); (case hw => first | omega | rfl | exact ⟨_, _, rfl⟩ | assumption | (simp only [List.length_cons, List.length_nil, List.length_append, List.length_map, List.length_replicate, List.length_take, List.length_drop, hl] <;> omega)))
    | with_reducible intro _)
        all_goals try omega
        refine ⟨i + 1, by omega, by omega, ?_⟩
        simp [keepE, St.keep]
        exact hset _ (by omega)
      · rw [if_neg h10] at hx
        have w1 : IntKind.u8.wrap (97 + (i : Int) - 10) = ((hexd i).toNat : Nat) := by rw [wu8 (by omega) (by omega), hx]; omega
        have w2 : IntKind.u8.wrap (48 + (i : Int)) = 48 + (i : Int) := wu8 (by omega) (by omega)
        have h2 := hset _ rfl
        repeat' (first
    | with_reducible apply swp_seq
    | with_reducible apply swp_reg
    | with_reducible apply swp_regD
    | with_reducible apply swp_block
    | with_reducible apply swp_exit
    | with_reducible apply swp_ret
    | with_reducible apply swp_skip
    | with_reducible apply swp_cd
    | simp only [go_sem, Nat.reduceAdd, Nat.reduceSub, Nat.reduceMul, Nat.reduceEqDiff, Nat.reduceLeDiff, Nat.reduceLT, Int.reduceEq, Int.reduceNe, Int.reduceLT, Int.reduceLE, Int.reduceAdd, Int.reduceSub, Int.reduceMul, Int.reduceNeg, Int.reduceToNat, Int.reduceTDiv, Int.reduceTMod, Int.reduceBEq, Int.reduceBNe, decide_true, decide_false, reduceCtorEq, reduceIte, P20, q20, Nat.mul_one, w1, w2, List.set_set, h2]
    | simp (disch := omega) only [w64, w32, wu8, wu16, wu32, wu64]
    | with_reducible apply cd_dec
    | with_reducible apply cd_eq
    | with_reducible apply cd_ne
    | with_reducible apply cd_split
    | ((with_reducible refine And.intro ?hw ?_); (case hw => first | omega | rfl | exact ⟨_, _, rfl⟩ | assumption | (simp only [List.length_cons, List.length_nil, List.length_append, List.length_map, List.length_replicate, List.length_take, List.length_drop, hl, List.length_set] <;> omega)))
    | with_reducible intro _)
        all_goals try omega
        refine ⟨i + 1, by omega, by omega, ?_⟩
        simp [keepE, St.keep]
        exact hset _ (by omega)
    · have e : i = 16 := by omega
      subst e
      repeat' (first
    | with_reducible apply swp_seq
    | with_reducible apply swp_reg
    | with_reducible apply swp_regD
    | with_reducible apply swp_block
    | with_reducible apply swp_exit
    | with_reducible apply swp_ret
    | with_reducible apply swp_skip
    | with_reducible apply swp_cd
    | simp only [go_sem, Nat.reduceAdd, Nat.reduceSub, Nat.reduceMul, Nat.reduceEqDiff, Nat.reduceLeDiff, Nat.reduceLT, Int.reduceEq, Int.reduceNe, Int.reduceLT, Int.reduceLE, Int.reduceAdd, Int.reduceSub, Int.reduceMul, Int.reduceNeg, Int.reduceToNat, Int.reduceTDiv, Int.reduceTMod, Int.reduceBEq, Int.reduceBNe, decide_true, decide_false, reduceCtorEq, reduceIte, P20, q20]
    | simp (disch := omega) only [w64, w32, wu8, wu16, wu32, wu64]
    | with_reducible apply cd_dec
    | with_reducible apply cd_eq
    | with_reducible apply cd_ne
    | with_reducible apply cd_split
    | ((with_reducible refine And.intro ?hw ?_); (case hw => first | omega | rfl | exact ⟨_, _, rfl⟩ | assumption | (simp only [List.length_cons, List.length_nil, List.length_append, List.length_map, List.length_replicate, List.length_take, List.length_drop, hl] <;> omega)))
    | with_reducible intro _)
      all_goals first
        | omega
        | skip
      all_goals (
        have e : setL (bys (dgs 0)) 0 (List.take 16 (bys (dgs 16))) = bys (dgs 16) := rfl
        rw [e]
        rfl)
end Go.Proofs.YtiodnobmnfjdlaaDoor
