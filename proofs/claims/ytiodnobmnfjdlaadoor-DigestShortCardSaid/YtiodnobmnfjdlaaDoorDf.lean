/- What the functions of the digest compute: the walks, second part: a chunk, Sum. Own work. -/
import Derived.Test.YtiodnobmnfjdlaaDoorDe
set_option maxRecDepth 100000
set_option linter.unusedSimpArgs false
set_option linter.unusedVariables false
namespace Go.Proofs.YtiodnobmnfjdlaaDoor
open Go GoV

def pad (p : List UInt8) : List UInt8 := p ++ List.replicate (8 - p.length) 0

theorem pad_len {p : List UInt8} (h : p.length ≤ 8) : (pad p).length = 8 := by simp [pad]; omega

theorem val_pad (p : List UInt8) : val (pad p) = blk p := by
  have key : ∀ k, val (p ++ List.replicate k 0) = val p * 256 ^ k := by
    intro k
    induction k with
    | zero => simp
    | succ k ih =>
      rw [List.replicate_succ', ← List.append_assoc, val_app, ih, Nat.pow_succ]
      simp [Nat.mul_comm, Nat.mul_left_comm, Nat.mul_assoc]
  exact key _

theorem setL_take : ∀ (ys l : List D) (k : Nat), setL (l ++ List.replicate (ys.length + k) (D.int .u8 0)) l.length ys = l ++ ys ++ List.replicate k (D.int .u8 0)
  | [], l, k => by simp [setL]
  | y :: ys, l, k => by
    have e : (l ++ List.replicate ((y :: ys).length + k) (D.int .u8 0)).set l.length y = (l ++ [y]) ++ List.replicate (ys.length + k) (D.int .u8 0) := by
      rw [show (y :: ys).length + k = (ys.length + k) + 1 by simp; omega, List.replicate_succ]
      simp
    rw [setL, e]
    have := setL_take ys (l ++ [y]) k
    simpa using this

theorem cpy_pad {p : List UInt8} (h : p.length ≤ 8) : setL [D.int .u8 0, D.int .u8 0, D.int .u8 0, D.int .u8 0, D.int .u8 0, D.int .u8 0, D.int .u8 0, D.int .u8 0] 0 (flatD (List.take 8 (List.map (fun b => D.int .u8 (b.toNat : Nat)) p))) = bys (pad p) := by
  have e : (List.map (fun b => D.int .u8 (b.toNat : Nat)) p).take 8 = bys p := List.take_of_length_le (by simpa using h)
  rw [e, bys_flat]
  have h1 := setL_take (bys p) [] (8 - p.length)
  rw [bys_len, show p.length + (8 - p.length) = 8 by omega] at h1
  simp only [List.nil_append, List.length_nil] at h1
  have h2 : List.replicate 8 (D.int .u8 0) = [D.int .u8 0, D.int .u8 0, D.int .u8 0, D.int .u8 0, D.int .u8 0, D.int .u8 0, D.int .u8 0, D.int .u8 0] := rfl
  rw [← h2, h1]
  simp [pad, bys]

set_option maxHeartbeats 2000000 in
theorem take_e (s : Nat) (p : List UInt8) (hs : s < W) (hp : p.length ≤ 8) : Eff M 18 [.str p, .ptr 0 0] ⟨[.cells [.int .u64 s]], []⟩ (fun d hp' => d = .tup [] ∧ hp' = ⟨[.cells [.int .u64 (mixN (s ^^^ blk p) : Nat)]], []⟩) := by
  refine oe18 1 0 rfl rfl rfl ?_
  rw [ie18]
  unfold c18
  have hcp := cpy_pad hp
  have hpl := pad_len hp
  have hK := bys_elems p
  have hlen : (bys p).length = p.length := bys_len p
  repeat' (first
    | with_reducible apply swp_seq
    | with_reducible apply swp_reg
    | with_reducible apply swp_regD
    | with_reducible apply swp_block
    | with_reducible apply swp_exit
    | with_reducible apply swp_ret
    | with_reducible apply swp_skip
    | with_reducible apply swp_cd
    | simp only [go_sem, Nat.reduceAdd, Nat.reduceSub, Nat.reduceMul, Nat.reduceEqDiff, Nat.reduceLeDiff, Nat.reduceLT, Int.reduceEq, Int.reduceNe, Int.reduceLT, Int.reduceLE, Int.reduceAdd, Int.reduceSub, Int.reduceMul, Int.reduceNeg, Int.reduceToNat, Int.reduceTDiv, Int.reduceTMod, Int.reduceBEq, Int.reduceBNe, decide_true, decide_false, reduceCtorEq, reduceIte, pe18, q18]
    | simp (disch := omega) only [w64, w32, wu8, wu16, wu32, wu64]
    | ((with_reducible apply s_saFF))
    | ((with_reducible apply s_saTF); (case h0 => first | rfl | assumption | omega | (simp only [List.length_cons, List.length_nil, List.length_append, List.length_map, List.length_replicate, List.length_take, List.length_drop] <;> omega) | (constructor <;> (simp only [List.length_cons, List.length_nil, List.length_append, List.length_map, List.length_replicate, List.length_take, List.length_drop] <;> omega)) | (constructor <;> omega) | (simp [elemsK, D.isVal, D.cells, D.closedL, D.closed]; done) | (simp [elemsK, D.isVal, D.cells, D.closedL, D.closed]; omega)); (case h1 => first | rfl | assumption | omega | (simp only [List.length_cons, List.length_nil, List.length_append, List.length_map, List.length_replicate, List.length_take, List.length_drop] <;> omega) | (constructor <;> (simp only [List.length_cons, List.length_nil, List.length_append, List.length_map, List.length_replicate, List.length_take, List.length_drop] <;> omega)) | (constructor <;> omega) | (simp [elemsK, D.isVal, D.cells, D.closedL, D.closed]; done) | (simp [elemsK, D.isVal, D.cells, D.closedL, D.closed]; omega)))
    | ((with_reducible apply s_saFT); (case h0 => first | rfl | assumption | omega | (simp only [List.length_cons, List.length_nil, List.length_append, List.length_map, List.length_replicate, List.length_take, List.length_drop] <;> omega) | (constructor <;> (simp only [List.length_cons, List.length_nil, List.length_append, List.length_map, List.length_replicate, List.length_take, List.length_drop] <;> omega)) | (constructor <;> omega) | (simp [elemsK, D.isVal, D.cells, D.closedL, D.closed]; done) | (simp [elemsK, D.isVal, D.cells, D.closedL, D.closed]; omega)); (case h1 => first | rfl | assumption | omega | (simp only [List.length_cons, List.length_nil, List.length_append, List.length_map, List.length_replicate, List.length_take, List.length_drop] <;> omega) | (constructor <;> (simp only [List.length_cons, List.length_nil, List.length_append, List.length_map, List.length_replicate, List.length_take, List.length_drop] <;> omega)) | (constructor <;> omega) | (simp [elemsK, D.isVal, D.cells, D.closedL, D.closed]; done) | (simp [elemsK, D.isVal, D.cells, D.closedL, D.closed]; omega)))
    | ((with_reducible apply s_cpy); (case h1 => rfl); (case he => rfl); (case h2 => first | rfl | assumption | omega | (simp only [List.length_cons, List.length_nil, List.length_append, List.length_map, List.length_replicate, List.length_take, List.length_drop] <;> omega) | (constructor <;> (simp only [List.length_cons, List.length_nil, List.length_append, List.length_map, List.length_replicate, List.length_take, List.length_drop] <;> omega)) | (constructor <;> omega) | (simp [elemsK, D.isVal, D.cells, D.closedL, D.closed]; done) | (simp [elemsK, D.isVal, D.cells, D.closedL, D.closed]; omega)); (case h3 => first | rfl | assumption | omega | (simp only [List.length_cons, List.length_nil, List.length_append, List.length_map, List.length_replicate, List.length_take, List.length_drop] <;> omega) | (constructor <;> (simp only [List.length_cons, List.length_nil, List.length_append, List.length_map, List.length_replicate, List.length_take, List.length_drop] <;> omega)) | (constructor <;> omega) | (simp [elemsK, D.isVal, D.cells, D.closedL, D.closed]; done) | (simp [elemsK, D.isVal, D.cells, D.closedL, D.closed]; omega)); (case hK => first | rfl | assumption | omega | (simp only [List.length_cons, List.length_nil, List.length_append, List.length_map, List.length_replicate, List.length_take, List.length_drop] <;> omega) | (constructor <;> (simp only [List.length_cons, List.length_nil, List.length_append, List.length_map, List.length_replicate, List.length_take, List.length_drop] <;> omega)) | (constructor <;> omega) | (simp [elemsK, D.isVal, D.cells, D.closedL, D.closed]; done) | (simp [elemsK, D.isVal, D.cells, D.closedL, D.closed]; omega)))
    | with_reducible apply cd_dec
    | with_reducible apply cd_eq
    | with_reducible apply cd_ne
    | with_reducible apply cd_split
    | ((with_reducible refine And.intro ?hw ?_); (case hw => first | omega | rfl | exact ⟨_, _, rfl⟩ | assumption | (simp only [List.length_cons, List.length_nil, List.length_append, List.length_map, List.length_replicate, List.length_take, List.length_drop] <;> omega)))
    | with_reducible intro _)
  have e0 : setL [D.int .u8 0, D.int .u8 0, D.int .u8 0, D.int .u8 0, D.int .u8 0, D.int .u8 0, D.int .u8 0, D.int .u8 0] 0 (flatD ((bys p).take 8)) = bys (pad p) := hcp
  rw [e0]
  repeat' (first
    | with_reducible apply swp_seq
    | with_reducible apply swp_reg
    | with_reducible apply swp_regD
    | with_reducible apply swp_block
    | with_reducible apply swp_exit
    | with_reducible apply swp_ret
    | with_reducible apply swp_skip
    | with_reducible apply swp_cd
    | simp only [go_sem, Nat.reduceAdd, Nat.reduceSub, Nat.reduceMul, Nat.reduceEqDiff, Nat.reduceLeDiff, Nat.reduceLT, Int.reduceEq, Int.reduceNe, Int.reduceLT, Int.reduceLE, Int.reduceAdd, Int.reduceSub, Int.reduceMul, Int.reduceNeg, Int.reduceToNat, Int.reduceTDiv, Int.reduceTMod, Int.reduceBEq, Int.reduceBNe, decide_true, decide_false, reduceCtorEq, reduceIte, pe18, q18]
    | simp (disch := omega) only [w64, w32, wu8, wu16, wu32, wu64]
    | ((with_reducible apply s_saFF))
    | ((with_reducible apply s_saTF); (case h0 => first | rfl | assumption | omega | (simp only [List.length_cons, List.length_nil, List.length_append, List.length_map, List.length_replicate, List.length_take, List.length_drop] <;> omega) | (constructor <;> (simp only [List.length_cons, List.length_nil, List.length_append, List.length_map, List.length_replicate, List.length_take, List.length_drop] <;> omega)) | (constructor <;> omega) | (simp [elemsK, D.isVal, D.cells, D.closedL, D.closed]; done) | (simp [elemsK, D.isVal, D.cells, D.closedL, D.closed]; omega)); (case h1 => first | rfl | assumption | omega | (simp only [List.length_cons, List.length_nil, List.length_append, List.length_map, List.length_replicate, List.length_take, List.length_drop] <;> omega) | (constructor <;> (simp only [List.length_cons, List.length_nil, List.length_append, List.length_map, List.length_replicate, List.length_take, List.length_drop] <;> omega)) | (constructor <;> omega) | (simp [elemsK, D.isVal, D.cells, D.closedL, D.closed]; done) | (simp [elemsK, D.isVal, D.cells, D.closedL, D.closed]; omega)))
    | ((with_reducible apply s_saFT); (case h0 => first | rfl | assumption | omega | (simp only [List.length_cons, List.length_nil, List.length_append, List.length_map, List.length_replicate, List.length_take, List.length_drop] <;> omega) | (constructor <;> (simp only [List.length_cons, List.length_nil, List.length_append, List.length_map, List.length_replicate, List.length_take, List.length_drop] <;> omega)) | (constructor <;> omega) | (simp [elemsK, D.isVal, D.cells, D.closedL, D.closed]; done) | (simp [elemsK, D.isVal, D.cells, D.closedL, D.closed]; omega)); (case h1 => first | rfl | assumption | omega | (simp only [List.length_cons, List.length_nil, List.length_append, List.length_map, List.length_replicate, List.length_take, List.length_drop] <;> omega) | (constructor <;> (simp only [List.length_cons, List.length_nil, List.length_append, List.length_map, List.length_replicate, List.length_take, List.length_drop] <;> omega)) | (constructor <;> omega) | (simp [elemsK, D.isVal, D.cells, D.closedL, D.closed]; done) | (simp [elemsK, D.isVal, D.cells, D.closedL, D.closed]; omega)))
    | ((with_reducible apply s_cpy); (case h1 => rfl); (case he => rfl); (case h2 => first | rfl | assumption | omega | (simp only [List.length_cons, List.length_nil, List.length_append, List.length_map, List.length_replicate, List.length_take, List.length_drop] <;> omega) | (constructor <;> (simp only [List.length_cons, List.length_nil, List.length_append, List.length_map, List.length_replicate, List.length_take, List.length_drop] <;> omega)) | (constructor <;> omega) | (simp [elemsK, D.isVal, D.cells, D.closedL, D.closed]; done) | (simp [elemsK, D.isVal, D.cells, D.closedL, D.closed]; omega)); (case h3 => first | rfl | assumption | omega | (simp only [List.length_cons, List.length_nil, List.length_append, List.length_map, List.length_replicate, List.length_take, List.length_drop] <;> omega) | (constructor <;> (simp only [List.length_cons, List.length_nil, List.length_append, List.length_map, List.length_replicate, List.length_take, List.length_drop] <;> omega)) | (constructor <;> omega) | (simp [elemsK, D.isVal, D.cells, D.closedL, D.closed]; done) | (simp [elemsK, D.isVal, D.cells, D.closedL, D.closed]; omega)); (case hK => first | rfl | assumption | omega | (simp only [List.length_cons, List.length_nil, List.length_append, List.length_map, List.length_replicate, List.length_take, List.length_drop] <;> omega) | (constructor <;> (simp only [List.length_cons, List.length_nil, List.length_append, List.length_map, List.length_replicate, List.length_take, List.length_drop] <;> omega)) | (constructor <;> omega) | (simp [elemsK, D.isVal, D.cells, D.closedL, D.closed]; done) | (simp [elemsK, D.isVal, D.cells, D.closedL, D.closed]; omega)))
    | with_reducible apply cd_dec
    | with_reducible apply cd_eq
    | with_reducible apply cd_ne
    | with_reducible apply cd_split
    | ((with_reducible refine And.intro ?hw ?_); (case hw => first | omega | rfl | exact ⟨_, _, rfl⟩ | assumption | (simp only [List.length_cons, List.length_nil, List.length_append, List.length_map, List.length_replicate, List.length_take, List.length_drop] <;> omega)))
    | with_reducible intro _)
  refine swp_fam [0, 1, 2, 3, 5] (fun i : Nat => ⟨[.str p, .ptr 0 0, .ptr 1 0, .int .u64 (val ((pad p).take i) : Nat), .undef, .int .i64 i, .undef], [], ⟨[.cells [.int .u64 s], .cells (bys (pad p))], []⟩⟩)
    (fun i => i ≤ 8) (fun i => 8 - i) 0 (by omega) ?_ ?_
  · simp [keepE, St.keep, val]
  · intro i hi
    have hbl : (bys (pad p)).length = 8 := by rw [bys_len, hpl]
    by_cases hlt : i < 8
    · have hg := bys_get (l := pad p) (i := i) (by omega)
      have hst : val ((pad p).take (i + 1)) = 256 * val ((pad p).take i) + ((pad p).getD i 0).toNat := by
        rw [List.take_succ_eq_append_getElem (by omega), val_app]
        congr 2
        simp [List.getD, hpl, hlt]
      have hb : ((pad p).getD i 0).toNat < 256 := UInt8.toNat_lt _
      have hv : val ((pad p).take i) < 72057594037927936 := by
        have h1 := val_lt ((pad p).take i)
        have h2 : ((pad p).take i).length ≤ 7 := by simp; omega
        have h3 : 256 ^ ((pad p).take i).length ≤ 256 ^ 7 := Nat.pow_le_pow_right (by omega) h2
        exact Nat.lt_of_lt_of_le h1 h3
      generalize val ((pad p).take i) = v at *
      generalize ((pad p).getD i 0).toNat = b at *
      have e1 : IntKind.u64.wrap ((v : Int) * 2 ^ min 8 64) = ((256 * v : Nat) : Int) := by
        have : ((v : Int) * 2 ^ min 8 64) = 256 * v := by
          show (v : Int) * 256 = 256 * v
          omega
        rw [this, wu64 (by omega) (by omega)]; omega
      have e2 := bits_or_u64_nat (256 * v) b (by omega) (by omega)
      have e3 : 256 * v ||| b = 256 * v + b := (Nat.two_pow_add_eq_or_of_lt (i := 8) (by simpa using hb) v).symm
      rw [e3, ← hst] at e2
      have e4 : IntKind.u64.wrap (b : Int) = b := wu64 (by omega) (by omega)
      repeat' (first
    | with_reducible apply swp_seq
    | with_reducible apply swp_reg
    | with_reducible apply swp_regD
    | with_reducible apply swp_block
    | with_reducible apply swp_exit
    | with_reducible apply swp_ret
    | with_reducible apply swp_skip
    | with_reducible apply swp_cd
    | simp only [go_sem, Nat.reduceAdd, Nat.reduceSub, Nat.reduceMul, Nat.reduceEqDiff, Nat.reduceLeDiff, Nat.reduceLT, Int.reduceEq, Int.reduceNe, Int.reduceLT, Int.reduceLE, Int.reduceAdd, Int.reduceSub, Int.reduceMul, Int.reduceNeg, Int.reduceToNat, Int.reduceTDiv, Int.reduceTMod, Int.reduceBEq, Int.reduceBNe, decide_true, decide_false, reduceCtorEq, reduceIte, pe18, q18, Nat.mul_one, hg, bitsV, e1, e4, e2]
    | simp (disch := omega) only [w64, w32, wu8, wu16, wu32, wu64]
    | ((with_reducible apply s_saFF))
    | ((with_reducible apply s_saTF); (case h0 => first | rfl | assumption | omega | (simp only [List.length_cons, List.length_nil, List.length_append, List.length_map, List.length_replicate, List.length_take, List.length_drop, hbl] <;> omega) | (constructor <;> (simp only [List.length_cons, List.length_nil, List.length_append, List.length_map, List.length_replicate, List.length_take, List.length_drop, hbl] <;> omega)) | (constructor <;> omega) | (simp [elemsK, D.isVal, D.cells, D.closedL, D.closed, hbl]; done) | (simp [elemsK, D.isVal, D.cells, D.closedL, D.closed, hbl]; omega)); (case h1 => first | rfl | assumption | omega | (simp only [List.length_cons, List.length_nil, List.length_append, List.length_map, List.length_replicate, List.length_take, List.length_drop, hbl] <;> omega) | (constructor <;> (simp only [List.length_cons, List.length_nil, List.length_append, List.length_map, List.length_replicate, List.length_take, List.length_drop, hbl] <;> omega)) | (constructor <;> omega) | (simp [elemsK, D.isVal, D.cells, D.closedL, D.closed, hbl]; done) | (simp [elemsK, D.isVal, D.cells, D.closedL, D.closed, hbl]; omega)))
    | ((with_reducible apply s_saFT); (case h0 => first | rfl | assumption | omega | (simp only [List.length_cons, List.length_nil, List.length_append, List.length_map, List.length_replicate, List.length_take, List.length_drop, hbl] <;> omega) | (constructor <;> (simp only [List.length_cons, List.length_nil, List.length_append, List.length_map, List.length_replicate, List.length_take, List.length_drop, hbl] <;> omega)) | (constructor <;> omega) | (simp [elemsK, D.isVal, D.cells, D.closedL, D.closed, hbl]; done) | (simp [elemsK, D.isVal, D.cells, D.closedL, D.closed, hbl]; omega)); (case h1 => first | rfl | assumption | omega | (simp only [List.length_cons, List.length_nil, List.length_append, List.length_map, List.length_replicate, List.length_take, List.length_drop, hbl] <;> omega) | (constructor <;> (simp only [List.length_cons, List.length_nil, List.length_append, List.length_map, List.length_replicate, List.length_take, List.length_drop, hbl] <;> omega)) | (constructor <;> omega) | (simp [elemsK, D.isVal, D.cells, D.closedL, D.closed, hbl]; done) | (simp [elemsK, D.isVal, D.cells, D.closedL, D.closed, hbl]; omega)))
    | ((with_reducible apply s_cpy); (case h1 => rfl); (case he => rfl); (case h2 => first | rfl | assumption | omega | (simp only [List.length_cons, List.length_nil, List.length_append, List.length_map, List.length_replicate, List.length_take, List.length_drop, hbl] <;> omega) | (constructor <;> (simp only [List.length_cons, List.length_nil, List.length_append, List.length_map, List.length_replicate, List.length_take, List.length_drop, hbl] <;> omega)) | (constructor <;> omega) | (simp [elemsK, D.isVal, D.cells, D.closedL, D.closed, hbl]; done) | (simp [elemsK, D.isVal, D.cells, D.closedL, D.closed, hbl]; omega)); (case h3 => first | rfl | assumption | omega | (simp only [List.length_cons, List.length_nil, List.length_append, List.length_map, List.length_replicate, List.length_take, List.length_drop, hbl] <;> omega) | (constructor <;> (simp only [List.length_cons, List.length_nil, List.length_append, List.length_map, List.length_replicate, List.length_take, List.length_drop, hbl] <;> omega)) | (constructor <;> omega) | (simp [elemsK, D.isVal, D.cells, D.closedL, D.closed, hbl]; done) | (simp [elemsK, D.isVal, D.cells, D.closedL, D.closed, hbl]; omega)); (case hK => first | rfl | assumption | omega | (simp only [List.length_cons, List.length_nil, List.length_append, List.length_map, List.length_replicate, List.length_take, List.length_drop, hbl] <;> omega) | (constructor <;> (simp only [List.length_cons, List.length_nil, List.length_append, List.length_map, List.length_replicate, List.length_take, List.length_drop, hbl] <;> omega)) | (constructor <;> omega) | (simp [elemsK, D.isVal, D.cells, D.closedL, D.closed, hbl]; done) | (simp [elemsK, D.isVal, D.cells, D.closedL, D.closed, hbl]; omega)))
    | with_reducible apply cd_dec
    | with_reducible apply cd_eq
    | with_reducible apply cd_ne
    | with_reducible apply cd_split
    | ((with_reducible refine And.intro ?hw ?_); (case hw => first | omega | rfl | exact ⟨_, _, rfl⟩ | assumption | (simp only [List.length_cons, List.length_nil, List.length_append, List.length_map, List.length_replicate, List.length_take, List.length_drop, hbl] <;> omega)))
    | with_reducible intro _)
      all_goals try omega
      refine ⟨i + 1, by omega, by omega, ?_⟩
      simp [keepE, St.keep]
    · have e : i = 8 := by omega
      subst e
      have ht : (pad p).take 8 = pad p := List.take_of_length_le (by omega)
      rw [ht, val_pad]
      have hblk := blk_lt hp
      have e2 := bits_xor_u64_nat s (blk p) hs hblk
      have hm := mix_p (s ^^^ blk p) (xor_lt hs hblk)
      generalize s ^^^ blk p = z at *
      generalize blk p = q at *
      repeat' (first
    | with_reducible apply swp_seq
    | with_reducible apply swp_reg
    | with_reducible apply swp_regD
    | with_reducible apply swp_block
    | with_reducible apply swp_exit
    | with_reducible apply swp_ret
    | with_reducible apply swp_skip
    | with_reducible apply swp_cd
    | simp only [go_sem, Nat.reduceAdd, Nat.reduceSub, Nat.reduceMul, Nat.reduceEqDiff, Nat.reduceLeDiff, Nat.reduceLT, Int.reduceEq, Int.reduceNe, Int.reduceLT, Int.reduceLE, Int.reduceAdd, Int.reduceSub, Int.reduceMul, Int.reduceNeg, Int.reduceToNat, Int.reduceTDiv, Int.reduceTMod, Int.reduceBEq, Int.reduceBNe, decide_true, decide_false, reduceCtorEq, reduceIte, pe18, q18, bitsV, e2]
    | simp (disch := omega) only [w64, w32, wu8, wu16, wu32, wu64]
    | ((with_reducible refine o_call (hm) ?he ?hc ?_); (case he => first | rfl | (simp [D.erL, D.er, hbl]; done)); (case hc => first | rfl | (simp [D.closedL, D.closed, hbl]; done)))
    | ((with_reducible apply s_saFF))
    | ((with_reducible apply s_saTF); (case h0 => first | rfl | assumption | omega | (simp only [List.length_cons, List.length_nil, List.length_append, List.length_map, List.length_replicate, List.length_take, List.length_drop, hbl] <;> omega) | (constructor <;> (simp only [List.length_cons, List.length_nil, List.length_append, List.length_map, List.length_replicate, List.length_take, List.length_drop, hbl] <;> omega)) | (constructor <;> omega) | (simp [elemsK, D.isVal, D.cells, D.closedL, D.closed, hbl]; done) | (simp [elemsK, D.isVal, D.cells, D.closedL, D.closed, hbl]; omega)); (case h1 => first | rfl | assumption | omega | (simp only [List.length_cons, List.length_nil, List.length_append, List.length_map, List.length_replicate, List.length_take, List.length_drop, hbl] <;> omega) | (constructor <;> (simp only [List.length_cons, List.length_nil, List.length_append, List.length_map, List.length_replicate, List.length_take, List.length_drop, hbl] <;> omega)) | (constructor <;> omega) | (simp [elemsK, D.isVal, D.cells, D.closedL, D.closed, hbl]; done) | (simp [elemsK, D.isVal, D.cells, D.closedL, D.closed, hbl]; omega)))
    | ((with_reducible apply s_saFT); (case h0 => first | rfl | assumption | omega | (simp only [List.length_cons, List.length_nil, List.length_append, List.length_map, List.length_replicate, List.length_take, List.length_drop, hbl] <;> omega) | (constructor <;> (simp only [List.length_cons, List.length_nil, List.length_append, List.length_map, List.length_replicate, List.length_take, List.length_drop, hbl] <;> omega)) | (constructor <;> omega) | (simp [elemsK, D.isVal, D.cells, D.closedL, D.closed, hbl]; done) | (simp [elemsK, D.isVal, D.cells, D.closedL, D.closed, hbl]; omega)); (case h1 => first | rfl | assumption | omega | (simp only [List.length_cons, List.length_nil, List.length_append, List.length_map, List.length_replicate, List.length_take, List.length_drop, hbl] <;> omega) | (constructor <;> (simp only [List.length_cons, List.length_nil, List.length_append, List.length_map, List.length_replicate, List.length_take, List.length_drop, hbl] <;> omega)) | (constructor <;> omega) | (simp [elemsK, D.isVal, D.cells, D.closedL, D.closed, hbl]; done) | (simp [elemsK, D.isVal, D.cells, D.closedL, D.closed, hbl]; omega)))
    | ((with_reducible apply s_cpy); (case h1 => rfl); (case he => rfl); (case h2 => first | rfl | assumption | omega | (simp only [List.length_cons, List.length_nil, List.length_append, List.length_map, List.length_replicate, List.length_take, List.length_drop, hbl] <;> omega) | (constructor <;> (simp only [List.length_cons, List.length_nil, List.length_append, List.length_map, List.length_replicate, List.length_take, List.length_drop, hbl] <;> omega)) | (constructor <;> omega) | (simp [elemsK, D.isVal, D.cells, D.closedL, D.closed, hbl]; done) | (simp [elemsK, D.isVal, D.cells, D.closedL, D.closed, hbl]; omega)); (case h3 => first | rfl | assumption | omega | (simp only [List.length_cons, List.length_nil, List.length_append, List.length_map, List.length_replicate, List.length_take, List.length_drop, hbl] <;> omega) | (constructor <;> (simp only [List.length_cons, List.length_nil, List.length_append, List.length_map, List.length_replicate, List.length_take, List.length_drop, hbl] <;> omega)) | (constructor <;> omega) | (simp [elemsK, D.isVal, D.cells, D.closedL, D.closed, hbl]; done) | (simp [elemsK, D.isVal, D.cells, D.closedL, D.closed, hbl]; omega)); (case hK => first | rfl | assumption | omega | (simp only [List.length_cons, List.length_nil, List.length_append, List.length_map, List.length_replicate, List.length_take, List.length_drop, hbl] <;> omega) | (constructor <;> (simp only [List.length_cons, List.length_nil, List.length_append, List.length_map, List.length_replicate, List.length_take, List.length_drop, hbl] <;> omega)) | (constructor <;> omega) | (simp [elemsK, D.isVal, D.cells, D.closedL, D.closed, hbl]; done) | (simp [elemsK, D.isVal, D.cells, D.closedL, D.closed, hbl]; omega)))
    | with_reducible apply cd_dec
    | with_reducible apply cd_eq
    | with_reducible apply cd_ne
    | with_reducible apply cd_split
    | ((with_reducible refine And.intro ?hw ?_); (case hw => first | omega | rfl | exact ⟨_, _, rfl⟩ | assumption | (simp only [List.length_cons, List.length_nil, List.length_append, List.length_map, List.length_replicate, List.length_take, List.length_drop, hbl] <;> omega)))
    | with_reducible intro _)
      all_goals try omega
      refine ⟨_, weak_gc 1 0 (Nat.le_refl _) (Nat.le_refl _), ?_⟩
      simp [St.gc, Hp.cut, D.rnL, D.rn, cutF, Blk.rn, Blk.rnL, Tv.rnL, setL]

theorem len_nat (t : List UInt8) : ((t.length : Nat) : Int) = (t.length : Int) := rfl

/-- The first i digits, then zeros. -/
def hexP (s i : Nat) : List UInt8 := (List.range 16).map fun j => if j < i then hexd (s / 16 ^ (15 - j) % 16) else 0

theorem hexP_len (s i : Nat) : (hexP s i).length = 16 := by simp [hexP]
theorem hexP_end (s : Nat) : hexP s 16 = hex16 s := by
  unfold hexP hex16
  refine List.map_congr_left fun j hj => ?_
  rw [if_pos (by simpa using hj)]
theorem hexP_step {s i : Nat} (h : i < 16) : (hexP s i).set i (hexd (s / 16 ^ (15 - i) % 16)) = hexP s (i + 1) := by
  refine List.ext_getElem (by simp [hexP]) fun j h1 h2 => ?_
  have hj : j < 16 := by simpa [hexP] using h2
  rw [List.getElem_set]
  simp only [hexP, List.getElem_map, List.getElem_range]
  by_cases e : i = j
  · subst e; rw [if_pos rfl, if_pos (by omega)]
  · rw [if_neg e]
    by_cases q : j < i
    · rw [if_pos q, if_pos (by omega)]
    · rw [if_neg q, if_neg (by omega)]

theorem dgs_get {v : Nat} (h : v < 16) : (bys (dgs 16)).getD v .undef = .int .u8 ((hexd v).toNat : Nat) := by
  rw [bys_get (by rw [dgs_len]; exact h)]
  congr 3
  have hj : v < (dgs 16).length := by rw [dgs_len]; exact h
  have : (dgs 16).getD v 0 = (dgs 16)[v] := by simp [List.getD, hj]
  rw [this]
  simp [dgs, h]

theorem nib (s i : Nat) (h : i < 16) : (s >>> (60 - 4 * i)) &&& 15 = s / 16 ^ (15 - i) % 16 := by
  have e : (16 : Nat) ^ (15 - i) = 2 ^ (60 - 4 * i) := by
    rw [show (16 : Nat) = 2 ^ 4 by decide, ← Nat.pow_mul, show 4 * (15 - i) = 60 - 4 * i by omega]
  rw [e, Nat.shiftRight_eq_div_pow]
  exact Nat.and_two_pow_sub_one_eq_mod _ 4

set_option maxHeartbeats 4000000 in
theorem sum_p (t : List UInt8) (ht : t.length < 65536) : Pur M 10 [.str t] (.str (sumN t)) := by
  refine ok10 rfl ?_
  rw [i10]
  unfold c10
  have hl := len_lt ht
  have e0 : IntKind.u64.wrap (t.length : Int) = t.length := wu64 (by omega) (by omega)
  have e1 := bits_xor_u64_nat 7046029254386353131 t.length (by decide) (by omega)
  have e2 : ((7046029254386353131 : Nat) : Int) = 7046029254386353131 := rfl
  rw [e2] at e1
  have hR : run (7046029254386353131 ^^^ t.length) t = stt t := rfl
  have hRlt := stt_lt t
  unfold sumN
  generalize stt t = R at *
  generalize hS : 7046029254386353131 ^^^ t.length = S at *
  repeat' (first
    | with_reducible apply swp_seq
    | with_reducible apply swp_reg
    | with_reducible apply swp_regD
    | with_reducible apply swp_block
    | with_reducible apply swp_exit
    | with_reducible apply swp_ret
    | with_reducible apply swp_skip
    | with_reducible apply swp_cd
    | simp only [go_sem, Nat.reduceAdd, Nat.reduceSub, Nat.reduceMul, Nat.reduceEqDiff, Nat.reduceLeDiff, Nat.reduceLT, Int.reduceEq, Int.reduceNe, Int.reduceLT, Int.reduceLE, Int.reduceAdd, Int.reduceSub, Int.reduceMul, Int.reduceNeg, Int.reduceToNat, Int.reduceTDiv, Int.reduceTMod, Int.reduceBEq, Int.reduceBNe, decide_true, decide_false, reduceCtorEq, reduceIte, P10, q10, bitsV, e0, e1]
    | simp (disch := omega) only [w64, w32, wu8, wu16, wu32, wu64]
    | ((with_reducible apply s_saFF))
    | ((with_reducible apply s_saTF); (case h0 => first | rfl | assumption | omega | (simp only [List.length_cons, List.length_nil, List.length_append, List.length_map, List.length_replicate, List.length_take, List.length_drop] <;> omega) | (constructor <;> (simp only [List.length_cons, List.length_nil, List.length_append, List.length_map, List.length_replicate, List.length_take, List.length_drop] <;> omega)) | (constructor <;> omega) | (simp [elemsK, D.isVal, D.cells, D.closedL, D.closed]; done) | (simp [elemsK, D.isVal, D.cells, D.closedL, D.closed]; omega)); (case h1 => first | rfl | assumption | omega | (simp only [List.length_cons, List.length_nil, List.length_append, List.length_map, List.length_replicate, List.length_take, List.length_drop] <;> omega) | (constructor <;> (simp only [List.length_cons, List.length_nil, List.length_append, List.length_map, List.length_replicate, List.length_take, List.length_drop] <;> omega)) | (constructor <;> omega) | (simp [elemsK, D.isVal, D.cells, D.closedL, D.closed]; done) | (simp [elemsK, D.isVal, D.cells, D.closedL, D.closed]; omega)))
    | ((with_reducible apply s_saFT); (case h0 => first | rfl | assumption | omega | (simp only [List.length_cons, List.length_nil, List.length_append, List.length_map, List.length_replicate, List.length_take, List.length_drop] <;> omega) | (constructor <;> (simp only [List.length_cons, List.length_nil, List.length_append, List.length_map, List.length_replicate, List.length_take, List.length_drop] <;> omega)) | (constructor <;> omega) | (simp [elemsK, D.isVal, D.cells, D.closedL, D.closed]; done) | (simp [elemsK, D.isVal, D.cells, D.closedL, D.closed]; omega)); (case h1 => first | rfl | assumption | omega | (simp only [List.length_cons, List.length_nil, List.length_append, List.length_map, List.length_replicate, List.length_take, List.length_drop] <;> omega) | (constructor <;> (simp only [List.length_cons, List.length_nil, List.length_append, List.length_map, List.length_replicate, List.length_take, List.length_drop] <;> omega)) | (constructor <;> omega) | (simp [elemsK, D.isVal, D.cells, D.closedL, D.closed]; done) | (simp [elemsK, D.isVal, D.cells, D.closedL, D.closed]; omega)))
    | ((with_reducible apply s_b2s); (case he => rfl); (case hn => first | rfl | assumption | omega | (simp only [List.length_cons, List.length_nil, List.length_append, List.length_map, List.length_replicate, List.length_take, List.length_drop] <;> omega) | (constructor <;> (simp only [List.length_cons, List.length_nil, List.length_append, List.length_map, List.length_replicate, List.length_take, List.length_drop] <;> omega)) | (constructor <;> omega) | (simp [elemsK, D.isVal, D.cells, D.closedL, D.closed]; done) | (simp [elemsK, D.isVal, D.cells, D.closedL, D.closed]; omega)); (case hb => rfl))
    | with_reducible apply cd_dec
    | with_reducible apply cd_eq
    | with_reducible apply cd_ne
    | with_reducible apply cd_split
    | ((with_reducible refine And.intro ?hw ?_); (case hw => first | omega | rfl | exact ⟨_, _, rfl⟩ | assumption | (simp only [List.length_cons, List.length_nil, List.length_append, List.length_map, List.length_replicate, List.length_take, List.length_drop] <;> omega)))
    | with_reducible intro _)
  all_goals try omega
  refine swp_fam [0, 2, 3] (fun p : Nat × List UInt8 => ⟨[.str p.2, .undef, .ptr 0 0, .fn (.func 18) [] [.ptr 0 0], .undef, .undef, .undef, .undef, .undef, .undef], [], ⟨[.cells [.int .u64 p.1]], []⟩⟩)
    (fun p => p.1 < W ∧ p.2.length ≤ t.length ∧ run p.1 p.2 = R) (fun p => p.2.length) (S, t) ⟨hl, Nat.le_refl _, hR⟩ ?_ ?_
  · simp [keepE, St.keep]
  · rintro ⟨s, u⟩ ⟨g1, g2, g3⟩
    simp only at g1 g2 g3 ⊢
    by_cases h8 : 8 ≤ u.length
    · have c1 := take_e s (u.take 8) g1 (by simp; omega)
      have e8 : (8 : Int).toNat = 8 := rfl
      repeat' (first
    | with_reducible apply swp_seq
    | with_reducible apply swp_reg
    | with_reducible apply swp_regD
    | with_reducible apply swp_block
    | with_reducible apply swp_exit
    | with_reducible apply swp_ret
    | with_reducible apply swp_skip
    | with_reducible apply swp_cd
    | simp only [go_sem, Nat.reduceAdd, Nat.reduceSub, Nat.reduceMul, Nat.reduceEqDiff, Nat.reduceLeDiff, Nat.reduceLT, Int.reduceEq, Int.reduceNe, Int.reduceLT, Int.reduceLE, Int.reduceAdd, Int.reduceSub, Int.reduceMul, Int.reduceNeg, Int.reduceToNat, Int.reduceTDiv, Int.reduceTMod, Int.reduceBEq, Int.reduceBNe, decide_true, decide_false, reduceCtorEq, reduceIte, P10, q10, e8]
    | simp (disch := omega) only [w64, w32, wu8, wu16, wu32, wu64]
    | ((with_reducible refine o_eff [0] [] (c1) ?hs ?he ?hh ?_); (case hs => exact ⟨by simp, by simp, by simp, by simp⟩); (case he => first | rfl | (simp [go_sem, Nat.reduceAdd, Nat.reduceSub, Nat.reduceMul, Nat.reduceEqDiff, Nat.reduceLeDiff, Nat.reduceLT, Int.reduceEq, Int.reduceNe, Int.reduceLT, Int.reduceLE, Int.reduceAdd, Int.reduceSub, Int.reduceMul, Int.reduceNeg, Int.reduceToNat, Int.reduceTDiv, Int.reduceTMod, Int.reduceBEq, Int.reduceBNe, decide_true, decide_false, reduceCtorEq, reduceIte]; done)); (case hh => first | rfl | (simp [go_sem, Nat.reduceAdd, Nat.reduceSub, Nat.reduceMul, Nat.reduceEqDiff, Nat.reduceLeDiff, Nat.reduceLT, Int.reduceEq, Int.reduceNe, Int.reduceLT, Int.reduceLE, Int.reduceAdd, Int.reduceSub, Int.reduceMul, Int.reduceNeg, Int.reduceToNat, Int.reduceTDiv, Int.reduceTMod, Int.reduceBEq, Int.reduceBNe, decide_true, decide_false, reduceCtorEq, reduceIte]; done)); rintro _ _ ⟨rfl, rfl⟩)
    | ((with_reducible apply s_saFF))
    | ((with_reducible apply s_saTF); (case h0 => first | rfl | assumption | omega | (simp only [List.length_cons, List.length_nil, List.length_append, List.length_map, List.length_replicate, List.length_take, List.length_drop] <;> omega) | (constructor <;> (simp only [List.length_cons, List.length_nil, List.length_append, List.length_map, List.length_replicate, List.length_take, List.length_drop] <;> omega)) | (constructor <;> omega) | (simp [elemsK, D.isVal, D.cells, D.closedL, D.closed]; done) | (simp [elemsK, D.isVal, D.cells, D.closedL, D.closed]; omega)); (case h1 => first | rfl | assumption | omega | (simp only [List.length_cons, List.length_nil, List.length_append, List.length_map, List.length_replicate, List.length_take, List.length_drop] <;> omega) | (constructor <;> (simp only [List.length_cons, List.length_nil, List.length_append, List.length_map, List.length_replicate, List.length_take, List.length_drop] <;> omega)) | (constructor <;> omega) | (simp [elemsK, D.isVal, D.cells, D.closedL, D.closed]; done) | (simp [elemsK, D.isVal, D.cells, D.closedL, D.closed]; omega)))
    | ((with_reducible apply s_saFT); (case h0 => first | rfl | assumption | omega | (simp only [List.length_cons, List.length_nil, List.length_append, List.length_map, List.length_replicate, List.length_take, List.length_drop] <;> omega) | (constructor <;> (simp only [List.length_cons, List.length_nil, List.length_append, List.length_map, List.length_replicate, List.length_take, List.length_drop] <;> omega)) | (constructor <;> omega) | (simp [elemsK, D.isVal, D.cells, D.closedL, D.closed]; done) | (simp [elemsK, D.isVal, D.cells, D.closedL, D.closed]; omega)); (case h1 => first | rfl | assumption | omega | (simp only [List.length_cons, List.length_nil, List.length_append, List.length_map, List.length_replicate, List.length_take, List.length_drop] <;> omega) | (constructor <;> (simp only [List.length_cons, List.length_nil, List.length_append, List.length_map, List.length_replicate, List.length_take, List.length_drop] <;> omega)) | (constructor <;> omega) | (simp [elemsK, D.isVal, D.cells, D.closedL, D.closed]; done) | (simp [elemsK, D.isVal, D.cells, D.closedL, D.closed]; omega)))
    | ((with_reducible apply s_b2s); (case he => rfl); (case hn => first | rfl | assumption | omega | (simp only [List.length_cons, List.length_nil, List.length_append, List.length_map, List.length_replicate, List.length_take, List.length_drop] <;> omega) | (constructor <;> (simp only [List.length_cons, List.length_nil, List.length_append, List.length_map, List.length_replicate, List.length_take, List.length_drop] <;> omega)) | (constructor <;> omega) | (simp [elemsK, D.isVal, D.cells, D.closedL, D.closed]; done) | (simp [elemsK, D.isVal, D.cells, D.closedL, D.closed]; omega)); (case hb => rfl))
    | with_reducible apply cd_dec
    | with_reducible apply cd_eq
    | with_reducible apply cd_ne
    | with_reducible apply cd_split
    | ((with_reducible refine And.intro ?hw ?_); (case hw => first | omega | rfl | exact ⟨_, _, rfl⟩ | assumption | (simp only [List.length_cons, List.length_nil, List.length_append, List.length_map, List.length_replicate, List.length_take, List.length_drop] <;> omega)))
    | with_reducible intro _)
      all_goals try omega
      refine ⟨(mixN (s ^^^ blk (u.take 8)), u.drop 8), ⟨mixN_lt _, by simp only [List.length_drop]; omega, by rw [← g3, run_long h8]⟩, by simp only [List.length_drop]; omega, ?_⟩
      simp [keepE, St.keep]
    · have c1 := take_e s u g1 (by omega)
      rw [run_short (by omega)] at g3
      rw [g3] at c1
      have c2 := digits_p
      repeat' (first
    | with_reducible apply swp_seq
    | with_reducible apply swp_reg
    | with_reducible apply swp_regD
    | with_reducible apply swp_block
    | with_reducible apply swp_exit
    | with_reducible apply swp_ret
    | with_reducible apply swp_skip
    | with_reducible apply swp_cd
    | simp only [go_sem, Nat.reduceAdd, Nat.reduceSub, Nat.reduceMul, Nat.reduceEqDiff, Nat.reduceLeDiff, Nat.reduceLT, Int.reduceEq, Int.reduceNe, Int.reduceLT, Int.reduceLE, Int.reduceAdd, Int.reduceSub, Int.reduceMul, Int.reduceNeg, Int.reduceToNat, Int.reduceTDiv, Int.reduceTMod, Int.reduceBEq, Int.reduceBNe, decide_true, decide_false, reduceCtorEq, reduceIte, P10, q10]
    | simp (disch := omega) only [w64, w32, wu8, wu16, wu32, wu64]
    | ((with_reducible refine o_eff [0] [] (c1) ?hs ?he ?hh ?_); (case hs => exact ⟨by simp, by simp, by simp, by simp⟩); (case he => first | rfl | (simp [go_sem, Nat.reduceAdd, Nat.reduceSub, Nat.reduceMul, Nat.reduceEqDiff, Nat.reduceLeDiff, Nat.reduceLT, Int.reduceEq, Int.reduceNe, Int.reduceLT, Int.reduceLE, Int.reduceAdd, Int.reduceSub, Int.reduceMul, Int.reduceNeg, Int.reduceToNat, Int.reduceTDiv, Int.reduceTMod, Int.reduceBEq, Int.reduceBNe, decide_true, decide_false, reduceCtorEq, reduceIte]; done)); (case hh => first | rfl | (simp [go_sem, Nat.reduceAdd, Nat.reduceSub, Nat.reduceMul, Nat.reduceEqDiff, Nat.reduceLeDiff, Nat.reduceLT, Int.reduceEq, Int.reduceNe, Int.reduceLT, Int.reduceLE, Int.reduceAdd, Int.reduceSub, Int.reduceMul, Int.reduceNeg, Int.reduceToNat, Int.reduceTDiv, Int.reduceTMod, Int.reduceBEq, Int.reduceBNe, decide_true, decide_false, reduceCtorEq, reduceIte]; done)); rintro _ _ ⟨rfl, rfl⟩)
    | ((with_reducible refine o_call (c2) ?he ?hc ?_); (case he => first | rfl | (simp [D.erL, D.er]; done)); (case hc => first | rfl | (simp [D.closedL, D.closed]; done)))
    | ((with_reducible apply s_saFF))
    | ((with_reducible apply s_saTF); (case h0 => first | rfl | assumption | omega | (simp only [List.length_cons, List.length_nil, List.length_append, List.length_map, List.length_replicate, List.length_take, List.length_drop] <;> omega) | (constructor <;> (simp only [List.length_cons, List.length_nil, List.length_append, List.length_map, List.length_replicate, List.length_take, List.length_drop] <;> omega)) | (constructor <;> omega) | (simp [elemsK, D.isVal, D.cells, D.closedL, D.closed]; done) | (simp [elemsK, D.isVal, D.cells, D.closedL, D.closed]; omega)); (case h1 => first | rfl | assumption | omega | (simp only [List.length_cons, List.length_nil, List.length_append, List.length_map, List.length_replicate, List.length_take, List.length_drop] <;> omega) | (constructor <;> (simp only [List.length_cons, List.length_nil, List.length_append, List.length_map, List.length_replicate, List.length_take, List.length_drop] <;> omega)) | (constructor <;> omega) | (simp [elemsK, D.isVal, D.cells, D.closedL, D.closed]; done) | (simp [elemsK, D.isVal, D.cells, D.closedL, D.closed]; omega)))
    | ((with_reducible apply s_saFT); (case h0 => first | rfl | assumption | omega | (simp only [List.length_cons, List.length_nil, List.length_append, List.length_map, List.length_replicate, List.length_take, List.length_drop] <;> omega) | (constructor <;> (simp only [List.length_cons, List.length_nil, List.length_append, List.length_map, List.length_replicate, List.length_take, List.length_drop] <;> omega)) | (constructor <;> omega) | (simp [elemsK, D.isVal, D.cells, D.closedL, D.closed]; done) | (simp [elemsK, D.isVal, D.cells, D.closedL, D.closed]; omega)); (case h1 => first | rfl | assumption | omega | (simp only [List.length_cons, List.length_nil, List.length_append, List.length_map, List.length_replicate, List.length_take, List.length_drop] <;> omega) | (constructor <;> (simp only [List.length_cons, List.length_nil, List.length_append, List.length_map, List.length_replicate, List.length_take, List.length_drop] <;> omega)) | (constructor <;> omega) | (simp [elemsK, D.isVal, D.cells, D.closedL, D.closed]; done) | (simp [elemsK, D.isVal, D.cells, D.closedL, D.closed]; omega)))
    | ((with_reducible apply s_b2s); (case he => rfl); (case hn => first | rfl | assumption | omega | (simp only [List.length_cons, List.length_nil, List.length_append, List.length_map, List.length_replicate, List.length_take, List.length_drop] <;> omega) | (constructor <;> (simp only [List.length_cons, List.length_nil, List.length_append, List.length_map, List.length_replicate, List.length_take, List.length_drop] <;> omega)) | (constructor <;> omega) | (simp [elemsK, D.isVal, D.cells, D.closedL, D.closed]; done) | (simp [elemsK, D.isVal, D.cells, D.closedL, D.closed]; omega)); (case hb => rfl))
    | with_reducible apply cd_dec
    | with_reducible apply cd_eq
    | with_reducible apply cd_ne
    | with_reducible apply cd_split
    | ((with_reducible refine And.intro ?hw ?_); (case hw => first | omega | rfl | exact ⟨_, _, rfl⟩ | assumption | (simp only [List.length_cons, List.length_nil, List.length_append, List.length_map, List.length_replicate, List.length_take, List.length_drop] <;> omega)))
    | with_reducible intro _)
      all_goals try omega
      refine swp_fam [2, 4, 5, 8] (fun i : Nat => ⟨[.undef, .undef, .ptr 0 0, .undef, .ptr 1 0, .ptr 2 0, .undef, .undef, .int .i64 i, .undef], [], ⟨[.cells [.int .u64 R], .cells (bys (dgs 16)), .cells (bys (hexP R i))], []⟩⟩)
        (fun i => i ≤ 16) (fun i => 16 - i) 0 (by omega) ?_ ?_
      · simp [keepE, St.keep]
        exact ⟨rfl, rfl⟩
      · intro i hi
        have l1 : (bys (dgs 16)).length = 16 := by rw [bys_len, dgs_len]
        have l2 : (bys (hexP R i)).length = 16 := by rw [bys_len, hexP_len]
        by_cases hlt : i < 16
        · have hd := dgs_get (v := R / 16 ^ (15 - i) % 16) (Nat.mod_lt _ (by omega))
          have hst := hexP_step (s := R) hlt
          have hset : (bys (hexP R i)).set i (.int .u8 ((hexd (R / 16 ^ (15 - i) % 16)).toNat : Nat)) = bys (hexP R (i + 1)) := by rw [bys_set, hst]
          have q1 : ((60 : Int) - 4 * (i : Int)).toNat = 60 - 4 * i := by omega
          have q2 := shr_word R (60 - 4 * i) (by omega)
          have q3 := bits_and_u64_nat (R >>> (60 - 4 * i)) 15 (Nat.lt_of_le_of_lt (shr_le R _) hRlt) (by decide)
          rw [nib R i hlt] at q3
          have q4 : ((15 : Nat) : Int) = 15 := rfl
          rw [q4] at q3
          have hv : R / 16 ^ (15 - i) % 16 < 16 := Nat.mod_lt _ (by omega)
          generalize R / 16 ^ (15 - i) % 16 = v at *
          repeat' (first
    | with_reducible apply swp_seq
    | with_reducible apply swp_reg
    | with_reducible apply swp_regD
    | with_reducible apply swp_block
    | with_reducible apply swp_exit
    | with_reducible apply swp_ret
    | with_reducible apply swp_skip
    | with_reducible apply swp_cd
    | simp only [go_sem, Nat.reduceAdd, Nat.reduceSub, Nat.reduceMul, Nat.reduceEqDiff, Nat.reduceLeDiff, Nat.reduceLT, Int.reduceEq, Int.reduceNe, Int.reduceLT, Int.reduceLE, Int.reduceAdd, Int.reduceSub, Int.reduceMul, Int.reduceNeg, Int.reduceToNat, Int.reduceTDiv, Int.reduceTMod, Int.reduceBEq, Int.reduceBNe, decide_true, decide_false, reduceCtorEq, reduceIte, P10, q10, Nat.mul_one, bitsV, q1, q2, q3, hd, hset]
    | simp (disch := omega) only [w64, w32, wu8, wu16, wu32, wu64]
    | ((with_reducible apply s_saFF))
    | ((with_reducible apply s_saTF); (case h0 => first | rfl | assumption | omega | (simp only [List.length_cons, List.length_nil, List.length_append, List.length_map, List.length_replicate, List.length_take, List.length_drop, l1, l2] <;> omega) | (constructor <;> (simp only [List.length_cons, List.length_nil, List.length_append, List.length_map, List.length_replicate, List.length_take, List.length_drop, l1, l2] <;> omega)) | (constructor <;> omega) | (simp [elemsK, D.isVal, D.cells, D.closedL, D.closed, l1, l2]; done) | (simp [elemsK, D.isVal, D.cells, D.closedL, D.closed, l1, l2]; omega)); (case h1 => first | rfl | assumption | omega | (simp only [List.length_cons, List.length_nil, List.length_append, List.length_map, List.length_replicate, List.length_take, List.length_drop, l1, l2] <;> omega) | (constructor <;> (simp only [List.length_cons, List.length_nil, List.length_append, List.length_map, List.length_replicate, List.length_take, List.length_drop, l1, l2] <;> omega)) | (constructor <;> omega) | (simp [elemsK, D.isVal, D.cells, D.closedL, D.closed, l1, l2]; done) | (simp [elemsK, D.isVal, D.cells, D.closedL, D.closed, l1, l2]; omega)))
    | ((with_reducible apply s_saFT); (case h0 => first | rfl | assumption | omega | (simp only [List.length_cons, List.length_nil, List.length_append, List.length_map, List.length_replicate, List.length_take, List.length_drop, l1, l2] <;> omega) | (constructor <;> (simp only [List.length_cons, List.length_nil, List.length_append, List.length_map, List.length_replicate, List.length_take, List.length_drop, l1, l2] <;> omega)) | (constructor <;> omega) | (simp [elemsK, D.isVal, D.cells, D.closedL, D.closed, l1, l2]; done) | (simp [elemsK, D.isVal, D.cells, D.closedL, D.closed, l1, l2]; omega)); (case h1 => first | rfl | assumption | omega | (simp only [List.length_cons, List.length_nil, List.length_append, List.length_map, List.length_replicate, List.length_take, List.length_drop, l1, l2] <;> omega) | (constructor <;> (simp only [List.length_cons, List.length_nil, List.length_append, List.length_map, List.length_replicate, List.length_take, List.length_drop, l1, l2] <;> omega)) | (constructor <;> omega) | (simp [elemsK, D.isVal, D.cells, D.closedL, D.closed, l1, l2]; done) | (simp [elemsK, D.isVal, D.cells, D.closedL, D.closed, l1, l2]; omega)))
    | ((with_reducible apply s_b2s); (case he => rfl); (case hn => first | rfl | assumption | omega | (simp only [List.length_cons, List.length_nil, List.length_append, List.length_map, List.length_replicate, List.length_take, List.length_drop, l1, l2] <;> omega) | (constructor <;> (simp only [List.length_cons, List.length_nil, List.length_append, List.length_map, List.length_replicate, List.length_take, List.length_drop, l1, l2] <;> omega)) | (constructor <;> omega) | (simp [elemsK, D.isVal, D.cells, D.closedL, D.closed, l1, l2]; done) | (simp [elemsK, D.isVal, D.cells, D.closedL, D.closed, l1, l2]; omega)); (case hb => rfl))
    | with_reducible apply cd_dec
    | with_reducible apply cd_eq
    | with_reducible apply cd_ne
    | with_reducible apply cd_split
    | ((with_reducible refine And.intro ?hw ?_); (case hw => first | omega | rfl | exact ⟨_, _, rfl⟩ | assumption | (simp only [List.length_cons, List.length_nil, List.length_append, List.length_map, List.length_replicate, List.length_take, List.length_drop, l1, l2] <;> omega)))
    | with_reducible intro _)
          all_goals try omega
          refine ⟨i + 1, by omega, by omega, ?_⟩
          simp [keepE, St.keep]
        · have e : i = 16 := by omega
          subst e
          rw [hexP_end]
          have hch := bys_chunk (hex16 R)
          rw [hex16_len] at hch
          repeat' (first
    | with_reducible apply swp_seq
    | with_reducible apply swp_reg
    | with_reducible apply swp_regD
    | with_reducible apply swp_block
    | with_reducible apply swp_exit
    | with_reducible apply swp_ret
    | with_reducible apply swp_skip
    | with_reducible apply swp_cd
    | simp only [go_sem, Nat.reduceAdd, Nat.reduceSub, Nat.reduceMul, Nat.reduceEqDiff, Nat.reduceLeDiff, Nat.reduceLT, Int.reduceEq, Int.reduceNe, Int.reduceLT, Int.reduceLE, Int.reduceAdd, Int.reduceSub, Int.reduceMul, Int.reduceNeg, Int.reduceToNat, Int.reduceTDiv, Int.reduceTMod, Int.reduceBEq, Int.reduceBNe, decide_true, decide_false, reduceCtorEq, reduceIte, P10, q10]
    | simp (disch := omega) only [w64, w32, wu8, wu16, wu32, wu64]
    | ((with_reducible apply s_saFF))
    | ((with_reducible apply s_saTF); (case h0 => first | rfl | assumption | omega | (simp only [List.length_cons, List.length_nil, List.length_append, List.length_map, List.length_replicate, List.length_take, List.length_drop, l1, l2] <;> omega) | (constructor <;> (simp only [List.length_cons, List.length_nil, List.length_append, List.length_map, List.length_replicate, List.length_take, List.length_drop, l1, l2] <;> omega)) | (constructor <;> omega) | (simp [elemsK, D.isVal, D.cells, D.closedL, D.closed, l1, l2]; done) | (simp [elemsK, D.isVal, D.cells, D.closedL, D.closed, l1, l2]; omega)); (case h1 => first | rfl | assumption | omega | (simp only [List.length_cons, List.length_nil, List.length_append, List.length_map, List.length_replicate, List.length_take, List.length_drop, l1, l2] <;> omega) | (constructor <;> (simp only [List.length_cons, List.length_nil, List.length_append, List.length_map, List.length_replicate, List.length_take, List.length_drop, l1, l2] <;> omega)) | (constructor <;> omega) | (simp [elemsK, D.isVal, D.cells, D.closedL, D.closed, l1, l2]; done) | (simp [elemsK, D.isVal, D.cells, D.closedL, D.closed, l1, l2]; omega)))
    | ((with_reducible apply s_saFT); (case h0 => first | rfl | assumption | omega | (simp only [List.length_cons, List.length_nil, List.length_append, List.length_map, List.length_replicate, List.length_take, List.length_drop, l1, l2] <;> omega) | (constructor <;> (simp only [List.length_cons, List.length_nil, List.length_append, List.length_map, List.length_replicate, List.length_take, List.length_drop, l1, l2] <;> omega)) | (constructor <;> omega) | (simp [elemsK, D.isVal, D.cells, D.closedL, D.closed, l1, l2]; done) | (simp [elemsK, D.isVal, D.cells, D.closedL, D.closed, l1, l2]; omega)); (case h1 => first | rfl | assumption | omega | (simp only [List.length_cons, List.length_nil, List.length_append, List.length_map, List.length_replicate, List.length_take, List.length_drop, l1, l2] <;> omega) | (constructor <;> (simp only [List.length_cons, List.length_nil, List.length_append, List.length_map, List.length_replicate, List.length_take, List.length_drop, l1, l2] <;> omega)) | (constructor <;> omega) | (simp [elemsK, D.isVal, D.cells, D.closedL, D.closed, l1, l2]; done) | (simp [elemsK, D.isVal, D.cells, D.closedL, D.closed, l1, l2]; omega)))
    | ((with_reducible apply s_b2s); (case he => rfl); (case hn => first | rfl | assumption | omega | (simp only [List.length_cons, List.length_nil, List.length_append, List.length_map, List.length_replicate, List.length_take, List.length_drop, l1, l2] <;> omega) | (constructor <;> (simp only [List.length_cons, List.length_nil, List.length_append, List.length_map, List.length_replicate, List.length_take, List.length_drop, l1, l2] <;> omega)) | (constructor <;> omega) | (simp [elemsK, D.isVal, D.cells, D.closedL, D.closed, l1, l2]; done) | (simp [elemsK, D.isVal, D.cells, D.closedL, D.closed, l1, l2]; omega)); (case hb => rfl))
    | with_reducible apply cd_dec
    | with_reducible apply cd_eq
    | with_reducible apply cd_ne
    | with_reducible apply cd_split
    | ((with_reducible refine And.intro ?hw ?_); (case hw => first | omega | rfl | exact ⟨_, _, rfl⟩ | assumption | (simp only [List.length_cons, List.length_nil, List.length_append, List.length_map, List.length_replicate, List.length_take, List.length_drop, l1, l2] <;> omega)))
    | with_reducible intro _)
          all_goals try omega
          congr 1
          simp only [UInt8.ofNat_toNat]
          rfl
end Go.Proofs.YtiodnobmnfjdlaaDoor
