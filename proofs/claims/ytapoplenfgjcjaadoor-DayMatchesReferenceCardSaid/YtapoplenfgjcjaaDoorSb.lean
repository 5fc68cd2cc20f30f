/- What the reference functions of the day compute: the walks, sixth part: digits, Text. Own work. -/
import Derived.Test.YtapoplenfgjcjaaDoorSa
set_option maxRecDepth 100000
set_option linter.unusedSimpArgs false
set_option linter.unusedVariables false
namespace Go.Proofs.YtapoplenfgjcjaaDoor
open Go GoV

/-- A number's last digits. -/
def dig : Nat → Nat → List UInt8
  | _, 0 => []
  | n, w + 1 => dig (n / 10) w ++ [UInt8.ofNat (48 + n % 10)]

theorem dig_len : ∀ (w n : Nat), (dig n w).length = w
  | 0, _ => rfl
  | w + 1, n => by simp [dig, dig_len w]

theorem digit_at (r : Nat) (h : r < 10) : List.drop r (48 :: List.take r ([49, 50, 51, 52, 53, 54, 55, 56, 57] : List UInt8)) = [UInt8.ofNat (48 + r)] := by
  have : r = 0 ∨ r = 1 ∨ r = 2 ∨ r = 3 ∨ r = 4 ∨ r = 5 ∨ r = 6 ∨ r = 7 ∨ r = 8 ∨ r = 9 := by omega
  rcases this with h | h | h | h | h | h | h | h | h | h <;> subst h <;> rfl

theorem digits_p (n w : Nat) (h0 : n < 1000000) (h1 : w < 1000) : Pur M 29 [.int .i64 n, .int .i64 w] (.str (dig n w)) := by
  refine ok29 rfl ?_
  rw [i29]
  unfold c29
  repeat' (first
    | with_reducible apply swp_seq
    | with_reducible apply swp_reg
    | with_reducible apply swp_regD
    | with_reducible apply swp_block
    | with_reducible apply swp_exit
    | with_reducible apply swp_ret
    | with_reducible apply swp_skip
    | with_reducible apply swp_cd
    | simp only [go_sem, Nat.reduceAdd, Nat.reduceSub, Nat.reduceMul, Nat.reduceEqDiff, Nat.reduceLeDiff, Nat.reduceLT, Int.reduceEq, Int.reduceNe, Int.reduceLT, Int.reduceLE, Int.reduceAdd, Int.reduceSub, Int.reduceMul, Int.reduceNeg, Int.reduceToNat, Int.reduceTDiv, Int.reduceTMod, Int.reduceBEq, Int.reduceBNe, decide_true, decide_false, reduceCtorEq, reduceIte, P29, q29]
    | simp (disch := omega) only [w64, w32, wu8, wu16, wu32, wu64]
    | with_reducible apply cd_dec
    | with_reducible apply cd_eq
    | with_reducible apply cd_ne
    | with_reducible apply cd_split
    | ((with_reducible refine And.intro ?hw ?_); (case hw => first | omega | rfl | exact ⟨_, _, rfl⟩ | assumption | (simp only [List.length_cons, List.length_nil, List.length_append, List.length_map, List.length_replicate, List.length_take, List.length_drop] <;> omega)))
    | with_reducible intro _)
  refine swp_fam [0, 1, 2, 3, 4] (fun p : Nat × Nat × List UInt8 => ⟨[.int .i64 p.1, .int .i64 w, .str [], .str p.2.2, .int .i64 p.2.1, .undef], [], ⟨[], []⟩⟩)
    (fun p => p.1 < 1000000 ∧ p.2.1 ≤ w ∧ p.2.2.length = p.2.1 ∧ dig p.1 (w - p.2.1) ++ p.2.2 = dig n w) (fun p => w - p.2.1) (n, 0, []) ⟨h0, by simp, rfl, by simp⟩ ?_ ?_
  · simp [keepE, St.keep]
  · rintro ⟨m, i, s⟩ ⟨g1, g2, g3, g4⟩
    simp only at g1 g2 g3 g4 ⊢
    have t1 : (m : Int).tmod 10 = ((m % 10 : Nat) : Int) := by rw [Int.tmod_eq_emod_of_nonneg (by omega)]; omega
    have t2 : (m : Int).tdiv 10 = ((m / 10 : Nat) : Int) := by rw [Int.tdiv_eq_ediv_of_nonneg (by omega)]; omega
    have t3 : ((m % 10 : Nat) : Int).toNat = m % 10 := by omega
    have t4 : (((m % 10 : Nat) : Int) + 1).toNat = m % 10 + 1 := by omega
    have t5 := digit_at (m % 10) (by omega)
    have t6 : ([UInt8.ofNat (48 + m % 10)] : List UInt8).length = 1 := rfl
    have hb : m % 10 < 10 := by omega
    repeat' (first
    | with_reducible apply swp_seq
    | with_reducible apply swp_reg
    | with_reducible apply swp_regD
    | with_reducible apply swp_block
    | with_reducible apply swp_exit
    | with_reducible apply swp_ret
    | with_reducible apply swp_skip
    | with_reducible apply swp_cd
    | simp only [go_sem, Nat.reduceAdd, Nat.reduceSub, Nat.reduceMul, Nat.reduceEqDiff, Nat.reduceLeDiff, Nat.reduceLT, Int.reduceEq, Int.reduceNe, Int.reduceLT, Int.reduceLE, Int.reduceAdd, Int.reduceSub, Int.reduceMul, Int.reduceNeg, Int.reduceToNat, Int.reduceTDiv, Int.reduceTMod, Int.reduceBEq, Int.reduceBNe, decide_true, decide_false, reduceCtorEq, reduceIte, P29, q29, t1, t2, t3, t4, t5, t6, List.length_append]
    | simp (disch := omega) only [w64, w32, wu8, wu16, wu32, wu64]
    | with_reducible apply cd_dec
    | with_reducible apply cd_eq
    | with_reducible apply cd_ne
    | with_reducible apply cd_split
    | ((with_reducible refine And.intro ?hw ?_); (case hw => first | omega | rfl | exact ⟨_, _, rfl⟩ | assumption | (simp only [List.length_cons, List.length_nil, List.length_append, List.length_map, List.length_replicate, List.length_take, List.length_drop] <;> omega)))
    | with_reducible intro _)
    · refine ⟨(m / 10, i + 1, UInt8.ofNat (48 + m % 10) :: s), ⟨by simp only; omega, by simp only; omega, by simp [g3], ?_⟩, by simp only; omega, ?_⟩
      · rw [← g4]
        simp only
        have e : w - i = (w - (i + 1)) + 1 := by omega
        rw [e, dig]
        simp
      · simp [keepE, St.keep]
    · have e : i = w := by omega
      subst e
      simp [dig] at g4
      subst g4
      simp [D.closed, D.er]
end Go.Proofs.YtapoplenfgjcjaaDoor
