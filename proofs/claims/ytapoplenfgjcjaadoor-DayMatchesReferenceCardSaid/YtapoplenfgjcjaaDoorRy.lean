/- What the reference functions of the day compute: the walks, third part: Number. Own work. -/
import Derived.Test.YtapoplenfgjcjaaDoorRx
set_option maxRecDepth 100000
set_option linter.unusedSimpArgs false
set_option linter.unusedVariables false
namespace Go.Proofs.YtapoplenfgjcjaaDoor
open Go GoV

def cumx (y m : Int) : Int := if m ≤ 12 then cum y m else cum y 12 + 31
def preM (y m y0 m0 : Int) : Int := if y0 < y then cumx y0 m0 else cum y (min m0 m)
def preY (y m y0 : Int) : Int := if y0 ≤ y then jan y0 else jan y + cum y m

theorem cumx_succ (y : Int) {m : Int} (h1 : 1 ≤ m) (h2 : m ≤ 12) : cumx y (m + 1) = cumx y m + mlen y m := by
  unfold cumx
  by_cases h : m = 12
  · subst h; simp [mlen]
  · rw [if_pos (by omega), if_pos (by omega), cum_succ y h1 (by omega)]

theorem cumx_bnd (y : Int) {m : Int} (h1 : 1 ≤ m) (h2 : m ≤ 13) : 0 ≤ cumx y m ∧ cumx y m ≤ 366 := by
  have hl := cum_last y
  unfold cumx
  split
  · have := cum_le y h1 (by omega)
    have := mlen_le y m
    split at * <;> omega
  · split at * <;> omega

theorem preM_bnd {y m y0 m0 : Int} (a1 : 1 ≤ m) (a2 : m ≤ 12) (b1 : 1 ≤ m0) (b2 : m0 ≤ 13) : 0 ≤ preM y m y0 m0 ∧ preM y m y0 m0 ≤ 366 := by
  unfold preM
  split
  · exact cumx_bnd y0 b1 b2
  · have := cum_le y (m := min m0 m) (by omega) (by omega)
    have := mlen_le y (min m0 m)
    split at * <;> omega

theorem preM_one {y m y0 : Int} (a1 : 1 ≤ m) : preM y m y0 1 = 0 := by
  unfold preM cumx
  have : min 1 m = 1 := by omega
  rw [this]; simp [cum]

theorem preM_step {y m y0 m0 : Int} (a1 : 1 ≤ m) (a2 : m ≤ 12) (b0 : y0 ≤ y) (b1 : 1 ≤ m0) (b2 : m0 ≤ 12) (c : y0 < y ∨ m0 < m) : preM y m y0 (m0 + 1) = preM y m y0 m0 + mlen y0 m0 := by
  unfold preM
  by_cases h : y0 < y
  · rw [if_pos h, if_pos h, cumx_succ y0 b1 b2]
  · have e : y0 = y := by omega
    subst e
    rw [if_neg h, if_neg h]
    have e1 : min (m0 + 1) m = m0 + 1 := by omega
    have e2 : min m0 m = m0 := by omega
    rw [e1, e2, cum_succ y0 b1 (by omega)]

theorem preM_stay {y m y0 m0 : Int} (c1 : ¬y0 < y) (c2 : ¬m0 < m) : preM y m y0 (m0 + 1) = preM y m y0 m0 := by
  unfold preM
  rw [if_neg c1, if_neg c1]
  have e1 : min (m0 + 1) m = m := by omega
  have e2 : min m0 m = m := by omega
  rw [e1, e2]

theorem preM_end {y m y0 : Int} (a2 : m ≤ 12) (b0 : y0 ≤ y) (b1 : 1 ≤ y0) : jan y0 + preM y m y0 13 = preY y m (y0 + 1) := by
  unfold preM preY
  by_cases h : y0 < y
  · rw [if_pos h, if_pos (by omega)]
    unfold cumx
    rw [if_neg (by omega), jan_succ b1]
    have := cum_last y0
    omega
  · have e : y0 = y := by omega
    subst e
    rw [if_neg h, if_neg (by omega)]
    have e1 : min 13 m = m := by omega
    rw [e1]

end Go.Proofs.YtapoplenfgjcjaaDoor
