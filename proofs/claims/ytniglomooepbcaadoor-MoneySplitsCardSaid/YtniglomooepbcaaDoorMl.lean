/- What the functions of money compute, in plain Lean: lists of numbers. Own work; no program in sight. -/
import Derived.Test.YtniglomooepbcaaDoorEt
namespace Go.Proofs.YtniglomooepbcaaDoor
open Go GoV

/-- A row of integers, as data. -/
abbrev ils (l : List Int) : List D := l.map (D.int .i64)

theorem ils_get {l : List Int} {i : Nat} (h : i < l.length) : (ils l).getD i .undef = .int .i64 (l.getD i 0) := by
  simp [ils, List.getD, h]

theorem ils_er (l : List Int) : D.erL (ils l) = ils l := by
  induction l with
  | nil => rfl
  | cons a l ih => simp [D.erL, D.er, ih]

theorem ils_closed (l : List Int) : D.closedL (ils l) = true := by
  induction l with
  | nil => rfl
  | cons a l ih => simp [D.closedL, D.closed, ih]

theorem ils_elems (l : List Int) : elemsK 1 (ils l) = true := by
  induction l with
  | nil => rfl
  | cons a l ih => simp [elemsK, D.isVal, D.cells, ih]

theorem take_step {α : Type} : ∀ {l : List α} {i : Nat} (h : i < l.length), l.take (i + 1) = l.take i ++ [l[i]]
  | a :: l, 0, _ => by simp
  | a :: l, i + 1, h => by
    simp only [List.take_succ_cons, List.cons_append, List.getElem_cons_succ]
    rw [take_step (l := l) (i := i) (by simpa using h)]

theorem sum_app : ∀ (a b : List Int), (a ++ b).sum = a.sum + b.sum
  | [], b => by simp
  | x :: a, b => by simp [sum_app a b]; omega

theorem take_sum {l : List Int} {i : Nat} (h : i < l.length) : (l.take (i + 1)).sum = (l.take i).sum + l.getD i 0 := by
  rw [take_step h, sum_app]
  simp [List.getD, h]

theorem take_all {l : List Int} {i : Nat} (p : Int → Prop) (h : i < l.length) (h1 : ∀ w ∈ l.take i, p w) (h2 : p (l.getD i 0)) : ∀ w ∈ l.take (i + 1), p w := by
  intro w hw
  rw [take_step h] at hw
  rcases List.mem_append.1 hw with hw | hw
  · exact h1 w hw
  · simp at hw; subst hw; simpa [List.getD, h] using h2

theorem sum_bnd {l : List Int} {b : Int} (h : ∀ w ∈ l, 0 ≤ w ∧ w ≤ b) : 0 ≤ l.sum ∧ l.sum ≤ b * l.length := by
  induction l with
  | nil => simp
  | cons a l ih =>
    have h1 := h a (by simp)
    have h2 := ih fun w hw => h w (by simp [hw])
    simp only [List.sum_cons, List.length_cons]
    have : b * ((l.length : Nat) + 1 : Nat) = b * l.length + b := by rw [Int.natCast_add, Int.mul_add]; simp
    omega

/-- The sum of weights; -1 if they are none. -/
def tot (l : List Int) : Int := if l.length ≤ 16 ∧ (∀ w ∈ l, 0 ≤ w ∧ w ≤ 9999999) ∧ l.sum ≠ 0 then l.sum else -1

/-- Percent, rounded to the nearest, halves to the even. -/
def pct (n p : Int) : Int × Int :=
  if 0 ≤ n ∧ n ≤ 1000000000000 ∧ 0 ≤ p ∧ p ≤ 100 then
    (n * p / 100 + (if n * p % 100 > 50 ∨ n * p % 100 = 50 ∧ n * p / 100 % 2 = 1 then 1 else 0), 0)
  else (0, 1)

end Go.Proofs.YtniglomooepbcaaDoor
