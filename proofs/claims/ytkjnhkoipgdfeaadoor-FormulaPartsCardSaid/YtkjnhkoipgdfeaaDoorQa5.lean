/- Own texts, merged by a program: the engine that walks the code, and what the functions that the law reaches compute. -/
import Derived.Test.YtkjnhkoipgdfeaaDoorQa4
section
set_option maxRecDepth 100000
set_option linter.unusedSimpArgs false
set_option linter.unusedVariables false
namespace Go.Proofs.YtkjnhkoipgdfeaaDoor
open Go GoV Go.RowKit
def mn (p q r s : Int) (i : Nat) : Int := if i ≤ 1 then p else if i = 2 then min p q else if i = 3 then min (min p q) r else min (min (min p q) r) s
def mx (p q r s : Int) (i : Nat) : Int := if i ≤ 1 then p else if i = 2 then max p q else if i = 3 then max (max p q) r else max (max (max p q) r) s
theorem mn_step (p q r s : Int) {i : Nat} (h1 : 1 ≤ i) (h2 : i < 4) : ∃ v, [D.int .i64 p, .int .i64 q, .int .i64 r, .int .i64 s].getD i .u0 = .int .i64 v ∧ mn p q r s (i + 1) = min (mn p q r s i) v ∧ mx p q r s (i + 1) = max (mx p q r s i) v := by
  have : i = 1 ∨ i = 2 ∨ i = 3 := by omega
  rcases this with rfl | rfl | rfl
  · exact ⟨q, rfl, by simp [mn], by simp [mx]⟩
  · exact ⟨r, rfl, by simp [mn], by simp [mx]⟩
  · exact ⟨s, rfl, by simp [mn], by simp [mx]⟩
theorem smin_p (p q r s : Int) : Pur M 119 [.slice [.int .i64 p, .int .i64 q, .int .i64 r, .int .i64 s] .no] (.int .i64 (mn p q r s 4)) := by
  refine k119.ok (C := C119) rfl rfl ?_
  rw [i119]
  unfold c119
  repeat' (first | with_reducible (apply swq; constructor) | simp only [go_sem, seval, P119, q119] | with_reducible (apply cA; constructor) | ((with_reducible refine And.intro ?hw ?_); (case hw => first | omega | rfl | exact ⟨_, _, rfl⟩ | assumption | (simp only [lN] <;> omega))) | with_reducible intro _)
  all_goals try (exfalso; omega)
  refine zCz [0, 2, 3] (fun i : Nat => ⟨[.slice [.int .i64 p, .int .i64 q, .int .i64 r, .int .i64 s] .no, .u0, .int .i64 (mn p q r s i), .int .i64 i, .u0, .u0], [], ⟨[], []⟩⟩) (fun i => 1 ≤ i ∧ i ≤ 4) (fun i => 4 - i) 1 (by omega) ?_ ?_
  · simp [keepE, St.keep, mn]
  · rintro i ⟨h1, h2⟩
    by_cases hi : i < 4
    · obtain ⟨v, hv, e1, e2⟩ := mn_step p q r s h1 hi
      have hd : decide ((i : Int) < 4) = true := by simp; omega
      generalize mn p q r s i = m at *
      have hlen : [D.int .i64 p, .int .i64 q, .int .i64 r, .int .i64 s].length = 4 := rfl
      generalize [D.int .i64 p, .int .i64 q, .int .i64 r, .int .i64 s] = L at *
      repeat' (first | with_reducible (apply swq; constructor) | simp only [go_sem, seval, P119, q119, hlen, hd, hv, minW] | simp (disch := omega) only [w64, w32, wu8, wu16, wu32, wu64] | with_reducible (apply cA; constructor) | ((with_reducible refine And.intro ?hw ?_); (case hw => first | omega | rfl | exact ⟨_, _, rfl⟩ | assumption | (simp only [lN, hlen, hv] <;> omega))) | with_reducible intro _)
      all_goals try (exfalso; omega)
      refine ⟨i + 1, ⟨by omega, by omega⟩, by omega, ?_⟩
      simp [keepE, St.keep, e1]
    · obtain rfl : i = 4 := by omega
      generalize mn p q r s 4 = m at *
      repeat' (first | with_reducible (apply swq; constructor) | simp only [go_sem, seval, P119, q119] | simp (disch := omega) only [w64, w32, wu8, wu16, wu32, wu64] | with_reducible (apply cA; constructor) | ((with_reducible refine And.intro ?hw ?_); (case hw => first | omega | rfl | exact ⟨_, _, rfl⟩ | assumption | (simp only [lN] <;> omega))) | with_reducible intro _)
      all_goals try (exfalso; omega)
      all_goals simp [D.closed, D.er]
theorem smax_p (p q r s : Int) : Pur M 120 [.slice [.int .i64 p, .int .i64 q, .int .i64 r, .int .i64 s] .no] (.int .i64 (mx p q r s 4)) := by
  refine k120.ok (C := C120) rfl rfl ?_
  rw [i120]
  unfold c120
  repeat' (first | with_reducible (apply swq; constructor) | simp only [go_sem, seval, P120, q120] | with_reducible (apply cA; constructor) | ((with_reducible refine And.intro ?hw ?_); (case hw => first | omega | rfl | exact ⟨_, _, rfl⟩ | assumption | (simp only [lN] <;> omega))) | with_reducible intro _)
  all_goals try (exfalso; omega)
  refine zCz [0, 2, 3] (fun i : Nat => ⟨[.slice [.int .i64 p, .int .i64 q, .int .i64 r, .int .i64 s] .no, .u0, .int .i64 (mx p q r s i), .int .i64 i, .u0, .u0], [], ⟨[], []⟩⟩) (fun i => 1 ≤ i ∧ i ≤ 4) (fun i => 4 - i) 1 (by omega) ?_ ?_
  · simp [keepE, St.keep, mx]
  · rintro i ⟨h1, h2⟩
    by_cases hi : i < 4
    · obtain ⟨v, hv, e1, e2⟩ := mn_step p q r s h1 hi
      have hd : decide ((i : Int) < 4) = true := by simp; omega
      generalize mx p q r s i = m at *
      have hlen : [D.int .i64 p, .int .i64 q, .int .i64 r, .int .i64 s].length = 4 := rfl
      generalize [D.int .i64 p, .int .i64 q, .int .i64 r, .int .i64 s] = L at *
      repeat' (first | with_reducible (apply swq; constructor) | simp only [go_sem, seval, P120, q120, hlen, hd, hv, maxW] | simp (disch := omega) only [w64, w32, wu8, wu16, wu32, wu64] | with_reducible (apply cA; constructor) | ((with_reducible refine And.intro ?hw ?_); (case hw => first | omega | rfl | exact ⟨_, _, rfl⟩ | assumption | (simp only [lN, hlen, hv] <;> omega))) | with_reducible intro _)
      all_goals try (exfalso; omega)
      refine ⟨i + 1, ⟨by omega, by omega⟩, by omega, ?_⟩
      simp [keepE, St.keep, e2]
    · obtain rfl : i = 4 := by omega
      generalize mx p q r s 4 = m at *
      repeat' (first | with_reducible (apply swq; constructor) | simp only [go_sem, seval, P120, q120] | simp (disch := omega) only [w64, w32, wu8, wu16, wu32, wu64] | with_reducible (apply cA; constructor) | ((with_reducible refine And.intro ?hw ?_); (case hw => first | omega | rfl | exact ⟨_, _, rfl⟩ | assumption | (simp only [lN] <;> omega))) | with_reducible intro _)
      all_goals try (exfalso; omega)
      all_goals simp [D.closed, D.er]
theorem around_p (p q r s : Int) : Pur M 116 [.slice [.int .i64 p, .int .i64 q, .int .i64 r, .int .i64 s] .no] (ivD (min (min p q) (min r s), max (max p q) (max r s))) := by
  refine k116.ok (C := C116) rfl rfl ?_
  rw [i116]
  unfold c116
  have c1 := smin_p p q r s
  have c2 := smax_p p q r s
  have e1 : mn p q r s 4 = min (min p q) (min r s) := by simp only [mn]; omega
  have e2 : mx p q r s 4 = max (max p q) (max r s) := by simp only [mx]; omega
  rw [e1] at c1
  rw [e2] at c2
  generalize min (min p q) (min r s) = a at *
  generalize max (max p q) (max r s) = b at *
  repeat' (first | with_reducible (apply swq; constructor) | simp only [go_sem, seval, P116, q116] | ((with_reducible refine zAb (c1) ?he ?hc ?_); (case he | hc => first | rfl | (simp [D.erL, D.er, D.cL, D.closed]; done))) | ((with_reducible refine zAb (c2) ?he ?hc ?_); (case he | hc => first | rfl | (simp [D.erL, D.er, D.cL, D.closed]; done))) | with_reducible (apply cA; constructor) | ((with_reducible refine And.intro ?hw ?_); (case hw => first | omega | rfl | exact ⟨_, _, rfl⟩ | assumption | (simp only [lN] <;> omega))) | with_reducible intro _)
  all_goals first | omega | (simp_all [D.closed, D.er, D.cL, D.erL]; done) | (simp_all [D.closed, D.er, D.cL, D.erL] <;> omega)
def bothI (g : Int → Int → Int) (A B : Iv) : Iv := if okI A ∧ okI B then corn g A B else (0, 0)
theorem both_p (f : FuncId) (g : Int → Int → Int) (hg : ∀ x y, Rg x → Rg y → Pur M f [.int .i64 x, .int .i64 y] (.int .i64 (g x y))) (A B : Iv) : Pur M 110 [ivD A, ivD B, .fn (.func f) [] []] (ivD (bothI g A B)) := by
  refine k110.ok (C := C110) rfl rfl ?_
  rw [i110]
  unfold c110
  have c1 := zEm A
  have c2 := zEm B
  unfold bothI
  by_cases h1 : okI A
  · by_cases h2 : okI B
    · rw [if_pos ⟨h1, h2⟩]
      rw [decide_eq_true h1] at c1
      rw [decide_eq_true h2] at c2
      obtain ⟨a1, a2, a3⟩ := h1
      obtain ⟨b1, b2, b3⟩ := h2
      have c3 := hg A.1 B.1 ⟨by omega, by omega⟩ ⟨by omega, by omega⟩
      have c4 := hg A.1 B.2 ⟨by omega, by omega⟩ ⟨by omega, by omega⟩
      have c5 := hg A.2 B.1 ⟨by omega, by omega⟩ ⟨by omega, by omega⟩
      have c6 := hg A.2 B.2 ⟨by omega, by omega⟩ ⟨by omega, by omega⟩
      unfold corn
      have c7 := around_p (g A.1 B.1) (g A.1 B.2) (g A.2 B.1) (g A.2 B.2)
      generalize g A.1 B.1 = x1 at *
      generalize g A.1 B.2 = x2 at *
      generalize g A.2 B.1 = x3 at *
      generalize g A.2 B.2 = x4 at *
      generalize min (min x1 x2) (min x3 x4) = lo at *
      generalize max (max x1 x2) (max x3 x4) = hi at *
      repeat' (first | with_reducible (apply swq; constructor) | simp only [go_sem, seval, P110, q110] | ((with_reducible refine zAb (c1) ?he ?hc ?_); (case he | hc => first | rfl | (simp [D.erL, D.er, D.cL, D.closed]; done))) | ((with_reducible refine zAb (c2) ?he ?hc ?_); (case he | hc => first | rfl | (simp [D.erL, D.er, D.cL, D.closed]; done))) | ((with_reducible refine zAb (c3) ?he ?hc ?_); (case he | hc => first | rfl | (simp [D.erL, D.er, D.cL, D.closed]; done))) | ((with_reducible refine zAb (c4) ?he ?hc ?_); (case he | hc => first | rfl | (simp [D.erL, D.er, D.cL, D.closed]; done))) | ((with_reducible refine zAb (c5) ?he ?hc ?_); (case he | hc => first | rfl | (simp [D.erL, D.er, D.cL, D.closed]; done))) | ((with_reducible refine zAb (c6) ?he ?hc ?_); (case he | hc => first | rfl | (simp [D.erL, D.er, D.cL, D.closed]; done))) | ((with_reducible refine zAb (c7) ?he ?hc ?_); (case he | hc => first | rfl | (simp [D.erL, D.er, D.cL, D.closed]; done))) | ((with_reducible apply s_bsl); (case he | hl | hc => first | rfl | assumption | omega | ((first | refine ⟨?_, ?_⟩ | skip) <;> first | omega | (simp only [lN] <;> omega)) | (simp [zAa, D.iV, D.cells, D.cL, D.closed]; first | done | omega))) | (with_reducible first | (apply cA; constructor) | (apply gA; constructor)) | ((with_reducible refine And.intro ?hw ?_); (case hw => first | omega | rfl | exact ⟨_, _, rfl⟩ | assumption | (simp only [lN] <;> omega))) | with_reducible intro _)
      all_goals first | omega | (simp_all [D.closed, D.er, D.cL, D.erL]; done) | (simp_all [D.closed, D.er, D.cL, D.erL] <;> omega)
    · rw [if_neg (fun h => h2 h.2)]
      rw [decide_eq_true h1] at c1
      rw [decide_eq_false h2] at c2
      repeat' (first | with_reducible (apply swq; constructor) | simp only [go_sem, seval, P110, q110] | ((with_reducible refine zAb (c1) ?he ?hc ?_); (case he | hc => first | rfl | (simp [D.erL, D.er, D.cL, D.closed]; done))) | ((with_reducible refine zAb (c2) ?he ?hc ?_); (case he | hc => first | rfl | (simp [D.erL, D.er, D.cL, D.closed]; done))) | ((with_reducible apply s_bsl); (case he | hl | hc => first | rfl | assumption | omega | ((first | refine ⟨?_, ?_⟩ | skip) <;> first | omega | (simp only [lN] <;> omega)) | (simp [zAa, D.iV, D.cells, D.cL, D.closed]; first | done | omega))) | (with_reducible first | (apply cA; constructor) | (apply gA; constructor)) | ((with_reducible refine And.intro ?hw ?_); (case hw => first | omega | rfl | exact ⟨_, _, rfl⟩ | assumption | (simp only [lN] <;> omega))) | with_reducible intro _)
      all_goals first | omega | (simp_all [D.closed, D.er, D.cL, D.erL]; done) | (simp_all [D.closed, D.er, D.cL, D.erL] <;> omega)
  · rw [if_neg (fun h => h1 h.1)]
    rw [decide_eq_false h1] at c1
    repeat' (first | with_reducible (apply swq; constructor) | simp only [go_sem, seval, P110, q110] | ((with_reducible refine zAb (c1) ?he ?hc ?_); (case he | hc => first | rfl | (simp [D.erL, D.er, D.cL, D.closed]; done))) | ((with_reducible refine zAb (c2) ?he ?hc ?_); (case he | hc => first | rfl | (simp [D.erL, D.er, D.cL, D.closed]; done))) | ((with_reducible apply s_bsl); (case he | hl | hc => first | rfl | assumption | omega | ((first | refine ⟨?_, ?_⟩ | skip) <;> first | omega | (simp only [lN] <;> omega)) | (simp [zAa, D.iV, D.cells, D.cL, D.closed]; first | done | omega))) | (with_reducible first | (apply cA; constructor) | (apply gA; constructor)) | ((with_reducible refine And.intro ?hw ?_); (case hw => first | omega | rfl | exact ⟨_, _, rfl⟩ | assumption | (simp only [lN] <;> omega))) | with_reducible intro _)
    all_goals first | omega | (simp_all [D.closed, D.er, D.cL, D.erL]; done) | (simp_all [D.closed, D.er, D.cL, D.erL] <;> omega)
theorem add_p (A B : Iv) : Pur M 104 [ivD A, ivD B] (ivD (bothI (fun a b => sat (a + b)) A B)) := by
  refine k104.ok (C := C104) rfl rfl ?_
  rw [i104]
  unfold c104
  have c1 := both_p 111 (fun a b => sat (a + b)) (fun x y h1 h2 => plus_p x y h1 h2) A B
  generalize bothI (fun a b => sat (a + b)) A B = R at *
  repeat' (first | with_reducible (apply swq; constructor) | simp only [go_sem, seval, P104, q104] | ((with_reducible refine zAb (c1) ?he ?hc ?_); (case he | hc => first | rfl | (simp [D.erL, D.er, D.cL, D.closed]; done))) | with_reducible (apply cA; constructor) | ((with_reducible refine And.intro ?hw ?_); (case hw => first | omega | rfl | exact ⟨_, _, rfl⟩ | assumption | (simp only [lN] <;> omega))) | with_reducible intro _)
  all_goals first | omega | (simp_all [D.closed, D.er, D.cL, D.erL]; done) | (simp_all [D.closed, D.er, D.cL, D.erL] <;> omega)
theorem sub_p (A B : Iv) : Pur M 105 [ivD A, ivD B] (ivD (bothI (fun a b => sat (a - b)) A B)) := by
  refine k105.ok (C := C105) rfl rfl ?_
  rw [i105]
  unfold c105
  have c1 := both_p 112 (fun a b => sat (a - b)) (fun x y h1 h2 => minus_p x y h1 h2) A B
  generalize bothI (fun a b => sat (a - b)) A B = R at *
  repeat' (first | with_reducible (apply swq; constructor) | simp only [go_sem, seval, P105, q105] | ((with_reducible refine zAb (c1) ?he ?hc ?_); (case he | hc => first | rfl | (simp [D.erL, D.er, D.cL, D.closed]; done))) | with_reducible (apply cA; constructor) | ((with_reducible refine And.intro ?hw ?_); (case hw => first | omega | rfl | exact ⟨_, _, rfl⟩ | assumption | (simp only [lN] <;> omega))) | with_reducible intro _)
  all_goals first | omega | (simp_all [D.closed, D.er, D.cL, D.erL]; done) | (simp_all [D.closed, D.er, D.cL, D.erL] <;> omega)
theorem mul_p (A B : Iv) : Pur M 106 [ivD A, ivD B] (ivD (bothI (fun a b => sat (a * b)) A B)) := by
  refine k106.ok (C := C106) rfl rfl ?_
  rw [i106]
  unfold c106
  have c1 := both_p 113 (fun a b => sat (a * b)) (fun x y h1 h2 => times_p x y h1 h2) A B
  generalize bothI (fun a b => sat (a * b)) A B = R at *
  repeat' (first | with_reducible (apply swq; constructor) | simp only [go_sem, seval, P106, q106] | ((with_reducible refine zAb (c1) ?he ?hc ?_); (case he | hc => first | rfl | (simp [D.erL, D.er, D.cL, D.closed]; done))) | with_reducible (apply cA; constructor) | ((with_reducible refine And.intro ?hw ?_); (case hw => first | omega | rfl | exact ⟨_, _, rfl⟩ | assumption | (simp only [lN] <;> omega))) | with_reducible intro _)
  all_goals first | omega | (simp_all [D.closed, D.er, D.cL, D.erL]; done) | (simp_all [D.closed, D.er, D.cL, D.erL] <;> omega)
theorem join_p (A B : Iv) (h1 : okI A) (h2 : okI B) : Pur M 109 [ivD A, ivD B] (ivD (joinI A B)) := by
  refine k109.ok (C := C109) rfl rfl ?_
  rw [i109]
  unfold c109
  have c1 := zEm A
  have c2 := zEm B
  rw [decide_eq_true h1] at c1
  rw [decide_eq_true h2] at c2
  have c3 := around_p A.1 A.2 B.1 B.2
  have e : joinI A B = (min (min A.1 A.2) (min B.1 B.2), max (max A.1 A.2) (max B.1 B.2)) := by
    obtain ⟨a1, a2, a3⟩ := h1
    obtain ⟨b1, b2, b3⟩ := h2
    simp only [joinI, Prod.mk.injEq]
    omega
  rw [e]
  generalize min (min A.1 A.2) (min B.1 B.2) = lo at *
  generalize max (max A.1 A.2) (max B.1 B.2) = hi at *
  repeat' (first | with_reducible (apply swq; constructor) | simp only [go_sem, seval, P109, q109] | ((with_reducible refine zAb (c1) ?he ?hc ?_); (case he | hc => first | rfl | (simp [D.erL, D.er, D.cL, D.closed]; done))) | ((with_reducible refine zAb (c2) ?he ?hc ?_); (case he | hc => first | rfl | (simp [D.erL, D.er, D.cL, D.closed]; done))) | ((with_reducible refine zAb (c3) ?he ?hc ?_); (case he | hc => first | rfl | (simp [D.erL, D.er, D.cL, D.closed]; done))) | ((with_reducible apply s_bsl); (case he | hl | hc => first | rfl | assumption | omega | ((first | refine ⟨?_, ?_⟩ | skip) <;> first | omega | (simp only [lN] <;> omega)) | (simp [zAa, D.iV, D.cells, D.cL, D.closed]; first | done | omega))) | (with_reducible first | (apply cA; constructor) | (apply gA; constructor)) | ((with_reducible refine And.intro ?hw ?_); (case hw => first | omega | rfl | exact ⟨_, _, rfl⟩ | assumption | (simp only [lN] <;> omega))) | with_reducible intro _)
  all_goals first | omega | (simp_all [D.closed, D.er, D.cL, D.erL]; done) | (simp_all [D.closed, D.er, D.cL, D.erL] <;> omega)
def overI (A : Iv) : Int := if A.2 ≤ 0 then 0 else if 0 < A.1 then 2 else 1
theorem over_p (A : Iv) (h1 : okI A) : Pur M 108 [ivD A, .int .i64 0] (.int .i64 (overI A)) := by
  refine k108.ok (C := C108) rfl rfl ?_
  rw [i108]
  unfold c108
  have c1 := zEm A
  rw [decide_eq_true h1] at c1
  unfold overI
  by_cases g1 : A.2 ≤ 0
  · rw [if_pos g1]
    have t1 : decide (A.2 ≤ 0) = true := by simp [g1]
    repeat' (first | with_reducible (apply swq; constructor) | simp only [go_sem, seval, P108, q108, t1] | ((with_reducible refine zAb (c1) ?he ?hc ?_); (case he | hc => first | rfl | (simp [D.erL, D.er, D.cL, D.closed]; done))) | (with_reducible first | (apply cA; constructor) | (apply gA; constructor)) | ((with_reducible refine And.intro ?hw ?_); (case hw => first | omega | rfl | exact ⟨_, _, rfl⟩ | assumption | (simp only [lN] <;> omega))) | with_reducible intro _)
    all_goals first | omega | (simp_all [D.closed, D.er, D.cL, D.erL]; done) | (simp_all [D.closed, D.er, D.cL, D.erL] <;> omega)
  · rw [if_neg g1]
    have t1 : decide (A.2 ≤ 0) = false := by simp; omega
    by_cases g2 : 0 < A.1
    · rw [if_pos g2]
      have t2 : decide (A.1 > 0) = true := by simp [g2]
      repeat' (first | with_reducible (apply swq; constructor) | simp only [go_sem, seval, P108, q108, t1, t2] | ((with_reducible refine zAb (c1) ?he ?hc ?_); (case he | hc => first | rfl | (simp [D.erL, D.er, D.cL, D.closed]; done))) | (with_reducible first | (apply cA; constructor) | (apply gA; constructor)) | ((with_reducible refine And.intro ?hw ?_); (case hw => first | omega | rfl | exact ⟨_, _, rfl⟩ | assumption | (simp only [lN] <;> omega))) | with_reducible intro _)
      all_goals first | omega | (simp_all [D.closed, D.er, D.cL, D.erL]; done) | (simp_all [D.closed, D.er, D.cL, D.erL] <;> omega)
    · rw [if_neg g2]
      have t2 : decide (A.1 > 0) = false := by simp; omega
      repeat' (first | with_reducible (apply swq; constructor) | simp only [go_sem, seval, P108, q108, t1, t2] | ((with_reducible refine zAb (c1) ?he ?hc ?_); (case he | hc => first | rfl | (simp [D.erL, D.er, D.cL, D.closed]; done))) | (with_reducible first | (apply cA; constructor) | (apply gA; constructor)) | ((with_reducible refine And.intro ?hw ?_); (case hw => first | omega | rfl | exact ⟨_, _, rfl⟩ | assumption | (simp only [lN] <;> omega))) | with_reducible intro _)
      all_goals first | omega | (simp_all [D.closed, D.er, D.cL, D.erL]; done) | (simp_all [D.closed, D.er, D.cL, D.erL] <;> omega)
end Go.Proofs.YtkjnhkoipgdfeaaDoor
end
section
set_option maxRecDepth 100000
set_option linter.unusedSimpArgs false
set_option linter.unusedVariables false
namespace Go.Proofs.YtkjnhkoipgdfeaaDoor
open Go GoV Go.RowKit
def ivs (L : List Iv) : List D := L.map fun i => ivD i
theorem ivs_len (L : List Iv) : (ivs L).length = L.length := by simp [ivs]
theorem ivs_app (L L' : List Iv) : ivs (L ++ L') = ivs L ++ ivs L' := by simp [ivs]
theorem ivs_get {L : List Iv} {i : Nat} (h : i < L.length) : (ivs L).getD i .u0 = ivD (L.getD i (0, 0)) := by simp [ivs, List.getD, h]
theorem ivs_rn (β τ : Nat → Option Nat) : ∀ L : List Iv, D.rnL β τ (ivs L) = ivs L
  | [] => rfl
  | x :: L => by have := ivs_rn β τ L; simp_all [ivs, D.rnL, D.rn]
theorem ivs_elems : ∀ L : List Iv, zAa 2 (ivs L) = true
  | [] => rfl
  | x :: L => by have := ivs_elems L; simp_all [ivs, zAa, D.iV, D.cells]
def hpD (A : Iv) (L : List Iv) : Hp := ⟨[.cells [.int .i64 A.1, .int .i64 A.2], .cells [.slice (ivs L) (.tok 0)]], [.per 2 L.length]⟩
theorem signed_e (A : Iv) (hA : Rg A.1) (hA2 : Rg A.2) (L : List Iv) (hL : L.length ≤ 10) (l h : Int) (hl : Rg l) (hh : Rg h) : Eff M 114 [.int .i64 l, .int .i64 h, .ptr 0 0, .ptr 1 0] (hpD A L) fun d hp => d = .tup [] ∧ hp = hpD A (L ++ sgn A l h) := by
  refine k114.oe 2 1 rfl rfl rfl ?_
  rw [ie114]
  unfold c114
  unfold sgn
  by_cases hlh : l ≤ h
  · have t0 : decide (l ≤ h) = true := by simp [hlh]
    rw [if_pos hlh]
    unfold hpD
    repeat' (first | with_reducible (apply swq; constructor) | simp only [go_sem, seval, pe114, q114, t0] | ((with_reducible apply zA2); (case he => rfl); (case hK | hc | hr | hV => first | rfl | assumption | omega | ((first | refine ⟨?_, ?_⟩ | skip) <;> first | omega | (simp only [lN] <;> omega)) | (simp [zAa, D.iV, D.cells, D.cL, D.closed]; first | done | omega))) | ((with_reducible apply zA3); (case he => rfl); (case hV | hK | hr | hl => first | rfl | assumption | omega | ((first | refine ⟨?_, ?_⟩ | skip) <;> first | omega | (simp only [lN] <;> omega)) | (simp [zAa, D.iV, D.cells, D.cL, D.closed]; first | done | omega))) | ((with_reducible apply zA5); (case he => rfl); (case hK | hc | hr => first | rfl | assumption | omega | ((first | refine ⟨?_, ?_⟩ | skip) <;> first | omega | (simp only [lN] <;> omega)) | (simp [zAa, D.iV, D.cells, D.cL, D.closed]; first | done | omega))) | ((with_reducible apply zA4); (case he => rfl); (case hK | hc | hr | hx | hn => first | rfl | assumption | omega | ((first | refine ⟨?_, ?_⟩ | skip) <;> first | omega | (simp only [lN] <;> omega)) | (simp [zAa, D.iV, D.cells, D.cL, D.closed]; first | done | omega))) | ((with_reducible apply s_bsl); (case he | hl | hc => first | rfl | assumption | omega | ((first | refine ⟨?_, ?_⟩ | skip) <;> first | omega | (simp only [lN] <;> omega)) | (simp [zAa, D.iV, D.cells, D.cL, D.closed]; first | done | omega))) | with_reducible (apply cA; constructor) | ((with_reducible refine And.intro ?hw ?_); (case hw => first | omega | rfl | exact ⟨_, _, rfl⟩ | assumption | (simp only [lN] <;> omega))) | with_reducible intro _)
    refine zCz [2, 3, 8, 9, 10] (fun i : Nat => ⟨[.u0, .u0, .ptr 0 0, .ptr 1 0, .u0, .u0, .u0, .u0, .slice [.int .i64 l, .int .i64 h] .full, .int .i64 2, .int .i64 i, .u0], [], hpD A (L ++ [flP A l, flP A h].take i)⟩) (fun i => i ≤ 2) (fun i => 2 - i) 0 (by omega) ?_ ?_
    · simp [keepE, St.keep, hpD]
    · intro i hi
      by_cases hi2 : i < 2
      · have hd : decide ((i : Int) < 2) = true := by simp; omega
        have key : ∃ v, Rg v ∧ [D.int .i64 l, .int .i64 h].getD i .u0 = .int .i64 v ∧ [flP A l, flP A h].take (i + 1) = [flP A l, flP A h].take i ++ [flP A v] := by
          have : i = 0 ∨ i = 1 := by omega
          rcases this with rfl | rfl
          · exact ⟨l, hl, rfl, rfl⟩
          · exact ⟨h, hh, rfl, rfl⟩
        obtain ⟨v, hv, hg, ht⟩ := key
        have c1 := floor_p A.1 v hA hv
        have c2 := floor_p A.2 v hA2 hv
        have hT : ([flP A l, flP A h].take i).length = i := by rw [List.length_take]; simp; omega
        generalize [flP A l, flP A h].take i = T at *
        have hfp : flP A v = (min (fl A.1 v) (fl A.2 v), max (fl A.1 v) (fl A.2 v)) := rfl
        rw [hfp] at ht
        generalize fl A.1 v = x at *
        generalize fl A.2 v = y at *
        have hlen : [D.int .i64 l, .int .i64 h].length = 2 := rfl
        generalize [D.int .i64 l, .int .i64 h] = W at *
        have hil := ivs_len (L ++ T)
        have hel := ivs_elems (L ++ T)
        unfold hpD
        repeat' (first | with_reducible (apply swq; constructor) | simp only [go_sem, seval, pe114, q114, hlen, hd, hg, minW, maxW] | simp (disch := omega) only [w64, w32, wu8, wu16, wu32, wu64] | ((with_reducible first | refine zAb (c1) ?he ?hc ?_ | refine zAe (c1) ?he ?hc ?_ | refine zAf (c1) ?he ?hc ?_); (case he | hc => first | rfl | (simp [D.erL, D.er, D.cL, D.closed, hlen, hg, hil, hel]; done))) | ((with_reducible first | refine zAb (c2) ?he ?hc ?_ | refine zAe (c2) ?he ?hc ?_ | refine zAf (c2) ?he ?hc ?_); (case he | hc => first | rfl | (simp [D.erL, D.er, D.cL, D.closed, hlen, hg, hil, hel]; done))) | ((with_reducible apply zA2); (case he => rfl); (case hK | hc | hr | hV => first | rfl | assumption | omega | ((first | refine ⟨?_, ?_⟩ | skip) <;> first | omega | (simp only [lN, hlen, hg, hil, hel] <;> omega)) | (simp [zAa, D.iV, D.cells, D.cL, D.closed, hlen, hg, hil, hel]; first | done | omega))) | ((with_reducible apply zA3); (case he => rfl); (case hV | hK | hr | hl => first | rfl | assumption | omega | ((first | refine ⟨?_, ?_⟩ | skip) <;> first | omega | (simp only [lN, hlen, hg, hil, hel] <;> omega)) | (simp [zAa, D.iV, D.cells, D.cL, D.closed, hlen, hg, hil, hel]; first | done | omega))) | ((with_reducible apply zA5); (case he => rfl); (case hK | hc | hr => first | rfl | assumption | omega | ((first | refine ⟨?_, ?_⟩ | skip) <;> first | omega | (simp only [lN, hlen, hg, hil, hel] <;> omega)) | (simp [zAa, D.iV, D.cells, D.cL, D.closed, hlen, hg, hil, hel]; first | done | omega))) | ((with_reducible apply zA4); (case he => rfl); (case hK | hc | hr | hx | hn => first | rfl | assumption | omega | ((first | refine ⟨?_, ?_⟩ | skip) <;> first | omega | (simp only [lN, hlen, hg, hil, hel] <;> omega)) | (simp [zAa, D.iV, D.cells, D.cL, D.closed, hlen, hg, hil, hel]; first | done | omega))) | ((with_reducible apply s_bsl); (case he | hl | hc => first | rfl | assumption | omega | ((first | refine ⟨?_, ?_⟩ | skip) <;> first | omega | (simp only [lN, hlen, hg, hil, hel] <;> omega)) | (simp [zAa, D.iV, D.cells, D.cL, D.closed, hlen, hg, hil, hel]; first | done | omega))) | with_reducible (apply cA; constructor) | ((with_reducible refine And.intro ?hw ?_); (case hw => first | omega | rfl | exact ⟨_, _, rfl⟩ | assumption | (simp only [lN, hlen, hg, hil, hel] <;> omega))) | with_reducible intro _)
        all_goals try (exfalso; simp only [List.length_append] at *; omega)
        refine ⟨i + 1, by omega, by omega, ?_⟩
        simp [keepE, St.keep, ht, ivs_app, ivs]
        try omega
      · obtain rfl : i = 2 := by omega
        have hd : decide (((2 : Nat) : Int) < 2) = false := rfl
        unfold hpD
        repeat' (first | with_reducible (apply swq; constructor) | simp only [go_sem, seval, pe114, q114, hd] | simp (disch := omega) only [w64, w32, wu8, wu16, wu32, wu64] | ((with_reducible apply zA2); (case he => rfl); (case hK | hc | hr | hV => first | rfl | assumption | omega | ((first | refine ⟨?_, ?_⟩ | skip) <;> first | omega | (simp only [lN] <;> omega)) | (simp [zAa, D.iV, D.cells, D.cL, D.closed]; first | done | omega))) | ((with_reducible apply zA3); (case he => rfl); (case hV | hK | hr | hl => first | rfl | assumption | omega | ((first | refine ⟨?_, ?_⟩ | skip) <;> first | omega | (simp only [lN] <;> omega)) | (simp [zAa, D.iV, D.cells, D.cL, D.closed]; first | done | omega))) | ((with_reducible apply zA5); (case he => rfl); (case hK | hc | hr => first | rfl | assumption | omega | ((first | refine ⟨?_, ?_⟩ | skip) <;> first | omega | (simp only [lN] <;> omega)) | (simp [zAa, D.iV, D.cells, D.cL, D.closed]; first | done | omega))) | ((with_reducible apply zA4); (case he => rfl); (case hK | hc | hr | hx | hn => first | rfl | assumption | omega | ((first | refine ⟨?_, ?_⟩ | skip) <;> first | omega | (simp only [lN] <;> omega)) | (simp [zAa, D.iV, D.cells, D.cL, D.closed]; first | done | omega))) | ((with_reducible apply s_bsl); (case he | hl | hc => first | rfl | assumption | omega | ((first | refine ⟨?_, ?_⟩ | skip) <;> first | omega | (simp only [lN] <;> omega)) | (simp [zAa, D.iV, D.cells, D.cL, D.closed]; first | done | omega))) | with_reducible (apply cA; constructor) | ((with_reducible refine And.intro ?hw ?_); (case hw => first | omega | rfl | exact ⟨_, _, rfl⟩ | assumption | (simp only [lN] <;> omega))) | with_reducible intro _)
        all_goals try (exfalso; omega)
        exact ⟨_, zAn, by simp⟩
  · have t0 : decide (l ≤ h) = false := by simp; omega
    rw [if_neg hlh]
    repeat' (first | with_reducible (apply swq; constructor) | simp only [go_sem, seval, pe114, q114, t0] | ((with_reducible apply zA2); (case he => rfl); (case hK | hc | hr | hV => first | rfl | assumption | omega | ((first | refine ⟨?_, ?_⟩ | skip) <;> first | omega | (simp only [lN] <;> omega)) | (simp [zAa, D.iV, D.cells, D.cL, D.closed]; first | done | omega))) | ((with_reducible apply zA3); (case he => rfl); (case hV | hK | hr | hl => first | rfl | assumption | omega | ((first | refine ⟨?_, ?_⟩ | skip) <;> first | omega | (simp only [lN] <;> omega)) | (simp [zAa, D.iV, D.cells, D.cL, D.closed]; first | done | omega))) | ((with_reducible apply zA5); (case he => rfl); (case hK | hc | hr => first | rfl | assumption | omega | ((first | refine ⟨?_, ?_⟩ | skip) <;> first | omega | (simp only [lN] <;> omega)) | (simp [zAa, D.iV, D.cells, D.cL, D.closed]; first | done | omega))) | ((with_reducible apply zA4); (case he => rfl); (case hK | hc | hr | hx | hn => first | rfl | assumption | omega | ((first | refine ⟨?_, ?_⟩ | skip) <;> first | omega | (simp only [lN] <;> omega)) | (simp [zAa, D.iV, D.cells, D.cL, D.closed]; first | done | omega))) | ((with_reducible apply s_bsl); (case he | hl | hc => first | rfl | assumption | omega | ((first | refine ⟨?_, ?_⟩ | skip) <;> first | omega | (simp only [lN] <;> omega)) | (simp [zAa, D.iV, D.cells, D.cL, D.closed]; first | done | omega))) | with_reducible (apply cA; constructor) | ((with_reducible refine And.intro ?hw ?_); (case hw => first | omega | rfl | exact ⟨_, _, rfl⟩ | assumption | (simp only [lN] <;> omega))) | with_reducible intro _)
    exact ⟨_, zAn, by simp⟩
end Go.Proofs.YtkjnhkoipgdfeaaDoor
end
section
set_option maxRecDepth 100000
set_option linter.unusedSimpArgs false
set_option linter.unusedVariables false
namespace Go.Proofs.YtkjnhkoipgdfeaaDoor
open Go GoV Go.RowKit
theorem flP_ok {A : Iv} (hA : okI A) (d : Int) : okI (flP A d) := by
  have h1 := fl_rng (b := d) (show Rg A.1 from ⟨hA.1, Int.le_trans hA.2.1 hA.2.2⟩)
  have h2 := fl_rng (b := d) (show Rg A.2 from ⟨Int.le_trans hA.1 hA.2.1, hA.2.2⟩)
  obtain ⟨a1, a2⟩ := h1
  obtain ⟨b1, b2⟩ := h2
  refine ⟨?_, ?_, ?_⟩ <;> simp only [flP] <;> omega
theorem pieces_ok {A B : Iv} (hA : okI A) : ∀ p ∈ zBl A B, okI p := fun p hp => by
  obtain ⟨d, _, rfl⟩ := piece_mem hp
  exact flP_ok hA d
theorem join_ok {a b : Iv} (h1 : okI a) (h2 : okI b) : okI (joinI a b) := by
  simp only [okI, joinI] at *; omega
def jn (P : List Iv) (i : Nat) : Iv := (P.take i).foldl joinI (P.getD 0 (0, 0))
theorem jn_step {P : List Iv} {i : Nat} (h : i < P.length) : jn P (i + 1) = joinI (jn P i) (P.getD i (0, 0)) := by
  unfold jn
  rw [List.take_succ_eq_append_getElem h, List.foldl_append]
  simp [List.getD, h]
theorem jn_all {P : List Iv} (h : P ≠ []) : jn P P.length = hull P := by
  cases P with
  | nil => exact absurd rfl h
  | cons x l =>
    simp only [jn, List.take_length, List.getD_cons_zero, List.foldl_cons, hull]
    have : joinI x x = x := by simp only [joinI]; exact Prod.ext (by simp only; omega) (by simp only; omega)
    rw [this]
theorem jn_ok {P : List Iv} (hp : ∀ p ∈ P, okI p) (h0 : P ≠ []) : ∀ i, i ≤ P.length → okI (jn P i)
  | 0, _ => by
    cases P with
    | nil => exact absurd rfl h0
    | cons x l => simpa [jn] using hp x (by simp)
  | i + 1, h => by
    rw [jn_step (by omega)]
    have : P.getD i (0, 0) = P[i]'(by omega) := by simp [List.getD, show i < P.length by omega]
    exact join_ok (jn_ok hp h0 i (by omega)) (by rw [this]; exact hp _ (List.getElem_mem _))
theorem pieces_len (A B : Iv) : (zBl A B).length ≤ 5 := by
  unfold zBl sgn
  simp only [List.length_append]
  repeat' split
  all_goals simp
set_option maxHeartbeats 1000000 in
theorem divide_p (A B : Iv) (hA : okI A) (hB : okI B) : Pur M 107 [ivD A, ivD B] (ivD (divI A B)) := by
  refine k107.ok (C := C107) rfl rfl ?_
  rw [i107]
  unfold c107
  obtain ⟨R, hR⟩ : ∃ R, R = (.reg r107_2 : RC) := ⟨_, rfl⟩
  rw [← hR]
  repeat' (first | with_reducible (apply swq; constructor) | simp only [go_sem, seval, P107, q107] | ((with_reducible apply zA2); (case he => rfl); (case hK | hc | hr | hV => first | rfl | assumption | omega | ((first | refine ⟨?_, ?_⟩ | skip) <;> first | omega | (simp only [lN] <;> omega)) | (simp [zAa, D.iV, D.cells, D.cL, D.closed]; first | done | omega))) | ((with_reducible apply zA3); (case he => rfl); (case hV | hK | hr | hl => first | rfl | assumption | omega | ((first | refine ⟨?_, ?_⟩ | skip) <;> first | omega | (simp only [lN] <;> omega)) | (simp [zAa, D.iV, D.cells, D.cL, D.closed]; first | done | omega))) | ((with_reducible apply zA5); (case he => rfl); (case hK | hc | hr => first | rfl | assumption | omega | ((first | refine ⟨?_, ?_⟩ | skip) <;> first | omega | (simp only [lN] <;> omega)) | (simp [zAa, D.iV, D.cells, D.cL, D.closed]; first | done | omega))) | ((with_reducible apply zA4); (case he => rfl); (case hK | hc | hr | hx | hn => first | rfl | assumption | omega | ((first | refine ⟨?_, ?_⟩ | skip) <;> first | omega | (simp only [lN] <;> omega)) | (simp [zAa, D.iV, D.cells, D.cL, D.closed]; first | done | omega))) | ((with_reducible apply s_bsl); (case he | hl | hc => first | rfl | assumption | omega | ((first | refine ⟨?_, ?_⟩ | skip) <;> first | omega | (simp only [lN] <;> omega)) | (simp [zAa, D.iV, D.cells, D.cL, D.closed]; first | done | omega))) | (with_reducible first | (apply cA; constructor) | (apply gA; constructor)) | ((with_reducible refine And.intro ?hw ?_); (case hw => first | omega | rfl | exact ⟨_, _, rfl⟩ | assumption | (simp only [lN] <;> omega))) | with_reducible intro _)
  refine swp_weak (zFd 3 0 2 (by decide) rfl rfl) ?_
  subst hR
  have hne := pieces_ne (A := A) (B := B) hB.2.1
  have hpo := pieces_ok (B := B) hA
  have hpl := pieces_len A B
  have hpe : zBl A B = ((if B.1 ≤ 0 ∧ 0 ≤ B.2 then [((0 : Int), (0 : Int))] else []) ++ sgn A (max B.1 1) B.2) ++ sgn A B.1 (min B.2 (-1)) := rfl
  have hA1 : Rg A.1 := ⟨hA.1, Int.le_trans hA.2.1 hA.2.2⟩
  have hA2 : Rg A.2 := ⟨Int.le_trans hA.1 hA.2.1, hA.2.2⟩
  obtain ⟨b1, b2, b3⟩ := hB
  have s1 := fun L hL => signed_e A hA1 hA2 L hL (max B.1 1) B.2 ⟨by omega, by omega⟩ ⟨by omega, by omega⟩
  have s2 := fun L hL => signed_e A hA1 hA2 L hL B.1 (min B.2 (-1)) ⟨by omega, by omega⟩ ⟨by omega, by omega⟩
  unfold hpD at s1 s2
  have key : ∀ Z : List Iv, Z = (if B.1 ≤ 0 ∧ 0 ≤ B.2 then [((0 : Int), (0 : Int))] else []) → Z.length ≤ 5 ∧ (Z ++ sgn A (max B.1 1) B.2).length ≤ 10 := by
    intro Z hZ
    rw [hpe, ← hZ] at hpl
    simp only [List.length_append] at *
    omega
  have hdv : divI A B = jn (zBl A B) (zBl A B).length := (jn_all hne).symm
  rw [hdv]
  have t1 := key _ rfl
  have hil := ivs_len (zBl A B)
  have hpos : 0 < (zBl A B).length := List.length_pos_iff.2 hne
  have hg0 := ivs_get hpos
  have e0 : ivs [] = [] := rfl
  by_cases h1 : B.1 ≤ 0 ∧ 0 ≤ B.2
  · rw [if_pos h1] at hpe t1
    have d1 : decide (B.1 ≤ 0) = true := by simp [h1]
    have d2 : decide (B.2 ≥ 0) = true := by simp [h1]
    have s1 := s1 _ (by simp : ([((0 : Int), (0 : Int))] : List Iv).length ≤ 10)
    have s2 := s2 _ t1.2
    rw [← hpe] at s2
    repeat' (first | with_reducible (apply swq; constructor) | simp only [go_sem, seval, P107, q107, d1, d2, minW, maxW, hil, hg0] | simp (disch := omega) only [w64, w32, wu8, wu16, wu32, wu64] | ((with_reducible refine o_eff [0, 3] [0] (s1) ?hs ?he ?hh ?_); (case hs => exact ⟨by simp, by simp, by simp, by simp⟩); (case he => first | rfl | (simp [go_sem, seval, minW, maxW, d1, d2, hil, hg0]; done)); (case hh => first | rfl | (simp [go_sem, seval, minW, maxW, d1, d2, hil, hg0]; done)); rintro _ _ ⟨rfl, rfl⟩) | ((with_reducible refine o_eff [0, 3] [0] (s2) ?hs ?he ?hh ?_); (case hs => exact ⟨by simp, by simp, by simp, by simp⟩); (case he => first | rfl | (simp [go_sem, seval, minW, maxW, d1, d2, hil, hg0]; done)); (case hh => first | rfl | (simp [go_sem, seval, minW, maxW, d1, d2, hil, hg0]; done)); rintro _ _ ⟨rfl, rfl⟩) | ((with_reducible apply zA2); (case he => rfl); (case hK | hc | hr | hV => first | rfl | assumption | omega | ((first | refine ⟨?_, ?_⟩ | skip) <;> first | omega | (simp only [lN, minW, maxW, d1, d2, hil, hg0] <;> omega)) | (simp [zAa, D.iV, D.cells, D.cL, D.closed, minW, maxW, d1, d2, hil, hg0]; first | done | omega))) | ((with_reducible apply zA3); (case he => rfl); (case hV | hK | hr | hl => first | rfl | assumption | omega | ((first | refine ⟨?_, ?_⟩ | skip) <;> first | omega | (simp only [lN, minW, maxW, d1, d2, hil, hg0] <;> omega)) | (simp [zAa, D.iV, D.cells, D.cL, D.closed, minW, maxW, d1, d2, hil, hg0]; first | done | omega))) | ((with_reducible apply zA5); (case he => rfl); (case hK | hc | hr => first | rfl | assumption | omega | ((first | refine ⟨?_, ?_⟩ | skip) <;> first | omega | (simp only [lN, minW, maxW, d1, d2, hil, hg0] <;> omega)) | (simp [zAa, D.iV, D.cells, D.cL, D.closed, minW, maxW, d1, d2, hil, hg0]; first | done | omega))) | ((with_reducible apply zA4); (case he => rfl); (case hK | hc | hr | hx | hn => first | rfl | assumption | omega | ((first | refine ⟨?_, ?_⟩ | skip) <;> first | omega | (simp only [lN, minW, maxW, d1, d2, hil, hg0] <;> omega)) | (simp [zAa, D.iV, D.cells, D.cL, D.closed, minW, maxW, d1, d2, hil, hg0]; first | done | omega))) | ((with_reducible apply s_bsl); (case he | hl | hc => first | rfl | assumption | omega | ((first | refine ⟨?_, ?_⟩ | skip) <;> first | omega | (simp only [lN, minW, maxW, d1, d2, hil, hg0] <;> omega)) | (simp [zAa, D.iV, D.cells, D.cL, D.closed, minW, maxW, d1, d2, hil, hg0]; first | done | omega))) | (with_reducible first | (apply cA; constructor) | (apply gA; constructor)) | ((with_reducible refine And.intro ?hw ?_); (case hw => first | omega | rfl | exact ⟨_, _, rfl⟩ | assumption | (simp only [lN, minW, maxW, d1, d2, hil, hg0] <;> omega))) | with_reducible intro _)
    all_goals try omega
    all_goals
      clear s1 s2 hpe t1 key
      generalize zBl A B = Z at *
      refine zDp [4, 7, 10, 11, 12] 5 1 (Nat.zero_le 5) (Nat.zero_le 1) (fun i : Nat => ⟨[.u0, .u0, .u0, .u0, .ptr 2 0, .u0, .u0, .ptr 4 0, .u0, .u0, .slice (ivs Z) (.tok 0), .int .i64 Z.length, .int .i64 i, .u0], [],
        ⟨[.cells [.int .i64 A.1, .int .i64 A.2], .cells [.int .i64 B.1, .int .i64 B.2], .cells [.int .i64 0, .int .i64 0], .cells [.slice (ivs Z) (.tok 0)], .cells [.int .i64 (jn Z i).1, .int .i64 (jn Z i).2]], [.per 2 Z.length]⟩⟩) (fun i => i ≤ Z.length) (fun i => Z.length - i) 0 (by omega) ?_ ?_
      · simp [keepE, St.keep, St.keepG, St.gc, Hp.cut, D.rn, D.rnL, Blk.rnL, Blk.rn, Tv.rnL, Tv.rn, cutF, Own.rn, ivs_rn, jn, setL]
      · intro i hi
        by_cases hi2 : i < Z.length
        · have hgi := ivs_get hi2
          have hst := jn_step hi2
          have c1 := join_p (jn Z i) (Z.getD i (0, 0)) (jn_ok hpo hne i hi) (by rw [show Z.getD i (0, 0) = Z[i] by simp [List.getD, hi2]]; exact hpo _ (List.getElem_mem _))
          generalize jn Z i = u at *
          generalize Z.getD i (0, 0) = v at *
          have hd : decide ((i : Int) < Z.length) = true := by simp; omega
          repeat' (first | with_reducible (apply swq; constructor) | simp only [go_sem, seval, P107, q107, hil, hgi, hd] | simp (disch := omega) only [w64, w32, wu8, wu16, wu32, wu64] | ((with_reducible refine zAb (c1) ?he ?hc ?_); (case he | hc => first | rfl | (simp [D.erL, D.er, D.cL, D.closed, hil, hgi]; done))) | ((with_reducible apply zA2); (case he => rfl); (case hK | hc | hr | hV => first | rfl | assumption | omega | ((first | refine ⟨?_, ?_⟩ | skip) <;> first | omega | (simp only [lN, hil, hgi] <;> omega)) | (simp [zAa, D.iV, D.cells, D.cL, D.closed, hil, hgi]; first | done | omega))) | ((with_reducible apply zA3); (case he => rfl); (case hV | hK | hr | hl => first | rfl | assumption | omega | ((first | refine ⟨?_, ?_⟩ | skip) <;> first | omega | (simp only [lN, hil, hgi] <;> omega)) | (simp [zAa, D.iV, D.cells, D.cL, D.closed, hil, hgi]; first | done | omega))) | ((with_reducible apply zA5); (case he => rfl); (case hK | hc | hr => first | rfl | assumption | omega | ((first | refine ⟨?_, ?_⟩ | skip) <;> first | omega | (simp only [lN, hil, hgi] <;> omega)) | (simp [zAa, D.iV, D.cells, D.cL, D.closed, hil, hgi]; first | done | omega))) | ((with_reducible apply zA4); (case he => rfl); (case hK | hc | hr | hx | hn => first | rfl | assumption | omega | ((first | refine ⟨?_, ?_⟩ | skip) <;> first | omega | (simp only [lN, hil, hgi] <;> omega)) | (simp [zAa, D.iV, D.cells, D.cL, D.closed, hil, hgi]; first | done | omega))) | ((with_reducible apply s_bsl); (case he | hl | hc => first | rfl | assumption | omega | ((first | refine ⟨?_, ?_⟩ | skip) <;> first | omega | (simp only [lN, hil, hgi] <;> omega)) | (simp [zAa, D.iV, D.cells, D.cL, D.closed, hil, hgi]; first | done | omega))) | (with_reducible first | (apply cA; constructor) | (apply gA; constructor)) | ((with_reducible refine And.intro ?hw ?_); (case hw => first | omega | rfl | exact ⟨_, _, rfl⟩ | assumption | (simp only [lN, hil, hgi] <;> omega))) | with_reducible intro _)
          all_goals try (exfalso; omega)
          refine ⟨i + 1, by omega, by omega, ?_⟩
          simp [keepE, St.keep, St.keepG, St.gc, Hp.cut, D.rn, D.rnL, Blk.rnL, Blk.rn, Tv.rnL, Tv.rn, cutF, Own.rn, ivs_rn, setL, hst]
        · obtain rfl : i = Z.length := by omega
          have hd : decide ((Z.length : Int) < Z.length) = false := by simp
          generalize jn Z Z.length = u at *
          repeat' (first | with_reducible (apply swq; constructor) | simp only [go_sem, seval, P107, q107, hil, hd] | simp (disch := omega) only [w64, w32, wu8, wu16, wu32, wu64] | ((with_reducible apply zA2); (case he => rfl); (case hK | hc | hr | hV => first | rfl | assumption | omega | ((first | refine ⟨?_, ?_⟩ | skip) <;> first | omega | (simp only [lN, hil] <;> omega)) | (simp [zAa, D.iV, D.cells, D.cL, D.closed, hil]; first | done | omega))) | ((with_reducible apply zA3); (case he => rfl); (case hV | hK | hr | hl => first | rfl | assumption | omega | ((first | refine ⟨?_, ?_⟩ | skip) <;> first | omega | (simp only [lN, hil] <;> omega)) | (simp [zAa, D.iV, D.cells, D.cL, D.closed, hil]; first | done | omega))) | ((with_reducible apply zA5); (case he => rfl); (case hK | hc | hr => first | rfl | assumption | omega | ((first | refine ⟨?_, ?_⟩ | skip) <;> first | omega | (simp only [lN, hil] <;> omega)) | (simp [zAa, D.iV, D.cells, D.cL, D.closed, hil]; first | done | omega))) | ((with_reducible apply zA4); (case he => rfl); (case hK | hc | hr | hx | hn => first | rfl | assumption | omega | ((first | refine ⟨?_, ?_⟩ | skip) <;> first | omega | (simp only [lN, hil] <;> omega)) | (simp [zAa, D.iV, D.cells, D.cL, D.closed, hil]; first | done | omega))) | ((with_reducible apply s_bsl); (case he | hl | hc => first | rfl | assumption | omega | ((first | refine ⟨?_, ?_⟩ | skip) <;> first | omega | (simp only [lN, hil] <;> omega)) | (simp [zAa, D.iV, D.cells, D.cL, D.closed, hil]; first | done | omega))) | (with_reducible first | (apply cA; constructor) | (apply gA; constructor)) | ((with_reducible refine And.intro ?hw ?_); (case hw => first | omega | rfl | exact ⟨_, _, rfl⟩ | assumption | (simp only [lN, hil] <;> omega))) | with_reducible intro _)
          all_goals try (exfalso; omega)
          all_goals simp [D.closed, D.er, setL, RcS]
  · rw [if_neg h1] at hpe t1
    have s1 := s1 [] (by simp)
    have s2 := s2 _ t1.2
    rw [← hpe] at s2
    rw [e0, List.length_nil] at s1
    by_cases d : B.1 ≤ 0
    · have d1 : decide (B.1 ≤ 0) = true := by simp [d]
      have d2 : decide (B.2 ≥ 0) = false := by simp; omega
      repeat' (first | with_reducible (apply swq; constructor) | simp only [go_sem, seval, P107, q107, d1, d2, minW, maxW, hil, hg0] | simp (disch := omega) only [w64, w32, wu8, wu16, wu32, wu64] | ((with_reducible refine o_eff [0, 3] [0] (s1) ?hs ?he ?hh ?_); (case hs => exact ⟨by simp, by simp, by simp, by simp⟩); (case he => first | rfl | (simp [go_sem, seval, minW, maxW, d1, d2, hil, hg0]; done)); (case hh => first | rfl | (simp [go_sem, seval, minW, maxW, d1, d2, hil, hg0]; done)); rintro _ _ ⟨rfl, rfl⟩) | ((with_reducible refine o_eff [0, 3] [0] (s2) ?hs ?he ?hh ?_); (case hs => exact ⟨by simp, by simp, by simp, by simp⟩); (case he => first | rfl | (simp [go_sem, seval, minW, maxW, d1, d2, hil, hg0]; done)); (case hh => first | rfl | (simp [go_sem, seval, minW, maxW, d1, d2, hil, hg0]; done)); rintro _ _ ⟨rfl, rfl⟩) | ((with_reducible apply zA2); (case he => rfl); (case hK | hc | hr | hV => first | rfl | assumption | omega | ((first | refine ⟨?_, ?_⟩ | skip) <;> first | omega | (simp only [lN, minW, maxW, d1, d2, hil, hg0] <;> omega)) | (simp [zAa, D.iV, D.cells, D.cL, D.closed, minW, maxW, d1, d2, hil, hg0]; first | done | omega))) | ((with_reducible apply zA3); (case he => rfl); (case hV | hK | hr | hl => first | rfl | assumption | omega | ((first | refine ⟨?_, ?_⟩ | skip) <;> first | omega | (simp only [lN, minW, maxW, d1, d2, hil, hg0] <;> omega)) | (simp [zAa, D.iV, D.cells, D.cL, D.closed, minW, maxW, d1, d2, hil, hg0]; first | done | omega))) | ((with_reducible apply zA5); (case he => rfl); (case hK | hc | hr => first | rfl | assumption | omega | ((first | refine ⟨?_, ?_⟩ | skip) <;> first | omega | (simp only [lN, minW, maxW, d1, d2, hil, hg0] <;> omega)) | (simp [zAa, D.iV, D.cells, D.cL, D.closed, minW, maxW, d1, d2, hil, hg0]; first | done | omega))) | ((with_reducible apply zA4); (case he => rfl); (case hK | hc | hr | hx | hn => first | rfl | assumption | omega | ((first | refine ⟨?_, ?_⟩ | skip) <;> first | omega | (simp only [lN, minW, maxW, d1, d2, hil, hg0] <;> omega)) | (simp [zAa, D.iV, D.cells, D.cL, D.closed, minW, maxW, d1, d2, hil, hg0]; first | done | omega))) | ((with_reducible apply s_bsl); (case he | hl | hc => first | rfl | assumption | omega | ((first | refine ⟨?_, ?_⟩ | skip) <;> first | omega | (simp only [lN, minW, maxW, d1, d2, hil, hg0] <;> omega)) | (simp [zAa, D.iV, D.cells, D.cL, D.closed, minW, maxW, d1, d2, hil, hg0]; first | done | omega))) | (with_reducible first | (apply cA; constructor) | (apply gA; constructor)) | ((with_reducible refine And.intro ?hw ?_); (case hw => first | omega | rfl | exact ⟨_, _, rfl⟩ | assumption | (simp only [lN, minW, maxW, d1, d2, hil, hg0] <;> omega))) | with_reducible intro _)
      all_goals try omega
      all_goals
      clear s1 s2 hpe t1 key
      generalize zBl A B = Z at *
      refine zDp [4, 7, 10, 11, 12] 5 1 (Nat.zero_le 5) (Nat.zero_le 1) (fun i : Nat => ⟨[.u0, .u0, .u0, .u0, .ptr 2 0, .u0, .u0, .ptr 4 0, .u0, .u0, .slice (ivs Z) (.tok 0), .int .i64 Z.length, .int .i64 i, .u0], [],
        ⟨[.cells [.int .i64 A.1, .int .i64 A.2], .cells [.int .i64 B.1, .int .i64 B.2], .cells [.int .i64 0, .int .i64 0], .cells [.slice (ivs Z) (.tok 0)], .cells [.int .i64 (jn Z i).1, .int .i64 (jn Z i).2]], [.per 2 Z.length]⟩⟩) (fun i => i ≤ Z.length) (fun i => Z.length - i) 0 (by omega) ?_ ?_
      · simp [keepE, St.keep, St.keepG, St.gc, Hp.cut, D.rn, D.rnL, Blk.rnL, Blk.rn, Tv.rnL, Tv.rn, cutF, Own.rn, ivs_rn, jn, setL]
      · intro i hi
        by_cases hi2 : i < Z.length
        · have hgi := ivs_get hi2
          have hst := jn_step hi2
          have c1 := join_p (jn Z i) (Z.getD i (0, 0)) (jn_ok hpo hne i hi) (by rw [show Z.getD i (0, 0) = Z[i] by simp [List.getD, hi2]]; exact hpo _ (List.getElem_mem _))
          generalize jn Z i = u at *
          generalize Z.getD i (0, 0) = v at *
          have hd : decide ((i : Int) < Z.length) = true := by simp; omega
          repeat' (first | with_reducible (apply swq; constructor) | simp only [go_sem, seval, P107, q107, hil, hgi, hd] | simp (disch := omega) only [w64, w32, wu8, wu16, wu32, wu64] | ((with_reducible refine zAb (c1) ?he ?hc ?_); (case he | hc => first | rfl | (simp [D.erL, D.er, D.cL, D.closed, hil, hgi]; done))) | ((with_reducible apply zA2); (case he => rfl); (case hK | hc | hr | hV => first | rfl | assumption | omega | ((first | refine ⟨?_, ?_⟩ | skip) <;> first | omega | (simp only [lN, hil, hgi] <;> omega)) | (simp [zAa, D.iV, D.cells, D.cL, D.closed, hil, hgi]; first | done | omega))) | ((with_reducible apply zA3); (case he => rfl); (case hV | hK | hr | hl => first | rfl | assumption | omega | ((first | refine ⟨?_, ?_⟩ | skip) <;> first | omega | (simp only [lN, hil, hgi] <;> omega)) | (simp [zAa, D.iV, D.cells, D.cL, D.closed, hil, hgi]; first | done | omega))) | ((with_reducible apply zA5); (case he => rfl); (case hK | hc | hr => first | rfl | assumption | omega | ((first | refine ⟨?_, ?_⟩ | skip) <;> first | omega | (simp only [lN, hil, hgi] <;> omega)) | (simp [zAa, D.iV, D.cells, D.cL, D.closed, hil, hgi]; first | done | omega))) | ((with_reducible apply zA4); (case he => rfl); (case hK | hc | hr | hx | hn => first | rfl | assumption | omega | ((first | refine ⟨?_, ?_⟩ | skip) <;> first | omega | (simp only [lN, hil, hgi] <;> omega)) | (simp [zAa, D.iV, D.cells, D.cL, D.closed, hil, hgi]; first | done | omega))) | ((with_reducible apply s_bsl); (case he | hl | hc => first | rfl | assumption | omega | ((first | refine ⟨?_, ?_⟩ | skip) <;> first | omega | (simp only [lN, hil, hgi] <;> omega)) | (simp [zAa, D.iV, D.cells, D.cL, D.closed, hil, hgi]; first | done | omega))) | (with_reducible first | (apply cA; constructor) | (apply gA; constructor)) | ((with_reducible refine And.intro ?hw ?_); (case hw => first | omega | rfl | exact ⟨_, _, rfl⟩ | assumption | (simp only [lN, hil, hgi] <;> omega))) | with_reducible intro _)
          all_goals try (exfalso; omega)
          refine ⟨i + 1, by omega, by omega, ?_⟩
          simp [keepE, St.keep, St.keepG, St.gc, Hp.cut, D.rn, D.rnL, Blk.rnL, Blk.rn, Tv.rnL, Tv.rn, cutF, Own.rn, ivs_rn, setL, hst]
        · obtain rfl : i = Z.length := by omega
          have hd : decide ((Z.length : Int) < Z.length) = false := by simp
          generalize jn Z Z.length = u at *
          repeat' (first | with_reducible (apply swq; constructor) | simp only [go_sem, seval, P107, q107, hil, hd] | simp (disch := omega) only [w64, w32, wu8, wu16, wu32, wu64] | ((with_reducible apply zA2); (case he => rfl); (case hK | hc | hr | hV => first | rfl | assumption | omega | ((first | refine ⟨?_, ?_⟩ | skip) <;> first | omega | (simp only [lN, hil] <;> omega)) | (simp [zAa, D.iV, D.cells, D.cL, D.closed, hil]; first | done | omega))) | ((with_reducible apply zA3); (case he => rfl); (case hV | hK | hr | hl => first | rfl | assumption | omega | ((first | refine ⟨?_, ?_⟩ | skip) <;> first | omega | (simp only [lN, hil] <;> omega)) | (simp [zAa, D.iV, D.cells, D.cL, D.closed, hil]; first | done | omega))) | ((with_reducible apply zA5); (case he => rfl); (case hK | hc | hr => first | rfl | assumption | omega | ((first | refine ⟨?_, ?_⟩ | skip) <;> first | omega | (simp only [lN, hil] <;> omega)) | (simp [zAa, D.iV, D.cells, D.cL, D.closed, hil]; first | done | omega))) | ((with_reducible apply zA4); (case he => rfl); (case hK | hc | hr | hx | hn => first | rfl | assumption | omega | ((first | refine ⟨?_, ?_⟩ | skip) <;> first | omega | (simp only [lN, hil] <;> omega)) | (simp [zAa, D.iV, D.cells, D.cL, D.closed, hil]; first | done | omega))) | ((with_reducible apply s_bsl); (case he | hl | hc => first | rfl | assumption | omega | ((first | refine ⟨?_, ?_⟩ | skip) <;> first | omega | (simp only [lN, hil] <;> omega)) | (simp [zAa, D.iV, D.cells, D.cL, D.closed, hil]; first | done | omega))) | (with_reducible first | (apply cA; constructor) | (apply gA; constructor)) | ((with_reducible refine And.intro ?hw ?_); (case hw => first | omega | rfl | exact ⟨_, _, rfl⟩ | assumption | (simp only [lN, hil] <;> omega))) | with_reducible intro _)
          all_goals try (exfalso; omega)
          all_goals simp [D.closed, D.er, setL, RcS]
    · have d1 : decide (B.1 ≤ 0) = false := by simp; omega
      repeat' (first | with_reducible (apply swq; constructor) | simp only [go_sem, seval, P107, q107, d1, minW, maxW, hil, hg0] | simp (disch := omega) only [w64, w32, wu8, wu16, wu32, wu64] | ((with_reducible refine o_eff [0, 3] [0] (s1) ?hs ?he ?hh ?_); (case hs => exact ⟨by simp, by simp, by simp, by simp⟩); (case he => first | rfl | (simp [go_sem, seval, minW, maxW, d1, hil, hg0]; done)); (case hh => first | rfl | (simp [go_sem, seval, minW, maxW, d1, hil, hg0]; done)); rintro _ _ ⟨rfl, rfl⟩) | ((with_reducible refine o_eff [0, 3] [0] (s2) ?hs ?he ?hh ?_); (case hs => exact ⟨by simp, by simp, by simp, by simp⟩); (case he => first | rfl | (simp [go_sem, seval, minW, maxW, d1, hil, hg0]; done)); (case hh => first | rfl | (simp [go_sem, seval, minW, maxW, d1, hil, hg0]; done)); rintro _ _ ⟨rfl, rfl⟩) | ((with_reducible apply zA2); (case he => rfl); (case hK | hc | hr | hV => first | rfl | assumption | omega | ((first | refine ⟨?_, ?_⟩ | skip) <;> first | omega | (simp only [lN, minW, maxW, d1, hil, hg0] <;> omega)) | (simp [zAa, D.iV, D.cells, D.cL, D.closed, minW, maxW, d1, hil, hg0]; first | done | omega))) | ((with_reducible apply zA3); (case he => rfl); (case hV | hK | hr | hl => first | rfl | assumption | omega | ((first | refine ⟨?_, ?_⟩ | skip) <;> first | omega | (simp only [lN, minW, maxW, d1, hil, hg0] <;> omega)) | (simp [zAa, D.iV, D.cells, D.cL, D.closed, minW, maxW, d1, hil, hg0]; first | done | omega))) | ((with_reducible apply zA5); (case he => rfl); (case hK | hc | hr => first | rfl | assumption | omega | ((first | refine ⟨?_, ?_⟩ | skip) <;> first | omega | (simp only [lN, minW, maxW, d1, hil, hg0] <;> omega)) | (simp [zAa, D.iV, D.cells, D.cL, D.closed, minW, maxW, d1, hil, hg0]; first | done | omega))) | ((with_reducible apply zA4); (case he => rfl); (case hK | hc | hr | hx | hn => first | rfl | assumption | omega | ((first | refine ⟨?_, ?_⟩ | skip) <;> first | omega | (simp only [lN, minW, maxW, d1, hil, hg0] <;> omega)) | (simp [zAa, D.iV, D.cells, D.cL, D.closed, minW, maxW, d1, hil, hg0]; first | done | omega))) | ((with_reducible apply s_bsl); (case he | hl | hc => first | rfl | assumption | omega | ((first | refine ⟨?_, ?_⟩ | skip) <;> first | omega | (simp only [lN, minW, maxW, d1, hil, hg0] <;> omega)) | (simp [zAa, D.iV, D.cells, D.cL, D.closed, minW, maxW, d1, hil, hg0]; first | done | omega))) | (with_reducible first | (apply cA; constructor) | (apply gA; constructor)) | ((with_reducible refine And.intro ?hw ?_); (case hw => first | omega | rfl | exact ⟨_, _, rfl⟩ | assumption | (simp only [lN, minW, maxW, d1, hil, hg0] <;> omega))) | with_reducible intro _)
      all_goals try omega
      all_goals
      clear s1 s2 hpe t1 key
      generalize zBl A B = Z at *
      refine zDp [4, 7, 10, 11, 12] 5 1 (Nat.zero_le 5) (Nat.zero_le 1) (fun i : Nat => ⟨[.u0, .u0, .u0, .u0, .ptr 2 0, .u0, .u0, .ptr 4 0, .u0, .u0, .slice (ivs Z) (.tok 0), .int .i64 Z.length, .int .i64 i, .u0], [],
        ⟨[.cells [.int .i64 A.1, .int .i64 A.2], .cells [.int .i64 B.1, .int .i64 B.2], .cells [.int .i64 0, .int .i64 0], .cells [.slice (ivs Z) (.tok 0)], .cells [.int .i64 (jn Z i).1, .int .i64 (jn Z i).2]], [.per 2 Z.length]⟩⟩) (fun i => i ≤ Z.length) (fun i => Z.length - i) 0 (by omega) ?_ ?_
      · simp [keepE, St.keep, St.keepG, St.gc, Hp.cut, D.rn, D.rnL, Blk.rnL, Blk.rn, Tv.rnL, Tv.rn, cutF, Own.rn, ivs_rn, jn, setL]
      · intro i hi
        by_cases hi2 : i < Z.length
        · have hgi := ivs_get hi2
          have hst := jn_step hi2
          have c1 := join_p (jn Z i) (Z.getD i (0, 0)) (jn_ok hpo hne i hi) (by rw [show Z.getD i (0, 0) = Z[i] by simp [List.getD, hi2]]; exact hpo _ (List.getElem_mem _))
          generalize jn Z i = u at *
          generalize Z.getD i (0, 0) = v at *
          have hd : decide ((i : Int) < Z.length) = true := by simp; omega
          repeat' (first | with_reducible (apply swq; constructor) | simp only [go_sem, seval, P107, q107, hil, hgi, hd] | simp (disch := omega) only [w64, w32, wu8, wu16, wu32, wu64] | ((with_reducible refine zAb (c1) ?he ?hc ?_); (case he | hc => first | rfl | (simp [D.erL, D.er, D.cL, D.closed, hil, hgi]; done))) | ((with_reducible apply zA2); (case he => rfl); (case hK | hc | hr | hV => first | rfl | assumption | omega | ((first | refine ⟨?_, ?_⟩ | skip) <;> first | omega | (simp only [lN, hil, hgi] <;> omega)) | (simp [zAa, D.iV, D.cells, D.cL, D.closed, hil, hgi]; first | done | omega))) | ((with_reducible apply zA3); (case he => rfl); (case hV | hK | hr | hl => first | rfl | assumption | omega | ((first | refine ⟨?_, ?_⟩ | skip) <;> first | omega | (simp only [lN, hil, hgi] <;> omega)) | (simp [zAa, D.iV, D.cells, D.cL, D.closed, hil, hgi]; first | done | omega))) | ((with_reducible apply zA5); (case he => rfl); (case hK | hc | hr => first | rfl | assumption | omega | ((first | refine ⟨?_, ?_⟩ | skip) <;> first | omega | (simp only [lN, hil, hgi] <;> omega)) | (simp [zAa, D.iV, D.cells, D.cL, D.closed, hil, hgi]; first | done | omega))) | ((with_reducible apply zA4); (case he => rfl); (case hK | hc | hr | hx | hn => first | rfl | assumption | omega | ((first | refine ⟨?_, ?_⟩ | skip) <;> first | omega | (simp only [lN, hil, hgi] <;> omega)) | (simp [zAa, D.iV, D.cells, D.cL, D.closed, hil, hgi]; first | done | omega))) | ((with_reducible apply s_bsl); (case he | hl | hc => first | rfl | assumption | omega | ((first | refine ⟨?_, ?_⟩ | skip) <;> first | omega | (simp only [lN, hil, hgi] <;> omega)) | (simp [zAa, D.iV, D.cells, D.cL, D.closed, hil, hgi]; first | done | omega))) | (with_reducible first | (apply cA; constructor) | (apply gA; constructor)) | ((with_reducible refine And.intro ?hw ?_); (case hw => first | omega | rfl | exact ⟨_, _, rfl⟩ | assumption | (simp only [lN, hil, hgi] <;> omega))) | with_reducible intro _)
          all_goals try (exfalso; omega)
          refine ⟨i + 1, by omega, by omega, ?_⟩
          simp [keepE, St.keep, St.keepG, St.gc, Hp.cut, D.rn, D.rnL, Blk.rnL, Blk.rn, Tv.rnL, Tv.rn, cutF, Own.rn, ivs_rn, setL, hst]
        · obtain rfl : i = Z.length := by omega
          have hd : decide ((Z.length : Int) < Z.length) = false := by simp
          generalize jn Z Z.length = u at *
          repeat' (first | with_reducible (apply swq; constructor) | simp only [go_sem, seval, P107, q107, hil, hd] | simp (disch := omega) only [w64, w32, wu8, wu16, wu32, wu64] | ((with_reducible apply zA2); (case he => rfl); (case hK | hc | hr | hV => first | rfl | assumption | omega | ((first | refine ⟨?_, ?_⟩ | skip) <;> first | omega | (simp only [lN, hil] <;> omega)) | (simp [zAa, D.iV, D.cells, D.cL, D.closed, hil]; first | done | omega))) | ((with_reducible apply zA3); (case he => rfl); (case hV | hK | hr | hl => first | rfl | assumption | omega | ((first | refine ⟨?_, ?_⟩ | skip) <;> first | omega | (simp only [lN, hil] <;> omega)) | (simp [zAa, D.iV, D.cells, D.cL, D.closed, hil]; first | done | omega))) | ((with_reducible apply zA5); (case he => rfl); (case hK | hc | hr => first | rfl | assumption | omega | ((first | refine ⟨?_, ?_⟩ | skip) <;> first | omega | (simp only [lN, hil] <;> omega)) | (simp [zAa, D.iV, D.cells, D.cL, D.closed, hil]; first | done | omega))) | ((with_reducible apply zA4); (case he => rfl); (case hK | hc | hr | hx | hn => first | rfl | assumption | omega | ((first | refine ⟨?_, ?_⟩ | skip) <;> first | omega | (simp only [lN, hil] <;> omega)) | (simp [zAa, D.iV, D.cells, D.cL, D.closed, hil]; first | done | omega))) | ((with_reducible apply s_bsl); (case he | hl | hc => first | rfl | assumption | omega | ((first | refine ⟨?_, ?_⟩ | skip) <;> first | omega | (simp only [lN, hil] <;> omega)) | (simp [zAa, D.iV, D.cells, D.cL, D.closed, hil]; first | done | omega))) | (with_reducible first | (apply cA; constructor) | (apply gA; constructor)) | ((with_reducible refine And.intro ?hw ?_); (case hw => first | omega | rfl | exact ⟨_, _, rfl⟩ | assumption | (simp only [lN, hil] <;> omega))) | with_reducible intro _)
          all_goals try (exfalso; omega)
          all_goals simp [D.closed, D.er, setL, RcS]
end Go.Proofs.YtkjnhkoipgdfeaaDoor
end
section
set_option maxRecDepth 100000
set_option linter.unusedSimpArgs false
set_option linter.unusedVariables false
namespace Go.Proofs.YtkjnhkoipgdfeaaDoor
open Go GoV Go.RowKit
abbrev ptD (km cy ld : Int) : D := .agg [.int .i64 km, .int .i64 cy, .int .i64 ld]
theorem pnum_p (km cy ld n : Int) : Pur M 124 [ptD km cy ld, .int .i64 n] (.int .i64 n) := by
  refine k124.ok (C := C124) rfl rfl ?_
  rw [i124]
  unfold c124
  repeat' (first | with_reducible (apply swq; constructor) | simp only [go_sem, seval, P124, q124] | with_reducible (apply cA; constructor) | ((with_reducible refine And.intro ?hw ?_); (case hw => first | omega | rfl | exact ⟨_, _, rfl⟩ | assumption | (simp only [lN] <;> omega))) | with_reducible intro _)
  all_goals first | omega | (simp_all [D.closed, D.er, D.cL, D.erL]; done) | (simp_all [D.closed, D.er, D.cL, D.erL] <;> omega)
theorem plet_p (km cy ld op : Int) (h : 2 ≤ op) (h2 : op ≤ 4) : Pur M 123 [ptD km cy ld, .int .i64 op] (.int .i64 (if op = 2 then km else if op = 3 then cy else ld)) := by
  refine k123.ok (C := C123) rfl rfl ?_
  rw [i123]
  unfold c123
  have : op = 2 ∨ op = 3 ∨ op = 4 := by omega
  rcases this with rfl | rfl | rfl
  all_goals
    repeat' (first | with_reducible (apply swq; constructor) | simp only [go_sem, seval, P123, q123] | with_reducible (apply cA; constructor) | ((with_reducible refine And.intro ?hw ?_); (case hw => first | omega | rfl | exact ⟨_, _, rfl⟩ | assumption | (simp only [lN] <;> omega))) | with_reducible intro _)
    all_goals first | omega | (simp_all [D.closed, D.er, D.cL, D.erL]; done) | (simp_all [D.closed, D.er, D.cL, D.erL] <;> omega)
theorem pch_p (km cy ld a b c : Int) : Pur M 122 [ptD km cy ld, .int .i64 a, .int .i64 b, .int .i64 c] (.int .i64 (chN a b c)) := by
  refine k122.ok (C := C122) rfl rfl ?_
  rw [i122]
  unfold c122
  unfold chN
  by_cases h : 0 < a
  · have d1 : decide (a > 0) = true := by simp [h]
    rw [if_pos h]
    repeat' (first | with_reducible (apply swq; constructor) | simp only [go_sem, seval, P122, q122, d1] | with_reducible (apply cA; constructor) | ((with_reducible refine And.intro ?hw ?_); (case hw => first | omega | rfl | exact ⟨_, _, rfl⟩ | assumption | (simp only [lN] <;> omega))) | with_reducible intro _)
    all_goals first | omega | (simp_all [D.closed, D.er, D.cL, D.erL]; done) | (simp_all [D.closed, D.er, D.cL, D.erL] <;> omega)
  · have d1 : decide (a > 0) = false := by simp; omega
    rw [if_neg h]
    repeat' (first | with_reducible (apply swq; constructor) | simp only [go_sem, seval, P122, q122, d1] | with_reducible (apply cA; constructor) | ((with_reducible refine And.intro ?hw ?_); (case hw => first | omega | rfl | exact ⟨_, _, rfl⟩ | assumption | (simp only [lN] <;> omega))) | with_reducible intro _)
    all_goals first | omega | (simp_all [D.closed, D.er, D.cL, D.erL]; done) | (simp_all [D.closed, D.er, D.cL, D.erL] <;> omega)
theorem one_p (n : Int) : Pur M 125 [.int .i64 n] (ivD (n, n)) := by
  refine k125.ok (C := C125) rfl rfl ?_
  rw [i125]
  unfold c125
  repeat' (first | with_reducible (apply swq; constructor) | simp only [go_sem, seval, P125, q125] | with_reducible (apply cA; constructor) | ((with_reducible refine And.intro ?hw ?_); (case hw => first | omega | rfl | exact ⟨_, _, rfl⟩ | assumption | (simp only [lN] <;> omega))) | with_reducible intro _)
  all_goals first | omega | (simp_all [D.closed, D.er, D.cL, D.erL]; done) | (simp_all [D.closed, D.er, D.cL, D.erL] <;> omega)
theorem both_one {g : Int → Int → Int} {a b : Int} (ha : Rg a) (hb : Rg b) : (bothI g (a, a) (b, b)).1 = g a b := by
  unfold bothI
  rw [if_pos ⟨⟨ha.1, Int.le_refl _, ha.2⟩, ⟨hb.1, Int.le_refl _, hb.2⟩⟩]
  simp [corn]
theorem papp_p (km cy ld op a b : Int) (h : 5 ≤ op) (h2 : op ≤ 10) (ha : Rg a) (hb : Rg b) : Pur M 121 [ptD km cy ld, .int .i64 op, .int .i64 a, .int .i64 b] (.int .i64 (opN op a b)) := by
  refine k121.ok (C := C121) rfl rfl ?_
  rw [i121]
  unfold c121
  have c1 := one_p a
  have c2 := one_p b
  have c3 := add_p (a, a) (b, b)
  have c4 := sub_p (a, a) (b, b)
  have c5 := mul_p (a, a) (b, b)
  have c6 := floor_p a b ha hb
  have e3 := both_one (g := fun a b => sat (a + b)) ha hb
  have e4 := both_one (g := fun a b => sat (a - b)) ha hb
  have e5 := both_one (g := fun a b => sat (a * b)) ha hb
  generalize bothI (fun a b => sat (a + b)) (a, a) (b, b) = r3 at *
  generalize bothI (fun a b => sat (a - b)) (a, a) (b, b) = r4 at *
  generalize bothI (fun a b => sat (a * b)) (a, a) (b, b) = r5 at *
  have : op = 5 ∨ op = 6 ∨ op = 7 ∨ op = 8 ∨ op = 9 ∨ op = 10 := by omega
  rcases this with rfl | rfl | rfl | rfl | rfl | rfl
  · have e : opN 5 a b = sat (a + b) := rfl
    rw [e, ← e3]
    repeat' (first | with_reducible (apply swq; constructor) | simp only [go_sem, seval, P121, q121] | ((with_reducible refine zAb (c1) ?he ?hc ?_); (case he | hc => first | rfl | (simp [D.erL, D.er, D.cL, D.closed]; done))) | ((with_reducible refine zAb (c2) ?he ?hc ?_); (case he | hc => first | rfl | (simp [D.erL, D.er, D.cL, D.closed]; done))) | ((with_reducible refine zAb (c3) ?he ?hc ?_); (case he | hc => first | rfl | (simp [D.erL, D.er, D.cL, D.closed]; done))) | with_reducible (apply cA; constructor) | ((with_reducible refine And.intro ?hw ?_); (case hw => first | omega | rfl | exact ⟨_, _, rfl⟩ | assumption | (simp only [lN] <;> omega))) | with_reducible intro _)
    all_goals first | omega | (simp_all [D.closed, D.er, D.cL, D.erL]; done) | (simp_all [D.closed, D.er, D.cL, D.erL] <;> omega)
  · have e : opN 6 a b = sat (a - b) := rfl
    rw [e, ← e4]
    repeat' (first | with_reducible (apply swq; constructor) | simp only [go_sem, seval, P121, q121] | ((with_reducible refine zAb (c1) ?he ?hc ?_); (case he | hc => first | rfl | (simp [D.erL, D.er, D.cL, D.closed]; done))) | ((with_reducible refine zAb (c2) ?he ?hc ?_); (case he | hc => first | rfl | (simp [D.erL, D.er, D.cL, D.closed]; done))) | ((with_reducible refine zAb (c4) ?he ?hc ?_); (case he | hc => first | rfl | (simp [D.erL, D.er, D.cL, D.closed]; done))) | with_reducible (apply cA; constructor) | ((with_reducible refine And.intro ?hw ?_); (case hw => first | omega | rfl | exact ⟨_, _, rfl⟩ | assumption | (simp only [lN] <;> omega))) | with_reducible intro _)
    all_goals first | omega | (simp_all [D.closed, D.er, D.cL, D.erL]; done) | (simp_all [D.closed, D.er, D.cL, D.erL] <;> omega)
  · have e : opN 7 a b = sat (a * b) := rfl
    rw [e, ← e5]
    repeat' (first | with_reducible (apply swq; constructor) | simp only [go_sem, seval, P121, q121] | ((with_reducible refine zAb (c1) ?he ?hc ?_); (case he | hc => first | rfl | (simp [D.erL, D.er, D.cL, D.closed]; done))) | ((with_reducible refine zAb (c2) ?he ?hc ?_); (case he | hc => first | rfl | (simp [D.erL, D.er, D.cL, D.closed]; done))) | ((with_reducible refine zAb (c5) ?he ?hc ?_); (case he | hc => first | rfl | (simp [D.erL, D.er, D.cL, D.closed]; done))) | with_reducible (apply cA; constructor) | ((with_reducible refine And.intro ?hw ?_); (case hw => first | omega | rfl | exact ⟨_, _, rfl⟩ | assumption | (simp only [lN] <;> omega))) | with_reducible intro _)
    all_goals first | omega | (simp_all [D.closed, D.er, D.cL, D.erL]; done) | (simp_all [D.closed, D.er, D.cL, D.erL] <;> omega)
  · have e : opN 8 a b = fl a b := rfl
    rw [e]
    repeat' (first | with_reducible (apply swq; constructor) | simp only [go_sem, seval, P121, q121] | ((with_reducible refine zAb (c6) ?he ?hc ?_); (case he | hc => first | rfl | (simp [D.erL, D.er, D.cL, D.closed]; done))) | with_reducible (apply cA; constructor) | ((with_reducible refine And.intro ?hw ?_); (case hw => first | omega | rfl | exact ⟨_, _, rfl⟩ | assumption | (simp only [lN] <;> omega))) | with_reducible intro _)
    all_goals first | omega | (simp_all [D.closed, D.er, D.cL, D.erL]; done) | (simp_all [D.closed, D.er, D.cL, D.erL] <;> omega)
  · have e : opN 9 a b = min a b := rfl
    rw [e]
    repeat' (first | with_reducible (apply swq; constructor) | simp only [go_sem, seval, P121, q121, minW] | with_reducible (apply cA; constructor) | ((with_reducible refine And.intro ?hw ?_); (case hw => first | omega | rfl | exact ⟨_, _, rfl⟩ | assumption | (simp only [lN] <;> omega))) | with_reducible intro _)
    all_goals first | omega | (simp_all [D.closed, D.er, D.cL, D.erL]; done) | (simp_all [D.closed, D.er, D.cL, D.erL] <;> omega)
  · have e : opN 10 a b = max a b := rfl
    rw [e]
    repeat' (first | with_reducible (apply swq; constructor) | simp only [go_sem, seval, P121, q121, maxW] | with_reducible (apply cA; constructor) | ((with_reducible refine And.intro ?hw ?_); (case hw => first | omega | rfl | exact ⟨_, _, rfl⟩ | assumption | (simp only [lN] <;> omega))) | with_reducible intro _)
    all_goals first | omega | (simp_all [D.closed, D.er, D.cL, D.erL]; done) | (simp_all [D.closed, D.er, D.cL, D.erL] <;> omega)
theorem rnum_p (u : Use) (n : Int) : Pur M 103 [useD u, .int .i64 n] (ivD (n, n)) := by
  refine k103.ok (C := C103) rfl rfl ?_
  rw [i103]
  unfold c103
  repeat' (first | with_reducible (apply swq; constructor) | simp only [go_sem, seval, P103, q103] | with_reducible (apply cA; constructor) | ((with_reducible refine And.intro ?hw ?_); (case hw => first | omega | rfl | exact ⟨_, _, rfl⟩ | assumption | (simp only [lN] <;> omega))) | with_reducible intro _)
  all_goals first | omega | (simp_all [D.closed, D.er, D.cL, D.erL]; done) | (simp_all [D.closed, D.er, D.cL, D.erL] <;> omega)
theorem rlet_p (u : Use) (op : Int) (h : 2 ≤ op) (h2 : op ≤ 4) : Pur M 102 [useD u, .int .i64 op] (ivD (if op = 2 then u.km else if op = 3 then u.cy else u.ld)) := by
  refine k102.ok (C := C102) rfl rfl ?_
  rw [i102]
  unfold c102
  have : op = 2 ∨ op = 3 ∨ op = 4 := by omega
  rcases this with rfl | rfl | rfl
  all_goals
    repeat' (first | with_reducible (apply swq; constructor) | simp only [go_sem, seval, P102, q102] | with_reducible (apply cA; constructor) | ((with_reducible refine And.intro ?hw ?_); (case hw => first | omega | rfl | exact ⟨_, _, rfl⟩ | assumption | (simp only [lN] <;> omega))) | with_reducible intro _)
    all_goals first | omega | (simp_all [D.closed, D.er, D.cL, D.erL]; done) | (simp_all [D.closed, D.er, D.cL, D.erL] <;> omega)
theorem rch_p (u : Use) (A B C : Iv) (hA : okI A) (hB : okI B) (hC : okI C) : Pur M 101 [useD u, ivD A, ivD B, ivD C] (ivD (chI A B C)) := by
  refine k101.ok (C := C101) rfl rfl ?_
  rw [i101]
  unfold c101
  have c1 := over_p A hA
  have c2 := join_p B C hB hC
  unfold chI
  unfold overI at c1
  by_cases g1 : A.2 ≤ 0
  · rw [if_pos g1] at c1 ⊢
    repeat' (first | with_reducible (apply swq; constructor) | simp only [go_sem, seval, P101, q101] | ((with_reducible refine zAb (c1) ?he ?hc ?_); (case he | hc => first | rfl | (simp [D.erL, D.er, D.cL, D.closed]; done))) | with_reducible (apply cA; constructor) | ((with_reducible refine And.intro ?hw ?_); (case hw => first | omega | rfl | exact ⟨_, _, rfl⟩ | assumption | (simp only [lN] <;> omega))) | with_reducible intro _)
    all_goals first | omega | (simp_all [D.closed, D.er, D.cL, D.erL]; done) | (simp_all [D.closed, D.er, D.cL, D.erL] <;> omega)
  · rw [if_neg g1] at c1 ⊢
    by_cases g2 : 0 < A.1
    · rw [if_pos g2] at c1 ⊢
      repeat' (first | with_reducible (apply swq; constructor) | simp only [go_sem, seval, P101, q101] | ((with_reducible refine zAb (c1) ?he ?hc ?_); (case he | hc => first | rfl | (simp [D.erL, D.er, D.cL, D.closed]; done))) | with_reducible (apply cA; constructor) | ((with_reducible refine And.intro ?hw ?_); (case hw => first | omega | rfl | exact ⟨_, _, rfl⟩ | assumption | (simp only [lN] <;> omega))) | with_reducible intro _)
      all_goals first | omega | (simp_all [D.closed, D.er, D.cL, D.erL]; done) | (simp_all [D.closed, D.er, D.cL, D.erL] <;> omega)
    · rw [if_neg g2] at c1 ⊢
      generalize joinI B C = R at *
      repeat' (first | with_reducible (apply swq; constructor) | simp only [go_sem, seval, P101, q101] | ((with_reducible refine zAb (c1) ?he ?hc ?_); (case he | hc => first | rfl | (simp [D.erL, D.er, D.cL, D.closed]; done))) | ((with_reducible refine zAb (c2) ?he ?hc ?_); (case he | hc => first | rfl | (simp [D.erL, D.er, D.cL, D.closed]; done))) | with_reducible (apply cA; constructor) | ((with_reducible refine And.intro ?hw ?_); (case hw => first | omega | rfl | exact ⟨_, _, rfl⟩ | assumption | (simp only [lN] <;> omega))) | with_reducible intro _)
      all_goals first | omega | (simp_all [D.closed, D.er, D.cL, D.erL]; done) | (simp_all [D.closed, D.er, D.cL, D.erL] <;> omega)
theorem rapp_p (u : Use) (op : Int) (A B : Iv) (h : 5 ≤ op) (h2 : op ≤ 10) (hA : okI A) (hB : okI B) : Pur M 100 [useD u, .int .i64 op, ivD A, ivD B] (ivD (opI op A B)) := by
  refine k100.ok (C := C100) rfl rfl ?_
  rw [i100]
  unfold c100
  have c3 := add_p A B
  have c4 := sub_p A B
  have c5 := mul_p A B
  have c6 := divide_p A B hA hB
  unfold bothI at c3 c4 c5
  rw [if_pos ⟨hA, hB⟩] at c3 c4 c5
  have : op = 5 ∨ op = 6 ∨ op = 7 ∨ op = 8 ∨ op = 9 ∨ op = 10 := by omega
  rcases this with rfl | rfl | rfl | rfl | rfl | rfl
  · have e : opI 5 A B = corn (fun a b => sat (a + b)) A B := rfl
    rw [e]
    generalize corn (fun a b => sat (a + b)) A B = R at *
    repeat' (first | with_reducible (apply swq; constructor) | simp only [go_sem, seval, P100, q100] | ((with_reducible refine zAb (c3) ?he ?hc ?_); (case he | hc => first | rfl | (simp [D.erL, D.er, D.cL, D.closed]; done))) | with_reducible (apply cA; constructor) | ((with_reducible refine And.intro ?hw ?_); (case hw => first | omega | rfl | exact ⟨_, _, rfl⟩ | assumption | (simp only [lN] <;> omega))) | with_reducible intro _)
    all_goals first | omega | (simp_all [D.closed, D.er, D.cL, D.erL]; done) | (simp_all [D.closed, D.er, D.cL, D.erL] <;> omega)
  · have e : opI 6 A B = corn (fun a b => sat (a - b)) A B := rfl
    rw [e]
    generalize corn (fun a b => sat (a - b)) A B = R at *
    repeat' (first | with_reducible (apply swq; constructor) | simp only [go_sem, seval, P100, q100] | ((with_reducible refine zAb (c4) ?he ?hc ?_); (case he | hc => first | rfl | (simp [D.erL, D.er, D.cL, D.closed]; done))) | with_reducible (apply cA; constructor) | ((with_reducible refine And.intro ?hw ?_); (case hw => first | omega | rfl | exact ⟨_, _, rfl⟩ | assumption | (simp only [lN] <;> omega))) | with_reducible intro _)
    all_goals first | omega | (simp_all [D.closed, D.er, D.cL, D.erL]; done) | (simp_all [D.closed, D.er, D.cL, D.erL] <;> omega)
  · have e : opI 7 A B = corn (fun a b => sat (a * b)) A B := rfl
    rw [e]
    generalize corn (fun a b => sat (a * b)) A B = R at *
    repeat' (first | with_reducible (apply swq; constructor) | simp only [go_sem, seval, P100, q100] | ((with_reducible refine zAb (c5) ?he ?hc ?_); (case he | hc => first | rfl | (simp [D.erL, D.er, D.cL, D.closed]; done))) | with_reducible (apply cA; constructor) | ((with_reducible refine And.intro ?hw ?_); (case hw => first | omega | rfl | exact ⟨_, _, rfl⟩ | assumption | (simp only [lN] <;> omega))) | with_reducible intro _)
    all_goals first | omega | (simp_all [D.closed, D.er, D.cL, D.erL]; done) | (simp_all [D.closed, D.er, D.cL, D.erL] <;> omega)
  · have e : opI 8 A B = divI A B := rfl
    rw [e]
    generalize divI A B = R at *
    repeat' (first | with_reducible (apply swq; constructor) | simp only [go_sem, seval, P100, q100] | ((with_reducible refine zAb (c6) ?he ?hc ?_); (case he | hc => first | rfl | (simp [D.erL, D.er, D.cL, D.closed]; done))) | with_reducible (apply cA; constructor) | ((with_reducible refine And.intro ?hw ?_); (case hw => first | omega | rfl | exact ⟨_, _, rfl⟩ | assumption | (simp only [lN] <;> omega))) | with_reducible intro _)
    all_goals first | omega | (simp_all [D.closed, D.er, D.cL, D.erL]; done) | (simp_all [D.closed, D.er, D.cL, D.erL] <;> omega)
  · have e : opI 9 A B = (min A.1 B.1, min A.2 B.2) := rfl
    rw [e]
    repeat' (first | with_reducible (apply swq; constructor) | simp only [go_sem, seval, P100, q100, minW] | with_reducible (apply cA; constructor) | ((with_reducible refine And.intro ?hw ?_); (case hw => first | omega | rfl | exact ⟨_, _, rfl⟩ | assumption | (simp only [lN] <;> omega))) | with_reducible intro _)
    all_goals first | omega | (simp_all [D.closed, D.er, D.cL, D.erL]; done) | (simp_all [D.closed, D.er, D.cL, D.erL] <;> omega)
  · have e : opI 10 A B = (max A.1 B.1, max A.2 B.2) := rfl
    rw [e]
    repeat' (first | with_reducible (apply swq; constructor) | simp only [go_sem, seval, P100, q100, maxW] | with_reducible (apply cA; constructor) | ((with_reducible refine And.intro ?hw ?_); (case hw => first | omega | rfl | exact ⟨_, _, rfl⟩ | assumption | (simp only [lN] <;> omega))) | with_reducible intro _)
    all_goals first | omega | (simp_all [D.closed, D.er, D.cL, D.erL]; done) | (simp_all [D.closed, D.er, D.cL, D.erL] <;> omega)
theorem m1 : zB2 M.P 73 "bogie/formula.number" = some 124 := by kernel_rfl
theorem m2 : zB2 M.P 73 "bogie/formula.letter" = some 123 := by kernel_rfl
theorem m3 : zB2 M.P 73 "bogie/formula.choose" = some 122 := by kernel_rfl
theorem m4 : zB2 M.P 73 "bogie/formula.apply" = some 121 := by kernel_rfl
theorem m5 : zB2 M.P 70 "bogie/formula.number" = some 103 := by kernel_rfl
theorem m6 : zB2 M.P 70 "bogie/formula.letter" = some 102 := by kernel_rfl
theorem m7 : zB2 M.P 70 "bogie/formula.choose" = some 101 := by kernel_rfl
theorem m8 : zB2 M.P 70 "bogie/formula.apply" = some 100 := by kernel_rfl
end Go.Proofs.YtkjnhkoipgdfeaaDoor
end
section
set_option maxRecDepth 100000
set_option linter.unusedSimpArgs false
set_option linter.unusedVariables false
namespace Go.Proofs.YtkjnhkoipgdfeaaDoor
open Go GoV Go.RowKit
theorem zEf {op n : Int} {ks : List F} (h : (F.mk op n ks).well = true) :
    (∀ k ∈ ks, k.well = true) ∧ 1 ≤ op ∧ op ≤ 11 ∧ 0 ≤ n ∧ n ≤ 9999999 ∧ ((op ≤ 4 ∧ ks = []) ∨ (5 ≤ op ∧ op ≤ 10 ∧ ∃ a b, ks = [a, b]) ∨ (op = 11 ∧ ∃ a b c, ks = [a, b, c])) := by
  simp only [F.well, Bool.and_eq_true] at h
  have hk := zD1 h.2
  have ho := h.1
  unfold okN at ho
  have ho := of_decide_eq_true ho
  obtain ⟨w1, w2, w3⟩ := want_cases op
  generalize want op = w at *
  refine ⟨hk, by omega, by omega, by omega, by omega, ?_⟩
  by_cases g1 : op = 11
  · have : ks.length = 3 := by omega
    match ks, this with
    | [a, b, c], _ => exact .inr (.inr ⟨g1, a, b, c, rfl⟩)
  · by_cases g2 : 5 ≤ op
    · have : ks.length = 2 := by omega
      match ks, this with
      | [a, b], _ => exact .inr (.inl ⟨g2, by omega, a, b, rfl⟩)
    · have : ks.length = 0 := by omega
      obtain rfl := List.length_eq_zero_iff.1 this
      exact .inl ⟨by omega, rfl⟩
theorem F.d_mk (op n : Int) (ks : List F) : (F.mk op n ks).d = .agg [.int .i64 op, .int .i64 n, .slice (ks.map F.d) .no] := by simp [F.d, fdL_map]
theorem val_leaf (km cy ld op n : Int) (h1 : 2 ≤ op) (h2 : op ≤ 4) : val km cy ld (.mk op n []) = if op = 2 then km else if op = 3 then cy else ld := by
  simp only [val]
  rw [if_neg (show ¬ op = 1 by omega), if_pos h2]
theorem span_leaf (u : Use) (op n : Int) (h1 : 2 ≤ op) (h2 : op ≤ 4) : span u (.mk op n []) = if op = 2 then u.km else if op = 3 then u.cy else u.ld := by
  simp only [span]
  rw [if_neg (show ¬ op = 1 by omega), if_pos h2]
theorem val_op (km cy ld op n : Int) (a b : F) (h1 : 5 ≤ op) (h2 : op ≤ 10) : val km cy ld (.mk op n [a, b]) = opN op (val km cy ld a) (val km cy ld b) := by
  simp only [val, valL, List.getD_cons_zero, List.getD_cons_succ]
  rw [if_neg (by omega), if_neg (by omega), if_neg (by omega), if_neg (by omega), if_neg (by omega)]
theorem span_op (u : Use) (op n : Int) (a b : F) (h1 : 5 ≤ op) (h2 : op ≤ 10) : span u (.mk op n [a, b]) = opI op (span u a) (span u b) := by
  simp only [span, spanL, List.getD_cons_zero, List.getD_cons_succ]
  rw [if_neg (by omega), if_neg (by omega), if_neg (by omega), if_neg (by omega), if_neg (by omega)]
set_option maxHeartbeats 1000000 in
theorem run38_p (km cy ld : Int) (h1 : Rg km) (h2 : Rg cy) (h3 : Rg ld) : ∀ (k : Nat) (f : F), f.nodes ≤ k → f.well = true → Pur M 38 [.iface 73 (ptD km cy ld), f.d] (.int .i64 (val km cy ld f))
  | 0, x, hk, _ => by have := zCe x; omega
  | k + 1, .mk op n ks, hk, hw => by
    obtain ⟨hkw, o1, o2, n1, n2, hc⟩ := zEf hw
    have ih : ∀ y ∈ ks, Pur M 38 [.iface 73 (ptD km cy ld), y.d] (.int .i64 (val km cy ld y)) := fun y hy => run38_p km cy ld h1 h2 h3 k y (by have := zBt (f := .mk op n ks) hy; omega) (hkw y hy)
    have hR : ∀ y ∈ ks, Rg (val km cy ld y) := fun y hy => val_rng h1 h2 h3 y (hkw y hy)
    refine k38.ok (C := C38) rfl rfl ?_
    rw [i38]
    unfold c38
    rw [F.d_mk]
    rcases hc with ⟨g1, rfl⟩ | ⟨g1, g2, a, b, rfl⟩ | ⟨rfl, a, b, c, rfl⟩
    · by_cases e1 : op = 1
      · subst e1
        have c1 := pnum_p km cy ld n
        have e : val km cy ld (.mk 1 n []) = n := rfl
        rw [e]
        repeat' (first | with_reducible (apply swq; constructor) | simp only [go_sem, seval, P38, q38, m1] | ((with_reducible first | refine zAb (c1) ?he ?hc ?_ | refine zAe (c1) ?he ?hc ?_ | refine zAf (c1) ?he ?hc ?_); (case he | hc => first | rfl | (simp [D.erL, D.er, D.cL, D.closed]; done))) | with_reducible (apply cA; constructor) | ((with_reducible refine And.intro ?hw ?_); (case hw => first | omega | rfl | exact ⟨_, _, rfl⟩ | assumption | (simp only [lN] <;> omega))) | with_reducible intro _)
        all_goals first | omega | (simp_all [D.closed, D.er, D.cL, D.erL]; done) | (simp_all [D.closed, D.er, D.cL, D.erL] <;> omega)
      · have c2 := plet_p km cy ld op (by omega) g1
        rw [← val_leaf km cy ld op n (by omega) g1] at c2
        generalize val km cy ld (.mk op n []) = v at *
        have t1 : (op == 1) = false := by simp [e1]
        have t2 : decide (op ≤ 4) = true := by simp [g1]
        repeat' (first | with_reducible (apply swq; constructor) | simp only [go_sem, seval, P38, q38, m2, t1, t2] | ((with_reducible first | refine zAb (c2) ?he ?hc ?_ | refine zAe (c2) ?he ?hc ?_ | refine zAf (c2) ?he ?hc ?_); (case he | hc => first | rfl | (simp [D.erL, D.er, D.cL, D.closed]; done))) | with_reducible (apply cA; constructor) | ((with_reducible refine And.intro ?hw ?_); (case hw => first | omega | rfl | exact ⟨_, _, rfl⟩ | assumption | (simp only [lN] <;> omega))) | with_reducible intro _)
        all_goals first | omega | (simp_all [D.closed, D.er, D.cL, D.erL]; done) | (simp_all [D.closed, D.er, D.cL, D.erL] <;> omega)
    · have i1 := ih a (by simp)
      have i2 := ih b (by simp)
      have c2 := papp_p km cy ld op (val km cy ld a) (val km cy ld b) g1 g2 (hR a (by simp)) (hR b (by simp))
      rw [val_op km cy ld op n a b g1 g2]
      rw [F.d_eq] at i1 i2
      simp only [List.map_cons, List.map_nil, F.d_eq]
      have ha := zAk a.kids
      have hb := zAk b.kids
      have ea := erL_F a.kids
      have eb := erL_F b.kids
      generalize val km cy ld a = va at *
      generalize val km cy ld b = vb at *
      generalize opN op va vb = vr at *
      have t1 : (op == 1) = false := by simp; omega
      have t2 : decide (op ≤ 4) = false := by simp; omega
      have t3 : (op == 11) = false := by simp; omega
      repeat' (first | with_reducible (apply swq; constructor) | simp only [go_sem, seval, P38, q38, m4, t1, t2, t3] | ((with_reducible first | refine zAb (i1) ?he ?hc ?_ | refine zAe (i1) ?he ?hc ?_ | refine zAf (i1) ?he ?hc ?_); (case he | hc => first | rfl | (simp [D.erL, D.er, D.cL, D.closed, ha, hb, ea, eb]; done))) | ((with_reducible first | refine zAb (i2) ?he ?hc ?_ | refine zAe (i2) ?he ?hc ?_ | refine zAf (i2) ?he ?hc ?_); (case he | hc => first | rfl | (simp [D.erL, D.er, D.cL, D.closed, ha, hb, ea, eb]; done))) | ((with_reducible first | refine zAb (c2) ?he ?hc ?_ | refine zAe (c2) ?he ?hc ?_ | refine zAf (c2) ?he ?hc ?_); (case he | hc => first | rfl | (simp [D.erL, D.er, D.cL, D.closed, ha, hb, ea, eb]; done))) | with_reducible (apply cA; constructor) | ((with_reducible refine And.intro ?hw ?_); (case hw => first | omega | rfl | exact ⟨_, _, rfl⟩ | assumption | (simp only [lN, ha, hb, ea, eb] <;> omega))) | with_reducible intro _)
      all_goals first | omega | (simp_all [D.closed, D.er, D.cL, D.erL, ha, hb, ea, eb]; done) | (simp_all [D.closed, D.er, D.cL, D.erL, ha, hb, ea, eb] <;> omega)
    · have i1 := ih a (by simp)
      have i2 := ih b (by simp)
      have i3 := ih c (by simp)
      have e : val km cy ld (.mk 11 n [a, b, c]) = chN (val km cy ld a) (val km cy ld b) (val km cy ld c) := by simp [val, valL]
      rw [e]
      have c2 := pch_p km cy ld (val km cy ld a) (val km cy ld b) (val km cy ld c)
      rw [F.d_eq] at i1 i2 i3
      simp only [List.map_cons, List.map_nil, F.d_eq]
      have ha := zAk a.kids
      have hb := zAk b.kids
      have hcc := zAk c.kids
      have ea := erL_F a.kids
      have eb := erL_F b.kids
      have ec := erL_F c.kids
      generalize val km cy ld a = va at *
      generalize val km cy ld b = vb at *
      generalize val km cy ld c = vc at *
      generalize chN va vb vc = vr at *
      repeat' (first | with_reducible (apply swq; constructor) | simp only [go_sem, seval, P38, q38, m3] | ((with_reducible first | refine zAb (i1) ?he ?hc ?_ | refine zAe (i1) ?he ?hc ?_ | refine zAf (i1) ?he ?hc ?_); (case he | hc => first | rfl | (simp [D.erL, D.er, D.cL, D.closed, ha, hb, hcc, ea, eb, ec]; done))) | ((with_reducible first | refine zAb (i2) ?he ?hc ?_ | refine zAe (i2) ?he ?hc ?_ | refine zAf (i2) ?he ?hc ?_); (case he | hc => first | rfl | (simp [D.erL, D.er, D.cL, D.closed, ha, hb, hcc, ea, eb, ec]; done))) | ((with_reducible first | refine zAb (i3) ?he ?hc ?_ | refine zAe (i3) ?he ?hc ?_ | refine zAf (i3) ?he ?hc ?_); (case he | hc => first | rfl | (simp [D.erL, D.er, D.cL, D.closed, ha, hb, hcc, ea, eb, ec]; done))) | ((with_reducible first | refine zAb (c2) ?he ?hc ?_ | refine zAe (c2) ?he ?hc ?_ | refine zAf (c2) ?he ?hc ?_); (case he | hc => first | rfl | (simp [D.erL, D.er, D.cL, D.closed, ha, hb, hcc, ea, eb, ec]; done))) | with_reducible (apply cA; constructor) | ((with_reducible refine And.intro ?hw ?_); (case hw => first | omega | rfl | exact ⟨_, _, rfl⟩ | assumption | (simp only [lN, ha, hb, hcc, ea, eb, ec] <;> omega))) | with_reducible intro _)
      all_goals first | omega | (simp_all [D.closed, D.er, D.cL, D.erL, ha, hb, hcc, ea, eb, ec]; done) | (simp_all [D.closed, D.er, D.cL, D.erL, ha, hb, hcc, ea, eb, ec] <;> omega)
set_option maxHeartbeats 1000000 in
theorem run36_p (u : Use) (hu : u.ok) : ∀ (k : Nat) (f : F), f.nodes ≤ k → f.well = true → Pur M 36 [.iface 70 (useD u), f.d] (ivD (span u f))
  | 0, x, hk, _ => by have := zCe x; omega
  | k + 1, .mk op n ks, hk, hw => by
    obtain ⟨hkw, o1, o2, n1, n2, hc⟩ := zEf hw
    have ih : ∀ y ∈ ks, Pur M 36 [.iface 70 (useD u), y.d] (ivD (span u y)) := fun y hy => run36_p u hu k y (by have := zBt (f := .mk op n ks) hy; omega) (hkw y hy)
    have hR : ∀ y ∈ ks, okI (span u y) := fun y hy => span_ok hu y (hkw y hy)
    refine k36.ok (C := C36) rfl rfl ?_
    rw [i36]
    unfold c36
    rw [F.d_mk]
    rcases hc with ⟨g1, rfl⟩ | ⟨g1, g2, a, b, rfl⟩ | ⟨rfl, a, b, c, rfl⟩
    · by_cases e1 : op = 1
      · subst e1
        have c1 := rnum_p u n
        have e : span u (.mk 1 n []) = (n, n) := rfl
        rw [e]
        repeat' (first | with_reducible (apply swq; constructor) | simp only [go_sem, seval, P36, q36, m5] | ((with_reducible first | refine zAb (c1) ?he ?hc ?_ | refine zAe (c1) ?he ?hc ?_ | refine zAf (c1) ?he ?hc ?_); (case he | hc => first | rfl | (simp [D.erL, D.er, D.cL, D.closed]; done))) | with_reducible (apply cA; constructor) | ((with_reducible refine And.intro ?hw ?_); (case hw => first | omega | rfl | exact ⟨_, _, rfl⟩ | assumption | (simp only [lN] <;> omega))) | with_reducible intro _)
        all_goals first | omega | (simp_all [D.closed, D.er, D.cL, D.erL]; done) | (simp_all [D.closed, D.er, D.cL, D.erL] <;> omega)
      · have c2 := rlet_p u op (by omega) g1
        rw [← span_leaf u op n (by omega) g1] at c2
        generalize span u (.mk op n []) = v at *
        have t1 : (op == 1) = false := by simp [e1]
        have t2 : decide (op ≤ 4) = true := by simp [g1]
        repeat' (first | with_reducible (apply swq; constructor) | simp only [go_sem, seval, P36, q36, m6, t1, t2] | ((with_reducible first | refine zAb (c2) ?he ?hc ?_ | refine zAe (c2) ?he ?hc ?_ | refine zAf (c2) ?he ?hc ?_); (case he | hc => first | rfl | (simp [D.erL, D.er, D.cL, D.closed]; done))) | with_reducible (apply cA; constructor) | ((with_reducible refine And.intro ?hw ?_); (case hw => first | omega | rfl | exact ⟨_, _, rfl⟩ | assumption | (simp only [lN] <;> omega))) | with_reducible intro _)
        all_goals first | omega | (simp_all [D.closed, D.er, D.cL, D.erL]; done) | (simp_all [D.closed, D.er, D.cL, D.erL] <;> omega)
    · have i1 := ih a (by simp)
      have i2 := ih b (by simp)
      have c2 := rapp_p u op (span u a) (span u b) g1 g2 (hR a (by simp)) (hR b (by simp))
      rw [span_op u op n a b g1 g2]
      rw [F.d_eq] at i1 i2
      simp only [List.map_cons, List.map_nil, F.d_eq]
      have ha := zAk a.kids
      have hb := zAk b.kids
      have ea := erL_F a.kids
      have eb := erL_F b.kids
      generalize span u a = va at *
      generalize span u b = vb at *
      generalize opI op va vb = vr at *
      have t1 : (op == 1) = false := by simp; omega
      have t2 : decide (op ≤ 4) = false := by simp; omega
      have t3 : (op == 11) = false := by simp; omega
      repeat' (first | with_reducible (apply swq; constructor) | simp only [go_sem, seval, P36, q36, m8, t1, t2, t3] | ((with_reducible first | refine zAb (i1) ?he ?hc ?_ | refine zAe (i1) ?he ?hc ?_ | refine zAf (i1) ?he ?hc ?_); (case he | hc => first | rfl | (simp [D.erL, D.er, D.cL, D.closed, ha, hb, ea, eb]; done))) | ((with_reducible first | refine zAb (i2) ?he ?hc ?_ | refine zAe (i2) ?he ?hc ?_ | refine zAf (i2) ?he ?hc ?_); (case he | hc => first | rfl | (simp [D.erL, D.er, D.cL, D.closed, ha, hb, ea, eb]; done))) | ((with_reducible first | refine zAb (c2) ?he ?hc ?_ | refine zAe (c2) ?he ?hc ?_ | refine zAf (c2) ?he ?hc ?_); (case he | hc => first | rfl | (simp [D.erL, D.er, D.cL, D.closed, ha, hb, ea, eb]; done))) | with_reducible (apply cA; constructor) | ((with_reducible refine And.intro ?hw ?_); (case hw => first | omega | rfl | exact ⟨_, _, rfl⟩ | assumption | (simp only [lN, ha, hb, ea, eb] <;> omega))) | with_reducible intro _)
      all_goals first | omega | (simp_all [D.closed, D.er, D.cL, D.erL, ha, hb, ea, eb]; done) | (simp_all [D.closed, D.er, D.cL, D.erL, ha, hb, ea, eb] <;> omega)
    · have i1 := ih a (by simp)
      have i2 := ih b (by simp)
      have i3 := ih c (by simp)
      have e : span u (.mk 11 n [a, b, c]) = chI (span u a) (span u b) (span u c) := by simp [span, spanL]
      rw [e]
      have c2 := rch_p u (span u a) (span u b) (span u c) (hR a (by simp)) (hR b (by simp)) (hR c (by simp))
      rw [F.d_eq] at i1 i2 i3
      simp only [List.map_cons, List.map_nil, F.d_eq]
      have ha := zAk a.kids
      have hb := zAk b.kids
      have hcc := zAk c.kids
      have ea := erL_F a.kids
      have eb := erL_F b.kids
      have ec := erL_F c.kids
      generalize span u a = va at *
      generalize span u b = vb at *
      generalize span u c = vc at *
      generalize chI va vb vc = vr at *
      repeat' (first | with_reducible (apply swq; constructor) | simp only [go_sem, seval, P36, q36, m7] | ((with_reducible first | refine zAb (i1) ?he ?hc ?_ | refine zAe (i1) ?he ?hc ?_ | refine zAf (i1) ?he ?hc ?_); (case he | hc => first | rfl | (simp [D.erL, D.er, D.cL, D.closed, ha, hb, hcc, ea, eb, ec]; done))) | ((with_reducible first | refine zAb (i2) ?he ?hc ?_ | refine zAe (i2) ?he ?hc ?_ | refine zAf (i2) ?he ?hc ?_); (case he | hc => first | rfl | (simp [D.erL, D.er, D.cL, D.closed, ha, hb, hcc, ea, eb, ec]; done))) | ((with_reducible first | refine zAb (i3) ?he ?hc ?_ | refine zAe (i3) ?he ?hc ?_ | refine zAf (i3) ?he ?hc ?_); (case he | hc => first | rfl | (simp [D.erL, D.er, D.cL, D.closed, ha, hb, hcc, ea, eb, ec]; done))) | ((with_reducible first | refine zAb (c2) ?he ?hc ?_ | refine zAe (c2) ?he ?hc ?_ | refine zAf (c2) ?he ?hc ?_); (case he | hc => first | rfl | (simp [D.erL, D.er, D.cL, D.closed, ha, hb, hcc, ea, eb, ec]; done))) | with_reducible (apply cA; constructor) | ((with_reducible refine And.intro ?hw ?_); (case hw => first | omega | rfl | exact ⟨_, _, rfl⟩ | assumption | (simp only [lN, ha, hb, hcc, ea, eb, ec] <;> omega))) | with_reducible intro _)
      all_goals first | omega | (simp_all [D.closed, D.er, D.cL, D.erL, ha, hb, hcc, ea, eb, ec]; done) | (simp_all [D.closed, D.er, D.cL, D.erL, ha, hb, hcc, ea, eb, ec] <;> omega)
end Go.Proofs.YtkjnhkoipgdfeaaDoor
end
section
set_option maxRecDepth 100000
set_option linter.unusedSimpArgs false
set_option linter.unusedVariables false
namespace Go.Proofs.YtkjnhkoipgdfeaaDoor
open Go GoV Go.RowKit
theorem zE0 (f : F) (km cy ld : Int) : Pur M 18 [f.d, .int .i64 km, .int .i64 cy, .int .i64 ld] (.int .i64 (zBe f km cy ld)) := by
  refine k18.ok (C := C18) rfl rfl ?_
  rw [i18]
  unfold c18
  have c1 := valid_p f
  have hck := zAk f.kids
  have hek := erL_F f.kids
  unfold zBe
  cases hv : f.valid
  · rw [hv] at c1
    rw [F.d_eq] at c1 ⊢
    repeat' (first | with_reducible (apply swq; constructor) | simp only [go_sem, seval, P18, q18] | ((with_reducible first | refine zAb (c1) ?he ?hc ?_ | refine zAe (c1) ?he ?hc ?_ | refine zAf (c1) ?he ?hc ?_); (case he | hc => first | rfl | (simp [D.erL, D.er, D.cL, D.closed, hck, hek]; done))) | with_reducible (apply cA; constructor) | ((with_reducible refine And.intro ?hw ?_); (case hw => first | omega | rfl | exact ⟨_, _, rfl⟩ | assumption | (simp only [lN, hck, hek] <;> omega))) | with_reducible intro _)
    all_goals first | omega | (simp_all [D.closed, D.er, D.cL, D.erL, hck, hek]; done) | (simp_all [D.closed, D.er, D.cL, D.erL, hck, hek] <;> omega)
  · rw [hv] at c1
    simp only [if_true]
    have c2 := cut_p km
    have c3 := cut_p cy
    have c4 := cut_p ld
    have c5 := run38_p (sat km) (sat cy) (sat ld) (zDv _) (zDv _) (zDv _) f.nodes f (Nat.le_refl _) (zDf hv)
    rw [F.d_eq] at c1 c5 ⊢
    generalize val (sat km) (sat cy) (sat ld) f = v at *
    generalize sat km = skm at *
    generalize sat cy = scy at *
    generalize sat ld = sld at *
    repeat' (first | with_reducible (apply swq; constructor) | simp only [go_sem, seval, P18, q18] | ((with_reducible first | refine zAb (c1) ?he ?hc ?_ | refine zAe (c1) ?he ?hc ?_ | refine zAf (c1) ?he ?hc ?_); (case he | hc => first | rfl | (simp [D.erL, D.er, D.cL, D.closed, hck, hek]; done))) | ((with_reducible first | refine zAb (c2) ?he ?hc ?_ | refine zAe (c2) ?he ?hc ?_ | refine zAf (c2) ?he ?hc ?_); (case he | hc => first | rfl | (simp [D.erL, D.er, D.cL, D.closed, hck, hek]; done))) | ((with_reducible first | refine zAb (c3) ?he ?hc ?_ | refine zAe (c3) ?he ?hc ?_ | refine zAf (c3) ?he ?hc ?_); (case he | hc => first | rfl | (simp [D.erL, D.er, D.cL, D.closed, hck, hek]; done))) | ((with_reducible first | refine zAb (c4) ?he ?hc ?_ | refine zAe (c4) ?he ?hc ?_ | refine zAf (c4) ?he ?hc ?_); (case he | hc => first | rfl | (simp [D.erL, D.er, D.cL, D.closed, hck, hek]; done))) | ((with_reducible first | refine zAb (c5) ?he ?hc ?_ | refine zAe (c5) ?he ?hc ?_ | refine zAf (c5) ?he ?hc ?_); (case he | hc => first | rfl | (simp [D.erL, D.er, D.cL, D.closed, hck, hek]; done))) | with_reducible (apply cA; constructor) | ((with_reducible refine And.intro ?hw ?_); (case hw => first | omega | rfl | exact ⟨_, _, rfl⟩ | assumption | (simp only [lN, hck, hek] <;> omega))) | with_reducible intro _)
    all_goals first | omega | (simp_all [D.closed, D.er, D.cL, D.erL, hck, hek]; done) | (simp_all [D.closed, D.er, D.cL, D.erL, hck, hek] <;> omega)
theorem good_dec (i : Iv) (h : useI i = true) : decide (i.1 < 0) = false ∧ decide (i.1 > i.2) = false ∧ decide (i.2 > 1000000) = false := by
  unfold useI at h
  have := of_decide_eq_true h
  simp; omega
def ivk (u : Use) (i : Nat) : Iv := if i = 0 then u.km else if i = 1 then u.cy else u.ld
theorem ivk_get (u : Use) {i : Nat} (h : i < 3) : [ivD u.km, ivD u.cy, ivD u.ld].getD i .u0 = ivD (ivk u i) := by
  have : i = 0 ∨ i = 1 ∨ i = 2 := by omega
  rcases this with rfl | rfl | rfl <;> rfl
theorem good_k (u : Use) : u.good = (useI (ivk u 0) && useI (ivk u 1) && useI (ivk u 2)) := rfl
theorem useI_bad {i : Iv} (h : useI i = false) : i.1 < 0 ∨ i.1 > i.2 ∨ i.2 > 1000000 := by
  unfold useI at h
  have := of_decide_eq_false h
  omega
set_option maxHeartbeats 1000000 in
theorem zEo (f : F) (u : Use) : Pur M 17 [f.d, useD u] (ivD (zA1 f u)) := by
  refine k17.ok (C := C17) rfl rfl ?_
  rw [i17]
  unfold c17
  have c1 := valid_p f
  have hck := zAk f.kids
  have hek := erL_F f.kids
  have hrk := fun β τ => rnL_F β τ f.kids
  rw [F.d_eq] at c1 ⊢
  repeat' (first | with_reducible (apply swq; constructor) | simp only [go_sem, seval, P17, q17] | ((with_reducible apply s_bsl); (case he | hl | hc => first | rfl | assumption | omega | ((first | refine ⟨?_, ?_⟩ | skip) <;> first | omega | (simp only [lN, hck, hek] <;> omega)) | (simp [zAa, D.iV, D.cells, D.cL, D.closed, hck, hek]; first | done | omega))) | (with_reducible first | (apply cA; constructor) | (apply gA; constructor)) | ((with_reducible refine And.intro ?hw ?_); (case hw => first | omega | rfl | exact ⟨_, _, rfl⟩ | assumption | (simp only [lN, hck, hek] <;> omega))) | with_reducible intro _)
  refine zDp [3, 2, 4, 7, 8, 9] 3 0 (Nat.zero_le 3) (Nat.le_refl 0) (fun i : Nat => ⟨[.u0, .u0, .ptr 0 0, .ptr 1 0, .ptr 2 0, .u0, .u0, .slice [ivD u.km, ivD u.cy, ivD u.ld] .full, .int .i64 3, .int .i64 i, .u0, .u0, .u0], [],
    ⟨[.cells f.cells, .cells [.int .i64 u.km.1, .int .i64 u.km.2, .int .i64 u.cy.1, .int .i64 u.cy.2, .int .i64 u.ld.1, .int .i64 u.ld.2], .cells [.int .i64 0, .int .i64 0]], []⟩⟩) (fun i => i ≤ 3 ∧ ∀ j, j < i → useI (ivk u j) = true) (fun i => 3 - i) 0 ⟨by omega, fun j h => by omega⟩ ?_ ?_
  · simp [keepE, St.keep, St.keepG, St.gc, Hp.cut, D.rn, D.rnL, Blk.rnL, Blk.rn, Tv.rnL, Tv.rn, cutF, Own.rn, hrk]
  · rintro i ⟨hi, hb⟩
    by_cases hi3 : i < 3
    · have hg := ivk_get u hi3
      have hd : decide ((i : Int) < 3) = true := by simp; omega
      have hlen : [ivD u.km, ivD u.cy, ivD u.ld].length = 3 := rfl
      cases hu : useI (ivk u i)
      · have hgd : u.good = false := by
          rw [good_k]
          have : i = 0 ∨ i = 1 ∨ i = 2 := by omega
          rcases this with rfl | rfl | rfl <;> simp [hu]
        have hbad := useI_bad hu
        have hD : zA1 f u = (0, 0) := by simp [zA1, hgd]
        rw [hD]
        generalize ivk u i = v at *
        generalize [ivD u.km, ivD u.cy, ivD u.ld] = W at *
        by_cases g1 : v.1 < 0
        · have t1 : decide (v.1 < 0) = true := by simp [g1]
          repeat' (first | with_reducible (apply swq; constructor) | simp only [go_sem, seval, P17, q17, hd, hg, hlen, t1] | simp (disch := omega) only [w64, w32, wu8, wu16, wu32, wu64] | ((with_reducible apply s_bsl); (case he | hl | hc => first | rfl | assumption | omega | ((first | refine ⟨?_, ?_⟩ | skip) <;> first | omega | (simp only [lN, hg, hlen] <;> omega)) | (simp [zAa, D.iV, D.cells, D.cL, D.closed, hg, hlen]; first | done | omega))) | (with_reducible first | (apply cA; constructor) | (apply gA; constructor)) | ((with_reducible refine And.intro ?hw ?_); (case hw => first | omega | rfl | exact ⟨_, _, rfl⟩ | assumption | (simp only [lN, hg, hlen] <;> omega))) | with_reducible intro _)
          all_goals try (exfalso; omega)
          all_goals simp [D.closed, D.er, setL, RcS]
        · have t1 : decide (v.1 < 0) = false := by simp [g1]
          by_cases g2 : v.1 > v.2
          · have t2 : decide (v.1 > v.2) = true := by simp [g2]
            repeat' (first | with_reducible (apply swq; constructor) | simp only [go_sem, seval, P17, q17, hd, hg, hlen, t1, t2] | simp (disch := omega) only [w64, w32, wu8, wu16, wu32, wu64] | ((with_reducible apply s_bsl); (case he | hl | hc => first | rfl | assumption | omega | ((first | refine ⟨?_, ?_⟩ | skip) <;> first | omega | (simp only [lN, hg, hlen] <;> omega)) | (simp [zAa, D.iV, D.cells, D.cL, D.closed, hg, hlen]; first | done | omega))) | (with_reducible first | (apply cA; constructor) | (apply gA; constructor)) | ((with_reducible refine And.intro ?hw ?_); (case hw => first | omega | rfl | exact ⟨_, _, rfl⟩ | assumption | (simp only [lN, hg, hlen] <;> omega))) | with_reducible intro _)
            all_goals try (exfalso; omega)
            all_goals simp [D.closed, D.er, setL, RcS]
          · have t2 : decide (v.1 > v.2) = false := by simp; omega
            have t3 : decide (v.2 > 1000000) = true := by simp; omega
            repeat' (first | with_reducible (apply swq; constructor) | simp only [go_sem, seval, P17, q17, hd, hg, hlen, t1, t2, t3] | simp (disch := omega) only [w64, w32, wu8, wu16, wu32, wu64] | ((with_reducible apply s_bsl); (case he | hl | hc => first | rfl | assumption | omega | ((first | refine ⟨?_, ?_⟩ | skip) <;> first | omega | (simp only [lN, hg, hlen] <;> omega)) | (simp [zAa, D.iV, D.cells, D.cL, D.closed, hg, hlen]; first | done | omega))) | (with_reducible first | (apply cA; constructor) | (apply gA; constructor)) | ((with_reducible refine And.intro ?hw ?_); (case hw => first | omega | rfl | exact ⟨_, _, rfl⟩ | assumption | (simp only [lN, hg, hlen] <;> omega))) | with_reducible intro _)
            all_goals try (exfalso; omega)
            all_goals simp [D.closed, D.er, setL, RcS]
      · obtain ⟨t1, t2, t3⟩ := good_dec _ hu
        generalize hvi : ivk u i = v at *
        generalize hW : [ivD u.km, ivD u.cy, ivD u.ld] = W at *
        repeat' (first | with_reducible (apply swq; constructor) | simp only [go_sem, seval, P17, q17, hd, hg, hlen, t1, t2, t3] | simp (disch := omega) only [w64, w32, wu8, wu16, wu32, wu64] | ((with_reducible apply s_bsl); (case he | hl | hc => first | rfl | assumption | omega | ((first | refine ⟨?_, ?_⟩ | skip) <;> first | omega | (simp only [lN, hg, hlen] <;> omega)) | (simp [zAa, D.iV, D.cells, D.cL, D.closed, hg, hlen]; first | done | omega))) | (with_reducible first | (apply cA; constructor) | (apply gA; constructor)) | ((with_reducible refine And.intro ?hw ?_); (case hw => first | omega | rfl | exact ⟨_, _, rfl⟩ | assumption | (simp only [lN, hg, hlen] <;> omega))) | with_reducible intro _)
        all_goals try (exfalso; omega)
        refine ⟨i + 1, ⟨by omega, fun j h => ?_⟩, by omega, ?_⟩
        · by_cases e : j = i
          · subst e; rw [hvi]; exact hu
          · exact hb j (by omega)
        · subst hW
          simp [keepE, St.keep, St.keepG, St.gc, Hp.cut, D.rn, D.rnL, Blk.rnL, Blk.rn, Tv.rnL, Tv.rn, cutF, Own.rn, hrk]
    · obtain rfl : i = 3 := by omega
      have hgd : u.good = true := by rw [good_k, hb 0 (by omega), hb 1 (by omega), hb 2 (by omega)]; rfl
      have hd : decide (((3 : Nat) : Int) < 3) = false := rfl
      unfold zA1
      rw [hgd]
      cases hv : f.valid
      · rw [hv] at c1
        simp only [Bool.false_and, Bool.false_eq_true, if_false]
        repeat' (first | with_reducible (apply swq; constructor) | simp only [go_sem, seval, P17, q17, hd] | ((with_reducible refine zAb (c1) ?he ?hc ?_); (case he | hc => first | rfl | (simp [D.erL, D.er, D.cL, D.closed, hck, hek]; done))) | ((with_reducible apply s_bsl); (case he | hl | hc => first | rfl | assumption | omega | ((first | refine ⟨?_, ?_⟩ | skip) <;> first | omega | (simp only [lN, hck, hek] <;> omega)) | (simp [zAa, D.iV, D.cells, D.cL, D.closed, hck, hek]; first | done | omega))) | (with_reducible first | (apply cA; constructor) | (apply gA; constructor)) | ((with_reducible refine And.intro ?hw ?_); (case hw => first | omega | rfl | exact ⟨_, _, rfl⟩ | assumption | (simp only [lN, hck, hek] <;> omega))) | with_reducible intro _)
        all_goals first | omega | (simp_all [D.closed, D.er, D.cL, D.erL, hck, hek]; done) | (simp_all [D.closed, D.er, D.cL, D.erL, hck, hek] <;> omega)
      · rw [hv] at c1
        simp only [Bool.and_self, if_true]
        have c2 := run36_p u (good_ok hgd) f.nodes f (Nat.le_refl _) (zDf hv)
        rw [F.d_eq] at c2
        generalize span u f = v at *
        repeat' (first | with_reducible (apply swq; constructor) | simp only [go_sem, seval, P17, q17, hd, maxW] | ((with_reducible refine zAb (c1) ?he ?hc ?_); (case he | hc => first | rfl | (simp [D.erL, D.er, D.cL, D.closed, hck, hek]; done))) | ((with_reducible refine zAb (c2) ?he ?hc ?_); (case he | hc => first | rfl | (simp [D.erL, D.er, D.cL, D.closed, hck, hek]; done))) | ((with_reducible apply s_bsl); (case he | hl | hc => first | rfl | assumption | omega | ((first | refine ⟨?_, ?_⟩ | skip) <;> first | omega | (simp only [lN, hck, hek] <;> omega)) | (simp [zAa, D.iV, D.cells, D.cL, D.closed, hck, hek]; first | done | omega))) | (with_reducible first | (apply cA; constructor) | (apply gA; constructor)) | ((with_reducible refine And.intro ?hw ?_); (case hw => first | omega | rfl | exact ⟨_, _, rfl⟩ | assumption | (simp only [lN, hck, hek] <;> omega))) | with_reducible intro _)
        all_goals first | omega | (simp_all [D.closed, D.er, D.cL, D.erL, hck, hek]; done) | (simp_all [D.closed, D.er, D.cL, D.erL, hck, hek] <;> omega)
theorem rtimes_p (a b : Int) (ha : Rg a) (hb : Rg b) : Pur M 26 [.int .i64 a, .int .i64 b] (.int .i64 (sat (a * b))) := by
  refine k26.ok (C := C26) rfl rfl ?_
  rw [i26]
  unfold c26
  obtain ⟨h1, h2⟩ := ha
  obtain ⟨h3, h4⟩ := hb
  by_cases ha0 : a = 0
  · subst ha0
    have : sat (0 * b) = 0 := by rw [Int.zero_mul]; rfl
    rw [this]
    repeat' (first | with_reducible (apply swq; constructor) | simp only [go_sem, seval, P26, q26] | simp (disch := omega) only [w64, w32, wu8, wu16, wu32, wu64] | (with_reducible first | (apply cA; constructor) | (apply gA; constructor)) | ((with_reducible refine And.intro ?hw ?_); (case hw => first | omega | rfl | exact ⟨_, _, rfl⟩ | assumption | (simp only [lN] <;> omega))) | with_reducible intro _)
    all_goals try (exfalso; omega)
    all_goals simp [D.closed, D.er]
  · by_cases hb0 : b = 0
    · subst hb0
      have : sat (a * 0) = 0 := by rw [Int.mul_zero]; rfl
      rw [this]
      have t1 : (a == 0) = false := by simp [ha0]
      repeat' (first | with_reducible (apply swq; constructor) | simp only [go_sem, seval, P26, q26, t1] | simp (disch := omega) only [w64, w32, wu8, wu16, wu32, wu64] | (with_reducible first | (apply cA; constructor) | (apply gA; constructor)) | ((with_reducible refine And.intro ?hw ?_); (case hw => first | omega | rfl | exact ⟨_, _, rfl⟩ | assumption | (simp only [lN] <;> omega))) | with_reducible intro _)
      all_goals try (exfalso; omega)
      all_goals simp [D.closed, D.er]
    · have t1 : (a == 0) = false := by simp [ha0]
      have t2 : (b == 0) = false := by simp [hb0]
      have hx : a.natAbs ≤ 1000000000000 := by omega
      have hy : b.natAbs ≤ 1000000000000 := by omega
      have em := mul_abs a b
      have ea := abs_max a
      have eb := abs_max b
      have hq : (1000000000000 : Int).tdiv b.natAbs = (1000000000000 / b.natAbs : Nat) := by
        rw [Int.tdiv_eq_ediv_of_nonneg (by omega)]; rfl
      have hle : a.natAbs ≤ 1000000000000 / b.natAbs ↔ a.natAbs * b.natAbs ≤ 1000000000000 := Nat.le_div_iff_mul_le (by omega)
      have hql : 1000000000000 / b.natAbs ≤ 1000000000000 := Nat.div_le_self _ _
      have e : sat (a * b) = max (-1000000000000) (min (a * b) 1000000000000) := rfl
      have hmul : (a.natAbs : Int) * b.natAbs = ((a.natAbs * b.natAbs : Nat) : Int) := by simp
      generalize sat (a * b) = sz at *
      generalize a.natAbs * b.natAbs = p at *
      generalize 1000000000000 / b.natAbs = q at *
      generalize a * b = z at *
      have hbn : b.natAbs ≠ 0 := by omega
      cases ta : decide (a < 0) <;> cases tb : decide (b < 0)
      all_goals
        rw [ta, tb] at em
        simp only [Bool.false_eq_true, Bool.true_eq_false, reduceIte, reduceCtorEq] at em
        generalize a.natAbs = x at *
        generalize b.natAbs = y at *
        by_cases hxq : (x : Int) ≤ q
        · have t3 : decide ((x : Int) ≤ q) = true := by simp only [decide_eq_true_eq]; exact hxq
          have hp := hle.1 (by omega)
          repeat' (first | with_reducible (apply swq; constructor) | simp only [go_sem, seval, P26, q26, minW, maxW, ta, tb, ea, eb, t1, t2, t3, hq, hmul, bq1, bq2, bq3, bq4, Bool.not_true, Bool.not_false] | simp (disch := omega) only [w64, w32, wu8, wu16, wu32, wu64] | (with_reducible first | (apply cA; constructor) | (apply gA; constructor)) | ((with_reducible refine And.intro ?hw ?_); (case hw => first | omega | rfl | exact ⟨_, _, rfl⟩ | assumption | (simp only [lN] <;> omega))) | with_reducible intro _)
          all_goals try (exfalso; omega)
          all_goals simp only [decide_eq_true_eq, decide_eq_false_iff_not] at ta tb
          all_goals clear ea eb
          all_goals simp only [D.closed, D.er, List.getElem?_cons_zero, List.getElem?_cons_succ, Option.getD_some, true_and, D.int.injEq]
          all_goals omega
        · have t3 : decide ((x : Int) ≤ q) = false := by simp only [decide_eq_false_iff_not]; exact hxq
          have hp := fun h => hxq (by have := hle.2 h; omega)
          repeat' (first | with_reducible (apply swq; constructor) | simp only [go_sem, seval, P26, q26, minW, maxW, ta, tb, ea, eb, t1, t2, t3, hq, hmul, bq1, bq2, bq3, bq4, Bool.not_true, Bool.not_false] | simp (disch := omega) only [w64, w32, wu8, wu16, wu32, wu64] | (with_reducible first | (apply cA; constructor) | (apply gA; constructor)) | ((with_reducible refine And.intro ?hw ?_); (case hw => first | omega | rfl | exact ⟨_, _, rfl⟩ | assumption | (simp only [lN] <;> omega))) | with_reducible intro _)
          all_goals try (exfalso; omega)
          all_goals simp only [decide_eq_true_eq, decide_eq_false_iff_not] at ta tb
          all_goals clear ea eb
          all_goals simp only [D.closed, D.er, List.getElem?_cons_zero, List.getElem?_cons_succ, Option.getD_some, true_and, D.int.injEq]
          all_goals omega
end Go.Proofs.YtkjnhkoipgdfeaaDoor
end
section
set_option maxRecDepth 100000
set_option linter.unusedSimpArgs false
set_option linter.unusedVariables false
namespace Go.Proofs.YtkjnhkoipgdfeaaDoor
open Go GoV Go.RowKit
theorem index_p (s : Tx) (c : UInt8) : Pur M 55 [.str s, .int .u8 c.toNat] (.int .i64 (Lib.indexByte s c)) := by
  refine pur_ext (vs := [.string ⟨s.toArray⟩, .int .u8 c.toNat]) (v := .int .i64 (Lib.indexByte s c)) ⟨Tryd.f55, Tryd.func55, rfl, rfl⟩ (fun w I xs h => ?_) (fun w I => ?_) (fun w hA => ?_)
  · obtain ⟨x, xs', rfl, g1, g2⟩ := h.inv
    obtain ⟨y, ys', rfl, g3, g4⟩ := g2.inv
    simp only [Rel] at g1 g3
    rw [g4.inv_nil, g1, g3]
  · simp [Rel]
  · refine (Tryd.strings_IndexByte ⟨s.toArray⟩ c.toNat w).mono fun e w' hh => ?_
    obtain ⟨rfl, rfl⟩ := hh
    refine ⟨?_, Below.refl _ _⟩
    have : ((c.toNat : Int).toNat).toUInt8 = c := by simp
    rw [this]
def cls0 (c : Nat) : Int :=
  if (97 ≤ c ∧ c ≤ 122) ∨ (65 ≤ c ∧ c ≤ 90) then 3 else if 48 ≤ c ∧ c ≤ 57 then 4 else if Lib.indexByte [32, 9, 10] (UInt8.ofNat c) ≥ 0 then 1
  else if Lib.indexByte [59, 44, 46, 58, 40, 41, 123, 125, 91, 93, 61, 60, 62, 47, 43, 45, 42] (UInt8.ofNat c) ≥ 0 then 6 else 0
def tblN (i : Nat) : List D := (List.range 256).map fun c => .int .u8 (if c < i then cls0 c else 0)
def tbl : List D := (List.range 256).map fun c => .int .u8 (if c = 35 then 2 else if c = 95 then 5 else if c = 34 then 7 else cls0 c)
theorem zFj (i : Nat) : (tblN i).length = 256 := by simp [tblN]
theorem map_const {α : Type} (v : D) : ∀ l : List α, l.map (fun _ => v) = List.replicate l.length v
  | [] => rfl
  | x :: l => by rw [List.map_cons, map_const v l]; rfl
theorem tblN_zero : zl256 = tblN 0 := by
  unfold zl256 tblN
  have : (fun c : Nat => D.int .u8 (if c < 0 then cls0 c else 0)) = fun _ => D.int .u8 0 := by funext c; simp
  rw [this, map_const, List.length_range]
theorem zl_len : zl256.length = 256 := by rw [tblN_zero, zFj]
theorem tblN_set {i : Nat} (h : i < 256) {v : Int} (hv : v = cls0 i) : setL (tblN i) i [.int .u8 v] = tblN (i + 1) := by
  subst hv
  simp only [setL]
  apply List.ext_getElem?
  intro j
  rw [List.getElem?_set]
  by_cases hj : j < 256
  · by_cases e : i = j
    · subst e
      simp [tblN, h]
    · rw [if_neg e]
      simp only [tblN, List.getElem?_map, List.getElem?_range hj, Option.map_some]
      have : (j < i) ↔ (j < i + 1) := by omega
      simp [this]
  · have h1 : ∀ k, (tblN k)[j]? = none := fun k => List.getElem?_eq_none (by rw [zFj]; omega)
    rw [h1, h1]
    rw [if_neg (by omega)]
theorem tblN_skip {i : Nat} (h : i < 256) (hv : cls0 i = 0) : tblN i = tblN (i + 1) := by
  rw [← tblN_set h rfl, hv]
  simp only [setL]
  apply List.ext_getElem?
  intro j
  rw [List.getElem?_set]
  by_cases e : i = j
  · subst e; simp [tblN, h]
  · rw [if_neg e]
theorem tbl_eq : setL (setL (setL (tblN 256) 35 [.int .u8 2]) 95 [.int .u8 5]) 34 [.int .u8 7] = tbl := by
  simp only [setL]
  apply List.ext_getElem?
  intro j
  simp only [List.getElem?_set, List.length_set, zFj]
  by_cases hj : j < 256
  · simp only [tblN, tbl, List.getElem?_map, List.getElem?_range hj, Option.map_some, hj, if_true]
    by_cases h1 : j = 34
    · subst h1; simp
    · by_cases h2 : j = 95
      · subst h2; simp
      · by_cases h3 : j = 35
        · subst h3; simp
        · simp [h1, h2, h3, show ¬ 34 = j by omega, show ¬ 95 = j by omega, show ¬ 35 = j by omega]
  · have h1 : (tblN 256)[j]? = none := List.getElem?_eq_none (by rw [zFj]; omega)
    have h2 : tbl[j]? = none := List.getElem?_eq_none (by simp [tbl]; omega)
    rw [h1, h2]
    simp [show ¬ 34 = j by omega, show ¬ 95 = j by omega, show ¬ 35 = j by omega]
theorem u8n (n : Nat) (h : n < 256) : ((UInt8.ofNat n).toNat : Int) = n := by simp [UInt8.toNat_ofNat']; omega
theorem cls0_eq (i : Nat) : cls0 i = if (97 ≤ i ∧ i ≤ 122) ∨ (65 ≤ i ∧ i ≤ 90) then 3 else if 48 ≤ i ∧ i ≤ 57 then 4 else if Lib.indexByte [32, 9, 10] (UInt8.ofNat i) ≥ 0 then 1
        else if Lib.indexByte [59, 44, 46, 58, 40, 41, 123, 125, 91, 93, 61, 60, 62, 47, 43, 45, 42] (UInt8.ofNat i) ≥ 0 then 6 else 0 := rfl
theorem tbl_get {c : Nat} (h : c < 256) : tbl.getD c .u0 = .int .u8 (if c = 35 then 2 else if c = 95 then 5 else if c = 34 then 7 else cls0 c) := by simp [tbl, List.getD, h]
theorem tbl_len : tbl.length = 256 := by simp [tbl]
theorem setL_app : ∀ (ds : List D) (cs : List D) (off : Nat), off + ds.length ≤ cs.length → setL cs off ds = cs.take off ++ ds ++ cs.drop (off + ds.length)
  | [], cs, off, h => by simp [setL]
  | d :: ds, cs, off, h => by
    simp only [List.length_cons] at h
    rw [setL, setL_app ds (cs.set off d) (off + 1) (by simp; omega)]
    have e1 : (cs.set off d).take (off + 1) = cs.take off ++ [d] := by
      rw [List.take_set, List.take_succ_eq_append_getElem (by omega), List.set_append_right _ _ (by simp; omega)]
      simp [Nat.min_eq_left (show off ≤ cs.length by omega)]
    have e2 : (cs.set off d).drop (off + 1 + ds.length) = cs.drop (off + (ds.length + 1)) := by
      rw [List.drop_set_of_lt (by omega)]; congr 1; omega
    rw [e1, e2]; simp
theorem setL_full {cs ds : List D} (h : ds.length = cs.length) : setL cs 0 ds = ds := by
  rw [setL_app ds cs 0 (by omega)]; simp [h]
theorem tbl_cl : D.cL tbl = true ∧ D.erL tbl = tbl := by
  unfold tbl
  have : ∀ (f : Nat → Int) (l : List Nat), D.cL (l.map fun c => D.int .u8 (f c)) = true ∧ D.erL (l.map fun c => D.int .u8 (f c)) = l.map fun c => D.int .u8 (f c) := by
    intro f l
    induction l with
    | nil => exact ⟨rfl, rfl⟩
    | cons x l ih => simp only [List.map_cons, D.cL, D.erL, D.closed, D.er, ih.1, ih.2]; exact ⟨rfl, trivial⟩
  exact this _ _
attribute [irreducible] tblN tbl cls0
set_option maxHeartbeats 1000000 in
theorem classes_p : Pur M 47 [] (.agg tbl) := by
  refine k47.ok (C := C47) rfl rfl ?_
  rw [i47]
  unfold c47
  have hz := zl_len
  have ht := tbl_eq
  simp only [setL] at ht
  repeat' (first | with_reducible (apply swq; constructor) | simp only [go_sem, seval, P47, q47] | (with_reducible first | (apply cA; constructor) | (apply gA; constructor)) | ((with_reducible refine And.intro ?hw ?_); (case hw => first | omega | rfl | exact ⟨_, _, rfl⟩ | assumption | (simp only [lN] <;> omega))) | with_reducible intro _)
  refine zCz [0, 1, 4] (fun i : Nat => ⟨[.ptr 0 0, .ptr 1 0, .u0, .u0, .int .i64 i, .u0, .u0, .u0, .u0, .u0], [], ⟨[.cells zl256, .cells (tblN i)], []⟩⟩) (fun i => i ≤ 256) (fun i => 256 - i) 0 (by omega) ?_ ?_
  · simp [keepE, St.keep, tblN_zero]
  · intro i g1
    have hl := zFj i
    by_cases hi : i < 256
    · have hn := u8n i hi
      have x1 := index_p [32, 9, 10] (UInt8.ofNat i)
      have x2 := index_p [59, 44, 46, 58, 40, 41, 123, 125, 91, 93, 61, 60, 62, 47, 43, 45, 42] (UInt8.ofNat i)
      rw [hn] at x1 x2
      have hset := fun v => tblN_set (v := v) hi
      have hskip := tblN_skip hi
      have hc := cls0_eq i
      generalize Lib.indexByte [32, 9, 10] (UInt8.ofNat i) = y1 at *
      generalize Lib.indexByte [59, 44, 46, 58, 40, 41, 123, 125, 91, 93, 61, 60, 62, 47, 43, 45, 42] (UInt8.ofNat i) = y2 at *
      generalize cls0 i = ci at *
      have hcase : (i < 48) ∨ (48 ≤ i ∧ i < 58) ∨ (58 ≤ i ∧ i < 65) ∨ (65 ≤ i ∧ i < 91) ∨ (91 ≤ i ∧ i < 97) ∨ (97 ≤ i ∧ i < 123) ∨ (123 ≤ i) := by omega
      rcases hcase with hq | hq | hq | hq | hq | hq | hq
      · have t0 : decide (97 ≤ (i : Int)) = false := by simp; omega
        have t1 : decide ((i : Int) ≤ 122) = true := by simp; omega
        have t2 : decide (65 ≤ (i : Int)) = false := by simp; omega
        have t3 : decide ((i : Int) ≤ 90) = true := by simp; omega
        have t4 : decide (48 ≤ (i : Int)) = false := by simp; omega
        have t5 : decide ((i : Int) ≤ 57) = true := by simp; omega
        repeat' (first | with_reducible (apply swq; constructor) | simp only [go_sem, seval, P47, q47, hl, t0, t1, t2, t3, t4, t5] | simp (disch := omega) only [w64, w32, wu8, wu16, wu32, wu64] | ((with_reducible refine zAb (x1) ?he ?hc ?_); (case he | hc => first | rfl | (simp [D.erL, D.er, D.cL, D.closed]; done))) | ((with_reducible refine zAb (x2) ?he ?hc ?_); (case he | hc => first | rfl | (simp [D.erL, D.er, D.cL, D.closed]; done))) | (with_reducible first | (apply cA; constructor) | (apply gA; constructor)) | ((with_reducible refine And.intro ?hw ?_); (case hw => first | omega | rfl | exact ⟨_, _, rfl⟩ | assumption | (simp only [lN] <;> omega))) | with_reducible intro _)
        all_goals try omega
        all_goals refine ⟨i + 1, by omega, by omega, ?_⟩
        all_goals simp [St.keep, keepE]
        all_goals first
          | exact hset _ (by rw [hc]; repeat' split <;> first | rfl | omega)
          | exact hskip (by rw [hc]; repeat' split <;> first | rfl | omega)
      · have t0 : decide (97 ≤ (i : Int)) = false := by simp; omega
        have t1 : decide ((i : Int) ≤ 122) = true := by simp; omega
        have t2 : decide (65 ≤ (i : Int)) = false := by simp; omega
        have t3 : decide ((i : Int) ≤ 90) = true := by simp; omega
        have t4 : decide (48 ≤ (i : Int)) = true := by simp; omega
        have t5 : decide ((i : Int) ≤ 57) = true := by simp; omega
        repeat' (first | with_reducible (apply swq; constructor) | simp only [go_sem, seval, P47, q47, hl, t0, t1, t2, t3, t4, t5] | simp (disch := omega) only [w64, w32, wu8, wu16, wu32, wu64] | ((with_reducible refine zAb (x1) ?he ?hc ?_); (case he | hc => first | rfl | (simp [D.erL, D.er, D.cL, D.closed]; done))) | ((with_reducible refine zAb (x2) ?he ?hc ?_); (case he | hc => first | rfl | (simp [D.erL, D.er, D.cL, D.closed]; done))) | (with_reducible first | (apply cA; constructor) | (apply gA; constructor)) | ((with_reducible refine And.intro ?hw ?_); (case hw => first | omega | rfl | exact ⟨_, _, rfl⟩ | assumption | (simp only [lN] <;> omega))) | with_reducible intro _)
        all_goals try omega
        all_goals refine ⟨i + 1, by omega, by omega, ?_⟩
        all_goals simp [St.keep, keepE]
        all_goals first
          | exact hset _ (by rw [hc]; repeat' split <;> first | rfl | omega)
          | exact hskip (by rw [hc]; repeat' split <;> first | rfl | omega)
      · have t0 : decide (97 ≤ (i : Int)) = false := by simp; omega
        have t1 : decide ((i : Int) ≤ 122) = true := by simp; omega
        have t2 : decide (65 ≤ (i : Int)) = false := by simp; omega
        have t3 : decide ((i : Int) ≤ 90) = true := by simp; omega
        have t4 : decide (48 ≤ (i : Int)) = true := by simp; omega
        have t5 : decide ((i : Int) ≤ 57) = false := by simp; omega
        repeat' (first | with_reducible (apply swq; constructor) | simp only [go_sem, seval, P47, q47, hl, t0, t1, t2, t3, t4, t5] | simp (disch := omega) only [w64, w32, wu8, wu16, wu32, wu64] | ((with_reducible refine zAb (x1) ?he ?hc ?_); (case he | hc => first | rfl | (simp [D.erL, D.er, D.cL, D.closed]; done))) | ((with_reducible refine zAb (x2) ?he ?hc ?_); (case he | hc => first | rfl | (simp [D.erL, D.er, D.cL, D.closed]; done))) | (with_reducible first | (apply cA; constructor) | (apply gA; constructor)) | ((with_reducible refine And.intro ?hw ?_); (case hw => first | omega | rfl | exact ⟨_, _, rfl⟩ | assumption | (simp only [lN] <;> omega))) | with_reducible intro _)
        all_goals try omega
        all_goals refine ⟨i + 1, by omega, by omega, ?_⟩
        all_goals simp [St.keep, keepE]
        all_goals first
          | exact hset _ (by rw [hc]; repeat' split <;> first | rfl | omega)
          | exact hskip (by rw [hc]; repeat' split <;> first | rfl | omega)
      · have t0 : decide (97 ≤ (i : Int)) = false := by simp; omega
        have t1 : decide ((i : Int) ≤ 122) = true := by simp; omega
        have t2 : decide (65 ≤ (i : Int)) = true := by simp; omega
        have t3 : decide ((i : Int) ≤ 90) = true := by simp; omega
        have t4 : decide (48 ≤ (i : Int)) = true := by simp; omega
        have t5 : decide ((i : Int) ≤ 57) = false := by simp; omega
        repeat' (first | with_reducible (apply swq; constructor) | simp only [go_sem, seval, P47, q47, hl, t0, t1, t2, t3, t4, t5] | simp (disch := omega) only [w64, w32, wu8, wu16, wu32, wu64] | ((with_reducible refine zAb (x1) ?he ?hc ?_); (case he | hc => first | rfl | (simp [D.erL, D.er, D.cL, D.closed]; done))) | ((with_reducible refine zAb (x2) ?he ?hc ?_); (case he | hc => first | rfl | (simp [D.erL, D.er, D.cL, D.closed]; done))) | (with_reducible first | (apply cA; constructor) | (apply gA; constructor)) | ((with_reducible refine And.intro ?hw ?_); (case hw => first | omega | rfl | exact ⟨_, _, rfl⟩ | assumption | (simp only [lN] <;> omega))) | with_reducible intro _)
        all_goals try omega
        all_goals refine ⟨i + 1, by omega, by omega, ?_⟩
        all_goals simp [St.keep, keepE]
        all_goals first
          | exact hset _ (by rw [hc]; repeat' split <;> first | rfl | omega)
          | exact hskip (by rw [hc]; repeat' split <;> first | rfl | omega)
      · have t0 : decide (97 ≤ (i : Int)) = false := by simp; omega
        have t1 : decide ((i : Int) ≤ 122) = true := by simp; omega
        have t2 : decide (65 ≤ (i : Int)) = true := by simp; omega
        have t3 : decide ((i : Int) ≤ 90) = false := by simp; omega
        have t4 : decide (48 ≤ (i : Int)) = true := by simp; omega
        have t5 : decide ((i : Int) ≤ 57) = false := by simp; omega
        repeat' (first | with_reducible (apply swq; constructor) | simp only [go_sem, seval, P47, q47, hl, t0, t1, t2, t3, t4, t5] | simp (disch := omega) only [w64, w32, wu8, wu16, wu32, wu64] | ((with_reducible refine zAb (x1) ?he ?hc ?_); (case he | hc => first | rfl | (simp [D.erL, D.er, D.cL, D.closed]; done))) | ((with_reducible refine zAb (x2) ?he ?hc ?_); (case he | hc => first | rfl | (simp [D.erL, D.er, D.cL, D.closed]; done))) | (with_reducible first | (apply cA; constructor) | (apply gA; constructor)) | ((with_reducible refine And.intro ?hw ?_); (case hw => first | omega | rfl | exact ⟨_, _, rfl⟩ | assumption | (simp only [lN] <;> omega))) | with_reducible intro _)
        all_goals try omega
        all_goals refine ⟨i + 1, by omega, by omega, ?_⟩
        all_goals simp [St.keep, keepE]
        all_goals first
          | exact hset _ (by rw [hc]; repeat' split <;> first | rfl | omega)
          | exact hskip (by rw [hc]; repeat' split <;> first | rfl | omega)
      · have t0 : decide (97 ≤ (i : Int)) = true := by simp; omega
        have t1 : decide ((i : Int) ≤ 122) = true := by simp; omega
        have t2 : decide (65 ≤ (i : Int)) = true := by simp; omega
        have t3 : decide ((i : Int) ≤ 90) = false := by simp; omega
        have t4 : decide (48 ≤ (i : Int)) = true := by simp; omega
        have t5 : decide ((i : Int) ≤ 57) = false := by simp; omega
        repeat' (first | with_reducible (apply swq; constructor) | simp only [go_sem, seval, P47, q47, hl, t0, t1, t2, t3, t4, t5] | simp (disch := omega) only [w64, w32, wu8, wu16, wu32, wu64] | ((with_reducible refine zAb (x1) ?he ?hc ?_); (case he | hc => first | rfl | (simp [D.erL, D.er, D.cL, D.closed]; done))) | ((with_reducible refine zAb (x2) ?he ?hc ?_); (case he | hc => first | rfl | (simp [D.erL, D.er, D.cL, D.closed]; done))) | (with_reducible first | (apply cA; constructor) | (apply gA; constructor)) | ((with_reducible refine And.intro ?hw ?_); (case hw => first | omega | rfl | exact ⟨_, _, rfl⟩ | assumption | (simp only [lN] <;> omega))) | with_reducible intro _)
        all_goals try omega
        all_goals refine ⟨i + 1, by omega, by omega, ?_⟩
        all_goals simp [St.keep, keepE]
        all_goals first
          | exact hset _ (by rw [hc]; repeat' split <;> first | rfl | omega)
          | exact hskip (by rw [hc]; repeat' split <;> first | rfl | omega)
      · have t0 : decide (97 ≤ (i : Int)) = true := by simp; omega
        have t1 : decide ((i : Int) ≤ 122) = false := by simp; omega
        have t2 : decide (65 ≤ (i : Int)) = true := by simp; omega
        have t3 : decide ((i : Int) ≤ 90) = false := by simp; omega
        have t4 : decide (48 ≤ (i : Int)) = true := by simp; omega
        have t5 : decide ((i : Int) ≤ 57) = false := by simp; omega
        repeat' (first | with_reducible (apply swq; constructor) | simp only [go_sem, seval, P47, q47, hl, t0, t1, t2, t3, t4, t5] | simp (disch := omega) only [w64, w32, wu8, wu16, wu32, wu64] | ((with_reducible refine zAb (x1) ?he ?hc ?_); (case he | hc => first | rfl | (simp [D.erL, D.er, D.cL, D.closed]; done))) | ((with_reducible refine zAb (x2) ?he ?hc ?_); (case he | hc => first | rfl | (simp [D.erL, D.er, D.cL, D.closed]; done))) | (with_reducible first | (apply cA; constructor) | (apply gA; constructor)) | ((with_reducible refine And.intro ?hw ?_); (case hw => first | omega | rfl | exact ⟨_, _, rfl⟩ | assumption | (simp only [lN] <;> omega))) | with_reducible intro _)
        all_goals try omega
        all_goals refine ⟨i + 1, by omega, by omega, ?_⟩
        all_goals simp [St.keep, keepE]
        all_goals first
          | exact hset _ (by rw [hc]; repeat' split <;> first | rfl | omega)
          | exact hskip (by rw [hc]; repeat' split <;> first | rfl | omega)
    · obtain rfl : i = 256 := by omega
      generalize tblN 256 = T1 at *
      have hk := tbl_len
      have htk : tbl.take 256 = tbl := List.take_of_length_le (by omega)
      have hsf : setL zl256 0 tbl = tbl := setL_full (by omega)
      have hmin : min 256 tbl.length = 256 := by omega
      have hcl := tbl_cl
      repeat' (first | with_reducible (apply swq; constructor) | simp only [go_sem, seval, P47, q47, hl, List.length_set, hz, ht, htk, hsf, hmin, hk] | simp (disch := omega) only [w64, w32, wu8, wu16, wu32, wu64] | (with_reducible first | (apply cA; constructor) | (apply gA; constructor)) | ((with_reducible refine And.intro ?hw ?_); (case hw => first | omega | rfl | exact ⟨_, _, rfl⟩ | assumption | (simp only [lN, hl, List.length_set, hcl] <;> omega))) | with_reducible intro _)
      all_goals first | omega | skip
      all_goals simp [D.closed, D.er, D.cL, D.erL, hl, hcl.1, hcl.2]
end Go.Proofs.YtkjnhkoipgdfeaaDoor
end
section
set_option maxRecDepth 100000
set_option linter.unusedSimpArgs false
set_option linter.unusedVariables false
namespace Go.Proofs.YtkjnhkoipgdfeaaDoor
open Go GoV Go.RowKit
def cls (c : UInt8) : Int := if isLet c then 3 else if isDig c then 4 else if zDd c then 1 else if c = 35 then 2 else if c = 34 then 7 else if c = 95 then 5 else if isSym c then 6 else 0
def clsB (c : UInt8) : Int := if c.toNat = 35 then 2 else if c.toNat = 95 then 5 else if c.toNat = 34 then 7 else cls0 c.toNat
theorem clsB_get (c : UInt8) : tbl.getD c.toNat .u0 = .int .u8 (clsB c) := tbl_get (UInt8.toNat_lt c)
theorem clsB_eq (c : UInt8) : clsB c = cls c := by
  have key : ∀ n : Fin 256, (if (UInt8.ofNat n.val).toNat = 35 then 2 else if (UInt8.ofNat n.val).toNat = 95 then 5 else if (UInt8.ofNat n.val).toNat = 34 then 7 else
      (if (97 ≤ (UInt8.ofNat n.val).toNat ∧ (UInt8.ofNat n.val).toNat ≤ 122) ∨ (65 ≤ (UInt8.ofNat n.val).toNat ∧ (UInt8.ofNat n.val).toNat ≤ 90) then 3 else if 48 ≤ (UInt8.ofNat n.val).toNat ∧ (UInt8.ofNat n.val).toNat ≤ 57 then 4 else if Lib.indexByte [32, 9, 10] (UInt8.ofNat (UInt8.ofNat n.val).toNat) ≥ 0 then 1
        else if Lib.indexByte [59, 44, 46, 58, 40, 41, 123, 125, 91, 93, 61, 60, 62, 47, 43, 45, 42] (UInt8.ofNat (UInt8.ofNat n.val).toNat) ≥ 0 then 6 else 0 : Int)) = cls (UInt8.ofNat n.val) := by decide +kernel
  have h := key ⟨c.toNat, UInt8.toNat_lt c⟩
  have e : UInt8.ofNat c.toNat = c := by simp
  simp only [e] at h
  unfold clsB
  rw [cls0_eq, e]
  exact h
def clsAt (t : Tx) (i : Nat) : Int := if i < t.length then cls (t.getD i 0) else 0
theorem o_ixaI {P : Mod} {r : List RO} {K : St → Prop} {s : St} {dst : Dst} {len n : Nat} {k : IntKind} {a : Int} {cs : List D} : OpS P (.ixaA len n) [.ip cs, .int k a] dst r K s = (0 ≤ a ∧ a < len ∧ opsWp P r K (s.put dst (.ip (cs.drop (a.toNat * n))))) := by simp [OpS, OcWp, zAd, isPan, opWp]
theorem drop_getD {L : List D} {n : Nat} {v : D} (h : n < L.length) (hv : L.getD n .u0 = v) : L.drop n = v :: L.drop (n + 1) := by
  rw [List.drop_eq_getElem_cons h]
  congr 1
  rw [← hv]; simp [List.getD, h]
theorem at_p (t : Tx) (i : Nat) (ht : t.length ≤ 1000000) (hi : i ≤ 1000000) : Pur M 48 [.int .i64 i, .ip [.str t], .ip tbl] (.int .u8 (clsAt t i)) := by
  refine k48.ok (C := C48) rfl rfl ?_
  rw [i48]
  unfold c48
  have hk := tbl_len
  have hcl := tbl_cl
  unfold clsAt
  by_cases h : i < t.length
  · rw [if_pos h]
    have hg := clsB_get (t.getD i 0)
    rw [clsB_eq] at hg
    have hlt : (t.getD i 0).toNat < 256 := UInt8.toNat_lt _
    have hg2 : tbl.drop (t.getD i 0).toNat = .int .u8 (cls (t.getD i 0)) :: tbl.drop ((t.getD i 0).toNat + 1) := by
      exact drop_getD (by omega) hg
    generalize cls (t.getD i 0) = cl at *
    have hd : decide ((i : Int) ≥ t.length) = false := by simp; omega
    repeat' (first | with_reducible (apply swq; constructor) | simp only [go_sem, seval, P48, q48, Nat.mul_one, hk, hg, hd, o_ixaI, hg2] | simp (disch := omega) only [w64, w32, wu8, wu16, wu32, wu64] | with_reducible (apply cA; constructor) | ((with_reducible refine And.intro ?hw ?_); (case hw => first | omega | rfl | exact ⟨_, _, rfl⟩ | assumption | (simp only [lN, hk, hlt, hg2] <;> omega))) | with_reducible intro _)
    all_goals try omega
    all_goals trace_state
    all_goals simp [D.closed, D.er]
  · rw [if_neg h]
    have hd : decide ((i : Int) ≥ t.length) = true := by simp; omega
    repeat' (first | with_reducible (apply swq; constructor) | simp only [go_sem, seval, P48, q48, hd] | simp (disch := omega) only [w64, w32, wu8, wu16, wu32, wu64] | with_reducible (apply cA; constructor) | ((with_reducible refine And.intro ?hw ?_); (case hw => first | omega | rfl | exact ⟨_, _, rfl⟩ | assumption | (simp only [lN, hk] <;> omega))) | with_reducible intro _)
    all_goals try omega
    all_goals simp [D.closed, D.er]
abbrev atD (t : Tx) : D := .fn (.func 48) [] [.ip [.str t], .ip tbl]
abbrev toksD (t : Tx) : D := .fn (.func 49) [] [.ip [.str t], .ip [atD t]]
theorem tbl_fz (b : Nat) (cs : List D) : tbl.map (D.fz b cs) = tbl := by
  unfold tbl
  rw [List.map_map]
  rfl
set_option maxHeartbeats 1000000 in
theorem tokens_p (t : Tx) : Pur M 39 [.str t] (toksD t) := by
  refine k39.ow (C := C39) rfl rfl ?_
  rw [i39]
  unfold c39
  have c1 := classes_p
  have hk := tbl_len
  have htk : tbl.take 256 = tbl := List.take_of_length_le (by omega)
  have hz := zl_len
  have hsf : setL zl256 0 tbl = tbl := setL_full (by omega)
  have hmin : min 256 tbl.length = 256 := by omega
  obtain ⟨hcl, her⟩ := tbl_cl
  have hfz := tbl_fz
  repeat' (first | with_reducible (apply swq; constructor) | simp only [go_sem, seval, P39, q39, hz, hk, htk, hsf, hmin] | simp (disch := omega) only [w64, w32, wu8, wu16, wu32, wu64] | ((with_reducible refine zAb (c1) ?he ?hc ?_); (case he | hc => first | rfl | (simp [D.erL, D.er, D.cL, D.closed, hk, hz, htk, hsf, hmin, hcl, her]; done))) | with_reducible (apply cA; constructor) | ((with_reducible refine And.intro ?hw ?_); (case hw => first | omega | rfl | exact ⟨_, _, rfl⟩ | assumption | (simp only [lN, hk, hz, htk, hsf, hmin, hcl, her] <;> omega))) | with_reducible intro _)
  all_goals try omega
  refine ⟨_, zEg (zFe [2]) (zEg (weak_frz 0 [.str t] (by simp [keepE]) (Nat.zero_le _) (by simp [D.cL, D.closed])) (zEg (weak_frz 1 tbl (by simp [St.frz, Blk.mapD, keepE, hfz]) (Nat.zero_le _) hcl) (weak_frz 2 [.fn (.func 48) [] [.ip [.str t], .ip tbl]] (by simp [St.frz, Blk.mapD, keepE, D.fz, D.fzL, hfz, D.erL, D.er, her]) (Nat.zero_le _) (by simp [D.cL, D.closed, hcl])))), ?_⟩
  simp [St.frz, keepE, D.fz, D.fzL, D.closed, D.er, D.cL, D.erL, hcl, her, hfz]
end Go.Proofs.YtkjnhkoipgdfeaaDoor
end
section
set_option maxRecDepth 100000
set_option linter.unusedSimpArgs false
set_option linter.unusedVariables false
namespace Go.Proofs.YtkjnhkoipgdfeaaDoor
open Go GoV Go.RowKit
theorem zEy {p : UInt8 → Bool} (h : ∀ n : Fin 256, p (UInt8.ofNat n.val) = true) (c : UInt8) : p c = true := by
  have := h ⟨c.toNat, UInt8.toNat_lt c⟩
  simpa using this
theorem isWord_cls (c : UInt8) : zBu c = (decide (cls c = 3) || decide (cls c = 4) || decide (cls c = 5)) := by
  have := zEy (p := fun c => zBu c == (decide (cls c = 3) || decide (cls c = 4) || decide (cls c = 5))) (by decide +kernel) c
  exact eq_of_beq this
theorem isDig_cls (c : UInt8) : isDig c = decide (cls c = 4) := by
  have := zEy (p := fun c => isDig c == decide (cls c = 4)) (by decide +kernel) c
  exact eq_of_beq this
theorem hash_cls (c : UInt8) : cls c = 2 → c = 35 := by
  have := zEy (p := fun c => !(decide (cls c = 2)) || c == 35) (by decide +kernel) c
  intro h
  simp only [h, decide_true, Bool.not_true, Bool.false_or] at this
  exact eq_of_beq this
theorem tw_get {p : UInt8 → Bool} : ∀ {s : Tx} {j : Nat}, j < spn p s → j < s.length ∧ p (s.getD j 0) = true
  | [], j, h => by simp [spn] at h
  | c :: s, j, h => by
    cases hc : p c
    · simp [spn, List.takeWhile, hc] at h
    · cases j with
      | zero => exact ⟨by simp, by simpa using hc⟩
      | succ j =>
        have h' : j < spn p s := by simpa [spn, List.takeWhile, hc] using h
        have := tw_get h'
        exact ⟨by simp; omega, by simpa using this.2⟩
theorem tw_len {p : UInt8 → Bool} : ∀ (s : Tx), spn p s ≤ s.length
  | [] => by simp [spn]
  | c :: s => by
    cases hc : p c
    · simp [spn, List.takeWhile, hc]
    · have := tw_len (p := p) s
      simp only [spn] at this
      simp [spn, List.takeWhile, hc]; omega
theorem tw_stop {p : UInt8 → Bool} : ∀ {s : Tx}, spn p s < s.length → p (s.getD (spn p s) 0) = false
  | [], h => by simp [spn] at h
  | c :: s, h => by
    cases hc : p c
    · simp [spn, List.takeWhile, hc]
    · have e : spn p (c :: s) = spn p s + 1 := by simp [spn, List.takeWhile, hc]
      rw [e] at h ⊢
      have := tw_stop (p := p) (s := s) (by simp at h; omega)
      simpa using this
theorem getD_drop (t : Tx) (i j : Nat) : (t.drop i).getD j 0 = t.getD (i + j) 0 := by simp [List.getD]
theorem spn_get {p : UInt8 → Bool} {t : Tx} {i j : Nat} (h : j < spn p (t.drop i)) : i + j < t.length ∧ p (t.getD (i + j) 0) = true := by
  have := tw_get h
  rw [getD_drop] at this
  simp only [List.length_drop] at this
  exact ⟨by omega, this.2⟩
theorem spn_len {p : UInt8 → Bool} {t : Tx} {i : Nat} (hi : i ≤ t.length) : i + spn p (t.drop i) ≤ t.length := by
  have := tw_len (p := p) (t.drop i)
  simp only [List.length_drop] at this; omega
theorem spn_stop {p : UInt8 → Bool} {t : Tx} {i : Nat} (h : i + spn p (t.drop i) < t.length) : p (t.getD (i + spn p (t.drop i)) 0) = false := by
  have := tw_stop (p := p) (s := t.drop i) (by simp only [List.length_drop]; omega)
  rwa [getD_drop] at this
theorem zBp {t : Tx} {i : Nat} (h : i < t.length) : t.drop i = t.getD i 0 :: t.drop (i + 1) := by
  rw [List.drop_eq_getElem_cons h]; simp [List.getD, h]
theorem spn_pos {p : UInt8 → Bool} {t : Tx} {i : Nat} (h : i < t.length) (hp : p (t.getD i 0) = true) : 0 < spn p (t.drop i) := by
  rw [zBp h]
  simp only [spn, List.takeWhile_cons, hp, if_true, List.length_cons]; omega
theorem cls_let {c : UInt8} : cls c = 3 → isLet c = true := fun h => by
  have := zEy (p := fun c => !(decide (cls c = 3)) || isLet c) (by decide +kernel) c
  simpa [h] using this
theorem step_let {t : Tx} {i : Nat} (hi : i < t.length) (h : cls (t.getD i 0) = 3) : step (t.drop i) i = (spn zBu (t.drop i), some ⟨⟨1, (t.drop i).take (spn zBu (t.drop i)), i⟩, if 24 < spn zBu (t.drop i) then 7 else 0⟩) := by
  have h1 := cls_let h
  rw [zBp hi]
  simp only [step, h1, if_true]
theorem cls_dig {c : UInt8} : cls c = 4 → isLet c = false ∧ isDig c = true := fun h => by
  have := zEy (p := fun c => !(decide (cls c = 4)) || (!isLet c && isDig c)) (by decide +kernel) c
  simpa [h] using this
theorem step_dig {t : Tx} {i : Nat} (hi : i < t.length) (h : cls (t.getD i 0) = 4) : step (t.drop i) i = (spn isDig (t.drop i), some ⟨⟨2, (t.drop i).take (spn isDig (t.drop i)), i⟩, if 7 < spn isDig (t.drop i) ∨ ((t.drop i).drop (spn isDig (t.drop i))).head?.any zBu = true then 11 else 0⟩) := by
  have h1 := cls_dig h
  rw [zBp hi]
  simp only [step, h1.1, h1.2, if_true, Bool.false_eq_true, if_false]
theorem cls_blank {c : UInt8} : cls c = 1 → isLet c = false ∧ isDig c = false ∧ zDd c = true := fun h => by
  have := zEy (p := fun c => !(decide (cls c = 1)) || (!isLet c && (!isDig c && zDd c))) (by decide +kernel) c
  simpa [h] using this
theorem step_blank {t : Tx} {i : Nat} (hi : i < t.length) (h : cls (t.getD i 0) = 1) : step (t.drop i) i = (1, none) := by
  have h1 := cls_blank h
  rw [zBp hi]
  simp only [step, h1.1, h1.2.1, h1.2.2, if_true, Bool.false_eq_true, if_false]
theorem step_hash {t : Tx} {i : Nat} (hi : i < t.length) (h : cls (t.getD i 0) = 2) : step (t.drop i) i = (spn (fun d => !(d == 10)) (t.drop i), none) := by
  have h1 := hash_cls _ h
  rw [zBp hi, h1]
  simp [step, isLet, isDig, zDd]
theorem cls_quote {c : UInt8} : cls c = 7 → c = 34 := fun h => by
  have := zEy (p := fun c => !(decide (cls c = 7)) || c == 34) (by decide +kernel) c
  simp only [h, decide_true, Bool.not_true, Bool.false_or] at this
  exact eq_of_beq this
theorem step_quote {t : Tx} {i : Nat} (hi : i < t.length) (h : cls (t.getD i 0) = 7) : step (t.drop i) i = match unq (t.drop (i + 1)) [] 1 with
      | some (u, n) => (n, some ⟨⟨3, u, i⟩, 0⟩)
      | none => (0, some (noErr i)) := by
  have h1 := cls_quote h
  rw [zBp hi, h1]
  simp [step, isLet, isDig, zDd]
  rfl
theorem cls_sym {c : UInt8} : cls c = 6 → isLet c = false ∧ isDig c = false ∧ zDd c = false ∧ (c == 35) = false ∧ (c == 34) = false ∧ isSym c = true := fun h => by
  have := zEy (p := fun c => !(decide (cls c = 6)) || (!isLet c && (!isDig c && (!zDd c && (!(c == 35) && (!(c == 34) && isSym c)))))) (by decide +kernel) c
  simpa [h] using this
theorem step_sym {t : Tx} {i : Nat} (hi : i < t.length) (h : cls (t.getD i 0) = 6) : step (t.drop i) i = (1, some ⟨⟨4, (t.drop i).take 1, i⟩, 0⟩) := by
  obtain ⟨h1, h2, h3, h4, h5, h6⟩ := cls_sym h
  rw [beq_eq_false_iff_ne] at h4 h5
  rw [zBp hi]
  simp only [step, h1, h2, h3, h6, if_true, Bool.false_eq_true, if_false, if_neg h4, if_neg h5, List.take_succ_cons, List.take_zero]
theorem cls_other {c : UInt8} : (cls c = 0 ∨ cls c = 5) → isLet c = false ∧ isDig c = false ∧ zDd c = false ∧ (c == 35) = false ∧ (c == 34) = false ∧ isSym c = false := fun h => by
  have := zEy (p := fun c => !(decide (cls c = 0) || decide (cls c = 5)) || (!isLet c && (!isDig c && (!zDd c && (!(c == 35) && (!(c == 34) && !isSym c)))))) (by decide +kernel) c
  rcases h with h | h <;> simpa [h] using this
theorem zEi {t : Tx} {i : Nat} (hi : i < t.length) (h : cls (t.getD i 0) = 0 ∨ cls (t.getD i 0) = 5) : step (t.drop i) i = (0, some (noErr i)) := by
  obtain ⟨h1, h2, h3, h4, h5, h6⟩ := cls_other h
  rw [beq_eq_false_iff_ne] at h4 h5
  rw [zBp hi]
  simp only [step, h1, h2, h3, h6, if_true, Bool.false_eq_true, if_false, if_neg h4, if_neg h5]
theorem cls_all (c : UInt8) : cls c = 0 ∨ cls c = 1 ∨ cls c = 2 ∨ cls c = 3 ∨ cls c = 4 ∨ cls c = 5 ∨ cls c = 6 ∨ cls c = 7 := by
  unfold cls
  repeat' split
  all_goals simp
theorem unq_len : ∀ (r a : Tx) (k : Nat) {u : Tx} {n : Nat}, unq r a k = some (u, n) → k < n ∧ n ≤ k + r.length
  | [], _, _, _, _, h => by simp [unq] at h
  | c :: r, a, k, u, n, h => by
    rw [unq.eq_def] at h
    simp only at h
    split at h
    · cases h; simp
    split at h
    · cases h
    split at h
    · cases r with
      | nil => simp at h
      | cons d r =>
        simp only at h
        split at h
        · have := unq_len r _ _ h; simp; omega
        split at h
        · have := unq_len r _ _ h; simp; omega
        split at h
        · have := unq_len r _ _ h; simp; omega
        · cases h
    · have := unq_len r _ _ h; simp; omega
theorem step_ok (t : Tx) {i : Nat} (hi : i < t.length) : i + (step (t.drop i) i).1 ≤ t.length ∧ (((step (t.drop i) i).2 = none ∨ ∃ f, (step (t.drop i) i).2 = some f ∧ f.err = 0) → 0 < (step (t.drop i) i).1) := by
  rcases cls_all (t.getD i 0) with h | h | h | h | h | h | h | h
  · rw [zEi hi (.inl h)]; exact ⟨by simp only; omega, by simp⟩
  · rw [step_blank hi h]; exact ⟨by simp only; omega, by simp⟩
  · rw [step_hash hi h]
    have := hash_cls _ h
    exact ⟨spn_len (by omega), fun _ => spn_pos hi (by rw [this]; rfl)⟩
  · rw [step_let hi h]; exact ⟨spn_len (by omega), fun _ => spn_pos hi (by rw [isWord_cls, h]; rfl)⟩
  · rw [step_dig hi h]; exact ⟨spn_len (by omega), fun _ => spn_pos hi (by rw [isDig_cls, h]; rfl)⟩
  · rw [zEi hi (.inr h)]; exact ⟨by simp only; omega, by simp⟩
  · rw [step_sym hi h]; exact ⟨by simp only; omega, by simp⟩
  · rw [step_quote hi h]
    cases hu : unq (t.drop (i + 1)) [] 1 with
    | none => exact ⟨by simp only; omega, by simp⟩
    | some p =>
      obtain ⟨u, n⟩ := p
      have := unq_len _ _ _ hu
      simp only [List.length_drop] at this
      exact ⟨by simp only; omega, fun _ => by simp only; omega⟩
def lx (t : Tx) (i : Nat) : List Fo := lexF (t.length - i) (t.drop i) i
theorem zFr (t : Tx) : ∀ (a b i : Nat), t.length - i ≤ a → t.length - i ≤ b → lexF a (t.drop i) i = lexF b (t.drop i) i
  | 0, b, i, ha, hb => by
    have : t.drop i = [] := List.drop_eq_nil_of_le (by omega)
    rw [this]; cases b <;> simp [lexF]
  | a + 1, 0, i, ha, hb => by
    have : t.drop i = [] := List.drop_eq_nil_of_le (by omega)
    rw [this]; simp [lexF]
  | a + 1, b + 1, i, ha, hb => by
    by_cases hi : i < t.length
    · have hne : t.drop i ≠ [] := by rw [zBp hi]; simp
      have hok := step_ok t hi
      simp only [lexF, if_neg hne]
      cases hs : (step (t.drop i) i).2 with
      | none =>
        simp only []
        rw [List.drop_drop]
        have := hok.2 (.inl hs)
        exact zFr t a b _ (by omega) (by omega)
      | some f =>
        simp only []
        split
        · rename_i he
          rw [List.drop_drop]
          have := hok.2 (.inr ⟨f, hs, he⟩)
          rw [zFr t a b _ (by omega) (by omega)]
        · rfl
    · have : t.drop i = [] := List.drop_eq_nil_of_le (by omega)
      rw [this]; simp [lexF]
theorem lx_end {t : Tx} {i : Nat} (h : t.length ≤ i) : lx t i = [] := by
  unfold lx
  rw [List.drop_eq_nil_of_le h]; cases t.length - i <;> simp [lexF]
theorem lx_step {t : Tx} {i : Nat} (hi : i < t.length) : lx t i = match (step (t.drop i) i).2 with
    | none => lx t (i + (step (t.drop i) i).1)
    | some f => if f.err = 0 then f :: lx t (i + (step (t.drop i) i).1) else [f] := by
  have hne : t.drop i ≠ [] := by rw [zBp hi]; simp
  have hok := step_ok t hi
  unfold lx
  obtain ⟨a, ha⟩ : ∃ a, t.length - i = a + 1 := ⟨t.length - i - 1, by omega⟩
  rw [ha]
  simp only [lexF, if_neg hne]
  cases hs : (step (t.drop i) i).2 with
  | none =>
    simp only []
    rw [List.drop_drop]
    have := hok.2 (.inl hs)
    exact zFr t _ _ _ (by omega) (by omega)
  | some f =>
    simp only []
    split
    · rename_i he
      rw [List.drop_drop]
      have := hok.2 (.inr ⟨f, hs, he⟩)
      rw [zFr t a _ _ (by omega) (Nat.le_refl _)]
    · rfl
theorem lx_all (t : Tx) : lx t 0 = lexR t := by simp [lx, lexR]
@[reducible] def Fo.cells (f : Fo) : List D := [.int .i64 f.tok.kind, .str f.tok.text, .int .i64 f.tok.pos, .int .i64 f.err]
def rowD (f : Fo) : List D := [.agg f.cells]
def rows (t : Tx) : List (List D) := (lexR t).map rowD
def isErr (t : Tx) : Bool := match (lexR t).getLast? with
  | some f => !(f.err == 0)
  | none => false
theorem reg15 {C : Cfg} {t : Tx} {a b n : Nat} {HH : List Blk} {tk : List Tv} (hn : HH.length = n) (hab : a ≤ b) (hb : b ≤ t.length) {p : Int} {e : List D} (he1 : e[1]? = some (.ip [.str t])) (he3 : e[3]? = some (.int .i64 (b : Nat))) (he4 : e[4]? = some (.int .i64 (a : Nat))) (he5 : e[5]? = some (.ptr n 0))
    (Q : Ex → St → Prop) (hQ : Q .normal ⟨e, [], ⟨HH ++ [.cells [.int .i64 1, .str ((t.take b).drop a), .int .i64 p, .int .i64 0]], tk⟩⟩) :
    SWp C (.regD r49_15 r49_16) Q ⟨e, [], ⟨HH ++ [.cells [.int .i64 0, .str [], .int .i64 p, .int .i64 10]], tk⟩⟩ := by
  have still : ∀ i, i ≠ 6 → Still (fun E => (⟨HH ++ [.cells [if E 6 then .int .i64 1 else .int .i64 0, .str [], .int .i64 p, .int .i64 10]], tk⟩ : Hp)) i := fun i h E _ => by
    have : (6 == i) = false := by rw [beq_eq_false_iff_ne]; omega
    simp [this]
  have hg : ∀ B : Blk, (HH ++ [B])[n]? = some B := fun B => by rw [← hn]; simp
  have hs : ∀ B B' : Blk, (HH ++ [B]).set n B' = HH ++ [B'] := fun B B' => by rw [← hn]; simp
  refine zCy (fun E => ⟨HH ++ [.cells [if E 6 then .int .i64 1 else .int .i64 0, .str [], .int .i64 p, .int .i64 10]], tk⟩) (by simp) ?_
  refine y_q (ds := [.ip [.str t]]) (.str t) (by simp [go_sem, he1]) (still _ (by decide)) (fun _ => by simp [OcWp, zAd, isPan, opWp]) ?_
  refine y_q (ds := [.int .i64 (a : Nat)]) (.int .i64 (a : Nat)) (by simp [go_sem, he4]) (still _ (by decide)) (fun _ => by simp [OcWp, zAd, isPan, opWp]) ?_
  refine y_q (ds := [.int .i64 (b : Nat)]) (.int .i64 (b : Nat)) (by simp [go_sem, he3]) (still _ (by decide)) (fun _ => by simp [OcWp, zAd, isPan, opWp]) ?_
  refine y_q (ds := [.str t, .int .i64 (a : Nat), .int .i64 (b : Nat)]) (.str ((t.take b).drop a)) (by simp [go_sem]) (still _ (by decide)) (fun _ => by simp [OcWp, zAd, isPan, opWp]; omega) ?_
  refine y_q (ds := [.ptr n 0]) (.ptr n 0) (by simp [go_sem, he5]) (still _ (by decide)) (fun _ => by simp [OcWp, zAd, isPan, opWp]) ?_
  refine y_q (ds := [.ptr n 0]) (.ptr n 0) (by simp [go_sem]) (still _ (by decide)) (fun _ => by simp [OcWp, zAd, isPan, opWp]) ?_
  refine y_c (ds := [.ptr n 0, .int .i64 1]) (d := .skip) (by simp [go_sem]) (fun E hE => ?_) ?_
  · have hE' : E 6 = false := hE
    simp [OcWp, zAd, isPan, opWp, hE', hg, hs, Blk.csq, Blk.putc, D.iV, D.cells, setL]
  refine y_end (hp' := ⟨HH ++ [.cells [.int .i64 1, .str [], .int .i64 p, .int .i64 10]], tk⟩) (by simp) ?_
  simp only [go_sem, he1, he3, he4, he5, hg, hs]
  simp [go_sem, he1, he3, he4, he5, hg, hs, setL, D.iV, D.cells, St.done]
  exact hQ
theorem reg22 {C : Cfg} {t : Tx} {a b n : Nat} {HH : List Blk} {tk : List Tv} (hn : HH.length = n) (hab : a ≤ b) (hb : b ≤ t.length) {p : Int} {e : List D} (he1 : e[1]? = some (.ip [.str t])) (he3 : e[3]? = some (.int .i64 (b : Nat))) (he4 : e[4]? = some (.int .i64 (a : Nat))) (he5 : e[5]? = some (.ptr n 0))
    (Q : Ex → St → Prop) (hQ : Q .normal ⟨e, [], ⟨HH ++ [.cells [.int .i64 2, .str ((t.take b).drop a), .int .i64 p, .int .i64 0]], tk⟩⟩) :
    SWp C (.regD r49_22 r49_23) Q ⟨e, [], ⟨HH ++ [.cells [.int .i64 0, .str [], .int .i64 p, .int .i64 10]], tk⟩⟩ := by
  have still : ∀ i, i ≠ 6 → Still (fun E => (⟨HH ++ [.cells [if E 6 then .int .i64 2 else .int .i64 0, .str [], .int .i64 p, .int .i64 10]], tk⟩ : Hp)) i := fun i h E _ => by
    have : (6 == i) = false := by rw [beq_eq_false_iff_ne]; omega
    simp [this]
  have hg : ∀ B : Blk, (HH ++ [B])[n]? = some B := fun B => by rw [← hn]; simp
  have hs : ∀ B B' : Blk, (HH ++ [B]).set n B' = HH ++ [B'] := fun B B' => by rw [← hn]; simp
  refine zCy (fun E => ⟨HH ++ [.cells [if E 6 then .int .i64 2 else .int .i64 0, .str [], .int .i64 p, .int .i64 10]], tk⟩) (by simp) ?_
  refine y_q (ds := [.ip [.str t]]) (.str t) (by simp [go_sem, he1]) (still _ (by decide)) (fun _ => by simp [OcWp, zAd, isPan, opWp]) ?_
  refine y_q (ds := [.int .i64 (a : Nat)]) (.int .i64 (a : Nat)) (by simp [go_sem, he4]) (still _ (by decide)) (fun _ => by simp [OcWp, zAd, isPan, opWp]) ?_
  refine y_q (ds := [.int .i64 (b : Nat)]) (.int .i64 (b : Nat)) (by simp [go_sem, he3]) (still _ (by decide)) (fun _ => by simp [OcWp, zAd, isPan, opWp]) ?_
  refine y_q (ds := [.str t, .int .i64 (a : Nat), .int .i64 (b : Nat)]) (.str ((t.take b).drop a)) (by simp [go_sem]) (still _ (by decide)) (fun _ => by simp [OcWp, zAd, isPan, opWp]; omega) ?_
  refine y_q (ds := [.ptr n 0]) (.ptr n 0) (by simp [go_sem, he5]) (still _ (by decide)) (fun _ => by simp [OcWp, zAd, isPan, opWp]) ?_
  refine y_q (ds := [.ptr n 0]) (.ptr n 0) (by simp [go_sem]) (still _ (by decide)) (fun _ => by simp [OcWp, zAd, isPan, opWp]) ?_
  refine y_c (ds := [.ptr n 0, .int .i64 2]) (d := .skip) (by simp [go_sem]) (fun E hE => ?_) ?_
  · have hE' : E 6 = false := hE
    simp [OcWp, zAd, isPan, opWp, hE', hg, hs, Blk.csq, Blk.putc, D.iV, D.cells, setL]
  refine y_end (hp' := ⟨HH ++ [.cells [.int .i64 2, .str [], .int .i64 p, .int .i64 10]], tk⟩) (by simp) ?_
  simp only [go_sem, he1, he3, he4, he5, hg, hs]
  simp [go_sem, he1, he3, he4, he5, hg, hs, setL, D.iV, D.cells, St.done]
  exact hQ
theorem reg34 {C : Cfg} {t : Tx} {a b n : Nat} {HH : List Blk} {tk : List Tv} (hn : HH.length = n) (hab : a ≤ b) (hb : b ≤ t.length) {p : Int} {e : List D} (he1 : e[1]? = some (.ip [.str t])) (he3 : e[3]? = some (.int .i64 (b : Nat))) (he4 : e[4]? = some (.int .i64 (a : Nat))) (he5 : e[5]? = some (.ptr n 0))
    (Q : Ex → St → Prop) (hQ : Q .normal ⟨e, [], ⟨HH ++ [.cells [.int .i64 4, .str ((t.take b).drop a), .int .i64 p, .int .i64 0]], tk⟩⟩) :
    SWp C (.regD r49_34 r49_35) Q ⟨e, [], ⟨HH ++ [.cells [.int .i64 0, .str [], .int .i64 p, .int .i64 10]], tk⟩⟩ := by
  have still : ∀ i, i ≠ 6 → Still (fun E => (⟨HH ++ [.cells [if E 6 then .int .i64 4 else .int .i64 0, .str [], .int .i64 p, .int .i64 10]], tk⟩ : Hp)) i := fun i h E _ => by
    have : (6 == i) = false := by rw [beq_eq_false_iff_ne]; omega
    simp [this]
  have hg : ∀ B : Blk, (HH ++ [B])[n]? = some B := fun B => by rw [← hn]; simp
  have hs : ∀ B B' : Blk, (HH ++ [B]).set n B' = HH ++ [B'] := fun B B' => by rw [← hn]; simp
  refine zCy (fun E => ⟨HH ++ [.cells [if E 6 then .int .i64 4 else .int .i64 0, .str [], .int .i64 p, .int .i64 10]], tk⟩) (by simp) ?_
  refine y_q (ds := [.ip [.str t]]) (.str t) (by simp [go_sem, he1]) (still _ (by decide)) (fun _ => by simp [OcWp, zAd, isPan, opWp]) ?_
  refine y_q (ds := [.int .i64 (a : Nat)]) (.int .i64 (a : Nat)) (by simp [go_sem, he4]) (still _ (by decide)) (fun _ => by simp [OcWp, zAd, isPan, opWp]) ?_
  refine y_q (ds := [.int .i64 (b : Nat)]) (.int .i64 (b : Nat)) (by simp [go_sem, he3]) (still _ (by decide)) (fun _ => by simp [OcWp, zAd, isPan, opWp]) ?_
  refine y_q (ds := [.str t, .int .i64 (a : Nat), .int .i64 (b : Nat)]) (.str ((t.take b).drop a)) (by simp [go_sem]) (still _ (by decide)) (fun _ => by simp [OcWp, zAd, isPan, opWp]; omega) ?_
  refine y_q (ds := [.ptr n 0]) (.ptr n 0) (by simp [go_sem, he5]) (still _ (by decide)) (fun _ => by simp [OcWp, zAd, isPan, opWp]) ?_
  refine y_q (ds := [.ptr n 0]) (.ptr n 0) (by simp [go_sem]) (still _ (by decide)) (fun _ => by simp [OcWp, zAd, isPan, opWp]) ?_
  refine y_c (ds := [.ptr n 0, .int .i64 4]) (d := .skip) (by simp [go_sem]) (fun E hE => ?_) ?_
  · have hE' : E 6 = false := hE
    simp [OcWp, zAd, isPan, opWp, hE', hg, hs, Blk.csq, Blk.putc, D.iV, D.cells, setL]
  refine y_end (hp' := ⟨HH ++ [.cells [.int .i64 4, .str [], .int .i64 p, .int .i64 10]], tk⟩) (by simp) ?_
  simp only [go_sem, he1, he3, he4, he5, hg, hs]
  simp [go_sem, he1, he3, he4, he5, hg, hs, setL, D.iV, D.cells, St.done]
  exact hQ
end Go.Proofs.YtkjnhkoipgdfeaaDoor
end
section
set_option maxRecDepth 100000
set_option linter.unusedSimpArgs false
set_option linter.unusedVariables false
namespace Go.Proofs.YtkjnhkoipgdfeaaDoor
open Go GoV Go.RowKit
theorem zCb {xs : List Fo} {k : Nat} {f : Fo} {r : List Fo} (h : xs.drop k = f :: r) : k < xs.length ∧ xs[k]? = some f ∧ xs.drop (k + 1) = r := by
  have hk : k < xs.length := by
    rcases Nat.lt_or_ge k xs.length with q | q
    · exact q
    · rw [List.drop_eq_nil_of_le q] at h; cases h
  rw [List.drop_eq_getElem_cons hk] at h
  injection h with h1 h2
  exact ⟨hk, by rw [List.getElem?_eq_getElem hk, h1], h2⟩
theorem yes_row {t : Tx} {k : Nat} {f : Fo} {r : List Fo} (h : (lexR t).drop k = f :: r) (he : f.err = 0) : yans (rows t) (isErr t) k = true := by
  obtain ⟨h1, h2, h3⟩ := zCb h
  unfold yans
  by_cases hk : k + 1 = (lexR t).length
  · have hl : (lexR t).getLast? = some f := by rw [List.getLast?_eq_getElem?, ← hk]; simpa using h2
    simp [isErr, hl, he]
  · have : ¬ (k + 1 = (rows t).length) := by simpa [rows] using hk
    simp [this]
theorem no_row {t : Tx} {k : Nat} {f : Fo} (h : (lexR t).drop k = [f]) (he : f.err ≠ 0) : yans (rows t) (isErr t) k = false ∧ k + 1 = (rows t).length := by
  obtain ⟨h1, h2, h3⟩ := zCb h
  have hk : k + 1 = (lexR t).length := by
    have := List.drop_eq_nil_iff.1 h3; omega
  have hl : (lexR t).getLast? = some f := by rw [List.getLast?_eq_getElem?, ← hk]; simpa using h2
  refine ⟨?_, by simpa [rows] using hk⟩
  have h0 : (f.err == 0) = false := by simp [he]
  simp [yans, isErr, hl, h0, rows, ← hk]
theorem rows_get {t : Tx} {k : Nat} {f : Fo} {r : List Fo} (h : (lexR t).drop k = f :: r) : (rows t)[k]? = some (rowD f) := by
  obtain ⟨h1, h2, h3⟩ := zCb h
  simp [rows, h2]
theorem zEu {b : World → Gh → Prop} {hpk : Nat → Hp} {n m y : Nat} {t : Tx} (hst : Steady hpk n m) (hB : ∀ w0 B, (M.with b).base w0 B → B.r.length = n ∧ B.tk.length = m)
    (hY : ∀ k x, (rows t)[k]? = some x → YOkB (M.with b) y x (hpk k) (hpk (k + 1)) (yans (rows t) (isErr t) k)) {k : Nat} {f : Fo} {r : List Fo} (hf : (lexR t).drop k = f :: r) (hr : f.err ≠ 0 → r = [])
    {e1 e2 e3 e4 e6 e7 e8 e9 e10 e11 e12 e13 e14 e15 e16 e17 e18 e19 e20 e21 e22 e23 e24 : D} (Q : Ex → St → Prop)
    (hgo : f.err = 0 → Q .normal ⟨[yldD y, e1, e2, e3, e4, .ptr n 0, e6, e7, e8, e9, e10, e11, e12, e13, e14, e15, e16, e17, e18, e19, e20, e21, e22, e23, .bool false], [], ⟨(hpk (k + 1)).H ++ [.cells f.cells], (hpk (k + 1)).tk⟩⟩)
    (hno : f.err ≠ 0 → k + 1 = (rows t).length → Q .ret ⟨[yldD y, e1, e2, e3, e4, .ptr n 0, e6, e7, e8, e9, e10, e11, e12, e13, e14, e15, e16, e17, e18, e19, e20, e21, e22, e23, .bool true], [], ⟨(hpk (k + 1)).H ++ [.cells f.cells], (hpk (k + 1)).tk⟩⟩) :
    SWp ((E49 0 0).atB b (hpk 0)) (.seq (.reg r49_36) (.cond (.v 24) .ret .skip)) Q ⟨[yldD y, e1, e2, e3, e4, .ptr n 0, e6, e7, e8, e9, e10, e11, e12, e13, e14, e15, e16, e17, e18, e19, e20, e21, e22, e23, e24], [], ⟨(hpk k).H ++ [.cells f.cells], (hpk k).tk⟩⟩ := by
  have h8 := hY k _ (rows_get hf)
  have hln := hst.len
  have hlt := hst.lent
  have hg : ∀ (j : Nat) (B : Blk), ((hpk j).H ++ [B])[n]? = some B := fun j B => by rw [← hst.len j]; simp
  have hgc := hst.gc
  have hbk := hst.bk
  by_cases he : f.err = 0
  · have hy := yes_row hf he
    rw [hy] at h8
    have h0 : (f.err != 0) = false := by simp [he]
    repeat' (first | with_reducible (apply swq; constructor) | simp only [go_sem, seval, atB_M, pe49, hg, h0] | simp (disch := omega) only [w64, w32, wu8, wu16, wu32, wu64] | ((with_reducible refine o_yieldS (L := ?yL) hst (h8) hB ?hx ?hh ?_); (case hx => first | rfl | (simp [D.rnL, D.rn, rowD]; done)); (case hh => rfl)) | (with_reducible first | (apply cA; constructor) | (apply gA; constructor)) | ((with_reducible refine And.intro ?hw ?_); (case hw => first | omega | rfl | exact ⟨_, _, rfl⟩ | assumption | (simp only [lN, hg, hln, hlt, hgc, hbk] <;> omega))) | with_reducible intro _)
    all_goals try (exfalso; omega)
    exact hgo he
  · rw [hr he] at hf
    obtain ⟨hy, hk⟩ := no_row hf he
    rw [hy] at h8
    have h0 : (f.err != 0) = true := by simp [he]
    repeat' (first | with_reducible (apply swq; constructor) | simp only [go_sem, seval, atB_M, pe49, hg, h0] | simp (disch := omega) only [w64, w32, wu8, wu16, wu32, wu64] | ((with_reducible refine o_yieldS (L := ?yL) hst (h8) hB ?hx ?hh ?_); (case hx => first | rfl | (simp [D.rnL, D.rn, rowD]; done)); (case hh => rfl)) | (with_reducible first | (apply cA; constructor) | (apply gA; constructor)) | ((with_reducible refine And.intro ?hw ?_); (case hw => first | omega | rfl | exact ⟨_, _, rfl⟩ | assumption | (simp only [lN, hg, hln, hlt, hgc, hbk] <;> omega))) | with_reducible intro _)
    all_goals try (exfalso; omega)
    exact hno he hk
end Go.Proofs.YtkjnhkoipgdfeaaDoor
end
section
set_option maxRecDepth 100000
set_option linter.unusedSimpArgs false
set_option linter.unusedVariables false
namespace Go.Proofs.YtkjnhkoipgdfeaaDoor
open Go GoV Go.RowKit
def unqS (t : Tx) (i : Nat) : Tx := match unq (t.drop (i + 1)) [] 1 with
  | some p => p.1
  | none => []
def unqN (t : Tx) (i : Nat) : Nat := match unq (t.drop (i + 1)) [] 1 with
  | some p => p.2
  | none => 0
def QuoteOk (t : Tx) : Prop := ∀ i, i < t.length → cls (t.getD i 0) = 7 → Pur M 50 [.str (t.drop i)] (.tup [.str (unqS t i), .int .i64 (unqN t i : Nat)])
theorem clsAt_word {t : Tx} {p : Nat} (h : p < t.length) : (zBu (t.getD p 0) = true → clsAt t p = 3 ∨ clsAt t p = 4 ∨ clsAt t p = 5) ∧ (zBu (t.getD p 0) = false → clsAt t p ≠ 3 ∧ clsAt t p ≠ 4 ∧ clsAt t p ≠ 5) := by
  unfold clsAt
  rw [if_pos h, isWord_cls]
  simp
  constructor
  · rintro ((h | h) | h) <;> simp [h]
  · intro a b c; exact ⟨a, b, c⟩
theorem clsAt_dig {t : Tx} {p : Nat} (h : p < t.length) : (isDig (t.getD p 0) = true → clsAt t p = 4) ∧ (isDig (t.getD p 0) = false → clsAt t p ≠ 4) := by
  unfold clsAt
  rw [if_pos h, isDig_cls]
  simp
theorem clsAt_end {t : Tx} {p : Nat} (h : t.length ≤ p) : clsAt t p = 0 := by unfold clsAt; rw [if_neg (by omega)]
theorem head_word {t : Tx} {p : Nat} (hd : isDig (t.getD p 0) = false ∨ t.length ≤ p) : ((t.drop p).head?.any zBu = true ↔ clsAt t p = 3 ∨ clsAt t p = 5) := by
  by_cases h : p < t.length
  · rw [zBp h]
    have hw := clsAt_word h
    have hg := clsAt_dig h
    simp only [List.head?_cons, Option.any_some]
    have hdd : isDig (t.getD p 0) = false := by
      rcases hd with q | q
      · exact q
      · omega
    have h4 := hg.2 hdd
    cases hwd : zBu (t.getD p 0)
    · have := hw.2 hwd
      simp [this.1, this.2.2]
    · have := hw.1 hwd
      simp
      omega
  · rw [List.drop_eq_nil_of_le (by omega), clsAt_end (by omega)]
    simp
theorem take_drop' (t : Tx) (i m : Nat) : (t.take (i + m)).drop i = (t.drop i).take m := by
  rw [List.drop_take]; congr 1; omega
theorem cls0B : ∀ c : UInt8, ((c.toNat : Int) != 10) = !(c == 10) := fun c => by
  have := zEy (p := fun c => ((c.toNat : Int) != 10) == !(c == 10)) (by decide +kernel) c
  exact eq_of_beq this
def st0 (t : Tx) (y : Nat) (hpk : Nat → Hp) (i k : Nat) : St := ⟨[yldD y, .ip [.str t], .ip [atD t], .int .i64 (i : Nat), .u0, .u0, .u0, .u0, .u0, .u0, .u0, .u0, .u0, .u0, .u0, .u0, .u0, .u0, .u0, .u0, .u0, .u0, .u0, .u0, .u0], [], hpk k⟩
set_option maxHeartbeats 4000000 in
theorem toks_it (t : Tx) (ht : t.length ≤ 10000) (hq : QuoteOk t) : IterS M 49 [.ip [.str t], .ip [atD t]] (rows t) (isErr t) := by
  refine iterS_of_body (C := E49 0 0) (fn := Tryd.f49) Tryd.func49 (by kernel_rfl) (by kernel_rfl) (rc := c49) z49 (by kernel_rfl) (by kernel_rfl) rfl (by rw [show ([D.ip [.str t], D.ip [atD t]] : List D).length + 1 = 3 from rfl]; decide) (fun b hpk n m y hst hB hY => ?_)
  rw [ie49]
  unfold c49
  have hrl : (rows t).length = (lexR t).length := by simp [rows]
  obtain ⟨RE, hRE⟩ : ∃ R, R = (RC.seq (.reg r49_36) (.cond (.v 24) .ret .skip)) := ⟨_, rfl⟩
  obtain ⟨RA, hRA⟩ : ∃ R, R = (RC.regD r49_15 r49_16) := ⟨_, rfl⟩
  obtain ⟨RB, hRB⟩ : ∃ R, R = (RC.regD r49_22 r49_23) := ⟨_, rfl⟩
  obtain ⟨RD, hRD⟩ : ∃ R, R = (RC.regD r49_34 r49_35) := ⟨_, rfl⟩
  rw [← hRE, ← hRA, ← hRB, ← hRD]
  repeat' (first | with_reducible (apply swq; constructor) | simp only [go_sem, seval, atB_M, pe49] | simp (disch := omega) only [w64, w32, wu8, wu16, wu32, wu64] | (with_reducible first | (apply cA; constructor) | (apply gA; constructor)) | ((with_reducible refine And.intro ?hw ?_); (case hw => first | omega | rfl | exact ⟨_, _, rfl⟩ | assumption | (simp only [lN] <;> omega))) | with_reducible intro _)
  have hln := hst.len
  have hlt := hst.lent
  have hn0 : ((E49 0 0).atB b (hpk 0)).n0 ≤ n := by show (hpk 0).H.length ≤ n; rw [hln]; exact Nat.le_refl _
  have hm0 : ((E49 0 0).atB b (hpk 0)).m0 ≤ m := by show (hpk 0).tk.length ≤ m; rw [hlt]; exact Nat.le_refl _
  have hgc0 : ∀ k, (hpk k).cut n m = hpk k := fun k => by have := hst.gc k []; simpa using this
  have hgc : ∀ k (B : List Blk), Hp.cut ⟨(hpk k).H ++ B, (hpk k).tk⟩ n m = hpk k := hst.gc
  refine zDp [0, 1, 2, 3] n m hn0 hm0 (fun a : Nat × Nat => st0 t y hpk a.1 a.2) (fun a => a.1 ≤ t.length ∧ a.2 ≤ (lexR t).length ∧ lx t a.1 = (lexR t).drop a.2) (fun a => t.length - a.1) (0, 0) ⟨by simp, by simp, by rw [lx_all]; rfl⟩ ?_ ?_
  · simp [keepE, St.keepG, St.keep, St.gc, D.rnL, D.rn, st0, yldD, hgc0]
  rintro ⟨i, k⟩ ⟨hi, hk, hlx⟩
  simp only at hi hk hlx ⊢
  unfold st0
  by_cases hil : i < t.length
  case neg =>
    have hd : decide ((i : Int) < t.length) = false := by simp; omega
    have hkk : k = (rows t).length := by
      rw [lx_end (by omega)] at hlx
      have := List.drop_eq_nil_iff.1 hlx.symm; omega
    repeat' (first | with_reducible (apply swq; constructor) | simp only [go_sem, seval, atB_M, pe49, hd] | simp (disch := omega) only [w64, w32, wu8, wu16, wu32, wu64] | (with_reducible first | (apply cA; constructor) | (apply gA; constructor)) | ((with_reducible refine And.intro ?hw ?_); (case hw => first | omega | rfl | exact ⟨_, _, rfl⟩ | assumption | (simp only [lN] <;> omega))) | with_reducible intro _)
    exact ⟨_, zAn, by rw [hkk]⟩
  case pos =>
  have hd : decide ((i : Int) < t.length) = true := by simp; omega
  have hls := lx_step hil
  have hok := step_ok t hil
  have cA := at_p t i (by omega) (by omega)
  have hcA : clsAt t i = cls (t.getD i 0) := by unfold clsAt; rw [if_pos hil]
  rw [hcA] at cA
  have hg : ∀ (j : Nat) (B : Blk), ((hpk j).H ++ [B])[n]? = some B := fun j B => by rw [← hst.len j]; simp
  have hs : ∀ (j : Nat) (B B' : Blk), ((hpk j).H ++ [B]).set n B' = (hpk j).H ++ [B'] := fun j B B' => by rw [← hst.len j]; simp
  have next : ∀ (i' k' : Nat) (L : List Blk) (e : List D), keepE [0, 1, 2, 3] 0 e = (st0 t y hpk i' k').env → St.keepG [0, 1, 2, 3] n m ⟨e, [], ⟨(hpk k').H ++ L, (hpk k').tk⟩⟩ = st0 t y hpk i' k' := fun i' k' L e he => by
    simp only [St.keepG, St.keep, St.gc, he, hgc, st0]
    simp [D.rnL, D.rn, yldD]
  rcases cls_all (t.getD i 0) with h | h | h | h | h | h | h | h
  · 
    rw [h] at cA
    have hso := zEi hil (.inl h)
    rw [hso] at hls
    simp only [noErr] at hls
    rw [if_neg (by decide)] at hls
    obtain ⟨hk0, hk2, hdr⟩ := zCb (hlx.symm.trans hls)
    repeat' (first | with_reducible (apply swq; constructor) | simp only [go_sem, seval, atB_M, pe49, hd, hln, hg, hs] | simp (disch := omega) only [w64, w32, wu8, wu16, wu32, wu64] | ((with_reducible refine zAb (zA7 cA b) ?he ?hc ?_); (case he | hc => first | rfl | (simp [D.erL, D.er, D.cL, D.closed, hln, hg, hs]; done))) | (with_reducible first | (apply cA; constructor) | (apply gA; constructor)) | ((with_reducible refine And.intro ?hw ?_); (case hw => first | omega | rfl | exact ⟨_, _, rfl⟩ | assumption | (simp only [lN, hln, hg, hs] <;> omega))) | with_reducible intro _)
    all_goals try (exfalso; omega)
    subst hRE
    refine zEu hst hB hY (f := ⟨⟨0, [], i⟩, 10⟩) (hlx.symm.trans hls) (fun _ => rfl) _ (fun he => absurd he (by simp)) (fun he hk' => ?_)
    exact ⟨trivial, _, zEz n m hn0 hm0, by simp only [St.gc]; rw [hgc, ← hk']⟩
  · 
    rw [h] at cA
    have hso := step_blank hil h
    rw [hso] at hls
    simp only at hls
    repeat' (first | with_reducible (apply swq; constructor) | simp only [go_sem, seval, atB_M, pe49, hd, hln, hg, hs] | simp (disch := omega) only [w64, w32, wu8, wu16, wu32, wu64] | ((with_reducible refine zAb (zA7 cA b) ?he ?hc ?_); (case he | hc => first | rfl | (simp [D.erL, D.er, D.cL, D.closed, hln, hg, hs]; done))) | (with_reducible first | (apply cA; constructor) | (apply gA; constructor)) | ((with_reducible refine And.intro ?hw ?_); (case hw => first | omega | rfl | exact ⟨_, _, rfl⟩ | assumption | (simp only [lN, hln, hg, hs] <;> omega))) | with_reducible intro _)
    all_goals try (exfalso; omega)
    exact ⟨(i + 1, k), ⟨by simp only; omega, hk, by rw [← hlx, hls]⟩, by simp only; omega, next (i + 1) k _ _ rfl⟩
  · 
    rw [h] at cA
    have hso := step_hash hil h
    rw [hso] at hls hok
    simp only at hls hok
    have hpos := hok.2 (by simp)
    have hle := hok.1
    have hget := fun j hj => spn_get (p := fun d => !(d == 10)) (t := t) (i := i) (j := j) hj
    have hstop := spn_stop (p := fun d => !(d == 10)) (t := t) (i := i)
    generalize hmm : spn (fun d => !(d == 10)) (t.drop i) = mm at *
    repeat' (first | with_reducible (apply swq; constructor) | simp only [go_sem, seval, atB_M, pe49, hd, hln, hg, hs] | simp (disch := omega) only [w64, w32, wu8, wu16, wu32, wu64] | ((with_reducible refine zAb (zA7 cA b) ?he ?hc ?_); (case he | hc => first | rfl | (simp [D.erL, D.er, D.cL, D.closed, hln, hg, hs]; done))) | (with_reducible first | (apply cA; constructor) | (apply gA; constructor)) | ((with_reducible refine And.intro ?hw ?_); (case hw => first | omega | rfl | exact ⟨_, _, rfl⟩ | assumption | (simp only [lN, hln, hg, hs] <;> omega))) | with_reducible intro _)
    all_goals try (exfalso; omega)
    refine zCz [0, 1, 2, 3, 4, 5] (fun j : Nat => ⟨[yldD y, .ip [.str t], .ip [atD t], .int .i64 (i + j : Nat), .int .i64 (i : Nat), .ptr n 0, .u0, .u0, .u0, .u0, .u0, .u0, .u0, .u0, .u0, .u0, .u0, .u0, .u0, .u0, .u0, .u0, .u0, .u0, .u0], [], ⟨(hpk k).H ++ [.cells [.int .i64 0, .str [], .int .i64 (i : Nat), .int .i64 10]], (hpk k).tk⟩⟩) (fun j => j ≤ mm) (fun j => mm - j) 0 (by omega) ?_ ?_
    · simp [keepE, St.keep]
    · intro j hj
      by_cases hjm : j < mm
      · obtain ⟨q1, q2⟩ := hget j hjm
        have hd2 : decide (((i + j : Nat) : Int) < t.length) = true := by simp; omega
        have hc10 : (((t.getD (i + j) 0).toNat : Int) != 10) = true := by rw [cls0B]; exact q2
        repeat' (first | with_reducible (apply swq; constructor) | simp only [go_sem, seval, atB_M, pe49, hd2, hc10, hln, hg, hs] | simp (disch := omega) only [w64, w32, wu8, wu16, wu32, wu64] | (with_reducible first | (apply cA; constructor) | (apply gA; constructor)) | ((with_reducible refine And.intro ?hw ?_); (case hw => first | omega | rfl | exact ⟨_, _, rfl⟩ | assumption | (simp only [lN, hln, hg, hs] <;> omega))) | with_reducible intro _)
        all_goals try (exfalso; omega)
        refine ⟨j + 1, by omega, by omega, ?_⟩
        simp [keepE, St.keep]
        try omega
      · obtain rfl : j = mm := by omega
        have fin : ∃ a' : Nat × Nat, (a'.1 ≤ t.length ∧ a'.2 ≤ (lexR t).length ∧ lx t a'.1 = (lexR t).drop a'.2) ∧ t.length - a'.1 < t.length - i ∧ a' = (i + j, k) := ⟨(i + j, k), ⟨by simp only; omega, hk, by rw [← hlx, hls]⟩, by simp only; omega, rfl⟩
        obtain ⟨a', f1, f2, rfl⟩ := fin
        by_cases hil2 : i + j < t.length
        · have hd2 : decide (((i + j : Nat) : Int) < t.length) = true := by simp; omega
          have hc10 : (((t.getD (i + j) 0).toNat : Int) != 10) = false := by rw [cls0B]; exact hstop hil2
          repeat' (first | with_reducible (apply swq; constructor) | simp only [go_sem, seval, atB_M, pe49, hd2, hc10, hln, hg, hs] | simp (disch := omega) only [w64, w32, wu8, wu16, wu32, wu64] | (with_reducible first | (apply cA; constructor) | (apply gA; constructor)) | ((with_reducible refine And.intro ?hw ?_); (case hw => first | omega | rfl | exact ⟨_, _, rfl⟩ | assumption | (simp only [lN, hln, hg, hs] <;> omega))) | with_reducible intro _)
          all_goals try (exfalso; omega)
          exact ⟨_, f1, f2, next (i + j) k _ _ rfl⟩
        · have hd2 : decide (((i + j : Nat) : Int) < t.length) = false := by simp; omega
          repeat' (first | with_reducible (apply swq; constructor) | simp only [go_sem, seval, atB_M, pe49, hd2, hln, hg, hs] | simp (disch := omega) only [w64, w32, wu8, wu16, wu32, wu64] | (with_reducible first | (apply cA; constructor) | (apply gA; constructor)) | ((with_reducible refine And.intro ?hw ?_); (case hw => first | omega | rfl | exact ⟨_, _, rfl⟩ | assumption | (simp only [lN, hln, hg, hs] <;> omega))) | with_reducible intro _)
          all_goals try (exfalso; omega)
          exact ⟨_, f1, f2, next (i + j) k _ _ rfl⟩
  · 
    have hcA3 : clsAt t i = 3 := hcA.trans h
    rw [h] at cA
    have hso := step_let hil h
    rw [hso] at hls hok
    simp only at hls hok
    have hle := hok.1
    have hget := fun j hj => spn_get (p := zBu) (t := t) (i := i) (j := j) hj
    have hstop := spn_stop (p := zBu) (t := t) (i := i)
    have hpos : 0 < spn zBu (t.drop i) := spn_pos hil (by rw [isWord_cls, h]; rfl)
    have htd := take_drop' t i (spn zBu (t.drop i))
    rw [← htd] at hls
    generalize hmm : spn zBu (t.drop i) = mm at *
    repeat' (first | with_reducible (apply swq; constructor) | simp only [go_sem, seval, atB_M, pe49, hd, hln, hg, hs] | simp (disch := omega) only [w64, w32, wu8, wu16, wu32, wu64] | ((with_reducible refine zAb (zA7 cA b) ?he ?hc ?_); (case he | hc => first | rfl | (simp [D.erL, D.er, D.cL, D.closed, hln, hg, hs]; done))) | (with_reducible first | (apply cA; constructor) | (apply gA; constructor)) | ((with_reducible refine And.intro ?hw ?_); (case hw => first | omega | rfl | exact ⟨_, _, rfl⟩ | assumption | (simp only [lN, hln, hg, hs] <;> omega))) | with_reducible intro _)
    all_goals try (exfalso; omega)
    refine zCz [0, 1, 2, 3, 4, 5, 6] (fun j : Nat => ⟨[yldD y, .ip [.str t], .ip [atD t], .int .i64 (i + j : Nat), .int .i64 (i : Nat), .ptr n 0, .int .u8 (clsAt t (i + j)), .u0, .u0, .u0, .u0, .u0, .u0, .u0, .u0, .u0, .u0, .u0, .u0, .u0, .u0, .u0, .u0, .u0, .u0], [], ⟨(hpk k).H ++ [.cells [.int .i64 0, .str [], .int .i64 (i : Nat), .int .i64 10]], (hpk k).tk⟩⟩) (fun j => j ≤ mm) (fun j => mm - j) 0 (by omega) ?_ ?_
    · simp [keepE, St.keep, hcA3]
    · intro j hj
      by_cases hjm : j < mm
      · obtain ⟨q1, q2⟩ := hget j hjm
        have cB := at_p t (i + (j + 1)) (by omega) (by omega)
        have hc := (clsAt_word q1).1 q2
        generalize clsAt t (i + j) = cl at *
        rcases hc with rfl | rfl | rfl
        all_goals
          repeat' (first | with_reducible (apply swq; constructor) | simp only [go_sem, seval, atB_M, pe49, hln, hg, hs] | simp (disch := omega) only [w64, w32, wu8, wu16, wu32, wu64] | ((with_reducible refine zAb (zA7 cB b) ?he ?hc ?_); (case he | hc => first | rfl | (simp [D.erL, D.er, D.cL, D.closed, hln, hg, hs]; done))) | (with_reducible first | (apply cA; constructor) | (apply gA; constructor)) | ((with_reducible refine And.intro ?hw ?_); (case hw => first | omega | rfl | exact ⟨_, _, rfl⟩ | assumption | (simp only [lN, hln, hg, hs] <;> omega))) | with_reducible intro _)
          all_goals try (exfalso; omega)
          refine ⟨j + 1, by omega, by omega, ?_⟩
          simp [keepE, St.keep]
          try omega
      · obtain rfl : j = mm := by omega
        have hc : clsAt t (i + j) ≠ 3 ∧ clsAt t (i + j) ≠ 4 ∧ clsAt t (i + j) ≠ 5 := by
          by_cases hil2 : i + j < t.length
          · exact (clsAt_word hil2).2 (hstop hil2)
          · rw [clsAt_end (by omega)]; decide
        obtain ⟨hc1, hc2, hc3⟩ := hc
        have u1 : (clsAt t (i + j) == 3) = false := by simp [hc1]
        have u2 : (clsAt t (i + j) == 4) = false := by simp [hc2]
        have u3 : (clsAt t (i + j) == 5) = false := by simp [hc3]
        generalize clsAt t (i + j) = cl at *
        repeat' (first | with_reducible (apply swq; constructor) | simp only [go_sem, seval, atB_M, pe49, u1, u2, u3, hln, hg, hs] | simp (disch := omega) only [w64, w32, wu8, wu16, wu32, wu64] | (with_reducible first | (apply cA; constructor) | (apply gA; constructor)) | ((with_reducible refine And.intro ?hw ?_); (case hw => first | omega | rfl | exact ⟨_, _, rfl⟩ | assumption | (simp only [lN, hln, hg, hs] <;> omega))) | with_reducible intro _)
        all_goals try (exfalso; omega)
        subst hRA
        refine reg15 (a := i) (b := i + j) (hln k) (by omega) (by omega) rfl rfl rfl rfl _ ?_
        have hw : decide (((i + j : Nat) : Int) - (i : Nat) > 24) = decide (24 < j) := by
          rw [Bool.eq_iff_iff]; simp; omega
        by_cases h24 : 24 < j
        · rw [if_pos h24] at hls
          rw [if_neg (by decide)] at hls
          have hw2 : decide (24 < j) = true := by simp [h24]
          rw [hw2] at hw
          repeat' (first | with_reducible (apply swq; constructor) | simp only [go_sem, seval, atB_M, pe49, hw, hln, hg, hs] | simp (disch := omega) only [w64, w32, wu8, wu16, wu32, wu64] | (with_reducible first | (apply cA; constructor) | (apply gA; constructor)) | ((with_reducible refine And.intro ?hw ?_); (case hw => first | omega | rfl | exact ⟨_, _, rfl⟩ | assumption | (simp only [lN, hln, hg, hs] <;> omega))) | with_reducible intro _)
          all_goals try (exfalso; omega)
          subst hRE
          refine zEu hst hB hY (f := ⟨⟨1, (t.take (i + j)).drop i, i⟩, 7⟩) (hlx.symm.trans hls) (fun _ => rfl) _ (fun he => absurd he (by simp)) (fun he hk' => ?_)
          exact ⟨trivial, _, zEz n m hn0 hm0, by simp only [St.gc]; rw [hgc, ← hk']⟩
        · rw [if_neg h24] at hls
          rw [if_pos rfl] at hls
          obtain ⟨hk0, hk2, hdr⟩ := zCb (hlx.symm.trans hls)
          have hw2 : decide (24 < j) = false := by simp; omega
          rw [hw2] at hw
          repeat' (first | with_reducible (apply swq; constructor) | simp only [go_sem, seval, atB_M, pe49, hw, hln, hg, hs] | simp (disch := omega) only [w64, w32, wu8, wu16, wu32, wu64] | (with_reducible first | (apply cA; constructor) | (apply gA; constructor)) | ((with_reducible refine And.intro ?hw ?_); (case hw => first | omega | rfl | exact ⟨_, _, rfl⟩ | assumption | (simp only [lN, hln, hg, hs] <;> omega))) | with_reducible intro _)
          all_goals try (exfalso; omega)
          subst hRE
          refine zEu hst hB hY (f := ⟨⟨1, (t.take (i + j)).drop i, i⟩, 0⟩) (hlx.symm.trans hls) (fun he => absurd rfl he) _ (fun he => ?_) (fun he => absurd rfl he)
          exact ⟨(i + j, k + 1), ⟨by simp only; omega, by simp only; omega, hdr.symm⟩, by simp only; omega, next (i + j) (k + 1) _ _ rfl⟩
  · 
    rw [h] at cA
    have hso := step_dig hil h
    rw [hso] at hls hok
    simp only at hls hok
    have hle := hok.1
    have hget := fun j hj => spn_get (p := isDig) (t := t) (i := i) (j := j) hj
    have hstop := spn_stop (p := isDig) (t := t) (i := i)
    have hpos : 0 < spn isDig (t.drop i) := spn_pos hil (by rw [isDig_cls, h]; rfl)
    have htd := take_drop' t i (spn isDig (t.drop i))
    rw [← htd] at hls
    generalize hmm : spn isDig (t.drop i) = mm at *
    rw [List.drop_drop] at hls
    have hhw : (t.drop (i + mm)).head?.any zBu = true ↔ clsAt t (i + mm) = 3 ∨ clsAt t (i + mm) = 5 := head_word (by
      by_cases hil2 : i + mm < t.length
      · exact .inl (hstop hil2)
      · exact .inr (by omega))
    repeat' (first | with_reducible (apply swq; constructor) | simp only [go_sem, seval, atB_M, pe49, hd, hln, hg, hs] | simp (disch := omega) only [w64, w32, wu8, wu16, wu32, wu64] | ((with_reducible refine zAb (zA7 cA b) ?he ?hc ?_); (case he | hc => first | rfl | (simp [D.erL, D.er, D.cL, D.closed, hln, hg, hs]; done))) | (with_reducible first | (apply cA; constructor) | (apply gA; constructor)) | ((with_reducible refine And.intro ?hw ?_); (case hw => first | omega | rfl | exact ⟨_, _, rfl⟩ | assumption | (simp only [lN, hln, hg, hs] <;> omega))) | with_reducible intro _)
    all_goals try (exfalso; omega)
    refine zCz [0, 1, 2, 3, 4, 5] (fun j : Nat => ⟨[yldD y, .ip [.str t], .ip [atD t], .int .i64 (i + j : Nat), .int .i64 (i : Nat), .ptr n 0, .u0, .u0, .u0, .u0, .u0, .u0, .u0, .u0, .u0, .u0, .u0, .u0, .u0, .u0, .u0, .u0, .u0, .u0, .u0], [], ⟨(hpk k).H ++ [.cells [.int .i64 0, .str [], .int .i64 (i : Nat), .int .i64 10]], (hpk k).tk⟩⟩) (fun j => j ≤ mm) (fun j => mm - j) 0 (by omega) ?_ ?_
    · simp [keepE, St.keep]
    · intro j hj
      have cB := at_p t (i + j) (by omega) (by omega)
      by_cases hjm : j < mm
      · obtain ⟨q1, q2⟩ := hget j hjm
        rw [(clsAt_dig q1).1 q2] at cB
        repeat' (first | with_reducible (apply swq; constructor) | simp only [go_sem, seval, atB_M, pe49, hln, hg, hs] | simp (disch := omega) only [w64, w32, wu8, wu16, wu32, wu64] | ((with_reducible refine zAb (zA7 cB b) ?he ?hc ?_); (case he | hc => first | rfl | (simp [D.erL, D.er, D.cL, D.closed, hln, hg, hs]; done))) | (with_reducible first | (apply cA; constructor) | (apply gA; constructor)) | ((with_reducible refine And.intro ?hw ?_); (case hw => first | omega | rfl | exact ⟨_, _, rfl⟩ | assumption | (simp only [lN, hln, hg, hs] <;> omega))) | with_reducible intro _)
        all_goals try (exfalso; omega)
        refine ⟨j + 1, by omega, by omega, ?_⟩
        simp [keepE, St.keep]
        try omega
      · obtain rfl : j = mm := by omega
        have hc : clsAt t (i + j) ≠ 4 := by
          by_cases hil2 : i + j < t.length
          · exact (clsAt_dig hil2).2 (hstop hil2)
          · rw [clsAt_end (by omega)]; decide
        have u2 : (clsAt t (i + j) == 4) = false := by simp [hc]
        generalize clsAt t (i + j) = cl at *
        repeat' (first | with_reducible (apply swq; constructor) | simp only [go_sem, seval, atB_M, pe49, u2, hln, hg, hs] | simp (disch := omega) only [w64, w32, wu8, wu16, wu32, wu64] | ((with_reducible refine zAb (zA7 cB b) ?he ?hc ?_); (case he | hc => first | rfl | (simp [D.erL, D.er, D.cL, D.closed, hln, hg, hs]; done))) | (with_reducible first | (apply cA; constructor) | (apply gA; constructor)) | ((with_reducible refine And.intro ?hw ?_); (case hw => first | omega | rfl | exact ⟨_, _, rfl⟩ | assumption | (simp only [lN, hln, hg, hs] <;> omega))) | with_reducible intro _)
        all_goals try (exfalso; omega)
        subst hRB
        refine reg22 (a := i) (b := i + j) (hln k) (by omega) (by omega) rfl rfl rfl rfl _ ?_
        have hw : decide (((i + j : Nat) : Int) - (i : Nat) > 7) = decide (7 < j) := by
          rw [Bool.eq_iff_iff]; simp; omega
        by_cases hbad : 7 < j ∨ (t.drop (i + j)).head?.any zBu = true
        · rw [if_pos hbad] at hls
          rw [if_neg (by decide)] at hls
          rw [hhw] at hbad
          by_cases h7 : 7 < j
          · have hw2 : decide (7 < j) = true := by simp [h7]
            rw [hw2] at hw
            repeat' (first | with_reducible (apply swq; constructor) | simp only [go_sem, seval, atB_M, pe49, hw, hln, hg, hs] | simp (disch := omega) only [w64, w32, wu8, wu16, wu32, wu64] | ((with_reducible refine zAb (zA7 cB b) ?he ?hc ?_); (case he | hc => first | rfl | (simp [D.erL, D.er, D.cL, D.closed, hln, hg, hs]; done))) | (with_reducible first | (apply cA; constructor) | (apply gA; constructor)) | ((with_reducible refine And.intro ?hw ?_); (case hw => first | omega | rfl | exact ⟨_, _, rfl⟩ | assumption | (simp only [lN, hln, hg, hs] <;> omega))) | with_reducible intro _)
            all_goals try (exfalso; omega)
            subst hRE
            refine zEu hst hB hY (f := ⟨⟨2, (t.take (i + j)).drop i, i⟩, 11⟩) (hlx.symm.trans hls) (fun _ => rfl) _ (fun he => absurd he (by simp)) (fun he hk' => ?_)
            exact ⟨trivial, _, zEz n m hn0 hm0, by simp only [St.gc]; rw [hgc, ← hk']⟩
          · have hw2 : decide (7 < j) = false := by simp; omega
            rw [hw2] at hw
            have hcl : cl = 3 ∨ cl = 5 := by
              rcases hbad with q | q
              · exact absurd q h7
              · exact q
            rcases hcl with rfl | rfl
            all_goals
              repeat' (first | with_reducible (apply swq; constructor) | simp only [go_sem, seval, atB_M, pe49, hw, hln, hg, hs] | simp (disch := omega) only [w64, w32, wu8, wu16, wu32, wu64] | ((with_reducible refine zAb (zA7 cB b) ?he ?hc ?_); (case he | hc => first | rfl | (simp [D.erL, D.er, D.cL, D.closed, hln, hg, hs]; done))) | (with_reducible first | (apply cA; constructor) | (apply gA; constructor)) | ((with_reducible refine And.intro ?hw ?_); (case hw => first | omega | rfl | exact ⟨_, _, rfl⟩ | assumption | (simp only [lN, hln, hg, hs] <;> omega))) | with_reducible intro _)
              all_goals try (exfalso; omega)
              subst hRE
              refine zEu hst hB hY (f := ⟨⟨2, (t.take (i + j)).drop i, i⟩, 11⟩) (hlx.symm.trans hls) (fun _ => rfl) _ (fun he => absurd he (by simp)) (fun he hk' => ?_)
              exact ⟨trivial, _, zEz n m hn0 hm0, by simp only [St.gc]; rw [hgc, ← hk']⟩
        · rw [if_neg hbad] at hls
          rw [if_pos rfl] at hls
          obtain ⟨hk0, hk2, hdr⟩ := zCb (hlx.symm.trans hls)
          rw [hhw] at hbad
          have hw2 : decide (7 < j) = false := by simp; omega
          rw [hw2] at hw
          have v1 : (cl == 3) = false := by rw [beq_eq_false_iff_ne]; intro e; exact hbad (.inr (.inl e))
          have v2 : (cl == 5) = false := by rw [beq_eq_false_iff_ne]; intro e; exact hbad (.inr (.inr e))
          repeat' (first | with_reducible (apply swq; constructor) | simp only [go_sem, seval, atB_M, pe49, hw, v1, v2, hln, hg, hs] | simp (disch := omega) only [w64, w32, wu8, wu16, wu32, wu64] | ((with_reducible refine zAb (zA7 cB b) ?he ?hc ?_); (case he | hc => first | rfl | (simp [D.erL, D.er, D.cL, D.closed, hln, hg, hs]; done))) | (with_reducible first | (apply cA; constructor) | (apply gA; constructor)) | ((with_reducible refine And.intro ?hw ?_); (case hw => first | omega | rfl | exact ⟨_, _, rfl⟩ | assumption | (simp only [lN, hln, hg, hs] <;> omega))) | with_reducible intro _)
          all_goals try (exfalso; omega)
          subst hRE
          refine zEu hst hB hY (f := ⟨⟨2, (t.take (i + j)).drop i, i⟩, 0⟩) (hlx.symm.trans hls) (fun he => absurd rfl he) _ (fun he => ?_) (fun he => absurd rfl he)
          exact ⟨(i + j, k + 1), ⟨by simp only; omega, by simp only; omega, hdr.symm⟩, by simp only; omega, next (i + j) (k + 1) _ _ rfl⟩
  · 
    rw [h] at cA
    have hso := zEi hil (.inr h)
    rw [hso] at hls
    simp only [noErr] at hls
    rw [if_neg (by decide)] at hls
    obtain ⟨hk0, hk2, hdr⟩ := zCb (hlx.symm.trans hls)
    repeat' (first | with_reducible (apply swq; constructor) | simp only [go_sem, seval, atB_M, pe49, hd, hln, hg, hs] | simp (disch := omega) only [w64, w32, wu8, wu16, wu32, wu64] | ((with_reducible refine zAb (zA7 cA b) ?he ?hc ?_); (case he | hc => first | rfl | (simp [D.erL, D.er, D.cL, D.closed, hln, hg, hs]; done))) | (with_reducible first | (apply cA; constructor) | (apply gA; constructor)) | ((with_reducible refine And.intro ?hw ?_); (case hw => first | omega | rfl | exact ⟨_, _, rfl⟩ | assumption | (simp only [lN, hln, hg, hs] <;> omega))) | with_reducible intro _)
    all_goals try (exfalso; omega)
    subst hRE
    refine zEu hst hB hY (f := ⟨⟨0, [], i⟩, 10⟩) (hlx.symm.trans hls) (fun _ => rfl) _ (fun he => absurd he (by simp)) (fun he hk' => ?_)
    exact ⟨trivial, _, zEz n m hn0 hm0, by simp only [St.gc]; rw [hgc, ← hk']⟩
  · 
    rw [h] at cA
    have hso := step_sym hil h
    rw [hso] at hls hok
    simp only at hls hok
    rw [if_pos trivial] at hls
    have htd := take_drop' t i 1
    rw [← htd] at hls
    obtain ⟨hk0, hk2, hdr⟩ := zCb (hlx.symm.trans hls)
    repeat' (first | with_reducible (apply swq; constructor) | simp only [go_sem, seval, atB_M, pe49, hd, hln, hg, hs] | simp (disch := omega) only [w64, w32, wu8, wu16, wu32, wu64] | ((with_reducible refine zAb (zA7 cA b) ?he ?hc ?_); (case he | hc => first | rfl | (simp [D.erL, D.er, D.cL, D.closed, hln, hg, hs]; done))) | (with_reducible first | (apply cA; constructor) | (apply gA; constructor)) | ((with_reducible refine And.intro ?hw ?_); (case hw => first | omega | rfl | exact ⟨_, _, rfl⟩ | assumption | (simp only [lN, hln, hg, hs] <;> omega))) | with_reducible intro _)
    all_goals try (exfalso; omega)
    subst hRD
    refine reg34 (a := i) (b := i + 1) (hln k) (by omega) (by omega) rfl rfl rfl rfl _ ?_
    repeat' (first | with_reducible (apply swq; constructor) | simp only [go_sem, seval, atB_M, pe49, hln, hg, hs] | simp (disch := omega) only [w64, w32, wu8, wu16, wu32, wu64] | (with_reducible first | (apply cA; constructor) | (apply gA; constructor)) | ((with_reducible refine And.intro ?hw ?_); (case hw => first | omega | rfl | exact ⟨_, _, rfl⟩ | assumption | (simp only [lN, hln, hg, hs] <;> omega))) | with_reducible intro _)
    all_goals try (exfalso; omega)
    subst hRE
    refine zEu hst hB hY (f := ⟨⟨4, (t.take (i + 1)).drop i, i⟩, 0⟩) (hlx.symm.trans hls) (fun he => absurd rfl he) _ (fun he => ?_) (fun he => absurd rfl he)
    exact ⟨(i + 1, k + 1), ⟨by simp only; omega, by simp only; omega, hdr.symm⟩, by simp only; omega, next (i + 1) (k + 1) _ _ rfl⟩
  · 
    rw [h] at cA
    have hso := step_quote hil h
    rw [hso] at hls hok
    have cQ := hq i hil h
    have hn2 : ∀ u nn, unq (t.drop (i + 1)) [] 1 = some (u, nn) → unqS t i = u ∧ unqN t i = nn := fun u nn e => by simp [unqS, unqN, e]
    have hn3 : unq (t.drop (i + 1)) [] 1 = none → unqS t i = [] ∧ unqN t i = 0 := fun e => by simp [unqS, unqN, e]
    cases hu : unq (t.drop (i + 1)) [] 1 with
    | none =>
      obtain ⟨e1, e2⟩ := hn3 hu
      rw [e1, e2] at cQ
      rw [hu] at hls hok
      simp only [noErr] at hls
      rw [if_neg (by decide)] at hls
      obtain ⟨hk0, hk2, hdr⟩ := zCb (hlx.symm.trans hls)
      repeat' (first | with_reducible (apply swq; constructor) | simp only [go_sem, seval, atB_M, pe49, hd, hln, hg, hs] | simp (disch := omega) only [w64, w32, wu8, wu16, wu32, wu64] | ((with_reducible refine zAb (zA7 cA b) ?he ?hc ?_); (case he | hc => first | rfl | (simp [D.erL, D.er, D.cL, D.closed, hln, hg, hs]; done))) | ((with_reducible refine zAb (zA7 cQ b) ?he ?hc ?_); (case he | hc => first | rfl | (simp [D.erL, D.er, D.cL, D.closed, hln, hg, hs]; done))) | (with_reducible first | (apply cA; constructor) | (apply gA; constructor)) | ((with_reducible refine And.intro ?hw ?_); (case hw => first | omega | rfl | exact ⟨_, _, rfl⟩ | assumption | (simp only [lN, hln, hg, hs] <;> omega))) | with_reducible intro _)
      all_goals try (exfalso; omega)
      subst hRE
      refine zEu hst hB hY (f := ⟨⟨0, [], i⟩, 10⟩) (hlx.symm.trans hls) (fun _ => rfl) _ (fun he => absurd he (by simp)) (fun he hk' => ?_)
      exact ⟨trivial, _, zEz n m hn0 hm0, by simp only [St.gc]; rw [hgc, ← hk']⟩
    | some pr =>
      obtain ⟨u, nn⟩ := pr
      obtain ⟨e1, e2⟩ := hn2 u nn hu
      rw [e1, e2] at cQ
      rw [hu] at hls hok
      simp only at hls hok
      rw [if_pos trivial] at hls
      have hpos := hok.2 (by simp)
      have hle := hok.1
      obtain ⟨hk0, hk2, hdr⟩ := zCb (hlx.symm.trans hls)
      have hp : decide ((nn : Int) > 0) = true := by simp; omega
      repeat' (first | with_reducible (apply swq; constructor) | simp only [go_sem, seval, atB_M, pe49, hd, hp, hln, hg, hs] | simp (disch := omega) only [w64, w32, wu8, wu16, wu32, wu64] | ((with_reducible refine zAb (zA7 cA b) ?he ?hc ?_); (case he | hc => first | rfl | (simp [D.erL, D.er, D.cL, D.closed, hln, hg, hs]; done))) | ((with_reducible refine zAb (zA7 cQ b) ?he ?hc ?_); (case he | hc => first | rfl | (simp [D.erL, D.er, D.cL, D.closed, hln, hg, hs]; done))) | (with_reducible first | (apply cA; constructor) | (apply gA; constructor)) | ((with_reducible refine And.intro ?hw ?_); (case hw => first | omega | rfl | exact ⟨_, _, rfl⟩ | assumption | (simp only [lN, hln, hg, hs] <;> omega))) | with_reducible intro _)
      all_goals try (exfalso; omega)
      subst hRE
      refine zEu hst hB hY (f := ⟨⟨3, u, i⟩, 0⟩) (hlx.symm.trans hls) (fun he => absurd rfl he) _ (fun he => ?_) (fun he => absurd rfl he)
      refine ⟨(i + nn, k + 1), ⟨by simp only; omega, by simp only; omega, hdr.symm⟩, by simp only; omega, ?_⟩
      refine next (i + nn) (k + 1) _ _ ?_
      simp [keepE, st0]
end Go.Proofs.YtkjnhkoipgdfeaaDoor
end
section
set_option maxRecDepth 100000
set_option linter.unusedSimpArgs false
set_option linter.unusedVariables false
namespace Go.Proofs.YtkjnhkoipgdfeaaDoor
open Go GoV Go.RowKit
@[reducible] def Tok.d (t : Tok) : D := .agg [.int .i64 t.kind, .str t.text, .int .i64 t.pos]
def tokL (l : List Tok) : List D := l.map Tok.d
theorem tokL_len (l : List Tok) : (tokL l).length = l.length := by simp [tokL]
theorem tokL_cons (t : Tok) (l : List Tok) : tokL (t :: l) = t.d :: tokL l := rfl
theorem tokL_er : ∀ l : List Tok, D.erL (tokL l) = tokL l
  | [] => rfl
  | t :: l => by have := tokL_er l; simp_all [tokL, D.erL, D.er]
theorem tokL_cl : ∀ l : List Tok, D.cL (tokL l) = true
  | [] => rfl
  | t :: l => by have := tokL_cl l; simp_all [tokL, D.cL, D.closed]
theorem zAc (β τ : Nat → Option Nat) : ∀ l : List Tok, D.rnL β τ (tokL l) = tokL l
  | [] => rfl
  | t :: l => by have := zAc β τ l; simp_all [tokL, D.rnL, D.rn]
theorem zDg : ∀ l : List Tok, zAa 3 (tokL l) = true
  | [] => rfl
  | t :: l => by have := zDg l; simp_all [tokL, zAa, D.iV, D.cells]
def hpP (l : List Tok) (en : Int) : Hp := ⟨[.cells [.slice (tokL l) .no, .int .i64 en]], []⟩
def strs (l : List Tx) : List D := l.map .str
theorem strs_len (l : List Tx) : (strs l).length = l.length := by simp [strs]
theorem strs_get {l : List Tx} {i : Nat} (h : i < l.length) : (strs l).getD i .u0 = .str (l.getD i []) := by simp [strs, List.getD, h]
def gotI (k : Int) (ws : List Tx) (l : List Tok) : Int := match gotN k ws l with
  | some i => i
  | none => -1
def gotR (k : Int) (ws : List Tx) (l : List Tok) : List Tok := match gotN k ws l with
  | some _ => l.tail
  | none => l
theorem gotN_hit {k : Int} {ws : List Tx} {t : Tok} {r : List Tok} {j : Nat} (hk : t.kind = k) (hj : j < ws.length) (he : t.text = ws.getD j []) (hb : ∀ i, i < j → ¬ t.text = ws.getD i []) : gotN k ws (t :: r) = some j := by
  simp only [gotN, hk, if_true]
  rw [List.findIdx?_eq_some_iff_getElem]
  refine ⟨hj, by simpa [List.getD, hj] using he, fun i hi => ?_⟩
  have := hb i hi
  simp only [List.getD, List.getElem?_eq_getElem (Nat.lt_trans hi hj), Option.getD_some] at this
  simp [this]
theorem gotN_miss {k : Int} {ws : List Tx} {t : Tok} {r : List Tok} (h : t.kind = k → ∀ i, i < ws.length → ¬ t.text = ws.getD i []) : gotN k ws (t :: r) = none := by
  simp only [gotN]
  split
  · rename_i hk
    rw [List.findIdx?_eq_none_iff]
    intro w hw
    obtain ⟨i, hi, rfl⟩ := List.getElem_of_mem hw
    have := h hk i hi
    simp only [List.getD, List.getElem?_eq_getElem hi, Option.getD_some] at this
    simp [this]
  · rfl
set_option maxHeartbeats 1000000 in
theorem got_e (k : Int) (ws : List Tx) (hw : ws.length ≤ 10) (l : List Tok) (hl : l.length ≤ 100000) (en : Int) :
    Eff M 53 [.ptr 0 0, .int .i64 k, .slice (strs ws) .full] (hpP l en) fun d hp => d = .int .i64 (gotI k ws l) ∧ hp = hpP (gotR k ws l) en := by
  refine k53.oe 1 0 rfl rfl rfl ?_
  rw [ie53]
  unfold c53
  have hsl := strs_len ws
  unfold hpP
  repeat' (first | with_reducible (apply swq; constructor) | simp only [go_sem, seval, pe53, q53, hsl] | ((with_reducible apply zCo); (case hx => first | rfl | assumption | omega | ((first | refine ⟨?_, ?_⟩ | skip) <;> first | omega | (simp only [lN, hsl] <;> omega)) | (simp [zAa, D.iV, D.cells, D.cL, D.closed, hsl]; first | done | omega))) | ((with_reducible first | apply zCm | apply zCn); (case h0 | h1 | hx => first | rfl | assumption | omega | ((first | refine ⟨?_, ?_⟩ | skip) <;> first | omega | (simp only [lN, hsl] <;> omega)) | (simp [zAa, D.iV, D.cells, D.cL, D.closed, hsl]; first | done | omega))) | ((with_reducible apply zCl); (case h0 | h1 | h2 | hx => first | rfl | assumption | omega | ((first | refine ⟨?_, ?_⟩ | skip) <;> first | omega | (simp only [lN, hsl] <;> omega)) | (simp [zAa, D.iV, D.cells, D.cL, D.closed, hsl]; first | done | omega))) | ((with_reducible first | apply zCj | apply zCk); (case h0 | h1 | hc => first | rfl | assumption | omega | ((first | refine ⟨?_, ?_⟩ | skip) <;> first | omega | (simp only [lN, hsl] <;> omega)) | (simp [zAa, D.iV, D.cells, D.cL, D.closed, hsl]; first | done | omega))) | ((with_reducible apply zCi); (case h0 | h1 | h2 | hc => first | rfl | assumption | omega | ((first | refine ⟨?_, ?_⟩ | skip) <;> first | omega | (simp only [lN, hsl] <;> omega)) | (simp [zAa, D.iV, D.cells, D.cL, D.closed, hsl]; first | done | omega))) | (with_reducible first | (apply cA; constructor) | (apply gA; constructor)) | ((with_reducible refine And.intro ?hw ?_); (case hw => first | omega | rfl | exact ⟨_, _, rfl⟩ | assumption | (simp only [lN, hsl] <;> omega))) | with_reducible intro _)
  refine zCz [0, 1, 6, 7, 8] (fun j : Nat => ⟨[.ptr 0 0, .int .i64 k, .u0, .u0, .u0, .u0, .slice (strs ws) .full, .int .i64 ws.length, .int .i64 j, .u0, .u0], [], hpP l en⟩)
    (fun j => j ≤ ws.length ∧ ∀ t r, l = t :: r → t.kind = k → ∀ i, i < j → ¬ t.text = ws.getD i []) (fun j => ws.length - j) 0 ⟨by omega, fun _ _ _ _ i hi => by omega⟩ ?_ ?_
  · simp [keepE, St.keep, hpP]
  · rintro j ⟨hj, hb⟩
    by_cases hjl : j < ws.length
    · have hg := strs_get hjl
      have hd : decide ((j : Int) < ws.length) = true := by simp; omega
      unfold hpP
      cases l with
      | nil =>
        have e0 : tokL [] = [] := rfl
        rw [e0]
        repeat' (first | with_reducible (apply swq; constructor) | simp only [go_sem, seval, pe53, q53, hsl, hg, hd] | simp (disch := omega) only [w64, w32, wu8, wu16, wu32, wu64] | ((with_reducible apply zCo); (case hx => first | rfl | assumption | omega | ((first | refine ⟨?_, ?_⟩ | skip) <;> first | omega | (simp only [lN, hsl, hg] <;> omega)) | (simp [zAa, D.iV, D.cells, D.cL, D.closed, hsl, hg]; first | done | omega))) | ((with_reducible first | apply zCm | apply zCn); (case h0 | h1 | hx => first | rfl | assumption | omega | ((first | refine ⟨?_, ?_⟩ | skip) <;> first | omega | (simp only [lN, hsl, hg] <;> omega)) | (simp [zAa, D.iV, D.cells, D.cL, D.closed, hsl, hg]; first | done | omega))) | ((with_reducible apply zCl); (case h0 | h1 | h2 | hx => first | rfl | assumption | omega | ((first | refine ⟨?_, ?_⟩ | skip) <;> first | omega | (simp only [lN, hsl, hg] <;> omega)) | (simp [zAa, D.iV, D.cells, D.cL, D.closed, hsl, hg]; first | done | omega))) | ((with_reducible first | apply zCj | apply zCk); (case h0 | h1 | hc => first | rfl | assumption | omega | ((first | refine ⟨?_, ?_⟩ | skip) <;> first | omega | (simp only [lN, hsl, hg] <;> omega)) | (simp [zAa, D.iV, D.cells, D.cL, D.closed, hsl, hg]; first | done | omega))) | ((with_reducible apply zCi); (case h0 | h1 | h2 | hc => first | rfl | assumption | omega | ((first | refine ⟨?_, ?_⟩ | skip) <;> first | omega | (simp only [lN, hsl, hg] <;> omega)) | (simp [zAa, D.iV, D.cells, D.cL, D.closed, hsl, hg]; first | done | omega))) | (with_reducible first | (apply cA; constructor) | (apply gA; constructor)) | ((with_reducible refine And.intro ?hw ?_); (case hw => first | omega | rfl | exact ⟨_, _, rfl⟩ | assumption | (simp only [lN, hsl, hg] <;> omega))) | with_reducible intro _)
        all_goals try (exfalso; omega)
        refine ⟨j + 1, ⟨by omega, fun _ _ h => nomatch h⟩, by omega, ?_⟩
        simp [keepE, St.keep, hpP, e0]
      | cons t r =>
        have hlr := tokL_len r
        have hpos : decide (((r.length + 1 : Nat) : Int) > 0) = true := by simp only [decide_eq_true_eq]; omega
        have hcons := tokL_cons t r
        rw [hcons]
        have hel := zDg r
        have hbb := hb t r rfl
        by_cases hk : t.kind = k
        · have tk : (t.kind == k) = true := by simp [hk]
          by_cases he : t.text = ws.getD j []
          · have te : (t.text == ws.getD j []) = true := by rw [beq_iff_eq]; exact he
            have hgn := gotN_hit (r := r) hk hjl he (hbb hk)
            have e1 : gotI k ws (t :: r) = j := by simp [gotI, hgn]
            have e2 : gotR k ws (t :: r) = r := by simp [gotR, hgn]
            rw [e1, e2]
            generalize ws.getD j [] = w at *
            generalize tokL r = R at *
            repeat' (first | with_reducible (apply swq; constructor) | simp only [go_sem, seval, pe53, q53, hsl, hg, hd, hlr, hpos, tk, te, List.length_cons, List.drop_succ_cons, List.drop_zero] | simp (disch := omega) only [w64, w32, wu8, wu16, wu32, wu64] | ((with_reducible apply zCo); (case hx => first | rfl | assumption | omega | ((first | refine ⟨?_, ?_⟩ | skip) <;> first | omega | (simp only [lN, hsl, hg, hlr, hel] <;> omega)) | (simp [zAa, D.iV, D.cells, D.cL, D.closed, hsl, hg, hlr, hel]; first | done | omega))) | ((with_reducible first | apply zCm | apply zCn); (case h0 | h1 | hx => first | rfl | assumption | omega | ((first | refine ⟨?_, ?_⟩ | skip) <;> first | omega | (simp only [lN, hsl, hg, hlr, hel] <;> omega)) | (simp [zAa, D.iV, D.cells, D.cL, D.closed, hsl, hg, hlr, hel]; first | done | omega))) | ((with_reducible apply zCl); (case h0 | h1 | h2 | hx => first | rfl | assumption | omega | ((first | refine ⟨?_, ?_⟩ | skip) <;> first | omega | (simp only [lN, hsl, hg, hlr, hel] <;> omega)) | (simp [zAa, D.iV, D.cells, D.cL, D.closed, hsl, hg, hlr, hel]; first | done | omega))) | ((with_reducible first | apply zCj | apply zCk); (case h0 | h1 | hc => first | rfl | assumption | omega | ((first | refine ⟨?_, ?_⟩ | skip) <;> first | omega | (simp only [lN, hsl, hg, hlr, hel] <;> omega)) | (simp [zAa, D.iV, D.cells, D.cL, D.closed, hsl, hg, hlr, hel]; first | done | omega))) | ((with_reducible apply zCi); (case h0 | h1 | h2 | hc => first | rfl | assumption | omega | ((first | refine ⟨?_, ?_⟩ | skip) <;> first | omega | (simp only [lN, hsl, hg, hlr, hel] <;> omega)) | (simp [zAa, D.iV, D.cells, D.cL, D.closed, hsl, hg, hlr, hel]; first | done | omega))) | (with_reducible first | (apply cA; constructor) | (apply gA; constructor)) | ((with_reducible refine And.intro ?hw ?_); (case hw => first | omega | rfl | exact ⟨_, _, rfl⟩ | assumption | (simp only [lN, hsl, hg, hlr, hel] <;> omega))) | with_reducible intro _)
            all_goals try (exfalso; omega)
            exact ⟨_, zAn, by simp⟩
          · have te : (t.text == ws.getD j []) = false := by rw [beq_eq_false_iff_ne]; exact he
            generalize hwd : ws.getD j [] = w at *
            generalize tokL r = R at *
            repeat' (first | with_reducible (apply swq; constructor) | simp only [go_sem, seval, pe53, q53, hsl, hg, hd, hlr, hpos, tk, te, List.length_cons] | simp (disch := omega) only [w64, w32, wu8, wu16, wu32, wu64] | ((with_reducible apply zCo); (case hx => first | rfl | assumption | omega | ((first | refine ⟨?_, ?_⟩ | skip) <;> first | omega | (simp only [lN, hsl, hg, hlr, hel] <;> omega)) | (simp [zAa, D.iV, D.cells, D.cL, D.closed, hsl, hg, hlr, hel]; first | done | omega))) | ((with_reducible first | apply zCm | apply zCn); (case h0 | h1 | hx => first | rfl | assumption | omega | ((first | refine ⟨?_, ?_⟩ | skip) <;> first | omega | (simp only [lN, hsl, hg, hlr, hel] <;> omega)) | (simp [zAa, D.iV, D.cells, D.cL, D.closed, hsl, hg, hlr, hel]; first | done | omega))) | ((with_reducible apply zCl); (case h0 | h1 | h2 | hx => first | rfl | assumption | omega | ((first | refine ⟨?_, ?_⟩ | skip) <;> first | omega | (simp only [lN, hsl, hg, hlr, hel] <;> omega)) | (simp [zAa, D.iV, D.cells, D.cL, D.closed, hsl, hg, hlr, hel]; first | done | omega))) | ((with_reducible first | apply zCj | apply zCk); (case h0 | h1 | hc => first | rfl | assumption | omega | ((first | refine ⟨?_, ?_⟩ | skip) <;> first | omega | (simp only [lN, hsl, hg, hlr, hel] <;> omega)) | (simp [zAa, D.iV, D.cells, D.cL, D.closed, hsl, hg, hlr, hel]; first | done | omega))) | ((with_reducible apply zCi); (case h0 | h1 | h2 | hc => first | rfl | assumption | omega | ((first | refine ⟨?_, ?_⟩ | skip) <;> first | omega | (simp only [lN, hsl, hg, hlr, hel] <;> omega)) | (simp [zAa, D.iV, D.cells, D.cL, D.closed, hsl, hg, hlr, hel]; first | done | omega))) | (with_reducible first | (apply cA; constructor) | (apply gA; constructor)) | ((with_reducible refine And.intro ?hw ?_); (case hw => first | omega | rfl | exact ⟨_, _, rfl⟩ | assumption | (simp only [lN, hsl, hg, hlr, hel] <;> omega))) | with_reducible intro _)
            all_goals try (exfalso; omega)
            refine ⟨j + 1, ⟨by omega, fun t' r' h hk' i hi => ?_⟩, by omega, ?_⟩
            · cases h
              by_cases e : i = j
              · subst e; rw [hwd]; exact he
              · exact hbb hk i (by omega)
            · simp [keepE, St.keep, hcons, hpP]
        · have tk : (t.kind == k) = false := by simp [hk]
          generalize tokL r = R at *
          repeat' (first | with_reducible (apply swq; constructor) | simp only [go_sem, seval, pe53, q53, hsl, hg, hd, hlr, hpos, tk, List.length_cons] | simp (disch := omega) only [w64, w32, wu8, wu16, wu32, wu64] | ((with_reducible apply zCo); (case hx => first | rfl | assumption | omega | ((first | refine ⟨?_, ?_⟩ | skip) <;> first | omega | (simp only [lN, hsl, hg, hlr, hel] <;> omega)) | (simp [zAa, D.iV, D.cells, D.cL, D.closed, hsl, hg, hlr, hel]; first | done | omega))) | ((with_reducible first | apply zCm | apply zCn); (case h0 | h1 | hx => first | rfl | assumption | omega | ((first | refine ⟨?_, ?_⟩ | skip) <;> first | omega | (simp only [lN, hsl, hg, hlr, hel] <;> omega)) | (simp [zAa, D.iV, D.cells, D.cL, D.closed, hsl, hg, hlr, hel]; first | done | omega))) | ((with_reducible apply zCl); (case h0 | h1 | h2 | hx => first | rfl | assumption | omega | ((first | refine ⟨?_, ?_⟩ | skip) <;> first | omega | (simp only [lN, hsl, hg, hlr, hel] <;> omega)) | (simp [zAa, D.iV, D.cells, D.cL, D.closed, hsl, hg, hlr, hel]; first | done | omega))) | ((with_reducible first | apply zCj | apply zCk); (case h0 | h1 | hc => first | rfl | assumption | omega | ((first | refine ⟨?_, ?_⟩ | skip) <;> first | omega | (simp only [lN, hsl, hg, hlr, hel] <;> omega)) | (simp [zAa, D.iV, D.cells, D.cL, D.closed, hsl, hg, hlr, hel]; first | done | omega))) | ((with_reducible apply zCi); (case h0 | h1 | h2 | hc => first | rfl | assumption | omega | ((first | refine ⟨?_, ?_⟩ | skip) <;> first | omega | (simp only [lN, hsl, hg, hlr, hel] <;> omega)) | (simp [zAa, D.iV, D.cells, D.cL, D.closed, hsl, hg, hlr, hel]; first | done | omega))) | (with_reducible first | (apply cA; constructor) | (apply gA; constructor)) | ((with_reducible refine And.intro ?hw ?_); (case hw => first | omega | rfl | exact ⟨_, _, rfl⟩ | assumption | (simp only [lN, hsl, hg, hlr, hel] <;> omega))) | with_reducible intro _)
          all_goals try (exfalso; omega)
          refine ⟨j + 1, ⟨by omega, fun t' r' h hk' => by cases h; exact absurd hk' hk⟩, by omega, ?_⟩
          simp [keepE, St.keep, hcons, hpP]
    · obtain rfl : j = ws.length := by omega
      have hd : decide ((ws.length : Int) < ws.length) = false := by simp
      have hgn : gotN k ws l = none := by
        cases l with
        | nil => rfl
        | cons t r => exact gotN_miss fun hk i hi => hb t r rfl hk i hi
      have e1 : gotI k ws l = -1 := by simp [gotI, hgn]
      have e2 : gotR k ws l = l := by simp [gotR, hgn]
      rw [e1, e2]
      unfold hpP
      repeat' (first | with_reducible (apply swq; constructor) | simp only [go_sem, seval, pe53, q53, hsl, hd] | simp (disch := omega) only [w64, w32, wu8, wu16, wu32, wu64] | ((with_reducible apply zCo); (case hx => first | rfl | assumption | omega | ((first | refine ⟨?_, ?_⟩ | skip) <;> first | omega | (simp only [lN, hsl] <;> omega)) | (simp [zAa, D.iV, D.cells, D.cL, D.closed, hsl]; first | done | omega))) | ((with_reducible first | apply zCm | apply zCn); (case h0 | h1 | hx => first | rfl | assumption | omega | ((first | refine ⟨?_, ?_⟩ | skip) <;> first | omega | (simp only [lN, hsl] <;> omega)) | (simp [zAa, D.iV, D.cells, D.cL, D.closed, hsl]; first | done | omega))) | ((with_reducible apply zCl); (case h0 | h1 | h2 | hx => first | rfl | assumption | omega | ((first | refine ⟨?_, ?_⟩ | skip) <;> first | omega | (simp only [lN, hsl] <;> omega)) | (simp [zAa, D.iV, D.cells, D.cL, D.closed, hsl]; first | done | omega))) | ((with_reducible first | apply zCj | apply zCk); (case h0 | h1 | hc => first | rfl | assumption | omega | ((first | refine ⟨?_, ?_⟩ | skip) <;> first | omega | (simp only [lN, hsl] <;> omega)) | (simp [zAa, D.iV, D.cells, D.cL, D.closed, hsl]; first | done | omega))) | ((with_reducible apply zCi); (case h0 | h1 | h2 | hc => first | rfl | assumption | omega | ((first | refine ⟨?_, ?_⟩ | skip) <;> first | omega | (simp only [lN, hsl] <;> omega)) | (simp [zAa, D.iV, D.cells, D.cL, D.closed, hsl]; first | done | omega))) | (with_reducible first | (apply cA; constructor) | (apply gA; constructor)) | ((with_reducible refine And.intro ?hw ?_); (case hw => first | omega | rfl | exact ⟨_, _, rfl⟩ | assumption | (simp only [lN, hsl] <;> omega))) | with_reducible intro _)
      all_goals try (exfalso; omega)
      exact ⟨_, zAn, by simp⟩
theorem need_e (w : Tx) (l : List Tok) (hl : l.length ≤ 100000) (en : Int) {i : Nat} (h : gotN 4 [w] l = some i) : Eff M 59 [.ptr 0 0, .str w] (hpP l en) fun d hp => d = .tup [] ∧ hp = hpP l.tail en := by
  refine k59.oe 1 0 rfl rfl rfl ?_
  rw [ie59]
  unfold c59
  have c1 := got_e 4 [w] (by simp) l hl en
  have e1 : gotI 4 [w] l = i := by simp [gotI, h]
  have e2 : gotR 4 [w] l = l.tail := by simp [gotR, h]
  rw [e1, e2] at c1
  have e3 : strs [w] = [.str w] := rfl
  rw [e3] at c1
  have hd : decide ((i : Int) < 0) = false := by simp
  unfold hpP at c1 ⊢
  generalize tokL l = L at *
  generalize tokL l.tail = L' at *
  repeat' (first | with_reducible (apply swq; constructor) | simp only [go_sem, seval, pe59, q59, hd] | simp (disch := omega) only [w64, w32, wu8, wu16, wu32, wu64] | ((with_reducible refine o_same (c1) ?he ?hh ?_); (case he => first | rfl | (simp [go_sem, seval]; done)); (case hh => first | rfl | (simp [go_sem, seval]; done))) | ((with_reducible apply s_bsl); (case he | hl | hc => first | rfl | assumption | omega | ((first | refine ⟨?_, ?_⟩ | skip) <;> first | omega | (simp only [lN] <;> omega)) | (simp [zAa, D.iV, D.cells, D.cL, D.closed]; first | done | omega))) | with_reducible (apply cA; constructor) | ((with_reducible refine And.intro ?hw ?_); (case hw => first | omega | rfl | exact ⟨_, _, rfl⟩ | assumption | (simp only [lN] <;> omega))) | with_reducible intro _)
  exact ⟨_, zAn, by simp⟩
end Go.Proofs.YtkjnhkoipgdfeaaDoor
end
section
set_option maxRecDepth 100000
set_option linter.unusedSimpArgs false
set_option linter.unusedVariables false
namespace Go.Proofs.YtkjnhkoipgdfeaaDoor
open Go GoV Go.RowKit
@[reducible] def hpG (e p : Int) (T : List Tok) : Hp := ⟨[.cells [.lit (.slice none 0 0)], .cells [.int .i64 e], .cells [.int .i64 p], .cells [.slice (tokL T) (.tok 0)]], [.per 3 T.length]⟩
theorem hr1 : List.range 1 = [0] := rfl
theorem hr4 : List.range 4 = [0, 1, 2, 3] := rfl
theorem hr5 : List.range 5 = [0, 1, 2, 3, 4] := rfl
theorem steadyG (e p : Nat → Int) (T : Nat → List Tok) : Steady (fun k => hpG (e k) (p k) (T k)) 4 1 := by
  refine ⟨fun k => rfl, fun k => rfl, fun k L => ?_, fun k L => ?_, fun k L => ?_⟩
  · simp [Hp.cut, Blk.rnL, Blk.rn, Tv.rnL, Tv.rn, D.rnL, D.rn, zAc, cutF, Own.rn]
  · simp [Hp.sel, hr1, hr4, Blk.rnL, Blk.rn, Tv.rnL, Tv.rn, D.rnL, D.rn, zAc, posF, idx, Own.rn]
  · simp [Hp.back, putAt, hr1, hr4, Blk.rnL, Blk.rn, Tv.rnL, Tv.rn, D.rnL, D.rn, zAc, bakF, Own.rn]
theorem steadyR (e p : Nat → Int) (T : Nat → List Tok) (r : Nat → Obj) : Steady (fun k => ⟨(hpG (e k) (p k) (T k)).H ++ [.raw (r k)], (hpG (e k) (p k) (T k)).tk⟩) 5 1 := by
  refine ⟨fun k => rfl, fun k => rfl, fun k L => ?_, fun k L => ?_, fun k L => ?_⟩
  · simp [Hp.cut, Blk.rnL, Blk.rn, Tv.rnL, Tv.rn, D.rnL, D.rn, zAc, cutF, Own.rn]
  · simp [Hp.sel, hr1, hr5, Blk.rnL, Blk.rn, Tv.rnL, Tv.rn, D.rnL, D.rn, zAc, posF, idx, Own.rn]
  · simp [Hp.back, putAt, hr1, hr5, Blk.rnL, Blk.rn, Tv.rnL, Tv.rn, D.rnL, D.rn, zAc, bakF, Own.rn]
def tks (t : Tx) (k : Nat) : List Tok := ((lexR t).take k).map Fo.tok
def zBw (t : Tx) (k : Nat) : Bool := isErr t && decide (k = (lexR t).length)
def lastF (t : Tx) : Fo := ((lexR t).getLast?).getD ⟨⟨0, [], 0⟩, 0⟩
def eK (t : Tx) (k : Nat) : Int := if zBw t k then (lastF t).err else 0
def pK (t : Tx) (k : Nat) : Int := if zBw t k then (lastF t).tok.pos else 0
def tK (t : Tx) (k : Nat) : List Tok := if zBw t k then tks t (k - 1) else tks t k
theorem lexF_len : ∀ (a : Nat) (s : Tx) (i : Nat), (lexF a s i).length ≤ a
  | 0, s, i => by simp [lexF]
  | a + 1, s, i => by
    simp only [lexF]
    split
    · simp
    · cases (step s i).2 with
      | none => have := lexF_len a (s.drop (step s i).1) (i + (step s i).1); simp only; omega
      | some f =>
        simp only
        split
        · have := lexF_len a (s.drop (step s i).1) (i + (step s i).1); simp; omega
        · simp
theorem lexR_len (t : Tx) : (lexR t).length ≤ t.length := lexF_len _ _ _
theorem lexF_ok : ∀ (a : Nat) (s : Tx) (i k : Nat) (f : Fo), (lexF a s i)[k]? = some f → k + 1 < (lexF a s i).length → f.err = 0
  | 0, s, i, k, f, h, hk => by simp [lexF] at hk
  | a + 1, s, i, k, f, h, hk => by
    simp only [lexF] at h hk
    split at h
    · simp at h
    · rename_i hne
      rw [if_neg hne] at hk
      cases hs : (step s i).2 with
      | none =>
        simp only [hs] at h hk
        exact lexF_ok a _ _ k f h hk
      | some g =>
        simp only [hs] at h hk
        split at h
        · rename_i he
          rw [if_pos he] at hk
          cases k with
          | zero => simp at h; rw [← h]; exact he
          | succ k =>
            simp at h hk
            exact lexF_ok a _ _ k f h hk
        · rename_i he
          rw [if_neg he] at hk
          simp at hk
theorem last_of {t : Tx} {k : Nat} {f : Fo} (h : (lexR t)[k]? = some f) (hk : k + 1 = (lexR t).length) : lastF t = f := by
  unfold lastF
  rw [List.getLast?_eq_getElem?, ← hk, Nat.add_sub_cancel, h]; rfl
theorem zEn {t : Tx} (h : (lexR t) ≠ []) : isErr t = !((lastF t).err == 0) := by
  unfold isErr lastF
  cases hg : (lexR t).getLast? with
  | none => exact absurd (List.getLast?_eq_none_iff.1 hg) h
  | some f => rfl
theorem lexP_err {t : Tx} (h : isErr t = true) : lexP t = ([], (lastF t).err, (lastF t).tok.pos) := by
  have hne : lexR t ≠ [] := fun e => by simp [isErr, e] at h
  have he : (lastF t).err ≠ 0 := by rw [zEn hne] at h; simpa using h
  have hb : bad (lexR t) = some (lastF t) := by
    unfold bad
    have hl : (lexR t).getLast? = some (lastF t) := by
      unfold lastF
      cases hg : (lexR t).getLast? with
      | none => exact absurd (List.getLast?_eq_none_iff.1 hg) hne
      | some f => rfl
    rw [List.find?_eq_some_iff_getElem]
    refine ⟨by simp [he], (lexR t).length - 1, by have := List.length_pos_iff.2 hne; omega, ?_, fun j hj => ?_⟩
    · rw [List.getLast?_eq_getElem?] at hl
      rw [List.getElem?_eq_getElem (by have := List.length_pos_iff.2 hne; omega)] at hl
      exact Option.some.inj hl
    · have := lexF_ok _ _ _ j (lexR t)[j] (List.getElem?_eq_getElem _) (by show j + 1 < (lexR t).length; omega)
      simp [this]
  unfold lexP
  rw [hb]
theorem lexP_ok {t : Tx} (h : isErr t = false) : lexP t = ((lexR t).map Fo.tok, 0, 0) := by
  have hb : bad (lexR t) = none := by
    unfold bad
    rw [List.find?_eq_none]
    intro f hf
    obtain ⟨k, hk, rfl⟩ := List.getElem_of_mem hf
    by_cases hl : k + 1 = (lexR t).length
    · have h1 := last_of (List.getElem?_eq_getElem hk) hl
      have h2 := zEn (t := t) (fun e => by rw [e] at hk; simp at hk)
      rw [h, h1] at h2
      simpa using h2.symm
    · have := lexF_ok _ _ _ k (lexR t)[k] (List.getElem?_eq_getElem _) (by show k + 1 < (lexR t).length; omega)
      simp [this]
  unfold lexP
  rw [hb]
end Go.Proofs.YtkjnhkoipgdfeaaDoor
end
section
set_option maxRecDepth 100000
set_option linter.unusedSimpArgs false
set_option linter.unusedVariables false
namespace Go.Proofs.YtkjnhkoipgdfeaaDoor
open Go GoV Go.RowKit
theorem reg27 {C : Cfg} {f : Fo} {O : D} {tk : List Tv} {e : List D} (he1 : e[1]? = some (.ptr 0 0)) (he2 : e[2]? = some (.ptr 1 0)) (he3 : e[3]? = some (.ptr 2 0)) (he5 : e[5]? = some (.ptr 4 0)) (Q : Ex → St → Prop)
    (hQ : Q .normal ⟨e, [], ⟨[.cells [.lit (.slice none 0 0)], .cells [.int .i64 f.err], .cells [.int .i64 f.tok.pos], .cells [O], .cells f.cells], tk⟩⟩) :
    SWp C (.regD r27_7 r27_8) Q ⟨e, [], ⟨[.cells [.lit (.slice none 0 0)], .cells [.int .i64 0], .cells [.int .i64 0], .cells [O], .cells f.cells], tk⟩⟩ := by
  have still : ∀ i, i ≠ 6 → Still (fun E => (⟨[.cells [.lit (.slice none 0 0)], .cells [if E 6 then .int .i64 f.err else .int .i64 0], .cells [.int .i64 0], .cells [O], .cells f.cells], tk⟩ : Hp)) i := fun i h E _ => by
    have : (6 == i) = false := by rw [beq_eq_false_iff_ne]; omega
    simp [this]
  refine zCy (fun E => ⟨[.cells [.lit (.slice none 0 0)], .cells [if E 6 then .int .i64 f.err else .int .i64 0], .cells [.int .i64 0], .cells [O], .cells f.cells], tk⟩) (by simp) ?_
  refine y_q (ds := [.ptr 4 0]) (.ptr 4 3) (by simp [go_sem, he5]) (still _ (by decide)) (fun _ => by simp [OcWp, zAd, isPan, opWp]) ?_
  refine y_c (ds := [.ptr 4 3]) (d := .int .i64 f.err) (by simp [go_sem]) (fun E hE => ?_) ?_
  · simp [OcWp, zAd, isPan, opWp, Blk.csq]
  refine y_q (ds := [.ptr 4 0]) (.ptr 4 0) (by simp [go_sem, he5]) (still _ (by decide)) (fun _ => by simp [OcWp, zAd, isPan, opWp]) ?_
  refine y_q (ds := [.ptr 4 0]) (.ptr 4 2) (by simp [go_sem]) (still _ (by decide)) (fun _ => by simp [OcWp, zAd, isPan, opWp]) ?_
  refine y_c (ds := [.ptr 4 2]) (d := .int .i64 f.tok.pos) (by simp [go_sem]) (fun E hE => ?_) ?_
  · simp [OcWp, zAd, isPan, opWp, Blk.csq]
  refine y_c (ds := [.ptr 0 0, .lit (.slice none 0 0)]) (d := .skip) (by simp [go_sem, he1]) (fun E hE => ?_) ?_
  · simp [OcWp, zAd, isPan, opWp, Blk.csq, Blk.putc, D.iV, D.cells, setL]
  refine y_c (ds := [.ptr 1 0, .int .i64 f.err]) (d := .skip) (by simp [go_sem, he2]) (fun E hE => ?_) ?_
  · have hE' : E 6 = false := hE
    simp [OcWp, zAd, isPan, opWp, hE', Blk.csq, Blk.putc, D.iV, D.cells, setL]
  refine y_end (hp' := ⟨[.cells [.lit (.slice none 0 0)], .cells [.int .i64 f.err], .cells [.int .i64 0], .cells [O], .cells f.cells], tk⟩) (by simp) ?_
  simp only [go_sem, he1, he2, he3, he5]
  simp [go_sem, he1, he2, he3, he5, setL, D.iV, D.cells, St.done]
  exact hQ
theorem rnL_app2 (β τ : Nat → Option Nat) : ∀ a b : List D, D.rnL β τ (a ++ b) = D.rnL β τ a ++ D.rnL β τ b
  | [], b => rfl
  | d :: a, b => by simp [D.rnL, rnL_app2 β τ a b]
set_option maxHeartbeats 2000000 in
theorem lex_p (t : Tx) (ht : t.length ≤ 4999) (hq : QuoteOk t) : Pur M 27 [.str t] (.tup [.slice (tokL (lexP t).1) .no, .int .i64 (lexP t).2.1, .int .i64 (lexP t).2.2]) := by
  refine oT27 rfl ?_
  rw [i27]
  unfold c27
  have h1 := tokens_p t
  have hit := toks_it t (by omega) hq
  have hrl : (rows t).length = (lexR t).length := by simp [rows]
  have hll := lexR_len t
  have hd0 : decide ((t.length : Int) > 20000) = false := by simp; omega
  repeat' (first | with_reducible (apply swq; constructor) | with_reducible apply twp_seq | with_reducible apply zD3 | ((with_reducible refine twp_reg ?hb ?_); (case hb => exact fun _ _ => trivial); with_reducible intro _) | ((with_reducible refine zFg ?hb ?_); (case hb => exact fun _ _ => trivial); with_reducible intro _) | ((with_reducible refine zFh ?hb ?_); (case hb => exact fun _ _ => trivial); with_reducible intro _) | ((with_reducible refine twp_ret ?hb ?_); (case hb => exact fun _ _ => trivial)) | simp only [go_sem, seval, P27, q27, hd0] | simp (disch := omega) only [w64, w32, wu8, wu16, wu32, wu64] | ((with_reducible refine zAb (h1) ?he ?hc ?_); (case he | hc => first | rfl | (simp [D.erL, D.er, D.cL, D.closed]; done))) | ((with_reducible apply zA2); (case he => rfl); (case hK | hc | hr | hV => first | rfl | assumption | omega | ((first | refine ⟨?_, ?_⟩ | skip) <;> first | omega | (simp only [lN] <;> omega)) | (simp [zAa, D.iV, D.cells, D.cL, D.closed]; first | done | omega))) | ((with_reducible apply zA3); (case he => rfl); (case hV | hK | hr | hl => first | rfl | assumption | omega | ((first | refine ⟨?_, ?_⟩ | skip) <;> first | omega | (simp only [lN] <;> omega)) | (simp [zAa, D.iV, D.cells, D.cL, D.closed]; first | done | omega))) | ((with_reducible apply zA5); (case he => rfl); (case hK | hc | hr => first | rfl | assumption | omega | ((first | refine ⟨?_, ?_⟩ | skip) <;> first | omega | (simp only [lN] <;> omega)) | (simp [zAa, D.iV, D.cells, D.cL, D.closed]; first | done | omega))) | ((with_reducible apply zA4); (case he => rfl); (case hK | hc | hr | hx | hn => first | rfl | assumption | omega | ((first | refine ⟨?_, ?_⟩ | skip) <;> first | omega | (simp only [lN] <;> omega)) | (simp [zAa, D.iV, D.cells, D.cL, D.closed]; first | done | omega))) | ((with_reducible apply s_bsl); (case he | hl | hc => first | rfl | assumption | omega | ((first | refine ⟨?_, ?_⟩ | skip) <;> first | omega | (simp only [lN] <;> omega)) | (simp [zAa, D.iV, D.cells, D.cL, D.closed]; first | done | omega))) | with_reducible (apply cA; constructor) | ((with_reducible refine And.intro ?hw ?_); (case hw => first | omega | rfl | exact ⟨_, _, rfl⟩ | assumption | (simp only [lN] <;> omega))) | with_reducible intro _)
  all_goals try (exfalso; omega)
  refine twp_weak (fun _ => zFd 3 0 3 (by decide) rfl rfl) ?_
  have hs0 : ∀ k, k < (lexR t).length → zBw t k = false := fun k hk => by
    have : ¬ k = (lexR t).length := by omega
    simp [zBw, this]
  refine twp_rangeS (fun _ _ => trivial) hit (fun k => hpG (eK t k) (pK t k) (tK t k)) 4 1 (steadyG _ _ _) (fun r => steadyR _ _ _ r) ?hrow ?hstp rfl ?hlen ?h0 ?hr ?hd
  case hrow =>
    intro r hr
    obtain ⟨f, _, rfl⟩ := List.mem_map.1 hr
    simp [rowD, D.rnL, D.rn]
  case hstp =>
    intro h e
    have e2 : lexR t = [] := by simpa [rows] using e
    simp [isErr, e2] at h
  case hlen =>
    intro r hr
    obtain ⟨f, _, rfl⟩ := List.mem_map.1 hr
    rfl
  case h0 =>
    by_cases h : (lexR t).length = 0
    · have e2 : lexR t = [] := List.length_eq_zero_iff.1 h
      have e3 : isErr t = false := by simp [isErr, e2]
      simp [eK, pK, tK, zBw, e3, tks, tokL, hpG]
    · simp [eK, pK, tK, hs0 0 (by omega), tks, tokL, hpG]
  case hr =>
    intro k r hk
    have hkl : k < (lexR t).length := by rw [← hrl]; exact (List.getElem?_eq_some_iff.1 hk).1
    obtain ⟨f, hf, rfl⟩ : ∃ f, (lexR t)[k]? = some f ∧ rowD f = r := by
      have : (rows t)[k]? = some (rowD (lexR t)[k]) := by simp [rows, hkl]
      exact ⟨_, List.getElem?_eq_getElem hkl, Option.some.inj (this.symm.trans hk)⟩
    have z1 : eK t k = 0 := by simp [eK, hs0 k hkl]
    have z2 : pK t k = 0 := by simp [pK, hs0 k hkl]
    have z3 : tK t k = tks t k := by simp [tK, hs0 k hkl]
    have zl : (tks t k).length = k := by simp [tks]; omega
    simp only [z1, z2, z3, binds, rowD]
    by_cases he : f.err = 0
    · have hns : zBw t (k + 1) = false := by
        by_cases hl : k + 1 = (lexR t).length
        · have h2 := zEn (t := t) (fun e => by rw [e] at hkl; simp at hkl)
          rw [last_of hf hl, he] at h2
          simp [zBw, h2]
        · simp [zBw, hl]
      have y1 : yans (rows t) (isErr t) k = true := by
        have : (lexR t).drop k = f :: (lexR t).drop (k + 1) := by
          rw [List.drop_eq_getElem_cons hkl]; congr 1
          rw [List.getElem?_eq_getElem hkl] at hf; exact Option.some.inj hf
        exact yes_row this he
      have w1 : eK t (k + 1) = 0 := by simp [eK, hns]
      have w2 : pK t (k + 1) = 0 := by simp [pK, hns]
      have w3 : tK t (k + 1) = tks t k ++ [f.tok] := by
        simp only [tK, hns, Bool.false_eq_true, if_false, tks]
        rw [List.take_succ_eq_append_getElem hkl, List.map_append]
        rw [List.getElem?_eq_getElem hkl] at hf
        rw [Option.some.inj hf]; rfl
      rw [w1, w2, w3]
      have h0 : (f.err != 0) = false := by simp [he]
      have hT := tokL_len (tks t k)
      have hel := zDg (tks t k)
      have h5 : (((tks t k).length : Int) == 5000) = false := by rw [beq_eq_false_iff_ne]; omega
      have happ : tokL (tks t k ++ [f.tok]) = tokL (tks t k) ++ [f.tok.d] := by simp [tokL]
      generalize tks t k = T at *
      repeat' (first | with_reducible (apply swq; constructor) | with_reducible apply twp_seq | with_reducible apply zD3 | ((with_reducible refine twp_reg ?hb ?_); (case hb => exact fun _ _ => trivial); with_reducible intro _) | ((with_reducible refine zFg ?hb ?_); (case hb => exact fun _ _ => trivial); with_reducible intro _) | ((with_reducible refine zFh ?hb ?_); (case hb => exact fun _ _ => trivial); with_reducible intro _) | ((with_reducible refine twp_ret ?hb ?_); (case hb => exact fun _ _ => trivial)) | simp only [go_sem, seval, P27, q27, h0, hT, h5] | simp (disch := omega) only [w64, w32, wu8, wu16, wu32, wu64] | ((with_reducible apply zA2); (case he => rfl); (case hK | hc | hr | hV => first | rfl | assumption | omega | ((first | refine ⟨?_, ?_⟩ | skip) <;> first | omega | (simp only [lN, hT, hel] <;> omega)) | (simp [zAa, D.iV, D.cells, D.cL, D.closed, hT, hel]; first | done | omega))) | ((with_reducible apply zA3); (case he => rfl); (case hV | hK | hr | hl => first | rfl | assumption | omega | ((first | refine ⟨?_, ?_⟩ | skip) <;> first | omega | (simp only [lN, hT, hel] <;> omega)) | (simp [zAa, D.iV, D.cells, D.cL, D.closed, hT, hel]; first | done | omega))) | ((with_reducible apply zA5); (case he => rfl); (case hK | hc | hr => first | rfl | assumption | omega | ((first | refine ⟨?_, ?_⟩ | skip) <;> first | omega | (simp only [lN, hT, hel] <;> omega)) | (simp [zAa, D.iV, D.cells, D.cL, D.closed, hT, hel]; first | done | omega))) | ((with_reducible apply zA4); (case he => rfl); (case hK | hc | hr | hx | hn => first | rfl | assumption | omega | ((first | refine ⟨?_, ?_⟩ | skip) <;> first | omega | (simp only [lN, hT, hel] <;> omega)) | (simp [zAa, D.iV, D.cells, D.cL, D.closed, hT, hel]; first | done | omega))) | ((with_reducible apply s_bsl); (case he | hl | hc => first | rfl | assumption | omega | ((first | refine ⟨?_, ?_⟩ | skip) <;> first | omega | (simp only [lN, hT, hel] <;> omega)) | (simp [zAa, D.iV, D.cells, D.cL, D.closed, hT, hel]; first | done | omega))) | with_reducible (apply cA; constructor) | ((with_reducible refine And.intro ?hw ?_); (case hw => first | omega | rfl | exact ⟨_, _, rfl⟩ | assumption | (simp only [lN, hT, hel] <;> omega))) | with_reducible intro _)
      all_goals try (exfalso; omega)
      refine ⟨_, zAn, ?_⟩
      simp [Hp.cut, Blk.rnL, Blk.rn, Tv.rnL, Tv.rn, D.rnL, D.rn, zAc, cutF, Own.rn, happ, hpG, rnL_app2]
    · have hkk : k + 1 = (lexR t).length := by
        rcases Nat.lt_or_ge (k + 1) (lexR t).length with q | q
        · exact absurd (lexF_ok _ _ _ k f hf q) he
        · omega
      have hlast := last_of hf hkk
      have hE : isErr t = true := by
        rw [zEn (t := t) (fun e => by rw [e] at hkl; simp at hkl), hlast]; simp [he]
      have hns : zBw t (k + 1) = true := by simp [zBw, hkk, hE]
      have y1 : yans (rows t) (isErr t) k = false := by simp [yans, hE, hrl, hkk]
      have w1 : eK t (k + 1) = f.err := by simp [eK, hns, hlast]
      have w2 : pK t (k + 1) = f.tok.pos := by simp [pK, hns, hlast]
      have w3 : tK t (k + 1) = tks t k := by simp [tK, hns]
      rw [w1, w2, w3]
      have h0 : (f.err != 0) = true := by simp [he]
      generalize tks t k = T at *
      obtain ⟨RA, hRA⟩ : ∃ R, R = (RC.regD r27_7 r27_8) := ⟨_, rfl⟩
      rw [← hRA]
      repeat' (first | with_reducible (apply swq; constructor) | with_reducible apply twp_seq | with_reducible apply zD3 | ((with_reducible refine twp_reg ?hb ?_); (case hb => exact fun _ _ => trivial); with_reducible intro _) | ((with_reducible refine zFg ?hb ?_); (case hb => exact fun _ _ => trivial); with_reducible intro _) | ((with_reducible refine zFh ?hb ?_); (case hb => exact fun _ _ => trivial); with_reducible intro _) | ((with_reducible refine twp_ret ?hb ?_); (case hb => exact fun _ _ => trivial)) | simp only [go_sem, seval, P27, q27, h0] | simp (disch := omega) only [w64, w32, wu8, wu16, wu32, wu64] | ((with_reducible apply zA2); (case he => rfl); (case hK | hc | hr | hV => first | rfl | assumption | omega | ((first | refine ⟨?_, ?_⟩ | skip) <;> first | omega | (simp only [lN] <;> omega)) | (simp [zAa, D.iV, D.cells, D.cL, D.closed]; first | done | omega))) | ((with_reducible apply zA3); (case he => rfl); (case hV | hK | hr | hl => first | rfl | assumption | omega | ((first | refine ⟨?_, ?_⟩ | skip) <;> first | omega | (simp only [lN] <;> omega)) | (simp [zAa, D.iV, D.cells, D.cL, D.closed]; first | done | omega))) | ((with_reducible apply zA5); (case he => rfl); (case hK | hc | hr => first | rfl | assumption | omega | ((first | refine ⟨?_, ?_⟩ | skip) <;> first | omega | (simp only [lN] <;> omega)) | (simp [zAa, D.iV, D.cells, D.cL, D.closed]; first | done | omega))) | ((with_reducible apply zA4); (case he => rfl); (case hK | hc | hr | hx | hn => first | rfl | assumption | omega | ((first | refine ⟨?_, ?_⟩ | skip) <;> first | omega | (simp only [lN] <;> omega)) | (simp [zAa, D.iV, D.cells, D.cL, D.closed]; first | done | omega))) | ((with_reducible apply s_bsl); (case he | hl | hc => first | rfl | assumption | omega | ((first | refine ⟨?_, ?_⟩ | skip) <;> first | omega | (simp only [lN] <;> omega)) | (simp [zAa, D.iV, D.cells, D.cL, D.closed]; first | done | omega))) | with_reducible (apply cA; constructor) | ((with_reducible refine And.intro ?hw ?_); (case hw => first | omega | rfl | exact ⟨_, _, rfl⟩ | assumption | (simp only [lN] <;> omega))) | with_reducible intro _)
      all_goals try (exfalso; omega)
      subst hRA
      refine reg27 rfl rfl rfl rfl _ ?_
      repeat' (first | with_reducible (apply swq; constructor) | with_reducible apply twp_seq | with_reducible apply zD3 | ((with_reducible refine twp_reg ?hb ?_); (case hb => exact fun _ _ => trivial); with_reducible intro _) | ((with_reducible refine zFg ?hb ?_); (case hb => exact fun _ _ => trivial); with_reducible intro _) | ((with_reducible refine zFh ?hb ?_); (case hb => exact fun _ _ => trivial); with_reducible intro _) | ((with_reducible refine twp_ret ?hb ?_); (case hb => exact fun _ _ => trivial)) | simp only [go_sem, seval, P27, q27] | simp (disch := omega) only [w64, w32, wu8, wu16, wu32, wu64] | ((with_reducible apply zA2); (case he => rfl); (case hK | hc | hr | hV => first | rfl | assumption | omega | ((first | refine ⟨?_, ?_⟩ | skip) <;> first | omega | (simp only [lN] <;> omega)) | (simp [zAa, D.iV, D.cells, D.cL, D.closed]; first | done | omega))) | ((with_reducible apply zA3); (case he => rfl); (case hV | hK | hr | hl => first | rfl | assumption | omega | ((first | refine ⟨?_, ?_⟩ | skip) <;> first | omega | (simp only [lN] <;> omega)) | (simp [zAa, D.iV, D.cells, D.cL, D.closed]; first | done | omega))) | ((with_reducible apply zA5); (case he => rfl); (case hK | hc | hr => first | rfl | assumption | omega | ((first | refine ⟨?_, ?_⟩ | skip) <;> first | omega | (simp only [lN] <;> omega)) | (simp [zAa, D.iV, D.cells, D.cL, D.closed]; first | done | omega))) | ((with_reducible apply zA4); (case he => rfl); (case hK | hc | hr | hx | hn => first | rfl | assumption | omega | ((first | refine ⟨?_, ?_⟩ | skip) <;> first | omega | (simp only [lN] <;> omega)) | (simp [zAa, D.iV, D.cells, D.cL, D.closed]; first | done | omega))) | ((with_reducible apply s_bsl); (case he | hl | hc => first | rfl | assumption | omega | ((first | refine ⟨?_, ?_⟩ | skip) <;> first | omega | (simp only [lN] <;> omega)) | (simp [zAa, D.iV, D.cells, D.cL, D.closed]; first | done | omega))) | with_reducible (apply cA; constructor) | ((with_reducible refine And.intro ?hw ?_); (case hw => first | omega | rfl | exact ⟨_, _, rfl⟩ | assumption | (simp only [lN] <;> omega))) | with_reducible intro _)
      refine ⟨_, zAn, ?_⟩
      simp [Hp.cut, Blk.rnL, Blk.rn, Tv.rnL, Tv.rn, D.rnL, D.rn, zAc, cutF, Own.rn, hpG]
  case hd =>
    intro o
    rw [hrl]
    cases hE : isErr t
    · rw [lexP_ok hE]
      have hns : zBw t (lexR t).length = false := by simp [zBw, hE]
      have w1 : eK t (lexR t).length = 0 := by simp [eK, hns]
      have w2 : pK t (lexR t).length = 0 := by simp [pK, hns]
      have w3 : tK t (lexR t).length = (lexR t).map Fo.tok := by simp [tK, hns, tks]
      rw [w1, w2, w3]
      simp only [Bool.false_eq_true, if_false]
      generalize (lexR t).map Fo.tok = T at *
      have hel := zDg T
      have her := tokL_er T
      have hcl := tokL_cl T
      generalize tokL T = LT at *
      repeat' (first | with_reducible (apply swq; constructor) | with_reducible apply twp_seq | with_reducible apply zD3 | ((with_reducible refine twp_reg ?hb ?_); (case hb => exact fun _ _ => trivial); with_reducible intro _) | ((with_reducible refine zFg ?hb ?_); (case hb => exact fun _ _ => trivial); with_reducible intro _) | ((with_reducible refine zFh ?hb ?_); (case hb => exact fun _ _ => trivial); with_reducible intro _) | ((with_reducible refine twp_ret ?hb ?_); (case hb => exact fun _ _ => trivial)) | simp only [go_sem, seval, P27, q27] | simp (disch := omega) only [w64, w32, wu8, wu16, wu32, wu64] | ((with_reducible apply zA2); (case he => rfl); (case hK | hc | hr | hV => first | rfl | assumption | omega | ((first | refine ⟨?_, ?_⟩ | skip) <;> first | omega | (simp only [lN, hel] <;> omega)) | (simp [zAa, D.iV, D.cells, D.cL, D.closed, hel]; first | done | omega))) | ((with_reducible apply zA3); (case he => rfl); (case hV | hK | hr | hl => first | rfl | assumption | omega | ((first | refine ⟨?_, ?_⟩ | skip) <;> first | omega | (simp only [lN, hel] <;> omega)) | (simp [zAa, D.iV, D.cells, D.cL, D.closed, hel]; first | done | omega))) | ((with_reducible apply zA5); (case he => rfl); (case hK | hc | hr => first | rfl | assumption | omega | ((first | refine ⟨?_, ?_⟩ | skip) <;> first | omega | (simp only [lN, hel] <;> omega)) | (simp [zAa, D.iV, D.cells, D.cL, D.closed, hel]; first | done | omega))) | ((with_reducible apply zA4); (case he => rfl); (case hK | hc | hr | hx | hn => first | rfl | assumption | omega | ((first | refine ⟨?_, ?_⟩ | skip) <;> first | omega | (simp only [lN, hel] <;> omega)) | (simp [zAa, D.iV, D.cells, D.cL, D.closed, hel]; first | done | omega))) | ((with_reducible apply s_bsl); (case he | hl | hc => first | rfl | assumption | omega | ((first | refine ⟨?_, ?_⟩ | skip) <;> first | omega | (simp only [lN, hel] <;> omega)) | (simp [zAa, D.iV, D.cells, D.cL, D.closed, hel]; first | done | omega))) | with_reducible (apply cA; constructor) | ((with_reducible refine And.intro ?hw ?_); (case hw => first | omega | rfl | exact ⟨_, _, rfl⟩ | assumption | (simp only [lN, hel] <;> omega))) | with_reducible intro _)
      refine ⟨_, fun _ => zAn, ?_⟩
      simp [D.closed, D.er, D.cL, D.erL, hcl, her, go_sem, setL]
    · rw [lexP_err hE]
      have hne : lexR t ≠ [] := fun e => by simp [isErr, e] at hE
      have hns : zBw t (lexR t).length = true := by simp [zBw, hE]
      have w1 : eK t (lexR t).length = (lastF t).err := by simp [eK, hns]
      have w2 : pK t (lexR t).length = (lastF t).tok.pos := by simp [pK, hns]
      rw [w1, w2]
      simp only [if_true]
      refine ⟨trivial, _, fun _ => zFd 0 0 1 (by decide) rfl rfl, ?_⟩
      simp [go_sem, D.closed, D.cL, D.er, D.erL, tokL]
end Go.Proofs.YtkjnhkoipgdfeaaDoor
end
section
set_option maxRecDepth 100000
set_option linter.unusedSimpArgs false
set_option linter.unusedVariables false
namespace Go.Proofs.YtkjnhkoipgdfeaaDoor
open Go GoV Go.RowKit
def numOk (s : Tx) : Prop := s ≠ [] ∧ s.all isDig = true ∧ s.length ≤ 7
def GoodT (l : List Tok) : Prop := ∀ t ∈ l, t.kind = 2 → numOk t.text
theorem GoodT.suf {l r : List Tok} (h : GoodT l) (hs : r <:+ l) : GoodT r := fun t ht => h t (hs.subset ht)
def OpOk (f : FuncId) (op : List Tok → PR) (en : Int) (N : Nat) : Prop := ∀ l g r, l.length ≤ N → GoodT l → op l = .ok g r →
  (Eff M f [.ptr 0 0] (hpP l en) fun d hp => d = g.d ∧ hp = hpP r en) ∧ r.length < l.length ∧ r <:+ l
theorem zD8 {k : Int} {ws : List Tx} {l : List Tok} {i : Nat} (h : gotN k ws l = some i) : ∃ t r, l = t :: r ∧ gotI k ws l = i ∧ gotR k ws l = r ∧ i < ws.length ∧ t.kind = k ∧ t.text = ws.getD i [] := by
  cases l with
  | nil => simp [gotN] at h
  | cons t r =>
    refine ⟨t, r, rfl, by simp [gotI, h], by simp [gotR, h], ?_⟩
    simp only [gotN] at h
    split at h
    · rename_i hk
      rw [List.findIdx?_eq_some_iff_getElem] at h
      obtain ⟨h1, h2, _⟩ := h
      refine ⟨h1, hk, ?_⟩
      have := eq_of_beq h2
      simp [List.getD, h1, this]
    · cases h
theorem gotN_none {k : Int} {ws : List Tx} {l : List Tok} (h : gotN k ws l = none) : gotI k ws l = -1 ∧ gotR k ws l = l := by simp [gotI, gotR, h]
theorem reg45 {C : Cfg} {F0 : FuncId} {g g' : F} {lt r' : List Tok} {en first : Int} {i : Nat} (hf : -1000 ≤ first) (hf2 : first ≤ 1000) (hi : i ≤ 10) {e : List D}
    (he1 : e[1]? = some (.int .i64 first)) (he2 : e[2]? = some (.fn (.func F0) [.ptr 0 0] [])) (he5 : e[5]? = some (.ptr 2 0)) (he6 : e[6]? = some (.int .i64 (i : Nat)))
    (hc : Eff C.M F0 [.ptr 0 0] (hpP lt en) fun d hp => d = g'.d ∧ hp = hpP r' en) (Q : Ex → St → Prop)
    (hQ : ∃ s1, Weak C ⟨e, [], ⟨[.cells [.slice (tokL r') .no, .int .i64 en], .cells [.int .i64 0, .int .i64 0, .lit (.slice none 0 0)], .cells [.int .i64 (first + i), .int .i64 0, .slice [g.d, g'.d] .full]], []⟩⟩ s1 ∧ Q .normal s1) :
    SWp C (.regD r45_5 r45_6) Q ⟨e, [], ⟨[.cells [.slice (tokL lt) .no, .int .i64 en], .cells [.int .i64 0, .int .i64 0, .lit (.slice none 0 0)], .cells g.cells], []⟩⟩ := by
  refine zFk (Q := fun x s' => x = .normal ∧ s' = ⟨e, [], ⟨[.cells [.slice (tokL r') .no, .int .i64 en], .cells [.int .i64 0, .int .i64 0, .lit (.slice none 0 0)], .cells [.int .i64 (first + i), .int .i64 0, .slice [g.d, g'.d] .full]], []⟩⟩) ?_ (fun x s' hx => by
    obtain ⟨rfl, rfl⟩ := hx; exact hQ)
  obtain ⟨F, hF⟩ : ∃ F : (Nat → Bool) → Hp, F = fun E => ⟨[if E 5 then .cells [.slice (tokL r') .no, .int .i64 en] else .cells [.slice (tokL lt) .no, .int .i64 en], .cells [.int .i64 0, .int .i64 0, .lit (.slice none 0 0)], .cells g.cells], []⟩ := ⟨_, rfl⟩
  have still : ∀ i, i ≠ 5 → Still F i := fun i h E _ => by
    have : (5 == i) = false := by rw [beq_eq_false_iff_ne]; omega
    simp [hF, this]
  have hgd := g.d_eq
  have hgd' := g'.d_eq
  refine zCy F (by simp [hF]) ?_
  refine y_q (ds := [.int .i64 first]) (.int .i64 first) (by simp [go_sem, he1]) (still _ (by decide)) (fun _ => by simp [OcWp, zAd, isPan, opWp]) ?_
  refine y_q (ds := [.int .i64 (i : Nat)]) (.int .i64 (i : Nat)) (by simp [go_sem, he6]) (still _ (by decide)) (fun _ => by simp [OcWp, zAd, isPan, opWp]) ?_
  refine y_q (ds := [.int .i64 first, .int .i64 (i : Nat)]) (.int .i64 (first + i)) (by simp [go_sem]) (still _ (by decide)) (fun _ => by
    simp only [OcWp, zAd, isPan, opWp, binWp, Bool.false_eq_true, if_false]
    rw [w64 (by omega) (by omega)]; simp) ?_
  refine y_c (ds := [.ptr 2 0]) (d := .agg g.cells) (by simp [go_sem, he5]) (fun E hE => ?_) ?_
  · rw [still 3 (by decide) E hE]; simp [hF, OcWp, zAd, isPan, opWp, Blk.csq]
  refine y_q (ds := [.fn (.func F0) [.ptr 0 0] []]) (.fn (.func F0) [.ptr 0 0] []) (by simp [go_sem, he2]) (still _ (by decide)) (fun _ => by simp [OcWp, zAd, isPan, opWp]) ?_
  refine y_c (ds := [.fn (.func F0) [.ptr 0 0] []]) (d := g'.d) (by simp [go_sem]) (fun E hE => ?_) ?_
  · have hE' : E 5 = false := hE
    simp only [OcWp, zAd, isPan, if_true]
    refine zFy [0] [] hc ⟨by simp, by simp, by simp [hF], by simp⟩ (by simp [D.rnL, D.rn, posF, idx]) (by simp [hF, hE', hpP, Hp.sel, Blk.rnL, Blk.rn, Tv.rnL, D.rnL, D.rn, zAc, Own.rn]) ?_
    rintro d hp1 ⟨rfl, rfl⟩
    refine ⟨rn_F _ _ _, ?_⟩
    simp [hF, hE', hpP, Hp.back, putAt, Blk.rnL, Blk.rn, Tv.rnL, D.rnL, D.rn, zAc, Own.rn]
  have hva := F_isVal g
  have hvb := F_isVal g'
  have hca := cl_F g
  have hcb := cl_F g'
  refine y_q (ds := [.agg g.cells, g'.d]) (.slice [g.d, g'.d] .full) (by simp [go_sem]) (still _ (by decide)) (fun _ => by
    rw [← hgd]
    simp [OcWp, zAd, isPan, opWp, zAa, hva, hvb, D.cL, hca, hcb, D.erL, er_F]) ?_
  refine y_end (hp' := ⟨[.cells [.slice (tokL r') .no, .int .i64 en], .cells [.int .i64 0, .int .i64 0, .lit (.slice none 0 0)], .cells g.cells], []⟩) (by simp [hF]) ?_
  simp only [go_sem, he1, he2, he5, he6]
  simp [go_sem, he1, he2, he5, he6, setL, D.iV, D.cells, St.done, fillL]
set_option maxHeartbeats 2000000 in
theorem chain_e {F0 : FuncId} {op : List Tok → PR} {en : Int} {N : Nat} (hop : OpOk F0 op en N) (hN : N ≤ 100000) (first : Int) (hf : -1000 ≤ first) (hf2 : first ≤ 1000) (a b : Tx) : ∀ l g r, l.length ≤ N → GoodT l → chainP op first a b l = .ok g r →
    (Eff M 45 [.ptr 0 0, .int .i64 first, .fn (.func F0) [.ptr 0 0] [], .slice (strs [a, b]) .full] (hpP l en) fun d hp => d = g.d ∧ hp = hpP r en) ∧ r.length < l.length ∧ r <:+ l := by
  intro l g r hl hG hch
  unfold chainP thenP at hch
  cases hol : op l with
  | no e p => rw [hol] at hch; cases hch
  | ok f0 r0 =>
    rw [hol] at hch
    simp only at hch
    obtain ⟨c0, hr0, hs0⟩ := hop l f0 r0 hl hG hol
    have key : ∀ k f l', loopP op first a b k f l' = .ok g r → l'.length ≤ k → l'.length ≤ N → GoodT l' → r.length ≤ l'.length ∧ r <:+ l' := by
      intro k
      induction k with
      | zero => intro f l' h _ _ _; simp only [loopP] at h; cases h; exact ⟨Nat.le_refl _, List.suffix_refl _⟩
      | succ k ih =>
        intro f l' h hk hN' hG'
        simp only [loopP] at h
        cases hgn : gotN 4 [a, b] l' with
        | none => rw [hgn] at h; cases h; exact ⟨Nat.le_refl _, List.suffix_refl _⟩
        | some i =>
          rw [hgn] at h
          obtain ⟨t, lt, rfl, _⟩ := zD8 hgn
          simp only [List.tail_cons, thenP] at h
          cases ho2 : op lt with
          | no e p => rw [ho2] at h; cases h
          | ok f2 r2 =>
            rw [ho2] at h
            simp only [List.length_cons] at hk hN'
            obtain ⟨_, q1, q2⟩ := hop lt f2 r2 (by omega) (hG'.suf (List.suffix_cons _ _)) ho2
            obtain ⟨q3, q4⟩ := ih _ _ h (by omega) (by omega) (hG'.suf (q2.trans (List.suffix_cons _ _)))
            exact ⟨by simp; omega, q4.trans (q2.trans (List.suffix_cons _ _))⟩
    obtain ⟨kl, ks⟩ := key _ _ _ hch (Nat.le_refl _) (by omega) (hG.suf hs0)
    refine ⟨?_, by omega, ks.trans hs0⟩
    refine zDz 1 0 (Nat.le_refl _) (Nat.le_refl _) (fun β τ => rn_F β τ g) ?_
    refine k45.oe 1 0 rfl rfl rfl ?_
    rw [ie45]
    unfold c45
    have e3 : strs [a, b] = [.str a, .str b] := rfl
    have hfd := f0.d_eq
    have hrn := fun β τ => rnL_F β τ f0.kids
    rw [hfd] at c0
    obtain ⟨RA, hRA⟩ : ∃ R, R = (RC.regD r45_5 r45_6) := ⟨_, rfl⟩
    rw [← hRA]
    unfold hpP at c0 ⊢
    repeat' (first | with_reducible (apply swq; constructor) | simp only [go_sem, seval, pe45, q45, e3] | ((with_reducible refine c_eff [0] [] (c0) ?hs ?he ?hh ?_); (case hs => exact ⟨by simp, by simp, by simp, by simp⟩); (case he => first | rfl | (simp [go_sem, seval, zAc, hrn]; done)); (case hh => first | rfl | (simp [go_sem, seval, zAc, hrn]; done))) | ((with_reducible refine o_eff [0] [] (c0) ?hs ?he ?hh ?_); (case hs => exact ⟨by simp, by simp, by simp, by simp⟩); (case he => first | rfl | (simp [go_sem, seval, zAc, hrn]; done)); (case hh => first | rfl | (simp [go_sem, seval, zAc, hrn]; done)); rintro _ _ ⟨rfl, rfl⟩) | ((with_reducible first | apply s_bsl | apply t_bsl); (case he | hl | hc => first | rfl | assumption | omega | ((first | refine ⟨?_, ?_⟩ | skip) <;> first | omega | (simp only [lN, zAc, hrn] <;> omega)) | (simp [zAa, D.iV, D.cells, D.cL, D.closed, zAc, hrn]; first | done | omega))) | with_reducible (apply cA; constructor) | ((with_reducible refine And.intro ?hw ?_); (case hw => first | omega | rfl | exact ⟨_, _, rfl⟩ | assumption | (simp only [lN, zAc, hrn] <;> omega))) | with_reducible intro _)
    refine zCz [0, 1, 2, 3, 4, 5] (fun x : F × List Tok × Nat => ⟨[.ptr 0 0, .int .i64 first, .fn (.func F0) [.ptr 0 0] [], .slice (strs [a, b]) .full, .ptr 1 0, .ptr 2 0, .u0, .u0], [], ⟨[.cells [.slice (tokL x.2.1) .no, .int .i64 en], .cells [.int .i64 0, .int .i64 0, .lit (.slice none 0 0)], .cells x.1.cells], []⟩⟩)
      (fun x => loopP op first a b x.2.2 x.1 x.2.1 = .ok g r ∧ x.2.1.length ≤ x.2.2 ∧ x.2.1.length ≤ N ∧ GoodT x.2.1) (fun x => x.2.2) (f0, r0, r0.length) ⟨hch, Nat.le_refl _, by simp only; omega, hG.suf hs0⟩ ?_ ?_
    · simp [keepE, St.keep, e3]
    · rintro ⟨f, l', k⟩ ⟨h1, h2, h3, h4⟩
      simp only at h1 h2 h3 h4 ⊢
      have c1 := got_e 4 [a, b] (by simp) l' (by omega) en
      rw [e3] at c1 ⊢
      have hrn2 := fun β τ => rnL_F β τ f.kids
      have hcl := zAk f.kids
      have her := erL_F f.kids
      cases hgn : gotN 4 [a, b] l' with
      | none =>
        obtain ⟨n1, n2⟩ := gotN_none hgn
        rw [n1, n2] at c1
        have : f = g ∧ l' = r := by
          cases k with
          | zero => simp only [loopP] at h1; cases h1; exact ⟨rfl, rfl⟩
          | succ k => simp only [loopP, hgn] at h1; cases h1; exact ⟨rfl, rfl⟩
        obtain ⟨rfl, rfl⟩ := this
        rw [F.d_eq]
        unfold hpP at c1
        repeat' (first | with_reducible (apply swq; constructor) | simp only [go_sem, seval, pe45, q45] | ((with_reducible refine c_eff [0] [] (c1) ?hs ?he ?hh ?_); (case hs => exact ⟨by simp, by simp, by simp, by simp⟩); (case he => first | rfl | (simp [go_sem, seval, zAc, hrn2]; done)); (case hh => first | rfl | (simp [go_sem, seval, zAc, hrn2]; done))) | ((with_reducible refine o_eff [0] [] (c1) ?hs ?he ?hh ?_); (case hs => exact ⟨by simp, by simp, by simp, by simp⟩); (case he => first | rfl | (simp [go_sem, seval, zAc, hrn2]; done)); (case hh => first | rfl | (simp [go_sem, seval, zAc, hrn2]; done)); rintro _ _ ⟨rfl, rfl⟩) | ((with_reducible first | apply s_bsl | apply t_bsl); (case he | hl | hc => first | rfl | assumption | omega | ((first | refine ⟨?_, ?_⟩ | skip) <;> first | omega | (simp only [lN, zAc, hrn2] <;> omega)) | (simp [zAa, D.iV, D.cells, D.cL, D.closed, zAc, hrn2]; first | done | omega))) | with_reducible (apply cA; constructor) | ((with_reducible refine And.intro ?hw ?_); (case hw => first | omega | rfl | exact ⟨_, _, rfl⟩ | assumption | (simp only [lN, zAc, hrn2] <;> omega))) | with_reducible intro _)
        refine ⟨_, zAn, ?_⟩
        simp [D.closed, D.er, D.cL, D.erL, hcl, RcS, Hp.cut, Blk.rnL, Blk.rn, Tv.rnL, D.rnL, D.rn, zAc, Own.rn]
      | some i =>
        obtain ⟨t, lt, rfl, n1, n2, n3, n4, n5⟩ := zD8 hgn
        rw [n1, n2] at c1
        obtain ⟨k, rfl⟩ : ∃ k', k = k' + 1 := ⟨k - 1, by simp only [List.length_cons] at h2; omega⟩
        simp only [loopP, hgn, List.tail_cons, thenP] at h1
        cases ho2 : op lt with
        | no e p => rw [ho2] at h1; cases h1
        | ok f2 r2 =>
          rw [ho2] at h1
          simp only at h1
          simp only [List.length_cons] at h2 h3
          obtain ⟨c2, q1, q2⟩ := hop lt f2 r2 (by omega) (h4.suf (List.suffix_cons _ _)) ho2
          have hd : decide ((i : Int) < 0) = false := by simp
          have c2' : Eff (E45 1 0).M F0 [.ptr 0 0] (hpP lt en) fun d hp => d = f2.d ∧ hp = hpP r2 en := by rw [pe45]; exact c2
          unfold hpP at c1
          repeat' (first | with_reducible (apply swq; constructor) | simp only [go_sem, seval, pe45, q45, hd] | ((with_reducible refine c_eff [0] [] (c1) ?hs ?he ?hh ?_); (case hs => exact ⟨by simp, by simp, by simp, by simp⟩); (case he => first | rfl | (simp [go_sem, seval, zAc, hrn2]; done)); (case hh => first | rfl | (simp [go_sem, seval, zAc, hrn2]; done))) | ((with_reducible refine o_eff [0] [] (c1) ?hs ?he ?hh ?_); (case hs => exact ⟨by simp, by simp, by simp, by simp⟩); (case he => first | rfl | (simp [go_sem, seval, zAc, hrn2]; done)); (case hh => first | rfl | (simp [go_sem, seval, zAc, hrn2]; done)); rintro _ _ ⟨rfl, rfl⟩) | ((with_reducible first | apply s_bsl | apply t_bsl); (case he | hl | hc => first | rfl | assumption | omega | ((first | refine ⟨?_, ?_⟩ | skip) <;> first | omega | (simp only [lN, zAc, hrn2] <;> omega)) | (simp [zAa, D.iV, D.cells, D.cL, D.closed, zAc, hrn2]; first | done | omega))) | with_reducible (apply cA; constructor) | ((with_reducible refine And.intro ?hw ?_); (case hw => first | omega | rfl | exact ⟨_, _, rfl⟩ | assumption | (simp only [lN, zAc, hrn2] <;> omega))) | with_reducible intro _)
          subst hRA
          refine reg45 hf hf2 (by simp at n3; omega) rfl rfl rfl rfl c2' _ ?_
          refine ⟨_, weak_erB 2 rfl ?_, ?_⟩
          · simp [D.cL, D.closed, cl_F]
          · refine ⟨(.mk (first + i) 0 [f, f2], r2, k), ⟨h1, by simp only; omega, by simp only; omega, h4.suf (q2.trans (List.suffix_cons _ _))⟩, by simp only; omega, ?_⟩
            simp [keepE, St.keep, F.cells, F.op, F.num, F.kids, D.erL, D.er]
end Go.Proofs.YtkjnhkoipgdfeaaDoor
end
section
set_option maxRecDepth 100000
set_option linter.unusedSimpArgs false
set_option linter.unusedVariables false
namespace Go.Proofs.YtkjnhkoipgdfeaaDoor
open Go GoV Go.RowKit
theorem eff_nn {M : Mod} {f : FuncId} {args : List D} {hp hp1 : Hp} {d0 : D} (h : Eff M f args hp fun d h => d = d0 ∧ h = hp1) : Eff M f args hp fun d h => d = d0.nn ∧ h = hp1 := by
  refine ⟨h.1, fun w g xs hA hH hargs => (h.2 w g xs hA hH hargs).mono fun e w' hp => ?_⟩
  obtain ⟨v, d, hp', g', rfl, ⟨rfl, h3⟩, h4, h5⟩ := hp
  exact ⟨v, _, hp', g', rfl, ⟨rfl, h3⟩, h4, Rel.nn _ h5⟩
theorem decFrom_dig : ∀ (s : Tx) (acc : Nat), s.all isDig = true → ∃ n : Nat, Lib.decFrom acc s = some n ∧ (n : Int) = s.foldl (fun n c => 10 * n + ((c.toNat : Int) - 48)) (acc : Int)
  | [], acc, _ => ⟨acc, rfl, rfl⟩
  | c :: s, acc, h => by
    simp only [List.all_cons, Bool.and_eq_true] at h
    have hc : 48 ≤ c.toNat ∧ c.toNat ≤ 57 := by have := h.1; unfold isDig at this; exact of_decide_eq_true this
    obtain ⟨n, h1, h2⟩ := decFrom_dig s (acc * 10 + (c.toNat - 48)) h.2
    refine ⟨n, ?_, ?_⟩
    · simp only [Lib.decFrom, Lib.digitVal, if_pos hc]; exact h1
    · rw [h2, List.foldl_cons]; congr 1; omega
theorem atoi_dig {s : Tx} (h : numOk s) : Lib.atoi s = some (digs s) := by
  obtain ⟨h1, h2, h3⟩ := h
  obtain ⟨n, e1, e2⟩ := decFrom_dig s 0 h2
  cases s with
  | nil => exact absurd rfl h1
  | cons c r =>
    have hc : 48 ≤ c.toNat ∧ c.toNat ≤ 57 := by
      simp only [List.all_cons, Bool.and_eq_true] at h2
      have := h2.1; unfold isDig at this; exact of_decide_eq_true this
    have n1 : (c == 45) = false := by rw [beq_eq_false_iff_ne]; rintro rfl; simp at hc
    have n2 : (c == 43) = false := by rw [beq_eq_false_iff_ne]; rintro rfl; simp at hc
    simp only [Lib.atoi, n1, n2, Bool.false_eq_true, if_false, Lib.decNat, List.isEmpty_cons, e1, Option.map_some]
    unfold digs
    rw [e2]; rfl
theorem atoi_p (s : Tx) (hs : numOk s) : Pur M 58 [.str s] (.tup [.int .i64 (digs s), .u0]) := by
  have hsz : (⟨s.toArray⟩ : ByteArray).size = s.length := by simp [ByteArray.size]
  refine pur_extM (vs := [.string ⟨s.toArray⟩]) ⟨Tryd.f58, Tryd.func58, rfl, rfl⟩ (fun w g xs h => ?_) (fun w hA => ?_)
  · obtain ⟨x, xs', rfl, g1, g2⟩ := h.inv
    simp only [Rel] at g1
    rw [g2.inv_nil, g1]
  · have same : ∀ {w' : World}, Below w.heap.size w w' → ∀ y : Value, Below w.heap.size w w' ∧ ∀ I : Nat → Nat → Prop, ∃ I' : Nat → Nat → Prop, (∀ b o, I b o → I' b o) ∧ (∀ b o, I' b o → I b o ∨ (w.heap.size ≤ b ∧ b < w'.heap.size)) ∧ Rel w' ⟨[], [], I'⟩ (.tup [.int .i64 (digs s), .u0]) (.tuple #[.int .i64 (digs s), y]) := by
      intro w' hb y
      refine ⟨hb, fun I => ⟨I, fun _ _ h => h, fun _ _ h => .inl h, ?_⟩⟩
      simp only [Rel]
      exact ⟨_, rfl, RelL.cons (by simp [Rel]) (RelL.one (by simp [Rel]))⟩
    refine (Tryd.strconv_Atoi ⟨s.toArray⟩ (digs s) (by rw [hsz]; have := hs.2.2; omega) (by simpa using atoi_dig hs) w).mono fun e w' hh => ?_
    obtain ⟨rfl, t, rfl⟩ := hh
    exact ⟨_, rfl, same (Lib.bytesWorld_below w 5 t) _⟩
def kidsD (fs : List F) : List D := fs.map F.d
theorem zAh (fs : List F) (g : F) : kidsD (fs ++ [g]) = kidsD fs ++ [.agg g.cells] := by simp [kidsD, F.d_eq]
theorem kidsD_len (fs : List F) : (kidsD fs).length = fs.length := by simp [kidsD]
theorem zFa : ∀ fs : List F, zAa 3 (kidsD fs) = true
  | [] => rfl
  | f :: fs => by have := zFa fs; have hv := F_isVal f; simp_all [kidsD, zAa]
theorem reg54_12 {op0 en : Int} {fs : List F} {l' r' : List Tok} {g : F} {R : List D} (hfs : fs.length ≤ 100) {e : List D} (he0 : e[0]? = some (.ptr 0 0)) (he5 : e[5]? = some (.ptr 2 0))
    (hc : Eff M 33 [.ptr 0 0] (hpP l' en) fun d hp => d = g.d ∧ hp = hpP r' en) (Q : Ex → St → Prop)
    (hQ : Q .normal ⟨e, [], ⟨[.cells [.slice (tokL r') .no, .int .i64 en], .cells R, .cells [.int .i64 op0, .int .i64 0, .slice (kidsD (fs ++ [g])) (.tok 0)]], [.per 3 (fs.length + 1)]⟩⟩) :
    SWp (E54 1 0) (.regD r54_12 r54_13) Q ⟨e, [], ⟨[.cells [.slice (tokL l') .no, .int .i64 en], .cells R, .cells [.int .i64 op0, .int .i64 0, .slice (kidsD fs) (.tok 0)]], [.per 3 fs.length]⟩⟩ := by
  have hgd := g.d_eq
  have he5b : e[5]?.getD .u0 = .ptr 2 0 := by rw [he5]; rfl
  have he5c : e.getD 5 .u0 = .ptr 2 0 := by simp [he5]
  obtain ⟨F, hF⟩ : ∃ F : (Nat → Bool) → Hp, F = fun E => ⟨[if E 3 then .cells [.slice (tokL r') .no, .int .i64 en] else .cells [.slice (tokL l') .no, .int .i64 en], .cells R, .cells [.int .i64 op0, .int .i64 0, .slice (kidsD fs) (.tok 0)]], [.per 3 fs.length]⟩ := ⟨_, rfl⟩
  have still : ∀ i, i ≠ 3 → Still F i := fun i h E _ => by
    have : (3 == i) = false := by rw [beq_eq_false_iff_ne]; omega
    simp [hF, this]
  refine zCy F (by simp [hF]) ?_
  rw [pe54]
  refine y_q (ds := [.ptr 2 0]) (.ptr 2 2) (by simp [go_sem, he5]) (still _ (by decide)) (fun _ => by simp [OcWp, zAd, isPan, opWp]) ?_
  refine y_c (ds := [.ptr 2 2]) (d := .slice (kidsD fs) (.tok 0)) (by simp [go_sem]) (fun E hE => ?_) ?_
  · rw [still 1 (by decide) E hE]; simp [hF, OcWp, zAd, isPan, opWp, Blk.csq]
  refine y_q (ds := [.ptr 0 0]) (.ptr 0 0) (by simp [go_sem, he0]) (still _ (by decide)) (fun _ => by simp [OcWp, zAd, isPan, opWp]) ?_
  refine y_c (ds := [.fn (.func 33) [] [], .ptr 0 0]) (d := g.d) (by simp [go_sem]) (fun E hE => ?_) ?_
  · have hE' : E 3 = false := hE
    simp only [OcWp, zAd, isPan, if_true]
    refine zFy [0] [] hc ⟨by simp, by simp, by simp [hF], by simp⟩ (by simp [D.rnL, D.rn, posF, idx]) (by simp [hF, hE', hpP, Hp.sel, Blk.rnL, Blk.rn, Tv.rnL, D.rnL, D.rn, zAc, Own.rn]) ?_
    rintro d hp1 ⟨rfl, rfl⟩
    refine ⟨rn_F _ _ _, ?_⟩
    simp [hF, hE', hpP, Hp.back, putAt, Blk.rnL, Blk.rn, Tv.rnL, D.rnL, D.rn, zAc, Own.rn]
  have hva := F_isVal g
  have hca := cl_F g
  refine y_q (ds := [g.d]) (.slice [.agg g.cells] .full) (by simp [go_sem]) (still _ (by decide)) (fun _ => by
    rw [← hgd]
    simp [OcWp, zAd, isPan, opWp, zAa, hva, D.cL, hca, D.erL, er_F]) ?_
  refine y_end (hp' := ⟨[.cells [.slice (tokL r') .no, .int .i64 en], .cells R, .cells [.int .i64 op0, .int .i64 0, .slice (kidsD fs) (.tok 0)]], [.per 3 fs.length]⟩) (by simp [hF]) ?_
  have hkl := kidsD_len fs
  have hel := zFa fs
  have hck := zAk g.kids
  have hek := erL_F g.kids
  repeat' (first | with_reducible (apply swq; constructor) | simp only [go_sem, seval, pe54, q54, he5b, he5c, hkl, zAh] | simp (disch := omega) only [w64, w32, wu8, wu16, wu32, wu64] | ((with_reducible apply zA2); (case he => rfl); (case hK | hc | hr | hV => first | rfl | assumption | omega | ((first | refine ⟨?_, ?_⟩ | skip) <;> first | omega | (simp only [lN, hkl, hel, hck, hek, zAh] <;> omega)) | (simp [zAa, D.iV, D.cells, D.cL, D.closed, hkl, hel, hck, hek, zAh]; first | done | omega))) | ((with_reducible apply zA3); (case he => rfl); (case hV | hK | hr | hl => first | rfl | assumption | omega | ((first | refine ⟨?_, ?_⟩ | skip) <;> first | omega | (simp only [lN, hkl, hel, hck, hek, zAh] <;> omega)) | (simp [zAa, D.iV, D.cells, D.cL, D.closed, hkl, hel, hck, hek, zAh]; first | done | omega))) | ((with_reducible apply zA5); (case he => rfl); (case hK | hc | hr => first | rfl | assumption | omega | ((first | refine ⟨?_, ?_⟩ | skip) <;> first | omega | (simp only [lN, hkl, hel, hck, hek, zAh] <;> omega)) | (simp [zAa, D.iV, D.cells, D.cL, D.closed, hkl, hel, hck, hek, zAh]; first | done | omega))) | ((with_reducible apply zA4); (case he => rfl); (case hK | hc | hr | hx | hn => first | rfl | assumption | omega | ((first | refine ⟨?_, ?_⟩ | skip) <;> first | omega | (simp only [lN, hkl, hel, hck, hek, zAh] <;> omega)) | (simp [zAa, D.iV, D.cells, D.cL, D.closed, hkl, hel, hck, hek, zAh]; first | done | omega))) | ((with_reducible first | apply s_bsl | apply t_bsl); (case he | hl | hc => first | rfl | assumption | omega | ((first | refine ⟨?_, ?_⟩ | skip) <;> first | omega | (simp only [lN, hkl, hel, hck, hek, zAh] <;> omega)) | (simp [zAa, D.iV, D.cells, D.cL, D.closed, hkl, hel, hck, hek, zAh]; first | done | omega))) | ((with_reducible apply zCo); (case hx => first | rfl | assumption | omega | ((first | refine ⟨?_, ?_⟩ | skip) <;> first | omega | (simp only [lN, hkl, hel, hck, hek, zAh] <;> omega)) | (simp [zAa, D.iV, D.cells, D.cL, D.closed, hkl, hel, hck, hek, zAh]; first | done | omega))) | ((with_reducible first | apply zCm | apply zCn); (case h0 | h1 | hx => first | rfl | assumption | omega | ((first | refine ⟨?_, ?_⟩ | skip) <;> first | omega | (simp only [lN, hkl, hel, hck, hek, zAh] <;> omega)) | (simp [zAa, D.iV, D.cells, D.cL, D.closed, hkl, hel, hck, hek, zAh]; first | done | omega))) | ((with_reducible apply zCl); (case h0 | h1 | h2 | hx => first | rfl | assumption | omega | ((first | refine ⟨?_, ?_⟩ | skip) <;> first | omega | (simp only [lN, hkl, hel, hck, hek, zAh] <;> omega)) | (simp [zAa, D.iV, D.cells, D.cL, D.closed, hkl, hel, hck, hek, zAh]; first | done | omega))) | ((with_reducible first | apply zCj | apply zCk); (case h0 | h1 | hc => first | rfl | assumption | omega | ((first | refine ⟨?_, ?_⟩ | skip) <;> first | omega | (simp only [lN, hkl, hel, hck, hek, zAh] <;> omega)) | (simp [zAa, D.iV, D.cells, D.cL, D.closed, hkl, hel, hck, hek, zAh]; first | done | omega))) | ((with_reducible apply zCi); (case h0 | h1 | h2 | hc => first | rfl | assumption | omega | ((first | refine ⟨?_, ?_⟩ | skip) <;> first | omega | (simp only [lN, hkl, hel, hck, hek, zAh] <;> omega)) | (simp [zAa, D.iV, D.cells, D.cL, D.closed, hkl, hel, hck, hek, zAh]; first | done | omega))) | (with_reducible first | (apply cA; constructor) | (apply gA; constructor)) | ((with_reducible refine And.intro ?hw ?_); (case hw => first | omega | rfl | exact ⟨_, _, rfl⟩ | assumption | (simp only [lN, hkl, hel, hck, hek, zAh] <;> omega))) | with_reducible intro _)
  all_goals try (exfalso; omega)
  all_goals simpa [zAh, setL, St.done] using hQ
theorem reg54_17 {op0 en : Int} {fs : List F} {l' r' : List Tok} {g : F} {R : List D} (hfs : fs.length ≤ 100) {e : List D} (he0 : e[0]? = some (.ptr 0 0)) (he5 : e[5]? = some (.ptr 2 0))
    (hc : Eff M 33 [.ptr 0 0] (hpP l' en) fun d hp => d = g.d ∧ hp = hpP r' en) (Q : Ex → St → Prop)
    (hQ : Q .normal ⟨e, [], ⟨[.cells [.slice (tokL r') .no, .int .i64 en], .cells R, .cells [.int .i64 op0, .int .i64 0, .slice (kidsD (fs ++ [g])) (.tok 0)]], [.per 3 (fs.length + 1)]⟩⟩) :
    SWp (E54 1 0) (.regD r54_17 r54_18) Q ⟨e, [], ⟨[.cells [.slice (tokL l') .no, .int .i64 en], .cells R, .cells [.int .i64 op0, .int .i64 0, .slice (kidsD fs) (.tok 0)]], [.per 3 fs.length]⟩⟩ := by
  have hgd := g.d_eq
  have he5b : e[5]?.getD .u0 = .ptr 2 0 := by rw [he5]; rfl
  have he5c : e.getD 5 .u0 = .ptr 2 0 := by simp [he5]
  obtain ⟨F, hF⟩ : ∃ F : (Nat → Bool) → Hp, F = fun E => ⟨[if E 3 then .cells [.slice (tokL r') .no, .int .i64 en] else .cells [.slice (tokL l') .no, .int .i64 en], .cells R, .cells [.int .i64 op0, .int .i64 0, .slice (kidsD fs) (.tok 0)]], [.per 3 fs.length]⟩ := ⟨_, rfl⟩
  have still : ∀ i, i ≠ 3 → Still F i := fun i h E _ => by
    have : (3 == i) = false := by rw [beq_eq_false_iff_ne]; omega
    simp [hF, this]
  refine zCy F (by simp [hF]) ?_
  rw [pe54]
  refine y_q (ds := [.ptr 2 0]) (.ptr 2 2) (by simp [go_sem, he5]) (still _ (by decide)) (fun _ => by simp [OcWp, zAd, isPan, opWp]) ?_
  refine y_c (ds := [.ptr 2 2]) (d := .slice (kidsD fs) (.tok 0)) (by simp [go_sem]) (fun E hE => ?_) ?_
  · rw [still 1 (by decide) E hE]; simp [hF, OcWp, zAd, isPan, opWp, Blk.csq]
  refine y_q (ds := [.ptr 0 0]) (.ptr 0 0) (by simp [go_sem, he0]) (still _ (by decide)) (fun _ => by simp [OcWp, zAd, isPan, opWp]) ?_
  refine y_c (ds := [.fn (.func 33) [] [], .ptr 0 0]) (d := g.d) (by simp [go_sem]) (fun E hE => ?_) ?_
  · have hE' : E 3 = false := hE
    simp only [OcWp, zAd, isPan, if_true]
    refine zFy [0] [] hc ⟨by simp, by simp, by simp [hF], by simp⟩ (by simp [D.rnL, D.rn, posF, idx]) (by simp [hF, hE', hpP, Hp.sel, Blk.rnL, Blk.rn, Tv.rnL, D.rnL, D.rn, zAc, Own.rn]) ?_
    rintro d hp1 ⟨rfl, rfl⟩
    refine ⟨rn_F _ _ _, ?_⟩
    simp [hF, hE', hpP, Hp.back, putAt, Blk.rnL, Blk.rn, Tv.rnL, D.rnL, D.rn, zAc, Own.rn]
  have hva := F_isVal g
  have hca := cl_F g
  refine y_q (ds := [g.d]) (.slice [.agg g.cells] .full) (by simp [go_sem]) (still _ (by decide)) (fun _ => by
    rw [← hgd]
    simp [OcWp, zAd, isPan, opWp, zAa, hva, D.cL, hca, D.erL, er_F]) ?_
  refine y_end (hp' := ⟨[.cells [.slice (tokL r') .no, .int .i64 en], .cells R, .cells [.int .i64 op0, .int .i64 0, .slice (kidsD fs) (.tok 0)]], [.per 3 fs.length]⟩) (by simp [hF]) ?_
  have hkl := kidsD_len fs
  have hel := zFa fs
  have hck := zAk g.kids
  have hek := erL_F g.kids
  repeat' (first | with_reducible (apply swq; constructor) | simp only [go_sem, seval, pe54, q54, he5b, he5c, hkl, zAh] | simp (disch := omega) only [w64, w32, wu8, wu16, wu32, wu64] | ((with_reducible apply zA2); (case he => rfl); (case hK | hc | hr | hV => first | rfl | assumption | omega | ((first | refine ⟨?_, ?_⟩ | skip) <;> first | omega | (simp only [lN, hkl, hel, hck, hek, zAh] <;> omega)) | (simp [zAa, D.iV, D.cells, D.cL, D.closed, hkl, hel, hck, hek, zAh]; first | done | omega))) | ((with_reducible apply zA3); (case he => rfl); (case hV | hK | hr | hl => first | rfl | assumption | omega | ((first | refine ⟨?_, ?_⟩ | skip) <;> first | omega | (simp only [lN, hkl, hel, hck, hek, zAh] <;> omega)) | (simp [zAa, D.iV, D.cells, D.cL, D.closed, hkl, hel, hck, hek, zAh]; first | done | omega))) | ((with_reducible apply zA5); (case he => rfl); (case hK | hc | hr => first | rfl | assumption | omega | ((first | refine ⟨?_, ?_⟩ | skip) <;> first | omega | (simp only [lN, hkl, hel, hck, hek, zAh] <;> omega)) | (simp [zAa, D.iV, D.cells, D.cL, D.closed, hkl, hel, hck, hek, zAh]; first | done | omega))) | ((with_reducible apply zA4); (case he => rfl); (case hK | hc | hr | hx | hn => first | rfl | assumption | omega | ((first | refine ⟨?_, ?_⟩ | skip) <;> first | omega | (simp only [lN, hkl, hel, hck, hek, zAh] <;> omega)) | (simp [zAa, D.iV, D.cells, D.cL, D.closed, hkl, hel, hck, hek, zAh]; first | done | omega))) | ((with_reducible first | apply s_bsl | apply t_bsl); (case he | hl | hc => first | rfl | assumption | omega | ((first | refine ⟨?_, ?_⟩ | skip) <;> first | omega | (simp only [lN, hkl, hel, hck, hek, zAh] <;> omega)) | (simp [zAa, D.iV, D.cells, D.cL, D.closed, hkl, hel, hck, hek, zAh]; first | done | omega))) | ((with_reducible apply zCo); (case hx => first | rfl | assumption | omega | ((first | refine ⟨?_, ?_⟩ | skip) <;> first | omega | (simp only [lN, hkl, hel, hck, hek, zAh] <;> omega)) | (simp [zAa, D.iV, D.cells, D.cL, D.closed, hkl, hel, hck, hek, zAh]; first | done | omega))) | ((with_reducible first | apply zCm | apply zCn); (case h0 | h1 | hx => first | rfl | assumption | omega | ((first | refine ⟨?_, ?_⟩ | skip) <;> first | omega | (simp only [lN, hkl, hel, hck, hek, zAh] <;> omega)) | (simp [zAa, D.iV, D.cells, D.cL, D.closed, hkl, hel, hck, hek, zAh]; first | done | omega))) | ((with_reducible apply zCl); (case h0 | h1 | h2 | hx => first | rfl | assumption | omega | ((first | refine ⟨?_, ?_⟩ | skip) <;> first | omega | (simp only [lN, hkl, hel, hck, hek, zAh] <;> omega)) | (simp [zAa, D.iV, D.cells, D.cL, D.closed, hkl, hel, hck, hek, zAh]; first | done | omega))) | ((with_reducible first | apply zCj | apply zCk); (case h0 | h1 | hc => first | rfl | assumption | omega | ((first | refine ⟨?_, ?_⟩ | skip) <;> first | omega | (simp only [lN, hkl, hel, hck, hek, zAh] <;> omega)) | (simp [zAa, D.iV, D.cells, D.cL, D.closed, hkl, hel, hck, hek, zAh]; first | done | omega))) | ((with_reducible apply zCi); (case h0 | h1 | h2 | hc => first | rfl | assumption | omega | ((first | refine ⟨?_, ?_⟩ | skip) <;> first | omega | (simp only [lN, hkl, hel, hck, hek, zAh] <;> omega)) | (simp [zAa, D.iV, D.cells, D.cL, D.closed, hkl, hel, hck, hek, zAh]; first | done | omega))) | (with_reducible first | (apply cA; constructor) | (apply gA; constructor)) | ((with_reducible refine And.intro ?hw ?_); (case hw => first | omega | rfl | exact ⟨_, _, rfl⟩ | assumption | (simp only [lN, hkl, hel, hck, hek, zAh] <;> omega))) | with_reducible intro _)
  all_goals try (exfalso; omega)
  all_goals simpa [zAh, setL, St.done] using hQ
end Go.Proofs.YtkjnhkoipgdfeaaDoor
end
