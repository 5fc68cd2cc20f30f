/- The laws of money: what the shares are like, in plain Lean. Own work; no program in sight. -/
import Derived.Test.YtniglomooepbcaaDoorMk
set_option linter.unusedSimpArgs false
set_option linter.unusedVariables false
namespace Go.Proofs.YtniglomooepbcaaDoor
open Go GoV

/-- The share at place i. -/
def sh1 (n : Int) (ws : List Int) (i : Nat) : Int := (shr (splL n ws) (splR n ws)).getD i 0

theorem shr_len (n : Int) (ws : List Int) : (shr (splL n ws) (splR n ws)).length = ws.length := by simp [shr, splL, bs_len]

/-- A share: the quotient, and perhaps one more. -/
theorem sh1_eq {n : Int} {ws : List Int} {i : Nat} (h : i < ws.length) : ∃ s ∈ splL n ws, s.i = (i : Int) ∧ s.a = n * ws.getD i 0 / ws.sum ∧ s.l = n * ws.getD i 0 % ws.sum ∧
    sh1 n ws i = s.a + (if (rank (splL n ws) s : Int) < splR n ws then 1 else 0) := by
  have hl : i < (splL n ws).length := by simp [splL, bs_len, h]
  have e : (splL n ws)[i] = ⟨((0 + i : Nat) : Int), n * ws[i] / ws.sum, n * ws[i] % ws.sum⟩ := bs_get n ws.sum ws 0 i h
  refine ⟨(splL n ws)[i], List.getElem_mem hl, ?_, ?_, ?_, ?_⟩
  · rw [e]; simp
  · rw [e]; simp [List.getD, h]
  · rw [e]; simp [List.getD, h]
  · simp [sh1, shr, List.getD, hl]

theorem sum_shr {L : List Sh} {R : Int} (hL : ∀ i (h : i < L.length), (L[i]).i = (i : Int)) (h0 : 0 ≤ R) (h1 : R ≤ L.length) : (shr L R).sum = (L.map (·.a)).sum + R := by
  obtain ⟨hp, hs⟩ := isort_sorted hL
  -- the bonus, by ranks
  have key : ∀ l : List Sh, (l.map fun s => s.a + if (rank L s : Int) < R then 1 else 0).sum = (l.map (·.a)).sum + ((l.countP fun s => decide ((rank L s : Int) < R) : Nat) : Int) := by
    intro l
    induction l with
    | nil => simp
    | cons s l ih =>
      simp only [List.map_cons, List.sum_cons, List.countP_cons, ih]
      by_cases h : (rank L s : Int) < R
      · simp [h]; omega
      · simp [h]; omega
  unfold shr
  rw [key]
  have hc : (L.countP fun s => decide ((rank L s : Int) < R)) = R.toNat := by
    rw [← hp.countP_eq]
    generalize hS : isort L L.length = S at *
    have hlen : S.length = L.length := hp.length_eq
    have : ∀ k, k ≤ S.length → (S.take k).countP (fun s => decide ((rank L s : Int) < R)) = min k R.toNat := by
      intro k
      induction k with
      | zero => intro _; simp
      | succ k ih =>
        intro hk
        have hlt : k < S.length := by omega
        rw [List.take_succ_eq_append_getElem hlt, List.countP_append, ih (by omega)]
        have hr := rank_at hp hs hlt
        simp only [List.countP_cons, List.countP_nil, hr]
        by_cases g : (k : Int) < R
        · simp [g]; omega
        · simp [g]; omega
    have := this S.length (Nat.le_refl _)
    rw [List.take_length] at this
    rw [this, hlen]; omega
  rw [hc]; omega

structure Shares (n : Int) (ws : List Int) (l : List Int) : Prop where
  len : l.length = ws.length
  sum : l.sum = n
  pos : ∀ i, i < ws.length → 0 ≤ l.getD i 0 ∧ l.getD i 0 ≤ 1000000000001
  nil : ∀ i, i < ws.length → ws.getD i 0 = 0 → l.getD i 0 = 0
  near : ∀ i, i < ws.length → l.getD i 0 * ws.sum - n * ws.getD i 0 < ws.sum ∧ -ws.sum < l.getD i 0 * ws.sum - n * ws.getD i 0
  ord : ∀ i, i < ws.length → ∀ k, k < i → (ws.getD i 0 < ws.getD k 0 → l.getD i 0 ≤ l.getD k 0) ∧ (ws.getD k 0 < ws.getD i 0 → l.getD k 0 ≤ l.getD i 0) ∧
    (ws.getD k 0 = ws.getD i 0 → l.getD i 0 ≤ l.getD k 0 ∧ l.getD k 0 ≤ l.getD i 0 + 1)

theorem shares_ok {n : Int} {ws : List Int} (h1 : Am n) (h2 : 0 ≤ tot ws) : Shares n ws (shr (splL n ws) (splR n ws)) := by
  obtain ⟨t1, t2, t3, t4, t5, t6⟩ := tot_ok h2
  have hne : ws ≠ [] := by rintro rfl; simp at t3
  obtain ⟨r1, r2, r3⟩ := rest_bnd (n := n) t3
  have r2 := r2 hne
  have hwi : ∀ i, i < ws.length → 0 ≤ ws.getD i 0 ∧ ws.getD i 0 ≤ ws.sum ∧ ws.getD i 0 ≤ 9999999 := by
    intro i hi
    have hm : ws.getD i 0 ∈ ws := by simp [List.getD, hi]
    exact ⟨(t2 _ hm).1, t6 _ hm, (t2 _ hm).2⟩
  have hn := h1
  unfold Am at hn
  have hall : ∀ i, i < ws.length → ∃ s ∈ splL n ws, s.i = (i : Int) ∧ s.a = n * ws.getD i 0 / ws.sum ∧ s.l = n * ws.getD i 0 % ws.sum ∧
      sh1 n ws i = s.a + (if (rank (splL n ws) s : Int) < splR n ws then 1 else 0) ∧ n * ws.getD i 0 = ws.sum * s.a + s.l ∧ 0 ≤ s.l ∧ s.l < ws.sum ∧ 0 ≤ s.a ∧ s.a ≤ n ∧ (s.l = 0 → sh1 n ws i = s.a) := by
    intro i hi
    obtain ⟨s, hs, e1, e2, e3, e4⟩ := sh1_eq (n := n) hi
    obtain ⟨w0, w1, w2⟩ := hwi i hi
    have m0 : 0 ≤ n * ws.getD i 0 := Int.mul_nonneg hn.1 w0
    have m1 : n * ws.getD i 0 ≤ n * ws.sum := Int.mul_le_mul_of_nonneg_left w1 hn.1
    have d0 := Int.mul_ediv_add_emod (n * ws.getD i 0) ws.sum
    have d1 := Int.emod_nonneg (n * ws.getD i 0) (show ws.sum ≠ 0 by omega)
    have d2 := Int.emod_lt_of_pos (n * ws.getD i 0) t3
    have d3 : 0 ≤ n * ws.getD i 0 / ws.sum := Int.ediv_nonneg m0 (by omega)
    have d4 : n * ws.getD i 0 / ws.sum ≤ n := by
      have := Int.ediv_le_ediv t3 m1
      rwa [Int.mul_ediv_cancel _ (show ws.sum ≠ 0 by omega)] at this
    refine ⟨s, hs, e1, e2, e3, e4, by rw [e2, e3]; omega, by omega, by omega, by omega, by omega, fun hz => ?_⟩
    have := r3 s hs hz
    rw [e4, if_neg (by omega)]; omega
  refine ⟨shr_len n ws, ?_, ?_, ?_, ?_, ?_⟩
  · have e := sum_shr (L := splL n ws) (R := splR n ws) (splL_idx n ws.sum ws) r1 (by simp [splL, bs_len] at *; omega)
    rw [e]; unfold splR; omega
  · intro i hi
    obtain ⟨s, hs, e1, e2, e3, e4, e5, e6, e7, e8, e9, _⟩ := hall i hi
    show 0 ≤ sh1 n ws i ∧ sh1 n ws i ≤ _
    rw [e4]; split <;> omega
  · intro i hi hz
    obtain ⟨s, hs, e1, e2, e3, e4, e5, e6, e7, e8, e9, e10⟩ := hall i hi
    show sh1 n ws i = 0
    rw [hz, Int.mul_zero] at e2 e3
    simp at e2 e3
    rw [e10 e3, e2]
  · intro i hi
    obtain ⟨s, hs, e1, e2, e3, e4, e5, e6, e7, e8, e9, e10⟩ := hall i hi
    show sh1 n ws i * _ - _ < _ ∧ _ < sh1 n ws i * _ - _
    by_cases hz : s.l = 0
    · rw [e10 hz, Int.mul_comm]; omega
    · rw [e4]
      split
      · rw [Int.add_mul, Int.mul_comm s.a]; omega
      · rw [Int.add_zero, Int.mul_comm s.a]; omega
  · intro i hi k hk
    obtain ⟨s, hs, e1, e2, e3, e4, e5, e6, e7, e8, e9, e10⟩ := hall i hi
    obtain ⟨t, ht, f1, f2, f3, f4, f5, f6, f7, f8, f9, f10⟩ := hall k (by omega)
    obtain ⟨wi0, wi1, wi2⟩ := hwi i hi
    obtain ⟨wk0, wk1, wk2⟩ := hwi k (by omega)
    show (_ → sh1 n ws i ≤ sh1 n ws k) ∧ (_ → sh1 n ws k ≤ sh1 n ws i) ∧ (_ → sh1 n ws i ≤ sh1 n ws k ∧ sh1 n ws k ≤ sh1 n ws i + 1)
    have bon : ∀ a b : Sh, a ∈ splL n ws → bf a b = true → (if (rank (splL n ws) b : Int) < splR n ws then (1 : Int) else 0) ≤ (if (rank (splL n ws) a : Int) < splR n ws then 1 else 0) := by
      intro a b ha hb
      have := rank_mono ha hb
      split <;> split <;> omega
    refine ⟨fun hw => ?_, fun hw => ?_, fun hw => ?_⟩
    · have hm : n * ws.getD i 0 ≤ n * ws.getD k 0 := Int.mul_le_mul_of_nonneg_left (by omega) hn.1
      have hq : s.a ≤ t.a := by rw [e2, f2]; exact Int.ediv_le_ediv t3 hm
      by_cases hqe : s.a = t.a
      · have hb : bf t s = true := bf_iff.2 (by rw [hqe] at e5; omega)
        have := bon t s ht hb
        rw [e4, f4]; omega
      · rw [e4, f4]; split <;> split <;> omega
    · have hm : n * ws.getD k 0 ≤ n * ws.getD i 0 := Int.mul_le_mul_of_nonneg_left (by omega) hn.1
      have hq : t.a ≤ s.a := by rw [e2, f2]; exact Int.ediv_le_ediv t3 hm
      by_cases hqe : s.a = t.a
      · by_cases hrem : t.l < s.l
        · have := bon s t hs (bf_iff.2 (.inl hrem))
          rw [e4, f4]; omega
        · have he : n * ws.getD k 0 = n * ws.getD i 0 := by rw [hqe] at e5; omega
          have hn0 : n = 0 := by
            rcases Int.lt_or_le 0 n with g | g
            · have := Int.mul_lt_mul_of_pos_left hw g
              omega
            · omega
          rw [hn0, Int.zero_mul] at e3 f3
          simp at e3 f3
          rw [e10 e3, f10 f3]; omega
      · rw [e4, f4]; split <;> split <;> omega
    · rw [hw] at f2 f3
      have hb : bf t s = true := bf_iff.2 (by omega)
      have := bon t s ht hb
      have hq : s.a = t.a := by rw [e2, f2]
      rw [e4, f4, hq]
      refine ⟨by omega, ?_⟩
      split <;> split <;> omega

/-! ### Scaled weights -/

theorem sum_scale (m : Int) : ∀ ws : List Int, (ws.map (m * ·)).sum = m * ws.sum
  | [] => by simp
  | w :: ws => by simp [sum_scale m ws, Int.mul_add]

theorem bs_scale {n T m : Int} (hm : 0 < m) : ∀ (ws : List Int) (k : Nat), bs n (m * T) k (ws.map (m * ·)) = (bs n T k ws).map fun s => ⟨s.i, s.a, m * s.l⟩
  | [], k => by simp [bs]
  | w :: ws, k => by
    have e : n * (m * w) = m * (n * w) := Int.mul_left_comm n m w
    simp only [List.map_cons, bs, bs_scale hm ws (k + 1), List.cons.injEq, Sh.mk.injEq, true_and, and_true, e]
    exact ⟨Int.mul_ediv_mul_of_pos _ _ hm, Int.mul_emod_mul_of_pos _ _ hm⟩

theorem bf_scale {m : Int} (hm : 0 < m) (a b : Sh) : bf ⟨a.i, a.a, m * a.l⟩ ⟨b.i, b.a, m * b.l⟩ = bf a b := by
  unfold bf
  congr 1
  · simp only [Int.mul_lt_mul_left hm]
  · congr 1
    have : (m * a.l = m * b.l) ↔ (a.l = b.l) := Int.mul_eq_mul_left_iff (by omega)
    simp only [this]

theorem rank_scale {m : Int} (hm : 0 < m) (L : List Sh) (s : Sh) : rank (L.map fun s => ⟨s.i, s.a, m * s.l⟩) ⟨s.i, s.a, m * s.l⟩ = rank L s := by
  unfold rank
  rw [List.countP_map]
  refine List.countP_congr fun x _ => ?_
  simp only [Function.comp, bf_scale hm]

theorem spl_scale {n m : Int} {ws : List Int} (hm : 1 ≤ m) (hl : ws.length ≤ 16) (hw : ∀ w ∈ ws, 0 ≤ w ∧ m * w ≤ 9999999) : spl n (ws.map (m * ·)) = spl n ws := by
  have hle : ∀ w ∈ ws, w ≤ m * w := fun w h => by
    have := Int.mul_le_mul_of_nonneg_right hm (hw w h).1
    omega
  have e1 : tot ws = if ws.sum ≠ 0 then ws.sum else -1 := by
    unfold tot
    by_cases h : ws.sum = 0
    · rw [if_neg (fun q => q.2.2 h), if_neg (fun q => q h)]
    · rw [if_pos ⟨hl, fun w q => ⟨(hw w q).1, by have := hle w q; have := (hw w q).2; omega⟩, h⟩, if_pos h]
  have e2 : tot (ws.map (m * ·)) = if ws.sum ≠ 0 then m * ws.sum else -1 := by
    unfold tot
    rw [sum_scale]
    by_cases h : ws.sum = 0
    · rw [if_neg (fun q => q.2.2 (by rw [h, Int.mul_zero])), if_neg (fun q => q h)]
    · have hall : ∀ w ∈ ws.map (m * ·), 0 ≤ w ∧ w ≤ 9999999 := by
        intro w q
        obtain ⟨v, hv, rfl⟩ := List.mem_map.1 q
        exact ⟨Int.mul_nonneg (by omega) (hw v hv).1, (hw v hv).2⟩
      have hne : m * ws.sum ≠ 0 := by
        intro q
        rcases Int.mul_eq_zero.1 q with g | g
        · omega
        · exact h g
      rw [if_pos ⟨by simpa using hl, hall, hne⟩, if_pos h]
  have hs0 : 0 ≤ ws.sum := (sum_bnd (b := 9999999) fun w q => ⟨(hw w q).1, by have := hle w q; have := (hw w q).2; omega⟩).1
  have e3 : (0 ≤ tot (ws.map (m * ·))) ↔ 0 ≤ tot ws := by
    rw [e1, e2]
    split
    · constructor
      · intro _; exact hs0
      · intro _; exact Int.mul_nonneg (by omega) hs0
    · exact Iff.rfl
  unfold spl
  by_cases h : Am n ∧ 0 ≤ tot ws
  · rw [if_pos h, if_pos ⟨h.1, e3.2 h.2⟩]
    congr 1
    have eL : splL n (ws.map (m * ·)) = (splL n ws).map fun s => ⟨s.i, s.a, m * s.l⟩ := by
      unfold splL; rw [sum_scale]; exact bs_scale (by omega) ws 0
    have eR : splR n (ws.map (m * ·)) = splR n ws := by
      unfold splR; rw [eL, List.map_map]; rfl
    rw [eR, eL]
    unfold shr
    rw [List.map_map]
    refine List.map_congr_left fun s _ => ?_
    simp only [Function.comp, rank_scale (show 0 < m by omega)]
  · rw [if_neg h, if_neg (fun q => h ⟨q.1, e3.1 q.2⟩)]
end Go.Proofs.YtniglomooepbcaaDoor
