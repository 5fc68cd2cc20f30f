/- What the functions of money compute: the walks, sixth part: the reference's Split. Own work. -/
import Derived.Test.YtniglomooepbcaaDoorMg
set_option maxRecDepth 100000
set_option linter.unusedSimpArgs false
set_option linter.unusedVariables false
namespace Go.Proofs.YtniglomooepbcaaDoor
open Go GoV

theorem ils_len (l : List Int) : (ils l).length = l.length := List.length_map _

theorem chunk_ils : ∀ (l : List Int), chunk 1 l.length (ils l) = ils l
  | [] => rfl
  | x :: l => by
    have := chunk_ils l
    simpa [chunk, ils] using this

theorem ils_set (l : List Int) (i : Nat) (x : Int) : (ils l).set i (.int .i64 x) = ils (l.set i x) := by
  simp [ils, List.map_set]

theorem ils_app (l : List Int) (x : Int) : ils l ++ [.int .i64 x] = ils (l ++ [x]) := by simp [ils]

/-- The shares, and what is left over, when k are dealt out. -/
def outK (L : List Sh) (k : Nat) : List Int := L.map fun s => s.a + if rank L s < k then 1 else 0
def lefK (L : List Sh) (k : Nat) : List Int := L.map fun s => if rank L s < k then -1 else s.l

theorem outK_len (L : List Sh) (k : Nat) : (outK L k).length = L.length := List.length_map _
theorem lefK_len (L : List Sh) (k : Nat) : (lefK L k).length = L.length := List.length_map _

theorem outK_get {L : List Sh} {k i : Nat} (h : i < L.length) : (outK L k).getD i 0 = L[i].a + if rank L L[i] < k then 1 else 0 := by
  simp [outK, List.getD, h]
theorem lefK_get {L : List Sh} {k i : Nat} (h : i < L.length) : (lefK L k).getD i 0 = if rank L L[i] < k then -1 else L[i].l := by
  simp [lefK, List.getD, h]

theorem outK_zero (L : List Sh) : outK L 0 = L.map (·.a) := by simp [outK]
theorem lefK_zero (L : List Sh) : lefK L 0 = L.map (·.l) := by simp [lefK]

theorem rank_inj {L S : List Sh} (hp : S.Perm L) (hs : S.Pairwise (fun a b => bf a b = true)) {a b : Sh} (ha : a ∈ L) (hb : b ∈ L) (h : rank L a = rank L b) : a = b := by
  obtain ⟨h1, h2⟩ := at_rank hp hs ha
  obtain ⟨h3, h4⟩ := at_rank hp hs hb
  rw [← h2, ← h4]
  simp only [h]

/-- The share at place b is dealt one. -/
theorem outK_set {L : List Sh} (hL : ∀ i (h : i < L.length), (L[i]).i = (i : Int)) {k b : Nat} (hb : b < L.length) (hr : rank L L[b] = k) : (outK L k).set b (L[b].a + 1) = outK L (k + 1) := by
  have hp := isort_sorted hL
  refine List.ext_getElem (by simp [outK_len]) fun i h1 h2 => ?_
  have hi : i < L.length := by simpa [outK_len] using h2
  rw [List.getElem_set]
  simp only [outK, List.getElem_map]
  split
  · rename_i e; subst e; rw [if_pos (by omega)]
  · rename_i e
    have : rank L L[i] ≠ k := by
      intro q
      have := rank_inj hp.1 hp.2 (List.getElem_mem hi) (List.getElem_mem hb) (q.trans hr.symm)
      have h1 := hL i hi; have h2 := hL b hb
      rw [this, h2] at h1; omega
    congr 1
    by_cases q : rank L L[i] < k
    · rw [if_pos q, if_pos (by omega)]
    · rw [if_neg q, if_neg (by omega)]

theorem lefK_set {L : List Sh} (hL : ∀ i (h : i < L.length), (L[i]).i = (i : Int)) {k b : Nat} (hb : b < L.length) (hr : rank L L[b] = k) : (lefK L k).set b (-1) = lefK L (k + 1) := by
  have hp := isort_sorted hL
  refine List.ext_getElem (by simp [lefK_len]) fun i h1 h2 => ?_
  have hi : i < L.length := by simpa [lefK_len] using h2
  rw [List.getElem_set]
  simp only [lefK, List.getElem_map]
  split
  · rename_i e; subst e; rw [if_pos (by omega)]
  · rename_i e
    have : rank L L[i] ≠ k := by
      intro q
      have := rank_inj hp.1 hp.2 (List.getElem_mem hi) (List.getElem_mem hb) (q.trans hr.symm)
      have h1 := hL i hi; have h2 := hL b hb
      rw [this, h2] at h1; omega
    by_cases q : rank L L[i] < k
    · rw [if_pos q, if_pos (by omega)]
    · rw [if_neg q, if_neg (by omega)]

/-- The best of those that are left stands at rank k. -/
theorem best_rank {L : List Sh} (hL : ∀ i (h : i < L.length), (L[i]).i = (i : Int)) (h0 : ∀ s ∈ L, 0 ≤ s.l) {k b : Nat} (hk : k < L.length) (hb : b < L.length)
    (h : ∀ j < L.length, (lefK L k).getD j 0 < (lefK L k).getD b 0 ∨ ((lefK L k).getD j 0 = (lefK L k).getD b 0 ∧ b ≤ j)) : rank L L[b] = k := by
  obtain ⟨hp, hs⟩ := isort_sorted hL
  have hkS : k < (isort L L.length).length := by rw [hp.length_eq]; exact hk
  have hsm : (isort L L.length)[k] ∈ L := hp.mem_iff.1 (List.getElem_mem hkS)
  have hrk := rank_at hp hs hkS
  obtain ⟨j, hj, e⟩ := List.getElem_of_mem hsm
  rw [← e] at hrk
  have hjb := h j hj
  rw [lefK_get hj, lefK_get hb, hrk, if_neg (Nat.lt_irrefl k)] at hjb
  have hj0 := h0 _ (List.getElem_mem hj)
  by_cases q : rank L L[b] < k
  · rw [if_pos q] at hjb; omega
  · rw [if_neg q] at hjb
    by_cases q2 : rank L L[b] = k
    · exact q2
    · exfalso
      have hne : rank L L[j] < rank L L[b] := by omega
      -- then j comes before b
      have hbf : bf L[j] L[b] = true := by
        cases hc : bf L[j] L[b] with
        | true => rfl
        | false =>
          exfalso
          have hbj : bf L[b] L[j] = true ∨ L[b] = L[j] := by
            have h1 := hL j hj; have h2 := hL b hb
            by_cases e : b = j
            · subst e; exact .inr rfl
            · left
              refine bf_iff.2 ?_
              have h3 : ¬ (L[b].l < L[j].l ∨ (L[j].l = L[b].l ∧ L[j].i < L[b].i)) := fun q => by rw [bf_iff.2 q] at hc; cases hc
              omega
          rcases hbj with g | g
          · have := rank_mono (List.getElem_mem hb) g; omega
          · rw [g] at hne; omega
      have := bf_iff.1 hbf
      have h1 := hL j hj; have h2 := hL b hb
      omega

theorem outK_shr {L : List Sh} {r : Nat} : outK L r = shr L r := by
  unfold outK shr
  refine List.map_congr_left fun s _ => ?_
  congr 1
  by_cases h : rank L s < r
  · rw [if_pos h, if_pos (by omega)]
  · rw [if_neg h, if_neg (by omega)]
end Go.Proofs.YtniglomooepbcaaDoor
