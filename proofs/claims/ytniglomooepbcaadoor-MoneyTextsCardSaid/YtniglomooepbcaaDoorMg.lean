/- Shares in plain Lean: sorting, ranks, the result of Split. No program in sight. Own work. -/
import Derived.Test.YtniglomooepbcaaDoorMf
set_option linter.unusedSimpArgs false
set_option linter.unusedVariables false
namespace Go.Proofs.YtniglomooepbcaaDoor
open Go GoV

/-- The first comes before the second. -/
def bf (a b : Sh) : Bool := decide (b.l < a.l) || (decide (a.l = b.l) && decide (a.i < b.i))

theorem bf_iff {a b : Sh} : bf a b = true ↔ b.l < a.l ∨ (a.l = b.l ∧ a.i < b.i) := by simp [bf]

/-- The shares before the rest is dealt out. -/
def bs (n T : Int) : Nat → List Int → List Sh
  | _, [] => []
  | i, w :: r => ⟨i, n * w / T, n * w % T⟩ :: bs n T (i + 1) r

theorem bs_app (n T : Int) : ∀ (a b : List Int) (k : Nat), bs n T k (a ++ b) = bs n T k a ++ bs n T (k + a.length) b
  | [], b, k => by simp [bs]
  | w :: a, b, k => by simp [bs, bs_app n T a b (k + 1), Nat.add_assoc, Nat.add_comm 1]

theorem bs_len (n T : Int) : ∀ (a : List Int) (k : Nat), (bs n T k a).length = a.length
  | [], k => rfl
  | w :: a, k => by simp [bs, bs_len n T a (k + 1)]

theorem bs_get (n T : Int) : ∀ (a : List Int) (k i : Nat) (h : i < a.length), (bs n T k a)[i]'(by rw [bs_len]; exact h) = ⟨((k + i : Nat) : Int), n * a[i] / T, n * a[i] % T⟩
  | w :: a, k, 0, h => by simp [bs]
  | w :: a, k, i + 1, h => by
    simp only [bs, List.getElem_cons_succ]
    rw [bs_get n T a (k + 1) i (by simpa using h)]
    simp [Nat.add_assoc, Nat.add_comm 1]

/-! ### Sorting -/

theorem swap_at (A B : List Sh) (a x : Sh) : ((A ++ a :: x :: B).set (A.length + 1) a).set A.length x = A ++ x :: a :: B := by
  induction A with
  | nil => simp
  | cons y A ih => simp [ih]

theorem get_at (A B : List Sh) (a : Sh) : (A ++ a :: B).getD A.length default = a := by
  simp [List.getD]

theorem get_at1 (A B : List Sh) (a x : Sh) : (A ++ a :: x :: B).getD (A.length + 1) default = x := by
  simp [List.getD]

theorem snoc_cases {α : Type} (l : List α) : l = [] ∨ ∃ a x, l = a ++ [x] := by
  rcases List.eq_nil_or_concat l with h | ⟨a, x, h⟩
  · exact .inl h
  · exact .inr ⟨a, x, by simpa using h⟩

theorem sink_sort (x : Sh) : ∀ (k : Nat) (A B : List Sh), A.length = k → A.Pairwise (fun a b => bf a b = true) → (∀ a ∈ A, a.i < x.i) →
    ∃ A', sink k (A ++ x :: B) = A' ++ B ∧ A'.Perm (A ++ [x]) ∧ A'.Pairwise (fun a b => bf a b = true) := by
  intro k
  induction k with
  | zero =>
    intro A B h _ _
    have : A = [] := List.length_eq_zero_iff.1 h
    subst this
    exact ⟨[x], rfl, List.Perm.refl _, by simp⟩
  | succ k ih =>
    intro A B h hp hi
    rcases snoc_cases A with rfl | ⟨A, a, rfl⟩
    · simp at h
    · have hk : A.length = k := by simpa using h
      have hpA := (List.pairwise_append.1 hp).1
      have hpa : ∀ y ∈ A, bf y a = true := fun y hy => (List.pairwise_append.1 hp).2.2 y hy a (by simp)
      have e1 : A ++ [a] ++ x :: B = A ++ a :: x :: B := by simp
      rw [e1, sink, ← hk, get_at, get_at1]
      by_cases hl : a.l < x.l
      · rw [if_pos hl, swap_at, hk]
        obtain ⟨A', h1, h2, h3⟩ := ih A (a :: B) hk hpA (fun y hy => hi y (by simp [hy]))
        refine ⟨A' ++ [a], by rw [h1]; simp, ?_, ?_⟩
        · have := h2.append_right [a]
          refine this.trans ?_
          simp only [List.append_assoc]
          exact List.Perm.append_left A (List.Perm.swap a x [])
        · refine List.pairwise_append.2 ⟨h3, by simp, fun y hy z hz => ?_⟩
          have hz : z = a := by simpa using hz
          subst hz
          rcases List.mem_append.1 (h2.mem_iff.1 hy) with g | g
          · exact hpa y g
          · have : y = x := by simpa using g
            subst this; exact bf_iff.2 (.inl hl)
      · rw [if_neg hl]
        refine ⟨A ++ [a] ++ [x], by simp, List.Perm.refl _, List.pairwise_append.2 ⟨hp, by simp, fun y hy z hz => ?_⟩⟩
        have hz : z = x := by simpa using hz
        subst hz
        have hyi := hi y hy
        refine bf_iff.2 ?_
        rcases List.mem_append.1 hy with g | g
        · have := bf_iff.1 (hpa y g)
          omega
        · have : y = a := by simpa using g
          subst this; omega

theorem isort_spec (L : List Sh) (hL : ∀ i (h : i < L.length), (L[i]).i = (i : Int)) : ∀ k, k ≤ L.length →
    ∃ A, isort L k = A ++ L.drop k ∧ A.Perm (L.take k) ∧ A.Pairwise (fun a b => bf a b = true) := by
  intro k
  induction k with
  | zero => intro _; exact ⟨[], by simp [isort], by simp, by simp⟩
  | succ k ih =>
    intro hk
    obtain ⟨A, h1, h2, h3⟩ := ih (by omega)
    have hlt : k < L.length := by omega
    have hlen : A.length = k := by rw [h2.length_eq]; simp; omega
    have hidx : ∀ a ∈ A, a.i < (L[k]).i := by
      intro a ha
      obtain ⟨j, hj, rfl⟩ := List.getElem_of_mem (h2.mem_iff.1 ha)
      have hj' : j < k := by simp at hj; omega
      rw [List.getElem_take, hL j (by omega), hL k hlt]; omega
    obtain ⟨A', g1, g2, g3⟩ := sink_sort (L[k]) k A (L.drop (k + 1)) hlen h3 hidx
    refine ⟨A', by rw [isort, h1, List.drop_eq_getElem_cons hlt]; exact g1, ?_, g3⟩
    rw [List.take_succ_eq_append_getElem hlt]
    exact g2.trans (h2.append_right _)

theorem isort_sorted {L : List Sh} (hL : ∀ i (h : i < L.length), (L[i]).i = (i : Int)) : (isort L L.length).Perm L ∧ (isort L L.length).Pairwise (fun a b => bf a b = true) := by
  obtain ⟨A, h1, h2, h3⟩ := isort_spec L hL L.length (Nat.le_refl _)
  rw [List.drop_length, List.append_nil] at h1
  rw [List.take_length] at h2
  rw [h1]; exact ⟨h2, h3⟩

/-! ### Ranks -/

def rank (L : List Sh) (s : Sh) : Nat := L.countP (fun b => bf b s)

theorem bf_irrefl (s : Sh) : bf s s = false := by
  cases h : bf s s with
  | false => rfl
  | true => have := bf_iff.1 h; omega

theorem bf_asymm {a b : Sh} (h : bf a b = true) : bf b a = false := by
  cases h' : bf b a with
  | false => rfl
  | true => have := bf_iff.1 h; have := bf_iff.1 h'; omega

theorem rank_at {L S : List Sh} (hp : S.Perm L) (hs : S.Pairwise (fun a b => bf a b = true)) {p : Nat} (h : p < S.length) : rank L S[p] = p := by
  unfold rank
  rw [← hp.countP_eq]
  have e : S = S.take p ++ S[p] :: S.drop (p + 1) := by
    rw [← List.drop_eq_getElem_cons h, List.take_append_drop]
  generalize hx : S[p] = x at *
  have hlen : (S.take p).length = p := by simp; omega
  generalize S.take p = A at *
  generalize S.drop (p + 1) = B at *
  subst e
  obtain ⟨h1, h2, h3⟩ := List.pairwise_append.1 hs
  rw [List.countP_append, List.countP_cons, bf_irrefl]
  have a1 : A.countP (fun b => bf b x) = A.length := List.countP_eq_length.2 fun a ha => h3 a ha x (by simp)
  have a2 : B.countP (fun b => bf b x) = 0 := List.countP_eq_zero.2 fun b hb => by
    have := bf_asymm ((List.pairwise_cons.1 h2).1 b hb)
    simp [this]
  rw [a1, a2, hlen]; simp

/-- Each share stands in the row at its rank. -/
theorem at_rank {L S : List Sh} (hp : S.Perm L) (hs : S.Pairwise (fun a b => bf a b = true)) {s : Sh} (h : s ∈ L) : ∃ hlt : rank L s < S.length, S[rank L s] = s := by
  obtain ⟨p, hlt, e⟩ := List.getElem_of_mem (hp.mem_iff.2 h)
  have := rank_at hp hs hlt
  rw [e] at this
  subst this
  exact ⟨hlt, e⟩

theorem rank_mono {L : List Sh} {a b : Sh} (ha : a ∈ L) (h : bf a b = true) : rank L a < rank L b := by
  unfold rank
  induction L with
  | nil => cases ha
  | cons x L ih =>
    have le : ∀ l : List Sh, l.countP (fun c => bf c a) ≤ l.countP (fun c => bf c b) := fun l =>
      List.countP_mono_left fun c _ hc => by
        have h1 := bf_iff.1 hc; have h2 := bf_iff.1 h
        exact bf_iff.2 (by omega)
    rw [List.countP_cons, List.countP_cons]
    rcases List.mem_cons.1 ha with rfl | ha
    · have := le L
      rw [bf_irrefl, h]; simp; omega
    · have := ih ha
      by_cases hc : bf x a = true
      · have h1 := bf_iff.1 hc; have h2 := bf_iff.1 h
        have : bf x b = true := bf_iff.2 (by omega)
        rw [hc, this]; omega
      · have hc : bf x a = false := by simpa using hc
        rw [hc]; simp; split <;> omega

/-! ### The shares -/

def shr (L : List Sh) (k : Int) : List Int := L.map fun s => s.a + if (rank L s : Int) < k then 1 else 0

/-- The shares of an amount, and what is said about the arguments. -/
def splL (n : Int) (ws : List Int) : List Sh := bs n ws.sum 0 ws
def splR (n : Int) (ws : List Int) : Int := n - ((splL n ws).map (·.a)).sum
def spl (n : Int) (ws : List Int) : List Int × Int := if Am n ∧ 0 ≤ tot ws then (shr (splL n ws) (splR n ws), 0) else ([], 1)

theorem splL_idx (n T : Int) (ws : List Int) : ∀ i (h : i < (bs n T 0 ws).length), ((bs n T 0 ws)[i]).i = (i : Int) := by
  intro i h
  rw [bs_len] at h
  rw [bs_get n T ws 0 i h]
  simp

/-! ### Sums -/

theorem bs_sum (n T : Int) : ∀ (ws : List Int) (k : Nat), T * ((bs n T k ws).map (·.a)).sum + ((bs n T k ws).map (·.l)).sum = n * ws.sum
  | [], k => by simp [bs]
  | w :: ws, k => by
    have h := bs_sum n T ws (k + 1)
    have e := Int.mul_ediv_add_emod (n * w) T
    simp only [bs, List.map_cons, List.sum_cons, Int.mul_add]
    omega

theorem bs_mem {n T : Int} : ∀ {ws : List Int} {k : Nat} {s : Sh}, s ∈ bs n T k ws → ∃ w ∈ ws, s.a = n * w / T ∧ s.l = n * w % T
  | [], _, _, h => by cases h
  | w :: ws, k, s, h => by
    rcases List.mem_cons.1 h with rfl | h
    · exact ⟨w, by simp, rfl, rfl⟩
    · obtain ⟨w', h1, h2⟩ := bs_mem h
      exact ⟨w', by simp [h1], h2⟩

theorem sum_count {T : Int} (p : Sh → Bool) : ∀ {L : List Sh}, (∀ s ∈ L, 0 ≤ s.l ∧ s.l < T) → (∀ s ∈ L, p s = false → s.l = 0) → 0 ≤ (L.map (·.l)).sum ∧ (L.map (·.l)).sum ≤ (T - 1) * (L.countP p : Nat)
  | [], _, _ => by simp
  | s :: L, h1, h2 => by
    have ih := sum_count p (L := L) (fun s hs => h1 s (by simp [hs])) (fun s hs => h2 s (by simp [hs]))
    have hs := h1 s (by simp)
    have hz := h2 s (by simp)
    simp only [List.map_cons, List.sum_cons, List.countP_cons]
    cases hp : p s with
    | true =>
      simp only [if_true]
      have e : (T - 1) * ((List.countP p L + 1 : Nat) : Int) = (T - 1) * (List.countP p L : Nat) + (T - 1) := by rw [Int.natCast_add, Int.mul_add]; simp
      rw [e]
      omega
    | false =>
      have := hz hp
      simp only [Bool.false_eq_true, if_false, Nat.add_zero]
      omega

theorem mem_le_sum : ∀ {l : List Int}, (∀ w ∈ l, 0 ≤ w) → ∀ w ∈ l, w ≤ l.sum
  | [], _, w, h => by cases h
  | v :: l, h0, w, h => by
    have h1 : 0 ≤ l.sum := by
      clear h
      induction l with
      | nil => simp
      | cons x l ih => 
        have := h0 x (by simp)
        have := ih (fun w hw => h0 w (by
          rcases List.mem_cons.1 hw with g | g
          · simp [g]
          · simp [g]))
        simp only [List.sum_cons]; omega
    have hv := h0 v (by simp)
    simp only [List.sum_cons]
    rcases List.mem_cons.1 h with rfl | h
    · omega
    · have := mem_le_sum (fun w hw => h0 w (by simp [hw])) w h
      omega

theorem tot_ok {ws : List Int} (h : 0 ≤ tot ws) : ws.length ≤ 16 ∧ (∀ w ∈ ws, 0 ≤ w ∧ w ≤ 9999999) ∧ 0 < ws.sum ∧ ws.sum ≤ 159999984 ∧ tot ws = ws.sum ∧ ∀ w ∈ ws, w ≤ ws.sum := by
  unfold tot at h ⊢
  split at h
  · rename_i hc
    obtain ⟨h1, h2, h3⟩ := hc
    have hb := sum_bnd h2
    rw [if_pos ⟨h1, h2, h3⟩]
    exact ⟨h1, h2, by omega, by omega, rfl, mem_le_sum fun w hw => (h2 w hw).1⟩
  · omega

/-- The rest: not negative, less than the number of shares; nothing of it where nothing is left over. -/
theorem rest_bnd {n : Int} {ws : List Int} (hT : 0 < ws.sum) : 0 ≤ splR n ws ∧ (ws ≠ [] → splR n ws < ws.length) ∧ ∀ s ∈ splL n ws, s.l = 0 → splR n ws ≤ (rank (splL n ws) s : Nat) := by
  have e := bs_sum n ws.sum ws 0
  have hm : ∀ s ∈ splL n ws, 0 ≤ s.l ∧ s.l < ws.sum := by
    intro s hs
    obtain ⟨w, _, _, h2⟩ := bs_mem hs
    rw [h2]
    exact ⟨Int.emod_nonneg _ (by omega), Int.emod_lt_of_pos _ hT⟩
  have hR : ws.sum * splR n ws = ((splL n ws).map (·.l)).sum := by
    unfold splR splL
    rw [Int.mul_sub, Int.mul_comm ws.sum n]; omega
  have h0 := sum_count (fun _ => true) hm (by simp)
  have hn : (splL n ws).countP (fun _ => true) = ws.length := by simp [splL, bs_len]
  rw [hn] at h0
  generalize ws.sum = T at *
  generalize splR n ws = R at *
  have hR0 : 0 ≤ R := by
    rcases Int.lt_or_le R 0 with g | g
    · have := Int.mul_neg_of_pos_of_neg hT g
      omega
    · exact g
  refine ⟨hR0, fun hne => ?_, fun s hs hz => ?_⟩
  · have hl : 0 < ws.length := List.length_pos_iff.2 hne
    rcases Int.lt_or_le R ws.length with g | g
    · exact g
    · exfalso
      have h1 := Int.mul_le_mul_of_nonneg_left g (Int.le_of_lt hT)
      have h2 : (T - 1) * (ws.length : Nat) = T * (ws.length : Nat) - (ws.length : Nat) := by rw [Int.sub_mul, Int.one_mul]
      omega
  · have h1 := (sum_count (fun b => bf b s) hm (fun b hb hf => by
      have := hm b hb
      have : ¬ s.l < b.l := fun q => by rw [bf_iff.2 (.inl q)] at hf; cases hf
      omega)).2
    have h2 : ((splL n ws).countP fun b => bf b s) = rank (splL n ws) s := rfl
    rw [h2] at h1
    rcases Int.lt_or_le (rank (splL n ws) s : Nat) R with g | g
    · exfalso
      have h3 := Int.mul_le_mul_of_nonneg_left (Int.le_of_lt g) (show 0 ≤ T - 1 by omega)
      have h4 : (T - 1) * R = T * R - R := by rw [Int.sub_mul, Int.one_mul]
      omega
    · exact g

end Go.Proofs.YtniglomooepbcaaDoor
