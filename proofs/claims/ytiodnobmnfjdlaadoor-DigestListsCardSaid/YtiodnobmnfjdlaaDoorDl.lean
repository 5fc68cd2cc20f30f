/- Digests, in plain Lean: words, chunks, hexadecimal digits. Own work; no program in sight. -/
import Derived.Lib.ItoaNum
set_option linter.unusedSimpArgs false
set_option linter.unusedVariables false
namespace Go.Proofs.YtiodnobmnfjdlaaDoor
open Go

abbrev W : Nat := 18446744073709551616

/-- A word and itself shifted down. -/
def xs (k y : Nat) : Nat := y ^^^ (y >>> k)

theorem xor_lt {a b : Nat} (ha : a < W) (hb : b < W) : a ^^^ b < W := by
  have := Nat.xor_lt_two_pow (n := 64) ha hb
  exact this

theorem shr_le (a k : Nat) : a >>> k ≤ a := by rw [Nat.shiftRight_eq_div_pow]; exact Nat.div_le_self _ _

theorem xs_lt {k y : Nat} (h : y < W) : xs k y < W := xor_lt h (Nat.lt_of_le_of_lt (shr_le y k) h)

theorem shr_zero {y k : Nat} (h : y < W) (hk : 64 ≤ k) : y >>> k = 0 := by
  rw [Nat.shiftRight_eq_div_pow]
  exact Nat.div_eq_of_lt (Nat.lt_of_lt_of_le h (Nat.pow_le_pow_right (by omega) hk : 2 ^ 64 ≤ 2 ^ k))

theorem xs_twice (k y : Nat) : xs k (xs k y) = y ^^^ (y >>> (k + k)) := by
  unfold xs
  rw [Nat.shiftRight_xor_distrib, ← Nat.shiftRight_add, ← Nat.xor_assoc, Nat.xor_assoc y, Nat.xor_self, Nat.xor_zero]

theorem xs33_inj {a b : Nat} (ha : a < W) (hb : b < W) (h : xs 33 a = xs 33 b) : a = b := by
  have h1 := congrArg (xs 33) h
  rw [xs_twice, xs_twice, shr_zero ha (by omega), shr_zero hb (by omega), Nat.xor_zero, Nat.xor_zero] at h1
  exact h1

theorem xs27_inj {a b : Nat} (ha : a < W) (hb : b < W) (h : xs 27 a = xs 27 b) : a = b := by
  have h1 := congrArg (xs 27) h
  rw [xs_twice, xs_twice] at h1
  have h2 := congrArg (xs 54) h1
  have e : ∀ y : Nat, y ^^^ (y >>> (27 + 27)) = xs 54 y := fun _ => rfl
  rw [e, e, xs_twice, xs_twice, shr_zero ha (by omega), shr_zero hb (by omega), Nat.xor_zero, Nat.xor_zero] at h2
  exact h2

theorem mul_inj {c d a b : Nat} (hcd : c * d % W = 1) (ha : a < W) (hb : b < W) (h : a * c % W = b * c % W) : a = b := by
  have key : ∀ x : Nat, x < W → (x * c % W) * d % W = x := by
    intro x hx
    rw [Nat.mod_mul_mod, Nat.mul_assoc, Nat.mul_mod, hcd, Nat.mul_one, Nat.mod_mod, Nat.mod_eq_of_lt hx]
  rw [← key a ha, ← key b hb, h]

theorem mod_lt_W (x : Nat) : x % W < W := Nat.mod_lt _ (by decide)

/-- The lower half of a product. -/
def mulW (x c : Nat) : Nat := x * c % W
theorem mulW_lt (x c : Nat) : mulW x c < W := mod_lt_W _

def mixN (x : Nat) : Nat := xs 27 (mulW (xs 33 (mulW x 6364136223846793005)) 2685821657736338717)

theorem mixN_lt (x : Nat) : mixN x < W := xs_lt (mulW_lt _ _)

theorem mixN_inj {a b : Nat} (ha : a < W) (hb : b < W) (h : mixN a = mixN b) : a = b := by
  unfold mixN at h
  have h1 := xs27_inj (mulW_lt _ _) (mulW_lt _ _) h
  have h2 := mul_inj (d := 6415128727920758069) (by decide) (xs_lt (mulW_lt _ _)) (xs_lt (mulW_lt _ _)) h1
  have h3 := xs33_inj (mulW_lt _ _) (mulW_lt _ _) h2
  exact mul_inj (d := 13877824140714322085) (by decide) ha hb h3

/-! ### Chunks -/

def val (l : List UInt8) : Nat := l.foldl (fun n b => 256 * n + b.toNat) 0

theorem val_app (l : List UInt8) (b : UInt8) : val (l ++ [b]) = 256 * val l + b.toNat := by simp [val]

theorem val_lt : ∀ (l : List UInt8), val l < 256 ^ l.length := by
  intro l
  have key : ∀ (l : List UInt8) (n k : Nat), n < 256 ^ k → l.foldl (fun n b => 256 * n + b.toNat) n < 256 ^ (k + l.length) := by
    intro l
    induction l with
    | nil => intro n k h; simpa using h
    | cons b l ih =>
      intro n k h
      have hb : b.toNat < 256 := UInt8.toNat_lt b
      have h2 : 256 * n + b.toNat < 256 ^ (k + 1) := by rw [Nat.pow_succ]; omega
      have := ih _ _ h2
      simp only [List.foldl_cons, List.length_cons]
      rwa [show k + (l.length + 1) = k + 1 + l.length by omega]
  have := key l 0 0 (by simp)
  simpa [val] using this

theorem val_inj : ∀ (n : Nat) (a b : List UInt8), a.length = n → b.length = n → val a = val b → a = b := by
  intro n
  induction n with
  | zero => intro a b ha hb _; rw [List.eq_nil_of_length_eq_zero ha, List.eq_nil_of_length_eq_zero hb]
  | succ n ih =>
    intro a b ha hb h
    rcases List.eq_nil_or_concat a with rfl | ⟨a', x, rfl⟩
    · simp at ha
    rcases List.eq_nil_or_concat b with rfl | ⟨b', y, rfl⟩
    · simp at hb
    simp only [List.concat_eq_append, List.length_append, List.length_cons, List.length_nil] at ha hb h ⊢
    rw [val_app, val_app] at h
    have hx : x.toNat < 256 := UInt8.toNat_lt x
    have hy : y.toNat < 256 := UInt8.toNat_lt y
    have e1 : x.toNat = y.toNat := by omega
    have e2 := ih a' b' (by omega) (by omega) (by omega)
    rw [e2, UInt8.toNat_inj.1 e1]

/-- A chunk of at most eight bytes, filled up with zeros. -/
def blk (p : List UInt8) : Nat := val p * 256 ^ (8 - p.length)

theorem blk_lt {p : List UInt8} (h : p.length ≤ 8) : blk p < W := by
  have h1 := val_lt p
  have h2 : 256 ^ p.length * 256 ^ (8 - p.length) = W := by
    rw [← Nat.pow_add, show p.length + (8 - p.length) = 8 by omega]
  unfold blk
  rw [← h2]
  exact Nat.mul_lt_mul_of_pos_right h1 (Nat.pow_pos (by omega))

theorem blk_inj {a b : List UInt8} (h : a.length = b.length) (h8 : a.length ≤ 8) (e : blk a = blk b) : a = b := by
  unfold blk at e
  rw [h] at e
  exact val_inj _ a b h rfl (Nat.eq_of_mul_eq_mul_right (Nat.pow_pos (by omega)) e)

def run (s : Nat) (t : List UInt8) : Nat :=
  if 8 ≤ t.length then run (mixN (s ^^^ blk (t.take 8))) (t.drop 8) else mixN (s ^^^ blk t)
  termination_by t.length
  decreasing_by simp; omega

theorem run_long {s : Nat} {t : List UInt8} (h : 8 ≤ t.length) : run s t = run (mixN (s ^^^ blk (t.take 8))) (t.drop 8) := by
  rw [run, if_pos h]
theorem run_short {s : Nat} {t : List UInt8} (h : t.length < 8) : run s t = mixN (s ^^^ blk t) := by
  rw [run, if_neg (by omega)]

theorem run_lt : ∀ (n s : Nat) (t : List UInt8), t.length ≤ n → run s t < W := by
  intro n
  induction n using Nat.strongRecOn with
  | _ n ih =>
    intro s t h
    by_cases hl : 8 ≤ t.length
    · rw [run_long hl]
      exact ih (t.drop 8).length (by simp; omega) _ _ (Nat.le_refl _)
    · rw [run_short (by omega)]; exact mixN_lt _

theorem xor_cancel {s a b : Nat} (h : s ^^^ a = s ^^^ b) : a = b := by
  have := congrArg (s ^^^ ·) h
  simpa [← Nat.xor_assoc] using this
theorem xor_cancel' {s a b : Nat} (h : a ^^^ s = b ^^^ s) : a = b := by
  rw [Nat.xor_comm a, Nat.xor_comm b] at h; exact xor_cancel h

/-- The state is not lost. -/
theorem run_inj : ∀ (n : Nat) (s s' : Nat) (t : List UInt8), t.length ≤ n → s < W → s' < W → run s t = run s' t → s = s' := by
  intro n
  induction n using Nat.strongRecOn with
  | _ n ih =>
    intro s s' t h hs hs' e
    have hx : ∀ s p, s < W → p.length ≤ 8 → s ^^^ blk p < W := fun s p h1 h2 => xor_lt h1 (blk_lt h2)
    by_cases hl : 8 ≤ t.length
    · rw [run_long hl, run_long hl] at e
      have h8 : (t.take 8).length ≤ 8 := by simp; omega
      have := ih (t.drop 8).length (by simp; omega) _ _ _ (Nat.le_refl _) (mixN_lt _) (mixN_lt _) e
      exact xor_cancel' (mixN_inj (hx _ _ hs h8) (hx _ _ hs' h8) this)
    · rw [run_short (by omega), run_short (by omega)] at e
      exact xor_cancel' (mixN_inj (hx _ _ hs (by omega)) (hx _ _ hs' (by omega)) e)

/-- Pieces in the first chunk. -/
theorem run_piece {s : Nat} (hs : s < W) {a b r : List UInt8} (h : a.length = b.length) (h8 : a.length ≤ 8) : run s (a ++ r) = run s (b ++ r) ↔ a = b := by
  constructor
  · intro e
    by_cases hl : 8 ≤ (a ++ r).length
    · have hlb : 8 ≤ (b ++ r).length := by rw [List.length_append] at hl ⊢; omega
      rw [run_long (t := a ++ r) hl, run_long (t := b ++ r) hlb] at e
      have hd : (a ++ r).drop 8 = (b ++ r).drop 8 := by
        rw [List.drop_append, List.drop_append, List.drop_eq_nil_of_le h8, List.drop_eq_nil_of_le (show b.length ≤ 8 by omega), h]
      rw [hd] at e
      have ha8 : ((a ++ r).take 8).length = 8 := by rw [List.length_take]; omega
      have hb8 : ((b ++ r).take 8).length = 8 := by rw [List.length_take]; omega
      have e2 := run_inj _ _ _ _ (Nat.le_refl _) (mixN_lt _) (mixN_lt _) e
      have e3 := mixN_inj (xor_lt hs (blk_lt (by omega))) (xor_lt hs (blk_lt (by omega))) e2
      have e4 := blk_inj (by omega) (by omega) (xor_cancel e3)
      have e5 := congrArg (List.take a.length) e4
      rw [List.take_take, List.take_take, Nat.min_eq_left h8, List.take_left, h, List.take_left] at e5
      exact e5
    · have hlb : (b ++ r).length < 8 := by rw [List.length_append] at hl ⊢; omega
      rw [run_short (t := a ++ r) (by omega), run_short (t := b ++ r) hlb] at e
      have e3 := mixN_inj (xor_lt hs (blk_lt (by omega))) (xor_lt hs (blk_lt (by omega))) e
      have e4 := blk_inj (by simp [h]) (by omega) (xor_cancel e3)
      exact List.append_cancel_right e4
  · rintro rfl; rfl

/-- Whole chunks ahead. -/
def runP (s : Nat) : Nat → List UInt8 → Nat
  | 0, _ => s
  | m + 1, t => runP (mixN (s ^^^ blk (t.take 8))) m (t.drop 8)

theorem runP_lt : ∀ (m s : Nat) (t : List UInt8), s < W → runP s m t < W
  | 0, s, t, h => h
  | m + 1, s, t, h => runP_lt m _ _ (mixN_lt _)

theorem run_app : ∀ (m s : Nat) (p u : List UInt8), p.length = 8 * m → run s (p ++ u) = run (runP s m p) u
  | 0, s, p, u, h => by
    have : p = [] := List.eq_nil_of_length_eq_zero (by omega)
    subst this; rfl
  | m + 1, s, p, u, h => by
    rw [run_long (by simp; omega), runP]
    have e1 : (p ++ u).take 8 = p.take 8 := by rw [List.take_append_of_le_length (by omega)]
    have e2 : (p ++ u).drop 8 = p.drop 8 ++ u := by rw [List.drop_append_of_le_length (by omega)]
    rw [e1, e2, run_app m _ _ _ (by simp; omega)]

def stt (t : List UInt8) : Nat := run (7046029254386353131 ^^^ t.length) t

theorem stt_lt (t : List UInt8) : stt t < W := run_lt _ _ _ (Nat.le_refl _)

/-! ### Hexadecimal digits -/

def hexd (v : Nat) : UInt8 := if v < 10 then UInt8.ofNat (48 + v) else UInt8.ofNat (87 + v)

theorem hexd_toNat {v : Nat} (h : v < 16) : (hexd v).toNat = if v < 10 then 48 + v else 87 + v := by
  unfold hexd; split <;> rw [UInt8.toNat_ofNat'] <;> omega

theorem hexd_inj {a b : Nat} (ha : a < 16) (hb : b < 16) (h : hexd a = hexd b) : a = b := by
  have := congrArg UInt8.toNat h
  rw [hexd_toNat ha, hexd_toNat hb] at this
  split at this <;> split at this <;> omega

def hex16 (s : Nat) : List UInt8 := (List.range 16).map fun i => hexd (s / 16 ^ (15 - i) % 16)

theorem hex16_len (s : Nat) : (hex16 s).length = 16 := by simp [hex16]

theorem digits_eq : ∀ (k a b : Nat), (∀ i, i < k → a / 16 ^ i % 16 = b / 16 ^ i % 16) → a % 16 ^ k = b % 16 ^ k
  | 0, a, b, _ => by simp [Nat.mod_one]
  | k + 1, a, b, h => by
    have h0 := h 0 (by omega)
    simp only [Nat.pow_zero, Nat.div_one] at h0
    have ih := digits_eq k (a / 16) (b / 16) fun i hi => by
      have := h (i + 1) (by omega)
      rwa [Nat.pow_succ, Nat.mul_comm, ← Nat.div_div_eq_div_mul, ← Nat.div_div_eq_div_mul] at this
    have e : ∀ x : Nat, x % 16 ^ (k + 1) = 16 * (x / 16 % 16 ^ k) + x % 16 := by
      intro x
      rw [Nat.pow_succ, Nat.mul_comm, Nat.mod_mul]; omega
    rw [e a, e b, ih, h0]

theorem hex16_inj {a b : Nat} (ha : a < W) (hb : b < W) (h : hex16 a = hex16 b) : a = b := by
  have hd : ∀ i, i < 16 → a / 16 ^ i % 16 = b / 16 ^ i % 16 := by
    intro i hi
    have h1 := congrArg (fun l => l[15 - i]?) h
    simp only [hex16, List.getElem?_map, List.getElem?_range (show 15 - i < 16 by omega), Option.map_some, Option.some.injEq] at h1
    rw [show 15 - (15 - i) = i by omega] at h1
    exact hexd_inj (Nat.mod_lt _ (by omega)) (Nat.mod_lt _ (by omega)) h1
  have := digits_eq 16 a b hd
  have e : (16 : Nat) ^ 16 = W := by decide
  rwa [e, Nat.mod_eq_of_lt ha, Nat.mod_eq_of_lt hb] at this

/-- The digest of a text. -/
def sumN (t : List UInt8) : List UInt8 := hex16 (stt t)

theorem sumN_iff {a b : List UInt8} : sumN a = sumN b ↔ stt a = stt b :=
  ⟨fun h => hex16_inj (stt_lt a) (stt_lt b) h, fun h => by unfold sumN; rw [h]⟩

/-! ### The laws -/

theorem len_lt {t : List UInt8} (h : t.length < 65536) : 7046029254386353131 ^^^ t.length < W := xor_lt (by decide) (by show t.length < 18446744073709551616; omega)

/-- Short texts. -/
theorem sum_short {a b : List UInt8} (ha : a.length ≤ 7) (hb : b.length ≤ 7) : sumN a = sumN b ↔ a = b := by
  rw [sumN_iff]
  constructor
  · intro h
    unfold stt at h
    rw [run_short (by omega), run_short (by omega)] at h
    have h1 := mixN_inj (xor_lt (len_lt (by omega)) (blk_lt (by omega))) (xor_lt (len_lt (by omega)) (blk_lt (by omega))) h
    rw [Nat.xor_assoc, Nat.xor_assoc] at h1
    have h2 := xor_cancel h1
    have low : ∀ t : List UInt8, t.length ≤ 7 → blk t % 256 = 0 := by
      intro t ht
      unfold blk
      rw [show 8 - t.length = (7 - t.length) + 1 by omega, Nat.pow_succ, ← Nat.mul_assoc, Nat.mul_mod_left]
    have m : ∀ t : List UInt8, t.length ≤ 7 → (t.length ^^^ blk t) % 256 = t.length := by
      intro t ht
      have := Nat.xor_mod_two_pow (a := t.length) (b := blk t) (n := 8)
      have e : t.length % 256 = t.length := Nat.mod_eq_of_lt (by omega)
      rw [show (2 : Nat) ^ 8 = 256 by decide, low t ht, Nat.xor_zero, e] at this
      exact this
    have hlen : a.length = b.length := by rw [← m a ha, ← m b hb, h2]
    rw [hlen] at h2
    exact blk_inj hlen (by omega) (xor_cancel h2)
  · rintro rfl; rfl

/-- Texts that differ in one chunk at most. -/
theorem sum_block {p a b r : List UInt8} (m : Nat) (hp : p.length = 8 * m) (h : a.length = b.length) (h8 : a.length ≤ 8) (hl : (p ++ a ++ r).length < 65536) : sumN (p ++ a ++ r) = sumN (p ++ b ++ r) ↔ a = b := by
  rw [sumN_iff]
  unfold stt
  have hle : (p ++ b ++ r).length = (p ++ a ++ r).length := by simp [h]
  rw [hle, List.append_assoc, List.append_assoc, run_app m _ _ _ hp, run_app m _ _ _ hp]
  exact run_piece (runP_lt _ _ _ (by rw [← List.append_assoc]; exact len_lt hl)) h h8
end Go.Proofs.YtiodnobmnfjdlaaDoor
