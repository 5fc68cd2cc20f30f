/- What the functions of money compute: the walks, third part: Parse. Own work. -/
import Derived.Test.YtniglomooepbcaaDoorMc
set_option maxRecDepth 100000
set_option linter.unusedSimpArgs false
set_option linter.unusedVariables false
namespace Go.Proofs.YtniglomooepbcaaDoor
open Go GoV

/-- One byte more of a number. -/
def stp (n : Nat) (b : UInt8) : Nat := if 48 ≤ b.toNat ∧ b.toNat ≤ 57 then 10 * n + (b.toNat - 48) else n
def stc (n : Nat) (b : UInt8) : Nat := if (48 ≤ b.toNat ∧ b.toNat ≤ 57) ∧ n ≤ 1000000000000 then 10 * n + (b.toNat - 48) else n

theorem stp_le (n : Nat) (b : UInt8) : n ≤ stp n b := by unfold stp; split <;> omega

theorem fold_le : ∀ (l : List UInt8) (n : Nat), n ≤ l.foldl stp n
  | [], n => Nat.le_refl _
  | b :: l, n => Nat.le_trans (stp_le n b) (fold_le l _)

theorem fold_cap : ∀ (l : List UInt8) (n : Nat), l.foldl stp n ≤ 1000000000000 → l.foldl stc n = l.foldl stp n
  | [], n, _ => rfl
  | b :: l, n, h => by
    simp only [List.foldl_cons] at h ⊢
    have h1 := fold_le l (stp n b)
    have h2 := stp_le n b
    have e : stc n b = stp n b := by
      unfold stc stp
      by_cases hb : 48 ≤ b.toNat ∧ b.toNat ≤ 57
      · rw [if_pos ⟨hb, by omega⟩, if_pos hb]
      · rw [if_neg (fun q => hb q.1), if_neg hb]
    rw [e]; exact fold_cap l _ h

theorem ofNat_digit {d : Nat} (h : d < 10) : (UInt8.ofNat (48 + d)).toNat = 48 + d := by
  simp; omega

theorem stp_digit (n : Nat) {d : Nat} (h : d < 10) : stp n (UInt8.ofNat (48 + d)) = 10 * n + d := by
  unfold stp
  rw [ofNat_digit h, if_pos (by omega)]
  omega

theorem fold_dec (u : Nat) : (Lib.decDigits u).foldl stp 0 = u := by
  induction u using Nat.strongRecOn with
  | _ u ih =>
    by_cases h : u < 10
    · rw [Lib.decDigits_one h]
      simp only [List.foldl_cons, List.foldl_nil]
      rw [stp_digit 0 h]; omega
    · rw [dec_step h, List.foldl_append, ih (u / 10) (by omega)]
      simp only [List.foldl_cons, List.foldl_nil]
      rw [stp_digit _ (by omega)]; omega

theorem dec_ascii (u : Nat) : ∀ b ∈ Lib.decDigits u, b.toNat < 128 := by
  induction u using Nat.strongRecOn with
  | _ u ih =>
    by_cases h : u < 10
    · rw [Lib.decDigits_one h]
      intro b hb
      simp only [List.mem_singleton] at hb
      subst hb; rw [ofNat_digit h]; omega
    · rw [dec_step h]
      intro b hb
      rcases List.mem_append.1 hb with q | q
      · exact ih (u / 10) (by omega) b q
      · simp only [List.mem_singleton] at q
        subst q; rw [ofNat_digit (by omega)]; omega

theorem fold_txt {n : Int} (h : Am n) : (((txt n).foldl stp 0 : Nat) : Int) = n := by
  have h1 := h.1
  unfold txt
  rw [List.foldl_append, fold_dec]
  simp only [List.foldl_cons, List.foldl_nil]
  have e : stp (n / 100).toNat 46 = (n / 100).toNat := rfl
  rw [e, stp_digit _ (by omega), stp_digit _ (by omega)]
  omega

theorem txt_inj {a b : Int} (ha : Am a) (hb : Am b) (h : txt a = txt b) : a = b := by
  rw [← fold_txt ha, ← fold_txt hb, h]

theorem txt_len {n : Int} (h : Am n) : (txt n).length ≤ 14 ∧ 4 ≤ (txt n).length := by
  have h1 := h.1
  have h2 := h.2
  have := nd_le 10 (n / 100).toNat (by omega)
  have : 1 ≤ (Lib.decDigits (n / 100).toNat).length := by
    by_cases q : (n / 100).toNat < 10
    · rw [Lib.decDigits_one q]; simp
    · rw [dec_step q]; simp
  unfold txt
  simp; omega

theorem txt_ascii {n : Int} (h : Am n) : ∀ b ∈ txt n, b.toNat < 128 := by
  have h1 := h.1
  unfold txt
  intro b hb
  rcases List.mem_append.1 hb with q | q
  · exact dec_ascii _ b q
  · simp only [List.mem_cons, List.not_mem_nil, or_false] at q
    rcases q with q | q | q
    · subst q; decide
    · subst q; rw [ofNat_digit (by omega)]; omega
    · subst q; rw [ofNat_digit (by omega)]; omega

/-- The amount of a text. -/
noncomputable def prs (s : List UInt8) : Int × Int :=
  open Classical in if h : ∃ n, Am n ∧ txt n = s then (Classical.choose h, 0) else (0, 8)

theorem prs_txt {n : Int} (h : Am n) : prs (txt n) = (n, 0) := by
  unfold prs
  have hex : ∃ m, Am m ∧ txt m = txt n := ⟨n, h, rfl⟩
  rw [dif_pos hex]
  obtain ⟨h1, h2⟩ := Classical.choose_spec hex
  rw [txt_inj h1 h h2]

theorem prs_no {s : List UInt8} (h : ∀ n, Am n → txt n ≠ s) : prs s = (0, 8) := by
  unfold prs
  rw [dif_neg]
  rintro ⟨n, h1, h2⟩
  exact h n h1 h2

/-- Where both parsers end: with a number that is the text's, if any is. -/
theorem prs_end {s : List UInt8} {n : Int} (h : ∀ m, Am m → txt m = s → n = m) : prs s = if Am n ∧ txt n = s then (n, 0) else (0, 8) := by
  by_cases hn : Am n ∧ txt n = s
  · rw [if_pos hn, ← hn.2, prs_txt hn.1]
  · rw [if_neg hn]
    refine prs_no fun m h1 h2 => ?_
    have := h m h1 h2
    subst this; exact hn ⟨h1, h2⟩

theorem take_fold {l : List UInt8} {i : Nat} (h : i < l.length) (f : Nat → UInt8 → Nat) : (l.take (i + 1)).foldl f 0 = f ((l.take i).foldl f 0) (l.getD i 0) := by
  rw [take_step h, List.foldl_append]
  simp [List.getD, h]

theorem fold_bnd : ∀ (l : List UInt8), l.foldl stp 0 < 10 ^ l.length := by
  have : ∀ (l : List UInt8) (n k : Nat), n < 10 ^ k → l.foldl stp n < 10 ^ (k + l.length) := by
    intro l
    induction l with
    | nil => intro n k h; simpa using h
    | cons b l ih =>
      intro n k h
      simp only [List.foldl_cons, List.length_cons]
      have := ih (stp n b) (k + 1) (by
        unfold stp
        rw [Nat.pow_succ]
        split <;> omega)
      rw [show k + (l.length + 1) = k + 1 + l.length by omega]; exact this
  intro l
  have := this l 0 0 (by simp)
  simpa using this

theorem rparse_p (s : List UInt8) (hs : s.length ≤ 4611686018427387904) : Pur M 16 [.str s] (.tup [.int .i64 (prs s).1, .int .i64 (prs s).2]) := by
  refine ok16 rfl ?_
  rw [i16]
  unfold c16
  repeat' (first
    | with_reducible apply swp_seq
    | with_reducible apply swp_reg
    | with_reducible apply swp_regD
    | with_reducible apply swp_block
    | with_reducible apply swp_exit
    | with_reducible apply swp_ret
    | with_reducible apply swp_skip
    | with_reducible apply swp_cd
    | simp only [go_sem, Nat.reduceAdd, Nat.reduceSub, Nat.reduceMul, Nat.reduceEqDiff, Nat.reduceLeDiff, Nat.reduceLT, Int.reduceEq, Int.reduceNe, Int.reduceLT, Int.reduceLE, Int.reduceAdd, Int.reduceSub, Int.reduceMul, Int.reduceNeg, Int.reduceToNat, Int.reduceTDiv, Int.reduceTMod, Int.reduceBEq, Int.reduceBNe, decide_true, decide_false, reduceCtorEq, reduceIte, P16, q16]
    | simp (disch := omega) only [w64, w32, wu8, wu16, wu32, wu64]
    | with_reducible apply cd_dec
    | with_reducible apply cd_eq
    | with_reducible apply cd_ne
    | with_reducible apply cd_split
    | with_reducible apply gd_dec
    | with_reducible apply gd_eq
    | with_reducible apply gd_ne
    | with_reducible apply gd_split
    | ((with_reducible refine And.intro ?hw ?_); (case hw => first | omega | rfl | exact ⟨_, _, rfl⟩ | assumption | (simp only [List.length_cons, List.length_nil, List.length_append, List.length_map, List.length_replicate, List.length_take, List.length_drop] <;> omega)))
    | with_reducible intro _)
  refine swp_fam [0, 1, 2, 3, 4] (fun i : Nat => ⟨[.str s, .int .i64 0, .int .i64 0, .int .i64 ((s.take i).foldl stp 0 : Nat), .int .i64 i, .undef, .undef, .undef, .undef, .undef], [], ⟨[], []⟩⟩)
    (fun i => i ≤ s.length ∧ i ≤ 16) (fun i => s.length - i) 0 ⟨by omega, by omega⟩ ?_ ?_
  · simp [keepE, St.keep]
  · rintro i ⟨g1, g2⟩
    have hb : (s.take i).foldl stp 0 < 10000000000000000 := by
      have h1 := fold_bnd (s.take i)
      have h2 : (s.take i).length = i := by simp; omega
      rw [h2] at h1
      exact Nat.lt_of_lt_of_le h1 (Nat.pow_le_pow_right (by omega) g2)
    by_cases hi : i < s.length ∧ i < 16
    · obtain ⟨h1, h2⟩ := hi
      have hx := take_fold h1 stp
      have hd : stp ((s.take i).foldl stp 0) (s.getD i 0) = if 48 ≤ (s.getD i 0).toNat ∧ (s.getD i 0).toNat ≤ 57 then 10 * (s.take i).foldl stp 0 + ((s.getD i 0).toNat - 48) else (s.take i).foldl stp 0 := rfl
      have hb2 : (s.getD i 0).toNat < 256 := (s.getD i 0).toNat_lt
      rw [hd] at hx
      generalize (s.take i).foldl stp 0 = n at *
      generalize hc : (s.getD i 0).toNat = c at *
      have hci : (((s.getD i 0).toNat : Nat) : Int) = (c : Int) := by rw [hc]
      repeat' (first
    | with_reducible apply swp_seq
    | with_reducible apply swp_reg
    | with_reducible apply swp_regD
    | with_reducible apply swp_block
    | with_reducible apply swp_exit
    | with_reducible apply swp_ret
    | with_reducible apply swp_skip
    | with_reducible apply swp_cd
    | simp only [go_sem, Nat.reduceAdd, Nat.reduceSub, Nat.reduceMul, Nat.reduceEqDiff, Nat.reduceLeDiff, Nat.reduceLT, Int.reduceEq, Int.reduceNe, Int.reduceLT, Int.reduceLE, Int.reduceAdd, Int.reduceSub, Int.reduceMul, Int.reduceNeg, Int.reduceToNat, Int.reduceTDiv, Int.reduceTMod, Int.reduceBEq, Int.reduceBNe, decide_true, decide_false, reduceCtorEq, reduceIte, P16, q16, hc]
    | simp (disch := omega) only [w64, w32, wu8, wu16, wu32, wu64]
    | with_reducible apply cd_dec
    | with_reducible apply cd_eq
    | with_reducible apply cd_ne
    | with_reducible apply cd_split
    | with_reducible apply gd_dec
    | with_reducible apply gd_eq
    | with_reducible apply gd_ne
    | with_reducible apply gd_split
    | ((with_reducible refine And.intro ?hw ?_); (case hw => first | omega | rfl | exact ⟨_, _, rfl⟩ | assumption | (simp only [List.length_cons, List.length_nil, List.length_append, List.length_map, List.length_replicate, List.length_take, List.length_drop] <;> omega)))
    | with_reducible intro _)
      all_goals try omega
      · refine ⟨i + 1, ⟨by omega, by omega⟩, by omega, ?_⟩
        rw [if_pos (by omega)] at hx
        simp [keepE, St.keep, hx]
        omega
      · refine ⟨i + 1, ⟨by omega, by omega⟩, by omega, ?_⟩
        rw [if_neg (by omega)] at hx
        simp [keepE, St.keep, hx]
      · refine ⟨i + 1, ⟨by omega, by omega⟩, by omega, ?_⟩
        rw [if_neg (by omega)] at hx
        simp [keepE, St.keep, hx]
    · have he : ∀ m, Am m → txt m = s → (((s.take i).foldl stp 0 : Nat) : Int) = m := by
        intro m h1 h2
        have hl := txt_len h1
        rw [h2] at hl
        have : i = s.length := by omega
        subst this
        rw [List.take_length, ← h2, fold_txt h1]
      have hp := prs_end he
      generalize (s.take i).foldl stp 0 = n at *
      have ht := rtext_p n
      by_cases ha : Am n
      · have e1 : txtR n = txt n := by unfold txtR; rw [if_pos ha]
        have e2 : txtE n = 0 := by unfold txtE; rw [if_pos ha]
        rw [e1, e2] at ht
        by_cases hq : txt n = s
        · rw [if_pos ⟨ha, hq⟩] at hp
          rw [hp]
          have hbq : (txt n == s) = true := by simpa using hq
          repeat' (first
    | with_reducible apply swp_seq
    | with_reducible apply swp_reg
    | with_reducible apply swp_regD
    | with_reducible apply swp_block
    | with_reducible apply swp_exit
    | with_reducible apply swp_ret
    | with_reducible apply swp_skip
    | with_reducible apply swp_cd
    | simp only [go_sem, Nat.reduceAdd, Nat.reduceSub, Nat.reduceMul, Nat.reduceEqDiff, Nat.reduceLeDiff, Nat.reduceLT, Int.reduceEq, Int.reduceNe, Int.reduceLT, Int.reduceLE, Int.reduceAdd, Int.reduceSub, Int.reduceMul, Int.reduceNeg, Int.reduceToNat, Int.reduceTDiv, Int.reduceTMod, Int.reduceBEq, Int.reduceBNe, decide_true, decide_false, reduceCtorEq, reduceIte, P16, q16, hbq, Bool.not_true]
    | simp (disch := omega) only [w64, w32, wu8, wu16, wu32, wu64]
    | ((with_reducible refine o_call (ht) ?he ?hc ?_); (case he => first | rfl | (simp [D.erL, D.er]; done)); (case hc => first | rfl | (simp [D.closedL, D.closed]; done)))
    | with_reducible apply cd_dec
    | with_reducible apply cd_eq
    | with_reducible apply cd_ne
    | with_reducible apply cd_split
    | with_reducible apply gd_dec
    | with_reducible apply gd_eq
    | with_reducible apply gd_ne
    | with_reducible apply gd_split
    | ((with_reducible refine And.intro ?hw ?_); (case hw => first | omega | rfl | exact ⟨_, _, rfl⟩ | assumption | (simp only [List.length_cons, List.length_nil, List.length_append, List.length_map, List.length_replicate, List.length_take, List.length_drop] <;> omega)))
    | with_reducible intro _)
          all_goals first
            | omega
            | simp [D.closed, D.er, D.closedL, D.erL]
        · rw [if_neg (fun h => hq h.2)] at hp
          rw [hp]
          have hbq : (txt n == s) = false := by simpa using hq
          repeat' (first
    | with_reducible apply swp_seq
    | with_reducible apply swp_reg
    | with_reducible apply swp_regD
    | with_reducible apply swp_block
    | with_reducible apply swp_exit
    | with_reducible apply swp_ret
    | with_reducible apply swp_skip
    | with_reducible apply swp_cd
    | simp only [go_sem, Nat.reduceAdd, Nat.reduceSub, Nat.reduceMul, Nat.reduceEqDiff, Nat.reduceLeDiff, Nat.reduceLT, Int.reduceEq, Int.reduceNe, Int.reduceLT, Int.reduceLE, Int.reduceAdd, Int.reduceSub, Int.reduceMul, Int.reduceNeg, Int.reduceToNat, Int.reduceTDiv, Int.reduceTMod, Int.reduceBEq, Int.reduceBNe, decide_true, decide_false, reduceCtorEq, reduceIte, P16, q16, hbq, Bool.not_false]
    | simp (disch := omega) only [w64, w32, wu8, wu16, wu32, wu64]
    | ((with_reducible refine o_call (ht) ?he ?hc ?_); (case he => first | rfl | (simp [D.erL, D.er]; done)); (case hc => first | rfl | (simp [D.closedL, D.closed]; done)))
    | with_reducible apply cd_dec
    | with_reducible apply cd_eq
    | with_reducible apply cd_ne
    | with_reducible apply cd_split
    | with_reducible apply gd_dec
    | with_reducible apply gd_eq
    | with_reducible apply gd_ne
    | with_reducible apply gd_split
    | ((with_reducible refine And.intro ?hw ?_); (case hw => first | omega | rfl | exact ⟨_, _, rfl⟩ | assumption | (simp only [List.length_cons, List.length_nil, List.length_append, List.length_map, List.length_replicate, List.length_take, List.length_drop] <;> omega)))
    | with_reducible intro _)
          all_goals first
            | omega
            | simp [D.closed, D.er, D.closedL, D.erL]
      · have e1 : txtR n = [] := by unfold txtR; rw [if_neg ha]
        have e2 : txtE n = 1 := by unfold txtE; rw [if_neg ha]
        rw [e1, e2] at ht
        rw [if_neg (fun h => ha h.1)] at hp
        rw [hp]
        repeat' (first
    | with_reducible apply swp_seq
    | with_reducible apply swp_reg
    | with_reducible apply swp_regD
    | with_reducible apply swp_block
    | with_reducible apply swp_exit
    | with_reducible apply swp_ret
    | with_reducible apply swp_skip
    | with_reducible apply swp_cd
    | simp only [go_sem, Nat.reduceAdd, Nat.reduceSub, Nat.reduceMul, Nat.reduceEqDiff, Nat.reduceLeDiff, Nat.reduceLT, Int.reduceEq, Int.reduceNe, Int.reduceLT, Int.reduceLE, Int.reduceAdd, Int.reduceSub, Int.reduceMul, Int.reduceNeg, Int.reduceToNat, Int.reduceTDiv, Int.reduceTMod, Int.reduceBEq, Int.reduceBNe, decide_true, decide_false, reduceCtorEq, reduceIte, P16, q16]
    | simp (disch := omega) only [w64, w32, wu8, wu16, wu32, wu64]
    | ((with_reducible refine o_call (ht) ?he ?hc ?_); (case he => first | rfl | (simp [D.erL, D.er]; done)); (case hc => first | rfl | (simp [D.closedL, D.closed]; done)))
    | with_reducible apply cd_dec
    | with_reducible apply cd_eq
    | with_reducible apply cd_ne
    | with_reducible apply cd_split
    | with_reducible apply gd_dec
    | with_reducible apply gd_eq
    | with_reducible apply gd_ne
    | with_reducible apply gd_split
    | ((with_reducible refine And.intro ?hw ?_); (case hw => first | omega | rfl | exact ⟨_, _, rfl⟩ | assumption | (simp only [List.length_cons, List.length_nil, List.length_append, List.length_map, List.length_replicate, List.length_take, List.length_drop] <;> omega)))
    | with_reducible intro _)
        all_goals first
          | omega
          | simp [D.closed, D.er, D.closedL, D.erL]

theorem decode_le (s : List UInt8) (p : Nat) : (Utf8.decode ⟨s.toArray⟩ p).1 ≤ 2147483647 := Go.decode_le _ _

theorem decode_ge {s : List UInt8} {p : Nat} (h : p < s.length) : 1 ≤ (Utf8.decode ⟨s.toArray⟩ p).2 := by
  have hp : p < (ByteArray.mk s.toArray).size := by simpa [ByteArray.size] using h
  by_cases ha : ((ByteArray.mk s.toArray)[p]'hp).toNat < 128
  · rw [decode_ascii _ p hp ha]; exact Nat.le_refl _
  · exact (decode_high _ p hp (by omega)).2

theorem decode_asc {s : List UInt8} {p : Nat} (h : p < s.length) (ha : (s.getD p 0).toNat < 128) : Utf8.decode ⟨s.toArray⟩ p = ((s.getD p 0).toNat, 1) := by
  have hp : p < (ByteArray.mk s.toArray).size := by simpa [ByteArray.size] using h
  have e : (ByteArray.mk s.toArray)[p]'hp = s.getD p 0 := by
    simp [List.getD, h]; rfl
  rw [decode_ascii _ p hp (by rw [e]; exact ha), e]

theorem parse_p (s : List UInt8) (hs : s.length ≤ 4611686018427387904) : Pur M 15 [.str s] (.tup [.int .i64 (prs s).1, .int .i64 (prs s).2]) := by
  refine ok15 rfl ?_
  rw [i15]
  unfold c15
  repeat' (first
    | with_reducible apply swp_seq
    | with_reducible apply swp_reg
    | with_reducible apply swp_regD
    | with_reducible apply swp_block
    | with_reducible apply swp_exit
    | with_reducible apply swp_ret
    | with_reducible apply swp_skip
    | with_reducible apply swp_cd
    | simp only [go_sem, Nat.reduceAdd, Nat.reduceSub, Nat.reduceMul, Nat.reduceEqDiff, Nat.reduceLeDiff, Nat.reduceLT, Int.reduceEq, Int.reduceNe, Int.reduceLT, Int.reduceLE, Int.reduceAdd, Int.reduceSub, Int.reduceMul, Int.reduceNeg, Int.reduceToNat, Int.reduceTDiv, Int.reduceTMod, Int.reduceBEq, Int.reduceBNe, decide_true, decide_false, reduceCtorEq, reduceIte, P15, q15]
    | simp (disch := omega) only [w64, w32, wu8, wu16, wu32, wu64]
    | ((with_reducible apply s_nxt); (case h0 => rfl))
    | with_reducible apply cd_dec
    | with_reducible apply cd_eq
    | with_reducible apply cd_ne
    | with_reducible apply cd_split
    | with_reducible apply gd_dec
    | with_reducible apply gd_eq
    | with_reducible apply gd_ne
    | with_reducible apply gd_split
    | ((with_reducible refine And.intro ?hw ?_); (case hw => first | omega | rfl | exact ⟨_, _, rfl⟩ | assumption | (simp only [List.length_cons, List.length_nil, List.length_append, List.length_map, List.length_replicate, List.length_take, List.length_drop] <;> omega)))
    | with_reducible intro _)
  refine swp_fam [0, 1, 2, 3, 7] (fun a : Nat × Nat => ⟨[.str s, .int .i64 0, .int .i64 0, .int .i64 a.2, .undef, .undef, .undef, .ptr 0 0, .undef, .undef, .undef, .undef], [], ⟨[.siter s a.1], []⟩⟩)
    (fun a => a.2 ≤ 100000000000000 ∧ ((∀ b ∈ s, b.toNat < 128) → a.1 ≤ s.length ∧ a.2 = (s.take a.1).foldl stc 0)) (fun a => s.length - a.1) (0, 0) ⟨by simp, by simp⟩ ?_ ?_
  · simp [keepE, St.keep]
  · rintro ⟨p, n⟩ ⟨g1, g2⟩
    simp only at g1 g2 ⊢
    by_cases hi : p < s.length
    · have h1 := decode_le s p
      have h2 := decode_ge hi
      have hx : (∀ b ∈ s, b.toNat < 128) → p + (Utf8.decode ⟨s.toArray⟩ p).2 ≤ s.length ∧ (s.take (p + (Utf8.decode ⟨s.toArray⟩ p).2)).foldl stc 0 = (if (48 ≤ (Utf8.decode ⟨s.toArray⟩ p).1 ∧ (Utf8.decode ⟨s.toArray⟩ p).1 ≤ 57) ∧ n ≤ 1000000000000 then 10 * n + ((Utf8.decode ⟨s.toArray⟩ p).1 - 48) else n) := by
        intro ha
        have hm : s.getD p 0 ∈ s := by simp [List.getD, hi]
        obtain ⟨q1, q2⟩ := g2 ha
        rw [decode_asc hi (ha _ hm)]
        simp only
        refine ⟨by omega, ?_⟩
        rw [take_fold hi, ← q2]
        rfl
      generalize hcd : (Utf8.decode ⟨s.toArray⟩ p).1 = c at *
      generalize hwd : (Utf8.decode ⟨s.toArray⟩ p).2 = wd at *
      have hb := btwr_p (c : Int) 48 57
      by_cases hc : 48 ≤ c ∧ c ≤ 57
      · rw [decide_eq_true (by omega)] at hb
        repeat' (first
    | with_reducible apply swp_seq
    | with_reducible apply swp_reg
    | with_reducible apply swp_regD
    | with_reducible apply swp_block
    | with_reducible apply swp_exit
    | with_reducible apply swp_ret
    | with_reducible apply swp_skip
    | with_reducible apply swp_cd
    | simp only [go_sem, Nat.reduceAdd, Nat.reduceSub, Nat.reduceMul, Nat.reduceEqDiff, Nat.reduceLeDiff, Nat.reduceLT, Int.reduceEq, Int.reduceNe, Int.reduceLT, Int.reduceLE, Int.reduceAdd, Int.reduceSub, Int.reduceMul, Int.reduceNeg, Int.reduceToNat, Int.reduceTDiv, Int.reduceTMod, Int.reduceBEq, Int.reduceBNe, decide_true, decide_false, reduceCtorEq, reduceIte, P15, q15, hcd, hwd]
    | simp (disch := omega) only [w64, w32, wu8, wu16, wu32, wu64]
    | ((with_reducible refine o_call (hb) ?he ?hc ?_); (case he => first | rfl | (simp [D.erL, D.er]; done)); (case hc => first | rfl | (simp [D.closedL, D.closed]; done)))
    | ((with_reducible apply s_nxt); (case h0 => rfl))
    | with_reducible apply cd_dec
    | with_reducible apply cd_eq
    | with_reducible apply cd_ne
    | with_reducible apply cd_split
    | with_reducible apply gd_dec
    | with_reducible apply gd_eq
    | with_reducible apply gd_ne
    | with_reducible apply gd_split
    | ((with_reducible refine And.intro ?hw ?_); (case hw => first | omega | rfl | exact ⟨_, _, rfl⟩ | assumption | (simp only [List.length_cons, List.length_nil, List.length_append, List.length_map, List.length_replicate, List.length_take, List.length_drop] <;> omega)))
    | with_reducible intro _)
        all_goals try omega
        · refine ⟨(p + wd, 10 * n + (c - 48)), ⟨by simp only; omega, fun ha => ?_⟩, by simp only; omega, ?_⟩
          · obtain ⟨q1, q2⟩ := hx ha
            rw [if_pos ⟨hc, by omega⟩] at q2
            exact ⟨q1, q2.symm⟩
          · simp [keepE, St.keep]
            omega
        · refine ⟨(p + wd, n), ⟨by simp only; omega, fun ha => ?_⟩, by simp only; omega, ?_⟩
          · obtain ⟨q1, q2⟩ := hx ha
            rw [if_neg (by omega)] at q2
            exact ⟨q1, q2.symm⟩
          · simp [keepE, St.keep]
      · rw [decide_eq_false (by omega)] at hb
        repeat' (first
    | with_reducible apply swp_seq
    | with_reducible apply swp_reg
    | with_reducible apply swp_regD
    | with_reducible apply swp_block
    | with_reducible apply swp_exit
    | with_reducible apply swp_ret
    | with_reducible apply swp_skip
    | with_reducible apply swp_cd
    | simp only [go_sem, Nat.reduceAdd, Nat.reduceSub, Nat.reduceMul, Nat.reduceEqDiff, Nat.reduceLeDiff, Nat.reduceLT, Int.reduceEq, Int.reduceNe, Int.reduceLT, Int.reduceLE, Int.reduceAdd, Int.reduceSub, Int.reduceMul, Int.reduceNeg, Int.reduceToNat, Int.reduceTDiv, Int.reduceTMod, Int.reduceBEq, Int.reduceBNe, decide_true, decide_false, reduceCtorEq, reduceIte, P15, q15, hcd, hwd]
    | simp (disch := omega) only [w64, w32, wu8, wu16, wu32, wu64]
    | ((with_reducible refine o_call (hb) ?he ?hc ?_); (case he => first | rfl | (simp [D.erL, D.er]; done)); (case hc => first | rfl | (simp [D.closedL, D.closed]; done)))
    | ((with_reducible apply s_nxt); (case h0 => rfl))
    | with_reducible apply cd_dec
    | with_reducible apply cd_eq
    | with_reducible apply cd_ne
    | with_reducible apply cd_split
    | with_reducible apply gd_dec
    | with_reducible apply gd_eq
    | with_reducible apply gd_ne
    | with_reducible apply gd_split
    | ((with_reducible refine And.intro ?hw ?_); (case hw => first | omega | rfl | exact ⟨_, _, rfl⟩ | assumption | (simp only [List.length_cons, List.length_nil, List.length_append, List.length_map, List.length_replicate, List.length_take, List.length_drop] <;> omega)))
    | with_reducible intro _)
        all_goals try omega
        refine ⟨(p + wd, n), ⟨by simp only; omega, fun ha => ?_⟩, by simp only; omega, ?_⟩
        · obtain ⟨q1, q2⟩ := hx ha
          rw [if_neg (by omega)] at q2
          exact ⟨q1, q2.symm⟩
        · simp [keepE, St.keep]
    · have he : ∀ m, Am m → txt m = s → (n : Int) = m := by
        intro m h1 h2
        obtain ⟨q1, q2⟩ := g2 (by rw [← h2]; exact txt_ascii h1)
        have : p = s.length := by omega
        subst this
        rw [List.take_length, ← h2] at q2
        have hf := fold_txt h1
        rw [fold_cap _ _ (by have := h1.2; omega)] at q2
        rw [q2]; exact hf
      have hp := prs_end he
      have ht := text_p n
      by_cases ha : Am n
      · have e1 : txtR n = txt n := by unfold txtR; rw [if_pos ha]
        have e2 : txtE n = 0 := by unfold txtE; rw [if_pos ha]
        rw [e1, e2] at ht
        by_cases hq : txt n = s
        · rw [if_pos ⟨ha, hq⟩] at hp
          rw [hp]
          have hbq : (txt n == s) = true := by simpa using hq
          repeat' (first
    | with_reducible apply swp_seq
    | with_reducible apply swp_reg
    | with_reducible apply swp_regD
    | with_reducible apply swp_block
    | with_reducible apply swp_exit
    | with_reducible apply swp_ret
    | with_reducible apply swp_skip
    | with_reducible apply swp_cd
    | simp only [go_sem, Nat.reduceAdd, Nat.reduceSub, Nat.reduceMul, Nat.reduceEqDiff, Nat.reduceLeDiff, Nat.reduceLT, Int.reduceEq, Int.reduceNe, Int.reduceLT, Int.reduceLE, Int.reduceAdd, Int.reduceSub, Int.reduceMul, Int.reduceNeg, Int.reduceToNat, Int.reduceTDiv, Int.reduceTMod, Int.reduceBEq, Int.reduceBNe, decide_true, decide_false, reduceCtorEq, reduceIte, P15, q15, hbq, Bool.not_true]
    | simp (disch := omega) only [w64, w32, wu8, wu16, wu32, wu64]
    | ((with_reducible refine o_call (ht) ?he ?hc ?_); (case he => first | rfl | (simp [D.erL, D.er]; done)); (case hc => first | rfl | (simp [D.closedL, D.closed]; done)))
    | ((with_reducible apply s_nxt); (case h0 => rfl))
    | with_reducible apply cd_dec
    | with_reducible apply cd_eq
    | with_reducible apply cd_ne
    | with_reducible apply cd_split
    | with_reducible apply gd_dec
    | with_reducible apply gd_eq
    | with_reducible apply gd_ne
    | with_reducible apply gd_split
    | ((with_reducible refine And.intro ?hw ?_); (case hw => first | omega | rfl | exact ⟨_, _, rfl⟩ | assumption | (simp only [List.length_cons, List.length_nil, List.length_append, List.length_map, List.length_replicate, List.length_take, List.length_drop] <;> omega)))
    | with_reducible intro _)
          all_goals first
            | omega
            | simp [D.closed, D.er, D.closedL, D.erL]
        · rw [if_neg (fun h => hq h.2)] at hp
          rw [hp]
          have hbq : (txt n == s) = false := by simpa using hq
          repeat' (first
    | with_reducible apply swp_seq
    | with_reducible apply swp_reg
    | with_reducible apply swp_regD
    | with_reducible apply swp_block
    | with_reducible apply swp_exit
    | with_reducible apply swp_ret
    | with_reducible apply swp_skip
    | with_reducible apply swp_cd
    | simp only [go_sem, Nat.reduceAdd, Nat.reduceSub, Nat.reduceMul, Nat.reduceEqDiff, Nat.reduceLeDiff, Nat.reduceLT, Int.reduceEq, Int.reduceNe, Int.reduceLT, Int.reduceLE, Int.reduceAdd, Int.reduceSub, Int.reduceMul, Int.reduceNeg, Int.reduceToNat, Int.reduceTDiv, Int.reduceTMod, Int.reduceBEq, Int.reduceBNe, decide_true, decide_false, reduceCtorEq, reduceIte, P15, q15, hbq, Bool.not_false]
    | simp (disch := omega) only [w64, w32, wu8, wu16, wu32, wu64]
    | ((with_reducible refine o_call (ht) ?he ?hc ?_); (case he => first | rfl | (simp [D.erL, D.er]; done)); (case hc => first | rfl | (simp [D.closedL, D.closed]; done)))
    | ((with_reducible apply s_nxt); (case h0 => rfl))
    | with_reducible apply cd_dec
    | with_reducible apply cd_eq
    | with_reducible apply cd_ne
    | with_reducible apply cd_split
    | with_reducible apply gd_dec
    | with_reducible apply gd_eq
    | with_reducible apply gd_ne
    | with_reducible apply gd_split
    | ((with_reducible refine And.intro ?hw ?_); (case hw => first | omega | rfl | exact ⟨_, _, rfl⟩ | assumption | (simp only [List.length_cons, List.length_nil, List.length_append, List.length_map, List.length_replicate, List.length_take, List.length_drop] <;> omega)))
    | with_reducible intro _)
          all_goals first
            | omega
            | simp [D.closed, D.er, D.closedL, D.erL]
      · have e1 : txtR n = [] := by unfold txtR; rw [if_neg ha]
        have e2 : txtE n = 1 := by unfold txtE; rw [if_neg ha]
        rw [e1, e2] at ht
        rw [if_neg (fun h => ha h.1)] at hp
        rw [hp]
        repeat' (first
    | with_reducible apply swp_seq
    | with_reducible apply swp_reg
    | with_reducible apply swp_regD
    | with_reducible apply swp_block
    | with_reducible apply swp_exit
    | with_reducible apply swp_ret
    | with_reducible apply swp_skip
    | with_reducible apply swp_cd
    | simp only [go_sem, Nat.reduceAdd, Nat.reduceSub, Nat.reduceMul, Nat.reduceEqDiff, Nat.reduceLeDiff, Nat.reduceLT, Int.reduceEq, Int.reduceNe, Int.reduceLT, Int.reduceLE, Int.reduceAdd, Int.reduceSub, Int.reduceMul, Int.reduceNeg, Int.reduceToNat, Int.reduceTDiv, Int.reduceTMod, Int.reduceBEq, Int.reduceBNe, decide_true, decide_false, reduceCtorEq, reduceIte, P15, q15]
    | simp (disch := omega) only [w64, w32, wu8, wu16, wu32, wu64]
    | ((with_reducible refine o_call (ht) ?he ?hc ?_); (case he => first | rfl | (simp [D.erL, D.er]; done)); (case hc => first | rfl | (simp [D.closedL, D.closed]; done)))
    | ((with_reducible apply s_nxt); (case h0 => rfl))
    | with_reducible apply cd_dec
    | with_reducible apply cd_eq
    | with_reducible apply cd_ne
    | with_reducible apply cd_split
    | with_reducible apply gd_dec
    | with_reducible apply gd_eq
    | with_reducible apply gd_ne
    | with_reducible apply gd_split
    | ((with_reducible refine And.intro ?hw ?_); (case hw => first | omega | rfl | exact ⟨_, _, rfl⟩ | assumption | (simp only [List.length_cons, List.length_nil, List.length_append, List.length_map, List.length_replicate, List.length_take, List.length_drop] <;> omega)))
    | with_reducible intro _)
        all_goals first
          | omega
          | simp [D.closed, D.er, D.closedL, D.erL]
end Go.Proofs.YtniglomooepbcaaDoor
