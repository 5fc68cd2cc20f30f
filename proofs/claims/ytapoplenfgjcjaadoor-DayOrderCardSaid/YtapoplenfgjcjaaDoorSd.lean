/- Texts of days, in plain Lean; and what the two functions Parse compute. Own work. -/
import Derived.Test.YtapoplenfgjcjaaDoorSc
import Derived.Test.YtapoplenfgjcjaaDoorDv
import Derived.Test.YtapoplenfgjcjaaDoorDc
set_option maxRecDepth 100000
set_option linter.unusedSimpArgs false
set_option linter.unusedVariables false
namespace Go.Proofs.YtapoplenfgjcjaaDoor
open Go GoV

theorem ofNat_digit {d : Nat} (h : d < 10) : (UInt8.ofNat (48 + d)).toNat = 48 + d := by
  rw [UInt8.toNat_ofNat']; omega

theorem dig_mem : ∀ (w n : Nat) (b : UInt8), b ∈ dig n w → 48 ≤ b.toNat ∧ b.toNat ≤ 57
  | 0, _, b, h => by simp [dig] at h
  | w + 1, n, b, h => by
    simp only [dig, List.mem_append, List.mem_singleton] at h
    rcases h with h | h
    · exact dig_mem w _ b h
    · subst h; rw [ofNat_digit (by omega)]; omega

theorem dig_hyphen (w n : Nat) : (45 : UInt8) ∉ dig n w := fun h => by
  have := dig_mem w n 45 h
  simp at this

theorem dec_dig : ∀ (w n acc : Nat) (r : List UInt8), n < 10 ^ w → Lib.decFrom acc (dig n w ++ r) = Lib.decFrom (acc * 10 ^ w + n) r
  | 0, n, acc, r, h => by
    have : n = 0 := by simpa using h
    subst this; simp [dig]
  | w + 1, n, acc, r, h => by
    have hlt : n / 10 < 10 ^ w := by rw [Nat.pow_succ] at h; omega
    simp only [dig, List.append_assoc, List.singleton_append]
    rw [dec_dig w (n / 10) acc _ hlt, Lib.decFrom]
    have hd : Lib.digitVal (UInt8.ofNat (48 + n % 10)) = some (n % 10) := by
      unfold Lib.digitVal
      rw [ofNat_digit (by omega), if_pos (by omega)]
      congr 1; omega
    rw [hd]
    simp only
    congr 1
    have : acc * 10 ^ (w + 1) = acc * 10 ^ w * 10 := by rw [Nat.pow_succ, Nat.mul_assoc]
    omega

theorem atv_dig {w n : Nat} (h : n < 10 ^ w) (h1 : 1 ≤ w) (h2 : w ≤ 18) : atv (dig n w) = n := by
  have hl := dig_len w n
  have ha : Lib.atoi (dig n w) = some (n : Int) := by
    have hm := dig_mem w n
    have hd := dec_dig w n 0 [] h
    rw [List.append_nil] at hd
    cases hc : dig n w with
    | nil => rw [hc] at hl; simp at hl; omega
    | cons b r =>
      rw [hc] at hm hd
      have hb := hm b (by simp)
      unfold Lib.atoi
      have e1 : (b == 45) = false := by
        rw [beq_eq_false_iff_ne]; intro e; subst e; simp at hb
      have e2 : (b == 43) = false := by
        rw [beq_eq_false_iff_ne]; intro e; subst e; simp at hb
      have hd2 : Lib.decFrom 0 (b :: r) = some n := by rw [hd]; simp [Lib.decFrom]
      simp only [e1, e2, Bool.false_eq_true, if_false, Lib.decNat, List.isEmpty_cons, hd2, Option.map_some]
  have hall := Lib.atoiAll_short (dig n w) (by omega)
  rw [ha] at hall
  unfold atv
  rw [hall]; rfl

/-- The reference's number of a text. -/
def vst (n : Nat) (b : UInt8) : Nat := 10 * n + (if 48 ≤ b.toNat ∧ b.toNat ≤ 57 then b.toNat - 48 else 0)
def val (s : List UInt8) : Nat := s.foldl vst 0

theorem val_fold : ∀ (w n acc : Nat), n < 10 ^ w → (dig n w).foldl vst acc = acc * 10 ^ w + n
  | 0, n, acc, h => by
    have : n = 0 := by simpa using h
    subst this; simp [dig]
  | w + 1, n, acc, h => by
    have hlt : n / 10 < 10 ^ w := by rw [Nat.pow_succ] at h; omega
    simp only [dig, List.foldl_append, List.foldl_cons, List.foldl_nil]
    rw [val_fold w (n / 10) acc hlt]
    unfold vst
    rw [ofNat_digit (by omega), if_pos (by omega)]
    have : acc * 10 ^ (w + 1) = acc * 10 ^ w * 10 := by rw [Nat.pow_succ, Nat.mul_assoc]
    omega

theorem val_dig {w n : Nat} (h : n < 10 ^ w) : val (dig n w) = n := by
  unfold val; rw [val_fold w n 0 h]; omega

theorem val_bnd : ∀ (s : List UInt8), s.length ≤ 4 → ∀ i ≤ s.length, val (s.take i) < 10000 := by
  have key : ∀ s : List UInt8, val s < 10 ^ s.length := by
    intro s
    have : ∀ (s : List UInt8) (acc k : Nat), acc < 10 ^ k → s.foldl vst acc < 10 ^ (k + s.length) := by
      intro s
      induction s with
      | nil => intro acc k h; simpa using h
      | cons b s ih =>
        intro acc k h
        have h2 : vst acc b < 10 ^ (k + 1) := by
          have : 10 ^ (k + 1) = 10 ^ k * 10 := Nat.pow_succ ..
          unfold vst; split <;> omega
        have := ih _ _ h2
        simp only [List.foldl_cons, List.length_cons]
        rwa [show k + (s.length + 1) = k + 1 + s.length by omega]
    have := this s 0 0 (by simp)
    simpa [val] using this
  intro s hs i hi
  have h1 := key (s.take i)
  have h2 : (s.take i).length ≤ 4 := by simp; omega
  have h3 : 10 ^ (s.take i).length ≤ 10 ^ 4 := Nat.pow_le_pow_right (by omega) h2
  exact Nat.lt_of_lt_of_le h1 h3

/-- The parts of a day's date. -/
structure Parts (n : Int) (Y Mo Da : Nat) : Prop where
  date : dat n = ((Y : Int), (Mo : Int), (Da : Int))
  text : txt n = dig Y 4 ++ 45 :: (dig Mo 2 ++ 45 :: dig Da 2)
  y : 2000 ≤ Y ∧ Y ≤ 2109
  m : 1 ≤ Mo ∧ Mo ≤ 12
  d : 1 ≤ Da ∧ Da ≤ 31
  valid : Valid Y Mo Da
  numb : num Y Mo Da = n

theorem parts_of {n : Int} (h : 0 ≤ n ∧ n ≤ 40000) : ∃ Y Mo Da : Nat, Parts n Y Mo Da := by
  obtain ⟨s1, s1', ⟨v1, v2, v3, v4⟩, s4⟩ := dat_spec h
  have ml := mlen_le (dat n).1 (dat n).2.1
  have et : txt n = dig (dat n).1.toNat 4 ++ 45 :: (dig (dat n).2.1.toNat 2 ++ 45 :: dig (dat n).2.2.toNat 2) := by
    unfold txt
    rw [itoa_dig (by omega) (by omega), two_dig (by omega) (by omega), two_dig (by omega) (by omega)]
    simp
  have q1 : (((dat n).1.toNat : Nat) : Int) = (dat n).1 := by omega
  have q2 : (((dat n).2.1.toNat : Nat) : Int) = (dat n).2.1 := by omega
  have q3 : (((dat n).2.2.toNat : Nat) : Int) = (dat n).2.2 := by omega
  refine ⟨(dat n).1.toNat, (dat n).2.1.toNat, (dat n).2.2.toNat, ⟨by rw [q1, q2, q3], et, by omega, by omega, by omega, ?_, ?_⟩⟩
  · rw [q1, q2, q3]; exact ⟨v1, v2, v3, v4⟩
  · rw [q1, q2, q3]; exact s4

theorem Parts.split {n : Int} {Y Mo Da : Nat} (h : Parts n Y Mo Da) : spt (txt n) = [dig Y 4, dig Mo 2, dig Da 2] := by
  rw [h.text, spt_cons (dig_hyphen _ _), spt_cons (dig_hyphen _ _), spt_last (dig_hyphen _ _)]

theorem Parts.len {n : Int} {Y Mo Da : Nat} (h : Parts n Y Mo Da) : (txt n).length = 10 := by
  rw [h.text]; simp [dig_len]

theorem Parts.vals {n : Int} {Y Mo Da : Nat} (h : Parts n Y Mo Da) : atv (dig Y 4) = Y ∧ atv (dig Mo 2) = Mo ∧ atv (dig Da 2) = Da := by
  have := h.y; have := h.m; have := h.d
  exact ⟨atv_dig (by omega) (by omega) (by omega), atv_dig (by omega) (by omega) (by omega), atv_dig (by omega) (by omega) (by omega)⟩

theorem Parts.cuts {n : Int} {Y Mo Da : Nat} (h : Parts n Y Mo Da) : val ((txt n).take 4) = Y ∧ val (((txt n).take 7).drop 5) = Mo ∧ val ((txt n).drop 8) = Da := by
  have hy := h.y; have hm := h.m; have hd := h.d
  have l1 := dig_len 4 Y
  have l2 := dig_len 2 Mo
  have l3 := dig_len 2 Da
  have v1 := val_dig (w := 4) (n := Y) (by omega)
  have v2 := val_dig (w := 2) (n := Mo) (by omega)
  have v3 := val_dig (w := 2) (n := Da) (by omega)
  rw [h.text]
  generalize dig Y 4 = a at *
  generalize dig Mo 2 = b at *
  generalize dig Da 2 = c at *
  match a, l1, b, l2, c, l3 with
  | [a1, a2, a3, a4], _, [b1, b2], _, [c1, c2], _ => exact ⟨v1, v2, v3⟩

theorem txt_inj {n m : Int} (hn : 0 ≤ n ∧ n ≤ 40000) (hm : 0 ≤ m ∧ m ≤ 40000) (h : txt n = txt m) : n = m := by
  obtain ⟨Y, Mo, Da, p⟩ := parts_of hn
  obtain ⟨Y', Mo', Da', q⟩ := parts_of hm
  have c1 := p.cuts
  have c2 := q.cuts
  rw [h] at c1
  have e1 : Y = Y' := c1.1.symm.trans c2.1
  have e2 : Mo = Mo' := c1.2.1.symm.trans c2.2.1
  have e3 : Da = Da' := c1.2.2.symm.trans c2.2.2
  rw [← p.numb, ← q.numb, e1, e2, e3]

/-- What Parse returns. -/
noncomputable def prs (s : List UInt8) : Int × Int :=
  open Classical in if h : ∃ n : Int, (0 ≤ n ∧ n ≤ 40000) ∧ txt n = s then (h.choose, 0) else (0, 8)

theorem prs_txt {n : Int} (h : 0 ≤ n ∧ n ≤ 40000) : prs (txt n) = (n, 0) := by
  have hx : ∃ m : Int, (0 ≤ m ∧ m ≤ 40000) ∧ txt m = txt n := ⟨n, h, rfl⟩
  unfold prs
  rw [dif_pos hx]
  congr 1
  exact txt_inj hx.choose_spec.1 h hx.choose_spec.2

theorem prs_no {s : List UInt8} (h : ∀ n, 0 ≤ n ∧ n ≤ 40000 → txt n ≠ s) : prs s = (0, 8) := by
  unfold prs
  rw [dif_neg]
  rintro ⟨n, h1, h2⟩
  exact h n h1 h2

set_option maxHeartbeats 1000000 in
theorem value_p (s : List UInt8) (hs : s.length ≤ 4) : Pur M 32 [.str s] (.int .i64 (val s)) := by
  refine ok32 rfl ?_
  rw [i32]
  unfold c32
  repeat' (first
    | with_reducible apply swp_seq
    | with_reducible apply swp_reg
    | with_reducible apply swp_regD
    | with_reducible apply swp_block
    | with_reducible apply swp_exit
    | with_reducible apply swp_ret
    | with_reducible apply swp_skip
    | with_reducible apply swp_cd
    | simp only [go_sem, Nat.reduceAdd, Nat.reduceSub, Nat.reduceMul, Nat.reduceEqDiff, Nat.reduceLeDiff, Nat.reduceLT, Int.reduceEq, Int.reduceNe, Int.reduceLT, Int.reduceLE, Int.reduceAdd, Int.reduceSub, Int.reduceMul, Int.reduceNeg, Int.reduceToNat, Int.reduceTDiv, Int.reduceTMod, Int.reduceBEq, Int.reduceBNe, decide_true, decide_false, reduceCtorEq, reduceIte, P32, q32]
    | simp (disch := omega) only [w64, w32, wu8, wu16, wu32, wu64]
    | with_reducible apply cd_dec
    | with_reducible apply cd_eq
    | with_reducible apply cd_ne
    | with_reducible apply cd_split
    | with_reducible apply gd_dec
    | with_reducible apply gd_eq
    | with_reducible apply gd_ne
    | with_reducible apply gd_split
    | ((with_reducible refine And.intro ?hw ?_); (case hw => first | omega | rfl | exact ⟨_, _, rfl⟩ | assumption | (simp only [List.length_cons, List.length_nil, List.length_append, List.length_map, List.length_replicate, List.length_take, List.length_drop] <;> omega)))
    | with_reducible intro _)
  refine swp_fam [0, 2, 3] (fun i : Nat => ⟨[.str s, .undef, .int .i64 (val (s.take i)), .int .i64 i, .undef, .undef], [], ⟨[], []⟩⟩)
    (fun i => i ≤ s.length) (fun i => s.length - i) 0 (by omega) ?_ ?_
  · simp [keepE, St.keep, val]
  · intro i hi
    have hb := val_bnd s hs i hi
    by_cases hlt : i < s.length
    · have hstep : val (s.take (i + 1)) = vst (val (s.take i)) (s.getD i 0) := by
        unfold val
        rw [List.take_succ_eq_append_getElem hlt, List.foldl_append]
        simp only [List.foldl_cons, List.foldl_nil]
        congr 1
        simp [List.getD, hlt]
      unfold vst at hstep
      have hu : (s.getD i 0).toNat < 256 := UInt8.toNat_lt _
      generalize hg : s.getD i 0 = b at *
      generalize hv : val (s.take i) = v at *
      by_cases hd : 48 ≤ b.toNat ∧ b.toNat ≤ 57
      · rw [if_pos hd] at hstep
        obtain ⟨d1, d2⟩ := hd
        repeat' (first
    | with_reducible apply swp_seq
    | with_reducible apply swp_reg
    | with_reducible apply swp_regD
    | with_reducible apply swp_block
    | with_reducible apply swp_exit
    | with_reducible apply swp_ret
    | with_reducible apply swp_skip
    | with_reducible apply swp_cd
    | simp only [go_sem, Nat.reduceAdd, Nat.reduceSub, Nat.reduceMul, Nat.reduceEqDiff, Nat.reduceLeDiff, Nat.reduceLT, Int.reduceEq, Int.reduceNe, Int.reduceLT, Int.reduceLE, Int.reduceAdd, Int.reduceSub, Int.reduceMul, Int.reduceNeg, Int.reduceToNat, Int.reduceTDiv, Int.reduceTMod, Int.reduceBEq, Int.reduceBNe, decide_true, decide_false, reduceCtorEq, reduceIte, P32, q32, hg]
    | simp (disch := omega) only [w64, w32, wu8, wu16, wu32, wu64]
    | with_reducible apply cd_dec
    | with_reducible apply cd_eq
    | with_reducible apply cd_ne
    | with_reducible apply cd_split
    | with_reducible apply gd_dec
    | with_reducible apply gd_eq
    | with_reducible apply gd_ne
    | with_reducible apply gd_split
    | ((with_reducible refine And.intro ?hw ?_); (case hw => first | omega | rfl | exact ⟨_, _, rfl⟩ | assumption | (simp only [List.length_cons, List.length_nil, List.length_append, List.length_map, List.length_replicate, List.length_take, List.length_drop] <;> omega)))
    | with_reducible intro _)
        all_goals try omega
        refine ⟨i + 1, by omega, by omega, ?_⟩
        have e : ((val (s.take (i + 1)) : Nat) : Int) = 10 * (v : Int) + ((b.toNat : Int) - 48) := by rw [hstep]; omega
        simp [keepE, St.keep, e]
      · rw [if_neg hd] at hstep
        repeat' (first
    | with_reducible apply swp_seq
    | with_reducible apply swp_reg
    | with_reducible apply swp_regD
    | with_reducible apply swp_block
    | with_reducible apply swp_exit
    | with_reducible apply swp_ret
    | with_reducible apply swp_skip
    | with_reducible apply swp_cd
    | simp only [go_sem, Nat.reduceAdd, Nat.reduceSub, Nat.reduceMul, Nat.reduceEqDiff, Nat.reduceLeDiff, Nat.reduceLT, Int.reduceEq, Int.reduceNe, Int.reduceLT, Int.reduceLE, Int.reduceAdd, Int.reduceSub, Int.reduceMul, Int.reduceNeg, Int.reduceToNat, Int.reduceTDiv, Int.reduceTMod, Int.reduceBEq, Int.reduceBNe, decide_true, decide_false, reduceCtorEq, reduceIte, P32, q32, hg]
    | simp (disch := omega) only [w64, w32, wu8, wu16, wu32, wu64]
    | with_reducible apply cd_dec
    | with_reducible apply cd_eq
    | with_reducible apply cd_ne
    | with_reducible apply cd_split
    | with_reducible apply gd_dec
    | with_reducible apply gd_eq
    | with_reducible apply gd_ne
    | with_reducible apply gd_split
    | ((with_reducible refine And.intro ?hw ?_); (case hw => first | omega | rfl | exact ⟨_, _, rfl⟩ | assumption | (simp only [List.length_cons, List.length_nil, List.length_append, List.length_map, List.length_replicate, List.length_take, List.length_drop] <;> omega)))
    | with_reducible intro _)
        all_goals try omega
        all_goals (
          refine ⟨i + 1, by omega, by omega, ?_⟩
          have e : ((val (s.take (i + 1)) : Nat) : Int) = 10 * (v : Int) := by rw [hstep]; omega
          simp [keepE, St.keep, e])
    · have e : i = s.length := by omega
      subst e
      rw [List.take_length] at hb ⊢
      repeat' (first
    | with_reducible apply swp_seq
    | with_reducible apply swp_reg
    | with_reducible apply swp_regD
    | with_reducible apply swp_block
    | with_reducible apply swp_exit
    | with_reducible apply swp_ret
    | with_reducible apply swp_skip
    | with_reducible apply swp_cd
    | simp only [go_sem, Nat.reduceAdd, Nat.reduceSub, Nat.reduceMul, Nat.reduceEqDiff, Nat.reduceLeDiff, Nat.reduceLT, Int.reduceEq, Int.reduceNe, Int.reduceLT, Int.reduceLE, Int.reduceAdd, Int.reduceSub, Int.reduceMul, Int.reduceNeg, Int.reduceToNat, Int.reduceTDiv, Int.reduceTMod, Int.reduceBEq, Int.reduceBNe, decide_true, decide_false, reduceCtorEq, reduceIte, P32, q32]
    | simp (disch := omega) only [w64, w32, wu8, wu16, wu32, wu64]
    | with_reducible apply cd_dec
    | with_reducible apply cd_eq
    | with_reducible apply cd_ne
    | with_reducible apply cd_split
    | with_reducible apply gd_dec
    | with_reducible apply gd_eq
    | with_reducible apply gd_ne
    | with_reducible apply gd_split
    | ((with_reducible refine And.intro ?hw ?_); (case hw => first | omega | rfl | exact ⟨_, _, rfl⟩ | assumption | (simp only [List.length_cons, List.length_nil, List.length_append, List.length_map, List.length_replicate, List.length_take, List.length_drop] <;> omega)))
    | with_reducible intro _)
      all_goals first
        | omega
        | (simp [D.closed, D.er]; done)
end Go.Proofs.YtapoplenfgjcjaaDoor
