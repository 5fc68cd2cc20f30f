/- The calendar: plain laws; no program in sight. Own work. -/
import Derived.Test.YtapoplenfgjcjaaDoorEq
set_option linter.unusedSimpArgs false
namespace Go.Proofs.YtapoplenfgjcjaaDoor

/-- A leap year. -/
def leap (y : Int) : Bool := y.tmod 4 == 0 && (y.tmod 100 != 0 || y.tmod 400 == 0)
/-- The number of days of a month. -/
def mlen (y m : Int) : Int := if m = 2 then (if leap y = true then 29 else 28) else if m = 4 ∨ m = 6 ∨ m = 9 ∨ m = 11 then 30 else 31
/-- The number of days of the months before a month. -/
def cum (y m : Int) : Int :=
  if m ≤ 1 then 0 else if m = 2 then 31 else (if leap y = true then 1 else 0) + (if m = 3 then 59 else if m = 4 then 90 else if m = 5 then 120 else if m = 6 then 151 else if m = 7 then 181 else if m = 8 then 212
    else if m = 9 then 243 else if m = 10 then 273 else if m = 11 then 304 else 334)
/-- The number of the first day of a year. -/
def jan (y : Int) : Int := 365 * (y - 1) + (y - 1) / 4 - (y - 1) / 100 + (y - 1) / 400 - 730119
def num (y m d : Int) : Int := jan y + cum y m + d - 1
def Valid (y m d : Int) : Prop := 1 ≤ m ∧ m ≤ 12 ∧ 1 ≤ d ∧ d ≤ mlen y m
instance (y m d : Int) : Decidable (Valid y m d) := by unfold Valid; infer_instance

theorem twelve {m : Int} (h1 : 1 ≤ m) (h2 : m ≤ 12) : m = 1 ∨ m = 2 ∨ m = 3 ∨ m = 4 ∨ m = 5 ∨ m = 6 ∨ m = 7 ∨ m = 8 ∨ m = 9 ∨ m = 10 ∨ m = 11 ∨ m = 12 := by omega

theorem mlen_le (y m : Int) : 28 ≤ mlen y m ∧ mlen y m ≤ 31 := by
  unfold mlen; split
  · split <;> omega
  · split <;> omega

theorem leap_iff {y : Int} (h : 0 ≤ y) : leap y = true ↔ y % 4 = 0 ∧ (y % 100 ≠ 0 ∨ y % 400 = 0) := by
  simp [leap, Int.tmod_eq_emod_of_nonneg h]

theorem cum_succ (y : Int) {m : Int} (h1 : 1 ≤ m) (h2 : m ≤ 11) : cum y (m + 1) = cum y m + mlen y m := by
  rcases twelve h1 (by omega) with h | h | h | h | h | h | h | h | h | h | h | h <;> subst h <;> simp [cum, mlen] <;> split <;> omega

theorem cum_last (y : Int) : cum y 12 + 31 = 365 + (if leap y = true then 1 else 0) := by
  simp [cum]; omega

theorem jan_succ {y : Int} (h : 1 ≤ y) : jan (y + 1) = jan y + 365 + (if leap y = true then 1 else 0) := by
  have := leap_iff (y := y) (by omega)
  have a1 : (y % 4 = 0 → y / 4 = (y - 1) / 4 + 1) ∧ (y % 4 ≠ 0 → y / 4 = (y - 1) / 4) := by omega
  have a2 : (y % 100 = 0 → y / 100 = (y - 1) / 100 + 1) ∧ (y % 100 ≠ 0 → y / 100 = (y - 1) / 100) := by omega
  have a3 : (y % 400 = 0 → y / 400 = (y - 1) / 400 + 1) ∧ (y % 400 ≠ 0 → y / 400 = (y - 1) / 400) := by omega
  have b1 : y % 100 = 0 → y % 4 = 0 := by omega
  have b2 : y % 400 = 0 → y % 100 = 0 := by omega
  unfold jan
  rw [show y + 1 - 1 = y by omega]
  generalize (y - 1) / 4 = p4 at *
  generalize (y - 1) / 100 = p100 at *
  generalize (y - 1) / 400 = p400 at *
  generalize y / 4 = q4 at *
  generalize y / 100 = q100 at *
  generalize y / 400 = q400 at *
  generalize y % 4 = r4 at *
  generalize y % 100 = r100 at *
  generalize y % 400 = r400 at *
  by_cases g1 : r4 = 0 <;> by_cases g2 : r100 = 0 <;> by_cases g3 : r400 = 0 <;> simp [g1, g2, g3] at * <;> simp [this] <;> omega

theorem jan_mono {y y' : Int} (h : y ≤ y') : jan y ≤ jan y' := by unfold jan; omega

theorem cum_mono (y : Int) {m m' : Int} (h1 : 1 ≤ m) (h2 : m ≤ m') (h3 : m' ≤ 12) : cum y m ≤ cum y m' := by
  obtain ⟨k, hk⟩ : ∃ k : Nat, m' = m + k := ⟨(m' - m).toNat, by omega⟩
  subst hk
  clear h2
  induction k with
  | zero => simp
  | succ k ih =>
    have e : m + ((k + 1 : Nat) : Int) = m + (k : Int) + 1 := by omega
    have := cum_succ y (m := m + k) (by omega) (by omega)
    have := mlen_le y (m + k)
    have := ih (by omega)
    rw [e]; omega

theorem cum_lt (y : Int) {m m' : Int} (h1 : 1 ≤ m) (h2 : m < m') (h3 : m' ≤ 12) : cum y m + mlen y m ≤ cum y m' := by
  have := cum_succ y (m := m) h1 (by omega)
  have := cum_mono y (m := m + 1) (m' := m') (by omega) (by omega) h3
  omega

theorem cum_le (y : Int) {m : Int} (h1 : 1 ≤ m) (h2 : m ≤ 12) : 0 ≤ cum y m ∧ cum y m + mlen y m ≤ 365 + (if leap y = true then 1 else 0) := by
  have h0 := cum_mono y (m := 1) (m' := m) (by omega) h1 h2
  have h00 : cum y 1 = 0 := by simp [cum]
  refine ⟨by omega, ?_⟩
  have hl := cum_last y
  by_cases hm : m = 12
  · subst hm
    have : mlen y 12 = 31 := by simp [mlen]
    omega
  · have := cum_lt y (m := m) (m' := 12) h1 (by omega) (by omega)
    omega

theorem num_lt {y m d : Int} (hy : 1 ≤ y) (h : Valid y m d) : jan y ≤ num y m d ∧ num y m d < jan (y + 1) := by
  obtain ⟨h1, h2, h3, h4⟩ := h
  have := jan_succ hy
  have := cum_le y h1 h2
  unfold num
  omega

/-- Two dates of the same number are the same. -/
theorem num_inj {y m d y' m' d' : Int} (hy : 1 ≤ y) (hy' : 1 ≤ y') (h : Valid y m d) (h' : Valid y' m' d') (e : num y m d = num y' m' d') : y = y' ∧ m = m' ∧ d = d' := by
  have a := num_lt hy h
  have a' := num_lt hy' h'
  have hyy : y = y' := by
    rcases Int.lt_trichotomy y y' with g | g | g
    · have := jan_mono (y := y + 1) (y' := y') (by omega); omega
    · exact g
    · have := jan_mono (y := y' + 1) (y' := y) (by omega); omega
  subst hyy
  obtain ⟨h1, h2, h3, h4⟩ := h
  obtain ⟨h1', h2', h3', h4'⟩ := h'
  have hmm : m = m' := by
    unfold num at e
    rcases Int.lt_trichotomy m m' with g | g | g
    · have := cum_lt y h1 g h2'; omega
    · exact g
    · have := cum_lt y h1' g h2; omega
  subst hmm
  unfold num at e
  exact ⟨rfl, rfl, by omega⟩

/-- Every number has a date. -/
theorem date_ex (n : Nat) : ∃ y m d : Int, 2000 ≤ y ∧ Valid y m d ∧ num y m d = n := by
  induction n with
  | zero => exact ⟨2000, 1, 1, by omega, by decide, by decide⟩
  | succ n ih =>
    obtain ⟨y, m, d, h0, ⟨h1, h2, h3, h4⟩, e⟩ := ih
    by_cases hd : d < mlen y m
    · exact ⟨y, m, d + 1, h0, ⟨h1, h2, by omega, by omega⟩, by unfold num at *; omega⟩
    · by_cases hm : m < 12
      · refine ⟨y, m + 1, 1, h0, ⟨by omega, by omega, by omega, by have := mlen_le y (m + 1); omega⟩, ?_⟩
        have := cum_succ y h1 (by omega)
        unfold num at *; omega
      · have hm : m = 12 := by omega
        subst hm
        refine ⟨y + 1, 1, 1, by omega, ⟨by omega, by omega, by omega, by have := mlen_le (y + 1) 1; omega⟩, ?_⟩
        have a1 := jan_succ (y := y) (by omega)
        have a2 := cum_last y
        have a3 : mlen y 12 = 31 := by simp [mlen]
        have a4 : cum (y + 1) 1 = 0 := by simp [cum]
        unfold num at *; omega

theorem dat_ex (n : Int) (h : 0 ≤ n ∧ n ≤ 40000) : ∃ p : Int × Int × Int, 2000 ≤ p.1 ∧ Valid p.1 p.2.1 p.2.2 ∧ num p.1 p.2.1 p.2.2 = n := by
  obtain ⟨y, m, d, h1, h2, h3⟩ := date_ex n.toNat
  exact ⟨(y, m, d), h1, h2, by rw [h3]; omega⟩

open Classical in
/-- The date of a day; of any other number, the date that is no date. -/
noncomputable def dat (n : Int) : Int × Int × Int := if h : 0 ≤ n ∧ n ≤ 40000 then (dat_ex n h).choose else (0, 0, 0)

theorem dat_spec {n : Int} (h : 0 ≤ n ∧ n ≤ 40000) : 2000 ≤ (dat n).1 ∧ (dat n).1 ≤ 2109 ∧ Valid (dat n).1 (dat n).2.1 (dat n).2.2 ∧ num (dat n).1 (dat n).2.1 (dat n).2.2 = n := by
  have hs := (dat_ex n h).choose_spec
  have e : dat n = (dat_ex n h).choose := by unfold dat; rw [dif_pos h]
  rw [← e] at hs
  obtain ⟨h1, h2, h3⟩ := hs
  refine ⟨h1, ?_, h2, h3⟩
  have a := num_lt (by omega) h2
  rcases Int.lt_or_le 2109 (dat n).1 with g | g
  · have := jan_mono (y := 2110) (y' := (dat n).1) (by omega)
    have e : jan 2110 = 40177 := by decide
    omega
  · exact g

theorem dat_out {n : Int} (h : ¬(0 ≤ n ∧ n ≤ 40000)) : dat n = (0, 0, 0) := by unfold dat; rw [dif_neg h]

/-- The date of a day is the one that has its number. -/
theorem dat_num {y m d : Int} (h0 : 2000 ≤ y) (h : Valid y m d) (hn : num y m d ≤ 40000) : dat (num y m d) = (y, m, d) := by
  have a := num_lt (by omega) h
  have hj := jan_mono (y := 2000) (y' := y) h0
  have e : jan 2000 = 0 := by decide
  obtain ⟨b0, _, b1, b2⟩ := dat_spec (n := num y m d) ⟨by omega, hn⟩
  obtain ⟨c1, c2, c3⟩ := num_inj (by omega) (by omega) b1 h b2
  exact Prod.ext c1 (Prod.ext c2 c3)

/-- The error of a number. -/
def dayE (n : Int) : Int := if 0 ≤ n ∧ n ≤ 40000 then 0 else 13

theorem year_le {y m d : Int} (h0 : 2000 ≤ y) (h : Valid y m d) (hn : num y m d ≤ 40000) : y ≤ 2109 := by
  have a := num_lt (by omega) h
  rcases Int.lt_or_le 2109 y with g | g
  · have := jan_mono (y := 2110) (y' := y) (by omega)
    have e : jan 2110 = 40177 := by decide
    omega
  · exact g
end Go.Proofs.YtapoplenfgjcjaaDoor
