/- Own texts, merged by a program: the engine that walks the code, and what the functions that the law reaches compute. -/
import Derived.Test.YtcchbohfcmfmlaaGreatQa4
section
set_option maxRecDepth 100000
set_option linter.unusedSimpArgs false
set_option linter.unusedVariables false
namespace Go.Proofs.YtcchbohfcmfmlaaGreat
open Go GoV Go.RowKit
def und (n : Nat) : List D := List.replicate n .u0
theorem und_len (n : Nat) : (und n).length = n := by simp [und]
theorem rnL_app (β τ : Nat → Option Nat) : ∀ (a b : List D), D.rnL β τ (a ++ b) = D.rnL β τ a ++ D.rnL β τ b
  | [], b => rfl
  | x :: a, b => by simp [D.rnL, rnL_app β τ a b]
theorem zEw (β τ : Nat → Option Nat) : ∀ l : List (List UInt8), D.rnL β τ (strs l) = strs l
  | [] => rfl
  | x :: l => by
    have := zEw β τ l
    simp only [strs, List.map_cons, D.rnL, D.rn] at this ⊢
    rw [this]
theorem rnL_und (β τ : Nat → Option Nat) : ∀ n : Nat, D.rnL β τ (und n) = und n
  | 0 => rfl
  | n + 1 => by
    have := rnL_und β τ n
    simp only [und, List.replicate_succ, D.rnL, D.rn] at this ⊢
    rw [this]
theorem rnL_su (β τ : Nat → Option Nat) (l : List (List UInt8)) (n : Nat) : D.rnL β τ (strs l ++ und n) = strs l ++ und n := by rw [rnL_app, zEw, rnL_und]
def InsR (s : List Pt) (part : List UInt8) (d : D) (hp : Hp) : Prop :=
  (zAk s part = [] ∧ d = .slice [] .no ∧ hp = ⟨[], []⟩) ∨
  ∃ cap, zAk s part ≠ [] ∧ (zAk s part).length ≤ cap ∧ d = .sl 0 1 0 (zAk s part).length cap ∧ hp = ⟨[.cells (strs (zAk s part) ++ und (cap - (zAk s part).length))], []⟩
theorem inside_nil (s : List Pt) (hl : s.length < 1000000) (part : List UInt8) (h : getP s part = none) : Pur M 7 [zA4 s, .str part] (.slice [] .no) := by
  refine pur_res (d := .lit (.slice none 0 0)) (k7.ok (C := C7) rfl rfl ?_) rfl
  rw [i7]
  unfold c7
  have hq : zA8 part 0 s = none := by
    rw [← zCa part s 0] at h
    simpa using h
  have hn := ofM_none hq
  have hok := ofM_ok s
  have hE := fun β τ => zFv s β τ
  have c1 := of_m s hl
  unfold mapH at c1
  generalize ofM s = E at *
  repeat' (first | with_reducible (apply swq; constructor) | simp only [go_sem, seval, P7, q7, hE, zAt] | ((with_reducible refine o_eff [] [] (c1) ?hs ?he ?hh ?_); (case hs => exact ⟨by simp, by simp, by simp, by simp⟩); (case he => first | rfl | (simp [go_sem, seval, hok, hn, D.rnL, D.rn, posF, Hp.sel, Blk.rnL, Blk.rn, Tv.rnL, idx, Hp.back, putAt, bakF, hE]; done)); (case hh => first | rfl | (simp [go_sem, seval, hok, hn, D.rnL, D.rn, posF, Hp.sel, Blk.rnL, Blk.rn, Tv.rnL, idx, Hp.back, putAt, bakF, hE]; done)); rintro _ _ ⟨rfl, rfl⟩) | ((with_reducible apply zA5); (case he => rfl); (case hK | hc | hr | hV => first | rfl | assumption | omega | ((first | refine ⟨?_, ?_⟩ | skip) <;> first | omega | (simp only [lN, hok, hn, D.rnL, D.rn, posF, Hp.sel, Blk.rnL, Blk.rn, Tv.rnL, idx, Hp.back, putAt, bakF, hE] <;> omega)) | (simp [zAa, D.iV, D.cells, D.cL, D.closed, hok, hn, D.rnL, D.rn, posF, Hp.sel, Blk.rnL, Blk.rn, Tv.rnL, idx, Hp.back, putAt, bakF, hE]; first | done | omega))) | ((with_reducible apply zA6); (case he => rfl); (case hV | hK | hr | hl => first | rfl | assumption | omega | ((first | refine ⟨?_, ?_⟩ | skip) <;> first | omega | (simp only [lN, hok, hn, D.rnL, D.rn, posF, Hp.sel, Blk.rnL, Blk.rn, Tv.rnL, idx, Hp.back, putAt, bakF, hE] <;> omega)) | (simp [zAa, D.iV, D.cells, D.cL, D.closed, hok, hn, D.rnL, D.rn, posF, Hp.sel, Blk.rnL, Blk.rn, Tv.rnL, idx, Hp.back, putAt, bakF, hE]; first | done | omega))) | ((with_reducible apply zBb); (case he => rfl); (case hK | hc | hr => first | rfl | assumption | omega | ((first | refine ⟨?_, ?_⟩ | skip) <;> first | omega | (simp only [lN, hok, hn, D.rnL, D.rn, posF, Hp.sel, Blk.rnL, Blk.rn, Tv.rnL, idx, Hp.back, putAt, bakF, hE] <;> omega)) | (simp [zAa, D.iV, D.cells, D.cL, D.closed, hok, hn, D.rnL, D.rn, posF, Hp.sel, Blk.rnL, Blk.rn, Tv.rnL, idx, Hp.back, putAt, bakF, hE]; first | done | omega))) | ((with_reducible apply zBa); (case he => rfl); (case hK | hc | hr | hx | hn => first | rfl | assumption | omega | ((first | refine ⟨?_, ?_⟩ | skip) <;> first | omega | (simp only [lN, hok, hn, D.rnL, D.rn, posF, Hp.sel, Blk.rnL, Blk.rn, Tv.rnL, idx, Hp.back, putAt, bakF, hE] <;> omega)) | (simp [zAa, D.iV, D.cells, D.cL, D.closed, hok, hn, D.rnL, D.rn, posF, Hp.sel, Blk.rnL, Blk.rn, Tv.rnL, idx, Hp.back, putAt, bakF, hE]; first | done | omega))) | ((with_reducible apply s_bsl); (case he | hl | hc => first | rfl | assumption | omega | ((first | refine ⟨?_, ?_⟩ | skip) <;> first | omega | (simp only [lN, hok, hn, D.rnL, D.rn, posF, Hp.sel, Blk.rnL, Blk.rn, Tv.rnL, idx, Hp.back, putAt, bakF, hE] <;> omega)) | (simp [zAa, D.iV, D.cells, D.cL, D.closed, hok, hn, D.rnL, D.rn, posF, Hp.sel, Blk.rnL, Blk.rn, Tv.rnL, idx, Hp.back, putAt, bakF, hE]; first | done | omega))) | ((with_reducible first | apply s_mpu | apply s_mdl); (case h1 | hk => rfl); (case ha | hp => first | rfl | assumption)) | ((with_reducible apply zAl); (case h1 | hk => rfl); (case ha | hf => first | rfl | assumption)) | ((with_reducible apply zAm); (case h1 | hk => rfl); (case hf | ha => first | rfl | assumption)) | ((with_reducible apply zCi); (case h1 => rfl)) | with_reducible (apply cA; constructor) | ((with_reducible refine And.intro ?hw ?_); (case hw => first | omega | rfl | exact ⟨_, _, rfl⟩ | assumption | (simp only [lN, hok, hn, D.rnL, D.rn, posF, Hp.sel, Blk.rnL, Blk.rn, Tv.rnL, idx, Hp.back, putAt, bakF, hE] <;> omega))) | with_reducible intro _)
  all_goals first | omega | (simp_all [D.closed, D.er, D.cL, D.erL]; done) | (simp_all [D.closed, D.er, D.cL, D.erL] <;> omega)
theorem fitted_perm {s : List Pt} {part : List UInt8} {seen : List Nat} (h1 : seen.Nodup) (h2 : ∀ j ∈ seen, j < (zAp [] 0 s).length) (h3 : ∀ j, j < (zAp [] 0 s).length → j ∈ seen) :
    (((triF (pickF (zAp [] 0 s) seen)).filter fun t => !(t.1 == part)).map fun t => (t.1, t.2.1)).Perm (zBj s part) := by
  have e1 : ((triF (pickF (zAp [] 0 s) seen)).filter fun t => !(t.1 == part)).map (fun t => (t.1, t.2.1)) = (((triF (pickF (zAp [] 0 s) seen)).map fun t => (t.1, t.2.1)).filter fun t => !(t.1 == part)) := by
    rw [List.filter_map]; rfl
  have e2 : zBj s part = (((((zAp [] 0 s).filter fun q => !(q.1.into == [])).map fun q => (q.1.name, q.1.into))).filter fun t => !(t.1 == part)) := by
    unfold zBj
    rw [← zDf s [] 0, List.filter_map, List.map_map, List.filter_map, List.filter_filter]
    rw [show ((fun p : Pt => !(p.into == []) && !(p.name == part)) ∘ fun x : Pt × Nat => x.1) = fun a : Pt × Nat => ((fun t : List UInt8 × List UInt8 => !(t.1 == part)) ∘ fun q : Pt × Nat => (q.1.name, q.1.into)) a && !(a.1.into == []) from by funext a; simp [Bool.and_comm]]
    rfl
  rw [e1, e2, triF_pair]
  exact (((pickF_perm h1 h2 h3).map _).filter _)
theorem firstsI_len (s : List Pt) : (zAp [] 0 s).length ≤ s.length := by
  have : ∀ (l : List Pt) (seen : List (List UInt8)) (i : Nat), (zAp seen i l).length ≤ l.length := by
    intro l
    induction l with
    | nil => intro _ _; simp [zAp]
    | cons p ps ih =>
      intro seen i
      simp only [zAp]
      split
      · have := ih seen (i + 1); simp; omega
      · have := ih (seen ++ [p.name]) (i + 1); simp; omega
  exact this s [] 0
theorem zEl : ∀ (n : Nat) (l : List Nat), l.Nodup → (∀ i ∈ l, i < n) → l.length ≤ n
  | 0, l, _, h => by
    cases l with
    | nil => simp
    | cons x l => exact absurd (h x (by simp)) (by omega)
  | n + 1, l, hn, h => by
    by_cases hm : n ∈ l
    · have h1 := zEl n (l.erase n) (hn.erase n) (fun i hi => by
        have h2 : i ∈ l := List.mem_of_mem_erase hi
        have h3 : i ≠ n := fun e => by
          subst e
          exact (List.Nodup.not_mem_erase hn) hi
        have := h i h2
        omega)
      rw [List.length_erase_of_mem hm] at h1
      omega
    · have := zEl n l hn (fun i hi => by
        have h3 : i ≠ n := fun e => hm (e ▸ hi)
        have := h i hi
        omega)
      omega
theorem ins_e : Pur M 62 [.slice [] .no, .int .i64 0, .int .i64 0] (.tup []) := by
  refine k62.ok (C := C62) rfl rfl ?_
  rw [i62]
  unfold c62
  repeat' (first | with_reducible (apply swq; constructor) | simp only [go_sem, seval, P62, q62] | simp (disch := omega) only [w64, w32, wu8, wu16, wu32, wu64] | (with_reducible first | (apply cA; constructor) | (apply gA; constructor) | (apply qA; constructor)) | ((with_reducible refine And.intro ?hw ?_); (case hw => first | omega | rfl | exact ⟨_, _, rfl⟩ | assumption | (simp only [lN] <;> omega))) | with_reducible intro _)
  refine zAz [0, 1, 2, 3] (fun _ : Unit => ⟨[.slice [] .no, .int .i64 0, .int .i64 0, .int .i64 1, .u0, .u0, .u0], [], ⟨[], []⟩⟩) (fun _ => True) (fun _ => 0) () trivial ?_ ?_
  · simp [keepE, St.keep]
  · intro _ _
    repeat' (first | with_reducible (apply swq; constructor) | simp only [go_sem, seval, P62, q62] | simp (disch := omega) only [w64, w32, wu8, wu16, wu32, wu64] | (with_reducible first | (apply cA; constructor) | (apply gA; constructor) | (apply qA; constructor)) | ((with_reducible refine And.intro ?hw ?_); (case hw => first | omega | rfl | exact ⟨_, _, rfl⟩ | assumption | (simp only [lN] <;> omega))) | with_reducible intro _)
    all_goals first | omega | (simp_all [D.closed, D.er, D.cL, D.erL]; done) | (simp_all [D.closed, D.er, D.cL, D.erL] <;> omega)
theorem pdq_e (z : Int) : Pur M 36 [.slice [] .no, .int .i64 0, .int .i64 0, .int .i64 z] (.tup []) := by
  refine k36.ok (C := C36) rfl rfl ?_
  rw [i36]
  unfold c36
  have c1 := ins_e
  repeat' (first | with_reducible (apply swq; constructor) | simp only [go_sem, seval, P36, q36] | simp (disch := omega) only [w64, w32, wu8, wu16, wu32, wu64] | (with_reducible first | (apply cA; constructor) | (apply gA; constructor) | (apply qA; constructor)) | ((with_reducible refine And.intro ?hw ?_); (case hw => first | omega | rfl | exact ⟨_, _, rfl⟩ | assumption | (simp only [lN] <;> omega))) | with_reducible intro _)
  refine zAz [0, 1, 2, 3, 4, 5] (fun _ : Unit => ⟨[.slice [] .no, .int .i64 0, .int .i64 0, .int .i64 z, .bool true, .bool true, .u0, .u0, .u0, .u0, .u0, .u0, .u0, .u0, .u0, .u0, .u0, .u0, .u0, .u0, .u0, .u0, .u0], [], ⟨[], []⟩⟩) (fun _ => True) (fun _ => 0) () trivial ?_ ?_
  · simp [keepE, St.keep]
  · intro _ _
    repeat' (first | with_reducible (apply swq; constructor) | simp only [go_sem, seval, P36, q36] | simp (disch := omega) only [w64, w32, wu8, wu16, wu32, wu64] | ((with_reducible refine zAb (c1) ?he ?hc ?_); (case he | hc => first | rfl | (simp [D.erL, D.er, D.cL, D.closed]; done))) | (with_reducible first | (apply cA; constructor) | (apply gA; constructor) | (apply qA; constructor)) | ((with_reducible refine And.intro ?hw ?_); (case hw => first | omega | rfl | exact ⟨_, _, rfl⟩ | assumption | (simp only [lN] <;> omega))) | with_reducible intro _)
    all_goals first | omega | (simp_all [D.closed, D.er, D.cL, D.erL]; done) | (simp_all [D.closed, D.er, D.cL, D.erL] <;> omega)
theorem sort_e : Pur M 22 [.slice [] .no] (.tup []) := by
  refine k22.ok (C := C22) rfl rfl ?_
  rw [i22]
  unfold c22
  have c1 := len_any 0 (by omega)
  have c2 := pdq_e (Lib.bitLen 0 : Nat)
  repeat' (first | with_reducible (apply swq; constructor) | simp only [go_sem, seval, P22, q22] | simp (disch := omega) only [w64, w32, wu8, wu16, wu32, wu64] | ((with_reducible refine zAb (c1) ?he ?hc ?_); (case he | hc => first | rfl | (simp [D.erL, D.er, D.cL, D.closed]; done))) | ((with_reducible refine zAb (c2) ?he ?hc ?_); (case he | hc => first | rfl | (simp [D.erL, D.er, D.cL, D.closed]; done))) | with_reducible (apply cA; constructor) | ((with_reducible refine And.intro ?hw ?_); (case hw => first | omega | rfl | exact ⟨_, _, rfl⟩ | assumption | (simp only [lN] <;> omega))) | with_reducible intro _)
  all_goals first | omega | (simp_all [D.closed, D.er, D.cL, D.erL]; done) | (simp_all [D.closed, D.er, D.cL, D.erL] <;> omega)
theorem inside_tail (s : List Pt) (part : List UInt8) (O : List (List UInt8)) (clk : Nat) (R : List Tri) (hO : isort O = zAk s part) (hl : O.length ≤ 12) (X : D) :
    SWp (E7 0 0) (.seq (.reg r7_29) (.seq (.reg r7_30) .ret)) (fun e s_1 => (match e with | .exit _ => False | _ => True) ∧ ∃ s1, Weak (E7 0 0) s_1 s1 ∧ InsR s part (s1.env.getD 3 .u0) s1.hp)
      ⟨[.u0, .u0, .u0, .u0, .u0, .u0, .mp 0, .u0, .u0, .u0, .gs 0 O.length, X, .u0, .u0, .u0, .u0, .u0, .u0, .u0, .u0, .bool false, .u0, .u0, .u0, .u0, .u0, .u0, .u0], [], ⟨[.map (entT R) clk], [.chg 1 (strs O)]⟩⟩ := by
  have hlo := zA9 O
  have hri := (zCd O).length_eq
  by_cases hz : O = []
  · subst hz
    refine zFn (zBu (zBk [10]) (weak_frzT 0 1 0 [] rfl rfl (Nat.zero_le _) rfl rfl)) ?_
    simp [St.frzT, keepE, D.fzt, chunk]
    have c1 := sort_e
    repeat' (first | with_reducible (apply swq; constructor) | simp only [go_sem, seval, P7, pe7, q7, zAt] | ((with_reducible refine zAb (c1) ?he ?hc ?_); (case he | hc => first | rfl | (simp [D.erL, D.er, D.cL, D.closed]; done))) | ((with_reducible apply zA5); (case he => rfl); (case hK | hc | hr | hV => first | rfl | assumption | omega | ((first | refine ⟨?_, ?_⟩ | skip) <;> first | omega | (simp only [lN] <;> omega)) | (simp [zAa, D.iV, D.cells, D.cL, D.closed]; first | done | omega))) | ((with_reducible apply zA6); (case he => rfl); (case hV | hK | hr | hl => first | rfl | assumption | omega | ((first | refine ⟨?_, ?_⟩ | skip) <;> first | omega | (simp only [lN] <;> omega)) | (simp [zAa, D.iV, D.cells, D.cL, D.closed]; first | done | omega))) | ((with_reducible apply zBb); (case he => rfl); (case hK | hc | hr => first | rfl | assumption | omega | ((first | refine ⟨?_, ?_⟩ | skip) <;> first | omega | (simp only [lN] <;> omega)) | (simp [zAa, D.iV, D.cells, D.cL, D.closed]; first | done | omega))) | ((with_reducible apply zBa); (case he => rfl); (case hK | hc | hr | hx | hn => first | rfl | assumption | omega | ((first | refine ⟨?_, ?_⟩ | skip) <;> first | omega | (simp only [lN] <;> omega)) | (simp [zAa, D.iV, D.cells, D.cL, D.closed]; first | done | omega))) | ((with_reducible apply s_bsl); (case he | hl | hc => first | rfl | assumption | omega | ((first | refine ⟨?_, ?_⟩ | skip) <;> first | omega | (simp only [lN] <;> omega)) | (simp [zAa, D.iV, D.cells, D.cL, D.closed]; first | done | omega))) | ((with_reducible first | apply s_mpu | apply s_mdl); (case h1 | hk => rfl); (case ha | hp => first | rfl | assumption)) | ((with_reducible apply zAl); (case h1 | hk => rfl); (case ha | hf => first | rfl | assumption)) | ((with_reducible apply zAm); (case h1 | hk => rfl); (case hf | ha => first | rfl | assumption)) | ((with_reducible apply zCi); (case h1 => rfl)) | with_reducible (apply cA; constructor) | ((with_reducible refine And.intro ?hw ?_); (case hw => first | omega | rfl | exact ⟨_, _, rfl⟩ | assumption | (simp only [lN] <;> omega))) | with_reducible intro _)
    refine ⟨_, zB2 0 0 (Nat.le_refl 0) (Nat.le_refl 0), ?_⟩
    left
    rw [← hO]
    simp [isort, St.gc, Hp.cut, D.rnL, D.rn, cutF, Blk.rnL, Tv.rnL, Own.rn]
  · have hpos : 0 < O.length := List.length_pos_iff.2 hz
    refine swp_sl 10 0 1 O.length (strs O) rfl rfl (by omega) rfl hpos fun cap h1 => ?_
    simp only [St.toSl, List.set_cons_zero, List.set_cons_succ, List.length_cons, List.length_nil, List.nil_append, List.cons_append, Nat.mul_one]
    have hu : List.replicate (cap - O.length) D.u0 = und (cap - O.length) := rfl
    rw [hu]
    have c1 := sort_p O (und (cap - O.length)) O.length cap rfl (by rw [und_len]; omega) hl
    have hr1 := fun β τ => rnL_su β τ O (cap - O.length)
    have hr2 := fun β τ => rnL_su β τ (isort O) (cap - O.length)
    have hne : zAk s part ≠ [] := by
      rw [← hO]; intro e; rw [e] at hri; simp at hri; omega
    have hle : (zAk s part).length = O.length := by rw [← hO]; exact hri
    repeat' (first | with_reducible (apply swq; constructor) | simp only [go_sem, seval, P7, pe7, q7, zAt] | ((with_reducible refine o_eff [1] [] (c1) ?hs ?he ?hh ?_); (case hs => exact ⟨by simp, by simp, by simp, by simp⟩); (case he => first | rfl | (simp [go_sem, seval, D.rnL, D.rn, posF, Hp.sel, Blk.rnL, Blk.rn, Tv.rnL, idx, hr1]; done)); (case hh => first | rfl | (simp [go_sem, seval, D.rnL, D.rn, posF, Hp.sel, Blk.rnL, Blk.rn, Tv.rnL, idx, hr1]; done)); rintro _ _ ⟨rfl, rfl⟩) | ((with_reducible apply zA5); (case he => rfl); (case hK | hc | hr | hV => first | rfl | assumption | omega | ((first | refine ⟨?_, ?_⟩ | skip) <;> first | omega | (simp only [lN, D.rnL, D.rn, posF, Hp.sel, Blk.rnL, Blk.rn, Tv.rnL, idx, hr1] <;> omega)) | (simp [zAa, D.iV, D.cells, D.cL, D.closed, D.rnL, D.rn, posF, Hp.sel, Blk.rnL, Blk.rn, Tv.rnL, idx, hr1]; first | done | omega))) | ((with_reducible apply zA6); (case he => rfl); (case hV | hK | hr | hl => first | rfl | assumption | omega | ((first | refine ⟨?_, ?_⟩ | skip) <;> first | omega | (simp only [lN, D.rnL, D.rn, posF, Hp.sel, Blk.rnL, Blk.rn, Tv.rnL, idx, hr1] <;> omega)) | (simp [zAa, D.iV, D.cells, D.cL, D.closed, D.rnL, D.rn, posF, Hp.sel, Blk.rnL, Blk.rn, Tv.rnL, idx, hr1]; first | done | omega))) | ((with_reducible apply zBb); (case he => rfl); (case hK | hc | hr => first | rfl | assumption | omega | ((first | refine ⟨?_, ?_⟩ | skip) <;> first | omega | (simp only [lN, D.rnL, D.rn, posF, Hp.sel, Blk.rnL, Blk.rn, Tv.rnL, idx, hr1] <;> omega)) | (simp [zAa, D.iV, D.cells, D.cL, D.closed, D.rnL, D.rn, posF, Hp.sel, Blk.rnL, Blk.rn, Tv.rnL, idx, hr1]; first | done | omega))) | ((with_reducible apply zBa); (case he => rfl); (case hK | hc | hr | hx | hn => first | rfl | assumption | omega | ((first | refine ⟨?_, ?_⟩ | skip) <;> first | omega | (simp only [lN, D.rnL, D.rn, posF, Hp.sel, Blk.rnL, Blk.rn, Tv.rnL, idx, hr1] <;> omega)) | (simp [zAa, D.iV, D.cells, D.cL, D.closed, D.rnL, D.rn, posF, Hp.sel, Blk.rnL, Blk.rn, Tv.rnL, idx, hr1]; first | done | omega))) | ((with_reducible apply s_bsl); (case he | hl | hc => first | rfl | assumption | omega | ((first | refine ⟨?_, ?_⟩ | skip) <;> first | omega | (simp only [lN, D.rnL, D.rn, posF, Hp.sel, Blk.rnL, Blk.rn, Tv.rnL, idx, hr1] <;> omega)) | (simp [zAa, D.iV, D.cells, D.cL, D.closed, D.rnL, D.rn, posF, Hp.sel, Blk.rnL, Blk.rn, Tv.rnL, idx, hr1]; first | done | omega))) | ((with_reducible first | apply s_mpu | apply s_mdl); (case h1 | hk => rfl); (case ha | hp => first | rfl | assumption)) | ((with_reducible apply zAl); (case h1 | hk => rfl); (case ha | hf => first | rfl | assumption)) | ((with_reducible apply zAm); (case h1 | hk => rfl); (case hf | ha => first | rfl | assumption)) | ((with_reducible apply zCi); (case h1 => rfl)) | with_reducible (apply cA; constructor) | ((with_reducible refine And.intro ?hw ?_); (case hw => first | omega | rfl | exact ⟨_, _, rfl⟩ | assumption | (simp only [lN, D.rnL, D.rn, posF, Hp.sel, Blk.rnL, Blk.rn, Tv.rnL, idx, hr1] <;> omega))) | with_reducible intro _)
    refine ⟨_, zDh [1] [] ⟨by simp, by simp, by simp [Hp.back, putAt, bakF, Blk.rnL], by simp⟩ rfl rfl, ?_⟩
    right
    refine ⟨cap, hne, by omega, ?_⟩
    rw [hle, ← hO]
    simp [St.sel, Hp.sel, Hp.back, putAt, bakF, D.rnL, D.rn, posF, idx, Blk.rn, Blk.rnL, Tv.rnL, Own.rn, pairs, hr1, hr2]
abbrev prT (t : Tri) : List UInt8 × List UInt8 := (t.1, t.2.1)
def moreT (L : List (List UInt8)) (V : List Tri) : List (List UInt8) := (V.filter fun t => L.contains t.2.1).map (·.1)
def leftT (R : List Tri) (m : List (List UInt8)) : List Tri := R.filter fun t => !(m.contains t.1)
theorem leftT_step {R : List Tri} {m : List (List UInt8)} {j : Nat} (h : j < m.length) : leftT R (m.take (j + 1)) = (leftT R (m.take j)).filter fun t => !(t.1 == m[j]) := by
  unfold leftT
  rw [List.filter_filter]
  congr 1
  funext t
  rw [List.take_succ_eq_append_getElem h, Bool.eq_iff_iff]
  simp [not_or, and_comm, -List.take_append_getElem]
theorem leftT_sub (R : List Tri) (m : List (List UInt8)) : ((leftT R m).map (·.1)).Sublist (R.map (·.1)) := List.filter_sublist.map _
theorem leftT_more {R V : List Tri} {L : List (List UInt8)} (hN : (R.map (·.1)).Nodup) (hp : V.Perm R) : leftT R (moreT L V) = R.filter fun t => !(L.contains t.2.1) := by
  unfold leftT
  refine List.filter_congr fun t ht => ?_
  congr 1
  rw [Bool.eq_iff_iff]
  simp only [List.contains_eq_mem, decide_eq_true_eq, moreT, List.mem_map, List.mem_filter]
  constructor
  · rintro ⟨u, ⟨hu, hu2⟩, e⟩
    have hu' : u ∈ R := hp.mem_iff.1 hu
    have : u = t := by
      obtain ⟨a, ha, rfl⟩ := List.getElem_of_mem hu'
      obtain ⟨b, hb, rfl⟩ := List.getElem_of_mem ht
      have h1 : (R.map (·.1))[a]'(by simpa using ha) = (R.map (·.1))[b]'(by simpa using hb) := by simpa using e
      have := (List.getElem_inj hN).1 h1
      subst this; rfl
    subst this; simpa using hu2
  · intro h
    exact ⟨t, ⟨hp.mem_iff.2 ht, by simpa using h⟩, rfl⟩
theorem moreT_app (L : List (List UInt8)) (V : List Tri) (t : Tri) : moreT L (V ++ [t]) = moreT L V ++ (if L.contains t.2.1 = true then [t.1] else []) := by
  simp only [moreT, List.filter_append, List.map_append]
  congr 1
  by_cases h : L.contains t.2.1 = true
  · rw [if_pos h]; simp only [List.filter, h, List.map_cons, List.map_nil]
  · rw [if_neg h]; simp only [Bool.not_eq_true] at h; simp only [List.filter, h, List.map_nil]
theorem moreT_le (L : List (List UInt8)) (V : List Tri) : (moreT L V).length ≤ V.length := by
  simp only [moreT, List.length_map]; exact List.length_filter_le _ _
theorem born_inj {R : List Tri} (hB : (R.map (·.2.2)).Nodup) {t u : Tri} (ht : t ∈ R) (hu : u ∈ R) (e : t.2.2 = u.2.2) : t = u := by
  obtain ⟨a, ha, rfl⟩ := List.getElem_of_mem ht
  obtain ⟨b, hb, rfl⟩ := List.getElem_of_mem hu
  have h1 : (R.map (·.2.2))[a]'(by simpa using ha) = (R.map (·.2.2))[b]'(by simpa using hb) := by simpa using e
  have := (List.getElem_inj hB).1 h1
  subst this; rfl
theorem zCz {α β : Type} (f : α → β) : ∀ {l : List α}, (l.map f).Nodup → l.Nodup
  | [], _ => by simp
  | x :: l, h => by
    simp only [List.map_cons, List.nodup_cons] at h ⊢
    exact ⟨fun hx => h.1 (List.mem_map_of_mem hx), zCz f h.2⟩
theorem vis_perm {R V : List Tri} (hB : (R.map (·.2.2)).Nodup) (hV : (V.map (·.2.2)).Nodup) (hs : ∀ t ∈ V, t ∈ R) (ha : ∀ t ∈ R, t.2.2 ∈ V.map (·.2.2)) : V.Perm R := by
  rw [List.perm_ext_iff_of_nodup (zCz _ hV) (zCz _ hB)]
  intro t
  refine ⟨hs t, fun ht => ?_⟩
  obtain ⟨u, hu, e⟩ := List.mem_map.1 (ha t ht)
  have := born_inj hB (hs u hu) ht e
  subst this; exact hu
theorem vis_len {R V : List Tri} (hB : (R.map (·.2.2)).Nodup) (hV : (V.map (·.2.2)).Nodup) (hs : ∀ t ∈ V, t ∈ R) : V.length ≤ R.length := by
  have h2 : V.Nodup := zCz _ hV
  clear hV
  induction V generalizing R with
  | nil => simp
  | cons t V ih =>
    simp only [List.nodup_cons] at h2
    have ht := hs t (by simp)
    have h3 : ((R.erase t).map (·.2.2)).Nodup := List.Sublist.nodup (List.erase_sublist.map _) hB
    have hR : R.Nodup := zCz _ hB
    have := ih h3 (fun u hu => (List.Nodup.mem_erase_iff hR).2 ⟨fun e => by subst e; exact h2.1 hu, hs u (by simp [hu])⟩) h2.2
    rw [List.length_erase_of_mem ht] at this
    have hpos : 0 < R.length := List.length_pos_of_mem ht
    simp; omega
theorem bfs_step {k : Nat} {R V : List Tri} {L O : List (List UInt8)} {B : List (List UInt8)} (hN : (R.map (·.1)).Nodup) (hp : V.Perm R) (hL : L ≠ []) (hk : (O ++ bfs (k + 1) (R.map prT) L).Perm B) :
    ((O ++ moreT L V) ++ bfs k ((leftT R (moreT L V)).map prT) (moreT L V)).Perm B := by
  rw [leftT_more hN hp]
  refine List.Perm.trans ?_ hk
  rw [bfs, if_neg hL, List.append_assoc]
  refine List.Perm.append_left O ?_
  have e1 : (R.map prT).filter (fun r => L.contains r.2) = (R.filter fun t => L.contains t.2.1).map prT := by rw [List.filter_map]; rfl
  have e2 : (R.map prT).filter (fun r => !(L.contains r.2)) = (R.filter fun t => !(L.contains t.2.1)).map prT := by rw [List.filter_map]; rfl
  rw [e1, e2, List.map_map]
  have hm : (moreT L V).Perm ((R.filter fun t => L.contains t.2.1).map (Prod.fst ∘ prT)) := (hp.filter _).map _
  exact hm.append (bfs_perm k (List.Perm.refl _) hm)
theorem strs_app (a b : List (List UInt8)) : strs a ++ strs b = strs (a ++ b) := by simp [strs]
theorem flat_strs (l : List (List UInt8)) : flatD (strs l) = strs l := by
  induction l with
  | nil => rfl
  | cons x l ih => simp only [strs, List.map_cons, flatD, D.cells] at ih ⊢; rw [ih]; rfl
theorem elems_strs (l : List (List UInt8)) : zAa 1 (strs l) = true := by
  induction l with
  | nil => rfl
  | cons x l ih => simp only [strs, List.map_cons, zAa] at ih ⊢; rw [ih]; rfl
set_option maxHeartbeats 4000000 in
theorem inside_loop (R0 : List Tri) (clk : Nat) (part : List UInt8) (hN0 : (R0.map (·.1)).Nodup) (hB0 : (R0.map (·.2.2)).Nodup) (hlt0 : ∀ t ∈ R0, t.2.2 < clk) (hR0 : R0.length ≤ 12) (Q : Ex → St → Prop)
    (hQ : ∀ (O : List (List UInt8)) (R : List Tri) (X : D), O.Perm (bfs (R0.length + 2) (R0.map prT) [part]) → O.length ≤ 12 → Q (.exit 2) ⟨[.u0, .u0, .u0, .u0, .u0, .u0, .mp 0, .u0, .u0, .u0, .gs 0 O.length, X, .u0, .u0, .u0, .u0, .u0, .u0, .u0, .u0, .bool false, .u0, .u0, .u0, .u0, .u0, .u0, .u0], [], ⟨[.map (entT R) clk], [.chg 1 (strs O)]⟩⟩) :
    SWp (E7 0 0) (.loop (.seq (.seq (.reg r7_15) (.cond (.v 20) .skip (.exit 2))) (.block 3 (.seq (.reg r7_16) (.seq (.seq (.reg r7_17) (.block 4 (.loop (.seq (.reg r7_18) (.seq (.cond (.v 22) .skip (.exit 4)) (.block 5 (.seq (.reg r7_19) (.seq (.reg r7_20) (.cond (.v 23) (.reg r7_21) .skip))))))))) (.seq (.seq (.reg r7_22) (.block 6 (.loop (.seq (.reg r7_23) (.seq (.cond (.v 27) .skip (.exit 6)) (.seq (.block 7 (.seq (.reg r7_24) (.reg r7_25))) (.reg r7_26))))))) (.seq (.reg r7_27) (.reg r7_28)))))))) Q ⟨[.u0, .u0, .u0, .u0, .u0, .u0, .mp 0, .u0, .u0, .u0, .gs 0 0, .slice [.str part] .full, .u0, .u0, .u0, .u0, .u0, .u0, .u0, .u0, .u0, .u0, .u0, .u0, .u0, .u0, .u0, .u0], [], ⟨[.map (entT R0) clk], [.chg 1 []]⟩⟩ := by
  have hrs := zEw
  refine zB0 (C := E7 0 0) [6, 10, 11] 1 1 (Nat.zero_le 1) (Nat.zero_le 1) (fun p : List Tri × List (List UInt8) × List (List UInt8) × GoV.Own => ⟨[.u0, .u0, .u0, .u0, .u0, .u0, .mp 0, .u0, .u0, .u0, .gs 0 p.2.2.1.length, .slice (strs p.2.1) p.2.2.2, .u0, .u0, .u0, .u0, .u0, .u0, .u0, .u0, .u0, .u0, .u0, .u0, .u0, .u0, .u0, .u0], [], ⟨[.map (entT p.1) clk], [.chg 1 (strs p.2.2.1)]⟩⟩)
    (fun p => (p.1.map (·.1)).Nodup ∧ (p.1.map (·.2.2)).Nodup ∧ (∀ t ∈ p.1, t.2.2 < clk) ∧ p.1.length + p.2.2.1.length ≤ 12 ∧ p.2.1.length ≤ 13 ∧ (p.2.2.2 = .full ∨ p.2.2.2 = .no) ∧
      ∃ k, (p.1.length + 2 ≤ k ∨ p.2.1 = []) ∧ (p.2.2.1 ++ bfs k (p.1.map prT) p.2.1).Perm (bfs (R0.length + 2) (R0.map prT) [part]))
    (fun p => 2 * p.1.length + if p.2.1 = [] then 0 else 1) (R0, [part], [], .full) ⟨hN0, hB0, hlt0, by simpa using hR0, by simp, .inl rfl, R0.length + 2, .inl (Nat.le_refl _), List.Perm.refl _⟩ ?_ ?_
  · have hre := fun β τ => zFh β τ R0
    simp [keepE, St.keepG, St.keep, St.gc, Hp.cut, D.rnL, D.rn, cutF, Blk.rn, Blk.rnL, Tv.rn, Tv.rnL, Own.rn, pairs, hrs, hre, strs]
  · rintro ⟨R, L, O, ow⟩ ⟨hN, hB, hlt, hsz, hLl, how, k, hk, hb⟩
    simp only at hN hB hlt hsz hLl how hk hb ⊢
    have hll := zA9 L
    have hre := fun β τ => zFh β τ R
    by_cases hL : L = []
    · subst hL
      repeat' (first | with_reducible (apply swq; constructor) | simp only [go_sem, seval, P7, pe7, q7, hll, zAt] | ((with_reducible apply zA5); (case he => rfl); (case hK | hc | hr | hV => first | rfl | assumption | omega | ((first | refine ⟨?_, ?_⟩ | skip) <;> first | omega | (simp only [lN] <;> omega)) | (simp [zAa, D.iV, D.cells, D.cL, D.closed]; first | done | omega))) | ((with_reducible apply zA6); (case he => rfl); (case hV | hK | hr | hl => first | rfl | assumption | omega | ((first | refine ⟨?_, ?_⟩ | skip) <;> first | omega | (simp only [lN] <;> omega)) | (simp [zAa, D.iV, D.cells, D.cL, D.closed]; first | done | omega))) | ((with_reducible apply zBb); (case he => rfl); (case hK | hc | hr => first | rfl | assumption | omega | ((first | refine ⟨?_, ?_⟩ | skip) <;> first | omega | (simp only [lN] <;> omega)) | (simp [zAa, D.iV, D.cells, D.cL, D.closed]; first | done | omega))) | ((with_reducible apply zBa); (case he => rfl); (case hK | hc | hr | hx | hn => first | rfl | assumption | omega | ((first | refine ⟨?_, ?_⟩ | skip) <;> first | omega | (simp only [lN] <;> omega)) | (simp [zAa, D.iV, D.cells, D.cL, D.closed]; first | done | omega))) | ((with_reducible apply s_bsl); (case he | hl | hc => first | rfl | assumption | omega | ((first | refine ⟨?_, ?_⟩ | skip) <;> first | omega | (simp only [lN] <;> omega)) | (simp [zAa, D.iV, D.cells, D.cL, D.closed]; first | done | omega))) | ((with_reducible first | apply s_mpu | apply s_mdl); (case h1 | hk => rfl); (case ha | hp => first | rfl | assumption)) | ((with_reducible apply zAl); (case h1 | hk => rfl); (case ha | hf => first | rfl | assumption)) | ((with_reducible apply zAm); (case h1 | hk => rfl); (case hf | ha => first | rfl | assumption)) | ((with_reducible apply zCi); (case h1 => rfl)) | with_reducible (apply cA; constructor) | ((with_reducible refine And.intro ?hw ?_); (case hw => first | omega | rfl | exact ⟨_, _, rfl⟩ | assumption | (simp only [lN] <;> omega))) | with_reducible intro _)
      all_goals try omega
      have e0 : bfs k (R.map prT) [] = [] := by cases k <;> rfl
      rw [e0, List.append_nil] at hb
      refine hQ O R _ hb (by omega)
    · have hpos : 0 < L.length := List.length_pos_iff.2 hL
      have hgt : ((L.length : Int) > 0) = True := eq_true (by omega)
      repeat' (first | with_reducible (apply swq; constructor) | simp only [go_sem, seval, P7, pe7, q7, hll, zAt] | ((with_reducible apply zA5); (case he => rfl); (case hK | hc | hr | hV => first | rfl | assumption | omega | ((first | refine ⟨?_, ?_⟩ | skip) <;> first | omega | (simp only [lN] <;> omega)) | (simp [zAa, D.iV, D.cells, D.cL, D.closed]; first | done | omega))) | ((with_reducible apply zA6); (case he => rfl); (case hV | hK | hr | hl => first | rfl | assumption | omega | ((first | refine ⟨?_, ?_⟩ | skip) <;> first | omega | (simp only [lN] <;> omega)) | (simp [zAa, D.iV, D.cells, D.cL, D.closed]; first | done | omega))) | ((with_reducible apply zBb); (case he => rfl); (case hK | hc | hr => first | rfl | assumption | omega | ((first | refine ⟨?_, ?_⟩ | skip) <;> first | omega | (simp only [lN] <;> omega)) | (simp [zAa, D.iV, D.cells, D.cL, D.closed]; first | done | omega))) | ((with_reducible apply zBa); (case he => rfl); (case hK | hc | hr | hx | hn => first | rfl | assumption | omega | ((first | refine ⟨?_, ?_⟩ | skip) <;> first | omega | (simp only [lN] <;> omega)) | (simp [zAa, D.iV, D.cells, D.cL, D.closed]; first | done | omega))) | ((with_reducible apply s_bsl); (case he | hl | hc => first | rfl | assumption | omega | ((first | refine ⟨?_, ?_⟩ | skip) <;> first | omega | (simp only [lN] <;> omega)) | (simp [zAa, D.iV, D.cells, D.cL, D.closed]; first | done | omega))) | ((with_reducible first | apply s_mpu | apply s_mdl); (case h1 | hk => rfl); (case ha | hp => first | rfl | assumption)) | ((with_reducible apply zAl); (case h1 | hk => rfl); (case ha | hf => first | rfl | assumption)) | ((with_reducible apply zAm); (case h1 | hk => rfl); (case hf | ha => first | rfl | assumption)) | ((with_reducible apply zCi); (case h1 => rfl)) | with_reducible (apply cA; constructor) | ((with_reducible refine And.intro ?hw ?_); (case hw => first | omega | rfl | exact ⟨_, _, rfl⟩ | assumption | (simp only [lN] <;> omega))) | with_reducible intro _)
      all_goals try omega
      refine zFn (zBu (zBk [6, 10, 11, 12, 21]) (weak_new 12 1 (by decide) false rfl)) ?_
      simp only [keepE, List.set_cons_succ, List.set_cons_zero, List.length_cons, List.length_nil, List.nil_append, List.cons_append, Nat.zero_add, Bool.false_eq_true, if_false]
      simp
      refine zAz (C := E7 0 0) [6, 10, 11, 12, 21] (fun V : List Tri => ⟨[.u0, .u0, .u0, .u0, .u0, .u0, .mp 0, .u0, .u0, .u0, .gs 0 O.length, .slice (strs L) ow, .slice (strs (moreT L V)) (.tok 1), .u0, .u0, .u0, .u0, .u0, .u0, .u0, .u0, .ptr 1 0, .u0, .u0, .u0, .u0, .u0, .u0], [], ⟨[.map (entT R) clk, .miter 0 clk (V.map (·.2.2)) clk], [.chg 1 (strs O), .per 1 (moreT L V).length]⟩⟩)
        (fun V => (V.map (·.2.2)).Nodup ∧ ∀ t ∈ V, t ∈ R) (fun V => R.length + 1 - V.length) [] ⟨by simp, by simp⟩ ?_ ?_
      · simp [keepE, St.keep, moreT, strs]
      · rintro V ⟨g1, g2⟩
        have hml := moreT_le L V
        have hsl := zA9 (moreT L V)
        have hVl : V.length ≤ R.length := by
          have h1 := zEl clk (V.map (·.2.2)) g1 (fun i hi => by
            obtain ⟨t, ht, rfl⟩ := List.mem_map.1 hi
            exact hlt t (g2 t ht))
          exact vis_len hB g1 g2
        repeat' (first | with_reducible (apply swq; constructor) | simp only [go_sem, seval, P7, pe7, q7, zAt] | ((with_reducible apply zA5); (case he => rfl); (case hK | hc | hr | hV => first | rfl | assumption | omega | ((first | refine ⟨?_, ?_⟩ | skip) <;> first | omega | (simp only [lN] <;> omega)) | (simp [zAa, D.iV, D.cells, D.cL, D.closed]; first | done | omega))) | ((with_reducible apply zA6); (case he => rfl); (case hV | hK | hr | hl => first | rfl | assumption | omega | ((first | refine ⟨?_, ?_⟩ | skip) <;> first | omega | (simp only [lN] <;> omega)) | (simp [zAa, D.iV, D.cells, D.cL, D.closed]; first | done | omega))) | ((with_reducible apply zBb); (case he => rfl); (case hK | hc | hr => first | rfl | assumption | omega | ((first | refine ⟨?_, ?_⟩ | skip) <;> first | omega | (simp only [lN] <;> omega)) | (simp [zAa, D.iV, D.cells, D.cL, D.closed]; first | done | omega))) | ((with_reducible apply zBa); (case he => rfl); (case hK | hc | hr | hx | hn => first | rfl | assumption | omega | ((first | refine ⟨?_, ?_⟩ | skip) <;> first | omega | (simp only [lN] <;> omega)) | (simp [zAa, D.iV, D.cells, D.cL, D.closed]; first | done | omega))) | ((with_reducible apply s_bsl); (case he | hl | hc => first | rfl | assumption | omega | ((first | refine ⟨?_, ?_⟩ | skip) <;> first | omega | (simp only [lN] <;> omega)) | (simp [zAa, D.iV, D.cells, D.cL, D.closed]; first | done | omega))) | ((with_reducible first | apply s_mpu | apply s_mdl); (case h1 | hk => rfl); (case ha | hp => first | rfl | assumption)) | ((with_reducible apply zAl); (case h1 | hk => rfl); (case ha | hf => first | rfl | assumption)) | ((with_reducible apply zAm); (case h1 | hk => rfl); (case hf | ha => first | rfl | assumption)) | ((with_reducible apply zCi); (case h1 => rfl)) | with_reducible (apply cA; constructor) | ((with_reducible refine And.intro ?hw ?_); (case hw => first | omega | rfl | exact ⟨_, _, rfl⟩ | assumption | (simp only [lN] <;> omega))) | with_reducible intro _)
        refine s_nxtM rfl rfl (fun e he => ?_) (Nat.le_refl _) (fun e he hn => ?_) (fun hall => ?_)
        · obtain ⟨t, ht, rfl⟩ := entT_mem he
          exact hlt t ht
        · obtain ⟨t, ht, rfl⟩ := entT_mem he
          simp only at hn ⊢
          have hnd : ((entT R).map (·.2.2)).Nodup := by rw [entT_born]; exact hB
          have hmem := entT_mem' ht
          have g1' : ((V ++ [t]).map (·.2.2)).Nodup := by
            rw [List.map_append, List.nodup_append]
            exact ⟨g1, by simp, fun a ha b hb e => by simp at hb; subst hb; subst e; exact hn ha⟩
          have g2' : ∀ u ∈ V ++ [t], u ∈ R := fun u hu => by
            rcases List.mem_append.1 hu with q | q
            · exact g2 u q
            · simp at q; subst q; exact ht
          have hVl' := vis_len hB g1' g2'
          have hma := moreT_app L V t
          have c1 := contains66 L t.2.1 (by omega)
          have hcl := zDg L
          have her := zDr L
          have hcm := zDg (moreT L V)
          repeat' (first | with_reducible (apply swq; constructor) | simp only [go_sem, seval, P7, pe7, q7, zAt] | ((with_reducible apply zA5); (case he => rfl); (case hK | hc | hr | hV => first | rfl | assumption | omega | ((first | refine ⟨?_, ?_⟩ | skip) <;> first | omega | (simp only [lN] <;> omega)) | (simp [zAa, D.iV, D.cells, D.cL, D.closed]; first | done | omega))) | ((with_reducible apply zA6); (case he => rfl); (case hV | hK | hr | hl => first | rfl | assumption | omega | ((first | refine ⟨?_, ?_⟩ | skip) <;> first | omega | (simp only [lN] <;> omega)) | (simp [zAa, D.iV, D.cells, D.cL, D.closed]; first | done | omega))) | ((with_reducible apply zBb); (case he => rfl); (case hK | hc | hr => first | rfl | assumption | omega | ((first | refine ⟨?_, ?_⟩ | skip) <;> first | omega | (simp only [lN] <;> omega)) | (simp [zAa, D.iV, D.cells, D.cL, D.closed]; first | done | omega))) | ((with_reducible apply zBa); (case he => rfl); (case hK | hc | hr | hx | hn => first | rfl | assumption | omega | ((first | refine ⟨?_, ?_⟩ | skip) <;> first | omega | (simp only [lN] <;> omega)) | (simp [zAa, D.iV, D.cells, D.cL, D.closed]; first | done | omega))) | ((with_reducible apply s_bsl); (case he | hl | hc => first | rfl | assumption | omega | ((first | refine ⟨?_, ?_⟩ | skip) <;> first | omega | (simp only [lN] <;> omega)) | (simp [zAa, D.iV, D.cells, D.cL, D.closed]; first | done | omega))) | ((with_reducible first | apply s_mpu | apply s_mdl); (case h1 | hk => rfl); (case ha | hp => first | rfl | assumption)) | ((with_reducible apply zAl); (case h1 | hk => rfl); (case ha | hf => first | rfl | assumption)) | ((with_reducible apply zAm); (case h1 | hk => rfl); (case hf | ha => first | rfl | assumption)) | ((with_reducible apply zCi); (case h1 => rfl)) | with_reducible (apply cA; constructor) | ((with_reducible refine And.intro ?hw ?_); (case hw => first | omega | rfl | exact ⟨_, _, rfl⟩ | assumption | (simp only [lN] <;> omega))) | with_reducible intro _)
          refine s_ent rfl rfl hnd hmem ?_
          cases hin : L.contains t.2.1
          · rw [hin] at hma c1
            simp only [Bool.false_eq_true, if_false, List.append_nil] at hma
            repeat' (first | with_reducible (apply swq; constructor) | simp only [go_sem, seval, P7, pe7, q7, zAt] | ((with_reducible refine zAb (c1) ?he ?hc ?_); (case he | hc => first | rfl | (simp [D.erL, D.er, D.cL, D.closed, hcl, her]; done))) | ((with_reducible apply zA5); (case he => rfl); (case hK | hc | hr | hV => first | rfl | assumption | omega | ((first | refine ⟨?_, ?_⟩ | skip) <;> first | omega | (simp only [lN, hcl, her] <;> omega)) | (simp [zAa, D.iV, D.cells, D.cL, D.closed, hcl, her]; first | done | omega))) | ((with_reducible apply zA6); (case he => rfl); (case hV | hK | hr | hl => first | rfl | assumption | omega | ((first | refine ⟨?_, ?_⟩ | skip) <;> first | omega | (simp only [lN, hcl, her] <;> omega)) | (simp [zAa, D.iV, D.cells, D.cL, D.closed, hcl, her]; first | done | omega))) | ((with_reducible apply zBb); (case he => rfl); (case hK | hc | hr => first | rfl | assumption | omega | ((first | refine ⟨?_, ?_⟩ | skip) <;> first | omega | (simp only [lN, hcl, her] <;> omega)) | (simp [zAa, D.iV, D.cells, D.cL, D.closed, hcl, her]; first | done | omega))) | ((with_reducible apply zBa); (case he => rfl); (case hK | hc | hr | hx | hn => first | rfl | assumption | omega | ((first | refine ⟨?_, ?_⟩ | skip) <;> first | omega | (simp only [lN, hcl, her] <;> omega)) | (simp [zAa, D.iV, D.cells, D.cL, D.closed, hcl, her]; first | done | omega))) | ((with_reducible apply s_bsl); (case he | hl | hc => first | rfl | assumption | omega | ((first | refine ⟨?_, ?_⟩ | skip) <;> first | omega | (simp only [lN, hcl, her] <;> omega)) | (simp [zAa, D.iV, D.cells, D.cL, D.closed, hcl, her]; first | done | omega))) | ((with_reducible first | apply s_mpu | apply s_mdl); (case h1 | hk => rfl); (case ha | hp => first | rfl | assumption)) | ((with_reducible apply zAl); (case h1 | hk => rfl); (case ha | hf => first | rfl | assumption)) | ((with_reducible apply zAm); (case h1 | hk => rfl); (case hf | ha => first | rfl | assumption)) | ((with_reducible apply zCi); (case h1 => rfl)) | with_reducible (apply cA; constructor) | ((with_reducible refine And.intro ?hw ?_); (case hw => first | omega | rfl | exact ⟨_, _, rfl⟩ | assumption | (simp only [lN, hcl, her] <;> omega))) | with_reducible intro _)
            all_goals refine ⟨V ++ [t], ⟨g1', g2'⟩, by simp at hVl' ⊢; omega, ?_⟩
            all_goals simp [keepE, St.keep, hma]
          · rw [hin] at hma c1
            simp only [if_true] at hma
            repeat' (first | with_reducible (apply swq; constructor) | simp only [go_sem, seval, P7, pe7, q7, zAt] | ((with_reducible refine zAb (c1) ?he ?hc ?_); (case he | hc => first | rfl | (simp [D.erL, D.er, D.cL, D.closed, hcl, her, hsl, zAv, hml]; done))) | ((with_reducible apply zA5); (case he => rfl); (case hK | hc | hr | hV => first | rfl | assumption | omega | ((first | refine ⟨?_, ?_⟩ | skip) <;> first | omega | (simp only [lN, hcl, her, hsl, zAv, hml] <;> omega)) | (simp [zAa, D.iV, D.cells, D.cL, D.closed, hcl, her, hsl, zAv, hml]; first | done | omega))) | ((with_reducible apply zA6); (case he => rfl); (case hV | hK | hr | hl => first | rfl | assumption | omega | ((first | refine ⟨?_, ?_⟩ | skip) <;> first | omega | (simp only [lN, hcl, her, hsl, zAv, hml] <;> omega)) | (simp [zAa, D.iV, D.cells, D.cL, D.closed, hcl, her, hsl, zAv, hml]; first | done | omega))) | ((with_reducible apply zBb); (case he => rfl); (case hK | hc | hr => first | rfl | assumption | omega | ((first | refine ⟨?_, ?_⟩ | skip) <;> first | omega | (simp only [lN, hcl, her, hsl, zAv, hml] <;> omega)) | (simp [zAa, D.iV, D.cells, D.cL, D.closed, hcl, her, hsl, zAv, hml]; first | done | omega))) | ((with_reducible apply zBa); (case he => rfl); (case hK | hc | hr | hx | hn => first | rfl | assumption | omega | ((first | refine ⟨?_, ?_⟩ | skip) <;> first | omega | (simp only [lN, hcl, her, hsl, zAv, hml] <;> omega)) | (simp [zAa, D.iV, D.cells, D.cL, D.closed, hcl, her, hsl, zAv, hml]; first | done | omega))) | ((with_reducible apply s_bsl); (case he | hl | hc => first | rfl | assumption | omega | ((first | refine ⟨?_, ?_⟩ | skip) <;> first | omega | (simp only [lN, hcl, her, hsl, zAv, hml] <;> omega)) | (simp [zAa, D.iV, D.cells, D.cL, D.closed, hcl, her, hsl, zAv, hml]; first | done | omega))) | ((with_reducible first | apply s_mpu | apply s_mdl); (case h1 | hk => rfl); (case ha | hp => first | rfl | assumption)) | ((with_reducible apply zAl); (case h1 | hk => rfl); (case ha | hf => first | rfl | assumption)) | ((with_reducible apply zAm); (case h1 | hk => rfl); (case hf | ha => first | rfl | assumption)) | ((with_reducible apply zCi); (case h1 => rfl)) | with_reducible (apply cA; constructor) | ((with_reducible refine And.intro ?hw ?_); (case hw => first | omega | rfl | exact ⟨_, _, rfl⟩ | assumption | (simp only [lN, hcl, her, hsl, zAv, hml] <;> omega))) | with_reducible intro _)
            all_goals refine ⟨V ++ [t], ⟨g1', g2'⟩, by simp at hVl' ⊢; omega, ?_⟩
            all_goals simp [keepE, St.keep, hma, strs]
        · have hp := vis_perm hB g1 g2 (fun t ht => hall _ (entT_mem' ht))
          obtain ⟨k', rfl⟩ : ∃ k', k = k' + 1 := by
            rcases hk with h1 | h1
            · exact ⟨k - 1, by omega⟩
            · exact absurd h1 hL
          have hb' := bfs_step hN hp hL hb
          have hm0 : moreT L V = [] → leftT R (moreT L V) = R := fun e => by rw [e]; simp [leftT]
          have hmle : (leftT R (moreT L V)).length + (moreT L V).length = R.length := by
            rw [leftT_more hN hp]
            have h1 := zE1 (fun t : Tri => L.contains t.2.1) R
            have h2 : (moreT L V).length = (R.filter fun t => L.contains t.2.1).length := by
              simp only [moreT, List.length_map]
              exact (hp.filter _).length_eq
            omega
          have hcl := zDg (moreT L V)
          have her := zDr (moreT L V)
          generalize hmV : moreT L V = m at *
          have hmg : ∀ j (h : j < m.length), (strs m).getD j .u0 = .str (m[j]) := fun j h => by simp [strs, List.getD, h]
          repeat' (first | with_reducible (apply swq; constructor) | simp only [go_sem, seval, P7, pe7, q7, hsl, zAt] | ((with_reducible apply zA5); (case he => rfl); (case hK | hc | hr | hV => first | rfl | assumption | omega | ((first | refine ⟨?_, ?_⟩ | skip) <;> first | omega | (simp only [lN] <;> omega)) | (simp [zAa, D.iV, D.cells, D.cL, D.closed]; first | done | omega))) | ((with_reducible apply zA6); (case he => rfl); (case hV | hK | hr | hl => first | rfl | assumption | omega | ((first | refine ⟨?_, ?_⟩ | skip) <;> first | omega | (simp only [lN] <;> omega)) | (simp [zAa, D.iV, D.cells, D.cL, D.closed]; first | done | omega))) | ((with_reducible apply zBb); (case he => rfl); (case hK | hc | hr => first | rfl | assumption | omega | ((first | refine ⟨?_, ?_⟩ | skip) <;> first | omega | (simp only [lN] <;> omega)) | (simp [zAa, D.iV, D.cells, D.cL, D.closed]; first | done | omega))) | ((with_reducible apply zBa); (case he => rfl); (case hK | hc | hr | hx | hn => first | rfl | assumption | omega | ((first | refine ⟨?_, ?_⟩ | skip) <;> first | omega | (simp only [lN] <;> omega)) | (simp [zAa, D.iV, D.cells, D.cL, D.closed]; first | done | omega))) | ((with_reducible apply s_bsl); (case he | hl | hc => first | rfl | assumption | omega | ((first | refine ⟨?_, ?_⟩ | skip) <;> first | omega | (simp only [lN] <;> omega)) | (simp [zAa, D.iV, D.cells, D.cL, D.closed]; first | done | omega))) | ((with_reducible first | apply s_mpu | apply s_mdl); (case h1 | hk => rfl); (case ha | hp => first | rfl | assumption)) | ((with_reducible apply zAl); (case h1 | hk => rfl); (case ha | hf => first | rfl | assumption)) | ((with_reducible apply zAm); (case h1 | hk => rfl); (case hf | ha => first | rfl | assumption)) | ((with_reducible apply zCi); (case h1 => rfl)) | with_reducible (apply cA; constructor) | ((with_reducible refine And.intro ?hw ?_); (case hw => first | omega | rfl | exact ⟨_, _, rfl⟩ | assumption | (simp only [lN] <;> omega))) | with_reducible intro _)
          refine zB0 (C := E7 0 0) [6, 10, 12, 24, 25, 26] 1 2 (Nat.zero_le 1) (Nat.zero_le 2) (fun j : Nat => ⟨[.u0, .u0, .u0, .u0, .u0, .u0, .mp 0, .u0, .u0, .u0, .gs 0 O.length, .u0, .slice (strs m) (.tok 1), .u0, .u0, .u0, .u0, .u0, .u0, .u0, .u0, .u0, .u0, .u0, .slice (strs m) (.tok 1), .int .i64 m.length, .int .i64 j, .u0], [], ⟨[.map (entT (leftT R (m.take j))) clk], [.chg 1 (strs O), .per 1 m.length]⟩⟩)
            (fun j => j ≤ m.length) (fun j => m.length - j) 0 (by omega) ?_ ?_
          · have e0 : leftT R [] = R := by simp [leftT]
            simp [keepE, St.keepG, St.keep, St.gc, Hp.cut, D.rnL, D.rn, cutF, Blk.rn, Blk.rnL, Tv.rn, Tv.rnL, Own.rn, pairs, hrs, hre, e0]
          · intro j hj
            have hN2 : ((leftT R (m.take j)).map (·.1)).Nodup := List.Sublist.nodup (leftT_sub R _) hN
            have hok3 := entT_ok (leftT R (m.take j))
            by_cases hjm : j < m.length
            · have hg := hmg j hjm
              have hdel := entT_del (k := m[j]) (c := clk) hN2
              have hst := leftT_step (R := R) hjm
              have hre3 := fun β τ => zFh β τ (leftT R (m.take (j + 1)))
              rw [← hst] at hdel
              repeat' (first | with_reducible (apply swq; constructor) | simp only [go_sem, seval, P7, pe7, q7, hsl, hg, zAt] | simp (disch := omega) only [w64, w32, wu8, wu16, wu32, wu64] | ((with_reducible apply zA5); (case he => rfl); (case hK | hc | hr | hV => first | rfl | assumption | omega | ((first | refine ⟨?_, ?_⟩ | skip) <;> first | omega | (simp only [lN, hsl, hg, hok3] <;> omega)) | (simp [zAa, D.iV, D.cells, D.cL, D.closed, hsl, hg, hok3]; first | done | omega))) | ((with_reducible apply zA6); (case he => rfl); (case hV | hK | hr | hl => first | rfl | assumption | omega | ((first | refine ⟨?_, ?_⟩ | skip) <;> first | omega | (simp only [lN, hsl, hg, hok3] <;> omega)) | (simp [zAa, D.iV, D.cells, D.cL, D.closed, hsl, hg, hok3]; first | done | omega))) | ((with_reducible apply zBb); (case he => rfl); (case hK | hc | hr => first | rfl | assumption | omega | ((first | refine ⟨?_, ?_⟩ | skip) <;> first | omega | (simp only [lN, hsl, hg, hok3] <;> omega)) | (simp [zAa, D.iV, D.cells, D.cL, D.closed, hsl, hg, hok3]; first | done | omega))) | ((with_reducible apply zBa); (case he => rfl); (case hK | hc | hr | hx | hn => first | rfl | assumption | omega | ((first | refine ⟨?_, ?_⟩ | skip) <;> first | omega | (simp only [lN, hsl, hg, hok3] <;> omega)) | (simp [zAa, D.iV, D.cells, D.cL, D.closed, hsl, hg, hok3]; first | done | omega))) | ((with_reducible apply s_bsl); (case he | hl | hc => first | rfl | assumption | omega | ((first | refine ⟨?_, ?_⟩ | skip) <;> first | omega | (simp only [lN, hsl, hg, hok3] <;> omega)) | (simp [zAa, D.iV, D.cells, D.cL, D.closed, hsl, hg, hok3]; first | done | omega))) | ((with_reducible first | apply s_mpu | apply s_mdl); (case h1 | hk => rfl); (case ha | hp => first | rfl | assumption)) | ((with_reducible apply zAl); (case h1 | hk => rfl); (case ha | hf => first | rfl | assumption)) | ((with_reducible apply zAm); (case h1 | hk => rfl); (case hf | ha => first | rfl | assumption)) | ((with_reducible apply zCi); (case h1 => rfl)) | with_reducible (apply cA; constructor) | ((with_reducible refine And.intro ?hw ?_); (case hw => first | omega | rfl | exact ⟨_, _, rfl⟩ | assumption | (simp only [lN, hsl, hg, hok3] <;> omega))) | with_reducible intro _)
              all_goals try omega
              all_goals refine ⟨j + 1, by omega, by omega, ?_⟩
              all_goals simp [keepE, St.keepG, St.keep, St.gc, Hp.cut, D.rnL, D.rn, cutF, Blk.rn, Blk.rnL, Tv.rn, Tv.rnL, Own.rn, pairs, hrs, hre, hdel, hre3]
            · have hjm' : j = m.length := by omega
              subst hjm'
              rw [List.take_length] at hok3 hN2 ⊢
              have hfl := flat_strs m
              have hel := elems_strs m
              have hso := zA9 O
              repeat' (first | with_reducible (apply swq; constructor) | simp only [go_sem, seval, P7, pe7, q7, hsl, hfl, zAt] | simp (disch := omega) only [w64, w32, wu8, wu16, wu32, wu64] | ((with_reducible apply zA5); (case he => rfl); (case hK | hc | hr | hV => first | rfl | assumption | omega | ((first | refine ⟨?_, ?_⟩ | skip) <;> first | omega | (simp only [lN, hsl, hel, hso, zAv] <;> omega)) | (simp [zAa, D.iV, D.cells, D.cL, D.closed, hsl, hel, hso, zAv]; first | done | omega))) | ((with_reducible apply zA6); (case he => rfl); (case hV | hK | hr | hl => first | rfl | assumption | omega | ((first | refine ⟨?_, ?_⟩ | skip) <;> first | omega | (simp only [lN, hsl, hel, hso, zAv] <;> omega)) | (simp [zAa, D.iV, D.cells, D.cL, D.closed, hsl, hel, hso, zAv]; first | done | omega))) | ((with_reducible apply zBb); (case he => rfl); (case hK | hc | hr => first | rfl | assumption | omega | ((first | refine ⟨?_, ?_⟩ | skip) <;> first | omega | (simp only [lN, hsl, hel, hso, zAv] <;> omega)) | (simp [zAa, D.iV, D.cells, D.cL, D.closed, hsl, hel, hso, zAv]; first | done | omega))) | ((with_reducible apply zBa); (case he => rfl); (case hK | hc | hr | hx | hn => first | rfl | assumption | omega | ((first | refine ⟨?_, ?_⟩ | skip) <;> first | omega | (simp only [lN, hsl, hel, hso, zAv] <;> omega)) | (simp [zAa, D.iV, D.cells, D.cL, D.closed, hsl, hel, hso, zAv]; first | done | omega))) | ((with_reducible apply s_bsl); (case he | hl | hc => first | rfl | assumption | omega | ((first | refine ⟨?_, ?_⟩ | skip) <;> first | omega | (simp only [lN, hsl, hel, hso, zAv] <;> omega)) | (simp [zAa, D.iV, D.cells, D.cL, D.closed, hsl, hel, hso, zAv]; first | done | omega))) | ((with_reducible first | apply s_mpu | apply s_mdl); (case h1 | hk => rfl); (case ha | hp => first | rfl | assumption)) | ((with_reducible apply zAl); (case h1 | hk => rfl); (case ha | hf => first | rfl | assumption)) | ((with_reducible apply zAm); (case h1 | hk => rfl); (case hf | ha => first | rfl | assumption)) | ((with_reducible apply zCi); (case h1 => rfl)) | with_reducible (apply cA; constructor) | ((with_reducible refine And.intro ?hw ?_); (case hw => first | omega | rfl | exact ⟨_, _, rfl⟩ | assumption | (simp only [lN, hsl, hel, hso, zAv] <;> omega))) | with_reducible intro _)
              all_goals try omega
              have hB2 : ((leftT R m).map (·.2.2)).Nodup := List.Sublist.nodup (List.filter_sublist.map _) hB
              have hlt2 : ∀ (a b : List UInt8) (c : Nat), (a, b, c) ∈ leftT R m → c < clk := fun a b c hm => hlt (a, b, c) (List.mem_filter.1 hm).1
              have hre3 := fun β τ => zFh β τ (leftT R m)
              have hrs2 := fun β τ => hrs β τ (O ++ m)
              have hoa := strs_app O m
              refine ⟨leftT R m, m, O ++ m, .no, ⟨hN2, hB2, hlt2, by simp; omega, by omega, .inr rfl, k', ?_, hb'⟩, ?_, ?_⟩
              · by_cases e : m = []
                · exact .inr e
                · have : 0 < m.length := List.length_pos_iff.2 e
                  rcases hk with h1 | h1
                  · exact .inl (by omega)
                  · exact absurd h1 hL
              · rw [if_neg hL]
                by_cases e : m = []
                · rw [if_pos e, hm0 e]; omega
                · have : 0 < m.length := List.length_pos_iff.2 e
                  rw [if_neg e]; omega
              · simp [keepE, St.keepG, St.keep, St.gc, Hp.cut, D.rnL, D.rn, cutF, Blk.rn, Blk.rnL, Tv.rn, Tv.rnL, Own.rn, pairs, hrs, hre, hre3, hoa, hsl, hrs2]
set_option maxHeartbeats 2000000 in
theorem inside_e (s : List Pt) (hl : s.length ≤ 12) (part : List UInt8) (pp : Pt) (h : getP s part = some pp) : Eff M 7 [zA4 s, .str part] ⟨[], []⟩ (InsR s part) := by
  refine k7.oe 0 0 rfl rfl rfl ?_
  rw [ie7]
  unfold c7
  have h' := h
  rw [← zCa part s 0] at h'
  obtain ⟨⟨p', k⟩, hq, rfl⟩ := Option.map_eq_some_iff.1 h'
  obtain ⟨j0, hs⟩ := ofM_some hq
  have hok := ofM_ok s
  have hE := fun β τ => zFv s β τ
  have c1 := of_m s (by omega)
  have hlen : (s.map ptD).length = s.length := by simp
  unfold mapH at c1
  have hL := firstsI_len s
  have hEl : (ofM s).length = (zAp [] 0 s).length := entsF_len _ _
  have hEb : (ofM s).map (·.2.2) = List.range (zAp [] 0 s).length := by unfold ofM; rw [entsF_born, List.range_eq_range']
  have hEm : ∀ e ∈ ofM s, ∃ j, ∃ h : j < (zAp [] 0 s).length, e = (.str ((zAp [] 0 s)[j]).1.name, .int .i64 ((zAp [] 0 s)[j]).2, j) := fun e he => by
    obtain ⟨j, hj, e1⟩ := entsF_mem he
    exact ⟨j, hj, by rw [e1, Nat.zero_add]⟩
  have hEm' : ∀ j (h : j < (zAp [] 0 s).length), (D.str ((zAp [] 0 s)[j]).1.name, D.int .i64 ((zAp [] 0 s)[j]).2, j) ∈ ofM s := fun j hj => by
    have := entsF_mem' (b := 0) hj
    rwa [Nat.zero_add] at this
  have hLat : ∀ j (h : j < (zAp [] 0 s).length), ∃ h2 : ((zAp [] 0 s)[j]).2 < s.length, s[((zAp [] 0 s)[j]).2] = ((zAp [] 0 s)[j]).1 := fun j hj => by
    obtain ⟨q1, q2, q3⟩ := firstsI_at (List.getElem_mem hj)
    rw [Nat.sub_zero] at q2 q3
    refine ⟨q2, ?_⟩
    rw [List.getElem?_eq_getElem q2] at q3
    simpa using q3
  have hpn := fun seen (h : List.Nodup seen) => pickF_nodup (s := s) (seen := seen) h
  have hfp := fun seen h1 h2 h3 => fitted_perm (s := s) (part := part) (seen := seen) h1 h2 h3
  generalize zAp [] 0 s = L at *
  generalize ofM s = E at *
  simp only at hs
  repeat' (first | with_reducible (apply swq; constructor) | simp only [go_sem, seval, P7, pe7, q7, hE, zAt] | ((with_reducible refine o_eff [] [] (c1) ?hs ?he ?hh ?_); (case hs => exact ⟨by simp, by simp, by simp, by simp⟩); (case he => first | rfl | (simp [go_sem, seval, hok, hs, D.rnL, D.rn, posF, Hp.sel, Blk.rnL, Blk.rn, Tv.rnL, idx, Hp.back, putAt, bakF, hE]; done)); (case hh => first | rfl | (simp [go_sem, seval, hok, hs, D.rnL, D.rn, posF, Hp.sel, Blk.rnL, Blk.rn, Tv.rnL, idx, Hp.back, putAt, bakF, hE]; done)); rintro _ _ ⟨rfl, rfl⟩) | ((with_reducible apply zA5); (case he => rfl); (case hK | hc | hr | hV => first | rfl | assumption | omega | ((first | refine ⟨?_, ?_⟩ | skip) <;> first | omega | (simp only [lN, hok, hs, D.rnL, D.rn, posF, Hp.sel, Blk.rnL, Blk.rn, Tv.rnL, idx, Hp.back, putAt, bakF, hE] <;> omega)) | (simp [zAa, D.iV, D.cells, D.cL, D.closed, hok, hs, D.rnL, D.rn, posF, Hp.sel, Blk.rnL, Blk.rn, Tv.rnL, idx, Hp.back, putAt, bakF, hE]; first | done | omega))) | ((with_reducible apply zA6); (case he => rfl); (case hV | hK | hr | hl => first | rfl | assumption | omega | ((first | refine ⟨?_, ?_⟩ | skip) <;> first | omega | (simp only [lN, hok, hs, D.rnL, D.rn, posF, Hp.sel, Blk.rnL, Blk.rn, Tv.rnL, idx, Hp.back, putAt, bakF, hE] <;> omega)) | (simp [zAa, D.iV, D.cells, D.cL, D.closed, hok, hs, D.rnL, D.rn, posF, Hp.sel, Blk.rnL, Blk.rn, Tv.rnL, idx, Hp.back, putAt, bakF, hE]; first | done | omega))) | ((with_reducible apply zBb); (case he => rfl); (case hK | hc | hr => first | rfl | assumption | omega | ((first | refine ⟨?_, ?_⟩ | skip) <;> first | omega | (simp only [lN, hok, hs, D.rnL, D.rn, posF, Hp.sel, Blk.rnL, Blk.rn, Tv.rnL, idx, Hp.back, putAt, bakF, hE] <;> omega)) | (simp [zAa, D.iV, D.cells, D.cL, D.closed, hok, hs, D.rnL, D.rn, posF, Hp.sel, Blk.rnL, Blk.rn, Tv.rnL, idx, Hp.back, putAt, bakF, hE]; first | done | omega))) | ((with_reducible apply zBa); (case he => rfl); (case hK | hc | hr | hx | hn => first | rfl | assumption | omega | ((first | refine ⟨?_, ?_⟩ | skip) <;> first | omega | (simp only [lN, hok, hs, D.rnL, D.rn, posF, Hp.sel, Blk.rnL, Blk.rn, Tv.rnL, idx, Hp.back, putAt, bakF, hE] <;> omega)) | (simp [zAa, D.iV, D.cells, D.cL, D.closed, hok, hs, D.rnL, D.rn, posF, Hp.sel, Blk.rnL, Blk.rn, Tv.rnL, idx, Hp.back, putAt, bakF, hE]; first | done | omega))) | ((with_reducible apply s_bsl); (case he | hl | hc => first | rfl | assumption | omega | ((first | refine ⟨?_, ?_⟩ | skip) <;> first | omega | (simp only [lN, hok, hs, D.rnL, D.rn, posF, Hp.sel, Blk.rnL, Blk.rn, Tv.rnL, idx, Hp.back, putAt, bakF, hE] <;> omega)) | (simp [zAa, D.iV, D.cells, D.cL, D.closed, hok, hs, D.rnL, D.rn, posF, Hp.sel, Blk.rnL, Blk.rn, Tv.rnL, idx, Hp.back, putAt, bakF, hE]; first | done | omega))) | ((with_reducible first | apply s_mpu | apply s_mdl); (case h1 | hk => rfl); (case ha | hp => first | rfl | assumption)) | ((with_reducible apply zAl); (case h1 | hk => rfl); (case ha | hf => first | rfl | assumption)) | ((with_reducible apply zAm); (case h1 | hk => rfl); (case hf | ha => first | rfl | assumption)) | ((with_reducible apply zCi); (case h1 => rfl)) | with_reducible (apply cA; constructor) | ((with_reducible refine And.intro ?hw ?_); (case hw => first | omega | rfl | exact ⟨_, _, rfl⟩ | assumption | (simp only [lN, hok, hs, D.rnL, D.rn, posF, Hp.sel, Blk.rnL, Blk.rn, Tv.rnL, idx, Hp.back, putAt, bakF, hE] <;> omega))) | with_reducible intro _)
  refine zB0 (C := E7 0 0) [0, 1, 2, 4, 6, 17] 5 0 (Nat.zero_le 5) (Nat.le_refl 0) (fun seen : List Nat => ⟨[zA4 s, .str part, .ptr 0 0, .u0, .ptr 2 0, .u0, .mp 3, .u0, .u0, .u0, .u0, .u0, .u0, .u0, .u0, .u0, .u0, .ptr 4 0, .u0, .u0, .u0, .u0, .u0, .u0, .u0, .u0, .u0, .u0], [],
    ⟨[.cells [zAy s], .map E E.length, .cells [zAy s, .mp 1], .map (entT (triF (pickF L seen))) (triF (pickF L seen)).length, .miter 1 E.length seen E.length], []⟩⟩)
    (fun seen => seen.Nodup ∧ ∀ j ∈ seen, j < L.length) (fun seen => L.length + 1 - seen.length) [] ⟨by simp, by simp⟩ ?_ ?_
  · simp [keepE, St.keepG, St.keep, St.gc, Hp.cut, D.rnL, D.rn, cutF, Blk.rn, Blk.rnL, Tv.rnL, Own.rn, pairs, hE]
    exact ⟨rfl, rfl⟩
  · rintro seen ⟨g1, g2⟩
    repeat' (first | with_reducible (apply swq; constructor) | simp only [go_sem, seval, P7, pe7, q7, hE, zAt] | ((with_reducible apply zA5); (case he => rfl); (case hK | hc | hr | hV => first | rfl | assumption | omega | ((first | refine ⟨?_, ?_⟩ | skip) <;> first | omega | (simp only [lN] <;> omega)) | (simp [zAa, D.iV, D.cells, D.cL, D.closed]; first | done | omega))) | ((with_reducible apply zA6); (case he => rfl); (case hV | hK | hr | hl => first | rfl | assumption | omega | ((first | refine ⟨?_, ?_⟩ | skip) <;> first | omega | (simp only [lN] <;> omega)) | (simp [zAa, D.iV, D.cells, D.cL, D.closed]; first | done | omega))) | ((with_reducible apply zBb); (case he => rfl); (case hK | hc | hr => first | rfl | assumption | omega | ((first | refine ⟨?_, ?_⟩ | skip) <;> first | omega | (simp only [lN] <;> omega)) | (simp [zAa, D.iV, D.cells, D.cL, D.closed]; first | done | omega))) | ((with_reducible apply zBa); (case he => rfl); (case hK | hc | hr | hx | hn => first | rfl | assumption | omega | ((first | refine ⟨?_, ?_⟩ | skip) <;> first | omega | (simp only [lN] <;> omega)) | (simp [zAa, D.iV, D.cells, D.cL, D.closed]; first | done | omega))) | ((with_reducible apply s_bsl); (case he | hl | hc => first | rfl | assumption | omega | ((first | refine ⟨?_, ?_⟩ | skip) <;> first | omega | (simp only [lN] <;> omega)) | (simp [zAa, D.iV, D.cells, D.cL, D.closed]; first | done | omega))) | ((with_reducible first | apply s_mpu | apply s_mdl); (case h1 | hk => rfl); (case ha | hp => first | rfl | assumption)) | ((with_reducible apply zAl); (case h1 | hk => rfl); (case ha | hf => first | rfl | assumption)) | ((with_reducible apply zAm); (case h1 | hk => rfl); (case hf | ha => first | rfl | assumption)) | ((with_reducible apply zCi); (case h1 => rfl)) | with_reducible (apply cA; constructor) | ((with_reducible refine And.intro ?hw ?_); (case hw => first | omega | rfl | exact ⟨_, _, rfl⟩ | assumption | (simp only [lN] <;> omega))) | with_reducible intro _)
    refine s_nxtM rfl rfl (fun e he => ?_) (Nat.le_refl _) (fun e he hn => ?_) (fun hall => ?_)
    · obtain ⟨j, hj, rfl⟩ := hEm e he
      simp only; omega
    · obtain ⟨j, hj, rfl⟩ := hEm e he
      simp only at hn ⊢
      obtain ⟨b1, b2⟩ := hLat j hj
      have hg : (s.map ptD).getD (L[j]).2 .u0 = .agg (L[j]).1.cells := by rw [zBx b1, b2]; rfl
      have hnd : (E.map (·.2.2)).Nodup := by rw [hEb]; exact List.nodup_range
      have hmem := hEm' j hj
      have hpa := pickF_app (seen := seen) hj
      have g1' : (seen ++ [j]).Nodup := by
        rw [List.nodup_append]
        exact ⟨g1, by simp, fun a ha b hb e => by simp at hb; subst hb; subst e; exact hn ha⟩
      have g2' : ∀ i ∈ seen ++ [j], i < L.length := fun i hi => by
        rcases List.mem_append.1 hi with q | q
        · exact g2 i q
        · simp at q; subst q; exact hj
      have hls : seen.length < L.length := by
        have := zEl L.length (seen ++ [j]) g1' g2'
        simp at this; omega
      have hrn := fun β τ => zFh β τ (triF (pickF L (seen ++ [j])))
      have hrn0 := fun β τ => zFh β τ (triF (pickF L seen))
      by_cases hin : (L[j]).1.into = []
      · have hb : ((L[j]).1.into == []) = true := by simp [hin]
        rw [if_pos hin, List.append_nil] at hpa
        rw [hpa] at hrn
        repeat' (first | with_reducible (apply swq; constructor) | simp only [go_sem, seval, P7, pe7, q7, hE, zAt] | ((with_reducible apply zA5); (case he => rfl); (case hK | hc | hr | hV => first | rfl | assumption | omega | ((first | refine ⟨?_, ?_⟩ | skip) <;> first | omega | (simp only [lN] <;> omega)) | (simp [zAa, D.iV, D.cells, D.cL, D.closed]; first | done | omega))) | ((with_reducible apply zA6); (case he => rfl); (case hV | hK | hr | hl => first | rfl | assumption | omega | ((first | refine ⟨?_, ?_⟩ | skip) <;> first | omega | (simp only [lN] <;> omega)) | (simp [zAa, D.iV, D.cells, D.cL, D.closed]; first | done | omega))) | ((with_reducible apply zBb); (case he => rfl); (case hK | hc | hr => first | rfl | assumption | omega | ((first | refine ⟨?_, ?_⟩ | skip) <;> first | omega | (simp only [lN] <;> omega)) | (simp [zAa, D.iV, D.cells, D.cL, D.closed]; first | done | omega))) | ((with_reducible apply zBa); (case he => rfl); (case hK | hc | hr | hx | hn => first | rfl | assumption | omega | ((first | refine ⟨?_, ?_⟩ | skip) <;> first | omega | (simp only [lN] <;> omega)) | (simp [zAa, D.iV, D.cells, D.cL, D.closed]; first | done | omega))) | ((with_reducible apply s_bsl); (case he | hl | hc => first | rfl | assumption | omega | ((first | refine ⟨?_, ?_⟩ | skip) <;> first | omega | (simp only [lN] <;> omega)) | (simp [zAa, D.iV, D.cells, D.cL, D.closed]; first | done | omega))) | ((with_reducible first | apply s_mpu | apply s_mdl); (case h1 | hk => rfl); (case ha | hp => first | rfl | assumption)) | ((with_reducible apply zAl); (case h1 | hk => rfl); (case ha | hf => first | rfl | assumption)) | ((with_reducible apply zAm); (case h1 | hk => rfl); (case hf | ha => first | rfl | assumption)) | ((with_reducible apply zCi); (case h1 => rfl)) | with_reducible (apply cA; constructor) | ((with_reducible refine And.intro ?hw ?_); (case hw => first | omega | rfl | exact ⟨_, _, rfl⟩ | assumption | (simp only [lN] <;> omega))) | with_reducible intro _)
        refine s_ent rfl rfl hnd hmem ?_
        repeat' (first | with_reducible (apply swq; constructor) | simp only [go_sem, seval, P7, pe7, q7, hE, hlen, hg, hb, Nat.mul_one, Nat.zero_add, zAt] | ((with_reducible apply zA5); (case he => rfl); (case hK | hc | hr | hV => first | rfl | assumption | omega | ((first | refine ⟨?_, ?_⟩ | skip) <;> first | omega | (simp only [lN, hlen, hg] <;> omega)) | (simp [zAa, D.iV, D.cells, D.cL, D.closed, hlen, hg]; first | done | omega))) | ((with_reducible apply zA6); (case he => rfl); (case hV | hK | hr | hl => first | rfl | assumption | omega | ((first | refine ⟨?_, ?_⟩ | skip) <;> first | omega | (simp only [lN, hlen, hg] <;> omega)) | (simp [zAa, D.iV, D.cells, D.cL, D.closed, hlen, hg]; first | done | omega))) | ((with_reducible apply zBb); (case he => rfl); (case hK | hc | hr => first | rfl | assumption | omega | ((first | refine ⟨?_, ?_⟩ | skip) <;> first | omega | (simp only [lN, hlen, hg] <;> omega)) | (simp [zAa, D.iV, D.cells, D.cL, D.closed, hlen, hg]; first | done | omega))) | ((with_reducible apply zBa); (case he => rfl); (case hK | hc | hr | hx | hn => first | rfl | assumption | omega | ((first | refine ⟨?_, ?_⟩ | skip) <;> first | omega | (simp only [lN, hlen, hg] <;> omega)) | (simp [zAa, D.iV, D.cells, D.cL, D.closed, hlen, hg]; first | done | omega))) | ((with_reducible apply s_bsl); (case he | hl | hc => first | rfl | assumption | omega | ((first | refine ⟨?_, ?_⟩ | skip) <;> first | omega | (simp only [lN, hlen, hg] <;> omega)) | (simp [zAa, D.iV, D.cells, D.cL, D.closed, hlen, hg]; first | done | omega))) | ((with_reducible first | apply s_mpu | apply s_mdl); (case h1 | hk => rfl); (case ha | hp => first | rfl | assumption)) | ((with_reducible apply zAl); (case h1 | hk => rfl); (case ha | hf => first | rfl | assumption)) | ((with_reducible apply zAm); (case h1 | hk => rfl); (case hf | ha => first | rfl | assumption)) | ((with_reducible apply zCi); (case h1 => rfl)) | with_reducible (apply cA; constructor) | ((with_reducible refine And.intro ?hw ?_); (case hw => first | omega | rfl | exact ⟨_, _, rfl⟩ | assumption | (simp only [lN, hlen, hg] <;> omega))) | with_reducible intro _)
        all_goals try omega
        all_goals refine ⟨seen ++ [j], ⟨g1', g2'⟩, by simp; omega, ?_⟩
        all_goals simp [keepE, St.keepG, St.keep, St.gc, Hp.cut, D.rnL, D.rn, cutF, Blk.rn, Blk.rnL, Tv.rnL, Own.rn, pairs, hE, hrn, hpa]
      · have hb : ((L[j]).1.into == []) = false := by simp [hin]
        rw [if_neg hin] at hpa
        have hnew : ∀ t ∈ triF (pickF L seen), t.1 ≠ (L[j]).1.name := fun t ht e => by
          have h1 := hpn (seen ++ [j]) g1'
          rw [hpa, List.map_append, List.nodup_append] at h1
          refine h1.2.2 t.1 ?_ _ (by simp) e
          rw [← triF_name]
          exact List.mem_map_of_mem ht
        have hput := entT_put (v := (L[j]).1.into) (c := (triF (pickF L seen)).length) hnew
        have hok2 := entT_ok (triF (pickF L seen))
        have htr : triF (pickF L (seen ++ [j])) = triF (pickF L seen) ++ [((L[j]).1.name, (L[j]).1.into, (triF (pickF L seen)).length)] := by rw [hpa, triF_app, triF_len]
        rw [htr] at hrn
        repeat' (first | with_reducible (apply swq; constructor) | simp only [go_sem, seval, P7, pe7, q7, hE, zAt] | ((with_reducible apply zA5); (case he => rfl); (case hK | hc | hr | hV => first | rfl | assumption | omega | ((first | refine ⟨?_, ?_⟩ | skip) <;> first | omega | (simp only [lN] <;> omega)) | (simp [zAa, D.iV, D.cells, D.cL, D.closed]; first | done | omega))) | ((with_reducible apply zA6); (case he => rfl); (case hV | hK | hr | hl => first | rfl | assumption | omega | ((first | refine ⟨?_, ?_⟩ | skip) <;> first | omega | (simp only [lN] <;> omega)) | (simp [zAa, D.iV, D.cells, D.cL, D.closed]; first | done | omega))) | ((with_reducible apply zBb); (case he => rfl); (case hK | hc | hr => first | rfl | assumption | omega | ((first | refine ⟨?_, ?_⟩ | skip) <;> first | omega | (simp only [lN] <;> omega)) | (simp [zAa, D.iV, D.cells, D.cL, D.closed]; first | done | omega))) | ((with_reducible apply zBa); (case he => rfl); (case hK | hc | hr | hx | hn => first | rfl | assumption | omega | ((first | refine ⟨?_, ?_⟩ | skip) <;> first | omega | (simp only [lN] <;> omega)) | (simp [zAa, D.iV, D.cells, D.cL, D.closed]; first | done | omega))) | ((with_reducible apply s_bsl); (case he | hl | hc => first | rfl | assumption | omega | ((first | refine ⟨?_, ?_⟩ | skip) <;> first | omega | (simp only [lN] <;> omega)) | (simp [zAa, D.iV, D.cells, D.cL, D.closed]; first | done | omega))) | ((with_reducible first | apply s_mpu | apply s_mdl); (case h1 | hk => rfl); (case ha | hp => first | rfl | assumption)) | ((with_reducible apply zAl); (case h1 | hk => rfl); (case ha | hf => first | rfl | assumption)) | ((with_reducible apply zAm); (case h1 | hk => rfl); (case hf | ha => first | rfl | assumption)) | ((with_reducible apply zCi); (case h1 => rfl)) | with_reducible (apply cA; constructor) | ((with_reducible refine And.intro ?hw ?_); (case hw => first | omega | rfl | exact ⟨_, _, rfl⟩ | assumption | (simp only [lN] <;> omega))) | with_reducible intro _)
        refine s_ent rfl rfl hnd hmem ?_
        repeat' (first | with_reducible (apply swq; constructor) | simp only [go_sem, seval, P7, pe7, q7, hE, hlen, hg, hb, Nat.mul_one, Nat.zero_add, zAt] | ((with_reducible apply zA5); (case he => rfl); (case hK | hc | hr | hV => first | rfl | assumption | omega | ((first | refine ⟨?_, ?_⟩ | skip) <;> first | omega | (simp only [lN, hlen, hg, hok2] <;> omega)) | (simp [zAa, D.iV, D.cells, D.cL, D.closed, hlen, hg, hok2]; first | done | omega))) | ((with_reducible apply zA6); (case he => rfl); (case hV | hK | hr | hl => first | rfl | assumption | omega | ((first | refine ⟨?_, ?_⟩ | skip) <;> first | omega | (simp only [lN, hlen, hg, hok2] <;> omega)) | (simp [zAa, D.iV, D.cells, D.cL, D.closed, hlen, hg, hok2]; first | done | omega))) | ((with_reducible apply zBb); (case he => rfl); (case hK | hc | hr => first | rfl | assumption | omega | ((first | refine ⟨?_, ?_⟩ | skip) <;> first | omega | (simp only [lN, hlen, hg, hok2] <;> omega)) | (simp [zAa, D.iV, D.cells, D.cL, D.closed, hlen, hg, hok2]; first | done | omega))) | ((with_reducible apply zBa); (case he => rfl); (case hK | hc | hr | hx | hn => first | rfl | assumption | omega | ((first | refine ⟨?_, ?_⟩ | skip) <;> first | omega | (simp only [lN, hlen, hg, hok2] <;> omega)) | (simp [zAa, D.iV, D.cells, D.cL, D.closed, hlen, hg, hok2]; first | done | omega))) | ((with_reducible apply s_bsl); (case he | hl | hc => first | rfl | assumption | omega | ((first | refine ⟨?_, ?_⟩ | skip) <;> first | omega | (simp only [lN, hlen, hg, hok2] <;> omega)) | (simp [zAa, D.iV, D.cells, D.cL, D.closed, hlen, hg, hok2]; first | done | omega))) | ((with_reducible first | apply s_mpu | apply s_mdl); (case h1 | hk => rfl); (case ha | hp => first | rfl | assumption)) | ((with_reducible apply zAl); (case h1 | hk => rfl); (case ha | hf => first | rfl | assumption)) | ((with_reducible apply zAm); (case h1 | hk => rfl); (case hf | ha => first | rfl | assumption)) | ((with_reducible apply zCi); (case h1 => rfl)) | with_reducible (apply cA; constructor) | ((with_reducible refine And.intro ?hw ?_); (case hw => first | omega | rfl | exact ⟨_, _, rfl⟩ | assumption | (simp only [lN, hlen, hg, hok2] <;> omega))) | with_reducible intro _)
        all_goals try omega
        all_goals refine ⟨seen ++ [j], ⟨g1', g2'⟩, by simp; omega, ?_⟩
        all_goals simp [keepE, St.keepG, St.keep, St.gc, Hp.cut, D.rnL, D.rn, cutF, Blk.rn, Blk.rnL, Tv.rnL, Own.rn, pairs, hE, hrn, hput, htr]
    · have hfp' := hfp seen g1 g2 (fun j hj => hall _ (hEm' j hj))
      have hnm := hpn seen g1
      rw [← triF_name] at hnm
      have hbn := triF_born (pickF L seen)
      have hln := triF_len (pickF L seen)
      generalize triF (pickF L seen) = R0 at *
      have hdel := entT_del (k := part) (c := R0.length) hnm
      have hok2 := entT_ok R0
      have hrn := fun β τ => zFh β τ (R0.filter fun t => !(t.1 == part))
      repeat' (first | with_reducible (apply swq; constructor) | simp only [go_sem, seval, P7, pe7, q7, hE, zAt] | ((with_reducible apply zA5); (case he => rfl); (case hK | hc | hr | hV => first | rfl | assumption | omega | ((first | refine ⟨?_, ?_⟩ | skip) <;> first | omega | (simp only [lN, hok2] <;> omega)) | (simp [zAa, D.iV, D.cells, D.cL, D.closed, hok2]; first | done | omega))) | ((with_reducible apply zA6); (case he => rfl); (case hV | hK | hr | hl => first | rfl | assumption | omega | ((first | refine ⟨?_, ?_⟩ | skip) <;> first | omega | (simp only [lN, hok2] <;> omega)) | (simp [zAa, D.iV, D.cells, D.cL, D.closed, hok2]; first | done | omega))) | ((with_reducible apply zBb); (case he => rfl); (case hK | hc | hr => first | rfl | assumption | omega | ((first | refine ⟨?_, ?_⟩ | skip) <;> first | omega | (simp only [lN, hok2] <;> omega)) | (simp [zAa, D.iV, D.cells, D.cL, D.closed, hok2]; first | done | omega))) | ((with_reducible apply zBa); (case he => rfl); (case hK | hc | hr | hx | hn => first | rfl | assumption | omega | ((first | refine ⟨?_, ?_⟩ | skip) <;> first | omega | (simp only [lN, hok2] <;> omega)) | (simp [zAa, D.iV, D.cells, D.cL, D.closed, hok2]; first | done | omega))) | ((with_reducible apply s_bsl); (case he | hl | hc => first | rfl | assumption | omega | ((first | refine ⟨?_, ?_⟩ | skip) <;> first | omega | (simp only [lN, hok2] <;> omega)) | (simp [zAa, D.iV, D.cells, D.cL, D.closed, hok2]; first | done | omega))) | ((with_reducible first | apply s_mpu | apply s_mdl); (case h1 | hk => rfl); (case ha | hp => first | rfl | assumption)) | ((with_reducible apply zAl); (case h1 | hk => rfl); (case ha | hf => first | rfl | assumption)) | ((with_reducible apply zAm); (case h1 | hk => rfl); (case hf | ha => first | rfl | assumption)) | ((with_reducible apply zCi); (case h1 => rfl)) | with_reducible (apply cA; constructor) | ((with_reducible refine And.intro ?hw ?_); (case hw => first | omega | rfl | exact ⟨_, _, rfl⟩ | assumption | (simp only [lN, hok2] <;> omega))) | with_reducible intro _)
      rw [hdel]
      have hlt1 : ∀ t ∈ R0, t.2.2 < R0.length := fun t ht => by
        have : t.2.2 ∈ R0.map (·.2.2) := List.mem_map_of_mem ht
        rw [hbn] at this
        rw [hln]; simpa using this
      have hbnd : (R0.map (·.2.2)).Nodup := by rw [hbn]; exact List.nodup_range
      have hR0l : R0.length ≤ 12 := by
        have h1 := zEl L.length seen g1 g2
        have h2 : (pickF L seen).length ≤ seen.length := by
          unfold pickF
          exact Nat.le_trans (List.length_filter_le _ _) (List.length_filterMap_le _ _)
        omega
      refine zFn (zBu (zBk [6, 10, 11]) (zBu (zDh [3] [] ⟨by simp, by simp, by simp, by simp⟩ rfl rfl) (weak_new 10 1 (by decide) true rfl))) ?_
      simp [St.sel, Hp.sel, keepE, D.rnL, D.rn, posF, idx, Blk.rn, Blk.rnL, Tv.rnL, Own.rn, hrn]
      have hins : zAk s part = isort (bfs ((zBj s part).length + 2) (zBj s part) [part]) := by
        unfold zAk; rw [h]
      refine inside_loop (R0.filter fun t => !(t.1 == part)) R0.length part (List.Sublist.nodup (List.filter_sublist.map _) hnm) (List.Sublist.nodup (List.filter_sublist.map _) hbnd) (fun t ht => hlt1 t (List.mem_filter.1 ht).1) (Nat.le_trans (List.length_filter_le _ _) hR0l) _ (fun O R X hO hOl => ?_)
      have hfl := hfp'.length_eq
      rw [List.length_map] at hfl
      refine (fun hfin : isort O = zAk s part => ?_) ?_
      · have ht := inside_tail s part O R0.length R hfin hOl X
        simp only [List.getD_eq_getElem?_getD] at ht
        exact ⟨rfl, ht⟩
      rw [hins]
      refine isort_eq (hO.trans ?_)
      rw [hfl]
      exact bfs_perm _ hfp' (List.Perm.refl _)
end Go.Proofs.YtcchbohfcmfmlaaGreat
end
section
set_option maxRecDepth 100000
set_option linter.unusedSimpArgs false
set_option linter.unusedVariables false
namespace Go.Proofs.YtcchbohfcmfmlaaGreat
open Go GoV Go.RowKit
theorem eff_mono {M : Mod} {f : FuncId} {args : List D} {hp : Hp} {R R' : D → Hp → Prop} (h : Eff M f args hp R) (hR : ∀ d hp', R d hp' → R' d hp') : Eff M f args hp R' :=
  ⟨h.1, fun w g xs hA hh hr => Calls.mono (h.2 w g xs hA hh hr) fun e w' ⟨v, d, hp', g', e1, e2, h1, h2⟩ => ⟨v, d, hp', g', e1, hR _ _ e2, h1, h2⟩⟩
theorem zAx (s : List Pt) : D.cL (s.map ptD) = true := by
  induction s with
  | nil => rfl
  | cons x l ih => simp [D.cL, cl_P, ih]
theorem inside_r (s : List Pt) (hl : s.length ≤ 12) (part : List UInt8) : Eff M 7 [zA4 s, .str part] ⟨[], []⟩ (InsR s part) := by
  cases h : getP s part with
  | none =>
    have c := eff_of_pur (hp := ⟨[], []⟩) (args := [zA4 s, .str part]) (by simp [D.cL, D.closed]) (by
      have := inside_nil s (by omega) part h
      simpa [D.erL, D.er] using this)
    refine eff_mono c fun d hp' ⟨e1, e2⟩ => .inl ⟨?_, e1, e2⟩
    unfold zAk; rw [h]
  | some p => exact inside_e s hl part p h
abbrev kindH (s : List Pt) (day : Int) (kind : List UInt8) : List Blk := [.cells [zAy s, .int .i64 day], .cells [.str kind]]
def keepK (s : List Pt) (kind : List UInt8) (nm : List UInt8) : Bool := (find0 s nm).kind == kind
theorem del63 (s : List Pt) (hl : s.length ≤ 12) (day : Int) (kind nm : List UInt8) : Eff M 85 [.str nm, .ptr 0 0, .ptr 1 0] ⟨kindH s day kind, []⟩ fun d hp => d = .bool (!keepK s kind nm) ∧ hp = ⟨kindH s day kind, []⟩ := by
  refine k85.oe 2 0 rfl rfl rfl ?_
  rw [ie85]
  unfold c85
  have c1 := find_p s (by omega) nm
  have hcl := zAx s
  have her := erL_P s
  unfold keepK
  unfold ptD at c1
  have hp := (find0 s nm).cells
  repeat' (first | with_reducible (apply swq; constructor) | simp only [go_sem, seval, pe85, q85] | ((with_reducible refine zAb (c1) ?he ?hc ?_); (case he | hc => first | rfl | (simp [D.erL, D.er, D.cL, D.closed, hcl, her]; done))) | with_reducible (apply cA; constructor) | ((with_reducible refine And.intro ?hw ?_); (case hw => first | omega | rfl | exact ⟨_, _, rfl⟩ | assumption | (simp only [lN, hcl, her] <;> omega))) | with_reducible intro _)
  refine ⟨_, zB2 2 0 (Nat.le_refl _) (Nat.le_refl _), ?_⟩
  simp [St.gc, Hp.cut, D.rnL, D.rn, cutF, Blk.rn, Blk.rnL, Tv.rnL, Own.rn, bne]
abbrev kindN (s : List Pt) (day : Int) (kind : List UInt8) (N : List (List UInt8)) (u : Nat) : Hp := ⟨[.cells [zAy s, .int .i64 day], .cells [.str kind], .cells (strs N ++ und u)], []⟩
theorem su_get {N : List (List UInt8)} {u j : Nat} (h : j < N.length) : (strs N ++ und u).getD j .u0 = .str (N[j]) := by
  rw [strs_get h]; simp [List.getD, h]
theorem su_len (N : List (List UInt8)) (u : Nat) : (strs N ++ und u).length = N.length + u := by rw [List.length_append, zA9, und_len]
theorem if73 (s : List Pt) (hl : s.length ≤ 12) (day : Int) (kind : List UInt8) (N : List (List UInt8)) (u n cap : Nat) (hN : n = N.length) (hc : cap = n + u) (hn12 : n < 1000000) (i : Nat) (hi : i ≤ n) (hb : ∀ j (h : j < i), keepK s kind (N[j]'(by omega)) = true)
    (r : Int) (hr : (i = n ∧ r = -1) ∨ ∃ h : i < N.length, r = i ∧ keepK s kind N[i] = false) :
    Eff M 104 [.sl 2 1 0 n cap, .fn (.func 85) [] [.ptr 0 0, .ptr 1 0]] (kindN s day kind N u) fun d hp => d = .int .i64 r ∧ hp = kindN s day kind N u := by
  refine k104.oe 3 0 rfl rfl rfl ?_
  rw [ie104]
  unfold c104
  have hsl := su_len N u
  have hrn := fun β τ => rnL_su β τ N u
  repeat' (first | with_reducible (apply swq; constructor) | simp only [go_sem, seval, pe104, q104] | with_reducible (apply cA; constructor) | ((with_reducible refine And.intro ?hw ?_); (case hw => first | omega | rfl | exact ⟨_, _, rfl⟩ | assumption | (simp only [lN] <;> omega))) | with_reducible intro _)
  refine zAz [0, 1, 2, 4, 5] (fun j : Nat => ⟨[.sl 2 1 0 n cap, .fn (.func 85) [] [.ptr 0 0, .ptr 1 0], .int .i64 0, .u0, .int .i64 n, .int .i64 j, .u0, .u0], [], kindN s day kind N u⟩) (fun j => j ≤ i) (fun j => i + 1 - j) 0 (by omega) ?_ ?_
  · simp [keepE, St.keep]
  · intro j hj
    by_cases hji : j < i
    · have c1 := del63 s hl day kind (N[j]'(by omega))
      rw [hb j hji] at c1
      have hg := su_get (u := u) (show j < N.length by omega)
      repeat' (first | with_reducible (apply swq; constructor) | simp only [go_sem, seval, pe104, q104, hg, hsl, Nat.mul_one, Nat.zero_add] | simp (disch := omega) only [w64, w32, wu8, wu16, wu32, wu64] | ((with_reducible refine o_eff [0, 1] [] (c1) ?hs ?he ?hh ?_); (case hs => exact ⟨by simp, by simp, by simp, by simp⟩); (case he => first | rfl | (simp [go_sem, seval, hg, hsl, D.rnL, D.rn, posF, Hp.sel, Blk.rnL, Blk.rn, Tv.rnL, idx, hrn, Own.rn]; done)); (case hh => first | rfl | (simp [go_sem, seval, hg, hsl, D.rnL, D.rn, posF, Hp.sel, Blk.rnL, Blk.rn, Tv.rnL, idx, hrn, Own.rn]; done)); rintro _ _ ⟨rfl, rfl⟩) | with_reducible (apply cA; constructor) | ((with_reducible refine And.intro ?hw ?_); (case hw => first | omega | rfl | exact ⟨_, _, rfl⟩ | assumption | (simp only [lN, hg, hsl, D.rnL, D.rn, posF, Hp.sel, Blk.rnL, Blk.rn, Tv.rnL, idx, hrn, Own.rn] <;> omega))) | with_reducible intro _)
      all_goals try omega
      all_goals refine ⟨j + 1, by omega, by omega, ?_⟩
      all_goals simp [keepE, St.keep, Hp.back, putAt, bakF, Blk.rnL, Blk.rn, Tv.rnL, D.rnL, D.rn, Own.rn, hrn]
    · obtain rfl : j = i := by omega
      rcases hr with ⟨h1, rfl⟩ | ⟨h1, rfl, h2⟩
      · subst h1
        repeat' (first | with_reducible (apply swq; constructor) | simp only [go_sem, seval, pe104, q104] | simp (disch := omega) only [w64, w32, wu8, wu16, wu32, wu64] | with_reducible (apply cA; constructor) | ((with_reducible refine And.intro ?hw ?_); (case hw => first | omega | rfl | exact ⟨_, _, rfl⟩ | assumption | (simp only [lN] <;> omega))) | with_reducible intro _)
        all_goals try omega
        all_goals exact ⟨_, zAh, by simp⟩
      · have c1 := del63 s hl day kind N[j]
        rw [h2] at c1
        have hg := su_get (u := u) h1
        repeat' (first | with_reducible (apply swq; constructor) | simp only [go_sem, seval, pe104, q104, hg, hsl, Nat.mul_one, Nat.zero_add] | simp (disch := omega) only [w64, w32, wu8, wu16, wu32, wu64] | ((with_reducible refine o_eff [0, 1] [] (c1) ?hs ?he ?hh ?_); (case hs => exact ⟨by simp, by simp, by simp, by simp⟩); (case he => first | rfl | (simp [go_sem, seval, hg, hsl, D.rnL, D.rn, posF, Hp.sel, Blk.rnL, Blk.rn, Tv.rnL, idx, hrn, Own.rn]; done)); (case hh => first | rfl | (simp [go_sem, seval, hg, hsl, D.rnL, D.rn, posF, Hp.sel, Blk.rnL, Blk.rn, Tv.rnL, idx, hrn, Own.rn]; done)); rintro _ _ ⟨rfl, rfl⟩) | with_reducible (apply cA; constructor) | ((with_reducible refine And.intro ?hw ?_); (case hw => first | omega | rfl | exact ⟨_, _, rfl⟩ | assumption | (simp only [lN, hg, hsl, D.rnL, D.rn, posF, Hp.sel, Blk.rnL, Blk.rn, Tv.rnL, idx, hrn, Own.rn] <;> omega))) | with_reducible intro _)
        all_goals try omega
        all_goals exact ⟨_, zAh, by simp [Hp.back, putAt, bakF, Blk.rnL, Blk.rn, Tv.rnL, D.rnL, D.rn, Own.rn, hrn]⟩
theorem take_set1 {U : List (List UInt8)} {k : Nat} (x : List UInt8) (h : k < U.length) : (U.set k x).take (k + 1) = U.take k ++ [x] := by
  rw [List.take_set, List.take_succ_eq_append_getElem h, List.set_append_right _ _ (by simp; omega)]
  simp [Nat.min_eq_left (show k ≤ U.length by omega)]
theorem su_set {N : List (List UInt8)} {u j : Nat} (x : List UInt8) (h : j < N.length) : (strs N ++ und u).set j (.str x) = strs (N.set j x) ++ und u := strs_set x h
theorem zeros_strs (n : Nat) : zeros [.str []] n = strs (List.replicate n []) := by
  induction n with
  | zero => rfl
  | succ n ih => simp only [zeros, ih, strs, List.replicate_succ, List.map_cons]; rfl
theorem su_clear {U : List (List UInt8)} {u i n : Nat} (hU : U.length = n) (hi : i ≤ n) : setL (strs U ++ und u) i (zeros [.str []] (n - i)) = strs (U.take i ++ List.replicate (n - i) []) ++ und u := by
  have hz : (zeros [D.str []] (n - i)).length = n - i := by rw [zeros_strs, zA9]; simp
  rw [setL_app _ _ _ (by rw [su_len, hz]; omega), hz, zeros_strs]
  have e1 : (strs U ++ und u).take i = strs (U.take i) := by
    rw [List.take_append_of_le_length (by rw [zA9]; omega)]
    simp [strs, List.map_take]
  have e2 : (strs U ++ und u).drop (i + (n - i)) = und u := by
    rw [show i + (n - i) = (strs U).length by rw [zA9]; omega, List.drop_left]
  rw [e1, e2, strs_app]
def keptN (s : List Pt) (kind : List UInt8) (N : List (List UInt8)) : List (List UInt8) := N.filter (keepK s kind)
set_option maxHeartbeats 1000000 in
theorem del61 (s : List Pt) (hl : s.length ≤ 12) (day : Int) (kind : List UInt8) (N : List (List UInt8)) (u n cap : Nat) (hN : n = N.length) (hc : cap = n + u) (hn12 : n < 1000000) :
    Eff M 84 [.sl 2 1 0 n cap, .fn (.func 85) [] [.ptr 0 0, .ptr 1 0]] (kindN s day kind N u) fun d hp => ∃ W, (keptN s kind N).length + W = n ∧ d = .sl 2 1 0 (keptN s kind N).length cap ∧ (∃ Z : List (List UInt8), Z.length = W ∧ hp = kindN s day kind (keptN s kind N ++ Z) u) := by
  refine k84.oe 3 0 rfl rfl rfl ?_
  rw [ie84]
  unfold c84
  rcases zE0 (p := fun x => keepK s kind x = false) N with ⟨i, h, h1, h2⟩ | h
  · have hb : ∀ j (hj : j < i), keepK s kind (N[j]'(by omega)) = true := fun j hj => by simpa using h2 j hj
    have c1 := if73 s hl day kind N u n cap hN hc hn12 i (by omega) hb i (.inr ⟨h, rfl, h1⟩)
    have hi1 : ((i : Int) == -1) = false := by simp <;> omega
    have htk : (N.take (i + 1)).filter (keepK s kind) = N.take i := by
      rw [List.take_succ_eq_append_getElem h, List.filter_append]
      have e1 : (N.take i).filter (keepK s kind) = N.take i := by
        rw [List.filter_eq_self]
        intro x hx
        obtain ⟨j, hj, rfl⟩ := List.getElem_of_mem hx
        have hj' : j < i := by simp at hj; omega
        simpa using hb j hj'
      rw [e1]; simp [List.filter, h1]
    unfold kindN at c1 ⊢
    repeat' (first | with_reducible (apply swq; constructor) | simp only [go_sem, seval, pe84, q84, hi1] | simp (disch := omega) only [w64, w32, wu8, wu16, wu32, wu64] | ((with_reducible refine zBs (c1) ?he ?hh ?_); (case he => first | rfl | (simp [go_sem, seval]; done)); (case hh => first | rfl | (simp [go_sem, seval]; done))) | ((with_reducible apply s_slFF); (case hx => first | rfl | assumption | omega | ((first | refine ⟨?_, ?_⟩ | skip) <;> first | omega | (simp only [lN] <;> omega)) | (simp [zAa, D.iV, D.cells, D.cL, D.closed]; first | done | omega))) | ((with_reducible first | apply s_slTF | apply s_slFT); (case h0 | h1 | hx => first | rfl | assumption | omega | ((first | refine ⟨?_, ?_⟩ | skip) <;> first | omega | (simp only [lN] <;> omega)) | (simp [zAa, D.iV, D.cells, D.cL, D.closed]; first | done | omega))) | ((with_reducible apply s_slTT); (case h0 | h1 | h2 | hx => first | rfl | assumption | omega | ((first | refine ⟨?_, ?_⟩ | skip) <;> first | omega | (simp only [lN] <;> omega)) | (simp [zAa, D.iV, D.cells, D.cL, D.closed]; first | done | omega))) | ((with_reducible first | apply s_smTF | apply s_smFT); (case h0 | h1 | hc => first | rfl | assumption | omega | ((first | refine ⟨?_, ?_⟩ | skip) <;> first | omega | (simp only [lN] <;> omega)) | (simp [zAa, D.iV, D.cells, D.cL, D.closed]; first | done | omega))) | ((with_reducible apply s_smTT); (case h0 | h1 | h2 | hc => first | rfl | assumption | omega | ((first | refine ⟨?_, ?_⟩ | skip) <;> first | omega | (simp only [lN] <;> omega)) | (simp [zAa, D.iV, D.cells, D.cL, D.closed]; first | done | omega))) | ((with_reducible apply s_clr); (case h1 => rfl); (case h2 | h3 => first | rfl | assumption | omega | ((first | refine ⟨?_, ?_⟩ | skip) <;> first | omega | (simp only [lN] <;> omega)) | (simp [zAa, D.iV, D.cells, D.cL, D.closed]; first | done | omega))) | with_reducible (apply cA; constructor) | ((with_reducible refine And.intro ?hw ?_); (case hw => first | omega | rfl | exact ⟨_, _, rfl⟩ | assumption | (simp only [lN] <;> omega))) | with_reducible intro _)
    all_goals try omega
    refine zAz [0, 1, 3, 4] (fun p : Nat × Nat × List (List UInt8) => ⟨[.sl 2 1 0 n cap, .fn (.func 85) [] [.ptr 0 0, .ptr 1 0], .u0, .int .i64 p.2.1, .int .i64 p.1, .u0, .u0, .u0, .u0], [], ⟨[.cells [zAy s, .int .i64 day], .cells [.str kind], .cells (strs p.2.2 ++ und u)], []⟩⟩)
      (fun p => p.1 ≤ n ∧ p.2.1 < p.1 ∧ p.2.2.length = n ∧ p.2.2.take p.2.1 = (N.take p.1).filter (keepK s kind) ∧ p.2.1 = ((N.take p.1).filter (keepK s kind)).length ∧ p.2.2.drop p.1 = N.drop p.1) (fun p => n + 1 - p.1) (i + 1, i, N) ⟨by simp only; omega, by simp, hN.symm, htk.symm, by simp only [htk, List.length_take]; omega, rfl⟩ ?_ ?_
    · simp [keepE, St.keep]
    · rintro ⟨j, k, U⟩ ⟨g1, g2, g3, g4, g5, g6⟩
      simp only at g1 g2 g3 g4 g5 g6 ⊢
      have hsl := su_len U u
      have hrn := fun β τ => rnL_su β τ U u
      by_cases hj : j < n
      · have hjN : j < N.length := by omega
        have hUj : U[j]'(by omega) = N[j] := by
          have := congrArg (fun l => l[0]?) g6
          simp only [List.getElem?_drop, Nat.add_zero] at this
          rw [List.getElem?_eq_getElem (by omega), List.getElem?_eq_getElem hjN] at this
          simpa using this
        have hg := su_get (N := U) (u := u) (show j < U.length by omega)
        rw [hUj] at hg
        have c2 := del63 s hl day kind N[j]
        have hstep : N.take (j + 1) = N.take j ++ [N[j]] := List.take_succ_eq_append_getElem hjN
        have hdrop : ∀ V : List (List UInt8), V.length = n → V.drop j = N.drop j → V.drop (j + 1) = N.drop (j + 1) := fun V _ e => by
          have := congrArg (List.drop 1) e
          simpa [List.drop_drop, Nat.add_comm] using this
        cases hk : keepK s kind N[j]
        · rw [hk] at c2
          repeat' (first | with_reducible (apply swq; constructor) | simp only [go_sem, seval, pe84, q84, hg, hsl, Nat.mul_one, Nat.zero_add] | simp (disch := omega) only [w64, w32, wu8, wu16, wu32, wu64] | ((with_reducible refine o_eff [0, 1] [] (c2) ?hs ?he ?hh ?_); (case hs => exact ⟨by simp, by simp, by simp, by simp⟩); (case he => first | rfl | (simp [go_sem, seval, hg, hsl, D.rnL, D.rn, posF, Hp.sel, Blk.rnL, Blk.rn, Tv.rnL, idx, hrn, Own.rn]; done)); (case hh => first | rfl | (simp [go_sem, seval, hg, hsl, D.rnL, D.rn, posF, Hp.sel, Blk.rnL, Blk.rn, Tv.rnL, idx, hrn, Own.rn]; done)); rintro _ _ ⟨rfl, rfl⟩) | ((with_reducible apply s_slFF); (case hx => first | rfl | assumption | omega | ((first | refine ⟨?_, ?_⟩ | skip) <;> first | omega | (simp only [lN, hg, hsl, D.rnL, D.rn, posF, Hp.sel, Blk.rnL, Blk.rn, Tv.rnL, idx, hrn, Own.rn] <;> omega)) | (simp [zAa, D.iV, D.cells, D.cL, D.closed, hg, hsl, D.rnL, D.rn, posF, Hp.sel, Blk.rnL, Blk.rn, Tv.rnL, idx, hrn, Own.rn]; first | done | omega))) | ((with_reducible first | apply s_slTF | apply s_slFT); (case h0 | h1 | hx => first | rfl | assumption | omega | ((first | refine ⟨?_, ?_⟩ | skip) <;> first | omega | (simp only [lN, hg, hsl, D.rnL, D.rn, posF, Hp.sel, Blk.rnL, Blk.rn, Tv.rnL, idx, hrn, Own.rn] <;> omega)) | (simp [zAa, D.iV, D.cells, D.cL, D.closed, hg, hsl, D.rnL, D.rn, posF, Hp.sel, Blk.rnL, Blk.rn, Tv.rnL, idx, hrn, Own.rn]; first | done | omega))) | ((with_reducible apply s_slTT); (case h0 | h1 | h2 | hx => first | rfl | assumption | omega | ((first | refine ⟨?_, ?_⟩ | skip) <;> first | omega | (simp only [lN, hg, hsl, D.rnL, D.rn, posF, Hp.sel, Blk.rnL, Blk.rn, Tv.rnL, idx, hrn, Own.rn] <;> omega)) | (simp [zAa, D.iV, D.cells, D.cL, D.closed, hg, hsl, D.rnL, D.rn, posF, Hp.sel, Blk.rnL, Blk.rn, Tv.rnL, idx, hrn, Own.rn]; first | done | omega))) | ((with_reducible first | apply s_smTF | apply s_smFT); (case h0 | h1 | hc => first | rfl | assumption | omega | ((first | refine ⟨?_, ?_⟩ | skip) <;> first | omega | (simp only [lN, hg, hsl, D.rnL, D.rn, posF, Hp.sel, Blk.rnL, Blk.rn, Tv.rnL, idx, hrn, Own.rn] <;> omega)) | (simp [zAa, D.iV, D.cells, D.cL, D.closed, hg, hsl, D.rnL, D.rn, posF, Hp.sel, Blk.rnL, Blk.rn, Tv.rnL, idx, hrn, Own.rn]; first | done | omega))) | ((with_reducible apply s_smTT); (case h0 | h1 | h2 | hc => first | rfl | assumption | omega | ((first | refine ⟨?_, ?_⟩ | skip) <;> first | omega | (simp only [lN, hg, hsl, D.rnL, D.rn, posF, Hp.sel, Blk.rnL, Blk.rn, Tv.rnL, idx, hrn, Own.rn] <;> omega)) | (simp [zAa, D.iV, D.cells, D.cL, D.closed, hg, hsl, D.rnL, D.rn, posF, Hp.sel, Blk.rnL, Blk.rn, Tv.rnL, idx, hrn, Own.rn]; first | done | omega))) | ((with_reducible apply s_clr); (case h1 => rfl); (case h2 | h3 => first | rfl | assumption | omega | ((first | refine ⟨?_, ?_⟩ | skip) <;> first | omega | (simp only [lN, hg, hsl, D.rnL, D.rn, posF, Hp.sel, Blk.rnL, Blk.rn, Tv.rnL, idx, hrn, Own.rn] <;> omega)) | (simp [zAa, D.iV, D.cells, D.cL, D.closed, hg, hsl, D.rnL, D.rn, posF, Hp.sel, Blk.rnL, Blk.rn, Tv.rnL, idx, hrn, Own.rn]; first | done | omega))) | with_reducible (apply cA; constructor) | ((with_reducible refine And.intro ?hw ?_); (case hw => first | omega | rfl | exact ⟨_, _, rfl⟩ | assumption | (simp only [lN, hg, hsl, D.rnL, D.rn, posF, Hp.sel, Blk.rnL, Blk.rn, Tv.rnL, idx, hrn, Own.rn] <;> omega))) | with_reducible intro _)
          all_goals try omega
          all_goals refine ⟨(j + 1, k, U), ⟨by simp only; omega, by simp only; omega, g3, ?_, ?_, hdrop U g3 g6⟩, by simp only; omega, ?_⟩
          · simp only [hstep, List.filter_append]; rw [← g4]; simp [List.filter, hk]
          · simp only [hstep, List.filter_append]; rw [List.length_append, ← g5]; simp [List.filter, hk]
          · simp [keepE, St.keep, Hp.back, putAt, bakF, Blk.rnL, Blk.rn, Tv.rnL, D.rnL, D.rn, Own.rn, hrn]
        · rw [hk] at c2
          have hset := su_set (N := U) (u := u) (j := k) N[j] (by omega)
          repeat' (first | with_reducible (apply swq; constructor) | simp only [go_sem, seval, pe84, q84, hg, hsl, hset, Nat.mul_one, Nat.zero_add] | simp (disch := omega) only [w64, w32, wu8, wu16, wu32, wu64] | ((with_reducible refine o_eff [0, 1] [] (c2) ?hs ?he ?hh ?_); (case hs => exact ⟨by simp, by simp, by simp, by simp⟩); (case he => first | rfl | (simp [go_sem, seval, hg, hsl, D.rnL, D.rn, posF, Hp.sel, Blk.rnL, Blk.rn, Tv.rnL, idx, hrn, Own.rn]; done)); (case hh => first | rfl | (simp [go_sem, seval, hg, hsl, D.rnL, D.rn, posF, Hp.sel, Blk.rnL, Blk.rn, Tv.rnL, idx, hrn, Own.rn]; done)); rintro _ _ ⟨rfl, rfl⟩) | ((with_reducible apply s_slFF); (case hx => first | rfl | assumption | omega | ((first | refine ⟨?_, ?_⟩ | skip) <;> first | omega | (simp only [lN, hg, hsl, D.rnL, D.rn, posF, Hp.sel, Blk.rnL, Blk.rn, Tv.rnL, idx, hrn, Own.rn] <;> omega)) | (simp [zAa, D.iV, D.cells, D.cL, D.closed, hg, hsl, D.rnL, D.rn, posF, Hp.sel, Blk.rnL, Blk.rn, Tv.rnL, idx, hrn, Own.rn]; first | done | omega))) | ((with_reducible first | apply s_slTF | apply s_slFT); (case h0 | h1 | hx => first | rfl | assumption | omega | ((first | refine ⟨?_, ?_⟩ | skip) <;> first | omega | (simp only [lN, hg, hsl, D.rnL, D.rn, posF, Hp.sel, Blk.rnL, Blk.rn, Tv.rnL, idx, hrn, Own.rn] <;> omega)) | (simp [zAa, D.iV, D.cells, D.cL, D.closed, hg, hsl, D.rnL, D.rn, posF, Hp.sel, Blk.rnL, Blk.rn, Tv.rnL, idx, hrn, Own.rn]; first | done | omega))) | ((with_reducible apply s_slTT); (case h0 | h1 | h2 | hx => first | rfl | assumption | omega | ((first | refine ⟨?_, ?_⟩ | skip) <;> first | omega | (simp only [lN, hg, hsl, D.rnL, D.rn, posF, Hp.sel, Blk.rnL, Blk.rn, Tv.rnL, idx, hrn, Own.rn] <;> omega)) | (simp [zAa, D.iV, D.cells, D.cL, D.closed, hg, hsl, D.rnL, D.rn, posF, Hp.sel, Blk.rnL, Blk.rn, Tv.rnL, idx, hrn, Own.rn]; first | done | omega))) | ((with_reducible first | apply s_smTF | apply s_smFT); (case h0 | h1 | hc => first | rfl | assumption | omega | ((first | refine ⟨?_, ?_⟩ | skip) <;> first | omega | (simp only [lN, hg, hsl, D.rnL, D.rn, posF, Hp.sel, Blk.rnL, Blk.rn, Tv.rnL, idx, hrn, Own.rn] <;> omega)) | (simp [zAa, D.iV, D.cells, D.cL, D.closed, hg, hsl, D.rnL, D.rn, posF, Hp.sel, Blk.rnL, Blk.rn, Tv.rnL, idx, hrn, Own.rn]; first | done | omega))) | ((with_reducible apply s_smTT); (case h0 | h1 | h2 | hc => first | rfl | assumption | omega | ((first | refine ⟨?_, ?_⟩ | skip) <;> first | omega | (simp only [lN, hg, hsl, D.rnL, D.rn, posF, Hp.sel, Blk.rnL, Blk.rn, Tv.rnL, idx, hrn, Own.rn] <;> omega)) | (simp [zAa, D.iV, D.cells, D.cL, D.closed, hg, hsl, D.rnL, D.rn, posF, Hp.sel, Blk.rnL, Blk.rn, Tv.rnL, idx, hrn, Own.rn]; first | done | omega))) | ((with_reducible apply s_clr); (case h1 => rfl); (case h2 | h3 => first | rfl | assumption | omega | ((first | refine ⟨?_, ?_⟩ | skip) <;> first | omega | (simp only [lN, hg, hsl, D.rnL, D.rn, posF, Hp.sel, Blk.rnL, Blk.rn, Tv.rnL, idx, hrn, Own.rn] <;> omega)) | (simp [zAa, D.iV, D.cells, D.cL, D.closed, hg, hsl, D.rnL, D.rn, posF, Hp.sel, Blk.rnL, Blk.rn, Tv.rnL, idx, hrn, Own.rn]; first | done | omega))) | with_reducible (apply cA; constructor) | ((with_reducible refine And.intro ?hw ?_); (case hw => first | omega | rfl | exact ⟨_, _, rfl⟩ | assumption | (simp only [lN, hg, hsl, D.rnL, D.rn, posF, Hp.sel, Blk.rnL, Blk.rn, Tv.rnL, idx, hrn, Own.rn] <;> omega))) | with_reducible intro _)
          all_goals try omega
          have hrn2 := fun β τ => rnL_su β τ (U.set k N[j]) u
          refine ⟨(j + 1, k + 1, U.set k N[j]), ⟨by simp only; omega, by simp only; omega, by simp [g3], ?_, ?_, hdrop _ (by simp [g3]) ?_⟩, by simp only; omega, ?_⟩
          · simp only [hstep, List.filter_append]
            rw [take_set1 _ (by omega), g4]
            simp [List.filter, hk]
          · simp only [hstep, List.filter_append]
            rw [List.length_append, ← g5]; simp [List.filter, hk]
          · rw [List.drop_set_of_lt (by omega)]; exact g6
          · simp [keepE, St.keep, Hp.back, putAt, bakF, Blk.rnL, Blk.rn, Tv.rnL, D.rnL, D.rn, Own.rn, hrn, hrn2, hset, setL]
      · have hjn : j = n := by omega
        subst hjn
        have hclr := su_clear (u := u) g3 (show k ≤ j by omega)
        have hNt : N.take j = N := List.take_of_length_le (by omega)
        rw [hNt] at g4 g5
        repeat' (first | with_reducible (apply swq; constructor) | simp only [go_sem, seval, pe84, q84, hsl, hclr, Nat.mul_one, Nat.zero_add] | simp (disch := omega) only [w64, w32, wu8, wu16, wu32, wu64] | ((with_reducible apply s_slFF); (case hx => first | rfl | assumption | omega | ((first | refine ⟨?_, ?_⟩ | skip) <;> first | omega | (simp only [lN, hsl] <;> omega)) | (simp [zAa, D.iV, D.cells, D.cL, D.closed, hsl]; first | done | omega))) | ((with_reducible first | apply s_slTF | apply s_slFT); (case h0 | h1 | hx => first | rfl | assumption | omega | ((first | refine ⟨?_, ?_⟩ | skip) <;> first | omega | (simp only [lN, hsl] <;> omega)) | (simp [zAa, D.iV, D.cells, D.cL, D.closed, hsl]; first | done | omega))) | ((with_reducible apply s_slTT); (case h0 | h1 | h2 | hx => first | rfl | assumption | omega | ((first | refine ⟨?_, ?_⟩ | skip) <;> first | omega | (simp only [lN, hsl] <;> omega)) | (simp [zAa, D.iV, D.cells, D.cL, D.closed, hsl]; first | done | omega))) | ((with_reducible first | apply s_smTF | apply s_smFT); (case h0 | h1 | hc => first | rfl | assumption | omega | ((first | refine ⟨?_, ?_⟩ | skip) <;> first | omega | (simp only [lN, hsl] <;> omega)) | (simp [zAa, D.iV, D.cells, D.cL, D.closed, hsl]; first | done | omega))) | ((with_reducible apply s_smTT); (case h0 | h1 | h2 | hc => first | rfl | assumption | omega | ((first | refine ⟨?_, ?_⟩ | skip) <;> first | omega | (simp only [lN, hsl] <;> omega)) | (simp [zAa, D.iV, D.cells, D.cL, D.closed, hsl]; first | done | omega))) | ((with_reducible apply s_clr); (case h1 => rfl); (case h2 | h3 => first | rfl | assumption | omega | ((first | refine ⟨?_, ?_⟩ | skip) <;> first | omega | (simp only [lN, hsl] <;> omega)) | (simp [zAa, D.iV, D.cells, D.cL, D.closed, hsl]; first | done | omega))) | with_reducible (apply cA; constructor) | ((with_reducible refine And.intro ?hw ?_); (case hw => first | omega | rfl | exact ⟨_, _, rfl⟩ | assumption | (simp only [lN, hsl] <;> omega))) | with_reducible intro _)
        all_goals try omega
        refine ⟨_, zAh, j - k, by unfold keptN; omega, by simp [keptN, g5], List.replicate (j - k) [], by simp, ?_⟩
        simp only [g4, keptN]
  · have hb : ∀ j (hj : j < n), keepK s kind (N[j]'(by omega)) = true := fun j hj => by simpa using h j (by omega)
    have c1 := if73 s hl day kind N u n cap hN hc hn12 n (Nat.le_refl _) hb (-1) (.inl ⟨rfl, rfl⟩)
    have hall : keptN s kind N = N := by
      unfold keptN
      rw [List.filter_eq_self]
      intro x hx
      obtain ⟨j, hj, rfl⟩ := List.getElem_of_mem hx
      exact hb j (by omega)
    rw [hall]
    unfold kindN at c1 ⊢
    repeat' (first | with_reducible (apply swq; constructor) | simp only [go_sem, seval, pe84, q84] | simp (disch := omega) only [w64, w32, wu8, wu16, wu32, wu64] | ((with_reducible refine zBs (c1) ?he ?hh ?_); (case he => first | rfl | (simp [go_sem, seval]; done)); (case hh => first | rfl | (simp [go_sem, seval]; done))) | ((with_reducible apply s_slFF); (case hx => first | rfl | assumption | omega | ((first | refine ⟨?_, ?_⟩ | skip) <;> first | omega | (simp only [lN] <;> omega)) | (simp [zAa, D.iV, D.cells, D.cL, D.closed]; first | done | omega))) | ((with_reducible first | apply s_slTF | apply s_slFT); (case h0 | h1 | hx => first | rfl | assumption | omega | ((first | refine ⟨?_, ?_⟩ | skip) <;> first | omega | (simp only [lN] <;> omega)) | (simp [zAa, D.iV, D.cells, D.cL, D.closed]; first | done | omega))) | ((with_reducible apply s_slTT); (case h0 | h1 | h2 | hx => first | rfl | assumption | omega | ((first | refine ⟨?_, ?_⟩ | skip) <;> first | omega | (simp only [lN] <;> omega)) | (simp [zAa, D.iV, D.cells, D.cL, D.closed]; first | done | omega))) | ((with_reducible first | apply s_smTF | apply s_smFT); (case h0 | h1 | hc => first | rfl | assumption | omega | ((first | refine ⟨?_, ?_⟩ | skip) <;> first | omega | (simp only [lN] <;> omega)) | (simp [zAa, D.iV, D.cells, D.cL, D.closed]; first | done | omega))) | ((with_reducible apply s_smTT); (case h0 | h1 | h2 | hc => first | rfl | assumption | omega | ((first | refine ⟨?_, ?_⟩ | skip) <;> first | omega | (simp only [lN] <;> omega)) | (simp [zAa, D.iV, D.cells, D.cL, D.closed]; first | done | omega))) | ((with_reducible apply s_clr); (case h1 => rfl); (case h2 | h3 => first | rfl | assumption | omega | ((first | refine ⟨?_, ?_⟩ | skip) <;> first | omega | (simp only [lN] <;> omega)) | (simp [zAa, D.iV, D.cells, D.cL, D.closed]; first | done | omega))) | with_reducible (apply cA; constructor) | ((with_reducible refine And.intro ?hw ?_); (case hw => first | omega | rfl | exact ⟨_, _, rfl⟩ | assumption | (simp only [lN] <;> omega))) | with_reducible intro _)
    refine ⟨_, zAh, 0, by omega, by simp [hN], [], rfl, by simp⟩
theorem if73_e (f : FuncId) (a c : List D) (hp : Hp) : Eff M 104 [.slice [] .no, .fn (.func f) a c] hp fun d hp' => d = .int .i64 (-1) ∧ hp' = hp := by
  refine k104.oe hp.H.length hp.tk.length rfl rfl rfl ?_
  rw [ie104]
  unfold c104
  repeat' (first | with_reducible (apply swq; constructor) | simp only [go_sem, seval, pe104, q104] | with_reducible (apply cA; constructor) | ((with_reducible refine And.intro ?hw ?_); (case hw => first | omega | rfl | exact ⟨_, _, rfl⟩ | assumption | (simp only [lN] <;> omega))) | with_reducible intro _)
  refine zAz [0, 1, 2, 4, 5] (fun _ : Unit => ⟨[.slice [] .no, .fn (.func f) a c, .int .i64 0, .u0, .int .i64 0, .int .i64 0, .u0, .u0], [], hp⟩) (fun _ => True) (fun _ => 0) () trivial ?_ ?_
  · simp [keepE, St.keep]
  · intro _ _
    repeat' (first | with_reducible (apply swq; constructor) | simp only [go_sem, seval, pe104, q104] | simp (disch := omega) only [w64, w32, wu8, wu16, wu32, wu64] | with_reducible (apply cA; constructor) | ((with_reducible refine And.intro ?hw ?_); (case hw => first | omega | rfl | exact ⟨_, _, rfl⟩ | assumption | (simp only [lN] <;> omega))) | with_reducible intro _)
    all_goals first | omega | exact ⟨_, zAh, by simp⟩
theorem del61_e (f : FuncId) (a c : List D) (hp : Hp) : Eff M 84 [.slice [] .no, .fn (.func f) a c] hp fun d hp' => d = .slice [] .no ∧ hp' = hp := by
  refine k84.oe hp.H.length hp.tk.length rfl rfl rfl ?_
  rw [ie84]
  unfold c84
  have c1 := if73_e f a c hp
  repeat' (first | with_reducible (apply swq; constructor) | simp only [go_sem, seval, pe84, q84] | simp (disch := omega) only [w64, w32, wu8, wu16, wu32, wu64] | ((with_reducible refine zBs (c1) ?he ?hh ?_); (case he => first | rfl | (simp [go_sem, seval]; done)); (case hh => first | rfl | (simp [go_sem, seval]; done))) | ((with_reducible apply s_slFF); (case hx => first | rfl | assumption | omega | ((first | refine ⟨?_, ?_⟩ | skip) <;> first | omega | (simp only [lN] <;> omega)) | (simp [zAa, D.iV, D.cells, D.cL, D.closed]; first | done | omega))) | ((with_reducible first | apply s_slTF | apply s_slFT); (case h0 | h1 | hx => first | rfl | assumption | omega | ((first | refine ⟨?_, ?_⟩ | skip) <;> first | omega | (simp only [lN] <;> omega)) | (simp [zAa, D.iV, D.cells, D.cL, D.closed]; first | done | omega))) | ((with_reducible apply s_slTT); (case h0 | h1 | h2 | hx => first | rfl | assumption | omega | ((first | refine ⟨?_, ?_⟩ | skip) <;> first | omega | (simp only [lN] <;> omega)) | (simp [zAa, D.iV, D.cells, D.cL, D.closed]; first | done | omega))) | ((with_reducible first | apply s_smTF | apply s_smFT); (case h0 | h1 | hc => first | rfl | assumption | omega | ((first | refine ⟨?_, ?_⟩ | skip) <;> first | omega | (simp only [lN] <;> omega)) | (simp [zAa, D.iV, D.cells, D.cL, D.closed]; first | done | omega))) | ((with_reducible apply s_smTT); (case h0 | h1 | h2 | hc => first | rfl | assumption | omega | ((first | refine ⟨?_, ?_⟩ | skip) <;> first | omega | (simp only [lN] <;> omega)) | (simp [zAa, D.iV, D.cells, D.cL, D.closed]; first | done | omega))) | ((with_reducible apply s_clr); (case h1 => rfl); (case h2 | h3 => first | rfl | assumption | omega | ((first | refine ⟨?_, ?_⟩ | skip) <;> first | omega | (simp only [lN] <;> omega)) | (simp [zAa, D.iV, D.cells, D.cL, D.closed]; first | done | omega))) | with_reducible (apply cA; constructor) | ((with_reducible refine And.intro ?hw ?_); (case hw => first | omega | rfl | exact ⟨_, _, rfl⟩ | assumption | (simp only [lN] <;> omega))) | with_reducible intro _)
  all_goals first | omega | exact ⟨_, zAh, by simp⟩
theorem chunk_su : ∀ (K : List (List UInt8)) (r : List D), chunk 1 K.length (strs K ++ r) = strs K
  | [], r => rfl
  | x :: K, r => by
    have := chunk_su K r
    simp only [strs, List.map_cons, List.length_cons, chunk, List.cons_append, List.drop_succ_cons, List.drop_zero] at this ⊢
    rw [this]; rfl
theorem kinds_eq (s : List Pt) (part kind : List UInt8) : keptN s kind (zAk s part) = zAq s part kind := rfl
theorem cl_und (n : Nat) : D.cL (und n) = true := by
  unfold und
  induction n with
  | zero => rfl
  | succ n ih => simp [List.replicate_succ, D.cL, D.closed, ih]
theorem zFk : ∀ (a b : List D), D.cL a = true → D.cL b = true → D.cL (a ++ b) = true
  | [], b, _, h => h
  | x :: a, b, h1, h2 => by
    simp only [D.cL, Bool.and_eq_true, List.cons_append] at h1 ⊢
    exact ⟨h1.1, zFk a b h1.2 h2⟩
theorem er_und (n : Nat) : D.erL (und n) = und n := by
  unfold und
  induction n with
  | zero => rfl
  | succ n ih => simp [List.replicate_succ, D.erL, D.er, ih]
theorem erL_app : ∀ (a b : List D), D.erL (a ++ b) = D.erL a ++ D.erL b
  | [], b => rfl
  | x :: a, b => by simp [D.erL, erL_app a b]
theorem bfs_len : ∀ (k : Nat) (r : List (Tx × Tx)) (l : List Tx), (bfs k r l).length ≤ r.length
  | 0, r, l => by simp [bfs]
  | k + 1, r, l => by
    simp only [bfs]
    split
    · simp
    · have h1 := bfs_len k (r.filter fun x => !l.contains x.2) ((r.filter fun x => l.contains x.2).map (·.1))
      have h2 := zE1 (fun x : Tx × Tx => l.contains x.2) r
      rw [List.length_append, List.length_map]
      omega
theorem fitted_len (s : List Pt) (part : List UInt8) : (zBj s part).length ≤ s.length := by
  unfold zBj
  rw [List.length_map]
  refine Nat.le_trans (List.length_filter_le _ _) ?_
  rw [← zDf s [] 0, List.length_map]
  exact firstsI_len s
theorem inside_le (s : List Pt) (part : List UInt8) : (zAk s part).length ≤ s.length := by
  unfold zAk
  cases getP s part with
  | none => simp
  | some p =>
    simp only
    rw [(zCd _).length_eq]
    exact Nat.le_trans (bfs_len _ _ _) (fitted_len s part)
theorem zC6 {s : List Pt} (hl : s.length ≤ 12) (part : List UInt8) : (zAk s part).length < 1000000 := by
  have := inside_le s part; omega
theorem o_sameR {P : Mod} {f : FuncId} {first cap args ds : List D} {hp0 : Hp} {R : D → Hp → Prop} {dst : Dst} {r : List RO} {K : St → Prop} {s : St} (h : Eff P f args hp0 R) (he : first ++ ds ++ cap = args) (hh : s.hp = hp0)
    (hk : ∀ d hp1, R d hp1 → opsWp P r K ({ s with hp := hp1 }.put dst d)) : OpS P .call (.fn (.func f) first cap :: ds) dst r K s := by
  unfold OpS OcWp
  simp only [zAc, if_true]
  subst he; subst hh
  exact call_same h hk
set_option maxHeartbeats 1000000 in
theorem kinds_p (s : List Pt) (hl : s.length ≤ 12) (day : Int) (part kind : List UInt8) : Pur M 55 [.agg [zAy s, .int .i64 day], .str part, .str kind] (.slice (strs (zAq s part kind)) .no) := by
  refine k55.ow (C := C55) rfl rfl ?_
  rw [i55]
  unfold c55
  have c1 := inside_r s hl part
  have hcl := zAx s
  have her := erL_P s
  repeat' (first | with_reducible (apply swq; constructor) | simp only [go_sem, seval, P55, q55] | with_reducible (apply cA; constructor) | ((with_reducible refine And.intro ?hw ?_); (case hw => first | omega | rfl | exact ⟨_, _, rfl⟩ | assumption | (simp only [lN] <;> omega))) | with_reducible intro _)
  refine o_eff [] [] c1 ⟨by simp, by simp, by simp, by simp⟩ (by simp [D.rnL, D.rn, Own.rn]) rfl (fun d hp1 hR => ?_)
  rcases hR with ⟨h1, rfl, rfl⟩ | ⟨cap, h1, h2, rfl, rfl⟩
  · have c2 := del61_e 85 [] [.ptr 0 0, .ptr 1 0] ⟨kindH s day kind, []⟩
    have hk : zAq s part kind = [] := by rw [← kinds_eq, h1]; rfl
    rw [hk]
    repeat' (first | with_reducible (apply swq; constructor) | simp only [go_sem, seval, P55, q55] | ((with_reducible refine zBs (c2) ?he ?hh ?_); (case he => first | rfl | (simp [go_sem, seval, Hp.back, putAt, bakF, Blk.rnL, Tv.rnL, D.rn, Own.rn]; done)); (case hh => first | rfl | (simp [go_sem, seval, Hp.back, putAt, bakF, Blk.rnL, Tv.rnL, D.rn, Own.rn]; done))) | with_reducible (apply cA; constructor) | ((with_reducible refine And.intro ?hw ?_); (case hw => first | omega | rfl | exact ⟨_, _, rfl⟩ | assumption | (simp only [lN, Hp.back, putAt, bakF, Blk.rnL, Tv.rnL, D.rn, Own.rn] <;> omega))) | with_reducible intro _)
    all_goals refine ⟨_, zAh, ?_⟩
    all_goals simp [D.closed, D.er, D.erL, strs]
  · have c2 := del61 s hl day kind (zAk s part) (cap - (zAk s part).length) (zAk s part).length cap rfl (by omega) (zC6 hl part)
    have hrn := fun β τ => rnL_su β τ (zAk s part) (cap - (zAk s part).length)
    rw [← kinds_eq]
    generalize zAk s part = N at *
    repeat' (first | with_reducible (apply swq; constructor) | simp only [go_sem, seval, P55, q55, Hp.back, putAt, bakF, Blk.rnL, Blk.rn, Tv.rnL, D.rn, Own.rn, hrn] | with_reducible (apply cA; constructor) | ((with_reducible refine And.intro ?hw ?_); (case hw => first | omega | rfl | exact ⟨_, _, rfl⟩ | assumption | (simp only [lN, Hp.back, putAt, bakF, Blk.rnL, Tv.rnL, D.rn, Own.rn, hrn] <;> omega))) | with_reducible intro _)
    refine o_sameR c2 (by simp [bakF]) (by simp [Hp.back, putAt, bakF, Blk.rnL, Blk.rn, Tv.rnL, hrn]) (fun d hp1 hR => ?_)
    obtain ⟨W, hW, rfl, Z, hZ, rfl⟩ := hR
    have hcs := zDg (keptN s kind N ++ Z)
    have hes := zDr (keptN s kind N ++ Z)
    have hck := zDg (keptN s kind N)
    have hek := zDr (keptN s kind N)
    have hcc := zFk _ _ hcs (cl_und (cap - N.length))
    have hch : chunk 1 (keptN s kind N).length (strs (keptN s kind N ++ Z) ++ und (cap - N.length)) = strs (keptN s kind N) := by
      rw [← strs_app, List.append_assoc]; exact chunk_su _ _
    have hel := elems_strs (keptN s kind N)
    have hll : (strs (keptN s kind N ++ Z) ++ und (cap - N.length)).length = cap := by rw [su_len]; simp; omega
    repeat' (first | with_reducible (apply swq; constructor) | simp only [go_sem, seval, P55, q55] | with_reducible (apply cA; constructor) | ((with_reducible refine And.intro ?hw ?_); (case hw => first | omega | rfl | exact ⟨_, _, rfl⟩ | assumption | (simp only [lN] <;> omega))) | with_reducible intro _)
    refine ⟨_, zBu (zBk [5]) (weak_frz 2 (strs (keptN s kind N ++ Z) ++ und (cap - N.length)) rfl (Nat.zero_le _) hcc), ?_⟩
    have he2 : D.erL (strs (keptN s kind N ++ Z) ++ und (cap - N.length)) = strs (keptN s kind N ++ Z) ++ und (cap - N.length) := by rw [erL_app, hes, er_und]
    rw [he2]
    have hle : (keptN s kind N).length ≤ cap := by omega
    simp only [St.frz, keepE, D.fz, hch, hel, hll]
    simp [D.fz, hch, hel, hll, hle, D.closed, D.er, hck, hek]
end Go.Proofs.YtcchbohfcmfmlaaGreat
end
section
set_option maxRecDepth 100000
set_option linter.unusedSimpArgs false
set_option linter.unusedVariables false
namespace Go.Proofs.YtcchbohfcmfmlaaGreat
open Go GoV Go.RowKit
theorem since_p (day frm : Int) (h1 : 0 ≤ day) (h2 : day ≤ 40000) (h3 : -9223372036854775808 ≤ frm) : Pur M 98 [.int .i64 day, .int .i64 frm] (ivD (zEe day frm)) := by
  refine k98.ok (C := C98) rfl rfl ?_
  rw [i98]
  unfold c98
  have e : zEe day frm = if frm ≥ day then (0, 0) else (day - (if day - 1000000000000 > frm then day - 1000000000000 else frm), day - (if day - 1000000000000 > frm then day - 1000000000000 else frm)) := rfl
  rw [e]
  by_cases h : frm ≥ day
  · have hd : decide (day ≤ frm) = true := decide_eq_true h
    rw [if_pos h]
    repeat' (first | with_reducible (apply swq; constructor) | simp only [go_sem, seval, P98, q98, foldI, hd, fillL] | simp (disch := omega) only [w64, w32, wu8, wu16, wu32, wu64] | with_reducible (apply cA; constructor) | ((with_reducible refine And.intro ?hw ?_); (case hw => first | omega | rfl | exact ⟨_, _, rfl⟩ | assumption | (simp only [lN] <;> omega))) | with_reducible intro _)
    all_goals first | omega | (simp_all [D.closed, D.er, D.cL, D.erL, setL]; done) | (simp_all [D.closed, D.er, D.cL, D.erL, setL] <;> omega)
  · have hd : decide (day ≤ frm) = false := decide_eq_false h
    rw [if_neg h]
    have hw : IntKind.i64.wrap (day - 1000000000000) = day - 1000000000000 := w64 (by omega) (by omega)
    have hm : day - (if day - 1000000000000 > frm then day - 1000000000000 else frm) ≤ 1000000000000 ∧ 0 ≤ day - (if day - 1000000000000 > frm then day - 1000000000000 else frm) := by split <;> omega
    generalize hg : (if day - 1000000000000 > frm then day - 1000000000000 else frm) = mx at *
    have hg' : (if frm < day - 1000000000000 then day - 1000000000000 else frm) = mx := hg
    repeat' (first | with_reducible (apply swq; constructor) | simp only [go_sem, seval, P98, q98, foldI, hd, hw, hg, hg', fillL] | simp (disch := omega) only [w64, w32, wu8, wu16, wu32, wu64] | with_reducible (apply cA; constructor) | ((with_reducible refine And.intro ?hw ?_); (case hw => first | omega | rfl | exact ⟨_, _, rfl⟩ | assumption | (simp only [lN] <;> omega))) | with_reducible intro _)
    all_goals first | omega | (simp_all [D.closed, D.er, D.cL, D.erL, setL]; done) | (simp_all [D.closed, D.er, D.cL, D.erL, setL] <;> omega)
theorem km_p (p : Pt) (day : Int) : Pur M 99 [ptD p, .int .i64 day] (ivD p.km) := by
  refine k99.ok (C := C99) rfl rfl ?_
  rw [i99]
  unfold c99
  unfold ptD
  repeat' (first | with_reducible (apply swq; constructor) | simp only [go_sem, seval, P99, q99] | with_reducible (apply cA; constructor) | ((with_reducible refine And.intro ?hw ?_); (case hw => first | omega | rfl | exact ⟨_, _, rfl⟩ | assumption | (simp only [lN] <;> omega))) | with_reducible intro _)
  all_goals first | omega | (simp_all [D.closed, D.er, D.cL, D.erL, setL]; done) | (simp_all [D.closed, D.er, D.cL, D.erL, setL] <;> omega)
theorem cy_p (p : Pt) (day : Int) : Pur M 100 [ptD p, .int .i64 day] (ivD p.cy) := by
  refine k100.ok (C := C100) rfl rfl ?_
  rw [i100]
  unfold c100
  unfold ptD
  repeat' (first | with_reducible (apply swq; constructor) | simp only [go_sem, seval, P100, q100] | with_reducible (apply cA; constructor) | ((with_reducible refine And.intro ?hw ?_); (case hw => first | omega | rfl | exact ⟨_, _, rfl⟩ | assumption | (simp only [lN] <;> omega))) | with_reducible intro _)
  all_goals first | omega | (simp_all [D.closed, D.er, D.cL, D.erL, setL]; done) | (simp_all [D.closed, D.er, D.cL, D.erL, setL] <;> omega)
theorem dm_p (p : Pt) (day : Int) : Pur M 101 [ptD p, .int .i64 day] (ivD p.dm) := by
  refine k101.ok (C := C101) rfl rfl ?_
  rw [i101]
  unfold c101
  unfold ptD
  repeat' (first | with_reducible (apply swq; constructor) | simp only [go_sem, seval, P101, q101] | with_reducible (apply cA; constructor) | ((with_reducible refine And.intro ?hw ?_); (case hw => first | omega | rfl | exact ⟨_, _, rfl⟩ | assumption | (simp only [lN] <;> omega))) | with_reducible intro _)
  all_goals first | omega | (simp_all [D.closed, D.er, D.cL, D.erL, setL]; done) | (simp_all [D.closed, D.er, D.cL, D.erL, setL] <;> omega)
abbrev fnH : Hp := ⟨[.cells [.fn (.func 98) [] []]], []⟩
theorem days_p (p : Pt) (day : Int) (h1 : 0 ≤ day) (h2 : day ≤ 40000) (h3 : -9223372036854775808 ≤ p.since) : Eff M 102 [ptD p, .int .i64 day, .ptr 0 0] fnH fun d hp => d = ivD (zEe day p.since) ∧ hp = fnH := by
  have c1 := since_p day p.since h1 h2 h3
  generalize zEe day p.since = v at *
  refine eff_cut 1 0 (hp1 := ⟨[.cells [.fn (.func 98) [] []], .cells [.int .i64 v.1, .int .i64 v.2]], []⟩) (d0 := ivD v) (k102.oe 1 0 rfl rfl rfl ?_) (Nat.le_refl 1) (Nat.zero_le 0) (by simp [D.rn, D.rnL]) (by simp [Hp.cut, Blk.rnL, Blk.rn, Tv.rnL, D.rnL, D.rn])
  rw [ie102]
  unfold c102
  unfold ptD fnH
  repeat' (first | with_reducible (apply swq; constructor) | simp only [go_sem, seval, pe102, q102] | ((with_reducible refine zAb (c1) ?he ?hc ?_); (case he | hc => first | rfl | (simp [D.erL, D.er, D.cL, D.closed]; done))) | with_reducible (apply cA; constructor) | ((with_reducible refine And.intro ?hw ?_); (case hw => first | omega | rfl | exact ⟨_, _, rfl⟩ | assumption | (simp only [lN] <;> omega))) | with_reducible intro _)
  refine ⟨_, zDh [0, 2] [] ⟨by simp, by simp, by simp, by simp⟩ rfl rfl, ?_⟩
  simp [St.sel, Hp.sel, D.rnL, D.rn, posF, idx, Blk.rn, Blk.rnL, Tv.rnL, Own.rn, setL]
  exact ⟨_, rfl, by simp, by simp⟩
theorem age_p (p : Pt) (day : Int) (h1 : 0 ≤ day) (h2 : day ≤ 40000) (h3 : -9223372036854775808 ≤ p.made) : Eff M 103 [ptD p, .int .i64 day, .ptr 0 0] fnH fun d hp => d = ivD (zEe day p.made) ∧ hp = fnH := by
  have c1 := since_p day p.made h1 h2 h3
  generalize zEe day p.made = v at *
  refine eff_cut 1 0 (hp1 := ⟨[.cells [.fn (.func 98) [] []], .cells [.int .i64 v.1, .int .i64 v.2]], []⟩) (d0 := ivD v) (k103.oe 1 0 rfl rfl rfl ?_) (Nat.le_refl 1) (Nat.zero_le 0) (by simp [D.rn, D.rnL]) (by simp [Hp.cut, Blk.rnL, Blk.rn, Tv.rnL, D.rnL, D.rn])
  rw [ie103]
  unfold c103
  unfold ptD fnH
  repeat' (first | with_reducible (apply swq; constructor) | simp only [go_sem, seval, pe103, q103] | ((with_reducible refine zAb (c1) ?he ?hc ?_); (case he | hc => first | rfl | (simp [D.erL, D.er, D.cL, D.closed]; done))) | with_reducible (apply cA; constructor) | ((with_reducible refine And.intro ?hw ?_); (case hw => first | omega | rfl | exact ⟨_, _, rfl⟩ | assumption | (simp only [lN] <;> omega))) | with_reducible intro _)
  refine ⟨_, zDh [0, 2] [] ⟨by simp, by simp, by simp, by simp⟩ rfl rfl, ?_⟩
  simp [St.sel, Hp.sel, D.rnL, D.rn, posF, idx, Blk.rn, Blk.rnL, Tv.rnL, Own.rn, setL]
  exact ⟨_, rfl, by simp, by simp⟩
def curE : List (D × D × Nat) := [(.str kKm, .fn (.func 99) [] [], 0), (.str kCy, .fn (.func 100) [] [], 1), (.str kDm, .fn (.func 101) [] [], 2), (.str kDays, .fn (.func 102) [] [.ptr 0 0], 3), (.str kAge, .fn (.func 103) [] [.ptr 0 0], 4)]
abbrev curH : Hp := ⟨[.cells [.fn (.func 98) [] []], .map curE 5], []⟩
theorem cur_e : Eff M 79 [] ⟨[], []⟩ fun d hp => d = .mp 1 ∧ hp = curH := by
  refine k79.oe 0 0 rfl rfl rfl ?_
  rw [ie79]
  unfold c79
  repeat' (first | with_reducible (apply swq; constructor) | simp only [go_sem, seval, pe79, q79, zAt] | ((with_reducible apply s_mpu); (case h1 | hk => rfl); (case ha | hp => first | rfl | assumption)) | with_reducible (apply cA; constructor) | ((with_reducible refine And.intro ?hw ?_); (case hw => first | omega | rfl | exact ⟨_, _, rfl⟩ | assumption | (simp only [lN, putM, findM, keq, List.all, keyOk] <;> omega))) | with_reducible intro _)
  exact ⟨_, zAh, rfl, by simp [putM, findM, keq, curE, kKm, kCy, kDm, kDays, kAge]⟩
def lifeE (cur : List UInt8) (day : Int) : Int := if known cur = false then 15 else if day < 0 ∨ day > 40000 then 13 else 0
def lifeD (p : Pt) (cur : List UInt8) (day : Int) : D := match lifeV p cur day with | some v => ivD v | none => ivD (0, 0)
set_option maxHeartbeats 1000000 in
theorem value_p (p : Pt) (cur : List UInt8) (day : Int) (h3 : -9223372036854775808 ≤ p.since) (h4 : -9223372036854775808 ≤ p.made) :
    Pur M 47 [ptD p, .str cur, .int .i64 day] (.tup [lifeD p cur day, .int .i64 (lifeE cur day)]) := by
  refine k47.ok (C := C47) rfl rfl ?_
  rw [i47]
  unfold c47
  have c0 := cur_e
  have ca := km_p p day
  have cb := cy_p p day
  have cc := dm_p p day
  have cd := fun h1 h2 => days_p p day h1 h2 h3
  have ce := fun h1 h2 => age_p p day h1 h2 h4
  have eE : ∀ β τ : Nat → Option Nat, pairs (bakF [] 2) τ curE = [(.str kKm, .fn (.func 99) [] [], 0), (.str kCy, .fn (.func 100) [] [], 1), (.str kDm, .fn (.func 101) [] [], 2), (.str kDays, .fn (.func 102) [] [.ptr 2 0], 3), (.str kAge, .fn (.func 103) [] [.ptr 2 0], 4)] := fun β τ => by
    simp [curE, pairs, D.rn, D.rnL, bakF]
  have hok : ((pairs (bakF [] 2) (bakF [] 0) curE).all fun e => keyOk .str e.1) = true := by rw [eE (bakF [] 2)]; rfl
  unfold curH at c0
  by_cases hkKm : cur = kKm
  · subst hkKm
    have hf : findM (.str kKm) (pairs (bakF [] 2) (bakF [] 0) curE) 0 = some (0, .fn (.func 99) [] []) := by rw [eE (bakF [] 2)]; rfl
    by_cases hd : day < 0 ∨ day > 40000
    · have r1 : lifeD p kKm day = ivD (0, 0) := by simp [lifeD, lifeV, hd]
      have r2 : lifeE kKm day = 13 := by simp [lifeE, known, hd]
      rw [r1, r2]
      unfold ptD
      by_cases hd1 : day < 0
      · have e1 : decide (day < 0) = true := decide_eq_true hd1
        repeat' (first | with_reducible (apply swq; constructor) | simp only [go_sem, seval, P47, q47, e1, D.rn, D.rnL, bakF, fillL] | ((with_reducible refine o_eff [] [] (c0) ?hs ?he ?hh ?_); (case hs => exact ⟨by simp, by simp, by simp, by simp⟩); (case he => first | rfl | (simp [go_sem, seval, hf, hok]; done)); (case hh => first | rfl | (simp [go_sem, seval, hf, hok]; done)); rintro _ _ ⟨rfl, rfl⟩) | ((with_reducible apply zAl); (case h1 | hk => rfl); (case ha | hf => first | rfl | assumption)) | ((with_reducible apply zAm); (case h1 | hk => rfl); (case hf | ha => first | rfl | assumption)) | (with_reducible first | (apply cA; constructor) | (apply gA; constructor)) | ((with_reducible refine And.intro ?hw ?_); (case hw => first | omega | rfl | exact ⟨_, _, rfl⟩ | assumption | (simp only [lN, hf, hok] <;> omega))) | with_reducible intro _)
        all_goals simp [Hp.back, putAt, Blk.rnL, Blk.rn, D.closed, D.cL, D.er, D.erL, setL]
      · have e1 : decide (day < 0) = false := decide_eq_false hd1
        have e2 : decide (40000 < day) = true := decide_eq_true (by omega)
        repeat' (first | with_reducible (apply swq; constructor) | simp only [go_sem, seval, P47, q47, e1, e2, D.rn, D.rnL, bakF, fillL] | ((with_reducible refine o_eff [] [] (c0) ?hs ?he ?hh ?_); (case hs => exact ⟨by simp, by simp, by simp, by simp⟩); (case he => first | rfl | (simp [go_sem, seval, hf, hok]; done)); (case hh => first | rfl | (simp [go_sem, seval, hf, hok]; done)); rintro _ _ ⟨rfl, rfl⟩) | ((with_reducible apply zAl); (case h1 | hk => rfl); (case ha | hf => first | rfl | assumption)) | ((with_reducible apply zAm); (case h1 | hk => rfl); (case hf | ha => first | rfl | assumption)) | (with_reducible first | (apply cA; constructor) | (apply gA; constructor)) | ((with_reducible refine And.intro ?hw ?_); (case hw => first | omega | rfl | exact ⟨_, _, rfl⟩ | assumption | (simp only [lN, hf, hok] <;> omega))) | with_reducible intro _)
        all_goals simp [Hp.back, putAt, Blk.rnL, Blk.rn, D.closed, D.cL, D.er, D.erL, setL]
    · have d1 : 0 ≤ day := by omega
      have d2 : day ≤ 40000 := by omega
      have e1 : decide (day < 0) = false := decide_eq_false (by omega)
      have e2 : decide (40000 < day) = false := decide_eq_false (by omega)
      have r1 : lifeD p kKm day = ivD (p.km) := by simp [lifeD, lifeV, hd, show ¬ kCy = kKm by decide, show ¬ kDm = kKm by decide, show ¬ kDm = kCy by decide, show ¬ kDays = kKm by decide, show ¬ kDays = kCy by decide, show ¬ kDays = kDm by decide, show ¬ kAge = kKm by decide, show ¬ kAge = kCy by decide, show ¬ kAge = kDm by decide, show ¬ kAge = kDays by decide]
      have r2 : lifeE kKm day = 0 := by simp [lifeE, known, hd]
      rw [r1, r2]
      unfold ptD at ca ⊢
      repeat' (first | with_reducible (apply swq; constructor) | simp only [go_sem, seval, P47, q47, e1, e2, D.rn, D.rnL, bakF] | ((with_reducible refine o_eff [] [] (c0) ?hs ?he ?hh ?_); (case hs => exact ⟨by simp, by simp, by simp, by simp⟩); (case he => first | rfl | (simp [go_sem, seval, hf, hok]; done)); (case hh => first | rfl | (simp [go_sem, seval, hf, hok]; done)); rintro _ _ ⟨rfl, rfl⟩) | ((with_reducible refine zAb (ca) ?he ?hc ?_); (case he | hc => first | rfl | (simp [D.erL, D.er, D.cL, D.closed, hf, hok]; done))) | ((with_reducible apply zAl); (case h1 | hk => rfl); (case ha | hf => first | rfl | assumption)) | ((with_reducible apply zAm); (case h1 | hk => rfl); (case hf | ha => first | rfl | assumption)) | (with_reducible first | (apply cA; constructor) | (apply gA; constructor)) | ((with_reducible refine And.intro ?hw ?_); (case hw => first | omega | rfl | exact ⟨_, _, rfl⟩ | assumption | (simp only [lN, hf, hok] <;> omega))) | with_reducible intro _)
      all_goals simp [Hp.back, putAt, Blk.rnL, Blk.rn, D.closed, D.cL, D.er, D.erL, setL]
  by_cases hkCy : cur = kCy
  · subst hkCy
    have hf : findM (.str kCy) (pairs (bakF [] 2) (bakF [] 0) curE) 0 = some (1, .fn (.func 100) [] []) := by rw [eE (bakF [] 2)]; rfl
    by_cases hd : day < 0 ∨ day > 40000
    · have r1 : lifeD p kCy day = ivD (0, 0) := by simp [lifeD, lifeV, hd]
      have r2 : lifeE kCy day = 13 := by simp [lifeE, known, hd]
      rw [r1, r2]
      unfold ptD
      by_cases hd1 : day < 0
      · have e1 : decide (day < 0) = true := decide_eq_true hd1
        repeat' (first | with_reducible (apply swq; constructor) | simp only [go_sem, seval, P47, q47, e1, D.rn, D.rnL, bakF, fillL] | ((with_reducible refine o_eff [] [] (c0) ?hs ?he ?hh ?_); (case hs => exact ⟨by simp, by simp, by simp, by simp⟩); (case he => first | rfl | (simp [go_sem, seval, hf, hok]; done)); (case hh => first | rfl | (simp [go_sem, seval, hf, hok]; done)); rintro _ _ ⟨rfl, rfl⟩) | ((with_reducible apply zAl); (case h1 | hk => rfl); (case ha | hf => first | rfl | assumption)) | ((with_reducible apply zAm); (case h1 | hk => rfl); (case hf | ha => first | rfl | assumption)) | (with_reducible first | (apply cA; constructor) | (apply gA; constructor)) | ((with_reducible refine And.intro ?hw ?_); (case hw => first | omega | rfl | exact ⟨_, _, rfl⟩ | assumption | (simp only [lN, hf, hok] <;> omega))) | with_reducible intro _)
        all_goals simp [Hp.back, putAt, Blk.rnL, Blk.rn, D.closed, D.cL, D.er, D.erL, setL]
      · have e1 : decide (day < 0) = false := decide_eq_false hd1
        have e2 : decide (40000 < day) = true := decide_eq_true (by omega)
        repeat' (first | with_reducible (apply swq; constructor) | simp only [go_sem, seval, P47, q47, e1, e2, D.rn, D.rnL, bakF, fillL] | ((with_reducible refine o_eff [] [] (c0) ?hs ?he ?hh ?_); (case hs => exact ⟨by simp, by simp, by simp, by simp⟩); (case he => first | rfl | (simp [go_sem, seval, hf, hok]; done)); (case hh => first | rfl | (simp [go_sem, seval, hf, hok]; done)); rintro _ _ ⟨rfl, rfl⟩) | ((with_reducible apply zAl); (case h1 | hk => rfl); (case ha | hf => first | rfl | assumption)) | ((with_reducible apply zAm); (case h1 | hk => rfl); (case hf | ha => first | rfl | assumption)) | (with_reducible first | (apply cA; constructor) | (apply gA; constructor)) | ((with_reducible refine And.intro ?hw ?_); (case hw => first | omega | rfl | exact ⟨_, _, rfl⟩ | assumption | (simp only [lN, hf, hok] <;> omega))) | with_reducible intro _)
        all_goals simp [Hp.back, putAt, Blk.rnL, Blk.rn, D.closed, D.cL, D.er, D.erL, setL]
    · have d1 : 0 ≤ day := by omega
      have d2 : day ≤ 40000 := by omega
      have e1 : decide (day < 0) = false := decide_eq_false (by omega)
      have e2 : decide (40000 < day) = false := decide_eq_false (by omega)
      have r1 : lifeD p kCy day = ivD (p.cy) := by simp [lifeD, lifeV, hd, show ¬ kCy = kKm by decide, show ¬ kDm = kKm by decide, show ¬ kDm = kCy by decide, show ¬ kDays = kKm by decide, show ¬ kDays = kCy by decide, show ¬ kDays = kDm by decide, show ¬ kAge = kKm by decide, show ¬ kAge = kCy by decide, show ¬ kAge = kDm by decide, show ¬ kAge = kDays by decide]
      have r2 : lifeE kCy day = 0 := by simp [lifeE, known, hd]
      rw [r1, r2]
      unfold ptD at cb ⊢
      repeat' (first | with_reducible (apply swq; constructor) | simp only [go_sem, seval, P47, q47, e1, e2, D.rn, D.rnL, bakF] | ((with_reducible refine o_eff [] [] (c0) ?hs ?he ?hh ?_); (case hs => exact ⟨by simp, by simp, by simp, by simp⟩); (case he => first | rfl | (simp [go_sem, seval, hf, hok]; done)); (case hh => first | rfl | (simp [go_sem, seval, hf, hok]; done)); rintro _ _ ⟨rfl, rfl⟩) | ((with_reducible refine zAb (cb) ?he ?hc ?_); (case he | hc => first | rfl | (simp [D.erL, D.er, D.cL, D.closed, hf, hok]; done))) | ((with_reducible apply zAl); (case h1 | hk => rfl); (case ha | hf => first | rfl | assumption)) | ((with_reducible apply zAm); (case h1 | hk => rfl); (case hf | ha => first | rfl | assumption)) | (with_reducible first | (apply cA; constructor) | (apply gA; constructor)) | ((with_reducible refine And.intro ?hw ?_); (case hw => first | omega | rfl | exact ⟨_, _, rfl⟩ | assumption | (simp only [lN, hf, hok] <;> omega))) | with_reducible intro _)
      all_goals simp [Hp.back, putAt, Blk.rnL, Blk.rn, D.closed, D.cL, D.er, D.erL, setL]
  by_cases hkDm : cur = kDm
  · subst hkDm
    have hf : findM (.str kDm) (pairs (bakF [] 2) (bakF [] 0) curE) 0 = some (2, .fn (.func 101) [] []) := by rw [eE (bakF [] 2)]; rfl
    by_cases hd : day < 0 ∨ day > 40000
    · have r1 : lifeD p kDm day = ivD (0, 0) := by simp [lifeD, lifeV, hd]
      have r2 : lifeE kDm day = 13 := by simp [lifeE, known, hd]
      rw [r1, r2]
      unfold ptD
      by_cases hd1 : day < 0
      · have e1 : decide (day < 0) = true := decide_eq_true hd1
        repeat' (first | with_reducible (apply swq; constructor) | simp only [go_sem, seval, P47, q47, e1, D.rn, D.rnL, bakF, fillL] | ((with_reducible refine o_eff [] [] (c0) ?hs ?he ?hh ?_); (case hs => exact ⟨by simp, by simp, by simp, by simp⟩); (case he => first | rfl | (simp [go_sem, seval, hf, hok]; done)); (case hh => first | rfl | (simp [go_sem, seval, hf, hok]; done)); rintro _ _ ⟨rfl, rfl⟩) | ((with_reducible apply zAl); (case h1 | hk => rfl); (case ha | hf => first | rfl | assumption)) | ((with_reducible apply zAm); (case h1 | hk => rfl); (case hf | ha => first | rfl | assumption)) | (with_reducible first | (apply cA; constructor) | (apply gA; constructor)) | ((with_reducible refine And.intro ?hw ?_); (case hw => first | omega | rfl | exact ⟨_, _, rfl⟩ | assumption | (simp only [lN, hf, hok] <;> omega))) | with_reducible intro _)
        all_goals simp [Hp.back, putAt, Blk.rnL, Blk.rn, D.closed, D.cL, D.er, D.erL, setL]
      · have e1 : decide (day < 0) = false := decide_eq_false hd1
        have e2 : decide (40000 < day) = true := decide_eq_true (by omega)
        repeat' (first | with_reducible (apply swq; constructor) | simp only [go_sem, seval, P47, q47, e1, e2, D.rn, D.rnL, bakF, fillL] | ((with_reducible refine o_eff [] [] (c0) ?hs ?he ?hh ?_); (case hs => exact ⟨by simp, by simp, by simp, by simp⟩); (case he => first | rfl | (simp [go_sem, seval, hf, hok]; done)); (case hh => first | rfl | (simp [go_sem, seval, hf, hok]; done)); rintro _ _ ⟨rfl, rfl⟩) | ((with_reducible apply zAl); (case h1 | hk => rfl); (case ha | hf => first | rfl | assumption)) | ((with_reducible apply zAm); (case h1 | hk => rfl); (case hf | ha => first | rfl | assumption)) | (with_reducible first | (apply cA; constructor) | (apply gA; constructor)) | ((with_reducible refine And.intro ?hw ?_); (case hw => first | omega | rfl | exact ⟨_, _, rfl⟩ | assumption | (simp only [lN, hf, hok] <;> omega))) | with_reducible intro _)
        all_goals simp [Hp.back, putAt, Blk.rnL, Blk.rn, D.closed, D.cL, D.er, D.erL, setL]
    · have d1 : 0 ≤ day := by omega
      have d2 : day ≤ 40000 := by omega
      have e1 : decide (day < 0) = false := decide_eq_false (by omega)
      have e2 : decide (40000 < day) = false := decide_eq_false (by omega)
      have r1 : lifeD p kDm day = ivD (p.dm) := by simp [lifeD, lifeV, hd, show ¬ kCy = kKm by decide, show ¬ kDm = kKm by decide, show ¬ kDm = kCy by decide, show ¬ kDays = kKm by decide, show ¬ kDays = kCy by decide, show ¬ kDays = kDm by decide, show ¬ kAge = kKm by decide, show ¬ kAge = kCy by decide, show ¬ kAge = kDm by decide, show ¬ kAge = kDays by decide]
      have r2 : lifeE kDm day = 0 := by simp [lifeE, known, hd]
      rw [r1, r2]
      unfold ptD at cc ⊢
      repeat' (first | with_reducible (apply swq; constructor) | simp only [go_sem, seval, P47, q47, e1, e2, D.rn, D.rnL, bakF] | ((with_reducible refine o_eff [] [] (c0) ?hs ?he ?hh ?_); (case hs => exact ⟨by simp, by simp, by simp, by simp⟩); (case he => first | rfl | (simp [go_sem, seval, hf, hok]; done)); (case hh => first | rfl | (simp [go_sem, seval, hf, hok]; done)); rintro _ _ ⟨rfl, rfl⟩) | ((with_reducible refine zAb (cc) ?he ?hc ?_); (case he | hc => first | rfl | (simp [D.erL, D.er, D.cL, D.closed, hf, hok]; done))) | ((with_reducible apply zAl); (case h1 | hk => rfl); (case ha | hf => first | rfl | assumption)) | ((with_reducible apply zAm); (case h1 | hk => rfl); (case hf | ha => first | rfl | assumption)) | (with_reducible first | (apply cA; constructor) | (apply gA; constructor)) | ((with_reducible refine And.intro ?hw ?_); (case hw => first | omega | rfl | exact ⟨_, _, rfl⟩ | assumption | (simp only [lN, hf, hok] <;> omega))) | with_reducible intro _)
      all_goals simp [Hp.back, putAt, Blk.rnL, Blk.rn, D.closed, D.cL, D.er, D.erL, setL]
  by_cases hkDays : cur = kDays
  · subst hkDays
    have hf : findM (.str kDays) (pairs (bakF [] 2) (bakF [] 0) curE) 0 = some (3, .fn (.func 102) [] [.ptr 2 0]) := by rw [eE (bakF [] 2)]; rfl
    by_cases hd : day < 0 ∨ day > 40000
    · have r1 : lifeD p kDays day = ivD (0, 0) := by simp [lifeD, lifeV, hd]
      have r2 : lifeE kDays day = 13 := by simp [lifeE, known, hd]
      rw [r1, r2]
      unfold ptD
      by_cases hd1 : day < 0
      · have e1 : decide (day < 0) = true := decide_eq_true hd1
        repeat' (first | with_reducible (apply swq; constructor) | simp only [go_sem, seval, P47, q47, e1, D.rn, D.rnL, bakF, fillL] | ((with_reducible refine o_eff [] [] (c0) ?hs ?he ?hh ?_); (case hs => exact ⟨by simp, by simp, by simp, by simp⟩); (case he => first | rfl | (simp [go_sem, seval, hf, hok]; done)); (case hh => first | rfl | (simp [go_sem, seval, hf, hok]; done)); rintro _ _ ⟨rfl, rfl⟩) | ((with_reducible apply zAl); (case h1 | hk => rfl); (case ha | hf => first | rfl | assumption)) | ((with_reducible apply zAm); (case h1 | hk => rfl); (case hf | ha => first | rfl | assumption)) | (with_reducible first | (apply cA; constructor) | (apply gA; constructor)) | ((with_reducible refine And.intro ?hw ?_); (case hw => first | omega | rfl | exact ⟨_, _, rfl⟩ | assumption | (simp only [lN, hf, hok] <;> omega))) | with_reducible intro _)
        all_goals simp [Hp.back, putAt, Blk.rnL, Blk.rn, D.closed, D.cL, D.er, D.erL, setL]
      · have e1 : decide (day < 0) = false := decide_eq_false hd1
        have e2 : decide (40000 < day) = true := decide_eq_true (by omega)
        repeat' (first | with_reducible (apply swq; constructor) | simp only [go_sem, seval, P47, q47, e1, e2, D.rn, D.rnL, bakF, fillL] | ((with_reducible refine o_eff [] [] (c0) ?hs ?he ?hh ?_); (case hs => exact ⟨by simp, by simp, by simp, by simp⟩); (case he => first | rfl | (simp [go_sem, seval, hf, hok]; done)); (case hh => first | rfl | (simp [go_sem, seval, hf, hok]; done)); rintro _ _ ⟨rfl, rfl⟩) | ((with_reducible apply zAl); (case h1 | hk => rfl); (case ha | hf => first | rfl | assumption)) | ((with_reducible apply zAm); (case h1 | hk => rfl); (case hf | ha => first | rfl | assumption)) | (with_reducible first | (apply cA; constructor) | (apply gA; constructor)) | ((with_reducible refine And.intro ?hw ?_); (case hw => first | omega | rfl | exact ⟨_, _, rfl⟩ | assumption | (simp only [lN, hf, hok] <;> omega))) | with_reducible intro _)
        all_goals simp [Hp.back, putAt, Blk.rnL, Blk.rn, D.closed, D.cL, D.er, D.erL, setL]
    · have d1 : 0 ≤ day := by omega
      have d2 : day ≤ 40000 := by omega
      have e1 : decide (day < 0) = false := decide_eq_false (by omega)
      have e2 : decide (40000 < day) = false := decide_eq_false (by omega)
      have r1 : lifeD p kDays day = ivD (zEe day p.since) := by simp [lifeD, lifeV, hd, show ¬ kCy = kKm by decide, show ¬ kDm = kKm by decide, show ¬ kDm = kCy by decide, show ¬ kDays = kKm by decide, show ¬ kDays = kCy by decide, show ¬ kDays = kDm by decide, show ¬ kAge = kKm by decide, show ¬ kAge = kCy by decide, show ¬ kAge = kDm by decide, show ¬ kAge = kDays by decide]
      have r2 : lifeE kDays day = 0 := by simp [lifeE, known, hd]
      rw [r1, r2]
      have c5 := cd d1 d2
      unfold fnH at c5
      unfold ptD at c5 ⊢
      repeat' (first | with_reducible (apply swq; constructor) | simp only [go_sem, seval, P47, q47, e1, e2, D.rn, D.rnL, bakF] | ((with_reducible refine o_eff [] [] (c0) ?hs ?he ?hh ?_); (case hs => exact ⟨by simp, by simp, by simp, by simp⟩); (case he => first | rfl | (simp [go_sem, seval, hf, hok, D.rnL, D.rn, posF, Hp.sel, Blk.rnL, Blk.rn, Tv.rnL, Own.rn, idx, Hp.back, putAt, bakF]; done)); (case hh => first | rfl | (simp [go_sem, seval, hf, hok, D.rnL, D.rn, posF, Hp.sel, Blk.rnL, Blk.rn, Tv.rnL, Own.rn, idx, Hp.back, putAt, bakF]; done)); rintro _ _ ⟨rfl, rfl⟩) | ((with_reducible refine o_eff [2] [] (c5) ?hs ?he ?hh ?_); (case hs => exact ⟨by simp, by simp, by simp, by simp⟩); (case he => first | rfl | (simp [go_sem, seval, hf, hok, D.rnL, D.rn, posF, Hp.sel, Blk.rnL, Blk.rn, Tv.rnL, Own.rn, idx, Hp.back, putAt, bakF]; done)); (case hh => first | rfl | (simp [go_sem, seval, hf, hok, D.rnL, D.rn, posF, Hp.sel, Blk.rnL, Blk.rn, Tv.rnL, Own.rn, idx, Hp.back, putAt, bakF]; done)); rintro _ _ ⟨rfl, rfl⟩) | ((with_reducible apply zAl); (case h1 | hk => rfl); (case ha | hf => first | rfl | assumption)) | ((with_reducible apply zAm); (case h1 | hk => rfl); (case hf | ha => first | rfl | assumption)) | (with_reducible first | (apply cA; constructor) | (apply gA; constructor)) | ((with_reducible refine And.intro ?hw ?_); (case hw => first | omega | rfl | exact ⟨_, _, rfl⟩ | assumption | (simp only [lN, hf, hok, D.rnL, D.rn, posF, Hp.sel, Blk.rnL, Blk.rn, Tv.rnL, Own.rn, idx, Hp.back, putAt, bakF] <;> omega))) | with_reducible intro _)
      all_goals simp [Hp.back, putAt, Blk.rnL, Blk.rn, D.rnL, D.rn, bakF, D.closed, D.cL, D.er, D.erL, setL]
  by_cases hkAge : cur = kAge
  · subst hkAge
    have hf : findM (.str kAge) (pairs (bakF [] 2) (bakF [] 0) curE) 0 = some (4, .fn (.func 103) [] [.ptr 2 0]) := by rw [eE (bakF [] 2)]; rfl
    by_cases hd : day < 0 ∨ day > 40000
    · have r1 : lifeD p kAge day = ivD (0, 0) := by simp [lifeD, lifeV, hd]
      have r2 : lifeE kAge day = 13 := by simp [lifeE, known, hd]
      rw [r1, r2]
      unfold ptD
      by_cases hd1 : day < 0
      · have e1 : decide (day < 0) = true := decide_eq_true hd1
        repeat' (first | with_reducible (apply swq; constructor) | simp only [go_sem, seval, P47, q47, e1, D.rn, D.rnL, bakF, fillL] | ((with_reducible refine o_eff [] [] (c0) ?hs ?he ?hh ?_); (case hs => exact ⟨by simp, by simp, by simp, by simp⟩); (case he => first | rfl | (simp [go_sem, seval, hf, hok]; done)); (case hh => first | rfl | (simp [go_sem, seval, hf, hok]; done)); rintro _ _ ⟨rfl, rfl⟩) | ((with_reducible apply zAl); (case h1 | hk => rfl); (case ha | hf => first | rfl | assumption)) | ((with_reducible apply zAm); (case h1 | hk => rfl); (case hf | ha => first | rfl | assumption)) | (with_reducible first | (apply cA; constructor) | (apply gA; constructor)) | ((with_reducible refine And.intro ?hw ?_); (case hw => first | omega | rfl | exact ⟨_, _, rfl⟩ | assumption | (simp only [lN, hf, hok] <;> omega))) | with_reducible intro _)
        all_goals simp [Hp.back, putAt, Blk.rnL, Blk.rn, D.closed, D.cL, D.er, D.erL, setL]
      · have e1 : decide (day < 0) = false := decide_eq_false hd1
        have e2 : decide (40000 < day) = true := decide_eq_true (by omega)
        repeat' (first | with_reducible (apply swq; constructor) | simp only [go_sem, seval, P47, q47, e1, e2, D.rn, D.rnL, bakF, fillL] | ((with_reducible refine o_eff [] [] (c0) ?hs ?he ?hh ?_); (case hs => exact ⟨by simp, by simp, by simp, by simp⟩); (case he => first | rfl | (simp [go_sem, seval, hf, hok]; done)); (case hh => first | rfl | (simp [go_sem, seval, hf, hok]; done)); rintro _ _ ⟨rfl, rfl⟩) | ((with_reducible apply zAl); (case h1 | hk => rfl); (case ha | hf => first | rfl | assumption)) | ((with_reducible apply zAm); (case h1 | hk => rfl); (case hf | ha => first | rfl | assumption)) | (with_reducible first | (apply cA; constructor) | (apply gA; constructor)) | ((with_reducible refine And.intro ?hw ?_); (case hw => first | omega | rfl | exact ⟨_, _, rfl⟩ | assumption | (simp only [lN, hf, hok] <;> omega))) | with_reducible intro _)
        all_goals simp [Hp.back, putAt, Blk.rnL, Blk.rn, D.closed, D.cL, D.er, D.erL, setL]
    · have d1 : 0 ≤ day := by omega
      have d2 : day ≤ 40000 := by omega
      have e1 : decide (day < 0) = false := decide_eq_false (by omega)
      have e2 : decide (40000 < day) = false := decide_eq_false (by omega)
      have r1 : lifeD p kAge day = ivD (zEe day p.made) := by simp [lifeD, lifeV, hd, show ¬ kCy = kKm by decide, show ¬ kDm = kKm by decide, show ¬ kDm = kCy by decide, show ¬ kDays = kKm by decide, show ¬ kDays = kCy by decide, show ¬ kDays = kDm by decide, show ¬ kAge = kKm by decide, show ¬ kAge = kCy by decide, show ¬ kAge = kDm by decide, show ¬ kAge = kDays by decide]
      have r2 : lifeE kAge day = 0 := by simp [lifeE, known, hd]
      rw [r1, r2]
      have c5 := ce d1 d2
      unfold fnH at c5
      unfold ptD at c5 ⊢
      repeat' (first | with_reducible (apply swq; constructor) | simp only [go_sem, seval, P47, q47, e1, e2, D.rn, D.rnL, bakF] | ((with_reducible refine o_eff [] [] (c0) ?hs ?he ?hh ?_); (case hs => exact ⟨by simp, by simp, by simp, by simp⟩); (case he => first | rfl | (simp [go_sem, seval, hf, hok, D.rnL, D.rn, posF, Hp.sel, Blk.rnL, Blk.rn, Tv.rnL, Own.rn, idx, Hp.back, putAt, bakF]; done)); (case hh => first | rfl | (simp [go_sem, seval, hf, hok, D.rnL, D.rn, posF, Hp.sel, Blk.rnL, Blk.rn, Tv.rnL, Own.rn, idx, Hp.back, putAt, bakF]; done)); rintro _ _ ⟨rfl, rfl⟩) | ((with_reducible refine o_eff [2] [] (c5) ?hs ?he ?hh ?_); (case hs => exact ⟨by simp, by simp, by simp, by simp⟩); (case he => first | rfl | (simp [go_sem, seval, hf, hok, D.rnL, D.rn, posF, Hp.sel, Blk.rnL, Blk.rn, Tv.rnL, Own.rn, idx, Hp.back, putAt, bakF]; done)); (case hh => first | rfl | (simp [go_sem, seval, hf, hok, D.rnL, D.rn, posF, Hp.sel, Blk.rnL, Blk.rn, Tv.rnL, Own.rn, idx, Hp.back, putAt, bakF]; done)); rintro _ _ ⟨rfl, rfl⟩) | ((with_reducible apply zAl); (case h1 | hk => rfl); (case ha | hf => first | rfl | assumption)) | ((with_reducible apply zAm); (case h1 | hk => rfl); (case hf | ha => first | rfl | assumption)) | (with_reducible first | (apply cA; constructor) | (apply gA; constructor)) | ((with_reducible refine And.intro ?hw ?_); (case hw => first | omega | rfl | exact ⟨_, _, rfl⟩ | assumption | (simp only [lN, hf, hok, D.rnL, D.rn, posF, Hp.sel, Blk.rnL, Blk.rn, Tv.rnL, Own.rn, idx, Hp.back, putAt, bakF] <;> omega))) | with_reducible intro _)
      all_goals simp [Hp.back, putAt, Blk.rnL, Blk.rn, D.rnL, D.rn, bakF, D.closed, D.cL, D.er, D.erL, setL]
  have hne : ∀ (a b : List UInt8), a ≠ b → (a == b) = false := fun a b h => by simp [h]
  have hf : findM (.str cur) (pairs (bakF [] 2) (bakF [] 0) curE) 0 = none := by
    rw [eE (bakF [] 2)]
    simp only [findM, keq_str, hne _ _ hkKm, hne _ _ hkCy, hne _ _ hkDm, hne _ _ hkDays, hne _ _ hkAge, Bool.false_eq_true, if_false]
  have hk : known cur = false := by simp [known, hkKm, hkCy, hkDm, hkDays, hkAge]
  have r1 : lifeD p cur day = ivD (0, 0) := by simp [lifeD, lifeV_none (.inl hk)]
  have r2 : lifeE cur day = 15 := by simp [lifeE, hk]
  rw [r1, r2]
  unfold ptD
  repeat' (first | with_reducible (apply swq; constructor) | simp only [go_sem, seval, P47, q47, D.rn, D.rnL, bakF, fillL] | ((with_reducible refine o_eff [] [] (c0) ?hs ?he ?hh ?_); (case hs => exact ⟨by simp, by simp, by simp, by simp⟩); (case he => first | rfl | (simp [go_sem, seval, hf, hok]; done)); (case hh => first | rfl | (simp [go_sem, seval, hf, hok]; done)); rintro _ _ ⟨rfl, rfl⟩) | ((with_reducible apply zAl); (case h1 | hk => rfl); (case ha | hf => first | rfl | assumption)) | ((with_reducible apply zAm); (case h1 | hk => rfl); (case hf | ha => first | rfl | assumption)) | (with_reducible first | (apply cA; constructor) | (apply gA; constructor)) | ((with_reducible refine And.intro ?hw ?_); (case hw => first | omega | rfl | exact ⟨_, _, rfl⟩ | assumption | (simp only [lN, hf, hok] <;> omega))) | with_reducible intro _)
  all_goals simp [Hp.back, putAt, Blk.rnL, Blk.rn, D.closed, D.cL, D.er, D.erL, setL]
end Go.Proofs.YtcchbohfcmfmlaaGreat
end
section
set_option maxRecDepth 100000
set_option linter.unusedSimpArgs false
set_option linter.unusedVariables false
namespace Go.Proofs.YtcchbohfcmfmlaaGreat
open Go GoV Go.RowKit
theorem if59 (K : List D) (hR : RowsK 2 K) (hl : K.length < 4611686018427387904) (f : FuncId) (a c : List D) (hpF : Nat → Hp) (nH nT : Nat) (hH : ∀ j, (hpF j).H.length = nH) (hT : ∀ j, (hpF j).tk.length = nT) (n : Nat) (hn : n ≤ K.length)
    (hf : ∀ j (h : j < n) (h' : j < K.length), Eff M f (a ++ [K[j]] ++ c) (hpF j) fun d hp => d = .bool false ∧ hp = hpF (j + 1)) (r : Int) (e : Nat)
    (hr : (n = K.length ∧ r = -1 ∧ e = n) ∨ (∃ h : n < K.length, r = n ∧ e = n + 1 ∧ Eff M f (a ++ [K[n]] ++ c) (hpF n) fun d hp => d = .bool true ∧ hp = hpF (n + 1))) :
    Eff M 82 [.slice K .no, .fn (.func f) a c] (hpF 0) fun d hp => d = .int .i64 r ∧ hp = hpF e := by
  refine k82.oe nH nT rfl (hH 0).symm (hT 0).symm ?_
  rw [ie82]
  unfold c82
  repeat' (first | with_reducible (apply swq; constructor) | simp only [go_sem, seval, pe82, q82] | simp (disch := omega) only [w64, w32, wu8, wu16, wu32, wu64] | with_reducible (apply cA; constructor) | ((with_reducible refine And.intro ?hw ?_); (case hw => first | omega | rfl | exact ⟨_, _, rfl⟩ | assumption | (simp only [lN] <;> omega))) | with_reducible intro _)
  refine zAz [0, 1, 2, 4, 5] (fun j : Nat => ⟨[.slice K .no, .fn (.func f) a c, .int .i64 0, .u0, .int .i64 K.length, .int .i64 j, .u0, .u0], [], hpF j⟩) (fun j => j ≤ n) (fun j => n + 1 - j) 0 (by omega) ?_ ?_
  · simp [keepE, St.keep]
  · intro j hj
    by_cases hjn : j < n
    · have hjl : j < K.length := by omega
      obtain ⟨cs, e1, e2⟩ := hR j hjl
      have hg : K.getD j .u0 = .agg cs := by simp [List.getD, hjl, e1]
      have htk : cs.take 2 = cs := List.take_of_length_le (by omega)
      have c1 := hf j hjn hjl
      rw [e1] at c1
      repeat' (first | with_reducible (apply swq; constructor) | simp only [go_sem, seval, pe82, q82, hg, htk, e2] | simp (disch := omega) only [w64, w32, wu8, wu16, wu32, wu64] | ((with_reducible refine zBs (c1) ?he ?hh ?_); (case he => first | rfl | (simp [go_sem, seval, hg, e2]; done)); (case hh => first | rfl | (simp [go_sem, seval, hg, e2]; done))) | with_reducible (apply cA; constructor) | ((with_reducible refine And.intro ?hw ?_); (case hw => first | omega | rfl | exact ⟨_, _, rfl⟩ | assumption | (simp only [lN, hg, e2] <;> omega))) | with_reducible intro _)
      all_goals try omega
      all_goals try (refine ⟨j + 1, by omega, by omega, ?_⟩; simp [St.keep, keepE])
    · obtain rfl : j = n := by omega
      rcases hr with ⟨h1, rfl, rfl⟩ | ⟨h1, rfl, rfl, c1⟩
      · repeat' (first | with_reducible (apply swq; constructor) | simp only [go_sem, seval, pe82, q82] | simp (disch := omega) only [w64, w32, wu8, wu16, wu32, wu64] | with_reducible (apply cA; constructor) | ((with_reducible refine And.intro ?hw ?_); (case hw => first | omega | rfl | exact ⟨_, _, rfl⟩ | assumption | (simp only [lN] <;> omega))) | with_reducible intro _)
        all_goals try omega
        all_goals exact ⟨_, zAh, by simp⟩
      · obtain ⟨cs, e1, e2⟩ := hR j h1
        have hg : K.getD j .u0 = .agg cs := by simp [List.getD, h1, e1]
        have htk : cs.take 2 = cs := List.take_of_length_le (by omega)
        rw [e1] at c1
        repeat' (first | with_reducible (apply swq; constructor) | simp only [go_sem, seval, pe82, q82, hg, htk, e2] | simp (disch := omega) only [w64, w32, wu8, wu16, wu32, wu64] | ((with_reducible refine zBs (c1) ?he ?hh ?_); (case he => first | rfl | (simp [go_sem, seval, hg, e2]; done)); (case hh => first | rfl | (simp [go_sem, seval, hg, e2]; done))) | with_reducible (apply cA; constructor) | ((with_reducible refine And.intro ?hw ?_); (case hw => first | omega | rfl | exact ⟨_, _, rfl⟩ | assumption | (simp only [lN, hg, e2] <;> omega))) | with_reducible intro _)
        all_goals try omega
        all_goals exact ⟨_, zAh, by simp⟩
theorem cf44 (K : List D) (hR : RowsK 2 K) (hl : K.length < 4611686018427387904) (f : FuncId) (a c : List D) (hpF : Nat → Hp) (nH nT : Nat) (hH : ∀ j, (hpF j).H.length = nH) (hT : ∀ j, (hpF j).tk.length = nT) (n : Nat) (hn : n ≤ K.length)
    (hf : ∀ j (h : j < n) (h' : j < K.length), Eff M f (a ++ [K[j]] ++ c) (hpF j) fun d hp => d = .bool false ∧ hp = hpF (j + 1)) (r : Bool) (e : Nat)
    (hr : (n = K.length ∧ r = false ∧ e = n) ∨ (∃ h : n < K.length, r = true ∧ e = n + 1 ∧ Eff M f (a ++ [K[n]] ++ c) (hpF n) fun d hp => d = .bool true ∧ hp = hpF (n + 1))) :
    Eff M 51 [.slice K .no, .fn (.func f) a c] (hpF 0) fun d hp => d = .bool r ∧ hp = hpF e := by
  have c1 : Eff M 82 [.slice K .no, .fn (.func f) a c] (hpF 0) fun d hp => d = .int .i64 (if r then (n : Int) else -1) ∧ hp = hpF e :=
    if59 K hR hl f a c hpF nH nT hH hT n hn hf _ e (by
      rcases hr with ⟨h1, rfl, rfl⟩ | ⟨h1, rfl, rfl, h2⟩
      · exact .inl ⟨h1, by simp, rfl⟩
      · exact .inr ⟨h1, by simp, rfl, h2⟩)
  refine k51.oe nH nT rfl (hH 0).symm (hT 0).symm ?_
  rw [ie51]
  unfold c51
  cases r
  · simp only [Bool.false_eq_true, if_false] at c1
    repeat' (first | with_reducible (apply swq; constructor) | simp only [go_sem, seval, pe51, q51] | simp (disch := omega) only [w64, w32, wu8, wu16, wu32, wu64] | ((with_reducible refine zBs (c1) ?he ?hh ?_); (case he => first | rfl | (simp [go_sem, seval]; done)); (case hh => first | rfl | (simp [go_sem, seval]; done))) | with_reducible (apply cA; constructor) | ((with_reducible refine And.intro ?hw ?_); (case hw => first | omega | rfl | exact ⟨_, _, rfl⟩ | assumption | (simp only [lN] <;> omega))) | with_reducible intro _)
    all_goals exact ⟨_, zAh, by simp⟩
  · simp only [if_true] at c1
    repeat' (first | with_reducible (apply swq; constructor) | simp only [go_sem, seval, pe51, q51] | simp (disch := omega) only [w64, w32, wu8, wu16, wu32, wu64] | ((with_reducible refine zBs (c1) ?he ?hh ?_); (case he => first | rfl | (simp [go_sem, seval]; done)); (case hh => first | rfl | (simp [go_sem, seval]; done))) | with_reducible (apply cA; constructor) | ((with_reducible refine And.intro ?hw ?_); (case hw => first | omega | rfl | exact ⟨_, _, rfl⟩ | assumption | (simp only [lN] <;> omega))) | with_reducible intro _)
    all_goals refine ⟨_, zAh, by simp⟩
theorem if60 (K : List D) (hR : RowsK 14 K) (hl : K.length < 4611686018427387904) (f : FuncId) (a c : List D) (hpF : Nat → Hp) (nH nT : Nat) (hH : ∀ j, (hpF j).H.length = nH) (hT : ∀ j, (hpF j).tk.length = nT) (n : Nat) (hn : n ≤ K.length)
    (hf : ∀ j (h : j < n) (h' : j < K.length), Eff M f (a ++ [K[j]] ++ c) (hpF j) fun d hp => d = .bool false ∧ hp = hpF (j + 1)) (r : Int) (e : Nat)
    (hr : (n = K.length ∧ r = -1 ∧ e = n) ∨ (∃ h : n < K.length, r = n ∧ e = n + 1 ∧ Eff M f (a ++ [K[n]] ++ c) (hpF n) fun d hp => d = .bool true ∧ hp = hpF (n + 1))) :
    Eff M 83 [.slice K .no, .fn (.func f) a c] (hpF 0) fun d hp => d = .int .i64 r ∧ hp = hpF e := by
  refine k83.oe nH nT rfl (hH 0).symm (hT 0).symm ?_
  rw [ie83]
  unfold c83
  repeat' (first | with_reducible (apply swq; constructor) | simp only [go_sem, seval, pe83, q83] | simp (disch := omega) only [w64, w32, wu8, wu16, wu32, wu64] | with_reducible (apply cA; constructor) | ((with_reducible refine And.intro ?hw ?_); (case hw => first | omega | rfl | exact ⟨_, _, rfl⟩ | assumption | (simp only [lN] <;> omega))) | with_reducible intro _)
  refine zAz [0, 1, 2, 4, 5] (fun j : Nat => ⟨[.slice K .no, .fn (.func f) a c, .int .i64 0, .u0, .int .i64 K.length, .int .i64 j, .u0, .u0], [], hpF j⟩) (fun j => j ≤ n) (fun j => n + 1 - j) 0 (by omega) ?_ ?_
  · simp [keepE, St.keep]
  · intro j hj
    by_cases hjn : j < n
    · have hjl : j < K.length := by omega
      obtain ⟨cs, e1, e2⟩ := hR j hjl
      have hg : K.getD j .u0 = .agg cs := by simp [List.getD, hjl, e1]
      have htk : cs.take 14 = cs := List.take_of_length_le (by omega)
      have c1 := hf j hjn hjl
      rw [e1] at c1
      repeat' (first | with_reducible (apply swq; constructor) | simp only [go_sem, seval, pe83, q83, hg, htk, e2] | simp (disch := omega) only [w64, w32, wu8, wu16, wu32, wu64] | ((with_reducible refine zBs (c1) ?he ?hh ?_); (case he => first | rfl | (simp [go_sem, seval, hg, e2]; done)); (case hh => first | rfl | (simp [go_sem, seval, hg, e2]; done))) | with_reducible (apply cA; constructor) | ((with_reducible refine And.intro ?hw ?_); (case hw => first | omega | rfl | exact ⟨_, _, rfl⟩ | assumption | (simp only [lN, hg, e2] <;> omega))) | with_reducible intro _)
      all_goals try omega
      all_goals try (refine ⟨j + 1, by omega, by omega, ?_⟩; simp [St.keep, keepE])
    · obtain rfl : j = n := by omega
      rcases hr with ⟨h1, rfl, rfl⟩ | ⟨h1, rfl, rfl, c1⟩
      · repeat' (first | with_reducible (apply swq; constructor) | simp only [go_sem, seval, pe83, q83] | simp (disch := omega) only [w64, w32, wu8, wu16, wu32, wu64] | with_reducible (apply cA; constructor) | ((with_reducible refine And.intro ?hw ?_); (case hw => first | omega | rfl | exact ⟨_, _, rfl⟩ | assumption | (simp only [lN] <;> omega))) | with_reducible intro _)
        all_goals try omega
        all_goals exact ⟨_, zAh, by simp⟩
      · obtain ⟨cs, e1, e2⟩ := hR j h1
        have hg : K.getD j .u0 = .agg cs := by simp [List.getD, h1, e1]
        have htk : cs.take 14 = cs := List.take_of_length_le (by omega)
        rw [e1] at c1
        repeat' (first | with_reducible (apply swq; constructor) | simp only [go_sem, seval, pe83, q83, hg, htk, e2] | simp (disch := omega) only [w64, w32, wu8, wu16, wu32, wu64] | ((with_reducible refine zBs (c1) ?he ?hh ?_); (case he => first | rfl | (simp [go_sem, seval, hg, e2]; done)); (case hh => first | rfl | (simp [go_sem, seval, hg, e2]; done))) | with_reducible (apply cA; constructor) | ((with_reducible refine And.intro ?hw ?_); (case hw => first | omega | rfl | exact ⟨_, _, rfl⟩ | assumption | (simp only [lN, hg, e2] <;> omega))) | with_reducible intro _)
        all_goals try omega
        all_goals exact ⟨_, zAh, by simp⟩
theorem cf46 (K : List D) (hR : RowsK 14 K) (hl : K.length < 4611686018427387904) (f : FuncId) (a c : List D) (hpF : Nat → Hp) (nH nT : Nat) (hH : ∀ j, (hpF j).H.length = nH) (hT : ∀ j, (hpF j).tk.length = nT) (n : Nat) (hn : n ≤ K.length)
    (hf : ∀ j (h : j < n) (h' : j < K.length), Eff M f (a ++ [K[j]] ++ c) (hpF j) fun d hp => d = .bool false ∧ hp = hpF (j + 1)) (r : Bool) (e : Nat)
    (hr : (n = K.length ∧ r = false ∧ e = n) ∨ (∃ h : n < K.length, r = true ∧ e = n + 1 ∧ Eff M f (a ++ [K[n]] ++ c) (hpF n) fun d hp => d = .bool true ∧ hp = hpF (n + 1))) :
    Eff M 53 [.slice K .no, .fn (.func f) a c] (hpF 0) fun d hp => d = .bool r ∧ hp = hpF e := by
  have c1 : Eff M 83 [.slice K .no, .fn (.func f) a c] (hpF 0) fun d hp => d = .int .i64 (if r then (n : Int) else -1) ∧ hp = hpF e :=
    if60 K hR hl f a c hpF nH nT hH hT n hn hf _ e (by
      rcases hr with ⟨h1, rfl, rfl⟩ | ⟨h1, rfl, rfl, h2⟩
      · exact .inl ⟨h1, by simp, rfl⟩
      · exact .inr ⟨h1, by simp, rfl, h2⟩)
  refine k53.oe nH nT rfl (hH 0).symm (hT 0).symm ?_
  rw [ie53]
  unfold c53
  cases r
  · simp only [Bool.false_eq_true, if_false] at c1
    repeat' (first | with_reducible (apply swq; constructor) | simp only [go_sem, seval, pe53, q53] | simp (disch := omega) only [w64, w32, wu8, wu16, wu32, wu64] | ((with_reducible refine zBs (c1) ?he ?hh ?_); (case he => first | rfl | (simp [go_sem, seval]; done)); (case hh => first | rfl | (simp [go_sem, seval]; done))) | with_reducible (apply cA; constructor) | ((with_reducible refine And.intro ?hw ?_); (case hw => first | omega | rfl | exact ⟨_, _, rfl⟩ | assumption | (simp only [lN] <;> omega))) | with_reducible intro _)
    all_goals exact ⟨_, zAh, by simp⟩
  · simp only [if_true] at c1
    repeat' (first | with_reducible (apply swq; constructor) | simp only [go_sem, seval, pe53, q53] | simp (disch := omega) only [w64, w32, wu8, wu16, wu32, wu64] | ((with_reducible refine zBs (c1) ?he ?hh ?_); (case he => first | rfl | (simp [go_sem, seval]; done)); (case hh => first | rfl | (simp [go_sem, seval]; done))) | with_reducible (apply cA; constructor) | ((with_reducible refine And.intro ?hw ?_); (case hw => first | omega | rfl | exact ⟨_, _, rfl⟩ | assumption | (simp only [lN] <;> omega))) | with_reducible intro _)
    all_goals refine ⟨_, zAh, by simp⟩
theorem rows_props (ps : List (List UInt8 × List UInt8)) : RowsK 2 (ps.map propD) := zFr _ (fun p => ⟨[.str p.1, .str p.2], rfl, rfl⟩) ps
theorem any_find {α : Type} (p : α → Bool) (l : List α) : (∃ i, ∃ h : i < l.length, p l[i] = true ∧ (∀ j (g : j < i), p (l[j]'(by omega)) = false) ∧ l.any p = true) ∨ ((∀ j (h : j < l.length), p l[j] = false) ∧ l.any p = false) := by
  rcases zE0 (p := fun x => p x = true) l with ⟨i, h, h1, h2⟩ | h
  · refine .inl ⟨i, h, h1, fun j g => by simpa using h2 j g, ?_⟩
    rw [List.any_eq_true]; exact ⟨l[i], List.getElem_mem h, h1⟩
  · refine .inr ⟨fun j hj => by simpa using h j hj, ?_⟩
    rw [List.any_eq_false]
    intro x hx
    obtain ⟨j, hj, rfl⟩ := List.getElem_of_mem hx
    exact h j hj
theorem any44 (ps : List (List UInt8 × List UInt8)) (hl : ps.length < 1000000) (f : FuncId) (c : List D) (hp : Hp) (p : List UInt8 × List UInt8 → Bool)
    (hf : ∀ x, Eff M f ([] ++ [propD x] ++ c) hp fun d h => d = .bool (p x) ∧ h = hp) : Eff M 51 [.slice (ps.map propD) .no, .fn (.func f) [] c] hp fun d h => d = .bool (ps.any p) ∧ h = hp := by
  have hlen : (ps.map propD).length = ps.length := by simp
  have e1 : ∀ j (h : j < ps.length), Eff M f ([] ++ [(ps.map propD)[j]'(by rw [hlen]; exact h)] ++ c) hp fun d h' => d = .bool (p ps[j]) ∧ h' = hp := fun j h => by
    simp only [List.getElem_map]; exact hf _
  rcases any_find p ps with ⟨i, h, h1, h2, h3⟩ | ⟨h, h3⟩
  · rw [h3]
    refine cf44 _ (rows_props ps) (by omega) f [] c (fun _ => hp) hp.H.length hp.tk.length (fun _ => rfl) (fun _ => rfl) i (by omega) (fun j hj hj' => ?_) true (i + 1) (.inr ⟨by omega, rfl, rfl, ?_⟩)
    · have := e1 j (by omega); rw [h2 j hj] at this; exact this
    · have := e1 i h; rw [h1] at this; exact this
  · rw [h3]
    refine cf44 _ (rows_props ps) (by omega) f [] c (fun _ => hp) hp.H.length hp.tk.length (fun _ => rfl) (fun _ => rfl) ps.length (by omega) (fun j hj hj' => ?_) false ps.length (.inl ⟨hlen.symm, rfl, rfl⟩)
    have := e1 j hj; rw [h j hj] at this; exact this
theorem any46 (ps : List Pt) (hl : ps.length < 1000000) (f : FuncId) (c : List D) (hp : Hp) (p : Pt → Bool)
    (hf : ∀ x, Eff M f ([] ++ [ptD x] ++ c) hp fun d h => d = .bool (p x) ∧ h = hp) : Eff M 53 [.slice (ps.map ptD) .no, .fn (.func f) [] c] hp fun d h => d = .bool (ps.any p) ∧ h = hp := by
  have hlen : (ps.map ptD).length = ps.length := by simp
  have e1 : ∀ j (h : j < ps.length), Eff M f ([] ++ [(ps.map ptD)[j]'(by rw [hlen]; exact h)] ++ c) hp fun d h' => d = .bool (p ps[j]) ∧ h' = hp := fun j h => by
    simp only [List.getElem_map]; exact hf _
  rcases any_find p ps with ⟨i, h, h1, h2, h3⟩ | ⟨h, h3⟩
  · rw [h3]
    refine cf46 _ (rows_P ps) (by omega) f [] c (fun _ => hp) hp.H.length hp.tk.length (fun _ => rfl) (fun _ => rfl) i (by omega) (fun j hj hj' => ?_) true (i + 1) (.inr ⟨by omega, rfl, rfl, ?_⟩)
    · have := e1 j (by omega); rw [h2 j hj] at this; exact this
    · have := e1 i h; rw [h1] at this; exact this
  · rw [h3]
    refine cf46 _ (rows_P ps) (by omega) f [] c (fun _ => hp) hp.H.length hp.tk.length (fun _ => rfl) (fun _ => rfl) ps.length (by omega) (fun j hj hj' => ?_) false ps.length (.inl ⟨hlen.symm, rfl, rfl⟩)
    have := e1 j hj; rw [h j hj] at this; exact this
theorem has45 (x : List UInt8 × List UInt8) (e : X) : Eff M 52 ([] ++ [propD x] ++ [.ptr 0 0]) ⟨[.cells e.cells], []⟩ fun d h => d = .bool (x.1 == e.nam) ∧ h = ⟨[.cells e.cells], []⟩ := by
  refine k52.oe 1 0 rfl rfl rfl ?_
  simp only [List.nil_append, List.cons_append]
  rw [ie52]
  unfold c52
  unfold propD
  repeat' (first | with_reducible (apply swq; constructor) | simp only [go_sem, seval, pe52, q52] | with_reducible (apply cA; constructor) | ((with_reducible refine And.intro ?hw ?_); (case hw => first | omega | rfl | exact ⟨_, _, rfl⟩ | assumption | (simp only [lN] <;> omega))) | with_reducible intro _)
  refine ⟨_, zB2 1 0 (Nat.le_refl _) (Nat.le_refl _), ?_⟩
  simp [St.gc, Hp.cut, D.rnL, D.rn, cutF, Blk.rn, Blk.rnL, Tv.rnL, Own.rn]
theorem fit47 (q : Pt) (part : List UInt8) (e : X) : Eff M 54 ([] ++ [ptD q] ++ [.ptr 0 0, .ptr 1 0]) ⟨[.cells [.str part], .cells e.cells], []⟩ fun d h => d = .bool (q.into == part && q.slot == e.nam && q.kind == e.val) ∧ h = ⟨[.cells [.str part], .cells e.cells], []⟩ := by
  refine k54.oe 2 0 rfl rfl rfl ?_
  simp only [List.nil_append, List.cons_append]
  rw [ie54]
  unfold c54
  unfold ptD
  repeat' (first | with_reducible (apply swq; constructor) | simp only [go_sem, seval, pe54, q54] | (with_reducible first | (apply cA; constructor) | (apply gA; constructor)) | ((with_reducible refine And.intro ?hw ?_); (case hw => first | omega | rfl | exact ⟨_, _, rfl⟩ | assumption | (simp only [lN] <;> omega))) | with_reducible intro _)
  all_goals refine ⟨_, zB2 2 0 (Nat.le_refl _) (Nat.le_refl _), ?_⟩
  all_goals simp [St.gc, Hp.cut, D.rnL, D.rn, cutF, Blk.rn, Blk.rnL, Tv.rnL, Own.rn]
  all_goals (intros; simp_all)
theorem index58 (l : List (List UInt8 × List UInt8)) (q : List UInt8 × List UInt8) (hl : l.length < 1000000) (n : Nat) (hn : n ≤ l.length) (hb : ∀ j (h : j < n), (q == l[j]'(by omega)) = false) (r : Int) (hr : (n = l.length ∧ r = -1) ∨ ∃ h : n < l.length, r = n ∧ (q == l[n]) = true) :
    Pur M 81 [.slice (l.map propD) .no, propD q] (.int .i64 r) := by
  refine k81.ok (C := C81) rfl rfl ?_
  rw [i81]
  unfold c81
  have hlen : (l.map propD).length = l.length := by simp
  unfold propD at hlen ⊢
  repeat' (first | with_reducible (apply swq; constructor) | simp only [go_sem, seval, P81, q81, hlen] | with_reducible (apply cA; constructor) | ((with_reducible refine And.intro ?hw ?_); (case hw => first | omega | rfl | exact ⟨_, _, rfl⟩ | assumption | (simp only [lN, hlen] <;> omega))) | with_reducible intro _)
  refine zAz [0, 1, 2, 3, 5, 6] (fun j : Nat => ⟨[.slice (l.map fun p => D.agg [.str p.1, .str p.2]) .no, .agg [.str q.1, .str q.2], .ptr 0 0, .int .i64 0, .u0, .int .i64 l.length, .int .i64 j, .u0, .u0], [], ⟨[.cells [.str q.1, .str q.2]], []⟩⟩) (fun j => j ≤ n) (fun j => l.length + 1 - j) 0 (by omega) ?_ ?_
  · simp [keepE, St.keep]
  · intro j hj
    by_cases hjl : j < l.length
    · have hg : (l.map propD).getD j .u0 = .agg [.str (l[j]).1, .str (l[j]).2] := by simp [List.getD, hjl, propD]
      unfold propD at hg
      have he : ∀ b, (q == l[j]) = b → (q.1 == (l[j]).1 && q.2 == (l[j]).2) = b := fun b h => by
        rw [← h]
        rfl
      by_cases hjn : j < n
      · have hb' := he _ (hb j hjn)
        repeat' (first | with_reducible (apply swq; constructor) | simp only [go_sem, seval, P81, q81, hlen, hg, eqDs, eqD, hb'] | simp (disch := omega) only [w64, w32, wu8, wu16, wu32, wu64] | with_reducible (apply cA; constructor) | ((with_reducible refine And.intro ?hw ?_); (case hw => first | omega | rfl | exact ⟨_, _, rfl⟩ | assumption | (simp only [lN, hlen, hg] <;> omega))) | with_reducible intro _)
        all_goals try omega
        all_goals first
          | (refine ⟨j + 1, by omega, by omega, ?_⟩; simp [St.keep, keepE])
          | skip
      · obtain rfl : j = n := by omega
        rcases hr with ⟨h1, _⟩ | ⟨h1, rfl, h2⟩
        · omega
        · have hb' := he _ h2
          repeat' (first | with_reducible (apply swq; constructor) | simp only [go_sem, seval, P81, q81, hlen, hg, eqDs, eqD, hb'] | simp (disch := omega) only [w64, w32, wu8, wu16, wu32, wu64] | with_reducible (apply cA; constructor) | ((with_reducible refine And.intro ?hw ?_); (case hw => first | omega | rfl | exact ⟨_, _, rfl⟩ | assumption | (simp only [lN, hlen, hg] <;> omega))) | with_reducible intro _)
          all_goals try omega
          all_goals simp [D.closed, D.er, D.cL, D.erL]
    · rcases hr with ⟨h1, rfl⟩ | ⟨h1, rfl, h2⟩
      · repeat' (first | with_reducible (apply swq; constructor) | simp only [go_sem, seval, P81, q81, hlen] | simp (disch := omega) only [w64, w32, wu8, wu16, wu32, wu64] | with_reducible (apply cA; constructor) | ((with_reducible refine And.intro ?hw ?_); (case hw => first | omega | rfl | exact ⟨_, _, rfl⟩ | assumption | (simp only [lN, hlen] <;> omega))) | with_reducible intro _)
        all_goals try omega
        all_goals simp [D.closed, D.er, D.cL, D.erL]
      · omega
theorem zCw (ps : List (List UInt8 × List UInt8)) : D.cL (ps.map propD) = true ∧ D.erL (ps.map propD) = ps.map propD := by
  induction ps with
  | nil => exact ⟨rfl, rfl⟩
  | cons p ps ih => simp [D.cL, D.erL, propD, D.closed, D.er] at ih ⊢; exact ih
theorem contains43 (l : List (List UInt8 × List UInt8)) (q : List UInt8 × List UInt8) (hl : l.length < 1000000) : Pur M 50 [.slice (l.map propD) .no, propD q] (.bool (l.contains q)) := by
  refine k50.ok (C := C50) rfl rfl ?_
  rw [i50]
  unfold c50
  have hc : l.contains q = l.any fun x => q == x := List.contains_eq_any_beq
  have hcl := (zCw l).1
  have her := (zCw l).2
  rw [hc]
  rcases any_find (fun x => q == x) l with ⟨i, h, h1, h2, h3⟩ | ⟨h, h3⟩
  · have c1 := index58 l q hl i (by omega) (fun j hj => h2 j hj) i (.inr ⟨h, rfl, h1⟩)
    rw [h3]
    unfold propD at c1 hcl her ⊢
    repeat' (first | with_reducible (apply swq; constructor) | simp only [go_sem, seval, P50, q50] | ((with_reducible refine zAb (c1) ?he ?hc ?_); (case he | hc => first | rfl | (simp [D.erL, D.er, D.cL, D.closed, hcl, her]; done))) | with_reducible (apply cA; constructor) | ((with_reducible refine And.intro ?hw ?_); (case hw => first | omega | rfl | exact ⟨_, _, rfl⟩ | assumption | (simp only [lN, hcl, her] <;> omega))) | with_reducible intro _)
    all_goals simp [D.closed, D.er, D.cL, D.erL]
  · have c1 := index58 l q hl l.length (Nat.le_refl _) (fun j hj => h j hj) (-1) (.inl ⟨rfl, rfl⟩)
    rw [h3]
    unfold propD at c1 hcl her ⊢
    repeat' (first | with_reducible (apply swq; constructor) | simp only [go_sem, seval, P50, q50] | ((with_reducible refine zAb (c1) ?he ?hc ?_); (case he | hc => first | rfl | (simp [D.erL, D.er, D.cL, D.closed, hcl, her]; done))) | with_reducible (apply cA; constructor) | ((with_reducible refine And.intro ?hw ?_); (case hw => first | omega | rfl | exact ⟨_, _, rfl⟩ | assumption | (simp only [lN, hcl, her] <;> omega))) | with_reducible intro _)
    all_goals simp [D.closed, D.er, D.cL, D.erL]
end Go.Proofs.YtcchbohfcmfmlaaGreat
end
section
set_option maxRecDepth 100000
set_option linter.unusedSimpArgs false
set_option linter.unusedVariables false
namespace Go.Proofs.YtcchbohfcmfmlaaGreat
open Go GoV Go.RowKit
theorem fold38 (fj f1 : FuncId) (c : List D) (hp : Hp) (J : Int → Int → Int) (g : Nat → Int) (a0 : Int) (n : Nat) (hn : n < 1000000) (hJ : ∀ a b, Pur M fj [.int .i64 a, .int .i64 b] (.int .i64 (J a b)))
    (hg : ∀ i, i < n → Eff M f1 ([] ++ [.int .i64 i] ++ c) hp fun d h => d = .int .i64 (g i) ∧ h = hp) :
    Eff M 42 [.fn (.func fj) [] [], .int .i64 a0, .int .i64 n, .fn (.func f1) [] c] hp fun d h => d = .int .i64 ((List.range n).foldl (fun a i => J a (g i)) a0) ∧ h = hp := by
  refine k42.oe hp.H.length hp.tk.length rfl rfl rfl ?_
  rw [ie42]
  unfold c42
  repeat' (first | with_reducible (apply swq; constructor) | simp only [go_sem, seval, pe42, q42] | with_reducible (apply cA; constructor) | ((with_reducible refine And.intro ?hw ?_); (case hw => first | omega | rfl | exact ⟨_, _, rfl⟩ | assumption | (simp only [lN] <;> omega))) | with_reducible intro _)
  refine zAz [0, 1, 2, 3, 6, 7] (fun i : Nat => ⟨[.fn (.func fj) [] [], .int .i64 ((List.range i).foldl (fun a i => J a (g i)) a0), .int .i64 n, .fn (.func f1) [] c, .u0, .u0, .int .i64 n, .int .i64 i, .u0], [], hp⟩) (fun i => i ≤ n) (fun i => n - i) 0 (by omega) ?_ ?_
  · simp [keepE, St.keep]
  · intro i hi
    by_cases hin : i < n
    · have c1 := hg i hin
      have c2 := hJ ((List.range i).foldl (fun a i => J a (g i)) a0) (g i)
      have hst : (List.range (i + 1)).foldl (fun a i => J a (g i)) a0 = J ((List.range i).foldl (fun a i => J a (g i)) a0) (g i) := by rw [List.range_succ, List.foldl_append]; rfl
      generalize (List.range i).foldl (fun a i => J a (g i)) a0 = z at *
      repeat' (first | with_reducible (apply swq; constructor) | simp only [go_sem, seval, pe42, q42] | simp (disch := omega) only [w64, w32, wu8, wu16, wu32, wu64] | ((with_reducible refine zBs (c1) ?he ?hh ?_); (case he => first | rfl | (simp [go_sem, seval]; done)); (case hh => first | rfl | (simp [go_sem, seval]; done))) | ((with_reducible refine zAb (c2) ?he ?hc ?_); (case he | hc => first | rfl | (simp [D.erL, D.er, D.cL, D.closed]; done))) | with_reducible (apply cA; constructor) | ((with_reducible refine And.intro ?hw ?_); (case hw => first | omega | rfl | exact ⟨_, _, rfl⟩ | assumption | (simp only [lN] <;> omega))) | with_reducible intro _)
      all_goals try omega
      all_goals refine ⟨i + 1, by omega, by omega, ?_⟩
      all_goals simp [keepE, St.keep, hst]
    · obtain rfl : i = n := by omega
      repeat' (first | with_reducible (apply swq; constructor) | simp only [go_sem, seval, pe42, q42] | simp (disch := omega) only [w64, w32, wu8, wu16, wu32, wu64] | with_reducible (apply cA; constructor) | ((with_reducible refine And.intro ?hw ?_); (case hw => first | omega | rfl | exact ⟨_, _, rfl⟩ | assumption | (simp only [lN] <;> omega))) | with_reducible intro _)
      all_goals try omega
      all_goals exact ⟨_, zAh, by simp⟩
theorem zEc {α : Type} [Inhabited α] (J : Int → Int → Int) (f : α → Int) : ∀ (l : List α) (a0 : Int), (List.range l.length).foldl (fun a i => J a (f (l.getD i default))) a0 = l.foldl (fun a x => J a (f x)) a0 := by
  intro l
  have gen : ∀ (n : Nat), n ≤ l.length → ∀ a0, (List.range n).foldl (fun a i => J a (f (l.getD i default))) a0 = (l.take n).foldl (fun a x => J a (f x)) a0 := by
    intro n
    induction n with
    | zero => intro _ a0; rfl
    | succ n ih =>
      intro h a0
      rw [List.range_succ, List.foldl_append, ih (by omega), List.take_succ_eq_append_getElem (by omega), List.foldl_append]
      simp [List.getD, show n < l.length by omega]
  intro a0
  rw [gen _ (Nat.le_refl _), List.take_length]
theorem askL_map (s : List Pt) (day : Int) : ∀ ks : List X, askL s day ks = ks.map (ask s day)
  | [] => rfl
  | k :: ks => by simp [askL, askL_map s day ks]
abbrev askH (s : List Pt) (day : Int) (x : X) (part : List UInt8) : Hp := ⟨[.cells [zAy s, .int .i64 day], .cells x.cells, .cells [.str part]], []⟩
abbrev eachH (s : List Pt) (day : Int) (x : X) (ns : List (List UInt8)) : Hp := ⟨[.cells [zAy s, .int .i64 day], .cells x.cells, .cells [.slice (strs ns) .no]], []⟩
abbrev zCe (s : List Pt) (day : Int) : D := .agg [zAy s, .int .i64 day]
theorem kid39 (s : List Pt) (day : Int) (x : X) (part : List UInt8) (i : Nat) (hi : i < x.kids.length) (ih : Pur M 25 [zCe s day, (x.kids[i]).d, .str part] (.int .i64 (ask s day x.kids[i] part))) :
    Eff M 43 ([] ++ [.int .i64 i] ++ [.ptr 0 0, .ptr 1 0, .ptr 2 0]) (askH s day x part) fun d h => d = .int .i64 (ask s day (x.kids.getD i default) part) ∧ h = askH s day x part := by
  have he : x.kids.getD i default = x.kids[i] := by simp [List.getD, hi]
  rw [he]
  refine k43.oe 3 0 rfl rfl rfl ?_
  simp only [List.nil_append, List.cons_append]
  rw [ie43]
  unfold c43 askH
  have hg : (x.kids.map X.d).getD i .u0 = .agg (x.kids[i]).cells := by simp [List.getD, hi, X.d_eq]
  have hlen : (x.kids.map X.d).length = x.kids.length := by simp
  have hcl := zAx s
  have her := erL_P s
  have hck := zBg (x.kids[i]).kids
  have hek := erL_X (x.kids[i]).kids
  rw [X.d_eq] at ih
  generalize x.kids[i] = y at *
  generalize ask s day y part = z at *
  repeat' (first | with_reducible (apply swq; constructor) | simp only [go_sem, seval, pe43, q43, hlen, hg] | ((with_reducible refine zAb (ih) ?he ?hc ?_); (case he | hc => first | rfl | (simp [D.erL, D.er, D.cL, D.closed, hcl, her, hck, hek, hlen, hg]; done))) | with_reducible (apply cA; constructor) | ((with_reducible refine And.intro ?hw ?_); (case hw => first | omega | rfl | exact ⟨_, _, rfl⟩ | assumption | (simp only [lN, hcl, her, hck, hek, hlen, hg] <;> omega))) | with_reducible intro _)
  all_goals try omega
  all_goals exact ⟨_, zAh, by simp⟩
theorem each49 (s : List Pt) (day : Int) (x : X) (ns : List (List UInt8)) (i : Nat) (hi : i < ns.length) (h0 : 0 < x.kids.length) (ih : Pur M 25 [zCe s day, (x.kids[0]).d, .str ns[i]] (.int .i64 (ask s day x.kids[0] ns[i]))) :
    Eff M 56 ([] ++ [.int .i64 i] ++ [.ptr 0 0, .ptr 1 0, .ptr 2 0]) (eachH s day x ns) fun d h => d = .int .i64 (ask s day (x.kids.getD 0 default) (ns.getD i default)) ∧ h = eachH s day x ns := by
  have he : x.kids.getD 0 default = x.kids[0] := by simp [List.getD, h0]
  have he2 : ns.getD i default = ns[i] := by simp [List.getD, hi]
  rw [he, he2]
  refine k56.oe 3 0 rfl rfl rfl ?_
  simp only [List.nil_append, List.cons_append]
  rw [ie56]
  unfold c56 eachH
  have hg : (x.kids.map X.d).getD 0 .u0 = .agg (x.kids[0]).cells := by simp [List.getD, h0, X.d_eq]
  have hlen : (x.kids.map X.d).length = x.kids.length := by simp
  have hg2 : (strs ns).getD i .u0 = .str ns[i] := by simp [strs, List.getD, hi]
  have hlen2 := zA9 ns
  have hcl := zAx s
  have her := erL_P s
  have hck := zBg (x.kids[0]).kids
  have hek := erL_X (x.kids[0]).kids
  rw [X.d_eq] at ih
  generalize x.kids[0] = y at *
  generalize ns[i] = nm at *
  generalize ask s day y nm = z at *
  repeat' (first | with_reducible (apply swq; constructor) | simp only [go_sem, seval, pe56, q56, hlen, hlen2, hg, hg2] | ((with_reducible refine zAb (ih) ?he ?hc ?_); (case he | hc => first | rfl | (simp [D.erL, D.er, D.cL, D.closed, hcl, her, hck, hek, hlen, hg, hg2, hlen2]; done))) | with_reducible (apply cA; constructor) | ((with_reducible refine And.intro ?hw ?_); (case hw => first | omega | rfl | exact ⟨_, _, rfl⟩ | assumption | (simp only [lN, hcl, her, hck, hek, hlen, hg, hg2, hlen2] <;> omega))) | with_reducible intro _)
  all_goals try omega
  all_goals exact ⟨_, zAh, by simp⟩
structure Sok (s : List Pt) : Prop where
  len : s.length ≤ 12
  prop : ∀ p ∈ s, p.props.length ≤ 65 ∧ -9223372036854775808 ≤ p.made ∧ -9223372036854775808 ≤ p.since
theorem Sok.find {s : List Pt} (h : Sok s) (nm : List UInt8) : (find0 s nm).props.length ≤ 65 ∧ -9223372036854775808 ≤ (find0 s nm).made ∧ -9223372036854775808 ≤ (find0 s nm).since := by
  unfold find0 getP
  cases e : s.find? fun p => p.name == nm with
  | none => exact ⟨by decide, by decide, by decide⟩
  | some p => exact h.prop p (List.mem_of_find?_eq_some e)
theorem lifeE_some {p : Pt} {cur : List UInt8} {day : Int} {v : Int × Int} (h : lifeV p cur day = some v) : lifeE cur day = 0 ∧ lifeD p cur day = ivD v := by
  refine ⟨?_, by simp [lifeD, h]⟩
  by_cases hk : known cur = false
  · rw [lifeV_none (.inl hk)] at h; cases h
  · by_cases hd : day < 0 ∨ day > 40000
    · rw [lifeV_none (.inr hd)] at h; cases h
    · unfold lifeE; rw [if_neg hk, if_neg hd]
theorem lifeE_none {p : Pt} {cur : List UInt8} {day : Int} (h : lifeV p cur day = none) : lifeE cur day ≠ 0 ∧ lifeD p cur day = ivD (0, 0) := by
  refine ⟨?_, by simp [lifeD, h]⟩
  by_cases hk : known cur = false
  · simp [lifeE, hk]
  · by_cases hd : day < 0 ∨ day > 40000
    · unfold lifeE; rw [if_neg hk, if_pos hd]; decide
    · exfalso
      have hk' : known cur = true := by simpa using hk
      unfold lifeV at h
      rw [if_neg hd] at h
      simp only [known, Bool.or_eq_true, beq_iff_eq] at hk'
      repeat' split at h
      all_goals first | (cases h; done) | simp_all
noncomputable def x28 : RC := (.seq (.seq (.seq (.reg r25_6) (.cond (.v 18) (.exit 1) .skip)) (.seq (.seq (.reg r25_7) (.cond (.v 19) (.exit 2) .skip)) (.seq (.seq (.reg r25_8) (.cond (.v 20) (.exit 3) .skip)) (.seq (.seq (.reg r25_9) (.cond (.v 21) (.exit 4) .skip)) (.seq (.seq (.reg r25_10) (.cond (.v 22) (.exit 5) .skip)) (.seq (.seq (.reg r25_11) (.cond (.v 23) (.exit 6) .skip)) (.seq (.seq (.reg r25_12) (.cond (.v 24) (.exit 7) .skip)) (.seq (.seq (.reg r25_13) (.cond (.v 25) (.exit 8) .skip)) (.seq (.reg r25_14) (.cond (.v 26) (.exit 9) .skip)))))))))) (.exit 0))
noncomputable def y28_1 : RC := (.seq (.seq (.reg r25_15) .ret) (.exit 0))
noncomputable def y28_2 : RC := (.seq (.seq (.reg r25_16) .ret) (.exit 0))
noncomputable def y28_3 : RC := (.seq (.seq (.reg r25_17) .ret) (.exit 0))
noncomputable def y28_4 : RC := (.seq (.seq (.reg r25_18) .ret) (.exit 0))
noncomputable def y28_5 : RC := (.reg r25_19)
noncomputable def y28_6 : RC := (.seq (.seq (.reg r25_20) (.seq (.seq (.reg r25_21) (.cond (.v 27) (.seq (.reg r25_22) .ret) .skip)) (.seq (.reg r25_23) (.seq (.seq (.reg r25_24) (.cond (.v 28) (.seq (.reg r25_25) .ret) .skip)) (.seq (.reg r25_26) .ret))))) (.exit 0))
noncomputable def y28_7 : RC := (.seq (.seq (.reg r25_27) .ret) (.exit 0))
noncomputable def y28_8 : RC := (.seq (.seq (.reg r25_28) .ret) (.exit 0))
noncomputable def y28_9 : RC := (.seq (.seq (.reg r25_29) .ret) (.exit 0))
noncomputable def rest28 : RC := (.seq (.reg r25_30) (.seq (.reg r25_31) (.seq (.reg r25_32) (.seq (.seq (.reg r25_33) (.block 10 (.seq (.reg r25_34) (.cond (.v 30) (.seq (.reg r25_35) .ret) (.seq (.reg r25_36) (.cond (.v 31) (.seq (.reg r25_37) .ret) .skip)))))) (.seq (.reg r25_38) .ret)))))
noncomputable def sw28 : RC := (.block 0 (.seq (.block 9 (.seq (.block 8 (.seq (.block 7 (.seq (.block 6 (.seq (.block 5 (.seq (.block 4 (.seq (.block 3 (.seq (.block 2 (.seq (.block 1 x28) y28_1)) y28_2)) y28_3)) y28_4)) y28_5)) y28_6)) y28_7)) y28_8)) y28_9))
theorem c28_eq : c25 = .seq (.reg r25_0) (.seq (.reg r25_1) (.seq (.reg r25_2) (.seq (.reg r25_3) (.seq (.reg r25_4) (.seq (.seq (.reg r25_5) sw28) rest28))))) := rfl
theorem disp_1 {X0 X1 X2 : D} {num op : Int} {hp : Hp} (h : op = 1) : ∀ Q : Ex → St → Prop, RetT C25 y28_1 ⟨[X0, X1, X2, .ptr 0 0, .ptr 1 0, .ptr 2 0, .int .i64 0, .ptr 3 0, .fn (.func 42) [] [], .fn (.func 43) [] [.ptr 0 0, .ptr 1 0, .ptr 2 0], .int .i64 num, .u0, .u0, .u0, .u0, .u0, .u0, .int .i64 op, .bool true, .u0, .u0, .u0, .u0, .u0, .u0, .u0, .u0, .u0, .u0, .u0, .u0, .u0], [], hp⟩ (Q .ret) → SWp C25 sw28 Q ⟨[X0, X1, X2, .ptr 0 0, .ptr 1 0, .ptr 2 0, .int .i64 0, .ptr 3 0, .fn (.func 42) [] [], .fn (.func 43) [] [.ptr 0 0, .ptr 1 0, .ptr 2 0], .int .i64 num, .u0, .u0, .u0, .u0, .u0, .u0, .int .i64 op, .u0, .u0, .u0, .u0, .u0, .u0, .u0, .u0, .u0, .u0, .u0, .u0, .u0, .u0], [], hp⟩ := by
  have e1 : (op == 1) = true := by simp [h]
  have h0 : ∀ Q : Ex → St → Prop, Q (.exit 1) ⟨[X0, X1, X2, .ptr 0 0, .ptr 1 0, .ptr 2 0, .int .i64 0, .ptr 3 0, .fn (.func 42) [] [], .fn (.func 43) [] [.ptr 0 0, .ptr 1 0, .ptr 2 0], .int .i64 num, .u0, .u0, .u0, .u0, .u0, .u0, .int .i64 op, .bool true, .u0, .u0, .u0, .u0, .u0, .u0, .u0, .u0, .u0, .u0, .u0, .u0, .u0], [], hp⟩ → SWp C25 x28 Q ⟨[X0, X1, X2, .ptr 0 0, .ptr 1 0, .ptr 2 0, .int .i64 0, .ptr 3 0, .fn (.func 42) [] [], .fn (.func 43) [] [.ptr 0 0, .ptr 1 0, .ptr 2 0], .int .i64 num, .u0, .u0, .u0, .u0, .u0, .u0, .int .i64 op, .u0, .u0, .u0, .u0, .u0, .u0, .u0, .u0, .u0, .u0, .u0, .u0, .u0, .u0], [], hp⟩ := by
    intro Q hQ
    unfold x28
    repeat' (first | with_reducible (apply swq; constructor) | simp only [go_sem, seval, P25, q25, e1] | with_reducible (apply cA; constructor) | ((with_reducible refine And.intro ?hw ?_); (case hw => first | omega | rfl | exact ⟨_, _, rfl⟩ | assumption | (simp only [lN] <;> omega))) | with_reducible intro _)
    exact hQ
  have h2 := zFu (i := 1) (y := y28_1) (h0)
  have h3 := ret_t h2
  exact zFt (zA2 (i := 9) (y := y28_9) (zA2 (i := 8) (y := y28_8) (zA2 (i := 7) (y := y28_7) (zA2 (i := 6) (y := y28_6) (zA2 (i := 5) (y := y28_5) (zA2 (i := 4) (y := y28_4) (zA2 (i := 3) (y := y28_3) (zA2 (i := 2) (y := y28_2) (h3)))))))))
theorem disp_2 {X0 X1 X2 : D} {num op : Int} {hp : Hp} (h : op = 2) : ∀ Q : Ex → St → Prop, RetT C25 y28_2 ⟨[X0, X1, X2, .ptr 0 0, .ptr 1 0, .ptr 2 0, .int .i64 0, .ptr 3 0, .fn (.func 42) [] [], .fn (.func 43) [] [.ptr 0 0, .ptr 1 0, .ptr 2 0], .int .i64 num, .u0, .u0, .u0, .u0, .u0, .u0, .int .i64 op, .bool false, .bool true, .u0, .u0, .u0, .u0, .u0, .u0, .u0, .u0, .u0, .u0, .u0, .u0], [], hp⟩ (Q .ret) → SWp C25 sw28 Q ⟨[X0, X1, X2, .ptr 0 0, .ptr 1 0, .ptr 2 0, .int .i64 0, .ptr 3 0, .fn (.func 42) [] [], .fn (.func 43) [] [.ptr 0 0, .ptr 1 0, .ptr 2 0], .int .i64 num, .u0, .u0, .u0, .u0, .u0, .u0, .int .i64 op, .u0, .u0, .u0, .u0, .u0, .u0, .u0, .u0, .u0, .u0, .u0, .u0, .u0, .u0], [], hp⟩ := by
  have e1 : (op == 1) = false := by simp [h]
  have e2 : (op == 2) = true := by simp [h]
  have h0 : ∀ Q : Ex → St → Prop, Q (.exit 2) ⟨[X0, X1, X2, .ptr 0 0, .ptr 1 0, .ptr 2 0, .int .i64 0, .ptr 3 0, .fn (.func 42) [] [], .fn (.func 43) [] [.ptr 0 0, .ptr 1 0, .ptr 2 0], .int .i64 num, .u0, .u0, .u0, .u0, .u0, .u0, .int .i64 op, .bool false, .bool true, .u0, .u0, .u0, .u0, .u0, .u0, .u0, .u0, .u0, .u0, .u0, .u0], [], hp⟩ → SWp C25 x28 Q ⟨[X0, X1, X2, .ptr 0 0, .ptr 1 0, .ptr 2 0, .int .i64 0, .ptr 3 0, .fn (.func 42) [] [], .fn (.func 43) [] [.ptr 0 0, .ptr 1 0, .ptr 2 0], .int .i64 num, .u0, .u0, .u0, .u0, .u0, .u0, .int .i64 op, .u0, .u0, .u0, .u0, .u0, .u0, .u0, .u0, .u0, .u0, .u0, .u0, .u0, .u0], [], hp⟩ := by
    intro Q hQ
    unfold x28
    repeat' (first | with_reducible (apply swq; constructor) | simp only [go_sem, seval, P25, q25, e1, e2] | with_reducible (apply cA; constructor) | ((with_reducible refine And.intro ?hw ?_); (case hw => first | omega | rfl | exact ⟨_, _, rfl⟩ | assumption | (simp only [lN] <;> omega))) | with_reducible intro _)
    exact hQ
  have h2 := zFu (i := 2) (y := y28_2) (zAn (i := 1) (y := y28_1) (by decide) (h0))
  have h3 := ret_t h2
  exact zFt (zA2 (i := 9) (y := y28_9) (zA2 (i := 8) (y := y28_8) (zA2 (i := 7) (y := y28_7) (zA2 (i := 6) (y := y28_6) (zA2 (i := 5) (y := y28_5) (zA2 (i := 4) (y := y28_4) (zA2 (i := 3) (y := y28_3) (h3))))))))
theorem disp_3 {X0 X1 X2 : D} {num op : Int} {hp : Hp} (h : op = 3) : ∀ Q : Ex → St → Prop, RetT C25 y28_3 ⟨[X0, X1, X2, .ptr 0 0, .ptr 1 0, .ptr 2 0, .int .i64 0, .ptr 3 0, .fn (.func 42) [] [], .fn (.func 43) [] [.ptr 0 0, .ptr 1 0, .ptr 2 0], .int .i64 num, .u0, .u0, .u0, .u0, .u0, .u0, .int .i64 op, .bool false, .bool false, .bool true, .u0, .u0, .u0, .u0, .u0, .u0, .u0, .u0, .u0, .u0, .u0], [], hp⟩ (Q .ret) → SWp C25 sw28 Q ⟨[X0, X1, X2, .ptr 0 0, .ptr 1 0, .ptr 2 0, .int .i64 0, .ptr 3 0, .fn (.func 42) [] [], .fn (.func 43) [] [.ptr 0 0, .ptr 1 0, .ptr 2 0], .int .i64 num, .u0, .u0, .u0, .u0, .u0, .u0, .int .i64 op, .u0, .u0, .u0, .u0, .u0, .u0, .u0, .u0, .u0, .u0, .u0, .u0, .u0, .u0], [], hp⟩ := by
  have e1 : (op == 1) = false := by simp [h]
  have e2 : (op == 2) = false := by simp [h]
  have e3 : (op == 3) = true := by simp [h]
  have h0 : ∀ Q : Ex → St → Prop, Q (.exit 3) ⟨[X0, X1, X2, .ptr 0 0, .ptr 1 0, .ptr 2 0, .int .i64 0, .ptr 3 0, .fn (.func 42) [] [], .fn (.func 43) [] [.ptr 0 0, .ptr 1 0, .ptr 2 0], .int .i64 num, .u0, .u0, .u0, .u0, .u0, .u0, .int .i64 op, .bool false, .bool false, .bool true, .u0, .u0, .u0, .u0, .u0, .u0, .u0, .u0, .u0, .u0, .u0], [], hp⟩ → SWp C25 x28 Q ⟨[X0, X1, X2, .ptr 0 0, .ptr 1 0, .ptr 2 0, .int .i64 0, .ptr 3 0, .fn (.func 42) [] [], .fn (.func 43) [] [.ptr 0 0, .ptr 1 0, .ptr 2 0], .int .i64 num, .u0, .u0, .u0, .u0, .u0, .u0, .int .i64 op, .u0, .u0, .u0, .u0, .u0, .u0, .u0, .u0, .u0, .u0, .u0, .u0, .u0, .u0], [], hp⟩ := by
    intro Q hQ
    unfold x28
    repeat' (first | with_reducible (apply swq; constructor) | simp only [go_sem, seval, P25, q25, e1, e2, e3] | with_reducible (apply cA; constructor) | ((with_reducible refine And.intro ?hw ?_); (case hw => first | omega | rfl | exact ⟨_, _, rfl⟩ | assumption | (simp only [lN] <;> omega))) | with_reducible intro _)
    exact hQ
  have h2 := zFu (i := 3) (y := y28_3) (zAn (i := 2) (y := y28_2) (by decide) (zAn (i := 1) (y := y28_1) (by decide) (h0)))
  have h3 := ret_t h2
  exact zFt (zA2 (i := 9) (y := y28_9) (zA2 (i := 8) (y := y28_8) (zA2 (i := 7) (y := y28_7) (zA2 (i := 6) (y := y28_6) (zA2 (i := 5) (y := y28_5) (zA2 (i := 4) (y := y28_4) (h3)))))))
theorem disp_4 {X0 X1 X2 : D} {num op : Int} {hp : Hp} (h : op = 4) : ∀ Q : Ex → St → Prop, RetT C25 y28_4 ⟨[X0, X1, X2, .ptr 0 0, .ptr 1 0, .ptr 2 0, .int .i64 0, .ptr 3 0, .fn (.func 42) [] [], .fn (.func 43) [] [.ptr 0 0, .ptr 1 0, .ptr 2 0], .int .i64 num, .u0, .u0, .u0, .u0, .u0, .u0, .int .i64 op, .bool false, .bool false, .bool false, .bool true, .u0, .u0, .u0, .u0, .u0, .u0, .u0, .u0, .u0, .u0], [], hp⟩ (Q .ret) → SWp C25 sw28 Q ⟨[X0, X1, X2, .ptr 0 0, .ptr 1 0, .ptr 2 0, .int .i64 0, .ptr 3 0, .fn (.func 42) [] [], .fn (.func 43) [] [.ptr 0 0, .ptr 1 0, .ptr 2 0], .int .i64 num, .u0, .u0, .u0, .u0, .u0, .u0, .int .i64 op, .u0, .u0, .u0, .u0, .u0, .u0, .u0, .u0, .u0, .u0, .u0, .u0, .u0, .u0], [], hp⟩ := by
  have e1 : (op == 1) = false := by simp [h]
  have e2 : (op == 2) = false := by simp [h]
  have e3 : (op == 3) = false := by simp [h]
  have e4 : (op == 4) = true := by simp [h]
  have h0 : ∀ Q : Ex → St → Prop, Q (.exit 4) ⟨[X0, X1, X2, .ptr 0 0, .ptr 1 0, .ptr 2 0, .int .i64 0, .ptr 3 0, .fn (.func 42) [] [], .fn (.func 43) [] [.ptr 0 0, .ptr 1 0, .ptr 2 0], .int .i64 num, .u0, .u0, .u0, .u0, .u0, .u0, .int .i64 op, .bool false, .bool false, .bool false, .bool true, .u0, .u0, .u0, .u0, .u0, .u0, .u0, .u0, .u0, .u0], [], hp⟩ → SWp C25 x28 Q ⟨[X0, X1, X2, .ptr 0 0, .ptr 1 0, .ptr 2 0, .int .i64 0, .ptr 3 0, .fn (.func 42) [] [], .fn (.func 43) [] [.ptr 0 0, .ptr 1 0, .ptr 2 0], .int .i64 num, .u0, .u0, .u0, .u0, .u0, .u0, .int .i64 op, .u0, .u0, .u0, .u0, .u0, .u0, .u0, .u0, .u0, .u0, .u0, .u0, .u0, .u0], [], hp⟩ := by
    intro Q hQ
    unfold x28
    repeat' (first | with_reducible (apply swq; constructor) | simp only [go_sem, seval, P25, q25, e1, e2, e3, e4] | with_reducible (apply cA; constructor) | ((with_reducible refine And.intro ?hw ?_); (case hw => first | omega | rfl | exact ⟨_, _, rfl⟩ | assumption | (simp only [lN] <;> omega))) | with_reducible intro _)
    exact hQ
  have h2 := zFu (i := 4) (y := y28_4) (zAn (i := 3) (y := y28_3) (by decide) (zAn (i := 2) (y := y28_2) (by decide) (zAn (i := 1) (y := y28_1) (by decide) (h0))))
  have h3 := ret_t h2
  exact zFt (zA2 (i := 9) (y := y28_9) (zA2 (i := 8) (y := y28_8) (zA2 (i := 7) (y := y28_7) (zA2 (i := 6) (y := y28_6) (zA2 (i := 5) (y := y28_5) (h3))))))
theorem disp_5 {X0 X1 X2 : D} {num op more : Int} {hp : Hp} (h : op = 5) (h19 : ∀ Q : Ex → St → Prop, Q .normal ⟨[X0, X1, X2, .ptr 0 0, .ptr 1 0, .ptr 2 0, .int .i64 0, .ptr 3 0, .fn (.func 42) [] [], .fn (.func 43) [] [.ptr 0 0, .ptr 1 0, .ptr 2 0], .int .i64 more, .u0, .u0, .u0, .u0, .u0, .u0, .int .i64 op, .bool false, .bool false, .bool false, .bool false, .bool true, .u0, .u0, .u0, .u0, .u0, .u0, .u0, .u0, .u0], [], hp⟩ → SWp C25 y28_5 Q ⟨[X0, X1, X2, .ptr 0 0, .ptr 1 0, .ptr 2 0, .int .i64 0, .ptr 3 0, .fn (.func 42) [] [], .fn (.func 43) [] [.ptr 0 0, .ptr 1 0, .ptr 2 0], .int .i64 num, .u0, .u0, .u0, .u0, .u0, .u0, .int .i64 op, .bool false, .bool false, .bool false, .bool false, .bool true, .u0, .u0, .u0, .u0, .u0, .u0, .u0, .u0, .u0], [], hp⟩) : ∀ Q : Ex → St → Prop, RetT C25 y28_6 ⟨[X0, X1, X2, .ptr 0 0, .ptr 1 0, .ptr 2 0, .int .i64 0, .ptr 3 0, .fn (.func 42) [] [], .fn (.func 43) [] [.ptr 0 0, .ptr 1 0, .ptr 2 0], .int .i64 more, .u0, .u0, .u0, .u0, .u0, .u0, .int .i64 op, .bool false, .bool false, .bool false, .bool false, .bool true, .u0, .u0, .u0, .u0, .u0, .u0, .u0, .u0, .u0], [], hp⟩ (Q .ret) → SWp C25 sw28 Q ⟨[X0, X1, X2, .ptr 0 0, .ptr 1 0, .ptr 2 0, .int .i64 0, .ptr 3 0, .fn (.func 42) [] [], .fn (.func 43) [] [.ptr 0 0, .ptr 1 0, .ptr 2 0], .int .i64 num, .u0, .u0, .u0, .u0, .u0, .u0, .int .i64 op, .u0, .u0, .u0, .u0, .u0, .u0, .u0, .u0, .u0, .u0, .u0, .u0, .u0, .u0], [], hp⟩ := by
  have e1 : (op == 1) = false := by simp [h]
  have e2 : (op == 2) = false := by simp [h]
  have e3 : (op == 3) = false := by simp [h]
  have e4 : (op == 4) = false := by simp [h]
  have e5 : (op == 5) = true := by simp [h]
  have h0 : ∀ Q : Ex → St → Prop, Q (.exit 5) ⟨[X0, X1, X2, .ptr 0 0, .ptr 1 0, .ptr 2 0, .int .i64 0, .ptr 3 0, .fn (.func 42) [] [], .fn (.func 43) [] [.ptr 0 0, .ptr 1 0, .ptr 2 0], .int .i64 num, .u0, .u0, .u0, .u0, .u0, .u0, .int .i64 op, .bool false, .bool false, .bool false, .bool false, .bool true, .u0, .u0, .u0, .u0, .u0, .u0, .u0, .u0, .u0], [], hp⟩ → SWp C25 x28 Q ⟨[X0, X1, X2, .ptr 0 0, .ptr 1 0, .ptr 2 0, .int .i64 0, .ptr 3 0, .fn (.func 42) [] [], .fn (.func 43) [] [.ptr 0 0, .ptr 1 0, .ptr 2 0], .int .i64 num, .u0, .u0, .u0, .u0, .u0, .u0, .int .i64 op, .u0, .u0, .u0, .u0, .u0, .u0, .u0, .u0, .u0, .u0, .u0, .u0, .u0, .u0], [], hp⟩ := by
    intro Q hQ
    unfold x28
    repeat' (first | with_reducible (apply swq; constructor) | simp only [go_sem, seval, P25, q25, e1, e2, e3, e4, e5] | with_reducible (apply cA; constructor) | ((with_reducible refine And.intro ?hw ?_); (case hw => first | omega | rfl | exact ⟨_, _, rfl⟩ | assumption | (simp only [lN] <;> omega))) | with_reducible intro _)
    exact hQ
  have h1 : ∀ Q : Ex → St → Prop, SWp C25 y28_5 Q _ → _ := zFu (i := 5) (y := y28_5) (zAn (i := 4) (y := y28_4) (by decide) (zAn (i := 3) (y := y28_3) (by decide) (zAn (i := 2) (y := y28_2) (by decide) (zAn (i := 1) (y := y28_1) (by decide) (h0)))))
  have h2 := px_norm (i := 6) (y := y28_6) (fun Q hq => h1 Q (h19 Q hq))
  have h3 := ret_t h2
  exact zFt (zA2 (i := 9) (y := y28_9) (zA2 (i := 8) (y := y28_8) (zA2 (i := 7) (y := y28_7) (h3))))
theorem disp_6 {X0 X1 X2 : D} {num op : Int} {hp : Hp} (h : op = 6) : ∀ Q : Ex → St → Prop, RetT C25 y28_6 ⟨[X0, X1, X2, .ptr 0 0, .ptr 1 0, .ptr 2 0, .int .i64 0, .ptr 3 0, .fn (.func 42) [] [], .fn (.func 43) [] [.ptr 0 0, .ptr 1 0, .ptr 2 0], .int .i64 num, .u0, .u0, .u0, .u0, .u0, .u0, .int .i64 op, .bool false, .bool false, .bool false, .bool false, .bool false, .bool true, .u0, .u0, .u0, .u0, .u0, .u0, .u0, .u0], [], hp⟩ (Q .ret) → SWp C25 sw28 Q ⟨[X0, X1, X2, .ptr 0 0, .ptr 1 0, .ptr 2 0, .int .i64 0, .ptr 3 0, .fn (.func 42) [] [], .fn (.func 43) [] [.ptr 0 0, .ptr 1 0, .ptr 2 0], .int .i64 num, .u0, .u0, .u0, .u0, .u0, .u0, .int .i64 op, .u0, .u0, .u0, .u0, .u0, .u0, .u0, .u0, .u0, .u0, .u0, .u0, .u0, .u0], [], hp⟩ := by
  have e1 : (op == 1) = false := by simp [h]
  have e2 : (op == 2) = false := by simp [h]
  have e3 : (op == 3) = false := by simp [h]
  have e4 : (op == 4) = false := by simp [h]
  have e5 : (op == 5) = false := by simp [h]
  have e6 : (op == 6) = true := by simp [h]
  have h0 : ∀ Q : Ex → St → Prop, Q (.exit 6) ⟨[X0, X1, X2, .ptr 0 0, .ptr 1 0, .ptr 2 0, .int .i64 0, .ptr 3 0, .fn (.func 42) [] [], .fn (.func 43) [] [.ptr 0 0, .ptr 1 0, .ptr 2 0], .int .i64 num, .u0, .u0, .u0, .u0, .u0, .u0, .int .i64 op, .bool false, .bool false, .bool false, .bool false, .bool false, .bool true, .u0, .u0, .u0, .u0, .u0, .u0, .u0, .u0], [], hp⟩ → SWp C25 x28 Q ⟨[X0, X1, X2, .ptr 0 0, .ptr 1 0, .ptr 2 0, .int .i64 0, .ptr 3 0, .fn (.func 42) [] [], .fn (.func 43) [] [.ptr 0 0, .ptr 1 0, .ptr 2 0], .int .i64 num, .u0, .u0, .u0, .u0, .u0, .u0, .int .i64 op, .u0, .u0, .u0, .u0, .u0, .u0, .u0, .u0, .u0, .u0, .u0, .u0, .u0, .u0], [], hp⟩ := by
    intro Q hQ
    unfold x28
    repeat' (first | with_reducible (apply swq; constructor) | simp only [go_sem, seval, P25, q25, e1, e2, e3, e4, e5, e6] | with_reducible (apply cA; constructor) | ((with_reducible refine And.intro ?hw ?_); (case hw => first | omega | rfl | exact ⟨_, _, rfl⟩ | assumption | (simp only [lN] <;> omega))) | with_reducible intro _)
    exact hQ
  have h2 := zFu (i := 6) (y := y28_6) (zAn (i := 5) (y := y28_5) (by decide) (zAn (i := 4) (y := y28_4) (by decide) (zAn (i := 3) (y := y28_3) (by decide) (zAn (i := 2) (y := y28_2) (by decide) (zAn (i := 1) (y := y28_1) (by decide) (h0))))))
  have h3 := ret_t h2
  exact zFt (zA2 (i := 9) (y := y28_9) (zA2 (i := 8) (y := y28_8) (zA2 (i := 7) (y := y28_7) (h3))))
theorem disp_7 {X0 X1 X2 : D} {num op : Int} {hp : Hp} (h : op = 7) : ∀ Q : Ex → St → Prop, RetT C25 y28_7 ⟨[X0, X1, X2, .ptr 0 0, .ptr 1 0, .ptr 2 0, .int .i64 0, .ptr 3 0, .fn (.func 42) [] [], .fn (.func 43) [] [.ptr 0 0, .ptr 1 0, .ptr 2 0], .int .i64 num, .u0, .u0, .u0, .u0, .u0, .u0, .int .i64 op, .bool false, .bool false, .bool false, .bool false, .bool false, .bool false, .bool true, .u0, .u0, .u0, .u0, .u0, .u0, .u0], [], hp⟩ (Q .ret) → SWp C25 sw28 Q ⟨[X0, X1, X2, .ptr 0 0, .ptr 1 0, .ptr 2 0, .int .i64 0, .ptr 3 0, .fn (.func 42) [] [], .fn (.func 43) [] [.ptr 0 0, .ptr 1 0, .ptr 2 0], .int .i64 num, .u0, .u0, .u0, .u0, .u0, .u0, .int .i64 op, .u0, .u0, .u0, .u0, .u0, .u0, .u0, .u0, .u0, .u0, .u0, .u0, .u0, .u0], [], hp⟩ := by
  have e1 : (op == 1) = false := by simp [h]
  have e2 : (op == 2) = false := by simp [h]
  have e3 : (op == 3) = false := by simp [h]
  have e4 : (op == 4) = false := by simp [h]
  have e5 : (op == 5) = false := by simp [h]
  have e6 : (op == 6) = false := by simp [h]
  have e7 : (op == 7) = true := by simp [h]
  have h0 : ∀ Q : Ex → St → Prop, Q (.exit 7) ⟨[X0, X1, X2, .ptr 0 0, .ptr 1 0, .ptr 2 0, .int .i64 0, .ptr 3 0, .fn (.func 42) [] [], .fn (.func 43) [] [.ptr 0 0, .ptr 1 0, .ptr 2 0], .int .i64 num, .u0, .u0, .u0, .u0, .u0, .u0, .int .i64 op, .bool false, .bool false, .bool false, .bool false, .bool false, .bool false, .bool true, .u0, .u0, .u0, .u0, .u0, .u0, .u0], [], hp⟩ → SWp C25 x28 Q ⟨[X0, X1, X2, .ptr 0 0, .ptr 1 0, .ptr 2 0, .int .i64 0, .ptr 3 0, .fn (.func 42) [] [], .fn (.func 43) [] [.ptr 0 0, .ptr 1 0, .ptr 2 0], .int .i64 num, .u0, .u0, .u0, .u0, .u0, .u0, .int .i64 op, .u0, .u0, .u0, .u0, .u0, .u0, .u0, .u0, .u0, .u0, .u0, .u0, .u0, .u0], [], hp⟩ := by
    intro Q hQ
    unfold x28
    repeat' (first | with_reducible (apply swq; constructor) | simp only [go_sem, seval, P25, q25, e1, e2, e3, e4, e5, e6, e7] | with_reducible (apply cA; constructor) | ((with_reducible refine And.intro ?hw ?_); (case hw => first | omega | rfl | exact ⟨_, _, rfl⟩ | assumption | (simp only [lN] <;> omega))) | with_reducible intro _)
    exact hQ
  have h2 := zFu (i := 7) (y := y28_7) (zAn (i := 6) (y := y28_6) (by decide) (zAn (i := 5) (y := y28_5) (by decide) (zAn (i := 4) (y := y28_4) (by decide) (zAn (i := 3) (y := y28_3) (by decide) (zAn (i := 2) (y := y28_2) (by decide) (zAn (i := 1) (y := y28_1) (by decide) (h0)))))))
  have h3 := ret_t h2
  exact zFt (zA2 (i := 9) (y := y28_9) (zA2 (i := 8) (y := y28_8) (h3)))
theorem disp_8 {X0 X1 X2 : D} {num op : Int} {hp : Hp} (h : op = 8) : ∀ Q : Ex → St → Prop, RetT C25 y28_8 ⟨[X0, X1, X2, .ptr 0 0, .ptr 1 0, .ptr 2 0, .int .i64 0, .ptr 3 0, .fn (.func 42) [] [], .fn (.func 43) [] [.ptr 0 0, .ptr 1 0, .ptr 2 0], .int .i64 num, .u0, .u0, .u0, .u0, .u0, .u0, .int .i64 op, .bool false, .bool false, .bool false, .bool false, .bool false, .bool false, .bool false, .bool true, .u0, .u0, .u0, .u0, .u0, .u0], [], hp⟩ (Q .ret) → SWp C25 sw28 Q ⟨[X0, X1, X2, .ptr 0 0, .ptr 1 0, .ptr 2 0, .int .i64 0, .ptr 3 0, .fn (.func 42) [] [], .fn (.func 43) [] [.ptr 0 0, .ptr 1 0, .ptr 2 0], .int .i64 num, .u0, .u0, .u0, .u0, .u0, .u0, .int .i64 op, .u0, .u0, .u0, .u0, .u0, .u0, .u0, .u0, .u0, .u0, .u0, .u0, .u0, .u0], [], hp⟩ := by
  have e1 : (op == 1) = false := by simp [h]
  have e2 : (op == 2) = false := by simp [h]
  have e3 : (op == 3) = false := by simp [h]
  have e4 : (op == 4) = false := by simp [h]
  have e5 : (op == 5) = false := by simp [h]
  have e6 : (op == 6) = false := by simp [h]
  have e7 : (op == 7) = false := by simp [h]
  have e8 : (op == 8) = true := by simp [h]
  have h0 : ∀ Q : Ex → St → Prop, Q (.exit 8) ⟨[X0, X1, X2, .ptr 0 0, .ptr 1 0, .ptr 2 0, .int .i64 0, .ptr 3 0, .fn (.func 42) [] [], .fn (.func 43) [] [.ptr 0 0, .ptr 1 0, .ptr 2 0], .int .i64 num, .u0, .u0, .u0, .u0, .u0, .u0, .int .i64 op, .bool false, .bool false, .bool false, .bool false, .bool false, .bool false, .bool false, .bool true, .u0, .u0, .u0, .u0, .u0, .u0], [], hp⟩ → SWp C25 x28 Q ⟨[X0, X1, X2, .ptr 0 0, .ptr 1 0, .ptr 2 0, .int .i64 0, .ptr 3 0, .fn (.func 42) [] [], .fn (.func 43) [] [.ptr 0 0, .ptr 1 0, .ptr 2 0], .int .i64 num, .u0, .u0, .u0, .u0, .u0, .u0, .int .i64 op, .u0, .u0, .u0, .u0, .u0, .u0, .u0, .u0, .u0, .u0, .u0, .u0, .u0, .u0], [], hp⟩ := by
    intro Q hQ
    unfold x28
    repeat' (first | with_reducible (apply swq; constructor) | simp only [go_sem, seval, P25, q25, e1, e2, e3, e4, e5, e6, e7, e8] | with_reducible (apply cA; constructor) | ((with_reducible refine And.intro ?hw ?_); (case hw => first | omega | rfl | exact ⟨_, _, rfl⟩ | assumption | (simp only [lN] <;> omega))) | with_reducible intro _)
    exact hQ
  have h2 := zFu (i := 8) (y := y28_8) (zAn (i := 7) (y := y28_7) (by decide) (zAn (i := 6) (y := y28_6) (by decide) (zAn (i := 5) (y := y28_5) (by decide) (zAn (i := 4) (y := y28_4) (by decide) (zAn (i := 3) (y := y28_3) (by decide) (zAn (i := 2) (y := y28_2) (by decide) (zAn (i := 1) (y := y28_1) (by decide) (h0))))))))
  have h3 := ret_t h2
  exact zFt (zA2 (i := 9) (y := y28_9) (h3))
theorem disp_9 {X0 X1 X2 : D} {num op : Int} {hp : Hp} (h : op = 9) : ∀ Q : Ex → St → Prop, RetT C25 y28_9 ⟨[X0, X1, X2, .ptr 0 0, .ptr 1 0, .ptr 2 0, .int .i64 0, .ptr 3 0, .fn (.func 42) [] [], .fn (.func 43) [] [.ptr 0 0, .ptr 1 0, .ptr 2 0], .int .i64 num, .u0, .u0, .u0, .u0, .u0, .u0, .int .i64 op, .bool false, .bool false, .bool false, .bool false, .bool false, .bool false, .bool false, .bool false, .bool true, .u0, .u0, .u0, .u0, .u0], [], hp⟩ (Q .ret) → SWp C25 sw28 Q ⟨[X0, X1, X2, .ptr 0 0, .ptr 1 0, .ptr 2 0, .int .i64 0, .ptr 3 0, .fn (.func 42) [] [], .fn (.func 43) [] [.ptr 0 0, .ptr 1 0, .ptr 2 0], .int .i64 num, .u0, .u0, .u0, .u0, .u0, .u0, .int .i64 op, .u0, .u0, .u0, .u0, .u0, .u0, .u0, .u0, .u0, .u0, .u0, .u0, .u0, .u0], [], hp⟩ := by
  have e1 : (op == 1) = false := by simp [h]
  have e2 : (op == 2) = false := by simp [h]
  have e3 : (op == 3) = false := by simp [h]
  have e4 : (op == 4) = false := by simp [h]
  have e5 : (op == 5) = false := by simp [h]
  have e6 : (op == 6) = false := by simp [h]
  have e7 : (op == 7) = false := by simp [h]
  have e8 : (op == 8) = false := by simp [h]
  have e9 : (op == 9) = true := by simp [h]
  have h0 : ∀ Q : Ex → St → Prop, Q (.exit 9) ⟨[X0, X1, X2, .ptr 0 0, .ptr 1 0, .ptr 2 0, .int .i64 0, .ptr 3 0, .fn (.func 42) [] [], .fn (.func 43) [] [.ptr 0 0, .ptr 1 0, .ptr 2 0], .int .i64 num, .u0, .u0, .u0, .u0, .u0, .u0, .int .i64 op, .bool false, .bool false, .bool false, .bool false, .bool false, .bool false, .bool false, .bool false, .bool true, .u0, .u0, .u0, .u0, .u0], [], hp⟩ → SWp C25 x28 Q ⟨[X0, X1, X2, .ptr 0 0, .ptr 1 0, .ptr 2 0, .int .i64 0, .ptr 3 0, .fn (.func 42) [] [], .fn (.func 43) [] [.ptr 0 0, .ptr 1 0, .ptr 2 0], .int .i64 num, .u0, .u0, .u0, .u0, .u0, .u0, .int .i64 op, .u0, .u0, .u0, .u0, .u0, .u0, .u0, .u0, .u0, .u0, .u0, .u0, .u0, .u0], [], hp⟩ := by
    intro Q hQ
    unfold x28
    repeat' (first | with_reducible (apply swq; constructor) | simp only [go_sem, seval, P25, q25, e1, e2, e3, e4, e5, e6, e7, e8, e9] | with_reducible (apply cA; constructor) | ((with_reducible refine And.intro ?hw ?_); (case hw => first | omega | rfl | exact ⟨_, _, rfl⟩ | assumption | (simp only [lN] <;> omega))) | with_reducible intro _)
    exact hQ
  have h2 := zFu (i := 9) (y := y28_9) (zAn (i := 8) (y := y28_8) (by decide) (zAn (i := 7) (y := y28_7) (by decide) (zAn (i := 6) (y := y28_6) (by decide) (zAn (i := 5) (y := y28_5) (by decide) (zAn (i := 4) (y := y28_4) (by decide) (zAn (i := 3) (y := y28_3) (by decide) (zAn (i := 2) (y := y28_2) (by decide) (zAn (i := 1) (y := y28_1) (by decide) (h0)))))))))
  have h3 := ret_t h2
  exact zFt (h3)
theorem disp_0 {X0 X1 X2 : D} {num op : Int} {hp : Hp} (h : 10 ≤ op) : ∀ Q : Ex → St → Prop, Q .normal ⟨[X0, X1, X2, .ptr 0 0, .ptr 1 0, .ptr 2 0, .int .i64 0, .ptr 3 0, .fn (.func 42) [] [], .fn (.func 43) [] [.ptr 0 0, .ptr 1 0, .ptr 2 0], .int .i64 num, .u0, .u0, .u0, .u0, .u0, .u0, .int .i64 op, .bool false, .bool false, .bool false, .bool false, .bool false, .bool false, .bool false, .bool false, .bool false, .u0, .u0, .u0, .u0, .u0], [], hp⟩ → SWp C25 sw28 Q ⟨[X0, X1, X2, .ptr 0 0, .ptr 1 0, .ptr 2 0, .int .i64 0, .ptr 3 0, .fn (.func 42) [] [], .fn (.func 43) [] [.ptr 0 0, .ptr 1 0, .ptr 2 0], .int .i64 num, .u0, .u0, .u0, .u0, .u0, .u0, .int .i64 op, .u0, .u0, .u0, .u0, .u0, .u0, .u0, .u0, .u0, .u0, .u0, .u0, .u0, .u0], [], hp⟩ := by
  have e1 : (op == 1) = false := by simp; omega
  have e2 : (op == 2) = false := by simp; omega
  have e3 : (op == 3) = false := by simp; omega
  have e4 : (op == 4) = false := by simp; omega
  have e5 : (op == 5) = false := by simp; omega
  have e6 : (op == 6) = false := by simp; omega
  have e7 : (op == 7) = false := by simp; omega
  have e8 : (op == 8) = false := by simp; omega
  have e9 : (op == 9) = false := by simp; omega
  have h0 : ∀ Q : Ex → St → Prop, Q (.exit 0) ⟨[X0, X1, X2, .ptr 0 0, .ptr 1 0, .ptr 2 0, .int .i64 0, .ptr 3 0, .fn (.func 42) [] [], .fn (.func 43) [] [.ptr 0 0, .ptr 1 0, .ptr 2 0], .int .i64 num, .u0, .u0, .u0, .u0, .u0, .u0, .int .i64 op, .bool false, .bool false, .bool false, .bool false, .bool false, .bool false, .bool false, .bool false, .bool false, .u0, .u0, .u0, .u0, .u0], [], hp⟩ → SWp C25 x28 Q ⟨[X0, X1, X2, .ptr 0 0, .ptr 1 0, .ptr 2 0, .int .i64 0, .ptr 3 0, .fn (.func 42) [] [], .fn (.func 43) [] [.ptr 0 0, .ptr 1 0, .ptr 2 0], .int .i64 num, .u0, .u0, .u0, .u0, .u0, .u0, .int .i64 op, .u0, .u0, .u0, .u0, .u0, .u0, .u0, .u0, .u0, .u0, .u0, .u0, .u0, .u0], [], hp⟩ := by
    intro Q hQ
    unfold x28
    repeat' (first | with_reducible (apply swq; constructor) | simp only [go_sem, seval, P25, q25, e1, e2, e3, e4, e5, e6, e7, e8, e9] | with_reducible (apply cA; constructor) | ((with_reducible refine And.intro ?hw ?_); (case hw => first | omega | rfl | exact ⟨_, _, rfl⟩ | assumption | (simp only [lN] <;> omega))) | with_reducible intro _)
    exact hQ
  exact px_out (zAn (i := 9) (y := y28_9) (by decide) (zAn (i := 8) (y := y28_8) (by decide) (zAn (i := 7) (y := y28_7) (by decide) (zAn (i := 6) (y := y28_6) (by decide) (zAn (i := 5) (y := y28_5) (by decide) (zAn (i := 4) (y := y28_4) (by decide) (zAn (i := 3) (y := y28_3) (by decide) (zAn (i := 2) (y := y28_2) (by decide) (zAn (i := 1) (y := y28_1) (by decide) (h0))))))))))
abbrev askP (s : List Pt) (day : Int) (x : X) (part : List UInt8) : Hp := ⟨[.cells [zAy s, .int .i64 day], .cells x.cells, .cells [.str part], .cells (find0 s part).cells], []⟩
theorem zCl (s : List Pt) (hs : Sok s) (day : Int) (x : X) (part : List UInt8) (Q : Ex → St → Prop) (h : SWp C25 sw28 (fun e s' => match e with | .normal => SWp C25 rest28 Q s' | e => Q e s') ⟨[zCe s day, .agg x.cells, .str part, .ptr 0 0, .ptr 1 0, .ptr 2 0, .int .i64 0, .ptr 3 0, .fn (.func 42) [] [], .fn (.func 43) [] [.ptr 0 0, .ptr 1 0, .ptr 2 0], .int .i64 x.num, .u0, .u0, .u0, .u0, .u0, .u0, .int .i64 x.op, .u0, .u0, .u0, .u0, .u0, .u0, .u0, .u0, .u0, .u0, .u0, .u0, .u0, .u0], [], askP s day x part⟩) :
    SWp C25 c25 Q ⟨[zCe s day, .agg x.cells, .str part, .u0, .u0, .u0, .u0, .u0, .u0, .u0, .u0, .u0, .u0, .u0, .u0, .u0, .u0, .u0, .u0, .u0, .u0, .u0, .u0, .u0, .u0, .u0, .u0, .u0, .u0, .u0, .u0, .u0], [], ⟨[], []⟩⟩ := by
  have cf := find_p s (by have := hs.len; omega) part
  have hcl := zAx s
  have her := erL_P s
  unfold ptD at cf
  rw [c28_eq]
  unfold askP at h
  generalize sw28 = SW at *
  generalize rest28 = RS at *
  repeat' (first | with_reducible (apply swq; constructor) | simp only [go_sem, seval, P25, q25] | ((with_reducible refine zAb (cf) ?he ?hc ?_); (case he | hc => first | rfl | (simp [D.erL, D.er, D.cL, D.closed, hcl, her]; done))) | with_reducible (apply cA; constructor) | ((with_reducible refine And.intro ?hw ?_); (case hw => first | omega | rfl | exact ⟨_, _, rfl⟩ | assumption | (simp only [lN, hcl, her] <;> omega))) | with_reducible intro _)
  exact h
def IH (s : List Pt) (day : Int) (x : X) : Prop := ∀ y ∈ x.kids, ∀ q : List UInt8, Pur M 25 [zCe s day, y.d, .str q] (.int .i64 (ask s day y q))
theorem zDq (s : List Pt) (day : Int) (x : X) (part : List UInt8) : ask s day x part = askN s day x.op x.nam x.val x.num x.ext (x.kids.map (ask s day)) part := by
  cases x; rw [ask, askL_map]; rfl
theorem zDp {s : List Pt} {day : Int} {x : X} {part : List UInt8} {v : Int} (e : ask s day x part = v) (h : Pur M 25 [zCe s day, .agg x.cells, .str part] (.int .i64 v)) : Pur M 25 [zCe s day, x.d, .str part] (.int .i64 (ask s day x part)) := by
  rw [X.d_eq, e]; exact h
theorem ask_1 (s : List Pt) (hs : Sok s) (day : Int) (x : X) (hsm : x.sm) (hw : well x = true) (ih : IH s day x) (part : List UInt8) (hop : x.op = 1) : Pur M 25 [zCe s day, x.d, .str part] (.int .i64 (ask s day x part)) := by
  obtain ⟨s1, s2, s3, s4⟩ := X.sm_parts hsm
  have hno := hw
  rw [X.well_eq, Bool.and_eq_true] at hno
  have hno := hno.1
  rw [hop] at hno
  obtain ⟨f1, f2, f3⟩ := hs.find part
  have hcl := zAx s
  have her := erL_P s
  have hkl : (x.kids.map X.d).length = x.kids.length := by simp
  refine zDp (v := 2) ?_ ?_
  · rw [zDq, hop]; rfl
  refine k25.ok (C := C25) rfl rfl ?_
  rw [i25]
  refine zCl s hs day x part _ ?_
  refine disp_1 hop _ ?_
  unfold RetT y28_1
  unfold askP
  repeat' (first | with_reducible (apply swq; constructor) | simp only [go_sem, seval, P25, q25] | with_reducible (apply cA; constructor) | ((with_reducible refine And.intro ?hw ?_); (case hw => first | omega | rfl | exact ⟨_, _, rfl⟩ | assumption | (simp only [lN, hcl, her] <;> omega))) | with_reducible intro _)
  all_goals first | omega | (simp_all [D.closed, D.er, D.cL, D.erL, setL]; done) | (simp_all [D.closed, D.er, D.cL, D.erL, setL] <;> omega)
theorem ask_2 (s : List Pt) (hs : Sok s) (day : Int) (x : X) (hsm : x.sm) (hw : well x = true) (ih : IH s day x) (part : List UInt8) (hop : x.op = 2) : Pur M 25 [zCe s day, x.d, .str part] (.int .i64 (ask s day x part)) := by
  obtain ⟨s1, s2, s3, s4⟩ := X.sm_parts hsm
  have hno := hw
  rw [X.well_eq, Bool.and_eq_true] at hno
  have hno := hno.1
  rw [hop] at hno
  obtain ⟨f1, f2, f3⟩ := hs.find part
  have hcl := zAx s
  have her := erL_P s
  have hkl : (x.kids.map X.d).length = x.kids.length := by simp
  have hkn : x.kids.length = 1 := by
    simp [zB7] at hno
    exact hno.1.1.1.1
  have c1 := kid39 s day x part 0 (by omega) (ih _ (List.getElem_mem (by omega)) part)
  have c2 := not_p (ask s day (x.kids.getD 0 default) part)
  unfold askH at c1
  have hval : ∀ y, x.kids = [y] → x.kids.getD 0 default = y := fun y h => by rw [h]; rfl
  refine zDp (v := notT (ask s day (x.kids.getD 0 default) part)) ?_ ?_
  · rw [zDq, hop]; obtain ⟨y, hy⟩ := List.length_eq_one_iff.1 hkn; rw [hval y hy, hy]; rfl
  refine k25.ok (C := C25) rfl rfl ?_
  rw [i25]
  refine zCl s hs day x part _ ?_
  refine disp_2 hop _ ?_
  unfold RetT y28_2
  unfold askP
  repeat' (first | with_reducible (apply swq; constructor) | simp only [go_sem, seval, P25, q25] | ((with_reducible refine o_eff [0, 1, 2] [] (c1) ?hs ?he ?hh ?_); (case hs => exact ⟨by simp, by simp, by simp, by simp⟩); (case he => first | rfl | (simp [go_sem, seval, hcl, her, D.rnL, D.rn, posF, Hp.sel, Blk.rnL, Blk.rn, Tv.rnL, idx, Own.rn, Hp.back, putAt, bakF]; done)); (case hh => first | rfl | (simp [go_sem, seval, hcl, her, D.rnL, D.rn, posF, Hp.sel, Blk.rnL, Blk.rn, Tv.rnL, idx, Own.rn, Hp.back, putAt, bakF]; done)); rintro _ _ ⟨rfl, rfl⟩) | ((with_reducible refine zAb (c2) ?he ?hc ?_); (case he | hc => first | rfl | (simp [D.erL, D.er, D.cL, D.closed, hcl, her, D.rnL, D.rn, posF, Hp.sel, Blk.rnL, Blk.rn, Tv.rnL, idx, Own.rn, Hp.back, putAt, bakF]; done))) | with_reducible (apply cA; constructor) | ((with_reducible refine And.intro ?hw ?_); (case hw => first | omega | rfl | exact ⟨_, _, rfl⟩ | assumption | (simp only [lN, hcl, her, D.rnL, D.rn, posF, Hp.sel, Blk.rnL, Blk.rn, Tv.rnL, idx, Own.rn, Hp.back, putAt, bakF] <;> omega))) | with_reducible intro _)
  all_goals first | omega | (simp_all [D.closed, D.er, D.cL, D.erL, setL]; done) | (simp_all [D.closed, D.er, D.cL, D.erL, setL] <;> omega)
theorem ask_3 (s : List Pt) (hs : Sok s) (day : Int) (x : X) (hsm : x.sm) (hw : well x = true) (ih : IH s day x) (part : List UInt8) (hop : x.op = 3) : Pur M 25 [zCe s day, x.d, .str part] (.int .i64 (ask s day x part)) := by
  obtain ⟨s1, s2, s3, s4⟩ := X.sm_parts hsm
  have hno := hw
  rw [X.well_eq, Bool.and_eq_true] at hno
  have hno := hno.1
  rw [hop] at hno
  obtain ⟨f1, f2, f3⟩ := hs.find part
  have hcl := zAx s
  have her := erL_P s
  have hkl : (x.kids.map X.d).length = x.kids.length := by simp
  have c1 := fold38 45 43 [.ptr 0 0, .ptr 1 0, .ptr 2 0] (askH s day x part) andT (fun i => ask s day (x.kids.getD i default) part) 2 x.kids.length (by omega) and_p (fun i hi => kid39 s day x part i hi (ih _ (List.getElem_mem hi) part))
  have hfr := zEc andT (fun y => ask s day y part) x.kids 2
  unfold askH at c1
  refine zDp (v := (List.range x.kids.length).foldl (fun a i => andT a (ask s day (x.kids.getD i default) part)) 2) ?_ ?_
  · rw [zDq, hop]; rw [hfr]; simp only [askN]; simp [List.foldl_map]
  refine k25.ok (C := C25) rfl rfl ?_
  rw [i25]
  refine zCl s hs day x part _ ?_
  refine disp_3 hop _ ?_
  unfold RetT y28_3
  unfold askP
  repeat' (first | with_reducible (apply swq; constructor) | simp only [go_sem, seval, P25, q25, hkl] | ((with_reducible refine o_eff [0, 1, 2] [] (c1) ?hs ?he ?hh ?_); (case hs => exact ⟨by simp, by simp, by simp, by simp⟩); (case he => first | rfl | (simp [go_sem, seval, hcl, her, D.rnL, D.rn, posF, Hp.sel, Blk.rnL, Blk.rn, Tv.rnL, idx, Own.rn, Hp.back, putAt, bakF, hkl]; done)); (case hh => first | rfl | (simp [go_sem, seval, hcl, her, D.rnL, D.rn, posF, Hp.sel, Blk.rnL, Blk.rn, Tv.rnL, idx, Own.rn, Hp.back, putAt, bakF, hkl]; done)); rintro _ _ ⟨rfl, rfl⟩) | with_reducible (apply cA; constructor) | ((with_reducible refine And.intro ?hw ?_); (case hw => first | omega | rfl | exact ⟨_, _, rfl⟩ | assumption | (simp only [lN, hcl, her, D.rnL, D.rn, posF, Hp.sel, Blk.rnL, Blk.rn, Tv.rnL, idx, Own.rn, Hp.back, putAt, bakF, hkl] <;> omega))) | with_reducible intro _)
  all_goals first | omega | (simp_all [D.closed, D.er, D.cL, D.erL, setL]; done) | (simp_all [D.closed, D.er, D.cL, D.erL, setL] <;> omega)
theorem ask_4 (s : List Pt) (hs : Sok s) (day : Int) (x : X) (hsm : x.sm) (hw : well x = true) (ih : IH s day x) (part : List UInt8) (hop : x.op = 4) : Pur M 25 [zCe s day, x.d, .str part] (.int .i64 (ask s day x part)) := by
  obtain ⟨s1, s2, s3, s4⟩ := X.sm_parts hsm
  have hno := hw
  rw [X.well_eq, Bool.and_eq_true] at hno
  have hno := hno.1
  rw [hop] at hno
  obtain ⟨f1, f2, f3⟩ := hs.find part
  have hcl := zAx s
  have her := erL_P s
  have hkl : (x.kids.map X.d).length = x.kids.length := by simp
  have c1 := fold38 46 43 [.ptr 0 0, .ptr 1 0, .ptr 2 0] (askH s day x part) orT (fun i => ask s day (x.kids.getD i default) part) 0 x.kids.length (by omega) or_p (fun i hi => kid39 s day x part i hi (ih _ (List.getElem_mem hi) part))
  have hfr := zEc orT (fun y => ask s day y part) x.kids 0
  unfold askH at c1
  refine zDp (v := (List.range x.kids.length).foldl (fun a i => orT a (ask s day (x.kids.getD i default) part)) 0) ?_ ?_
  · rw [zDq, hop]; rw [hfr]; simp only [askN]; simp [List.foldl_map]
  refine k25.ok (C := C25) rfl rfl ?_
  rw [i25]
  refine zCl s hs day x part _ ?_
  refine disp_4 hop _ ?_
  unfold RetT y28_4
  unfold askP
  repeat' (first | with_reducible (apply swq; constructor) | simp only [go_sem, seval, P25, q25, hkl] | ((with_reducible refine o_eff [0, 1, 2] [] (c1) ?hs ?he ?hh ?_); (case hs => exact ⟨by simp, by simp, by simp, by simp⟩); (case he => first | rfl | (simp [go_sem, seval, hcl, her, D.rnL, D.rn, posF, Hp.sel, Blk.rnL, Blk.rn, Tv.rnL, idx, Own.rn, Hp.back, putAt, bakF, hkl]; done)); (case hh => first | rfl | (simp [go_sem, seval, hcl, her, D.rnL, D.rn, posF, Hp.sel, Blk.rnL, Blk.rn, Tv.rnL, idx, Own.rn, Hp.back, putAt, bakF, hkl]; done)); rintro _ _ ⟨rfl, rfl⟩) | with_reducible (apply cA; constructor) | ((with_reducible refine And.intro ?hw ?_); (case hw => first | omega | rfl | exact ⟨_, _, rfl⟩ | assumption | (simp only [lN, hcl, her, D.rnL, D.rn, posF, Hp.sel, Blk.rnL, Blk.rn, Tv.rnL, idx, Own.rn, Hp.back, putAt, bakF, hkl] <;> omega))) | with_reducible intro _)
  all_goals first | omega | (simp_all [D.closed, D.er, D.cL, D.erL, setL]; done) | (simp_all [D.closed, D.er, D.cL, D.erL, setL] <;> omega)
theorem ask_5 (s : List Pt) (hs : Sok s) (day : Int) (x : X) (hsm : x.sm) (hw : well x = true) (ih : IH s day x) (part : List UInt8) (hop : x.op = 5) : Pur M 25 [zCe s day, x.d, .str part] (.int .i64 (ask s day x part)) := by
  have hno := hw
  rw [X.well_eq, Bool.and_eq_true] at hno
  have hno := hno.1
  rw [hop] at hno
  obtain ⟨f1, f2, f3⟩ := hs.find part
  have hcl := zAx s
  have her := erL_P s
  have hpc := (zCw (find0 s part).props).1
  have hpe := (zCw (find0 s part).props).2
  have hnum : 0 ≤ x.num ∧ x.num ≤ 9999999 ∧ 0 ≤ x.ext ∧ x.ext ≤ 9999999 ∨ x.op ≠ 5 := by
    by_cases h5 : x.op = 5
    · rw [h5] at hop
      left
      have h5' : (5 : Int) = 5 := hop
      simp [zB7, numOk] at hno; omega
    · exact .inr h5
  have cv := value_p (find0 s part) x.nam day f3 f2
  have e6 : (x.op == 6) = false := by simp [hop]
  cases hv : lifeV (find0 s part) x.nam day with
  | none =>
    obtain ⟨l1, l2⟩ := lifeE_none hv
    have l3 : (lifeE x.nam day != 0) = true := by simp [l1]
    refine zDp (v := 0) ?_ ?_
    · rw [zDq, hop]; simp only [askN]; simp [hv]
    refine k25.ok (C := C25) rfl rfl ?_
    rw [i25]
    refine zCl s hs day x part _ ?_
    refine disp_5 (more := x.num + x.ext) hop (fun Q hQ => ?_) _ ?_
    · unfold y28_5
      unfold askP
      repeat' (first | with_reducible (apply swq; constructor) | simp only [go_sem, seval, P25, q25] | simp (disch := omega) only [w64, w32, wu8, wu16, wu32, wu64] | with_reducible (apply cA; constructor) | ((with_reducible refine And.intro ?hw ?_); (case hw => first | omega | rfl | exact ⟨_, _, rfl⟩ | assumption | (simp only [lN] <;> omega))) | with_reducible intro _)
      exact hQ
    unfold RetT y28_6
    unfold askP
    rw [l2] at cv
    unfold ptD at cv
    repeat' (first | with_reducible (apply swq; constructor) | simp only [go_sem, seval, P25, q25, l3, e6] | ((with_reducible refine zAb (cv) ?he ?hc ?_); (case he | hc => first | rfl | (simp [D.erL, D.er, D.cL, D.closed, hcl, her, hpc, hpe]; done))) | with_reducible (apply cA; constructor) | ((with_reducible refine And.intro ?hw ?_); (case hw => first | omega | rfl | exact ⟨_, _, rfl⟩ | assumption | (simp only [lN, hcl, her, hpc, hpe] <;> omega))) | with_reducible intro _)
    all_goals first | omega | (simp_all [D.closed, D.er, D.cL, D.erL, setL]; done) | (simp_all [D.closed, D.er, D.cL, D.erL, setL] <;> omega)
  | some v =>
    obtain ⟨l1, l2⟩ := lifeE_some hv
    have co := over_p v (x.num + x.ext)
    have cn := not_p (overT v (x.num + x.ext))
    refine zDp (v := notT (overT v (x.num + x.ext))) ?_ ?_
    · rw [zDq, hop]; simp only [askN]; simp [hv]
    refine k25.ok (C := C25) rfl rfl ?_
    rw [i25]
    refine zCl s hs day x part _ ?_
    refine disp_5 (more := x.num + x.ext) hop (fun Q hQ => ?_) _ ?_
    · unfold y28_5
      unfold askP
      repeat' (first | with_reducible (apply swq; constructor) | simp only [go_sem, seval, P25, q25] | simp (disch := omega) only [w64, w32, wu8, wu16, wu32, wu64] | with_reducible (apply cA; constructor) | ((with_reducible refine And.intro ?hw ?_); (case hw => first | omega | rfl | exact ⟨_, _, rfl⟩ | assumption | (simp only [lN] <;> omega))) | with_reducible intro _)
      exact hQ
    unfold RetT y28_6
    unfold askP
    rw [l1, l2] at cv
    unfold ptD at cv
    generalize overT v (x.num + x.ext) = ov at *
    repeat' (first | with_reducible (apply swq; constructor) | simp only [go_sem, seval, P25, q25, e6] | ((with_reducible refine zAb (cv) ?he ?hc ?_); (case he | hc => first | rfl | (simp [D.erL, D.er, D.cL, D.closed, hcl, her, hpc, hpe]; done))) | ((with_reducible refine zAb (co) ?he ?hc ?_); (case he | hc => first | rfl | (simp [D.erL, D.er, D.cL, D.closed, hcl, her, hpc, hpe]; done))) | ((with_reducible refine zAb (cn) ?he ?hc ?_); (case he | hc => first | rfl | (simp [D.erL, D.er, D.cL, D.closed, hcl, her, hpc, hpe]; done))) | with_reducible (apply cA; constructor) | ((with_reducible refine And.intro ?hw ?_); (case hw => first | omega | rfl | exact ⟨_, _, rfl⟩ | assumption | (simp only [lN, hcl, her, hpc, hpe] <;> omega))) | with_reducible intro _)
    all_goals first | omega | (simp_all [D.closed, D.er, D.cL, D.erL, setL]; done) | (simp_all [D.closed, D.er, D.cL, D.erL, setL] <;> omega)
theorem ask_6 (s : List Pt) (hs : Sok s) (day : Int) (x : X) (hsm : x.sm) (hw : well x = true) (ih : IH s day x) (part : List UInt8) (hop : x.op = 6) : Pur M 25 [zCe s day, x.d, .str part] (.int .i64 (ask s day x part)) := by
  have hno := hw
  rw [X.well_eq, Bool.and_eq_true] at hno
  have hno := hno.1
  rw [hop] at hno
  obtain ⟨f1, f2, f3⟩ := hs.find part
  have hcl := zAx s
  have her := erL_P s
  have hpc := (zCw (find0 s part).props).1
  have hpe := (zCw (find0 s part).props).2
  have hnum : 0 ≤ x.num ∧ x.num ≤ 9999999 ∧ 0 ≤ x.ext ∧ x.ext ≤ 9999999 ∨ x.op ≠ 5 := by
    by_cases h5 : x.op = 5
    · rw [h5] at hop
      left
      have h5' : (5 : Int) = 6 := hop
      omega
    · exact .inr h5
  have cv := value_p (find0 s part) x.nam day f3 f2
  have e6 : (x.op == 6) = true := by simp [hop]
  cases hv : lifeV (find0 s part) x.nam day with
  | none =>
    obtain ⟨l1, l2⟩ := lifeE_none hv
    have l3 : (lifeE x.nam day != 0) = true := by simp [l1]
    refine zDp (v := 0) ?_ ?_
    · rw [zDq, hop]; simp only [askN]; simp [hv]
    refine k25.ok (C := C25) rfl rfl ?_
    rw [i25]
    refine zCl s hs day x part _ ?_
    refine disp_6 hop _ ?_
    unfold RetT y28_6
    unfold askP
    rw [l2] at cv
    unfold ptD at cv
    repeat' (first | with_reducible (apply swq; constructor) | simp only [go_sem, seval, P25, q25, l3, e6] | ((with_reducible refine zAb (cv) ?he ?hc ?_); (case he | hc => first | rfl | (simp [D.erL, D.er, D.cL, D.closed, hcl, her, hpc, hpe]; done))) | with_reducible (apply cA; constructor) | ((with_reducible refine And.intro ?hw ?_); (case hw => first | omega | rfl | exact ⟨_, _, rfl⟩ | assumption | (simp only [lN, hcl, her, hpc, hpe] <;> omega))) | with_reducible intro _)
    all_goals first | omega | (simp_all [D.closed, D.er, D.cL, D.erL, setL]; done) | (simp_all [D.closed, D.er, D.cL, D.erL, setL] <;> omega)
  | some v =>
    obtain ⟨l1, l2⟩ := lifeE_some hv
    have co := over_p v (x.num)
    have cn := not_p (overT v (x.num))
    refine zDp (v := overT v x.num) ?_ ?_
    · rw [zDq, hop]; simp only [askN]; simp [hv]
    refine k25.ok (C := C25) rfl rfl ?_
    rw [i25]
    refine zCl s hs day x part _ ?_
    refine disp_6 hop _ ?_
    unfold RetT y28_6
    unfold askP
    rw [l1, l2] at cv
    unfold ptD at cv
    generalize overT v (x.num) = ov at *
    repeat' (first | with_reducible (apply swq; constructor) | simp only [go_sem, seval, P25, q25, e6] | ((with_reducible refine zAb (cv) ?he ?hc ?_); (case he | hc => first | rfl | (simp [D.erL, D.er, D.cL, D.closed, hcl, her, hpc, hpe]; done))) | ((with_reducible refine zAb (co) ?he ?hc ?_); (case he | hc => first | rfl | (simp [D.erL, D.er, D.cL, D.closed, hcl, her, hpc, hpe]; done))) | ((with_reducible refine zAb (cn) ?he ?hc ?_); (case he | hc => first | rfl | (simp [D.erL, D.er, D.cL, D.closed, hcl, her, hpc, hpe]; done))) | with_reducible (apply cA; constructor) | ((with_reducible refine And.intro ?hw ?_); (case hw => first | omega | rfl | exact ⟨_, _, rfl⟩ | assumption | (simp only [lN, hcl, her, hpc, hpe] <;> omega))) | with_reducible intro _)
    all_goals first | omega | (simp_all [D.closed, D.er, D.cL, D.erL, setL]; done) | (simp_all [D.closed, D.er, D.cL, D.erL, setL] <;> omega)
theorem ask_7 (s : List Pt) (hs : Sok s) (day : Int) (x : X) (hsm : x.sm) (hw : well x = true) (ih : IH s day x) (part : List UInt8) (hop : x.op = 7) : Pur M 25 [zCe s day, x.d, .str part] (.int .i64 (ask s day x part)) := by
  obtain ⟨s1, s2, s3, s4⟩ := X.sm_parts hsm
  have hno := hw
  rw [X.well_eq, Bool.and_eq_true] at hno
  have hno := hno.1
  rw [hop] at hno
  obtain ⟨f1, f2, f3⟩ := hs.find part
  have hcl := zAx s
  have her := erL_P s
  have hkl : (x.kids.map X.d).length = x.kids.length := by simp
  have c1 := contains43 (find0 s part).props (x.nam, x.val) (by omega)
  have c2 := tr_p ((find0 s part).props.contains (x.nam, x.val))
  have hpc := (zCw (find0 s part).props).1
  have hpe := (zCw (find0 s part).props).2
  unfold propD at c1 hpc hpe
  refine zDp (v := zEd ((find0 s part).props.contains (x.nam, x.val))) ?_ ?_
  · rw [zDq, hop]; simp only [askN]; simp
  refine k25.ok (C := C25) rfl rfl ?_
  rw [i25]
  refine zCl s hs day x part _ ?_
  refine disp_7 hop _ ?_
  unfold RetT y28_7
  unfold askP
  repeat' (first | with_reducible (apply swq; constructor) | simp only [go_sem, seval, P25, q25, fillL] | ((with_reducible refine zAb (c1) ?he ?hc ?_); (case he | hc => first | rfl | (simp [D.erL, D.er, D.cL, D.closed, hcl, her, hpc, hpe]; done))) | ((with_reducible refine zAb (c2) ?he ?hc ?_); (case he | hc => first | rfl | (simp [D.erL, D.er, D.cL, D.closed, hcl, her, hpc, hpe]; done))) | with_reducible (apply cA; constructor) | ((with_reducible refine And.intro ?hw ?_); (case hw => first | omega | rfl | exact ⟨_, _, rfl⟩ | assumption | (simp only [lN, hcl, her, hpc, hpe] <;> omega))) | with_reducible intro _)
  all_goals first | omega | (simp_all [D.closed, D.er, D.cL, D.erL, setL]; done) | (simp_all [D.closed, D.er, D.cL, D.erL, setL] <;> omega)
theorem ask_8 (s : List Pt) (hs : Sok s) (day : Int) (x : X) (hsm : x.sm) (hw : well x = true) (ih : IH s day x) (part : List UInt8) (hop : x.op = 8) : Pur M 25 [zCe s day, x.d, .str part] (.int .i64 (ask s day x part)) := by
  obtain ⟨s1, s2, s3, s4⟩ := X.sm_parts hsm
  have hno := hw
  rw [X.well_eq, Bool.and_eq_true] at hno
  have hno := hno.1
  rw [hop] at hno
  obtain ⟨f1, f2, f3⟩ := hs.find part
  have hcl := zAx s
  have her := erL_P s
  have hkl : (x.kids.map X.d).length = x.kids.length := by simp
  have c1 := any44 (find0 s part).props (by omega) 52 [.ptr 0 0] ⟨[.cells x.cells], []⟩ (fun y => y.1 == x.nam) (fun y => has45 y x)
  have c2 := tr_p ((find0 s part).props.any fun y => y.1 == x.nam)
  refine zDp (v := zEd ((find0 s part).props.any fun y => y.1 == x.nam)) ?_ ?_
  · rw [zDq, hop]; simp only [askN]; simp
  refine k25.ok (C := C25) rfl rfl ?_
  rw [i25]
  refine zCl s hs day x part _ ?_
  refine disp_8 hop _ ?_
  unfold RetT y28_8
  unfold askP
  repeat' (first | with_reducible (apply swq; constructor) | simp only [go_sem, seval, P25, q25] | ((with_reducible refine o_eff [1] [] (c1) ?hs ?he ?hh ?_); (case hs => exact ⟨by simp, by simp, by simp, by simp⟩); (case he => first | rfl | (simp [go_sem, seval, hcl, her, D.rnL, D.rn, posF, Hp.sel, Blk.rnL, Blk.rn, Tv.rnL, idx, Own.rn, Hp.back, putAt, bakF]; done)); (case hh => first | rfl | (simp [go_sem, seval, hcl, her, D.rnL, D.rn, posF, Hp.sel, Blk.rnL, Blk.rn, Tv.rnL, idx, Own.rn, Hp.back, putAt, bakF]; done)); rintro _ _ ⟨rfl, rfl⟩) | ((with_reducible refine zAb (c2) ?he ?hc ?_); (case he | hc => first | rfl | (simp [D.erL, D.er, D.cL, D.closed, hcl, her, D.rnL, D.rn, posF, Hp.sel, Blk.rnL, Blk.rn, Tv.rnL, idx, Own.rn, Hp.back, putAt, bakF]; done))) | with_reducible (apply cA; constructor) | ((with_reducible refine And.intro ?hw ?_); (case hw => first | omega | rfl | exact ⟨_, _, rfl⟩ | assumption | (simp only [lN, hcl, her, D.rnL, D.rn, posF, Hp.sel, Blk.rnL, Blk.rn, Tv.rnL, idx, Own.rn, Hp.back, putAt, bakF] <;> omega))) | with_reducible intro _)
  all_goals first | omega | (simp_all [D.closed, D.er, D.cL, D.erL, setL]; done) | (simp_all [D.closed, D.er, D.cL, D.erL, setL] <;> omega)
theorem ask_9 (s : List Pt) (hs : Sok s) (day : Int) (x : X) (hsm : x.sm) (hw : well x = true) (ih : IH s day x) (part : List UInt8) (hop : x.op = 9) : Pur M 25 [zCe s day, x.d, .str part] (.int .i64 (ask s day x part)) := by
  obtain ⟨s1, s2, s3, s4⟩ := X.sm_parts hsm
  have hno := hw
  rw [X.well_eq, Bool.and_eq_true] at hno
  have hno := hno.1
  rw [hop] at hno
  obtain ⟨f1, f2, f3⟩ := hs.find part
  have hcl := zAx s
  have her := erL_P s
  have hkl : (x.kids.map X.d).length = x.kids.length := by simp
  have c1 := any46 s (by have := hs.len; omega) 54 [.ptr 0 0, .ptr 1 0] ⟨[.cells [.str part], .cells x.cells], []⟩ (fun q => q.into == part && q.slot == x.nam && q.kind == x.val) (fun q => fit47 q part x)
  have c2 := tr_p (s.any fun q => q.into == part && q.slot == x.nam && q.kind == x.val)
  refine zDp (v := zEd (s.any fun q => q.into == part && q.slot == x.nam && q.kind == x.val)) ?_ ?_
  · rw [zDq, hop]; simp only [askN]; simp
  refine k25.ok (C := C25) rfl rfl ?_
  rw [i25]
  refine zCl s hs day x part _ ?_
  refine disp_9 hop _ ?_
  unfold RetT y28_9
  unfold askP
  repeat' (first | with_reducible (apply swq; constructor) | simp only [go_sem, seval, P25, q25] | ((with_reducible refine o_eff [2, 1] [] (c1) ?hs ?he ?hh ?_); (case hs => exact ⟨by simp, by simp, by simp, by simp⟩); (case he => first | rfl | (simp [go_sem, seval, hcl, her, D.rnL, D.rn, posF, Hp.sel, Blk.rnL, Blk.rn, Tv.rnL, idx, Own.rn, Hp.back, putAt, bakF]; done)); (case hh => first | rfl | (simp [go_sem, seval, hcl, her, D.rnL, D.rn, posF, Hp.sel, Blk.rnL, Blk.rn, Tv.rnL, idx, Own.rn, Hp.back, putAt, bakF]; done)); rintro _ _ ⟨rfl, rfl⟩) | ((with_reducible refine zAb (c2) ?he ?hc ?_); (case he | hc => first | rfl | (simp [D.erL, D.er, D.cL, D.closed, hcl, her, D.rnL, D.rn, posF, Hp.sel, Blk.rnL, Blk.rn, Tv.rnL, idx, Own.rn, Hp.back, putAt, bakF]; done))) | with_reducible (apply cA; constructor) | ((with_reducible refine And.intro ?hw ?_); (case hw => first | omega | rfl | exact ⟨_, _, rfl⟩ | assumption | (simp only [lN, hcl, her, D.rnL, D.rn, posF, Hp.sel, Blk.rnL, Blk.rn, Tv.rnL, idx, Own.rn, Hp.back, putAt, bakF] <;> omega))) | with_reducible intro _)
  all_goals first | omega | (simp_all [D.closed, D.er, D.cL, D.erL, setL]; done) | (simp_all [D.closed, D.er, D.cL, D.erL, setL] <;> omega)
theorem ask_10 (s : List Pt) (hs : Sok s) (day : Int) (x : X) (hsm : x.sm) (hw : well x = true) (ih : IH s day x) (part : List UInt8) (hop : x.op = 10) : Pur M 25 [zCe s day, x.d, .str part] (.int .i64 (ask s day x part)) := by
  obtain ⟨s1, s2, s3, s4⟩ := X.sm_parts hsm
  have hno := hw
  rw [X.well_eq, Bool.and_eq_true] at hno
  have hno := hno.1
  rw [hop] at hno
  have hcl := zAx s
  have her := erL_P s
  have ck := kinds_p s hs.len day part x.nam
  have hkle : (zAq s part x.nam).length < 1000000 := Nat.lt_of_le_of_lt (List.length_filter_le _ _) (zC6 hs.len part)
  have hsl := zA9 (zAq s part x.nam)
  have hrs := fun β τ => zEw β τ (zAq s part x.nam)
  have e10 : (x.op == 10) = true := by simp [hop]
  have e11 : (x.op == 11) = false := by simp [hop]
  have hkn : x.kids.length = 1 := by
    simp [zB7] at hno
    omega
  have c1 := fold38 45 56 [.ptr 0 0, .ptr 1 0, .ptr 2 0] (eachH s day x (zAq s part x.nam)) andT (fun i => ask s day (x.kids.getD 0 default) ((zAq s part x.nam).getD i default)) 2 (zAq s part x.nam).length hkle and_p (fun i hi => each49 s day x _ i hi (by omega) (ih _ (List.getElem_mem (by omega)) _))
  have hfr := zEc andT (fun m => ask s day (x.kids.getD 0 default) m) (zAq s part x.nam) 2
  have hhd : (x.kids.map (ask s day)).headD (fun _ => 0) = ask s day (x.kids.getD 0 default) := by
    obtain ⟨y, hy⟩ := List.length_eq_one_iff.1 hkn
    rw [hy]; rfl
  unfold eachH at c1
  refine zDp (v := (List.range (zAq s part x.nam).length).foldl (fun a i => andT a (ask s day (x.kids.getD 0 default) ((zAq s part x.nam).getD i default))) 2) ?_ ?_
  · rw [zDq, hop]; rw [hfr]; simp only [askN, hhd]; simp
  refine k25.ok (C := C25) rfl rfl ?_
  rw [i25]
  refine zCl s hs day x part _ ?_
  refine disp_0 (by omega) _ ?_
  unfold rest28
  unfold askP
  repeat' (first | with_reducible (apply swq; constructor) | simp only [go_sem, seval, P25, q25, e10, e11, hsl] | ((with_reducible refine zAb (ck) ?he ?hc ?_); (case he | hc => first | rfl | (simp [D.erL, D.er, D.cL, D.closed, hcl, her, hsl, hrs, D.rnL, D.rn, posF, Hp.sel, Blk.rnL, Blk.rn, Tv.rnL, idx, Own.rn, Hp.back, putAt, bakF]; done))) | ((with_reducible refine o_eff [0, 1, 4] [] (c1) ?hs ?he ?hh ?_); (case hs => exact ⟨by simp, by simp, by simp, by simp⟩); (case he => first | rfl | (simp [go_sem, seval, hcl, her, hsl, hrs, D.rnL, D.rn, posF, Hp.sel, Blk.rnL, Blk.rn, Tv.rnL, idx, Own.rn, Hp.back, putAt, bakF]; done)); (case hh => first | rfl | (simp [go_sem, seval, hcl, her, hsl, hrs, D.rnL, D.rn, posF, Hp.sel, Blk.rnL, Blk.rn, Tv.rnL, idx, Own.rn, Hp.back, putAt, bakF]; done)); rintro _ _ ⟨rfl, rfl⟩) | with_reducible (apply cA; constructor) | ((with_reducible refine And.intro ?hw ?_); (case hw => first | omega | rfl | exact ⟨_, _, rfl⟩ | assumption | (simp only [lN, hcl, her, hsl, hrs, D.rnL, D.rn, posF, Hp.sel, Blk.rnL, Blk.rn, Tv.rnL, idx, Own.rn, Hp.back, putAt, bakF] <;> omega))) | with_reducible intro _)
  all_goals first | omega | (simp_all [D.closed, D.er, D.cL, D.erL, setL]; done) | (simp_all [D.closed, D.er, D.cL, D.erL, setL] <;> omega)
theorem ask_11 (s : List Pt) (hs : Sok s) (day : Int) (x : X) (hsm : x.sm) (hw : well x = true) (ih : IH s day x) (part : List UInt8) (hop : x.op = 11) : Pur M 25 [zCe s day, x.d, .str part] (.int .i64 (ask s day x part)) := by
  obtain ⟨s1, s2, s3, s4⟩ := X.sm_parts hsm
  have hno := hw
  rw [X.well_eq, Bool.and_eq_true] at hno
  have hno := hno.1
  rw [hop] at hno
  have hcl := zAx s
  have her := erL_P s
  have ck := kinds_p s hs.len day part x.nam
  have hkle : (zAq s part x.nam).length < 1000000 := Nat.lt_of_le_of_lt (List.length_filter_le _ _) (zC6 hs.len part)
  have hsl := zA9 (zAq s part x.nam)
  have hrs := fun β τ => zEw β τ (zAq s part x.nam)
  have e10 : (x.op == 10) = false := by simp [hop]
  have e11 : (x.op == 11) = true := by simp [hop]
  have hkn : x.kids.length = 1 := by
    simp [zB7] at hno
    omega
  have c1 := fold38 46 56 [.ptr 0 0, .ptr 1 0, .ptr 2 0] (eachH s day x (zAq s part x.nam)) orT (fun i => ask s day (x.kids.getD 0 default) ((zAq s part x.nam).getD i default)) 0 (zAq s part x.nam).length hkle or_p (fun i hi => each49 s day x _ i hi (by omega) (ih _ (List.getElem_mem (by omega)) _))
  have hfr := zEc orT (fun m => ask s day (x.kids.getD 0 default) m) (zAq s part x.nam) 0
  have hhd : (x.kids.map (ask s day)).headD (fun _ => 0) = ask s day (x.kids.getD 0 default) := by
    obtain ⟨y, hy⟩ := List.length_eq_one_iff.1 hkn
    rw [hy]; rfl
  unfold eachH at c1
  refine zDp (v := (List.range (zAq s part x.nam).length).foldl (fun a i => orT a (ask s day (x.kids.getD 0 default) ((zAq s part x.nam).getD i default))) 0) ?_ ?_
  · rw [zDq, hop]; rw [hfr]; simp only [askN, hhd]; simp
  refine k25.ok (C := C25) rfl rfl ?_
  rw [i25]
  refine zCl s hs day x part _ ?_
  refine disp_0 (by omega) _ ?_
  unfold rest28
  unfold askP
  repeat' (first | with_reducible (apply swq; constructor) | simp only [go_sem, seval, P25, q25, e10, e11, hsl] | ((with_reducible refine zAb (ck) ?he ?hc ?_); (case he | hc => first | rfl | (simp [D.erL, D.er, D.cL, D.closed, hcl, her, hsl, hrs, D.rnL, D.rn, posF, Hp.sel, Blk.rnL, Blk.rn, Tv.rnL, idx, Own.rn, Hp.back, putAt, bakF]; done))) | ((with_reducible refine o_eff [0, 1, 4] [] (c1) ?hs ?he ?hh ?_); (case hs => exact ⟨by simp, by simp, by simp, by simp⟩); (case he => first | rfl | (simp [go_sem, seval, hcl, her, hsl, hrs, D.rnL, D.rn, posF, Hp.sel, Blk.rnL, Blk.rn, Tv.rnL, idx, Own.rn, Hp.back, putAt, bakF]; done)); (case hh => first | rfl | (simp [go_sem, seval, hcl, her, hsl, hrs, D.rnL, D.rn, posF, Hp.sel, Blk.rnL, Blk.rn, Tv.rnL, idx, Own.rn, Hp.back, putAt, bakF]; done)); rintro _ _ ⟨rfl, rfl⟩) | with_reducible (apply cA; constructor) | ((with_reducible refine And.intro ?hw ?_); (case hw => first | omega | rfl | exact ⟨_, _, rfl⟩ | assumption | (simp only [lN, hcl, her, hsl, hrs, D.rnL, D.rn, posF, Hp.sel, Blk.rnL, Blk.rn, Tv.rnL, idx, Own.rn, Hp.back, putAt, bakF] <;> omega))) | with_reducible intro _)
  all_goals first | omega | (simp_all [D.closed, D.er, D.cL, D.erL, setL]; done) | (simp_all [D.closed, D.er, D.cL, D.erL, setL] <;> omega)
theorem ask_12 (s : List Pt) (hs : Sok s) (day : Int) (x : X) (hsm : x.sm) (hw : well x = true) (ih : IH s day x) (part : List UInt8) (hop : x.op = 12) : Pur M 25 [zCe s day, x.d, .str part] (.int .i64 (ask s day x part)) := by
  obtain ⟨s1, s2, s3, s4⟩ := X.sm_parts hsm
  have hno := hw
  rw [X.well_eq, Bool.and_eq_true] at hno
  have hno := hno.1
  rw [hop] at hno
  have hcl := zAx s
  have her := erL_P s
  have ck := kinds_p s hs.len day part x.nam
  have hkle : (zAq s part x.nam).length < 1000000 := Nat.lt_of_le_of_lt (List.length_filter_le _ _) (zC6 hs.len part)
  have hsl := zA9 (zAq s part x.nam)
  have hrs := fun β τ => zEw β τ (zAq s part x.nam)
  have e10 : (x.op == 10) = false := by simp [hop]
  have e11 : (x.op == 11) = false := by simp [hop]
  have c2 := tr_p (decide (((zAq s part x.nam).length : Int) ≥ x.num))
  refine zDp (v := zEd (decide (((zAq s part x.nam).length : Int) ≥ x.num))) ?_ ?_
  · rw [zDq, hop]; simp only [askN]; simp
  refine k25.ok (C := C25) rfl rfl ?_
  rw [i25]
  refine zCl s hs day x part _ ?_
  refine disp_0 (by omega) _ ?_
  unfold rest28
  unfold askP
  repeat' (first | with_reducible (apply swq; constructor) | simp only [go_sem, seval, P25, q25, e10, e11, hsl] | ((with_reducible refine zAb (ck) ?he ?hc ?_); (case he | hc => first | rfl | (simp [D.erL, D.er, D.cL, D.closed, hcl, her, hsl, hrs, D.rnL, D.rn, posF, Hp.sel, Blk.rnL, Blk.rn, Tv.rnL, idx, Own.rn, Hp.back, putAt, bakF]; done))) | ((with_reducible refine zAb (c2) ?he ?hc ?_); (case he | hc => first | rfl | (simp [D.erL, D.er, D.cL, D.closed, hcl, her, hsl, hrs, D.rnL, D.rn, posF, Hp.sel, Blk.rnL, Blk.rn, Tv.rnL, idx, Own.rn, Hp.back, putAt, bakF]; done))) | with_reducible (apply cA; constructor) | ((with_reducible refine And.intro ?hw ?_); (case hw => first | omega | rfl | exact ⟨_, _, rfl⟩ | assumption | (simp only [lN, hcl, her, hsl, hrs, D.rnL, D.rn, posF, Hp.sel, Blk.rnL, Blk.rn, Tv.rnL, idx, Own.rn, Hp.back, putAt, bakF] <;> omega))) | with_reducible intro _)
  all_goals first | omega | (simp_all [D.closed, D.er, D.cL, D.erL, setL]; done) | (simp_all [D.closed, D.er, D.cL, D.erL, setL] <;> omega)
theorem ask_all (s : List Pt) (hs : Sok s) (day : Int) : ∀ (k : Nat) (x : X), x.nodes ≤ k → x.sm → well x = true → ∀ part : List UInt8, Pur M 25 [zCe s day, x.d, .str part] (.int .i64 (ask s day x part))
  | 0, x, hk, _, _, _ => by have := zDy x; omega
  | k + 1, x, hk, hsm, hw, part => by
    have hw' := hw
    rw [X.well_eq, Bool.and_eq_true] at hw'
    obtain ⟨s1, s2, s3, s4⟩ := X.sm_parts hsm
    have ih : IH s day x := fun y hy q => ask_all s hs day k y (by have := zD0 hy; omega) (s3 y hy) (wellL_mem hw'.2 y hy) q
    by_cases h1 : x.op = 1
    · exact ask_1 s hs day x hsm hw ih part h1
    by_cases h2 : x.op = 2
    · exact ask_2 s hs day x hsm hw ih part h2
    by_cases h3 : x.op = 3
    · exact ask_3 s hs day x hsm hw ih part h3
    by_cases h4 : x.op = 4
    · exact ask_4 s hs day x hsm hw ih part h4
    by_cases h5 : x.op = 5
    · exact ask_5 s hs day x hsm hw ih part h5
    by_cases h6 : x.op = 6
    · exact ask_6 s hs day x hsm hw ih part h6
    by_cases h7 : x.op = 7
    · exact ask_7 s hs day x hsm hw ih part h7
    by_cases h8 : x.op = 8
    · exact ask_8 s hs day x hsm hw ih part h8
    by_cases h9 : x.op = 9
    · exact ask_9 s hs day x hsm hw ih part h9
    by_cases h10 : x.op = 10
    · exact ask_10 s hs day x hsm hw ih part h10
    by_cases h11 : x.op = 11
    · exact ask_11 s hs day x hsm hw ih part h11
    by_cases h12 : x.op = 12
    · exact ask_12 s hs day x hsm hw ih part h12
    · exfalso
      have := hw'.1
      simp [zB7, h1, h2, h3, h4, h5, h6, h7, h8, h9, h10, h11, h12] at this
end Go.Proofs.YtcchbohfcmfmlaaGreat
end
section
set_option maxRecDepth 100000
set_option linter.unusedSimpArgs false
set_option linter.unusedVariables false
namespace Go.Proofs.YtcchbohfcmfmlaaGreat
open Go GoV Go.RowKit
theorem holds_p (s : List Pt) (hs : Sok s) (x : X) (hx : x.sm) (part : List UInt8) (day : Int) : Pur M 8 [zA4 s, x.d, .str part, .int .i64 day] (.int .i64 (zE6 s x part day)) := by
  refine k8.ok (C := C8) rfl rfl ?_
  rw [i8]
  unfold c8
  have c1 := rvalidX_p x hx
  have c2 := root_p s (by have := hs.len; omega) part
  have hcl := zAx s
  have her := erL_P s
  have hck := zBg x.kids
  have hek := erL_X x.kids
  have e : zE6 s x part day = if validF x = false ∨ root s part = [] then 0 else ask s day x part := rfl
  rw [e]
  cases hv : validF x
  · rw [hv] at c1
    rw [X.d_eq]
    repeat' (first | with_reducible (apply swq; constructor) | simp only [go_sem, seval, P8, q8, fillL] | ((with_reducible refine zAb (c1) ?he ?hc ?_); (case he | hc => first | rfl | (simp [D.erL, D.er, D.cL, D.closed, hcl, her, hck, hek]; done))) | ((with_reducible refine zAb (c2) ?he ?hc ?_); (case he | hc => first | rfl | (simp [D.erL, D.er, D.cL, D.closed, hcl, her, hck, hek]; done))) | (with_reducible first | (apply cA; constructor) | (apply gA; constructor)) | ((with_reducible refine And.intro ?hw ?_); (case hw => first | omega | rfl | exact ⟨_, _, rfl⟩ | assumption | (simp only [lN, hcl, her, hck, hek] <;> omega))) | with_reducible intro _)
    all_goals first | omega | (simp_all [D.closed, D.er, D.cL, D.erL]; done) | (simp_all [D.closed, D.er, D.cL, D.erL] <;> omega)
  · have hw : well x = true := by
      simp only [validF, Bool.and_eq_true] at hv; exact hv.2
    have c3 := ask_all s hs day x.nodes x (Nat.le_refl _) hx hw part
    rw [hv] at c1
    rw [X.d_eq] at c3 ⊢
    generalize root s part = r at *
    by_cases hr : r = []
    · subst hr
      repeat' (first | with_reducible (apply swq; constructor) | simp only [go_sem, seval, P8, q8, fillL] | ((with_reducible refine zAb (c1) ?he ?hc ?_); (case he | hc => first | rfl | (simp [D.erL, D.er, D.cL, D.closed, hcl, her, hck, hek]; done))) | ((with_reducible refine zAb (c2) ?he ?hc ?_); (case he | hc => first | rfl | (simp [D.erL, D.er, D.cL, D.closed, hcl, her, hck, hek]; done))) | ((with_reducible refine zAb (c3) ?he ?hc ?_); (case he | hc => first | rfl | (simp [D.erL, D.er, D.cL, D.closed, hcl, her, hck, hek]; done))) | (with_reducible first | (apply cA; constructor) | (apply gA; constructor)) | ((with_reducible refine And.intro ?hw ?_); (case hw => first | omega | rfl | exact ⟨_, _, rfl⟩ | assumption | (simp only [lN, hcl, her, hck, hek] <;> omega))) | with_reducible intro _)
      all_goals first | omega | (simp_all [D.closed, D.er, D.cL, D.erL]; done) | (simp_all [D.closed, D.er, D.cL, D.erL] <;> omega)
    · have hrb : (r == []) = false := by simp [hr]
      rw [if_neg (by simp [hr])]
      repeat' (first | with_reducible (apply swq; constructor) | simp only [go_sem, seval, P8, q8, fillL, hrb] | ((with_reducible refine zAb (c1) ?he ?hc ?_); (case he | hc => first | rfl | (simp [D.erL, D.er, D.cL, D.closed, hcl, her, hck, hek]; done))) | ((with_reducible refine zAb (c2) ?he ?hc ?_); (case he | hc => first | rfl | (simp [D.erL, D.er, D.cL, D.closed, hcl, her, hck, hek]; done))) | ((with_reducible refine zAb (c3) ?he ?hc ?_); (case he | hc => first | rfl | (simp [D.erL, D.er, D.cL, D.closed, hcl, her, hck, hek]; done))) | (with_reducible first | (apply cA; constructor) | (apply gA; constructor)) | ((with_reducible refine And.intro ?hw ?_); (case hw => first | omega | rfl | exact ⟨_, _, rfl⟩ | assumption | (simp only [lN, hcl, her, hck, hek] <;> omega))) | with_reducible intro _)
      all_goals first | omega | (simp_all [D.closed, D.er, D.cL, D.erL]; done) | (simp_all [D.closed, D.er, D.cL, D.erL] <;> omega)
theorem nodes_p : ∀ (k : Nat) (x : X), x.nodes ≤ k → ∀ m : Nat, m ≤ 1000 → Pur M 26 [x.d, .int .i64 m] (.int .i64 (min x.nodes (m + 1) : Nat))
  | 0, x, hk, _, _ => by have := zDy x; omega
  | k + 1, x, hk, m, hm => by
    have ih : ∀ y ∈ x.kids, ∀ q : Nat, q ≤ 1000 → Pur M 26 [y.d, .int .i64 q] (.int .i64 (min y.nodes (q + 1) : Nat)) := fun y hy q hq => nodes_p k y (by have := zD0 hy; omega) q hq
    refine k26.ok (C := C26) rfl rfl ?_
    rw [i26]
    unfold c26
    have hN := X.nodes_eq x
    have hlen : (x.kids.map X.d).length = x.kids.length := by simp
    have hge : ∀ i, i ≤ x.kids.length → i ≤ X.nodesL (x.kids.take i) := fun i hi => by
      have := nodesL_len (x.kids.take i)
      rw [List.length_take] at this; omega
    rw [X.d_eq]
    repeat' (first | with_reducible (apply swq; constructor) | simp only [go_sem, seval, P26, q26, hlen] | (with_reducible first | (apply cA; constructor) | (apply gA; constructor)) | ((with_reducible refine And.intro ?hw ?_); (case hw => first | omega | rfl | exact ⟨_, _, rfl⟩ | assumption | (simp only [lN] <;> omega))) | with_reducible intro _)
    refine zAz [0, 1, 2, 3, 4, 5] (fun i : Nat => ⟨[.agg x.cells, .int .i64 m, .ptr 0 0, .int .i64 0, .int .i64 (min (1 + X.nodesL (x.kids.take i)) (m + 1) : Nat), .int .i64 i, .u0], [], ⟨[.cells x.cells], []⟩⟩) (fun i => i ≤ x.kids.length ∧ i ≤ m + 1) (fun i => m + 2 - i) 0 ⟨by omega, by omega⟩ ?_ ?_
    · simp [keepE, St.keep, X.nodesL]
      try omega
    · rintro i ⟨hi, him⟩
      by_cases hil : i < x.kids.length
      · by_cases hle : 1 + X.nodesL (x.kids.take i) ≤ m
        · have hmin : min (1 + X.nodesL (x.kids.take i)) (m + 1) = 1 + X.nodesL (x.kids.take i) := by omega
          have hst := zFd x.kids i hil
          have hg : (x.kids.map X.d).getD i .u0 = .agg (x.kids[i]).cells := by simp [List.getD, hil, X.d_eq]
          have c1 := ih _ (List.getElem_mem hil) (m - (1 + X.nodesL (x.kids.take i))) (by omega)
          have hck := zBg (x.kids[i]).kids
          have hek := erL_X (x.kids[i]).kids
          have hlei := hge i hi
          rw [X.d_eq] at c1
          rw [hmin]
          generalize X.nodesL (x.kids.take i) = z at *
          generalize hz0 : X.nodesL (x.kids.take (i + 1)) = z' at *
          have hsub : ((m : Int) - ((1 + z : Nat) : Int)) = ((m - (1 + z) : Nat) : Int) := by omega
          generalize hq : m - (1 + z) = q at *
          repeat' (first | with_reducible (apply swq; constructor) | simp only [go_sem, seval, P26, q26, hlen, hg, hsub] | simp (disch := omega) only [w64, w32, wu8, wu16, wu32, wu64] | ((with_reducible refine zAb (c1) ?he ?hc ?_); (case he | hc => first | rfl | (simp [D.erL, D.er, D.cL, D.closed, hlen, hg, hck, hek]; done))) | (with_reducible first | (apply cA; constructor) | (apply gA; constructor)) | ((with_reducible refine And.intro ?hw ?_); (case hw => first | omega | rfl | exact ⟨_, _, rfl⟩ | assumption | (simp only [lN, hlen, hg, hck, hek] <;> omega))) | with_reducible intro _)
          all_goals try (exfalso; omega)
          refine ⟨i + 1, ⟨by omega, by omega⟩, by omega, ?_⟩
          simp [keepE, St.keep, hz0]
          try omega
        · have hle2 := nodesL_le x.kids i
          have hmin : min (1 + X.nodesL (x.kids.take i)) (m + 1) = m + 1 := by omega
          have hres : min x.nodes (m + 1) = m + 1 := by omega
          rw [hmin, hres]
          repeat' (first | with_reducible (apply swq; constructor) | simp only [go_sem, seval, P26, q26, hlen] | simp (disch := omega) only [w64, w32, wu8, wu16, wu32, wu64] | (with_reducible first | (apply cA; constructor) | (apply gA; constructor)) | ((with_reducible refine And.intro ?hw ?_); (case hw => first | omega | rfl | exact ⟨_, _, rfl⟩ | assumption | (simp only [lN, hlen] <;> omega))) | with_reducible intro _)
          all_goals try (exfalso; omega)
          all_goals simp [D.closed, D.er]
      · have hie : i = x.kids.length := by omega
        subst hie
        rw [List.take_length, ← hN]
        by_cases hle : x.nodes ≤ m
        · have hmin : min x.nodes (m + 1) = x.nodes := by omega
          rw [hmin]
          repeat' (first | with_reducible (apply swq; constructor) | simp only [go_sem, seval, P26, q26, hlen] | simp (disch := omega) only [w64, w32, wu8, wu16, wu32, wu64] | (with_reducible first | (apply cA; constructor) | (apply gA; constructor)) | ((with_reducible refine And.intro ?hw ?_); (case hw => first | omega | rfl | exact ⟨_, _, rfl⟩ | assumption | (simp only [lN, hlen] <;> omega))) | with_reducible intro _)
          all_goals try (exfalso; omega)
          all_goals simp [D.closed, D.er]
        · have hmin : min x.nodes (m + 1) = m + 1 := by omega
          rw [hmin]
          repeat' (first | with_reducible (apply swq; constructor) | simp only [go_sem, seval, P26, q26, hlen] | simp (disch := omega) only [w64, w32, wu8, wu16, wu32, wu64] | (with_reducible first | (apply cA; constructor) | (apply gA; constructor)) | ((with_reducible refine And.intro ?hw ?_); (case hw => first | omega | rfl | exact ⟨_, _, rfl⟩ | assumption | (simp only [lN, hlen] <;> omega))) | with_reducible intro _)
          all_goals try (exfalso; omega)
          all_goals simp [D.closed, D.er]
theorem shortBL_all : ∀ ks : List X, zFa ks = ks.all zCn
  | [] => rfl
  | k :: ks => by simp [zFa, shortBL_all ks]
theorem shortB_eq (x : X) : zCn x = (decide (x.nam.length ≤ 300) && decide (x.val.length ≤ 300) && x.kids.all zCn) := by
  cases x; simp only [zCn, X.nam, X.val, X.kids, shortBL_all] <;> rfl
theorem short_p : ∀ (k : Nat) (x : X), x.nodes ≤ k → k ≤ 1000 → Pur M 27 [x.d] (.bool (zCn x))
  | 0, x, hk, _ => by have := zDy x; omega
  | k + 1, x, hk, hk2 => by
    have ih : ∀ y ∈ x.kids, Pur M 27 [y.d] (.bool (zCn y)) := fun y hy => short_p k y (by have := zD0 hy; omega) (by omega)
    have hkl := kids_len x
    refine k27.ok (C := C27) rfl rfl ?_
    rw [i27]
    unfold c27
    have hlen : (x.kids.map X.d).length = x.kids.length := by simp
    rw [X.d_eq, shortB_eq]
    by_cases h1 : x.nam.length ≤ 300
    · by_cases h2 : x.val.length ≤ 300
      · rw [decide_eq_true h1, decide_eq_true h2, Bool.true_and, Bool.true_and]
        repeat' (first | with_reducible (apply swq; constructor) | simp only [go_sem, seval, P27, q27, hlen] | simp (disch := omega) only [w64, w32, wu8, wu16, wu32, wu64] | (with_reducible first | (apply cA; constructor) | (apply gA; constructor)) | ((with_reducible refine And.intro ?hw ?_); (case hw => first | omega | rfl | exact ⟨_, _, rfl⟩ | assumption | (simp only [lN] <;> omega))) | with_reducible intro _)
        all_goals try (exfalso; omega)
        refine zAz [0, 1, 2, 3] (fun i : Nat => ⟨[.agg x.cells, .ptr 0 0, .bool false, .int .i64 i, .u0, .u0, .u0], [], ⟨[.cells x.cells], []⟩⟩) (fun i => i ≤ x.kids.length ∧ ∀ j (h : j < i) (h' : j < x.kids.length), zCn x.kids[j] = true) (fun i => x.kids.length - i) 0 ⟨by omega, fun j h => by omega⟩ ?_ ?_
        · simp [keepE, St.keep]
        · rintro i ⟨hi, hb⟩
          by_cases hil : i < x.kids.length
          · have hg : (x.kids.map X.d).getD i .u0 = .agg (x.kids[i]).cells := by simp [List.getD, hil, X.d_eq]
            have c1 := ih _ (List.getElem_mem hil)
            have hck := zBg (x.kids[i]).kids
            have hek := erL_X (x.kids[i]).kids
            rw [X.d_eq] at c1
            cases hs : zCn x.kids[i]
            · rw [hs] at c1
              have hf : x.kids.all zCn = false := by rw [List.all_eq_false]; exact ⟨x.kids[i], List.getElem_mem hil, by simp [hs]⟩
              rw [hf]
              repeat' (first | with_reducible (apply swq; constructor) | simp only [go_sem, seval, P27, q27, hlen, hg] | simp (disch := omega) only [w64, w32, wu8, wu16, wu32, wu64] | ((with_reducible refine zAb (c1) ?he ?hc ?_); (case he | hc => first | rfl | (simp [D.erL, D.er, D.cL, D.closed, hlen, hg, hck, hek]; done))) | (with_reducible first | (apply cA; constructor) | (apply gA; constructor)) | ((with_reducible refine And.intro ?hw ?_); (case hw => first | omega | rfl | exact ⟨_, _, rfl⟩ | assumption | (simp only [lN, hlen, hg, hck, hek] <;> omega))) | with_reducible intro _)
              all_goals try (exfalso; omega)
              all_goals simp [D.closed, D.er]
            · rw [hs] at c1
              repeat' (first | with_reducible (apply swq; constructor) | simp only [go_sem, seval, P27, q27, hlen, hg] | simp (disch := omega) only [w64, w32, wu8, wu16, wu32, wu64] | ((with_reducible refine zAb (c1) ?he ?hc ?_); (case he | hc => first | rfl | (simp [D.erL, D.er, D.cL, D.closed, hlen, hg, hck, hek]; done))) | (with_reducible first | (apply cA; constructor) | (apply gA; constructor)) | ((with_reducible refine And.intro ?hw ?_); (case hw => first | omega | rfl | exact ⟨_, _, rfl⟩ | assumption | (simp only [lN, hlen, hg, hck, hek] <;> omega))) | with_reducible intro _)
              all_goals try (exfalso; omega)
              refine ⟨i + 1, ⟨by omega, fun j h h' => ?_⟩, by omega, ?_⟩
              · by_cases e : j = i
                · subst e; exact hs
                · exact hb j (by omega) h'
              · simp [keepE, St.keep]
          · have ht : x.kids.all zCn = true := by
              rw [List.all_eq_true]
              intro y hy
              obtain ⟨j, hj, rfl⟩ := List.getElem_of_mem hy
              exact hb j (by omega) hj
            rw [ht]
            repeat' (first | with_reducible (apply swq; constructor) | simp only [go_sem, seval, P27, q27, hlen] | simp (disch := omega) only [w64, w32, wu8, wu16, wu32, wu64] | (with_reducible first | (apply cA; constructor) | (apply gA; constructor)) | ((with_reducible refine And.intro ?hw ?_); (case hw => first | omega | rfl | exact ⟨_, _, rfl⟩ | assumption | (simp only [lN, hlen] <;> omega))) | with_reducible intro _)
            all_goals try (exfalso; omega)
            all_goals simp [D.closed, D.er]
      · rw [decide_eq_false h2, Bool.and_false, Bool.false_and]
        repeat' (first | with_reducible (apply swq; constructor) | simp only [go_sem, seval, P27, q27, hlen] | simp (disch := omega) only [w64, w32, wu8, wu16, wu32, wu64] | (with_reducible first | (apply cA; constructor) | (apply gA; constructor)) | ((with_reducible refine And.intro ?hw ?_); (case hw => first | omega | rfl | exact ⟨_, _, rfl⟩ | assumption | (simp only [lN] <;> omega))) | with_reducible intro _)
        all_goals try (exfalso; omega)
        all_goals simp [D.closed, D.er]
    · rw [decide_eq_false h1, Bool.false_and, Bool.false_and]
      repeat' (first | with_reducible (apply swq; constructor) | simp only [go_sem, seval, P27, q27, hlen] | simp (disch := omega) only [w64, w32, wu8, wu16, wu32, wu64] | (with_reducible first | (apply cA; constructor) | (apply gA; constructor)) | ((with_reducible refine And.intro ?hw ?_); (case hw => first | omega | rfl | exact ⟨_, _, rfl⟩ | assumption | (simp only [lN] <;> omega))) | with_reducible intro _)
      all_goals try (exfalso; omega)
      all_goals simp [D.closed, D.er]
theorem fewc_p (x : X) : Pur M 13 [x.d] (.bool (decide (x.nodes ≤ 80) && zCn x)) := by
  refine k13.ok (C := C13) rfl rfl ?_
  rw [i13]
  unfold c13
  have c1 := nodes_p x.nodes x (Nat.le_refl _) 80 (by omega)
  have hck := zBg x.kids
  have hek := erL_X x.kids
  by_cases h : x.nodes ≤ 80
  · have c2 := short_p x.nodes x (Nat.le_refl _) (by omega)
    rw [decide_eq_true h, Bool.true_and]
    rw [X.d_eq] at c1 c2 ⊢
    rw [show min x.nodes (80 + 1) = x.nodes by omega] at c1
    generalize x.nodes = q at *
    have hd : decide ((q : Int) ≤ 80) = true := decide_eq_true (by omega)
    repeat' (first | with_reducible (apply swq; constructor) | simp only [go_sem, seval, P13, q13, hd] | ((with_reducible refine zAb (c1) ?he ?hc ?_); (case he | hc => first | rfl | (simp [D.erL, D.er, D.cL, D.closed, hck, hek]; done))) | ((with_reducible refine zAb (c2) ?he ?hc ?_); (case he | hc => first | rfl | (simp [D.erL, D.er, D.cL, D.closed, hck, hek]; done))) | (with_reducible first | (apply cA; constructor) | (apply gA; constructor)) | ((with_reducible refine And.intro ?hw ?_); (case hw => first | omega | rfl | exact ⟨_, _, rfl⟩ | assumption | (simp only [lN, hck, hek] <;> omega))) | with_reducible intro _)
    all_goals first | omega | (simp_all [D.closed, D.er, D.cL, D.erL]; done) | (simp_all [D.closed, D.er, D.cL, D.erL] <;> omega)
  · rw [decide_eq_false h, Bool.false_and]
    rw [X.d_eq] at c1 ⊢
    rw [show min x.nodes (80 + 1) = 81 by omega] at c1
    repeat' (first | with_reducible (apply swq; constructor) | simp only [go_sem, seval, P13, q13] | ((with_reducible refine zAb (c1) ?he ?hc ?_); (case he | hc => first | rfl | (simp [D.erL, D.er, D.cL, D.closed, hck, hek]; done))) | (with_reducible first | (apply cA; constructor) | (apply gA; constructor)) | ((with_reducible refine And.intro ?hw ?_); (case hw => first | omega | rfl | exact ⟨_, _, rfl⟩ | assumption | (simp only [lN, hck, hek] <;> omega))) | with_reducible intro _)
    all_goals first | omega | (simp_all [D.closed, D.er, D.cL, D.erL]; done) | (simp_all [D.closed, D.er, D.cL, D.erL] <;> omega)
end Go.Proofs.YtcchbohfcmfmlaaGreat
end
section
set_option maxRecDepth 100000
set_option linter.unusedSimpArgs false
set_option linter.unusedVariables false
namespace Go.Proofs.YtcchbohfcmfmlaaGreat
open Go GoV Go.RowKit
def fewKv (q : List UInt8 × List UInt8) : Bool := !decide (IntKind.i64.wrap ((q.1.length : Int) + q.2.length) > 300)
def sum4 (p : Pt) : Int := IntKind.i64.wrap (IntKind.i64.wrap (IntKind.i64.wrap ((p.name.length : Int) + p.kind.length) + p.into.length) + p.slot.length)
def fewPt (p : Pt) : Bool := (!decide (sum4 p > 300) && !decide ((p.props.length : Int) > 65)) && p.props.all fewKv
def fewS (s : List Pt) : Bool := decide (s.length ≤ 12) && s.all fewPt
theorem all_idx {α : Type} (f : α → Bool) (l : List α) (h : ∀ j (hj : j < l.length), f l[j] = true) : l.all f = true := by
  rw [List.all_eq_true]
  intro y hy
  obtain ⟨j, hj, rfl⟩ := List.getElem_of_mem hy
  exact h j hj
theorem all_bad {α : Type} (f : α → Bool) (l : List α) (j : Nat) (hj : j < l.length) (h : f l[j] = false) : l.all f = false := by
  rw [List.all_eq_false]; exact ⟨l[j], List.getElem_mem hj, by simp [h]⟩
theorem fewS_p (s : List Pt) : Pur M 12 [zA4 s, .int .i64 12] (.bool (fewS s)) := by
  refine k12.ok (C := C12) rfl rfl ?_
  rw [i12]
  unfold c12
  have hlen : (s.map ptD).length = s.length := by simp
  unfold fewS
  by_cases h1 : s.length ≤ 12
  · rw [decide_eq_true h1, Bool.true_and]
    repeat' (first | with_reducible (apply swq; constructor) | simp only [go_sem, seval, P12, q12, hlen] | (with_reducible first | (apply cA; constructor) | (apply gA; constructor)) | ((with_reducible refine And.intro ?hw ?_); (case hw => first | omega | rfl | exact ⟨_, _, rfl⟩ | assumption | (simp only [lN] <;> omega))) | with_reducible intro _)
    all_goals try (exfalso; omega)
    refine zB0 [0, 1, 2, 3, 4] 1 0 (Nat.zero_le _) (Nat.le_refl _) (fun i : Nat => ⟨[zA4 s, .int .i64 12, .ptr 0 0, .bool false, .int .i64 i, .u0, .u0, .u0, .u0, .u0, .u0, .u0], [], ⟨[.cells [zAy s]], []⟩⟩) (fun i => i ≤ s.length ∧ ∀ j (h : j < i) (h' : j < s.length), fewPt s[j] = true) (fun i => s.length + 1 - i) 0 ⟨by omega, fun j h => by omega⟩ ?_ ?_
    · simp [keepE, St.keepG, St.keep, St.gc, Hp.cut, D.rnL, D.rn, cutF, Blk.rn, Blk.rnL, Tv.rnL, Own.rn]
    · rintro i ⟨hi, hb⟩
      by_cases hil : i < s.length
      · have hg : (s.map ptD).getD i .u0 = .agg (s[i]).cells := zBx hil
        have hall : fewPt s[i] = false → s.all fewPt = false := all_bad _ _ i hil
        have hok : fewPt s[i] = true → ∀ j (h : j < i + 1) (h' : j < s.length), fewPt s[j] = true := fun e j h h' => by
          by_cases e2 : j = i
          · subst e2; exact e
          · exact hb j (by omega) h'
        generalize s[i] = p at *
        have hpl : (p.props.map propD).length = p.props.length := by simp
        by_cases h4 : sum4 p > 300
        · have hf : fewPt p = false := by simp [fewPt, h4]
          rw [hall hf]
          unfold sum4 at h4
          repeat' (first | with_reducible (apply swq; constructor) | simp only [go_sem, seval, P12, q12, hlen, hg, hpl, h4] | (with_reducible first | (apply cA; constructor) | (apply gA; constructor)) | ((with_reducible refine And.intro ?hw ?_); (case hw => first | omega | rfl | exact ⟨_, _, rfl⟩ | assumption | (simp only [lN, hlen, hg] <;> omega))) | with_reducible intro _)
          all_goals try (exfalso; omega)
          all_goals simp [D.closed, D.er]
        · have hn4 : decide (sum4 p > 300) = false := decide_eq_false h4
          by_cases h5 : (p.props.length : Int) > 65
          · have hf : fewPt p = false := by unfold fewPt; rw [hn4, decide_eq_true h5]; rfl
            rw [hall hf]
            unfold sum4 at h4
            repeat' (first | with_reducible (apply swq; constructor) | simp only [go_sem, seval, P12, q12, hlen, hg, hpl, h4, h5] | (with_reducible first | (apply cA; constructor) | (apply gA; constructor)) | ((with_reducible refine And.intro ?hw ?_); (case hw => first | omega | rfl | exact ⟨_, _, rfl⟩ | assumption | (simp only [lN, hlen, hg] <;> omega))) | with_reducible intro _)
            all_goals try (exfalso; omega)
            all_goals simp [D.closed, D.er]
          · have hfp : fewPt p = p.props.all fewKv := by unfold fewPt; rw [hn4, decide_eq_false h5]; rfl
            rw [hfp] at hall hok
            unfold sum4 at h4
            repeat' (first | with_reducible (apply swq; constructor) | simp only [go_sem, seval, P12, q12, hlen, hg, hpl, h4, h5] | (with_reducible first | (apply cA; constructor) | (apply gA; constructor)) | ((with_reducible refine And.intro ?hw ?_); (case hw => first | omega | rfl | exact ⟨_, _, rfl⟩ | assumption | (simp only [lN, hlen, hg] <;> omega))) | with_reducible intro _)
            all_goals try (exfalso; omega)
            refine zAz [0, 1, 2, 3, 4, 5, 6] (fun j : Nat => ⟨[zA4 s, .int .i64 12, .ptr 0 0, .bool false, .int .i64 i, .ptr 1 0, .int .i64 j, .u0, .u0, .u0, .u0, .u0], [], ⟨[.cells [zAy s], .cells p.cells], []⟩⟩) (fun j => j ≤ p.props.length ∧ ∀ q (h : q < j) (h' : q < p.props.length), fewKv p.props[q] = true) (fun j => p.props.length + 1 - j) 0 ⟨by omega, fun j h => by omega⟩ ?_ ?_
            · simp [keepE, St.keep, setL]
            · rintro j ⟨hj, hbj⟩
              by_cases hjl : j < p.props.length
              · have hgj : (p.props.map propD).getD j .u0 = .agg [.str p.props[j].1, .str p.props[j].2] := by simp [List.getD, hjl, propD]
                have hall2 : fewKv p.props[j] = false → p.props.all fewKv = false := all_bad _ _ j hjl
                have hok2 : fewKv p.props[j] = true → ∀ q (h : q < j + 1) (h' : q < p.props.length), fewKv p.props[q] = true := fun e q h h' => by
                  by_cases e2 : q = j
                  · subst e2; exact e
                  · exact hbj q (by omega) h'
                generalize p.props[j] = kv at *
                by_cases h6 : IntKind.i64.wrap ((kv.1.length : Int) + kv.2.length) > 300
                · rw [hall (hall2 (by simp [fewKv, h6]))]
                  repeat' (first | with_reducible (apply swq; constructor) | simp only [go_sem, seval, P12, q12, hlen, hg, hpl, hgj, h6] | (with_reducible first | (apply cA; constructor) | (apply gA; constructor)) | ((with_reducible refine And.intro ?hw ?_); (case hw => first | omega | rfl | exact ⟨_, _, rfl⟩ | assumption | (simp only [lN, hlen, hg, hgj, hpl] <;> omega))) | with_reducible intro _)
                  all_goals try (exfalso; omega)
                  all_goals simp [D.closed, D.er]
                · have hk := hok2 (by simp [fewKv, h6])
                  repeat' (first | with_reducible (apply swq; constructor) | simp only [go_sem, seval, P12, q12, hlen, hg, hpl, hgj, h6] | (with_reducible first | (apply cA; constructor) | (apply gA; constructor)) | ((with_reducible refine And.intro ?hw ?_); (case hw => first | omega | rfl | exact ⟨_, _, rfl⟩ | assumption | (simp only [lN, hlen, hg, hgj, hpl] <;> omega))) | with_reducible intro _)
                  all_goals try (exfalso; omega)
                  have hw : IntKind.i64.wrap ((j : Int) + 1) = ((j + 1 : Nat) : Int) := by rw [w64 (by omega) (by omega)]; omega
                  rw [hw]
                  refine ⟨j + 1, ⟨by omega, hk⟩, by omega, ?_⟩
                  simp [keepE, St.keep]
              · have hk := hok (all_idx fewKv p.props fun q hq => hbj q (by omega) hq)
                repeat' (first | with_reducible (apply swq; constructor) | simp only [go_sem, seval, P12, q12, hlen, hg, hpl] | (with_reducible first | (apply cA; constructor) | (apply gA; constructor)) | ((with_reducible refine And.intro ?hw ?_); (case hw => first | omega | rfl | exact ⟨_, _, rfl⟩ | assumption | (simp only [lN, hlen, hg, hpl] <;> omega))) | with_reducible intro _)
                all_goals try (exfalso; omega)
                have hw : IntKind.i64.wrap ((i : Int) + 1) = ((i + 1 : Nat) : Int) := by rw [w64 (by omega) (by omega)]; omega
                rw [hw]
                refine ⟨i + 1, ⟨by omega, hk⟩, by omega, ?_⟩
                simp [keepE, St.keepG, St.keep, St.gc, Hp.cut, D.rnL, D.rn, cutF, Blk.rn, Blk.rnL, Tv.rnL, Own.rn]
      · rw [all_idx fewPt s fun j hj => hb j (by omega) hj]
        repeat' (first | with_reducible (apply swq; constructor) | simp only [go_sem, seval, P12, q12, hlen] | simp (disch := omega) only [w64, w32, wu8, wu16, wu32, wu64] | (with_reducible first | (apply cA; constructor) | (apply gA; constructor)) | ((with_reducible refine And.intro ?hw ?_); (case hw => first | omega | rfl | exact ⟨_, _, rfl⟩ | assumption | (simp only [lN, hlen] <;> omega))) | with_reducible intro _)
        all_goals try omega
        all_goals simp [D.closed, D.er]
  · rw [decide_eq_false h1, Bool.false_and]
    repeat' (first | with_reducible (apply swq; constructor) | simp only [go_sem, seval, P12, q12, hlen] | simp (disch := omega) only [w64, w32, wu8, wu16, wu32, wu64] | (with_reducible first | (apply cA; constructor) | (apply gA; constructor)) | ((with_reducible refine And.intro ?hw ?_); (case hw => first | omega | rfl | exact ⟨_, _, rfl⟩ | assumption | (simp only [lN] <;> omega))) | with_reducible intro _)
    all_goals try omega
    all_goals simp [D.closed, D.er]
def fewF (s : List Pt) (x : X) (part : List UInt8) : Bool := (fewS s && (decide (x.nodes ≤ 80) && zCn x)) && decide (part.length ≤ 300)
theorem few_p (s : List Pt) (x : X) (part : List UInt8) : Pur M 5 [zA4 s, x.d, .str part] (.bool (fewF s x part)) := by
  refine k5.ok (C := C5) rfl rfl ?_
  rw [i5]
  unfold c5
  have c1 := fewS_p s
  have c2 := fewc_p x
  have hcl := zAx s
  have her := erL_P s
  have hck := zBg x.kids
  have hek := erL_X x.kids
  have hd : decide ((part.length : Int) ≤ 300) = decide (part.length ≤ 300) := by rw [decide_eq_decide]; omega
  unfold fewF
  rw [X.d_eq] at c2 ⊢
  generalize (decide (x.nodes ≤ 80) && zCn x) = b2 at *
  generalize fewS s = b1 at *
  generalize decide (part.length ≤ 300) = b3 at *
  cases b1
  · repeat' (first | with_reducible (apply swq; constructor) | simp only [go_sem, seval, P5, q5, fillL, hd] | ((with_reducible refine zAb (c1) ?he ?hc ?_); (case he | hc => first | rfl | (simp [D.erL, D.er, D.cL, D.closed, hcl, her, hck, hek]; done))) | ((with_reducible refine zAb (c2) ?he ?hc ?_); (case he | hc => first | rfl | (simp [D.erL, D.er, D.cL, D.closed, hcl, her, hck, hek]; done))) | (with_reducible first | (apply cA; constructor) | (apply gA; constructor)) | ((with_reducible refine And.intro ?hw ?_); (case hw => first | omega | rfl | exact ⟨_, _, rfl⟩ | assumption | (simp only [lN, hcl, her, hck, hek] <;> omega))) | with_reducible intro _)
    all_goals first | omega | (simp_all [D.closed, D.er, D.cL, D.erL]; done) | (simp_all [D.closed, D.er, D.cL, D.erL] <;> omega)
  · cases b2
    · repeat' (first | with_reducible (apply swq; constructor) | simp only [go_sem, seval, P5, q5, fillL, hd] | ((with_reducible refine zAb (c1) ?he ?hc ?_); (case he | hc => first | rfl | (simp [D.erL, D.er, D.cL, D.closed, hcl, her, hck, hek]; done))) | ((with_reducible refine zAb (c2) ?he ?hc ?_); (case he | hc => first | rfl | (simp [D.erL, D.er, D.cL, D.closed, hcl, her, hck, hek]; done))) | (with_reducible first | (apply cA; constructor) | (apply gA; constructor)) | ((with_reducible refine And.intro ?hw ?_); (case hw => first | omega | rfl | exact ⟨_, _, rfl⟩ | assumption | (simp only [lN, hcl, her, hck, hek] <;> omega))) | with_reducible intro _)
      all_goals first | omega | (simp_all [D.closed, D.er, D.cL, D.erL]; done) | (simp_all [D.closed, D.er, D.cL, D.erL] <;> omega)
    · repeat' (first | with_reducible (apply swq; constructor) | simp only [go_sem, seval, P5, q5, fillL, hd] | ((with_reducible refine zAb (c1) ?he ?hc ?_); (case he | hc => first | rfl | (simp [D.erL, D.er, D.cL, D.closed, hcl, her, hck, hek]; done))) | ((with_reducible refine zAb (c2) ?he ?hc ?_); (case he | hc => first | rfl | (simp [D.erL, D.er, D.cL, D.closed, hcl, her, hck, hek]; done))) | (with_reducible first | (apply cA; constructor) | (apply gA; constructor)) | ((with_reducible refine And.intro ?hw ?_); (case hw => first | omega | rfl | exact ⟨_, _, rfl⟩ | assumption | (simp only [lN, hcl, her, hck, hek] <;> omega))) | with_reducible intro _)
      all_goals first | omega | (simp_all [D.closed, D.er, D.cL, D.erL]; done) | (simp_all [D.closed, D.er, D.cL, D.erL] <;> omega)
end Go.Proofs.YtcchbohfcmfmlaaGreat
end
