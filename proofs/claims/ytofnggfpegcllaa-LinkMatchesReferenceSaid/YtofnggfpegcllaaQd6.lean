/- Own texts, merged by a program: the engine that walks the code, and what the functions that the law reaches compute. -/
import Derived.Test.YtofnggfpegcllaaQd5
section
set_option maxRecDepth 100000
set_option linter.unusedSimpArgs false
set_option linter.unusedVariables false
namespace Go.Proofs.Ytofnggfpegcllaa
open Go GoV Go.RowKit
section
variable {P : Mod} {dst : Dst} {rq : List (RO × Bool)} {K : St → Prop} {s : St}
end
theorem few_p (l : List Rp) : Pur M 11 [rpsD l] (.bool (few13 l 40)) := by
  have c1 := few13_p l 40 (by omega)
  have hcl := closedL_R l
  have her := erL_R l
  refine ok11 rfl ?_
  rw [i11]
  unfold c11
  repeat' (first
    | with_reducible first | apply swp_seq | apply swp_reg | apply swp_regD | apply swp_block | apply swp_exit | apply swp_ret | apply swp_skip | apply swp_cd
    | simp only [go_sem, seval, P11, q11]
    | simp (disch := omega) only [w64, w32, wu8, wu16, wu32, wu64]
    | ((with_reducible refine o_call (c1) ?he ?hc ?_); (case he | hc => first | rfl | (simp [D.erL, D.er, D.closedL, D.closed, hcl, her]; done)))
    | with_reducible first | apply cd_dec | apply cd_eq | apply cd_ne | apply cd_split
    | ((with_reducible refine And.intro ?hw ?_); (case hw => first | omega | rfl | exact ⟨_, _, rfl⟩ | assumption | (simp only [lN, hcl, her] <;> omega)))
    | with_reducible intro _)
  all_goals first | omega | simp [D.closed, D.er]
theorem few_small {l : List Rp} (h : few13 l 40 = true) : l.length ≤ 40 ∧ Small l := by
  unfold few13 at h
  simp only [Bool.and_eq_true, decide_eq_true_eq] at h
  refine ⟨h.1, fun r hr e he => ?_⟩
  have := List.all_eq_true.1 h.2 r hr
  unfold few9 at this
  simp only [Bool.and_eq_true] at this
  exact List.all_eq_true.1 this.2 e he
def pick (l : List Rp) (C : List Nat) : List Rp := C.map fun i => l.getD i default
end Go.Proofs.Ytofnggfpegcllaa
end
section
set_option maxRecDepth 100000
set_option linter.unusedSimpArgs false
set_option linter.unusedVariables false
namespace Go.Proofs.Ytofnggfpegcllaa
open Go GoV Go.RowKit
theorem comps_mem {L : List Nat} {i : Nat} (hi : i < (roots L).length) (hL : Lo L) : (∀ x ∈ (compsL L).getD i [], x < L.length) ∧ ((compsL L).getD i []).length ≤ L.length := by
  rw [cno_app hL hi]
  refine ⟨fun x hx => (mem_mem.1 hx).1, ?_⟩
  unfold mem
  refine Nat.le_trans (List.length_filter_le _ _) ?_
  simp
end Go.Proofs.Ytofnggfpegcllaa
end
section
set_option maxRecDepth 100000
set_option linter.unusedSimpArgs false
set_option linter.unusedVariables false
namespace Go.Proofs.Ytofnggfpegcllaa
open Go GoV Go.RowKit
end Go.Proofs.Ytofnggfpegcllaa
end
section
set_option maxRecDepth 100000
set_option linter.unusedSimpArgs false
set_option linter.unusedVariables false
namespace Go.Proofs.Ytofnggfpegcllaa
open Go GoV Go.RowKit
theorem opens_iv {w : World} : ∀ n, Opens Try.prog w n 48 (fun i : Iv => [.int .i64 i.low, .int .i64 i.high]) (fun _ => True) := by
  refine opens_all fun n => ?_
  have hF : OpensF Try.prog w n [⟨"Low", 3, 0, false, "", "", 0⟩, ⟨"High", 3, 1, false, "", "", 8⟩] 0 _ _ :=
    opensF_cons (c := 1) rfl (by kernel_rfl) (opens_i64 Try.underlying3) (opensF_cons (c := 1) rfl (by kernel_rfl) (opens_i64 Try.underlying3) opensF_nil)
  exact (opens_struct Try.underlying48 (by kernel_rfl) hF).imp (fun a => ⟨a.1, a.2.1⟩) (fun a _ => by simp) (fun a h => trivial)
theorem opens_use {w : World} : ∀ n, Opens Try.prog w n 50 (fun u : Iv × Iv × Iv => [.int .i64 u.1.low, .int .i64 u.1.high, .int .i64 u.2.1.low, .int .i64 u.2.1.high, .int .i64 u.2.2.low, .int .i64 u.2.2.high]) (fun _ => True) := by
  refine opens_all fun n => ?_
  have hF : OpensF Try.prog w n [⟨"Km", 48, 0, false, "", "", 0⟩, ⟨"Cycles", 48, 2, false, "", "", 16⟩, ⟨"Load", 48, 4, false, "", "", 32⟩] 0 _ _ :=
    opensF_cons (c := 2) rfl (by kernel_rfl) (opens_iv n) (opensF_cons (c := 2) rfl (by kernel_rfl) (opens_iv n) (opensF_cons (c := 2) rfl (by kernel_rfl) (opens_iv n) opensF_nil))
  exact (opens_struct Try.underlying50 (by kernel_rfl) hF).imp (fun a => (a.1, a.2.1, a.2.2.1)) (fun a _ => by simp) (fun a h => trivial)
theorem opens_ev {w : World} : ∀ n, Opens Try.prog w n 52 Ev.cells (fun _ => True) := by
  refine opens_all fun n => ?_
  have hF : OpensF Try.prog w n [⟨"Op", 3, 0, false, "", "", 0⟩, ⟨"Day", 3, 1, false, "", "", 8⟩, ⟨"Part", 9, 2, false, "", "", 16⟩, ⟨"Kind", 9, 3, false, "", "", 32⟩, ⟨"Into", 9, 4, false, "", "", 48⟩, ⟨"Slot", 9, 5, false, "", "", 64⟩, ⟨"Key", 9, 6, false, "", "", 80⟩, ⟨"Value", 9, 7, false, "", "", 96⟩, ⟨"Use", 50, 8, false, "", "", 112⟩] 0 _ _ :=
    opensF_cons (c := 1) rfl (by kernel_rfl) (opens_i64 Try.underlying3) (opensF_cons (c := 1) rfl (by kernel_rfl) (opens_i64 Try.underlying3) (opensF_cons (c := 1) rfl (by kernel_rfl) (opens_str Try.underlying9) (opensF_cons (c := 1) rfl (by kernel_rfl) (opens_str Try.underlying9)
      (opensF_cons (c := 1) rfl (by kernel_rfl) (opens_str Try.underlying9) (opensF_cons (c := 1) rfl (by kernel_rfl) (opens_str Try.underlying9) (opensF_cons (c := 1) rfl (by kernel_rfl) (opens_str Try.underlying9) (opensF_cons (c := 1) rfl (by kernel_rfl) (opens_str Try.underlying9)
      (opensF_cons (c := 6) rfl (by kernel_rfl) (opens_use n) opensF_nil))))))))
  exact (opens_struct Try.underlying52 (by kernel_rfl) hF).imp (fun a => ⟨a.1, a.2.1, a.2.2.1, a.2.2.2.1, a.2.2.2.2.1, a.2.2.2.2.2.1, a.2.2.2.2.2.2.1, a.2.2.2.2.2.2.2.1, a.2.2.2.2.2.2.2.2.1.1, a.2.2.2.2.2.2.2.2.1.2.1, a.2.2.2.2.2.2.2.2.1.2.2⟩) (fun a _ => by simp [Ev.cells]) (fun a h => trivial)
theorem opens_evs {w : World} : ∀ n, Opens Try.prog w n 38 (fun l : List Ev => [evsD l]) (fun _ => True) :=
  opens_all fun n => (opens_slice Try.underlying38 (show 0 < Try.prog.cellsOf 52 by rw [show Try.prog.cellsOf 52 = 14 by kernel_rfl]; omega) (opens_ev n)).imp id (fun a _ => rfl) (fun a h => trivial)
@[reducible] def Rp.cells (r : Rp) : List D := [.slice (r.opts.map evD) .no, .bool r.doubt]
theorem opens_rp {w : World} : ∀ n, Opens Try.prog w n 40 Rp.cells (fun _ => True) := by
  refine opens_all fun n => ?_
  have hF : OpensF Try.prog w n [⟨"Options", 38, 0, false, "", "", 0⟩, ⟨"Doubtful", 4, 1, false, "", "", 24⟩] 0 _ _ :=
    opensF_cons (c := 1) rfl (by kernel_rfl) (opens_evs n) (opensF_cons (c := 1) rfl (by kernel_rfl) (opens_bool Try.underlying4) opensF_nil)
  exact (opens_struct Try.underlying40 (by kernel_rfl) hF).imp (fun a => ⟨a.1, a.2.1⟩) (fun a _ => by simp [Rp.cells]) (fun a h => trivial)
theorem opens_rps {w : World} : ∀ n, Opens Try.prog w n 22 (fun l : List Rp => [rpsD l]) (fun _ => True) :=
  opens_all fun n => (opens_slice Try.underlying22 (show 0 < Try.prog.cellsOf 40 by rw [show Try.prog.cellsOf 40 = 2 by kernel_rfl]; omega) (opens_rp n)).imp id (fun a _ => rfl) (fun a h => trivial)
end Go.Proofs.Ytofnggfpegcllaa
end
section
set_option maxRecDepth 100000
set_option linter.unusedSimpArgs false
set_option linter.unusedVariables false
namespace Go.Proofs.Ytofnggfpegcllaa
open Go GoV Go.RowKit
end Go.Proofs.Ytofnggfpegcllaa
end
section
set_option maxRecDepth 100000
set_option linter.unusedSimpArgs false
set_option linter.unusedVariables false
namespace Go.Proofs.Ytofnggfpegcllaa
open Go GoV Go.RowKit
theorem com_true {a b : List Nm} {i k : Nat} (hi : i < a.length) (hk : k < b.length) (e : a[i] = b[k]) : com a b = true := by
  unfold com
  rw [List.any_eq_true]
  exact ⟨a[i], List.getElem_mem hi, by rw [List.contains_iff_mem, e]; exact List.getElem_mem hk⟩
theorem com_false {a b : List Nm} (h : ∀ i (hi : i < a.length) k (hk : k < b.length), a[i] ≠ b[k]) : com a b = false := by
  unfold com
  rw [List.any_eq_false]
  intro s hs
  obtain ⟨i, hi, rfl⟩ := List.getElem_of_mem hs
  rw [List.contains_iff_mem]
  intro q
  obtain ⟨k, hk, e⟩ := List.getElem_of_mem q
  exact h i hi k hk e.symm
set_option maxHeartbeats 1000000 in
theorem common_p (a b : List Nm) (ha : a.length ≤ 1000) (hb : b.length ≤ 1000) : Pur M 30 [.slice (strs a) .no, .slice (strs b) .no] (.bool (com a b)) := by
  have la := strs_len a
  have lb := strs_len b
  refine ok30 rfl ?_
  rw [i30]
  unfold c30
  repeat' (first
    | with_reducible first | apply swp_seq | apply swp_reg | apply swp_regD | apply swp_block | apply swp_exit | apply swp_ret | apply swp_skip | apply swp_cd
    | simp only [go_sem, seval, P30, q30]
    | simp (disch := omega) only [w64, w32, wu8, wu16, wu32, wu64]
    | with_reducible first | apply cd_dec | apply cd_eq | apply cd_ne | apply cd_split
    | ((with_reducible refine And.intro ?hw ?_); (case hw => first | omega | rfl | exact ⟨_, _, rfl⟩ | assumption | (simp only [lN] <;> omega)))
    | with_reducible intro _)
  refine swp_fam [0, 1, 3] (fun i : Nat => ⟨[.slice (strs a) .no, .slice (strs b) .no, .undef, .int .i64 i, .undef, .undef, .undef, .undef], [], ⟨[], []⟩⟩) (fun i => i ≤ a.length ∧ ∀ j (hj : j < a.length) k (hk : k < b.length), j < i → a[j] ≠ b[k]) (fun i => a.length - i) 0 ⟨by omega, fun j hj k hk h => by omega⟩ ?_ ?_
  · simp [keepE, St.keep]
  · rintro i ⟨h1, h2⟩
    by_cases hi : i < a.length
    · have t0 : decide (((i : Nat) : Int) < a.length) = true := by simp; omega
      have g1 := strs_get hi
      repeat' (first
    | with_reducible first | apply swp_seq | apply swp_reg | apply swp_regD | apply swp_block | apply swp_exit | apply swp_ret | apply swp_skip | apply swp_cd
    | simp only [go_sem, seval, P30, q30, la, t0]
    | simp (disch := omega) only [w64, w32, wu8, wu16, wu32, wu64]
    | with_reducible first | apply cd_dec | apply cd_eq | apply cd_ne | apply cd_split
    | ((with_reducible refine And.intro ?hw ?_); (case hw => first | omega | rfl | exact ⟨_, _, rfl⟩ | assumption | (simp only [lN, la] <;> omega)))
    | with_reducible intro _)
      all_goals first | omega | skip
      refine swp_fam [0, 1, 3, 4] (fun k : Nat => ⟨[.slice (strs a) .no, .slice (strs b) .no, .undef, .int .i64 i, .int .i64 k, .undef, .undef, .undef], [], ⟨[], []⟩⟩) (fun k => k ≤ b.length ∧ ∀ j (hj : j < b.length), j < k → a[i] ≠ b[j]) (fun k => b.length - k) 0 ⟨by omega, fun j hj h => by omega⟩ ?_ ?_
      · simp [keepE, St.keep]
      · rintro k ⟨k1, k2⟩
        by_cases hk : k < b.length
        · have t1 : decide (((k : Nat) : Int) < b.length) = true := by simp; omega
          have g2 := strs_get hk
          by_cases e : a[i] = b[k]
          · have t2 : (a[i] == b[k]) = true := by rw [beq_iff_eq]; exact e
            rw [com_true hi hk e]
            repeat' (first
    | with_reducible first | apply swp_seq | apply swp_reg | apply swp_regD | apply swp_block | apply swp_exit | apply swp_ret | apply swp_skip | apply swp_cd
    | simp only [go_sem, seval, P30, q30, la, lb, t1, g1, g2, t2]
    | simp (disch := omega) only [w64, w32, wu8, wu16, wu32, wu64]
    | with_reducible first | apply cd_dec | apply cd_eq | apply cd_ne | apply cd_split
    | ((with_reducible refine And.intro ?hw ?_); (case hw => first | omega | rfl | exact ⟨_, _, rfl⟩ | assumption | (simp only [lN, la, lb, g1, g2] <;> omega)))
    | with_reducible intro _)
            all_goals first | omega | simp [D.closed, D.er]
          · have t2 : (a[i] == b[k]) = false := by rw [beq_eq_false_iff_ne]; exact e
            repeat' (first
    | with_reducible first | apply swp_seq | apply swp_reg | apply swp_regD | apply swp_block | apply swp_exit | apply swp_ret | apply swp_skip | apply swp_cd
    | simp only [go_sem, seval, P30, q30, la, lb, t1, g1, g2, t2]
    | simp (disch := omega) only [w64, w32, wu8, wu16, wu32, wu64]
    | with_reducible first | apply cd_dec | apply cd_eq | apply cd_ne | apply cd_split
    | ((with_reducible refine And.intro ?hw ?_); (case hw => first | omega | rfl | exact ⟨_, _, rfl⟩ | assumption | (simp only [lN, la, lb, g1, g2] <;> omega)))
    | with_reducible intro _)
            all_goals first | omega | skip
            refine ⟨k + 1, ⟨by omega, fun j hj h => ?_⟩, by omega, by simp [keepE, St.keep]⟩
            by_cases q : j = k
            · subst q; exact e
            · exact k2 j hj (by omega)
        · have t1 : decide (((k : Nat) : Int) < b.length) = false := by simp; omega
          repeat' (first
    | with_reducible first | apply swp_seq | apply swp_reg | apply swp_regD | apply swp_block | apply swp_exit | apply swp_ret | apply swp_skip | apply swp_cd
    | simp only [go_sem, seval, P30, q30, lb, t1]
    | simp (disch := omega) only [w64, w32, wu8, wu16, wu32, wu64]
    | with_reducible first | apply cd_dec | apply cd_eq | apply cd_ne | apply cd_split
    | ((with_reducible refine And.intro ?hw ?_); (case hw => first | omega | rfl | exact ⟨_, _, rfl⟩ | assumption | (simp only [lN, lb] <;> omega)))
    | with_reducible intro _)
          all_goals first | omega | skip
          refine ⟨i + 1, ⟨by omega, fun j hj m hm h => ?_⟩, by omega, by simp [keepE, St.keep]⟩
          by_cases q : j = i
          · subst q; exact k2 m hm (by omega)
          · exact h2 j hj m hm (by omega)
    · have t0 : decide (((i : Nat) : Int) < a.length) = false := by simp; omega
      rw [com_false fun j hj k hk => h2 j hj k hk (by omega)]
      repeat' (first
    | with_reducible first | apply swp_seq | apply swp_reg | apply swp_regD | apply swp_block | apply swp_exit | apply swp_ret | apply swp_skip | apply swp_cd
    | simp only [go_sem, seval, P30, q30, la, t0]
    | simp (disch := omega) only [w64, w32, wu8, wu16, wu32, wu64]
    | with_reducible first | apply cd_dec | apply cd_eq | apply cd_ne | apply cd_split
    | ((with_reducible refine And.intro ?hw ?_); (case hw => first | omega | rfl | exact ⟨_, _, rfl⟩ | assumption | (simp only [lN, la] <;> omega)))
    | with_reducible intro _)
      all_goals first | omega | simp [D.closed, D.er]
theorem doubts_to {l : List Rp} {i : Nat} (h : i < l.length) : doubtsR (l.take (i + 1)) = doubtsR (l.take i) + if 2 ≤ choices l[i] then 1 else 0 := by
  unfold doubtsR
  rw [List.take_succ_eq_append_getElem h, List.countP_append, List.countP_cons, List.countP_nil]
  by_cases q : 2 ≤ choices l[i] <;> simp [q]
theorem doubts_le (l : List Rp) (i : Nat) : doubtsR (l.take i) ≤ i := by
  unfold doubtsR
  refine Nat.le_trans List.countP_le_length ?_
  rw [List.length_take]; omega
theorem rdoubts_p (l : List Rp) (hl : l.length ≤ 1000) (hs : Small l) : Pur M 19 [rpsD l] (.int .i64 (doubtsR l : Nat)) := by
  have hlr : (l.map rpD).length = l.length := by simp
  refine ok19 rfl ?_
  rw [i19]
  unfold c19
  repeat' (first
    | with_reducible first | apply swp_seq | apply swp_reg | apply swp_regD | apply swp_block | apply swp_exit | apply swp_ret | apply swp_skip | apply swp_cd
    | simp only [go_sem, seval, P19, q19]
    | simp (disch := omega) only [w64, w32, wu8, wu16, wu32, wu64]
    | with_reducible first | apply cd_dec | apply cd_eq | apply cd_ne | apply cd_split
    | ((with_reducible refine And.intro ?hw ?_); (case hw => first | omega | rfl | exact ⟨_, _, rfl⟩ | assumption | (simp only [lN] <;> omega)))
    | with_reducible intro _)
  refine swp_fam [0, 2, 3] (fun i : Nat => ⟨[rpsD l, .undef, .int .i64 (doubtsR (l.take i) : Nat), .int .i64 i, .undef, .undef], [], ⟨[], []⟩⟩) (fun i => i ≤ l.length) (fun i => l.length - i) 0 (by omega) ?_ ?_
  · simp [keepE, St.keep, doubtsR]
  · intro i hi
    by_cases hil : i < l.length
    · have t0 : decide (((i : Nat) : Int) < l.length) = true := by simp; omega
      have hg := rp_get hil
      have c1 := rchoices_p l[i] (hs _ (List.getElem_mem _))
      rw [show rpD l[i] = .agg [.slice (l[i].opts.map evD) .no, .bool l[i].doubt] from rfl] at c1
      have hd := doubts_to hil
      have hle := doubts_le l i
      have t1 : decide (((choices l[i] : Nat) : Int) > 1) = decide (2 ≤ choices l[i]) := decide_eq_decide.2 (by omega)
      generalize choices l[i] = c at *
      by_cases h2 : 2 ≤ c
      · rw [decide_eq_true h2] at t1
        rw [if_pos h2] at hd
        repeat' (first
    | with_reducible first | apply swp_seq | apply swp_reg | apply swp_regD | apply swp_block | apply swp_exit | apply swp_ret | apply swp_skip | apply swp_cd
    | simp only [go_sem, seval, P19, q19, hlr, hg, t0, t1]
    | simp (disch := omega) only [w64, w32, wu8, wu16, wu32, wu64]
    | ((with_reducible refine o_call (c1) ?he ?hc ?_); (case he | hc => first | rfl | (simp [D.erL, D.er, D.closedL, D.closed, hlr, hg]; done)))
    | with_reducible first | apply cd_dec | apply cd_eq | apply cd_ne | apply cd_split
    | ((with_reducible refine And.intro ?hw ?_); (case hw => first | omega | rfl | exact ⟨_, _, rfl⟩ | assumption | (simp only [lN, hlr, hg] <;> omega)))
    | with_reducible intro _)
        all_goals first | omega | skip
        exact ⟨i + 1, by omega, by omega, by simp [keepE, St.keep, hd]⟩
      · rw [decide_eq_false h2] at t1
        rw [if_neg h2] at hd
        repeat' (first
    | with_reducible first | apply swp_seq | apply swp_reg | apply swp_regD | apply swp_block | apply swp_exit | apply swp_ret | apply swp_skip | apply swp_cd
    | simp only [go_sem, seval, P19, q19, hlr, hg, t0, t1]
    | simp (disch := omega) only [w64, w32, wu8, wu16, wu32, wu64]
    | ((with_reducible refine o_call (c1) ?he ?hc ?_); (case he | hc => first | rfl | (simp [D.erL, D.er, D.closedL, D.closed, hlr, hg]; done)))
    | with_reducible first | apply cd_dec | apply cd_eq | apply cd_ne | apply cd_split
    | ((with_reducible refine And.intro ?hw ?_); (case hw => first | omega | rfl | exact ⟨_, _, rfl⟩ | assumption | (simp only [lN, hlr, hg] <;> omega)))
    | with_reducible intro _)
        all_goals first | omega | skip
        exact ⟨i + 1, by omega, by omega, by simp [keepE, St.keep, hd]⟩
    · have t0 : decide (((i : Nat) : Int) < l.length) = false := by simp; omega
      rw [show l.take i = l from List.take_of_length_le (by omega)]
      repeat' (first
    | with_reducible first | apply swp_seq | apply swp_reg | apply swp_regD | apply swp_block | apply swp_exit | apply swp_ret | apply swp_skip | apply swp_cd
    | simp only [go_sem, seval, P19, q19, hlr, t0]
    | simp (disch := omega) only [w64, w32, wu8, wu16, wu32, wu64]
    | with_reducible first | apply cd_dec | apply cd_eq | apply cd_ne | apply cd_split
    | ((with_reducible refine And.intro ?hw ?_); (case hw => first | omega | rfl | exact ⟨_, _, rfl⟩ | assumption | (simp only [lN, hlr] <;> omega)))
    | with_reducible intro _)
      all_goals first | omega | simp [D.closed, D.er]
end Go.Proofs.Ytofnggfpegcllaa
end
section
set_option maxRecDepth 100000
set_option linter.unusedSimpArgs false
set_option linter.unusedVariables false
namespace Go.Proofs.Ytofnggfpegcllaa
open Go GoV Go.RowKit
theorem zeros_nil : ∀ n : Nat, zeros [.lit (.slice none 0 0)] n = List.replicate n (.lit (.slice none 0 0))
  | 0 => rfl
  | n + 1 => by simp [zeros, zeros_nil n, List.replicate_succ]
theorem zeros_i (n : Nat) : zeros [.int .i64 0] n = ints (List.replicate n 0) := zeros_ints n
def fillR (n i : Nat) : List Nat := List.range i ++ List.replicate (n - i) 0
def fillN (R : List (List Nm)) (i : Nat) : List D := listsD (R.take i) ++ List.replicate (R.length - i) (.lit (.slice none 0 0))
theorem fillR_len {n i : Nat} (h : i ≤ n) : (fillR n i).length = n := by simp [fillR]; omega
theorem fillN_len {R : List (List Nm)} {i : Nat} (h : i ≤ R.length) : (fillN R i).length = R.length := by unfold fillN; rw [List.length_append, lists_len, List.length_take, List.length_replicate]; omega
theorem fillR_set {n i : Nat} (h : i < n) : (fillR n i).set i i = fillR n (i + 1) := by
  unfold fillR
  rw [List.set_append_right _ _ (by simp)]
  obtain ⟨m, hm⟩ : ∃ m, n - i = m + 1 := ⟨n - i - 1, by omega⟩
  rw [hm, List.replicate_succ, List.length_range, Nat.sub_self, List.set_cons_zero, List.range_succ, show n - (i + 1) = m by omega]
  simp
theorem fillN_set {R : List (List Nm)} {i : Nat} (h : i < R.length) : (fillN R i).set i (.slice (strs (R.getD i [])) .no) = fillN R (i + 1) := by
  unfold fillN
  have hl : (listsD (R.take i)).length = i := by rw [lists_len, List.length_take]; omega
  rw [List.set_append_right _ _ (by omega)]
  obtain ⟨m, hm⟩ : ∃ m, R.length - i = m + 1 := ⟨R.length - i - 1, by omega⟩
  rw [hm, List.replicate_succ, hl, Nat.sub_self, List.set_cons_zero, List.take_succ_eq_append_getElem h, show R.length - (i + 1) = m by omega]
  have : R.getD i [] = R[i] := by simp [List.getD, h]
  rw [this]
  have e : listsD (R.take i ++ [R[i]]) = listsD (R.take i) ++ [.slice (strs R[i]) .no] := by unfold listsD; rw [List.map_append]; rfl
  rw [e, List.append_assoc]; rfl
def relTo (hi lo : Nat) (L : List Nat) (j : Nat) : List Nat := (relab hi lo L).take j ++ L.drop j
theorem relTo_len {hi lo : Nat} {L : List Nat} {j : Nat} (h : j ≤ L.length) : (relTo hi lo L j).length = L.length := by unfold relTo; rw [List.length_append, List.length_take, List.length_drop, relab_len]; omega
theorem relTo_get {hi lo : Nat} {L : List Nat} {j : Nat} (h : j < L.length) : lb (relTo hi lo L j) j = lb L j := by
  unfold relTo lb
  simp only [List.getD]
  rw [List.getElem?_append_right (by rw [List.length_take, relab_len]; omega), List.length_take, relab_len, Nat.min_eq_left (by omega), Nat.sub_self, List.getElem?_drop]
  simp
theorem relTo_succ {hi lo : Nat} {L : List Nat} {j : Nat} (h : j < L.length) : relTo hi lo L (j + 1) = (relTo hi lo L j).set j (if lb L j = hi then lo else lb L j) := by
  unfold relTo
  rw [List.set_append_right _ _ (by rw [List.length_take, relab_len]; omega), List.length_take, relab_len, Nat.min_eq_left (by omega), Nat.sub_self]
  rw [List.take_succ_eq_append_getElem (by rw [relab_len]; exact h), List.drop_eq_getElem_cons h, List.set_cons_zero, List.append_assoc]
  congr 1
  have := lb_relab (hi := hi) (lo := lo) h
  rw [lb_lt (by rw [relab_len]; exact h)] at this
  rw [this]; rfl
theorem relTo_same {hi lo : Nat} {L : List Nat} {j : Nat} (h : j < L.length) (e : lb L j ≠ hi) : relTo hi lo L (j + 1) = relTo hi lo L j := by
  rw [relTo_succ h, if_neg e]
  have := relTo_get (hi := hi) (lo := lo) h
  rw [← this, lb_lt (by rw [relTo_len (by omega)]; exact h)]
  exact List.set_getElem_self _
theorem relTo_zero {hi lo : Nat} {L : List Nat} : relTo hi lo L 0 = L := by simp [relTo]
theorem relTo_all {hi lo : Nat} {L : List Nat} : relTo hi lo L L.length = relab hi lo L := by
  unfold relTo; rw [List.take_of_length_le (by rw [relab_len]; omega), List.drop_of_length_le (by omega), List.append_nil]
def okTo2 (R : List (List Nm)) (L : List Nat) (i k : Nat) : Prop := ∀ a b, b < a → (a < i ∨ (a = i ∧ b < k)) → lb L a ≠ lb L b → com (R.getD a []) (R.getD b []) = false
theorem mem_from {L : List Nat} (hL : Lo L) {i k : Nat} (h : k ≤ i) (hi : i < L.length) : (List.range k).filter (fun x => lb L x == i) = [] := by
  rw [List.filter_eq_nil_iff]
  intro x hx
  have hx2 : x < k := by simpa using hx
  have := (hL x (by omega)).1
  rw [beq_iff_eq]; omega
def memTo (L : List Nat) (r k : Nat) : List Nat := (List.range k).filter fun x => lb L x == r
theorem memTo_in {L : List Nat} {r k : Nat} (h : lb L k = r) : memTo L r (k + 1) = memTo L r k ++ [k] := by
  unfold memTo
  rw [List.range_succ, List.filter_append, List.filter_cons, if_pos (by rw [beq_iff_eq]; exact h)]; rfl
theorem memTo_out {L : List Nat} {r k : Nat} (h : lb L k ≠ r) : memTo L r (k + 1) = memTo L r k := by
  unfold memTo
  rw [List.range_succ, List.filter_append, List.filter_cons, if_neg (by rw [beq_iff_eq]; exact h)]; simp
theorem memTo_le (L : List Nat) (r k : Nat) : (memTo L r k).length ≤ k := by
  unfold memTo
  refine Nat.le_trans (List.length_filter_le _ _) ?_
  simp
theorem lists_rn (β τ : Nat → Option Nat) : ∀ R : List (List Nm), D.rnL β τ (listsD R) = listsD R
  | [] => rfl
  | x :: R => by
    have := lists_rn β τ R
    simp only [listsD, List.map_cons, D.rnL, D.rn, Own.rn] at this ⊢
    rw [this]
def outR (L : List Nat) (i : Nat) : List (List Nat) := (rtsC L i).map (mem L)
theorem outR_len (L : List Nat) (i : Nat) : (outR L i).length ≤ i := by unfold outR; rw [List.length_map]; exact rtsC_le L i
set_option maxHeartbeats 4000000 in
theorem rcomponents_p (l : List Rp) (hl : l.length ≤ 1000) (hs : Small l) : Pur M 14 [rpsD l] (.slice (compsD (comps (namesL l))) .no) := by
  have hlr : (l.map rpD).length = l.length := by simp
  have hRl := namesL_len l
  have hnm := fun i (h : i < l.length) => namesL_get h
  generalize hR : namesL l = R at *
  have hzi := zeros_i l.length
  have hzn := zeros_nil l.length
  have hR0 : fillR l.length 0 = List.replicate l.length 0 := by simp [fillR]
  have hN0 : fillN R 0 = List.replicate l.length (.lit (.slice none 0 0)) := by simp [fillN, listsD, hRl]
  have hRE : fillR l.length l.length = List.range l.length := by simp [fillR]
  have hNE : fillN R l.length = listsD R := by unfold fillN; rw [← hRl, List.take_length, Nat.sub_self]; simp
  rw [← hR0] at hzi
  rw [← hN0] at hzn
  have lr := lists_len R
  rw [hRl] at lr
  refine ow14 rfl ?_
  rw [i14]
  unfold c14
  repeat' (first
    | with_reducible first | apply swp_seq | apply swp_reg | apply swp_regD | apply swp_block | apply swp_exit | apply swp_ret | apply swp_skip | apply swp_cd
    | simp only [go_sem, seval, P14, q14, hlr, hzi, hzn]
    | simp (disch := omega) only [w64, w32, wu8, wu16, wu32, wu64]
    | ((with_reducible apply s_appT); (case he => rfl); (case hK | hc | hr | hV => first | rfl | assumption | omega | ((first | refine ⟨?_, ?_⟩ | skip) <;> first | omega | (simp only [lN, hlr] <;> omega)) | (simp [elemsK, D.isVal, D.cells, D.closedL, D.closed, hlr]; first | done | omega)))
    | ((with_reducible apply s_appG); (case he => rfl); (case hV | hK | hr | hl => first | rfl | assumption | omega | ((first | refine ⟨?_, ?_⟩ | skip) <;> first | omega | (simp only [lN, hlr] <;> omega)) | (simp [elemsK, D.isVal, D.cells, D.closedL, D.closed, hlr]; first | done | omega)))
    | ((with_reducible apply s_app0); (case he => rfl); (case hK | hc | hr => first | rfl | assumption | omega | ((first | refine ⟨?_, ?_⟩ | skip) <;> first | omega | (simp only [lN, hlr] <;> omega)) | (simp [elemsK, D.isVal, D.cells, D.closedL, D.closed, hlr]; first | done | omega)))
    | ((with_reducible apply s_appF); (case he => rfl); (case hK | hc | hr | hx | hn => first | rfl | assumption | omega | ((first | refine ⟨?_, ?_⟩ | skip) <;> first | omega | (simp only [lN, hlr] <;> omega)) | (simp [elemsK, D.isVal, D.cells, D.closedL, D.closed, hlr]; first | done | omega)))
    | ((with_reducible apply s_bsl); (case he | hl | hc => first | rfl | assumption | omega | ((first | refine ⟨?_, ?_⟩ | skip) <;> first | omega | (simp only [lN, hlr] <;> omega)) | (simp [elemsK, D.isVal, D.cells, D.closedL, D.closed, hlr]; first | done | omega)))
    | ((with_reducible apply s_mks); (case h0 | h1 | h2 => first | rfl | assumption | omega | ((first | refine ⟨?_, ?_⟩ | skip) <;> first | omega | (simp only [lN, hlr] <;> omega)) | (simp [elemsK, D.isVal, D.cells, D.closedL, D.closed, hlr]; first | done | omega)))
    | with_reducible first | apply cd_dec | apply cd_eq | apply cd_ne | apply cd_split | apply gd_dec | apply gd_eq | apply gd_ne | apply gd_split | apply gq_dec | apply gq_eq | apply gq_ne | apply gq_split
    | ((with_reducible refine And.intro ?hw ?_); (case hw => first | omega | rfl | exact ⟨_, _, rfl⟩ | assumption | (simp only [lN, hlr] <;> omega)))
    | with_reducible intro _)
  all_goals first | omega | skip
  refine swp_mono (Q := fun e s' => e = .exit 0 ∧ s'.keep [0, 2, 3] = (⟨[rpsD l, .undef, .sl 0 1 0 l.length l.length, .sl 1 1 0 l.length l.length, .undef, .undef, .undef, .undef, .undef, .undef, .undef, .undef, .undef, .undef, .undef, .undef, .undef, .undef, .undef, .undef, .undef, .undef, .undef, .undef, .undef, .undef], [], ⟨[.cells (ints (List.range l.length)), .cells (listsD R)], []⟩⟩)) ?_ fun e s' hq => ?_
  · refine swp_fam [0, 2, 3, 4] (fun i : Nat => ⟨[rpsD l, .undef, .sl 0 1 0 l.length l.length, .sl 1 1 0 l.length l.length, .int .i64 i, .undef, .undef, .undef, .undef, .undef, .undef, .undef, .undef, .undef, .undef, .undef, .undef, .undef, .undef, .undef, .undef, .undef, .undef, .undef, .undef, .undef], [], ⟨[.cells (ints (fillR l.length i)), .cells (fillN R i)], []⟩⟩) (fun i => i ≤ l.length) (fun i => l.length - i) 0 (by omega) ?_ ?_
    · simp [keepE, St.keep]
    · intro i hi
      by_cases hil : i < l.length
      · have t0 : decide (((i : Nat) : Int) < l.length) = true := by simp; omega
        have hg := rp_get hil
        have c1 := rnames_p l[i] (hs _ (List.getElem_mem _))
        rw [show rpD l[i] = .agg [.slice (l[i].opts.map evD) .no, .bool l[i].doubt] from rfl, ← hnm i hil] at c1
        have e1 := ints_set (F := fillR l.length i) (i := i) (x := i)
        rw [fillR_set hil] at e1
        have e2 := fillN_set (R := R) (i := i) (by omega)
        have l1 := ints_len (fillR l.length i)
        rw [fillR_len (by omega)] at l1
        have l2 := fillN_len (R := R) (i := i) (by omega)
        rw [hRl] at l2
        generalize R.getD i [] = Ni at *
        repeat' (first
    | with_reducible first | apply swp_seq | apply swp_reg | apply swp_regD | apply swp_block | apply swp_exit | apply swp_ret | apply swp_skip | apply swp_cd
    | simp only [go_sem, seval, P14, q14, hlr, t0, hg, e1, e2, Nat.mul_one, Nat.zero_add, setL, D.cells]
    | simp (disch := omega) only [w64, w32, wu8, wu16, wu32, wu64]
    | ((with_reducible refine o_call (c1) ?he ?hc ?_); (case he | hc => first | rfl | (simp [D.erL, D.er, D.closedL, D.closed, hlr, hg, l1, l2]; done)))
    | ((with_reducible apply s_appT); (case he => rfl); (case hK | hc | hr | hV => first | rfl | assumption | omega | ((first | refine ⟨?_, ?_⟩ | skip) <;> first | omega | (simp only [lN, hlr, hg, l1, l2] <;> omega)) | (simp [elemsK, D.isVal, D.cells, D.closedL, D.closed, hlr, hg, l1, l2]; first | done | omega)))
    | ((with_reducible apply s_appG); (case he => rfl); (case hV | hK | hr | hl => first | rfl | assumption | omega | ((first | refine ⟨?_, ?_⟩ | skip) <;> first | omega | (simp only [lN, hlr, hg, l1, l2] <;> omega)) | (simp [elemsK, D.isVal, D.cells, D.closedL, D.closed, hlr, hg, l1, l2]; first | done | omega)))
    | ((with_reducible apply s_app0); (case he => rfl); (case hK | hc | hr => first | rfl | assumption | omega | ((first | refine ⟨?_, ?_⟩ | skip) <;> first | omega | (simp only [lN, hlr, hg, l1, l2] <;> omega)) | (simp [elemsK, D.isVal, D.cells, D.closedL, D.closed, hlr, hg, l1, l2]; first | done | omega)))
    | ((with_reducible apply s_appF); (case he => rfl); (case hK | hc | hr | hx | hn => first | rfl | assumption | omega | ((first | refine ⟨?_, ?_⟩ | skip) <;> first | omega | (simp only [lN, hlr, hg, l1, l2] <;> omega)) | (simp [elemsK, D.isVal, D.cells, D.closedL, D.closed, hlr, hg, l1, l2]; first | done | omega)))
    | ((with_reducible apply s_bsl); (case he | hl | hc => first | rfl | assumption | omega | ((first | refine ⟨?_, ?_⟩ | skip) <;> first | omega | (simp only [lN, hlr, hg, l1, l2] <;> omega)) | (simp [elemsK, D.isVal, D.cells, D.closedL, D.closed, hlr, hg, l1, l2]; first | done | omega)))
    | ((with_reducible apply s_mks); (case h0 | h1 | h2 => first | rfl | assumption | omega | ((first | refine ⟨?_, ?_⟩ | skip) <;> first | omega | (simp only [lN, hlr, hg, l1, l2] <;> omega)) | (simp [elemsK, D.isVal, D.cells, D.closedL, D.closed, hlr, hg, l1, l2]; first | done | omega)))
    | with_reducible first | apply cd_dec | apply cd_eq | apply cd_ne | apply cd_split | apply gd_dec | apply gd_eq | apply gd_ne | apply gd_split | apply gq_dec | apply gq_eq | apply gq_ne | apply gq_split
    | ((with_reducible refine And.intro ?hw ?_); (case hw => first | omega | rfl | exact ⟨_, _, rfl⟩ | assumption | (simp only [lN, hlr, hg, l1, l2] <;> omega)))
    | with_reducible intro _)
        all_goals first | omega | skip
        exact ⟨i + 1, by omega, by omega, by simp [keepE, St.keep]⟩
      · have t0 : decide (((i : Nat) : Int) < l.length) = false := by simp; omega
        have : i = l.length := by omega
        subst this
        rw [hRE, hNE]
        repeat' (first
    | with_reducible first | apply swp_seq | apply swp_reg | apply swp_regD | apply swp_block | apply swp_exit | apply swp_ret | apply swp_skip | apply swp_cd
    | simp only [go_sem, seval, P14, q14, hlr, t0]
    | simp (disch := omega) only [w64, w32, wu8, wu16, wu32, wu64]
    | ((with_reducible apply s_appT); (case he => rfl); (case hK | hc | hr | hV => first | rfl | assumption | omega | ((first | refine ⟨?_, ?_⟩ | skip) <;> first | omega | (simp only [lN, hlr] <;> omega)) | (simp [elemsK, D.isVal, D.cells, D.closedL, D.closed, hlr]; first | done | omega)))
    | ((with_reducible apply s_appG); (case he => rfl); (case hV | hK | hr | hl => first | rfl | assumption | omega | ((first | refine ⟨?_, ?_⟩ | skip) <;> first | omega | (simp only [lN, hlr] <;> omega)) | (simp [elemsK, D.isVal, D.cells, D.closedL, D.closed, hlr]; first | done | omega)))
    | ((with_reducible apply s_app0); (case he => rfl); (case hK | hc | hr => first | rfl | assumption | omega | ((first | refine ⟨?_, ?_⟩ | skip) <;> first | omega | (simp only [lN, hlr] <;> omega)) | (simp [elemsK, D.isVal, D.cells, D.closedL, D.closed, hlr]; first | done | omega)))
    | ((with_reducible apply s_appF); (case he => rfl); (case hK | hc | hr | hx | hn => first | rfl | assumption | omega | ((first | refine ⟨?_, ?_⟩ | skip) <;> first | omega | (simp only [lN, hlr] <;> omega)) | (simp [elemsK, D.isVal, D.cells, D.closedL, D.closed, hlr]; first | done | omega)))
    | ((with_reducible apply s_bsl); (case he | hl | hc => first | rfl | assumption | omega | ((first | refine ⟨?_, ?_⟩ | skip) <;> first | omega | (simp only [lN, hlr] <;> omega)) | (simp [elemsK, D.isVal, D.cells, D.closedL, D.closed, hlr]; first | done | omega)))
    | ((with_reducible apply s_mks); (case h0 | h1 | h2 => first | rfl | assumption | omega | ((first | refine ⟨?_, ?_⟩ | skip) <;> first | omega | (simp only [lN, hlr] <;> omega)) | (simp [elemsK, D.isVal, D.cells, D.closedL, D.closed, hlr]; first | done | omega)))
    | with_reducible first | apply cd_dec | apply cd_eq | apply cd_ne | apply cd_split | apply gd_dec | apply gd_eq | apply gd_ne | apply gd_split | apply gq_dec | apply gq_eq | apply gq_ne | apply gq_split
    | ((with_reducible refine And.intro ?hw ?_); (case hw => first | omega | rfl | exact ⟨_, _, rfl⟩ | assumption | (simp only [lN, hlr] <;> omega)))
    | with_reducible intro _)
        all_goals first | omega | skip
        all_goals simp [keepE, St.keep]
  obtain ⟨rfl, hq⟩ := hq
  refine ⟨_, weak_keep [0, 2, 3], ?_⟩
  rw [show ({ s' with env := keepE [0, 2, 3] 0 s'.env } : St) = s'.keep [0, 2, 3] from rfl, hq]
  clear hq
  repeat' (first
    | with_reducible first | apply swp_seq | apply swp_reg | apply swp_regD | apply swp_block | apply swp_exit | apply swp_ret | apply swp_skip | apply swp_cd
    | simp only [go_sem, seval, P14, q14, hlr]
    | simp (disch := omega) only [w64, w32, wu8, wu16, wu32, wu64]
    | ((with_reducible apply s_appT); (case he => rfl); (case hK | hc | hr | hV => first | rfl | assumption | omega | ((first | refine ⟨?_, ?_⟩ | skip) <;> first | omega | (simp only [lN, hlr] <;> omega)) | (simp [elemsK, D.isVal, D.cells, D.closedL, D.closed, hlr]; first | done | omega)))
    | ((with_reducible apply s_appG); (case he => rfl); (case hV | hK | hr | hl => first | rfl | assumption | omega | ((first | refine ⟨?_, ?_⟩ | skip) <;> first | omega | (simp only [lN, hlr] <;> omega)) | (simp [elemsK, D.isVal, D.cells, D.closedL, D.closed, hlr]; first | done | omega)))
    | ((with_reducible apply s_app0); (case he => rfl); (case hK | hc | hr => first | rfl | assumption | omega | ((first | refine ⟨?_, ?_⟩ | skip) <;> first | omega | (simp only [lN, hlr] <;> omega)) | (simp [elemsK, D.isVal, D.cells, D.closedL, D.closed, hlr]; first | done | omega)))
    | ((with_reducible apply s_appF); (case he => rfl); (case hK | hc | hr | hx | hn => first | rfl | assumption | omega | ((first | refine ⟨?_, ?_⟩ | skip) <;> first | omega | (simp only [lN, hlr] <;> omega)) | (simp [elemsK, D.isVal, D.cells, D.closedL, D.closed, hlr]; first | done | omega)))
    | ((with_reducible apply s_bsl); (case he | hl | hc => first | rfl | assumption | omega | ((first | refine ⟨?_, ?_⟩ | skip) <;> first | omega | (simp only [lN, hlr] <;> omega)) | (simp [elemsK, D.isVal, D.cells, D.closedL, D.closed, hlr]; first | done | omega)))
    | ((with_reducible apply s_mks); (case h0 | h1 | h2 => first | rfl | assumption | omega | ((first | refine ⟨?_, ?_⟩ | skip) <;> first | omega | (simp only [lN, hlr] <;> omega)) | (simp [elemsK, D.isVal, D.cells, D.closedL, D.closed, hlr]; first | done | omega)))
    | with_reducible first | apply cd_dec | apply cd_eq | apply cd_ne | apply cd_split | apply gd_dec | apply gd_eq | apply gd_ne | apply gd_split | apply gq_dec | apply gq_eq | apply gq_ne | apply gq_split
    | ((with_reducible refine And.intro ?hw ?_); (case hw => first | omega | rfl | exact ⟨_, _, rfl⟩ | assumption | (simp only [lN, hlr] <;> omega)))
    | with_reducible intro _)
  all_goals first | omega | skip
  have hrf := rf_init R
  rw [hRl] at hrf
  refine swp_mono (Q := fun e s' => e = .exit 2 ∧ s'.keep [0, 2] = (⟨[rpsD l, .undef, .sl 0 1 0 l.length l.length, .undef, .undef, .undef, .undef, .undef, .undef, .undef, .undef, .undef, .undef, .undef, .undef, .undef, .undef, .undef, .undef, .undef, .undef, .undef, .undef, .undef, .undef, .undef], [], ⟨[.cells (ints (labs R)), .cells (listsD R)], []⟩⟩)) ?_ fun e s' hq => ?_
  · refine swp_fam [0, 2, 3, 5] (fun p : List Nat × Bool => ⟨[rpsD l, .undef, .sl 0 1 0 l.length l.length, .sl 1 1 0 l.length l.length, .undef, .bool p.2, .undef, .undef, .undef, .undef, .undef, .undef, .undef, .undef, .undef, .undef, .undef, .undef, .undef, .undef, .undef, .undef, .undef, .undef, .undef, .undef], [], ⟨[.cells (ints (p.1)), .cells (listsD R)], []⟩⟩) (fun p => Rf R p.1 ∧ (p.2 = false → okTo2 R p.1 l.length 0)) (fun p => 2 * p.1.sum + if p.2 then 1 else 0) (List.range l.length, true) ⟨hrf, fun h => Bool.noConfusion h⟩ ?_ ?_
    · simp [keepE, St.keep]
    · rintro ⟨L0, ch0⟩ ⟨hrf0, hok0⟩
      simp only at hrf0 hok0 ⊢
      cases ch0
      · have hdone : L0 = labs R := rf_done hrf0 fun i k hi hk hne => hok0 rfl i k hk (by omega) hne
        subst hdone
        repeat' (first
    | with_reducible first | apply swp_seq | apply swp_reg | apply swp_regD | apply swp_block | apply swp_exit | apply swp_ret | apply swp_skip | apply swp_cd
    | simp only [go_sem, seval, P14, q14]
    | simp (disch := omega) only [w64, w32, wu8, wu16, wu32, wu64]
    | ((with_reducible apply s_appT); (case he => rfl); (case hK | hc | hr | hV => first | rfl | assumption | omega | ((first | refine ⟨?_, ?_⟩ | skip) <;> first | omega | (simp only [lN] <;> omega)) | (simp [elemsK, D.isVal, D.cells, D.closedL, D.closed]; first | done | omega)))
    | ((with_reducible apply s_appG); (case he => rfl); (case hV | hK | hr | hl => first | rfl | assumption | omega | ((first | refine ⟨?_, ?_⟩ | skip) <;> first | omega | (simp only [lN] <;> omega)) | (simp [elemsK, D.isVal, D.cells, D.closedL, D.closed]; first | done | omega)))
    | ((with_reducible apply s_app0); (case he => rfl); (case hK | hc | hr => first | rfl | assumption | omega | ((first | refine ⟨?_, ?_⟩ | skip) <;> first | omega | (simp only [lN] <;> omega)) | (simp [elemsK, D.isVal, D.cells, D.closedL, D.closed]; first | done | omega)))
    | ((with_reducible apply s_appF); (case he => rfl); (case hK | hc | hr | hx | hn => first | rfl | assumption | omega | ((first | refine ⟨?_, ?_⟩ | skip) <;> first | omega | (simp only [lN] <;> omega)) | (simp [elemsK, D.isVal, D.cells, D.closedL, D.closed]; first | done | omega)))
    | ((with_reducible apply s_bsl); (case he | hl | hc => first | rfl | assumption | omega | ((first | refine ⟨?_, ?_⟩ | skip) <;> first | omega | (simp only [lN] <;> omega)) | (simp [elemsK, D.isVal, D.cells, D.closedL, D.closed]; first | done | omega)))
    | ((with_reducible apply s_mks); (case h0 | h1 | h2 => first | rfl | assumption | omega | ((first | refine ⟨?_, ?_⟩ | skip) <;> first | omega | (simp only [lN] <;> omega)) | (simp [elemsK, D.isVal, D.cells, D.closedL, D.closed]; first | done | omega)))
    | with_reducible first | apply cd_dec | apply cd_eq | apply cd_ne | apply cd_split | apply gd_dec | apply gd_eq | apply gd_ne | apply gd_split | apply gq_dec | apply gq_eq | apply gq_ne | apply gq_split
    | ((with_reducible refine And.intro ?hw ?_); (case hw => first | omega | rfl | exact ⟨_, _, rfl⟩ | assumption | (simp only [lN] <;> omega)))
    | with_reducible intro _)
        all_goals first | omega | skip
        all_goals simp [keepE, St.keep]
      · repeat' (first
    | with_reducible first | apply swp_seq | apply swp_reg | apply swp_regD | apply swp_block | apply swp_exit | apply swp_ret | apply swp_skip | apply swp_cd
    | simp only [go_sem, seval, P14, q14]
    | simp (disch := omega) only [w64, w32, wu8, wu16, wu32, wu64]
    | ((with_reducible apply s_appT); (case he => rfl); (case hK | hc | hr | hV => first | rfl | assumption | omega | ((first | refine ⟨?_, ?_⟩ | skip) <;> first | omega | (simp only [lN] <;> omega)) | (simp [elemsK, D.isVal, D.cells, D.closedL, D.closed]; first | done | omega)))
    | ((with_reducible apply s_appG); (case he => rfl); (case hV | hK | hr | hl => first | rfl | assumption | omega | ((first | refine ⟨?_, ?_⟩ | skip) <;> first | omega | (simp only [lN] <;> omega)) | (simp [elemsK, D.isVal, D.cells, D.closedL, D.closed]; first | done | omega)))
    | ((with_reducible apply s_app0); (case he => rfl); (case hK | hc | hr => first | rfl | assumption | omega | ((first | refine ⟨?_, ?_⟩ | skip) <;> first | omega | (simp only [lN] <;> omega)) | (simp [elemsK, D.isVal, D.cells, D.closedL, D.closed]; first | done | omega)))
    | ((with_reducible apply s_appF); (case he => rfl); (case hK | hc | hr | hx | hn => first | rfl | assumption | omega | ((first | refine ⟨?_, ?_⟩ | skip) <;> first | omega | (simp only [lN] <;> omega)) | (simp [elemsK, D.isVal, D.cells, D.closedL, D.closed]; first | done | omega)))
    | ((with_reducible apply s_bsl); (case he | hl | hc => first | rfl | assumption | omega | ((first | refine ⟨?_, ?_⟩ | skip) <;> first | omega | (simp only [lN] <;> omega)) | (simp [elemsK, D.isVal, D.cells, D.closedL, D.closed]; first | done | omega)))
    | ((with_reducible apply s_mks); (case h0 | h1 | h2 => first | rfl | assumption | omega | ((first | refine ⟨?_, ?_⟩ | skip) <;> first | omega | (simp only [lN] <;> omega)) | (simp [elemsK, D.isVal, D.cells, D.closedL, D.closed]; first | done | omega)))
    | with_reducible first | apply cd_dec | apply cd_eq | apply cd_ne | apply cd_split | apply gd_dec | apply gd_eq | apply gd_ne | apply gd_split | apply gq_dec | apply gq_eq | apply gq_ne | apply gq_split
    | ((with_reducible refine And.intro ?hw ?_); (case hw => first | omega | rfl | exact ⟨_, _, rfl⟩ | assumption | (simp only [lN] <;> omega)))
    | with_reducible intro _)
        all_goals first | omega | skip
        refine swp_mono (Q := fun e s' => e = .exit 4 ∧ ∃ L1 ch1, (Rf R L1 ∧ (ch1 = false → L1 = L0 ∧ okTo2 R L0 l.length 0) ∧ (ch1 = true → L1.sum < L0.sum)) ∧ s'.keep [0, 2, 3, 5] = (fun p : List Nat × Bool => ⟨[rpsD l, .undef, .sl 0 1 0 l.length l.length, .sl 1 1 0 l.length l.length, .undef, .bool p.2, .undef, .undef, .undef, .undef, .undef, .undef, .undef, .undef, .undef, .undef, .undef, .undef, .undef, .undef, .undef, .undef, .undef, .undef, .undef, .undef], [], ⟨[.cells (ints (p.1)), .cells (listsD R)], []⟩⟩) (L1, ch1)) ?_ fun e s' hq => ?_
        · refine swp_fam [0, 2, 3, 5, 6] (fun p : Nat × List Nat × Bool => ⟨[rpsD l, .undef, .sl 0 1 0 l.length l.length, .sl 1 1 0 l.length l.length, .undef, .bool p.2.2, .int .i64 p.1, .undef, .undef, .undef, .undef, .undef, .undef, .undef, .undef, .undef, .undef, .undef, .undef, .undef, .undef, .undef, .undef, .undef, .undef, .undef], [], ⟨[.cells (ints (p.2.1)), .cells (listsD R)], []⟩⟩) (fun p => p.1 ≤ l.length ∧ Rf R p.2.1 ∧ (p.2.2 = false → p.2.1 = L0 ∧ okTo2 R L0 p.1 0) ∧ (p.2.2 = true → p.2.1.sum < L0.sum)) (fun p => l.length - p.1) (0, L0, false) ⟨by simp only; omega, hrf0, fun _ => ⟨rfl, fun a b h q => by omega⟩, fun h => Bool.noConfusion h⟩ ?_ ?_
          · simp [keepE, St.keep]
          · rintro ⟨i, L1, ch1⟩ ⟨hi, hrf1, hf1, ht1⟩
            simp only at hi hrf1 hf1 ht1 ⊢
            by_cases hil : i < l.length
            · have t1 : decide (((i : Nat) : Int) < l.length) = true := by simp; omega
              repeat' (first
    | with_reducible first | apply swp_seq | apply swp_reg | apply swp_regD | apply swp_block | apply swp_exit | apply swp_ret | apply swp_skip | apply swp_cd
    | simp only [go_sem, seval, P14, q14, hlr, t1]
    | simp (disch := omega) only [w64, w32, wu8, wu16, wu32, wu64]
    | ((with_reducible apply s_appT); (case he => rfl); (case hK | hc | hr | hV => first | rfl | assumption | omega | ((first | refine ⟨?_, ?_⟩ | skip) <;> first | omega | (simp only [lN, hlr] <;> omega)) | (simp [elemsK, D.isVal, D.cells, D.closedL, D.closed, hlr]; first | done | omega)))
    | ((with_reducible apply s_appG); (case he => rfl); (case hV | hK | hr | hl => first | rfl | assumption | omega | ((first | refine ⟨?_, ?_⟩ | skip) <;> first | omega | (simp only [lN, hlr] <;> omega)) | (simp [elemsK, D.isVal, D.cells, D.closedL, D.closed, hlr]; first | done | omega)))
    | ((with_reducible apply s_app0); (case he => rfl); (case hK | hc | hr => first | rfl | assumption | omega | ((first | refine ⟨?_, ?_⟩ | skip) <;> first | omega | (simp only [lN, hlr] <;> omega)) | (simp [elemsK, D.isVal, D.cells, D.closedL, D.closed, hlr]; first | done | omega)))
    | ((with_reducible apply s_appF); (case he => rfl); (case hK | hc | hr | hx | hn => first | rfl | assumption | omega | ((first | refine ⟨?_, ?_⟩ | skip) <;> first | omega | (simp only [lN, hlr] <;> omega)) | (simp [elemsK, D.isVal, D.cells, D.closedL, D.closed, hlr]; first | done | omega)))
    | ((with_reducible apply s_bsl); (case he | hl | hc => first | rfl | assumption | omega | ((first | refine ⟨?_, ?_⟩ | skip) <;> first | omega | (simp only [lN, hlr] <;> omega)) | (simp [elemsK, D.isVal, D.cells, D.closedL, D.closed, hlr]; first | done | omega)))
    | ((with_reducible apply s_mks); (case h0 | h1 | h2 => first | rfl | assumption | omega | ((first | refine ⟨?_, ?_⟩ | skip) <;> first | omega | (simp only [lN, hlr] <;> omega)) | (simp [elemsK, D.isVal, D.cells, D.closedL, D.closed, hlr]; first | done | omega)))
    | with_reducible first | apply cd_dec | apply cd_eq | apply cd_ne | apply cd_split | apply gd_dec | apply gd_eq | apply gd_ne | apply gd_split | apply gq_dec | apply gq_eq | apply gq_ne | apply gq_split
    | ((with_reducible refine And.intro ?hw ?_); (case hw => first | omega | rfl | exact ⟨_, _, rfl⟩ | assumption | (simp only [lN, hlr] <;> omega)))
    | with_reducible intro _)
              all_goals first | omega | skip
              refine swp_mono (Q := fun e s' => e = .exit 6 ∧ ∃ L1 ch1, (Rf R L1 ∧ (ch1 = false → L1 = L0 ∧ okTo2 R L0 i i) ∧ (ch1 = true → L1.sum < L0.sum)) ∧ s'.keep [0, 2, 3, 5, 6] = (fun p : Nat × List Nat × Bool => ⟨[rpsD l, .undef, .sl 0 1 0 l.length l.length, .sl 1 1 0 l.length l.length, .undef, .bool p.2.2, .int .i64 p.1, .undef, .undef, .undef, .undef, .undef, .undef, .undef, .undef, .undef, .undef, .undef, .undef, .undef, .undef, .undef, .undef, .undef, .undef, .undef], [], ⟨[.cells (ints (p.2.1)), .cells (listsD R)], []⟩⟩) (i, L1, ch1)) ?_ fun e s' hq => ?_
              · refine swp_fam [0, 2, 3, 5, 6, 7] (fun p : Nat × List Nat × Bool => ⟨[rpsD l, .undef, .sl 0 1 0 l.length l.length, .sl 1 1 0 l.length l.length, .undef, .bool p.2.2, .int .i64 i, .int .i64 p.1, .undef, .undef, .undef, .undef, .undef, .undef, .undef, .undef, .undef, .undef, .undef, .undef, .undef, .undef, .undef, .undef, .undef, .undef], [], ⟨[.cells (ints (p.2.1)), .cells (listsD R)], []⟩⟩) (fun p => p.1 ≤ i ∧ Rf R p.2.1 ∧ (p.2.2 = false → p.2.1 = L0 ∧ okTo2 R L0 i p.1) ∧ (p.2.2 = true → p.2.1.sum < L0.sum)) (fun p => i - p.1) (0, L1, ch1) ⟨by simp only; omega, hrf1, hf1, ht1⟩ ?_ ?_
                · simp [keepE, St.keep]
                · rintro ⟨k, L, ch⟩ ⟨hk, hrf, hf, ht⟩
                  simp only at hk hrf hf ht ⊢
                  have hLl := hrf.len
                  rw [hRl] at hLl
                  by_cases hki : k < i
                  · have t2 : decide (((k : Nat) : Int) < i) = true := by simp; omega
                    have li := ints_len L
                    rw [hLl] at li
                    have g1 := ints_get (F := L) (i := i) (by omega)
                    have g2 := ints_get (F := L) (i := k) (by omega)
                    have g3 : (listsD R).getD i .undef = .slice (strs (R.getD i [])) .no := by rw [lists_get (by omega)]; simp [List.getD, show i < R.length by omega]
                    have g4 : (listsD R).getD k .undef = .slice (strs (R.getD k [])) .no := by rw [lists_get (by omega)]; simp [List.getD, show k < R.length by omega]
                    have cc := common_p (R.getD i []) (R.getD k []) (by rw [hnm i (by omega)]; have := namesR_len (r := l[i]); omega) (by rw [hnm k (by omega)]; have := namesR_len (r := l[k]'(by omega)); omega)
                    have v1 := cl_strs (R.getD i [])
                    have v2 := er_strs (R.getD i [])
                    have v3 := cl_strs (R.getD k [])
                    have v4 := er_strs (R.getD k [])
                    have hcm := com_iff (R := R) (i := i) (k := k)
                    have next : ∀ (h : lb L i ≠ lb L k → com (R.getD i []) (R.getD k []) = false), (ch = false → L = L0 ∧ okTo2 R L0 i (k + 1)) := fun h q => by
                      obtain ⟨q1, q2⟩ := hf q
                      refine ⟨q1, fun a b hab hc hne => ?_⟩
                      by_cases e : a = i ∧ b = k
                      · obtain ⟨rfl, rfl⟩ := e; rw [← q1] at hne; exact h hne
                      · exact q2 a b hab (by omega) hne
                    by_cases e : lb L i = lb L k
                    · have t3 : (((lb L i : Nat) : Int) != (lb L k : Nat)) = false := by rw [e]; simp
                      have hn := next fun q => absurd e q
                      clear next
                      generalize lb L i = x at *
                      generalize lb L k = y at *
                      repeat' (first
    | with_reducible first | apply swp_seq | apply swp_reg | apply swp_regD | apply swp_block | apply swp_exit | apply swp_ret | apply swp_skip | apply swp_cd
    | simp only [go_sem, seval, P14, q14, t2, g1, g2, t3, Nat.mul_one, Nat.zero_add]
    | simp (disch := omega) only [w64, w32, wu8, wu16, wu32, wu64]
    | ((with_reducible apply s_appT); (case he => rfl); (case hK | hc | hr | hV => first | rfl | assumption | omega | ((first | refine ⟨?_, ?_⟩ | skip) <;> first | omega | (simp only [lN, li, lr] <;> omega)) | (simp [elemsK, D.isVal, D.cells, D.closedL, D.closed, li, lr]; first | done | omega)))
    | ((with_reducible apply s_appG); (case he => rfl); (case hV | hK | hr | hl => first | rfl | assumption | omega | ((first | refine ⟨?_, ?_⟩ | skip) <;> first | omega | (simp only [lN, li, lr] <;> omega)) | (simp [elemsK, D.isVal, D.cells, D.closedL, D.closed, li, lr]; first | done | omega)))
    | ((with_reducible apply s_app0); (case he => rfl); (case hK | hc | hr => first | rfl | assumption | omega | ((first | refine ⟨?_, ?_⟩ | skip) <;> first | omega | (simp only [lN, li, lr] <;> omega)) | (simp [elemsK, D.isVal, D.cells, D.closedL, D.closed, li, lr]; first | done | omega)))
    | ((with_reducible apply s_appF); (case he => rfl); (case hK | hc | hr | hx | hn => first | rfl | assumption | omega | ((first | refine ⟨?_, ?_⟩ | skip) <;> first | omega | (simp only [lN, li, lr] <;> omega)) | (simp [elemsK, D.isVal, D.cells, D.closedL, D.closed, li, lr]; first | done | omega)))
    | ((with_reducible apply s_bsl); (case he | hl | hc => first | rfl | assumption | omega | ((first | refine ⟨?_, ?_⟩ | skip) <;> first | omega | (simp only [lN, li, lr] <;> omega)) | (simp [elemsK, D.isVal, D.cells, D.closedL, D.closed, li, lr]; first | done | omega)))
    | ((with_reducible apply s_mks); (case h0 | h1 | h2 => first | rfl | assumption | omega | ((first | refine ⟨?_, ?_⟩ | skip) <;> first | omega | (simp only [lN, li, lr] <;> omega)) | (simp [elemsK, D.isVal, D.cells, D.closedL, D.closed, li, lr]; first | done | omega)))
    | with_reducible first | apply cd_dec | apply cd_eq | apply cd_ne | apply cd_split | apply gd_dec | apply gd_eq | apply gd_ne | apply gd_split | apply gq_dec | apply gq_eq | apply gq_ne | apply gq_split
    | ((with_reducible refine And.intro ?hw ?_); (case hw => first | omega | rfl | exact ⟨_, _, rfl⟩ | assumption | (simp only [lN, li, lr] <;> omega)))
    | with_reducible intro _)
                      all_goals first | omega | skip
                      exact ⟨(k + 1, L, ch), ⟨by simp only; omega, hrf, hn, ht⟩, by simp only; omega, by simp [keepE, St.keep]⟩
                    · have t3 : (((lb L i : Nat) : Int) != (lb L k : Nat)) = true := by rw [bne_iff_ne]; omega
                      cases hcom : com (R.getD i []) (R.getD k [])
                      · rw [hcom] at cc
                        have hn := next fun _ => hcom
                        clear next hcm
                        generalize lb L i = x at *
                        generalize lb L k = y at *
                        generalize R.getD i [] = Ni at *
                        generalize R.getD k [] = Nk at *
                        repeat' (first
    | with_reducible first | apply swp_seq | apply swp_reg | apply swp_regD | apply swp_block | apply swp_exit | apply swp_ret | apply swp_skip | apply swp_cd
    | simp only [go_sem, seval, P14, q14, t2, g1, g2, g3, g4, t3, Nat.mul_one, Nat.zero_add]
    | simp (disch := omega) only [w64, w32, wu8, wu16, wu32, wu64]
    | ((with_reducible refine o_call (cc) ?he ?hc ?_); (case he | hc => first | rfl | (simp [D.erL, D.er, D.closedL, D.closed, li, lr, v1, v2, v3, v4]; done)))
    | ((with_reducible apply s_appT); (case he => rfl); (case hK | hc | hr | hV => first | rfl | assumption | omega | ((first | refine ⟨?_, ?_⟩ | skip) <;> first | omega | (simp only [lN, li, lr, v1, v2, v3, v4] <;> omega)) | (simp [elemsK, D.isVal, D.cells, D.closedL, D.closed, li, lr, v1, v2, v3, v4]; first | done | omega)))
    | ((with_reducible apply s_appG); (case he => rfl); (case hV | hK | hr | hl => first | rfl | assumption | omega | ((first | refine ⟨?_, ?_⟩ | skip) <;> first | omega | (simp only [lN, li, lr, v1, v2, v3, v4] <;> omega)) | (simp [elemsK, D.isVal, D.cells, D.closedL, D.closed, li, lr, v1, v2, v3, v4]; first | done | omega)))
    | ((with_reducible apply s_app0); (case he => rfl); (case hK | hc | hr => first | rfl | assumption | omega | ((first | refine ⟨?_, ?_⟩ | skip) <;> first | omega | (simp only [lN, li, lr, v1, v2, v3, v4] <;> omega)) | (simp [elemsK, D.isVal, D.cells, D.closedL, D.closed, li, lr, v1, v2, v3, v4]; first | done | omega)))
    | ((with_reducible apply s_appF); (case he => rfl); (case hK | hc | hr | hx | hn => first | rfl | assumption | omega | ((first | refine ⟨?_, ?_⟩ | skip) <;> first | omega | (simp only [lN, li, lr, v1, v2, v3, v4] <;> omega)) | (simp [elemsK, D.isVal, D.cells, D.closedL, D.closed, li, lr, v1, v2, v3, v4]; first | done | omega)))
    | ((with_reducible apply s_bsl); (case he | hl | hc => first | rfl | assumption | omega | ((first | refine ⟨?_, ?_⟩ | skip) <;> first | omega | (simp only [lN, li, lr, v1, v2, v3, v4] <;> omega)) | (simp [elemsK, D.isVal, D.cells, D.closedL, D.closed, li, lr, v1, v2, v3, v4]; first | done | omega)))
    | ((with_reducible apply s_mks); (case h0 | h1 | h2 => first | rfl | assumption | omega | ((first | refine ⟨?_, ?_⟩ | skip) <;> first | omega | (simp only [lN, li, lr, v1, v2, v3, v4] <;> omega)) | (simp [elemsK, D.isVal, D.cells, D.closedL, D.closed, li, lr, v1, v2, v3, v4]; first | done | omega)))
    | with_reducible first | apply cd_dec | apply cd_eq | apply cd_ne | apply cd_split | apply gd_dec | apply gd_eq | apply gd_ne | apply gd_split | apply gq_dec | apply gq_eq | apply gq_ne | apply gq_split
    | ((with_reducible refine And.intro ?hw ?_); (case hw => first | omega | rfl | exact ⟨_, _, rfl⟩ | assumption | (simp only [lN, li, lr, v1, v2, v3, v4] <;> omega)))
    | with_reducible intro _)
                        all_goals first | omega | skip
                        exact ⟨(k + 1, L, ch), ⟨by simp only; omega, hrf, hn, ht⟩, by simp only; omega, by simp [keepE, St.keep]⟩
                      · rw [hcom] at cc
                        have hj := rf_join hrf (hcm.1 hcom)
                        have hsum := sum_join (L := L) (i := i) (k := k) (by omega) (by omega) e
                        have hjd : joinL L i k = relab (max (lb L i) (lb L k)) (min (lb L i) (lb L k)) L := rfl
                        have hsum2 : (joinL L i k).sum < L0.sum := by
                          cases ch
                          · rw [(hf rfl).1] at hsum; rw [(hf rfl).1]; exact hsum
                          · have := ht rfl; omega
                        have hmx : (if ((lb L k : Nat) : Int) > (lb L i : Nat) then ((lb L k : Nat) : Int) else (lb L i : Nat)) = ((max (lb L i) (lb L k) : Nat) : Int) := by split <;> omega
                        have hmn : (if ((lb L k : Nat) : Int) < (lb L i : Nat) then ((lb L k : Nat) : Int) else (lb L i : Nat)) = ((min (lb L i) (lb L k) : Nat) : Int) := by split <;> omega
                        clear hcm next
                        generalize R.getD i [] = Ni at *
                        generalize R.getD k [] = Nk at *
                        generalize max (lb L i) (lb L k) = mx at *
                        generalize min (lb L i) (lb L k) = mn at *
                        generalize joinL L i k = J at *
                        repeat' (first
    | with_reducible first | apply swp_seq | apply swp_reg | apply swp_regD | apply swp_block | apply swp_exit | apply swp_ret | apply swp_skip | apply swp_cd
    | simp only [go_sem, seval, P14, q14, t2, g1, g2, g3, g4, t3, Nat.mul_one, Nat.zero_add, foldI, hmx, hmn]
    | simp (disch := omega) only [w64, w32, wu8, wu16, wu32, wu64]
    | ((with_reducible refine o_call (cc) ?he ?hc ?_); (case he | hc => first | rfl | (simp [D.erL, D.er, D.closedL, D.closed, li, lr, v1, v2, v3, v4]; done)))
    | ((with_reducible apply s_appT); (case he => rfl); (case hK | hc | hr | hV => first | rfl | assumption | omega | ((first | refine ⟨?_, ?_⟩ | skip) <;> first | omega | (simp only [lN, li, lr, v1, v2, v3, v4] <;> omega)) | (simp [elemsK, D.isVal, D.cells, D.closedL, D.closed, li, lr, v1, v2, v3, v4]; first | done | omega)))
    | ((with_reducible apply s_appG); (case he => rfl); (case hV | hK | hr | hl => first | rfl | assumption | omega | ((first | refine ⟨?_, ?_⟩ | skip) <;> first | omega | (simp only [lN, li, lr, v1, v2, v3, v4] <;> omega)) | (simp [elemsK, D.isVal, D.cells, D.closedL, D.closed, li, lr, v1, v2, v3, v4]; first | done | omega)))
    | ((with_reducible apply s_app0); (case he => rfl); (case hK | hc | hr => first | rfl | assumption | omega | ((first | refine ⟨?_, ?_⟩ | skip) <;> first | omega | (simp only [lN, li, lr, v1, v2, v3, v4] <;> omega)) | (simp [elemsK, D.isVal, D.cells, D.closedL, D.closed, li, lr, v1, v2, v3, v4]; first | done | omega)))
    | ((with_reducible apply s_appF); (case he => rfl); (case hK | hc | hr | hx | hn => first | rfl | assumption | omega | ((first | refine ⟨?_, ?_⟩ | skip) <;> first | omega | (simp only [lN, li, lr, v1, v2, v3, v4] <;> omega)) | (simp [elemsK, D.isVal, D.cells, D.closedL, D.closed, li, lr, v1, v2, v3, v4]; first | done | omega)))
    | ((with_reducible apply s_bsl); (case he | hl | hc => first | rfl | assumption | omega | ((first | refine ⟨?_, ?_⟩ | skip) <;> first | omega | (simp only [lN, li, lr, v1, v2, v3, v4] <;> omega)) | (simp [elemsK, D.isVal, D.cells, D.closedL, D.closed, li, lr, v1, v2, v3, v4]; first | done | omega)))
    | ((with_reducible apply s_mks); (case h0 | h1 | h2 => first | rfl | assumption | omega | ((first | refine ⟨?_, ?_⟩ | skip) <;> first | omega | (simp only [lN, li, lr, v1, v2, v3, v4] <;> omega)) | (simp [elemsK, D.isVal, D.cells, D.closedL, D.closed, li, lr, v1, v2, v3, v4]; first | done | omega)))
    | with_reducible first | apply cd_dec | apply cd_eq | apply cd_ne | apply cd_split | apply gd_dec | apply gd_eq | apply gd_ne | apply gd_split | apply gq_dec | apply gq_eq | apply gq_ne | apply gq_split
    | ((with_reducible refine And.intro ?hw ?_); (case hw => first | omega | rfl | exact ⟨_, _, rfl⟩ | assumption | (simp only [lN, li, lr, v1, v2, v3, v4] <;> omega)))
    | with_reducible intro _)
                        all_goals first | omega | skip
                        refine swp_mono (Q := fun e s' => e = .exit 8 ∧ s'.keep [0, 2, 3, 6, 7] = (⟨[rpsD l, .undef, .sl 0 1 0 l.length l.length, .sl 1 1 0 l.length l.length, .undef, .undef, .int .i64 i, .int .i64 k, .undef, .undef, .undef, .undef, .undef, .undef, .undef, .undef, .undef, .undef, .undef, .undef, .undef, .undef, .undef, .undef, .undef, .undef], [], ⟨[.cells (ints (J)), .cells (listsD R)], []⟩⟩)) ?_ fun e s' hq => ?_
                        · refine swp_fam [0, 2, 3, 6, 7, 8, 9, 10] (fun j : Nat => ⟨[rpsD l, .undef, .sl 0 1 0 l.length l.length, .sl 1 1 0 l.length l.length, .undef, .undef, .int .i64 i, .int .i64 k, .int .i64 (mn : Nat), .int .i64 (mx : Nat), .int .i64 j, .undef, .undef, .undef, .undef, .undef, .undef, .undef, .undef, .undef, .undef, .undef, .undef, .undef, .undef, .undef], [], ⟨[.cells (ints (relTo mx mn L j)), .cells (listsD R)], []⟩⟩) (fun j => j ≤ l.length) (fun j => l.length - j) 0 (by omega) ?_ ?_
                          · simp [keepE, St.keep, relTo_zero]
                          · intro j hj2
                            have lt := ints_len (relTo mx mn L j)
                            rw [relTo_len (by omega), hLl] at lt
                            by_cases hjl : j < l.length
                            · have t4 : decide (((j : Nat) : Int) < l.length) = true := by simp; omega
                              have gj := ints_get (F := relTo mx mn L j) (i := j) (by rw [relTo_len (by omega)]; omega)
                              rw [relTo_get (by omega)] at gj
                              by_cases ej : lb L j = mx
                              · have t5 : (((lb L j : Nat) : Int) == (mx : Nat)) = true := by rw [ej]; simp
                                have es := relTo_succ (hi := mx) (lo := mn) (L := L) (j := j) (by omega)
                                rw [if_pos ej] at es
                                have est := ints_set (F := relTo mx mn L j) (i := j) (x := mn)
                                rw [← es] at est
                                repeat' (first
    | with_reducible first | apply swp_seq | apply swp_reg | apply swp_regD | apply swp_block | apply swp_exit | apply swp_ret | apply swp_skip | apply swp_cd
    | simp only [go_sem, seval, P14, q14, hlr, t4, gj, t5, est, Nat.mul_one, Nat.zero_add, setL, D.cells]
    | simp (disch := omega) only [w64, w32, wu8, wu16, wu32, wu64]
    | ((with_reducible apply s_appT); (case he => rfl); (case hK | hc | hr | hV => first | rfl | assumption | omega | ((first | refine ⟨?_, ?_⟩ | skip) <;> first | omega | (simp only [lN, hlr, lt] <;> omega)) | (simp [elemsK, D.isVal, D.cells, D.closedL, D.closed, hlr, lt]; first | done | omega)))
    | ((with_reducible apply s_appG); (case he => rfl); (case hV | hK | hr | hl => first | rfl | assumption | omega | ((first | refine ⟨?_, ?_⟩ | skip) <;> first | omega | (simp only [lN, hlr, lt] <;> omega)) | (simp [elemsK, D.isVal, D.cells, D.closedL, D.closed, hlr, lt]; first | done | omega)))
    | ((with_reducible apply s_app0); (case he => rfl); (case hK | hc | hr => first | rfl | assumption | omega | ((first | refine ⟨?_, ?_⟩ | skip) <;> first | omega | (simp only [lN, hlr, lt] <;> omega)) | (simp [elemsK, D.isVal, D.cells, D.closedL, D.closed, hlr, lt]; first | done | omega)))
    | ((with_reducible apply s_appF); (case he => rfl); (case hK | hc | hr | hx | hn => first | rfl | assumption | omega | ((first | refine ⟨?_, ?_⟩ | skip) <;> first | omega | (simp only [lN, hlr, lt] <;> omega)) | (simp [elemsK, D.isVal, D.cells, D.closedL, D.closed, hlr, lt]; first | done | omega)))
    | ((with_reducible apply s_bsl); (case he | hl | hc => first | rfl | assumption | omega | ((first | refine ⟨?_, ?_⟩ | skip) <;> first | omega | (simp only [lN, hlr, lt] <;> omega)) | (simp [elemsK, D.isVal, D.cells, D.closedL, D.closed, hlr, lt]; first | done | omega)))
    | ((with_reducible apply s_mks); (case h0 | h1 | h2 => first | rfl | assumption | omega | ((first | refine ⟨?_, ?_⟩ | skip) <;> first | omega | (simp only [lN, hlr, lt] <;> omega)) | (simp [elemsK, D.isVal, D.cells, D.closedL, D.closed, hlr, lt]; first | done | omega)))
    | with_reducible first | apply cd_dec | apply cd_eq | apply cd_ne | apply cd_split | apply gd_dec | apply gd_eq | apply gd_ne | apply gd_split | apply gq_dec | apply gq_eq | apply gq_ne | apply gq_split
    | ((with_reducible refine And.intro ?hw ?_); (case hw => first | omega | rfl | exact ⟨_, _, rfl⟩ | assumption | (simp only [lN, hlr, lt] <;> omega)))
    | with_reducible intro _)
                                all_goals first | omega | skip
                                exact ⟨j + 1, by omega, by omega, by simp [keepE, St.keep]⟩
                              · have t5 : (((lb L j : Nat) : Int) == (mx : Nat)) = false := by rw [beq_eq_false_iff_ne]; omega
                                have es := relTo_same (hi := mx) (lo := mn) (L := L) (j := j) (by omega) ej
                                repeat' (first
    | with_reducible first | apply swp_seq | apply swp_reg | apply swp_regD | apply swp_block | apply swp_exit | apply swp_ret | apply swp_skip | apply swp_cd
    | simp only [go_sem, seval, P14, q14, hlr, t4, gj, t5, Nat.mul_one, Nat.zero_add]
    | simp (disch := omega) only [w64, w32, wu8, wu16, wu32, wu64]
    | ((with_reducible apply s_appT); (case he => rfl); (case hK | hc | hr | hV => first | rfl | assumption | omega | ((first | refine ⟨?_, ?_⟩ | skip) <;> first | omega | (simp only [lN, hlr, lt] <;> omega)) | (simp [elemsK, D.isVal, D.cells, D.closedL, D.closed, hlr, lt]; first | done | omega)))
    | ((with_reducible apply s_appG); (case he => rfl); (case hV | hK | hr | hl => first | rfl | assumption | omega | ((first | refine ⟨?_, ?_⟩ | skip) <;> first | omega | (simp only [lN, hlr, lt] <;> omega)) | (simp [elemsK, D.isVal, D.cells, D.closedL, D.closed, hlr, lt]; first | done | omega)))
    | ((with_reducible apply s_app0); (case he => rfl); (case hK | hc | hr => first | rfl | assumption | omega | ((first | refine ⟨?_, ?_⟩ | skip) <;> first | omega | (simp only [lN, hlr, lt] <;> omega)) | (simp [elemsK, D.isVal, D.cells, D.closedL, D.closed, hlr, lt]; first | done | omega)))
    | ((with_reducible apply s_appF); (case he => rfl); (case hK | hc | hr | hx | hn => first | rfl | assumption | omega | ((first | refine ⟨?_, ?_⟩ | skip) <;> first | omega | (simp only [lN, hlr, lt] <;> omega)) | (simp [elemsK, D.isVal, D.cells, D.closedL, D.closed, hlr, lt]; first | done | omega)))
    | ((with_reducible apply s_bsl); (case he | hl | hc => first | rfl | assumption | omega | ((first | refine ⟨?_, ?_⟩ | skip) <;> first | omega | (simp only [lN, hlr, lt] <;> omega)) | (simp [elemsK, D.isVal, D.cells, D.closedL, D.closed, hlr, lt]; first | done | omega)))
    | ((with_reducible apply s_mks); (case h0 | h1 | h2 => first | rfl | assumption | omega | ((first | refine ⟨?_, ?_⟩ | skip) <;> first | omega | (simp only [lN, hlr, lt] <;> omega)) | (simp [elemsK, D.isVal, D.cells, D.closedL, D.closed, hlr, lt]; first | done | omega)))
    | with_reducible first | apply cd_dec | apply cd_eq | apply cd_ne | apply cd_split | apply gd_dec | apply gd_eq | apply gd_ne | apply gd_split | apply gq_dec | apply gq_eq | apply gq_ne | apply gq_split
    | ((with_reducible refine And.intro ?hw ?_); (case hw => first | omega | rfl | exact ⟨_, _, rfl⟩ | assumption | (simp only [lN, hlr, lt] <;> omega)))
    | with_reducible intro _)
                                all_goals first | omega | skip
                                exact ⟨j + 1, by omega, by omega, by simp [keepE, St.keep, es]⟩
                            · have t4 : decide (((j : Nat) : Int) < l.length) = false := by simp; omega
                              have : j = L.length := by omega
                              subst this
                              rw [relTo_all, ← hjd]
                              repeat' (first
    | with_reducible first | apply swp_seq | apply swp_reg | apply swp_regD | apply swp_block | apply swp_exit | apply swp_ret | apply swp_skip | apply swp_cd
    | simp only [go_sem, seval, P14, q14, hlr, t4]
    | simp (disch := omega) only [w64, w32, wu8, wu16, wu32, wu64]
    | ((with_reducible apply s_appT); (case he => rfl); (case hK | hc | hr | hV => first | rfl | assumption | omega | ((first | refine ⟨?_, ?_⟩ | skip) <;> first | omega | (simp only [lN, hlr] <;> omega)) | (simp [elemsK, D.isVal, D.cells, D.closedL, D.closed, hlr]; first | done | omega)))
    | ((with_reducible apply s_appG); (case he => rfl); (case hV | hK | hr | hl => first | rfl | assumption | omega | ((first | refine ⟨?_, ?_⟩ | skip) <;> first | omega | (simp only [lN, hlr] <;> omega)) | (simp [elemsK, D.isVal, D.cells, D.closedL, D.closed, hlr]; first | done | omega)))
    | ((with_reducible apply s_app0); (case he => rfl); (case hK | hc | hr => first | rfl | assumption | omega | ((first | refine ⟨?_, ?_⟩ | skip) <;> first | omega | (simp only [lN, hlr] <;> omega)) | (simp [elemsK, D.isVal, D.cells, D.closedL, D.closed, hlr]; first | done | omega)))
    | ((with_reducible apply s_appF); (case he => rfl); (case hK | hc | hr | hx | hn => first | rfl | assumption | omega | ((first | refine ⟨?_, ?_⟩ | skip) <;> first | omega | (simp only [lN, hlr] <;> omega)) | (simp [elemsK, D.isVal, D.cells, D.closedL, D.closed, hlr]; first | done | omega)))
    | ((with_reducible apply s_bsl); (case he | hl | hc => first | rfl | assumption | omega | ((first | refine ⟨?_, ?_⟩ | skip) <;> first | omega | (simp only [lN, hlr] <;> omega)) | (simp [elemsK, D.isVal, D.cells, D.closedL, D.closed, hlr]; first | done | omega)))
    | ((with_reducible apply s_mks); (case h0 | h1 | h2 => first | rfl | assumption | omega | ((first | refine ⟨?_, ?_⟩ | skip) <;> first | omega | (simp only [lN, hlr] <;> omega)) | (simp [elemsK, D.isVal, D.cells, D.closedL, D.closed, hlr]; first | done | omega)))
    | with_reducible first | apply cd_dec | apply cd_eq | apply cd_ne | apply cd_split | apply gd_dec | apply gd_eq | apply gd_ne | apply gd_split | apply gq_dec | apply gq_eq | apply gq_ne | apply gq_split
    | ((with_reducible refine And.intro ?hw ?_); (case hw => first | omega | rfl | exact ⟨_, _, rfl⟩ | assumption | (simp only [lN, hlr] <;> omega)))
    | with_reducible intro _)
                              all_goals first | omega | skip
                              all_goals simp [keepE, St.keep]
                        · obtain ⟨rfl, hq⟩ := hq
                          refine ⟨_, weak_keep [0, 2, 3, 6, 7], ?_⟩
                          rw [show ({ s' with env := keepE [0, 2, 3, 6, 7] 0 s'.env } : St) = s'.keep [0, 2, 3, 6, 7] from rfl, hq]
                          clear hq
                          repeat' (first
    | with_reducible first | apply swp_seq | apply swp_reg | apply swp_regD | apply swp_block | apply swp_exit | apply swp_ret | apply swp_skip | apply swp_cd
    | simp only [go_sem, seval, P14, q14]
    | simp (disch := omega) only [w64, w32, wu8, wu16, wu32, wu64]
    | ((with_reducible apply s_appT); (case he => rfl); (case hK | hc | hr | hV => first | rfl | assumption | omega | ((first | refine ⟨?_, ?_⟩ | skip) <;> first | omega | (simp only [lN] <;> omega)) | (simp [elemsK, D.isVal, D.cells, D.closedL, D.closed]; first | done | omega)))
    | ((with_reducible apply s_appG); (case he => rfl); (case hV | hK | hr | hl => first | rfl | assumption | omega | ((first | refine ⟨?_, ?_⟩ | skip) <;> first | omega | (simp only [lN] <;> omega)) | (simp [elemsK, D.isVal, D.cells, D.closedL, D.closed]; first | done | omega)))
    | ((with_reducible apply s_app0); (case he => rfl); (case hK | hc | hr => first | rfl | assumption | omega | ((first | refine ⟨?_, ?_⟩ | skip) <;> first | omega | (simp only [lN] <;> omega)) | (simp [elemsK, D.isVal, D.cells, D.closedL, D.closed]; first | done | omega)))
    | ((with_reducible apply s_appF); (case he => rfl); (case hK | hc | hr | hx | hn => first | rfl | assumption | omega | ((first | refine ⟨?_, ?_⟩ | skip) <;> first | omega | (simp only [lN] <;> omega)) | (simp [elemsK, D.isVal, D.cells, D.closedL, D.closed]; first | done | omega)))
    | ((with_reducible apply s_bsl); (case he | hl | hc => first | rfl | assumption | omega | ((first | refine ⟨?_, ?_⟩ | skip) <;> first | omega | (simp only [lN] <;> omega)) | (simp [elemsK, D.isVal, D.cells, D.closedL, D.closed]; first | done | omega)))
    | ((with_reducible apply s_mks); (case h0 | h1 | h2 => first | rfl | assumption | omega | ((first | refine ⟨?_, ?_⟩ | skip) <;> first | omega | (simp only [lN] <;> omega)) | (simp [elemsK, D.isVal, D.cells, D.closedL, D.closed]; first | done | omega)))
    | with_reducible first | apply cd_dec | apply cd_eq | apply cd_ne | apply cd_split | apply gd_dec | apply gd_eq | apply gd_ne | apply gd_split | apply gq_dec | apply gq_eq | apply gq_ne | apply gq_split
    | ((with_reducible refine And.intro ?hw ?_); (case hw => first | omega | rfl | exact ⟨_, _, rfl⟩ | assumption | (simp only [lN] <;> omega)))
    | with_reducible intro _)
                          all_goals first | omega | skip
                          exact ⟨(k + 1, J, true), ⟨by simp only; omega, hj, fun h => Bool.noConfusion h, fun _ => hsum2⟩, by simp only; omega, by simp [keepE, St.keep]⟩
                  · have t2 : decide (((k : Nat) : Int) < i) = false := by simp; omega
                    have : k = i := by omega
                    subst this
                    repeat' (first
    | with_reducible first | apply swp_seq | apply swp_reg | apply swp_regD | apply swp_block | apply swp_exit | apply swp_ret | apply swp_skip | apply swp_cd
    | simp only [go_sem, seval, P14, q14, t2]
    | simp (disch := omega) only [w64, w32, wu8, wu16, wu32, wu64]
    | ((with_reducible apply s_appT); (case he => rfl); (case hK | hc | hr | hV => first | rfl | assumption | omega | ((first | refine ⟨?_, ?_⟩ | skip) <;> first | omega | (simp only [lN] <;> omega)) | (simp [elemsK, D.isVal, D.cells, D.closedL, D.closed]; first | done | omega)))
    | ((with_reducible apply s_appG); (case he => rfl); (case hV | hK | hr | hl => first | rfl | assumption | omega | ((first | refine ⟨?_, ?_⟩ | skip) <;> first | omega | (simp only [lN] <;> omega)) | (simp [elemsK, D.isVal, D.cells, D.closedL, D.closed]; first | done | omega)))
    | ((with_reducible apply s_app0); (case he => rfl); (case hK | hc | hr => first | rfl | assumption | omega | ((first | refine ⟨?_, ?_⟩ | skip) <;> first | omega | (simp only [lN] <;> omega)) | (simp [elemsK, D.isVal, D.cells, D.closedL, D.closed]; first | done | omega)))
    | ((with_reducible apply s_appF); (case he => rfl); (case hK | hc | hr | hx | hn => first | rfl | assumption | omega | ((first | refine ⟨?_, ?_⟩ | skip) <;> first | omega | (simp only [lN] <;> omega)) | (simp [elemsK, D.isVal, D.cells, D.closedL, D.closed]; first | done | omega)))
    | ((with_reducible apply s_bsl); (case he | hl | hc => first | rfl | assumption | omega | ((first | refine ⟨?_, ?_⟩ | skip) <;> first | omega | (simp only [lN] <;> omega)) | (simp [elemsK, D.isVal, D.cells, D.closedL, D.closed]; first | done | omega)))
    | ((with_reducible apply s_mks); (case h0 | h1 | h2 => first | rfl | assumption | omega | ((first | refine ⟨?_, ?_⟩ | skip) <;> first | omega | (simp only [lN] <;> omega)) | (simp [elemsK, D.isVal, D.cells, D.closedL, D.closed]; first | done | omega)))
    | with_reducible first | apply cd_dec | apply cd_eq | apply cd_ne | apply cd_split | apply gd_dec | apply gd_eq | apply gd_ne | apply gd_split | apply gq_dec | apply gq_eq | apply gq_ne | apply gq_split
    | ((with_reducible refine And.intro ?hw ?_); (case hw => first | omega | rfl | exact ⟨_, _, rfl⟩ | assumption | (simp only [lN] <;> omega)))
    | with_reducible intro _)
                    all_goals first | omega | skip
                    exact ⟨L, ch, ⟨hrf, hf, ht⟩, by simp [keepE, St.keep]⟩
              · obtain ⟨rfl, L2, ch2, ⟨hrf2, hf2, ht2⟩, hq⟩ := hq
                refine ⟨_, weak_keep [0, 2, 3, 5, 6], ?_⟩
                rw [show ({ s' with env := keepE [0, 2, 3, 5, 6] 0 s'.env } : St) = s'.keep [0, 2, 3, 5, 6] from rfl, hq]
                clear hq
                simp only
                repeat' (first
    | with_reducible first | apply swp_seq | apply swp_reg | apply swp_regD | apply swp_block | apply swp_exit | apply swp_ret | apply swp_skip | apply swp_cd
    | simp only [go_sem, seval, P14, q14]
    | simp (disch := omega) only [w64, w32, wu8, wu16, wu32, wu64]
    | ((with_reducible apply s_appT); (case he => rfl); (case hK | hc | hr | hV => first | rfl | assumption | omega | ((first | refine ⟨?_, ?_⟩ | skip) <;> first | omega | (simp only [lN] <;> omega)) | (simp [elemsK, D.isVal, D.cells, D.closedL, D.closed]; first | done | omega)))
    | ((with_reducible apply s_appG); (case he => rfl); (case hV | hK | hr | hl => first | rfl | assumption | omega | ((first | refine ⟨?_, ?_⟩ | skip) <;> first | omega | (simp only [lN] <;> omega)) | (simp [elemsK, D.isVal, D.cells, D.closedL, D.closed]; first | done | omega)))
    | ((with_reducible apply s_app0); (case he => rfl); (case hK | hc | hr => first | rfl | assumption | omega | ((first | refine ⟨?_, ?_⟩ | skip) <;> first | omega | (simp only [lN] <;> omega)) | (simp [elemsK, D.isVal, D.cells, D.closedL, D.closed]; first | done | omega)))
    | ((with_reducible apply s_appF); (case he => rfl); (case hK | hc | hr | hx | hn => first | rfl | assumption | omega | ((first | refine ⟨?_, ?_⟩ | skip) <;> first | omega | (simp only [lN] <;> omega)) | (simp [elemsK, D.isVal, D.cells, D.closedL, D.closed]; first | done | omega)))
    | ((with_reducible apply s_bsl); (case he | hl | hc => first | rfl | assumption | omega | ((first | refine ⟨?_, ?_⟩ | skip) <;> first | omega | (simp only [lN] <;> omega)) | (simp [elemsK, D.isVal, D.cells, D.closedL, D.closed]; first | done | omega)))
    | ((with_reducible apply s_mks); (case h0 | h1 | h2 => first | rfl | assumption | omega | ((first | refine ⟨?_, ?_⟩ | skip) <;> first | omega | (simp only [lN] <;> omega)) | (simp [elemsK, D.isVal, D.cells, D.closedL, D.closed]; first | done | omega)))
    | with_reducible first | apply cd_dec | apply cd_eq | apply cd_ne | apply cd_split | apply gd_dec | apply gd_eq | apply gd_ne | apply gd_split | apply gq_dec | apply gq_eq | apply gq_ne | apply gq_split
    | ((with_reducible refine And.intro ?hw ?_); (case hw => first | omega | rfl | exact ⟨_, _, rfl⟩ | assumption | (simp only [lN] <;> omega)))
    | with_reducible intro _)
                all_goals first | omega | skip
                exact ⟨(i + 1, L2, ch2), ⟨by simp only; omega, hrf2, fun q => ⟨(hf2 q).1, fun a b hab hc hne => (hf2 q).2 a b hab (by omega) hne⟩, ht2⟩, by simp only; omega, by simp [keepE, St.keep]⟩
            · have t1 : decide (((i : Nat) : Int) < l.length) = false := by simp; omega
              have : i = l.length := by omega
              subst this
              repeat' (first
    | with_reducible first | apply swp_seq | apply swp_reg | apply swp_regD | apply swp_block | apply swp_exit | apply swp_ret | apply swp_skip | apply swp_cd
    | simp only [go_sem, seval, P14, q14, hlr, t1]
    | simp (disch := omega) only [w64, w32, wu8, wu16, wu32, wu64]
    | ((with_reducible apply s_appT); (case he => rfl); (case hK | hc | hr | hV => first | rfl | assumption | omega | ((first | refine ⟨?_, ?_⟩ | skip) <;> first | omega | (simp only [lN, hlr] <;> omega)) | (simp [elemsK, D.isVal, D.cells, D.closedL, D.closed, hlr]; first | done | omega)))
    | ((with_reducible apply s_appG); (case he => rfl); (case hV | hK | hr | hl => first | rfl | assumption | omega | ((first | refine ⟨?_, ?_⟩ | skip) <;> first | omega | (simp only [lN, hlr] <;> omega)) | (simp [elemsK, D.isVal, D.cells, D.closedL, D.closed, hlr]; first | done | omega)))
    | ((with_reducible apply s_app0); (case he => rfl); (case hK | hc | hr => first | rfl | assumption | omega | ((first | refine ⟨?_, ?_⟩ | skip) <;> first | omega | (simp only [lN, hlr] <;> omega)) | (simp [elemsK, D.isVal, D.cells, D.closedL, D.closed, hlr]; first | done | omega)))
    | ((with_reducible apply s_appF); (case he => rfl); (case hK | hc | hr | hx | hn => first | rfl | assumption | omega | ((first | refine ⟨?_, ?_⟩ | skip) <;> first | omega | (simp only [lN, hlr] <;> omega)) | (simp [elemsK, D.isVal, D.cells, D.closedL, D.closed, hlr]; first | done | omega)))
    | ((with_reducible apply s_bsl); (case he | hl | hc => first | rfl | assumption | omega | ((first | refine ⟨?_, ?_⟩ | skip) <;> first | omega | (simp only [lN, hlr] <;> omega)) | (simp [elemsK, D.isVal, D.cells, D.closedL, D.closed, hlr]; first | done | omega)))
    | ((with_reducible apply s_mks); (case h0 | h1 | h2 => first | rfl | assumption | omega | ((first | refine ⟨?_, ?_⟩ | skip) <;> first | omega | (simp only [lN, hlr] <;> omega)) | (simp [elemsK, D.isVal, D.cells, D.closedL, D.closed, hlr]; first | done | omega)))
    | with_reducible first | apply cd_dec | apply cd_eq | apply cd_ne | apply cd_split | apply gd_dec | apply gd_eq | apply gd_ne | apply gd_split | apply gq_dec | apply gq_eq | apply gq_ne | apply gq_split
    | ((with_reducible refine And.intro ?hw ?_); (case hw => first | omega | rfl | exact ⟨_, _, rfl⟩ | assumption | (simp only [lN, hlr] <;> omega)))
    | with_reducible intro _)
              all_goals first | omega | skip
              exact ⟨L1, ch1, ⟨hrf1, hf1, ht1⟩, by simp [keepE, St.keep]⟩
        · obtain ⟨rfl, L1, ch1, ⟨hrf1, hf1, ht1⟩, hq⟩ := hq
          refine ⟨_, weak_keep [0, 2, 3, 5], ?_⟩
          rw [show ({ s' with env := keepE [0, 2, 3, 5] 0 s'.env } : St) = s'.keep [0, 2, 3, 5] from rfl, hq]
          clear hq
          simp only
          repeat' (first
    | with_reducible first | apply swp_seq | apply swp_reg | apply swp_regD | apply swp_block | apply swp_exit | apply swp_ret | apply swp_skip | apply swp_cd
    | simp only [go_sem, seval, P14, q14]
    | simp (disch := omega) only [w64, w32, wu8, wu16, wu32, wu64]
    | ((with_reducible apply s_appT); (case he => rfl); (case hK | hc | hr | hV => first | rfl | assumption | omega | ((first | refine ⟨?_, ?_⟩ | skip) <;> first | omega | (simp only [lN] <;> omega)) | (simp [elemsK, D.isVal, D.cells, D.closedL, D.closed]; first | done | omega)))
    | ((with_reducible apply s_appG); (case he => rfl); (case hV | hK | hr | hl => first | rfl | assumption | omega | ((first | refine ⟨?_, ?_⟩ | skip) <;> first | omega | (simp only [lN] <;> omega)) | (simp [elemsK, D.isVal, D.cells, D.closedL, D.closed]; first | done | omega)))
    | ((with_reducible apply s_app0); (case he => rfl); (case hK | hc | hr => first | rfl | assumption | omega | ((first | refine ⟨?_, ?_⟩ | skip) <;> first | omega | (simp only [lN] <;> omega)) | (simp [elemsK, D.isVal, D.cells, D.closedL, D.closed]; first | done | omega)))
    | ((with_reducible apply s_appF); (case he => rfl); (case hK | hc | hr | hx | hn => first | rfl | assumption | omega | ((first | refine ⟨?_, ?_⟩ | skip) <;> first | omega | (simp only [lN] <;> omega)) | (simp [elemsK, D.isVal, D.cells, D.closedL, D.closed]; first | done | omega)))
    | ((with_reducible apply s_bsl); (case he | hl | hc => first | rfl | assumption | omega | ((first | refine ⟨?_, ?_⟩ | skip) <;> first | omega | (simp only [lN] <;> omega)) | (simp [elemsK, D.isVal, D.cells, D.closedL, D.closed]; first | done | omega)))
    | ((with_reducible apply s_mks); (case h0 | h1 | h2 => first | rfl | assumption | omega | ((first | refine ⟨?_, ?_⟩ | skip) <;> first | omega | (simp only [lN] <;> omega)) | (simp [elemsK, D.isVal, D.cells, D.closedL, D.closed]; first | done | omega)))
    | with_reducible first | apply cd_dec | apply cd_eq | apply cd_ne | apply cd_split | apply gd_dec | apply gd_eq | apply gd_ne | apply gd_split | apply gq_dec | apply gq_eq | apply gq_ne | apply gq_split
    | ((with_reducible refine And.intro ?hw ?_); (case hw => first | omega | rfl | exact ⟨_, _, rfl⟩ | assumption | (simp only [lN] <;> omega)))
    | with_reducible intro _)
          all_goals first | omega | skip
          refine ⟨(L1, ch1), ⟨hrf1, fun q => by rw [(hf1 q).1]; exact (hf1 q).2⟩, ?_, by simp [keepE, St.keep]⟩
          cases ch1
          · rw [(hf1 rfl).1]; simp
          · have := ht1 rfl; simp; omega
  obtain ⟨rfl, hq⟩ := hq
  refine ⟨_, weak_keep [0, 2], ?_⟩
  rw [show ({ s' with env := keepE [0, 2] 0 s'.env } : St) = s'.keep [0, 2] from rfl, hq]
  clear hq
  have hL := labs_lo R
  have hLl := labs_len R
  rw [hRl] at hLl
  unfold comps
  generalize labs R = L at *
  have li := ints_len L
  rw [hLl] at li
  repeat' (first
    | with_reducible first | apply swp_seq | apply swp_reg | apply swp_regD | apply swp_block | apply swp_exit | apply swp_ret | apply swp_skip | apply swp_cd
    | simp only [go_sem, seval, P14, q14, hlr]
    | simp (disch := omega) only [w64, w32, wu8, wu16, wu32, wu64]
    | ((with_reducible apply s_appT); (case he => rfl); (case hK | hc | hr | hV => first | rfl | assumption | omega | ((first | refine ⟨?_, ?_⟩ | skip) <;> first | omega | (simp only [lN, hlr] <;> omega)) | (simp [elemsK, D.isVal, D.cells, D.closedL, D.closed, hlr]; first | done | omega)))
    | ((with_reducible apply s_appG); (case he => rfl); (case hV | hK | hr | hl => first | rfl | assumption | omega | ((first | refine ⟨?_, ?_⟩ | skip) <;> first | omega | (simp only [lN, hlr] <;> omega)) | (simp [elemsK, D.isVal, D.cells, D.closedL, D.closed, hlr]; first | done | omega)))
    | ((with_reducible apply s_app0); (case he => rfl); (case hK | hc | hr => first | rfl | assumption | omega | ((first | refine ⟨?_, ?_⟩ | skip) <;> first | omega | (simp only [lN, hlr] <;> omega)) | (simp [elemsK, D.isVal, D.cells, D.closedL, D.closed, hlr]; first | done | omega)))
    | ((with_reducible apply s_appF); (case he => rfl); (case hK | hc | hr | hx | hn => first | rfl | assumption | omega | ((first | refine ⟨?_, ?_⟩ | skip) <;> first | omega | (simp only [lN, hlr] <;> omega)) | (simp [elemsK, D.isVal, D.cells, D.closedL, D.closed, hlr]; first | done | omega)))
    | ((with_reducible apply s_bsl); (case he | hl | hc => first | rfl | assumption | omega | ((first | refine ⟨?_, ?_⟩ | skip) <;> first | omega | (simp only [lN, hlr] <;> omega)) | (simp [elemsK, D.isVal, D.cells, D.closedL, D.closed, hlr]; first | done | omega)))
    | ((with_reducible apply s_mks); (case h0 | h1 | h2 => first | rfl | assumption | omega | ((first | refine ⟨?_, ?_⟩ | skip) <;> first | omega | (simp only [lN, hlr] <;> omega)) | (simp [elemsK, D.isVal, D.cells, D.closedL, D.closed, hlr]; first | done | omega)))
    | with_reducible first | apply cd_dec | apply cd_eq | apply cd_ne | apply cd_split | apply gd_dec | apply gd_eq | apply gd_ne | apply gd_split | apply gq_dec | apply gq_eq | apply gq_ne | apply gq_split
    | ((with_reducible refine And.intro ?hw ?_); (case hw => first | omega | rfl | exact ⟨_, _, rfl⟩ | assumption | (simp only [lN, hlr] <;> omega)))
    | with_reducible intro _)
  all_goals first | omega | skip
  refine swp_weak (weak_trans (weak_keep [0, 2, 11, 12]) (weak_new 11 1 (by omega) false rfl)) ?_
  simp only [keepE]
  refine swp_mono (Q := fun e s' => e = .exit 10 ∧ s'.keep [11] = (⟨[.undef, .undef, .undef, .undef, .undef, .undef, .undef, .undef, .undef, .undef, .undef, .slice (compsD (outR L l.length)) (.tok 0), .undef, .undef, .undef, .undef, .undef, .undef, .undef, .undef, .undef, .undef, .undef, .undef, .undef, .undef], [], ⟨[.cells (ints (L)), .cells (listsD R)], [.per 1 (outR L l.length).length]⟩⟩)) ?_ fun e s' hq => ?_
  · refine swp_famG [0, 2, 11, 12] 2 1 (Nat.zero_le 2) (Nat.zero_le 1) (fun i : Nat => ⟨[rpsD l, .undef, .sl 0 1 0 l.length l.length, .undef, .undef, .undef, .undef, .undef, .undef, .undef, .undef, .slice (compsD (outR L i)) (.tok 0), .int .i64 i, .undef, .undef, .undef, .undef, .undef, .undef, .undef, .undef, .undef, .undef, .undef, .undef, .undef], [], ⟨[.cells (ints (L)), .cells (listsD R)], [.per 1 (outR L i).length]⟩⟩) (fun i => i ≤ l.length) (fun i => l.length - i) 0 (by omega) ?_ ?_
    · simp [keepE, St.keep, St.keepG, St.gc, Hp.cut, D.rn, D.rnL, Blk.rnL, Blk.rn, Tv.rnL, Tv.rn, cutF, Own.rn, compsD, outR, rtsC, ints_rn, lists_rn]
    · intro i hi
      have hoL := outR_len L i
      have hcl := compsD_len (outR L i)
      by_cases hil : i < l.length
      · have t0 : decide (((i : Nat) : Int) < l.length) = true := by simp; omega
        have gi := ints_get (F := L) (i := i) (by omega)
        by_cases e : lb L i = i
        · have t1 : (((lb L i : Nat) : Int) != (i : Nat)) = false := by rw [e]; simp
          have hro : outR L (i + 1) = outR L i ++ [mem L i] := by unfold outR; rw [rtsC_new e, List.map_append]; rfl
          have hco : compsD (outR L (i + 1)) = compsD (outR L i) ++ [.slice (ints (mem L i)) .no] := by rw [hro]; simp [compsD]
          have hcl2 : (outR L (i + 1)).length = (outR L i).length + 1 := by rw [hro, List.length_append]; rfl
          have hm0 : memTo L i i = [] := mem_from hL (Nat.le_refl i) (by omega)
          have hmE : memTo L i l.length = mem L i := by unfold memTo mem; rw [hLl]
          generalize outR L i = O0 at *
          repeat' (first
    | with_reducible first | apply swp_seq | apply swp_reg | apply swp_regD | apply swp_block | apply swp_exit | apply swp_ret | apply swp_skip | apply swp_cd
    | simp only [go_sem, seval, P14, q14, hlr, t0, gi, t1, Nat.mul_one, Nat.zero_add]
    | simp (disch := omega) only [w64, w32, wu8, wu16, wu32, wu64]
    | ((with_reducible apply s_appT); (case he => rfl); (case hK | hc | hr | hV => first | rfl | assumption | omega | ((first | refine ⟨?_, ?_⟩ | skip) <;> first | omega | (simp only [lN, hlr, li] <;> omega)) | (simp [elemsK, D.isVal, D.cells, D.closedL, D.closed, hlr, li]; first | done | omega)))
    | ((with_reducible apply s_appG); (case he => rfl); (case hV | hK | hr | hl => first | rfl | assumption | omega | ((first | refine ⟨?_, ?_⟩ | skip) <;> first | omega | (simp only [lN, hlr, li] <;> omega)) | (simp [elemsK, D.isVal, D.cells, D.closedL, D.closed, hlr, li]; first | done | omega)))
    | ((with_reducible apply s_app0); (case he => rfl); (case hK | hc | hr => first | rfl | assumption | omega | ((first | refine ⟨?_, ?_⟩ | skip) <;> first | omega | (simp only [lN, hlr, li] <;> omega)) | (simp [elemsK, D.isVal, D.cells, D.closedL, D.closed, hlr, li]; first | done | omega)))
    | ((with_reducible apply s_appF); (case he => rfl); (case hK | hc | hr | hx | hn => first | rfl | assumption | omega | ((first | refine ⟨?_, ?_⟩ | skip) <;> first | omega | (simp only [lN, hlr, li] <;> omega)) | (simp [elemsK, D.isVal, D.cells, D.closedL, D.closed, hlr, li]; first | done | omega)))
    | ((with_reducible apply s_bsl); (case he | hl | hc => first | rfl | assumption | omega | ((first | refine ⟨?_, ?_⟩ | skip) <;> first | omega | (simp only [lN, hlr, li] <;> omega)) | (simp [elemsK, D.isVal, D.cells, D.closedL, D.closed, hlr, li]; first | done | omega)))
    | ((with_reducible apply s_mks); (case h0 | h1 | h2 => first | rfl | assumption | omega | ((first | refine ⟨?_, ?_⟩ | skip) <;> first | omega | (simp only [lN, hlr, li] <;> omega)) | (simp [elemsK, D.isVal, D.cells, D.closedL, D.closed, hlr, li]; first | done | omega)))
    | with_reducible first | apply cd_dec | apply cd_eq | apply cd_ne | apply cd_split | apply gd_dec | apply gd_eq | apply gd_ne | apply gd_split | apply gq_dec | apply gq_eq | apply gq_ne | apply gq_split
    | ((with_reducible refine And.intro ?hw ?_); (case hw => first | omega | rfl | exact ⟨_, _, rfl⟩ | assumption | (simp only [lN, hlr, li] <;> omega)))
    | with_reducible intro _)
          all_goals first | omega | skip
          refine swp_weak (weak_trans (weak_keep [0, 2, 11, 12, 13, 14]) (weak_new 13 1 (by omega) false rfl)) ?_
          simp only [keepE]
          refine swp_mono (Q := fun e s' => e = .exit 12 ∧ s'.keep [0, 2, 11, 12, 13] = (⟨[rpsD l, .undef, .sl 0 1 0 l.length l.length, .undef, .undef, .undef, .undef, .undef, .undef, .undef, .undef, .slice (compsD O0) (.tok 0), .int .i64 i, .slice (ints (mem L i)) (.tok 1), .undef, .undef, .undef, .undef, .undef, .undef, .undef, .undef, .undef, .undef, .undef, .undef], [], ⟨[.cells (ints (L)), .cells (listsD R)], [.per 1 O0.length, .per 1 (mem L i).length]⟩⟩)) ?_ fun e s' hq => ?_
          · refine swp_fam [0, 2, 11, 12, 13, 14] (fun k : Nat => ⟨[rpsD l, .undef, .sl 0 1 0 l.length l.length, .undef, .undef, .undef, .undef, .undef, .undef, .undef, .undef, .slice (compsD O0) (.tok 0), .int .i64 i, .slice (ints (memTo L i k)) (.tok 1), .int .i64 k, .undef, .undef, .undef, .undef, .undef, .undef, .undef, .undef, .undef, .undef, .undef], [], ⟨[.cells (ints (L)), .cells (listsD R)], [.per 1 O0.length, .per 1 (memTo L i k).length]⟩⟩) (fun k => i ≤ k ∧ k ≤ l.length) (fun k => l.length - k) i ⟨by omega, by omega⟩ ?_ ?_
            · simp [keepE, St.keep, hm0, ints]
            · rintro k ⟨hk1, hk2⟩
              have hml := memTo_le L i k
              have him := ints_len (memTo L i k)
              by_cases hkl : k < l.length
              · have t2 : decide (((k : Nat) : Int) < l.length) = true := by simp; omega
                have gk := ints_get (F := L) (i := k) (by omega)
                by_cases ek : lb L k = i
                · have t3 : (((lb L k : Nat) : Int) == (i : Nat)) = true := by rw [ek]; simp
                  have hmi := ints_app (memTo L i k) [k]
                  rw [← memTo_in ek, show ints [k] = [.int .i64 (k : Nat)] from rfl] at hmi
                  have hml2 : (memTo L i (k + 1)).length = (memTo L i k).length + 1 := by rw [memTo_in ek, List.length_append]; rfl
                  repeat' (first
    | with_reducible first | apply swp_seq | apply swp_reg | apply swp_regD | apply swp_block | apply swp_exit | apply swp_ret | apply swp_skip | apply swp_cd
    | simp only [go_sem, seval, P14, q14, hlr, t2, gk, t3, Nat.mul_one, Nat.zero_add]
    | simp (disch := omega) only [w64, w32, wu8, wu16, wu32, wu64]
    | ((with_reducible apply s_appT); (case he => rfl); (case hK | hc | hr | hV => first | rfl | assumption | omega | ((first | refine ⟨?_, ?_⟩ | skip) <;> first | omega | (simp only [lN, hlr, li, him] <;> omega)) | (simp [elemsK, D.isVal, D.cells, D.closedL, D.closed, hlr, li, him]; first | done | omega)))
    | ((with_reducible apply s_appG); (case he => rfl); (case hV | hK | hr | hl => first | rfl | assumption | omega | ((first | refine ⟨?_, ?_⟩ | skip) <;> first | omega | (simp only [lN, hlr, li, him] <;> omega)) | (simp [elemsK, D.isVal, D.cells, D.closedL, D.closed, hlr, li, him]; first | done | omega)))
    | ((with_reducible apply s_app0); (case he => rfl); (case hK | hc | hr => first | rfl | assumption | omega | ((first | refine ⟨?_, ?_⟩ | skip) <;> first | omega | (simp only [lN, hlr, li, him] <;> omega)) | (simp [elemsK, D.isVal, D.cells, D.closedL, D.closed, hlr, li, him]; first | done | omega)))
    | ((with_reducible apply s_appF); (case he => rfl); (case hK | hc | hr | hx | hn => first | rfl | assumption | omega | ((first | refine ⟨?_, ?_⟩ | skip) <;> first | omega | (simp only [lN, hlr, li, him] <;> omega)) | (simp [elemsK, D.isVal, D.cells, D.closedL, D.closed, hlr, li, him]; first | done | omega)))
    | ((with_reducible apply s_bsl); (case he | hl | hc => first | rfl | assumption | omega | ((first | refine ⟨?_, ?_⟩ | skip) <;> first | omega | (simp only [lN, hlr, li, him] <;> omega)) | (simp [elemsK, D.isVal, D.cells, D.closedL, D.closed, hlr, li, him]; first | done | omega)))
    | ((with_reducible apply s_mks); (case h0 | h1 | h2 => first | rfl | assumption | omega | ((first | refine ⟨?_, ?_⟩ | skip) <;> first | omega | (simp only [lN, hlr, li, him] <;> omega)) | (simp [elemsK, D.isVal, D.cells, D.closedL, D.closed, hlr, li, him]; first | done | omega)))
    | with_reducible first | apply cd_dec | apply cd_eq | apply cd_ne | apply cd_split | apply gd_dec | apply gd_eq | apply gd_ne | apply gd_split | apply gq_dec | apply gq_eq | apply gq_ne | apply gq_split
    | ((with_reducible refine And.intro ?hw ?_); (case hw => first | omega | rfl | exact ⟨_, _, rfl⟩ | assumption | (simp only [lN, hlr, li, him] <;> omega)))
    | with_reducible intro _)
                  all_goals first | omega | skip
                  refine ⟨k + 1, ⟨by omega, by omega⟩, by omega, ?_⟩
                  simp [keepE, St.keep, hmi, hml2, him, D.erL, D.er]
                · have t3 : (((lb L k : Nat) : Int) == (i : Nat)) = false := by rw [beq_eq_false_iff_ne]; omega
                  have hmo := memTo_out ek
                  repeat' (first
    | with_reducible first | apply swp_seq | apply swp_reg | apply swp_regD | apply swp_block | apply swp_exit | apply swp_ret | apply swp_skip | apply swp_cd
    | simp only [go_sem, seval, P14, q14, hlr, t2, gk, t3, Nat.mul_one, Nat.zero_add]
    | simp (disch := omega) only [w64, w32, wu8, wu16, wu32, wu64]
    | ((with_reducible apply s_appT); (case he => rfl); (case hK | hc | hr | hV => first | rfl | assumption | omega | ((first | refine ⟨?_, ?_⟩ | skip) <;> first | omega | (simp only [lN, hlr, li] <;> omega)) | (simp [elemsK, D.isVal, D.cells, D.closedL, D.closed, hlr, li]; first | done | omega)))
    | ((with_reducible apply s_appG); (case he => rfl); (case hV | hK | hr | hl => first | rfl | assumption | omega | ((first | refine ⟨?_, ?_⟩ | skip) <;> first | omega | (simp only [lN, hlr, li] <;> omega)) | (simp [elemsK, D.isVal, D.cells, D.closedL, D.closed, hlr, li]; first | done | omega)))
    | ((with_reducible apply s_app0); (case he => rfl); (case hK | hc | hr => first | rfl | assumption | omega | ((first | refine ⟨?_, ?_⟩ | skip) <;> first | omega | (simp only [lN, hlr, li] <;> omega)) | (simp [elemsK, D.isVal, D.cells, D.closedL, D.closed, hlr, li]; first | done | omega)))
    | ((with_reducible apply s_appF); (case he => rfl); (case hK | hc | hr | hx | hn => first | rfl | assumption | omega | ((first | refine ⟨?_, ?_⟩ | skip) <;> first | omega | (simp only [lN, hlr, li] <;> omega)) | (simp [elemsK, D.isVal, D.cells, D.closedL, D.closed, hlr, li]; first | done | omega)))
    | ((with_reducible apply s_bsl); (case he | hl | hc => first | rfl | assumption | omega | ((first | refine ⟨?_, ?_⟩ | skip) <;> first | omega | (simp only [lN, hlr, li] <;> omega)) | (simp [elemsK, D.isVal, D.cells, D.closedL, D.closed, hlr, li]; first | done | omega)))
    | ((with_reducible apply s_mks); (case h0 | h1 | h2 => first | rfl | assumption | omega | ((first | refine ⟨?_, ?_⟩ | skip) <;> first | omega | (simp only [lN, hlr, li] <;> omega)) | (simp [elemsK, D.isVal, D.cells, D.closedL, D.closed, hlr, li]; first | done | omega)))
    | with_reducible first | apply cd_dec | apply cd_eq | apply cd_ne | apply cd_split | apply gd_dec | apply gd_eq | apply gd_ne | apply gd_split | apply gq_dec | apply gq_eq | apply gq_ne | apply gq_split
    | ((with_reducible refine And.intro ?hw ?_); (case hw => first | omega | rfl | exact ⟨_, _, rfl⟩ | assumption | (simp only [lN, hlr, li] <;> omega)))
    | with_reducible intro _)
                  all_goals first | omega | skip
                  refine ⟨k + 1, ⟨by omega, by omega⟩, by omega, ?_⟩
                  simp [keepE, St.keep, hmo]
              · have t2 : decide (((k : Nat) : Int) < l.length) = false := by simp; omega
                have : k = l.length := by omega
                subst this
                repeat' (first
    | with_reducible first | apply swp_seq | apply swp_reg | apply swp_regD | apply swp_block | apply swp_exit | apply swp_ret | apply swp_skip | apply swp_cd
    | simp only [go_sem, seval, P14, q14, hlr, t2]
    | simp (disch := omega) only [w64, w32, wu8, wu16, wu32, wu64]
    | ((with_reducible apply s_appT); (case he => rfl); (case hK | hc | hr | hV => first | rfl | assumption | omega | ((first | refine ⟨?_, ?_⟩ | skip) <;> first | omega | (simp only [lN, hlr] <;> omega)) | (simp [elemsK, D.isVal, D.cells, D.closedL, D.closed, hlr]; first | done | omega)))
    | ((with_reducible apply s_appG); (case he => rfl); (case hV | hK | hr | hl => first | rfl | assumption | omega | ((first | refine ⟨?_, ?_⟩ | skip) <;> first | omega | (simp only [lN, hlr] <;> omega)) | (simp [elemsK, D.isVal, D.cells, D.closedL, D.closed, hlr]; first | done | omega)))
    | ((with_reducible apply s_app0); (case he => rfl); (case hK | hc | hr => first | rfl | assumption | omega | ((first | refine ⟨?_, ?_⟩ | skip) <;> first | omega | (simp only [lN, hlr] <;> omega)) | (simp [elemsK, D.isVal, D.cells, D.closedL, D.closed, hlr]; first | done | omega)))
    | ((with_reducible apply s_appF); (case he => rfl); (case hK | hc | hr | hx | hn => first | rfl | assumption | omega | ((first | refine ⟨?_, ?_⟩ | skip) <;> first | omega | (simp only [lN, hlr] <;> omega)) | (simp [elemsK, D.isVal, D.cells, D.closedL, D.closed, hlr]; first | done | omega)))
    | ((with_reducible apply s_bsl); (case he | hl | hc => first | rfl | assumption | omega | ((first | refine ⟨?_, ?_⟩ | skip) <;> first | omega | (simp only [lN, hlr] <;> omega)) | (simp [elemsK, D.isVal, D.cells, D.closedL, D.closed, hlr]; first | done | omega)))
    | ((with_reducible apply s_mks); (case h0 | h1 | h2 => first | rfl | assumption | omega | ((first | refine ⟨?_, ?_⟩ | skip) <;> first | omega | (simp only [lN, hlr] <;> omega)) | (simp [elemsK, D.isVal, D.cells, D.closedL, D.closed, hlr]; first | done | omega)))
    | with_reducible first | apply cd_dec | apply cd_eq | apply cd_ne | apply cd_split | apply gd_dec | apply gd_eq | apply gd_ne | apply gd_split | apply gq_dec | apply gq_eq | apply gq_ne | apply gq_split
    | ((with_reducible refine And.intro ?hw ?_); (case hw => first | omega | rfl | exact ⟨_, _, rfl⟩ | assumption | (simp only [lN, hlr] <;> omega)))
    | with_reducible intro _)
                all_goals first | omega | skip
                all_goals simp [keepE, St.keep, hmE]
          · obtain ⟨rfl, hq⟩ := hq
            refine ⟨_, weak_keep [0, 2, 11, 12, 13], ?_⟩
            rw [show ({ s' with env := keepE [0, 2, 11, 12, 13] 0 s'.env } : St) = s'.keep [0, 2, 11, 12, 13] from rfl, hq]
            clear hq
            have vm := cl_ints (mem L i)
            have vm2 := er_ints (mem L i)
            generalize mem L i = Mi at *
            repeat' (first
    | with_reducible first | apply swp_seq | apply swp_reg | apply swp_regD | apply swp_block | apply swp_exit | apply swp_ret | apply swp_skip | apply swp_cd
    | simp only [go_sem, seval, P14, q14]
    | simp (disch := omega) only [w64, w32, wu8, wu16, wu32, wu64]
    | ((with_reducible apply s_appT); (case he => rfl); (case hK | hc | hr | hV => first | rfl | assumption | omega | ((first | refine ⟨?_, ?_⟩ | skip) <;> first | omega | (simp only [lN, hcl, vm, vm2] <;> omega)) | (simp [elemsK, D.isVal, D.cells, D.closedL, D.closed, hcl, vm, vm2]; first | done | omega)))
    | ((with_reducible apply s_appG); (case he => rfl); (case hV | hK | hr | hl => first | rfl | assumption | omega | ((first | refine ⟨?_, ?_⟩ | skip) <;> first | omega | (simp only [lN, hcl, vm, vm2] <;> omega)) | (simp [elemsK, D.isVal, D.cells, D.closedL, D.closed, hcl, vm, vm2]; first | done | omega)))
    | ((with_reducible apply s_app0); (case he => rfl); (case hK | hc | hr => first | rfl | assumption | omega | ((first | refine ⟨?_, ?_⟩ | skip) <;> first | omega | (simp only [lN, hcl, vm, vm2] <;> omega)) | (simp [elemsK, D.isVal, D.cells, D.closedL, D.closed, hcl, vm, vm2]; first | done | omega)))
    | ((with_reducible apply s_appF); (case he => rfl); (case hK | hc | hr | hx | hn => first | rfl | assumption | omega | ((first | refine ⟨?_, ?_⟩ | skip) <;> first | omega | (simp only [lN, hcl, vm, vm2] <;> omega)) | (simp [elemsK, D.isVal, D.cells, D.closedL, D.closed, hcl, vm, vm2]; first | done | omega)))
    | ((with_reducible apply s_bsl); (case he | hl | hc => first | rfl | assumption | omega | ((first | refine ⟨?_, ?_⟩ | skip) <;> first | omega | (simp only [lN, hcl, vm, vm2] <;> omega)) | (simp [elemsK, D.isVal, D.cells, D.closedL, D.closed, hcl, vm, vm2]; first | done | omega)))
    | ((with_reducible apply s_mks); (case h0 | h1 | h2 => first | rfl | assumption | omega | ((first | refine ⟨?_, ?_⟩ | skip) <;> first | omega | (simp only [lN, hcl, vm, vm2] <;> omega)) | (simp [elemsK, D.isVal, D.cells, D.closedL, D.closed, hcl, vm, vm2]; first | done | omega)))
    | with_reducible first | apply cd_dec | apply cd_eq | apply cd_ne | apply cd_split | apply gd_dec | apply gd_eq | apply gd_ne | apply gd_split | apply gq_dec | apply gq_eq | apply gq_ne | apply gq_split
    | ((with_reducible refine And.intro ?hw ?_); (case hw => first | omega | rfl | exact ⟨_, _, rfl⟩ | assumption | (simp only [lN, hcl, vm, vm2] <;> omega)))
    | with_reducible intro _)
            all_goals first | omega | skip
            refine ⟨i + 1, by omega, by omega, ?_⟩
            simp [keepE, St.keep, St.keepG, St.gc, Hp.cut, D.rn, D.rnL, Blk.rnL, Blk.rn, Tv.rnL, Tv.rn, cutF, Own.rn, ints_rn, lists_rn, hco, hcl2, hcl, D.erL, D.er]
        · have t1 : (((lb L i : Nat) : Int) != (i : Nat)) = true := by rw [bne_iff_ne]; omega
          have hro : outR L (i + 1) = outR L i := by unfold outR; rw [rtsC_old e]
          repeat' (first
    | with_reducible first | apply swp_seq | apply swp_reg | apply swp_regD | apply swp_block | apply swp_exit | apply swp_ret | apply swp_skip | apply swp_cd
    | simp only [go_sem, seval, P14, q14, hlr, t0, gi, t1, Nat.mul_one, Nat.zero_add]
    | simp (disch := omega) only [w64, w32, wu8, wu16, wu32, wu64]
    | ((with_reducible apply s_appT); (case he => rfl); (case hK | hc | hr | hV => first | rfl | assumption | omega | ((first | refine ⟨?_, ?_⟩ | skip) <;> first | omega | (simp only [lN, hlr, li] <;> omega)) | (simp [elemsK, D.isVal, D.cells, D.closedL, D.closed, hlr, li]; first | done | omega)))
    | ((with_reducible apply s_appG); (case he => rfl); (case hV | hK | hr | hl => first | rfl | assumption | omega | ((first | refine ⟨?_, ?_⟩ | skip) <;> first | omega | (simp only [lN, hlr, li] <;> omega)) | (simp [elemsK, D.isVal, D.cells, D.closedL, D.closed, hlr, li]; first | done | omega)))
    | ((with_reducible apply s_app0); (case he => rfl); (case hK | hc | hr => first | rfl | assumption | omega | ((first | refine ⟨?_, ?_⟩ | skip) <;> first | omega | (simp only [lN, hlr, li] <;> omega)) | (simp [elemsK, D.isVal, D.cells, D.closedL, D.closed, hlr, li]; first | done | omega)))
    | ((with_reducible apply s_appF); (case he => rfl); (case hK | hc | hr | hx | hn => first | rfl | assumption | omega | ((first | refine ⟨?_, ?_⟩ | skip) <;> first | omega | (simp only [lN, hlr, li] <;> omega)) | (simp [elemsK, D.isVal, D.cells, D.closedL, D.closed, hlr, li]; first | done | omega)))
    | ((with_reducible apply s_bsl); (case he | hl | hc => first | rfl | assumption | omega | ((first | refine ⟨?_, ?_⟩ | skip) <;> first | omega | (simp only [lN, hlr, li] <;> omega)) | (simp [elemsK, D.isVal, D.cells, D.closedL, D.closed, hlr, li]; first | done | omega)))
    | ((with_reducible apply s_mks); (case h0 | h1 | h2 => first | rfl | assumption | omega | ((first | refine ⟨?_, ?_⟩ | skip) <;> first | omega | (simp only [lN, hlr, li] <;> omega)) | (simp [elemsK, D.isVal, D.cells, D.closedL, D.closed, hlr, li]; first | done | omega)))
    | with_reducible first | apply cd_dec | apply cd_eq | apply cd_ne | apply cd_split | apply gd_dec | apply gd_eq | apply gd_ne | apply gd_split | apply gq_dec | apply gq_eq | apply gq_ne | apply gq_split
    | ((with_reducible refine And.intro ?hw ?_); (case hw => first | omega | rfl | exact ⟨_, _, rfl⟩ | assumption | (simp only [lN, hlr, li] <;> omega)))
    | with_reducible intro _)
          all_goals first | omega | skip
          refine ⟨i + 1, by omega, by omega, ?_⟩
          simp [keepE, St.keep, St.keepG, St.gc, Hp.cut, D.rn, D.rnL, Blk.rnL, Blk.rn, Tv.rnL, Tv.rn, cutF, Own.rn, ints_rn, lists_rn, hro]
      · have t0 : decide (((i : Nat) : Int) < l.length) = false := by simp; omega
        have : i = l.length := by omega
        subst this
        repeat' (first
    | with_reducible first | apply swp_seq | apply swp_reg | apply swp_regD | apply swp_block | apply swp_exit | apply swp_ret | apply swp_skip | apply swp_cd
    | simp only [go_sem, seval, P14, q14, hlr, t0]
    | simp (disch := omega) only [w64, w32, wu8, wu16, wu32, wu64]
    | ((with_reducible apply s_appT); (case he => rfl); (case hK | hc | hr | hV => first | rfl | assumption | omega | ((first | refine ⟨?_, ?_⟩ | skip) <;> first | omega | (simp only [lN, hlr] <;> omega)) | (simp [elemsK, D.isVal, D.cells, D.closedL, D.closed, hlr]; first | done | omega)))
    | ((with_reducible apply s_appG); (case he => rfl); (case hV | hK | hr | hl => first | rfl | assumption | omega | ((first | refine ⟨?_, ?_⟩ | skip) <;> first | omega | (simp only [lN, hlr] <;> omega)) | (simp [elemsK, D.isVal, D.cells, D.closedL, D.closed, hlr]; first | done | omega)))
    | ((with_reducible apply s_app0); (case he => rfl); (case hK | hc | hr => first | rfl | assumption | omega | ((first | refine ⟨?_, ?_⟩ | skip) <;> first | omega | (simp only [lN, hlr] <;> omega)) | (simp [elemsK, D.isVal, D.cells, D.closedL, D.closed, hlr]; first | done | omega)))
    | ((with_reducible apply s_appF); (case he => rfl); (case hK | hc | hr | hx | hn => first | rfl | assumption | omega | ((first | refine ⟨?_, ?_⟩ | skip) <;> first | omega | (simp only [lN, hlr] <;> omega)) | (simp [elemsK, D.isVal, D.cells, D.closedL, D.closed, hlr]; first | done | omega)))
    | ((with_reducible apply s_bsl); (case he | hl | hc => first | rfl | assumption | omega | ((first | refine ⟨?_, ?_⟩ | skip) <;> first | omega | (simp only [lN, hlr] <;> omega)) | (simp [elemsK, D.isVal, D.cells, D.closedL, D.closed, hlr]; first | done | omega)))
    | ((with_reducible apply s_mks); (case h0 | h1 | h2 => first | rfl | assumption | omega | ((first | refine ⟨?_, ?_⟩ | skip) <;> first | omega | (simp only [lN, hlr] <;> omega)) | (simp [elemsK, D.isVal, D.cells, D.closedL, D.closed, hlr]; first | done | omega)))
    | with_reducible first | apply cd_dec | apply cd_eq | apply cd_ne | apply cd_split | apply gd_dec | apply gd_eq | apply gd_ne | apply gd_split | apply gq_dec | apply gq_eq | apply gq_ne | apply gq_split
    | ((with_reducible refine And.intro ?hw ?_); (case hw => first | omega | rfl | exact ⟨_, _, rfl⟩ | assumption | (simp only [lN, hlr] <;> omega)))
    | with_reducible intro _)
        all_goals first | omega | skip
        all_goals simp [keepE, St.keep]
  obtain ⟨rfl, hq⟩ := hq
  refine ⟨_, weak_keep [11], ?_⟩
  rw [show ({ s' with env := keepE [11] 0 s'.env } : St) = s'.keep [11] from rfl, hq]
  clear hq
  have hoE : outR L l.length = compsL L := by unfold outR; rw [compsL_def, ← hLl]; rfl
  rw [hoE]
  have v1 := cl_comps (compsL L)
  have v2 := er_comps (compsL L)
  repeat' (first
    | with_reducible first | apply swp_seq | apply swp_reg | apply swp_regD | apply swp_block | apply swp_exit | apply swp_ret | apply swp_skip | apply swp_cd
    | simp only [go_sem, seval, P14, q14]
    | simp (disch := omega) only [w64, w32, wu8, wu16, wu32, wu64]
    | ((with_reducible apply s_appT); (case he => rfl); (case hK | hc | hr | hV => first | rfl | assumption | omega | ((first | refine ⟨?_, ?_⟩ | skip) <;> first | omega | (simp only [lN] <;> omega)) | (simp [elemsK, D.isVal, D.cells, D.closedL, D.closed]; first | done | omega)))
    | ((with_reducible apply s_appG); (case he => rfl); (case hV | hK | hr | hl => first | rfl | assumption | omega | ((first | refine ⟨?_, ?_⟩ | skip) <;> first | omega | (simp only [lN] <;> omega)) | (simp [elemsK, D.isVal, D.cells, D.closedL, D.closed]; first | done | omega)))
    | ((with_reducible apply s_app0); (case he => rfl); (case hK | hc | hr => first | rfl | assumption | omega | ((first | refine ⟨?_, ?_⟩ | skip) <;> first | omega | (simp only [lN] <;> omega)) | (simp [elemsK, D.isVal, D.cells, D.closedL, D.closed]; first | done | omega)))
    | ((with_reducible apply s_appF); (case he => rfl); (case hK | hc | hr | hx | hn => first | rfl | assumption | omega | ((first | refine ⟨?_, ?_⟩ | skip) <;> first | omega | (simp only [lN] <;> omega)) | (simp [elemsK, D.isVal, D.cells, D.closedL, D.closed]; first | done | omega)))
    | ((with_reducible apply s_bsl); (case he | hl | hc => first | rfl | assumption | omega | ((first | refine ⟨?_, ?_⟩ | skip) <;> first | omega | (simp only [lN] <;> omega)) | (simp [elemsK, D.isVal, D.cells, D.closedL, D.closed]; first | done | omega)))
    | ((with_reducible apply s_mks); (case h0 | h1 | h2 => first | rfl | assumption | omega | ((first | refine ⟨?_, ?_⟩ | skip) <;> first | omega | (simp only [lN] <;> omega)) | (simp [elemsK, D.isVal, D.cells, D.closedL, D.closed]; first | done | omega)))
    | with_reducible first | apply cd_dec | apply cd_eq | apply cd_ne | apply cd_split | apply gd_dec | apply gd_eq | apply gd_ne | apply gd_split | apply gq_dec | apply gq_eq | apply gq_ne | apply gq_split
    | ((with_reducible refine And.intro ?hw ?_); (case hw => first | omega | rfl | exact ⟨_, _, rfl⟩ | assumption | (simp only [lN] <;> omega)))
    | with_reducible intro _)
  all_goals first | omega | skip
  all_goals exact ⟨_, weak_refl, by simp [D.closed], by simp [D.er]⟩
end Go.Proofs.Ytofnggfpegcllaa
end
section
set_option maxRecDepth 100000
set_option linter.unusedSimpArgs false
set_option linter.unusedVariables false
namespace Go.Proofs.Ytofnggfpegcllaa
open Go GoV Go.RowKit
end Go.Proofs.Ytofnggfpegcllaa
end
section
set_option maxRecDepth 100000
set_option linter.unusedSimpArgs false
set_option linter.unusedVariables false
namespace Go.Proofs.Ytofnggfpegcllaa
open Go GoV Go.RowKit
theorem com_one (N : List Nm) (s : Nm) : com N [s] = N.contains s := by
  unfold com
  rw [Bool.eq_iff_iff, List.any_eq_true, List.contains_iff_mem]
  constructor
  · rintro ⟨x, hx, h⟩
    rw [List.contains_iff_mem, List.mem_singleton] at h
    exact h ▸ hx
  · intro h
    exact ⟨s, h, by rw [List.contains_iff_mem]; exact List.mem_singleton.2 rfl⟩
set_option maxHeartbeats 2000000 in
theorem rof_p (l : List Rp) (hl : l.length ≤ 1000) (hs : Small l) (part : Nm) : Pur M 17 [rpsD l, .str part] (.slice (ints (ofP (namesL l) part)) .no) := by
  have c1 := rcomponents_p l hl hs
  have hlr : (l.map rpD).length = l.length := by simp
  have hclr := closedL_R l
  have herr := erL_R l
  have hL := labs_lo (namesL l)
  have hln : (labs (namesL l)).length = l.length := by rw [labs_len, namesL_len]
  have hnm := fun i (h : i < l.length) => namesL_get h
  have hRl := namesL_len l
  have hsome := fun i => of_some (R := namesL l) (s := part) (i := i)
  have hnone := of_none (R := namesL l) (s := part)
  have hC : comps (namesL l) = compsL (labs (namesL l)) := rfl
  rw [hC] at c1
  generalize hO : ofP (namesL l) part = O at *
  generalize hR : namesL l = R at *
  generalize labs R = L at *
  have hcl := compsD_len (compsL L)
  rw [comps_len] at hcl
  have hrl : (roots L).length ≤ L.length := by unfold roots; refine Nat.le_trans (List.length_filter_le _ _) ?_; simp
  refine ow17 rfl ?_
  rw [i17]
  unfold c17
  repeat' (first
    | with_reducible first | apply swp_seq | apply swp_reg | apply swp_regD | apply swp_block | apply swp_exit | apply swp_ret | apply swp_skip | apply swp_cd
    | simp only [go_sem, seval, P17, q17]
    | simp (disch := omega) only [w64, w32, wu8, wu16, wu32, wu64]
    | ((with_reducible refine o_call (c1) ?he ?hc ?_); (case he | hc => first | rfl | (simp [D.erL, D.er, D.closedL, D.closed, hclr, herr]; done)))
    | ((with_reducible apply s_bsl); (case he | hl | hc => first | rfl | assumption | omega | ((first | refine ⟨?_, ?_⟩ | skip) <;> first | omega | (simp only [lN, hclr, herr] <;> omega)) | (simp [elemsK, D.isVal, D.cells, D.closedL, D.closed, hclr, herr]; first | done | omega)))
    | with_reducible first | apply cd_dec | apply cd_eq | apply cd_ne | apply cd_split
    | ((with_reducible refine And.intro ?hw ?_); (case hw => first | omega | rfl | exact ⟨_, _, rfl⟩ | assumption | (simp only [lN, hclr, herr] <;> omega)))
    | with_reducible intro _)
  all_goals first | omega | skip
  refine swp_fam [0, 1, 3, 4] (fun i : Nat => ⟨[rpsD l, .str part, .undef, .slice (compsD (compsL L)) .no, .int .i64 i, .undef, .undef, .undef, .undef], [], ⟨[], []⟩⟩)
    (fun i => i ≤ (roots L).length ∧ ∀ a (h : a < i) x, x ∈ (compsL L).getD a [] → part ∉ R.getD x []) (fun i => (roots L).length - i) 0 ⟨by omega, fun a h => by omega⟩ ?_ ?_
  · simp [keepE, St.keep]
  · rintro i ⟨hi, hno⟩
    by_cases hil : i < (roots L).length
    · have t0 : decide (((i : Nat) : Int) < (roots L).length) = true := by simp; omega
      have hg := compsD_get (C := compsL L) (i := i) (by rw [comps_len]; exact hil)
      obtain ⟨m1, m2⟩ := comps_mem hil hL
      have hca := cno_app hL hil
      have hr0 : (roots L).getD i 0 = (roots L)[i] := by simp [List.getD, hil]
      rw [hr0] at hca
      generalize hCC : (compsL L).getD i [] = C at *
      have lc := ints_len C
      repeat' (first
    | with_reducible first | apply swp_seq | apply swp_reg | apply swp_regD | apply swp_block | apply swp_exit | apply swp_ret | apply swp_skip | apply swp_cd
    | simp only [go_sem, seval, P17, q17, hcl, t0]
    | simp (disch := omega) only [w64, w32, wu8, wu16, wu32, wu64]
    | ((with_reducible apply s_bsl); (case he | hl | hc => first | rfl | assumption | omega | ((first | refine ⟨?_, ?_⟩ | skip) <;> first | omega | (simp only [lN, hcl] <;> omega)) | (simp [elemsK, D.isVal, D.cells, D.closedL, D.closed, hcl]; first | done | omega)))
    | with_reducible first | apply cd_dec | apply cd_eq | apply cd_ne | apply cd_split
    | ((with_reducible refine And.intro ?hw ?_); (case hw => first | omega | rfl | exact ⟨_, _, rfl⟩ | assumption | (simp only [lN, hcl] <;> omega)))
    | with_reducible intro _)
      all_goals first | omega | skip
      refine swp_fam [0, 1, 3, 4, 5] (fun k : Nat => ⟨[rpsD l, .str part, .undef, .slice (compsD (compsL L)) .no, .int .i64 i, .int .i64 k, .undef, .undef, .undef], [], ⟨[], []⟩⟩)
        (fun k => k ≤ C.length ∧ ∀ j (hj : j < C.length), j < k → part ∉ R.getD C[j] []) (fun k => C.length - k) 0 ⟨by omega, fun j hj h => by omega⟩ ?_ ?_
      · simp [keepE, St.keep]
      · rintro k ⟨hk, hnk⟩
        by_cases hkl : k < C.length
        · have t1 : decide (((k : Nat) : Int) < C.length) = true := by simp; omega
          have gk := ints_getD hkl
          have hx0 := m1 _ (List.getElem_mem hkl)
          have hx : C[k] < l.length := by omega
          have hgx := rp_get hx
          have n1 := rnames_p l[C[k]] (hs _ (List.getElem_mem _))
          rw [show rpD l[C[k]] = .agg [.slice (l[C[k]].opts.map evD) .no, .bool l[C[k]].doubt] from rfl] at n1
          have hn8 := namesR_len (r := l[C[k]])
          have n2 := common_p (namesR l[C[k]]) [part] (by omega) (by simp)
          rw [com_one] at n2
          have hpo : strs [part] = [.str part] := rfl
          rw [hpo] at n2
          have v1 := cl_strs (namesR l[C[k]])
          have v2 := er_strs (namesR l[C[k]])
          have hnx := hnm _ hx
          cases hc : (namesR l[C[k]]).contains part
          · rw [hc] at n2
            have hne : part ∉ R.getD C[k] [] := by
              rw [hnx]; intro q; rw [← List.contains_iff_mem, hc] at q; cases q
            generalize namesR l[C[k]] = N at *
            repeat' (first
    | with_reducible first | apply swp_seq | apply swp_reg | apply swp_regD | apply swp_block | apply swp_exit | apply swp_ret | apply swp_skip | apply swp_cd
    | simp only [go_sem, seval, P17, q17, hcl, hg, lc, hlr, gk, hgx, t1]
    | simp (disch := omega) only [w64, w32, wu8, wu16, wu32, wu64]
    | ((with_reducible refine o_call (n1) ?he ?hc ?_); (case he | hc => first | rfl | (simp [D.erL, D.er, D.closedL, D.closed, hcl, hg, lc, hlr, gk, hgx, v1, v2]; done)))
    | ((with_reducible refine o_call (n2) ?he ?hc ?_); (case he | hc => first | rfl | (simp [D.erL, D.er, D.closedL, D.closed, hcl, hg, lc, hlr, gk, hgx, v1, v2]; done)))
    | ((with_reducible apply s_bsl); (case he | hl | hc => first | rfl | assumption | omega | ((first | refine ⟨?_, ?_⟩ | skip) <;> first | omega | (simp only [lN, hcl, hg, lc, hlr, gk, hgx, v1, v2] <;> omega)) | (simp [elemsK, D.isVal, D.cells, D.closedL, D.closed, hcl, hg, lc, hlr, gk, hgx, v1, v2]; first | done | omega)))
    | with_reducible first | apply cd_dec | apply cd_eq | apply cd_ne | apply cd_split
    | ((with_reducible refine And.intro ?hw ?_); (case hw => first | omega | rfl | exact ⟨_, _, rfl⟩ | assumption | (simp only [lN, hcl, hg, lc, hlr, gk, hgx, v1, v2] <;> omega)))
    | with_reducible intro _)
            all_goals first | omega | skip
            refine ⟨k + 1, ⟨by omega, fun j hj h => ?_⟩, by omega, by simp [keepE, St.keep]⟩
            by_cases q : j = k
            · subst q; exact hne
            · exact hnk j hj (by omega)
          · rw [hc] at n2
            have hin : part ∈ R.getD C[k] [] := by rw [hnx]; rw [List.contains_iff_mem] at hc; exact hc
            have hOe := hsome C[k] hin
            have hmm : ∀ x ∈ C, x ∈ mem L (roots L)[i] := fun x hx => hca ▸ hx
            have hCe : lb L C[k] = (roots L)[i] := (mem_mem.1 (hmm _ (List.getElem_mem hkl))).2
            rw [hCe, ← hca] at hOe
            rw [hOe]
            have u1 := cl_ints C
            have u2 := er_ints C
            generalize namesR l[C[k]] = N at *
            repeat' (first
    | with_reducible first | apply swp_seq | apply swp_reg | apply swp_regD | apply swp_block | apply swp_exit | apply swp_ret | apply swp_skip | apply swp_cd
    | simp only [go_sem, seval, P17, q17, hcl, hg, lc, hlr, gk, hgx, t1]
    | simp (disch := omega) only [w64, w32, wu8, wu16, wu32, wu64]
    | ((with_reducible refine o_call (n1) ?he ?hc ?_); (case he | hc => first | rfl | (simp [D.erL, D.er, D.closedL, D.closed, hcl, hg, lc, hlr, gk, hgx, v1, v2]; done)))
    | ((with_reducible refine o_call (n2) ?he ?hc ?_); (case he | hc => first | rfl | (simp [D.erL, D.er, D.closedL, D.closed, hcl, hg, lc, hlr, gk, hgx, v1, v2]; done)))
    | ((with_reducible apply s_bsl); (case he | hl | hc => first | rfl | assumption | omega | ((first | refine ⟨?_, ?_⟩ | skip) <;> first | omega | (simp only [lN, hcl, hg, lc, hlr, gk, hgx, v1, v2] <;> omega)) | (simp [elemsK, D.isVal, D.cells, D.closedL, D.closed, hcl, hg, lc, hlr, gk, hgx, v1, v2]; first | done | omega)))
    | with_reducible first | apply cd_dec | apply cd_eq | apply cd_ne | apply cd_split
    | ((with_reducible refine And.intro ?hw ?_); (case hw => first | omega | rfl | exact ⟨_, _, rfl⟩ | assumption | (simp only [lN, hcl, hg, lc, hlr, gk, hgx, v1, v2] <;> omega)))
    | with_reducible intro _)
            all_goals first | omega | skip
            exact ⟨_, weak_refl, by simp [D.closed], by simp [D.er]⟩
        · have t1 : decide (((k : Nat) : Int) < C.length) = false := by simp; omega
          repeat' (first
    | with_reducible first | apply swp_seq | apply swp_reg | apply swp_regD | apply swp_block | apply swp_exit | apply swp_ret | apply swp_skip | apply swp_cd
    | simp only [go_sem, seval, P17, q17, hcl, hg, lc, t1]
    | simp (disch := omega) only [w64, w32, wu8, wu16, wu32, wu64]
    | ((with_reducible apply s_bsl); (case he | hl | hc => first | rfl | assumption | omega | ((first | refine ⟨?_, ?_⟩ | skip) <;> first | omega | (simp only [lN, hcl, hg, lc] <;> omega)) | (simp [elemsK, D.isVal, D.cells, D.closedL, D.closed, hcl, hg, lc]; first | done | omega)))
    | with_reducible first | apply cd_dec | apply cd_eq | apply cd_ne | apply cd_split
    | ((with_reducible refine And.intro ?hw ?_); (case hw => first | omega | rfl | exact ⟨_, _, rfl⟩ | assumption | (simp only [lN, hcl, hg, lc] <;> omega)))
    | with_reducible intro _)
          all_goals first | omega | skip
          refine ⟨i + 1, ⟨by omega, fun a h x hx => ?_⟩, by omega, by simp [keepE, St.keep]⟩
          by_cases q : a = i
          · subst q
            rw [hCC] at hx
            obtain ⟨j, hj, rfl⟩ := List.getElem_of_mem hx
            exact hnk j hj (by omega)
          · exact hno a (by omega) x hx
    · have t0 : decide (((i : Nat) : Int) < (roots L).length) = false := by simp; omega
      have hO0 : O = [] := hnone fun x hx => by
        have hxl := (sh_lt (R := R) (i := x) (k := x) ⟨part, hx, hx⟩).1
        refine hno (cno L x) (by have := cno_lt hL (i := x) (by omega); omega) x ?_ hx
        rw [comps_at hL (by omega)]
        exact mem_mem.2 ⟨by omega, rfl⟩
      rw [hO0]
      repeat' (first
    | with_reducible first | apply swp_seq | apply swp_reg | apply swp_regD | apply swp_block | apply swp_exit | apply swp_ret | apply swp_skip | apply swp_cd
    | simp only [go_sem, seval, P17, q17, hcl, t0]
    | simp (disch := omega) only [w64, w32, wu8, wu16, wu32, wu64]
    | ((with_reducible apply s_bsl); (case he | hl | hc => first | rfl | assumption | omega | ((first | refine ⟨?_, ?_⟩ | skip) <;> first | omega | (simp only [lN, hcl] <;> omega)) | (simp [elemsK, D.isVal, D.cells, D.closedL, D.closed, hcl]; first | done | omega)))
    | with_reducible first | apply cd_dec | apply cd_eq | apply cd_ne | apply cd_split
    | ((with_reducible refine And.intro ?hw ?_); (case hw => first | omega | rfl | exact ⟨_, _, rfl⟩ | assumption | (simp only [lN, hcl] <;> omega)))
    | with_reducible intro _)
      all_goals first | omega | skip
      exact ⟨_, weak_nn, by simp [D.nnL, D.nn, D.closed], by simp [D.nnL, D.nn, D.er, ints]⟩
set_option maxHeartbeats 2000000 in
theorem l3_p (l : List Rp) (part : Nm) : Pur M 3 [rpsD l, .str part] (.bool true) := by
  have c0 := head_p
  have c1 := few_p l
  have hlr : (l.map rpD).length = l.length := by simp
  have hclr := closedL_R l
  have herr := erL_R l
  refine ok3 rfl ?_
  rw [i3]
  unfold c3
  cases hf : few13 l 40
  · rw [hf] at c1
    repeat' (first
    | with_reducible first | apply swp_seq | apply swp_reg | apply swp_regD | apply swp_block | apply swp_exit | apply swp_ret | apply swp_skip | apply swp_cd
    | simp only [go_sem, seval, P3, q3]
    | simp (disch := omega) only [w64, w32, wu8, wu16, wu32, wu64]
    | ((with_reducible refine o_call (c0) ?he ?hc ?_); (case he | hc => first | rfl | (simp [D.erL, D.er, D.closedL, D.closed, hclr, herr]; done)))
    | ((with_reducible refine o_call (c1) ?he ?hc ?_); (case he | hc => first | rfl | (simp [D.erL, D.er, D.closedL, D.closed, hclr, herr]; done)))
    | with_reducible first | apply cd_dec | apply cd_eq | apply cd_ne | apply cd_split | apply gd_dec | apply gd_eq | apply gd_ne | apply gd_split
    | ((with_reducible refine And.intro ?hw ?_); (case hw => first | omega | rfl | exact ⟨_, _, rfl⟩ | assumption | (simp only [lN, hclr, herr] <;> omega)))
    | with_reducible intro _)
    all_goals first | omega | simp [D.closed, D.er]
  · rw [hf] at c1
    obtain ⟨h40, hs⟩ := few_small hf
    by_cases h100 : part.length ≤ 100
    rotate_left
    · have tp : decide (((part.length : Nat) : Int) > 100) = true := by simp; omega
      repeat' (first
    | with_reducible first | apply swp_seq | apply swp_reg | apply swp_regD | apply swp_block | apply swp_exit | apply swp_ret | apply swp_skip | apply swp_cd
    | simp only [go_sem, seval, P3, q3, tp]
    | simp (disch := omega) only [w64, w32, wu8, wu16, wu32, wu64]
    | ((with_reducible refine o_call (c0) ?he ?hc ?_); (case he | hc => first | rfl | (simp [D.erL, D.er, D.closedL, D.closed, hclr, herr]; done)))
    | ((with_reducible refine o_call (c1) ?he ?hc ?_); (case he | hc => first | rfl | (simp [D.erL, D.er, D.closedL, D.closed, hclr, herr]; done)))
    | with_reducible first | apply cd_dec | apply cd_eq | apply cd_ne | apply cd_split | apply gd_dec | apply gd_eq | apply gd_ne | apply gd_split
    | ((with_reducible refine And.intro ?hw ?_); (case hw => first | omega | rfl | exact ⟨_, _, rfl⟩ | assumption | (simp only [lN, hclr, herr] <;> omega)))
    | with_reducible intro _)
      all_goals first | omega | simp [D.closed, D.er]
    have tp : decide (((part.length : Nat) : Int) > 100) = false := by simp; omega
    have hL := labs_lo (namesL l)
    have hln : (labs (namesL l)).length = l.length := by rw [labs_len, namesL_len]
    have k1 := components_p l (by omega) hs
    have k2 := rcomponents_p l (by omega) hs
    have k3 := of_p l (by omega) hs part
    have k4 := rof_p l (by omega) hs part
    have k5 := doubts_p l (by omega) hs
    have k6 := rdoubts_p l (by omega) hs
    have hC : comps (namesL l) = compsL (labs (namesL l)) := rfl
    have hOl : (ofP (namesL l) part).length ≤ 1000 := by
      unfold ofP
      split
      · simp
      · refine Nat.le_trans (List.length_filter_le _ _) ?_
        rw [List.length_range, namesL_len]; omega
    have hrl : (roots (labs (namesL l))).length ≤ (labs (namesL l)).length := by unfold roots; refine Nat.le_trans (List.length_filter_le _ _) ?_; simp
    have k7 := same_p (comps (namesL l)) (by rw [hC, comps_len]; omega) (fun c hc => by
      rw [hC, compsL_def] at hc
      obtain ⟨r, _, rfl⟩ := List.mem_map.1 hc
      unfold mem
      refine Nat.le_trans (List.length_filter_le _ _) ?_
      simp; omega)
    have k8 := ints_p (ofP (namesL l) part) (ofP (namesL l) part) hOl hOl
    rw [beq_self_eq_true] at k8
    have u1 := cl_comps (comps (namesL l))
    have u2 := er_comps (comps (namesL l))
    have u3 := cl_ints (ofP (namesL l) part)
    have u4 := er_ints (ofP (namesL l) part)
    have td : (((doubtsR l : Nat) : Int) == (doubtsR l : Nat)) = true := by simp
    generalize comps (namesL l) = CC at *
    generalize ofP (namesL l) part = OO at *
    generalize doubtsR l = dd at *
    repeat' (first
    | with_reducible first | apply swp_seq | apply swp_reg | apply swp_regD | apply swp_block | apply swp_exit | apply swp_ret | apply swp_skip | apply swp_cd
    | simp only [go_sem, seval, P3, q3, tp, td]
    | simp (disch := omega) only [w64, w32, wu8, wu16, wu32, wu64]
    | ((with_reducible refine o_call (c0) ?he ?hc ?_); (case he | hc => first | rfl | (simp [D.erL, D.er, D.closedL, D.closed, hclr, herr, u1, u2, u3, u4]; done)))
    | ((with_reducible refine o_call (c1) ?he ?hc ?_); (case he | hc => first | rfl | (simp [D.erL, D.er, D.closedL, D.closed, hclr, herr, u1, u2, u3, u4]; done)))
    | ((with_reducible refine o_call (k1) ?he ?hc ?_); (case he | hc => first | rfl | (simp [D.erL, D.er, D.closedL, D.closed, hclr, herr, u1, u2, u3, u4]; done)))
    | ((with_reducible refine o_call (k2) ?he ?hc ?_); (case he | hc => first | rfl | (simp [D.erL, D.er, D.closedL, D.closed, hclr, herr, u1, u2, u3, u4]; done)))
    | ((with_reducible refine o_call (k3) ?he ?hc ?_); (case he | hc => first | rfl | (simp [D.erL, D.er, D.closedL, D.closed, hclr, herr, u1, u2, u3, u4]; done)))
    | ((with_reducible refine o_call (k4) ?he ?hc ?_); (case he | hc => first | rfl | (simp [D.erL, D.er, D.closedL, D.closed, hclr, herr, u1, u2, u3, u4]; done)))
    | ((with_reducible refine o_call (k5) ?he ?hc ?_); (case he | hc => first | rfl | (simp [D.erL, D.er, D.closedL, D.closed, hclr, herr, u1, u2, u3, u4]; done)))
    | ((with_reducible refine o_call (k6) ?he ?hc ?_); (case he | hc => first | rfl | (simp [D.erL, D.er, D.closedL, D.closed, hclr, herr, u1, u2, u3, u4]; done)))
    | ((with_reducible refine o_call (k7) ?he ?hc ?_); (case he | hc => first | rfl | (simp [D.erL, D.er, D.closedL, D.closed, hclr, herr, u1, u2, u3, u4]; done)))
    | ((with_reducible refine o_call (k8) ?he ?hc ?_); (case he | hc => first | rfl | (simp [D.erL, D.er, D.closedL, D.closed, hclr, herr, u1, u2, u3, u4]; done)))
    | with_reducible first | apply cd_dec | apply cd_eq | apply cd_ne | apply cd_split | apply gd_dec | apply gd_eq | apply gd_ne | apply gd_split
    | ((with_reducible refine And.intro ?hw ?_); (case hw => first | omega | rfl | exact ⟨_, _, rfl⟩ | assumption | (simp only [lN, hclr, herr, u1, u2, u3, u4] <;> omega)))
    | with_reducible intro _)
    all_goals first | omega | simp [D.closed, D.er]
end Go.Proofs.Ytofnggfpegcllaa
end
section
set_option linter.unusedVariables false
namespace Go.Proofs.Ytofnggfpegcllaa
open Go GoV
theorem matches_c (l : List Rp) (part : Nm) : Pur M 3 [rpsD l, .str part] (.bool true) := l3_p l part
end Go.Proofs.Ytofnggfpegcllaa
end
