/- What the functions of the digest compute: the walks, fourth part: Is. Own work. -/
import Derived.Test.YtiodnobmnfjdlaaDoorDg
set_option maxRecDepth 100000
set_option linter.unusedSimpArgs false
set_option linter.unusedVariables false
namespace Go.Proofs.YtiodnobmnfjdlaaDoor
open Go GoV Go.RowKit

def hexs : List UInt8 := [48, 49, 50, 51, 52, 53, 54, 55, 56, 57, 97, 98, 99, 100, 101, 102]
def hx (c : UInt8) : Bool := hexs.contains c
def setD : List D := (List.range 256).map fun i => .bool (hx (UInt8.ofNat i))

theorem set_cells : (Lib.setCells hexs).toList = (List.range 256).map fun i => Value.bool (hx (UInt8.ofNat i)) := by rfl

theorem set_rel {w : World} {g : Gh} : ∀ l : List Nat, RelL w g (l.map fun i => D.bool (hx (UInt8.ofNat i))) (l.map fun i => Value.bool (hx (UInt8.ofNat i)))
  | [] => RelL.nil
  | i :: l => RelL.cons (by simp [Rel]) (set_rel l)

theorem mk_p : Pur M 33 [.str hexs] (.tup [.agg setD, .bool true]) := by
  refine pur_extM (vs := [.string ⟨hexs.toArray⟩]) ⟨Tryd.f33, Tryd.func33, rfl, rfl⟩ (fun w g xs h => ?_) (fun w hA => ?_)
  · obtain ⟨x, xs', rfl, g1, g2⟩ := h.inv
    simp only [Rel] at g1
    rw [g2.inv_nil, g1]
  · have ha : ∀ (j : Nat) b, (⟨hexs.toArray⟩ : ByteArray).data.toList[j]? = some b → b.toNat < 128 := by
      intro j b hb
      have : b ∈ hexs := List.mem_of_getElem? hb
      have key : ∀ b ∈ hexs, b.toNat < 128 := by decide
      exact key b this
    refine (Tryd.strings_makeASCIISet (fun w => Tryd.zeroValue58 w) ⟨hexs.toArray⟩ w (by decide) ha).mono fun e w' hh => ?_
    obtain ⟨rfl, rfl⟩ := hh
    have e0 : Lib.setCells (⟨hexs.toArray⟩ : ByteArray).data.toList = ((List.range 256).map fun i => Value.bool (hx (UInt8.ofNat i))).toArray := by
      have := set_cells
      rw [← this]
    rw [e0]
    refine ⟨_, rfl, (Below.refl _ _).alloc (Nat.le_refl _) _, fun I => ⟨I, fun _ _ h => h, fun _ _ h => .inl h, ?_⟩⟩
    have h1 : Rel (w.alloc (.cells ((List.range 256).map fun i => Value.bool (hx (UInt8.ofNat i))).toArray 58)) ⟨[], [], I⟩ (.agg setD) (.agg ((List.range 256).map fun i => Value.bool (hx (UInt8.ofNat i))).toArray) := by
      unfold setD
      simp only [Rel]
      refine ⟨_, rfl, set_rel _, ?_⟩
      intro y hy
      obtain ⟨i, _, rfl⟩ := List.mem_map.1 hy
      simp [oneC, Value.oneCell']
    generalize D.agg setD = a at *
    simp only [Rel]
    exact ⟨_, rfl, RelL.cons h1 (RelL.one (by simp [Rel]))⟩

theorem set_len : setD.length = 256 := by simp [setD]

theorem set_get (x : UInt8) : setD.getD x.toNat .undef = .bool (hx x) := by
  have h : x.toNat < 256 := UInt8.toNat_lt x
  simp [setD, List.getD, h]

theorem set_rn (β τ : Nat → Option Nat) : D.rnL β τ setD = setD := by
  have : ∀ l : List Nat, D.rnL β τ (l.map fun i => D.bool (hx (UInt8.ofNat i))) = l.map fun i => D.bool (hx (UInt8.ofNat i)) := by
    intro l
    induction l with
    | nil => rfl
    | cons i l ih => simp only [List.map_cons, D.rnL, D.rn, ih]
  exact this _

theorem cont_e (x : UInt8) : Eff M 41 [.ptr 0 0, .int .u8 x.toNat] ⟨[.cells setD], []⟩ (fun d hp' => d = .bool (hx x) ∧ hp' = ⟨[.cells setD], []⟩) := by
  refine oe41 1 0 rfl rfl rfl ?_
  rw [ie41]
  unfold c41
  have h : x.toNat < 256 := UInt8.toNat_lt x
  have hl := set_len
  have hg := set_get x
  repeat' (first
    | with_reducible apply swp_seq
    | with_reducible apply swp_reg
    | with_reducible apply swp_regD
    | with_reducible apply swp_block
    | with_reducible apply swp_exit
    | with_reducible apply swp_ret
    | with_reducible apply swp_skip
    | with_reducible apply swp_cd
    | simp only [go_sem, Nat.reduceAdd, Nat.reduceSub, Nat.reduceMul, Nat.reduceEqDiff, Nat.reduceLeDiff, Nat.reduceLT, Int.reduceEq, Int.reduceNe, Int.reduceLT, Int.reduceLE, Int.reduceAdd, Int.reduceSub, Int.reduceMul, Int.reduceNeg, Int.reduceToNat, Int.reduceTDiv, Int.reduceTMod, Int.reduceBEq, Int.reduceBNe, decide_true, decide_false, reduceCtorEq, reduceIte, pe41, q41, hg]
    | simp (disch := omega) only [w64, w32, wu8, wu16, wu32, wu64]
    | with_reducible apply cd_dec
    | with_reducible apply cd_eq
    | with_reducible apply cd_ne
    | with_reducible apply cd_split
    | ((with_reducible refine And.intro ?hw ?_); (case hw => first | omega | rfl | exact ⟨_, _, rfl⟩ | assumption | (simp only [List.length_cons, List.length_nil, List.length_append, List.length_map, List.length_replicate, List.length_take, List.length_drop] <;> omega)))
    | with_reducible intro _)
  all_goals try omega
  refine ⟨_, weak_refl, ?_, rfl⟩
  simp only [Nat.mul_one, hg, List.getD_cons_zero, List.getD_cons_succ]

def trimL (s : List UInt8) : List UInt8 := s.dropWhile hx
def trimR (s : List UInt8) : List UInt8 := (s.reverse.dropWhile hx).reverse

theorem trimL_e (s : List UInt8) (hs : s.length ≤ 4611686018427387903) : Eff M 34 [.str s, .ptr 0 0] ⟨[.cells setD], []⟩ (fun d hp' => d = .str (trimL s) ∧ hp' = ⟨[.cells setD], []⟩) := by
  refine oe34 1 0 rfl rfl rfl ?_
  rw [ie34]
  unfold c34
  repeat' (first
    | with_reducible apply swp_seq
    | with_reducible apply swp_reg
    | with_reducible apply swp_regD
    | with_reducible apply swp_block
    | with_reducible apply swp_exit
    | with_reducible apply swp_ret
    | with_reducible apply swp_skip
    | with_reducible apply swp_cd
    | simp only [go_sem, Nat.reduceAdd, Nat.reduceSub, Nat.reduceMul, Nat.reduceEqDiff, Nat.reduceLeDiff, Nat.reduceLT, Int.reduceEq, Int.reduceNe, Int.reduceLT, Int.reduceLE, Int.reduceAdd, Int.reduceSub, Int.reduceMul, Int.reduceNeg, Int.reduceToNat, Int.reduceTDiv, Int.reduceTMod, Int.reduceBEq, Int.reduceBNe, decide_true, decide_false, reduceCtorEq, reduceIte, pe34, q34]
    | simp (disch := omega) only [w64, w32, wu8, wu16, wu32, wu64]
    | with_reducible apply cd_dec
    | with_reducible apply cd_eq
    | with_reducible apply cd_ne
    | with_reducible apply cd_split
    | ((with_reducible refine And.intro ?hw ?_); (case hw => first | omega | rfl | exact ⟨_, _, rfl⟩ | assumption | (simp only [List.length_cons, List.length_nil, List.length_append, List.length_map, List.length_replicate, List.length_take, List.length_drop] <;> omega)))
    | with_reducible intro _)
  refine swp_fam [0, 1, 2] (fun t : List UInt8 => ⟨[.str t, .ptr 0 0, .str [], .undef, .undef], [], ⟨[.cells setD], []⟩⟩)
    (fun t => trimL t = trimL s ∧ t.length ≤ s.length) (fun t => t.length) s ⟨rfl, by omega⟩ ?_ ?_
  · simp [keepE, St.keep]
  · rintro t ⟨g1, g2⟩
    rcases t with _ | ⟨c, t⟩
    · repeat' (first
    | with_reducible apply swp_seq
    | with_reducible apply swp_reg
    | with_reducible apply swp_regD
    | with_reducible apply swp_block
    | with_reducible apply swp_exit
    | with_reducible apply swp_ret
    | with_reducible apply swp_skip
    | with_reducible apply swp_cd
    | simp only [go_sem, Nat.reduceAdd, Nat.reduceSub, Nat.reduceMul, Nat.reduceEqDiff, Nat.reduceLeDiff, Nat.reduceLT, Int.reduceEq, Int.reduceNe, Int.reduceLT, Int.reduceLE, Int.reduceAdd, Int.reduceSub, Int.reduceMul, Int.reduceNeg, Int.reduceToNat, Int.reduceTDiv, Int.reduceTMod, Int.reduceBEq, Int.reduceBNe, decide_true, decide_false, reduceCtorEq, reduceIte, pe34, q34]
    | simp (disch := omega) only [w64, w32, wu8, wu16, wu32, wu64]
    | with_reducible apply cd_dec
    | with_reducible apply cd_eq
    | with_reducible apply cd_ne
    | with_reducible apply cd_split
    | ((with_reducible refine And.intro ?hw ?_); (case hw => first | omega | rfl | exact ⟨_, _, rfl⟩ | assumption | (simp only [List.length_cons, List.length_nil, List.length_append, List.length_map, List.length_replicate, List.length_take, List.length_drop] <;> omega)))
    | with_reducible intro _)
      all_goals try omega
      refine ⟨_, weak_refl, ?_, rfl⟩
      rw [← g1]; rfl
    · have hc := cont_e c
      simp only [List.length_cons] at g2
      have hd : (c :: t).drop 1 = t := rfl
      by_cases e : hx c = true
      · rw [e] at hc
        repeat' (first
    | with_reducible apply swp_seq
    | with_reducible apply swp_reg
    | with_reducible apply swp_regD
    | with_reducible apply swp_block
    | with_reducible apply swp_exit
    | with_reducible apply swp_ret
    | with_reducible apply swp_skip
    | with_reducible apply swp_cd
    | simp only [go_sem, Nat.reduceAdd, Nat.reduceSub, Nat.reduceMul, Nat.reduceEqDiff, Nat.reduceLeDiff, Nat.reduceLT, Int.reduceEq, Int.reduceNe, Int.reduceLT, Int.reduceLE, Int.reduceAdd, Int.reduceSub, Int.reduceMul, Int.reduceNeg, Int.reduceToNat, Int.reduceTDiv, Int.reduceTMod, Int.reduceBEq, Int.reduceBNe, decide_true, decide_false, reduceCtorEq, reduceIte, pe34, q34, hd, set_rn]
    | simp (disch := omega) only [w64, w32, wu8, wu16, wu32, wu64]
    | ((with_reducible refine o_eff [0] [] (hc) ?hs ?he ?hh ?_); (case hs => exact ⟨by simp, by simp, by simp, by simp⟩); (case he => first | rfl | (simp [go_sem, Nat.reduceAdd, Nat.reduceSub, Nat.reduceMul, Nat.reduceEqDiff, Nat.reduceLeDiff, Nat.reduceLT, Int.reduceEq, Int.reduceNe, Int.reduceLT, Int.reduceLE, Int.reduceAdd, Int.reduceSub, Int.reduceMul, Int.reduceNeg, Int.reduceToNat, Int.reduceTDiv, Int.reduceTMod, Int.reduceBEq, Int.reduceBNe, decide_true, decide_false, reduceCtorEq, reduceIte]; done)); (case hh => first | rfl | (simp [go_sem, Nat.reduceAdd, Nat.reduceSub, Nat.reduceMul, Nat.reduceEqDiff, Nat.reduceLeDiff, Nat.reduceLT, Int.reduceEq, Int.reduceNe, Int.reduceLT, Int.reduceLE, Int.reduceAdd, Int.reduceSub, Int.reduceMul, Int.reduceNeg, Int.reduceToNat, Int.reduceTDiv, Int.reduceTMod, Int.reduceBEq, Int.reduceBNe, decide_true, decide_false, reduceCtorEq, reduceIte]; done)); rintro _ _ ⟨rfl, rfl⟩)
    | with_reducible apply cd_dec
    | with_reducible apply cd_eq
    | with_reducible apply cd_ne
    | with_reducible apply cd_split
    | ((with_reducible refine And.intro ?hw ?_); (case hw => first | omega | rfl | exact ⟨_, _, rfl⟩ | assumption | (simp only [List.length_cons, List.length_nil, List.length_append, List.length_map, List.length_replicate, List.length_take, List.length_drop] <;> omega)))
    | with_reducible intro _)
        all_goals try omega
        refine ⟨t, ⟨?_, by omega⟩, by omega, ?_⟩
        · rw [← g1]; simp [trimL, e]
        · simp [keepE, St.keep]
      · simp only [Bool.not_eq_true] at e
        rw [e] at hc
        repeat' (first
    | with_reducible apply swp_seq
    | with_reducible apply swp_reg
    | with_reducible apply swp_regD
    | with_reducible apply swp_block
    | with_reducible apply swp_exit
    | with_reducible apply swp_ret
    | with_reducible apply swp_skip
    | with_reducible apply swp_cd
    | simp only [go_sem, Nat.reduceAdd, Nat.reduceSub, Nat.reduceMul, Nat.reduceEqDiff, Nat.reduceLeDiff, Nat.reduceLT, Int.reduceEq, Int.reduceNe, Int.reduceLT, Int.reduceLE, Int.reduceAdd, Int.reduceSub, Int.reduceMul, Int.reduceNeg, Int.reduceToNat, Int.reduceTDiv, Int.reduceTMod, Int.reduceBEq, Int.reduceBNe, decide_true, decide_false, reduceCtorEq, reduceIte, pe34, q34, hd, set_rn]
    | simp (disch := omega) only [w64, w32, wu8, wu16, wu32, wu64]
    | ((with_reducible refine o_eff [0] [] (hc) ?hs ?he ?hh ?_); (case hs => exact ⟨by simp, by simp, by simp, by simp⟩); (case he => first | rfl | (simp [go_sem, Nat.reduceAdd, Nat.reduceSub, Nat.reduceMul, Nat.reduceEqDiff, Nat.reduceLeDiff, Nat.reduceLT, Int.reduceEq, Int.reduceNe, Int.reduceLT, Int.reduceLE, Int.reduceAdd, Int.reduceSub, Int.reduceMul, Int.reduceNeg, Int.reduceToNat, Int.reduceTDiv, Int.reduceTMod, Int.reduceBEq, Int.reduceBNe, decide_true, decide_false, reduceCtorEq, reduceIte]; done)); (case hh => first | rfl | (simp [go_sem, Nat.reduceAdd, Nat.reduceSub, Nat.reduceMul, Nat.reduceEqDiff, Nat.reduceLeDiff, Nat.reduceLT, Int.reduceEq, Int.reduceNe, Int.reduceLT, Int.reduceLE, Int.reduceAdd, Int.reduceSub, Int.reduceMul, Int.reduceNeg, Int.reduceToNat, Int.reduceTDiv, Int.reduceTMod, Int.reduceBEq, Int.reduceBNe, decide_true, decide_false, reduceCtorEq, reduceIte]; done)); rintro _ _ ⟨rfl, rfl⟩)
    | with_reducible apply cd_dec
    | with_reducible apply cd_eq
    | with_reducible apply cd_ne
    | with_reducible apply cd_split
    | ((with_reducible refine And.intro ?hw ?_); (case hw => first | omega | rfl | exact ⟨_, _, rfl⟩ | assumption | (simp only [List.length_cons, List.length_nil, List.length_append, List.length_map, List.length_replicate, List.length_take, List.length_drop] <;> omega)))
    | with_reducible intro _)
        all_goals try omega
        refine ⟨_, weak_refl, ?_, rfl⟩
        rw [← g1]; simp [trimL, e]

theorem trimR_e (s : List UInt8) (hs : s.length ≤ 4611686018427387903) : Eff M 35 [.str s, .ptr 0 0] ⟨[.cells setD], []⟩ (fun d hp' => d = .str (trimR s) ∧ hp' = ⟨[.cells setD], []⟩) := by
  refine oe35 1 0 rfl rfl rfl ?_
  rw [ie35]
  unfold c35
  repeat' (first
    | with_reducible apply swp_seq
    | with_reducible apply swp_reg
    | with_reducible apply swp_regD
    | with_reducible apply swp_block
    | with_reducible apply swp_exit
    | with_reducible apply swp_ret
    | with_reducible apply swp_skip
    | with_reducible apply swp_cd
    | simp only [go_sem, Nat.reduceAdd, Nat.reduceSub, Nat.reduceMul, Nat.reduceEqDiff, Nat.reduceLeDiff, Nat.reduceLT, Int.reduceEq, Int.reduceNe, Int.reduceLT, Int.reduceLE, Int.reduceAdd, Int.reduceSub, Int.reduceMul, Int.reduceNeg, Int.reduceToNat, Int.reduceTDiv, Int.reduceTMod, Int.reduceBEq, Int.reduceBNe, decide_true, decide_false, reduceCtorEq, reduceIte, pe35, q35]
    | simp (disch := omega) only [w64, w32, wu8, wu16, wu32, wu64]
    | with_reducible apply cd_dec
    | with_reducible apply cd_eq
    | with_reducible apply cd_ne
    | with_reducible apply cd_split
    | ((with_reducible refine And.intro ?hw ?_); (case hw => first | omega | rfl | exact ⟨_, _, rfl⟩ | assumption | (simp only [List.length_cons, List.length_nil, List.length_append, List.length_map, List.length_replicate, List.length_take, List.length_drop] <;> omega)))
    | with_reducible intro _)
  refine swp_fam [0, 1, 2] (fun t : List UInt8 => ⟨[.str t, .ptr 0 0, .str [], .undef, .undef], [], ⟨[.cells setD], []⟩⟩)
    (fun t => trimR t = trimR s ∧ t.length ≤ s.length) (fun t => t.length) s ⟨rfl, by omega⟩ ?_ ?_
  · simp [keepE, St.keep]
  · rintro t ⟨g1, g2⟩
    rcases List.eq_nil_or_concat t with rfl | ⟨u, c, rfl⟩
    · repeat' (first
    | with_reducible apply swp_seq
    | with_reducible apply swp_reg
    | with_reducible apply swp_regD
    | with_reducible apply swp_block
    | with_reducible apply swp_exit
    | with_reducible apply swp_ret
    | with_reducible apply swp_skip
    | with_reducible apply swp_cd
    | simp only [go_sem, Nat.reduceAdd, Nat.reduceSub, Nat.reduceMul, Nat.reduceEqDiff, Nat.reduceLeDiff, Nat.reduceLT, Int.reduceEq, Int.reduceNe, Int.reduceLT, Int.reduceLE, Int.reduceAdd, Int.reduceSub, Int.reduceMul, Int.reduceNeg, Int.reduceToNat, Int.reduceTDiv, Int.reduceTMod, Int.reduceBEq, Int.reduceBNe, decide_true, decide_false, reduceCtorEq, reduceIte, pe35, q35]
    | simp (disch := omega) only [w64, w32, wu8, wu16, wu32, wu64]
    | with_reducible apply cd_dec
    | with_reducible apply cd_eq
    | with_reducible apply cd_ne
    | with_reducible apply cd_split
    | ((with_reducible refine And.intro ?hw ?_); (case hw => first | omega | rfl | exact ⟨_, _, rfl⟩ | assumption | (simp only [List.length_cons, List.length_nil, List.length_append, List.length_map, List.length_replicate, List.length_take, List.length_drop] <;> omega)))
    | with_reducible intro _)
      all_goals try omega
      refine ⟨_, weak_refl, ?_, rfl⟩
      rw [← g1]; rfl
    · have hc := cont_e c
      rw [List.concat_eq_append] at *
      have hn : (u ++ [c]).length = u.length + 1 := by simp
      have hd : (u ++ [c]).take u.length = u := by simp
      have hg : (u ++ [c]).getD u.length 0 = c := by simp [List.getD]
      have hz : ((u.length + 1 : Nat) : Int) - 1 = (u.length : Nat) := by omega
      by_cases e : hx c = true
      · rw [e] at hc
        repeat' (first
    | with_reducible apply swp_seq
    | with_reducible apply swp_reg
    | with_reducible apply swp_regD
    | with_reducible apply swp_block
    | with_reducible apply swp_exit
    | with_reducible apply swp_ret
    | with_reducible apply swp_skip
    | with_reducible apply swp_cd
    | simp only [go_sem, Nat.reduceAdd, Nat.reduceSub, Nat.reduceMul, Nat.reduceEqDiff, Nat.reduceLeDiff, Nat.reduceLT, Int.reduceEq, Int.reduceNe, Int.reduceLT, Int.reduceLE, Int.reduceAdd, Int.reduceSub, Int.reduceMul, Int.reduceNeg, Int.reduceToNat, Int.reduceTDiv, Int.reduceTMod, Int.reduceBEq, Int.reduceBNe, decide_true, decide_false, reduceCtorEq, reduceIte, pe35, q35, hn, hd, hg, hz, set_rn]
    | simp (disch := omega) only [w64, w32, wu8, wu16, wu32, wu64]
    | ((with_reducible refine o_eff [0] [] (hc) ?hs ?he ?hh ?_); (case hs => exact ⟨by simp, by simp, by simp, by simp⟩); (case he => first | rfl | (simp [go_sem, Nat.reduceAdd, Nat.reduceSub, Nat.reduceMul, Nat.reduceEqDiff, Nat.reduceLeDiff, Nat.reduceLT, Int.reduceEq, Int.reduceNe, Int.reduceLT, Int.reduceLE, Int.reduceAdd, Int.reduceSub, Int.reduceMul, Int.reduceNeg, Int.reduceToNat, Int.reduceTDiv, Int.reduceTMod, Int.reduceBEq, Int.reduceBNe, decide_true, decide_false, reduceCtorEq, reduceIte]; done)); (case hh => first | rfl | (simp [go_sem, Nat.reduceAdd, Nat.reduceSub, Nat.reduceMul, Nat.reduceEqDiff, Nat.reduceLeDiff, Nat.reduceLT, Int.reduceEq, Int.reduceNe, Int.reduceLT, Int.reduceLE, Int.reduceAdd, Int.reduceSub, Int.reduceMul, Int.reduceNeg, Int.reduceToNat, Int.reduceTDiv, Int.reduceTMod, Int.reduceBEq, Int.reduceBNe, decide_true, decide_false, reduceCtorEq, reduceIte]; done)); rintro _ _ ⟨rfl, rfl⟩)
    | with_reducible apply cd_dec
    | with_reducible apply cd_eq
    | with_reducible apply cd_ne
    | with_reducible apply cd_split
    | ((with_reducible refine And.intro ?hw ?_); (case hw => first | omega | rfl | exact ⟨_, _, rfl⟩ | assumption | (simp only [List.length_cons, List.length_nil, List.length_append, List.length_map, List.length_replicate, List.length_take, List.length_drop] <;> omega)))
    | with_reducible intro _)
        all_goals try omega
        refine ⟨u, ⟨?_, by omega⟩, by omega, ?_⟩
        · rw [← g1]; simp [trimR, e]
        · simp [keepE, St.keep]
      · simp only [Bool.not_eq_true] at e
        rw [e] at hc
        repeat' (first
    | with_reducible apply swp_seq
    | with_reducible apply swp_reg
    | with_reducible apply swp_regD
    | with_reducible apply swp_block
    | with_reducible apply swp_exit
    | with_reducible apply swp_ret
    | with_reducible apply swp_skip
    | with_reducible apply swp_cd
    | simp only [go_sem, Nat.reduceAdd, Nat.reduceSub, Nat.reduceMul, Nat.reduceEqDiff, Nat.reduceLeDiff, Nat.reduceLT, Int.reduceEq, Int.reduceNe, Int.reduceLT, Int.reduceLE, Int.reduceAdd, Int.reduceSub, Int.reduceMul, Int.reduceNeg, Int.reduceToNat, Int.reduceTDiv, Int.reduceTMod, Int.reduceBEq, Int.reduceBNe, decide_true, decide_false, reduceCtorEq, reduceIte, pe35, q35, hn, hd, hg, hz, set_rn]
    | simp (disch := omega) only [w64, w32, wu8, wu16, wu32, wu64]
    | ((with_reducible refine o_eff [0] [] (hc) ?hs ?he ?hh ?_); (case hs => exact ⟨by simp, by simp, by simp, by simp⟩); (case he => first | rfl | (simp [go_sem, Nat.reduceAdd, Nat.reduceSub, Nat.reduceMul, Nat.reduceEqDiff, Nat.reduceLeDiff, Nat.reduceLT, Int.reduceEq, Int.reduceNe, Int.reduceLT, Int.reduceLE, Int.reduceAdd, Int.reduceSub, Int.reduceMul, Int.reduceNeg, Int.reduceToNat, Int.reduceTDiv, Int.reduceTMod, Int.reduceBEq, Int.reduceBNe, decide_true, decide_false, reduceCtorEq, reduceIte]; done)); (case hh => first | rfl | (simp [go_sem, Nat.reduceAdd, Nat.reduceSub, Nat.reduceMul, Nat.reduceEqDiff, Nat.reduceLeDiff, Nat.reduceLT, Int.reduceEq, Int.reduceNe, Int.reduceLT, Int.reduceLE, Int.reduceAdd, Int.reduceSub, Int.reduceMul, Int.reduceNeg, Int.reduceToNat, Int.reduceTDiv, Int.reduceTMod, Int.reduceBEq, Int.reduceBNe, decide_true, decide_false, reduceCtorEq, reduceIte]; done)); rintro _ _ ⟨rfl, rfl⟩)
    | with_reducible apply cd_dec
    | with_reducible apply cd_eq
    | with_reducible apply cd_ne
    | with_reducible apply cd_split
    | ((with_reducible refine And.intro ?hw ?_); (case hw => first | omega | rfl | exact ⟨_, _, rfl⟩ | assumption | (simp only [List.length_cons, List.length_nil, List.length_append, List.length_map, List.length_replicate, List.length_take, List.length_drop] <;> omega)))
    | with_reducible intro _)
        all_goals try omega
        refine ⟨_, weak_refl, ?_, rfl⟩
        rw [← g1]; simp [trimR, e]

theorem hexs_len : hexs.length = 16 := rfl
theorem hexs_ne : (hexs == []) = false := by simp [hexs]

theorem setL_app : ∀ (ys l r : List D), r.length = ys.length → setL (l ++ r) l.length ys = l ++ ys
  | [], l, [], _ => by simp [setL]
  | y :: ys, l, x :: r, h => by
    have e : (l ++ x :: r).set l.length y = (l ++ [y]) ++ r := by simp
    rw [setL, e]
    have := setL_app ys (l ++ [y]) r (by simpa using h)
    simpa using this

theorem setL_full (l ys : List D) (h : l.length = ys.length) : setL l 0 ys = ys := setL_app ys [] l h

set_option maxHeartbeats 2000000 in
theorem trim_p (c : UInt8) (t : List UInt8) (hs : t.length ≤ 4611686018427387) : Pur M 25 [.str (c :: t), .str hexs] (.str (trimL (trimR (c :: t)))) := by
  refine ok25 rfl ?_
  rw [i25]
  unfold c25
  have h1 := mk_p
  have hr := trimR_e (c :: t) (by simp only [List.length_cons]; omega)
  have hl2 : (trimR (c :: t)).length ≤ (c :: t).length := by
    unfold trimR
    rw [List.length_reverse]
    have := (List.dropWhile_sublist (p := hx) (l := (c :: t).reverse)).length_le
    simpa using this
  have hl := trimL_e (trimR (c :: t)) (by simp only [List.length_cons] at hl2; omega)
  have hne : (c :: t == ([] : List UInt8)) = false := rfl
  repeat' (first
    | with_reducible apply swp_seq
    | with_reducible apply swp_reg
    | with_reducible apply swp_regD
    | with_reducible apply swp_block
    | with_reducible apply swp_exit
    | with_reducible apply swp_ret
    | with_reducible apply swp_skip
    | with_reducible apply swp_cd
    | simp only [go_sem, Nat.reduceAdd, Nat.reduceSub, Nat.reduceMul, Nat.reduceEqDiff, Nat.reduceLeDiff, Nat.reduceLT, Int.reduceEq, Int.reduceNe, Int.reduceLT, Int.reduceLE, Int.reduceAdd, Int.reduceSub, Int.reduceMul, Int.reduceNeg, Int.reduceToNat, Int.reduceTDiv, Int.reduceTMod, Int.reduceBEq, Int.reduceBNe, decide_true, decide_false, reduceCtorEq, reduceIte, P25, q25, hexs_len, hexs_ne, hne]
    | simp (disch := omega) only [w64, w32, wu8, wu16, wu32, wu64]
    | ((with_reducible refine o_call (h1) ?he ?hc ?_); (case he => first | rfl | (simp [D.erL, D.er]; done)); (case hc => first | rfl | (simp [D.closedL, D.closed]; done)))
    | ((with_reducible refine p_call (h1) ?he ?hc ?_); (case he => first | rfl | (simp [D.erL, D.er]; done)); (case hc => first | rfl | (simp [D.closedL, D.closed]; done)))
    | ((with_reducible refine c_call (h1) ?he ?hc ?_); (case he => first | rfl | (simp [D.erL, D.er]; done)); (case hc => first | rfl | (simp [D.closedL, D.closed]; done)))
    | with_reducible apply cd_dec
    | with_reducible apply cd_eq
    | with_reducible apply cd_ne
    | with_reducible apply cd_split
    | with_reducible apply gd_dec
    | with_reducible apply gd_eq
    | with_reducible apply gd_ne
    | with_reducible apply gd_split
    | ((with_reducible refine And.intro ?hw ?_); (case hw => first | omega | rfl | exact ⟨_, _, rfl⟩ | assumption | (simp only [List.length_cons, List.length_nil, List.length_append, List.length_map, List.length_replicate, List.length_take, List.length_drop] <;> omega)))
    | with_reducible intro _)
  all_goals try omega
  rw [setL_full]
  case h => rw [set_len]; rfl
  repeat' (first
    | with_reducible apply swp_seq
    | with_reducible apply swp_reg
    | with_reducible apply swp_regD
    | with_reducible apply swp_block
    | with_reducible apply swp_exit
    | with_reducible apply swp_ret
    | with_reducible apply swp_skip
    | with_reducible apply swp_cd
    | simp only [go_sem, Nat.reduceAdd, Nat.reduceSub, Nat.reduceMul, Nat.reduceEqDiff, Nat.reduceLeDiff, Nat.reduceLT, Int.reduceEq, Int.reduceNe, Int.reduceLT, Int.reduceLE, Int.reduceAdd, Int.reduceSub, Int.reduceMul, Int.reduceNeg, Int.reduceToNat, Int.reduceTDiv, Int.reduceTMod, Int.reduceBEq, Int.reduceBNe, decide_true, decide_false, reduceCtorEq, reduceIte, P25, q25, set_rn]
    | simp (disch := omega) only [w64, w32, wu8, wu16, wu32, wu64]
    | ((with_reducible refine c_eff [0] [] (hr) ?hs ?he ?hh ?_); (case hs => exact ⟨by simp, by simp, by simp, by simp⟩); (case he => first | rfl | (simp [go_sem, Nat.reduceAdd, Nat.reduceSub, Nat.reduceMul, Nat.reduceEqDiff, Nat.reduceLeDiff, Nat.reduceLT, Int.reduceEq, Int.reduceNe, Int.reduceLT, Int.reduceLE, Int.reduceAdd, Int.reduceSub, Int.reduceMul, Int.reduceNeg, Int.reduceToNat, Int.reduceTDiv, Int.reduceTMod, Int.reduceBEq, Int.reduceBNe, decide_true, decide_false, reduceCtorEq, reduceIte]; done)); (case hh => first | rfl | (simp [go_sem, Nat.reduceAdd, Nat.reduceSub, Nat.reduceMul, Nat.reduceEqDiff, Nat.reduceLeDiff, Nat.reduceLT, Int.reduceEq, Int.reduceNe, Int.reduceLT, Int.reduceLE, Int.reduceAdd, Int.reduceSub, Int.reduceMul, Int.reduceNeg, Int.reduceToNat, Int.reduceTDiv, Int.reduceTMod, Int.reduceBEq, Int.reduceBNe, decide_true, decide_false, reduceCtorEq, reduceIte]; done)))
    | ((with_reducible refine o_eff [0] [] (hr) ?hs ?he ?hh ?_); (case hs => exact ⟨by simp, by simp, by simp, by simp⟩); (case he => first | rfl | (simp [go_sem, Nat.reduceAdd, Nat.reduceSub, Nat.reduceMul, Nat.reduceEqDiff, Nat.reduceLeDiff, Nat.reduceLT, Int.reduceEq, Int.reduceNe, Int.reduceLT, Int.reduceLE, Int.reduceAdd, Int.reduceSub, Int.reduceMul, Int.reduceNeg, Int.reduceToNat, Int.reduceTDiv, Int.reduceTMod, Int.reduceBEq, Int.reduceBNe, decide_true, decide_false, reduceCtorEq, reduceIte]; done)); (case hh => first | rfl | (simp [go_sem, Nat.reduceAdd, Nat.reduceSub, Nat.reduceMul, Nat.reduceEqDiff, Nat.reduceLeDiff, Nat.reduceLT, Int.reduceEq, Int.reduceNe, Int.reduceLT, Int.reduceLE, Int.reduceAdd, Int.reduceSub, Int.reduceMul, Int.reduceNeg, Int.reduceToNat, Int.reduceTDiv, Int.reduceTMod, Int.reduceBEq, Int.reduceBNe, decide_true, decide_false, reduceCtorEq, reduceIte]; done)); rintro _ _ ⟨rfl, rfl⟩)
    | ((with_reducible refine c_eff [0] [] (hl) ?hs ?he ?hh ?_); (case hs => exact ⟨by simp, by simp, by simp, by simp⟩); (case he => first | rfl | (simp [go_sem, Nat.reduceAdd, Nat.reduceSub, Nat.reduceMul, Nat.reduceEqDiff, Nat.reduceLeDiff, Nat.reduceLT, Int.reduceEq, Int.reduceNe, Int.reduceLT, Int.reduceLE, Int.reduceAdd, Int.reduceSub, Int.reduceMul, Int.reduceNeg, Int.reduceToNat, Int.reduceTDiv, Int.reduceTMod, Int.reduceBEq, Int.reduceBNe, decide_true, decide_false, reduceCtorEq, reduceIte]; done)); (case hh => first | rfl | (simp [go_sem, Nat.reduceAdd, Nat.reduceSub, Nat.reduceMul, Nat.reduceEqDiff, Nat.reduceLeDiff, Nat.reduceLT, Int.reduceEq, Int.reduceNe, Int.reduceLT, Int.reduceLE, Int.reduceAdd, Int.reduceSub, Int.reduceMul, Int.reduceNeg, Int.reduceToNat, Int.reduceTDiv, Int.reduceTMod, Int.reduceBEq, Int.reduceBNe, decide_true, decide_false, reduceCtorEq, reduceIte]; done)))
    | ((with_reducible refine o_eff [0] [] (hl) ?hs ?he ?hh ?_); (case hs => exact ⟨by simp, by simp, by simp, by simp⟩); (case he => first | rfl | (simp [go_sem, Nat.reduceAdd, Nat.reduceSub, Nat.reduceMul, Nat.reduceEqDiff, Nat.reduceLeDiff, Nat.reduceLT, Int.reduceEq, Int.reduceNe, Int.reduceLT, Int.reduceLE, Int.reduceAdd, Int.reduceSub, Int.reduceMul, Int.reduceNeg, Int.reduceToNat, Int.reduceTDiv, Int.reduceTMod, Int.reduceBEq, Int.reduceBNe, decide_true, decide_false, reduceCtorEq, reduceIte]; done)); (case hh => first | rfl | (simp [go_sem, Nat.reduceAdd, Nat.reduceSub, Nat.reduceMul, Nat.reduceEqDiff, Nat.reduceLeDiff, Nat.reduceLT, Int.reduceEq, Int.reduceNe, Int.reduceLT, Int.reduceLE, Int.reduceAdd, Int.reduceSub, Int.reduceMul, Int.reduceNeg, Int.reduceToNat, Int.reduceTDiv, Int.reduceTMod, Int.reduceBEq, Int.reduceBNe, decide_true, decide_false, reduceCtorEq, reduceIte]; done)); rintro _ _ ⟨rfl, rfl⟩)
    | with_reducible apply cd_dec
    | with_reducible apply cd_eq
    | with_reducible apply cd_ne
    | with_reducible apply cd_split
    | with_reducible apply gd_dec
    | with_reducible apply gd_eq
    | with_reducible apply gd_ne
    | with_reducible apply gd_split
    | ((with_reducible refine And.intro ?hw ?_); (case hw => first | omega | rfl | exact ⟨_, _, rfl⟩ | assumption | (simp only [List.length_cons, List.length_nil, List.length_append, List.length_map, List.length_replicate, List.length_take, List.length_drop] <;> omega)))
    | with_reducible intro _)

/-- Digests. -/
def isD (s : List UInt8) : Bool := decide (s.length = 16) && s.all hx

theorem trim_nil (s : List UInt8) : (trimL (trimR s) == []) = s.all hx := by
  have e1 : ∀ u : List UInt8, (u.dropWhile hx == []) = u.all hx := by
    intro u
    induction u with
    | nil => rfl
    | cons c u ih =>
      cases h : hx c
      · simp [h]
      · simp only [List.dropWhile_cons, h, if_true, List.all_cons, Bool.true_and, ih]
  unfold trimL
  rw [e1]
  have e2 : s.reverse = s.reverse.takeWhile hx ++ s.reverse.dropWhile hx := (List.takeWhile_append_dropWhile).symm
  have e3 : s = trimR s ++ (s.reverse.takeWhile hx).reverse := by
    have := congrArg List.reverse e2
    rw [List.reverse_reverse, List.reverse_append] at this
    exact this
  have e4 : ((s.reverse.takeWhile hx).reverse).all hx = true := by
    rw [List.all_reverse]
    have : ∀ u : List UInt8, (u.takeWhile hx).all hx = true := by
      intro u
      induction u with
      | nil => rfl
      | cons c u ih =>
        cases h : hx c <;> simp [List.takeWhile_cons, h]
    exact this _
  conv => rhs; rw [e3, List.all_append, e4, Bool.and_true]

theorem is_p (s : List UInt8) (hs : s.length ≤ 4611686018427387) : Pur M 14 [.str s] (.bool (isD s)) := by
  refine ok14 rfl ?_
  rw [i14]
  unfold c14
  unfold isD
  by_cases h : s.length = 16
  · rcases s with _ | ⟨c, t⟩
    · simp at h
    have ht := trim_p c t (by simp only [List.length_cons] at h; omega)
    have h1 := trim_nil (c :: t)
    have h2 : (((c :: t).length : Nat) : Int) = 16 := by omega
    have h3 : decide ((c :: t).length = 16) = true := by simpa using h
    rw [h3, Bool.true_and]
    have h4 : hexs = [48, 49, 50, 51, 52, 53, 54, 55, 56, 57, 97, 98, 99, 100, 101, 102] := rfl
    rw [h4] at ht
    generalize c :: t = u at *
    repeat' (first
    | with_reducible apply swp_seq
    | with_reducible apply swp_reg
    | with_reducible apply swp_regD
    | with_reducible apply swp_block
    | with_reducible apply swp_exit
    | with_reducible apply swp_ret
    | with_reducible apply swp_skip
    | with_reducible apply swp_cd
    | simp only [go_sem, Nat.reduceAdd, Nat.reduceSub, Nat.reduceMul, Nat.reduceEqDiff, Nat.reduceLeDiff, Nat.reduceLT, Int.reduceEq, Int.reduceNe, Int.reduceLT, Int.reduceLE, Int.reduceAdd, Int.reduceSub, Int.reduceMul, Int.reduceNeg, Int.reduceToNat, Int.reduceTDiv, Int.reduceTMod, Int.reduceBEq, Int.reduceBNe, decide_true, decide_false, reduceCtorEq, reduceIte, P14, q14, h2, h1]
    | simp (disch := omega) only [w64, w32, wu8, wu16, wu32, wu64]
    | ((with_reducible refine o_call (ht) ?he ?hc ?_); (case he => first | rfl | (simp [D.erL, D.er]; done)); (case hc => first | rfl | (simp [D.closedL, D.closed]; done)))
    | with_reducible apply cd_dec
    | with_reducible apply cd_eq
    | with_reducible apply cd_ne
    | with_reducible apply cd_split
    | with_reducible apply gd_dec
    | with_reducible apply gd_eq
    | with_reducible apply gd_ne
    | with_reducible apply gd_split
    | ((with_reducible refine And.intro ?hw ?_); (case hw => first | omega | rfl | exact ⟨_, _, rfl⟩ | assumption | (simp only [List.length_cons, List.length_nil, List.length_append, List.length_map, List.length_replicate, List.length_take, List.length_drop] <;> omega)))
    | with_reducible intro _)
    all_goals first
      | omega
      | (simp [D.closed, D.er]; done)
  · have h2 : ((s.length : Nat) : Int) ≠ 16 := by omega
    have h3 : decide (s.length = 16) = false := by simpa using h
    have h4 : decide ((s.length : Int) = 16) = false := by simpa using h2
    rw [h3, Bool.false_and]
    repeat' (first
    | with_reducible apply swp_seq
    | with_reducible apply swp_reg
    | with_reducible apply swp_regD
    | with_reducible apply swp_block
    | with_reducible apply swp_exit
    | with_reducible apply swp_ret
    | with_reducible apply swp_skip
    | with_reducible apply swp_cd
    | simp only [go_sem, Nat.reduceAdd, Nat.reduceSub, Nat.reduceMul, Nat.reduceEqDiff, Nat.reduceLeDiff, Nat.reduceLT, Int.reduceEq, Int.reduceNe, Int.reduceLT, Int.reduceLE, Int.reduceAdd, Int.reduceSub, Int.reduceMul, Int.reduceNeg, Int.reduceToNat, Int.reduceTDiv, Int.reduceTMod, Int.reduceBEq, Int.reduceBNe, decide_true, decide_false, reduceCtorEq, reduceIte, P14, q14, h4]
    | simp (disch := omega) only [w64, w32, wu8, wu16, wu32, wu64]
    | with_reducible apply cd_dec
    | with_reducible apply cd_eq
    | with_reducible apply cd_ne
    | with_reducible apply cd_split
    | with_reducible apply gd_dec
    | with_reducible apply gd_eq
    | with_reducible apply gd_ne
    | with_reducible apply gd_split
    | ((with_reducible refine And.intro ?hw ?_); (case hw => first | omega | rfl | exact ⟨_, _, rfl⟩ | assumption | (simp only [List.length_cons, List.length_nil, List.length_append, List.length_map, List.length_replicate, List.length_take, List.length_drop] <;> omega)))
    | with_reducible intro _)
    all_goals first
      | omega
      | (simp [D.closed, D.er]; done)
end Go.Proofs.YtiodnobmnfjdlaaDoor
