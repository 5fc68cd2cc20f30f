/- Own texts, merged by a program: the engine that walks the code, and what the functions that the law reaches compute. -/
import Derived.Test.YtcchbohfcmfmlaaGreatQa5
section
set_option maxRecDepth 100000
set_option linter.unusedSimpArgs false
set_option linter.unusedVariables false
namespace Go.Proofs.YtcchbohfcmfmlaaGreat
open Go GoV Go.RowKit
def exP1 : Pt := ⟨[99], [99, 111, 97, 99, 104], [], [], 0, 0, false, [], (90, 110), (0, 0), (0, 0)⟩
def exP2 : Pt := ⟨[119], [119, 104, 101, 101, 108, 115, 101, 116], [99], [102, 114, 111, 110, 116], 0, 0, false, [([98, 97, 116, 99, 104], [65])], (0, 0), (0, 0), (0, 0)⟩
def exS : List Pt := [exP1, exP2]
theorem exS_ok : Sok exS := ⟨by decide, by intro p hp; simp [exS] at hp; rcases hp with rfl | rfl <;> decide⟩
theorem example_p : Pur M 9 [] (zA4 exS) := by
  refine pur_res (d := .agg [.slice [.agg [.str [99], .str [99, 111, 97, 99, 104], .str [], .str [], .int .i64 0, .int .i64 0, .bool false, .lit (.slice none 0 0), .int .i64 90, .int .i64 110, .int .i64 0, .int .i64 0, .int .i64 0, .int .i64 0],
    .agg [.str [119], .str [119, 104, 101, 101, 108, 115, 101, 116], .str [99], .str [102, 114, 111, 110, 116], .int .i64 0, .int .i64 0, .bool false, .slice [.agg [.str [98, 97, 116, 99, 104], .str [65]]] .no, .int .i64 0, .int .i64 0, .int .i64 0, .int .i64 0, .int .i64 0, .int .i64 0]] .no]) (k9.ok (C := C9) rfl rfl ?_) (by simp [D.nn, D.nnL, ptD, exP1, exP2, exS, propD])
  rw [i9]
  unfold c9
  repeat' (first | with_reducible (apply swq; constructor) | simp only [go_sem, seval, P9, q9, fillL] | ((with_reducible apply s_bsl); (case he | hl | hc => first | rfl | assumption | omega | ((first | refine ⟨?_, ?_⟩ | skip) <;> first | omega | (simp only [lN] <;> omega)) | (simp [zAa, D.iV, D.cells, D.cL, D.closed]; first | done | omega))) | with_reducible (apply cA; constructor) | ((with_reducible refine And.intro ?hw ?_); (case hw => first | omega | rfl | exact ⟨_, _, rfl⟩ | assumption | (simp only [lN] <;> omega))) | with_reducible intro _)
abbrev exH : Hp := ⟨[.cells [zAy exS]], []⟩
def hex (x : X) : Int := zE6 exS x [99] 5
theorem hex_e (x : X) (hx : x.sm) : Eff M 10 [x.d, .ptr 0 0] exH fun d hp => d = .int .i64 (hex x) ∧ hp = exH := by
  unfold exH
  refine k10.oe 1 0 rfl rfl rfl ?_
  rw [ie10]
  unfold c10
  have c1 : Pur M 8 [zA4 exS, x.d, .str [99], .int .i64 5] (.int .i64 (hex x)) := holds_p exS exS_ok x hx [99] 5
  have hcl := zAx exS
  have her := erL_P exS
  have hck := zBg x.kids
  have hek := erL_X x.kids
  rw [X.d_eq] at c1 ⊢
  generalize hex x = z at *
  generalize exS = s at *
  repeat' (first | with_reducible (apply swq; constructor) | simp only [go_sem, seval, pe10, q10, fillL] | ((with_reducible refine zAb (c1) ?he ?hc ?_); (case he | hc => first | rfl | (simp [D.erL, D.er, D.cL, D.closed, hcl, her, hck, hek]; done))) | with_reducible (apply cA; constructor) | ((with_reducible refine And.intro ?hw ?_); (case hw => first | omega | rfl | exact ⟨_, _, rfl⟩ | assumption | (simp only [lN, hcl, her, hck, hek] <;> omega))) | with_reducible intro _)
  all_goals try omega
  all_goals exact ⟨_, zDh [0] [] ⟨by simp, by simp, by simp, by simp⟩ rfl rfl, by simp [St.sel, Hp.sel, D.rnL, D.rn, posF, idx, Blk.rn, Blk.rnL, Tv.rnL, Own.rn]⟩
def xB : X := .mk 7 [98, 97, 116, 99, 104] [65] 0 0 []
def x3 : X := .mk 6 [107, 109] [] 89 0 []
def x4 : X := .mk 11 [119, 104, 101, 101, 108, 115, 101, 116] [] 0 0 [xB]
def x5 : X := .mk 10 [97, 120, 108, 101] [] 0 0 [.mk 8 [98, 97, 116, 99, 104] [] 0 0 []]
def x6 : X := .mk 12 [119, 104, 101, 101, 108, 115, 101, 116] [] 2 0 []
theorem h1v : hex (lim kKm 100 0) = 1 := by decide +kernel
theorem h2v : hex (lim kKm 100 10) = 2 := by decide +kernel
theorem h3v : hex x3 = 2 := by decide +kernel
theorem h4v : hex x4 = 2 := by decide +kernel
theorem h5v : hex x5 = 2 := by decide +kernel
theorem h6v : hex x6 = 0 := by decide +kernel
theorem hBv : hex xB = 0 := by decide +kernel
theorem sm_lim (n extra : Int) : (lim kKm n extra).sm := ⟨by simp [zCn, zFa, kKm], by simp [X.nodes, X.nodesL]⟩
abbrev noK : D := .lit (.slice none 0 0)
theorem e3 : Eff M 10 [.agg [.int .i64 6, .str [107, 109], .str [], .int .i64 89, .int .i64 0, noK], .ptr 0 0] exH fun d hp => d = .int .i64 2 ∧ hp = exH := by
  have h := hex_e x3 (by constructor <;> decide)
  rw [h3v] at h
  exact zF4 h (by simp [D.nnL, D.nn, x3, X.d, X.dL])
theorem e4 : Eff M 10 [.agg [.int .i64 11, .str [119, 104, 101, 101, 108, 115, 101, 116], .str [], .int .i64 0, .int .i64 0, .slice [.agg [.int .i64 7, .str [98, 97, 116, 99, 104], .str [65], .int .i64 0, .int .i64 0, noK]] .no], .ptr 0 0] exH fun d hp => d = .int .i64 2 ∧ hp = exH := by
  have h := hex_e x4 (by constructor <;> decide)
  rw [h4v] at h
  exact zF4 h (by simp [D.nnL, D.nn, x4, xB, X.d, X.dL])
theorem e5 : Eff M 10 [.agg [.int .i64 10, .str [97, 120, 108, 101], .str [], .int .i64 0, .int .i64 0, .slice [.agg [.int .i64 8, .str [98, 97, 116, 99, 104], .str [], .int .i64 0, .int .i64 0, noK]] .no], .ptr 0 0] exH fun d hp => d = .int .i64 2 ∧ hp = exH := by
  have h := hex_e x5 (by constructor <;> decide)
  rw [h5v] at h
  exact zF4 h (by simp [D.nnL, D.nn, x5, X.d, X.dL])
theorem e6 : Eff M 10 [.agg [.int .i64 12, .str [119, 104, 101, 101, 108, 115, 101, 116], .str [], .int .i64 2, .int .i64 0, noK], .ptr 0 0] exH fun d hp => d = .int .i64 0 ∧ hp = exH := by
  have h := hex_e x6 (by constructor <;> decide)
  rw [h6v] at h
  exact zF4 h (by simp [D.nnL, D.nn, x6, X.d, X.dL])
theorem eB : Eff M 10 [.agg [.int .i64 7, .str [98, 97, 116, 99, 104], .str [65], .int .i64 0, .int .i64 0, noK], .ptr 0 0] exH fun d hp => d = .int .i64 0 ∧ hp = exH := by
  have h := hex_e xB (by constructor <;> decide)
  rw [hBv] at h
  exact zF4 h (by simp [D.nnL, D.nn, xB, X.d, X.dL])
theorem eff_er1 {M : Mod} {f : FuncId} {d : D} {rest : List D} {hp : Hp} {R : D → Hp → Prop} (hc : d.closed = true) (h : Eff M f (d.er :: rest) hp R) : Eff M f (d :: rest) hp R :=
  ⟨h.1, fun w g xs hA hh hr => h.2 w g xs hA hh (by
    obtain ⟨y, ys, rfl, h1, h2⟩ := hr.inv
    exact RelL.cons (Rel.any (Rel.closed d hc h1)) h2)⟩
theorem e4f : Eff M 10 [.agg [.int .i64 11, .str [119, 104, 101, 101, 108, 115, 101, 116], .str [], .int .i64 0, .int .i64 0, .slice [.agg [.int .i64 7, .str [98, 97, 116, 99, 104], .str [65], .int .i64 0, .int .i64 0, noK]] .full], .ptr 0 0] exH fun d hp => d = .int .i64 2 ∧ hp = exH :=
  eff_er1 rfl e4
theorem e5f : Eff M 10 [.agg [.int .i64 10, .str [97, 120, 108, 101], .str [], .int .i64 0, .int .i64 0, .slice [.agg [.int .i64 8, .str [98, 97, 116, 99, 104], .str [], .int .i64 0, .int .i64 0, noK]] .full], .ptr 0 0] exH fun d hp => d = .int .i64 2 ∧ hp = exH :=
  eff_er1 rfl e5
abbrev limD (n extra : Int) : D := .agg [.int .i64 5, .str [107, 109], .str [], .int .i64 n, .int .i64 extra, .slice [] .no]
theorem lim_d (n extra : Int) : X.d (lim kKm n extra) = limD n extra := by simp [X.d, X.dL, kKm]
theorem e1 : Eff M 10 [limD 100 0, .ptr 0 0] exH fun d hp => d = .int .i64 1 ∧ hp = exH := by
  have h := hex_e _ (sm_lim 100 0)
  rw [h1v, lim_d] at h
  exact h
theorem e2 : Eff M 10 [limD 100 10, .ptr 0 0] exH fun d hp => d = .int .i64 2 ∧ hp = exH := by
  have h := hex_e _ (sm_lim 100 10)
  rw [h2v, lim_d] at h
  exact h
theorem head_p : Pur M 4 [] (.bool true) := by
  refine k4.ok (C := C4) rfl rfl ?_
  rw [i4]
  unfold c4
  have c1 := example_p
  have cl1 := limit_p 100 0
  have cl2 := limit_p 100 10
  rw [lim_d] at cl1 cl2
  have c2 := e1
  have c3 := e2
  have c4 := e3
  have c5 := e4f
  have c6 := e5f
  have c7 := e6
  have c8 := eB
  have hcl := zAx exS
  have her := erL_P exS
  unfold exH at c2 c3 c4 c5 c6 c7 c8
  generalize exS = s at *
  repeat' (first | with_reducible (apply swq; constructor) | simp only [go_sem, seval, P4, q4, fillL] | ((with_reducible refine zAb (c1) ?he ?hc ?_); (case he | hc => first | rfl | (simp [D.erL, D.er, D.cL, D.closed, hcl, her]; done))) | ((with_reducible refine zAb (cl1) ?he ?hc ?_); (case he | hc => first | rfl | (simp [D.erL, D.er, D.cL, D.closed, hcl, her]; done))) | ((with_reducible refine zAb (cl2) ?he ?hc ?_); (case he | hc => first | rfl | (simp [D.erL, D.er, D.cL, D.closed, hcl, her]; done))) | ((with_reducible refine o_eff [0] [] (c2) ?hs ?he ?hh ?_); (case hs => exact ⟨by simp, by simp, by simp, by simp⟩); (case he => first | rfl | (simp [go_sem, seval, hcl, her]; done)); (case hh => first | rfl | (simp [go_sem, seval, hcl, her]; done)); rintro _ _ ⟨rfl, rfl⟩) | ((with_reducible refine o_eff [0] [] (c3) ?hs ?he ?hh ?_); (case hs => exact ⟨by simp, by simp, by simp, by simp⟩); (case he => first | rfl | (simp [go_sem, seval, hcl, her]; done)); (case hh => first | rfl | (simp [go_sem, seval, hcl, her]; done)); rintro _ _ ⟨rfl, rfl⟩) | ((with_reducible refine o_eff [0] [] (c4) ?hs ?he ?hh ?_); (case hs => exact ⟨by simp, by simp, by simp, by simp⟩); (case he => first | rfl | (simp [go_sem, seval, hcl, her]; done)); (case hh => first | rfl | (simp [go_sem, seval, hcl, her]; done)); rintro _ _ ⟨rfl, rfl⟩) | ((with_reducible refine o_eff [0] [] (c5) ?hs ?he ?hh ?_); (case hs => exact ⟨by simp, by simp, by simp, by simp⟩); (case he => first | rfl | (simp [go_sem, seval, hcl, her]; done)); (case hh => first | rfl | (simp [go_sem, seval, hcl, her]; done)); rintro _ _ ⟨rfl, rfl⟩) | ((with_reducible refine o_eff [0] [] (c6) ?hs ?he ?hh ?_); (case hs => exact ⟨by simp, by simp, by simp, by simp⟩); (case he => first | rfl | (simp [go_sem, seval, hcl, her]; done)); (case hh => first | rfl | (simp [go_sem, seval, hcl, her]; done)); rintro _ _ ⟨rfl, rfl⟩) | ((with_reducible refine o_eff [0] [] (c7) ?hs ?he ?hh ?_); (case hs => exact ⟨by simp, by simp, by simp, by simp⟩); (case he => first | rfl | (simp [go_sem, seval, hcl, her]; done)); (case hh => first | rfl | (simp [go_sem, seval, hcl, her]; done)); rintro _ _ ⟨rfl, rfl⟩) | ((with_reducible refine o_eff [0] [] (c8) ?hs ?he ?hh ?_); (case hs => exact ⟨by simp, by simp, by simp, by simp⟩); (case he => first | rfl | (simp [go_sem, seval, hcl, her]; done)); (case hh => first | rfl | (simp [go_sem, seval, hcl, her]; done)); rintro _ _ ⟨rfl, rfl⟩) | ((with_reducible apply s_bsl); (case he | hl | hc => first | rfl | assumption | omega | ((first | refine ⟨?_, ?_⟩ | skip) <;> first | omega | (simp only [lN, hcl, her] <;> omega)) | (simp [zAa, D.iV, D.cells, D.cL, D.closed, hcl, her]; first | done | omega))) | (with_reducible first | (apply cA; constructor) | (apply gA; constructor)) | ((with_reducible refine And.intro ?hw ?_); (case hw => first | omega | rfl | exact ⟨_, _, rfl⟩ | assumption | (simp only [lN, hcl, her] <;> omega))) | with_reducible intro _)
end Go.Proofs.YtcchbohfcmfmlaaGreat
end
section
set_option linter.unusedSimpArgs false
set_option linter.unusedVariables false
namespace Go.Proofs.YtcchbohfcmfmlaaGreat
open Go GoV
def only (q : Tx → Bool) (s : List Pt) : List Pt := s.filter fun p => q p.name
theorem getP_only (q : Tx → Bool) (s : List Pt) {n : Tx} (h : q n = true) : getP (only q s) n = getP s n := by
  unfold getP only
  rw [List.find?_filter]
  congr 1
  funext p
  by_cases e : p.name = n
  · subst e; simp [h]
  · have : (p.name == n) = false := by rw [beq_eq_false_iff_ne]; exact e
    simp [this]
theorem zDe (q : Tx → Bool) : ∀ (s : List Pt) (a b : List Tx), (∀ n, q n = true → (a.contains n = b.contains n)) → zB1 a (only q s) = (zB1 b s).filter fun p => q p.name
  | [], a, b, h => rfl
  | p :: ps, a, b, h => by
    unfold only
    by_cases hq : q p.name = true
    · rw [List.filter_cons, if_pos hq]
      have := h _ hq
      simp only [zB1, this]
      split
      · exact zDe q ps a b h
      · rw [List.filter_cons, if_pos hq]
        congr 1
        exact zDe q ps _ _ fun n hn => by have := h n hn; simp only [List.contains_append, this]
    · rw [List.filter_cons, if_neg hq]
      simp only [zB1]
      split
      · exact zDe q ps a b h
      · rw [List.filter_cons, if_neg hq]
        exact zDe q ps a _ fun n hn => by
          have e : n ≠ p.name := fun e => by subst e; exact hq hn
          have e2 : [p.name].contains n = false := by simp [e]
          have := h n hn
          simp only [List.contains_append, this, e2, Bool.or_false]
theorem fitted_only (q : Tx → Bool) (s : List Pt) (m : Tx) : zBj (only q s) m = (zBj s m).filter fun x => q x.1 := by
  unfold zBj
  rw [zDe q s [] [] (fun _ _ => rfl), List.filter_filter, List.filter_map, List.filter_filter]
  congr 1
  refine List.filter_congr fun p _ => ?_
  simp [Bool.and_comm]
theorem bfs_only (q : Tx → Bool) : ∀ (k : Nat) (r : List (Tx × Tx)) (l : List Tx), (∀ x ∈ bfs k r l, q x = true) → bfs k (r.filter fun x => q x.1) l = bfs k r l
  | 0, r, l, _ => rfl
  | k + 1, r, l, h => by
    simp only [bfs] at h ⊢
    have hit : ((r.filter fun x => q x.1).filter fun x => l.contains x.2) = (r.filter fun x => l.contains x.2) := by
      rw [List.filter_filter]
      refine List.filter_congr fun x hx => ?_
      by_cases hl : l.contains x.2 = true
      · have hm : x.1 ∈ ((r.filter fun x => l.contains x.2).map (·.1)) := List.mem_map.2 ⟨x, List.mem_filter.2 ⟨hx, hl⟩, rfl⟩
        have : q x.1 = true := by
          split at h
          · rename_i he
            exfalso
            subst he
            simp at hl
          · exact h _ (List.mem_append_left _ hm)
        rw [hl, this]; rfl
      · rw [Bool.not_eq_true] at hl
        rw [hl, Bool.false_and]
    rw [hit]
    split
    · rfl
    · rename_i he
      rw [if_neg he] at h
      have rest : ((r.filter fun x => q x.1).filter fun x => !(l.contains x.2)) = ((r.filter fun x => !(l.contains x.2)).filter fun x => q x.1) := by
        rw [List.filter_filter, List.filter_filter]
        exact List.filter_congr fun x _ => Bool.and_comm _ _
      rw [rest, bfs_only q k _ _ fun x hx => h x (List.mem_append_right _ hx)]
inductive In (P : List (Tx × Tx)) (a : Tx) : Tx → Prop
  | base {x} : (x, a) ∈ P → In P a x
  | step {x y} : (x, y) ∈ P → In P a y → In P a x
theorem In.mono {P P' : List (Tx × Tx)} (h : ∀ x ∈ P, x ∈ P') {a x : Tx} (q : In P a x) : In P' a x := by
  induction q with
  | base e => exact .base (h _ e)
  | step e _ ih => exact .step (h _ e) ih
theorem In.trans {P : List (Tx × Tx)} {a b x : Tx} (h : In P a b) (q : In P b x) : In P a x := by
  induction q with
  | base e => exact .step e h
  | step e _ ih => exact .step e ih
theorem bfs_sound : ∀ (k : Nat) (r : List (Tx × Tx)) (l : List Tx) {x : Tx}, x ∈ bfs k r l → ∃ a ∈ l, In r a x
  | 0, r, l, x, h => by cases h
  | k + 1, r, l, x, h => by
    simp only [bfs] at h
    split at h
    · cases h
    · rcases List.mem_append.1 h with q | q
      · obtain ⟨p, hp, rfl⟩ := List.mem_map.1 q
        obtain ⟨h1, h2⟩ := List.mem_filter.1 hp
        rw [List.contains_iff_mem] at h2
        exact ⟨p.2, h2, .base h1⟩
      · obtain ⟨a, ha, hi⟩ := bfs_sound k _ _ q
        obtain ⟨p, hp, rfl⟩ := List.mem_map.1 ha
        obtain ⟨h1, h2⟩ := List.mem_filter.1 hp
        rw [List.contains_iff_mem] at h2
        exact ⟨p.2, h2, In.trans (.base h1) (hi.mono fun y hy => (List.mem_filter.1 hy).1)⟩
theorem in_split {r : List (Tx × Tx)} {l : List Tx} {a x : Tx} (ha : a ∈ l) (h : In r a x) :
    x ∈ (r.filter fun y => l.contains y.2).map (·.1) ∨ ∃ b ∈ (r.filter fun y => l.contains y.2).map (·.1), In (r.filter fun y => !l.contains y.2) b x := by
  induction h with
  | @base x e => exact .inl (List.mem_map.2 ⟨(x, a), List.mem_filter.2 ⟨e, by rw [List.contains_iff_mem]; exact ha⟩, rfl⟩)
  | @step x y e _ ih =>
    by_cases hy : l.contains y = true
    · exact .inl (List.mem_map.2 ⟨(x, y), List.mem_filter.2 ⟨e, hy⟩, rfl⟩)
    · have he : (x, y) ∈ r.filter fun z => !l.contains z.2 := List.mem_filter.2 ⟨e, by simpa using hy⟩
      rcases ih with q | ⟨b, hb, q⟩
      · exact .inr ⟨y, q, .base he⟩
      · exact .inr ⟨b, hb, .step he q⟩
theorem bfs_full : ∀ (k : Nat) (r : List (Tx × Tx)) (l : List Tx), r.length + 1 ≤ k → ∀ {a x : Tx}, a ∈ l → In r a x → x ∈ bfs k r l
  | 0, r, l, h, _, _, _, _ => by omega
  | k + 1, r, l, h, a, x, ha, hi => by
    simp only [bfs]
    rw [if_neg (fun e => by subst e; cases ha)]
    rcases in_split ha hi with q | ⟨b, hb, q⟩
    · exact List.mem_append_left _ q
    · refine List.mem_append_right _ (bfs_full k _ _ ?_ hb q)
      have := zE1 (fun y : Tx × Tx => l.contains y.2) r
      obtain ⟨p, hp, _⟩ := List.mem_map.1 hb
      have : 0 < (r.filter fun y => l.contains y.2).length := List.length_pos_of_mem hp
      omega
theorem inside_iff {s : List Pt} {a x : Tx} : x ∈ zAk s a ↔ getP s a ≠ none ∧ In (zBj s a) a x := by
  unfold zAk
  cases h : getP s a with
  | none => simp
  | some p =>
    simp only [ne_eq, reduceCtorEq, not_false_eq_true, true_and]
    rw [(zCd _).mem_iff]
    constructor
    · intro q
      obtain ⟨b, hb, hi⟩ := bfs_sound _ _ _ q
      rw [List.mem_singleton.1 hb] at hi
      exact hi
    · intro q
      exact bfs_full _ _ _ (by omega) (List.mem_singleton.2 rfl) q
theorem fitted_mem {s : List Pt} {a x y : Tx} : (x, y) ∈ zBj s a ↔ (∃ p ∈ zB1 [] s, p.name = x ∧ p.into = y) ∧ y ≠ [] ∧ x ≠ a := by
  unfold zBj
  rw [List.mem_map]
  constructor
  · rintro ⟨p, hp, e⟩
    obtain ⟨h1, h2⟩ := List.mem_filter.1 hp
    simp only [Prod.mk.injEq] at e
    obtain ⟨rfl, rfl⟩ := e
    simp only [Bool.and_eq_true, Bool.not_eq_true', beq_eq_false_iff_ne] at h2
    exact ⟨⟨p, h1, rfl, rfl⟩, h2.1, h2.2⟩
  · rintro ⟨⟨p, h1, rfl, rfl⟩, h2, h3⟩
    refine ⟨p, List.mem_filter.2 ⟨h1, ?_⟩, rfl⟩
    simp only [Bool.and_eq_true, Bool.not_eq_true', beq_eq_false_iff_ne]
    exact ⟨h2, h3⟩
theorem in_in {s : List Pt} {a m x : Tx} (hm : In (zBj s a) a m) (hx : In (zBj s m) m x) : x = a ∨ In (zBj s a) a x := by
  induction hx with
  | @base x e =>
    by_cases q : x = a
    · exact .inl q
    · obtain ⟨h1, h2, _⟩ := fitted_mem.1 e
      exact .inr (.step (fitted_mem.2 ⟨h1, h2, q⟩) hm)
  | @step x y e _ ih =>
    by_cases q : x = a
    · exact .inl q
    · obtain ⟨h1, h2, _⟩ := fitted_mem.1 e
      have he : (x, y) ∈ zBj s a := fitted_mem.2 ⟨h1, h2, q⟩
      rcases ih with rfl | ih
      · exact .inr (.base he)
      · exact .inr (.step he ih)
inductive Upc (s : List Pt) : Tx → Tx → Prop
  | refl (n) : Upc s n n
  | step {n a : Tx} {p : Pt} : getP s n = some p → p.into ≠ [] → Upc s p.into a → Upc s n a
theorem Upc.snoc {s : List Pt} {n a : Tx} {p : Pt} (h : Upc s n a) (g : getP s a = some p) (e : p.into ≠ []) : Upc s n p.into := by
  induction h with
  | refl n => exact .step g e (.refl _)
  | step h1 h2 _ ih => exact .step h1 h2 (ih g)
theorem zFf {n : Tx} {p : Pt} : ∀ (s : List Pt) (seen : List Tx), seen.contains n = false → getP s n = some p → p ∈ zB1 seen s
  | [], seen, _, h => by simp [getP] at h
  | x :: s, seen, hn, h => by
    unfold getP at h
    rw [List.find?_cons] at h
    simp only [zB1]
    by_cases e : x.name = n
    · subst e
      simp only [beq_self_eq_true, Option.some.injEq] at h
      subst h
      rw [hn]
      exact List.mem_cons_self
    · have e2 : (x.name == n) = false := by rw [beq_eq_false_iff_ne]; exact e
      rw [e2] at h
      split
      · exact zFf s seen hn h
      · refine List.mem_cons_of_mem _ (zFf s _ ?_ h)
        rw [List.contains_append, hn]
        simp [Ne.symm e]
theorem getP_name {s : List Pt} {n : Tx} {p : Pt} (h : getP s n = some p) : p.name = n := by
  have := List.find?_some h
  simpa using this
theorem up_in {s : List Pt} {n a : Tx} (h : Upc s n a) : n = a ∨ In (zBj s a) a n := by
  induction h with
  | refl n => exact .inl rfl
  | @step n a p h1 h2 _ ih =>
    by_cases q : n = a
    · exact .inl q
    · have he : (n, p.into) ∈ zBj s a := fitted_mem.2 ⟨⟨p, zFf s [] rfl h1, getP_name h1, rfl⟩, h2, q⟩
      rcases ih with e | ih
      · exact .inr (.base (e ▸ he))
      · exact .inr (.step he ih)
theorem getP_out (q : Tx → Bool) (s : List Pt) {n : Tx} (h : getP s n = none) : getP (only q s) n = none := by
  unfold getP only at *
  rw [List.find?_eq_none] at *
  exact fun p hp => h p (List.mem_filter.1 hp).1
theorem root_only (q : Tx → Bool) (s : List Pt) : ∀ (k : Nat) (n : Tx), (∀ a, Upc s n a → getP s a ≠ none → q a = true) → rootN (only q s) k n = rootN s k n
  | 0, n, _ => rfl
  | k + 1, n, h => by
    simp only [rootN]
    cases g : getP s n with
    | none => rw [getP_out q s g]
    | some p =>
      rw [getP_only q s (h n (.refl n) (by rw [g]; simp)), g]
      simp only
      split
      · rfl
      · rename_i e
        exact root_only q s k p.into fun a ha => h a (.step g e ha)
theorem root_mono {s : List Pt} {r : Tx} (hr : r ≠ []) : ∀ (k d : Nat) (n : Tx), rootN s k n = r → rootN s (k + d) n = r
  | 0, d, n, h => absurd h.symm hr
  | k + 1, d, n, h => by
    rw [show k + 1 + d = (k + d) + 1 by omega]
    simp only [rootN] at h ⊢
    cases g : getP s n with
    | none => rw [g] at h; exact absurd h.symm hr
    | some p =>
      rw [g] at h
      simp only at h ⊢
      split
      · rename_i e; rw [if_pos e] at h; exact h
      · rename_i e; rw [if_neg e] at h; exact root_mono hr k d _ h
theorem cyc_root {s : List Pt} : ∀ (k : Nat) (n : Tx) (p : Pt), getP s n = some p → p.into ≠ [] → Upc s p.into n → rootN s k n = []
  | 0, n, p, _, _, _ => rfl
  | k + 1, n, p, h1, h2, h3 => by
    simp only [rootN, h1]
    rw [if_neg h2]
    cases h3 with
    | refl => exact cyc_root k _ p h1 h2 (.refl _)
    | step g1 g2 g3 => exact cyc_root k _ _ g1 g2 (g3.snoc h1 h2)
theorem root_fuel {s : List Pt} {r : Tx} (hr : r ≠ []) : ∀ (k : Nat) (n : Tx) (s' : List Pt), rootN s k n = r → (∀ a, Upc s n a → getP s a ≠ none → ∃ p ∈ s', p.name = a) → rootN s s'.length n = r
  | 0, n, s', h, _ => absurd h.symm hr
  | k + 1, n, s', h, hv => by
    have h0 := h
    simp only [rootN] at h
    cases g : getP s n with
    | none => rw [g] at h; exact absurd h.symm hr
    | some p =>
      rw [g] at h
      simp only at h
      obtain ⟨p0, hp0, e0⟩ := hv n (.refl n) (by rw [g]; simp)
      by_cases e : p.into = []
      · rw [if_pos e] at h
        obtain ⟨m, hm⟩ : ∃ m, s'.length = m + 1 := ⟨s'.length - 1, by have := List.length_pos_of_mem hp0; omega⟩
        rw [hm]
        simp only [rootN, g, if_pos e]
        exact h
      · rw [if_neg e] at h
        have ih := root_fuel hr k p.into (s'.filter fun x => !(x.name == n)) h fun a ha hg => by
          obtain ⟨x, hx, ex⟩ := hv a (.step g e ha) hg
          refine ⟨x, List.mem_filter.2 ⟨hx, ?_⟩, ex⟩
          simp only [Bool.not_eq_true', beq_eq_false_iff_ne]
          intro q
          rw [ex] at q
          subst q
          rw [cyc_root (k + 1) _ p g e ha] at h0
          exact hr h0.symm
        have hl := zE1 (fun x : Pt => x.name == n) s'
        have hp : 0 < (s'.filter fun x => x.name == n).length := List.length_pos_of_mem (List.mem_filter.2 ⟨hp0, by simp [e0]⟩)
        have h1 : rootN s ((s'.filter fun x => !(x.name == n)).length + 1) n = r := by
          simp only [rootN, g, if_neg e]; exact ih
        have := root_mono hr _ (s'.length - ((s'.filter fun x => !(x.name == n)).length + 1)) n h1
        rw [show (s'.filter fun x => !(x.name == n)).length + 1 + (s'.length - ((s'.filter fun x => !(x.name == n)).length + 1)) = s'.length by omega] at this
        exact this
theorem root_same (q : Tx → Bool) (s : List Pt) (n : Tx) (h : ∀ a, Upc s n a → getP s a ≠ none → q a = true) : root (only q s) n = root s n := by
  unfold root
  rw [root_only q s _ n h]
  have hlen : (only q s).length ≤ s.length := List.length_filter_le _ _
  by_cases hr : rootN s s.length n = []
  · by_cases h2 : rootN s (only q s).length n = []
    · rw [hr, h2]
    · have := root_mono h2 _ (s.length - (only q s).length) n rfl
      rw [show (only q s).length + (s.length - (only q s).length) = s.length by omega] at this
      exact this.symm
  · refine root_fuel hr s.length n (only q s) rfl fun a ha hg => ?_
    cases g : getP s a with
    | none => exact absurd g hg
    | some p =>
      have hm := List.mem_of_find?_eq_some g
      have hn := getP_name g
      exact ⟨p, List.mem_filter.2 ⟨hm, by rw [hn]; exact h a ha hg⟩, hn⟩
theorem inside_only (q : Tx → Bool) (s : List Pt) {m : Tx} (hm : q m = true) (h : ∀ x ∈ zAk s m, q x = true) : zAk (only q s) m = zAk s m := by
  unfold zAk at h ⊢
  rw [getP_only q s hm]
  cases g : getP s m with
  | none => rfl
  | some p =>
    rw [g] at h
    simp only at h ⊢
    have h' : ∀ x ∈ bfs ((zBj s m).length + 2) (zBj s m) [m], q x = true := fun x hx => h x ((zCd _).mem_iff.2 hx)
    rw [fitted_only, bfs_fuel _ ((zBj s m).length + 2) _ _ (Nat.le_refl _) (by have := List.length_filter_le (fun x : Tx × Tx => q x.1) (zBj s m); omega), bfs_only q _ _ _ h']
structure Kept (q : Tx → Bool) (s : List Pt) (K : Tx → Prop) : Prop where
  keep : ∀ m, K m → q m = true
  inside : ∀ m, K m → ∀ x ∈ zAk s m, K x
  at_ : ∀ m, K m → ∀ p ∈ s, p.into = m → q p.name = true
theorem find0_only {q : Tx → Bool} {s : List Pt} {n : Tx} (h : q n = true) : find0 (only q s) n = find0 s n := by
  unfold find0; rw [getP_only q s h]
theorem any_only {q : Tx → Bool} {s : List Pt} {m : Tx} (h : ∀ p ∈ s, p.into = m → q p.name = true) (f : Pt → Bool) : ((only q s).any fun p => p.into == m && f p) = (s.any fun p => p.into == m && f p) := by
  unfold only
  rw [List.any_filter]
  apply Bool.eq_iff_iff.2
  simp only [List.any_eq_true, Bool.and_eq_true, beq_iff_eq]
  constructor
  · rintro ⟨p, h1, h2, h3⟩; exact ⟨p, h1, h3⟩
  · rintro ⟨p, h1, h3⟩; exact ⟨p, h1, h p h1 h3.1, h3⟩
theorem fold_map {g : Int → Int → Int} (m : Tx) : ∀ (ks : List (Tx → Int)) (a : Int), ks.foldl (fun a k => g a (k m)) a = (ks.map fun k => k m).foldl g a
  | [], a => rfl
  | k :: ks, a => by simp only [List.foldl, List.map]; exact fold_map m ks _
theorem head_map (m : Tx) : ∀ ks : List (Tx → Int), ks.headD (fun _ => 0) m = (ks.map fun k => k m).headD 0
  | [] => rfl
  | k :: ks => rfl
theorem fold_in {g : Int → Int → Int} {f f' : Tx → Int} : ∀ (l : List Tx) (a : Int), (∀ x ∈ l, f' x = f x) → l.foldl (fun a k => g a (f' k)) a = l.foldl (fun a k => g a (f k)) a
  | [], a, _ => rfl
  | x :: l, a, h => by
    simp only [List.foldl]
    rw [h x (List.mem_cons_self), fold_in l _ fun y hy => h y (List.mem_cons_of_mem _ hy)]
theorem kinds_only {q : Tx → Bool} {s : List Pt} {K : Tx → Prop} (h : Kept q s K) {m : Tx} (hm : K m) (kind : Tx) : zAq (only q s) m kind = zAq s m kind := by
  unfold zAq
  rw [inside_only q s (h.keep m hm) fun x hx => h.keep x (h.inside m hm x hx)]
  exact List.filter_congr fun x hx => by rw [find0_only (h.keep x (h.inside m hm x hx))]
theorem askN_only {q : Tx → Bool} {s : List Pt} {K : Tx → Prop} (h : Kept q s K) (day op : Int) (name value : Tx) (n extra : Int) {ks ks' : List (Tx → Int)}
    (hk : ∀ m, K m → (ks'.map fun k => k m) = ks.map fun k => k m) {part : Tx} (hp : K part) : askN (only q s) day op name value n extra ks' part = askN s day op name value n extra ks part := by
  unfold askN
  simp only [head_map, fold_map part, hk part hp, find0_only (h.keep part hp), kinds_only h hp]
  have e9 := any_only (h.at_ part hp) fun p => p.slot == name && p.kind == value
  simp only [← Bool.and_assoc] at e9
  have hx : ∀ x ∈ zAq s part name, K x := fun x hx => h.inside part hp x (List.mem_filter.1 hx).1
  rw [e9, fold_in (g := andT) (zAq s part name) 2 fun x hx' => by rw [hk x (hx x hx')], fold_in (g := orT) (zAq s part name) 0 fun x hx' => by rw [hk x (hx x hx')]]
mutual
theorem ask_only {q : Tx → Bool} {s : List Pt} {K : Tx → Prop} (h : Kept q s K) (day : Int) : ∀ (x : X) (m : Tx), K m → ask (only q s) day x m = ask s day x m
  | .mk op name value n extra ks, m, hm => by
    rw [ask, ask]
    exact askN_only h day op name value n extra (askL_only h day ks) hm
theorem askL_only {q : Tx → Bool} {s : List Pt} {K : Tx → Prop} (h : Kept q s K) (day : Int) : ∀ (ks : List X) (m : Tx), K m → ((askL (only q s) day ks).map fun k => k m) = (askL s day ks).map fun k => k m
  | [], m, _ => rfl
  | k :: ks, m, hm => by
    simp only [askL, List.map, ask_only h day k m hm, askL_only h day ks m hm]
end
def kept (s : List Pt) (part : Tx) (n : Tx) : Bool := n == part || (zAk s part).contains n || (zAk s n).contains part
theorem firsts_all : ∀ (s : List Pt) (seen : List Tx), (s.map (·.name)).Nodup → (∀ p ∈ s, seen.contains p.name = false) → zB1 seen s = s
  | [], _, _, _ => rfl
  | p :: s, seen, h, g => by
    simp only [zB1]
    rw [g p (List.mem_cons_self)]
    simp only [Bool.false_eq_true, if_false]
    rw [List.map_cons, List.nodup_cons] at h
    rw [firsts_all s _ h.2 fun x hx => by
      rw [List.contains_append, g x (List.mem_cons_of_mem _ hx)]
      have : x.name ≠ p.name := fun e => h.1 (e ▸ List.mem_map_of_mem hx)
      simp [this]]
theorem mem_getP {s : List Pt} {p : Pt} (h : p ∈ s) : getP s p.name ≠ none := by
  unfold getP
  intro e
  rw [List.find?_eq_none] at e
  exact e p h (by simp)
theorem zEz {p : Pt} : ∀ {s : List Pt} {seen : List Tx}, p ∈ zB1 seen s → p ∈ s
  | [], _, h => by cases h
  | x :: s, seen, h => by
    simp only [zB1] at h
    split at h
    · exact List.mem_cons_of_mem _ (zEz h)
    · rcases List.mem_cons.1 h with rfl | h
      · exact List.mem_cons_self
      · exact List.mem_cons_of_mem _ (zEz h)
theorem in_name {s : List Pt} {a m : Tx} (h : In (zBj s a) a m) : ∃ p ∈ s, p.name = m := by
  cases h with
  | base e => obtain ⟨⟨p, hp, h1, _⟩, _⟩ := fitted_mem.1 e; exact ⟨p, zEz hp, h1⟩
  | step e _ => obtain ⟨⟨p, hp, h1, _⟩, _⟩ := fitted_mem.1 e; exact ⟨p, zEz hp, h1⟩
theorem root_get {s : List Pt} {part : Tx} (h : root s part ≠ []) : getP s part ≠ none := by
  intro e
  unfold root at h
  cases k : s.length with
  | zero => rw [k] at h; exact h rfl
  | succ k' => rw [k] at h; simp only [rootN, e] at h; exact h rfl
theorem others {s : List Pt} {part : Tx} (hd : (s.map (·.name)).Nodup) (hn : ∀ p ∈ s, p.name ≠ []) (x : X) (day : Int) : zE6 (only (kept s part) s) x part day = zE6 s x part day := by
  have hr : root (only (kept s part) s) part = root s part := root_same _ _ _ fun a ha hg => by
    unfold kept
    rcases up_in ha with e | e
    · subst e; simp
    · have : part ∈ zAk s a := inside_iff.2 ⟨hg, e⟩
      simp [List.contains_iff_mem, this]
  unfold zE6
  rw [hr]
  split
  · rfl
  · rename_i h
    have hr0 : root s part ≠ [] := fun e => h (.inr e)
    have hg := root_get hr0
    have hK : Kept (kept s part) s fun m => m = part ∨ m ∈ zAk s part := by
      have hin : ∀ m, m = part ∨ m ∈ zAk s part → ∀ x ∈ zAk s m, x = part ∨ x ∈ zAk s part := by
        intro m hm x hx
        rcases hm with rfl | hm
        · exact .inr hx
        · rcases in_in (inside_iff.1 hm).2 (inside_iff.1 hx).2 with e | e
          · exact .inl e
          · exact .inr (inside_iff.2 ⟨hg, e⟩)
      have hkeep : ∀ m, m = part ∨ m ∈ zAk s part → kept s part m = true := by
        intro m hm
        unfold kept
        rcases hm with rfl | hm
        · simp
        · simp [List.contains_iff_mem, hm]
      refine ⟨hkeep, hin, ?_⟩
      intro m hm p hp he
      have hmem : ∃ p ∈ s, p.name = m := by
        rcases hm with rfl | hm
        · cases g : getP s m with
          | none => exact absurd g hg
          | some p => exact ⟨p, List.mem_of_find?_eq_some g, getP_name g⟩
        · exact in_name (inside_iff.1 hm).2
      obtain ⟨p0, hp0, e0⟩ := hmem
      have hm0 : m ≠ [] := e0 ▸ hn p0 hp0
      by_cases e : p.name = m
      · rw [e]; exact hkeep m hm
      · refine hkeep _ (hin m hm _ (inside_iff.2 ⟨e0 ▸ mem_getP hp0, .base (fitted_mem.2 ⟨⟨p, ?_, rfl, he⟩, hm0, e⟩)⟩))
        rw [firsts_all s [] hd fun _ _ => rfl]
        exact hp
    exact ask_only hK day x part (.inl rfl)
def Incr (l : List Tx) : Prop := ∀ i, i + 1 < l.length → lt (l.getD i []) (l.getD (i + 1) []) = true
theorem incr_head : ∀ {l : List Tx} {a : Tx}, Incr (a :: l) → Incr l ∧ ∀ b ∈ l, lt a b = true
  | [], a, _ => ⟨fun i h => by simp at h, fun b h => by cases h⟩
  | c :: l, a, h => by
    have h1 : Incr (c :: l) := fun i hi => by have := h (i + 1) (by simpa using hi); simpa using this
    have h2 : lt a c = true := by have := h 0 (by simp); simpa using this
    refine ⟨h1, fun b hb => ?_⟩
    rcases List.mem_cons.1 hb with rfl | hb
    · exact h2
    · exact lt_trans h2 ((incr_head h1).2 b hb)
theorem incr_nodup : ∀ {l : List Tx}, Incr l → l.Nodup
  | [], _ => List.nodup_nil
  | a :: l, h => by
    obtain ⟨h1, h2⟩ := incr_head h
    refine List.nodup_cons.2 ⟨fun hm => ?_, incr_nodup h1⟩
    have := h2 a hm
    rw [lt_irr] at this
    cases this
end Go.Proofs.YtcchbohfcmfmlaaGreat
end
section
set_option maxRecDepth 100000
set_option linter.unusedSimpArgs false
set_option linter.unusedVariables false
namespace Go.Proofs.YtcchbohfcmfmlaaGreat
open Go GoV
structure Sl where
  name : Tx
  kinds : List Tx
  normal : Int
@[reducible] def Sl.cells (x : Sl) : List D := [.str x.name, .slice (strs x.kinds) .no, .int .i64 x.normal]
def slD (x : Sl) : D := .agg x.cells
structure Kd where
  name : Tx
  veh : Bool
  slots : List Sl
@[reducible] def Kd.cells (k : Kd) : List D := [.str k.name, .bool k.veh, .slice (k.slots.map slD) .no]
def kdD (k : Kd) : D := .agg k.cells
abbrev zB8 (l : List Kd) : D := .slice (l.map kdD) .no
abbrev catD (l : List Kd) : D := .agg [zB8 l]
def Sl.In (x : Sl) : Prop := x.name.length ≤ 9223372036854775807 ∧ x.kinds.length ≤ 9223372036854775807
def Kd.In (k : Kd) : Prop := k.name.length ≤ 9223372036854775807 ∧ k.slots.length ≤ 9223372036854775807 ∧ ∀ x ∈ k.slots, x.In
def CatIn (c : List Kd) : Prop := c.length ≤ 9223372036854775807 ∧ ∀ k ∈ c, k.In
theorem er_sl (x : Sl) : (slD x).er = slD x := by simp [slD, Sl.cells, D.er, D.erL, zDr]
theorem cl_sl (x : Sl) : (slD x).closed = true := by simp [slD, Sl.cells, D.closed, D.cL, zDg]
theorem er_sls (l : List Sl) : D.erL (l.map slD) = l.map slD := by induction l with | nil => rfl | cons x l ih => simp [D.erL, er_sl, ih]
theorem cl_sls (l : List Sl) : D.cL (l.map slD) = true := by induction l with | nil => rfl | cons x l ih => simp [D.cL, cl_sl, ih]
theorem er_kd (x : Kd) : (kdD x).er = kdD x := by simp [kdD, Kd.cells, D.er, D.erL, er_sls]
theorem cl_kd (x : Kd) : (kdD x).closed = true := by simp [kdD, Kd.cells, D.closed, D.cL, cl_sls]
theorem er_kds (l : List Kd) : D.erL (l.map kdD) = l.map kdD := by induction l with | nil => rfl | cons x l ih => simp [D.erL, er_kd, ih]
theorem cl_kds (l : List Kd) : D.cL (l.map kdD) = true := by induction l with | nil => rfl | cons x l ih => simp [D.cL, cl_kd, ih]
end Go.Proofs.YtcchbohfcmfmlaaGreat
end
section
set_option maxRecDepth 100000
set_option linter.unusedSimpArgs false
set_option linter.unusedVariables false
namespace Go.Proofs.YtcchbohfcmfmlaaGreat
open Go GoV Go.RowKit
theorem rows_K (l : List Kd) : RowsK 3 (l.map kdD) := zFr _ (fun k => ⟨k.cells, rfl, rfl⟩) l
theorem rows_S (l : List Sl) : RowsK 3 (l.map slD) := zFr _ (fun k => ⟨k.cells, rfl, rfl⟩) l
theorem kname_p (k : Kd) : Pur M 59 [kdD k] (.str k.name) := by
  refine k59.ok (C := C59) rfl rfl ?_
  rw [i59]
  unfold c59
  unfold kdD
  repeat' (first | with_reducible (apply swq; constructor) | simp only [go_sem, seval, P59, q59] | with_reducible (apply cA; constructor) | ((with_reducible refine And.intro ?hw ?_); (case hw => first | omega | rfl | exact ⟨_, _, rfl⟩ | assumption | (simp only [lN] <;> omega))) | with_reducible intro _)
  all_goals simp [D.closed, D.er]
theorem sname_p (k : Sl) : Pur M 61 [slD k] (.str k.name) := by
  refine k61.ok (C := C61) rfl rfl ?_
  rw [i61]
  unfold c61
  unfold slD
  repeat' (first | with_reducible (apply swq; constructor) | simp only [go_sem, seval, P61, q61] | with_reducible (apply cA; constructor) | ((with_reducible refine And.intro ?hw ?_); (case hw => first | omega | rfl | exact ⟨_, _, rfl⟩ | assumption | (simp only [lN] <;> omega))) | with_reducible intro _)
  all_goals simp [D.closed, D.er]
abbrev hpN (f : FuncId) (s : Tx) : Hp := ⟨[.cells [.fn (.func f) [] []], .cells [.str s]], []⟩
theorem isK_e (k : Kd) (s : Tx) : Eff M 88 ([] ++ [kdD k] ++ [.ptr 0 0, .ptr 1 0]) (hpN 59 s) fun d h => d = .bool (k.name == s) ∧ h = hpN 59 s := by
  refine k88.oe 2 0 rfl rfl rfl ?_
  simp only [List.nil_append, List.cons_append]
  rw [ie88]
  unfold c88
  have c1 := kname_p k
  have hc := cl_kd k
  have he := er_kd k
  unfold kdD at c1 hc he ⊢
  repeat' (first | with_reducible (apply swq; constructor) | simp only [go_sem, seval, pe88, q88] | ((with_reducible first | refine zAb (c1) ?he ?hc ?_ | refine zAe (c1) ?he ?hc ?_ | refine zAf (c1) ?he ?hc ?_); (case he | hc => first | rfl | (simp [D.erL, D.er, D.cL, D.closed, hc, he, cl_sls, er_sls]; done))) | with_reducible (apply cA; constructor) | ((with_reducible refine And.intro ?hw ?_); (case hw => first | omega | rfl | exact ⟨_, _, rfl⟩ | assumption | (simp only [lN, hc, he, cl_sls, er_sls] <;> omega))) | with_reducible intro _)
  all_goals refine ⟨_, zB2 2 0 (Nat.le_refl _) (Nat.le_refl _), ?_⟩
  all_goals simp [St.gc, Hp.cut, D.rnL, D.rn, cutF, Blk.rn, Blk.rnL, Tv.rnL, Own.rn]
theorem isS_e (k : Sl) (s : Tx) : Eff M 90 ([] ++ [slD k] ++ [.ptr 0 0, .ptr 1 0]) (hpN 61 s) fun d h => d = .bool (k.name == s) ∧ h = hpN 61 s := by
  refine k90.oe 2 0 rfl rfl rfl ?_
  simp only [List.nil_append, List.cons_append]
  rw [ie90]
  unfold c90
  have c1 := sname_p k
  have hc := cl_sl k
  have he := er_sl k
  unfold slD at c1 hc he ⊢
  repeat' (first | with_reducible (apply swq; constructor) | simp only [go_sem, seval, pe90, q90] | ((with_reducible first | refine zAb (c1) ?he ?hc ?_ | refine zAe (c1) ?he ?hc ?_ | refine zAf (c1) ?he ?hc ?_); (case he | hc => first | rfl | (simp [D.erL, D.er, D.cL, D.closed, hc, he, zDg, zDr]; done))) | with_reducible (apply cA; constructor) | ((with_reducible refine And.intro ?hw ?_); (case hw => first | omega | rfl | exact ⟨_, _, rfl⟩ | assumption | (simp only [lN, hc, he, zDg, zDr] <;> omega))) | with_reducible intro _)
  all_goals refine ⟨_, zB2 2 0 (Nat.le_refl _) (Nat.le_refl _), ?_⟩
  all_goals simp [St.gc, Hp.cut, D.rnL, D.rn, cutF, Blk.rn, Blk.rnL, Tv.rnL, Own.rn]
end Go.Proofs.YtcchbohfcmfmlaaGreat
end
section
set_option maxRecDepth 100000
set_option linter.unusedSimpArgs false
set_option linter.unusedVariables false
namespace Go.Proofs.YtcchbohfcmfmlaaGreat
open Go GoV Go.RowKit
def BM (kd : MK) (E : List (D × D × Nat)) : Prop := ∀ e ∈ E, keyOk kd e.1 = true ∧ (∀ β τ, e.1.rn β τ = e.1) ∧ ∃ b, e.2.1 = .bool b
theorem BM.ok {kd : MK} {E : List (D × D × Nat)} (h : BM kd E) : (E.all fun e => keyOk kd e.1) = true := List.all_eq_true.2 fun e he => (h e he).1
theorem BM.rn {kd : MK} : ∀ {E : List (D × D × Nat)}, BM kd E → ∀ β τ, pairs β τ E = E
  | [], _, _, _ => rfl
  | (a, b, n) :: E, h, β, τ => by
    obtain ⟨_, h2, v, h3⟩ := h (a, b, n) (by simp)
    simp only at h2 h3
    subst h3
    simp only [pairs, h2, D.rn]
    rw [BM.rn (fun e he => h e (by simp [he]))]
theorem BM.nil (kd : MK) : BM kd [] := fun e he => by simp at he
theorem BM.find {kd : MK} {k : D} : ∀ {E : List (D × D × Nat)} {i j : Nat} {v : D}, BM kd E → findM k E i = some (j, v) → ∃ b, v = .bool b
  | [], _, _, _, _, h => by simp [findM] at h
  | (a, b, n) :: E, i, j, v, hB, h => by
    simp only [findM] at h
    split at h
    · simp only [Option.some.injEq, Prod.mk.injEq] at h
      obtain ⟨_, rfl⟩ := h
      exact (hB (a, b, n) (by simp)).2.2
    · exact BM.find (fun e he => hB e (by simp [he])) h
theorem BM.modify {kd : MK} {k : D} (hk : keyOk kd k = true) (hr : ∀ β τ, k.rn β τ = k) (b : Bool) : ∀ {E : List (D × D × Nat)} {i : Nat}, BM kd E → BM kd (E.modify i fun e => (k, .bool b, e.2.2))
  | [], i, h => by simpa using h
  | e :: E, 0, h => by
    rintro x hx
    simp only [List.modify_zero_cons, List.mem_cons] at hx
    rcases hx with rfl | hx
    · exact ⟨hk, hr, b, rfl⟩
    · exact h x (by simp [hx])
  | e :: E, i + 1, h => by
    rintro x hx
    simp only [List.modify_succ_cons, List.mem_cons] at hx
    rcases hx with rfl | hx
    · exact h x (by simp)
    · exact BM.modify hk hr b (fun y hy => h y (by simp [hy])) x hx
theorem BM.put {kd : MK} {E : List (D × D × Nat)} (h : BM kd E) (c : Nat) {k : D} (hk : keyOk kd k = true) (hr : ∀ β τ, k.rn β τ = k) (b : Bool) : ∃ E' c', putM E c k (.bool b) = .map E' c' ∧ BM kd E' := by
  unfold putM
  split
  · exact ⟨_, _, rfl, BM.modify hk hr b h⟩
  · refine ⟨_, _, rfl, fun e he => ?_⟩
    rcases List.mem_append.1 he with he | he
    · exact h e he
    · simp only [List.mem_singleton] at he
      subst he
      exact ⟨hk, hr, b, rfl⟩
def Rb (P : Bool → Prop) (d : D) (h : Hp) : Prop := (∃ b, d = .bool b ∧ P b) ∧ h = ⟨[], []⟩
theorem fin_b {C : Cfg} {s : St} {i : Nat} {b : Bool} {P : Bool → Prop} (h0 : C.n0 = 0) (h1 : C.m0 = 0) (h : s.env.getD i .u0 = .bool b) (hP : P b) :
    ∃ s1, Weak C s s1 ∧ rrsWp [.slot (.v i)] s1 fun ds => Rb P (zBd ds) s1.hp := by
  refine ⟨s.gc 0 0, zB2 0 0 (by omega) (by omega), ?_⟩
  have hg : (s.gc 0 0).env.getD i .u0 = .bool b := by
    show (D.rnL _ _ s.env).getD i .u0 = _
    rw [rnL_getD, h]; simp [D.rn]
  have hh : (s.gc 0 0).hp = ⟨[], []⟩ := by simp [St.gc, Hp.cut, Blk.rnL, Tv.rnL]
  generalize s.gc 0 0 = t at *
  simp only [rrsWp, rrWp, St.get, hg, zBd, Rb, hh]
  simp [hP]
end Go.Proofs.YtcchbohfcmfmlaaGreat
end
section
set_option maxRecDepth 100000
set_option linter.unusedSimpArgs false
set_option linter.unusedVariables false
namespace Go.Proofs.YtcchbohfcmfmlaaGreat
open Go GoV Go.RowKit
theorem kd_get {l : List Kd} {i : Nat} (h : i < l.length) : (l.map kdD).getD i .u0 = .agg l[i].cells := by simp [List.getD, h, kdD]
theorem sl_get {l : List Sl} {i : Nat} (h : i < l.length) : (l.map slD).getD i .u0 = .agg l[i].cells := by simp [List.getD, h, slD]
theorem str_get {l : List Tx} {i : Nat} (h : i < l.length) : (strs l).getD i .u0 = .str l[i] := by simp [strs, List.getD, h]
abbrev Ent := List (D × D × Nat)
abbrev True1 (_ : Bool) : Prop := True
set_option maxHeartbeats 4000000 in
theorem cvalid_e (c : List Kd) (hc : CatIn c) : Eff M 14 [catD c] ⟨[], []⟩ (Rb True1) := by
  refine k14.oe 0 0 rfl rfl rfl ?_
  rw [ie14]
  unfold c14
  obtain ⟨hc1, hc2⟩ := hc
  have hlen : (c.map kdD).length = c.length := by simp
  repeat' (first | with_reducible (apply swq; constructor) | simp only [go_sem, seval, pe14, q14, hlen, zAt] | ((with_reducible apply s_mpu); (case h1 | hk => rfl); (case ha | hp => first | rfl | assumption)) | ((with_reducible apply zAl); (case h1 | hk => rfl); (case ha | hf => first | rfl | assumption)) | ((with_reducible apply zAm); (case h1 | hk => rfl); (case hf | ha => first | rfl | assumption)) | (with_reducible first | (apply cA; constructor) | (apply gA; constructor)) | ((with_reducible refine And.intro ?hw ?_); (case hw => first | omega | rfl | exact ⟨_, _, rfl⟩ | assumption | (simp only [lN] <;> omega))) | with_reducible intro _)
  refine zC5 (Q := fun e s' => (e = .exit 0 ∧ s'.keepG [1] 1 0 = ⟨[.u0, .ptr 0 0, .u0, .u0, .u0, .u0, .u0, .u0, .u0, .u0, .u0, .u0, .u0, .u0, .u0, .u0, .u0, .u0, .u0, .u0, .u0, .u0, .u0, .u0, .u0], [], ⟨[.cells [zB8 c]], []⟩⟩) ∨ (e = .ret ∧ s'.env.getD 2 .u0 = .bool false)) ?_ ?_
  · refine zB0 [1, 2, 3, 10, 11, 12] 2 0 (Nat.zero_le _) (Nat.zero_le _) (fun a : Nat × Ent × Nat => ⟨[.u0, .ptr 0 0, .bool false, .mp 1, .u0, .u0, .u0, .u0, .u0, .u0, zB8 c, .int .i64 c.length, .int .i64 a.1, .u0, .u0, .u0, .u0, .u0, .u0, .u0, .u0, .u0, .u0, .u0, .u0], [], ⟨[.cells [zB8 c], .map a.2.1 a.2.2], []⟩⟩)
      (fun a => a.1 ≤ c.length ∧ BM .str a.2.1) (fun a => c.length - a.1) (0, [], 0) ⟨by simp, BM.nil _⟩ ?_ ?_
    · simp [keepE, St.keep, St.keepG, St.gc, Hp.cut, D.rn, D.rnL, Blk.rnL, Blk.rn, Tv.rnL, pairs, cutF, Own.rn]
    · rintro ⟨i, E, ck⟩ ⟨hi, hE⟩
      simp only at hi hE ⊢
      have hrn := hE.rn
      have hok := hE.ok
      by_cases hil : i < c.length
      · have t1 : decide (((i : Nat) : Int) < c.length) = true := by simp; omega
        have hg := kd_get hil
        obtain ⟨k1, k2, k3⟩ := hc2 _ (List.getElem_mem hil)
        generalize c[i] = k at *
        have c1 := name_p k.name (by omega)
        have hsl : (k.slots.map slD).length = k.slots.length := by simp
        obtain ⟨E9, ck9, hp9, hE9⟩ := hE.put ck (k := .str k.name) rfl (fun _ _ => rfl) (!k.veh)
        have hrn9 := hE9.rn
        cases hfm : findM (.str k.name) E 0 with
        | some q =>
          obtain ⟨j, v⟩ := q
          repeat' (first | with_reducible (apply swq; constructor) | simp only [go_sem, seval, pe14, q14, hlen, t1, hg, zAt] | ((with_reducible refine zAb (c1) ?he ?hc ?_); (case he | hc => first | rfl | (simp [D.erL, D.er, D.cL, D.closed, hlen, hg, hfm]; done))) | ((with_reducible apply s_mpu); (case h1 | hk => rfl); (case ha | hp => first | rfl | assumption)) | ((with_reducible apply zAl); (case h1 | hk => rfl); (case ha | hf => first | rfl | assumption)) | ((with_reducible apply zAm); (case h1 | hk => rfl); (case hf | ha => first | rfl | assumption)) | (with_reducible first | (apply cA; constructor) | (apply gA; constructor)) | ((with_reducible refine And.intro ?hw ?_); (case hw => first | omega | rfl | exact ⟨_, _, rfl⟩ | assumption | (simp only [lN, hlen, hg, hfm] <;> omega))) | with_reducible intro _)
          all_goals first | omega | skip
          all_goals simp
        | none =>
          repeat' (first | with_reducible (apply swq; constructor) | simp only [go_sem, seval, pe14, q14, hlen, t1, hg, zAt] | ((with_reducible refine zAb (c1) ?he ?hc ?_); (case he | hc => first | rfl | (simp [D.erL, D.er, D.cL, D.closed, hlen, hg, hfm]; done))) | ((with_reducible apply s_mpu); (case h1 | hk => rfl); (case ha | hp => first | rfl | assumption)) | ((with_reducible apply zAl); (case h1 | hk => rfl); (case ha | hf => first | rfl | assumption)) | ((with_reducible apply zAm); (case h1 | hk => rfl); (case hf | ha => first | rfl | assumption)) | (with_reducible first | (apply cA; constructor) | (apply gA; constructor)) | ((with_reducible refine And.intro ?hw ?_); (case hw => first | omega | rfl | exact ⟨_, _, rfl⟩ | assumption | (simp only [lN, hlen, hg, hfm] <;> omega))) | with_reducible intro _)
          all_goals first | omega | skip
          all_goals first | (simp; done) | skip
          refine zC5 (Q := fun e s' => (e = .exit 2 ∧ s'.keepG [1, 2, 3, 4, 10, 11, 12] 3 0 = ⟨[.u0, .ptr 0 0, .bool false, .mp 1, .ptr 2 0, .u0, .u0, .u0, .u0, .u0, zB8 c, .int .i64 c.length, .int .i64 i, .u0, .u0, .u0, .u0, .u0, .u0, .u0, .u0, .u0, .u0, .u0, .u0], [], ⟨[.cells [zB8 c], .map E ck, .cells k.cells], []⟩⟩) ∨ (e = .ret ∧ s'.env.getD 2 .u0 = .bool false)) ?_ ?_
          · refine zB0 [1, 2, 3, 4, 6, 10, 11, 12, 15, 16, 17] 4 0 (Nat.zero_le _) (Nat.zero_le _) (fun a : Nat × Ent × Nat => ⟨[.u0, .ptr 0 0, .bool false, .mp 1, .ptr 2 0, .u0, .mp 3, .u0, .u0, .u0, zB8 c, .int .i64 c.length, .int .i64 i, .u0, .u0, .slice (k.slots.map slD) .no, .int .i64 k.slots.length, .int .i64 a.1, .u0, .u0, .u0, .u0, .u0, .u0, .u0], [], ⟨[.cells [zB8 c], .map E ck, .cells k.cells, .map a.2.1 a.2.2], []⟩⟩)
              (fun a => a.1 ≤ k.slots.length ∧ BM .str a.2.1) (fun a => k.slots.length - a.1) (0, [], 0) ⟨by simp, BM.nil _⟩ ?_ ?_
            · simp [keepE, St.keep, St.keepG, St.gc, Hp.cut, D.rn, D.rnL, Blk.rnL, Blk.rn, Tv.rnL, pairs, cutF, Own.rn, hrn]
            · rintro ⟨j, F, cf⟩ ⟨hj, hF⟩
              simp only at hj hF ⊢
              have hrnF := hF.rn
              have hokF := hF.ok
              by_cases hjl : j < k.slots.length
              · have t2 : decide (((j : Nat) : Int) < k.slots.length) = true := by simp; omega
                have hgs := sl_get hjl
                obtain ⟨s1, s2⟩ := k3 _ (List.getElem_mem hjl)
                generalize k.slots[j] = s at *
                have c2 := name_p s.name (by omega)
                have hkl : (strs s.kinds).length = s.kinds.length := by simp [strs]
                obtain ⟨F9, cf9, hpF, hF9⟩ := hF.put cf (k := .str s.name) rfl (fun _ _ => rfl) true
                have hrnF9 := hF9.rn
                have hokF9 := hF9.ok
                have fF : (∃ q, findM (.str s.name) F 0 = some (q, .bool true)) ∨ (∃ q, findM (.str s.name) F 0 = some (q, .bool false)) ∨ findM (.str s.name) F 0 = none := by
                  cases h : findM (.str s.name) F 0 with
                  | none => exact .inr (.inr rfl)
                  | some q =>
                    obtain ⟨q, v⟩ := q
                    obtain ⟨b, rfl⟩ := hF.find h
                    cases b
                    · exact .inr (.inl ⟨q, rfl⟩)
                    · exact .inl ⟨q, rfl⟩
                rcases fF with ⟨q, hfs⟩ | ⟨q, hfs⟩ | hfs
                · repeat' (first | with_reducible (apply swq; constructor) | simp only [go_sem, seval, pe14, q14, hsl, hkl, t2, hgs, hpF, zAt] | ((with_reducible refine zAb (c2) ?he ?hc ?_); (case he | hc => first | rfl | (simp [D.erL, D.er, D.cL, D.closed, hsl, hgs, hfs]; done))) | ((with_reducible apply s_mpu); (case h1 | hk => rfl); (case ha | hp => first | rfl | assumption)) | ((with_reducible apply zAl); (case h1 | hk => rfl); (case ha | hf => first | rfl | assumption)) | ((with_reducible apply zAm); (case h1 | hk => rfl); (case hf | ha => first | rfl | assumption)) | (with_reducible first | (apply cA; constructor) | (apply gA; constructor)) | ((with_reducible refine And.intro ?hw ?_); (case hw => first | omega | rfl | exact ⟨_, _, rfl⟩ | assumption | (simp only [lN, hsl, hgs, hfs] <;> omega))) | with_reducible intro _)
                  all_goals first | omega | skip
                  all_goals simp
                all_goals (
                  repeat' (first | with_reducible (apply swq; constructor) | simp only [go_sem, seval, pe14, q14, hsl, hkl, t2, hgs, hpF, zAt] | ((with_reducible refine zAb (c2) ?he ?hc ?_); (case he | hc => first | rfl | (simp [D.erL, D.er, D.cL, D.closed, hsl, hgs, hfs]; done))) | ((with_reducible apply s_mpu); (case h1 | hk => rfl); (case ha | hp => first | rfl | assumption)) | ((with_reducible apply zAl); (case h1 | hk => rfl); (case ha | hf => first | rfl | assumption)) | ((with_reducible apply zAm); (case h1 | hk => rfl); (case hf | ha => first | rfl | assumption)) | (with_reducible first | (apply cA; constructor) | (apply gA; constructor)) | ((with_reducible refine And.intro ?hw ?_); (case hw => first | omega | rfl | exact ⟨_, _, rfl⟩ | assumption | (simp only [lN, hsl, hgs, hfs] <;> omega))) | with_reducible intro _)
                  all_goals first | omega | skip
                  all_goals first | (simp; done) | skip
                  refine zC5 (Q := fun e s' => (e = .exit 4 ∧ s'.keepG [1, 2, 3, 4, 6, 10, 11, 12, 15, 16, 17] 4 0 = ⟨[.u0, .ptr 0 0, .bool false, .mp 1, .ptr 2 0, .u0, .mp 3, .u0, .u0, .u0, zB8 c, .int .i64 c.length, .int .i64 i, .u0, .u0, .slice (k.slots.map slD) .no, .int .i64 k.slots.length, .int .i64 j, .u0, .u0, .u0, .u0, .u0, .u0, .u0], [], ⟨[.cells [zB8 c], .map E ck, .cells k.cells, .map F9 cf9], []⟩⟩) ∨ (e = .ret ∧ s'.env.getD 2 .u0 = .bool false)) ?_ ?_
                  · refine zB0 [1, 2, 3, 4, 6, 7, 8, 10, 11, 12, 15, 16, 17, 20, 21, 22] 6 0 (Nat.zero_le _) (Nat.zero_le _) (fun a : Nat × Ent × Nat => ⟨[.u0, .ptr 0 0, .bool false, .mp 1, .ptr 2 0, .u0, .mp 3, .ptr 4 0, .mp 5, .u0, zB8 c, .int .i64 c.length, .int .i64 i, .u0, .u0, .slice (k.slots.map slD) .no, .int .i64 k.slots.length, .int .i64 j, .u0, .u0, .slice (strs s.kinds) .no, .int .i64 s.kinds.length, .int .i64 a.1, .u0, .u0], [], ⟨[.cells [zB8 c], .map E ck, .cells k.cells, .map F9 cf9, .cells s.cells, .map a.2.1 a.2.2], []⟩⟩)
                      (fun a => a.1 ≤ s.kinds.length ∧ BM .str a.2.1) (fun a => s.kinds.length - a.1) (0, [], 0) ⟨by simp, BM.nil _⟩ ?_ ?_
                    · simp [keepE, St.keep, St.keepG, St.gc, Hp.cut, D.rn, D.rnL, Blk.rnL, Blk.rn, Tv.rnL, pairs, cutF, Own.rn, hrn, hrnF9]
                    · rintro ⟨m, G, cg⟩ ⟨hm, hG⟩
                      simp only at hm hG ⊢
                      have hrnG := hG.rn
                      have hokG := hG.ok
                      by_cases hml : m < s.kinds.length
                      · have t3 : decide (((m : Nat) : Int) < s.kinds.length) = true := by simp; omega
                        have hgk := str_get hml
                        generalize s.kinds[m] = y at *
                        obtain ⟨G9, cg9, hpG, hG9⟩ := hG.put cg (k := .str y) rfl (fun _ _ => rfl) true
                        have hrnG9 := hG9.rn
                        have fE : findM (.str y) E 0 = none ∨ ∃ q b, findM (.str y) E 0 = some (q, .bool b) := by
                          cases h : findM (.str y) E 0 with
                          | none => exact .inl rfl
                          | some q => obtain ⟨q, v⟩ := q; obtain ⟨b, rfl⟩ := hE.find h; exact .inr ⟨q, b, rfl⟩
                        have fG : findM (.str y) G 0 = none ∨ ∃ q b, findM (.str y) G 0 = some (q, .bool b) := by
                          cases h : findM (.str y) G 0 with
                          | none => exact .inl rfl
                          | some q => obtain ⟨q, v⟩ := q; obtain ⟨b, rfl⟩ := hG.find h; exact .inr ⟨q, b, rfl⟩
                        rcases fG with h4 | ⟨q4, b4, h4⟩ <;> rcases fE with h5 | ⟨q5, b5, h5⟩
                        all_goals try cases b4
                        all_goals try cases b5
                        all_goals (
                          repeat' (first | with_reducible (apply swq; constructor) | simp only [go_sem, seval, pe14, q14, hkl, t3, hgk, hpG, zAt] | simp (disch := omega) only [w64, w32, wu8, wu16, wu32, wu64] | ((with_reducible apply s_mpu); (case h1 | hk => rfl); (case ha | hp => first | rfl | assumption)) | ((with_reducible apply zAl); (case h1 | hk => rfl); (case ha | hf => first | rfl | assumption)) | ((with_reducible apply zAm); (case h1 | hk => rfl); (case hf | ha => first | rfl | assumption)) | (with_reducible first | (apply cA; constructor) | (apply gA; constructor)) | ((with_reducible refine And.intro ?hw ?_); (case hw => first | omega | rfl | exact ⟨_, _, rfl⟩ | assumption | (simp only [lN, hkl, hgk, h4, h5] <;> omega))) | with_reducible intro _)
                          all_goals first | omega | skip
                          all_goals first
                            | (simp; done)
                            | (refine ⟨(m + 1, G9, cg9), ⟨by simp; omega, hG9⟩, by simp; omega, ?_⟩; simp [keepE, St.keep, St.keepG, St.gc, Hp.cut, D.rn, D.rnL, Blk.rnL, Blk.rn, Tv.rnL, pairs, cutF, Own.rn, hrn, hrnF9, hrnG9, hpG]))
                      · have t3 : decide (((m : Nat) : Int) < s.kinds.length) = false := by simp; omega
                        repeat' (first | with_reducible (apply swq; constructor) | simp only [go_sem, seval, pe14, q14, hkl, t3, zAt] | ((with_reducible apply s_mpu); (case h1 | hk => rfl); (case ha | hp => first | rfl | assumption)) | ((with_reducible apply zAl); (case h1 | hk => rfl); (case ha | hf => first | rfl | assumption)) | ((with_reducible apply zAm); (case h1 | hk => rfl); (case hf | ha => first | rfl | assumption)) | (with_reducible first | (apply cA; constructor) | (apply gA; constructor)) | ((with_reducible refine And.intro ?hw ?_); (case hw => first | omega | rfl | exact ⟨_, _, rfl⟩ | assumption | (simp only [lN, hkl] <;> omega))) | with_reducible intro _)
                        all_goals first | omega | skip
                        all_goals simp [keepE, St.keep, St.keepG, St.gc, Hp.cut, D.rn, D.rnL, Blk.rnL, Blk.rn, Tv.rnL, pairs, cutF, Own.rn, hrn, hrnF9, hrnG]
                  · rintro e s' (⟨rfl, hq⟩ | ⟨rfl, hq⟩)
                    · refine ⟨_, zBu (zBk [1, 2, 3, 4, 6, 10, 11, 12, 15, 16, 17]) (zB2 4 0 (Nat.zero_le _) (Nat.zero_le _)), ?_⟩
                      rw [show (St.gc { s' with env := keepE [1, 2, 3, 4, 6, 10, 11, 12, 15, 16, 17] 0 s'.env } 4 0 : St) = s'.keepG [1, 2, 3, 4, 6, 10, 11, 12, 15, 16, 17] 4 0 from rfl, hq]
                      repeat' (first | with_reducible (apply swq; constructor) | simp only [go_sem, seval, pe14, q14, hlen, zAt] | simp (disch := omega) only [w64, w32, wu8, wu16, wu32, wu64] | ((with_reducible apply s_mpu); (case h1 | hk => rfl); (case ha | hp => first | rfl | assumption)) | ((with_reducible apply zAl); (case h1 | hk => rfl); (case ha | hf => first | rfl | assumption)) | ((with_reducible apply zAm); (case h1 | hk => rfl); (case hf | ha => first | rfl | assumption)) | (with_reducible first | (apply cA; constructor) | (apply gA; constructor)) | ((with_reducible refine And.intro ?hw ?_); (case hw => first | omega | rfl | exact ⟨_, _, rfl⟩ | assumption | (simp only [lN] <;> omega))) | with_reducible intro _)
                      all_goals first | omega | skip
                      refine ⟨(j + 1, F9, cf9), ⟨by simp; omega, hF9⟩, by simp; omega, ?_⟩
                      simp [keepE, St.keep, St.keepG, St.gc, Hp.cut, D.rn, D.rnL, Blk.rnL, Blk.rn, Tv.rnL, pairs, cutF, Own.rn, hrn, hrnF9]
                    · refine ⟨s', zAh, ?_⟩
                      repeat' (first | with_reducible (apply swq; constructor) | simp only [go_sem, seval, pe14, q14, zAt] | ((with_reducible apply s_mpu); (case h1 | hk => rfl); (case ha | hp => first | rfl | assumption)) | ((with_reducible apply zAl); (case h1 | hk => rfl); (case ha | hf => first | rfl | assumption)) | ((with_reducible apply zAm); (case h1 | hk => rfl); (case hf | ha => first | rfl | assumption)) | (with_reducible first | (apply cA; constructor) | (apply gA; constructor)) | ((with_reducible refine And.intro ?hw ?_); (case hw => first | omega | rfl | exact ⟨_, _, rfl⟩ | assumption | (simp only [lN] <;> omega))) | with_reducible intro _)
                      first | exact .inr hq | (simp at hq ⊢; exact hq))
              · have t2 : decide (((j : Nat) : Int) < k.slots.length) = false := by simp; omega
                repeat' (first | with_reducible (apply swq; constructor) | simp only [go_sem, seval, pe14, q14, hsl, t2, zAt] | ((with_reducible apply s_mpu); (case h1 | hk => rfl); (case ha | hp => first | rfl | assumption)) | ((with_reducible apply zAl); (case h1 | hk => rfl); (case ha | hf => first | rfl | assumption)) | ((with_reducible apply zAm); (case h1 | hk => rfl); (case hf | ha => first | rfl | assumption)) | (with_reducible first | (apply cA; constructor) | (apply gA; constructor)) | ((with_reducible refine And.intro ?hw ?_); (case hw => first | omega | rfl | exact ⟨_, _, rfl⟩ | assumption | (simp only [lN, hsl] <;> omega))) | with_reducible intro _)
                all_goals first | omega | skip
                all_goals simp [keepE, St.keep, St.keepG, St.gc, Hp.cut, D.rn, D.rnL, Blk.rnL, Blk.rn, Tv.rnL, pairs, cutF, Own.rn, hrn, hrnF]
          · rintro e s' (⟨rfl, hq⟩ | ⟨rfl, hq⟩)
            · refine ⟨_, zBu (zBk [1, 2, 3, 4, 10, 11, 12]) (zB2 3 0 (Nat.zero_le _) (Nat.zero_le _)), ?_⟩
              rw [show (St.gc { s' with env := keepE [1, 2, 3, 4, 10, 11, 12] 0 s'.env } 3 0 : St) = s'.keepG [1, 2, 3, 4, 10, 11, 12] 3 0 from rfl, hq]
              repeat' (first | with_reducible (apply swq; constructor) | simp only [go_sem, seval, pe14, q14, hlen, zAt] | simp (disch := omega) only [w64, w32, wu8, wu16, wu32, wu64] | ((with_reducible apply s_mpu); (case h1 | hk => rfl); (case ha | hp => first | rfl | assumption)) | ((with_reducible apply zAl); (case h1 | hk => rfl); (case ha | hf => first | rfl | assumption)) | ((with_reducible apply zAm); (case h1 | hk => rfl); (case hf | ha => first | rfl | assumption)) | (with_reducible first | (apply cA; constructor) | (apply gA; constructor)) | ((with_reducible refine And.intro ?hw ?_); (case hw => first | omega | rfl | exact ⟨_, _, rfl⟩ | assumption | (simp only [lN] <;> omega))) | with_reducible intro _)
              all_goals first | omega | skip
              refine ⟨(i + 1, E9, ck9), ⟨by simp; omega, hE9⟩, by simp; omega, ?_⟩
              simp [keepE, St.keep, St.keepG, St.gc, Hp.cut, D.rn, D.rnL, Blk.rnL, Blk.rn, Tv.rnL, pairs, cutF, Own.rn, hp9, hrn9]
            · refine ⟨s', zAh, ?_⟩
              repeat' (first | with_reducible (apply swq; constructor) | simp only [go_sem, seval, pe14, q14, zAt] | ((with_reducible apply s_mpu); (case h1 | hk => rfl); (case ha | hp => first | rfl | assumption)) | ((with_reducible apply zAl); (case h1 | hk => rfl); (case ha | hf => first | rfl | assumption)) | ((with_reducible apply zAm); (case h1 | hk => rfl); (case hf | ha => first | rfl | assumption)) | (with_reducible first | (apply cA; constructor) | (apply gA; constructor)) | ((with_reducible refine And.intro ?hw ?_); (case hw => first | omega | rfl | exact ⟨_, _, rfl⟩ | assumption | (simp only [lN] <;> omega))) | with_reducible intro _)
              first | exact .inr hq | (simp at hq ⊢; exact hq)
      · have t1 : decide (((i : Nat) : Int) < c.length) = false := by simp; omega
        repeat' (first | with_reducible (apply swq; constructor) | simp only [go_sem, seval, pe14, q14, hlen, t1, zAt] | simp (disch := omega) only [w64, w32, wu8, wu16, wu32, wu64] | ((with_reducible apply s_mpu); (case h1 | hk => rfl); (case ha | hp => first | rfl | assumption)) | ((with_reducible apply zAl); (case h1 | hk => rfl); (case ha | hf => first | rfl | assumption)) | ((with_reducible apply zAm); (case h1 | hk => rfl); (case hf | ha => first | rfl | assumption)) | (with_reducible first | (apply cA; constructor) | (apply gA; constructor)) | ((with_reducible refine And.intro ?hw ?_); (case hw => first | omega | rfl | exact ⟨_, _, rfl⟩ | assumption | (simp only [lN, hlen] <;> omega))) | with_reducible intro _)
        all_goals first | omega | skip
        all_goals simp [keepE, St.keep, St.keepG, St.gc, Hp.cut, D.rn, D.rnL, Blk.rnL, Blk.rn, Tv.rnL, pairs, cutF, Own.rn, hrn]
  · rintro e s' (⟨rfl, hq⟩ | ⟨rfl, hq⟩)
    · refine ⟨_, zBu (zBk [1]) (zB2 1 0 (Nat.zero_le _) (Nat.zero_le _)), ?_⟩
      rw [show (St.gc { s' with env := keepE [1] 0 s'.env } 1 0 : St) = s'.keepG [1] 1 0 from rfl, hq]
      repeat' (first | with_reducible (apply swq; constructor) | simp only [go_sem, seval, pe14, q14, hlen, zAt] | simp (disch := omega) only [w64, w32, wu8, wu16, wu32, wu64] | ((with_reducible apply s_mpu); (case h1 | hk => rfl); (case ha | hp => first | rfl | assumption)) | ((with_reducible apply zAl); (case h1 | hk => rfl); (case ha | hf => first | rfl | assumption)) | ((with_reducible apply zAm); (case h1 | hk => rfl); (case hf | ha => first | rfl | assumption)) | (with_reducible first | (apply cA; constructor) | (apply gA; constructor)) | ((with_reducible refine And.intro ?hw ?_); (case hw => first | omega | rfl | exact ⟨_, _, rfl⟩ | assumption | (simp only [lN] <;> omega))) | with_reducible intro _)
      all_goals first | omega | skip
      refine ⟨_, zB2 0 0 (Nat.zero_le _) (Nat.zero_le _), ?_⟩
      simp [St.gc, Hp.cut, D.rnL, D.rn, Rb, Blk.rnL, Tv.rnL]
    · refine ⟨s', zAh, ?_⟩
      repeat' (first | with_reducible (apply swq; constructor) | simp only [go_sem, seval, pe14, q14, zAt] | simp (disch := omega) only [w64, w32, wu8, wu16, wu32, wu64] | ((with_reducible apply s_mpu); (case h1 | hk => rfl); (case ha | hp => first | rfl | assumption)) | ((with_reducible apply zAl); (case h1 | hk => rfl); (case ha | hf => first | rfl | assumption)) | ((with_reducible apply zAm); (case h1 | hk => rfl); (case hf | ha => first | rfl | assumption)) | (with_reducible first | (apply cA; constructor) | (apply gA; constructor)) | ((with_reducible refine And.intro ?hw ?_); (case hw => first | omega | rfl | exact ⟨_, _, rfl⟩ | assumption | (simp only [lN] <;> omega))) | with_reducible intro _)
      exact fin_b rfl rfl hq trivial
end Go.Proofs.YtcchbohfcmfmlaaGreat
end
section
set_option maxRecDepth 100000
set_option linter.unusedSimpArgs false
set_option linter.unusedVariables false
namespace Go.Proofs.YtcchbohfcmfmlaaGreat
open Go GoV Go.RowKit
def ixN : List Tx → Tx → Nat
  | [], _ => 0
  | n :: l, s => if n = s then 0 else ixN l s + 1
theorem ixN_le : ∀ (l : List Tx) (s : Tx), ixN l s ≤ l.length
  | [], _ => Nat.le_refl _
  | n :: l, s => by simp only [ixN]; split <;> simp [ixN_le l s]
theorem ixN_ne : ∀ (l : List Tx) (s : Tx) (j : Nat) (h : j < ixN l s) (h' : j < l.length), l[j] ≠ s
  | [], s, j, h, h' => by simp at h'
  | n :: l, s, j, h, h' => by
    simp only [ixN] at h
    split at h
    · omega
    · rename_i e
      cases j with
      | zero => exact e
      | succ j => simpa using ixN_ne l s j (by omega) (by simpa using h')
theorem ixN_eq : ∀ (l : List Tx) (s : Tx) (h : ixN l s < l.length), l[ixN l s] = s
  | [], s, h => by simp [ixN] at h
  | n :: l, s, h => by
    by_cases e : n = s
    · simp [ixN, e]
    · simp only [ixN, if_neg e, List.getElem_cons_succ]
      simp only [ixN, if_neg e, List.length_cons] at h
      exact ixN_eq l s (by omega)
def ixI (l : List Tx) (s : Tx) : Int := if ixN l s < l.length then ixN l s else -1
theorem ifK (K : List D) (hR : RowsK 3 K) (hl : K.length ≤ 9223372036854775807) (f : FuncId) (a c : List D) (hp : Hp) (n : Nat) (hn : n ≤ K.length)
    (hf : ∀ j (h : j < n) (h' : j < K.length), Eff M f (a ++ [K[j]] ++ c) hp fun d h => d = .bool false ∧ h = hp) (r : Int)
    (hr : (n = K.length ∧ r = -1) ∨ (∃ h : n < K.length, r = n ∧ Eff M f (a ++ [K[n]] ++ c) hp fun d h => d = .bool true ∧ h = hp)) :
    Eff M 87 [.slice K .no, .fn (.func f) a c] hp fun d h => d = .int .i64 r ∧ h = hp := by
  refine k87.oe hp.H.length hp.tk.length rfl rfl rfl ?_
  rw [ie87]
  unfold c87
  repeat' (first | with_reducible (apply swq; constructor) | simp only [go_sem, seval, pe87, q87] | simp (disch := omega) only [w64, w32, wu8, wu16, wu32, wu64] | with_reducible (apply cA; constructor) | ((with_reducible refine And.intro ?hw ?_); (case hw => first | omega | rfl | exact ⟨_, _, rfl⟩ | assumption | (simp only [lN] <;> omega))) | with_reducible intro _)
  refine zAz [0, 1, 2, 4, 5] (fun j : Nat => ⟨[.slice K .no, .fn (.func f) a c, .int .i64 0, .u0, .int .i64 K.length, .int .i64 j, .u0, .u0], [], hp⟩) (fun j => j ≤ n) (fun j => n + 1 - j) 0 (by omega) ?_ ?_
  · simp [keepE, St.keep]
  · intro j hj
    by_cases hjn : j < n
    · have hjl : j < K.length := by omega
      obtain ⟨cs, e1, e2⟩ := hR j hjl
      have hg : K.getD j .u0 = .agg cs := by simp [List.getD, hjl, e1]
      have htk : cs.take 3 = cs := List.take_of_length_le (by omega)
      have c1 := hf j hjn hjl
      rw [e1] at c1
      repeat' (first | with_reducible (apply swq; constructor) | simp only [go_sem, seval, pe87, q87, hg, htk, e2] | simp (disch := omega) only [w64, w32, wu8, wu16, wu32, wu64] | ((with_reducible refine zBs (c1) ?he ?hh ?_); (case he => first | rfl | (simp [go_sem, seval, hg, e2]; done)); (case hh => first | rfl | (simp [go_sem, seval, hg, e2]; done))) | with_reducible (apply cA; constructor) | ((with_reducible refine And.intro ?hw ?_); (case hw => first | omega | rfl | exact ⟨_, _, rfl⟩ | assumption | (simp only [lN, hg, e2] <;> omega))) | with_reducible intro _)
      all_goals try omega
      all_goals try (refine ⟨j + 1, by omega, by omega, ?_⟩; simp [St.keep, keepE])
    · obtain rfl : j = n := by omega
      rcases hr with ⟨h1, rfl⟩ | ⟨h1, rfl, c1⟩
      · repeat' (first | with_reducible (apply swq; constructor) | simp only [go_sem, seval, pe87, q87] | simp (disch := omega) only [w64, w32, wu8, wu16, wu32, wu64] | with_reducible (apply cA; constructor) | ((with_reducible refine And.intro ?hw ?_); (case hw => first | omega | rfl | exact ⟨_, _, rfl⟩ | assumption | (simp only [lN] <;> omega))) | with_reducible intro _)
        all_goals try omega
        all_goals exact ⟨_, zAh, by simp⟩
      · obtain ⟨cs, e1, e2⟩ := hR j h1
        have hg : K.getD j .u0 = .agg cs := by simp [List.getD, h1, e1]
        have htk : cs.take 3 = cs := List.take_of_length_le (by omega)
        rw [e1] at c1
        repeat' (first | with_reducible (apply swq; constructor) | simp only [go_sem, seval, pe87, q87, hg, htk, e2] | simp (disch := omega) only [w64, w32, wu8, wu16, wu32, wu64] | ((with_reducible refine zBs (c1) ?he ?hh ?_); (case he => first | rfl | (simp [go_sem, seval, hg, e2]; done)); (case hh => first | rfl | (simp [go_sem, seval, hg, e2]; done))) | with_reducible (apply cA; constructor) | ((with_reducible refine And.intro ?hw ?_); (case hw => first | omega | rfl | exact ⟨_, _, rfl⟩ | assumption | (simp only [lN, hg, e2] <;> omega))) | with_reducible intro _)
        all_goals try omega
        all_goals exact ⟨_, zAh, by simp⟩
theorem ifS (K : List D) (hR : RowsK 3 K) (hl : K.length ≤ 9223372036854775807) (f : FuncId) (a c : List D) (hp : Hp) (n : Nat) (hn : n ≤ K.length)
    (hf : ∀ j (h : j < n) (h' : j < K.length), Eff M f (a ++ [K[j]] ++ c) hp fun d h => d = .bool false ∧ h = hp) (r : Int)
    (hr : (n = K.length ∧ r = -1) ∨ (∃ h : n < K.length, r = n ∧ Eff M f (a ++ [K[n]] ++ c) hp fun d h => d = .bool true ∧ h = hp)) :
    Eff M 89 [.slice K .no, .fn (.func f) a c] hp fun d h => d = .int .i64 r ∧ h = hp := by
  refine k89.oe hp.H.length hp.tk.length rfl rfl rfl ?_
  rw [ie89]
  unfold c89
  repeat' (first | with_reducible (apply swq; constructor) | simp only [go_sem, seval, pe89, q89] | simp (disch := omega) only [w64, w32, wu8, wu16, wu32, wu64] | with_reducible (apply cA; constructor) | ((with_reducible refine And.intro ?hw ?_); (case hw => first | omega | rfl | exact ⟨_, _, rfl⟩ | assumption | (simp only [lN] <;> omega))) | with_reducible intro _)
  refine zAz [0, 1, 2, 4, 5] (fun j : Nat => ⟨[.slice K .no, .fn (.func f) a c, .int .i64 0, .u0, .int .i64 K.length, .int .i64 j, .u0, .u0], [], hp⟩) (fun j => j ≤ n) (fun j => n + 1 - j) 0 (by omega) ?_ ?_
  · simp [keepE, St.keep]
  · intro j hj
    by_cases hjn : j < n
    · have hjl : j < K.length := by omega
      obtain ⟨cs, e1, e2⟩ := hR j hjl
      have hg : K.getD j .u0 = .agg cs := by simp [List.getD, hjl, e1]
      have htk : cs.take 3 = cs := List.take_of_length_le (by omega)
      have c1 := hf j hjn hjl
      rw [e1] at c1
      repeat' (first | with_reducible (apply swq; constructor) | simp only [go_sem, seval, pe89, q89, hg, htk, e2] | simp (disch := omega) only [w64, w32, wu8, wu16, wu32, wu64] | ((with_reducible refine zBs (c1) ?he ?hh ?_); (case he => first | rfl | (simp [go_sem, seval, hg, e2]; done)); (case hh => first | rfl | (simp [go_sem, seval, hg, e2]; done))) | with_reducible (apply cA; constructor) | ((with_reducible refine And.intro ?hw ?_); (case hw => first | omega | rfl | exact ⟨_, _, rfl⟩ | assumption | (simp only [lN, hg, e2] <;> omega))) | with_reducible intro _)
      all_goals try omega
      all_goals try (refine ⟨j + 1, by omega, by omega, ?_⟩; simp [St.keep, keepE])
    · obtain rfl : j = n := by omega
      rcases hr with ⟨h1, rfl⟩ | ⟨h1, rfl, c1⟩
      · repeat' (first | with_reducible (apply swq; constructor) | simp only [go_sem, seval, pe89, q89] | simp (disch := omega) only [w64, w32, wu8, wu16, wu32, wu64] | with_reducible (apply cA; constructor) | ((with_reducible refine And.intro ?hw ?_); (case hw => first | omega | rfl | exact ⟨_, _, rfl⟩ | assumption | (simp only [lN] <;> omega))) | with_reducible intro _)
        all_goals try omega
        all_goals exact ⟨_, zAh, by simp⟩
      · obtain ⟨cs, e1, e2⟩ := hR j h1
        have hg : K.getD j .u0 = .agg cs := by simp [List.getD, h1, e1]
        have htk : cs.take 3 = cs := List.take_of_length_le (by omega)
        rw [e1] at c1
        repeat' (first | with_reducible (apply swq; constructor) | simp only [go_sem, seval, pe89, q89, hg, htk, e2] | simp (disch := omega) only [w64, w32, wu8, wu16, wu32, wu64] | ((with_reducible refine zBs (c1) ?he ?hh ?_); (case he => first | rfl | (simp [go_sem, seval, hg, e2]; done)); (case hh => first | rfl | (simp [go_sem, seval, hg, e2]; done))) | with_reducible (apply cA; constructor) | ((with_reducible refine And.intro ?hw ?_); (case hw => first | omega | rfl | exact ⟨_, _, rfl⟩ | assumption | (simp only [lN, hg, e2] <;> omega))) | with_reducible intro _)
        all_goals try omega
        all_goals exact ⟨_, zAh, by simp⟩
theorem ixK_p (l : List Kd) (s : Tx) (hl : l.length ≤ 9223372036854775807) : Pur M 58 [.slice (l.map kdD) .no, .fn (.func 59) [] [], .str s] (.int .i64 (ixI (l.map (·.name)) s)) := by
  refine k58.ok (C := C58) rfl rfl ?_
  rw [i58]
  unfold c58
  have hlen : (l.map kdD).length = l.length := by simp
  have hle := ixN_le (l.map (·.name)) s
  have e1 : ∀ j (h : j < l.length), Eff M 88 ([] ++ [(l.map kdD)[j]'(by rw [hlen]; exact h)] ++ [.ptr 0 0, .ptr 1 0]) (hpN 59 s) fun d h' => d = .bool (l[j].name == s) ∧ h' = hpN 59 s := fun j h => by
    simp only [List.getElem_map]; exact isK_e _ s
  have c1 : Eff M 87 [.slice (l.map kdD) .no, .fn (.func 88) [] [.ptr 0 0, .ptr 1 0]] (hpN 59 s) fun d h => d = .int .i64 (ixI (l.map (·.name)) s) ∧ h = hpN 59 s := by
    rw [List.length_map] at hle
    refine ifK _ (rows_K l) (by omega) 88 [] [.ptr 0 0, .ptr 1 0] (hpN 59 s) (ixN (l.map (·.name)) s) (by omega) (fun j h h' => ?_) _ ?_
    · have := e1 j (by omega)
      have hne := ixN_ne (l.map (·.name)) s j h (by rw [List.length_map]; omega)
      rw [List.getElem_map] at hne
      rw [show (l[j].name == s) = false from by rw [beq_eq_false_iff_ne]; exact hne] at this
      exact this
    · by_cases h : ixN (l.map (·.name)) s < l.length
      · refine .inr ⟨by omega, by unfold ixI; rw [List.length_map, if_pos h], ?_⟩
        have := e1 _ h
        have he := ixN_eq (l.map (·.name)) s (by rw [List.length_map]; omega)
        rw [List.getElem_map] at he
        rw [show (l[ixN (l.map (·.name)) s].name == s) = true from by rw [beq_iff_eq]; exact he] at this
        exact this
      · refine .inl ⟨by omega, ?_⟩
        unfold ixI; rw [List.length_map, if_neg h]
  repeat' (first | with_reducible (apply swq; constructor) | simp only [go_sem, seval, P58, q58] | ((with_reducible refine zBs (c1) ?he ?hh ?_); (case he => first | rfl | (simp [go_sem, seval]; done)); (case hh => first | rfl | (simp [go_sem, seval]; done))) | with_reducible (apply cA; constructor) | ((with_reducible refine And.intro ?hw ?_); (case hw => first | omega | rfl | exact ⟨_, _, rfl⟩ | assumption | (simp only [lN] <;> omega))) | with_reducible intro _)
  all_goals simp [D.closed, D.er]
theorem ixS_p (l : List Sl) (s : Tx) (hl : l.length ≤ 9223372036854775807) : Pur M 60 [.slice (l.map slD) .no, .fn (.func 61) [] [], .str s] (.int .i64 (ixI (l.map (·.name)) s)) := by
  refine k60.ok (C := C60) rfl rfl ?_
  rw [i60]
  unfold c60
  have hlen : (l.map slD).length = l.length := by simp
  have hle := ixN_le (l.map (·.name)) s
  have e1 : ∀ j (h : j < l.length), Eff M 90 ([] ++ [(l.map slD)[j]'(by rw [hlen]; exact h)] ++ [.ptr 0 0, .ptr 1 0]) (hpN 61 s) fun d h' => d = .bool (l[j].name == s) ∧ h' = hpN 61 s := fun j h => by
    simp only [List.getElem_map]; exact isS_e _ s
  have c1 : Eff M 89 [.slice (l.map slD) .no, .fn (.func 90) [] [.ptr 0 0, .ptr 1 0]] (hpN 61 s) fun d h => d = .int .i64 (ixI (l.map (·.name)) s) ∧ h = hpN 61 s := by
    rw [List.length_map] at hle
    refine ifS _ (rows_S l) (by omega) 90 [] [.ptr 0 0, .ptr 1 0] (hpN 61 s) (ixN (l.map (·.name)) s) (by omega) (fun j h h' => ?_) _ ?_
    · have := e1 j (by omega)
      have hne := ixN_ne (l.map (·.name)) s j h (by rw [List.length_map]; omega)
      rw [List.getElem_map] at hne
      rw [show (l[j].name == s) = false from by rw [beq_eq_false_iff_ne]; exact hne] at this
      exact this
    · by_cases h : ixN (l.map (·.name)) s < l.length
      · refine .inr ⟨by omega, by unfold ixI; rw [List.length_map, if_pos h], ?_⟩
        have := e1 _ h
        have he := ixN_eq (l.map (·.name)) s (by rw [List.length_map]; omega)
        rw [List.getElem_map] at he
        rw [show (l[ixN (l.map (·.name)) s].name == s) = true from by rw [beq_iff_eq]; exact he] at this
        exact this
      · refine .inl ⟨by omega, ?_⟩
        unfold ixI; rw [List.length_map, if_neg h]
  repeat' (first | with_reducible (apply swq; constructor) | simp only [go_sem, seval, P60, q60] | ((with_reducible refine zBs (c1) ?he ?hh ?_); (case he => first | rfl | (simp [go_sem, seval]; done)); (case hh => first | rfl | (simp [go_sem, seval]; done))) | with_reducible (apply cA; constructor) | ((with_reducible refine And.intro ?hw ?_); (case hw => first | omega | rfl | exact ⟨_, _, rfl⟩ | assumption | (simp only [lN] <;> omega))) | with_reducible intro _)
  all_goals simp [D.closed, D.er]
end Go.Proofs.YtcchbohfcmfmlaaGreat
end
section
set_option maxRecDepth 100000
set_option linter.unusedSimpArgs false
set_option linter.unusedVariables false
namespace Go.Proofs.YtcchbohfcmfmlaaGreat
open Go GoV Go.RowKit
def findK (c : List Kd) (s : Tx) : Option Kd := c[ixN (c.map (·.name)) s]?
theorem findK_mem {c : List Kd} {s : Tx} {k : Kd} (h : findK c s = some k) : k ∈ c := List.mem_of_getElem? h
def findD (c : List Kd) (s : Tx) : D := match findK c s with
  | some k => .tup [kdD k, .bool true]
  | none => .tup [.agg [.str [], .bool false, .lit (.slice none 0 0)], .bool false]
theorem cfind_p (c : List Kd) (s : Tx) (hc : CatIn c) : Pur M 31 [catD c, .str s] (findD c s) := by
  refine k31.ok (C := C31) rfl rfl ?_
  rw [i31]
  unfold c31
  have c1 := ixK_p c s hc.1
  unfold findD findK
  have hle := ixN_le (c.map (·.name)) s
  have hck := cl_kds c
  have hek := er_kds c
  unfold ixI at c1
  rw [List.length_map] at hle c1
  generalize ixN (c.map (·.name)) s = n at *
  obtain ⟨hc1, hc2⟩ := hc
  by_cases h : n < c.length
  · rw [if_pos h] at c1
    have hg := kd_get h
    rw [List.getElem?_eq_getElem h]
    have hs := cl_sls c[n].slots
    have he := er_sls c[n].slots
    generalize c[n] = k at *
    have hlen : (c.map kdD).length = c.length := by simp
    repeat' (first | with_reducible (apply swq; constructor) | simp only [go_sem, seval, P31, q31, hlen, hg] | ((with_reducible refine zAb (c1) ?he ?hc ?_); (case he | hc => first | rfl | (simp [D.erL, D.er, D.cL, D.closed, hlen, hg, hck, hek]; done))) | with_reducible (apply cA; constructor) | ((with_reducible refine And.intro ?hw ?_); (case hw => first | omega | rfl | exact ⟨_, _, rfl⟩ | assumption | (simp only [lN, hlen, hg, hck, hek] <;> omega))) | with_reducible intro _)
    all_goals first | omega | skip
    all_goals simp [D.closed, D.er, D.cL, D.erL, kdD, hs, he]
  · rw [if_neg h] at c1
    rw [List.getElem?_eq_none (by omega)]
    repeat' (first | with_reducible (apply swq; constructor) | simp only [go_sem, seval, P31, q31] | ((with_reducible refine zAb (c1) ?he ?hc ?_); (case he | hc => first | rfl | (simp [D.erL, D.er, D.cL, D.closed, hck, hek]; done))) | with_reducible (apply cA; constructor) | ((with_reducible refine And.intro ?hw ?_); (case hw => first | omega | rfl | exact ⟨_, _, rfl⟩ | assumption | (simp only [lN, hck, hek] <;> omega))) | with_reducible intro _)
    all_goals first | omega | skip
    all_goals simp [D.closed, D.er, D.cL, D.erL]
def slotK (c : List Kd) (kind s : Tx) : Option Sl := match findK c kind with
  | some k => k.slots[ixN (k.slots.map (·.name)) s]?
  | none => none
def slotD (c : List Kd) (kind s : Tx) : D := match slotK c kind s with
  | some k => .tup [slD k, .bool true]
  | none => .tup [.agg [.str [], .lit (.slice none 0 0), .int .i64 0], .bool false]
theorem slot_p (c : List Kd) (kind s : Tx) (hc : CatIn c) : Pur M 34 [catD c, .str kind, .str s] (slotD c kind s) := by
  refine k34.ok (C := C34) rfl rfl ?_
  rw [i34]
  unfold c34
  have c1 := cfind_p c kind hc
  have hck := cl_kds c
  have hek := er_kds c
  unfold slotD slotK
  unfold findD at c1
  cases hf : findK c kind with
  | none =>
    rw [hf] at c1
    have c2 := ixS_p [] s (by simp)
    simp only [List.map_nil, ixI, ixN, List.length_nil, Nat.lt_irrefl, if_false] at c2
    repeat' (first | with_reducible (apply swq; constructor) | simp only [go_sem, seval, P34, q34] | ((with_reducible refine zAb (c1) ?he ?hc ?_); (case he | hc => first | rfl | (simp [D.erL, D.er, D.cL, D.closed, hck, hek]; done))) | ((with_reducible refine o_callN (c2) ?he ?hc ?_); (case he | hc => first | rfl | (simp [D.erL, D.er, D.nnL, D.nn, D.cL, D.closed, hck, hek]; done))) | with_reducible (apply cA; constructor) | ((with_reducible refine And.intro ?hw ?_); (case hw => first | omega | rfl | exact ⟨_, _, rfl⟩ | assumption | (simp only [lN, hck, hek] <;> omega))) | with_reducible intro _)
    all_goals first | omega | skip
    all_goals simp [D.closed, D.er, D.cL, D.erL]
  | some k =>
    rw [hf] at c1
    obtain ⟨k1, k2, k3⟩ := hc.2 k (findK_mem hf)
    have c2 := ixS_p k.slots s k2
    have hle := ixN_le (k.slots.map (·.name)) s
    unfold ixI at c2
    rw [List.length_map] at hle c2
    have hcs := cl_sls k.slots
    have hes := er_sls k.slots
    have hlen : (k.slots.map slD).length = k.slots.length := by simp
    simp only
    unfold kdD at c1
    generalize ixN (k.slots.map (·.name)) s = n at *
    by_cases h : n < k.slots.length
    · rw [if_pos h] at c2
      have hg := sl_get h
      rw [List.getElem?_eq_getElem h]
      generalize k.slots[n] = x at *
      repeat' (first | with_reducible (apply swq; constructor) | simp only [go_sem, seval, P34, q34, hlen, hg] | ((with_reducible refine zAb (c1) ?he ?hc ?_); (case he | hc => first | rfl | (simp [D.erL, D.er, D.cL, D.closed, hlen, hg, hck, hek, hcs, hes]; done))) | ((with_reducible refine zAb (c2) ?he ?hc ?_); (case he | hc => first | rfl | (simp [D.erL, D.er, D.cL, D.closed, hlen, hg, hck, hek, hcs, hes]; done))) | with_reducible (apply cA; constructor) | ((with_reducible refine And.intro ?hw ?_); (case hw => first | omega | rfl | exact ⟨_, _, rfl⟩ | assumption | (simp only [lN, hlen, hg, hck, hek, hcs, hes] <;> omega))) | with_reducible intro _)
      all_goals first | omega | skip
      all_goals simp [D.closed, D.er, D.cL, D.erL, slD, zDg, zDr]
    · rw [if_neg h] at c2
      rw [List.getElem?_eq_none (by omega)]
      repeat' (first | with_reducible (apply swq; constructor) | simp only [go_sem, seval, P34, q34, hlen] | ((with_reducible refine zAb (c1) ?he ?hc ?_); (case he | hc => first | rfl | (simp [D.erL, D.er, D.cL, D.closed, hlen, hck, hek, hcs, hes]; done))) | ((with_reducible refine zAb (c2) ?he ?hc ?_); (case he | hc => first | rfl | (simp [D.erL, D.er, D.cL, D.closed, hlen, hck, hek, hcs, hes]; done))) | with_reducible (apply cA; constructor) | ((with_reducible refine And.intro ?hw ?_); (case hw => first | omega | rfl | exact ⟨_, _, rfl⟩ | assumption | (simp only [lN, hlen, hck, hek, hcs, hes] <;> omega))) | with_reducible intro _)
      all_goals first | omega | skip
      all_goals simp [D.closed, D.er, D.cL, D.erL]
def takesB (c : List Kd) (kind s other : Tx) : Bool := match slotK c kind s with
  | some k => k.kinds.contains other
  | none => false
theorem takes_p (c : List Kd) (kind s other : Tx) (hc : CatIn c) : Pur M 20 [catD c, .str kind, .str s, .str other] (.bool (takesB c kind s other)) := by
  refine k20.ok (C := C20) rfl rfl ?_
  rw [i20]
  unfold c20
  have c1 := slot_p c kind s hc
  have hck := cl_kds c
  have hek := er_kds c
  unfold takesB
  unfold slotD at c1
  cases hf : slotK c kind s with
  | none =>
    rw [hf] at c1
    repeat' (first | with_reducible (apply swq; constructor) | simp only [go_sem, seval, P20, q20] | ((with_reducible refine zAb (c1) ?he ?hc ?_); (case he | hc => first | rfl | (simp [D.erL, D.er, D.cL, D.closed, hck, hek]; done))) | (with_reducible first | (apply cA; constructor) | (apply gA; constructor)) | ((with_reducible refine And.intro ?hw ?_); (case hw => first | omega | rfl | exact ⟨_, _, rfl⟩ | assumption | (simp only [lN, hck, hek] <;> omega))) | with_reducible intro _)
    all_goals first | omega | skip
    all_goals simp [D.closed, D.er, D.cL, D.erL]
  | some x =>
    rw [hf] at c1
    have hx : x.In := by
      unfold slotK at hf
      cases hk : findK c kind with
      | none => rw [hk] at hf; cases hf
      | some k =>
        rw [hk] at hf
        exact (hc.2 k (findK_mem hk)).2.2 x (List.mem_of_getElem? hf)
    have c2 := contains66 x.kinds other (by have := hx.2; omega)
    have hcs := zDg x.kinds
    have hes := zDr x.kinds
    unfold slD at c1
    simp only
    generalize x.kinds.contains other = b at *
    repeat' (first | with_reducible (apply swq; constructor) | simp only [go_sem, seval, P20, q20] | ((with_reducible refine zAb (c1) ?he ?hc ?_); (case he | hc => first | rfl | (simp [D.erL, D.er, D.cL, D.closed, hck, hek, hcs, hes]; done))) | ((with_reducible refine zAb (c2) ?he ?hc ?_); (case he | hc => first | rfl | (simp [D.erL, D.er, D.cL, D.closed, hck, hek, hcs, hes]; done))) | (with_reducible first | (apply cA; constructor) | (apply gA; constructor)) | ((with_reducible refine And.intro ?hw ?_); (case hw => first | omega | rfl | exact ⟨_, _, rfl⟩ | assumption | (simp only [lN, hck, hek, hcs, hes] <;> omega))) | with_reducible intro _)
    all_goals first | omega | skip
    all_goals simp [D.closed, D.er, D.cL, D.erL]
end Go.Proofs.YtcchbohfcmfmlaaGreat
end
section
set_option maxRecDepth 100000
set_option linter.unusedSimpArgs false
set_option linter.unusedVariables false
namespace Go.Proofs.YtcchbohfcmfmlaaGreat
open Go GoV Go.RowKit
section
variable {P : Mod} {r : List RO} {rq : List (RO × Bool)} {K : St → Prop} {s : St} {dst : Dst}
theorem o_sgeB {u v : List UInt8} : OpS P (.bin .geq) [.str u, .str v] dst r K s = opsWp P r K (s.put dst (.bool (!(Op.bytesLess u v)))) := by simp [OpS, OcWp, zAc, opWp, binWp]
theorem p_sgeB {u v : List UInt8} : OpQ P (.bin .geq) [.str u, .str v] dst rq K s = opsQ P rq K (s.put dst (.bool (!(Op.bytesLess u v)))) := by simp [OpQ, zAg, zAc, opWp, binWp]
end
attribute [go_sem] o_sgeB p_sgeB
theorem pname_p (p : Pt) : Pur M 16 [ptD p] (.str p.name) := by
  refine k16.ok (C := C16) rfl rfl ?_
  rw [i16]
  unfold c16
  unfold ptD
  repeat' (first | with_reducible (apply swq; constructor) | simp only [go_sem, seval, P16, q16] | with_reducible (apply cA; constructor) | ((with_reducible refine And.intro ?hw ?_); (case hw => first | omega | rfl | exact ⟨_, _, rfl⟩ | assumption | (simp only [lN] <;> omega))) | with_reducible intro _)
  all_goals simp [D.closed, D.er]
theorem pkey_p (x : Tx × Tx) : Pur M 33 [propD x] (.str x.1) := by
  refine k33.ok (C := C33) rfl rfl ?_
  rw [i33]
  unfold c33
  unfold propD
  repeat' (first | with_reducible (apply swq; constructor) | simp only [go_sem, seval, P33, q33] | with_reducible (apply cA; constructor) | ((with_reducible refine And.intro ?hw ?_); (case hw => first | omega | rfl | exact ⟨_, _, rfl⟩ | assumption | (simp only [lN] <;> omega))) | with_reducible intro _)
  all_goals simp [D.closed, D.er]
def amtB (v : Int × Int) : Bool := decide (0 ≤ v.1) && decide (v.1 ≤ v.2) && decide (v.2 ≤ 1000000000000)
theorem amt_p (v : Int × Int) : Pur M 29 [ivD v] (.bool (amtB v)) := by
  refine k29.ok (C := C29) rfl rfl ?_
  rw [i29]
  unfold c29
  unfold amtB
  repeat' (first | with_reducible (apply swq; constructor) | simp only [go_sem, seval, P29, q29] | (with_reducible first | (apply cA; constructor) | (apply gA; constructor)) | ((with_reducible refine And.intro ?hw ?_); (case hw => first | omega | rfl | exact ⟨_, _, rfl⟩ | assumption | (simp only [lN] <;> omega))) | with_reducible intro _)
  all_goals first | omega | (simp_all [D.closed, D.er, D.cL, D.erL]; done) | (simp_all [D.closed, D.er, D.cL, D.erL] <;> omega)
def proB (x : Tx × Tx) : Bool := zC0 x.1 && (!(x.2 == []) && decide (x.2.length ≤ 200))
theorem pro_p (x : Tx × Tx) (h : x.1.length ≤ 9223372036854775807) : Pur M 30 [propD x] (.bool (proB x)) := by
  refine k30.ok (C := C30) rfl rfl ?_
  rw [i30]
  unfold c30
  unfold proB propD
  have c1 := name_p x.1 (by omega)
  generalize zC0 x.1 = b at *
  have hd : decide ((x.2.length : Int) ≤ 200) = decide (x.2.length ≤ 200) := by rw [decide_eq_decide]; omega
  cases b
  · repeat' (first | with_reducible (apply swq; constructor) | simp only [go_sem, seval, P30, q30] | ((with_reducible refine zAb (c1) ?he ?hc ?_); (case he | hc => first | rfl | (simp [D.erL, D.er, D.cL, D.closed]; done))) | (with_reducible first | (apply cA; constructor) | (apply gA; constructor)) | ((with_reducible refine And.intro ?hw ?_); (case hw => first | omega | rfl | exact ⟨_, _, rfl⟩ | assumption | (simp only [lN] <;> omega))) | with_reducible intro _)
    all_goals simp [D.closed, D.er]
  · cases he : x.2 == []
    · repeat' (first | with_reducible (apply swq; constructor) | simp only [go_sem, seval, P30, q30, hd, he] | ((with_reducible refine zAb (c1) ?he ?hc ?_); (case he | hc => first | rfl | (simp [D.erL, D.er, D.cL, D.closed]; done))) | (with_reducible first | (apply cA; constructor) | (apply gA; constructor)) | ((with_reducible refine And.intro ?hw ?_); (case hw => first | omega | rfl | exact ⟨_, _, rfl⟩ | assumption | (simp only [lN] <;> omega))) | with_reducible intro _)
      all_goals simp_all [D.closed, D.er]
    · repeat' (first | with_reducible (apply swq; constructor) | simp only [go_sem, seval, P30, q30, hd, he] | ((with_reducible refine zAb (c1) ?he ?hc ?_); (case he | hc => first | rfl | (simp [D.erL, D.er, D.cL, D.closed]; done))) | (with_reducible first | (apply cA; constructor) | (apply gA; constructor)) | ((with_reducible refine And.intro ?hw ?_); (case hw => first | omega | rfl | exact ⟨_, _, rfl⟩ | assumption | (simp only [lN] <;> omega))) | with_reducible intro _)
      all_goals simp_all [D.closed, D.er]
theorem cl_ptc (p : Pt) : D.cL p.cells = true := by simp [D.closed, D.cL]
theorem er_ptc (p : Pt) : D.erL p.cells = p.cells := by simp [D.er, D.erL]
def incB (l : List Tx) : Bool := (List.range (l.length - 1)).all fun i => lt (l.getD i []) (l.getD (i + 1) [])
theorem incB_incr {l : List Tx} (h : incB l = true) : Incr l := fun i hi => by
  unfold incB at h
  rw [List.all_eq_true] at h
  exact h i (List.mem_range.2 (by omega))
theorem incB_of {l : List Tx} (h : ∀ i, i + 1 < l.length → lt (l.getD i []) (l.getD (i + 1) []) = true) : incB l = true := by
  unfold incB
  rw [List.all_eq_true]
  intro i hi
  exact h i (by have := List.mem_range.1 hi; omega)
theorem incB_bad {l : List Tx} {i : Nat} (hi : i + 1 < l.length) (h : lt (l.getD i []) (l.getD (i + 1) []) = false) : incB l = false := by
  cases e : incB l with
  | false => rfl
  | true => have := incB_incr e i hi; rw [h] at this; cases this
theorem ordP_p (s : List Pt) (hl : s.length ≤ 9223372036854775807) : Pur M 15 [zAy s, .fn (.func 16) [] []] (.bool (incB (s.map (·.name)))) := by
  refine k15.ok (C := C15) rfl rfl ?_
  rw [i15]
  unfold c15
  have hlen : (s.map ptD).length = s.length := by simp
  repeat' (first | with_reducible (apply swq; constructor) | simp only [go_sem, seval, P15, q15] | with_reducible (apply cA; constructor) | ((with_reducible refine And.intro ?hw ?_); (case hw => first | omega | rfl | exact ⟨_, _, rfl⟩ | assumption | (simp only [lN] <;> omega))) | with_reducible intro _)
  refine zAz [0, 1, 2, 3] (fun j : Nat => ⟨[zAy s, .fn (.func 16) [] [], .bool false, .int .i64 (j + 1 : Nat), .u0, .u0], [], ⟨[], []⟩⟩) (fun j => (j + 1 ≤ s.length ∨ j = 0) ∧ ∀ i, i < j → i + 1 < s.length → lt ((s.map (·.name)).getD i []) ((s.map (·.name)).getD (i + 1) []) = true) (fun j => s.length + 1 - j) 0 ⟨.inr rfl, fun i h => by omega⟩ ?_ ?_
  · simp [keepE, St.keep]
  · rintro j ⟨hj, hb⟩
    by_cases hjl : j + 1 < s.length
    · have t1 : decide (((j + 1 : Nat) : Int) < s.length) = true := by simp; omega
      have hg : (s.map ptD).getD j .u0 = .agg (s[j]).cells := zBx (by omega)
      have hg2 : (s.map ptD).getD (j + 1) .u0 = .agg (s[j + 1]).cells := zBx hjl
      have c1 := pname_p s[j]
      have c2 := pname_p s[j + 1]
      have n1 : (s.map (·.name)).getD j [] = s[j].name := by simp [List.getD, show j < s.length by omega]
      have n2 : (s.map (·.name)).getD (j + 1) [] = s[j + 1].name := by simp [List.getD, hjl]
      have hbad := incB_bad (l := s.map (·.name)) (i := j) (by rw [List.length_map]; exact hjl)
      have hok : lt ((s.map (·.name)).getD j []) ((s.map (·.name)).getD (j + 1) []) = true → ∀ i, i < j + 1 → i + 1 < s.length → lt ((s.map (·.name)).getD i []) ((s.map (·.name)).getD (i + 1) []) = true := fun e i h h' => by
        by_cases q : i = j
        · subst q; exact e
        · exact hb i (by omega) h'
      rw [n1, n2] at hbad
      have hok1 := fun e => hok (by rw [n1, n2]; exact e)
      clear hok hb n1 n2
      have hp1 := cl_ptc s[j]
      have hp2 := cl_ptc s[j + 1]
      have hq1 := er_ptc s[j]
      have hq2 := er_ptc s[j + 1]
      have hi : IntKind.i64.wrap (((j + 1 : Nat) : Int) - 1) = (j : Nat) := by rw [w64 (by omega) (by omega)]; omega
      generalize s[j] = p at *
      generalize s[j + 1] = q at *
      unfold lt at hbad hok1
      cases hlt : Op.bytesLess p.name q.name
      · rw [hbad hlt]
        unfold ptD at c1 c2
        repeat' (first | with_reducible (apply swq; constructor) | simp only [go_sem, seval, P15, q15, hlen, t1, hi, hg, hg2, hlt] | ((with_reducible first | refine zAb (c1) ?he ?hc ?_ | refine zAe (c1) ?he ?hc ?_ | refine zAf (c1) ?he ?hc ?_); (case he | hc => first | rfl | (simp [D.erL, D.er, D.cL, D.closed, hlen, hg, hg2, hp1, hp2, hq1, hq2]; done))) | ((with_reducible first | refine zAb (c2) ?he ?hc ?_ | refine zAe (c2) ?he ?hc ?_ | refine zAf (c2) ?he ?hc ?_); (case he | hc => first | rfl | (simp [D.erL, D.er, D.cL, D.closed, hlen, hg, hg2, hp1, hp2, hq1, hq2]; done))) | with_reducible (apply cA; constructor) | ((with_reducible refine And.intro ?hw ?_); (case hw => first | omega | rfl | exact ⟨_, _, rfl⟩ | assumption | (simp only [lN, hlen, hg, hg2, hp1, hp2, hq1, hq2] <;> omega))) | with_reducible intro _)
        all_goals first | omega | skip
        all_goals simp [D.closed, D.er]
      · have hk := hok1 hlt
        unfold ptD at c1 c2
        repeat' (first | with_reducible (apply swq; constructor) | simp only [go_sem, seval, P15, q15, hlen, t1, hi, hg, hg2, hlt] | simp (disch := omega) only [w64, w32, wu8, wu16, wu32, wu64] | ((with_reducible first | refine zAb (c1) ?he ?hc ?_ | refine zAe (c1) ?he ?hc ?_ | refine zAf (c1) ?he ?hc ?_); (case he | hc => first | rfl | (simp [D.erL, D.er, D.cL, D.closed, hlen, hg, hg2, hp1, hp2, hq1, hq2]; done))) | ((with_reducible first | refine zAb (c2) ?he ?hc ?_ | refine zAe (c2) ?he ?hc ?_ | refine zAf (c2) ?he ?hc ?_); (case he | hc => first | rfl | (simp [D.erL, D.er, D.cL, D.closed, hlen, hg, hg2, hp1, hp2, hq1, hq2]; done))) | with_reducible (apply cA; constructor) | ((with_reducible refine And.intro ?hw ?_); (case hw => first | omega | rfl | exact ⟨_, _, rfl⟩ | assumption | (simp only [lN, hlen, hg, hg2, hp1, hp2, hq1, hq2] <;> omega))) | with_reducible intro _)
        all_goals first | omega | skip
        refine ⟨j + 1, ⟨.inl (by omega), hk⟩, by omega, ?_⟩
        simp [keepE, St.keep]
    · have t1 : decide (((j + 1 : Nat) : Int) < s.length) = false := by simp; omega
      rw [incB_of fun i hi => hb i (by simp at hi; omega) (by simpa using hi)]
      repeat' (first | with_reducible (apply swq; constructor) | simp only [go_sem, seval, P15, q15, hlen, t1] | with_reducible (apply cA; constructor) | ((with_reducible refine And.intro ?hw ?_); (case hw => first | omega | rfl | exact ⟨_, _, rfl⟩ | assumption | (simp only [lN, hlen] <;> omega))) | with_reducible intro _)
      all_goals first | omega | skip
      all_goals simp [D.closed, D.er]
end Go.Proofs.YtcchbohfcmfmlaaGreat
end
section
set_option maxRecDepth 100000
set_option linter.unusedSimpArgs false
set_option linter.unusedVariables false
namespace Go.Proofs.YtcchbohfcmfmlaaGreat
open Go GoV Go.RowKit
theorem ordQ_p (s : List (Tx × Tx)) (hl : s.length ≤ 9223372036854775807) : Pur M 32 [.slice (s.map propD) .no, .fn (.func 33) [] []] (.bool (incB (s.map (·.1)))) := by
  refine k32.ok (C := C32) rfl rfl ?_
  rw [i32]
  unfold c32
  have hlen : (s.map propD).length = s.length := by simp
  repeat' (first | with_reducible (apply swq; constructor) | simp only [go_sem, seval, P32, q32] | with_reducible (apply cA; constructor) | ((with_reducible refine And.intro ?hw ?_); (case hw => first | omega | rfl | exact ⟨_, _, rfl⟩ | assumption | (simp only [lN] <;> omega))) | with_reducible intro _)
  refine zAz [0, 1, 2, 3] (fun j : Nat => ⟨[.slice (s.map propD) .no, .fn (.func 33) [] [], .bool false, .int .i64 (j + 1 : Nat), .u0, .u0], [], ⟨[], []⟩⟩) (fun j => (j + 1 ≤ s.length ∨ j = 0) ∧ ∀ i, i < j → i + 1 < s.length → lt ((s.map (·.1)).getD i []) ((s.map (·.1)).getD (i + 1) []) = true) (fun j => s.length + 1 - j) 0 ⟨.inr rfl, fun i h => by omega⟩ ?_ ?_
  · simp [keepE, St.keep]
  · rintro j ⟨hj, hb⟩
    by_cases hjl : j + 1 < s.length
    · have t1 : decide (((j + 1 : Nat) : Int) < s.length) = true := by simp; omega
      have hg : (s.map propD).getD j .u0 = .agg [.str s[j].1, .str s[j].2] := by simp [List.getD, show j < s.length by omega, propD]
      have hg2 : (s.map propD).getD (j + 1) .u0 = .agg [.str s[j + 1].1, .str s[j + 1].2] := by simp [List.getD, hjl, propD]
      have c1 := pkey_p s[j]
      have c2 := pkey_p s[j + 1]
      have n1 : (s.map (·.1)).getD j [] = s[j].1 := by simp [List.getD, show j < s.length by omega]
      have n2 : (s.map (·.1)).getD (j + 1) [] = s[j + 1].1 := by simp [List.getD, hjl]
      have hbad := incB_bad (l := s.map (·.1)) (i := j) (by rw [List.length_map]; exact hjl)
      have hok : lt ((s.map (·.1)).getD j []) ((s.map (·.1)).getD (j + 1) []) = true → ∀ i, i < j + 1 → i + 1 < s.length → lt ((s.map (·.1)).getD i []) ((s.map (·.1)).getD (i + 1) []) = true := fun e i h h' => by
        by_cases q : i = j
        · subst q; exact e
        · exact hb i (by omega) h'
      rw [n1, n2] at hbad
      have hok1 := fun e => hok (by rw [n1, n2]; exact e)
      clear hok hb n1 n2
      have hi : IntKind.i64.wrap (((j + 1 : Nat) : Int) - 1) = (j : Nat) := by rw [w64 (by omega) (by omega)]; omega
      generalize s[j] = p at *
      generalize s[j + 1] = q at *
      unfold lt at hbad hok1
      cases hlt : Op.bytesLess p.1 q.1
      · rw [hbad hlt]
        unfold propD at c1 c2
        repeat' (first | with_reducible (apply swq; constructor) | simp only [go_sem, seval, P32, q32, hlen, t1, hi, hg, hg2, hlt] | ((with_reducible first | refine zAb (c1) ?he ?hc ?_ | refine zAe (c1) ?he ?hc ?_ | refine zAf (c1) ?he ?hc ?_); (case he | hc => first | rfl | (simp [D.erL, D.er, D.cL, D.closed, hlen, hg, hg2]; done))) | ((with_reducible first | refine zAb (c2) ?he ?hc ?_ | refine zAe (c2) ?he ?hc ?_ | refine zAf (c2) ?he ?hc ?_); (case he | hc => first | rfl | (simp [D.erL, D.er, D.cL, D.closed, hlen, hg, hg2]; done))) | with_reducible (apply cA; constructor) | ((with_reducible refine And.intro ?hw ?_); (case hw => first | omega | rfl | exact ⟨_, _, rfl⟩ | assumption | (simp only [lN, hlen, hg, hg2] <;> omega))) | with_reducible intro _)
        all_goals first | omega | skip
        all_goals simp [D.closed, D.er]
      · have hk := hok1 hlt
        unfold propD at c1 c2
        repeat' (first | with_reducible (apply swq; constructor) | simp only [go_sem, seval, P32, q32, hlen, t1, hi, hg, hg2, hlt] | simp (disch := omega) only [w64, w32, wu8, wu16, wu32, wu64] | ((with_reducible first | refine zAb (c1) ?he ?hc ?_ | refine zAe (c1) ?he ?hc ?_ | refine zAf (c1) ?he ?hc ?_); (case he | hc => first | rfl | (simp [D.erL, D.er, D.cL, D.closed, hlen, hg, hg2]; done))) | ((with_reducible first | refine zAb (c2) ?he ?hc ?_ | refine zAe (c2) ?he ?hc ?_ | refine zAf (c2) ?he ?hc ?_); (case he | hc => first | rfl | (simp [D.erL, D.er, D.cL, D.closed, hlen, hg, hg2]; done))) | with_reducible (apply cA; constructor) | ((with_reducible refine And.intro ?hw ?_); (case hw => first | omega | rfl | exact ⟨_, _, rfl⟩ | assumption | (simp only [lN, hlen, hg, hg2] <;> omega))) | with_reducible intro _)
        all_goals first | omega | skip
        refine ⟨j + 1, ⟨.inl (by omega), hk⟩, by omega, ?_⟩
        simp [keepE, St.keep]
    · have t1 : decide (((j + 1 : Nat) : Int) < s.length) = false := by simp; omega
      rw [incB_of fun i hi => hb i (by simp at hi; omega) (by simpa using hi)]
      repeat' (first | with_reducible (apply swq; constructor) | simp only [go_sem, seval, P32, q32, hlen, t1] | with_reducible (apply cA; constructor) | ((with_reducible refine And.intro ?hw ?_); (case hw => first | omega | rfl | exact ⟨_, _, rfl⟩ | assumption | (simp only [lN, hlen] <;> omega))) | with_reducible intro _)
      all_goals first | omega | skip
      all_goals simp [D.closed, D.er]
set_option maxHeartbeats 2000000 in
theorem right_e (c : List Kd) (p : Pt) (hc : CatIn c) (hn : p.name.length ≤ 9223372036854775807) (hps : p.props.length ≤ 1000000) (hpk : ∀ x ∈ p.props, x.1.length ≤ 9223372036854775807) :
    Eff M 18 [catD c, ptD p] ⟨[], []⟩ (Rb fun b => b = true → p.name ≠ []) := by
  refine k18.oe 0 0 rfl rfl rfl ?_
  rw [ie18]
  unfold c18
  have hck := cl_kds c
  have hek := er_kds c
  have hlen : (p.props.map propD).length = p.props.length := by simp
  have cF : ∃ X Y Z b, Pur M 31 [catD c, .str p.kind] (.tup [.agg [X, Y, Z], .bool b]) ∧ X.iV = true ∧ Y.iV = true ∧ Z.iV = true ∧ X.cells.length = 1 ∧ Y.cells.length = 1 ∧ Z.cells.length = 1 := by
    have := cfind_p c p.kind hc
    unfold findD at this
    split at this
    · exact ⟨_, _, _, _, this, rfl, rfl, rfl, rfl, rfl, rfl⟩
    · exact ⟨_, _, _, _, this, rfl, rfl, rfl, rfl, rfl, rfl⟩
  obtain ⟨X, Y, Z, b, c1, x1, x2, x3, x4, x5, x6⟩ := cF
  have c2 := name_p p.name (by omega)
  have c3 := ordQ_p p.props (by omega)
  have c4 := amt_p p.km
  have c5 := amt_p p.cy
  have c6 := amt_p p.dm
  have hcp := (zCw p.props).1
  have hep := (zCw p.props).2
  have hne : zC0 p.name = true → p.name ≠ [] := fun h e => by rw [e] at h; exact absurd h (by decide)
  unfold ptD
  generalize zC0 p.name = nb at *
  generalize incB (p.props.map (·.1)) = ib at *
  generalize amtB p.km = b4 at *
  generalize amtB p.cy = b5 at *
  generalize amtB p.dm = b6 at *
  cases b
  · repeat' (first | with_reducible (apply swq; constructor) | simp only [go_sem, seval, pe18, q18, hlen] | ((with_reducible refine zAb (c1) ?he ?hc ?_); (case he | hc => first | rfl | (simp [D.erL, D.er, D.cL, D.closed, hlen, hck, hek, x1, x2, x3, x4, x5, x6]; done))) | (with_reducible first | (apply cA; constructor) | (apply gA; constructor)) | ((with_reducible refine And.intro ?hw ?_); (case hw => first | omega | rfl | exact ⟨_, _, rfl⟩ | assumption | (simp only [lN, hlen, hck, hek, x1, x2, x3, x4, x5, x6] <;> omega))) | with_reducible intro _)
    all_goals first | omega | skip
    all_goals exact fin_b rfl rfl rfl (by simp)
  cases nb
  · repeat' (first | with_reducible (apply swq; constructor) | simp only [go_sem, seval, pe18, q18, hlen] | ((with_reducible refine zAb (c1) ?he ?hc ?_); (case he | hc => first | rfl | (simp [D.erL, D.er, D.cL, D.closed, hlen, hck, hek, x1, x2, x3, x4, x5, x6]; done))) | ((with_reducible refine zAb (c2) ?he ?hc ?_); (case he | hc => first | rfl | (simp [D.erL, D.er, D.cL, D.closed, hlen, hck, hek, x1, x2, x3, x4, x5, x6]; done))) | (with_reducible first | (apply cA; constructor) | (apply gA; constructor)) | ((with_reducible refine And.intro ?hw ?_); (case hw => first | omega | rfl | exact ⟨_, _, rfl⟩ | assumption | (simp only [lN, hlen, hck, hek, x1, x2, x3, x4, x5, x6] <;> omega))) | with_reducible intro _)
    all_goals first | omega | skip
    all_goals exact fin_b rfl rfl rfl (by simp)
  have hne1 := hne rfl
  repeat' (first | with_reducible (apply swq; constructor) | simp only [go_sem, seval, pe18, q18, hlen] | ((with_reducible refine zAb (c1) ?he ?hc ?_); (case he | hc => first | rfl | (simp [D.erL, D.er, D.cL, D.closed, hlen, hck, hek, x1, x2, x3, x4, x5, x6]; done))) | ((with_reducible refine zAb (c2) ?he ?hc ?_); (case he | hc => first | rfl | (simp [D.erL, D.er, D.cL, D.closed, hlen, hck, hek, x1, x2, x3, x4, x5, x6]; done))) | (with_reducible first | (apply cA; constructor) | (apply gA; constructor)) | ((with_reducible refine And.intro ?hw ?_); (case hw => first | omega | rfl | exact ⟨_, _, rfl⟩ | assumption | (simp only [lN, hlen, hck, hek, x1, x2, x3, x4, x5, x6] <;> omega))) | with_reducible intro _)
  all_goals first | omega | skip
  all_goals first | (exact fin_b rfl rfl rfl (by simp)) | skip
  refine zB0 [2, 3, 4, 5, 6, 10, 11, 12] 2 0 (Nat.zero_le _) (Nat.zero_le _) (fun i : Nat => ⟨[.u0, .u0, .ptr 0 0, .ptr 1 0, .bool false, .fn (.func 29) [] [], .fn (.func 30) [] [], .u0, .u0, .u0, .slice (p.props.map propD) .no, .int .i64 p.props.length, .int .i64 i, .u0, .u0], [], ⟨[.cells [zB8 c], .cells p.cells], []⟩⟩) (fun i => i ≤ p.props.length) (fun i => p.props.length - i) 0 (Nat.zero_le _) ?_ ?_
  · simp [keepE, St.keep, St.keepG, St.gc, Hp.cut, D.rn, D.rnL, Blk.rnL, Blk.rn, Tv.rnL, cutF, Own.rn]
  · intro i hi
    by_cases hil : i < p.props.length
    · have t1 : decide (((i : Nat) : Int) < p.props.length) = true := by simp; omega
      have hg : (p.props.map propD).getD i .u0 = .agg [.str p.props[i].1, .str p.props[i].2] := by simp [List.getD, hil, propD]
      have c7 := pro_p p.props[i] (hpk _ (List.getElem_mem _))
      generalize p.props[i] = y at *
      generalize proB y = yb at *
      unfold propD at c7
      cases yb
      · repeat' (first | with_reducible (apply swq; constructor) | simp only [go_sem, seval, pe18, q18, hlen, t1, hg] | simp (disch := omega) only [w64, w32, wu8, wu16, wu32, wu64] | ((with_reducible refine zAb (c7) ?he ?hc ?_); (case he | hc => first | rfl | (simp [D.erL, D.er, D.cL, D.closed, hlen, hg]; done))) | (with_reducible first | (apply cA; constructor) | (apply gA; constructor)) | ((with_reducible refine And.intro ?hw ?_); (case hw => first | omega | rfl | exact ⟨_, _, rfl⟩ | assumption | (simp only [lN, hlen, hg] <;> omega))) | with_reducible intro _)
        all_goals first | omega | skip
        all_goals exact fin_b rfl rfl rfl (by simp)
      · repeat' (first | with_reducible (apply swq; constructor) | simp only [go_sem, seval, pe18, q18, hlen, t1, hg] | simp (disch := omega) only [w64, w32, wu8, wu16, wu32, wu64] | ((with_reducible refine zAb (c7) ?he ?hc ?_); (case he | hc => first | rfl | (simp [D.erL, D.er, D.cL, D.closed, hlen, hg]; done))) | (with_reducible first | (apply cA; constructor) | (apply gA; constructor)) | ((with_reducible refine And.intro ?hw ?_); (case hw => first | omega | rfl | exact ⟨_, _, rfl⟩ | assumption | (simp only [lN, hlen, hg] <;> omega))) | with_reducible intro _)
        all_goals first | omega | skip
        refine ⟨i + 1, by omega, by omega, ?_⟩
        simp [keepE, St.keep, St.keepG, St.gc, Hp.cut, D.rn, D.rnL, Blk.rnL, Blk.rn, Tv.rnL, cutF, Own.rn]
    · have t1 : decide (((i : Nat) : Int) < p.props.length) = false := by simp; omega
      cases ib
      · repeat' (first | with_reducible (apply swq; constructor) | simp only [go_sem, seval, pe18, q18, hlen, t1] | ((with_reducible refine zAb (c3) ?he ?hc ?_); (case he | hc => first | rfl | (simp [D.erL, D.er, D.cL, D.closed, hlen, hcp, hep]; done))) | ((with_reducible refine zAb (c4) ?he ?hc ?_); (case he | hc => first | rfl | (simp [D.erL, D.er, D.cL, D.closed, hlen, hcp, hep]; done))) | ((with_reducible refine zAb (c5) ?he ?hc ?_); (case he | hc => first | rfl | (simp [D.erL, D.er, D.cL, D.closed, hlen, hcp, hep]; done))) | ((with_reducible refine zAb (c6) ?he ?hc ?_); (case he | hc => first | rfl | (simp [D.erL, D.er, D.cL, D.closed, hlen, hcp, hep]; done))) | (with_reducible first | (apply cA; constructor) | (apply gA; constructor)) | ((with_reducible refine And.intro ?hw ?_); (case hw => first | omega | rfl | exact ⟨_, _, rfl⟩ | assumption | (simp only [lN, hlen, hcp, hep] <;> omega))) | with_reducible intro _)
        all_goals first | omega | skip
        all_goals exact fin_b rfl rfl rfl (by simp)
      cases b4
      · repeat' (first | with_reducible (apply swq; constructor) | simp only [go_sem, seval, pe18, q18, hlen, t1] | ((with_reducible refine zAb (c3) ?he ?hc ?_); (case he | hc => first | rfl | (simp [D.erL, D.er, D.cL, D.closed, hlen, hcp, hep]; done))) | ((with_reducible refine zAb (c4) ?he ?hc ?_); (case he | hc => first | rfl | (simp [D.erL, D.er, D.cL, D.closed, hlen, hcp, hep]; done))) | ((with_reducible refine zAb (c5) ?he ?hc ?_); (case he | hc => first | rfl | (simp [D.erL, D.er, D.cL, D.closed, hlen, hcp, hep]; done))) | ((with_reducible refine zAb (c6) ?he ?hc ?_); (case he | hc => first | rfl | (simp [D.erL, D.er, D.cL, D.closed, hlen, hcp, hep]; done))) | (with_reducible first | (apply cA; constructor) | (apply gA; constructor)) | ((with_reducible refine And.intro ?hw ?_); (case hw => first | omega | rfl | exact ⟨_, _, rfl⟩ | assumption | (simp only [lN, hlen, hcp, hep] <;> omega))) | with_reducible intro _)
        all_goals first | omega | skip
        all_goals exact fin_b rfl rfl rfl (by simp)
      cases b5
      · repeat' (first | with_reducible (apply swq; constructor) | simp only [go_sem, seval, pe18, q18, hlen, t1] | ((with_reducible refine zAb (c3) ?he ?hc ?_); (case he | hc => first | rfl | (simp [D.erL, D.er, D.cL, D.closed, hlen, hcp, hep]; done))) | ((with_reducible refine zAb (c4) ?he ?hc ?_); (case he | hc => first | rfl | (simp [D.erL, D.er, D.cL, D.closed, hlen, hcp, hep]; done))) | ((with_reducible refine zAb (c5) ?he ?hc ?_); (case he | hc => first | rfl | (simp [D.erL, D.er, D.cL, D.closed, hlen, hcp, hep]; done))) | ((with_reducible refine zAb (c6) ?he ?hc ?_); (case he | hc => first | rfl | (simp [D.erL, D.er, D.cL, D.closed, hlen, hcp, hep]; done))) | (with_reducible first | (apply cA; constructor) | (apply gA; constructor)) | ((with_reducible refine And.intro ?hw ?_); (case hw => first | omega | rfl | exact ⟨_, _, rfl⟩ | assumption | (simp only [lN, hlen, hcp, hep] <;> omega))) | with_reducible intro _)
        all_goals first | omega | skip
        all_goals exact fin_b rfl rfl rfl (by simp)
      cases b6
      · repeat' (first | with_reducible (apply swq; constructor) | simp only [go_sem, seval, pe18, q18, hlen, t1] | ((with_reducible refine zAb (c3) ?he ?hc ?_); (case he | hc => first | rfl | (simp [D.erL, D.er, D.cL, D.closed, hlen, hcp, hep]; done))) | ((with_reducible refine zAb (c4) ?he ?hc ?_); (case he | hc => first | rfl | (simp [D.erL, D.er, D.cL, D.closed, hlen, hcp, hep]; done))) | ((with_reducible refine zAb (c5) ?he ?hc ?_); (case he | hc => first | rfl | (simp [D.erL, D.er, D.cL, D.closed, hlen, hcp, hep]; done))) | ((with_reducible refine zAb (c6) ?he ?hc ?_); (case he | hc => first | rfl | (simp [D.erL, D.er, D.cL, D.closed, hlen, hcp, hep]; done))) | (with_reducible first | (apply cA; constructor) | (apply gA; constructor)) | ((with_reducible refine And.intro ?hw ?_); (case hw => first | omega | rfl | exact ⟨_, _, rfl⟩ | assumption | (simp only [lN, hlen, hcp, hep] <;> omega))) | with_reducible intro _)
        all_goals first | omega | skip
        all_goals exact fin_b rfl rfl rfl (by simp)
      repeat' (first | with_reducible (apply swq; constructor) | simp only [go_sem, seval, pe18, q18, hlen, t1] | ((with_reducible refine zAb (c3) ?he ?hc ?_); (case he | hc => first | rfl | (simp [D.erL, D.er, D.cL, D.closed, hlen, hcp, hep]; done))) | ((with_reducible refine zAb (c4) ?he ?hc ?_); (case he | hc => first | rfl | (simp [D.erL, D.er, D.cL, D.closed, hlen, hcp, hep]; done))) | ((with_reducible refine zAb (c5) ?he ?hc ?_); (case he | hc => first | rfl | (simp [D.erL, D.er, D.cL, D.closed, hlen, hcp, hep]; done))) | ((with_reducible refine zAb (c6) ?he ?hc ?_); (case he | hc => first | rfl | (simp [D.erL, D.er, D.cL, D.closed, hlen, hcp, hep]; done))) | (with_reducible first | (apply cA; constructor) | (apply gA; constructor)) | ((with_reducible refine And.intro ?hw ?_); (case hw => first | omega | rfl | exact ⟨_, _, rfl⟩ | assumption | (simp only [lN, hlen, hcp, hep] <;> omega))) | with_reducible intro _)
      all_goals first | omega | skip
      all_goals exact fin_b rfl rfl rfl (fun _ => hne1)
end Go.Proofs.YtcchbohfcmfmlaaGreat
end
section
set_option maxRecDepth 100000
set_option linter.unusedSimpArgs false
set_option linter.unusedVariables false
namespace Go.Proofs.YtcchbohfcmfmlaaGreat
open Go GoV Go.RowKit
def PtIn (p : Pt) : Prop := p.name.length ≤ 9223372036854775807 ∧ p.props.length ≤ 1000000 ∧ ∀ x ∈ p.props, x.1.length ≤ 9223372036854775807
def Good (s : List Pt) : Prop := Incr (s.map (·.name)) ∧ ∀ p ∈ s, p.name ≠ []
set_option maxHeartbeats 4000000 in
theorem valid_e (c : List Kd) (s : List Pt) (hc : CatIn c) (hl : s.length ≤ 12) (hs : ∀ p ∈ s, PtIn p) :
    Eff M 6 [catD c, zA4 s] ⟨[], []⟩ (Rb fun b => b = true → Good s) := by
  refine k6.oe 0 0 rfl rfl rfl ?_
  rw [ie6]
  unfold c6
  have hck := cl_kds c
  have hek := er_kds c
  have hcp := zAx s
  have hep := erL_P s
  have hlen : (s.map ptD).length = s.length := by simp
  have c0 := cvalid_e c hc
  have c1 := ordP_p s (by omega)
  have cO := of_m s (by omega)
  have hE := fun β τ => zFv s β τ
  have hgn := fun nm h => get_none s (by omega) nm h
  have hgs := fun nm p h => get_some s (by omega) nm p h
  unfold mapH at cO hgn hgs
  generalize ofM s = E at *
  have hI : incB (s.map (·.name)) = true → Incr (s.map (·.name)) := incB_incr
  generalize incB (s.map (·.name)) = ib at *
  cases ib
  · repeat' (first | with_reducible (apply swq; constructor) | simp only [go_sem, seval, pe6, q6, hlen, zAt] | ((with_reducible refine o_eff [] [] (c0) ?hs ?he ?hh ?_); (case hs => exact ⟨by simp, by simp, by simp, by simp⟩); (case he => first | rfl | (simp [go_sem, seval, hlen, hck, hek, hcp, hep]; done)); (case hh => first | rfl | (simp [go_sem, seval, hlen, hck, hek, hcp, hep]; done)); rintro _ _ ⟨⟨b0, rfl, hb0⟩, rfl⟩) | ((with_reducible refine zAb (c1) ?he ?hc ?_); (case he | hc => first | rfl | (simp [D.erL, D.er, D.cL, D.closed, hlen, hck, hek, hcp, hep]; done))) | ((with_reducible apply s_mpu); (case h1 | hk => rfl); (case ha | hp => first | rfl | assumption)) | ((with_reducible apply zAl); (case h1 | hk => rfl); (case ha | hf => first | rfl | assumption)) | ((with_reducible apply zAm); (case h1 | hk => rfl); (case hf | ha => first | rfl | assumption)) | (with_reducible first | (apply cA; constructor) | (apply gA; constructor)) | ((with_reducible refine And.intro ?hw ?_); (case hw => first | omega | rfl | exact ⟨_, _, rfl⟩ | assumption | (simp only [lN, hlen, hck, hek, hcp, hep] <;> omega))) | with_reducible intro _)
    all_goals first | omega | skip
    all_goals exact fin_b rfl rfl rfl (by simp)
  have hI1 := hI rfl
  repeat' (first | with_reducible (apply swq; constructor) | simp only [go_sem, seval, pe6, q6, hlen, hE, zAt] | ((with_reducible refine o_eff [] [] (c0) ?hs ?he ?hh ?_); (case hs => exact ⟨by simp, by simp, by simp, by simp⟩); (case he => first | rfl | (simp [go_sem, seval, hlen, hck, hek, hcp, hep, D.rnL, D.rn, posF, Hp.sel, Blk.rnL, Blk.rn, Tv.rnL, idx, Hp.back, putAt, bakF, hE]; done)); (case hh => first | rfl | (simp [go_sem, seval, hlen, hck, hek, hcp, hep, D.rnL, D.rn, posF, Hp.sel, Blk.rnL, Blk.rn, Tv.rnL, idx, Hp.back, putAt, bakF, hE]; done)); rintro _ _ ⟨⟨b0, rfl, hb0⟩, rfl⟩) | ((with_reducible refine zAb (c1) ?he ?hc ?_); (case he | hc => first | rfl | (simp [D.erL, D.er, D.cL, D.closed, hlen, hck, hek, hcp, hep, D.rnL, D.rn, posF, Hp.sel, Blk.rnL, Blk.rn, Tv.rnL, idx, Hp.back, putAt, bakF, hE]; done))) | ((with_reducible refine o_eff [] [] (cO) ?hs ?he ?hh ?_); (case hs => exact ⟨by simp, by simp, by simp, by simp⟩); (case he => first | rfl | (simp [go_sem, seval, hlen, hck, hek, hcp, hep, D.rnL, D.rn, posF, Hp.sel, Blk.rnL, Blk.rn, Tv.rnL, idx, Hp.back, putAt, bakF, hE]; done)); (case hh => first | rfl | (simp [go_sem, seval, hlen, hck, hek, hcp, hep, D.rnL, D.rn, posF, Hp.sel, Blk.rnL, Blk.rn, Tv.rnL, idx, Hp.back, putAt, bakF, hE]; done)); rintro _ _ ⟨rfl, rfl⟩) | ((with_reducible apply s_mpu); (case h1 | hk => rfl); (case ha | hp => first | rfl | assumption)) | ((with_reducible apply zAl); (case h1 | hk => rfl); (case ha | hf => first | rfl | assumption)) | ((with_reducible apply zAm); (case h1 | hk => rfl); (case hf | ha => first | rfl | assumption)) | (with_reducible first | (apply cA; constructor) | (apply gA; constructor)) | ((with_reducible refine And.intro ?hw ?_); (case hw => first | omega | rfl | exact ⟨_, _, rfl⟩ | assumption | (simp only [lN, hlen, hck, hek, hcp, hep, D.rnL, D.rn, posF, Hp.sel, Blk.rnL, Blk.rn, Tv.rnL, idx, Hp.back, putAt, bakF, hE] <;> omega))) | with_reducible intro _)
  all_goals first | omega | skip
  all_goals first | (exact fin_b rfl rfl rfl (by simp)) | skip
  refine zB0 [2, 3, 4, 5, 6, 12, 13, 14] 5 0 (Nat.zero_le _) (Nat.zero_le _) (fun a : Nat × Ent × Nat => ⟨[.u0, .u0, .ptr 0 0, .ptr 1 0, .bool false, .ptr 3 0, .mp 4, .u0, .u0, .u0, .u0, .u0, zAy s, .int .i64 s.length, .int .i64 a.1, .u0, .u0, .u0, .u0], [], ⟨[.cells [zB8 c], .cells [zAy s], .map E E.length, .cells [zAy s, .mp 2], .map a.2.1 a.2.2], []⟩⟩) (fun a => a.1 ≤ s.length ∧ BM (.st [.str, .str]) a.2.1 ∧ ∀ j (h : j < a.1) (h' : j < s.length), s[j].name ≠ []) (fun a => s.length - a.1) (0, [], 0) ⟨Nat.zero_le _, BM.nil _, fun j h => by simp at h⟩ ?_ ?_
  · simp [keepE, St.keep, St.keepG, St.gc, Hp.cut, D.rn, D.rnL, Blk.rnL, Blk.rn, Tv.rnL, cutF, Own.rn, pairs, hE, Hp.back, putAt, bakF]
  · rintro ⟨i, T, ct⟩ ⟨hi, hT, hb⟩
    simp only at hi hT hb ⊢
    have hrT := hT.rn
    have hok := hT.ok
    by_cases hil : i < s.length
    · have t1 : decide (((i : Nat) : Int) < s.length) = true := by simp; omega
      have hg : (s.map ptD).getD i .u0 = .agg (s[i]).cells := zBx hil
      obtain ⟨i1, i2, i3⟩ := hs _ (List.getElem_mem hil)
      have c2 := right_e c s[i] hc i1 i2 i3
      have hnew : s[i].name ≠ [] → ∀ j (h : j < i + 1) (h' : j < s.length), s[j].name ≠ [] := fun e j h h' => by
        by_cases q : j = i
        · subst q; exact e
        · exact hb j (by omega) h'
      clear hb
      generalize s[i] = p at *
      obtain ⟨T9, ct9, hpT, hT9⟩ := hT.put ct (k := .agg [.str p.into, .str p.slot]) rfl (fun _ _ => rfl) true
      have hrT9 := hT9.rn
      unfold ptD at c2
      by_cases h0 : p.into = []
      · have hb1 : (p.into == []) = true := by simp [h0]
        repeat' (first | with_reducible (apply swq; constructor) | simp only [go_sem, seval, pe6, q6, hlen, t1, hE, hg, hb1, zAt] | simp (disch := omega) only [w64, w32, wu8, wu16, wu32, wu64] | ((with_reducible refine o_eff [] [] (c2) ?hs ?he ?hh ?_); (case hs => exact ⟨by simp, by simp, by simp, by simp⟩); (case he => first | rfl | (simp [go_sem, seval, D.rnL, D.rn, posF, Hp.sel, Blk.rnL, Blk.rn, Tv.rnL, Own.rn, idx, Hp.back, putAt, bakF, hE, hlen, hck, hek, hcp, hep, hg]; done)); (case hh => first | rfl | (simp [go_sem, seval, D.rnL, D.rn, posF, Hp.sel, Blk.rnL, Blk.rn, Tv.rnL, Own.rn, idx, Hp.back, putAt, bakF, hE, hlen, hck, hek, hcp, hep, hg]; done)); rintro _ _ ⟨⟨b0, rfl, hb0⟩, rfl⟩) | ((with_reducible apply s_mpu); (case h1 | hk => rfl); (case ha | hp => first | rfl | assumption)) | ((with_reducible apply zAl); (case h1 | hk => rfl); (case ha | hf => first | rfl | assumption)) | ((with_reducible apply zAm); (case h1 | hk => rfl); (case hf | ha => first | rfl | assumption)) | (with_reducible first | (apply cA; constructor) | (apply gA; constructor)) | ((with_reducible refine And.intro ?hw ?_); (case hw => first | omega | rfl | exact ⟨_, _, rfl⟩ | assumption | (simp only [lN, D.rnL, D.rn, posF, Hp.sel, Blk.rnL, Blk.rn, Tv.rnL, Own.rn, idx, Hp.back, putAt, bakF, hE, hlen, hck, hek, hcp, hep, hg] <;> omega))) | with_reducible intro _)
        all_goals first | omega | skip
        all_goals first | (exact fin_b rfl rfl rfl (by simp)) | skip
        all_goals (
          refine ⟨(i + 1, T, ct), ⟨by simp only; omega, hT, hnew (hb0 (by simpa using (by assumption : (!b0) = false)))⟩, by simp only; omega, ?_⟩
          simp [keepE, St.keep, St.keepG, St.gc, Hp.cut, D.rn, D.rnL, Blk.rnL, Blk.rn, Tv.rnL, cutF, Own.rn, pairs, hE, hrT, Hp.back, putAt, bakF])
      · have hb1 : (p.into == []) = false := by simp [h0]
        cases hf : getP s p.into with
        | none =>
          have c3 := hgn p.into hf
          repeat' (first | with_reducible (apply swq; constructor) | simp only [go_sem, seval, pe6, q6, hlen, t1, hE, hg, hb1, zAt] | simp (disch := omega) only [w64, w32, wu8, wu16, wu32, wu64] | ((with_reducible refine o_eff [] [] (c2) ?hs ?he ?hh ?_); (case hs => exact ⟨by simp, by simp, by simp, by simp⟩); (case he => first | rfl | (simp [go_sem, seval, D.rnL, D.rn, posF, Hp.sel, Blk.rnL, Blk.rn, Tv.rnL, Own.rn, idx, Hp.back, putAt, bakF, hE, hlen, hck, hek, hcp, hep, hg]; done)); (case hh => first | rfl | (simp [go_sem, seval, D.rnL, D.rn, posF, Hp.sel, Blk.rnL, Blk.rn, Tv.rnL, Own.rn, idx, Hp.back, putAt, bakF, hE, hlen, hck, hek, hcp, hep, hg]; done)); rintro _ _ ⟨⟨b0, rfl, hb0⟩, rfl⟩) | ((with_reducible refine o_eff [2] [] (c3) ?hs ?he ?hh ?_); (case hs => exact ⟨by simp, by simp, by simp, by simp⟩); (case he => first | rfl | (simp [go_sem, seval, D.rnL, D.rn, posF, Hp.sel, Blk.rnL, Blk.rn, Tv.rnL, Own.rn, idx, Hp.back, putAt, bakF, hE, hlen, hck, hek, hcp, hep, hg]; done)); (case hh => first | rfl | (simp [go_sem, seval, D.rnL, D.rn, posF, Hp.sel, Blk.rnL, Blk.rn, Tv.rnL, Own.rn, idx, Hp.back, putAt, bakF, hE, hlen, hck, hek, hcp, hep, hg]; done)); rintro _ _ ⟨rfl, rfl⟩) | ((with_reducible apply s_mpu); (case h1 | hk => rfl); (case ha | hp => first | rfl | assumption)) | ((with_reducible apply zAl); (case h1 | hk => rfl); (case ha | hf => first | rfl | assumption)) | ((with_reducible apply zAm); (case h1 | hk => rfl); (case hf | ha => first | rfl | assumption)) | (with_reducible first | (apply cA; constructor) | (apply gA; constructor)) | ((with_reducible refine And.intro ?hw ?_); (case hw => first | omega | rfl | exact ⟨_, _, rfl⟩ | assumption | (simp only [lN, D.rnL, D.rn, posF, Hp.sel, Blk.rnL, Blk.rn, Tv.rnL, Own.rn, idx, Hp.back, putAt, bakF, hE, hlen, hck, hek, hcp, hep, hg] <;> omega))) | with_reducible intro _)
          all_goals first | omega | skip
          all_goals first | (exact fin_b rfl rfl rfl (by simp)) | skip
        | some q =>
          have c3 := hgs p.into q hf
          have c4 := takes_p c q.kind p.slot p.kind hc
          generalize takesB c q.kind p.slot p.kind = tb at *
          unfold ptD at c3
          have fT : findM (.agg [.str p.into, .str p.slot]) T 0 = none ∨ ∃ q b, findM (.agg [.str p.into, .str p.slot]) T 0 = some (q, .bool b) := by
            cases h : findM (.agg [.str p.into, .str p.slot]) T 0 with
            | none => exact .inl rfl
            | some q => obtain ⟨q, v⟩ := q; obtain ⟨b, rfl⟩ := hT.find h; exact .inr ⟨q, b, rfl⟩
          rcases fT with h4 | ⟨q4, b4, h4⟩
          all_goals try cases b4
          all_goals (
            repeat' (first | with_reducible (apply swq; constructor) | simp only [go_sem, seval, pe6, q6, hlen, t1, hE, hg, hb1, hpT, zAt] | simp (disch := omega) only [w64, w32, wu8, wu16, wu32, wu64] | ((with_reducible refine o_eff [] [] (c2) ?hs ?he ?hh ?_); (case hs => exact ⟨by simp, by simp, by simp, by simp⟩); (case he => first | rfl | (simp [go_sem, seval, D.rnL, D.rn, posF, Hp.sel, Blk.rnL, Blk.rn, Tv.rnL, Own.rn, idx, Hp.back, putAt, bakF, hE, hlen, hck, hek, hcp, hep, hg, h4]; done)); (case hh => first | rfl | (simp [go_sem, seval, D.rnL, D.rn, posF, Hp.sel, Blk.rnL, Blk.rn, Tv.rnL, Own.rn, idx, Hp.back, putAt, bakF, hE, hlen, hck, hek, hcp, hep, hg, h4]; done)); rintro _ _ ⟨⟨b0, rfl, hb0⟩, rfl⟩) | ((with_reducible refine o_eff [2] [] (c3) ?hs ?he ?hh ?_); (case hs => exact ⟨by simp, by simp, by simp, by simp⟩); (case he => first | rfl | (simp [go_sem, seval, D.rnL, D.rn, posF, Hp.sel, Blk.rnL, Blk.rn, Tv.rnL, Own.rn, idx, Hp.back, putAt, bakF, hE, hlen, hck, hek, hcp, hep, hg, h4]; done)); (case hh => first | rfl | (simp [go_sem, seval, D.rnL, D.rn, posF, Hp.sel, Blk.rnL, Blk.rn, Tv.rnL, Own.rn, idx, Hp.back, putAt, bakF, hE, hlen, hck, hek, hcp, hep, hg, h4]; done)); rintro _ _ ⟨rfl, rfl⟩) | ((with_reducible refine zAb (c4) ?he ?hc ?_); (case he | hc => first | rfl | (simp [D.erL, D.er, D.cL, D.closed, D.rnL, D.rn, posF, Hp.sel, Blk.rnL, Blk.rn, Tv.rnL, Own.rn, idx, Hp.back, putAt, bakF, hE, hlen, hck, hek, hcp, hep, hg, h4]; done))) | ((with_reducible apply s_mpu); (case h1 | hk => rfl); (case ha | hp => first | rfl | assumption)) | ((with_reducible apply zAl); (case h1 | hk => rfl); (case ha | hf => first | rfl | assumption)) | ((with_reducible apply zAm); (case h1 | hk => rfl); (case hf | ha => first | rfl | assumption)) | (with_reducible first | (apply cA; constructor) | (apply gA; constructor)) | ((with_reducible refine And.intro ?hw ?_); (case hw => first | omega | rfl | exact ⟨_, _, rfl⟩ | assumption | (simp only [lN, D.rnL, D.rn, posF, Hp.sel, Blk.rnL, Blk.rn, Tv.rnL, Own.rn, idx, Hp.back, putAt, bakF, hE, hlen, hck, hek, hcp, hep, hg, h4] <;> omega))) | with_reducible intro _)
            all_goals first | omega | skip
            all_goals first
              | (exact fin_b rfl rfl rfl (by simp))
              | (refine ⟨(i + 1, T9, ct9), ⟨by simp only; omega, hT9, hnew (hb0 (by simpa using (by assumption : (!b0) = false)))⟩, by simp only; omega, ?_⟩; simp [keepE, St.keep, St.keepG, St.gc, Hp.cut, D.rn, D.rnL, Blk.rnL, Blk.rn, Tv.rnL, cutF, Own.rn, pairs, hE, hrT, Hp.back, putAt, bakF, hrT9, hpT]))
    · have t1 : decide (((i : Nat) : Int) < s.length) = false := by simp; omega
      have hall : ∀ p ∈ s, p.name ≠ [] := fun p hp => by
        obtain ⟨j, hj, rfl⟩ := List.getElem_of_mem hp
        exact hb j (by omega) hj
      repeat' (first | with_reducible (apply swq; constructor) | simp only [go_sem, seval, pe6, q6, hlen, t1, zAt] | simp (disch := omega) only [w64, w32, wu8, wu16, wu32, wu64] | ((with_reducible apply s_mpu); (case h1 | hk => rfl); (case ha | hp => first | rfl | assumption)) | ((with_reducible apply zAl); (case h1 | hk => rfl); (case ha | hf => first | rfl | assumption)) | ((with_reducible apply zAm); (case h1 | hk => rfl); (case hf | ha => first | rfl | assumption)) | (with_reducible first | (apply cA; constructor) | (apply gA; constructor)) | ((with_reducible refine And.intro ?hw ?_); (case hw => first | omega | rfl | exact ⟨_, _, rfl⟩ | assumption | (simp only [lN, hlen] <;> omega))) | with_reducible intro _)
      all_goals first | omega | skip
      all_goals exact fin_b rfl rfl rfl (fun _ => ⟨hI1, hall⟩)
end Go.Proofs.YtcchbohfcmfmlaaGreat
end
section
set_option maxRecDepth 100000
set_option linter.unusedSimpArgs false
set_option linter.unusedVariables false
namespace Go.Proofs.YtcchbohfcmfmlaaGreat
open Go GoV Go.RowKit
theorem inside_pur (s : List Pt) (hl : s.length ≤ 12) (part : Tx) : Pur M 7 [zA4 s, .str part] (.slice (strs (zAk s part)) .no) := by
  cases h : getP s part with
  | none =>
    have := inside_nil s (by omega) part h
    unfold zAk
    rw [h]
    exact this
  | some p =>
    refine pur_of_eff (eff_weak (inside_e s hl part p h) fun d hp' hR => ?_)
    have hs := zDg (zAk s part)
    rcases hR with ⟨h1, rfl, rfl⟩ | ⟨cap, h1, h2, rfl, rfl⟩
    · refine ⟨_, _, zAh, rfl, ?_⟩
      rw [h1]
      try rfl
    · have hlu : ∀ n, D.cL (und n) = true ∧ D.erL (und n) = und n := fun n => by
        induction n with
        | zero => exact ⟨rfl, rfl⟩
        | succ n ih => simp only [und, List.replicate_succ, D.cL, D.closed, D.erL, D.er] at ih ⊢; first | done | simp [ih]
      have hcl : D.cL (strs (zAk s part) ++ und (cap - (zAk s part).length)) = true := zFk _ _ hs (hlu _).1
      refine ⟨_, _, weak_frz 0 _ rfl (Nat.zero_le _) hcl, ?_⟩
      have hlen := zA9 (zAk s part)
      have hE := elems_strs (zAk s part)
      have hch := chunk_su (zAk s part) (und (cap - (zAk s part).length))
      rw [erL_app, zDr, (hlu _).2]
      simp only [D.fz, List.drop_zero, if_true, hch]
      rw [if_pos ⟨by simp [hlen], h2, hE⟩]
      simp [D.closed, D.er]
end Go.Proofs.YtcchbohfcmfmlaaGreat
end
section
set_option maxRecDepth 100000
set_option linter.unusedSimpArgs false
set_option linter.unusedVariables false
namespace Go.Proofs.YtcchbohfcmfmlaaGreat
open Go GoV Go.RowKit
def cin (l : List Tx) (k : Nat) (a : Tx) : Bool := (l.take k).contains a
theorem cin_zero (l : List Tx) (a : Tx) : cin l 0 a = false := by simp [cin]
theorem cin_len (l : List Tx) (a : Tx) : cin l l.length a = l.contains a := by rw [cin, List.take_length]
theorem cin_succ {l : List Tx} {k : Nat} (h : k < l.length) (a : Tx) : cin l (k + 1) a = (cin l k a || l[k] == a) := by
  unfold cin
  rw [List.take_succ_eq_append_getElem h, List.contains_append]
  congr 1
  simp only [List.contains_cons, List.contains_nil, Bool.or_false]
  rw [Bool.eq_iff_iff, beq_iff_eq, beq_iff_eq]; exact eq_comm
theorem few_sok {s : List Pt} (h : fewS s = true) (hp : ∀ p ∈ s, -9223372036854775808 ≤ p.made ∧ -9223372036854775808 ≤ p.since) : Sok s := by
  simp only [fewS, Bool.and_eq_true, decide_eq_true_eq, List.all_eq_true] at h
  refine ⟨h.1, fun p hm => ⟨?_, hp p hm⟩⟩
  have := h.2 p hm
  simp only [fewPt, Bool.and_eq_true, Bool.not_eq_true', decide_eq_false_iff_not] at this
  omega
theorem few_split {s : List Pt} {x : X} {part : List UInt8} (h : fewF s x part = true) : fewS s = true ∧ x.sm ∧ x.nodes ≤ 80 ∧ part.length ≤ 300 := by
  simp only [fewF, Bool.and_eq_true, decide_eq_true_eq] at h
  exact ⟨h.1.1, ⟨h.1.2.2, by omega⟩, h.1.2.1, h.2⟩
theorem sok_only {s : List Pt} (h : Sok s) (q : Tx → Bool) : Sok (only q s) :=
  ⟨Nat.le_trans (List.length_filter_le _ _) h.len, fun p hp => h.prop p (List.mem_filter.1 hp).1⟩
def PtM (p : Pt) : Prop := p.name.length ≤ 9223372036854775807 ∧ (∀ x ∈ p.props, x.1.length ≤ 9223372036854775807) ∧ -9223372036854775808 ≤ p.made ∧ -9223372036854775808 ≤ p.since
set_option maxHeartbeats 4000000 in
theorem others_p (c : List Kd) (s : List Pt) (x : X) (part : Tx) (day : Int) (hc : CatIn c) (hs : ∀ p ∈ s, PtM p) : Pur M 3 [catD c, zA4 s, .agg x.cells, .str part, .int .i64 day] (.bool true) := by
  refine k3.ok (C := C3) rfl rfl ?_
  rw [i3]
  unfold c3
  have hck := cl_kds c
  have hek := er_kds c
  have hcp := zAx s
  have hep := erL_P s
  have ce := zBg x.kids
  have ee := erL_X x.kids
  have hlen : (s.map ptD).length = s.length := by simp
  have hkl : (c.map kdD).length = c.length := by simp
  have k0 := head_p
  have k1 := few_p s x part
  rw [X.d_eq] at k1
  by_cases h1 : fewF s x part = true
  rotate_left
  · rw [Bool.not_eq_true] at h1
    rw [h1] at k1
    repeat' (first | with_reducible (apply swq; constructor) | simp only [go_sem, seval, P3, q3] | ((with_reducible first | refine zAb (k0) ?he ?hc ?_ | refine zAe (k0) ?he ?hc ?_ | refine zAf (k0) ?he ?hc ?_); (case he | hc => first | rfl | (simp [D.erL, D.er, D.cL, D.closed, hck, hek, hcp, hep, ce, ee]; done))) | ((with_reducible first | refine zAb (k1) ?he ?hc ?_ | refine zAe (k1) ?he ?hc ?_ | refine zAf (k1) ?he ?hc ?_); (case he | hc => first | rfl | (simp [D.erL, D.er, D.cL, D.closed, hck, hek, hcp, hep, ce, ee]; done))) | ((with_reducible apply zA5); (case he => rfl); (case hK | hc | hr | hV => first | rfl | assumption | omega | ((first | refine ⟨?_, ?_⟩ | skip) <;> first | omega | (simp only [lN, hck, hek, hcp, hep, ce, ee] <;> omega)) | (simp [zAa, D.iV, D.cells, D.cL, D.closed, hck, hek, hcp, hep, ce, ee]; first | done | omega))) | ((with_reducible apply zA6); (case he => rfl); (case hV | hK | hr | hl => first | rfl | assumption | omega | ((first | refine ⟨?_, ?_⟩ | skip) <;> first | omega | (simp only [lN, hck, hek, hcp, hep, ce, ee] <;> omega)) | (simp [zAa, D.iV, D.cells, D.cL, D.closed, hck, hek, hcp, hep, ce, ee]; first | done | omega))) | ((with_reducible apply zBb); (case he => rfl); (case hK | hc | hr => first | rfl | assumption | omega | ((first | refine ⟨?_, ?_⟩ | skip) <;> first | omega | (simp only [lN, hck, hek, hcp, hep, ce, ee] <;> omega)) | (simp [zAa, D.iV, D.cells, D.cL, D.closed, hck, hek, hcp, hep, ce, ee]; first | done | omega))) | ((with_reducible apply zBa); (case he => rfl); (case hK | hc | hr | hx | hn => first | rfl | assumption | omega | ((first | refine ⟨?_, ?_⟩ | skip) <;> first | omega | (simp only [lN, hck, hek, hcp, hep, ce, ee] <;> omega)) | (simp [zAa, D.iV, D.cells, D.cL, D.closed, hck, hek, hcp, hep, ce, ee]; first | done | omega))) | ((with_reducible apply s_bsl); (case he | hl | hc => first | rfl | assumption | omega | ((first | refine ⟨?_, ?_⟩ | skip) <;> first | omega | (simp only [lN, hck, hek, hcp, hep, ce, ee] <;> omega)) | (simp [zAa, D.iV, D.cells, D.cL, D.closed, hck, hek, hcp, hep, ce, ee]; first | done | omega))) | (with_reducible first | (apply cA; constructor) | (apply gA; constructor) | (apply qA; constructor)) | ((with_reducible refine And.intro ?hw ?_); (case hw => first | omega | rfl | exact ⟨_, _, rfl⟩ | assumption | (simp only [lN, hck, hek, hcp, hep, ce, ee] <;> omega))) | with_reducible intro _)
    all_goals first | omega | (simp_all [D.closed, D.er, D.cL, D.erL]; done) | (simp_all [D.closed, D.er, D.cL, D.erL] <;> omega)
  rw [h1] at k1
  obtain ⟨f1, f2, f3, f4⟩ := few_split h1
  have hS := few_sok f1 fun p hp => (hs p hp).2.2
  have hl12 := hS.len
  have kv := valid_e c s hc hl12 fun p hp => ⟨(hs p hp).1, by have := (hS.prop p hp).1; omega, (hs p hp).2.1⟩
  have kI := inside_pur s hl12 part
  have kJ := fun n => inside_pur s hl12 n
  have kH := holds_p s hS x f2 part day
  have kO := holds_p (only (kept s part) s) (sok_only hS _) x f2 part day
  have hlaw := fun hd hn => others (s := s) (part := part) hd hn x day
  have hkept : ∀ n, kept s part n = (((n == part) || (zAk s part).contains n) || (zAk s n).contains part) := fun n => rfl
  have hco := zAx (only (kept s part) s)
  have heo := erL_P (only (kept s part) s)
  rw [X.d_eq] at kH kO
  have hIn := zC6 hl12 part
  generalize zAk s part = I at *
  have hIl := zA9 I
  have hgood : ∀ b0 : Bool, (b0 = true → Good s) → (!b0) = false → zE6 (only (kept s part) s) x part day = zE6 s x part day := fun b0 h g => by
    obtain ⟨g1, g2⟩ := h (by simpa using g)
    exact hlaw (incr_nodup g1) g2
  clear hlaw f1 f2 f3 f4 h1
  generalize zE6 (only (kept s part) s) x part day = v1 at *
  generalize zE6 s x part day = v2 at *
  repeat' (first | with_reducible (apply swq; constructor) | simp only [go_sem, seval, P3, q3, hkl] | ((with_reducible first | refine zAb (k0) ?he ?hc ?_ | refine zAe (k0) ?he ?hc ?_ | refine zAf (k0) ?he ?hc ?_); (case he | hc => first | rfl | (simp [D.erL, D.er, D.cL, D.closed, hck, hek, hcp, hep, ce, ee, hkl]; done))) | ((with_reducible first | refine zAb (k1) ?he ?hc ?_ | refine zAe (k1) ?he ?hc ?_ | refine zAf (k1) ?he ?hc ?_); (case he | hc => first | rfl | (simp [D.erL, D.er, D.cL, D.closed, hck, hek, hcp, hep, ce, ee, hkl]; done))) | ((with_reducible refine o_eff [] [] (kv) ?hs ?he ?hh ?_); (case hs => exact ⟨by simp, by simp, by simp, by simp⟩); (case he => first | rfl | (simp [go_sem, seval, hck, hek, hcp, hep, ce, ee, hkl]; done)); (case hh => first | rfl | (simp [go_sem, seval, hck, hek, hcp, hep, ce, ee, hkl]; done)); rintro _ _ ⟨⟨b0, rfl, hb0⟩, rfl⟩) | ((with_reducible first | refine zAb (kI) ?he ?hc ?_ | refine zAe (kI) ?he ?hc ?_ | refine zAf (kI) ?he ?hc ?_); (case he | hc => first | rfl | (simp [D.erL, D.er, D.cL, D.closed, hck, hek, hcp, hep, ce, ee, hkl]; done))) | ((with_reducible apply zA5); (case he => rfl); (case hK | hc | hr | hV => first | rfl | assumption | omega | ((first | refine ⟨?_, ?_⟩ | skip) <;> first | omega | (simp only [lN, hck, hek, hcp, hep, ce, ee, hkl] <;> omega)) | (simp [zAa, D.iV, D.cells, D.cL, D.closed, hck, hek, hcp, hep, ce, ee, hkl]; first | done | omega))) | ((with_reducible apply zA6); (case he => rfl); (case hV | hK | hr | hl => first | rfl | assumption | omega | ((first | refine ⟨?_, ?_⟩ | skip) <;> first | omega | (simp only [lN, hck, hek, hcp, hep, ce, ee, hkl] <;> omega)) | (simp [zAa, D.iV, D.cells, D.cL, D.closed, hck, hek, hcp, hep, ce, ee, hkl]; first | done | omega))) | ((with_reducible apply zBb); (case he => rfl); (case hK | hc | hr => first | rfl | assumption | omega | ((first | refine ⟨?_, ?_⟩ | skip) <;> first | omega | (simp only [lN, hck, hek, hcp, hep, ce, ee, hkl] <;> omega)) | (simp [zAa, D.iV, D.cells, D.cL, D.closed, hck, hek, hcp, hep, ce, ee, hkl]; first | done | omega))) | ((with_reducible apply zBa); (case he => rfl); (case hK | hc | hr | hx | hn => first | rfl | assumption | omega | ((first | refine ⟨?_, ?_⟩ | skip) <;> first | omega | (simp only [lN, hck, hek, hcp, hep, ce, ee, hkl] <;> omega)) | (simp [zAa, D.iV, D.cells, D.cL, D.closed, hck, hek, hcp, hep, ce, ee, hkl]; first | done | omega))) | ((with_reducible apply s_bsl); (case he | hl | hc => first | rfl | assumption | omega | ((first | refine ⟨?_, ?_⟩ | skip) <;> first | omega | (simp only [lN, hck, hek, hcp, hep, ce, ee, hkl] <;> omega)) | (simp [zAa, D.iV, D.cells, D.cL, D.closed, hck, hek, hcp, hep, ce, ee, hkl]; first | done | omega))) | (with_reducible first | (apply cA; constructor) | (apply gA; constructor) | (apply qA; constructor)) | ((with_reducible refine And.intro ?hw ?_); (case hw => first | omega | rfl | exact ⟨_, _, rfl⟩ | assumption | (simp only [lN, hck, hek, hcp, hep, ce, ee, hkl] <;> omega))) | with_reducible intro _)
  all_goals first | omega | (simp [D.closed, D.er]; done) | skip
  have hv := hgood b0 hb0 (by assumption)
  clear hgood hb0 kv k0 k1 kI
  subst hv
  refine zFn (weak_newC 3 0 14 (by decide) rfl rfl) ?_
  simp only [List.set_cons_succ, List.set_cons_zero, List.set_nil, List.length_nil, List.nil_append]
  refine zB0 [0, 1, 2, 3, 4, 5, 6, 7, 8, 9, 10, 11, 12] 4 1 (Nat.zero_le _) (Nat.zero_le _) (fun i : Nat => ⟨[catD c, zA4 s, .agg x.cells, .str part, .int .i64 day, .ptr 0 0, .ptr 1 0, .ptr 2 0, .bool false, .bool true, .slice (strs I) .no, .ptr 3 0, .int .i64 i, .u0, .u0, .u0, .u0, .u0, .u0, .u0, .u0, .u0, .u0], [], ⟨[.cells [zB8 c], .cells [zAy s], .cells x.cells, .cells [.slice ((only (kept s part) (s.take i)).map ptD) (.tok 0)]], [.per 14 (only (kept s part) (s.take i)).length]⟩⟩) (fun i => i ≤ s.length) (fun i => s.length - i) 0 (Nat.zero_le _) ?_ ?_
  · simp [keepE, St.keep, St.keepG, St.gc, Hp.cut, D.rn, D.rnL, Blk.rnL, Blk.rn, Tv.rnL, Tv.rn, cutF, Own.rn, only]
  · intro i hi
    by_cases hil : i < s.length
    · have t1 : decide (((i : Nat) : Int) < s.length) = true := by simp; omega
      have hg : (s.map ptD).getD i .u0 = .agg (s[i]).cells := zBx hil
      have kJ1 := kJ s[i].name
      have hk1 := hkept s[i].name
      have hon : only (kept s part) (s.take (i + 1)) = only (kept s part) (s.take i) ++ (if kept s part s[i].name then [s[i]] else []) := by
        unfold only
        rw [List.take_succ_eq_append_getElem hil, List.filter_append]
        congr 1
        by_cases h : kept s part s[i].name = true <;> simp [List.filter_cons, h]
      have hol : (only (kept s part) (s.take i)).length ≤ 12 := Nat.le_trans (List.length_filter_le _ _) (by rw [List.length_take]; omega)
      clear hkept kJ
      generalize s[i] = p at *
      rw [hk1] at hon
      have hJn := zC6 hl12 p.name
      generalize zAk s p.name = J at *
      have hJl := zA9 J
      generalize he0 : (p.name == part) = e0 at *
      repeat' (first | with_reducible (apply swq; constructor) | simp only [go_sem, seval, P3, q3, hlen, t1, hg, he0] | ((with_reducible apply zA5); (case he => rfl); (case hK | hc | hr | hV => first | rfl | assumption | omega | ((first | refine ⟨?_, ?_⟩ | skip) <;> first | omega | (simp only [lN, hlen, hg, hck, hek, hcp, hep] <;> omega)) | (simp [zAa, D.iV, D.cells, D.cL, D.closed, hlen, hg, hck, hek, hcp, hep]; first | done | omega))) | ((with_reducible apply zA6); (case he => rfl); (case hV | hK | hr | hl => first | rfl | assumption | omega | ((first | refine ⟨?_, ?_⟩ | skip) <;> first | omega | (simp only [lN, hlen, hg, hck, hek, hcp, hep] <;> omega)) | (simp [zAa, D.iV, D.cells, D.cL, D.closed, hlen, hg, hck, hek, hcp, hep]; first | done | omega))) | ((with_reducible apply zBb); (case he => rfl); (case hK | hc | hr => first | rfl | assumption | omega | ((first | refine ⟨?_, ?_⟩ | skip) <;> first | omega | (simp only [lN, hlen, hg, hck, hek, hcp, hep] <;> omega)) | (simp [zAa, D.iV, D.cells, D.cL, D.closed, hlen, hg, hck, hek, hcp, hep]; first | done | omega))) | ((with_reducible apply zBa); (case he => rfl); (case hK | hc | hr | hx | hn => first | rfl | assumption | omega | ((first | refine ⟨?_, ?_⟩ | skip) <;> first | omega | (simp only [lN, hlen, hg, hck, hek, hcp, hep] <;> omega)) | (simp [zAa, D.iV, D.cells, D.cL, D.closed, hlen, hg, hck, hek, hcp, hep]; first | done | omega))) | ((with_reducible apply s_bsl); (case he | hl | hc => first | rfl | assumption | omega | ((first | refine ⟨?_, ?_⟩ | skip) <;> first | omega | (simp only [lN, hlen, hg, hck, hek, hcp, hep] <;> omega)) | (simp [zAa, D.iV, D.cells, D.cL, D.closed, hlen, hg, hck, hek, hcp, hep]; first | done | omega))) | (with_reducible first | (apply cA; constructor) | (apply gA; constructor) | (apply qA; constructor)) | ((with_reducible refine And.intro ?hw ?_); (case hw => first | omega | rfl | exact ⟨_, _, rfl⟩ | assumption | (simp only [lN, hlen, hg, hck, hek, hcp, hep] <;> omega))) | with_reducible intro _)
      all_goals first | omega | skip
      refine zC5 (Q := fun e s' => e = .exit 2 ∧ s'.keep [0, 1, 2, 3, 4, 5, 6, 7, 8, 9, 10, 11, 12, 13, 14] = ⟨[catD c, zA4 s, .agg x.cells, .str part, .int .i64 day, .ptr 0 0, .ptr 1 0, .ptr 2 0, .bool false, .bool true, .slice (strs I) .no, .ptr 3 0, .int .i64 i, .ptr 4 0, .bool (e0 || I.contains p.name), .u0, .u0, .u0, .u0, .u0, .u0, .u0, .u0], [], ⟨[.cells [zB8 c], .cells [zAy s], .cells x.cells, .cells [.slice ((only (kept s part) (s.take i)).map ptD) (.tok 0)], .cells p.cells], [.per 14 (only (kept s part) (s.take i)).length]⟩⟩) ?_ fun e s' hq => ?_
      · refine zAz [0, 1, 2, 3, 4, 5, 6, 7, 8, 9, 10, 11, 12, 13, 14, 15] (fun k : Nat => ⟨[catD c, zA4 s, .agg x.cells, .str part, .int .i64 day, .ptr 0 0, .ptr 1 0, .ptr 2 0, .bool false, .bool true, .slice (strs I) .no, .ptr 3 0, .int .i64 i, .ptr 4 0, .bool (e0 || cin I k p.name), .int .i64 k, .u0, .u0, .u0, .u0, .u0, .u0, .u0], [], ⟨[.cells [zB8 c], .cells [zAy s], .cells x.cells, .cells [.slice ((only (kept s part) (s.take i)).map ptD) (.tok 0)], .cells p.cells], [.per 14 (only (kept s part) (s.take i)).length]⟩⟩) (fun k => k ≤ I.length) (fun k => I.length - k) 0 (Nat.zero_le _) ?_ ?_
        · simp [keepE, St.keep, St.keepG, St.gc, Hp.cut, D.rn, D.rnL, Blk.rnL, Blk.rn, Tv.rnL, Tv.rn, cutF, Own.rn, cin_zero]
        · intro k hk
          by_cases hkl : k < I.length
          · have t2 : decide (((k : Nat) : Int) < I.length) = true := by simp; omega
            have hgI := str_get hkl
            have hst := cin_succ hkl p.name
            generalize I[k] = y at *
            generalize cin I k p.name = b at *
            cases hy : (y == p.name) <;> cases b <;> cases e0
            all_goals (
              repeat' (first | with_reducible (apply swq; constructor) | simp only [go_sem, seval, P3, q3, hIl, t2, hgI, hy, Bool.false_or, Bool.true_or, Bool.or_false, Bool.or_true] | simp (disch := omega) only [w64, w32, wu8, wu16, wu32, wu64] | ((with_reducible apply zA5); (case he => rfl); (case hK | hc | hr | hV => first | rfl | assumption | omega | ((first | refine ⟨?_, ?_⟩ | skip) <;> first | omega | (simp only [lN, hIl, hgI] <;> omega)) | (simp [zAa, D.iV, D.cells, D.cL, D.closed, hIl, hgI]; first | done | omega))) | ((with_reducible apply zA6); (case he => rfl); (case hV | hK | hr | hl => first | rfl | assumption | omega | ((first | refine ⟨?_, ?_⟩ | skip) <;> first | omega | (simp only [lN, hIl, hgI] <;> omega)) | (simp [zAa, D.iV, D.cells, D.cL, D.closed, hIl, hgI]; first | done | omega))) | ((with_reducible apply zBb); (case he => rfl); (case hK | hc | hr => first | rfl | assumption | omega | ((first | refine ⟨?_, ?_⟩ | skip) <;> first | omega | (simp only [lN, hIl, hgI] <;> omega)) | (simp [zAa, D.iV, D.cells, D.cL, D.closed, hIl, hgI]; first | done | omega))) | ((with_reducible apply zBa); (case he => rfl); (case hK | hc | hr | hx | hn => first | rfl | assumption | omega | ((first | refine ⟨?_, ?_⟩ | skip) <;> first | omega | (simp only [lN, hIl, hgI] <;> omega)) | (simp [zAa, D.iV, D.cells, D.cL, D.closed, hIl, hgI]; first | done | omega))) | ((with_reducible apply s_bsl); (case he | hl | hc => first | rfl | assumption | omega | ((first | refine ⟨?_, ?_⟩ | skip) <;> first | omega | (simp only [lN, hIl, hgI] <;> omega)) | (simp [zAa, D.iV, D.cells, D.cL, D.closed, hIl, hgI]; first | done | omega))) | (with_reducible first | (apply cA; constructor) | (apply gA; constructor) | (apply qA; constructor)) | ((with_reducible refine And.intro ?hw ?_); (case hw => first | omega | rfl | exact ⟨_, _, rfl⟩ | assumption | (simp only [lN, hIl, hgI] <;> omega))) | with_reducible intro _)
              all_goals first | omega | skip
              all_goals (refine ⟨k + 1, by omega, by omega, ?_⟩; simp [keepE, St.keep, St.keepG, St.gc, Hp.cut, D.rn, D.rnL, Blk.rnL, Blk.rn, Tv.rnL, Tv.rn, cutF, Own.rn, hst, hy]))
          · have t2 : decide (((k : Nat) : Int) < I.length) = false := by simp; omega
            obtain rfl : k = I.length := by omega
            rw [cin_len]
            repeat' (first | with_reducible (apply swq; constructor) | simp only [go_sem, seval, P3, q3, hIl, t2] | ((with_reducible apply zA5); (case he => rfl); (case hK | hc | hr | hV => first | rfl | assumption | omega | ((first | refine ⟨?_, ?_⟩ | skip) <;> first | omega | (simp only [lN, hIl] <;> omega)) | (simp [zAa, D.iV, D.cells, D.cL, D.closed, hIl]; first | done | omega))) | ((with_reducible apply zA6); (case he => rfl); (case hV | hK | hr | hl => first | rfl | assumption | omega | ((first | refine ⟨?_, ?_⟩ | skip) <;> first | omega | (simp only [lN, hIl] <;> omega)) | (simp [zAa, D.iV, D.cells, D.cL, D.closed, hIl]; first | done | omega))) | ((with_reducible apply zBb); (case he => rfl); (case hK | hc | hr => first | rfl | assumption | omega | ((first | refine ⟨?_, ?_⟩ | skip) <;> first | omega | (simp only [lN, hIl] <;> omega)) | (simp [zAa, D.iV, D.cells, D.cL, D.closed, hIl]; first | done | omega))) | ((with_reducible apply zBa); (case he => rfl); (case hK | hc | hr | hx | hn => first | rfl | assumption | omega | ((first | refine ⟨?_, ?_⟩ | skip) <;> first | omega | (simp only [lN, hIl] <;> omega)) | (simp [zAa, D.iV, D.cells, D.cL, D.closed, hIl]; first | done | omega))) | ((with_reducible apply s_bsl); (case he | hl | hc => first | rfl | assumption | omega | ((first | refine ⟨?_, ?_⟩ | skip) <;> first | omega | (simp only [lN, hIl] <;> omega)) | (simp [zAa, D.iV, D.cells, D.cL, D.closed, hIl]; first | done | omega))) | (with_reducible first | (apply cA; constructor) | (apply gA; constructor) | (apply qA; constructor)) | ((with_reducible refine And.intro ?hw ?_); (case hw => first | omega | rfl | exact ⟨_, _, rfl⟩ | assumption | (simp only [lN, hIl] <;> omega))) | with_reducible intro _)
            all_goals first | omega | skip
            all_goals simp [keepE, St.keep, St.keepG, St.gc, Hp.cut, D.rn, D.rnL, Blk.rnL, Blk.rn, Tv.rnL, Tv.rn, cutF, Own.rn]
      · obtain ⟨rfl, hq⟩ := hq
        refine ⟨_, zBk [0, 1, 2, 3, 4, 5, 6, 7, 8, 9, 10, 11, 12, 13, 14], ?_⟩
        rw [show ({ s' with env := keepE [0, 1, 2, 3, 4, 5, 6, 7, 8, 9, 10, 11, 12, 13, 14] 0 s'.env } : St) = s'.keep [0, 1, 2, 3, 4, 5, 6, 7, 8, 9, 10, 11, 12, 13, 14] from rfl, hq]
        simp only
        generalize (e0 || I.contains p.name) = e1 at *
        repeat' (first | with_reducible (apply swq; constructor) | simp only [go_sem, seval, P3, q3] | ((with_reducible first | refine zAb (kJ1) ?he ?hc ?_ | refine zAe (kJ1) ?he ?hc ?_ | refine zAf (kJ1) ?he ?hc ?_); (case he | hc => first | rfl | (simp [D.erL, D.er, D.cL, D.closed, hlen, hck, hek, hcp, hep]; done))) | ((with_reducible apply zA5); (case he => rfl); (case hK | hc | hr | hV => first | rfl | assumption | omega | ((first | refine ⟨?_, ?_⟩ | skip) <;> first | omega | (simp only [lN, hlen, hck, hek, hcp, hep] <;> omega)) | (simp [zAa, D.iV, D.cells, D.cL, D.closed, hlen, hck, hek, hcp, hep]; first | done | omega))) | ((with_reducible apply zA6); (case he => rfl); (case hV | hK | hr | hl => first | rfl | assumption | omega | ((first | refine ⟨?_, ?_⟩ | skip) <;> first | omega | (simp only [lN, hlen, hck, hek, hcp, hep] <;> omega)) | (simp [zAa, D.iV, D.cells, D.cL, D.closed, hlen, hck, hek, hcp, hep]; first | done | omega))) | ((with_reducible apply zBb); (case he => rfl); (case hK | hc | hr => first | rfl | assumption | omega | ((first | refine ⟨?_, ?_⟩ | skip) <;> first | omega | (simp only [lN, hlen, hck, hek, hcp, hep] <;> omega)) | (simp [zAa, D.iV, D.cells, D.cL, D.closed, hlen, hck, hek, hcp, hep]; first | done | omega))) | ((with_reducible apply zBa); (case he => rfl); (case hK | hc | hr | hx | hn => first | rfl | assumption | omega | ((first | refine ⟨?_, ?_⟩ | skip) <;> first | omega | (simp only [lN, hlen, hck, hek, hcp, hep] <;> omega)) | (simp [zAa, D.iV, D.cells, D.cL, D.closed, hlen, hck, hek, hcp, hep]; first | done | omega))) | ((with_reducible apply s_bsl); (case he | hl | hc => first | rfl | assumption | omega | ((first | refine ⟨?_, ?_⟩ | skip) <;> first | omega | (simp only [lN, hlen, hck, hek, hcp, hep] <;> omega)) | (simp [zAa, D.iV, D.cells, D.cL, D.closed, hlen, hck, hek, hcp, hep]; first | done | omega))) | (with_reducible first | (apply cA; constructor) | (apply gA; constructor) | (apply qA; constructor)) | ((with_reducible refine And.intro ?hw ?_); (case hw => first | omega | rfl | exact ⟨_, _, rfl⟩ | assumption | (simp only [lN, hlen, hck, hek, hcp, hep] <;> omega))) | with_reducible intro _)
        all_goals first | omega | skip
        refine zC5 (Q := fun e s' => e = .exit 4 ∧ s'.keep [0, 1, 2, 3, 4, 5, 6, 7, 8, 9, 10, 11, 12, 13, 14] = ⟨[catD c, zA4 s, .agg x.cells, .str part, .int .i64 day, .ptr 0 0, .ptr 1 0, .ptr 2 0, .bool false, .bool true, .slice (strs I) .no, .ptr 3 0, .int .i64 i, .ptr 4 0, .bool (e1 || J.contains part), .u0, .u0, .u0, .u0, .u0, .u0, .u0, .u0], [], ⟨[.cells [zB8 c], .cells [zAy s], .cells x.cells, .cells [.slice ((only (kept s part) (s.take i)).map ptD) (.tok 0)], .cells p.cells], [.per 14 (only (kept s part) (s.take i)).length]⟩⟩) ?_ fun e s' hq => ?_
        · refine zAz [0, 1, 2, 3, 4, 5, 6, 7, 8, 9, 10, 11, 12, 13, 14, 16, 17] (fun k : Nat => ⟨[catD c, zA4 s, .agg x.cells, .str part, .int .i64 day, .ptr 0 0, .ptr 1 0, .ptr 2 0, .bool false, .bool true, .slice (strs I) .no, .ptr 3 0, .int .i64 i, .ptr 4 0, .bool (e1 || cin J k part), .u0, .slice (strs J) .no, .int .i64 k, .u0, .u0, .u0, .u0, .u0], [], ⟨[.cells [zB8 c], .cells [zAy s], .cells x.cells, .cells [.slice ((only (kept s part) (s.take i)).map ptD) (.tok 0)], .cells p.cells], [.per 14 (only (kept s part) (s.take i)).length]⟩⟩) (fun k => k ≤ J.length) (fun k => J.length - k) 0 (Nat.zero_le _) ?_ ?_
          · simp [keepE, St.keep, St.keepG, St.gc, Hp.cut, D.rn, D.rnL, Blk.rnL, Blk.rn, Tv.rnL, Tv.rn, cutF, Own.rn, cin_zero]
          · intro k hk
            by_cases hkl : k < J.length
            · have t2 : decide (((k : Nat) : Int) < J.length) = true := by simp; omega
              have hgI := str_get hkl
              have hst := cin_succ hkl part
              generalize J[k] = y at *
              generalize cin J k part = b at *
              cases hy : (y == part) <;> cases b <;> cases e1
              all_goals (
                repeat' (first | with_reducible (apply swq; constructor) | simp only [go_sem, seval, P3, q3, hJl, t2, hgI, hy, Bool.false_or, Bool.true_or, Bool.or_false, Bool.or_true] | simp (disch := omega) only [w64, w32, wu8, wu16, wu32, wu64] | ((with_reducible apply zA5); (case he => rfl); (case hK | hc | hr | hV => first | rfl | assumption | omega | ((first | refine ⟨?_, ?_⟩ | skip) <;> first | omega | (simp only [lN, hJl, hgI] <;> omega)) | (simp [zAa, D.iV, D.cells, D.cL, D.closed, hJl, hgI]; first | done | omega))) | ((with_reducible apply zA6); (case he => rfl); (case hV | hK | hr | hl => first | rfl | assumption | omega | ((first | refine ⟨?_, ?_⟩ | skip) <;> first | omega | (simp only [lN, hJl, hgI] <;> omega)) | (simp [zAa, D.iV, D.cells, D.cL, D.closed, hJl, hgI]; first | done | omega))) | ((with_reducible apply zBb); (case he => rfl); (case hK | hc | hr => first | rfl | assumption | omega | ((first | refine ⟨?_, ?_⟩ | skip) <;> first | omega | (simp only [lN, hJl, hgI] <;> omega)) | (simp [zAa, D.iV, D.cells, D.cL, D.closed, hJl, hgI]; first | done | omega))) | ((with_reducible apply zBa); (case he => rfl); (case hK | hc | hr | hx | hn => first | rfl | assumption | omega | ((first | refine ⟨?_, ?_⟩ | skip) <;> first | omega | (simp only [lN, hJl, hgI] <;> omega)) | (simp [zAa, D.iV, D.cells, D.cL, D.closed, hJl, hgI]; first | done | omega))) | ((with_reducible apply s_bsl); (case he | hl | hc => first | rfl | assumption | omega | ((first | refine ⟨?_, ?_⟩ | skip) <;> first | omega | (simp only [lN, hJl, hgI] <;> omega)) | (simp [zAa, D.iV, D.cells, D.cL, D.closed, hJl, hgI]; first | done | omega))) | (with_reducible first | (apply cA; constructor) | (apply gA; constructor) | (apply qA; constructor)) | ((with_reducible refine And.intro ?hw ?_); (case hw => first | omega | rfl | exact ⟨_, _, rfl⟩ | assumption | (simp only [lN, hJl, hgI] <;> omega))) | with_reducible intro _)
                all_goals first | omega | skip
                all_goals (refine ⟨k + 1, by omega, by omega, ?_⟩; simp [keepE, St.keep, St.keepG, St.gc, Hp.cut, D.rn, D.rnL, Blk.rnL, Blk.rn, Tv.rnL, Tv.rn, cutF, Own.rn, hst, hy]))
            · have t2 : decide (((k : Nat) : Int) < J.length) = false := by simp; omega
              obtain rfl : k = J.length := by omega
              rw [cin_len]
              repeat' (first | with_reducible (apply swq; constructor) | simp only [go_sem, seval, P3, q3, hJl, t2] | ((with_reducible apply zA5); (case he => rfl); (case hK | hc | hr | hV => first | rfl | assumption | omega | ((first | refine ⟨?_, ?_⟩ | skip) <;> first | omega | (simp only [lN, hJl] <;> omega)) | (simp [zAa, D.iV, D.cells, D.cL, D.closed, hJl]; first | done | omega))) | ((with_reducible apply zA6); (case he => rfl); (case hV | hK | hr | hl => first | rfl | assumption | omega | ((first | refine ⟨?_, ?_⟩ | skip) <;> first | omega | (simp only [lN, hJl] <;> omega)) | (simp [zAa, D.iV, D.cells, D.cL, D.closed, hJl]; first | done | omega))) | ((with_reducible apply zBb); (case he => rfl); (case hK | hc | hr => first | rfl | assumption | omega | ((first | refine ⟨?_, ?_⟩ | skip) <;> first | omega | (simp only [lN, hJl] <;> omega)) | (simp [zAa, D.iV, D.cells, D.cL, D.closed, hJl]; first | done | omega))) | ((with_reducible apply zBa); (case he => rfl); (case hK | hc | hr | hx | hn => first | rfl | assumption | omega | ((first | refine ⟨?_, ?_⟩ | skip) <;> first | omega | (simp only [lN, hJl] <;> omega)) | (simp [zAa, D.iV, D.cells, D.cL, D.closed, hJl]; first | done | omega))) | ((with_reducible apply s_bsl); (case he | hl | hc => first | rfl | assumption | omega | ((first | refine ⟨?_, ?_⟩ | skip) <;> first | omega | (simp only [lN, hJl] <;> omega)) | (simp [zAa, D.iV, D.cells, D.cL, D.closed, hJl]; first | done | omega))) | (with_reducible first | (apply cA; constructor) | (apply gA; constructor) | (apply qA; constructor)) | ((with_reducible refine And.intro ?hw ?_); (case hw => first | omega | rfl | exact ⟨_, _, rfl⟩ | assumption | (simp only [lN, hJl] <;> omega))) | with_reducible intro _)
              all_goals first | omega | skip
              all_goals simp [keepE, St.keep, St.keepG, St.gc, Hp.cut, D.rn, D.rnL, Blk.rnL, Blk.rn, Tv.rnL, Tv.rn, cutF, Own.rn]
        · obtain ⟨rfl, hq⟩ := hq
          refine ⟨_, zBk [0, 1, 2, 3, 4, 5, 6, 7, 8, 9, 10, 11, 12, 13, 14], ?_⟩
          rw [show ({ s' with env := keepE [0, 1, 2, 3, 4, 5, 6, 7, 8, 9, 10, 11, 12, 13, 14] 0 s'.env } : St) = s'.keep [0, 1, 2, 3, 4, 5, 6, 7, 8, 9, 10, 11, 12, 13, 14] from rfl, hq]
          simp only
          generalize (e1 || J.contains part) = e2 at *
          have hnl : ((only (kept s part) (s.take i)).map ptD).length = (only (kept s part) (s.take i)).length := by simp
          cases e2
          · repeat' (first | with_reducible (apply swq; constructor) | simp only [go_sem, seval, P3, q3] | simp (disch := omega) only [w64, w32, wu8, wu16, wu32, wu64] | ((with_reducible apply zA5); (case he => rfl); (case hK | hc | hr | hV => first | rfl | assumption | omega | ((first | refine ⟨?_, ?_⟩ | skip) <;> first | omega | (simp only [lN, hlen] <;> omega)) | (simp [zAa, D.iV, D.cells, D.cL, D.closed, hlen]; first | done | omega))) | ((with_reducible apply zA6); (case he => rfl); (case hV | hK | hr | hl => first | rfl | assumption | omega | ((first | refine ⟨?_, ?_⟩ | skip) <;> first | omega | (simp only [lN, hlen] <;> omega)) | (simp [zAa, D.iV, D.cells, D.cL, D.closed, hlen]; first | done | omega))) | ((with_reducible apply zBb); (case he => rfl); (case hK | hc | hr => first | rfl | assumption | omega | ((first | refine ⟨?_, ?_⟩ | skip) <;> first | omega | (simp only [lN, hlen] <;> omega)) | (simp [zAa, D.iV, D.cells, D.cL, D.closed, hlen]; first | done | omega))) | ((with_reducible apply zBa); (case he => rfl); (case hK | hc | hr | hx | hn => first | rfl | assumption | omega | ((first | refine ⟨?_, ?_⟩ | skip) <;> first | omega | (simp only [lN, hlen] <;> omega)) | (simp [zAa, D.iV, D.cells, D.cL, D.closed, hlen]; first | done | omega))) | ((with_reducible apply s_bsl); (case he | hl | hc => first | rfl | assumption | omega | ((first | refine ⟨?_, ?_⟩ | skip) <;> first | omega | (simp only [lN, hlen] <;> omega)) | (simp [zAa, D.iV, D.cells, D.cL, D.closed, hlen]; first | done | omega))) | (with_reducible first | (apply cA; constructor) | (apply gA; constructor) | (apply qA; constructor)) | ((with_reducible refine And.intro ?hw ?_); (case hw => first | omega | rfl | exact ⟨_, _, rfl⟩ | assumption | (simp only [lN, hlen] <;> omega))) | with_reducible intro _)
            all_goals first | omega | skip
            refine ⟨i + 1, by omega, by omega, ?_⟩
            simp [keepE, St.keep, St.keepG, St.gc, Hp.cut, D.rn, D.rnL, Blk.rnL, Blk.rn, Tv.rnL, Tv.rn, cutF, Own.rn, hon]
          · repeat' (first | with_reducible (apply swq; constructor) | simp only [go_sem, seval, P3, q3] | simp (disch := omega) only [w64, w32, wu8, wu16, wu32, wu64] | ((with_reducible apply zA5); (case he => rfl); (case hK | hc | hr | hV => first | rfl | assumption | omega | ((first | refine ⟨?_, ?_⟩ | skip) <;> first | omega | (simp only [lN, hlen, hnl, ptD] <;> omega)) | (simp [zAa, D.iV, D.cells, D.cL, D.closed, hlen, hnl, ptD]; first | done | omega))) | ((with_reducible apply zA6); (case he => rfl); (case hV | hK | hr | hl => first | rfl | assumption | omega | ((first | refine ⟨?_, ?_⟩ | skip) <;> first | omega | (simp only [lN, hlen, hnl, ptD] <;> omega)) | (simp [zAa, D.iV, D.cells, D.cL, D.closed, hlen, hnl, ptD]; first | done | omega))) | ((with_reducible apply s_app0T); (case he => rfl); (case hK | hc | hr => first | rfl | assumption | omega | ((first | refine ⟨?_, ?_⟩ | skip) <;> first | omega | (simp only [lN, hlen, hnl, ptD] <;> omega)) | (simp [zAa, D.iV, D.cells, D.cL, D.closed, hlen, hnl, ptD]; first | done | omega))) | ((with_reducible apply s_appFT); (case he => rfl); (case hK | hc | hr | hx | hn => first | rfl | assumption | omega | ((first | refine ⟨?_, ?_⟩ | skip) <;> first | omega | (simp only [lN, hlen, hnl, ptD] <;> omega)) | (simp [zAa, D.iV, D.cells, D.cL, D.closed, hlen, hnl, ptD]; first | done | omega))) | ((with_reducible apply s_bsl); (case he | hl | hc => first | rfl | assumption | omega | ((first | refine ⟨?_, ?_⟩ | skip) <;> first | omega | (simp only [lN, hlen, hnl, ptD] <;> omega)) | (simp [zAa, D.iV, D.cells, D.cL, D.closed, hlen, hnl, ptD]; first | done | omega))) | (with_reducible first | (apply cA; constructor) | (apply gA; constructor) | (apply qA; constructor)) | ((with_reducible refine And.intro ?hw ?_); (case hw => first | omega | rfl | exact ⟨_, _, rfl⟩ | assumption | (simp only [lN, hlen, hnl, ptD] <;> omega))) | with_reducible intro _)
            all_goals first | omega | skip
            refine ⟨i + 1, by omega, by omega, ?_⟩
            simp [keepE, St.keep, St.keepG, St.gc, Hp.cut, D.rn, D.rnL, Blk.rnL, Blk.rn, Tv.rnL, Tv.rn, cutF, Own.rn, hon, ptD, D.er, D.erL]
    · have t1 : decide (((i : Nat) : Int) < s.length) = false := by simp; omega
      obtain rfl : i = s.length := by omega
      rw [List.take_length]
      repeat' (first | with_reducible (apply swq; constructor) | simp only [go_sem, seval, P3, q3, hlen, t1] | ((with_reducible first | refine zAb (kO) ?he ?hc ?_ | refine zAe (kO) ?he ?hc ?_ | refine zAf (kO) ?he ?hc ?_); (case he | hc => first | rfl | (simp [D.erL, D.er, D.cL, D.closed, hlen, hck, hek, hcp, hep, ce, ee, hco, heo]; done))) | ((with_reducible first | refine zAb (kH) ?he ?hc ?_ | refine zAe (kH) ?he ?hc ?_ | refine zAf (kH) ?he ?hc ?_); (case he | hc => first | rfl | (simp [D.erL, D.er, D.cL, D.closed, hlen, hck, hek, hcp, hep, ce, ee, hco, heo]; done))) | ((with_reducible apply zA5); (case he => rfl); (case hK | hc | hr | hV => first | rfl | assumption | omega | ((first | refine ⟨?_, ?_⟩ | skip) <;> first | omega | (simp only [lN, hlen, hck, hek, hcp, hep, ce, ee, hco, heo] <;> omega)) | (simp [zAa, D.iV, D.cells, D.cL, D.closed, hlen, hck, hek, hcp, hep, ce, ee, hco, heo]; first | done | omega))) | ((with_reducible apply zA6); (case he => rfl); (case hV | hK | hr | hl => first | rfl | assumption | omega | ((first | refine ⟨?_, ?_⟩ | skip) <;> first | omega | (simp only [lN, hlen, hck, hek, hcp, hep, ce, ee, hco, heo] <;> omega)) | (simp [zAa, D.iV, D.cells, D.cL, D.closed, hlen, hck, hek, hcp, hep, ce, ee, hco, heo]; first | done | omega))) | ((with_reducible apply zBb); (case he => rfl); (case hK | hc | hr => first | rfl | assumption | omega | ((first | refine ⟨?_, ?_⟩ | skip) <;> first | omega | (simp only [lN, hlen, hck, hek, hcp, hep, ce, ee, hco, heo] <;> omega)) | (simp [zAa, D.iV, D.cells, D.cL, D.closed, hlen, hck, hek, hcp, hep, ce, ee, hco, heo]; first | done | omega))) | ((with_reducible apply zBa); (case he => rfl); (case hK | hc | hr | hx | hn => first | rfl | assumption | omega | ((first | refine ⟨?_, ?_⟩ | skip) <;> first | omega | (simp only [lN, hlen, hck, hek, hcp, hep, ce, ee, hco, heo] <;> omega)) | (simp [zAa, D.iV, D.cells, D.cL, D.closed, hlen, hck, hek, hcp, hep, ce, ee, hco, heo]; first | done | omega))) | ((with_reducible apply s_bsl); (case he | hl | hc => first | rfl | assumption | omega | ((first | refine ⟨?_, ?_⟩ | skip) <;> first | omega | (simp only [lN, hlen, hck, hek, hcp, hep, ce, ee, hco, heo] <;> omega)) | (simp [zAa, D.iV, D.cells, D.cL, D.closed, hlen, hck, hek, hcp, hep, ce, ee, hco, heo]; first | done | omega))) | (with_reducible first | (apply cA; constructor) | (apply gA; constructor) | (apply qA; constructor)) | ((with_reducible refine And.intro ?hw ?_); (case hw => first | omega | rfl | exact ⟨_, _, rfl⟩ | assumption | (simp only [lN, hlen, hck, hek, hcp, hep, ce, ee, hco, heo] <;> omega))) | with_reducible intro _)
      all_goals first | omega | skip
      all_goals simp [D.closed, D.er]
end Go.Proofs.YtcchbohfcmfmlaaGreat
end
section
set_option maxRecDepth 100000
set_option linter.unusedSimpArgs false
set_option linter.unusedVariables false
namespace Go.Proofs.YtcchbohfcmfmlaaGreat
open Go GoV Go.RowKit
abbrev B64 (z : Int) : Prop := -9223372036854775808 ≤ z ∧ z ≤ 9223372036854775807
theorem opens_iv {w : World} : ∀ n, Opens Tryz.prog w n 38 (fun x : Int × Int => [.int .i64 x.1, .int .i64 x.2]) (fun x => B64 x.1 ∧ B64 x.2) := by
  refine zBm fun n => ?_
  have hF : zD1 Tryz.prog w n [⟨"Low", 3, 0, false, "", "", 0⟩, ⟨"High", 3, 1, false, "", "", 8⟩] 0 _ _ :=
    zAi (c := 1) rfl (by kernel_rfl) (zCk Tryz.underlying3) (zAi (c := 1) rfl (by kernel_rfl) (zCk Tryz.underlying3) zB5)
  exact (zBc Tryz.underlying38 (by kernel_rfl) hF).imp (fun a => (a.1, a.2.1)) (fun a _ => by simp) (fun a h => ⟨h.1, h.2.1⟩)
theorem opens_life {w : World} : ∀ n, Opens Tryz.prog w n 40 (fun x : (Int × Int) × (Int × Int) × (Int × Int) => [.int .i64 x.1.1, .int .i64 x.1.2, .int .i64 x.2.1.1, .int .i64 x.2.1.2, .int .i64 x.2.2.1, .int .i64 x.2.2.2]) (fun _ => True) := by
  refine zBm fun n => ?_
  have hF : zD1 Tryz.prog w n [⟨"Km", 38, 0, false, "", "", 0⟩, ⟨"Cycles", 38, 2, false, "", "", 16⟩, ⟨"Damage", 38, 4, false, "", "", 32⟩] 0 _ _ :=
    zAi (c := 2) rfl (by kernel_rfl) (opens_iv n) (zAi (c := 2) rfl (by kernel_rfl) (opens_iv n) (zAi (c := 2) rfl (by kernel_rfl) (opens_iv n) zB5))
  exact (zBc Tryz.underlying40 (by kernel_rfl) hF).imp (fun a => (a.1, a.2.1, a.2.2.1)) (fun a _ => by simp) (fun a h => trivial)
theorem opens_prop {w : World} : ∀ n, Opens Tryz.prog w n 77 (fun x : List UInt8 × List UInt8 => [.str x.1, .str x.2]) (fun x => x.1.length ≤ 9223372036854775807) := by
  refine zBm fun n => ?_
  have hF : zD1 Tryz.prog w n [⟨"Key", 9, 0, false, "", "", 0⟩, ⟨"Value", 9, 1, false, "", "", 16⟩] 0 _ _ :=
    zAi (c := 1) rfl (by kernel_rfl) (zBr Tryz.underlying9) (zAi (c := 1) rfl (by kernel_rfl) (zBr Tryz.underlying9) zB5)
  exact (zBc Tryz.underlying77 (by kernel_rfl) hF).imp (fun a => (a.1, a.2.1)) (fun a _ => by simp) (fun a h => h.1)
theorem opens_props {w : World} : ∀ n, Opens Tryz.prog w n 36 (fun l : List (List UInt8 × List UInt8) => [.slice (l.map propD) .no]) (fun l => ∀ x ∈ l, x.1.length ≤ 9223372036854775807) :=
  zBm fun n => (zCq Tryz.underlying36 (show 0 < Tryz.prog.cellsOf 77 by rw [show Tryz.prog.cellsOf 77 = 2 by kernel_rfl]; omega) (opens_prop n)).imp id (fun a _ => rfl) (fun a h => h.2)
theorem opens_part {w : World} : ∀ n, Opens Tryz.prog w n 42 Pt.cells PtM := by
  refine zBm fun n => ?_
  have hF : zD1 Tryz.prog w n [⟨"Name", 9, 0, false, "", "", 0⟩, ⟨"Kind", 9, 1, false, "", "", 16⟩, ⟨"Into", 9, 2, false, "", "", 32⟩, ⟨"Slot", 9, 3, false, "", "", 48⟩, ⟨"Made", 3, 4, false, "", "", 64⟩, ⟨"Since", 3, 5, false, "", "", 72⟩, ⟨"Scrapped", 4, 6, false, "", "", 80⟩, ⟨"Props", 36, 7, false, "", "", 88⟩, ⟨"Life", 40, 8, false, "", "", 112⟩] 0 _ _ :=
    zAi (c := 1) rfl (by kernel_rfl) (zBr Tryz.underlying9) (zAi (c := 1) rfl (by kernel_rfl) (zBr Tryz.underlying9) (zAi (c := 1) rfl (by kernel_rfl) (zBr Tryz.underlying9) (zAi (c := 1) rfl (by kernel_rfl) (zBr Tryz.underlying9)
      (zAi (c := 1) rfl (by kernel_rfl) (zCk Tryz.underlying3) (zAi (c := 1) rfl (by kernel_rfl) (zCk Tryz.underlying3) (zAi (c := 1) rfl (by kernel_rfl) (opens_bool Tryz.underlying4)
        (zAi (c := 1) rfl (by kernel_rfl) (opens_props n) (zAi (c := 6) rfl (by kernel_rfl) (opens_life n) zB5))))))))
  exact (zBc Tryz.underlying42 (by kernel_rfl) hF).imp (fun a => ⟨a.1, a.2.1, a.2.2.1, a.2.2.2.1, a.2.2.2.2.1, a.2.2.2.2.2.1, a.2.2.2.2.2.2.1, a.2.2.2.2.2.2.2.1, a.2.2.2.2.2.2.2.2.1.1, a.2.2.2.2.2.2.2.2.1.2.1, a.2.2.2.2.2.2.2.2.1.2.2⟩) (fun a _ => by simp [Pt.cells]) (fun a h => ⟨h.1, h.2.2.2.2.2.2.2.1, h.2.2.2.2.1.1, h.2.2.2.2.2.1.1⟩)
theorem opens_parts {w : World} : ∀ n, Opens Tryz.prog w n 25 (fun l : List Pt => [zAy l]) (fun l => ∀ p ∈ l, PtM p) :=
  zBm fun n => (zCq Tryz.underlying25 (show 0 < Tryz.prog.cellsOf 42 by rw [show Tryz.prog.cellsOf 42 = 14 by kernel_rfl]; omega) (opens_part n)).imp id (fun a _ => rfl) (fun a h => h.2)
theorem opens_state {w : World} : ∀ n, Opens Tryz.prog w n 27 (fun l : List Pt => [zAy l]) (fun l => ∀ p ∈ l, PtM p) := by
  refine zBm fun n => ?_
  have hF : zD1 Tryz.prog w n [⟨"Parts", 25, 0, false, "", "", 0⟩] 0 _ _ := zAi (c := 1) rfl (by kernel_rfl) (opens_parts n) zB5
  exact (zBc Tryz.underlying27 (by kernel_rfl) hF).imp (fun a => a.1) (fun a _ => by simp) (fun a h => h.1)
theorem opens_kids {w : World} (n : Nat) (h : Opens Tryz.prog w n 30 X.cells (fun _ => True)) : Opens Tryz.prog w (n + 1) 28 (fun l : List X => [.slice (l.map X.d) .no]) (fun _ => True) :=
  (zCq Tryz.underlying28 (show 0 < Tryz.prog.cellsOf 30 by rw [show Tryz.prog.cellsOf 30 = 6 by kernel_rfl]; omega) h).imp id (fun a _ => by
    have e : (fun x : X => pk x.cells) = X.d := by funext x; rw [X.d_eq]; rfl
    show [D.slice (a.map X.d) .no] = [D.slice (a.map fun x => pk x.cells) .no]
    rw [e]) (fun a h => trivial)
theorem opens_expr {w : World} : ∀ n, Opens Tryz.prog w n 30 X.cells (fun _ => True)
  | 0 => opens_zero
  | n + 1 => by
    have hk : Opens Tryz.prog w n 28 (fun l : List X => [.slice (l.map X.d) .no]) (fun _ => True) := by
      cases n with
      | zero => exact opens_zero
      | succ m => exact opens_kids m (opens_expr m)
    have hF : zD1 Tryz.prog w n [⟨"Op", 3, 0, false, "", "", 0⟩, ⟨"Name", 9, 1, false, "", "", 8⟩, ⟨"Value", 9, 2, false, "", "", 24⟩, ⟨"N", 3, 3, false, "", "", 40⟩, ⟨"Extra", 3, 4, false, "", "", 48⟩, ⟨"Kids", 28, 5, false, "", "", 56⟩] 0 _ _ :=
      zAi (c := 1) rfl (by kernel_rfl) (zCk Tryz.underlying3) (zAi (c := 1) rfl (by kernel_rfl) (zBr Tryz.underlying9) (zAi (c := 1) rfl (by kernel_rfl) (zBr Tryz.underlying9)
        (zAi (c := 1) rfl (by kernel_rfl) (zCk Tryz.underlying3) (zAi (c := 1) rfl (by kernel_rfl) (zCk Tryz.underlying3) (zAi (c := 1) rfl (by kernel_rfl) hk zB5)))))
    exact (zBc Tryz.underlying30 (by kernel_rfl) hF).imp (fun a => X.mk a.1 a.2.1 a.2.2.1 a.2.2.2.1 a.2.2.2.2.1 a.2.2.2.2.2.1) (fun a _ => by simp [X.cells, X.op, X.nam, X.val, X.num, X.ext, X.kids]) (fun a h => trivial)
end Go.Proofs.YtcchbohfcmfmlaaGreat
end
section
set_option maxRecDepth 100000
set_option linter.unusedSimpArgs false
set_option linter.unusedVariables false
namespace Go.Proofs.YtcchbohfcmfmlaaGreat
open Go GoV Go.RowKit
theorem opens_strs34 {w : World} : ∀ n, Opens Tryz.prog w n 34 (fun l : List Tx => [.slice (strs l) .no]) (fun l => l.length ≤ 9223372036854775807) :=
  zBm fun n => (zCq Tryz.underlying34 (show 0 < Tryz.prog.cellsOf 9 by rw [show Tryz.prog.cellsOf 9 = 1 by kernel_rfl]; omega) (zBr Tryz.underlying9)).imp id (fun a _ => rfl) (fun a h => h.1)
theorem opens_slot {w : World} : ∀ n, Opens Tryz.prog w n 86 Sl.cells Sl.In := by
  refine zBm fun n => ?_
  have hF : zD1 Tryz.prog w n [⟨"Name", 9, 0, false, "", "", 0⟩, ⟨"Kinds", 34, 1, false, "", "", 16⟩, ⟨"Normal", 3, 2, false, "", "", 40⟩] 0 _ _ :=
    zAi (c := 1) rfl (by kernel_rfl) (zBr Tryz.underlying9) (zAi (c := 1) rfl (by kernel_rfl) (opens_strs34 n) (zAi (c := 1) rfl (by kernel_rfl) (zCk Tryz.underlying3) zB5))
  exact (zBc Tryz.underlying86 (by kernel_rfl) hF).imp (fun a => ⟨a.1, a.2.1, a.2.2.1⟩) (fun a _ => by simp [Sl.cells]) (fun a h => ⟨h.1, h.2.1⟩)
theorem opens_slots {w : World} : ∀ n, Opens Tryz.prog w n 80 (fun l : List Sl => [.slice (l.map slD) .no]) (fun l => l.length ≤ 9223372036854775807 ∧ ∀ x ∈ l, x.In) :=
  zBm fun n => (zCq Tryz.underlying80 (show 0 < Tryz.prog.cellsOf 86 by rw [show Tryz.prog.cellsOf 86 = 3 by kernel_rfl]; omega) (opens_slot n)).imp id (fun a _ => rfl) (fun a h => h)
theorem opens_kind {w : World} : ∀ n, Opens Tryz.prog w n 82 Kd.cells Kd.In := by
  refine zBm fun n => ?_
  have hF : zD1 Tryz.prog w n [⟨"Name", 9, 0, false, "", "", 0⟩, ⟨"Vehicle", 4, 1, false, "", "", 16⟩, ⟨"Slots", 80, 2, false, "", "", 24⟩] 0 _ _ :=
    zAi (c := 1) rfl (by kernel_rfl) (zBr Tryz.underlying9) (zAi (c := 1) rfl (by kernel_rfl) (opens_bool Tryz.underlying4) (zAi (c := 1) rfl (by kernel_rfl) (opens_slots n) zB5))
  exact (zBc Tryz.underlying82 (by kernel_rfl) hF).imp (fun a => ⟨a.1, a.2.1, a.2.2.1⟩) (fun a _ => by simp [Kd.cells]) (fun a h => ⟨h.1, h.2.2.1⟩)
theorem opens_kinds {w : World} : ∀ n, Opens Tryz.prog w n 22 (fun l : List Kd => [zB8 l]) CatIn :=
  zBm fun n => (zCq Tryz.underlying22 (show 0 < Tryz.prog.cellsOf 82 by rw [show Tryz.prog.cellsOf 82 = 3 by kernel_rfl]; omega) (opens_kind n)).imp id (fun a _ => rfl) (fun a h => h)
theorem opens_cat {w : World} : ∀ n, Opens Tryz.prog w n 24 (fun l : List Kd => [zB8 l]) CatIn := by
  refine zBm fun n => ?_
  have hF : zD1 Tryz.prog w n [⟨"Kinds", 22, 0, false, "", "", 0⟩] 0 _ _ := zAi (c := 1) rfl (by kernel_rfl) (opens_kinds n) zB5
  exact (zBc Tryz.underlying24 (by kernel_rfl) hF).imp (fun a => a.1) (fun a _ => by simp) (fun a h => h.1)
theorem others_c (c : List Kd) (hc : CatIn c) (s : List Pt) (hs : ∀ p ∈ s, PtM p) (x : X) (part : Tx) (day : Int) : Pur M 3 [.agg [zB8 c], .agg [zAy s], .agg x.cells, .str part, .int .i64 day] (.bool true) :=
  others_p c s x part day hc hs
end Go.Proofs.YtcchbohfcmfmlaaGreat
end
