/- The engine, part z: other numbers: what a state forgets, what a call is shown, what is frozen. Own work; no program in sight. -/
import Derived.Test.YtiodnobmnfjdlaaDoorEm
set_option linter.unusedSimpArgs false
namespace GoV
open Go

/-- Numbers below n. -/
def cutF (n : Nat) (b : Nat) : Option Nat := if b < n then some b else none

def Blk.rnL (β τ : Nat → Option Nat) : List Blk → List Blk
  | [] => []
  | B :: r => B.rn β τ :: Blk.rnL β τ r
def Tv.rnL (β τ : Nat → Option Nat) : List Tv → List Tv
  | [] => []
  | V :: r => V.rn β τ :: Tv.rnL β τ r

theorem Blk.rnL_eq (β τ : Nat → Option Nat) (l : List Blk) : Blk.rnL β τ l = l.map (Blk.rn β τ) := by
  induction l with
  | nil => rfl
  | cons a l ih => simp [Blk.rnL, ih]
theorem Tv.rnL_eq (β τ : Nat → Option Nat) (l : List Tv) : Tv.rnL β τ l = l.map (Tv.rn β τ) := by
  induction l with
  | nil => rfl
  | cons a l ih => simp [Tv.rnL, ih]

/-- The store, less all but the first blocks and growing slices. -/
def Hp.cut (hp : Hp) (n m : Nat) : Hp := ⟨Blk.rnL (cutF n) (cutF m) (hp.H.take n), Tv.rnL (cutF n) (cutF m) (hp.tk.take m)⟩
def Gh.cut (g : Gh) (n m : Nat) : Gh := ⟨g.r.take n, g.tk.take m, g.I⟩

theorem rnL_length (β τ : Nat → Option Nat) : ∀ l : List D, (D.rnL β τ l).length = l.length
  | [] => rfl
  | d :: l => by simp [D.rnL, rnL_length β τ l]

theorem pairs_fst (β τ : Nat → Option Nat) : ∀ l : List (D × D), (pairs β τ l).map (·.1) = D.rnL β τ (l.map (·.1))
  | [] => rfl
  | (a, b) :: l => by simp [pairs, D.rnL, pairs_fst β τ l]
theorem pairs_snd (β τ : Nat → Option Nat) : ∀ l : List (D × D), (pairs β τ l).map (·.2) = D.rnL β τ (l.map (·.2))
  | [] => rfl
  | (a, b) :: l => by simp [pairs, D.rnL, pairs_snd β τ l]

theorem BlkRel.rn {w : World} {g g' : Gh} {β τ : Nat → Option Nat} {B : Blk} {o : Option Obj} (he : Ren β τ g g') (h : BlkRel w g B o) : BlkRel w g' (B.rn β τ) o := by
  cases B with
  | cells cs =>
    obtain ⟨xs, e, h1, h2, h3⟩ := h
    exact ⟨xs, e, h1, RelL.rn cs he h2, h3⟩
  | gone => trivial
  | map es =>
    obtain ⟨ents, clock, h1, h2, h3, h4⟩ := h
    exact ⟨ents, clock, h1, by rw [pairs_fst]; exact RelL.rn _ he h2, by rw [pairs_snd]; exact RelL.rn _ he h3, h4⟩
  | siter s p => exact h
  | tcells e cs =>
    obtain ⟨xs, h1, h2, h3⟩ := h
    exact ⟨xs, h1, RelL.rn cs he h2, h3⟩

theorem TvRel.rn {w : World} {g g' : Gh} {β τ : Nat → Option Nat} {T : Tk} {V : Tv} (he : Ren β τ g g') (h : TvRel w g T V) : TvRel w g' T (V.rn β τ) := by
  cases V with
  | per k len => exact ⟨h.1, h.2.1, fun b hb o ho => h.2.2 b hb o (by rw [← he.I]; exact ho)⟩
  | chg k cs =>
    refine ⟨h.1, by rw [rnL_length]; exact h.2.1, h.2.2.1, fun b hb => ⟨fun o ho => (h.2.2.2 b hb).1 o (by rw [← he.I]; exact ho), ?_⟩⟩
    obtain ⟨xs, e, h1, h2⟩ := (h.2.2.2 b hb).2
    exact ⟨xs, e, h1, RelL.rn cs he h2⟩
  | byt e bs => exact ⟨h.1, h.2.1, h.2.2.1, fun b hb => ⟨fun o ho => (h.2.2.2 b hb).1 o (by rw [← he.I]; exact ho), (h.2.2.2 b hb).2⟩⟩

theorem blk_rn_gone {β τ : Nat → Option Nat} {B : Blk} (h : B = .gone) : B.rn β τ = .gone := by subst h; rfl

theorem Ren.cut (g : Gh) (n m : Nat) : Ren (cutF n) (cutF m) g (g.cut n m) := by
  refine ⟨rfl, fun b b' k h1 h2 => ?_, fun t t' T h1 h2 => ?_⟩
  · unfold cutF at h1
    split at h1
    · rename_i hlt
      cases h1
      show (g.r.take n)[b]? = some k
      rw [List.getElem?_take, if_pos hlt]; exact h2
    · cases h1
  · unfold cutF at h1
    split at h1
    · rename_i hlt
      cases h1
      show (g.tk.take m)[t]? = some T
      rw [List.getElem?_take, if_pos hlt]; exact h2
    · cases h1

theorem take_get {α : Type} {l : List α} {n i : Nat} {x : α} (h : (l.take n)[i]? = some x) : l[i]? = some x ∧ i < n := by
  rw [List.getElem?_take] at h
  split at h
  · exact ⟨h, by assumption⟩
  · cases h

theorem blks_take {l : List Tk} {m n : Nat} (h : n ∈ blks (l.take m)) : n ∈ blks l := by
  obtain ⟨T, h1, h2⟩ := mem_blks.1 h
  exact mem_blks.2 ⟨T, List.mem_of_mem_take h1, h2⟩

/-- What is new is forgotten. -/
theorem Inv.cut {w0 B hp w G} (h : Inv w0 B hp w G) (n m : Nat) (hn : B.r.length ≤ n) (hm : B.tk.length ≤ m) : Inv w0 B (hp.cut n m) w (G.cut n m) := by
  have h0 := h.heap
  have hr := Ren.cut G n m
  have hh : HeapRel w (G.cut n m) (hp.cut n m) := by
    refine ⟨?_, fun b C k hC hk => ?_, fun k hk => h0.lt k (List.mem_of_mem_take hk), h0.nodup.sublist (List.take_sublist _ _), ?_, fun t V T hV hT => ?_, fun T hT => ?_, ?_, fun b o ho => ⟨(h0.imm b o ho).1, fun i hi => ?_⟩⟩
    · simp [Hp.cut, Gh.cut, Blk.rnL_eq, h0.len]
    · simp only [Hp.cut, Blk.rnL_eq, List.getElem?_map, Option.map_eq_some_iff] at hC
      obtain ⟨C', h1, rfl⟩ := hC
      obtain ⟨h1, _⟩ := take_get h1
      obtain ⟨h2, _⟩ := take_get hk
      exact (h0.blk b C' k h1 h2).rn hr
    · simp [Hp.cut, Gh.cut, Tv.rnL_eq, h0.lent]
    · simp only [Hp.cut, Tv.rnL_eq, List.getElem?_map, Option.map_eq_some_iff] at hV
      obtain ⟨V', h1, rfl⟩ := hV
      obtain ⟨h1, _⟩ := take_get h1
      obtain ⟨h2, _⟩ := take_get hT
      exact (h0.tv t V' T h1 h2).rn hr
    · exact (h0.tok T (List.mem_of_mem_take hT)).keep (fun _ _ => rfl) fun b _ hb hm => hb (List.mem_of_mem_take hm)
    · show (blks (G.tk.take m)).Nodup
      unfold blks
      exact h0.tokd.sublist ((List.take_sublist _ _).filterMap _)
    · obtain ⟨h2, h3⟩ := take_get hi
      have := (h0.imm b o ho).2 i h2
      simp only [Hp.cut, Blk.rnL_eq, List.getElem?_map, List.getElem?_take, if_pos h3, this, Option.map_some]
      rfl
  refine h.ghost hh ⟨h.evo.imm, fun b k hb => ?_, fun t T hT => ?_⟩ (fun k hk => .inl (List.mem_of_mem_take hk)) (fun k hk => .inl (blks_take hk)) (fun b o ho => .inl ho)
  · show (G.r.take n)[b]? = some k
    have := lt_of_get hb
    rw [List.getElem?_take, if_pos (by omega)]; exact h.evo.ref b k hb
  · obtain ⟨T', h1, h2⟩ := h.evo.tok t T hT
    refine ⟨T', ?_, h2⟩
    have := lt_of_get hT
    show (G.tk.take m)[t]? = some T'
    rw [List.getElem?_take, if_pos (by omega)]; exact h1

/-- What a function that computes leaves for its caller: nothing but what never changes. -/
theorem Inv.none {w0 hp w G} {I : Nat → Nat → Prop} (h : Inv w0 ⟨[], [], I⟩ hp w G) : Inv w0 ⟨[], [], I⟩ ⟨[], []⟩ w G.cl := by
  have := h.cut 0 0 (Nat.le_refl _) (Nat.le_refl _)
  simpa [Hp.cut, Gh.cut, Gh.cl, Blk.rnL, Tv.rnL] using this

/-- A state forgets its later blocks and growing slices. -/
def St.gc (s : St) (n m : Nat) : St := ⟨D.rnL (cutF n) (cutF m) s.env, [], s.hp.cut n m⟩

theorem rnL_getD (β τ : Nat → Option Nat) : ∀ (l : List D) (i : Nat), (D.rnL β τ l).getD i .undef = (l.getD i .undef).rn β τ
  | [], i => by simp [D.rnL, D.rn]
  | d :: l, 0 => by simp [D.rnL]
  | d :: l, i + 1 => by simpa [D.rnL] using rnL_getD β τ l i

theorem weak_gc {C : Cfg} {s : St} (n m : Nat) (hn : C.n0 ≤ n) (hm : C.m0 ≤ m) : Weak C s (s.gc n m) := by
  intro w0 B a w h
  obtain ⟨G, g0, gb, g1, g2, g3, g4⟩ := h
  refine ⟨G.cut n m, g0.cut n m (by rw [gb.1]; exact hn) (by rw [gb.2]; exact hm), gb, g1, g2, by simpa [St.gc, rnL_length] using g3, fun t => ?_⟩
  have := g4 t
  unfold St.slot at *
  split
  · rename_i i hi
    rw [hi] at this
    simp only [St.gc, rnL_getD]
    exact Rel.rn _ (Ren.cut G n m) this
  · simp [St.gc, lk, Rel]

/-- A slot with the nil slice becomes a growing one. -/
theorem weak_new {C : Cfg} {s : St} (i k : Nat) (hk : 0 < k) (chg : Bool) (hs : s.env.getD i .undef = .lit (.slice none 0 0)) :
    Weak C s ⟨s.env.set i (if chg then .gs s.hp.tk.length 0 else .slice [] (.tok s.hp.tk.length)), [], { s.hp with tk := s.hp.tk ++ [if chg then .chg k [] else .per k 0] }⟩ := by
  intro w0 B a w h
  obtain ⟨G, g0, gb, g1, g2, g3, g4⟩ := h
  obtain ⟨q1, q2⟩ := g0.tokFull (len := 0) (a := none) hk (if chg then .chg k [] else .per k 0) (by cases chg <;> simp)
  refine ⟨_, q1, gb, g1, g2, by simpa using g3, fun t => ?_⟩
  have := g4 t
  unfold St.slot at *
  split
  · rename_i j hj
    rw [hj] at this
    simp only at this ⊢
    by_cases e : i = j
    · subst e
      rw [hs] at this
      simp only [Rel] at this
      have hl : i < s.env.length := by
        rcases Nat.lt_or_ge i s.env.length with q | q
        · exact q
        · simp [List.getD, List.getElem?_eq_none q] at hs
      have e1 : (s.env.set i (if chg then D.gs s.hp.tk.length 0 else .slice [] (.tok s.hp.tk.length))).getD i .undef = (if chg then D.gs s.hp.tk.length 0 else .slice [] (.tok s.hp.tk.length)) := by
        simp [List.getD, hl]
      rw [e1, g0.heap.lent]
      cases chg
      · simp only [Bool.false_eq_true, if_false, Rel]
        refine ⟨⟨0, 0, none⟩, 0, k, [], .inr ⟨this.1, by simp, rfl⟩, by simp, RelL.nil, by simp, ⟨fun _ => rfl, by simp [flat]⟩, ?_⟩
        exact ⟨_, tok_get _ _, rfl, by simp, fun _ => by rw [this.1]; rfl⟩
      · simp only [if_true, Rel]
        exact ⟨none, 0, _, this.1, by simp, tok_get _ _, by simp, fun _ => by simp⟩
    · have e1 : (s.env.set i (if chg then D.gs s.hp.tk.length 0 else .slice [] (.tok s.hp.tk.length))).getD j .undef = s.env.getD j .undef := by
        simp [List.getD, List.getElem?_set, e]
      rw [e1]
      exact Rel.evo _ q2 this
  · simp [lk, Rel]

/-! ### What is frozen -/

mutual
/-- Block b holds the cells cs from now on. -/
def D.fz (b : Nat) (cs : List D) : D → D
  | .ptr c o => if c = b then .ip (cs.drop o) else .ptr c o
  | .sl c k o l cap => if c = b then (if o + l * k ≤ cs.length ∧ l ≤ cap ∧ elemsK k (chunk k l (cs.drop o)) = true then .slice (chunk k l (cs.drop o)) (if cap = l then .full else .no) else .undef) else .sl c k o l cap
  | .agg ds => .agg (D.fzL b cs ds)
  | .tup vs => .tup (D.fzL b cs vs)
  | .iface t d => .iface t (D.fz b cs d)
  | .fn f a c => .fn f (D.fzL b cs a) (D.fzL b cs c)
  | .undef => .undef
  | .skip => .skip
  | .int k n => .int k n
  | .bool v => .bool v
  | .str s => .str s
  | .lit v => .lit v
  | .slice es o => .slice es o
  | .ip ds => .ip ds
  | .gs t n => .gs t n
  | .gp t n o => .gp t n o
  | .mp c => .mp c
def D.fzL (b : Nat) (cs : List D) : List D → List D
  | [] => []
  | d :: ds => D.fz b cs d :: D.fzL b cs ds
end

mutual
/-- The growing slice t, of n elements of k cells, holds the cells cs from now on. -/
def D.fzt (t k n : Nat) (cs : List D) : D → D
  | .gs u m => if u = t then (if m = n then .slice (chunk k n cs) (.tok t) else .undef) else .gs u m
  | .gp u m o => if u = t then (if m = n then .ip (cs.drop o) else .undef) else .gp u m o
  | .agg ds => .agg (D.fztL t k n cs ds)
  | .tup vs => .tup (D.fztL t k n cs vs)
  | .iface u d => .iface u (D.fzt t k n cs d)
  | .fn f a c => .fn f (D.fztL t k n cs a) (D.fztL t k n cs c)
  | .undef => .undef
  | .skip => .skip
  | .int k n => .int k n
  | .bool v => .bool v
  | .str s => .str s
  | .lit v => .lit v
  | .slice es o => .slice es o
  | .ip ds => .ip ds
  | .ptr b o => .ptr b o
  | .sl c k o l cap => .sl c k o l cap
  | .mp c => .mp c
def D.fztL (t k n : Nat) (cs : List D) : List D → List D
  | [] => []
  | d :: ds => D.fzt t k n cs d :: D.fztL t k n cs ds
end

def Blk.mapD (f : D → D) : Blk → Blk
  | .cells cs => .cells (cs.map f)
  | .gone => .gone
  | .map es => .map (es.map fun p => (f p.1, f p.2))
  | .siter s p => .siter s p
  | .tcells e cs => .tcells e (cs.map f)
def Tv.mapD (f : D → D) : Tv → Tv
  | .per k n => .per k n
  | .chg k cs => .chg k (cs.map f)
  | .byt e bs => .byt e bs

/-- Other data for the same values, wherever they stand. -/
theorem relL_map {w w' : World} {g g' : Gh} {f : D → D} (hf : ∀ d x, Rel w g d x → Rel w' g' (f d) x) : ∀ {ds : List D} {xs : List Value}, RelL w g ds xs → RelL w' g' (ds.map f) xs
  | [], xs, h => by rw [h.inv_nil]; exact RelL.nil
  | d :: ds, xs, h => by
    obtain ⟨y, ys, rfl, h1, h2⟩ := h.inv
    exact RelL.cons (hf d y h1) (relL_map hf h2)

theorem BlkRel.mapD {w w' : World} {g g' : Gh} {f : D → D} (hf : ∀ d x, Rel w g d x → Rel w' g' (f d) x) {B : Blk} {o : Option Obj} (h : BlkRel w g B o) : BlkRel w' g' (B.mapD f) o := by
  cases B with
  | cells cs =>
    obtain ⟨xs, e, h1, h2, h3⟩ := h
    exact ⟨xs, e, h1, relL_map hf h2, h3⟩
  | gone => trivial
  | map es =>
    obtain ⟨ents, clock, h1, h2, h3, h4⟩ := h
    refine ⟨ents, clock, h1, ?_, ?_, h4⟩
    · have := relL_map hf h2
      simpa [List.map_map, Function.comp_def] using this
    · have := relL_map hf h3
      simpa [List.map_map, Function.comp_def] using this
  | siter s p => exact h
  | tcells e cs =>
    obtain ⟨xs, h1, h2, h3⟩ := h
    exact ⟨xs, h1, relL_map hf h2, h3⟩

theorem TvRel.mapD {w : World} {g g' : Gh} {f : D → D} (hf : ∀ d x, Rel w g d x → Rel w g' (f d) x) {T : Tk} {V : Tv} (hI : ∀ b, T.blk = some b → ∀ o, g'.I b o → g.I b o) (h : TvRel w g T V) : TvRel w g' T (V.mapD f) := by
  cases V with
  | per k len => exact ⟨h.1, h.2.1, fun b hb o ho => h.2.2 b hb o (hI b hb o ho)⟩
  | chg k cs =>
    refine ⟨h.1, by simpa using h.2.1, h.2.2.1, fun b hb => ⟨fun o ho => (h.2.2.2 b hb).1 o (hI b hb o ho), ?_⟩⟩
    obtain ⟨xs, e, h1, h2⟩ := (h.2.2.2 b hb).2
    exact ⟨xs, e, h1, relL_map hf h2⟩
  | byt e bs => exact ⟨h.1, h.2.1, h.2.2.1, fun b hb => ⟨fun o ho => (h.2.2.2 b hb).1 o (hI b hb o ho), (h.2.2.2 b hb).2⟩⟩

theorem mapD_gone {f : D → D} : Blk.mapD f .gone = .gone := rfl

theorem erL_length : ∀ l : List D, (D.erL l).length = l.length
  | [] => rfl
  | d :: l => by simp [D.erL, erL_length l]

mutual
theorem fz_rel {w : World} {g g' : Gh} {b n : Nat} {cs : List D} {xs : List Value} (hr : g'.r = g.r) (ht : g'.tk = g.tk) (he : Evo w g w g') (hb : g.r[b]? = some n) (hc : RelL w g'.cl cs xs) (hA : At w g'.I ⟨n, 0, none⟩ xs) :
    ∀ (d : D) {x : Value}, Rel w g d x → Rel w g' (D.fz b cs d) x
  | .ptr c o, x, h => by
    simp only [Rel, D.fz] at h ⊢
    obtain ⟨k, h1, h2⟩ := h
    by_cases e : c = b
    · subst e
      rw [hb] at h1; cases h1
      simp only [if_true, Rel]
      refine ⟨_, xs.drop o, h2, hc.drop o, ?_⟩
      have := hA.drop o
      simpa using this
    · simp only [e, if_false, Rel]; exact ⟨k, by rw [hr]; exact h1, h2⟩
  | .sl c k o l cap, x, h => by
    simp only [Rel, D.fz] at h ⊢
    obtain ⟨m, o', h1, h2, h3⟩ := h
    by_cases e : c = b
    · subst e
      rw [hb] at h1; cases h1
      simp only [if_true]
      split
      · rename_i hh
        obtain ⟨c1, c2, c3⟩ := hh
        have hl := hc.length
        have ho : ∀ y ∈ xs, oneC y := fun y hy => by
          obtain ⟨j, hj⟩ := List.mem_iff_getElem?.1 hy
          exact (hA.2 j y hj).2.2
        obtain ⟨q1, q2, q3⟩ := chunk_rel (w := w) (g := g'.cl) (k := k) l (cs.drop o) (xs.drop o) (hc.drop o) (fun y hy => ho y (List.mem_of_mem_drop hy)) (by simp; omega)
        simp only [Rel]
        refine ⟨⟨n, o', none⟩, cap, k, _, .inl (by rw [chunk_length]; exact h2), by rw [chunk_length]; exact c2, q1, q2, ?_, ?_⟩
        · refine ⟨fun _ => rfl, fun j y hj => ?_⟩
          rw [q3] at hj
          obtain ⟨hj, hlt⟩ := take_get hj
          rw [List.getElem?_drop] at hj
          have hcap : 0 < cap := by
            rcases Nat.eq_zero_or_pos l with q | q
            · subst q; simp at hlt
            · omega
          have := h3 hcap
          subst this
          have := hA.2 (o' + j) y hj
          simpa using this
        · by_cases e : cap = l
          · simp only [e, if_true]; show _ = _; rw [chunk_length]
          · simp only [e, if_false]; trivial
      · simp [Rel]
    · simp only [e, if_false, Rel]; exact ⟨m, o', by rw [hr]; exact h1, h2, h3⟩
  | .agg ds, x, h => by
    simp only [Rel, D.fz] at h ⊢
    obtain ⟨ys, h1, h2, h3⟩ := h
    exact ⟨ys, h1, fzL_rel hr ht he hb hc hA ds h2, h3⟩
  | .tup ds, x, h => by
    simp only [Rel, D.fz] at h ⊢
    obtain ⟨ys, h1, h2⟩ := h
    exact ⟨ys, h1, fzL_rel hr ht he hb hc hA ds h2⟩
  | .iface t d, x, h => by
    simp only [Rel, D.fz] at h ⊢
    obtain ⟨y, h1, h2⟩ := h
    exact ⟨y, h1, fz_rel hr ht he hb hc hA d h2⟩
  | .fn f a c, x, h => by
    simp only [Rel, D.fz] at h ⊢
    obtain ⟨ys, zs, h1, h2, h3⟩ := h
    exact ⟨ys, zs, h1, fzL_rel hr ht he hb hc hA a h2, fzL_rel hr ht he hb hc hA c h3⟩
  | .undef, x, h => by simp [Rel, D.fz]
  | .skip, x, h => by simpa [Rel, D.fz] using h
  | .int _ _, x, h => by simpa [Rel, D.fz] using h
  | .bool _, x, h => by simpa [Rel, D.fz] using h
  | .str _, x, h => by simpa [Rel, D.fz] using h
  | .lit _, x, h => by simpa [Rel, D.fz] using h
  | .slice es o, x, h => by simpa [D.fz] using Rel.evo _ he h
  | .ip ds, x, h => by simpa [D.fz] using Rel.evo _ he h
  | .gs t m, x, h => by simpa [D.fz] using Rel.evo _ he h
  | .gp t m o, x, h => by simpa [D.fz] using Rel.evo _ he h
  | .mp c, x, h => by simpa [D.fz] using Rel.evo _ he h
theorem fzL_rel {w : World} {g g' : Gh} {b n : Nat} {cs : List D} {xs : List Value} (hr : g'.r = g.r) (ht : g'.tk = g.tk) (he : Evo w g w g') (hb : g.r[b]? = some n) (hc : RelL w g'.cl cs xs) (hA : At w g'.I ⟨n, 0, none⟩ xs) :
    ∀ (ds : List D) {ys : List Value}, RelL w g ds ys → RelL w g' (D.fzL b cs ds) ys
  | [], ys, h => by rw [h.inv_nil]; simp [D.fzL, RelL.nil]
  | d :: ds, ys, h => by
    obtain ⟨z, zs, rfl, h1, h2⟩ := h.inv
    simp only [D.fzL]
    exact RelL.cons (fz_rel hr ht he hb hc hA d h1) (fzL_rel hr ht he hb hc hA ds h2)
end

/-- A state whose block b never changes from now on. -/
def St.frz (s : St) (b : Nat) (cs : List D) : St := ⟨s.env.map (D.fz b cs), [], ⟨(s.hp.H.map (Blk.mapD (D.fz b cs))).set b .gone, s.hp.tk.map (Tv.mapD (D.fz b cs))⟩⟩

theorem weak_frz {C : Cfg} {s : St} (b : Nat) (cs : List D) (hb : s.hp.H[b]? = some (.cells cs)) (hn : C.n0 ≤ b) (hc : D.closedL cs = true) : Weak C s (s.frz b (D.erL cs)) := by
  intro w0 B a w h
  obtain ⟨G, g0, gb, g1, g2, g3, g4⟩ := h
  have h0 := g0.heap
  obtain ⟨n, hbn⟩ : ∃ n, G.r[b]? = some n := ⟨_, List.getElem?_eq_getElem (by rw [← h0.len]; exact lt_of_get hb)⟩
  obtain ⟨xs, e, h1, h2, h3⟩ := h0.blk b _ n hb hbn
  have hnm := List.mem_of_getElem? hbn
  have hnew : w0.heap.size ≤ n ∨ n ∈ blks B.tk := by
    rcases g0.newr n hnm with q | q
    · exfalso
      obtain ⟨j, hj⟩ := List.mem_iff_getElem?.1 q
      have := nodup_inj h0.nodup hbn (g0.evo.ref j n hj)
      have := lt_of_get hj
      omega
    · exact .inl q
  have he : Evo w G w (G.fix n xs.length) := ⟨fun c o hi => ⟨.inl hi, rfl⟩, fun _ _ h => h, fun _ T h => ⟨T, h, rfl, .inl rfl⟩⟩
  have hcl : RelL w (G.fix n xs.length).cl (D.erL cs) xs := RelL.evo _ he.cl (RelL.closed _ hc h2)
  have hA : At w (G.fix n xs.length).I ⟨n, 0, none⟩ xs := by
    refine ⟨fun _ => rfl, fun j y hj => ⟨?_, .inr ⟨rfl, by simpa using lt_of_get hj⟩, h3 y (List.mem_of_getElem? hj)⟩⟩
    rw [Nat.zero_add, cell_at h1]; simpa using hj
  have hf : ∀ d x, Rel w G d x → Rel w (G.fix n xs.length) (D.fz b (D.erL cs) d) x := fun d x hd => fz_rel (g := G) (g' := G.fix n xs.length) rfl rfl he hbn hcl hA d hd
  have hnt : ∀ T ∈ G.tk, T.blk ≠ some n := fun T hT e => ((h0.tok T hT).2.2 n e).2.1 hnm
  have hh : HeapRel w (G.fix n xs.length) (s.frz b (D.erL cs)).hp := by
    refine ⟨by simp [St.frz, Gh.fix, h0.len], fun c C k hC hk => ?_, h0.lt, h0.nodup, by simp [St.frz, Gh.fix, h0.lent], fun t V T hV hT => ?_, fun T hT => (h0.tok T hT).keep (fun _ _ => rfl) fun _ _ hb => hb, h0.tokd, fun c o ho => ?_⟩
    · simp only [St.frz, List.getElem?_set, List.getElem?_map, List.length_map] at hC
      by_cases e : b = c
      · subst e
        simp [lt_of_get hb] at hC
        subst hC; trivial
      · rw [if_neg e] at hC
        simp only [Option.map_eq_some_iff] at hC
        obtain ⟨C', q1, rfl⟩ := hC
        exact (h0.blk c C' k q1 hk).mapD hf
    · simp only [St.frz, List.getElem?_map, Option.map_eq_some_iff] at hV
      obtain ⟨V', q1, rfl⟩ := hV
      refine (h0.tv t V' T q1 hT).mapD hf fun c hc o ho => ?_
      rcases ho with q | q
      · exact q
      · exact absurd (q.1 ▸ hc) (hnt T (List.mem_of_getElem? hT))
    · rcases ho with q | ⟨rfl, q⟩
      · refine ⟨(h0.imm c o q).1, fun i hi => ?_⟩
        have := (h0.imm c o q).2 i hi
        simp only [St.frz, List.getElem?_set, List.getElem?_map, List.length_map]
        split
        · simp [lt_of_get hb]
        · rw [this]; rfl
      · refine ⟨h0.lt c hnm, fun i hi => ?_⟩
        have := nodup_inj h0.nodup hbn hi
        subst this
        simp [St.frz, List.getElem?_set, lt_of_get hb]
  have hinv : Inv w0 B (s.frz b (D.erL cs)).hp w (G.fix n xs.length) := by
    refine g0.ghost hh (g0.evo.trans he) (fun k hk => .inl hk) (fun k hk => .inl hk) fun c o ho => ?_
    rcases ho with q | ⟨rfl, _⟩
    · exact .inl q
    · exact .inr hnew
  refine ⟨_, hinv, gb, g1, g2, by simpa [St.frz] using g3, fun t => ?_⟩
  have := g4 t
  unfold St.slot at *
  split
  · rename_i i hi
    rw [hi] at this
    have e1 : (s.frz b (D.erL cs)).env.getD i .undef = D.fz b (D.erL cs) (s.env.getD i .undef) := by
      simp only [St.frz, List.getD, List.getElem?_map]
      cases s.env[i]? <;> simp [D.fz]
    simp only [e1]
    exact hf _ _ this
  · simp [St.frz, lk, Rel]

mutual
theorem fzt_rel {w : World} {g g' : Gh} {t : Nat} {T : Tk} {cs : List D} {xs : List Value} (hr : g'.r = g.r) (htk : g'.tk = g.tk) (he : Evo w g w g') (hT : g.tk[t]? = some T) (hk : 0 < T.k) (hc : RelL w g'.cl cs xs) (hl : cs.length = T.len * T.k)
    (ho : ∀ y ∈ xs, oneC y) (hE : elemsK T.k (chunk T.k T.len cs) = true) (hle : T.len ≤ T.cap) (hA : (T.addr = none ∧ T.len = 0 ∧ T.cap = 0) ∨ ∃ b, T.blk = some b ∧ T.addr = some ⟨b, 0, none⟩ ∧ At w g'.I ⟨b, 0, none⟩ xs) :
    ∀ (d : D) {x : Value}, Rel w g d x → Rel w g' (D.fzt t T.k T.len cs d) x
  | .gs u m, x, h => by
    simp only [Rel, D.fzt] at h ⊢
    by_cases e : u = t
    · subst e
      simp only [if_true]
      by_cases em : m = T.len
      · subst em
        obtain ⟨a, cap, T', h1, h2, h3, h4, h5⟩ := h
        rw [hT] at h3; cases h3
        obtain ⟨rfl, rfl, _⟩ := h5 rfl
        simp only [if_true, Rel]
        obtain ⟨q1, q2, q3⟩ := chunk_rel (w := w) (g := g'.cl) (k := T.k) T.len cs xs hc ho (by rw [hc.length, hl]; exact Nat.le_refl _)
        have hxl : xs.length = T.len * T.k := by rw [hc.length, hl]
        rw [← hxl, List.take_length] at q3
        rcases hA with ⟨ha, h0, h0'⟩ | ⟨b, hb, ha, hA⟩
        · refine ⟨⟨0, 0, none⟩, T.cap, T.k, _, .inr ⟨by rw [h1, ha, h0, h0'], ?_, h0'⟩, by rw [chunk_length]; exact hle, q1, q2, ⟨fun _ => rfl, fun j y hj => ?_⟩, T, by rw [htk]; exact hT, rfl, by rw [chunk_length]; exact Nat.le_refl _, fun _ => by rw [chunk_length]; exact h1⟩
          · rw [h0]; rfl
          · rw [q3] at hj
            have := lt_of_get hj
            rw [hxl, h0] at this; simp at this
        · refine ⟨⟨b, 0, none⟩, T.cap, T.k, _, .inl (by rw [chunk_length, h1, ha]), by rw [chunk_length]; exact hle, q1, q2, by rw [q3]; exact hA, T, by rw [htk]; exact hT, rfl, by rw [chunk_length]; exact Nat.le_refl _, fun _ => by rw [chunk_length]; exact h1⟩
      · simp [em, Rel]
    · simp only [e, if_false]
      have : Rel w g (.gs u m) x := by simp only [Rel]; exact h
      exact Rel.evo _ he this
  | .gp u m o, x, h => by
    simp only [Rel, D.fzt] at h ⊢
    by_cases e : u = t
    · subst e
      simp only [if_true]
      by_cases em : m = T.len
      · subst em
        obtain ⟨a, T', h1, h3, h4, h5⟩ := h
        rw [hT] at h3; cases h3
        obtain ⟨b, hb, rfl⟩ := h5 rfl
        simp only [if_true, Rel]
        rcases hA with ⟨ha, h0, h0'⟩ | ⟨b', hb', ha, hA⟩
        · have hx0 : xs = [] := List.eq_nil_of_length_eq_zero (by rw [hc.length, hl, h0]; simp)
          subst hx0
          refine ⟨_, [], h1, ?_, fun _ => rfl, by simp⟩
          have : cs = [] := List.eq_nil_of_length_eq_zero (by rw [hl, h0]; simp)
          subst this
          simpa using RelL.nil
        · rw [hb] at hb'; cases hb'
          refine ⟨_, xs.drop o, h1, hc.drop o, ?_⟩
          have := hA.drop o
          simpa using this
      · simp [em, Rel]
    · simp only [e, if_false]
      have : Rel w g (.gp u m o) x := by simp only [Rel]; exact h
      exact Rel.evo _ he this
  | .agg ds, x, h => by
    simp only [Rel, D.fzt] at h ⊢
    obtain ⟨ys, h1, h2, h3⟩ := h
    exact ⟨ys, h1, fztL_rel hr htk he hT hk hc hl ho hE hle hA ds h2, h3⟩
  | .tup ds, x, h => by
    simp only [Rel, D.fzt] at h ⊢
    obtain ⟨ys, h1, h2⟩ := h
    exact ⟨ys, h1, fztL_rel hr htk he hT hk hc hl ho hE hle hA ds h2⟩
  | .iface t d, x, h => by
    simp only [Rel, D.fzt] at h ⊢
    obtain ⟨y, h1, h2⟩ := h
    exact ⟨y, h1, fzt_rel hr htk he hT hk hc hl ho hE hle hA d h2⟩
  | .fn f a c, x, h => by
    simp only [Rel, D.fzt] at h ⊢
    obtain ⟨ys, zs, h1, h2, h3⟩ := h
    exact ⟨ys, zs, h1, fztL_rel hr htk he hT hk hc hl ho hE hle hA a h2, fztL_rel hr htk he hT hk hc hl ho hE hle hA c h3⟩
  | .undef, x, h => by simp [Rel, D.fzt]
  | .skip, x, h => by simpa [Rel, D.fzt] using h
  | .int _ _, x, h => by simpa [Rel, D.fzt] using h
  | .bool _, x, h => by simpa [Rel, D.fzt] using h
  | .str _, x, h => by simpa [Rel, D.fzt] using h
  | .lit _, x, h => by simpa [Rel, D.fzt] using h
  | .slice es o, x, h => by simpa [D.fzt] using Rel.evo _ he h
  | .ip ds, x, h => by simpa [D.fzt] using Rel.evo _ he h
  | .ptr b o, x, h => by simpa [D.fzt] using Rel.evo _ he h
  | .sl c k o l cap, x, h => by simpa [D.fzt] using Rel.evo _ he h
  | .mp c, x, h => by simpa [D.fzt] using Rel.evo _ he h
theorem fztL_rel {w : World} {g g' : Gh} {t : Nat} {T : Tk} {cs : List D} {xs : List Value} (hr : g'.r = g.r) (htk : g'.tk = g.tk) (he : Evo w g w g') (hT : g.tk[t]? = some T) (hk : 0 < T.k) (hc : RelL w g'.cl cs xs) (hl : cs.length = T.len * T.k)
    (ho : ∀ y ∈ xs, oneC y) (hE : elemsK T.k (chunk T.k T.len cs) = true) (hle : T.len ≤ T.cap) (hA : (T.addr = none ∧ T.len = 0 ∧ T.cap = 0) ∨ ∃ b, T.blk = some b ∧ T.addr = some ⟨b, 0, none⟩ ∧ At w g'.I ⟨b, 0, none⟩ xs) :
    ∀ (ds : List D) {ys : List Value}, RelL w g ds ys → RelL w g' (D.fztL t T.k T.len cs ds) ys
  | [], ys, h => by rw [h.inv_nil]; simp [D.fztL, RelL.nil]
  | d :: ds, ys, h => by
    obtain ⟨z, zs, rfl, h1, h2⟩ := h.inv
    simp only [D.fztL]
    exact RelL.cons (fzt_rel hr htk he hT hk hc hl ho hE hle hA d h1) (fztL_rel hr htk he hT hk hc hl ho hE hle hA ds h2)
end

/-- A state whose growing slice t never changes from now on. -/
def St.frzT (s : St) (t k n : Nat) (cs : List D) : St := ⟨s.env.map (D.fzt t k n cs), [], ⟨s.hp.H.map (Blk.mapD (D.fzt t k n cs)), (s.hp.tk.map (Tv.mapD (D.fzt t k n cs))).set t (.per k n)⟩⟩

theorem weak_frzT {C : Cfg} {s : St} (t k n : Nat) (cs : List D) (hb : s.hp.tk[t]? = some (.chg k cs)) (hl : cs.length = n * k) (_hn : C.m0 ≤ t) (hc : D.closedL cs = true) (hE : elemsK k (chunk k n (D.erL cs)) = true) : Weak C s (s.frzT t k n (D.erL cs)) := by
  intro w0 B a w h
  obtain ⟨G, g0, gb, g1, g2, g3, g4⟩ := h
  have h0 := g0.heap
  obtain ⟨T, hT, ⟨hk, hcl, hz, hv⟩, hok⟩ := h0.tokBlk hb
  have hTm := List.mem_of_getElem? hT
  subst hk
  have hn : n = T.len := Nat.eq_of_mul_eq_mul_right hok.1 (hl.symm.trans hcl)
  subst hn
  -- the cells that never change from now on
  have main : ∀ (I' : Nat → Nat → Prop) (xs : List Value), (∀ c o, G.I c o → I' c o) → (∀ c o, I' c o → G.I c o ∨ (T.blk = some c ∧ o < T.len * T.k)) → RelL w G cs xs → (∀ y ∈ xs, oneC y) → T.len ≤ T.cap →
      ((T.addr = none ∧ T.len = 0 ∧ T.cap = 0) ∨ ∃ b, T.blk = some b ∧ T.addr = some ⟨b, 0, none⟩ ∧ At w I' ⟨b, 0, none⟩ xs) → Sim C w0 B (s.frzT t T.k T.len (D.erL cs)) a w := by
    intro I' xs hI1 hI2 hrel hone hlc hA
    have he : Evo w G w ⟨G.r, G.tk, I'⟩ := ⟨fun c o hi => ⟨hI1 c o hi, rfl⟩, fun _ _ h => h, fun _ T h => ⟨T, h, rfl, .inl rfl⟩⟩
    have hcl' : RelL w (Gh.cl ⟨G.r, G.tk, I'⟩) (D.erL cs) xs := RelL.evo _ he.cl (RelL.closed _ hc hrel)
    have hf : ∀ d x, Rel w G d x → Rel w ⟨G.r, G.tk, I'⟩ (D.fzt t T.k T.len (D.erL cs) d) x := fun d x hd => fzt_rel (g := G) (g' := ⟨G.r, G.tk, I'⟩) rfl rfl he hT hok.1 hcl' (by rw [erL_length]; exact hcl) hone hE hlc hA d hd
    have hh : HeapRel w ⟨G.r, G.tk, I'⟩ (s.frzT t T.k T.len (D.erL cs)).hp := by
      refine ⟨by simp [St.frzT, h0.len], fun c C' k hC hk => ?_, h0.lt, h0.nodup, by simp [St.frzT, h0.lent], fun u V U hV hU => ?_, fun U hU => (h0.tok U hU).keep (fun _ _ => rfl) fun _ _ hb => hb, h0.tokd, fun c o ho => ?_⟩
      · simp only [St.frzT, List.getElem?_map, Option.map_eq_some_iff] at hC
        obtain ⟨C'', q1, rfl⟩ := hC
        exact (h0.blk c C'' k q1 hk).mapD hf
      · simp only [St.frzT, List.getElem?_set, List.getElem?_map, List.length_map] at hV
        by_cases e : t = u
        · subst e
          rw [hT] at hU; cases hU
          simp [lt_of_get hb] at hV
          subst hV
          refine ⟨rfl, rfl, fun b hb' o ho => ?_⟩
          rcases hI2 b o ho with q | q
          · exact absurd q ((hv b hb').1 o)
          · exact q.2
        · rw [if_neg e] at hV
          simp only [Option.map_eq_some_iff] at hV
          obtain ⟨V', q1, rfl⟩ := hV
          refine (h0.tv u V' U q1 hU).mapD hf fun c hc' o ho => ?_
          rcases hI2 c o ho with q | q
          · exact q
          · exact absurd (tk_inj h0.tokd hT hU q.1 hc') e
      · rcases hI2 c o ho with q | q
        · refine ⟨(h0.imm c o q).1, fun i hi => ?_⟩
          have := (h0.imm c o q).2 i hi
          simp only [St.frzT, List.getElem?_map, this]; rfl
        · refine ⟨hok.lt q.1, fun i hi => absurd (List.mem_of_getElem? hi) ((hok.2.2 c q.1).2.1)⟩
    have hinv : Inv w0 B (s.frzT t T.k T.len (D.erL cs)).hp w ⟨G.r, G.tk, I'⟩ := by
      refine g0.ghost hh (g0.evo.trans he) (fun k hk => .inl hk) (fun k hk => .inl hk) fun c o ho => ?_
      rcases hI2 c o ho with q | q
      · exact .inl q
      · have := g0.newt c (mem_blks.2 ⟨T, hTm, q.1⟩)
        exact .inr (this.symm)
    refine ⟨_, hinv, gb, g1, g2, by simpa [St.frzT] using g3, fun u => ?_⟩
    have := g4 u
    unfold St.slot at *
    split
    · rename_i i hi
      rw [hi] at this
      have e1 : (s.frzT t T.k T.len (D.erL cs)).env.getD i .undef = D.fzt t T.k T.len (D.erL cs) (s.env.getD i .undef) := by
        simp only [St.frzT, List.getD, List.getElem?_map]
        cases s.env[i]? <;> simp [D.fzt]
      simp only [e1]
      exact hf _ _ this
    · simp [St.frzT, lk, Rel]
  cases hTb : T.blk with
  | none =>
    obtain ⟨q1, q2⟩ := hz hTb
    have hcap := hok.2.1 hTb
    have hcs : cs = [] := List.eq_nil_of_length_eq_zero (by rw [hcl, q1]; simp)
    subst hcs
    exact main G.I [] (fun _ _ h => h) (fun _ _ h => .inl h) RelL.nil (by simp) (by omega) (.inl ⟨q2, q1, by omega⟩)
  | some b =>
    obtain ⟨hnI, ys, e, h1, h2⟩ := hv b hTb
    obtain ⟨had, _, hlc, ys', e', h3, h4, h5⟩ := hok.2.2 b hTb
    rw [h1] at h3; cases h3
    refine main (fun c o => G.I c o ∨ (c = b ∧ o < T.len * T.k)) _ (fun c o h => .inl h) (fun c o h => h.imp id fun q => ⟨by rw [hTb, q.1], q.2⟩) h2 (fun y hy => h5 y (List.mem_of_mem_take hy)) hlc (.inr ⟨b, hTb, had, fun _ => rfl, fun j y hj => ?_⟩)
    refine ⟨?_, .inr ⟨rfl, by simpa using (take_get hj).2⟩, h5 y (List.mem_of_mem_take (List.mem_of_getElem? hj))⟩
    rw [Nat.zero_add, cell_at h1]; exact take_drop_get hj
end GoV
