/- The engine, part x: append, copy, strings' runes are sound. Own work; no program in sight. -/
import Derived.Test.YtiodnobmnfjdlaaDoorEw
set_option linter.unusedSimpArgs false
namespace GoV
open Go

section
variable {P : Program} {ρ : Operand → Value} {o : Oper} {w0 : World} {g0 : Gh} {hp : Hp} {w : World} {g : Gh} {K : D → Hp → Prop}

theorem take_flat {vs : List Value} {n k : Nat} (h : (flat vs).length = n * k) : (flat vs).take (n * k) = flat vs := by rw [← h, List.take_length]

/-- What an appended value's elements are, run at any world with this heap. -/
theorem Elems.all {k : Nat} {x : Value} {es : List D} {vs : List Value} (h : Elems P w g k x es vs) (hK : elemsK k es = true) :
    (∀ w1 : World, (Builtin.lenOf x).run P w1 = .ok es.length w1) ∧ (∀ w1 : World, w1.heap = w.heap → (Builtin.firstCells k es.length x).run P w1 = .ok (flat vs).toArray w1) ∧ (flat vs).length = es.length * k ∧ vs.length = es.length := by
  have hl := h.rel.length
  have hf := flat_length vs k (elemsK_sizes h.rel hK)
  rw [hl] at hf
  refine ⟨h.len, fun w1 hw => ?_, hf, hl⟩
  have := h.cells es.length (Nat.le_refl _) w1 hw
  rw [take_flat hf] at this
  exact this

/-- The new block of a slice that has grown. -/
structure Grown (P : Program) (w w' : World) (e : TypeId) (k need cap : Nat) (cs : List Value) (ys : Array Value) : Prop where
  eq : w' = (w.drew).alloc (.cells ys e (0, 0))
  size : ys.size = cap * k
  cap : need ≤ cap
  take : ys.toList.take cs.length = cs
  one : ∀ y ∈ ys.toList, oneC y

theorem grown_mk {t u ty e : TypeId} {i : TypeInfo} {zv : Value} {z : List D} (hT : ElemT P t e i zv z) (hu : (∃ e', P.underlying u = some (.slice e')) ∨ P.underlying u = some .string)
    {base : Option Addr} {sLen sCap m : Nat} {x : Value} {olds news : List Value} (hlen : (Builtin.lenOf x).run P w = .ok m w) (hf : ∀ w1 : World, w1.heap = w.heap → (Builtin.firstCells i.size m x).run P w1 = .ok news.toArray w1)
    (hfo : ∀ w1 : World, w1.heap = w.heap → (Builtin.firstCells i.size sLen (.slice base sLen sCap)).run P w1 = .ok olds.toArray w1)
    (hg : sCap < sLen + m) (hb : roomOk (sLen + m) i.bytes) (ho : olds.length = sLen * i.size) (hn : news.length = m * i.size) (h1 : ∀ y ∈ olds, oneC y) (h2 : ∀ y ∈ news, oneC y) :
    ∃ cap ys w', (Builtin.append_ #[t, u] ty #[.slice base sLen sCap, x]).run P w = .ok (.slice (some ⟨w.heap.size, 0, none⟩) (sLen + m) cap) w' ∧ Grown P w w' e i.size (sLen + m) cap (olds ++ news) ys := by
  obtain ⟨z1, z2, z3⟩ := hT.cells w ⟨[], [], fun _ _ => False⟩
  have hge := grownCap_ge w (sLen + m) sCap e
  refine ⟨_, _, _, app_grow hT.ht hu hT.hi hT.hz hlen hf hfo hg hb.1 hb.2, rfl, ?_, hge, ?_, ?_⟩
  · simp only [Array.size_append, List.size_toArray, size_zeroCells, z3, ho, hn, ← Nat.add_mul]
    congr 1; omega
  · simp only [Array.toList_append, List.append_assoc]
    rw [← List.append_assoc]; exact List.take_left
  · intro y hy
    simp only [Array.toList_append, List.mem_append] at hy
    rcases hy with (hy | hy) | hy
    · exact h1 y hy
    · exact h2 y hy
    · exact zeroCells_one z2 _ y hy

theorem flat_one {es : List D} {vs : List Value} {k : Nat} (h : RelL w g es vs) (hk : elemsK k es = true) : ∀ y ∈ flat vs, oneC y := (flatD_rel h hk).2

theorem drew_eq (w : World) : w.drew = { w with drawn := w.drawn + 1 } := rfl

/-- A result in new memory that is only read. -/
theorem done_grown (hi : Inv w0 g0 hp w g) {w' : World} {e : TypeId} {k cap : Nat} {ys : Array Value} {es : List D} {vs : List Value} (hr : RelL w g.cl es vs) (hK : elemsK k es = true)
    (hg : Grown P w w' e k es.length cap (flat vs) ys) (hx : (execOp ρ o).run P w = .ok (.value (.slice (some ⟨w.heap.size, 0, none⟩) es.length cap)) w')
    (h : K (.slice es .no) hp) : Done P ρ o w0 g0 w g K := by
  obtain ⟨rfl, hsz, hcap, htk, hone⟩ := hg
  obtain ⟨d1, d2⟩ := hi.drawn (w.drawn + 1)
  rw [← drew_eq] at d1 d2
  obtain ⟨q1, q2, q3, q4, q5⟩ := d1.newPer (RelL.evo _ d2.cl hr) hK ys e (0, 0) htk
  have hsd : w.drew.heap.size = w.heap.size := rfl
  rw [hsd] at q1 q2 q3 q5
  refine ⟨_, _, _, _, _, h, q1, d2.trans q2, ?_, .inl hx⟩
  simp only [Rel]
  exact ⟨_, cap, k, vs, .inl rfl, hcap, q3, q4, q5, trivial⟩

theorem done_via {g2 : Gh} (he : Evo w g w g2) (h : Done P ρ o w0 g0 w g2 K) : Done P ρ o w0 g0 w g K := by
  obtain ⟨d, hp', g', v, w', h1, h2, h3, h4⟩ := h
  exact ⟨d, hp', g', v, w', h1, h2, he.trans h3, h4⟩

theorem getM_append {l r : List Value} : (l ++ r).take l.length = l := List.take_left

theorem setV_take_pre {news : List Value} {cs : List Value} {off : Nat} (h : off + news.length ≤ cs.length) : (setV cs off news).take (off + news.length) = cs.take off ++ news := by
  rw [setV_eq news cs off h]
  rw [show off + news.length = (cs.take off ++ news).length by simp; omega]
  exact List.take_left

theorem elemsK_append {k : Nat} : ∀ {a b : List D}, elemsK k a = true → elemsK k b = true → elemsK k (a ++ b) = true
  | [], _, _, h => h
  | x :: a, b, h, h' => by
    simp only [elemsK, Bool.and_eq_true, List.cons_append] at h ⊢
    exact ⟨h.1, elemsK_append h.2 h'⟩

/-- Where a growing slice has come to lie. -/
structure Land (w w' : World) (g : Gh) (T : Tk) (e : TypeId) (b cap need : Nat) (ys : Array Value) (cs : List Value) : Prop where
  at_ : w'.heap[b]? = some (.cells ys e (0, 0))
  other : ∀ n, n < w.heap.size → T.blk ≠ some n → w'.heap[n]? = w.heap[n]?
  keep : ∀ c o, g.I c o → w'.cell? ⟨c, o, none⟩ = w.cell? ⟨c, o, none⟩
  size : w.heap.size ≤ w'.heap.size
  os : w'.os = w.os
  tape : w'.tape = w.tape
  output : w'.output = w.output
  new : (T.blk = some b ∧ cap = T.cap) ∨ (w.heap.size ≤ b ∧ T.len < need)
  ysz : ys.size = cap * T.k
  cap : need ≤ cap
  take : ys.toList.take cs.length = cs
  one : ∀ y ∈ ys.toList, oneC y

/-- append onto a growing slice, in the model. -/
theorem app_tok {t u ty e : TypeId} {i : TypeInfo} {zv : Value} {z : List D} (hT : ElemT P t e i zv z) (hu : (∃ e', P.underlying u = some (.slice e')) ∨ P.underlying u = some .string)
    (hi : Inv w0 g0 hp w g) {tt : Nat} {T : Tk} {V : Tv} (hgT : g.tk[tt]? = some T) (hV : hp.tk[tt]? = some V) (hk : i.size = T.k)
    {x : Value} {m : Nat} {olds news : List Value} (hlen : (Builtin.lenOf x).run P w = .ok m w) (hf : ∀ w1 : World, w1.heap = w.heap → (Builtin.firstCells i.size m x).run P w1 = .ok news.toArray w1)
    (hfo : ∀ w1 : World, w1.heap = w.heap → (Builtin.firstCells i.size T.len (.slice T.addr T.len T.cap)).run P w1 = .ok olds.toArray w1) (hol : olds.length = T.len * T.k) (hoo : ∀ y ∈ olds, oneC y)
    (hold : ∀ b ys e', T.blk = some b → w.heap[b]? = some (.cells ys e' (0, 0)) → olds = ys.toList.take (T.len * T.k))
    (hb : roomOk (T.len + m) i.bytes) (hn : news.length = m * i.size) (h2 : ∀ y ∈ news, oneC y) :
    (T.blk = none ∧ m = 0 ∧ (Builtin.append_ #[t, u] ty #[.slice T.addr T.len T.cap, x]).run P w = .ok (.slice T.addr T.len T.cap) w) ∨
    ∃ b cap ys w' e', (Builtin.append_ #[t, u] ty #[.slice T.addr T.len T.cap, x]).run P w = .ok (.slice (some ⟨b, 0, none⟩) (T.len + m) cap) w' ∧ Land w w' g T e' b cap (T.len + m) ys (olds ++ news) ∧ (e' = e ∨ ∃ cur, T.blk = some b ∧ w.heap[b]? = some (.cells cur e' (0, 0))) := by
  have hok := hi.heap.tok T (List.mem_of_getElem? hgT)
  have grow : T.cap < T.len + m → ∃ b cap ys w' e', (Builtin.append_ #[t, u] ty #[.slice T.addr T.len T.cap, x]).run P w = .ok (.slice (some ⟨b, 0, none⟩) (T.len + m) cap) w' ∧ Land w w' g T e' b cap (T.len + m) ys (olds ++ news) ∧ (e' = e ∨ ∃ cur, T.blk = some b ∧ w.heap[b]? = some (.cells cur e' (0, 0))) := by
    intro hg
    obtain ⟨cap, ys, w', r1, r2⟩ := grown_mk (ty := ty) (base := T.addr) (sLen := T.len) (sCap := T.cap) (olds := olds) hT hu hlen hf hfo hg hb (by rw [hol, hk]) hn hoo h2
    obtain ⟨rfl, s1, s2, s3, s4⟩ := r2
    have hlt : T.len < T.len + m := by
      cases hTb : T.blk with
      | none => have := hok.2.1 hTb; omega
      | some b => have := (hok.2.2 b hTb).2.2.1; omega
    exact ⟨w.heap.size, cap, ys, _, e, r1, ⟨heap_alloc_at w.drew _, fun n hlt _ => heap_alloc_lt w.drew _ n hlt, fun c o ho => cell_of_heap (heap_alloc_lt w.drew _ c (hi.heap.imm c o ho).1), by simp, rfl, rfl, rfl, .inr ⟨Nat.le_refl _, hlt⟩, by rw [s1, hk], s2, s3, s4⟩, .inl rfl⟩
  cases hTb : T.blk with
  | none =>
    have hlc := hok.2.1 hTb
    by_cases hm : m = 0
    · subst hm
      refine .inl ⟨rfl, rfl, ?_⟩
      have hn0 : news = [] := List.eq_nil_of_length_eq_zero (by simpa using hn)
      subst hn0
      have hf0 := hf w rfl
      have hle : T.len ≤ T.cap := by omega
      rcases hu with ⟨e', hu⟩ | hu
      · cases hA : T.addr <;> simp [Builtin.append_, run_underlying hT.ht, run_underlying hu, Go.sizeOf, typeInfo, hT.hi, hlen, hf0, hle, storeCells]
      · cases hA : T.addr <;> simp [Builtin.append_, run_underlying hT.ht, run_underlying hu, Go.sizeOf, typeInfo, hT.hi, hlen, hf0, hle, storeCells]
    · rw [hTb] at grow
      exact .inr (grow (by omega))
  | some b =>
    right
    rw [hTb] at grow
    obtain ⟨had, hbr, hlc, cur, e', hcur, hcs, hone⟩ := hok.2.2 b hTb
    have hold := hold b cur e' hTb hcur
    have hle : T.len * T.k ≤ cur.size := by rw [hcs]; exact Nat.mul_le_mul_right _ hlc
    by_cases hroom : T.len + m ≤ T.cap
    · have hfit : T.len * i.size + news.length ≤ cur.size := by rw [hn, hk, hcs, ← Nat.add_mul]; exact Nat.mul_le_mul_right _ hroom
      have hr := app_room (P := P) (ty := ty) hT.ht hu hT.hi hcur hlen (hf w rfl) h2 hroom hfit
      have hw1 : (w.setRow b (setV cur.toList (T.len * i.size) news).toArray).heap[b]? = some (.cells (setV cur.toList (T.len * i.size) news).toArray e' (0, 0)) := by
        simp [World.setRow, Array.getElem?_modify, hcur]
      rw [had]
      refine ⟨b, T.cap, (setV cur.toList (T.len * i.size) news).toArray, _, e', hr, ⟨hw1, fun n _ hne => ?_, fun c o ho => ?_, by simp [World.setRow], rfl, rfl, rfl, .inl ⟨hTb, rfl⟩, ?_, hroom, ?_, ?_⟩, .inr ⟨cur, rfl, hcur⟩⟩
      · have : b ≠ n := fun e => hne (by rw [hTb, e])
        simp [World.setRow, Array.getElem?_modify, this]
      · by_cases hcb : b = c
        · subst hcb
          have hlt : o < T.len * T.k := by
            have := hi.heap.tv tt V T hV hgT
            cases V with
            | per k len => exact this.2.2 b hTb o ho
            | chg k cs => exact absurd ho ((this.2.2.2 b hTb).1 o)
            | byt e0 bs => exact absurd ho ((this.2.2.2 b hTb).1 o)
          rw [cell_at hcur, cell_at hw1]
          rw [← Array.getElem?_toList, ← Array.getElem?_toList]
          rw [setV_eq _ _ _ (by simpa using hfit), List.append_assoc, List.getElem?_append_left (by simp; rw [hk]; omega), List.getElem?_take, if_pos (by rw [hk]; exact hlt)]
        · refine cell_of_heap ?_
          simp [World.setRow, Array.getElem?_modify, hcb]
      · simp [setV_length, hcs]
      · rw [hold]
        have := setV_take_pre (news := news) (cs := cur.toList) (off := T.len * i.size) (by simpa using hfit)
        rw [hk] at this
        rw [List.toList_toArray, hk, List.length_append, ← this]
        congr 1
        rw [← hold, hol]
      · rw [List.toList_toArray]; exact mem_setV _ _ _ _ hone h2
    · have := grow (by omega)
      exact this

theorem Land.lt {w' : World} {T : Tk} {e : TypeId} {b cap need : Nat} {ys : Array Value} {cs : List Value} (h : Land w w' g T e b cap need ys cs) : b < w'.heap.size := lt_of_some h.at_

/-- Where it has come to lie is no block of the store. -/
theorem Land.free {w' : World} {T : Tk} {e : TypeId} {b cap need : Nat} {ys : Array Value} {cs : List Value} (h : Land w w' g T e b cap need ys cs) (hi : Inv w0 g0 hp w g) {tt : Nat} (hgT : g.tk[tt]? = some T) : b ∉ g.r := by
  rcases h.new with q | q
  · exact ((hi.heap.tok T (List.mem_of_getElem? hgT)).2.2 b q.1).2.1
  · exact fun hm => by have := hi.heap.lt b hm; omega

/-- append onto a growing slice that is only read. -/
theorem app_per {t u e : TypeId} {i : TypeInfo} {zv : Value} {z : List D} {s x : Value} (hT : ElemT P t e i zv z) (hu : (∃ e', P.underlying u = some (.slice e')) ∨ P.underlying u = some .string)
    (toX : ∀ {v : Value} {w' : World}, (Builtin.append_ #[t, u] o.type #[s, x]).run P w = .ok v w' → (execOp ρ o).run P w = .ok (.value v) w')
    (hi : Inv w0 g0 hp w g) {xs es : List D} {vs : List Value} {tt : Nat} (ha : Rel w g (.slice xs (.tok tt)) s) (hel : Elems P w g i.size x es vs) (hK : elemsK i.size es = true) (hcl : D.closedL es = true)
    (hroom : roomOk (xs.length + es.length) i.bytes) (hV : hp.tk[tt]? = some (.per i.size xs.length))
    (h : K (.slice (xs ++ D.erL es) (.tok tt)) { hp with tk := hp.tk.set tt (.per i.size (xs.length + es.length)) }) : Done P ρ o w0 g0 w g K := by
  obtain ⟨e1, e2, e3, e4⟩ := hel.all hK
  have hone := flat_one hel.rel hK
  simp only [Rel] at ha
  obtain ⟨a, cap0, k', us, hax, g2, g3, g4, g5, g6⟩ := ha
  obtain ⟨T, hgT, rfl, hlT, hsT⟩ := g6
  obtain ⟨T', hgT', ⟨hk, hxl, hIb⟩, hok⟩ := hi.heap.tokBlk hV
  rw [hgT] at hgT'; cases hgT'
  have hs := hsT hxl
  have hus := g3.length
  have hlx := flat_length us T.k g4
  rw [hus, hxl] at hlx
  have hcl' := RelL.closed _ hcl hel.rel
  have hl2 : (xs ++ D.erL es).length = xs.length + es.length := by rw [List.length_append, ← hcl'.length, e4]
  have hou : ∀ y ∈ flat us, oneC y := fun y hy => by
    obtain ⟨j, hj⟩ := List.mem_iff_getElem?.1 hy
    exact (g5.2 j y hj).2.2
  have hfo : ∀ w1 : World, w1.heap = w.heap → (Builtin.firstCells i.size T.len (.slice T.addr T.len T.cap)).run P w1 = .ok (flat us).toArray w1 := by
    intro w1 hw
    have hv : Value.slice T.addr T.len T.cap = s := by rw [hs, hxl]
    rw [hv]
    rcases hax with hax | ⟨hax, hx0, _⟩
    · rw [hax]
      have := firstCells_at (P := P) (w := w) (a := a) (ys := flat us) (n := T.len) (k := i.size) (len := xs.length) (cap := cap0) g5.1 (by rw [hlx, hk]; exact Nat.le_refl _) (fun j y hj => (g5.2 j y hj).1) w1 hw
      rw [hk, ← hlx, List.take_length] at this
      rw [hk]; exact this
    · rw [hax]
      have : us = [] := List.eq_nil_of_length_eq_zero (by rw [hus, hx0]; rfl)
      subst this
      simp [Builtin.firstCells, flat]
  have hland := app_tok (ty := o.type) hT hu hi hgT hV hk (olds := flat us) (e1 w) e2 hfo hlx hou (fun b ys e' hb' hw => by
      have had := (hok.2.2 b hb').1
      obtain ⟨_, _, hc, ys', e'', hw', hsz, _⟩ := hok.2.2 b hb'
      rw [hw] at hw'; cases hw'
      have ha : a = ⟨b, 0, none⟩ := by
        rcases hax with hax | ⟨hax, _⟩
        · rw [hs, had] at hax; simp at hax; exact hax.1.symm
        · rw [hs, had] at hax; simp at hax
      subst ha
      have hle : T.len * T.k ≤ ys.size := by rw [hsz]; exact Nat.mul_le_mul_right _ hc
      apply List.ext_getElem?
      intro j
      rw [List.getElem?_take]
      by_cases hj : j < T.len * T.k
      · rw [if_pos hj]
        have hlt : j < (flat us).length := by omega
        have := (g5.2 j _ (List.getElem?_eq_getElem hlt)).1
        rw [Nat.zero_add, cell_at hw] at this
        rw [List.getElem?_eq_getElem hlt, ← this]; simp
      · rw [if_neg hj, List.getElem?_eq_none (by omega)]) (by rw [← hxl]; exact hroom) e3 hone
  rw [← hxl, ← hs] at hland
  rcases hland with ⟨hb', hm, r1⟩ | ⟨b, cap, ys, w', e', r1, r2, r3⟩
  · have : es = [] := List.eq_nil_of_length_eq_zero hm
    subst this
    obtain ⟨q1, q2⟩ := hi.goTok (w' := w) (T' := T) (I' := g.I) (V' := .per i.size (xs.length + 0)) hgT rfl (.inl rfl) (fun _ _ _ => rfl) (Nat.le_refl _) rfl rfl rfl (fun n hn => .inl hn) (fun b o ho => ⟨ho, rfl⟩) (fun b o ho => .inl ho)
      (hok.keep (fun _ _ => rfl) fun _ _ hn => hn) (fun _ => ⟨hk, by omega, fun b hb o ho => hIb b hb o ho⟩)
    refine ⟨_, _, _, _, _, h, q1, q2, ?_, .inl (toX r1)⟩
    simp only [Rel, D.erL, List.append_nil]
    exact ⟨a, cap0, T.k, us, hax, g2, RelL.evo _ q2.cl g3, g4, g5.evo q2.imm, T, set_get hgT, rfl, hlT, hsT⟩
  · have hfl : (flat us ++ flat vs).length = (T.len + es.length) * T.k := by rw [List.length_append, hlx, e3, hk, Nat.add_mul]
    have htake := r2.take
    rw [hfl] at htake
    have hnew : (⟨some b, some ⟨b, 0, none⟩, cap, T.k, T.len + es.length⟩ : Tk) = T ∨ T.len < T.len + es.length := by
      by_cases hm : es.length = 0
      · left
        rcases r2.new with ⟨q, q'⟩ | q
        · have had := (hok.2.2 b q).1
          rw [hm, q', Nat.add_zero, ← q, ← had]
        · omega
      · right; omega
    obtain ⟨q1, q2⟩ := hi.goTok (w' := w') (T' := ⟨some b, some ⟨b, 0, none⟩, cap, T.k, T.len + es.length⟩) (I' := fun c o => g.I c o ∨ (c = b ∧ o < (T.len + es.length) * T.k)) (V' := .per i.size (xs.length + es.length)) hgT rfl
      hnew
      r2.other r2.size r2.os r2.tape r2.output (fun n hn => by simp at hn; subst hn; exact r2.new.imp And.left And.left) (fun c o ho => ⟨.inl ho, r2.keep c o ho⟩)
      (by
        rintro c o (q | ⟨rfl, _⟩)
        · exact .inl q
        · exact .inr ⟨rfl, r2.lt⟩)
      ⟨hok.1, by simp, fun c hc => by simp at hc; subst hc; exact ⟨rfl, r2.free hi hgT, by simpa [hxl] using r2.cap, ys, e', r2.at_, r2.ysz, r2.one⟩⟩
      (fun _ => ⟨hk, by simp only; omega, fun c hc o ho => by
        simp at hc; subst hc
        rcases ho with q | q
        · rcases r2.new with ⟨p, _⟩ | p
          · exact Nat.lt_of_lt_of_le (hIb _ p o q) (Nat.mul_le_mul_right _ (by simp))
          · have := (hi.heap.imm _ o q).1; omega
        · exact q.2⟩)
    refine ⟨_, _, _, _, _, h, q1, q2, ?_, .inl (toX r1)⟩
    simp only [Rel]
    have hsz2 : ∀ y ∈ us ++ vs, y.cells.size = T.k := by
      intro y hy
      rcases List.mem_append.1 hy with q | q
      · exact g4 y q
      · rw [← hk]; exact elemsK_sizes hel.rel hK y q
    refine ⟨⟨b, 0, none⟩, cap, T.k, us ++ vs, .inl (by rw [hl2]), by rw [hl2]; exact r2.cap, RelL.evo _ q2.cl (g3.append hcl'), hsz2, ⟨fun _ => rfl, fun j y hj => ?_⟩, ?_⟩
    · rw [flat_append, ← htake] at hj
      rw [List.getElem?_take] at hj
      split at hj
      case isFalse => cases hj
      rename_i hlt
      refine ⟨?_, .inr ⟨rfl, by simpa using hlt⟩, r2.one y (List.mem_of_getElem? hj)⟩
      rw [Nat.zero_add, cell_at r2.at_, ← Array.getElem?_toList]; exact hj
    · exact ⟨_, set_get hgT, rfl, by rw [hl2, hxl]; exact Nat.le_refl _, fun _ => by rw [hl2, hxl]⟩

/-- append onto a growing slice of which is known what it holds. -/
theorem app_chg {t u e : TypeId} {i : TypeInfo} {zv : Value} {z : List D} {s x : Value} (hT : ElemT P t e i zv z) (hu : (∃ e', P.underlying u = some (.slice e')) ∨ P.underlying u = some .string)
    (toX : ∀ {v : Value} {w' : World}, (Builtin.append_ #[t, u] o.type #[s, x]).run P w = .ok v w' → (execOp ρ o).run P w = .ok (.value v) w')
    (hi : Inv w0 g0 hp w g) {es cs : List D} {vs : List Value} {tt n : Nat} (ha : Rel w g (.gs tt n) s) (hel : Elems P w g i.size x es vs) (hK : elemsK i.size es = true)
    (hroom : roomOk (n + es.length) i.bytes) (hV : hp.tk[tt]? = some (.chg i.size cs)) (hcl : cs.length = n * i.size)
    (h : K (.gs tt (n + es.length)) { hp with tk := hp.tk.set tt (.chg i.size (cs ++ flatD es)) }) : Done P ρ o w0 g0 w g K := by
  obtain ⟨e1, e2, e3, e4⟩ := hel.all hK
  obtain ⟨f1, hone⟩ := flatD_rel hel.rel hK
  simp only [Rel] at ha
  obtain ⟨a, cap0, T, hax, hnn, hgT, hlT, hsT⟩ := ha
  obtain ⟨T', hgT', ⟨hk, hcs, hn0, hIb⟩, hok⟩ := hi.heap.tokBlk hV
  rw [hgT] at hgT'; cases hgT'
  have hn : n = T.len := Nat.eq_of_mul_eq_mul_right hok.1 (by rw [← hk, ← hcl, hcs, hk])
  obtain ⟨rfl, rfl, _⟩ := hsT hn
  obtain ⟨olds, ho1, ho2, ho3, ho4, ho5⟩ : ∃ olds : List Value, RelL w g cs olds ∧ olds.length = T.len * T.k ∧ (∀ y ∈ olds, oneC y) ∧ (∀ w1 : World, w1.heap = w.heap → (Builtin.firstCells i.size T.len (.slice T.addr T.len T.cap)).run P w1 = .ok olds.toArray w1) ∧
      ∀ b ys e', T.blk = some b → w.heap[b]? = some (.cells ys e' (0, 0)) → olds = ys.toList.take (T.len * T.k) := by
    cases hTb : T.blk with
    | none =>
      obtain ⟨q1, q2⟩ := hn0 hTb
      have : cs = [] := List.eq_nil_of_length_eq_zero (by rw [hcs, q1]; simp)
      subst this
      exact ⟨[], RelL.nil, by simp [q1], by simp, fun w1 _ => by simp [q2, Builtin.firstCells], fun b _ _ hb => by cases hb⟩
    | some b =>
      obtain ⟨_, ys, e', h1, h2⟩ := hIb b hTb
      obtain ⟨had, _, hc, ys', e'', h3, h4, h5⟩ := hok.2.2 b hTb
      rw [h1] at h3; cases h3
      have hle : T.len * T.k ≤ ys.size := by rw [h4]; exact Nat.mul_le_mul_right _ hc
      refine ⟨_, h2, by simp; omega, fun y hy => h5 y (List.mem_of_mem_take hy), fun w1 hw => ?_, fun b' ys' e'' hb hw => by cases hb; rw [h1] at hw; cases hw; rfl⟩
      rw [had]
      have := firstCells_at (P := P) (w := w) (a := ⟨b, 0, none⟩) (ys := ys.toList.take (T.len * T.k)) (n := T.len) (k := i.size) (len := T.len) (cap := T.cap) (fun _ => rfl) (by rw [hk]; simp; omega) (fun j y hj => by
        rw [Nat.zero_add, cell_at h1]; exact take_drop_get hj) w1 hw
      rw [hk, List.take_take, Nat.min_self] at this
      rw [hk]; exact this
  have hland := app_tok (ty := o.type) hT hu hi hgT hV hk (olds := olds) (e1 w) e2 ho4 ho2 ho3 ho5 (by rw [← hn]; exact hroom) e3 hone
  rw [← hn, ← hax] at hland
  rcases hland with ⟨hb', hm, r1⟩ | ⟨b, cap, ys, w', e', r1, r2, r3⟩
  · have : es = [] := List.eq_nil_of_length_eq_zero hm
    subst this
    obtain ⟨q1, q2⟩ := hi.goTok (w' := w) (T' := T) (I' := g.I) (V' := .chg i.size (cs ++ flatD [])) hgT rfl (.inl rfl) (fun _ _ _ => rfl) (Nat.le_refl _) rfl rfl rfl (fun n hn => .inl hn) (fun b o ho => ⟨ho, rfl⟩) (fun b o ho => .inl ho)
      (hok.keep (fun _ _ => rfl) fun _ _ hn => hn) (fun _ => ⟨hk, by simp [flatD, hcs], hn0, fun b hb => by rw [hb'] at hb; cases hb⟩)
    refine ⟨_, _, _, _, _, h, q1, q2, ?_, .inl (toX r1)⟩
    simp only [Rel]
    exact ⟨_, _, T, hax, hnn, set_get hgT, hlT, hsT⟩
  · have hfl : (olds ++ flat vs).length = (T.len + es.length) * T.k := by rw [List.length_append, ho2, e3, hk, Nat.add_mul]
    have htake := r2.take
    rw [hfl] at htake
    have hnew : (⟨some b, some ⟨b, 0, none⟩, cap, T.k, T.len + es.length⟩ : Tk) = T ∨ T.len < T.len + es.length := by
      by_cases hm : es.length = 0
      · left
        rcases r2.new with ⟨q, q'⟩ | q
        · have had := (hok.2.2 b q).1
          rw [hm, q', Nat.add_zero, ← q, ← had]
        · omega
      · right; omega
    obtain ⟨q1, q2⟩ := hi.goTok (w' := w') (T' := ⟨some b, some ⟨b, 0, none⟩, cap, T.k, T.len + es.length⟩) (I' := g.I) (V' := .chg i.size (cs ++ flatD es)) hgT rfl hnew
      r2.other r2.size r2.os r2.tape r2.output (fun n hn => by simp at hn; subst hn; exact r2.new.imp And.left And.left) (fun c o ho => ⟨ho, r2.keep c o ho⟩) (fun c o ho => .inl ho)
      ⟨hok.1, by simp, fun c hc => by simp at hc; subst hc; exact ⟨rfl, r2.free hi hgT, by simpa [hn] using r2.cap, ys, e', r2.at_, r2.ysz, r2.one⟩⟩
      (fun he => ⟨hk, by simp only [List.length_append, flatD_length hK, hcs, hk, Nat.add_mul], by simp, fun c hc => by
        simp at hc; subst hc
        refine ⟨fun o ho => ?_, ys, e', r2.at_, ?_⟩
        · rcases r2.new with ⟨p, _⟩ | p
          · exact (hIb _ p).1 o ho
          · have := (hi.heap.imm _ o ho).1; omega
        · rw [htake]
          exact RelL.evo _ he (ho1.append f1)⟩)
    refine ⟨_, _, _, _, _, h, q1, q2, ?_, .inl (toX r1)⟩
    simp only [Rel]
    exact ⟨_, cap, _, rfl, by simp, set_get hgT, by simp [hn], fun _ => ⟨rfl, rfl, fun _ => ⟨_, rfl⟩⟩⟩

theorem bytesB_cons {d : D} {es : List D} {s : List UInt8} (h : bytesB (d :: es) = some s) : ∃ n s', d = .int .u8 n ∧ bytesB es = some s' ∧ 0 ≤ n ∧ n ≤ 255 ∧ s = UInt8.ofNat n.toNat :: s' := by
  unfold bytesB at h
  split at h
  · rename_i hd; cases hd
  · rename_i n r hd
    cases hd
    split at h
    · rename_i s' hs
      split at h
      · rename_i hn
        simp at h
        exact ⟨n, s', rfl, hs, hn.1, hn.2, h.symm⟩
      · cases h
    · cases h
  · cases h

theorem bytes_of : ∀ {es : List D} {s : List UInt8}, bytesB es = some s → ∀ {vs : List Value}, RelL w g es vs → flat vs = s.map fun c => Value.int .u8 c.toNat
  | [], s, h, vs, hr => by simp [bytesB] at h; subst h; rw [hr.inv_nil]; rfl
  | d :: es, s, h, vs, hr => by
    obtain ⟨n, s', rfl, hs, n0, n1, rfl⟩ := bytesB_cons h
    obtain ⟨y, ys, rfl, h1, h2⟩ := hr.inv
    simp only [Rel] at h1
    subst h1
    have e : (((UInt8.ofNat n.toNat).toNat : Nat) : Int) = n := by rw [UInt8.toNat_ofNat']; omega
    simp only [flat, Value.cells, List.map_cons, e, bytes_of hs h2]
    rfl

theorem bytes_len : ∀ {es : List D} {s : List UInt8}, bytesB es = some s → s.length = es.length
  | [], s, h => by simp [bytesB] at h; subst h; rfl
  | d :: es, s, h => by
    obtain ⟨n, s', rfl, hs, n0, n1, rfl⟩ := bytesB_cons h
    simp [bytes_len hs]

/-- append onto a growing row of bytes whose type is known. -/
theorem app_byt {t u e : TypeId} {i : TypeInfo} {zv : Value} {z : List D} {s x : Value} (hT : ElemT P t e i zv z) (hu : (∃ e', P.underlying u = some (.slice e')) ∨ P.underlying u = some .string)
    (toX : ∀ {v : Value} {w' : World}, (Builtin.append_ #[t, u] o.type #[s, x]).run P w = .ok v w' → (execOp ρ o).run P w = .ok (.value v) w')
    (hi : Inv w0 g0 hp w g) {es : List D} {vs : List Value} {tt n : Nat} {bs s' : List UInt8} (ha : Rel w g (.gs tt n) s) (hel : Elems P w g i.size x es vs) (hK : elemsK i.size es = true) (h1 : i.size = 1)
    (hroom : roomOk (n + es.length) i.bytes) (hV : hp.tk[tt]? = some (.byt e bs)) (hcl : bs.length = n) (hs' : bytesB es = some s')
    (h : K (.gs tt (n + es.length)) { hp with tk := hp.tk.set tt (.byt e (bs ++ s')) }) : Done P ρ o w0 g0 w g K := by
  obtain ⟨e1, e2, e3, e4⟩ := hel.all hK
  obtain ⟨f1, hone⟩ := flatD_rel hel.rel hK
  have hfv := bytes_of hs' hel.rel
  have hsl := bytes_len hs'
  simp only [Rel] at ha
  obtain ⟨a, cap0, T, hax, hnn, hgT, hlT, hsT⟩ := ha
  obtain ⟨T', hgT', ⟨hk, hcs, hn0, hIb⟩, hok⟩ := hi.heap.tokBlk hV
  rw [hgT] at hgT'; cases hgT'
  have hn : n = T.len := by omega
  obtain ⟨rfl, rfl, _⟩ := hsT hn
  have hkk : i.size = T.k := by rw [h1, hk]
  obtain ⟨olds, ho1, ho2, ho3, ho4, ho5⟩ : ∃ olds : List Value, olds = bs.map (fun c => Value.int .u8 c.toNat) ∧ olds.length = T.len * T.k ∧ (∀ y ∈ olds, oneC y) ∧ (∀ w1 : World, w1.heap = w.heap → (Builtin.firstCells i.size T.len (.slice T.addr T.len T.cap)).run P w1 = .ok olds.toArray w1) ∧
      ∀ b ys e', T.blk = some b → w.heap[b]? = some (.cells ys e' (0, 0)) → olds = ys.toList.take (T.len * T.k) := by
    refine ⟨_, rfl, by rw [List.length_map, hcs, hk, Nat.mul_one], fun y hy => ?_, ?_⟩
    · obtain ⟨c, _, rfl⟩ := List.mem_map.1 hy
      simp [oneC, Value.oneCell']
    cases hTb : T.blk with
    | none =>
      obtain ⟨q1, q2⟩ := hn0 hTb
      have : bs = [] := List.eq_nil_of_length_eq_zero (by rw [hcs, q1])
      subst this
      exact ⟨fun w1 _ => by simp [q1, q2, Builtin.firstCells], fun b _ _ hb => by cases hb⟩
    | some b =>
      obtain ⟨_, ys, p1, p2⟩ := hIb b hTb
      obtain ⟨had, _, hc, ys', e'', p3, p4, p5⟩ := hok.2.2 b hTb
      rw [p1] at p3; cases p3
      have hle : T.len * T.k ≤ ys.size := by rw [p4]; exact Nat.mul_le_mul_right _ hc
      rw [← p2]
      refine ⟨fun w1 hw => ?_, fun b' ys' e'' hb hw => by cases hb; rw [p1] at hw; cases hw; rw [hk, Nat.mul_one]⟩
      rw [had]
      have := firstCells_at (P := P) (w := w) (a := ⟨b, 0, none⟩) (ys := ys.toList.take T.len) (n := T.len) (k := i.size) (len := T.len) (cap := T.cap) (fun _ => rfl) (by rw [h1]; simp; rw [hk] at hle; omega) (fun j y hj => by
        rw [Nat.zero_add, cell_at p1]; exact take_drop_get hj) w1 hw
      rw [h1, Nat.mul_one, List.take_take, Nat.min_self] at this
      rw [h1]; exact this
  have hland := app_tok (ty := o.type) hT hu hi hgT hV hkk (olds := olds) (e1 w) e2 ho4 ho2 ho3 ho5 (by rw [← hn]; exact hroom) e3 hone
  rw [← hn, ← hax] at hland
  rcases hland with ⟨hb', hm, r1⟩ | ⟨b, cap, ys, w', e', r1, r2, r3⟩
  · have : es = [] := List.eq_nil_of_length_eq_zero hm
    subst this
    simp [bytesB] at hs'
    subst hs'
    obtain ⟨q1, q2⟩ := hi.goTok (w' := w) (T' := T) (I' := g.I) (V' := .byt e (bs ++ [])) hgT rfl (.inl rfl) (fun _ _ _ => rfl) (Nat.le_refl _) rfl rfl rfl (fun n hn => .inl hn) (fun b o ho => ⟨ho, rfl⟩) (fun b o ho => .inl ho)
      (hok.keep (fun _ _ => rfl) fun _ _ hn => hn) (fun _ => ⟨hk, by simp [hcs], hn0, fun b hb => by rw [hb'] at hb; cases hb⟩)
    refine ⟨_, _, _, _, _, h, q1, q2, ?_, .inl (toX r1)⟩
    simp only [Rel]
    exact ⟨_, _, T, hax, hnn, set_get hgT, hlT, hsT⟩
  · have hee : e' = e := by
      rcases r3 with r3 | ⟨cur, p1, p2⟩
      · exact r3
      · obtain ⟨_, ys', p3, _⟩ := hIb b p1
        rw [p2] at p3; cases p3; rfl
    subst hee
    have hfl : (olds ++ flat vs).length = T.len + es.length := by rw [List.length_append, ho2, e3, h1, hk]; omega
    have htake := r2.take
    rw [hfl] at htake
    have hnew : (⟨some b, some ⟨b, 0, none⟩, cap, T.k, T.len + es.length⟩ : Tk) = T ∨ T.len < T.len + es.length := by
      by_cases hm : es.length = 0
      · left
        rcases r2.new with ⟨q, q'⟩ | q
        · have had := (hok.2.2 b q).1
          rw [hm, q', Nat.add_zero, ← q, ← had]
        · omega
      · right; omega
    obtain ⟨q1, q2⟩ := hi.goTok (w' := w') (T' := ⟨some b, some ⟨b, 0, none⟩, cap, T.k, T.len + es.length⟩) (I' := g.I) (V' := .byt e' (bs ++ s')) hgT rfl hnew
      r2.other r2.size r2.os r2.tape r2.output (fun n hn => by simp at hn; subst hn; exact r2.new.imp And.left And.left) (fun c o ho => ⟨ho, r2.keep c o ho⟩) (fun c o ho => .inl ho)
      ⟨hok.1, by simp, fun c hc => by simp at hc; subst hc; exact ⟨rfl, r2.free hi hgT, by simpa [hn] using r2.cap, ys, e', r2.at_, r2.ysz, r2.one⟩⟩
      (fun he => ⟨hk, by simp only [List.length_append, hcs, hsl], by simp, fun c hc => by
        simp at hc; subst hc
        refine ⟨fun o ho => ?_, ys, r2.at_, ?_⟩
        · rcases r2.new with ⟨p, _⟩ | p
          · exact (hIb _ p).1 o ho
          · have := (hi.heap.imm _ o ho).1; omega
        · rw [htake, ho1, hfv, List.map_append]⟩)
    refine ⟨_, _, _, _, _, h, q1, q2, ?_, .inl (toX r1)⟩
    simp only [Rel]
    exact ⟨_, cap, _, rfl, by simp, set_get hgT, by simp [hn], fun _ => ⟨rfl, rfl, fun _ => ⟨_, rfl⟩⟩⟩

theorem set_last {α : Type} (l : List α) (a b : α) : (l ++ [a]).set l.length b = l ++ [b] := by
  rw [List.set_append_right _ _ (Nat.le_refl _)]; simp

theorem get_last {α : Type} (l : List α) (a : α) : (l ++ [a])[l.length]? = some a := by
  rw [List.getElem?_append_right (Nat.le_refl _)]; simp

/-- The elements, with one growing slice more. -/
theorem Elems.evo {k : Nat} {x : Value} {es : List D} {vs : List Value} {g2 : Gh} (h : Elems P w g k x es vs) (he : Evo w g w g2) : Elems P w g2 k x es vs := ⟨RelL.evo _ he h.rel, h.len, h.cells⟩

theorem snd_app {c : Call} {s x : Operand} {t u e : TypeId} {i : TypeInfo} {zv : Value} {z : List D} (hop : o.op = .call c) (hc : c.callee = .builtin .append) (hta : c.argTypes = #[t, u]) (hx : c.args.toList = [s, x])
    (hT : ElemT P t e i zv z) (hk0 : 0 < i.size) (hu : (∃ e', P.underlying u = some (.slice e')) ∨ P.underlying u = some .string)
    (hi : Inv w0 g0 hp w g) {ds : List D} (hr : RelL w g ds [ρ s, ρ x]) (h : opWp (.app i.size i.bytes e) ds hp K) : Done P ρ o w0 g0 w g K := by
  obtain ⟨a, b, rfl, ha, hb⟩ := list2 (f := ρ) hr
  obtain ⟨consts, hrun⟩ := run_builtin (ρ := ρ) (o := o) (P := P) (w := w) hop hc
  simp only [args2 hx, builtin, hta, List.map_toArray, List.map_cons, List.map_nil] at hrun
  simp only [opWp] at h
  obtain ⟨es, he, h⟩ := h
  unfold appWp at h
  obtain ⟨hK, h⟩ := h
  obtain ⟨vs, hel⟩ := elems_val (P := P) hi.heap hb he hK
  obtain ⟨e1, e2, e3, e4⟩ := hel.all hK
  have hone := flat_one hel.rel hK
  have toX : ∀ {v : Value} {w' : World}, (Builtin.append_ #[t, u] o.type #[ρ s, ρ x]).run P w = .ok v w' → (execOp ρ o).run P w = .ok (.value v) w' := by
    intro v w' hr; rw [hrun]; simp [hr]
  have noTok : ∀ (xs : List D) (us : List Value) (a : Addr), (ρ s = .slice (some a) xs.length xs.length ∨ (ρ s = .slice none 0 0 ∧ xs = [])) → RelL w g.cl xs us → At w g.I a (flat us) → elemsK i.size xs = true → D.closedL es = true → roomOk (xs.length + es.length) i.bytes →
      K (.slice (xs ++ D.erL es) .no) hp → Done P ρ o w0 g0 w g K := by
    intro xs us a hax g3 g5 hKx hcl hroom h
    have hus := g3.length
    have hsz := elemsK_sizes g3 hKx
    have hlx := flat_length us i.size hsz
    rw [hus] at hlx
    have hcl' := RelL.closed _ hcl hel.rel
    have hrel2 : RelL w g.cl (xs ++ D.erL es) (us ++ vs) := g3.append hcl'
    have hK2 : elemsK i.size (xs ++ D.erL es) = true := elemsK_append hKx (elemsK_erL hK hcl)
    have hl2 : (xs ++ D.erL es).length = xs.length + es.length := by rw [List.length_append, ← hcl'.length, e4]
    have hox := flat_one g3.any hKx
    have hfo : ∀ w1 : World, w1.heap = w.heap → (Builtin.firstCells i.size xs.length (ρ s)).run P w1 = .ok (flat us).toArray w1 := by
      intro w1 hw
      rcases hax with hax | ⟨hax, rfl⟩
      · rw [hax]
        have := firstCells_at (P := P) (w := w) (a := a) (ys := flat us) (n := xs.length) (k := i.size) (len := xs.length) (cap := xs.length) g5.1 (by rw [hlx]; exact Nat.le_refl _) (fun j y hj => (g5.2 j y hj).1) w1 hw
        rw [← hlx, List.take_length] at this; exact this
      · rw [hax]
        have : us = [] := List.eq_nil_of_length_eq_zero hus
        subst this
        simp [Builtin.firstCells, flat]
    by_cases hm : es.length = 0
    · have : es = [] := List.eq_nil_of_length_eq_zero hm
      subst this
      have hv : vs = [] := List.eq_nil_of_length_eq_zero e4
      subst hv
      have hf0 := e2 w rfl
      have hl0 := e1 w
      simp only [List.length_nil, flat] at hf0 hl0
      have r : (Builtin.append_ #[t, u] o.type #[ρ s, ρ x]).run P w = .ok (ρ s) w := by
        rcases hax with hax | ⟨hax, _⟩ <;> rw [hax]
        · rcases hu with ⟨e', hu⟩ | hu <;> simp [Builtin.append_, run_underlying hT.ht, run_underlying hu, Go.sizeOf, typeInfo, hT.hi, hl0, hf0, storeCells]
        · rcases hu with ⟨e', hu⟩ | hu <;> simp [Builtin.append_, run_underlying hT.ht, run_underlying hu, Go.sizeOf, typeInfo, hT.hi, hl0, hf0]
      refine ⟨_, _, g, _, w, h, hi, Evo.refl _ _, ?_, .inl (toX r)⟩
      simp only [Rel, D.erL, List.append_nil]
      rcases hax with hax | ⟨hax, hx0⟩
      · exact ⟨a, xs.length, i.size, us, .inl hax, Nat.le_refl _, g3, hsz, g5, trivial⟩
      · exact ⟨a, 0, i.size, us, .inr ⟨hax, hx0, rfl⟩, by simp [hx0], g3, hsz, g5, trivial⟩
    · rcases hax with hax | ⟨hax, rfl⟩
      · rw [hax] at hfo
        obtain ⟨cap, ys, w', r1, r2⟩ := grown_mk (ty := o.type) (base := some a) (sLen := xs.length) (sCap := xs.length) (olds := flat us) hT hu (e1 w) e2 hfo (by omega) hroom hlx e3 hox hone
        rw [← flat_append, ← hl2] at r2
        rw [← hl2] at r1
        exact done_grown hi hrel2 hK2 r2 (toX (by rw [hax]; exact r1)) h
      · rw [hax] at hfo
        obtain ⟨cap, ys, w', r1, r2⟩ := grown_mk (ty := o.type) (base := none) (sLen := 0) (sCap := 0) (olds := flat us) hT hu (e1 w) e2 hfo (by omega) (by simpa using hroom) hlx e3 hox hone
        have h0 : (0 : Nat) + es.length = ([] ++ D.erL es).length := by rw [hl2]; simp
        rw [← flat_append, h0] at r2
        rw [h0] at r1
        exact done_grown hi hrel2 hK2 r2 (toX (by rw [hax]; exact r1)) h
  cases a <;> first
    | exact h.elim
    | skip
  case lit v =>
    cases v <;> first
      | exact h.elim
      | skip
    rename_i a n cap
    cases a <;> cases n <;> cases cap <;> first
      | exact h.elim
      | skip
    obtain ⟨hroom, h⟩ := h
    simp only [Rel] at ha
    obtain ⟨ha, _⟩ := ha
    rcases h with ⟨hcl, h | h⟩ | h
    · exact noTok [] [] ⟨0, 0, none⟩ (.inr ⟨ha, rfl⟩) RelL.nil ⟨fun _ => rfl, by simp [flat]⟩ rfl hcl (by simpa using hroom) h
    · obtain ⟨q1, q2⟩ := hi.tokFull (len := 0) (a := none) hk0 (.per i.size 0) (.inl rfl)
      have hs : Rel w (g.tok ⟨none, none, 0, i.size, 0⟩) (.slice [] (.tok hp.tk.length)) (ρ s) := by
        simp only [Rel]
        refine ⟨⟨0, 0, none⟩, 0, i.size, [], .inr ⟨ha, by simp, rfl⟩, by simp, RelL.nil, by simp, ⟨fun _ => rfl, by simp [flat]⟩, ?_⟩
        rw [hi.heap.lent]
        exact ⟨_, tok_get _ _, rfl, by simp, fun _ => by rw [ha]; rfl⟩
      refine done_via q2 (app_per hT hu toX q1 hs (hel.evo q2) hK hcl (by simpa using hroom) (get_last _ _) ?_)
      simp only [List.nil_append, List.length_nil, Nat.zero_add, set_last]
      exact h
    · obtain ⟨q1, q2⟩ := hi.tokFull (len := 0) (a := none) hk0 (.chg i.size []) (.inr ⟨rfl, rfl, rfl⟩)
      have hs : Rel w (g.tok ⟨none, none, 0, i.size, 0⟩) (.gs hp.tk.length 0) (ρ s) := by
        simp only [Rel]
        rw [hi.heap.lent]
        exact ⟨none, 0, _, ha, by simp, tok_get _ _, by simp, fun _ => ⟨rfl, rfl, by simp⟩⟩
      refine done_via q2 (app_chg hT hu toX q1 hs (hel.evo q2) hK (by simpa using hroom) (get_last _ _) (by simp) ?_)
      simp only [List.nil_append, Nat.zero_add, set_last]
      exact h
  case slice xs own =>
    cases own with
    | no => exact h.elim
    | full =>
      obtain ⟨hroom, hcl, hKx, _, h⟩ := h
      simp only [Rel] at ha
      obtain ⟨a, cap0, k', us, hax, g2, g3, g4, g5, g6⟩ := ha
      have hcap0 : cap0 = xs.length := g6
      subst hcap0
      have hax' : ρ s = .slice (some a) xs.length xs.length ∨ (ρ s = .slice none 0 0 ∧ xs = []) := hax.imp id fun q => ⟨q.1, q.2.1⟩
      rcases h with h | h
      · exact noTok xs us a hax' g3 g5 hKx hcl hroom h
      · obtain ⟨ad, hd⟩ : ∃ ad, ρ s = .slice ad xs.length xs.length := by
          rcases hax' with q | ⟨q, rfl⟩
          · exact ⟨_, q⟩
          · exact ⟨none, q⟩
        obtain ⟨q1, q2⟩ := hi.tokFull (len := xs.length) (a := ad) hk0 (.per i.size xs.length) (.inl rfl)
        have hs : Rel w (g.tok ⟨none, ad, xs.length, i.size, xs.length⟩) (.slice xs (.tok hp.tk.length)) (ρ s) := by
          simp only [Rel]
          refine ⟨a, xs.length, i.size, us, hax, Nat.le_refl _, RelL.evo _ q2.cl g3, elemsK_sizes g3 hKx, g5.evo q2.imm, ?_⟩
          rw [hi.heap.lent]
          exact ⟨_, tok_get _ _, rfl, Nat.le_refl _, fun _ => hd⟩
        refine done_via q2 (app_per hT hu toX q1 hs (hel.evo q2) hK hcl hroom (get_last _ _) ?_)
        simp only [set_last]
        exact h
    | tok tt =>
      obtain ⟨hroom, hcl, hV, h⟩ := h
      exact app_per hT hu toX hi ha hel hK hcl hroom hV h
  case gs tt n =>
    obtain ⟨hroom, ⟨cs, hV, hcl, h⟩ | ⟨bs, s', h1, hV, hcl, hs', h⟩⟩ := h
    · exact app_chg hT hu toX hi ha hel hK hroom hV hcl h
    · exact app_byt hT hu toX hi ha hel hK h1 hroom hV hcl hs' h
end
end GoV
