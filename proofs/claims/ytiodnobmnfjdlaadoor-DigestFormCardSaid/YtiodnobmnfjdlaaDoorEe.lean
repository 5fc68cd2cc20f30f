/- The engine, part e: what a function keeps true of the world while it runs. Own work; no program in sight. -/
import Derived.Test.YtiodnobmnfjdlaaDoorEd
set_option linter.unusedSimpArgs false
namespace GoV
open Go

theorem Keeps.refl (w : World) (r : List Nat) : Keeps w w r := ⟨rfl, rfl, rfl, Nat.le_refl _, fun _ _ _ => rfl⟩
theorem Keeps.trans {w w1 w2 : World} {r : List Nat} (h : Keeps w w1 r) (k : Keeps w1 w2 r) : Keeps w w2 r :=
  ⟨k.os.trans h.os, k.tape.trans h.tape, k.output.trans h.output, Nat.le_trans h.size k.size,
    fun b hb hn => (k.block b (Nat.lt_of_lt_of_le hb h.size) hn).trans (h.block b hb hn)⟩

/-- More may have changed in the second step, if it is new. -/
theorem Keeps.trans' {w w1 w2 : World} {r r1 : List Nat} (h : Keeps w w1 r) (k : Keeps w1 w2 r1) (hr : ∀ n ∈ r1, n ∈ r ∨ w.heap.size ≤ n) : Keeps w w2 r :=
  ⟨k.os.trans h.os, k.tape.trans h.tape, k.output.trans h.output, Nat.le_trans h.size k.size,
    fun b hb hn => (k.block b (Nat.lt_of_lt_of_le hb h.size) (fun hm => by
      rcases hr b hm with q | q
      · exact hn q
      · omega)).trans (h.block b hb hn)⟩

theorem heap_alloc_lt (w : World) (o : Obj) (k : Nat) (h : k < w.heap.size) : (w.alloc o).heap[k]? = w.heap[k]? := by
  show (w.heap.push o)[k]? = _
  rw [Array.getElem?_push, if_neg (by omega)]

theorem heap_alloc_at (w : World) (o : Obj) : (w.alloc o).heap[w.heap.size]? = some o := by
  show (w.heap.push o)[w.heap.size]? = _
  rw [Array.getElem?_push, if_pos rfl]

theorem cell_of_heap {w w' : World} {b o : Nat} (h : w'.heap[b]? = w.heap[b]?) : w'.cell? ⟨b, o, none⟩ = w.cell? ⟨b, o, none⟩ := by
  simp [World.cell?, h]

theorem cell_at {w : World} {b o : Nat} {xs : Array Value} {e : TypeId} {fr : Nat × Nat} (h : w.heap[b]? = some (.cells xs e fr)) : w.cell? ⟨b, o, none⟩ = xs[o]? := by
  simp [World.cell?, h]

theorem lt_of_some {w : World} {b : Nat} {o : Obj} (h : w.heap[b]? = some o) : b < w.heap.size := by
  rcases Nat.lt_or_ge b w.heap.size with q | q
  · exact q
  · rw [Array.getElem?_eq_none q] at h; cases h

theorem lt_of_get {α : Type} {l : List α} {i : Nat} {x : α} (h : l[i]? = some x) : i < l.length := by
  rcases Nat.lt_or_ge i l.length with q | q
  · exact q
  · rw [List.getElem?_eq_none q] at h; cases h

theorem nodup_inj {l : List Nat} (h : l.Nodup) {i j n : Nat} (hi : l[i]? = some n) (hj : l[j]? = some n) : i = j :=
  (List.getElem?_inj (lt_of_get hi) h).1 (hi.trans hj.symm)

theorem mem_blks {l : List Tk} {b : Nat} : b ∈ blks l ↔ ∃ T ∈ l, T.blk = some b := by simp [blks, List.mem_filterMap]

/-- Two growing slices never share a block. -/
theorem tk_inj : ∀ {l : List Tk}, (blks l).Nodup → ∀ {i j : Nat} {T T' : Tk} {b : Nat}, l[i]? = some T → l[j]? = some T' → T.blk = some b → T'.blk = some b → i = j
  | [], _, i, _, _, _, _, h, _, _, _ => by simp at h
  | T0 :: l, hn, i, j, T, T', b, hi, hj, h1, h2 => by
    have hn' : (blks l).Nodup := by
      unfold blks at hn ⊢
      cases hb : T0.blk with
      | none => simpa [List.filterMap_cons, hb] using hn
      | some c => simp [List.filterMap_cons, hb] at hn; exact hn.2
    have key : ∀ (U : Tk), U ∈ l → U.blk = some b → T0.blk = some b → False := by
      intro U hU h3 h4
      unfold blks at hn
      simp [List.filterMap_cons, h4] at hn
      exact hn.1 U hU h3
    cases i with
    | zero =>
      cases j with
      | zero => rfl
      | succ j =>
        simp at hi hj; subst hi
        exact (key T' (List.mem_of_getElem? hj) h2 h1).elim
    | succ i =>
      cases j with
      | zero =>
        simp at hi hj; subst hj
        exact (key T (List.mem_of_getElem? hi) h1 h2).elim
      | succ j =>
        simp at hi hj
        rw [tk_inj hn' hi hj h1 h2]


theorem BlkRel.evo {w w' : World} {g g' : Gh} {B : Blk} {o : Option Obj} (he : Evo w g w' g') (h : BlkRel w g B o) : BlkRel w' g' B o := by
  cases B with
  | cells cs =>
    obtain ⟨xs, e, h1, h2, h3⟩ := h
    exact ⟨xs, e, h1, RelL.evo cs he h2, h3⟩
  | gone => trivial
  | map es =>
    obtain ⟨ents, clock, h1, h2, h3, h4⟩ := h
    exact ⟨ents, clock, h1, RelL.evo _ he h2, RelL.evo _ he h3, h4⟩
  | siter s p => exact h
  | tcells e cs =>
    obtain ⟨xs, h1, h2, h3⟩ := h
    exact ⟨xs, h1, RelL.evo cs he h2, h3⟩

theorem TvRel.evo {w w' : World} {g g' : Gh} {T : Tk} {V : Tv} (he : Evo w g w' g') (hI : ∀ b, T.blk = some b → ∀ o, g'.I b o → g.I b o) (hb : ∀ b, T.blk = some b → w'.heap[b]? = w.heap[b]?) (h : TvRel w g T V) : TvRel w' g' T V := by
  cases V with
  | per k len => exact ⟨h.1, h.2.1, fun b h1 o ho => h.2.2 b h1 o (hI b h1 o ho)⟩
  | chg k cs =>
    refine ⟨h.1, h.2.1, h.2.2.1, fun b h1 => ⟨fun o ho => (h.2.2.2 b h1).1 o (hI b h1 o ho), ?_⟩⟩
    obtain ⟨xs, e, q1, q2⟩ := (h.2.2.2 b h1).2
    exact ⟨xs, e, (hb b h1).trans q1, RelL.evo cs he q2⟩
  | byt e bs =>
    refine ⟨h.1, h.2.1, h.2.2.1, fun b h1 => ⟨fun o ho => (h.2.2.2 b h1).1 o (hI b h1 o ho), ?_⟩⟩
    obtain ⟨xs, q1, q2⟩ := (h.2.2.2 b h1).2
    exact ⟨xs, (hb b h1).trans q1, q2⟩

theorem TkOk.keep {w w' : World} {g g' : Gh} {T : Tk} (hb : ∀ b, T.blk = some b → w'.heap[b]? = w.heap[b]?) (hr : ∀ b, T.blk = some b → b ∉ g.r → b ∉ g'.r) (h : TkOk w g T) : TkOk w' g' T := by
  refine ⟨h.1, h.2.1, fun b h1 => ?_⟩
  obtain ⟨h0, h2, h3, xs, e, h4, h5⟩ := h.2.2 b h1
  exact ⟨h0, hr b h1 h2, h3, xs, e, (hb b h1).trans h4, h5⟩

theorem TkOk.lt {w : World} {g : Gh} {T : Tk} (h : TkOk w g T) {b : Nat} (hb : T.blk = some b) : b < w.heap.size := by
  obtain ⟨_, _, _, xs, e, h4, _⟩ := h.2.2 b hb
  exact lt_of_some h4

theorem HeapRel.own_lt {w : World} {g : Gh} {hp : Hp} (h : HeapRel w g hp) : ∀ n ∈ g.own, n < w.heap.size := by
  intro n hn
  rcases List.mem_append.1 hn with q | q
  · exact h.lt n q
  · obtain ⟨T, h1, h2⟩ := mem_blks.1 q
    exact (h.tok T h1).lt h2

theorem HeapRel.tokBlk {w : World} {g : Gh} {hp : Hp} (h : HeapRel w g hp) {t : Nat} {V : Tv} (hV : hp.tk[t]? = some V) : ∃ T, g.tk[t]? = some T ∧ TvRel w g T V ∧ TkOk w g T := by
  have hl := lt_of_get hV
  have hT := List.getElem?_eq_getElem (l := g.tk) (i := t) (by rw [← h.lent]; exact hl)
  exact ⟨_, hT, h.tv t V _ hV hT, h.tok _ (List.mem_of_getElem? hT)⟩

/-- Changes outside of what the store stands for: nothing else changes. -/
theorem HeapRel.other {w w' : World} {g g' : Gh} {hp : Hp} (h : HeapRel w g hp) (he : Evo w g w' g') (hr : g'.r = g.r) (ht : g'.tk = g.tk)
    (hb : ∀ n ∈ g.own, w'.heap[n]? = w.heap[n]?) (hs : w.heap.size ≤ w'.heap.size)
    (hI : ∀ b o, g'.I b o → g.I b o ∨ (b < w'.heap.size ∧ b ∉ g.own)) : HeapRel w' g' hp := by
  have htb : ∀ T ∈ g.tk, ∀ b, T.blk = some b → b ∈ g.own := fun T hT b hb => List.mem_append.2 (.inr (mem_blks.2 ⟨T, hT, hb⟩))
  have hIt : ∀ T ∈ g.tk, ∀ b, T.blk = some b → ∀ o, g'.I b o → g.I b o := fun T hT b hb o ho => by
    rcases hI b o ho with q | q
    · exact q
    · exact absurd (htb T hT b hb) q.2
  refine ⟨by rw [hr]; exact h.len, fun b B n hB hn => ?_, fun n hn => ?_, by rw [hr]; exact h.nodup, by rw [ht]; exact h.lent, fun t V T hV hT => ?_, fun T hT => ?_, by rw [ht]; exact h.tokd, fun b o ho => ?_⟩
  · rw [hr] at hn
    rw [hb n (List.mem_append.2 (.inl (List.mem_of_getElem? hn)))]
    exact (h.blk b B n hB hn).evo he
  · rw [hr] at hn
    exact Nat.lt_of_lt_of_le (h.lt n hn) hs
  · rw [ht] at hT
    have hm := List.mem_of_getElem? hT
    exact (h.tv t V T hV hT).evo he (hIt T hm) fun b hb' => hb b (htb T hm b hb')
  · rw [ht] at hT
    exact (h.tok T hT).keep (fun b hb' => hb b (htb T hT b hb')) fun b _ hn => by rw [hr]; exact hn
  · rcases hI b o ho with q | q
    · exact ⟨Nat.lt_of_lt_of_le (h.imm b o q).1 hs, fun i hi => by rw [hr] at hi; exact (h.imm b o q).2 i hi⟩
    · refine ⟨q.1, fun i hi => ?_⟩
      rw [hr] at hi
      exact absurd (List.mem_append.2 (.inl (List.mem_of_getElem? hi))) q.2

theorem Keeps.alloc (w : World) (o : Obj) (r : List Nat) : Keeps w (w.alloc o) r :=
  ⟨rfl, rfl, rfl, by simp, fun b hb _ => heap_alloc_lt w o b hb⟩

theorem Evo.alloc (w : World) (o : Obj) {g : Gh} {hp : Hp} (h : HeapRel w g hp) : Evo w g (w.alloc o) g :=
  ⟨fun b o' hi => ⟨hi, cell_of_heap (heap_alloc_lt w o b (h.imm b o' hi).1)⟩, fun _ _ h => h, fun _ T h => ⟨T, h, rfl, .inl rfl⟩⟩

theorem Inv.new {w0 g0 hp w g} (h : Inv w0 g0 hp w g) : ∀ n ∈ g.own, n ∈ g0.own ∨ w0.heap.size ≤ n := by
  intro n hn
  rcases List.mem_append.1 hn with q | q
  · exact (h.newr n q).imp (fun p => List.mem_append.2 (.inl p)) id
  · exact (h.newt n q).imp (fun p => List.mem_append.2 (.inr p)) id

/-- One step further. -/
theorem Inv.step {w0 g0 hp w g hp' w' g'} (h : Inv w0 g0 hp w g) (hh : HeapRel w' g' hp') (he : Evo w g w' g') (hk : Keeps w w' g.own) (hn : ∀ n ∈ g'.r, n ∈ g.r ∨ w.heap.size ≤ n) (ht : ∀ n ∈ blks g'.tk, n ∈ blks g.tk ∨ w.heap.size ≤ n)
    (hi : ∀ b o, g'.I b o → g.I b o ∨ w.heap.size ≤ b ∨ b ∈ blks g.tk) : Inv w0 g0 hp' w' g' := by
  have hsz := h.keeps.size
  refine ⟨hh, h.evo.trans he, h.keeps.trans' hk h.new, fun n hm => ?_, fun n hm => ?_, fun b o ho => ?_⟩
  · rcases hn n hm with q | q
    · exact h.newr n q
    · exact .inr (Nat.le_trans hsz q)
  · rcases ht n hm with q | q
    · exact h.newt n q
    · exact .inr (Nat.le_trans hsz q)
  · rcases hi b o ho with q | q | q
    · exact h.i1 b o q
    · exact .inr (.inl (Nat.le_trans hsz q))
    · rcases h.newt b q with p | p
      · exact .inr (.inr p)
      · exact .inr (.inl p)

/-- The same world, seen otherwise. -/
theorem Inv.ghost {w0 g0 hp w g hp' g'} (h : Inv w0 g0 hp w g) (hh : HeapRel w g' hp') (he : Evo w0 g0 w g') (hn : ∀ n ∈ g'.r, n ∈ g.r ∨ w0.heap.size ≤ n) (ht : ∀ n ∈ blks g'.tk, n ∈ blks g.tk ∨ w0.heap.size ≤ n)
    (hi : ∀ b o, g'.I b o → g.I b o ∨ w0.heap.size ≤ b ∨ b ∈ blks g0.tk) : Inv w0 g0 hp' w g' := by
  refine ⟨hh, he, h.keeps, fun n hm => ?_, fun n hm => ?_, fun b o ho => ?_⟩
  · rcases hn n hm with q | q
    · exact h.newr n q
    · exact .inr q
  · rcases ht n hm with q | q
    · exact h.newt n q
    · exact .inr q
  · rcases hi b o ho with q | q
    · exact h.i1 b o q
    · exact .inr q

/-- A new block of whatever kind: nothing else changes. -/
theorem Inv.alloc {w0 g0 hp w g} (h : Inv w0 g0 hp w g) (o : Obj) : Inv w0 g0 hp (w.alloc o) g ∧ Evo w g (w.alloc o) g := by
  have he := Evo.alloc w o h.heap
  refine ⟨h.step (h.heap.other he rfl rfl (fun n hn => heap_alloc_lt w o n (h.heap.own_lt n hn)) (by simp) fun b o ho => .inl ho) he (Keeps.alloc w o _) (fun n hn => .inl hn) (fun n hn => .inl hn) (fun b o ho => .inl ho), he⟩

/-- The new block becomes an abstract block. -/
theorem Inv.newBlk {w0 g0 hp w g} (h : Inv w0 g0 hp w g) (B : Blk) (o : Obj) (hB : ∀ w' g', Evo w g w' g' → BlkRel w' g' B (some o)) :
    Inv w0 g0 { hp with H := hp.H ++ [B] } (w.alloc o) { g with r := g.r ++ [w.heap.size] } ∧ Evo w g (w.alloc o) { g with r := g.r ++ [w.heap.size] } := by
  have h0 := h.heap
  have hne : w.heap.size ∉ g.own := fun hm => by have := h0.own_lt _ hm; omega
  have hner : w.heap.size ∉ g.r := fun hm => hne (List.mem_append.2 (.inl hm))
  have hbk : ∀ n, n < w.heap.size → (w.alloc o).heap[n]? = w.heap[n]? := fun n hn => heap_alloc_lt w o n hn
  have he : Evo w g (w.alloc o) { g with r := g.r ++ [w.heap.size] } := by
    refine ⟨fun b o' hi => ⟨hi, cell_of_heap (hbk b (h0.imm b o' hi).1)⟩, fun b n hb => ?_, fun _ T h => ⟨T, h, rfl, .inl rfl⟩⟩
    show (g.r ++ [w.heap.size])[b]? = some n
    rw [List.getElem?_append_left (lt_of_get hb)]; exact hb
  have htb : ∀ T ∈ g.tk, ∀ b, T.blk = some b → b < w.heap.size := fun T hT b hb => (h0.tok T hT).lt hb
  have hh : HeapRel (w.alloc o) { g with r := g.r ++ [w.heap.size] } { hp with H := hp.H ++ [B] } := by
    refine ⟨by simp [h0.len], fun b C n hC hn => ?_, fun n hn => ?_, ?_, h0.lent, fun t V T hV hT => ?_, fun T hT => ?_, h0.tokd, fun b o' ho => ?_⟩
    · simp only at hC hn
      by_cases hlt : b < hp.H.length
      · rw [List.getElem?_append_left hlt] at hC
        rw [List.getElem?_append_left (by rw [← h0.len]; exact hlt)] at hn
        rw [hbk n (h0.lt n (List.mem_of_getElem? hn))]
        exact (h0.blk b C n hC hn).evo he
      · rw [List.getElem?_append_right (by omega)] at hC
        rw [List.getElem?_append_right (by rw [← h0.len]; omega), ← h0.len] at hn
        have h0' : b - hp.H.length = 0 := by have := lt_of_get hC; simp at this; omega
        rw [h0'] at hC hn
        simp at hC hn
        subst hC; subst hn
        rw [heap_alloc_at]
        exact hB _ _ he
    · simp only [List.mem_append, List.mem_singleton] at hn
      rcases hn with hn | hn
      · have := h0.lt n hn; simp; omega
      · subst hn; simp
    · simp only [List.nodup_append]
      refine ⟨h0.nodup, by simp, fun a ha b hb => ?_⟩
      simp at hb; subst hb
      intro e; subst e; exact hner ha
    · exact (h0.tv t V T hV hT).evo he (fun b _ o ho => ho) fun b hb => hbk b (htb T (List.mem_of_getElem? hT) b hb)
    · refine (h0.tok T hT).keep (fun b hb => hbk b (htb T hT b hb)) fun b hb hn => ?_
      simp only [List.mem_append, List.mem_singleton, not_or]
      exact ⟨hn, fun e => by have := htb T hT b hb; omega⟩
    · have h3 := h0.imm b o' ho
      refine ⟨by simp; omega, fun i hi => ?_⟩
      simp only at hi ⊢
      by_cases hlt : i < g.r.length
      · rw [List.getElem?_append_left hlt] at hi
        rw [List.getElem?_append_left (by rw [h0.len]; exact hlt)]
        exact h3.2 i hi
      · rw [List.getElem?_append_right (by omega)] at hi
        have : i - g.r.length = 0 := by have := lt_of_get hi; simp at this; omega
        rw [this] at hi; simp at hi; omega
  refine ⟨h.step hh he (Keeps.alloc w o _) (fun n hn => ?_) (fun n hn => .inl hn) (fun b o ho => .inl ho), he⟩
  simp only [List.mem_append, List.mem_singleton] at hn
  rcases hn with q | q
  · exact .inl q
  · subst q; exact .inr (Nat.le_refl _)

/-- An abstract block turns into another one. -/
theorem Inv.write {w0 g0 hp w g w'} (h : Inv w0 g0 hp w g) (b n : Nat) (hn : g.r[b]? = some n) (hng : ∃ C, hp.H[b]? = some C ∧ C ≠ .gone)
    (B : Blk) (hw : ∀ w1 g1, Evo w g w1 g1 → BlkRel w1 g1 B w'.heap[n]?) (ho : ∀ m, m ≠ n → w'.heap[m]? = w.heap[m]?)
    (hs : w'.heap.size = w.heap.size) (hos : w'.os = w.os) (htp : w'.tape = w.tape) (hout : w'.output = w.output) :
    Inv w0 g0 { hp with H := hp.H.set b B } w' g ∧ Evo w g w' g := by
  have h0 := h.heap
  have hmem : n ∈ g.r := List.mem_of_getElem? hn
  have hnI : ∀ o, ¬ g.I n o := by
    intro o hi
    obtain ⟨C, h1, h2⟩ := hng
    have := (h0.imm n o hi).2 b hn
    rw [h1] at this; cases this; exact h2 rfl
  have he : Evo w g w' g := by
    refine ⟨fun b' o' hi => ⟨hi, cell_of_heap (ho b' fun e => ?_)⟩, fun _ _ h => h, fun _ T h => ⟨T, h, rfl, .inl rfl⟩⟩
    subst e; exact hnI o' hi
  have htb : ∀ T ∈ g.tk, ∀ c, T.blk = some c → w'.heap[c]? = w.heap[c]? := fun T hT c hc => ho c fun e => by
    subst e; exact ((h0.tok T hT).2.2 _ hc).2.1 hmem
  have hh : HeapRel w' g { hp with H := hp.H.set b B } := by
    refine ⟨by simp [h0.len], fun b' C n' hC hn' => ?_, fun m hm => by rw [hs]; exact h0.lt m hm, h0.nodup, h0.lent, fun t V T hV hT => ?_, fun T hT => ?_, h0.tokd, fun b' o' hi => ?_⟩
    · simp only [List.getElem?_set] at hC
      by_cases hbb : b = b'
      · subst hbb
        have hl : b < hp.H.length := by rw [h0.len]; exact lt_of_get hn
        simp [hl] at hC
        subst hC
        rw [hn] at hn'; cases hn'
        exact hw w' g he
      · rw [if_neg hbb] at hC
        have hne : n' ≠ n := by
          intro e; subst e
          exact hbb (nodup_inj h0.nodup hn hn')
        rw [ho n' hne]
        exact (h0.blk b' C n' hC hn').evo he
    · exact (h0.tv t V T hV hT).evo he (fun b _ o ho => ho) (htb T (List.mem_of_getElem? hT))
    · exact (h0.tok T hT).keep (htb T hT) fun _ _ hn => hn
    · refine ⟨by rw [hs]; exact (h0.imm b' o' hi).1, fun i hi' => ?_⟩
      simp only [List.getElem?_set]
      by_cases e : b = i
      · subst e
        rw [hn] at hi'; cases hi'
        exact absurd hi (hnI o')
      · rw [if_neg e]; exact (h0.imm b' o' hi).2 i hi'
  refine ⟨h.step hh he ⟨hos, htp, hout, by omega, fun m hm hnr => ho m fun e => ?_⟩ (fun m hm => .inl hm) (fun m hm => .inl hm) (fun b o ho => .inl ho), he⟩
  subst e
  exact hnr (List.mem_append.2 (.inl hmem))

/-- New cells that never change, outside of what the store stands for. -/
theorem Inv.more {w0 g0 hp w g} (h : Inv w0 g0 hp w g) (b : Nat) (p : Nat → Prop) (hb : b < w.heap.size) (ho : b ∉ g.own) (hnew : w0.heap.size ≤ b) :
    Inv w0 g0 hp w { g with I := fun c o => g.I c o ∨ (c = b ∧ p o) } ∧ Evo w g w { g with I := fun c o => g.I c o ∨ (c = b ∧ p o) } := by
  have he : Evo w g w { g with I := fun c o => g.I c o ∨ (c = b ∧ p o) } := ⟨fun c o hi => ⟨.inl hi, rfl⟩, fun _ _ h => h, fun _ T h => ⟨T, h, rfl, .inl rfl⟩⟩
  refine ⟨⟨h.heap.other he rfl rfl (fun _ _ => rfl) (Nat.le_refl _) ?_, h.evo.trans he, h.keeps, h.newr, h.newt, ?_⟩, he⟩
  · rintro c o (q | ⟨rfl, _⟩)
    · exact .inl q
    · exact .inr ⟨hb, ho⟩
  · rintro c o (q | ⟨rfl, _⟩)
    · exact h.i1 c o q
    · exact .inr (.inl hnew)

/-- A new growing slice. -/
theorem HeapRel.newTok {w g hp} (h0 : HeapRel w g hp) (T : Tk) (V : Tv) (hT : TkOk w { g with tk := g.tk ++ [T] } T) (hV : TvRel w { g with tk := g.tk ++ [T] } T V) (hb : ∀ b, T.blk = some b → b ∉ g.own) :
    HeapRel w { g with tk := g.tk ++ [T] } { hp with tk := hp.tk ++ [V] } ∧ Evo w g w { g with tk := g.tk ++ [T] } := by
  have he : Evo w g w { g with tk := g.tk ++ [T] } := by
    refine ⟨fun c o hi => ⟨hi, rfl⟩, fun _ _ h => h, fun t U h => ⟨U, ?_, rfl, .inl rfl⟩⟩
    show (g.tk ++ [T])[t]? = some U
    rw [List.getElem?_append_left (lt_of_get h)]; exact h
  refine ⟨⟨h0.len, fun b B n hB hn => (h0.blk b B n hB hn).evo he, h0.lt, h0.nodup, by simp [h0.lent], fun t U S hU hS => ?_, fun S hS => ?_, ?_, h0.imm⟩, he⟩
  · simp only at hU hS
    by_cases hlt : t < hp.tk.length
    · rw [List.getElem?_append_left hlt] at hU
      rw [List.getElem?_append_left (by rw [← h0.lent]; exact hlt)] at hS
      exact (h0.tv t U S hU hS).evo he (fun b _ o ho => ho) fun _ _ => rfl
    · rw [List.getElem?_append_right (by omega)] at hU
      rw [List.getElem?_append_right (by rw [← h0.lent]; omega), ← h0.lent] at hS
      have h1 : t - hp.tk.length = 0 := by have := lt_of_get hU; simp at this; omega
      rw [h1] at hU hS
      simp at hU hS
      subst hU; subst hS
      exact hV
  · simp only [List.mem_append, List.mem_singleton] at hS
    rcases hS with hS | hS
    · exact (h0.tok S hS).keep (fun _ _ => rfl) fun _ _ hn => hn
    · subst hS; exact hT
  · show (blks (g.tk ++ [T])).Nodup
    unfold blks
    rw [List.filterMap_append, List.nodup_append]
    refine ⟨h0.tokd, ?_, fun a ha b hb' => ?_⟩
    · cases hT' : T.blk <;> simp [List.filterMap_cons, hT']
    · cases hT' : T.blk with
      | none => simp [List.filterMap_cons, hT'] at hb'
      | some c =>
        simp [List.filterMap_cons, hT'] at hb'
        subst hb'
        intro e; subst e
        exact hb _ hT' (List.mem_append.2 (.inr ha))

theorem blks_set_new {l : List Tk} {t : Nat} {T' : Tk} {n : Nat} : n ∈ blks (l.set t T') → n ∈ blks l ∨ T'.blk = some n := by
  intro h
  obtain ⟨U, h1, h2⟩ := mem_blks.1 h
  rcases List.mem_or_eq_of_mem_set h1 with q | q
  · exact .inl (mem_blks.2 ⟨U, q, h2⟩)
  · subst q; exact .inr h2

theorem blks_set_nodup : ∀ {l : List Tk}, (blks l).Nodup → ∀ (t : Nat) (T' : Tk), (∀ b, T'.blk = some b → ∀ (j : Nat) (U : Tk), l[j]? = some U → U.blk = some b → j = t) → (blks (l.set t T')).Nodup
  | [], _, _, _, _ => by simp [blks]
  | U :: l, hn, 0, T', h => by
    have hl : (blks l).Nodup := by
      unfold blks at hn ⊢
      cases hb : U.blk with
      | none => simpa [List.filterMap_cons, hb] using hn
      | some c => simp [List.filterMap_cons, hb] at hn; exact hn.2
    simp only [List.set_cons_zero]
    unfold blks at hl ⊢
    cases hb : T'.blk with
    | none => simpa [List.filterMap_cons, hb] using hl
    | some c =>
      rw [List.filterMap_cons_some hb, List.nodup_cons]
      refine ⟨fun hm => ?_, hl⟩
      obtain ⟨S, h1, h2⟩ := List.mem_filterMap.1 hm
      obtain ⟨j, hj⟩ := List.mem_iff_getElem?.1 h1
      have := h c hb (j + 1) S (by simpa using hj) h2
      omega
  | U :: l, hn, t + 1, T', h => by
    have hl : (blks l).Nodup := by
      unfold blks at hn ⊢
      cases hb : U.blk with
      | none => simpa [List.filterMap_cons, hb] using hn
      | some c => simp [List.filterMap_cons, hb] at hn; exact hn.2
    have ih := blks_set_nodup hl t T' fun b hb j S hj hS => by
      have := h b hb (j + 1) S (by simpa using hj) hS
      omega
    simp only [List.set_cons_succ]
    unfold blks at hn ih ⊢
    cases hb : U.blk with
    | none => simpa [List.filterMap_cons, hb] using ih
    | some c =>
      rw [List.filterMap_cons_some hb, List.nodup_cons]
      refine ⟨fun hm => ?_, ih⟩
      rcases blks_set_new hm with q | q
      · rw [List.filterMap_cons_some hb, List.nodup_cons] at hn
        exact hn.1 q
      · have := h c q 0 U (by simp) hb
        omega

/-- A growing slice goes on: its block has other cells, or it has another block. -/
theorem HeapRel.setTok {w g hp w'} {t : Nat} {T T' : Tk} {V' : Tv} {I' : Nat → Nat → Prop} (h0 : HeapRel w g hp) (hT : g.tk[t]? = some T)
    (he : Evo w g w' ⟨g.r, g.tk.set t T', I'⟩) (hb : ∀ n, n < w.heap.size → T.blk ≠ some n → w'.heap[n]? = w.heap[n]?) (hs : w.heap.size ≤ w'.heap.size)
    (hn : ∀ n, T'.blk = some n → T.blk = some n ∨ w.heap.size ≤ n) (hI : ∀ b o, I' b o → g.I b o ∨ (T'.blk = some b ∧ b < w'.heap.size))
    (hok : TkOk w' ⟨g.r, g.tk.set t T', I'⟩ T') (hV : TvRel w' ⟨g.r, g.tk.set t T', I'⟩ T' V') :
    HeapRel w' ⟨g.r, g.tk.set t T', I'⟩ { hp with tk := hp.tk.set t V' } := by
  have hTm := List.mem_of_getElem? hT
  have htl := lt_of_get hT
  have hrne : ∀ n ∈ g.r, T.blk ≠ some n := fun n hn e => ((h0.tok T hTm).2.2 n e).2.1 hn
  have hone : ∀ (j : Nat) (U : Tk), g.tk[j]? = some U → j ≠ t → ∀ b, U.blk = some b → T.blk ≠ some b := fun j U hj hne b hU e => hne (tk_inj h0.tokd hj hT hU e)
  refine ⟨h0.len, fun b B n hB hn' => ?_, fun n hn' => Nat.lt_of_lt_of_le (h0.lt n hn') hs, h0.nodup, by simp [h0.lent], fun j U S hU hS => ?_, fun S hS => ?_, ?_, fun b o ho => ?_⟩
  · have hm := List.mem_of_getElem? hn'
    rw [hb n (h0.lt n hm) (hrne n hm)]
    exact (h0.blk b B n hB hn').evo he
  · simp only [List.getElem?_set] at hU hS
    by_cases e : t = j
    · subst e
      simp [htl, h0.lent] at hU hS
      subst hU; subst hS
      exact hV
    · rw [if_neg e] at hU hS
      have hne := hone j S hS (fun q => e q.symm)
      have hS' := h0.tok S (List.mem_of_getElem? hS)
      refine (h0.tv j U S hU hS).evo he (fun b hb' o ho => ?_) fun b hb' => hb b (hS'.lt hb') (hne b hb')
      rcases hI b o ho with q | q
      · exact q
      · exfalso
        rcases hn b q.1 with q2 | q2
        · exact hne b hb' q2
        · have := hS'.lt hb'; omega
  · obtain ⟨j, hj⟩ := List.mem_iff_getElem?.1 hS
    simp only [List.getElem?_set] at hj
    by_cases e : t = j
    · subst e
      simp [htl] at hj
      subst hj; exact hok
    · rw [if_neg e] at hj
      have hS' := h0.tok S (List.mem_of_getElem? hj)
      exact hS'.keep (fun b hb' => hb b (hS'.lt hb') (hone j S hj (fun q => e q.symm) b hb')) fun _ _ hn => hn
  · refine blks_set_nodup h0.tokd t T' fun b hb' j U hj hU => ?_
    rcases hn b hb' with q | q
    · exact tk_inj h0.tokd hj hT hU q
    · exfalso
      have := (h0.tok U (List.mem_of_getElem? hj)).lt hU; omega
  · rcases hI b o ho with q | q
    · exact ⟨Nat.lt_of_lt_of_le (h0.imm b o q).1 hs, (h0.imm b o q).2⟩
    · refine ⟨q.2, fun i hi => ?_⟩
      exfalso
      rcases hn b q.1 with q2 | q2
      · exact hrne b (List.mem_of_getElem? hi) q2
      · have := h0.lt b (List.mem_of_getElem? hi); omega

end GoV
