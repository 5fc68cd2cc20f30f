/- The engine, part e: what a function keeps true of the world while it runs; single operations are sound. Own work; no program in sight. -/
import Derived.Test.YtapoplenfgjcjaaDoorEd
namespace GoV
open Go

structure Inv (w0 : World) (r0 : List Nat) (I0 : Nat → Nat → Prop) (hp : Hp) (rn : List Nat) (tk : List Tk) (I : Nat → Nat → Prop) (w : World) : Prop where
  heap : HeapRel w I (r0 ++ rn) tk hp.H
  toks : tk.map (fun T => (T.k, T.len)) = hp.tk
  tok : ∀ T ∈ tk, ∃ xs e, w.heap[T.blk]? = some (.cells xs e (0, 0)) ∧ xs.size = T.cap * T.k ∧ T.len ≤ T.cap ∧ T.blk ∉ r0 ++ rn ∧ w0.heap.size ≤ T.blk ∧ 0 < T.k
  tokd : (tk.map Tk.blk).Nodup
  tki : ∀ b o, I b o → ∀ T ∈ tk, T.blk = b → o < T.len * T.k
  keeps : Keeps w0 w r0
  new : ∀ n ∈ rn, w0.heap.size ≤ n
  i0 : ∀ b o, I0 b o → I b o
  i1 : ∀ b o, I b o → I0 b o ∨ w0.heap.size ≤ b

theorem Keeps.refl (w : World) (r : List Nat) : Keeps w w r := ⟨rfl, rfl, rfl, Nat.le_refl _, fun _ _ _ => rfl⟩
theorem Keeps.trans {w w1 w2 : World} {r : List Nat} (h : Keeps w w1 r) (g : Keeps w1 w2 r) : Keeps w w2 r :=
  ⟨g.os.trans h.os, g.tape.trans h.tape, g.output.trans h.output, Nat.le_trans h.size g.size,
    fun b hb hn => (g.block b (Nat.lt_of_lt_of_le hb h.size) hn).trans (h.block b hb hn)⟩

theorem heap_alloc_lt (w : World) (o : Obj) (k : Nat) (h : k < w.heap.size) : (w.alloc o).heap[k]? = w.heap[k]? := by
  show (w.heap.push o)[k]? = _
  rw [Array.getElem?_push, if_neg (by omega)]

theorem heap_alloc_new (w : World) (o : Obj) : (w.alloc o).heap[w.heap.size]? = some o := by
  show (w.heap.push o)[w.heap.size]? = _
  rw [Array.getElem?_push, if_pos rfl]

theorem cell_of_heap {w w' : World} {b o : Nat} (h : w'.heap[b]? = w.heap[b]?) : w'.cell? ⟨b, o, none⟩ = w.cell? ⟨b, o, none⟩ := by
  simp [World.cell?, h]

theorem Keeps.alloc (w : World) (o : Obj) (r : List Nat) : Keeps w (w.alloc o) r :=
  ⟨rfl, rfl, rfl, by simp, fun b hb _ => heap_alloc_lt w o b hb⟩

theorem nodup_inj {l : List Nat} (h : l.Nodup) {i j n : Nat} (hi : l[i]? = some n) (hj : l[j]? = some n) : i = j := by
  have hl : i < l.length := by
    rcases Nat.lt_or_ge i l.length with q | q
    · exact q
    · rw [List.getElem?_eq_none q] at hi; cases hi
  exact (List.getElem?_inj hl h).1 (hi.trans hj.symm)

theorem BlkRel.evo {w w' : World} {I I' r r' tk tk'} {B : Blk} {o : Option Obj} (he : Evo w I r tk w' I' r' tk') (h : BlkRel w I r tk B o) : BlkRel w' I' r' tk' B o := by
  cases B with
  | cells cs =>
    obtain ⟨xs, e, h1, h2, h3⟩ := h
    exact ⟨xs, e, h1, RelL.evo cs he h2, h3⟩

/-- A new block of whatever kind: nothing else changes. -/
theorem Inv.alloc {w0 r0 I0 hp rn tk I w} (h : Inv w0 r0 I0 hp rn tk I w) (o : Obj) :
    Inv w0 r0 I0 hp rn tk I (w.alloc o) ∧ Evo w I (r0 ++ rn) tk (w.alloc o) I (r0 ++ rn) tk := by
  have he : Evo w I (r0 ++ rn) tk (w.alloc o) I (r0 ++ rn) tk :=
    ⟨fun b o' hi => ⟨hi, cell_of_heap (heap_alloc_lt w o b (h.heap.imm b o' hi).1)⟩, fun _ _ h => h, fun _ T h => ⟨T, h, rfl, .inl rfl⟩⟩
  refine ⟨⟨⟨h.heap.len, fun b B n hb hn => ?_, fun n hn => ?_, h.heap.nodup, fun b o' hi => ?_⟩, h.toks, fun T hT => ?_, h.tokd, h.tki, h.keeps.trans (Keeps.alloc w o r0), h.new, h.i0, h.i1⟩, he⟩
  · rw [heap_alloc_lt w o n (h.heap.lt n (List.mem_of_getElem? hn))]
    exact (h.heap.blk b B n hb hn).evo he
  · have := h.heap.lt n hn; simp; omega
  · have := h.heap.imm b o' hi; exact ⟨by simp; omega, this.2⟩
  · obtain ⟨xs, e, h1, h2⟩ := h.tok T hT
    refine ⟨xs, e, ?_, h2⟩
    have hl : T.blk < w.heap.size := by
      rcases Nat.lt_or_ge T.blk w.heap.size with g | g
      · exact g
      · rw [Array.getElem?_eq_none g] at h1; cases h1
    rw [heap_alloc_lt w o _ hl]; exact h1

/-- The new block becomes an abstract block. -/
theorem Inv.newBlk {w0 r0 I0 hp rn tk I w} (h : Inv w0 r0 I0 hp rn tk I w) (cs : List D) (xs : List Value) (e : TypeId)
    (hr : RelL w I cs (r0 ++ rn) tk xs) (h1 : ∀ y ∈ xs, oneC y) :
    Inv w0 r0 I0 { hp with H := hp.H ++ [.cells cs] } (rn ++ [w.heap.size]) tk I (w.alloc (.cells xs.toArray e (0, 0))) ∧
      Evo w I (r0 ++ rn) tk (w.alloc (.cells xs.toArray e (0, 0))) I (r0 ++ (rn ++ [w.heap.size])) tk := by
  obtain ⟨hi, he⟩ := h.alloc (.cells xs.toArray e (0, 0))
  have hne : w.heap.size ∉ r0 ++ rn := fun hm => by have := h.heap.lt _ hm; omega
  have he2 : Evo (w.alloc (.cells xs.toArray e (0, 0))) I (r0 ++ rn) tk (w.alloc (.cells xs.toArray e (0, 0))) I (r0 ++ (rn ++ [w.heap.size])) tk := by
    refine ⟨fun _ _ h => ⟨h, rfl⟩, fun b n hb => ?_, fun _ T h => ⟨T, h, rfl, .inl rfl⟩⟩
    rw [← List.append_assoc, List.getElem?_append_left]
    · exact hb
    · rcases Nat.lt_or_ge b (r0 ++ rn).length with g | g
      · exact g
      · rw [List.getElem?_eq_none g] at hb; cases hb
  refine ⟨⟨⟨?_, fun b B n hb hn => ?_, fun n hn => ?_, ?_, fun b o hio => ?_⟩, hi.toks, fun T hT => ?_, hi.tokd, hi.tki, hi.keeps, fun n hn => ?_, hi.i0, hi.i1⟩, he.trans he2⟩
  · have := h.heap.len; simp at this ⊢; omega
  · have hlen := h.heap.len
    rw [← List.append_assoc] at hn
    by_cases hlt : b < hp.H.length
    · rw [List.getElem?_append_left hlt] at hb
      rw [List.getElem?_append_left (by omega)] at hn
      exact (hi.heap.blk b B n hb hn).evo he2
    · have hb' := hb
      rw [List.getElem?_append_right (by omega)] at hb hn
      have h0 : b - hp.H.length = 0 := by
        rcases Nat.eq_zero_or_pos (b - hp.H.length) with g | g
        · exact g
        · rw [List.getElem?_eq_none (by simp; omega)] at hb; cases hb
      rw [h0] at hb
      rw [← hlen, h0] at hn
      simp at hb hn
      subst hb; subst hn
      exact ⟨xs, e, heap_alloc_new w _, RelL.evo cs (he.trans he2) hr, h1⟩
  · rw [← List.append_assoc, List.mem_append] at hn
    rcases hn with hn | hn
    · exact hi.heap.lt n hn
    · simp at hn; subst hn; simp
  · rw [← List.append_assoc, List.nodup_append]
    refine ⟨h.heap.nodup, by simp, fun a ha b hb => ?_⟩
    simp at hb; subst hb
    intro e'; subst e'; exact hne ha
  · refine ⟨(hi.heap.imm b o hio).1, ?_⟩
    have h3 := h.heap.imm b o hio
    rw [← List.append_assoc, List.mem_append]
    intro hm
    rcases hm with hm | hm
    · exact h3.2 hm
    · simp at hm; omega
  · obtain ⟨ys, e', g1, g2, g3, g4, g5⟩ := hi.tok T hT
    refine ⟨ys, e', g1, g2, g3, ?_, g5⟩
    rw [← List.append_assoc, List.mem_append]
    intro hm
    rcases hm with hm | hm
    · exact g4 hm
    · simp at hm
      obtain ⟨zs, e'', k1, _⟩ := h.tok T hT
      rw [hm, Array.getElem?_eq_none (Nat.le_refl _)] at k1; cases k1
  · rw [List.mem_append] at hn
    rcases hn with hn | hn
    · exact h.new n hn
    · simp at hn; subst hn; exact h.keeps.size

/-- An abstract block gets other cells. -/
theorem Inv.write {w0 r0 I0 hp rn tk I w w'} (h : Inv w0 r0 I0 hp rn tk I w) (b n : Nat) (hb : b < hp.H.length) (hn : (r0 ++ rn)[b]? = some n)
    (cs : List D) (xs : List Value) (e : TypeId) (hw : w'.heap[n]? = some (.cells xs.toArray e (0, 0))) (ho : ∀ m, m ≠ n → w'.heap[m]? = w.heap[m]?)
    (hs : w'.heap.size = w.heap.size) (hos : w'.os = w.os) (htp : w'.tape = w.tape) (hout : w'.output = w.output)
    (hr : RelL w I cs (r0 ++ rn) tk xs) (h1 : ∀ y ∈ xs, oneC y) :
    Inv w0 r0 I0 { hp with H := hp.H.set b (.cells cs) } rn tk I w' ∧ Evo w I (r0 ++ rn) tk w' I (r0 ++ rn) tk := by
  have hmem : n ∈ r0 ++ rn := List.mem_of_getElem? hn
  have he : Evo w I (r0 ++ rn) tk w' I (r0 ++ rn) tk := by
    refine ⟨fun b' o' hi => ⟨hi, cell_of_heap (ho b' fun e' => ?_)⟩, fun _ _ h => h, fun _ T h => ⟨T, h, rfl, .inl rfl⟩⟩
    subst e'; exact (h.heap.imm _ o' hi).2 hmem
  refine ⟨⟨⟨by simp [h.heap.len], fun b' B n' hb' hn' => ?_, fun m hm => by rw [hs]; exact h.heap.lt m hm, h.heap.nodup, fun b' o' hi => by rw [hs]; exact h.heap.imm b' o' hi⟩, h.toks, fun T hT => ?_, h.tokd, h.tki, ⟨hos.trans h.keeps.os, htp.trans h.keeps.tape, hout.trans h.keeps.output, by have := h.keeps.size; omega, fun m hm hnr => ?_⟩, h.new, h.i0, h.i1⟩, he⟩
  · rw [List.getElem?_set] at hb'
    by_cases hbb : b = b'
    · subst hbb
      simp [hb] at hb'
      subst hb'
      rw [hn] at hn'; cases hn'
      exact ⟨xs, e, hw, RelL.evo cs he hr, h1⟩
    · rw [if_neg hbb] at hb'
      have hne : n' ≠ n := by
        intro e'; subst e'
        exact hbb (nodup_inj h.heap.nodup hn hn')
      rw [ho n' hne]
      exact (h.heap.blk b' B n' hb' hn').evo he
  · obtain ⟨ys, e', g1, g2, g3, g4, g5⟩ := h.tok T hT
    refine ⟨ys, e', ?_, g2, g3, g4, g5⟩
    rw [ho _ (fun e'' => by rw [e''] at g4; exact g4 hmem)]; exact g1
  · rw [ho m ?_]
    · exact h.keeps.block m hm hnr
    · intro e''; subst e''
      rcases List.mem_append.1 hmem with g | g
      · exact hnr g
      · have := h.new _ g; omega

end GoV
