/- The engine, part q: programs whose tables are known; contracts that were proved elsewhere. Own work; no program in sight. -/
import Derived.Test.YtiodnobmnfjdlaaDoorEr
import Derived.Lib.LaidTab
import Derived.Sort.Grow
import Derived.Deep.Draws
set_option linter.unusedSimpArgs false
namespace GoV
open Go Go.RowKit

/-- The program, and the cells of some of its variables. -/
def tabMod (P : Program) (gs : List (Nat × Array Value)) : Mod where
  P := P
  amb := fun w r => ∀ p ∈ gs, p.1 ∉ r ∧ ∃ e fr, w.heap[p.1]? = some (.cells p.2 e fr)
  up := by
    intro w r w' r' h k hr p hp
    obtain ⟨h1, e, fr, h2⟩ := h p hp
    have hlt : p.1 < w.heap.size := by
      rcases Nat.lt_or_ge p.1 w.heap.size with g | g
      · exact g
      · rw [Array.getElem?_eq_none g] at h2; cases h2
    refine ⟨fun hm => ?_, e, fr, ?_⟩
    · rcases hr _ hm with g | g
      · exact h1 g
      · omega
    · rw [k.block _ hlt h1]; exact h2

theorem tabIs_of {P : Program} {gs : List (Nat × Array Value)} {w : World} {r : List Nat} {name : String} {g : Nat} {k : IntKind} {zs : List Int}
    (h : (tabMod P gs).amb w r) (hg : P.globalNamed name = some g) (hm : (g, (zs.map fun z => Value.int k z).toArray) ∈ gs) : Lib.TabIs P w name k zs := by
  obtain ⟨_, e, fr, h2⟩ := h _ hm
  unfold Lib.TabIs World.var?
  rw [hg]
  simp [h2]

theorem amb_of_tab {P : Program} {w : World} {name : String} {g : Nat} {k : IntKind} {zs : List Int} (hg : P.globalNamed name = some g) (h : Lib.TabIs P w name k zs) :
    ∃ e fr, w.heap[g]? = some (.cells (zs.map fun z => Value.int k z).toArray e fr) := by
  unfold Lib.TabIs World.var? at h
  rw [hg] at h
  simp only [Option.bind_some] at h
  split at h
  · rename_i cs e fr hh; simp at h; subst h; exact ⟨e, fr, hh⟩
  · cases h

/-- The program, and what is known of the cells of some of its variables. -/
def varMod (P : Program) (gs : List (Nat × (Array Value → Prop))) : Mod where
  P := P
  amb := fun w r => ∀ p ∈ gs, p.1 ∉ r ∧ ∃ cs e fr, p.2 cs ∧ w.heap[p.1]? = some (.cells cs e fr)
  up := by
    intro w r w' r' h k hr p hp
    obtain ⟨h1, cs, e, fr, h3, h2⟩ := h p hp
    have hlt : p.1 < w.heap.size := by
      rcases Nat.lt_or_ge p.1 w.heap.size with g | g
      · exact g
      · rw [Array.getElem?_eq_none g] at h2; cases h2
    refine ⟨fun hm => ?_, cs, e, fr, h3, ?_⟩
    · rcases hr _ hm with g | g
      · exact h1 g
      · omega
    · rw [k.block _ hlt h1]; exact h2

/-- A variable's cells. -/
theorem var_of {P : Program} {gs : List (Nat × (Array Value → Prop))} {w : World} {r : List Nat} (h : (varMod P gs).amb w r) {g : Nat} {p : Array Value → Prop} (hm : (g, p) ∈ gs) : ∃ cs e fr, p cs ∧ w.heap[g]? = some (.cells cs e fr) :=
  (h _ hm).2

/-- The first cell of a variable. -/
theorem cell_of_var {P : Program} {gs : List (Nat × (Array Value → Prop))} {w : World} {r : List Nat} (h : (varMod P gs).amb w r) {g : Nat} {p : Value → Prop} (hm : (g, fun cs => ∃ v, p v ∧ cs = #[v]) ∈ gs) : ∃ v, p v ∧ w.cell? ⟨g, 0, none⟩ = some v := by
  obtain ⟨cs, e, fr, ⟨v, hp, rfl⟩, h2⟩ := var_of h hm
  exact ⟨v, hp, by simp [World.cell?, h2]⟩

theorem tabIs_var {P : Program} {gs : List (Nat × (Array Value → Prop))} {w : World} {r : List Nat} {name : String} {g : Nat} {k : IntKind} {zs : List Int}
    (h : (varMod P gs).amb w r) (hg : P.globalNamed name = some g) (hm : (g, fun cs => cs = (zs.map fun z => Value.int k z).toArray) ∈ gs) : Lib.TabIs P w name k zs := by
  obtain ⟨cs, e, fr, h3, h2⟩ := var_of h hm
  subst h3
  unfold Lib.TabIs World.var?
  rw [hg]
  simp [h2]

theorem gh_nil {w : World} {g : Gh} (h : HeapRel w g ⟨[], []⟩) : g = ⟨[], [], g.I⟩ := by
  have a1 := h.len
  have a2 := h.lent
  obtain ⟨r, tk, I⟩ := g
  have b1 : r = [] := List.eq_nil_of_length_eq_zero a1.symm
  have b2 : tk = [] := List.eq_nil_of_length_eq_zero a2.symm
  subst b1; subst b2; rfl

theorem heap_nil {w : World} {I : Nat → Nat → Prop} (hI : ∀ b o, I b o → b < w.heap.size) : HeapRel w ⟨[], [], I⟩ ⟨[], []⟩ :=
  ⟨rfl, by simp, by simp, by simp, rfl, by simp, by simp, by simp [blks], fun b o h => ⟨hI b o h, by simp⟩⟩

/-- Behind a call that changes nothing that was there: more cells may never change from now on. -/
theorem inv_below {w w' : World} {I I' : Nat → Nat → Prop} (h : HeapRel w ⟨[], [], I⟩ ⟨[], []⟩) (hb : Below w.heap.size w w') (h1 : ∀ b o, I b o → I' b o) (h2 : ∀ b o, I' b o → I b o ∨ (w.heap.size ≤ b ∧ b < w'.heap.size)) :
    Inv w ⟨[], [], I⟩ ⟨[], []⟩ w' ⟨[], [], I'⟩ := by
  refine ⟨heap_nil fun b o ho => ?_, ⟨fun b o ho => ⟨h1 b o ho, cell_of_heap (hb.block b (h.imm b o ho).1)⟩, by simp, by simp⟩, ⟨hb.os, hb.tape, hb.output, hb.size, fun b hb' _ => hb.block b hb'⟩, by simp, by simp [blks], fun b o ho => ?_⟩
  · rcases h2 b o ho with q | q
    · exact Nat.lt_of_lt_of_le (h.imm b o q).1 hb.size
    · exact q.2
  · rcases h2 b o ho with q | q
    · exact .inl q
    · exact .inr (.inl q.1)

/-- A CONTRACT THAT WAS PROVED ELSEWHERE: arguments without memory; the result may have new memory, which never changes from now on. -/
theorem pur_extM {M : Mod} {f : FuncId} {args : List D} {d : D} {vs : List Value} (hc : Callable M f) (ha : ∀ w g xs, RelL w g args xs → xs = vs)
    (h : ∀ w, M.amb w [] → Calls M.P f vs.toArray w fun e w' => ∃ v, e = .returned v ∧ Below w.heap.size w w' ∧
      ∀ I : Nat → Nat → Prop, ∃ I' : Nat → Nat → Prop, (∀ b o, I b o → I' b o) ∧ (∀ b o, I' b o → I b o ∨ (w.heap.size ≤ b ∧ b < w'.heap.size)) ∧ Rel w' ⟨[], [], I'⟩ d v) : Pur M f args d := by
  refine ⟨hc, fun w g xs hA hH hargs => ?_⟩
  have hg := gh_nil hH
  rw [hg] at hA hH ⊢
  rw [ha w _ xs hargs]
  refine (h w (by simpa [Gh.own, blks] using hA)).mono fun e w' hp => ?_
  obtain ⟨v, rfl, hb, hI⟩ := hp
  obtain ⟨I', h1, h2, h3⟩ := hI g.I
  exact ⟨v, d, ⟨[], []⟩, _, rfl, ⟨rfl, rfl⟩, inv_below hH hb h1 h2, h3⟩

/-- A CONTRACT THAT WAS PROVED ELSEWHERE: arguments and result without memory. -/
theorem pur_ext {M : Mod} {f : FuncId} {args : List D} {d : D} {vs : List Value} {v : Value} (hc : Callable M f) (ha : ∀ w g xs, RelL w g args xs → xs = vs) (hd : ∀ w g, Rel w g d v)
    (h : ∀ w, M.amb w [] → Calls M.P f vs.toArray w fun e w' => e = .returned v ∧ Below w.heap.size w w') : Pur M f args d := by
  refine pur_extM hc ha fun w hA => (h w hA).mono fun e w' hp => ?_
  obtain ⟨rfl, hb⟩ := hp
  exact ⟨v, rfl, hb, fun I => ⟨I, fun _ _ h => h, fun _ _ h => .inl h, hd _ _⟩⟩

/-- A contract, given back to the walk's world. -/
theorem calls_of_pur {M : Mod} {f : FuncId} {args : List D} {d : D} (h : Pur M f args d) {w : World} (hA : M.amb w []) {xs : List Value} (hargs : RelL w ⟨[], [], fun b _ => b < w.heap.size⟩ args xs) :
    Calls M.P f xs.toArray w fun e w' => ∃ v g', e = .returned v ∧ Rel w' g' d v ∧ Below w.heap.size w w' := by
  refine (h.2 w ⟨[], [], fun b _ => b < w.heap.size⟩ xs (by simpa [Gh.own, blks] using hA) (heap_nil fun b o hb => hb) hargs).mono fun e w' hp => ?_
  obtain ⟨v, d', hp', g', rfl, ⟨rfl, rfl⟩, g3, g4⟩ := hp
  exact ⟨v, g', rfl, g4, g3.keeps.os, g3.keeps.tape, g3.keeps.output, g3.keeps.size, fun k hk => g3.keeps.block k hk (by simp [Gh.own, blks])⟩

open Go.Sort in
theorem below_grow {w : World} (k : Nat) (os : Array Obj) : Below w.heap.size w (grow (w.drewN k) os) :=
  ⟨rfl, rfl, rfl, by simp [grow, World.drewN], fun j hj => by
    show (w.heap ++ os)[j]? = w.heap[j]?
    rw [Array.getElem?_append_left hj]⟩
end GoV
