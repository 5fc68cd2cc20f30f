/- The engine, part q: programs whose tables are known; contracts that were proved elsewhere. Own work; no program in sight. -/
import Derived.Test.YtapoplenfgjcjaaDoorEr
import Derived.Lib.LaidTab
import Derived.Sort.Grow
import Derived.Deep.Draws
set_option linter.unusedSimpArgs false
namespace GoV
open Go Go.RowKit

/-- The program, and the cells of some of its variables. -/
def tabMod (P : Program) (gs : List (Nat × Array Value)) : Mod where
  P := P
  amb := fun w r => ∀ p ∈ gs, p.1 ∉ r ∧ ∃ e fr, w.heap[p.1]? = some (.cells p.2 e fr)
  up := by
    intro w r w' r' h k hr p hp
    obtain ⟨h1, e, fr, h2⟩ := h p hp
    have hlt : p.1 < w.heap.size := by
      rcases Nat.lt_or_ge p.1 w.heap.size with g | g
      · exact g
      · rw [Array.getElem?_eq_none g] at h2; cases h2
    refine ⟨fun hm => ?_, e, fr, ?_⟩
    · rcases hr _ hm with g | g
      · exact h1 g
      · omega
    · rw [k.block _ hlt h1]; exact h2

theorem tabIs_of {P : Program} {gs : List (Nat × Array Value)} {w : World} {r : List Nat} {name : String} {g : Nat} {k : IntKind} {zs : List Int}
    (h : (tabMod P gs).amb w r) (hg : P.globalNamed name = some g) (hm : (g, (zs.map fun z => Value.int k z).toArray) ∈ gs) : Lib.TabIs P w name k zs := by
  obtain ⟨_, e, fr, h2⟩ := h _ hm
  unfold Lib.TabIs World.var?
  rw [hg]
  simp [h2]

theorem amb_of_tab {P : Program} {w : World} {name : String} {g : Nat} {k : IntKind} {zs : List Int} (hg : P.globalNamed name = some g) (h : Lib.TabIs P w name k zs) :
    ∃ e fr, w.heap[g]? = some (.cells (zs.map fun z => Value.int k z).toArray e fr) := by
  unfold Lib.TabIs World.var? at h
  rw [hg] at h
  simp only [Option.bind_some] at h
  split at h
  · rename_i cs e fr hh; simp at h; subst h; exact ⟨e, fr, hh⟩
  · cases h

/-- A CONTRACT THAT WAS PROVED ELSEWHERE: arguments and result without memory. -/
theorem pur_ext {M : Mod} {f : FuncId} {args : List D} {d : D} {vs : List Value} {v : Value} (hc : Callable M f) (ha : ∀ w I xs, RelL w I args [] [] xs → xs = vs) (hd : ∀ w I, Rel w I d [] [] v)
    (h : ∀ w, M.amb w [] → Calls M.P f vs.toArray w fun e w' => e = .returned v ∧ Below w.heap.size w w') : Pur M f args d := by
  refine ⟨hc, fun w I r xs hA hH hargs => ?_⟩
  have hr0 : r = [] := List.eq_nil_of_length_eq_zero hH.len.symm
  subst hr0
  rw [ha w I xs hargs]
  refine (h w hA).mono fun e w' hp => ?_
  obtain ⟨rfl, hb⟩ := hp
  exact ⟨v, d, [], [], I, rfl, ⟨rfl, rfl⟩, hd w' I, ⟨rfl, by simp, by simp, by simp, fun b o hi => ⟨Nat.lt_of_lt_of_le (hH.imm b o hi).1 hb.size, by simp⟩⟩,
    ⟨hb.os, hb.tape, hb.output, hb.size, fun b hb' _ => hb.block b hb'⟩, by simp, fun _ _ h => h, fun _ _ h => .inl h⟩

/-- A contract, given back to the walk's world. -/
theorem calls_of_pur {M : Mod} {f : FuncId} {args : List D} {d : D} (h : Pur M f args d) {w : World} (hA : M.amb w []) {xs : List Value} (hargs : RelL w (fun b _ => b < w.heap.size) args [] [] xs) :
    Calls M.P f xs.toArray w fun e w' => ∃ v I', e = .returned v ∧ Rel w' I' d [] [] v ∧ Below w.heap.size w w' := by
  refine (h.2 w (fun b _ => b < w.heap.size) [] xs hA ⟨rfl, by simp, by simp, by simp, fun b o hb => ⟨hb, by simp⟩⟩ hargs).mono fun e w' hp => ?_
  obtain ⟨v, d', H', r', I', rfl, ⟨rfl, rfl⟩, g3, g4, g5, _⟩ := hp
  have hr' : r' = [] := List.eq_nil_of_length_eq_zero (by simpa using g4.len.symm)
  subst hr'
  exact ⟨v, I', rfl, g3, g5.os, g5.tape, g5.output, g5.size, fun k hk => g5.block k hk (by simp)⟩

open Go.Sort in
theorem below_grow {w : World} (k : Nat) (os : Array Obj) : Below w.heap.size w (grow (w.drewN k) os) :=
  ⟨rfl, rfl, rfl, by simp [grow, World.drewN], fun j hj => by
    show (w.heap ++ os)[j]? = w.heap[j]?
    rw [Array.getElem?_append_left hj]⟩
end GoV
