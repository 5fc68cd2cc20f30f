/- What the library's functions that the day calls compute: Split, Atoi. Own work. -/
import Derived.Test.YtapoplenfgjcjaaDoorDt
import Derived.Test.YtapoplenfgjcjaaDoorFb
import Derived.Lib.SplitLaws
import Derived.Lib.AtoiAllCases
import Derived.Lib.AtoiTie
import Derived.Lib.AtoiErrMem
set_option maxRecDepth 100000
set_option linter.unusedSimpArgs false
set_option linter.unusedVariables false
namespace Go.Proofs.YtapoplenfgjcjaaDoor
open Go GoV Go.RowKit

/-- A text cut at the hyphens. -/
def spt (s : List UInt8) : List (List UInt8) := Lib.splitK [45] 0 (Lib.count s [45]) s

theorem split_p (s : List UInt8) (hs : s.length ≤ 1000) : Pur M 30 [.str s, .str [45]] (.slice ((spt s).map D.str) .no) := by
  have hsz : (⟨s.toArray⟩ : ByteArray).size = s.length := by simp [ByteArray.size]
  refine pur_extM (vs := [.string ⟨s.toArray⟩, .string ⟨#[45]⟩]) ⟨Tryd.f30, Tryd.func30, rfl, rfl⟩ (fun w g xs h => ?_) (fun w hA => ?_)
  · obtain ⟨x, xs', rfl, g1, g2⟩ := h.inv
    obtain ⟨y, ys', rfl, g3, g4⟩ := g2.inv
    simp only [Rel] at g1 g3
    rw [g4.inv_nil, g1, g3]
  · obtain ⟨v, ⟨m, rfl⟩, hm⟩ := cell_of_var (g := 3) (p := fun v => ∃ m, v = .int .i64 m) hA (List.mem_cons.2 (.inr (List.mem_cons.2 (.inl rfl))))
    refine (Tryd.strings_Split ⟨s.toArray⟩ ⟨#[45]⟩ m w (by rw [hsz]; omega) hm (by decide)).mono fun e w' hh => ?_
    obtain ⟨rfl, rfl⟩ := hh
    have hlen := Lib.splitB_all (⟨#[45]⟩ : ByteArray) (by decide) 0 _ ⟨s.toArray⟩ rfl
    obtain ⟨a1, a2⟩ := alloc_strs w 9 (Lib.splitB ⟨#[45]⟩ 0 (Lib.countB ⟨s.toArray⟩ ⟨#[45]⟩) ⟨s.toArray⟩)
    refine ⟨_, rfl, a1, fun I => ?_⟩
    obtain ⟨I', h1, h2, h3⟩ := a2 I
    refine ⟨I', h1, h2, ?_⟩
    have e2 := Lib.splitB_data ⟨#[45]⟩ 0 (Lib.countB ⟨s.toArray⟩ ⟨#[45]⟩) ⟨s.toArray⟩
    have e3 : (spt s).map D.str = (Lib.splitB ⟨#[45]⟩ 0 (Lib.countB ⟨s.toArray⟩ ⟨#[45]⟩) ⟨s.toArray⟩).map fun s => D.str s.data.toList := by
      have : spt s = Lib.splitK [45] 0 (Lib.countB ⟨s.toArray⟩ ⟨#[45]⟩) s := rfl
      rw [this, ← e2, List.map_map]; rfl
    rw [e3]
    rw [hlen] at h3
    exact h3

/-- What Atoi returns beside its error. -/
def atv (s : List UInt8) : Int := match Lib.atoiAll s with
  | .ok v => v
  | .syntax => 0
  | .range => Lib.atoiSat s

theorem atoi_p (s : List UInt8) (hs : s.length ≤ 1000) : Pur M 31 [.str s] (.tup [.int .i64 (atv s), .undef]) := by
  have hsz : (⟨s.toArray⟩ : ByteArray).size = s.length := by simp [ByteArray.size]
  refine pur_extM (vs := [.string ⟨s.toArray⟩]) ⟨Tryd.f31, Tryd.func31, rfl, rfl⟩ (fun w g xs h => ?_) (fun w hA => ?_)
  · obtain ⟨x, xs', rfl, g1, g2⟩ := h.inv
    simp only [Rel] at g1
    rw [g2.inv_nil, g1]
  · have same : ∀ {w' : World}, Below w.heap.size w w' → ∀ y : Value, Below w.heap.size w w' ∧ ∀ I : Nat → Nat → Prop, ∃ I' : Nat → Nat → Prop, (∀ b o, I b o → I' b o) ∧ (∀ b o, I' b o → I b o ∨ (w.heap.size ≤ b ∧ b < w'.heap.size)) ∧ Rel w' ⟨[], [], I'⟩ (.tup [.int .i64 (atv s), .undef]) (.tuple #[.int .i64 (atv s), y]) := by
      intro w' hb y
      refine ⟨hb, fun I => ⟨I, fun _ _ h => h, fun _ _ h => .inl h, ?_⟩⟩
      simp only [Rel]
      exact ⟨_, rfl, RelL.cons (by simp [Rel]) (RelL.one (by simp [Rel]))⟩
    cases hc : Lib.atoiAll s with
    | ok v =>
      have e : atv s = v := by unfold atv; rw [hc]
      rw [e] at same ⊢
      refine (Tryd.strconv_Atoi_ok ⟨s.toArray⟩ (by rw [hsz]; omega) v hc w).mono fun e w' hh => ?_
      obtain ⟨rfl, hw⟩ := hh
      have hb : Below w.heap.size w w' := by
        rcases hw with rfl | ⟨t, rfl⟩
        · exact Below.refl _ _
        · exact Lib.bytesWorld_below w 5 t
      exact ⟨_, rfl, same hb _⟩
    | «syntax» =>
      have e : atv s = 0 := by unfold atv; rw [hc]
      rw [e] at same ⊢
      obtain ⟨v, hv, hm⟩ := cell_of_var (g := 0) (p := fun v => v = .nilIface ∨ ∃ te pe, v = .iface te pe) hA (List.mem_cons.2 (.inr (List.mem_cons.2 (.inr (List.mem_cons.2 (.inl rfl))))))
      refine (Tryd.strconv_Atoi_syntax ⟨s.toArray⟩ (by rw [hsz]; omega) hc v w hm hv).mono fun e w' hh => ?_
      obtain ⟨N, rfl, _, _, hb⟩ := hh
      exact ⟨_, rfl, same hb _⟩
    | range =>
      have e : atv s = Lib.atoiSat s := by unfold atv; rw [hc]
      rw [e] at same ⊢
      obtain ⟨v, hv, hm⟩ := cell_of_var (g := 1) (p := fun v => v = .nilIface ∨ ∃ te pe, v = .iface te pe) hA (List.mem_cons.2 (.inr (List.mem_cons.2 (.inr (List.mem_cons.2 (.inr (List.mem_cons.2 (.inl rfl))))))))
      refine (Tryd.strconv_Atoi_range ⟨s.toArray⟩ (by rw [hsz]; omega) hc v w hm hv).mono fun e w' hh => ?_
      obtain ⟨N, rfl, _, _, hb⟩ := hh
      exact ⟨_, rfl, same hb _⟩

/-! ### Cutting and reading, in plain Lean -/

theorem index_no : ∀ {a : List UInt8}, 45 ∉ a → Lib.index a [45] = -1
  | [], _ => rfl
  | b :: a, h => by
    have hb : (45 : UInt8) ≠ b := fun e => h (by simp [e])
    have ih := index_no (a := a) fun q => h (by simp [q])
    simp [Lib.index, List.isPrefixOf, hb, ih]

theorem index_at : ∀ {a : List UInt8} {r : List UInt8}, 45 ∉ a → Lib.index (a ++ 45 :: r) [45] = (a.length : Int)
  | [], r, _ => by simp [Lib.index, List.isPrefixOf]
  | b :: a, r, h => by
    have hb : (45 : UInt8) ≠ b := fun e => h (by simp [e])
    have ih := index_at (a := a) (r := r) fun q => h (by simp [q])
    simp only [List.cons_append, Lib.index, List.isPrefixOf, ih]
    have e1 : ((45 : UInt8) == b) = false := by simpa using hb
    have e2 : ((a.length : Int) == -1) = false := by
      rw [beq_eq_false_iff_ne]; omega
    rw [e1, e2]
    simp

theorem spt_last {a : List UInt8} (h : 45 ∉ a) : spt a = [a] := by
  unfold spt
  rw [Lib.count_miss (index_no h)]; rfl

theorem spt_cons {a r : List UInt8} (h : 45 ∉ a) : spt (a ++ 45 :: r) = a :: spt r := by
  unfold spt
  have hi := index_at (r := r) h
  have hd : (a ++ 45 :: r).drop (a.length + 1) = r := by
    rw [← List.drop_drop, List.drop_left]; rfl
  have hc : Lib.count (a ++ 45 :: r) [45] = 1 + Lib.count r [45] := by
    have := Lib.count_hit (s := a ++ 45 :: r) (sub := [45]) (by simp) hi
    simpa [hd] using this
  rw [hc, Nat.add_comm 1, Lib.splitK, hi]
  have hne : ((a.length : Int) == -1) = false := by
    rw [beq_eq_false_iff_ne]; omega
  rw [hne]
  simp only [Bool.false_eq_true, if_false, Int.toNat_natCast, Nat.add_zero, List.length_cons, List.length_nil, Nat.zero_add, hd]
  rw [List.take_left]
end Go.Proofs.YtapoplenfgjcjaaDoor
