/- The engine, part fa: arguments of plain types (integers, booleans, texts, structs, slices) as data values. Own work; no program in sight. -/
import Derived.Test.YtiodnobmnfjdlaaDoorEt
import Derived.Deep.Slices
import Derived.OpenShut
import Derived.Carry
namespace GoV
open Go Go.RowKit Go.ChangeShapes Go.Deep

/-- What stands at a call's beginning: no block of our own; nothing below the heap's end changes. -/
abbrev G0 (w : World) : Gh := ⟨[], [], fun b _ => b < w.heap.size⟩

/-- The cells of a type read as data. -/
def Opens (P : Program) (w : World) (n : Nat) (t : TypeId) {α : Type} (f : α → List D) (ok : α → Prop) : Prop :=
  ∀ (H : Type) (enc : TypeId × Value → H) (cs : List Value) (x : DataW H × List MemPlace), DataW.trod enc P w 0 (fun _ => true) true n t cs = some x →
    ∃ a, ok a ∧ RelL w (G0 w) (f a) cs ∧ ∀ y ∈ cs, oneC y

/-- One cell as it is; more of them as a whole. -/
def pk (ds : List D) : D := match ds with | [d] => d | ds => .agg ds

section
variable {P : Program} {w : World} {n : Nat} {t e : TypeId}

theorem Opens.imp {α β : Type} {f : α → List D} {ok : α → Prop} {f' : β → List D} {ok' : β → Prop} (h : Opens P w n t f ok) (c : α → β) (h1 : ∀ a, ok a → f' (c a) = f a) (h2 : ∀ a, ok a → ok' (c a)) : Opens P w n t f' ok' := by
  intro H enc cs x hx
  obtain ⟨a, k1, k2, k3⟩ := h H enc cs x hx
  exact ⟨c a, h2 a k1, by rw [h1 a k1]; exact k2, k3⟩

theorem opens_int {k : IntKind} (ht : P.underlying t = some (.int k)) : Opens P w n t (fun z : Int => [.int k z]) (fun z => (Lit.int k z).wf = true) := by
  intro H enc cs x hx
  obtain ⟨z, rfl, _, hw⟩ := DataW.trod_int ht hx
  exact ⟨z, hw, RelL.one (by simp [Rel]), by simp [oneC, Value.oneCell']⟩

theorem opens_i64 (ht : P.underlying t = some (.int .i64)) : Opens P w n t (fun z : Int => [.int .i64 z]) (fun z => -9223372036854775808 ≤ z ∧ z ≤ 9223372036854775807) :=
  (opens_int ht).imp id (fun _ _ => rfl) (fun _ h => int_bounds h)

theorem opens_bool (ht : P.underlying t = some .bool) : Opens P w n t (fun b : Bool => [.bool b]) (fun _ => True) := by
  intro H enc cs x hx
  obtain ⟨z, rfl, _⟩ := DataW.trod_bool ht hx
  exact ⟨z, trivial, RelL.one (by simp [Rel]), by simp [oneC, Value.oneCell']⟩

theorem opens_str (ht : P.underlying t = some .string) : Opens P w n t (fun s : List UInt8 => [.str s]) (fun s => s.length ≤ 9223372036854775807) := by
  intro H enc cs x hx
  obtain ⟨s, rfl, _, hl⟩ := DataW.trod_string ht hx
  refine ⟨s.data.toList, ?_, RelL.one (by simp [Rel]), by simp [oneC, Value.oneCell']⟩
  have : s.data.toList.length = s.size := by rw [Array.length_toList]; rfl
  show s.data.toList.length ≤ _
  rw [this]
  exact Nat.le_trans hl (by decide)

theorem rel_pk {ds : List D} {cs : List Value} (h : RelL w (G0 w) ds cs) (ho : ∀ y ∈ cs, oneC y) : ∃ v, Rel w (G0 w) (pk ds) v ∧ v.cells.toList = cs := by
  unfold pk
  split
  · rename_i d
    obtain ⟨y, ys, rfl, h1, h2⟩ := h.inv
    rw [h2.inv_nil] at ho ⊢
    exact ⟨y, h1, by rw [cells_one (ho y (by simp))]⟩
  · exact ⟨.agg cs.toArray, by simp only [Rel]; exact ⟨cs, rfl, h, ho⟩, by simp [Value.cells]⟩

theorem list_choose {α : Type} {q : Nat → α → Prop} : ∀ n, (∀ i, i < n → ∃ a, q i a) → ∃ l : List α, l.length = n ∧ ∀ i (h : i < l.length), q i l[i]
  | 0, _ => ⟨[], rfl, by simp⟩
  | n + 1, h => by
    obtain ⟨l, h1, h2⟩ := list_choose n fun i hi => h i (by omega)
    obtain ⟨a, ha⟩ := h n (by omega)
    refine ⟨l ++ [a], by simp [h1], fun i hi => ?_⟩
    by_cases e : i < l.length
    · rw [List.getElem_append_left e]; exact h2 i e
    · have : i = l.length := by simp at hi; omega
      subst this
      simp; rw [h1]; exact ha

theorem flat_get {k : Nat} (hk : 0 < k) : ∀ {xs : List Value}, (∀ y ∈ xs, y.cells.size = k) → ∀ {j : Nat} {y : Value}, (flat xs)[j]? = some y → ∃ x, xs[j / k]? = some x ∧ x.cells.toList[j % k]? = some y
  | [], _, j, y, h => by simp [flat] at h
  | x :: xs, hs, j, y, h => by
    have hx : x.cells.toList.length = k := by simpa using hs x (by simp)
    simp only [flat] at h
    by_cases e : j < k
    · rw [List.getElem?_append_left (by omega)] at h
      exact ⟨x, by simp [Nat.div_eq_of_lt e], by rw [Nat.mod_eq_of_lt e]; exact h⟩
    · rw [List.getElem?_append_right (by omega), hx] at h
      obtain ⟨x', h1, h2⟩ := flat_get hk (fun y hy => hs y (by simp [hy])) h
      refine ⟨x', ?_, by rwa [Nat.mod_eq_sub_mod (by omega)]⟩
      rw [Nat.div_eq_sub_div hk (by omega)]
      simpa using h1

/-- A slice whose elements are plain. -/
theorem opens_slice {α : Type} {f : α → List D} {ok : α → Prop} (ht : P.underlying t = some (.slice e)) (hc : 0 < P.cellsOf e) (h : Opens P w n e f ok) :
    Opens P w (n + 1) t (fun l : List α => [.slice (l.map fun a => pk (f a)) .no]) (fun l => l.length ≤ 9223372036854775807 ∧ ∀ a ∈ l, ok a) := by
  intro H enc cs x hx
  rcases DataW.trod_slice ht hx with ⟨rfl, _⟩ | ⟨a, len, cap, elems, rest, n', hn, rfl, _, _, hlc, hm, hlen, hel, _⟩
  · refine ⟨[], by simp, RelL.one ?_, by simp [oneC, Value.oneCell']⟩
    simp only [Rel]
    exact ⟨⟨0, 0, none⟩, 0, 0, [], .inr ⟨by simp, by simp, rfl⟩, by simp, RelL.nil, by simp, At.nil, trivial⟩
  obtain rfl : n = n' := by omega
  have one : ∀ i, i < len → ∃ av : α × Value, ok av.1 ∧ Rel w (G0 w) (pk (f av.1)) av.2 ∧ w.cells? 0 (a.add (i * P.cellsOf e)) (P.cellsOf e) = some av.2.cells.toList ∧ ∀ y ∈ av.2.cells.toList, oneC y := by
    intro i hi
    have h1 := hel i hi
    rw [List.getElem?_eq_getElem (by omega)] at h1
    obtain ⟨cs', h2, h3⟩ := Option.bind_eq_some_iff.1 h1
    obtain ⟨b, k1, k2, k3⟩ := h H enc cs' _ h3
    obtain ⟨v, k4, k5⟩ := rel_pk k2 k3
    exact ⟨⟨b, v⟩, k1, k4, by rw [k5]; exact h2, by rw [k5]; exact k3⟩
  obtain ⟨l, hl, hq⟩ := list_choose len one
  have hrel : ∀ (l : List (α × Value)), (∀ i (h : i < l.length), Rel w (G0 w) (pk (f (l[i]).1)) (l[i]).2) → RelL w (G0 w) (l.map fun av => pk (f av.1)) (l.map (·.2)) := by
    intro l
    induction l with
    | nil => intro _; exact RelL.nil
    | cons x l ih => intro hh; exact RelL.cons (hh 0 (by simp)) (ih fun i hi => hh (i + 1) (by simpa using hi))
  have hsz : ∀ y ∈ l.map (·.2), y.cells.size = P.cellsOf e := by
    intro y hy
    obtain ⟨av, hav, rfl⟩ := List.mem_map.1 hy
    obtain ⟨i, hi, rfl⟩ := List.getElem_of_mem hav
    have := (World.cells?_some (hq i hi).2.2.1).2.1
    simpa using this
  have cap_le : len ≤ 9223372036854775807 := Nat.le_trans hlc (Nat.le_trans hm (by decide))
  refine ⟨l.map (·.1), ⟨by simpa [hl] using cap_le, fun b hb => ?_⟩, RelL.one ?_, by simp [oneC, Value.oneCell']⟩
  · obtain ⟨av, hav, rfl⟩ := List.mem_map.1 hb
    obtain ⟨i, hi, rfl⟩ := List.getElem_of_mem hav
    exact (hq i hi).1
  · simp only [Rel]
    refine ⟨a, cap, P.cellsOf e, l.map (·.2), .inl (by simp [hl]), by simp [hl, hlc], ?_, hsz, ⟨fun hne => ?_, fun j y hj => ?_⟩, trivial⟩
    · have := hrel l fun i hi => (hq i hi).2.1
      rw [List.map_map]
      exact this
    · have hpos : 0 < l.length := by
        rcases Nat.eq_zero_or_pos l.length with q | q
        · exfalso; apply hne
          rw [List.length_eq_zero_iff.1 q]; rfl
        · exact q
      have hc0 := (World.cells?_some (hq 0 hpos).2.2.1).2.2 0 hc
      have hlen0 := (World.cells?_some (hq 0 hpos).2.2.1).2.1
      rw [List.getElem?_eq_getElem (by omega)] at hc0
      simp only [Nat.zero_mul] at hc0
      have ha0 : ∀ b : Addr, b.add 0 = b := fun b => by simp [Addr.add]
      rw [ha0, ha0] at hc0
      unfold World.cell? at hc0
      split at hc0
      · split at hc0
        · cases hc0
        · rename_i hs; simpa using hs
      · cases hc0
    · obtain ⟨x, h1, h2⟩ := flat_get hc hsz hj
      rw [List.getElem?_map] at h1
      obtain ⟨av, hav, rfl⟩ := Option.map_eq_some_iff.1 h1
      have hi : j / P.cellsOf e < l.length := by
        rcases Nat.lt_or_ge (j / P.cellsOf e) l.length with q | q
        · exact q
        · rw [List.getElem?_eq_none q] at hav; cases hav
      rw [List.getElem?_eq_getElem hi] at hav
      cases hav
      obtain ⟨_, _, k3, k4⟩ := hq _ hi
      have hm := Nat.mod_lt j hc
      have hcell := (World.cells?_some k3).2.2 _ hm
      rw [h2] at hcell
      have hadd : w.cell? ((a.add (j / P.cellsOf e * P.cellsOf e)).add (j % P.cellsOf e)) = w.cell? ⟨a.block, a.off + j, none⟩ := by
        rw [add_add]
        have e1 : j / P.cellsOf e * P.cellsOf e + j % P.cellsOf e = j := Nat.div_add_mod' j _
        rw [e1]
        unfold Addr.add
        split
        · rename_i hj0
          subst hj0
          rw [add_add, e1] at hcell
          have : a.add 0 = a := by simp [Addr.add]
          rw [this] at hcell
          have hsp : a.spot = none := by
            unfold World.cell? at hcell
            split at hcell
            · split at hcell
              · cases hcell
              · rename_i hs; simpa using hs
            · cases hcell
          obtain ⟨b, o, s⟩ := a
          simp at hsp; subst hsp; rfl
        · rfl
      rw [hadd] at hcell
      refine ⟨hcell, ?_, k4 y (List.mem_of_getElem? h2)⟩
      have := World.block_lt_of_cell? w _ hcell
      exact this

/-! ### Structs -/

/-- The fields from a place on. -/
def OpensF (P : Program) (w : World) (n : Nat) (fs : List Field) (off : Nat) {α : Type} (f : α → List D) (ok : α → Prop) : Prop :=
  ∀ (H : Type) (enc : TypeId × Value → H) (cs : List Value), cs.length = off + (fs.map fun f => P.cellsOf f.type).sum →
    (∀ f ∈ fs, ∃ x, DataW.trod enc P w 0 (fun _ => true) true n f.type ((cs.drop f.offset).take (P.cellsOf f.type)) = some x) →
    ∃ a, ok a ∧ RelL w (G0 w) (f a) (cs.drop off) ∧ ∀ y ∈ cs.drop off, oneC y

theorem opensF_nil {off : Nat} : OpensF P w n [] off (fun _ : Unit => []) (fun _ => True) := by
  intro H enc cs hl _
  have : cs.drop off = [] := List.drop_eq_nil_of_le (by simp at hl; omega)
  rw [this]
  exact ⟨(), trivial, RelL.nil, by simp⟩

theorem opensF_cons {α β : Type} {f : α → List D} {ok : α → Prop} {g : β → List D} {ok' : β → Prop} {fl : Field} {fs : List Field} {off c : Nat} (ho : fl.offset = off) (hc : P.cellsOf fl.type = c) (h : Opens P w n fl.type f ok) (hr : OpensF P w n fs (off + c) g ok') :
    OpensF P w n (fl :: fs) off (fun p : α × β => f p.1 ++ g p.2) (fun p => ok p.1 ∧ ok' p.2) := by
  subst ho; subst hc
  intro H enc cs hl hf
  simp only [List.map_cons, List.sum_cons] at hl
  obtain ⟨x, hx⟩ := hf fl (by simp)
  obtain ⟨a, k1, k2, k3⟩ := h H enc _ x hx
  obtain ⟨b, j1, j2, j3⟩ := hr H enc cs (by omega) (fun f hm => hf f (by simp [hm]))
  have e : cs.drop fl.offset = (cs.drop fl.offset).take (P.cellsOf fl.type) ++ cs.drop (fl.offset + P.cellsOf fl.type) := by
    rw [← List.drop_drop, List.take_append_drop]
  refine ⟨(a, b), ⟨k1, j1⟩, ?_, ?_⟩
  · rw [e]; exact k2.append j2
  · rw [e]
    intro y hy
    rcases List.mem_append.1 hy with q | q
    · exact k3 y q
    · exact j3 y q

theorem opens_struct {α : Type} {f : α → List D} {ok : α → Prop} {fs : List Field} (ht : P.underlying t = some (.struct fs.toArray)) (hc : P.cellsOf t = (fs.map fun f => P.cellsOf f.type).sum) (h : OpensF P w n fs 0 f ok) : Opens P w (n + 1) t f ok := by
  intro H enc cs x hx
  obtain ⟨xs, n', hn, _, hl, hlen, hf⟩ := DataW.trod_struct ht hx
  obtain rfl : n = n' := by omega
  have := h H enc cs (by omega) (fun f hm => by
    obtain ⟨i, hi, rfl⟩ := List.getElem_of_mem hm
    have hq := hf i fs[i] (by simp [hi])
    rw [hq]
    have : i < xs.length := by rw [hlen]; simpa using hi
    exact ⟨xs[i], List.getElem?_eq_getElem this⟩)
  simpa using this

theorem opens_zero {α : Type} {f : α → List D} {ok : α → Prop} : Opens P w 0 t f ok := by
  intro H enc cs x hx
  simp [DataW.trod] at hx

theorem opens_all {α : Type} {f : α → List D} {ok : α → Prop} (h : ∀ n, Opens P w (n + 1) t f ok) : ∀ n, Opens P w n t f ok
  | 0 => opens_zero
  | n + 1 => h n

/-! ### A whole argument -/

theorem arg_cell {α : Type} {f : α → List D} {ok : α → Prop} {H : Type} {enc : TypeId × Value → H} {v : Value} {d : DataW H} {ps : List MemPlace} {b : Nat} {desc : TypeDesc} (ht : P.underlying t = some desc) (hd : isRowT desc = false) (hval : Value.okWide P w .any b t v)
    (h : DataW.Trod enc P w 0 (fun _ => true) true t v d ps) (hO : ∀ n, Opens P w n t f ok) : ∃ a, ok a ∧ RelL w (G0 w) (f a) [v] := by
  obtain ⟨fuel, hx⟩ := h
  obtain ⟨a, k1, k2, _⟩ := hO fuel H enc _ _ hx
  refine ⟨a, k1, ?_⟩
  have hv : oneC v := by
    cases v with
    | agg cs =>
      exfalso
      unfold Value.okWide at hval
      rw [ht] at hval
      cases desc <;> simp_all [isRowT, Cell.okWide, Cell.ok]
    | tuple cs =>
      exfalso
      unfold Value.okWide at hval
      rw [ht] at hval
      cases desc <;> simp_all [isRowT, Cell.okWide, Cell.ok]
    | _ => simp [oneC, Value.oneCell']
  rw [cells_one hv] at k2
  exact k2

theorem arg_row {α : Type} {f : α → List D} {ok : α → Prop} {H : Type} {enc : TypeId × Value → H} {v : Value} {d : DataW H} {ps : List MemPlace} {b : Nat} {fs : Array Field} (ht : P.underlying t = some (.struct fs)) (hval : Value.okWide P w .any b t v)
    (h : DataW.Trod enc P w 0 (fun _ => true) true t v d ps) (hO : ∀ n, Opens P w n t f ok) : ∃ a, ok a ∧ RelL w (G0 w) [.agg (f a)] [v] := by
  obtain ⟨fuel, hx⟩ := h
  obtain ⟨a, k1, k2, k3⟩ := hO fuel H enc _ _ hx
  refine ⟨a, k1, RelL.one ?_⟩
  unfold Value.okWide at hval
  rw [ht] at hval
  obtain ⟨cs, rfl, _⟩ := hval
  simp only [Value.cells] at k2 k3
  simp only [Rel]
  exact ⟨cs.toList, by simp, k2, k3⟩

theorem relL_app {ds es : List D} {xs ys : List Value} (h : RelL w (G0 w) ds xs) (h2 : RelL w (G0 w) es ys) : RelL w (G0 w) (ds ++ es) (xs ++ ys) := h.append h2

end
end GoV
