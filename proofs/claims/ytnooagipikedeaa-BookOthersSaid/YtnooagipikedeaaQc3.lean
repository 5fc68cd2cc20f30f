/- Own texts, merged by a program: the engine that walks the code, and what the functions that the law reaches compute. -/
import Derived.Test.YtnooagipikedeaaQc2
import Derived.Deep.Slices
import Derived.OpenShut
import Derived.Carry
import Derived.Shelf.Vars
import Derived.Sort.Grow
import Derived.Laws.AppendOwn
import Derived.Test.YtnooagipikedeaaProg
import Derived.KernelRfl
import Derived.Lib.ItoaNum
section
namespace GoV
open Go Go.RowKit Go.ChangeShapes Go.Deep
abbrev G0 (w : World) : Gh := ⟨[], [], fun b _ => b < w.heap.size⟩
def Opens (P : Program) (w : World) (n : Nat) (t : TypeId) {α : Type} (f : α → List D) (ok : α → Prop) : Prop :=
  ∀ (H : Type) (enc : TypeId × Value → H) (cs : List Value) (x : DataW H × List MemPlace), DataW.trod enc P w 0 (fun _ => true) true n t cs = some x →
    ∃ a, ok a ∧ RelL w (G0 w) (f a) cs ∧ ∀ y ∈ cs, oneC y
def pk (ds : List D) : D := match ds with | [d] => d | ds => .agg ds
section
variable {P : Program} {w : World} {n : Nat} {t e : TypeId}
theorem Opens.imp {α β : Type} {f : α → List D} {ok : α → Prop} {f' : β → List D} {ok' : β → Prop} (h : Opens P w n t f ok) (c : α → β) (h1 : ∀ a, ok a → f' (c a) = f a) (h2 : ∀ a, ok a → ok' (c a)) : Opens P w n t f' ok' := by
  intro H enc cs x hx
  obtain ⟨a, k1, k2, k3⟩ := h H enc cs x hx
  exact ⟨c a, h2 a k1, by rw [h1 a k1]; exact k2, k3⟩
theorem opens_int {k : IntKind} (ht : P.underlying t = some (.int k)) : Opens P w n t (fun z : Int => [.int k z]) (fun z => (Lit.int k z).wf = true) := by
  intro H enc cs x hx
  obtain ⟨z, rfl, _, hw⟩ := DataW.trod_int ht hx
  exact ⟨z, hw, RelL.one (by simp [Rel]), by simp [oneC, Value.oneCell']⟩
theorem opens_i64 (ht : P.underlying t = some (.int .i64)) : Opens P w n t (fun z : Int => [.int .i64 z]) (fun z => -9223372036854775808 ≤ z ∧ z ≤ 9223372036854775807) :=
  (opens_int ht).imp id (fun _ _ => rfl) (fun _ h => int_bounds h)
theorem opens_bool (ht : P.underlying t = some .bool) : Opens P w n t (fun b : Bool => [.bool b]) (fun _ => True) := by
  intro H enc cs x hx
  obtain ⟨z, rfl, _⟩ := DataW.trod_bool ht hx
  exact ⟨z, trivial, RelL.one (by simp [Rel]), by simp [oneC, Value.oneCell']⟩
theorem opens_str (ht : P.underlying t = some .string) : Opens P w n t (fun s : List UInt8 => [.str s]) (fun s => s.length ≤ 9223372036854775807) := by
  intro H enc cs x hx
  obtain ⟨s, rfl, _, hl⟩ := DataW.trod_string ht hx
  refine ⟨s.data.toList, ?_, RelL.one (by simp [Rel]), by simp [oneC, Value.oneCell']⟩
  have : s.data.toList.length = s.size := by rw [Array.length_toList]; rfl
  show s.data.toList.length ≤ _
  rw [this]
  exact Nat.le_trans hl (by decide)
theorem rel_pk {ds : List D} {cs : List Value} (h : RelL w (G0 w) ds cs) (ho : ∀ y ∈ cs, oneC y) : ∃ v, Rel w (G0 w) (pk ds) v ∧ v.cells.toList = cs := by
  unfold pk
  split
  · rename_i d
    obtain ⟨y, ys, rfl, h1, h2⟩ := h.inv
    rw [h2.inv_nil] at ho ⊢
    exact ⟨y, h1, by rw [cells_one (ho y (by simp))]⟩
  · exact ⟨.agg cs.toArray, by simp only [Rel]; exact ⟨cs, rfl, h, ho⟩, by simp [Value.cells]⟩
theorem list_choose {α : Type} {q : Nat → α → Prop} : ∀ n, (∀ i, i < n → ∃ a, q i a) → ∃ l : List α, l.length = n ∧ ∀ i (h : i < l.length), q i l[i]
  | 0, _ => ⟨[], rfl, by simp⟩
  | n + 1, h => by
    obtain ⟨l, h1, h2⟩ := list_choose n fun i hi => h i (by omega)
    obtain ⟨a, ha⟩ := h n (by omega)
    refine ⟨l ++ [a], by simp [h1], fun i hi => ?_⟩
    by_cases e : i < l.length
    · rw [List.getElem_append_left e]; exact h2 i e
    · have : i = l.length := by simp at hi; omega
      subst this
      simp; rw [h1]; exact ha
theorem flat_get {k : Nat} (hk : 0 < k) : ∀ {xs : List Value}, (∀ y ∈ xs, y.cells.size = k) → ∀ {j : Nat} {y : Value}, (flat xs)[j]? = some y → ∃ x, xs[j / k]? = some x ∧ x.cells.toList[j % k]? = some y
  | [], _, j, y, h => by simp [flat] at h
  | x :: xs, hs, j, y, h => by
    have hx : x.cells.toList.length = k := by simpa using hs x (by simp)
    simp only [flat] at h
    by_cases e : j < k
    · rw [List.getElem?_append_left (by omega)] at h
      exact ⟨x, by simp [Nat.div_eq_of_lt e], by rw [Nat.mod_eq_of_lt e]; exact h⟩
    · rw [List.getElem?_append_right (by omega), hx] at h
      obtain ⟨x', h1, h2⟩ := flat_get hk (fun y hy => hs y (by simp [hy])) h
      refine ⟨x', ?_, by rwa [Nat.mod_eq_sub_mod (by omega)]⟩
      rw [Nat.div_eq_sub_div hk (by omega)]
      simpa using h1
theorem opens_slice {α : Type} {f : α → List D} {ok : α → Prop} (ht : P.underlying t = some (.slice e)) (hc : 0 < P.cellsOf e) (h : Opens P w n e f ok) :
    Opens P w (n + 1) t (fun l : List α => [.slice (l.map fun a => pk (f a)) .no]) (fun l => l.length ≤ 9223372036854775807 ∧ ∀ a ∈ l, ok a) := by
  intro H enc cs x hx
  rcases DataW.trod_slice ht hx with ⟨rfl, _⟩ | ⟨a, len, cap, elems, rest, n', hn, rfl, _, _, hlc, hm, hlen, hel, _⟩
  · refine ⟨[], by simp, RelL.one ?_, by simp [oneC, Value.oneCell']⟩
    simp only [Rel]
    exact ⟨⟨0, 0, none⟩, 0, 0, [], .inr ⟨by simp, by simp, rfl⟩, by simp, RelL.nil, by simp, At.nil, trivial⟩
  obtain rfl : n = n' := by omega
  have one : ∀ i, i < len → ∃ av : α × Value, ok av.1 ∧ Rel w (G0 w) (pk (f av.1)) av.2 ∧ w.cells? 0 (a.add (i * P.cellsOf e)) (P.cellsOf e) = some av.2.cells.toList ∧ ∀ y ∈ av.2.cells.toList, oneC y := by
    intro i hi
    have h1 := hel i hi
    rw [List.getElem?_eq_getElem (by omega)] at h1
    obtain ⟨cs', h2, h3⟩ := Option.bind_eq_some_iff.1 h1
    obtain ⟨b, k1, k2, k3⟩ := h H enc cs' _ h3
    obtain ⟨v, k4, k5⟩ := rel_pk k2 k3
    exact ⟨⟨b, v⟩, k1, k4, by rw [k5]; exact h2, by rw [k5]; exact k3⟩
  obtain ⟨l, hl, hq⟩ := list_choose len one
  have hrel : ∀ (l : List (α × Value)), (∀ i (h : i < l.length), Rel w (G0 w) (pk (f (l[i]).1)) (l[i]).2) → RelL w (G0 w) (l.map fun av => pk (f av.1)) (l.map (·.2)) := by
    intro l
    induction l with
    | nil => intro _; exact RelL.nil
    | cons x l ih => intro hh; exact RelL.cons (hh 0 (by simp)) (ih fun i hi => hh (i + 1) (by simpa using hi))
  have hsz : ∀ y ∈ l.map (·.2), y.cells.size = P.cellsOf e := by
    intro y hy
    obtain ⟨av, hav, rfl⟩ := List.mem_map.1 hy
    obtain ⟨i, hi, rfl⟩ := List.getElem_of_mem hav
    have := (World.cells?_some (hq i hi).2.2.1).2.1
    simpa using this
  have cap_le : len ≤ 9223372036854775807 := Nat.le_trans hlc (Nat.le_trans hm (by decide))
  refine ⟨l.map (·.1), ⟨by simpa [hl] using cap_le, fun b hb => ?_⟩, RelL.one ?_, by simp [oneC, Value.oneCell']⟩
  · obtain ⟨av, hav, rfl⟩ := List.mem_map.1 hb
    obtain ⟨i, hi, rfl⟩ := List.getElem_of_mem hav
    exact (hq i hi).1
  · simp only [Rel]
    refine ⟨a, cap, P.cellsOf e, l.map (·.2), .inl (by simp [hl]), by simp [hl, hlc], ?_, hsz, ⟨fun hne => ?_, fun j y hj => ?_⟩, trivial⟩
    · have := hrel l fun i hi => (hq i hi).2.1
      rw [List.map_map]
      exact this
    · have hpos : 0 < l.length := by
        rcases Nat.eq_zero_or_pos l.length with q | q
        · exfalso; apply hne
          rw [List.length_eq_zero_iff.1 q]; rfl
        · exact q
      have hc0 := (World.cells?_some (hq 0 hpos).2.2.1).2.2 0 hc
      have hlen0 := (World.cells?_some (hq 0 hpos).2.2.1).2.1
      rw [List.getElem?_eq_getElem (by omega)] at hc0
      simp only [Nat.zero_mul] at hc0
      have ha0 : ∀ b : Addr, b.add 0 = b := fun b => by simp [Addr.add]
      rw [ha0, ha0] at hc0
      unfold World.cell? at hc0
      split at hc0
      · split at hc0
        · cases hc0
        · rename_i hs; simpa using hs
      · cases hc0
    · obtain ⟨x, h1, h2⟩ := flat_get hc hsz hj
      rw [List.getElem?_map] at h1
      obtain ⟨av, hav, rfl⟩ := Option.map_eq_some_iff.1 h1
      have hi : j / P.cellsOf e < l.length := by
        rcases Nat.lt_or_ge (j / P.cellsOf e) l.length with q | q
        · exact q
        · rw [List.getElem?_eq_none q] at hav; cases hav
      rw [List.getElem?_eq_getElem hi] at hav
      cases hav
      obtain ⟨_, _, k3, k4⟩ := hq _ hi
      have hm := Nat.mod_lt j hc
      have hcell := (World.cells?_some k3).2.2 _ hm
      rw [h2] at hcell
      have hadd : w.cell? ((a.add (j / P.cellsOf e * P.cellsOf e)).add (j % P.cellsOf e)) = w.cell? ⟨a.block, a.off + j, none⟩ := by
        rw [add_add]
        have e1 : j / P.cellsOf e * P.cellsOf e + j % P.cellsOf e = j := Nat.div_add_mod' j _
        rw [e1]
        unfold Addr.add
        split
        · rename_i hj0
          subst hj0
          rw [add_add, e1] at hcell
          have : a.add 0 = a := by simp [Addr.add]
          rw [this] at hcell
          have hsp : a.spot = none := by
            unfold World.cell? at hcell
            split at hcell
            · split at hcell
              · cases hcell
              · rename_i hs; simpa using hs
            · cases hcell
          obtain ⟨b, o, s⟩ := a
          simp at hsp; subst hsp; rfl
        · rfl
      rw [hadd] at hcell
      refine ⟨hcell, ?_, k4 y (List.mem_of_getElem? h2)⟩
      have := World.block_lt_of_cell? w _ hcell
      exact this
/-! ### Structs -/

def OpensF (P : Program) (w : World) (n : Nat) (fs : List Field) (off : Nat) {α : Type} (f : α → List D) (ok : α → Prop) : Prop :=
  ∀ (H : Type) (enc : TypeId × Value → H) (cs : List Value), cs.length = off + (fs.map fun f => P.cellsOf f.type).sum →
    (∀ f ∈ fs, ∃ x, DataW.trod enc P w 0 (fun _ => true) true n f.type ((cs.drop f.offset).take (P.cellsOf f.type)) = some x) →
    ∃ a, ok a ∧ RelL w (G0 w) (f a) (cs.drop off) ∧ ∀ y ∈ cs.drop off, oneC y
theorem opensF_nil {off : Nat} : OpensF P w n [] off (fun _ : Unit => []) (fun _ => True) := by
  intro H enc cs hl _
  have : cs.drop off = [] := List.drop_eq_nil_of_le (by simp at hl; omega)
  rw [this]
  exact ⟨(), trivial, RelL.nil, by simp⟩
theorem opensF_cons {α β : Type} {f : α → List D} {ok : α → Prop} {g : β → List D} {ok' : β → Prop} {fl : Field} {fs : List Field} {off c : Nat} (ho : fl.offset = off) (hc : P.cellsOf fl.type = c) (h : Opens P w n fl.type f ok) (hr : OpensF P w n fs (off + c) g ok') :
    OpensF P w n (fl :: fs) off (fun p : α × β => f p.1 ++ g p.2) (fun p => ok p.1 ∧ ok' p.2) := by
  subst ho; subst hc
  intro H enc cs hl hf
  simp only [List.map_cons, List.sum_cons] at hl
  obtain ⟨x, hx⟩ := hf fl (by simp)
  obtain ⟨a, k1, k2, k3⟩ := h H enc _ x hx
  obtain ⟨b, j1, j2, j3⟩ := hr H enc cs (by omega) (fun f hm => hf f (by simp [hm]))
  have e : cs.drop fl.offset = (cs.drop fl.offset).take (P.cellsOf fl.type) ++ cs.drop (fl.offset + P.cellsOf fl.type) := by
    rw [← List.drop_drop, List.take_append_drop]
  refine ⟨(a, b), ⟨k1, j1⟩, ?_, ?_⟩
  · rw [e]; exact k2.append j2
  · rw [e]
    intro y hy
    rcases List.mem_append.1 hy with q | q
    · exact k3 y q
    · exact j3 y q
theorem opens_struct {α : Type} {f : α → List D} {ok : α → Prop} {fs : List Field} (ht : P.underlying t = some (.struct fs.toArray)) (hc : P.cellsOf t = (fs.map fun f => P.cellsOf f.type).sum) (h : OpensF P w n fs 0 f ok) : Opens P w (n + 1) t f ok := by
  intro H enc cs x hx
  obtain ⟨xs, n', hn, _, hl, hlen, hf⟩ := DataW.trod_struct ht hx
  obtain rfl : n = n' := by omega
  have := h H enc cs (by omega) (fun f hm => by
    obtain ⟨i, hi, rfl⟩ := List.getElem_of_mem hm
    have hq := hf i fs[i] (by simp [hi])
    rw [hq]
    have : i < xs.length := by rw [hlen]; simpa using hi
    exact ⟨xs[i], List.getElem?_eq_getElem this⟩)
  simpa using this
theorem opens_zero {α : Type} {f : α → List D} {ok : α → Prop} : Opens P w 0 t f ok := by
  intro H enc cs x hx
  simp [DataW.trod] at hx
theorem opens_all {α : Type} {f : α → List D} {ok : α → Prop} (h : ∀ n, Opens P w (n + 1) t f ok) : ∀ n, Opens P w n t f ok
  | 0 => opens_zero
  | n + 1 => h n
/-! ### A whole argument -/

theorem arg_cell {α : Type} {f : α → List D} {ok : α → Prop} {H : Type} {enc : TypeId × Value → H} {v : Value} {d : DataW H} {ps : List MemPlace} {b : Nat} {desc : TypeDesc} (ht : P.underlying t = some desc) (hd : isRowT desc = false) (hval : Value.okWide P w .any b t v)
    (h : DataW.Trod enc P w 0 (fun _ => true) true t v d ps) (hO : ∀ n, Opens P w n t f ok) : ∃ a, ok a ∧ RelL w (G0 w) (f a) [v] := by
  obtain ⟨fuel, hx⟩ := h
  obtain ⟨a, k1, k2, _⟩ := hO fuel H enc _ _ hx
  refine ⟨a, k1, ?_⟩
  have hv : oneC v := by
    cases v with
    | agg cs =>
      exfalso
      unfold Value.okWide at hval
      rw [ht] at hval
      cases desc <;> simp_all [isRowT, Cell.okWide, Cell.ok]
    | tuple cs =>
      exfalso
      unfold Value.okWide at hval
      rw [ht] at hval
      cases desc <;> simp_all [isRowT, Cell.okWide, Cell.ok]
    | _ => simp [oneC, Value.oneCell']
  rw [cells_one hv] at k2
  exact k2
theorem arg_row {α : Type} {f : α → List D} {ok : α → Prop} {H : Type} {enc : TypeId × Value → H} {v : Value} {d : DataW H} {ps : List MemPlace} {b : Nat} {fs : Array Field} (ht : P.underlying t = some (.struct fs)) (hval : Value.okWide P w .any b t v)
    (h : DataW.Trod enc P w 0 (fun _ => true) true t v d ps) (hO : ∀ n, Opens P w n t f ok) : ∃ a, ok a ∧ RelL w (G0 w) [.agg (f a)] [v] := by
  obtain ⟨fuel, hx⟩ := h
  obtain ⟨a, k1, k2, k3⟩ := hO fuel H enc _ _ hx
  refine ⟨a, k1, RelL.one ?_⟩
  unfold Value.okWide at hval
  rw [ht] at hval
  obtain ⟨cs, rfl, _⟩ := hval
  simp only [Value.cells] at k2 k3
  simp only [Rel]
  exact ⟨cs.toList, by simp, k2, k3⟩
theorem relL_app {ds es : List D} {xs ys : List Value} (h : RelL w (G0 w) ds xs) (h2 : RelL w (G0 w) es ys) : RelL w (G0 w) (ds ++ es) (xs ++ ys) := h.append h2
end
end GoV
end
section
set_option maxHeartbeats 1000000
namespace GoV
open Go Go.RowKit
/-! ### What is known of variables when a law is called -/

end GoV
end
section
set_option linter.unusedSimpArgs false
set_option linter.unusedVariables false
set_option maxHeartbeats 1000000
namespace GoV
open Go
section
variable {C : Cfg} {w0 : World} {B : Gh}
theorem draw_soundX {ro : Option Nat} (hA : C.M.start w0 B) {ops : Array Oper} {m : Nat} {ros : List RO} {K : St → Prop} {Q : Exit → Act → World → Prop} (hB : drawOk ops m = true) (hm : m ≤ ops.size) (hr : resOps C ops (List.range' 0 ops.size) = some ros)
    (hQ : ∀ s a w, K s → Sim C w0 B s a w → Q .normal a w) {s : St} (_hl : s.env.length = C.pers.length)
    {ds : Nat → D} {hps : Nat → Hp} {fl : Nat → Bool} {s1 : St} (hk1 : opsWp C.M (ros.drop m) K s1) (hpm : hps m = s1.hp) (hl1 : s1.env.length = C.pers.length)
    (hfq : ∀ i, i < m → fl i = true → hps (i + 1) = hps i)
    (hst : ∀ i, i < m → ∃ o, ops[i]? = some o ∧ StepQ C ops (hps i) (hps (i + 1)) (sig ops (s.slot C.pers) ds (fun _ => true) i) o (ds i))
    (hX : ∀ i, i < m → (fl i = true ∧ ∃ o, ops[i]? = some o ∧ ∀ hp2, StepQ C ops hp2 hp2 (sig ops (s.slot C.pers) ds (fun _ => true) i) o (ds i)) ∨ ∀ j, j < m → j ≠ i → fl j = true)
    (hend : sig ops (s.slot C.pers) ds (fun _ => true) m = s1.slot C.pers) :
    ∀ (fuel : Nat) (listed : Array Bool) (a : Act) (w : World), listed.size = ops.size → unl listed.toList ≤ fuel →
      (∀ j oj, ops[j]? = some oj → listed.getD j false = true → ∀ e ∈ oj.after, Region.binds .any e = true → listed.getD e.on false = true) →
      (((∀ j, listed.getD j false = true → j < m) ∧ SimF C w0 B (sig ops (s.slot C.pers) ds (fun j => listed.getD j false) m) (hpE hps fl (fun j => listed.getD j false) m) a w) ∨
        ∃ i s', m ≤ i ∧ (∀ j, j < ops.size → (listed.getD j false = true ↔ j < i)) ∧ Sim C w0 B s' a w ∧ opsWp C.M (ros.drop i) K s') →
      wpAnyIn (FR ro) 0 C.P .any ops Q fuel listed a w := by
  have hros : ros.length = ops.size := by rw [resOps_length _ _ hr]; simp
  have hsub : ∀ (listed : Array Bool), (∀ j oj, ops[j]? = some oj → listed.getD j false = true → ∀ e ∈ oj.after, Region.binds .any e = true → listed.getD e.on false = true) →
      ∀ j oj, ops[j]? = some oj → (∀ e ∈ oj.after, Region.binds .any e = true → listed.getD e.on false = true) → ∀ i ∈ (befores ops.toList).getD j [], listed.getD i false = true := by
    intro listed hcl j
    induction j using Nat.strongRecOn with
    | _ j ih =>
      intro oj hj ha i hi
      obtain ⟨e, he, hbd, h1⟩ := mem_befores (by simpa using hj) hi
      rcases h1 with h1 | h1
      · rw [h1]; exact ha e he hbd
      · have hlt := (drawOk_spec hB hj).1 e he hbd
        have hjs : j < ops.size := (Array.getElem?_eq_some_iff.1 hj).1
        have hoe : ops[e.on]? = some ops[e.on] := Array.getElem?_eq_getElem (by omega)
        exact ih e.on hlt _ hoe (hcl e.on _ hoe (ha e he hbd)) i h1
  have conv : ∀ (listed : Array Bool) (a : Act) (w : World), (∀ j, listed.getD j false = true → j < m) → (∀ j, j < m → listed.getD j false = true) →
      SimF C w0 B (sig ops (s.slot C.pers) ds (fun j => listed.getD j false) m) (hpE hps fl (fun j => listed.getD j false) m) a w → Sim C w0 B s1 a w := by
    intro listed a w h1 h2 hs
    have e : sig ops (s.slot C.pers) ds (fun j => listed.getD j false) m = s1.slot C.pers := by
      rw [← hend]; funext t
      exact sig_agree m fun j hj _ => h2 j hj
    obtain ⟨G, g1, gb, g2, g3, g4⟩ := hs
    rw [hpE_all m (fun j hj _ => h2 j hj) hfq] at g1
    exact ⟨G, by rw [← hpm]; exact g1, gb, g2, g3, hl1, by rw [← e]; exact g4⟩
  have fin : ∀ (listed : Array Bool) (a : Act) (w : World), (∀ j, j < ops.size → listed.getD j false = true) →
      (((∀ j, listed.getD j false = true → j < m) ∧ SimF C w0 B (sig ops (s.slot C.pers) ds (fun j => listed.getD j false) m) (hpE hps fl (fun j => listed.getD j false) m) a w) ∨
        ∃ i s', m ≤ i ∧ (∀ j, j < ops.size → (listed.getD j false = true ↔ j < i)) ∧ Sim C w0 B s' a w ∧ opsWp C.M (ros.drop i) K s') → Q .normal a w := by
    intro listed a w hall h
    rcases h with ⟨h1, h2⟩ | ⟨i, s', h1, h2, h3, h4⟩
    · have hs1 := conv listed a w h1 (fun j hj => hall j (by omega)) h2
      have hmn : ops.size ≤ m := by
        rcases Nat.eq_zero_or_pos ops.size with g | g
        · omega
        · have := h1 (ops.size - 1) (hall _ (by omega)); omega
      rw [List.drop_eq_nil_of_le (by omega)] at hk1
      exact hQ s1 a w hk1 hs1
    · have hin : ops.size ≤ i := by
        rcases Nat.eq_zero_or_pos ops.size with g | g
        · omega
        · have := (h2 (ops.size - 1) (by omega)).1 (hall _ (by omega)); omega
      rw [List.drop_eq_nil_of_le (by omega)] at h4
      exact hQ s' a w h4 h3
  have least : ∀ (listed : Array Bool), listed.size = ops.size → (∀ j oj, ops[j]? = some oj → listed.getD j false = true → ∀ e ∈ oj.after, Region.binds .any e = true → listed.getD e.on false = true) →
      Region.ready .any ops listed = [] → ∀ j, j < ops.size → listed.getD j false = true := by
    intro listed hsz hcl hr0 j
    induction j using Nat.strongRecOn with
    | _ j ih =>
      intro hj
      cases hb : listed.getD j false with
      | true => rfl
      | false =>
        exfalso
        have hoj : ops[j]? = some ops[j] := Array.getElem?_eq_getElem hj
        have : j ∈ Region.ready .any ops listed := by
          rw [mem_ready]
          refine ⟨?_, ops[j], hoj, fun e he hbd => ?_⟩
          · have hlt : j < listed.size := by omega
            simp [hlt] at hb ⊢; exact hb
          · have := (drawOk_spec hB hoj).1 e he hbd
            exact ih e.on this (by omega)
        rw [hr0] at this; cases this
  intro fuel
  induction fuel with
  | zero =>
    intro listed a w hsz hu hcl h
    have hall : ∀ j, j < ops.size → listed.getD j false = true := by
      intro j hj
      have hlt : j < listed.size := by omega
      have := unl_zero listed.toList (by omega) j (by simpa using hlt)
      simp [hlt] at this ⊢; exact this
    refine ⟨?_, fin listed a w hall h⟩
    cases hr0 : Region.ready .any ops listed with
    | nil => rfl
    | cons i l =>
      have : i ∈ Region.ready .any ops listed := by rw [hr0]; simp
      obtain ⟨h1, o, ho, _⟩ := mem_ready.1 this
      have hlt : i < ops.size := (Array.getElem?_eq_some_iff.1 ho).1
      have h2 := hall i hlt
      have hlt2 : i < listed.size := by omega
      simp [hlt2] at h1 h2; rw [h1] at h2; cases h2
  | succ fuel ih =>
    intro listed a w hsz hu hcl h
    refine ⟨fun hr0 => fin listed a w (least listed hsz hcl hr0) h, fun i hi => ?_⟩
    obtain ⟨hun, o, ho, hdeps⟩ := mem_ready.1 hi
    have hlt : i < ops.size := (Array.getElem?_eq_some_iff.1 ho).1
    have hlt2 : i < listed.size := by omega
    have hunf : listed.getD i false = false := by simp [hlt2] at hun ⊢; exact hun
    have hdeps' : ∀ e ∈ o.after, Region.binds .any e = true → listed.getD e.on false = true := hdeps
    have hbef := hsub listed hcl i o ho hdeps'
    have hcl' : ∀ j oj, ops[j]? = some oj → (listed.setIfInBounds i true).getD j false = true → ∀ e ∈ oj.after, Region.binds .any e = true → (listed.setIfInBounds i true).getD e.on false = true := by
      intro j oj hj hlj e he hbd
      rw [listed_set hlt2] at hlj ⊢
      simp only [Bool.or_eq_true, beq_iff_eq] at hlj ⊢
      rcases hlj with g | g
      · exact .inl (hcl j oj hj g e he hbd)
      · subst g
        rw [ho] at hj; cases hj
        exact .inl (hdeps' e he hbd)
    have hu' : unl (listed.setIfInBounds i true).toList ≤ fuel := by
      have := unl_set listed.toList i (by simp [hlt2] at hunf ⊢; exact hunf)
      simp only [Array.toList_setIfInBounds]; omega
    have hafter : m ≤ i → ∀ j, j < ops.size → (listed.getD j false = true ↔ j < i) := by
      intro hmi j hj
      constructor
      · intro hlj
        rcases Nat.lt_trichotomy j i with g | g | g
        · exact g
        · subst g; rw [hunf] at hlj; cases hlj
        · exfalso
          have hoj : ops[j]? = some ops[j] := Array.getElem?_eq_getElem hj
          obtain ⟨oi, hoi, q⟩ := (drawOk_spec hB hoj).2 i g
          rcases q with q | q
          · have := hsub listed hcl j _ hoj (hcl j _ hoj hlj) i q
            rw [hunf] at this; cases this
          · omega
      · intro hji
        obtain ⟨oi, hoi, q⟩ := (drawOk_spec hB ho).2 j hji
        rcases q with q | q
        · exact hbef j q
        · omega
    unfold wpOpIn
    rw [ho]
    by_cases him : i < m
    · 
      rcases h with ⟨h1, h2⟩ | ⟨i', s', h1, h2, h3, h4⟩
      · obtain ⟨o', ho', hq⟩ := hst i him
        rw [ho] at ho'; cases ho'
        have ords : ∀ j, j < m → j ≠ i → ∀ t, t ∈ namesOf ops o → dstO ops j = some t → (listed.getD j false = true ↔ j < i) := by
          intro j hj hji t ht hd
          have hjs : j < ops.size := by omega
          have hoj : ops[j]? = some ops[j] := Array.getElem?_eq_getElem hjs
          have hdj : ops[j].dst = some t := by simpa [dstO, hoj] using hd
          constructor
          · intro hlj
            rcases Nat.lt_or_ge j i with g | g
            · exact g
            · exfalso
              obtain ⟨oi, hoi, q⟩ := (drawOk_spec hB hoj).2 i (by omega)
              rw [ho] at hoi; cases hoi
              rcases q with q | q
              · have := hsub listed hcl j _ hoj (hcl j _ hoj hlj) i q
                rw [hunf] at this; cases this
              · exact (clash_spec q.2).2 t hdj ht
          · intro g
            obtain ⟨oi, hoi, q⟩ := (drawOk_spec hB ho).2 j g
            rw [hoj] at hoi; cases hoi
            rcases q with q | q
            · exact hbef j q
            · exact absurd ht ((clash_spec q.2).1 t hdj)
        have hlook : ∀ t ∈ o.looksAt ops, sig ops (s.slot C.pers) ds (fun _ => true) i t = sig ops (s.slot C.pers) ds (fun j => listed.getD j false) m t := by
          intro t ht
          have ht' : t ∈ namesOf ops o := by simp [namesOf, ht]
          have e1 : sig ops (s.slot C.pers) ds (fun j => listed.getD j false) m t = sig ops (s.slot C.pers) ds (fun j => listed.getD j false) i t := by
            refine sig_skip m (by omega) fun j g1 g2 g3 hd => ?_
            by_cases hji : j = i
            · subst hji; rw [hunf] at g3; cases g3
            · have := (ords j g2 hji t ht' hd).1 g3; omega
          rw [e1]
          exact sig_agree i fun j hj hd => ((ords j (by omega) (by omega) t ht' hd).2 hj).symm
        obtain ⟨o', x, r1, r2, r3⟩ := resOps_drop _ _ i ros hr hlt
        rw [Nat.zero_add, ho] at r1; cases r1
        have hx : ros[i]? = some x := by
          have := List.getElem?_drop (xs := ros) (i := i) (j := 0)
          rw [r3] at this; simpa using this.symm
        have hL : ∀ j, (listed.setIfInBounds i true).getD j false = (listed.getD j false || j == i) := fun j => listed_set hlt2
        have hstep : StepQ C ops (hpE hps fl (fun j => listed.getD j false) m) (hpE hps fl (fun j => (listed.setIfInBounds i true).getD j false) m) (sig ops (s.slot C.pers) ds (fun _ => true) i) o (ds i) := by
          rcases hX i him with ⟨hfi, o2, ho2, hany⟩ | hoth
          · rw [ho] at ho2; cases ho2
            have e : hpE hps fl (fun j => (listed.setIfInBounds i true).getD j false) m = hpE hps fl (fun j => listed.getD j false) m := by
              refine hpE_agree m fun j hj hfj => ?_
              have : j ≠ i := by intro e; subst e; rw [hfi] at hfj; cases hfj
              simp only [hL]; simp [this]
            rw [e]
            exact hany _
          · have hord : ∀ j, j < m → j ≠ i → fl j = false → (j < i ∧ listed.getD j false = true) ∨ (i < j ∧ listed.getD j false = false) := by
              intro j hj hji hfj
              rw [hoth j hj hji] at hfj
              cases hfj
            have e1 : hpE hps fl (fun j => listed.getD j false) m = hps i := by
              rw [hpE_skip (a := i) m (by omega) fun j g1 g2 g3 => ?_]
              · refine hpE_all i (fun j hj hfj => ?_) fun j hj => hfq j (by omega)
                rcases hord j (by omega) (by omega) hfj with q | q
                · exact q.2
                · omega
              · by_cases e : j = i
                · subst e; exact hunf
                · rcases hord j g2 e g3 with q | q
                  · omega
                  · exact q.2
            have e2 : hpE hps fl (fun j => (listed.setIfInBounds i true).getD j false) m = hps (i + 1) := by
              rw [hpE_skip (a := i + 1) m (by omega) fun j g1 g2 g3 => ?_]
              · refine hpE_all (i + 1) (fun j hj hfj => ?_) fun j hj => hfq j (by omega)
                simp only [hL]
                by_cases e : j = i
                · subst e; simp
                · rcases hord j (by omega) e hfj with q | q
                  · simp only [q.2, Bool.true_or]
                  · omega
              · simp only [hL]
                have e : j ≠ i := by omega
                rcases hord j g2 e g3 with q | q
                · omega
                · simp only [q.2, Bool.false_or]; simp [e]
            rw [e1, e2]; exact hq
        refine StepQ.sound hA (hstep.congr hlook) h2 fun a' w' hs' => ih _ a' w' (by simpa using hsz) hu' hcl' (.inl ⟨fun j hj => ?_, ?_⟩)
        · rw [listed_set hlt2] at hj
          simp only [Bool.or_eq_true, beq_iff_eq] at hj
          rcases hj with g | g
          · exact h1 j g
          · omega
        · have e2 : sig ops (s.slot C.pers) ds (fun j => (listed.setIfInBounds i true).getD j false) m = updO (sig ops (s.slot C.pers) ds (fun j => listed.getD j false) m) (dstO ops i) (ds i) := by
            rw [← sig_set him hunf]
            · congr 1; funext j; exact listed_set hlt2
            · intro j t g1 g2 g3 g4 g5
              cases hb : listed.getD j false with
              | false => rfl
              | true =>
                have hoi : o.dst = some t := by simpa [dstO, ho] using g3
                have := (ords j g1 g2 t (by simp [namesOf, hoi]) g4).1 hb
                omega
          rw [e2]
          have : dstO ops i = o.dst := by simp [dstO, ho]
          rw [this]; exact hs'
      · exfalso
        have := (h2 i hlt).2 (by omega)
        rw [hunf] at this; cases this
    · 
      have hmi : m ≤ i := by omega
      have hiff := hafter hmi
      obtain ⟨s', hs', hk'⟩ : ∃ s', Sim C w0 B s' a w ∧ opsWp C.M (ros.drop i) K s' := by
        rcases h with ⟨h1, h2⟩ | ⟨i', s', h1, h2, h3, h4⟩
        · have hie : i = m := by
            rcases Nat.lt_or_ge m i with g | g
            · have := h1 m ((hiff m (by omega)).2 g); omega
            · omega
          subst hie
          exact ⟨s1, conv listed a w h1 (fun j hj => (hiff j (by omega)).2 hj) h2, hk1⟩
        · have hie : i' = i := by
            rcases Nat.lt_trichotomy i' i with g | g | g
            · have q1 := (hiff i' (by omega)).2 g
              have := (h2 i' (by omega)).1 q1; omega
            · exact g
            · have := (h2 i hlt).2 g; rw [hunf] at this; cases this
          subst hie
          exact ⟨s', h3, h4⟩
      obtain ⟨o', x, g1, g2, g3⟩ := resOps_drop _ _ i ros hr hlt
      rw [Nat.zero_add, ho] at g1; cases g1
      rw [g3] at hk'
      refine head_sound hA g2 (K := opsWp C.M (ros.drop (i + 1)) K) (fun s'' a' w' q1 q2 => ih _ a' w' (by simpa using hsz) hu' hcl' (.inr ⟨i + 1, s'', by omega, fun j hj => ?_, q2, q1⟩)) hk' hs'
      rw [listed_set hlt2]
      simp only [Bool.or_eq_true, beq_iff_eq]
      have := hiff j hj
      constructor
      · rintro (q | q)
        · have := this.1 q; omega
        · omega
      · intro q
        by_cases e : j = i
        · exact .inr e
        · exact .inl (this.2 (by omega))
def AnyS (M : Mod) (oc : OC) (ds : List D) (d : D) : Prop := ∀ hp2, OcWp M oc ds hp2 (fun d' hp' => d' = d ∧ hp' = hp2)
def headA (M : Mod) (o : RO) (K : St → Prop) (s : St) : Prop :=
  match o.guard with
  | none => ∃ d, AnyS M o.oc (o.args.map s.get) d ∧ K (s.put o.dst d)
  | some (g, want) =>
    match s.get g with
    | .bool b => (b = want → ∃ d, AnyS M o.oc (o.args.map (s.setO g (.bool want)).get) d ∧ K ((s.setO g (.bool want)).put o.dst d)) ∧
        (b = (!want) → K ((s.setO g (.bool (!want))).put o.dst .skip))
    | .skip => K (s.put o.dst .skip)
    | _ => False
def opsX (M : Mod) (j : Nat) : Nat → List (RO × Bool) → (St → Prop) → St → Prop
  | _, [], K, s => K s
  | i, (o, _) :: r, K, s => if i = j then headQ M false o (opsX M j (i + 1) r K) s else headA M o (opsX M j (i + 1) r K) s
theorem headA_step {ops : Array Oper} {o : Oper} {x : RO} {K : St → Prop} {s : St} (h1 : resOp1 C ops o = some x) (hl : s.env.length = C.pers.length) (h : headA C.M x K s) :
    ∃ d s1, K s1 ∧ s1.hp = s.hp ∧ s1.env.length = C.pers.length ∧ (∀ hp2, StepQ C ops hp2 hp2 (s.slot C.pers) o d) ∧ s1.slot C.pers = updO (s.slot C.pers) o.dst d := by
  unfold resOp1 at h1
  cases hres : resolveOp C.P o.op with
  | none => simp [hres] at h1
  | some p =>
    obtain ⟨oc, ys⟩ := p
    cases ha : resOs C ys with
    | none => simp [hres, ha] at h1
    | some args =>
      cases hd : resDst C o.dst with
      | none => simp [hres, ha, hd] at h1
      | some dst =>
        cases hg : resGuard C ops o.guard with
        | none => simp [hres, ha, hd, hg] at h1
        | some guard =>
          simp [hres, ha, hd, hg] at h1; subst h1
          cases hog : o.guard with
          | none =>
            simp [hog, resGuard] at hg; subst hg
            simp only [headA] at h
            obtain ⟨d, h2, h3⟩ := h
            rw [map_evO ha] at h2
            exact ⟨d, _, h3, put_hp _ _ _, by rw [put_env_len]; exact hl, fun hp2 => ⟨oc, ys, hres, ⟨_, ha⟩, ⟨_, hd⟩, .inl ⟨hog, h2 hp2⟩⟩, put_slot hd hl _⟩
          | some p =>
            obtain ⟨j, want⟩ := p
            simp only [hog, resGuard] at hg
            cases hj : (ops[j]?).bind (·.dst) with
            | none => simp [hj] at hg
            | some t =>
              simp only [hj] at hg
              cases hgo : resO C (.tmp t) with
              | none => simp [hgo] at hg
              | some g =>
                simp [hgo] at hg; subst hg
                have htn := (resO_tmp hgo).2
                simp only [headA] at h
                have hsl : s.slot C.pers t = s.get g := (get_slot hgo).symm
                cases hb : s.get g <;> simp only [hb] at h
                case bool b =>
                  by_cases e : b = want
                  · subst e
                    obtain ⟨d, h2, h3⟩ := h.1 rfl
                    rw [map_evO ha, setO_same hgo hl hb] at h2
                    refine ⟨d, _, h3, by rw [put_hp, setO_hp], by rw [put_env_len]; simpa [setO_len] using hl, fun hp2 => ⟨oc, ys, hres, ⟨_, ha⟩, ⟨_, hd⟩, .inr ⟨j, b, t, hog, hj, htn, .inl ⟨by rw [hsl, hb], h2 hp2⟩⟩⟩, ?_⟩
                    rw [put_slot hd (by simpa [setO_len] using hl), setO_same hgo hl hb]
                  · have e' : b = (!want) := by cases b <;> cases want <;> simp_all
                    subst e'
                    refine ⟨.skip, _, h.2 rfl, by rw [put_hp, setO_hp], by rw [put_env_len, setO_len]; exact hl, fun hp2 => ⟨oc, ys, hres, ⟨_, ha⟩, ⟨_, hd⟩, .inr ⟨j, want, t, hog, hj, htn, .inr (.inl ⟨by rw [hsl, hb], rfl, rfl⟩)⟩⟩, ?_⟩
                    rw [put_slot hd (by rw [setO_len]; exact hl), setO_same hgo hl hb]
                case skip =>
                  exact ⟨.skip, _, h, put_hp _ _ _, by rw [put_env_len]; exact hl, fun hp2 => ⟨oc, ys, hres, ⟨_, ha⟩, ⟨_, hd⟩, .inr ⟨j, want, t, hog, hj, htn, .inr (.inr ⟨by rw [hsl, hb], rfl, rfl⟩)⟩⟩, put_slot hd hl _⟩
theorem opsX_trace {ops : Array Oper} {K : St → Prop} {e : Nat} : ∀ (len k : Nat) (ros : List RO) (qs : List (RO × Bool)) (s : St), resOps C ops (List.range' k len) = some ros → qs.map (·.1) = ros → s.env.length = C.pers.length → opsX C.M e k qs K s →
    ∃ (ds : Nat → D) (σ : Nat → Nat → D) (hps : Nat → Hp) (s1 : St), K s1 ∧ hps k = s.hp ∧ hps (k + len) = s1.hp ∧ s1.env.length = C.pers.length ∧ σ k = s.slot C.pers ∧ σ (k + len) = s1.slot C.pers ∧
      ∀ i, k ≤ i → i < k + len → ∃ o, ops[i]? = some o ∧ StepQ C ops (hps i) (hps (i + 1)) (σ i) o (ds i) ∧ σ (i + 1) = updO (σ i) o.dst (ds i) ∧ (i ≠ e → hps (i + 1) = hps i ∧ ∀ hp2, StepQ C ops hp2 hp2 (σ i) o (ds i))
  | 0, k, ros, qs, s, hr, hqs, hl, h => by
    simp [resOps] at hr; subst hr
    have : qs = [] := by simpa using hqs
    subst this
    exact ⟨fun _ => .undef, fun _ => s.slot C.pers, fun _ => s.hp, s, h, rfl, rfl, hl, rfl, rfl, fun i h1 h2 => by omega⟩
  | len + 1, k, ros, qs, s, hr, hqs, hl, h => by
    rw [List.range'_succ] at hr
    obtain ⟨o, x, xs, ho, h1, h2, rfl⟩ := resOps_cons hr
    cases qs with
    | nil => simp at hqs
    | cons p qs =>
      obtain ⟨x', q⟩ := p
      simp only [List.map_cons, List.cons.injEq] at hqs
      obtain ⟨rfl, hqs⟩ := hqs
      simp only [opsX] at h
      have key : ∃ d s1, opsX C.M e (k + 1) qs K s1 ∧ s1.env.length = C.pers.length ∧ StepQ C ops s.hp s1.hp (s.slot C.pers) o d ∧ s1.slot C.pers = updO (s.slot C.pers) o.dst d ∧
          (k ≠ e → s1.hp = s.hp ∧ ∀ hp2, StepQ C ops hp2 hp2 (s.slot C.pers) o d) := by
        by_cases hk : k = e
        · rw [if_pos hk] at h
          obtain ⟨d, s1, k1, _, k3, k4, k5⟩ := headQ_step h1 hl h
          exact ⟨d, s1, k1, k3, k4, k5, fun q => absurd hk q⟩
        · rw [if_neg hk] at h
          obtain ⟨d, s1, k1, k2, k3, k4, k5⟩ := headA_step h1 hl h
          exact ⟨d, s1, k1, k3, by rw [k2]; exact k4 _, k5, fun _ => ⟨k2, k4⟩⟩
      obtain ⟨d, s1, k1, k3, k4, k5, k6⟩ := key
      obtain ⟨ds, σ, hps, s2, g1, g2, g2', g3, g4, g5, g6⟩ := opsX_trace len (k + 1) xs qs s1 h2 hqs k3 k1
      refine ⟨fun i => if i = k then d else ds i, fun i => if i = k then s.slot C.pers else σ i, fun i => if i = k then s.hp else hps i, s2, g1, by simp, ?_, g3, by simp, ?_, fun i h1 h2 => ?_⟩
      · have : k + (len + 1) ≠ k := by omega
        simp only [this, if_false]
        rw [← g2']; congr 1; omega
      · have : k + (len + 1) ≠ k := by omega
        simp only [this, if_false]
        rw [← g5]; congr 1; omega
      · by_cases ek : i = k
        · subst ek
          refine ⟨o, ho, ?_, ?_, fun q => ?_⟩
          · simpa [g2] using k4
          · simp [g4, k5]
          · obtain ⟨q1, q2⟩ := k6 q
            exact ⟨by simp [g2, q1], by simpa using q2⟩
        · obtain ⟨o', q1, q2, q3, q4⟩ := g6 i (by omega) (by omega)
          have e2 : i + 1 ≠ k := by omega
          exact ⟨o', q1, by simpa [ek, e2] using q2, by simpa [ek, e2] using q3, by simpa [ek, e2] using q4⟩
theorem swp_regDX {Q : Ex → St → Prop} {s : St} {qs : List (RO × Bool)} {ros : List RO} (e : Nat) (h : opsX C.M e 0 qs (fun s1 => opsWp C.M ros (fun s' => Q .normal s'.done) s1) s) : SWp C (.regD qs ros) Q s := by
  refine ⟨fun c hc w0 B hA a w hs => ?_⟩
  have hreg : ∀ id ops d, c = .region id ops d → _ := fun id ops d e => res_region (e ▸ hc)
  cases c <;> (try simp only [resCode] at hc) <;> (try (cases hc; done))
  case region id ops d =>
    rcases hreg _ _ _ rfl with ⟨r, h1, _⟩ | ⟨r, h1, rfl, hB1, hB2, hr⟩ | h1
    · cases h1
    · cases h1
      have hB := And.intro hB1 hB2
      · skip
        rw [List.range_eq_range'] at hr
        have hl : s.env.length = C.pers.length := by obtain ⟨_, _, _, _, _, q, _⟩ := hs; exact q
        have hrl : tailAt ops ≤ r.length := by rw [resOps_length _ _ hr]; simpa using tailAt_le ops
        obtain ⟨ds, σ, hps, s1, k1, k2, k2', k3, k4, k5, k6⟩ := opsX_trace (tailAt ops) 0 _ _ s (resOps_take _ _ 0 _ hr (tailAt_le ops)) (flags_fst hrl) hl h
        have hsig : ∀ i, i ≤ tailAt ops → σ i = sig ops (s.slot C.pers) ds (fun _ => true) i := by
          intro i
          induction i with
          | zero => intro _; exact k4
          | succ i ih =>
            intro hi
            obtain ⟨o, q1, _, q3, _⟩ := k6 i (Nat.zero_le _) (by omega)
            rw [q3, ih (by omega)]
            simp [sig, dstO, q1]
        refine fun ro => wpIn_region_any hB.2 (draw_soundX hA (s := s) (s1 := s1) (K := fun s' => Q .normal s'.done) (ds := ds) (hps := hps) (m := tailAt ops) (ros := r) (fl := fun i => decide (i ≠ e)) hB.1 (tailAt_le ops) hr (fun s a w hk hs => ⟨s.done, weak_done _ _ _ _ hs, hk⟩) hl k1 (by rw [← k2', Nat.zero_add]) k3 (fun i hi hf => ?_) (fun i hi => ?_) (fun i hi => ?_) ?_ ops.size _ a _ (by simp) ?_ ?_ (.inl ⟨?_, ?_⟩))
        · obtain ⟨o, q1, q2, q3, q4⟩ := k6 i (Nat.zero_le _) (by omega)
          exact (q4 (by simpa using hf)).1
        · obtain ⟨o, q1, q2, _, _⟩ := k6 i (Nat.zero_le _) (by omega)
          rw [hsig i (by omega)] at q2
          exact ⟨o, q1, q2⟩
        · by_cases hie : i = e
          · right
            intro j _ hji
            simp; omega
          · left
            obtain ⟨o, q1, _, _, q4⟩ := k6 i (Nat.zero_le _) (by omega)
            refine ⟨by simpa using hie, o, q1, fun hp2 => ?_⟩
            have := (q4 hie).2 hp2
            rwa [hsig i (by omega)] at this
        · rw [← hsig _ (Nat.le_refl _), ← k5, Nat.zero_add]
        · simp only [unl, Array.toList_replicate]
          exact Nat.le_trans (List.length_filter_le _ _) (by simp)
        · intro j oj hj hlj
          exfalso
          have : (Array.replicate ops.size false).getD j false = false := by
            simp only [Array.getD_eq_getD_getElem?, Array.getElem?_replicate]; split <;> rfl
          rw [this] at hlj; cases hlj
        · intro j hlj
          exfalso
          have : (Array.replicate ops.size false).getD j false = false := by
            simp only [Array.getD_eq_getD_getElem?, Array.getElem?_replicate]; split <;> rfl
          rw [this] at hlj; cases hlj
        · obtain ⟨G, g0, gb, g1, g2, g3, g4⟩ := hs
          have hrep : ∀ j, (Array.replicate ops.size false).getD j false = false := by
            intro j
            simp only [Array.getD_eq_getD_getElem?, Array.getElem?_replicate]; split <;> rfl
          have e1 : sig ops (s.slot C.pers) ds (fun j => (Array.replicate ops.size false).getD j false) (tailAt ops) = s.slot C.pers := by
            funext t
            exact sig_skip (ops := ops) (σ0 := s.slot C.pers) (ds := ds) (E := fun j => (Array.replicate ops.size false).getD j false) (t := t) (a := 0) (tailAt ops) (Nat.zero_le _) (fun j _ _ hE => by
              rw [hrep] at hE; cases hE)
          rw [e1, hpE_none _ (fun j _ => hrep j), k2]
          obtain ⟨q1, q2⟩ := g0.drawn (w.drawn + 1)
          exact ⟨G, q1, gb, g1, g2, fun t => Rel.evo _ q2 (g4 t)⟩
    · cases h1
  all_goals exfalso; (repeat' split at hc) <;> simp_all
end
section
variable {M : Mod} {j i : Nat} {dst : Dst} {a g : Opd} {q : Bool} {r : List (RO × Bool)} {K : St → Prop} {s : St} {want : Bool} {oc : OC} {args : List Opd}
theorem x_nil (h : K s) : opsX M j i [] K s := h
end
end GoV
end
section
set_option linter.unusedSimpArgs false
set_option linter.unusedVariables false
set_option maxHeartbeats 1000000
namespace GoV
open Go
section
variable {C : Cfg} {w0 : World} {B : Gh}
def AnyF (M : Mod) (F : (Nat → Bool) → Hp) (i : Nat) (oc : OC) (ds : List D) (d : D) : Prop := ∀ E : Nat → Bool, E i = false → OcWp M oc ds (F E) (fun d' hp' => d' = d ∧ hp' = F (fun j => E j || j == i))
def Still (F : (Nat → Bool) → Hp) (i : Nat) : Prop := ∀ E : Nat → Bool, E i = false → F (fun j => E j || j == i) = F E
def headF (M : Mod) (F : (Nat → Bool) → Hp) (i : Nat) (o : RO) (K : St → Prop) (s : St) : Prop :=
  match o.guard with
  | none => ∃ d, AnyF M F i o.oc (o.args.map s.get) d ∧ K (s.put o.dst d)
  | some (g, want) =>
    match s.get g with
    | .bool b => (b = want → ∃ d, AnyF M F i o.oc (o.args.map (s.setO g (.bool want)).get) d ∧ K ((s.setO g (.bool want)).put o.dst d)) ∧
        (b = (!want) → Still F i ∧ K ((s.setO g (.bool (!want))).put o.dst .skip))
    | .skip => Still F i ∧ K (s.put o.dst .skip)
    | _ => False
def opsF (M : Mod) (F : (Nat → Bool) → Hp) : Nat → List (RO × Bool) → (St → Prop) → St → Prop
  | j, [], K, s => K { s with hp := F (fun k => decide (k < j)) }
  | i, (o, _) :: r, K, s => headF M F i o (opsF M F (i + 1) r K) s
end
section
variable {M : Mod} {F : (Nat → Bool) → Hp} {i : Nat} {dst : Dst} {q : Bool} {r : List (RO × Bool)} {K : St → Prop} {s : St} {oc : OC} {args : List Opd}
theorem y_end {hp' : Hp} (hh : F (fun k => decide (k < i)) = hp') (h : K { s with hp := hp' }) : opsF M F i [] K s := by subst hh; exact h
theorem y_op (d : D) (h1 : AnyF M F i oc (args.map s.get) d) (h : opsF M F (i + 1) r K (s.put dst d)) : opsF M F i ((⟨dst, oc, args, none⟩, q) :: r) K s := ⟨d, h1, h⟩
theorem any_still {ds : List D} {d : D} (hF : Still F i) (h : ∀ hp2, OcWp M oc ds hp2 (fun d' hp' => d' = d ∧ hp' = hp2)) : AnyF M F i oc ds d := fun E hE => by rw [hF E hE]; exact h _
theorem y_q {ds : List D} (d : D) (ha : args.map s.get = ds) (hF : Still F i) (ho : ∀ hp2, OcWp M oc ds hp2 (fun d' hp' => d' = d ∧ hp' = hp2)) (h : opsF M F (i + 1) r K (s.put dst d)) : opsF M F i ((⟨dst, oc, args, none⟩, q) :: r) K s :=
  y_op d (by rw [ha]; exact any_still hF ho) h
theorem y_c {ds : List D} {d : D} (ha : args.map s.get = ds) (h1 : AnyF M F i oc ds d) (h : opsF M F (i + 1) r K (s.put dst d)) : opsF M F i ((⟨dst, oc, args, none⟩, q) :: r) K s :=
  y_op d (by rw [ha]; exact h1) h
theorem y_cg {g : Opd} {want : Bool} {ds : List D} {d : D} (hg : s.get g = .bool want) (ha : args.map (s.setO g (.bool want)).get = ds) (h1 : AnyF M F i oc ds d) (h : opsF M F (i + 1) r K ((s.setO g (.bool want)).put dst d)) :
    opsF M F i ((⟨dst, oc, args, some (g, want)⟩, q) :: r) K s := by
  simp only [opsF, headF, hg]
  exact ⟨fun _ => ⟨d, by rw [ha]; exact h1, h⟩, fun e => by cases want <;> cases e⟩
theorem y_qg {g : Opd} {want : Bool} {ds : List D} (d : D) (hg : s.get g = .bool want) (ha : args.map (s.setO g (.bool want)).get = ds) (hF : Still F i) (ho : ∀ hp2, OcWp M oc ds hp2 (fun d' hp' => d' = d ∧ hp' = hp2)) (h : opsF M F (i + 1) r K ((s.setO g (.bool want)).put dst d)) :
    opsF M F i ((⟨dst, oc, args, some (g, want)⟩, q) :: r) K s := y_cg hg ha (any_still hF ho) h
end
end GoV
end
section
set_option linter.unusedSimpArgs false
set_option linter.unusedVariables false
namespace GoV
open Go
theorem take_range_get {l : List Nat} {n i : Nat} (h : l.take n = List.range n) (hi : i < n) : l[i]? = some i := by
  have : (l.take n)[i]? = some i := by rw [h]; simp [hi]
  rwa [List.getElem?_take, if_pos hi] at this
def St.sel (s : St) (bl tl : List Nat) : St := ⟨D.rnL (posF bl) (posF tl) s.env, [], s.hp.sel bl tl⟩
theorem weak_sel {C : Cfg} {s : St} (bl tl : List Nat) (hs : SelOk s.hp bl tl) (hb : bl.take C.n0 = List.range C.n0) (ht : tl.take C.m0 = List.range C.m0) : Weak C s (s.sel bl tl) := by
  intro w0 B a w h
  obtain ⟨G, g0, gb, g1, g2, g3, g4⟩ := h
  have h0 := g0.heap
  obtain ⟨_, r2⟩ := sel_get (l := G.r) (bl := bl) fun b hb => by rw [← h0.len]; exact hs.bl_ b hb
  obtain ⟨_, t2⟩ := sel_get (l := G.tk) (bl := tl) fun b hb => by rw [← h0.lent]; exact hs.tl_ b hb
  have hr := Ren.sel h0 hs
  have hinv : Inv w0 B (s.sel bl tl).hp w (G.sel bl tl) := by
    refine g0.ghost (h0.sel hs) ⟨fun b o ho => g0.evo.imm b o ho, fun b n hbn => ?_, fun t T hT => ?_⟩ (fun n hn => ?_) (fun n hn => ?_) fun b o ho => .inl ho
    · have e : bl[b]? = some b := take_range_get hb (by rw [← gb.1]; exact lt_of_get hbn)
      exact (r2 b b e).trans (g0.evo.ref b n hbn)
    · have e : tl[t]? = some t := take_range_get ht (by rw [← gb.2]; exact lt_of_get hT)
      obtain ⟨T', q1, q2⟩ := g0.evo.tok t T hT
      exact ⟨T', (t2 t t e).trans q1, q2⟩
    · obtain ⟨c, _, hc⟩ := mem_sel hn
      exact .inl (List.mem_of_getElem? hc)
    · obtain ⟨U, hU, hUb⟩ := mem_blks.1 hn
      obtain ⟨u, _, hu⟩ := mem_sel hU
      exact .inl (mem_blks.2 ⟨U, List.mem_of_getElem? hu, hUb⟩)
  refine ⟨G.sel bl tl, hinv, gb, g1, g2, by simpa [St.sel, rnL_length] using g3, fun t => ?_⟩
  have := g4 t
  unfold St.slot at *
  split
  · rename_i i hi
    rw [hi] at this
    simp only [St.sel, rnL_getD]
    exact Rel.rn _ hr this
  · simp [St.sel, lk, Rel]
def St.toSl (s : St) (i t k n cap : Nat) (cs : List D) : St := ⟨s.env.set i (.sl s.hp.H.length k 0 n cap), [], ⟨s.hp.H ++ [.cells cs], s.hp.tk.set t (.per k (n + 1))⟩⟩
theorem relL_undef {w : World} {g : Gh} : ∀ (xs : List Value), RelL w g (List.replicate xs.length .undef) xs
  | [] => RelL.nil
  | x :: xs => by
    simp only [List.length_cons, List.replicate_succ]
    exact RelL.cons (by simp [Rel]) (relL_undef xs)
theorem swp_sl {C : Cfg} {rc : RC} {Q : Ex → St → Prop} {s : St} (i t k n : Nat) (cs : List D) (hs : s.env.getD i .undef = .gs t n) (hb : s.hp.tk[t]? = some (.chg k cs)) (hl : cs.length = n * k) (hm : C.m0 = 0) (hn : 0 < n)
    (h : ∀ cap, n ≤ cap → SWp C rc Q (s.toSl i t k n cap (cs ++ List.replicate ((cap - n) * k) .undef))) : SWp C rc Q s := by
  refine ⟨fun c hc w0 B hA a w hsim => ?_⟩
  obtain ⟨G, g0, gb, g1, g2, g3, g4⟩ := hsim
  have h0 := g0.heap
  obtain ⟨T, hT, ⟨hk, hcl, hz, hv⟩, hok⟩ := h0.tokBlk hb
  have hTm := List.mem_of_getElem? hT
  subst hk
  have hnT : n = T.len := Nat.eq_of_mul_eq_mul_right hok.1 (hl.symm.trans hcl)
  subst hnT
  obtain ⟨b, hbT⟩ : ∃ b, T.blk = some b := by
    cases e : T.blk with
    | none => have := (hz e).1; omega
    | some b => exact ⟨b, rfl⟩
  obtain ⟨hnI, xs, e, x1, x2⟩ := hv b hbT
  obtain ⟨ad, hbr, hlc, xs', e', y1, y2, y3⟩ := hok.2.2 b hbT
  rw [x1] at y1
  simp only [Option.some.injEq, Obj.cells.injEq] at y1
  obtain ⟨rfl, rfl, _⟩ := y1
  have hxl : xs.toList.length = T.cap * T.k := by rw [Array.length_toList, y2]
  have hle : T.len * T.k ≤ T.cap * T.k := Nat.mul_le_mul_right _ hlc
  have hrest : (xs.toList.drop (T.len * T.k)).length = (T.cap - T.len) * T.k := by rw [List.length_drop, hxl, Nat.sub_mul]
  have hnew : w0.heap.size ≤ b := by
    rcases g0.newt b (mem_blks.2 ⟨T, hTm, hbT⟩) with q | q
    · have : B.tk = [] := List.eq_nil_of_length_eq_zero (by rw [gb.2, hm])
      rw [this] at q; simp [blks] at q
    · exact q
  have hbl : b < w.heap.size := (h0.tok T hTm).lt hbT
  let T' : Tk := ⟨none, none, T.len + 1, T.k, T.len + 1⟩
  let G' : Gh := ⟨G.r ++ [b], G.tk.set t T', G.I⟩
  have htl : t < G.tk.length := lt_of_get hT
  have he : Evo w G w G' := by
    refine ⟨fun c o ho => ⟨ho, rfl⟩, fun c m hc => ?_, fun u U hU => ?_⟩
    · show (G.r ++ [b])[c]? = some m
      rw [List.getElem?_append_left (lt_of_get hc)]; exact hc
    · by_cases e : t = u
      · subst e
        rw [hT] at hU; cases hU
        exact ⟨T', by simp [G', htl], rfl, .inr (Nat.lt_succ_self _)⟩
      · exact ⟨U, by simp [G', List.getElem?_set, e, hU], rfl, .inl rfl⟩
  have getT : ∀ (u : Nat) (U : Tk), G'.tk[u]? = some U → (u = t ∧ U = T') ∨ (u ≠ t ∧ G.tk[u]? = some U) := by
    intro u U hU
    simp only [G', List.getElem?_set] at hU
    by_cases e : t = u
    · subst e; simp [htl] at hU; exact .inl ⟨rfl, hU.symm⟩
    · rw [if_neg e] at hU; exact .inr ⟨fun q => e q.symm, hU⟩
  have notb : ∀ (u : Nat) (U : Tk) (m : Nat), u ≠ t → G.tk[u]? = some U → U.blk = some m → m ≠ b := fun u U m hu hU hm q => by
    subst q
    exact hu (tk_inj h0.tokd hU hT hm hbT)
  have hh : HeapRel w G' ⟨s.hp.H ++ [.cells (cs ++ List.replicate ((T.cap - T.len) * T.k) .undef)], s.hp.tk.set t (.per T.k (T.len + 1))⟩ := by
    refine ⟨by simp [G', h0.len], fun c C' m hC hm => ?_, fun m hm => ?_, ?_, by simp [G', h0.lent], fun u V U hV hU => ?_, fun U hU => ?_, ?_, fun c o ho => ⟨(h0.imm c o ho).1, fun j hj => ?_⟩⟩
    · rcases Nat.lt_or_ge c s.hp.H.length with q | q
      · simp only [List.getElem?_append_left q] at hC
        have hm' : G.r[c]? = some m := by
          have : (G.r ++ [b])[c]? = some m := hm
          rwa [List.getElem?_append_left (by rw [← h0.len]; exact q)] at this
        exact (h0.blk c C' m hC hm').evo he
      · simp only [List.getElem?_append_right q] at hC
        have hc0 : c - s.hp.H.length = 0 := by
          have := lt_of_get hC; simp at this; omega
        rw [hc0] at hC; simp at hC; subst hC
        have hm' : (G.r ++ [b])[c]? = some m := hm
        rw [List.getElem?_append_right (by rw [← h0.len]; exact q), ← h0.len, hc0] at hm'
        simp at hm'; subst hm'
        refine ⟨xs.toList, e, by simpa using x1, ?_, y3⟩
        have hr := (x2.append (relL_undef (xs.toList.drop (T.len * T.k))))
        rw [List.take_append_drop, hrest] at hr
        exact RelL.evo _ he hr
    · rcases List.mem_append.1 hm with q | q
      · exact h0.lt m q
      · simp at q; subst q; exact hbl
    · show (G.r ++ [b]).Nodup
      rw [List.nodup_append]
      refine ⟨h0.nodup, by simp, fun x hx y hy q => ?_⟩
      simp at hy; subst hy; subst q; exact hbr hx
    · rcases getT u U hU with ⟨rfl, rfl⟩ | ⟨q1, q2⟩
      · have : V = .per T.k (T.len + 1) := by
          have hl' : u < s.hp.tk.length := by rw [h0.lent]; exact htl
          simp [hl'] at hV; exact hV.symm
        subst this
        exact ⟨rfl, rfl, fun b' hb' => by simp [T'] at hb'⟩
      · have hV' : s.hp.tk[u]? = some V := by
          simp only [List.getElem?_set] at hV
          rwa [if_neg (fun q => q1 q.symm)] at hV
        exact (h0.tv u V U hV' q2).evo he (fun _ _ _ ho => ho) fun _ _ => rfl
    · obtain ⟨u, hu⟩ := List.mem_iff_getElem?.1 hU
      rcases getT u U hu with ⟨rfl, rfl⟩ | ⟨q1, q2⟩
      · exact ⟨hok.1, fun _ => rfl, fun b' hb' => by simp [T'] at hb'⟩
      · refine (h0.tok U (List.mem_of_getElem? q2)).keep (fun _ _ => rfl) fun m hm hmr hmr' => ?_
        rcases List.mem_append.1 hmr' with p | p
        · exact hmr p
        · simp at p; exact notb u U m q1 q2 hm p
    · refine nodup_blks fun i j U V m hi hj hU hV => ?_
      rcases getT i U hi with ⟨rfl, rfl⟩ | ⟨q1, q2⟩
      · simp [T'] at hU
      · rcases getT j V hj with ⟨rfl, rfl⟩ | ⟨p1, p2⟩
        · simp [T'] at hV
        · exact tk_inj h0.tokd q2 p2 hU hV
    · have hj' : (G.r ++ [b])[j]? = some c := hj
      rcases Nat.lt_or_ge j G.r.length with q | q
      · rw [List.getElem?_append_left q] at hj'
        show (s.hp.H ++ _)[j]? = _
        rw [List.getElem?_append_left (by rw [h0.len]; exact q)]
        exact (h0.imm c o ho).2 j hj'
      · exfalso
        rw [List.getElem?_append_right q] at hj'
        have := List.mem_of_getElem? hj'
        simp at this; subst this
        exact hnI o ho
  have hinv : Inv w0 B ⟨s.hp.H ++ [.cells (cs ++ List.replicate ((T.cap - T.len) * T.k) .undef)], s.hp.tk.set t (.per T.k (T.len + 1))⟩ w G' := by
    refine g0.ghost hh (g0.evo.trans he) (fun m hm => ?_) (fun m hm => ?_) fun c o ho => .inl ho
    · rcases List.mem_append.1 hm with q | q
      · exact .inl q
      · simp at q; subst q; exact .inr hnew
    · obtain ⟨U, hU, hUb⟩ := mem_blks.1 hm
      obtain ⟨u, hu⟩ := List.mem_iff_getElem?.1 hU
      rcases getT u U hu with ⟨rfl, rfl⟩ | ⟨q1, q2⟩
      · simp [T'] at hUb
      · exact .inl (mem_blks.2 ⟨U, List.mem_of_getElem? q2, hUb⟩)
  refine (h T.cap hlc).run c hc w0 B hA a w ⟨G', hinv, gb, g1, g2, by simpa [St.toSl] using g3, fun u => ?_⟩
  have := g4 u
  unfold St.slot at *
  split
  · rename_i j hj
    rw [hj] at this
    simp only at this ⊢
    by_cases e : i = j
    · subst e
      rw [hs] at this
      have hlt : i < s.env.length := by
        rcases Nat.lt_or_ge i s.env.length with q | q
        · exact q
        · simp [List.getD, List.getElem?_eq_none q] at hs
      simp only [Rel] at this
      obtain ⟨ad', cap', T1, p1, p2, p3, p4, p5⟩ := this
      rw [hT] at p3; cases p3
      obtain ⟨rfl, rfl, _⟩ := p5 rfl
      have e1 : (s.toSl i t T.k T.len T.cap (cs ++ List.replicate ((T.cap - T.len) * T.k) .undef)).env.getD i .undef = .sl s.hp.H.length T.k 0 T.len T.cap := by
        simp [St.toSl, List.getD, hlt]
      rw [e1]
      simp only [Rel]
      refine ⟨b, 0, ?_, by rw [p1, ad], fun _ => rfl⟩
      show (G.r ++ [b])[_]? = _
      rw [h0.len, List.getElem?_append_right (Nat.le_refl _)]; simp
    · have e1 : (s.toSl i t T.k T.len T.cap (cs ++ List.replicate ((T.cap - T.len) * T.k) .undef)).env.getD j .undef = s.env.getD j .undef := by
        simp [St.toSl, List.getD, List.getElem?_set, e]
      rw [e1]
      exact Rel.evo _ he this
  · simp [St.toSl, lk, Rel]
end GoV
end
section
set_option linter.unusedSimpArgs false
set_option linter.unusedVariables false
namespace GoV
open Go
theorem call_same {M : Mod} {f : FuncId} {first cap args : List D} {hp : Hp} {K R : D → Hp → Prop} (h : Eff M f (first ++ args ++ cap) hp R) (hk : ∀ d hp1, R d hp1 → K d hp1) : CallOp M (.fn (.func f) first cap :: args) hp K := by
  intro w0 B w G vs hA hi hr
  obtain ⟨fv, av, rfl, h1, h2⟩ := hr.inv
  simp only [Rel] at h1
  obtain ⟨xs, ys, rfl, h3, h4⟩ := h1
  refine .inl ⟨f, xs.toArray, ys.toArray, av, rfl, h.1, ?_⟩
  have hamb : M.amb w G.own := M.up _ _ _ _ hA.1 hi.keeps fun n hn => hi.new n hn
  have hcall := h.2 w G (xs ++ av ++ ys) hamb hi.heap ((h3.append h2).append h4)
  have e : (xs.toArray ++ av.toArray ++ ys.toArray) = (xs ++ av ++ ys).toArray := by simp
  rw [e]
  refine Calls.mono hcall fun e w' hp' => ?_
  obtain ⟨v, d, hp1, g1, rfl, hR, g3, g4⟩ := hp'
  exact ⟨v, d, hp1, g1, rfl, hk d hp1 hR, hi.join g3, g3.evo, g4⟩
mutual
def D.nn : D → D
  | .slice es o => .slice (D.nnL es) o
  | .agg cs => .agg (D.nnL cs)
  | .tup vs => .tup (D.nnL vs)
  | .lit (.slice none 0 0) => .slice [] .no
  | d => d
def D.nnL : List D → List D
  | [] => []
  | d :: ds => D.nn d :: D.nnL ds
end
mutual
theorem Rel.nn {w : World} {g : Gh} : ∀ (d : D) {x : Value}, Rel w g d x → Rel w g d.nn x
  | .slice es o, x, h => by
    simp only [D.nn]
    simp only [Rel] at h ⊢
    have hl : (D.nnL es).length = es.length := nnL_length es
    obtain ⟨a, cap, k, xs, h1, h2, h3, h4, h5, h6⟩ := h
    refine ⟨a, cap, k, xs, ?_, by rw [hl]; exact h2, RelL.nn es h3, h4, h5, by rw [hl]; exact h6⟩
    rcases h1 with h1 | ⟨h1, rfl, h8⟩
    · exact .inl (by rw [hl]; exact h1)
    · exact .inr ⟨h1, rfl, h8⟩
  | .agg cs, x, h => by
    simp only [D.nn]
    simp only [Rel] at h ⊢
    obtain ⟨xs, h1, h2, h3⟩ := h
    exact ⟨xs, h1, RelL.nn cs h2, h3⟩
  | .tup cs, x, h => by
    simp only [D.nn]
    simp only [Rel] at h ⊢
    obtain ⟨xs, h1, h2⟩ := h
    exact ⟨xs, h1, RelL.nn cs h2⟩
  | .lit v, x, h => by
    unfold D.nn
    split
    · simp_all
    · simp_all
    · simp_all
    · rename_i e
      simp only [D.lit.injEq] at e
      subst e
      simp only [Rel] at h ⊢
      obtain ⟨rfl, _⟩ := h
      exact ⟨⟨0, 0, none⟩, 0, 0, [], .inr ⟨by simp, by simp, rfl⟩, by simp, RelL.nil, by simp, At.nil, trivial⟩
    · exact h
  | .undef, x, h => h
  | .skip, x, h => h
  | .int _ _, x, h => h
  | .bool _, x, h => h
  | .str _, x, h => h
  | .iface _ _, x, h => h
  | .fn _ _ _, x, h => h
  | .ptr _ _, x, h => h
  | .ip _, x, h => h
  | .sl _ _ _ _ _, x, h => h
  | .gs _ _, x, h => h
  | .gp _ _ _, x, h => h
  | .mp _, x, h => h
theorem RelL.nn {w : World} {g : Gh} : ∀ (ds : List D) {xs : List Value}, RelL w g ds xs → RelL w g (D.nnL ds) xs
  | [], xs, h => h
  | d :: ds, xs, h => by
    obtain ⟨y, ys, rfl, h1, h2⟩ := h.inv
    exact RelL.cons (Rel.nn d h1) (RelL.nn ds h2)
theorem nnL_length : ∀ ds : List D, (D.nnL ds).length = ds.length
  | [] => rfl
  | d :: ds => by simp [D.nnL, nnL_length ds]
end
theorem pur_res {M : Mod} {f : FuncId} {args : List D} {d d' : D} (h : Pur M f args d) (e : d.nn = d') : Pur M f args d' :=
  ⟨h.1, fun w g xs hA hh hr => Calls.mono (h.2 w g xs hA hh hr) fun en w' ⟨v, d1, hp1, g1, e1, ⟨e2, e3⟩, h1, h2⟩ => ⟨v, d', hp1, g1, e1, ⟨rfl, e3⟩, h1, by subst e2; subst e; exact Rel.nn _ h2⟩⟩
section
variable {P : Mod} {dst : Dst} {r : List RO} {rq : List (RO × Bool)} {K : St → Prop} {s : St} {ds : List D}
theorem o_same {f : FuncId} {first cap args : List D} {hp0 hp1 : Hp} {d : D} (h : Eff P f args hp0 fun d' hp' => d' = d ∧ hp' = hp1) (he : first ++ ds ++ cap = args) (hh : s.hp = hp0)
    (hk : opsWp P r K ({ s with hp := hp1 }.put dst d)) : OpS P .call (.fn (.func f) first cap :: ds) dst r K s := by
  unfold OpS OcWp
  simp only [isCall, if_true]
  subst he; subst hh
  exact call_same h (by rintro d' hp' ⟨rfl, rfl⟩; exact hk)
end
end GoV
end
section
set_option linter.unusedSimpArgs false
set_option linter.unusedVariables false
namespace GoV
open Go
end GoV
end
section
set_option linter.unusedSimpArgs false
set_option linter.unusedVariables false
namespace GoV
open Go
section
variable {C : Cfg} {x y : RC} {s s' : St} {i j : Nat}
end
end GoV
end
section
set_option linter.unusedSimpArgs false
set_option linter.unusedVariables false
set_option maxHeartbeats 1000000
namespace GoV
open Go
section
variable {P : Program} {ρ : Operand → Value} {o : Oper} {w0 : World} {g0 : Gh} {hp : Hp} {w : World} {g : Gh} {K : D → Hp → Prop}
theorem done_newG {t : TypeId} {z : List D} {tt : Nat} (hop : o.op = .alloc t) (hz : zeroDs P t = some z) (hi : Inv w0 g0 hp w g) (hpos : 0 < z.length) (hV : hp.tk[tt]? = some (.chg z.length []))
    (h : K (.gp tt 1 0) { hp with tk := hp.tk.set tt (.chg z.length z) }) : Done P ρ o w0 g0 w g K := by
  obtain ⟨i, zv, h1, h2, h3⟩ := zeroDs_spec hz
  obtain ⟨f1, f2⟩ := toDs_rel (w := w) (g := g) h3
  obtain ⟨T, hgT, ⟨hk, hcs, hn0, hIb⟩, hok⟩ := hi.heap.tokBlk hV
  have hT0 : T.len = 0 := by
    rcases Nat.eq_zero_or_pos T.len with q | q
    · exact q
    · have := Nat.mul_pos q hok.1
      simp only [List.length_nil] at hcs
      omega
  have hlen : zv.cells.toList.length = z.length := f1.length
  obtain ⟨q1, q2⟩ := hi.goTok (w' := w.alloc (.cells zv.cells.toList.toArray t (0, 0))) (T' := ⟨some w.heap.size, some ⟨w.heap.size, 0, none⟩, 1, T.k, 1⟩) (I' := g.I) (V' := .chg z.length z) hgT rfl (.inr (by simp only [hT0]; omega))
    (fun n hlt _ => heap_alloc_lt w _ n hlt) (by simp) rfl rfl rfl (fun n hn => by simp at hn; subst hn; exact .inr (Nat.le_refl _)) (fun c o ho => ⟨ho, cell_of_heap (heap_alloc_lt w _ c (hi.heap.imm c o ho).1)⟩) (fun c o ho => .inl ho)
    ⟨hok.1, by simp, fun c hc => by simp at hc; subst hc; exact ⟨rfl, fun hm => by have := hi.heap.lt _ hm; omega, Nat.le_refl _, _, t, heap_alloc_at w _, by rw [List.size_toArray, hlen, ← hk]; simp, by simpa using f2⟩⟩
    (fun he => ⟨hk, by simp only [hk]; omega, by simp, fun c hc => by
      simp at hc; subst hc
      refine ⟨fun o ho => ?_, _, t, heap_alloc_at w _, ?_⟩
      · have := (hi.heap.imm _ o ho).1; omega
      · have e : (zv.cells.toList.toArray.toList.take (1 * T.k)) = zv.cells.toList := by
          rw [List.toList_toArray, Nat.one_mul, ← hk, ← hlen, List.take_length]
        rw [e]
        exact RelL.evo _ he f1.any⟩)
  refine ⟨_, _, _, .pointer (some ⟨w.heap.size, 0, none⟩), _, h, q1, q2, ?_, .inl ?_⟩
  · simp only [Rel]
    exact ⟨_, _, rfl, set_get hgT, Nat.le_refl _, fun _ => ⟨_, rfl, rfl⟩⟩
  · simp [execOp, hop, Instr.alloc, zeroValue, typeInfo, h1, h2, newVar, newRow]
end
theorem resolve_newb {P : Program} {op : Op} {z : List D} {xs : List Operand} (h : resolveOp P op = some (.newb z, xs)) : ∃ t, op = .alloc t ∧ zeroDs P t = some z := by
  cases op <;> simp only [resolveOp] at h <;> try (cases h; done)
  case alloc t =>
    cases hz : zeroDs P t with
    | none => simp [hz] at h
    | some z' =>
      simp only [hz, Option.map_some, Option.some.injEq, Prod.mk.injEq] at h
      obtain ⟨h, _⟩ := h
      split at h
      · cases h
      · cases h; exact ⟨t, rfl, hz⟩
  all_goals exfalso
  case convert => simp only [Option.map_eq_some_iff, Prod.mk.injEq] at h; obtain ⟨oc, h1, rfl, _⟩ := h; unfold resCv at h1; (repeat' split at h1) <;> simp at h1
  case buildSlice => simp only [Option.map_eq_some_iff, Prod.mk.injEq] at h; obtain ⟨oc, h1, rfl, _⟩ := h; unfold resBsl at h1; (repeat' split at h1) <;> simp at h1
  case makeSlice => simp only [Option.map_eq_some_iff, Prod.mk.injEq] at h; obtain ⟨oc, h1, rfl, _⟩ := h; unfold resMks at h1; (repeat' split at h1) <;> simp at h1
  case slice =>
    split at h
    · simp only [Option.map_eq_some_iff, Prod.mk.injEq] at h; obtain ⟨oc, h1, rfl, _⟩ := h; unfold resSlc at h1; (repeat' split at h1) <;> simp at h1
    · split at h
      · simp only [Option.map_eq_some_iff, Prod.mk.injEq] at h; obtain ⟨oc, h1, h2, _⟩ := h; cases h2
      · cases h
  case call c =>
    simp only [resCall] at h
    cases hc : c.callee with
    | value g => simp [hc] at h
    | invoke r m => simp [hc] at h
    | builtin b =>
      cases b <;> simp only [hc] at h <;> try (cases h; done)
      all_goals (repeat' split at h) <;> simp_all
  all_goals try unfold resBin at h
  all_goals (repeat' split at h) <;> simp_all
def Fill (oc : OC) (ds : List D) (hp hp1 : Hp) (d : D) : Prop :=
  ∃ z t, oc = .newb z ∧ ds = [] ∧ 0 < z.length ∧ hp.tk[t]? = some (.chg z.length []) ∧ d = .gp t 1 0 ∧ hp1 = { hp with tk := hp.tk.set t (.chg z.length z) }
def OcG (M : Mod) (oc : OC) (ds : List D) (hp hp1 : Hp) (d : D) : Prop := OcWp M oc ds hp (fun d' hp' => d' = d ∧ hp' = hp1) ∨ Fill oc ds hp hp1 d
def StepG (C : Cfg) (ops : Array Oper) (hp hp1 : Hp) (σ : Nat → D) (o : Oper) (d : D) : Prop :=
  ∃ oc xs, resolveOp C.P o.op = some (oc, xs) ∧ (∃ ys, resOs C xs = some ys) ∧ (∃ ds, resDst C o.dst = some ds) ∧
    ((o.guard = none ∧ OcG C.M oc (xs.map (evO σ)) hp hp1 d) ∨
     ∃ j want t, o.guard = some (j, want) ∧ (ops[j]?).bind (·.dst) = some t ∧ t < C.nt ∧
      ((σ t = .bool want ∧ OcG C.M oc (xs.map (evO σ)) hp hp1 d) ∨ (σ t = .bool (!want) ∧ d = .skip ∧ hp1 = hp) ∨ (σ t = .skip ∧ d = .skip ∧ hp1 = hp)))
section
variable {C : Cfg} {w0 : World} {B : Gh}
theorem StepG.congr {ops : Array Oper} {hp hp1 : Hp} {σ σ' : Nat → D} {o : Oper} {d : D} (h : StepG C ops hp hp1 σ o d) (hs : ∀ t ∈ o.looksAt ops, σ t = σ' t) : StepG C ops hp hp1 σ' o d := by
  obtain ⟨oc, xs, h1, h2, h3, h4⟩ := h
  have hm : xs.map (evO σ) = xs.map (evO σ') := by
    refine List.map_congr_left fun x hx => ?_
    have := resolve_sub h1 x hx
    cases x with
    | tmp t =>
      refine hs t ?_
      simp only [Oper.looksAt, List.mem_append, List.mem_filterMap]
      exact .inl ⟨.tmp t, by simpa using this, rfl⟩
    | _ => rfl
  refine ⟨oc, xs, h1, h2, h3, ?_⟩
  rw [← hm]
  rcases h4 with h4 | ⟨j, want, t, g1, g2, g3, g4⟩
  · exact .inl h4
  · refine .inr ⟨j, want, t, g1, g2, g3, ?_⟩
    rw [← hs t (by simp [Oper.looksAt, g1, g2])]
    exact g4
theorem StepG.sound {ro : Option Nat} (hA : C.M.start w0 B) {ops : Array Oper} {hp hp1 : Hp} {σ : Nat → D} {o : Oper} {d : D} {Q : Exit → Act → World → Prop} {next : Act → World → Prop} (h : StepG C ops hp hp1 σ o d) {a : Act} {w : World} (hs : SimF C w0 B σ hp a w)
    (ih : ∀ a w, SimF C w0 B (updO σ o.dst d) hp1 a w → next a w) :
    if Region.wanted o (yielded ops a.tmps) then o.wpIn (FR ro) 0 C.P a w next Q else (∀ f, o.about C.P w a.eval = some f → (FR ro).fn f) ∧ next (a.put o.dst Go.undef) w := by
  obtain ⟨oc, xs, h1, ⟨ys, h2⟩, ⟨ds, h3⟩, h4⟩ := h
  obtain ⟨G, hi, gb, g1, g2, g4⟩ := hs
  have run : OcG C.M oc (xs.map (evO σ)) hp hp1 d → o.wpIn (FR ro) 0 C.P a w next Q := by
    rintro (hoc | ⟨z, t, rfl, _, hpos, hV, rfl, rfl⟩)
    · refine OcWp_sound h1 hA hi (rel_evO g4 h2) hoc ?_
      rintro d' hp' G' v w' ⟨rfl, rfl⟩ k2 k3 k4
      refine ih _ _ ⟨G', k2, gb, by rw [actput_size]; exact g1, by rw [actput_def]; exact g2, ?_⟩
      exact updO_rel (fun t => Rel.evo _ k3 (g4 t)) g1 h3 k4
    · obtain ⟨ty, hop, hz⟩ := resolve_newb h1
      obtain ⟨d', hp', G', v, w', ⟨rfl, rfl⟩, k2, k3, k4, k5⟩ := done_newG (ρ := a.eval) (o := o) (K := fun d' hp' => d' = .gp t 1 0 ∧ hp' = { hp with tk := hp.tk.set t (.chg z.length z) }) hop hz hi hpos hV ⟨rfl, rfl⟩
      have hnd : ∀ c, o.op ≠ .defer c := by
        intro c hc
        rw [hop] at hc; cases hc
      unfold Oper.wpIn
      rw [Oper.semAt_eq _ _ _ hnd]
      refine ⟨fun _ _ => trivial, ?_⟩
      have fin : next (a.put o.dst v) w' := ih _ _ ⟨G', k2, gb, by rw [actput_size]; exact g1, by rw [actput_def]; exact g2, updO_rel (fun t => Rel.evo _ k3 (g4 t)) g1 h3 k4⟩
      rcases k5 with k5 | ⟨k5, rfl⟩ <;> rw [k5] <;> exact fin
  have skp : d = .skip ∧ hp1 = hp → next (a.put o.dst Go.undef) w := by
    rintro ⟨rfl, rfl⟩
    refine ih _ _ ⟨G, hi, gb, by rw [actput_size]; exact g1, by rw [actput_def]; exact g2, ?_⟩
    exact updO_rel g4 g1 h3 (by simp [Rel])
  rcases h4 with ⟨hog, h4⟩ | ⟨j, want, t, hog, hj, htn, h4⟩
  · simp only [Region.wanted, hog, if_true]; exact run h4
  · have hlt : t < a.tmps.size := g1.symm ▸ htn
    have hy : yielded ops a.tmps j = match a.tmps.getD t Go.undef with | .bool b => some b | _ => none := by
      simp [yielded, hj, Array.getD_eq_getD_getElem?, hlt]
      cases a.tmps[t] <;> rfl
    have hrel := g4 t
    rcases h4 with ⟨e, h4⟩ | ⟨e, h4⟩ | ⟨e, h4⟩
    · rw [e] at hrel; simp only [Rel] at hrel
      have : Region.wanted o (yielded ops a.tmps) = true := by
        simp only [Region.wanted, hog]; rw [hy, hrel]; cases want <;> rfl
      rw [this]; simp only [if_true]; exact run h4
    · rw [e] at hrel; simp only [Rel] at hrel
      have : Region.wanted o (yielded ops a.tmps) = false := by
        simp only [Region.wanted, hog]; rw [hy, hrel]; cases want <;> rfl
      rw [this]; simp only [Bool.false_eq_true, if_false]; exact ⟨fun _ _ => trivial, skp h4⟩
    · rw [e] at hrel; simp only [Rel] at hrel
      have : Region.wanted o (yielded ops a.tmps) = false := by
        simp only [Region.wanted, hog]; rw [hy, hrel]; cases want <;> rfl
      rw [this]; simp only [Bool.false_eq_true, if_false]; exact ⟨fun _ _ => trivial, skp h4⟩
def depB (a b : RO) : Bool := match a.dst with
  | .var n => b.args.any fun x => match x with | .var k => k == n | _ => false
  | .loc n => b.args.any fun x => match x with | .loc k => k == n | _ => false
  | .none => false
theorem resOs_mem {C : Cfg} : ∀ {xs : List Operand} {ys : List Opd}, resOs C xs = some ys → ∀ y ∈ ys, ∃ x ∈ xs, resO C x = some y
  | [], ys, h, y, hy => by simp [resOs] at h; subst h; simp at hy
  | x :: xs, ys, h, y, hy => by
    simp only [resOs] at h
    split at h
    · rename_i y' ys' h1 h2
      simp only [Option.some.injEq] at h
      subst h
      rcases List.mem_cons.1 hy with rfl | hy
      · exact ⟨x, by simp, h1⟩
      · obtain ⟨x', q1, q2⟩ := resOs_mem h2 y hy
        exact ⟨x', by simp [q1], q2⟩
    · cases h
theorem resO_var {C : Cfg} {x : Operand} {n : Nat} (h : resO C x = some (.var n)) : ∃ t, x = .tmp t ∧ idx t C.pers = some n := by
  cases x with
  | tmp t =>
    have := (resO_tmp h).1
    cases hi : idx t C.pers with
    | some i => rw [hi] at this; simp at this; subst this; exact ⟨t, rfl, hi⟩
    | none => rw [hi] at this; simp at this
  | _ => exfalso; simp only [resO] at h; (repeat' split at h) <;> simp_all
theorem resO_loc {C : Cfg} {x : Operand} {n : Nat} (h : resO C x = some (.loc n)) : x = .tmp n ∧ idx n C.pers = none := by
  cases x with
  | tmp t =>
    have := (resO_tmp h).1
    cases hi : idx t C.pers with
    | some i => rw [hi] at this; simp at this
    | none => rw [hi] at this; simp at this; subst this; exact ⟨rfl, hi⟩
  | _ => exfalso; simp only [resO] at h; (repeat' split at h) <;> simp_all
theorem resOp1_inv {C : Cfg} {ops : Array Oper} {o : Oper} {x : RO} (h : resOp1 C ops o = some x) : ∃ xs, resolveOp C.P o.op = some (x.oc, xs) ∧ resOs C xs = some x.args ∧ resDst C o.dst = some x.dst := by
  unfold resOp1 at h
  split at h
  · rename_i oc xs h1
    split at h
    · rename_i args dst guard h2 h3 h4
      simp only [Option.some.injEq] at h
      subst h
      exact ⟨xs, h1, h2, h3⟩
    · cases h
  · cases h
theorem resDst_var {C : Cfg} {o : Option Nat} {n : Nat} (h : resDst C o = some (.var n)) : ∃ t, o = some t ∧ idx t C.pers = some n := by
  cases o with
  | none => simp [resDst] at h
  | some t =>
    simp only [resDst] at h
    split at h
    · cases hi : idx t C.pers with
      | some i => rw [hi] at h; simp at h; subst h; exact ⟨t, rfl, hi⟩
      | none => rw [hi] at h; simp at h
    · cases h
theorem resDst_loc {C : Cfg} {o : Option Nat} {n : Nat} (h : resDst C o = some (.loc n)) : o = some n := by
  cases o with
  | none => simp [resDst] at h
  | some t =>
    simp only [resDst] at h
    split at h
    · cases hi : idx t C.pers with
      | some i => rw [hi] at h; simp at h
      | none => rw [hi] at h; simp at h; subst h; rfl
    · cases h
theorem depB_op {C : Cfg} {ops : Array Oper} {oi oj : Oper} {a b : RO} (h1 : resOp1 C ops oi = some a) (h2 : resOp1 C ops oj = some b) (h : depB a b = true) : ∃ t, oi.dst = some t ∧ t ∈ namesOf ops oj := by
  obtain ⟨xi, _, _, e1⟩ := resOp1_inv h1
  obtain ⟨xj, q1, q2, _⟩ := resOp1_inv h2
  have mem : ∀ t, Operand.tmp t ∈ xj → t ∈ namesOf ops oj := fun t ht => by
    have := resolve_sub q1 _ ht
    simp only [namesOf, Oper.looksAt, List.mem_append, List.mem_filterMap]
    exact .inr (.inl ⟨.tmp t, by simpa using this, rfl⟩)
  unfold depB at h
  split at h
  · rename_i n e
    rw [e] at e1
    obtain ⟨t, f1, f2⟩ := resDst_var e1
    obtain ⟨y, hy, h⟩ := List.any_eq_true.1 h
    split at h
    · rename_i k
      simp only [beq_iff_eq] at h
      subst h
      obtain ⟨x, hx, f3⟩ := resOs_mem q2 _ hy
      obtain ⟨t', rfl, f4⟩ := resO_var f3
      have e2 := idx_some f2; have e3 := idx_some f4
      rw [e2] at e3; cases e3
      exact ⟨t, f1, mem t hx⟩
    · cases h
  · rename_i n e
    rw [e] at e1
    have f1 := resDst_loc e1
    obtain ⟨y, hy, h⟩ := List.any_eq_true.1 h
    split at h
    · rename_i k
      simp only [beq_iff_eq] at h
      subst h
      obtain ⟨x, hx, f3⟩ := resOs_mem q2 _ hy
      obtain ⟨rfl, _⟩ := resO_loc f3
      exact ⟨_, f1, mem _ hx⟩
    · cases h
  · cases h
def Lg (L : List (Nat × Nat)) (E : Nat → Bool) : Prop := ∀ p ∈ L, E p.2 = true → E p.1 = true
def Rdy (L : List (Nat × Nat)) (i : Nat) (E : Nat → Bool) : Prop := ∀ p ∈ L, p.2 = i → E p.1 = true
theorem draw_soundG {ro : Option Nat} (hA : C.M.start w0 B) {ops : Array Oper} {m : Nat} {ros : List RO} {K : St → Prop} {Q : Exit → Act → World → Prop} (hB : drawOk ops m = true) (hm : m ≤ ops.size) (hr : resOps C ops (List.range' 0 ops.size) = some ros)
    (hQ : ∀ s a w, K s → Sim C w0 B s a w → Q .normal a w) {s : St} (_hl : s.env.length = C.pers.length)
    {ds : Nat → D} {F : (Nat → Bool) → Hp} {s1 : St} (hk1 : opsWp C.M (ros.drop m) K s1) (hpm : F (fun j => decide (j < m)) = s1.hp) (hl1 : s1.env.length = C.pers.length)
    {L : List (Nat × Nat)} (hDp : ∀ p ∈ L, p.1 < p.2 ∧ p.2 < m ∧ ∃ oi oj t, ops[p.1]? = some oi ∧ ops[p.2]? = some oj ∧ oi.dst = some t ∧ t ∈ namesOf ops oj)
    (hst : ∀ i, i < m → ∃ o, ops[i]? = some o ∧ ∀ E : Nat → Bool, E i = false → Lg L E → Rdy L i E → StepG C ops (F E) (F (fun j => E j || j == i)) (sig ops (s.slot C.pers) ds (fun _ => true) i) o (ds i))
    (hend : sig ops (s.slot C.pers) ds (fun _ => true) m = s1.slot C.pers) :
    ∀ (fuel : Nat) (listed : Array Bool) (a : Act) (w : World), listed.size = ops.size → unl listed.toList ≤ fuel →
      (∀ j oj, ops[j]? = some oj → listed.getD j false = true → ∀ e ∈ oj.after, Region.binds .any e = true → listed.getD e.on false = true) →
      (((∀ j, listed.getD j false = true → j < m) ∧ SimF C w0 B (sig ops (s.slot C.pers) ds (fun j => listed.getD j false) m) (F (fun j => listed.getD j false)) a w) ∨
        ∃ i s', m ≤ i ∧ (∀ j, j < ops.size → (listed.getD j false = true ↔ j < i)) ∧ Sim C w0 B s' a w ∧ opsWp C.M (ros.drop i) K s') →
      wpAnyIn (FR ro) 0 C.P .any ops Q fuel listed a w := by
  have hros : ros.length = ops.size := by rw [resOps_length _ _ hr]; simp
  have hsub : ∀ (listed : Array Bool), (∀ j oj, ops[j]? = some oj → listed.getD j false = true → ∀ e ∈ oj.after, Region.binds .any e = true → listed.getD e.on false = true) →
      ∀ j oj, ops[j]? = some oj → (∀ e ∈ oj.after, Region.binds .any e = true → listed.getD e.on false = true) → ∀ i ∈ (befores ops.toList).getD j [], listed.getD i false = true := by
    intro listed hcl j
    induction j using Nat.strongRecOn with
    | _ j ih =>
      intro oj hj ha i hi
      obtain ⟨e, he, hbd, h1⟩ := mem_befores (by simpa using hj) hi
      rcases h1 with h1 | h1
      · rw [h1]; exact ha e he hbd
      · have hlt := (drawOk_spec hB hj).1 e he hbd
        have hjs : j < ops.size := (Array.getElem?_eq_some_iff.1 hj).1
        have hoe : ops[e.on]? = some ops[e.on] := Array.getElem?_eq_getElem (by omega)
        exact ih e.on hlt _ hoe (hcl e.on _ hoe (ha e he hbd)) i h1
  have hbefL : ∀ p ∈ L, p.1 ∈ (befores ops.toList).getD p.2 [] := fun p hp => by
    obtain ⟨q0, q1, oi, oj, t, q2, q3, q4, q5⟩ := hDp p hp
    obtain ⟨oi', h1, h2⟩ := (drawOk_spec hB q3).2 p.1 q0
    rw [q2] at h1; cases h1
    rcases h2 with h2 | h2
    · exact h2
    · exact absurd q5 ((clash_spec h2.2).1 t q4)
  have conv : ∀ (listed : Array Bool) (a : Act) (w : World), (∀ j, listed.getD j false = true → j < m) → (∀ j, j < m → listed.getD j false = true) →
      SimF C w0 B (sig ops (s.slot C.pers) ds (fun j => listed.getD j false) m) (F (fun j => listed.getD j false)) a w → Sim C w0 B s1 a w := by
    intro listed a w h1 h2 hs
    have e : sig ops (s.slot C.pers) ds (fun j => listed.getD j false) m = s1.slot C.pers := by
      rw [← hend]; funext t
      exact sig_agree m fun j hj _ => h2 j hj
    obtain ⟨G, g1, gb, g2, g3, g4⟩ := hs
    have ef : (fun j => listed.getD j false) = (fun j => decide (j < m)) := by
      funext j
      by_cases q : j < m
      · rw [h2 j q, decide_eq_true q]
      · rw [decide_eq_false q]
        cases hb : listed.getD j false with
        | false => rfl
        | true => exact absurd (h1 j hb) q
    rw [ef] at g1
    exact ⟨G, by rw [← hpm]; exact g1, gb, g2, g3, hl1, by rw [← e]; exact g4⟩
  have fin : ∀ (listed : Array Bool) (a : Act) (w : World), (∀ j, j < ops.size → listed.getD j false = true) →
      (((∀ j, listed.getD j false = true → j < m) ∧ SimF C w0 B (sig ops (s.slot C.pers) ds (fun j => listed.getD j false) m) (F (fun j => listed.getD j false)) a w) ∨
        ∃ i s', m ≤ i ∧ (∀ j, j < ops.size → (listed.getD j false = true ↔ j < i)) ∧ Sim C w0 B s' a w ∧ opsWp C.M (ros.drop i) K s') → Q .normal a w := by
    intro listed a w hall h
    rcases h with ⟨h1, h2⟩ | ⟨i, s', h1, h2, h3, h4⟩
    · have hs1 := conv listed a w h1 (fun j hj => hall j (by omega)) h2
      have hmn : ops.size ≤ m := by
        rcases Nat.eq_zero_or_pos ops.size with g | g
        · omega
        · have := h1 (ops.size - 1) (hall _ (by omega)); omega
      rw [List.drop_eq_nil_of_le (by omega)] at hk1
      exact hQ s1 a w hk1 hs1
    · have hin : ops.size ≤ i := by
        rcases Nat.eq_zero_or_pos ops.size with g | g
        · omega
        · have := (h2 (ops.size - 1) (by omega)).1 (hall _ (by omega)); omega
      rw [List.drop_eq_nil_of_le (by omega)] at h4
      exact hQ s' a w h4 h3
  have least : ∀ (listed : Array Bool), listed.size = ops.size → (∀ j oj, ops[j]? = some oj → listed.getD j false = true → ∀ e ∈ oj.after, Region.binds .any e = true → listed.getD e.on false = true) →
      Region.ready .any ops listed = [] → ∀ j, j < ops.size → listed.getD j false = true := by
    intro listed hsz hcl hr0 j
    induction j using Nat.strongRecOn with
    | _ j ih =>
      intro hj
      cases hb : listed.getD j false with
      | true => rfl
      | false =>
        exfalso
        have hoj : ops[j]? = some ops[j] := Array.getElem?_eq_getElem hj
        have : j ∈ Region.ready .any ops listed := by
          rw [mem_ready]
          refine ⟨?_, ops[j], hoj, fun e he hbd => ?_⟩
          · have hlt : j < listed.size := by omega
            simp [hlt] at hb ⊢; exact hb
          · have := (drawOk_spec hB hoj).1 e he hbd
            exact ih e.on this (by omega)
        rw [hr0] at this; cases this
  intro fuel
  induction fuel with
  | zero =>
    intro listed a w hsz hu hcl h
    have hall : ∀ j, j < ops.size → listed.getD j false = true := by
      intro j hj
      have hlt : j < listed.size := by omega
      have := unl_zero listed.toList (by omega) j (by simpa using hlt)
      simp [hlt] at this ⊢; exact this
    refine ⟨?_, fin listed a w hall h⟩
    cases hr0 : Region.ready .any ops listed with
    | nil => rfl
    | cons i l =>
      have : i ∈ Region.ready .any ops listed := by rw [hr0]; simp
      obtain ⟨h1, o, ho, _⟩ := mem_ready.1 this
      have hlt : i < ops.size := (Array.getElem?_eq_some_iff.1 ho).1
      have h2 := hall i hlt
      have hlt2 : i < listed.size := by omega
      simp [hlt2] at h1 h2; rw [h1] at h2; cases h2
  | succ fuel ih =>
    intro listed a w hsz hu hcl h
    refine ⟨fun hr0 => fin listed a w (least listed hsz hcl hr0) h, fun i hi => ?_⟩
    obtain ⟨hun, o, ho, hdeps⟩ := mem_ready.1 hi
    have hlt : i < ops.size := (Array.getElem?_eq_some_iff.1 ho).1
    have hlt2 : i < listed.size := by omega
    have hunf : listed.getD i false = false := by simp [hlt2] at hun ⊢; exact hun
    have hdeps' : ∀ e ∈ o.after, Region.binds .any e = true → listed.getD e.on false = true := hdeps
    have hbef := hsub listed hcl i o ho hdeps'
    have hcl' : ∀ j oj, ops[j]? = some oj → (listed.setIfInBounds i true).getD j false = true → ∀ e ∈ oj.after, Region.binds .any e = true → (listed.setIfInBounds i true).getD e.on false = true := by
      intro j oj hj hlj e he hbd
      rw [listed_set hlt2] at hlj ⊢
      simp only [Bool.or_eq_true, beq_iff_eq] at hlj ⊢
      rcases hlj with g | g
      · exact .inl (hcl j oj hj g e he hbd)
      · subst g
        rw [ho] at hj; cases hj
        exact .inl (hdeps' e he hbd)
    have hu' : unl (listed.setIfInBounds i true).toList ≤ fuel := by
      have := unl_set listed.toList i (by simp [hlt2] at hunf ⊢; exact hunf)
      simp only [Array.toList_setIfInBounds]; omega
    have hafter : m ≤ i → ∀ j, j < ops.size → (listed.getD j false = true ↔ j < i) := by
      intro hmi j hj
      constructor
      · intro hlj
        rcases Nat.lt_trichotomy j i with g | g | g
        · exact g
        · subst g; rw [hunf] at hlj; cases hlj
        · exfalso
          have hoj : ops[j]? = some ops[j] := Array.getElem?_eq_getElem hj
          obtain ⟨oi, hoi, q⟩ := (drawOk_spec hB hoj).2 i g
          rcases q with q | q
          · have := hsub listed hcl j _ hoj (hcl j _ hoj hlj) i q
            rw [hunf] at this; cases this
          · omega
      · intro hji
        obtain ⟨oi, hoi, q⟩ := (drawOk_spec hB ho).2 j hji
        rcases q with q | q
        · exact hbef j q
        · omega
    unfold wpOpIn
    rw [ho]
    by_cases him : i < m
    · 
      rcases h with ⟨h1, h2⟩ | ⟨i', s', h1, h2, h3, h4⟩
      · obtain ⟨o', ho', hq⟩ := hst i him
        rw [ho] at ho'; cases ho'
        have ords : ∀ j, j < m → j ≠ i → ∀ t, t ∈ namesOf ops o → dstO ops j = some t → (listed.getD j false = true ↔ j < i) := by
          intro j hj hji t ht hd
          have hjs : j < ops.size := by omega
          have hoj : ops[j]? = some ops[j] := Array.getElem?_eq_getElem hjs
          have hdj : ops[j].dst = some t := by simpa [dstO, hoj] using hd
          constructor
          · intro hlj
            rcases Nat.lt_or_ge j i with g | g
            · exact g
            · exfalso
              obtain ⟨oi, hoi, q⟩ := (drawOk_spec hB hoj).2 i (by omega)
              rw [ho] at hoi; cases hoi
              rcases q with q | q
              · have := hsub listed hcl j _ hoj (hcl j _ hoj hlj) i q
                rw [hunf] at this; cases this
              · exact (clash_spec q.2).2 t hdj ht
          · intro g
            obtain ⟨oi, hoi, q⟩ := (drawOk_spec hB ho).2 j g
            rw [hoj] at hoi; cases hoi
            rcases q with q | q
            · exact hbef j q
            · exact absurd ht ((clash_spec q.2).1 t hdj)
        have hlook : ∀ t ∈ o.looksAt ops, sig ops (s.slot C.pers) ds (fun _ => true) i t = sig ops (s.slot C.pers) ds (fun j => listed.getD j false) m t := by
          intro t ht
          have ht' : t ∈ namesOf ops o := by simp [namesOf, ht]
          have e1 : sig ops (s.slot C.pers) ds (fun j => listed.getD j false) m t = sig ops (s.slot C.pers) ds (fun j => listed.getD j false) i t := by
            refine sig_skip m (by omega) fun j g1 g2 g3 hd => ?_
            by_cases hji : j = i
            · subst hji; rw [hunf] at g3; cases g3
            · have := (ords j g2 hji t ht' hd).1 g3; omega
          rw [e1]
          exact sig_agree i fun j hj hd => ((ords j (by omega) (by omega) t ht' hd).2 hj).symm
        obtain ⟨o', x, r1, r2, r3⟩ := resOps_drop _ _ i ros hr hlt
        rw [Nat.zero_add, ho] at r1; cases r1
        have hx : ros[i]? = some x := by
          have := List.getElem?_drop (xs := ros) (i := i) (j := 0)
          rw [r3] at this; simpa using this.symm
        have hL : ∀ j, (listed.setIfInBounds i true).getD j false = (listed.getD j false || j == i) := fun j => listed_set hlt2
        have hstep : StepG C ops (F (fun j => listed.getD j false)) (F (fun j => (listed.setIfInBounds i true).getD j false)) (sig ops (s.slot C.pers) ds (fun _ => true) i) o (ds i) := by
          have e : (fun j => (listed.setIfInBounds i true).getD j false) = fun j => listed.getD j false || j == i := funext hL
          rw [e]
          refine hq _ hunf (fun p hp h2 => ?_) (fun p hp e2 => ?_)
          · obtain ⟨_, _, oi, oj, t, _, q2, _, _⟩ := hDp p hp
            exact hsub listed hcl p.2 _ q2 (hcl p.2 _ q2 h2) p.1 (hbefL p hp)
          · exact hbef p.1 (e2 ▸ hbefL p hp)
        refine StepG.sound hA (hstep.congr hlook) h2 fun a' w' hs' => ih _ a' w' (by simpa using hsz) hu' hcl' (.inl ⟨fun j hj => ?_, ?_⟩)
        · rw [listed_set hlt2] at hj
          simp only [Bool.or_eq_true, beq_iff_eq] at hj
          rcases hj with g | g
          · exact h1 j g
          · omega
        · have e2 : sig ops (s.slot C.pers) ds (fun j => (listed.setIfInBounds i true).getD j false) m = updO (sig ops (s.slot C.pers) ds (fun j => listed.getD j false) m) (dstO ops i) (ds i) := by
            rw [← sig_set him hunf]
            · congr 1; funext j; exact listed_set hlt2
            · intro j t g1 g2 g3 g4 g5
              cases hb : listed.getD j false with
              | false => rfl
              | true =>
                have hoi : o.dst = some t := by simpa [dstO, ho] using g3
                have := (ords j g1 g2 t (by simp [namesOf, hoi]) g4).1 hb
                omega
          rw [e2]
          have : dstO ops i = o.dst := by simp [dstO, ho]
          rw [this]; exact hs'
      · exfalso
        have := (h2 i hlt).2 (by omega)
        rw [hunf] at this; cases this
    · 
      have hmi : m ≤ i := by omega
      have hiff := hafter hmi
      obtain ⟨s', hs', hk'⟩ : ∃ s', Sim C w0 B s' a w ∧ opsWp C.M (ros.drop i) K s' := by
        rcases h with ⟨h1, h2⟩ | ⟨i', s', h1, h2, h3, h4⟩
        · have hie : i = m := by
            rcases Nat.lt_or_ge m i with g | g
            · have := h1 m ((hiff m (by omega)).2 g); omega
            · omega
          subst hie
          exact ⟨s1, conv listed a w h1 (fun j hj => (hiff j (by omega)).2 hj) h2, hk1⟩
        · have hie : i' = i := by
            rcases Nat.lt_trichotomy i' i with g | g | g
            · have q1 := (hiff i' (by omega)).2 g
              have := (h2 i' (by omega)).1 q1; omega
            · exact g
            · have := (h2 i hlt).2 g; rw [hunf] at this; cases this
          subst hie
          exact ⟨s', h3, h4⟩
      obtain ⟨o', x, g1, g2, g3⟩ := resOps_drop _ _ i ros hr hlt
      rw [Nat.zero_add, ho] at g1; cases g1
      rw [g3] at hk'
      refine head_sound hA g2 (K := opsWp C.M (ros.drop (i + 1)) K) (fun s'' a' w' q1 q2 => ih _ a' w' (by simpa using hsz) hu' hcl' (.inr ⟨i + 1, s'', by omega, fun j hj => ?_, q2, q1⟩)) hk' hs'
      rw [listed_set hlt2]
      simp only [Bool.or_eq_true, beq_iff_eq]
      have := hiff j hj
      constructor
      · rintro (q | q)
        · have := this.1 q; omega
        · omega
      · intro q
        by_cases e : j = i
        · exact .inr e
        · exact .inl (this.2 (by omega))
def AnyG (M : Mod) (F : (Nat → Bool) → Hp) (L : List (Nat × Nat)) (i : Nat) (oc : OC) (ds : List D) (d : D) : Prop := ∀ E : Nat → Bool, E i = false → Lg L E → Rdy L i E → OcG M oc ds (F E) (F (fun j => E j || j == i)) d
def headG (M : Mod) (F : (Nat → Bool) → Hp) (L : List (Nat × Nat)) (i : Nat) (o : RO) (K : St → Prop) (s : St) : Prop :=
  match o.guard with
  | none => ∃ d, AnyG M F L i o.oc (o.args.map s.get) d ∧ K (s.put o.dst d)
  | some (g, want) =>
    match s.get g with
    | .bool b => (b = want → ∃ d, AnyG M F L i o.oc (o.args.map (s.setO g (.bool want)).get) d ∧ K ((s.setO g (.bool want)).put o.dst d)) ∧
        (b = (!want) → Still F i ∧ K ((s.setO g (.bool (!want))).put o.dst .skip))
    | .skip => Still F i ∧ K (s.put o.dst .skip)
    | _ => False
def opsG (M : Mod) (F : (Nat → Bool) → Hp) (L : List (Nat × Nat)) : Nat → List (RO × Bool) → (St → Prop) → St → Prop
  | j, [], K, s => K { s with hp := F (fun k => decide (k < j)) }
  | i, (o, _) :: r, K, s => headG M F L i o (opsG M F L (i + 1) r K) s
theorem headG_step {ops : Array Oper} {o : Oper} {x : RO} {K : St → Prop} {s : St} (h1 : resOp1 C ops o = some x) (hl : s.env.length = C.pers.length) {F : (Nat → Bool) → Hp} {L : List (Nat × Nat)} {i : Nat} (h : headG C.M F L i x K s) :
    ∃ d s1, K s1 ∧ s1.hp = s.hp ∧ s1.env.length = C.pers.length ∧ (∀ E : Nat → Bool, E i = false → Lg L E → Rdy L i E → StepG C ops (F E) (F (fun j => E j || j == i)) (s.slot C.pers) o d) ∧ s1.slot C.pers = updO (s.slot C.pers) o.dst d := by
  unfold resOp1 at h1
  cases hres : resolveOp C.P o.op with
  | none => simp [hres] at h1
  | some p =>
    obtain ⟨oc, ys⟩ := p
    cases ha : resOs C ys with
    | none => simp [hres, ha] at h1
    | some args =>
      cases hd : resDst C o.dst with
      | none => simp [hres, ha, hd] at h1
      | some dst =>
        cases hg : resGuard C ops o.guard with
        | none => simp [hres, ha, hd, hg] at h1
        | some guard =>
          simp [hres, ha, hd, hg] at h1; subst h1
          cases hog : o.guard with
          | none =>
            simp [hog, resGuard] at hg; subst hg
            simp only [headG] at h
            obtain ⟨d, h2, h3⟩ := h
            rw [map_evO ha] at h2
            exact ⟨d, _, h3, put_hp _ _ _, by rw [put_env_len]; exact hl, fun E hE hG hR => ⟨oc, ys, hres, ⟨_, ha⟩, ⟨_, hd⟩, .inl ⟨hog, h2 E hE hG hR⟩⟩, put_slot hd hl _⟩
          | some p =>
            obtain ⟨j, want⟩ := p
            simp only [hog, resGuard] at hg
            cases hj : (ops[j]?).bind (·.dst) with
            | none => simp [hj] at hg
            | some t =>
              simp only [hj] at hg
              cases hgo : resO C (.tmp t) with
              | none => simp [hgo] at hg
              | some g =>
                simp [hgo] at hg; subst hg
                have htn := (resO_tmp hgo).2
                simp only [headG] at h
                have hsl : s.slot C.pers t = s.get g := (get_slot hgo).symm
                cases hb : s.get g <;> simp only [hb] at h
                case bool b =>
                  by_cases e : b = want
                  · subst e
                    obtain ⟨d, h2, h3⟩ := h.1 rfl
                    rw [map_evO ha, setO_same hgo hl hb] at h2
                    refine ⟨d, _, h3, by rw [put_hp, setO_hp], by rw [put_env_len]; simpa [setO_len] using hl, fun E hE hG hR => ⟨oc, ys, hres, ⟨_, ha⟩, ⟨_, hd⟩, .inr ⟨j, b, t, hog, hj, htn, .inl ⟨by rw [hsl, hb], h2 E hE hG hR⟩⟩⟩, ?_⟩
                    rw [put_slot hd (by simpa [setO_len] using hl), setO_same hgo hl hb]
                  · have e' : b = (!want) := by cases b <;> cases want <;> simp_all
                    subst e'
                    refine ⟨.skip, _, (h.2 rfl).2, by rw [put_hp, setO_hp], by rw [put_env_len, setO_len]; exact hl, fun E hE _ _ => ⟨oc, ys, hres, ⟨_, ha⟩, ⟨_, hd⟩, .inr ⟨j, want, t, hog, hj, htn, .inr (.inl ⟨by rw [hsl, hb], rfl, (h.2 rfl).1 E hE⟩)⟩⟩, ?_⟩
                    rw [put_slot hd (by rw [setO_len]; exact hl), setO_same hgo hl hb]
                case skip =>
                  exact ⟨.skip, _, h.2, put_hp _ _ _, by rw [put_env_len]; exact hl, fun E hE _ _ => ⟨oc, ys, hres, ⟨_, ha⟩, ⟨_, hd⟩, .inr ⟨j, want, t, hog, hj, htn, .inr (.inr ⟨by rw [hsl, hb], rfl, h.1 E hE⟩)⟩⟩, put_slot hd hl _⟩
theorem opsG_trace {ops : Array Oper} {K : St → Prop} {F : (Nat → Bool) → Hp} {L : List (Nat × Nat)} : ∀ (len k : Nat) (ros : List RO) (qs : List (RO × Bool)) (s : St), resOps C ops (List.range' k len) = some ros → qs.map (·.1) = ros → s.env.length = C.pers.length → opsG C.M F L k qs K s →
    ∃ (ds : Nat → D) (σ : Nat → Nat → D) (s1 : St), K s1 ∧ s1.hp = F (fun j => decide (j < k + len)) ∧ s1.env.length = C.pers.length ∧ σ k = s.slot C.pers ∧ σ (k + len) = s1.slot C.pers ∧
      ∀ i, k ≤ i → i < k + len → ∃ o, ops[i]? = some o ∧ (∀ E : Nat → Bool, E i = false → Lg L E → Rdy L i E → StepG C ops (F E) (F (fun j => E j || j == i)) (σ i) o (ds i)) ∧ σ (i + 1) = updO (σ i) o.dst (ds i)
  | 0, k, ros, qs, s, hr, hqs, hl, h => by
    simp [resOps] at hr; subst hr
    have : qs = [] := by simpa using hqs
    subst this
    exact ⟨fun _ => .undef, fun _ => s.slot C.pers, _, h, rfl, hl, rfl, rfl, fun i h1 h2 => by omega⟩
  | len + 1, k, ros, qs, s, hr, hqs, hl, h => by
    rw [List.range'_succ] at hr
    obtain ⟨o, x, xs, ho, h1, h2, rfl⟩ := resOps_cons hr
    cases qs with
    | nil => simp at hqs
    | cons p qs =>
      obtain ⟨x', q⟩ := p
      simp only [List.map_cons, List.cons.injEq] at hqs
      obtain ⟨rfl, hqs⟩ := hqs
      simp only [opsG] at h
      obtain ⟨d, s1, k1, _, k3, k4, k5⟩ := headG_step h1 hl h
      obtain ⟨ds, σ, s2, g1, g2, g3, g4, g5, g6⟩ := opsG_trace len (k + 1) xs qs s1 h2 hqs k3 k1
      refine ⟨fun i => if i = k then d else ds i, fun i => if i = k then s.slot C.pers else σ i, s2, g1, ?_, g3, by simp, ?_, fun i h1 h2 => ?_⟩
      · rw [g2]; congr 1; funext j; congr 1; exact propext ⟨fun _ => by omega, fun _ => by omega⟩
      · have : k + (len + 1) ≠ k := by omega
        simp only [this, if_false]
        rw [← g5]; congr 1; omega
      · by_cases ek : i = k
        · subst ek
          refine ⟨o, ho, ?_, ?_⟩
          · simpa using k4
          · simp [g4, k5]
        · obtain ⟨o', q1, q2, q3⟩ := g6 i (by omega) (by omega)
          have e2 : i + 1 ≠ k := by omega
          exact ⟨o', q1, by simpa [ek] using q2, by simpa [ek, e2] using q3⟩
def depsB (qs : List (RO × Bool)) (L : List (Nat × Nat)) : Bool := L.all fun p => decide (p.1 < p.2) && match qs[p.1]?, qs[p.2]? with
  | some a, some b => depB a.1 b.1
  | _, _ => false
theorem depsB_spec {ops : Array Oper} {r : List RO} {L : List (Nat × Nat)} (hr : resOps C ops (List.range' 0 ops.size) = some r) (hrl : tailAt ops ≤ r.length) (h : depsB (flags ops r (tailAt ops)) L = true) :
    ∀ p ∈ L, p.1 < p.2 ∧ p.2 < tailAt ops ∧ ∃ oi oj t, ops[p.1]? = some oi ∧ ops[p.2]? = some oj ∧ oi.dst = some t ∧ t ∈ namesOf ops oj := by
  intro p hp
  have h := List.all_eq_true.1 h p hp
  simp only [Bool.and_eq_true, decide_eq_true_eq] at h
  obtain ⟨h1, h2⟩ := h
  have hf : (flags ops r (tailAt ops)).map (·.1) = r.take (tailAt ops) := flags_fst hrl
  have get : ∀ i a, (flags ops r (tailAt ops))[i]? = some a → i < tailAt ops ∧ ∃ o, ops[i]? = some o ∧ resOp1 C ops o = some a.1 := fun i a ha => by
    have e : ((flags ops r (tailAt ops)).map (·.1))[i]? = some a.1 := by rw [List.getElem?_map, ha]; rfl
    rw [hf, List.getElem?_take] at e
    split at e
    · rename_i hi
      refine ⟨hi, ?_⟩
      obtain ⟨o, x, q1, q2, q3⟩ := resOps_drop _ _ i r hr (by have := resOps_length _ _ hr; simp at this; omega)
      rw [Nat.zero_add] at q1
      have ex : r[i]? = some x := by
        have := List.getElem?_drop (xs := r) (i := i) (j := 0)
        rw [q3] at this; simpa using this.symm
      rw [ex] at e; cases e
      exact ⟨o, q1, q2⟩
    · cases e
  split at h2
  · rename_i a b ea eb
    obtain ⟨_, oi, f1, f2⟩ := get _ _ ea
    obtain ⟨g0, oj, f3, f4⟩ := get _ _ eb
    obtain ⟨t, f5, f6⟩ := depB_op f2 f4 h2
    exact ⟨h1, g0, oi, oj, t, f1, f3, f5, f6⟩
  · cases h2
theorem swp_regDG {Q : Ex → St → Prop} {s : St} {qs : List (RO × Bool)} {ros : List RO} (F : (Nat → Bool) → Hp) (L : List (Nat × Nat)) (hdep : depsB qs L = true) (h0 : F (fun _ => false) = s.hp) (h : opsG C.M F L 0 qs (fun s1 => opsWp C.M ros (fun s' => Q .normal s'.done) s1) s) : SWp C (.regD qs ros) Q s := by
  refine ⟨fun c hc w0 B hA a w hs => ?_⟩
  have hreg : ∀ id ops d, c = .region id ops d → _ := fun id ops d e => res_region (e ▸ hc)
  cases c <;> (try simp only [resCode] at hc) <;> (try (cases hc; done))
  case region id ops d =>
    rcases hreg _ _ _ rfl with ⟨r, h1, _⟩ | ⟨r, h1, rfl, hB1, hB2, hr⟩ | h1
    · cases h1
    · cases h1
      have hB := And.intro hB1 hB2
      · skip
        rw [List.range_eq_range'] at hr
        have hl : s.env.length = C.pers.length := by obtain ⟨_, _, _, _, _, q, _⟩ := hs; exact q
        have hrl : tailAt ops ≤ r.length := by rw [resOps_length _ _ hr]; simpa using tailAt_le ops
        obtain ⟨ds, σ, s1, k1, k2, k3, k4, k5, k6⟩ := opsG_trace (tailAt ops) 0 _ _ s (resOps_take _ _ 0 _ hr (tailAt_le ops)) (flags_fst hrl) hl h
        have hsig : ∀ i, i ≤ tailAt ops → σ i = sig ops (s.slot C.pers) ds (fun _ => true) i := by
          intro i
          induction i with
          | zero => intro _; exact k4
          | succ i ih =>
            intro hi
            obtain ⟨o, q1, _, q3⟩ := k6 i (Nat.zero_le _) (by omega)
            rw [q3, ih (by omega)]
            simp [sig, dstO, q1]
        refine fun ro => wpIn_region_any hB.2 (draw_soundG hA (s := s) (s1 := s1) (K := fun s' => Q .normal s'.done) (ds := ds) (F := F) (L := L) (m := tailAt ops) (ros := r) hB.1 (tailAt_le ops) hr (fun s a w hk hs => ⟨s.done, weak_done _ _ _ _ hs, hk⟩) hl k1 (by rw [k2, Nat.zero_add]) k3 (depsB_spec hr hrl hdep) (fun i hi => ?_) ?_ ops.size _ a _ (by simp) ?_ ?_ (.inl ⟨?_, ?_⟩))
        · obtain ⟨o, q1, q2, _⟩ := k6 i (Nat.zero_le _) (by omega)
          rw [hsig i (by omega)] at q2
          exact ⟨o, q1, q2⟩
        · rw [← hsig _ (Nat.le_refl _), ← k5, Nat.zero_add]
        · simp only [unl, Array.toList_replicate]
          exact Nat.le_trans (List.length_filter_le _ _) (by simp)
        · intro j oj hj hlj
          exfalso
          have : (Array.replicate ops.size false).getD j false = false := by
            simp only [Array.getD_eq_getD_getElem?, Array.getElem?_replicate]; split <;> rfl
          rw [this] at hlj; cases hlj
        · intro j hlj
          exfalso
          have : (Array.replicate ops.size false).getD j false = false := by
            simp only [Array.getD_eq_getD_getElem?, Array.getElem?_replicate]; split <;> rfl
          rw [this] at hlj; cases hlj
        · obtain ⟨G, g0, gb, g1, g2, g3, g4⟩ := hs
          have hrep : ∀ j, (Array.replicate ops.size false).getD j false = false := by
            intro j
            simp only [Array.getD_eq_getD_getElem?, Array.getElem?_replicate]; split <;> rfl
          have e1 : sig ops (s.slot C.pers) ds (fun j => (Array.replicate ops.size false).getD j false) (tailAt ops) = s.slot C.pers := by
            funext t
            exact sig_skip (ops := ops) (σ0 := s.slot C.pers) (ds := ds) (E := fun j => (Array.replicate ops.size false).getD j false) (t := t) (a := 0) (tailAt ops) (Nat.zero_le _) (fun j _ _ hE => by
              rw [hrep] at hE; cases hE)
          have e3 : (fun j => (Array.replicate ops.size false).getD j false) = fun _ => false := funext hrep
          rw [e1, e3, h0]
          obtain ⟨q1, q2⟩ := g0.drawn (w.drawn + 1)
          exact ⟨G, q1, gb, g1, g2, fun t => Rel.evo _ q2 (g4 t)⟩
    · cases h1
  all_goals exfalso; (repeat' split at hc) <;> simp_all
end
section
variable {M : Mod} {F : (Nat → Bool) → Hp} {L : List (Nat × Nat)} {i : Nat} {dst : Dst} {q : Bool} {r : List (RO × Bool)} {K : St → Prop} {s : St} {oc : OC} {args : List Opd}
end
theorem opsF_opsG {M : Mod} {F : (Nat → Bool) → Hp} : ∀ (qs : List (RO × Bool)) (i : Nat) (K : St → Prop) (s : St), opsF M F i qs K s → opsG M F [] i qs K s
  | [], i, K, s, h => h
  | (o, q) :: r, i, K, s, h => by
    simp only [opsF, opsG, headF, headG] at h ⊢
    have any : ∀ {oc : OC} {ds : List D} {d : D}, AnyF M F i oc ds d → AnyG M F [] i oc ds d := fun h E hE _ _ => .inl (h E hE)
    cases hg : o.guard with
    | none =>
      simp only [hg] at h ⊢
      obtain ⟨d, h1, h2⟩ := h
      exact ⟨d, any h1, opsF_opsG r _ _ _ h2⟩
    | some p =>
      obtain ⟨g, want⟩ := p
      simp only [hg] at h ⊢
      cases hb : s.get g <;> simp only [hb] at h ⊢
      case bool b =>
        refine ⟨fun e => ?_, fun e => ⟨(h.2 e).1, opsF_opsG r _ _ _ (h.2 e).2⟩⟩
        obtain ⟨d, h1, h2⟩ := h.1 e
        exact ⟨d, any h1, opsF_opsG r _ _ _ h2⟩
      case skip => exact ⟨h.1, opsF_opsG r _ _ _ h.2⟩
theorem swp_regDF2 {C : Cfg} {Q : Ex → St → Prop} {s : St} {qs : List (RO × Bool)} {ros : List RO} (F : (Nat → Bool) → Hp) (h0 : F (fun _ => false) = s.hp) (h : opsF C.M F 0 qs (fun s1 => opsWp C.M ros (fun s' => Q .normal s'.done) s1) s) : SWp C (.regD qs ros) Q s :=
  swp_regDG F [] rfl h0 (opsF_opsG _ _ _ _ h)
end GoV
end
section
set_option linter.unusedSimpArgs false
set_option linter.unusedVariables false
namespace GoV
open Go
theorem Inv.grow {w0 g0 hp w g} (h : Inv w0 g0 hp w g) (os : Array Obj) : Inv w0 g0 hp (Go.Sort.grow w os) g ∧ Evo w g (Go.Sort.grow w os) g := by
  have hb : ∀ n, n < w.heap.size → (Go.Sort.grow w os).heap[n]? = w.heap[n]? := fun n hn => by
    show (w.heap ++ os)[n]? = w.heap[n]?
    rw [Array.getElem?_append_left hn]
  have he : Evo w g (Go.Sort.grow w os) g := ⟨fun b o' hi => ⟨hi, cell_of_heap (hb b (h.heap.imm b o' hi).1)⟩, fun _ _ h => h, fun _ T h => ⟨T, h, rfl, .inl rfl⟩⟩
  refine ⟨h.step (h.heap.other he rfl rfl (fun n hn => hb n (h.heap.own_lt n hn)) (by simp) fun b o ho => .inl ho) he ⟨rfl, rfl, rfl, by simp, fun b hb' _ => hb b hb'⟩ (fun n hn => .inl hn) (fun n hn => .inl hn) (fun b o ho => .inl ho), he⟩
theorem relL_row {α : Type} {w : World} {g : Gh} {f : α → D} {enc : α → Value} (h : ∀ x, Rel w g (f x) (enc x)) : ∀ l : List α, RelL w g (l.map f) (l.map enc)
  | [] => RelL.nil
  | x :: l => RelL.cons (h x) (relL_row h l)
theorem relL_row_inv {α : Type} {w : World} {g : Gh} {f : α → D} {enc : α → Value} (h : ∀ x y, Rel w g (f x) y → y = enc x) : ∀ (l : List α) (r : List D) (xs : List Value), RelL w g (l.map f ++ r) xs → ∃ ys, xs = l.map enc ++ ys ∧ RelL w g r ys
  | [], r, xs, hr => ⟨xs, rfl, hr⟩
  | x :: l, r, xs, hr => by
    obtain ⟨y, ys, rfl, h1, h2⟩ := hr.inv
    obtain ⟨zs, rfl, h3⟩ := relL_row_inv h l r ys h2
    exact ⟨zs, by rw [h x y h1]; rfl, h3⟩
open Go.Sort in
theorem eff_row {M : Mod} {f : FuncId} {α : Type} [Inhabited α] (hc : Callable M f) (enc : α → Value) (dat : α → D) (hd : ∀ w g x, Rel w g (dat x) (enc x)) (hi : ∀ w g x y, Rel w g (dat x) y → y = enc x) (h1 : ∀ x, oneC (enc x))
    (ss srt : List α) (rest : List D) (n cap : Nat) (hn : n = ss.length) (hs : srt.length = ss.length) (hcap : n + rest.length = cap)
    (h : ∀ w blk off, Holds enc w blk off ss.toArray → blk < w.heap.size → Calls M.P f #[.slice (some ⟨blk, off, none⟩) ss.length cap] w fun e w' => e = .returned (.tuple #[]) ∧ ∃ k os, w' = Go.Sort.grow (putRow enc (ahead w k) blk off srt.toArray) os) :
    Eff M f [.sl 0 1 0 n cap] ⟨[.cells (ss.map dat ++ rest)], []⟩ fun d hp => d = .tup [] ∧ hp = ⟨[.cells (srt.map dat ++ rest)], []⟩ := by
  refine ⟨hc, fun w g xs hA hH hargs => ?_⟩
  obtain ⟨v, vs, rfl, g1, g2⟩ := hargs.inv
  have := g2.inv_nil
  subst this
  simp only [Rel] at g1
  obtain ⟨b, o, hb, rfl, ho⟩ := g1
  obtain ⟨ys, e, k1, k2, k3⟩ := hH.blk 0 _ b rfl hb
  obtain ⟨zs, rfl, k4⟩ := relL_row_inv (hi w g) ss rest ys k2
  have hlt : b < w.heap.size := hH.lt b (List.mem_of_getElem? hb)
  have hz : ss.length = 0 ∨ o = 0 := by
    rcases Nat.eq_zero_or_pos cap with q | q
    · left; omega
    · exact .inr (ho q)
  have hold : Holds enc w b o ss.toArray := fun j hj => by
    have hj' : j < ss.length := by simpa using hj
    have ho0 : o = 0 := by rcases hz with q | q <;> omega
    subst ho0
    refine ⟨?_, by simp [World.frozen?, k1]⟩
    rw [Nat.zero_add]
    simp only [World.cell?, k1]
    simp [hj', List.getElem?_append_left (show j < (ss.map enc).length by simpa using hj')]
  subst hn
  refine (h w b o hold hlt).mono fun e' w' hh => ?_
  obtain ⟨rfl, k, os, rfl⟩ := hh
  have hheap : (putRow enc (ahead w k) b o srt.toArray).heap[b]? = some (.cells (srt.map enc ++ zs).toArray e (0, 0)) := by
    have e1 : (putRow enc (ahead w k) b o srt.toArray).heap = w.heap.modify b (onCells (putCells enc o srt.toArray)) := rfl
    rw [e1, Array.getElem?_modify, if_pos rfl, k1]
    simp only [Option.map_some, onCells]
    congr 2
    unfold putCells
    apply Array.ext_getElem?
    intro i
    simp only [Array.getElem?_mapIdx, List.getElem?_toArray, List.size_toArray]
    rcases hz with q | q
    · have hs0 : srt = [] := List.eq_nil_of_length_eq_zero (by omega)
      have hs1 : ss = [] := List.eq_nil_of_length_eq_zero q
      subst hs0; subst hs1
      simp only [List.map_nil, List.nil_append]
      cases zs[i]? with
      | none => rfl
      | some y => simp only [Option.map_some]; rw [if_neg (by simp)]
    · subst q
      by_cases hi' : i < srt.length
      · rw [List.getElem?_append_left (by simp; omega), List.getElem?_append_left (by simpa using hi')]
        simp [hi', show i < ss.length by omega]
      · rw [List.getElem?_append_right (by simp; omega), List.getElem?_append_right (by simp; omega)]
        simp only [List.length_map, hs, Nat.zero_add, Nat.zero_le, true_and]
        have : ¬ i < ss.length := by omega
        simp [this]
  obtain ⟨u1, u2⟩ := (Inv.refl' hH).write (w' := putRow enc (ahead w k) b o srt.toArray) 0 b hb ⟨_, rfl, by simp⟩ (.cells (srt.map dat ++ rest))
    (fun w1 g1 he => by
      rw [hheap]
      refine ⟨_, e, rfl, ?_, ?_⟩
      · have := relL_row (hd w1 g1) srt
        exact this.append (RelL.evo _ he k4)
      · intro y hy
        rcases List.mem_append.1 hy with q | q
        · obtain ⟨x, _, rfl⟩ := List.mem_map.1 q
          exact h1 x
        · exact k3 y (List.mem_append.2 (.inr q)))
    (fun m hm => by
      show (w.heap.modify b (onCells (putCells enc o srt.toArray)))[m]? = _
      rw [Array.getElem?_modify, if_neg (Ne.symm hm)]) (by simp) rfl rfl rfl
  obtain ⟨v1, v2⟩ := u1.grow os
  exact ⟨_, _, _, _, rfl, ⟨rfl, rfl⟩, v1, by simp [Rel, RelL]⟩
theorem pur_any {M : Mod} {f : FuncId} {args : List D} {d : D} {v : Value} (hc : Callable M f) (hd : ∀ w g, Rel w g d v)
    (h : ∀ w g xs, RelL w g args xs → Calls M.P f xs.toArray w fun e w' => e = .returned v ∧ w' = w) : Pur M f args d :=
  ⟨hc, fun w g xs hA hH ha => (h w g xs ha).mono fun e w' hh => by
    obtain ⟨rfl, rfl⟩ := hh
    exact ⟨v, d, ⟨[], []⟩, g, rfl, ⟨rfl, rfl⟩, Inv.refl' hH, hd _ _⟩⟩
open Go.RowKit in
theorem inv_of_below {w w' : World} {g : Gh} {hp : Hp} (hH : HeapRel w g hp) (hb : Below w.heap.size w w') : Inv w g hp w' g := by
  have he : Evo w g w' g := ⟨fun b o' hi => ⟨hi, cell_of_heap (hb.block b (hH.imm b o' hi).1)⟩, fun _ _ h => h, fun _ T h => ⟨T, h, rfl, .inl rfl⟩⟩
  exact (Inv.refl' hH).step (hH.other he rfl rfl (fun n hn => hb.block n (hH.own_lt n hn)) hb.size fun b o ho => .inl ho) he ⟨hb.os, hb.tape, hb.output, hb.size, fun b hb' _ => hb.block b hb'⟩ (fun n hn => .inl hn) (fun n hn => .inl hn) (fun b o ho => .inl ho)
open Go.RowKit in
theorem post_row {w w' : World} {g : Gh} {hp : Hp} (hH : HeapRel w g hp) (hb : Below w.heap.size w w') {α : Type} (enc : α → Value) (dat : α → D) (hd : ∀ w g x, Rel w g (dat x) (enc x)) (h1 : ∀ x, oneC (enc x)) (hc : ∀ x, (enc x).cells = #[enc x])
    {e : TypeId} {v : Value} {l : List α} (hv : w'.ownsRow w.heap.size e 1 v l.length (l.map enc)) : Post w g (fun d h => d = .slice (l.map dat) .no ∧ h = hp) (.returned v) w' := by
  have hi := inv_of_below hH hb
  have hfl : flat (l.map enc) = l.map enc := by
    clear hv
    induction l with
    | nil => rfl
    | cons x l ih => simp only [List.map_cons, flat, hc, ih]; rfl
  obtain ⟨_, hv⟩ := hv
  rcases hv with ⟨rfl, hz⟩ | ⟨b, cap, cur, rfl, k1, k2, k3, k4, k5, k6⟩
  · have : l = [] := List.eq_nil_of_length_eq_zero hz
    subst this
    refine ⟨_, _, _, g, rfl, ⟨rfl, rfl⟩, hi, ?_⟩
    simp only [Rel]
    exact ⟨⟨0, 0, none⟩, 0, 0, [], .inr ⟨by trivial, by simp, rfl⟩, Nat.le_refl _, RelL.nil, by simp, ⟨fun _ => rfl, by simp [flat]⟩, trivial⟩
  · have hlt : b < w'.heap.size := (Array.getElem?_eq_some_iff.1 k2).1
    obtain ⟨u1, u2⟩ := hi.more b (fun o => o < l.length) hlt (fun hm => by have := hH.own_lt b hm; omega) k1
    refine ⟨_, _, _, _, rfl, ⟨rfl, rfl⟩, u1, ?_⟩
    simp only [Rel]
    refine ⟨⟨b, 0, none⟩, cap, 1, l.map enc, .inl (by simp), by simpa using k3, relL_row (fun x => hd _ _ x) l, fun y hy => ?_, ⟨fun _ => rfl, fun j y hy => ?_⟩, trivial⟩
    · obtain ⟨x, _, rfl⟩ := List.mem_map.1 hy
      rw [hc]; rfl
    · rw [hfl] at hy
      have hj : j < l.length := by have := (List.getElem?_eq_some_iff.1 hy).1; simpa using this
      refine ⟨?_, .inr ⟨rfl, by simpa using hj⟩, ?_⟩
      · rw [← k6, Nat.mul_one, List.getElem?_take_of_lt hj] at hy
        simp only [World.cell?, k2, Nat.zero_add]
        simpa using hy
      · obtain ⟨x, _, rfl⟩ := List.mem_map.1 (List.mem_of_getElem? hy)
        exact h1 x
section
variable {P : Mod} {r : List RO} {rq : List (RO × Bool)} {K : St → Prop} {s : St} {dst : Dst}
end
end GoV
end
section
set_option maxRecDepth 100000
namespace Go.Proofs.Ytnooagipikedeaa
open Go GoV
noncomputable def M : Mod := { P := Try.prog, amb := fun _ _ => True, up := fun _ _ _ _ _ _ _ => trivial }
@[irreducible] def zl256 : List D := List.replicate 256 (.int .u8 0)
/- 73 bogie.rule.node$1 · 2 arguments · kept slots [0, 1, 4] -/
noncomputable def E73 (n m : Nat) : Cfg := ⟨M, [0, 1, 4], 12, n, m, []⟩
noncomputable def C73 : Cfg := E73 0 0
@[reducible] noncomputable def r73_0 : List RO := [
  ⟨.var 2, .mv, [.con (.bool false)], none⟩]
@[reducible] noncomputable def r73_1 : List RO := [
  ⟨.loc 5, .mv, [.var 0], none⟩,
  ⟨.loc 6, .mv, [.var 1], none⟩,
  ⟨.loc 7, .bin .geq, [.loc 5, .loc 6], none⟩,
  ⟨.loc 8, .mv, [.loc 7], none⟩,
  ⟨.loc 9, .mv, [.var 0], (some (.loc 8, true))⟩,
  ⟨.loc 10, .bin .leq, [.loc 9, .con (.int .i64 9999999)], (some (.loc 8, true))⟩,
  ⟨.loc 11, .pick, [.loc 8, .loc 10, .con (.bool false)], none⟩,
  ⟨.var 2, .mv, [.loc 11], none⟩]
theorem P73 : C73.M = M := by unfold C73 E73; rfl
theorem i73 {a0 a1 : D} : St.init C73 [a0, a1] ⟨[], []⟩ = ⟨[a0, a1, .undef], [], ⟨[], []⟩⟩ := by unfold C73 E73; rfl
noncomputable def c73 : RC := (.seq (.reg r73_0) (.seq (.reg r73_1) .ret))
noncomputable def q73 : List RR := [(.slot (.var 2))]
theorem z73 {n m : Nat} : resCode (E73 n m) (Try.f73.body.getD .skip) = some c73 := by kernel_rfl
theorem zr73 {n m : Nat} : resRs (E73 n m) Try.f73.results.toList = some q73 := by kernel_rfl
theorem ok73 {args : List D} {d : D} (hl : args.length = 2) (h : SWp C73 c73 (fun e s => (match e with | .exit _ => False | _ => True) ∧ rrsWp q73 s fun ds => D.closed (oneOrTup ds) = true ∧ (oneOrTup ds).er = d) (St.init C73 args ⟨[], []⟩)) : Pur M 73 args d :=
  pur_of_body (C := C73) (fn := Try.f73) Try.func73 (by kernel_rfl) (by kernel_rfl) (rc := c73) z73 (rs := q73) zr73 (by kernel_rfl) (by rw [hl]; rfl) (by rw [hl]; decide) rfl rfl h
/- 47 bogie.lexer.Name · 1 arguments · kept slots [0, 2, 3, 4, 5, 8, 9, 10, 30] -/
noncomputable def E47 (n m : Nat) : Cfg := ⟨M, [0, 2, 3, 4, 5, 8, 9, 10, 30], 39, n, m, []⟩
noncomputable def C47 : Cfg := E47 0 0
@[reducible] noncomputable def r47_0 : List RO := [
  ⟨.var 1, .mv, [.con (.bool false)], none⟩]
@[reducible] noncomputable def r47_1 : List RO := [
  ⟨.loc 6, .call, [(.con (.fn (.func 69) [] []))], none⟩,
  ⟨.var 2, .newb zl256, [], none⟩,
  ⟨.none, .st 256, [.var 2, .loc 6], none⟩]
@[reducible] noncomputable def r47_2 : List RO := [
  ⟨.loc 7, .mv, [.var 0], none⟩,
  ⟨.var 5, .lenS, [.loc 7], none⟩,
  ⟨.var 6, .mv, [.con (.int .i64 0)], none⟩]
@[reducible] noncomputable def r47_3 : List RO := [
  ⟨.var 7, .bin .lss, [.var 6, .var 5], none⟩]
@[reducible] noncomputable def r47_4 : List RO := [
  ⟨.loc 11, .mv, [.var 6], none⟩,
  ⟨.var 3, .mv, [.loc 11], none⟩]
@[reducible] noncomputable def r47_5 : List RO := [
  ⟨.loc 12, .mv, [.var 0], none⟩,
  ⟨.loc 13, .mv, [.var 3], none⟩,
  ⟨.loc 14, .ixvS, [.loc 12, .loc 13], none⟩,
  ⟨.loc 15, .ixaA 256 1, [.var 2, .loc 14], none⟩,
  ⟨.loc 16, .ld false 1, [.loc 15], none⟩,
  ⟨.var 4, .mv, [.loc 16], none⟩]
@[reducible] noncomputable def r47_6 : List RO := [
  ⟨.loc 17, .mv, [.var 4], none⟩,
  ⟨.loc 18, .bin .neq, [.loc 17, (.con (.int .u8 3))], none⟩,
  ⟨.loc 19, .mv, [.loc 18], none⟩,
  ⟨.loc 20, .mv, [.var 3], (some (.loc 19, true))⟩,
  ⟨.loc 21, .bin .eql, [.loc 20, .con (.int .i64 0)], (some (.loc 19, true))⟩,
  ⟨.loc 22, .mv, [.loc 21], (some (.loc 19, true))⟩,
  ⟨.loc 23, .mv, [.var 4], (some (.loc 22, false))⟩,
  ⟨.loc 24, .bin .neq, [.loc 23, (.con (.int .u8 4))], (some (.loc 22, false))⟩,
  ⟨.loc 25, .mv, [.loc 24], (some (.loc 22, false))⟩,
  ⟨.loc 26, .mv, [.var 4], (some (.loc 25, true))⟩,
  ⟨.loc 27, .bin .neq, [.loc 26, (.con (.int .u8 5))], (some (.loc 25, true))⟩,
  ⟨.loc 28, .pick, [.loc 25, .loc 27, .con (.bool false)], (some (.loc 22, false))⟩,
  ⟨.loc 29, .pick, [.loc 22, .con (.bool true), .loc 28], (some (.loc 19, true))⟩,
  ⟨.var 8, .pick, [.loc 19, .loc 29, .con (.bool false)], none⟩]
@[reducible] noncomputable def r47_7 : List RO := [
  ⟨.var 1, .mv, [.con (.bool false)], none⟩]
@[reducible] noncomputable def r47_8 : List RO := [
  ⟨.loc 31, .bin .add, [.var 6, .con (.int .i64 1)], none⟩,
  ⟨.var 6, .mv, [.loc 31], none⟩]
@[reducible] noncomputable def r47_9 : List RO := [
  ⟨.loc 32, .mv, [.var 0], none⟩,
  ⟨.loc 33, .bin .neq, [.loc 32, (.con (.str []))], none⟩,
  ⟨.loc 34, .mv, [.loc 33], none⟩,
  ⟨.loc 35, .mv, [.var 0], (some (.loc 34, true))⟩,
  ⟨.loc 36, .lenS, [.loc 35], (some (.loc 34, true))⟩,
  ⟨.loc 37, .bin .leq, [.loc 36, .con (.int .i64 24)], (some (.loc 34, true))⟩,
  ⟨.loc 38, .pick, [.loc 34, .loc 37, .con (.bool false)], none⟩,
  ⟨.var 1, .mv, [.loc 38], none⟩]
theorem P47 : C47.M = M := by unfold C47 E47; rfl
theorem i47 {a0 : D} : St.init C47 [a0] ⟨[], []⟩ = ⟨[a0, .undef, .undef, .undef, .undef, .undef, .undef, .undef, .undef], [], ⟨[], []⟩⟩ := by unfold C47 E47; rfl
noncomputable def c47 : RC := (.seq (.reg r47_0) (.seq (.reg r47_1) (.seq (.seq (.reg r47_2) (.block 0 (.loop (.seq (.reg r47_3) (.seq (.cond (.var 7) .skip (.exit 0)) (.seq (.block 1 (.seq (.reg r47_4) (.seq (.reg r47_5) (.seq (.reg r47_6) (.cond (.var 8) (.seq (.reg r47_7) .ret) .skip))))) (.reg r47_8))))))) (.seq (.reg r47_9) .ret))))
noncomputable def q47 : List RR := [(.slot (.var 1))]
theorem z47 {n m : Nat} : resCode (E47 n m) (Try.f47.body.getD .skip) = some c47 := by kernel_rfl
theorem zr47 {n m : Nat} : resRs (E47 n m) Try.f47.results.toList = some q47 := by kernel_rfl
theorem ok47 {args : List D} {d : D} (hl : args.length = 1) (h : SWp C47 c47 (fun e s => (match e with | .exit _ => False | _ => True) ∧ rrsWp q47 s fun ds => D.closed (oneOrTup ds) = true ∧ (oneOrTup ds).er = d) (St.init C47 args ⟨[], []⟩)) : Pur M 47 args d :=
  pur_of_body (C := C47) (fn := Try.f47) Try.func47 (by kernel_rfl) (by kernel_rfl) (rc := c47) z47 (rs := q47) zr47 (by kernel_rfl) (by rw [hl]; rfl) (by rw [hl]; decide) rfl rfl h
/- 69 bogie.lexer.classes · 0 arguments · kept slots [0, 1, 2, 3, 4, 5, 9, 24, 33, 39] -/
noncomputable def E69 (n m : Nat) : Cfg := ⟨M, [0, 1, 2, 3, 4, 5, 9, 24, 33, 39], 50, n, m, []⟩
noncomputable def C69 : Cfg := E69 0 0
@[reducible] noncomputable def r69_0 : List RO := [
  ⟨.var 0, .newb zl256, [], none⟩]
@[reducible] noncomputable def r69_1 : List RO := [
  ⟨.var 1, .newb zl256, [], none⟩]
@[reducible] noncomputable def r69_2 : List RO := [
  ⟨.var 4, .mv, [.con (.int .i64 0)], none⟩]
@[reducible] noncomputable def r69_3 : List RO := [
  ⟨.var 5, .bin .lss, [.var 4, .con (.int .i64 256)], none⟩]
@[reducible] noncomputable def r69_4 : List RO := [
  ⟨.loc 6, .mv, [.var 4], none⟩,
  ⟨.var 2, .mv, [.loc 6], none⟩]
@[reducible] noncomputable def r69_5 : List RO := [
  ⟨.loc 7, .mv, [.var 2], none⟩,
  ⟨.loc 8, .cvI .u8, [.loc 7], none⟩,
  ⟨.var 3, .mv, [.loc 8], none⟩]
@[reducible] noncomputable def r69_6 : List RO := [
  ⟨.loc 10, .mv, [.var 3], none⟩,
  ⟨.loc 11, .bin .leq, [(.con (.int .u8 97)), .loc 10], none⟩,
  ⟨.loc 12, .mv, [.loc 11], none⟩,
  ⟨.loc 13, .mv, [.var 3], (some (.loc 12, true))⟩,
  ⟨.loc 14, .bin .leq, [.loc 13, (.con (.int .u8 122))], (some (.loc 12, true))⟩,
  ⟨.loc 15, .pick, [.loc 12, .loc 14, .con (.bool false)], none⟩,
  ⟨.var 6, .mv, [.loc 15], none⟩]
@[reducible] noncomputable def r69_7 : List RO := [
  ⟨.loc 16, .mv, [.var 3], none⟩,
  ⟨.loc 17, .bin .leq, [(.con (.int .u8 65)), .loc 16], none⟩,
  ⟨.loc 18, .mv, [.loc 17], none⟩,
  ⟨.loc 19, .mv, [.var 3], (some (.loc 18, true))⟩,
  ⟨.loc 20, .bin .leq, [.loc 19, (.con (.int .u8 90))], (some (.loc 18, true))⟩,
  ⟨.loc 21, .pick, [.loc 18, .loc 20, .con (.bool false)], none⟩,
  ⟨.var 6, .mv, [.loc 21], none⟩]
@[reducible] noncomputable def r69_8 : List RO := [
  ⟨.loc 22, .mv, [.var 2], none⟩,
  ⟨.loc 23, .ixaA 256 1, [.var 1, .loc 22], none⟩,
  ⟨.none, .st 1, [.loc 23, (.con (.int .u8 3))], none⟩]
@[reducible] noncomputable def r69_9 : List RO := [
  ⟨.loc 25, .mv, [.var 3], none⟩,
  ⟨.loc 26, .bin .leq, [(.con (.int .u8 48)), .loc 25], none⟩,
  ⟨.loc 27, .mv, [.loc 26], none⟩,
  ⟨.loc 28, .mv, [.var 3], (some (.loc 27, true))⟩,
  ⟨.loc 29, .bin .leq, [.loc 28, (.con (.int .u8 57))], (some (.loc 27, true))⟩,
  ⟨.loc 30, .pick, [.loc 27, .loc 29, .con (.bool false)], none⟩,
  ⟨.var 7, .mv, [.loc 30], none⟩]
@[reducible] noncomputable def r69_10 : List RO := [
  ⟨.loc 31, .mv, [.var 2], none⟩,
  ⟨.loc 32, .ixaA 256 1, [.var 1, .loc 31], none⟩,
  ⟨.none, .st 1, [.loc 32, (.con (.int .u8 4))], none⟩]
@[reducible] noncomputable def r69_11 : List RO := [
  ⟨.loc 34, .mv, [.var 3], none⟩,
  ⟨.loc 35, .call, [(.con (.fn (.func 92) [] [])), (.con (.str [32, 9, 10])), .loc 34], none⟩,
  ⟨.loc 36, .bin .geq, [.loc 35, .con (.int .i64 0)], none⟩,
  ⟨.var 8, .mv, [.loc 36], none⟩]
@[reducible] noncomputable def r69_12 : List RO := [
  ⟨.loc 37, .mv, [.var 2], none⟩,
  ⟨.loc 38, .ixaA 256 1, [.var 1, .loc 37], none⟩,
  ⟨.none, .st 1, [.loc 38, (.con (.int .u8 1))], none⟩]
@[reducible] noncomputable def r69_13 : List RO := [
  ⟨.loc 40, .mv, [.var 3], none⟩,
  ⟨.loc 41, .call, [(.con (.fn (.func 92) [] [])), (.con (.str [59, 44, 46, 58, 40, 41, 123, 125, 91, 93, 61, 60, 62, 47, 43, 45, 42])), .loc 40], none⟩,
  ⟨.loc 42, .bin .geq, [.loc 41, .con (.int .i64 0)], none⟩,
  ⟨.var 9, .mv, [.loc 42], none⟩]
@[reducible] noncomputable def r69_14 : List RO := [
  ⟨.loc 43, .mv, [.var 2], none⟩,
  ⟨.loc 44, .ixaA 256 1, [.var 1, .loc 43], none⟩,
  ⟨.none, .st 1, [.loc 44, (.con (.int .u8 6))], none⟩]
@[reducible] noncomputable def r69_15 : List RO := [
  ⟨.loc 45, .bin .add, [.var 4, .con (.int .i64 1)], none⟩,
  ⟨.var 4, .mv, [.loc 45], none⟩]
@[reducible] noncomputable def r69_16 : List RO := [
  ⟨.loc 46, .ixaA 256 1, [.var 1, .con (.int .i64 35)], none⟩,
  ⟨.none, .st 1, [.loc 46, (.con (.int .u8 2))], none⟩,
  ⟨.loc 47, .ixaA 256 1, [.var 1, .con (.int .i64 95)], none⟩,
  ⟨.none, .st 1, [.loc 47, (.con (.int .u8 5))], none⟩,
  ⟨.loc 48, .ixaA 256 1, [.var 1, .con (.int .i64 34)], none⟩,
  ⟨.none, .st 1, [.loc 48, (.con (.int .u8 7))], none⟩]
@[reducible] noncomputable def r69_17 : List RO := [
  ⟨.loc 49, .ld true 256, [.var 1], none⟩,
  ⟨.none, .st 256, [.var 0, .loc 49], none⟩]
theorem P69 : C69.M = M := by unfold C69 E69; rfl
theorem i69 : St.init C69 [] ⟨[], []⟩ = ⟨[.undef, .undef, .undef, .undef, .undef, .undef, .undef, .undef, .undef, .undef], [], ⟨[], []⟩⟩ := by unfold C69 E69; rfl
noncomputable def c69 : RC := (.seq (.reg r69_0) (.seq (.reg r69_1) (.seq (.seq (.reg r69_2) (.block 0 (.loop (.seq (.reg r69_3) (.seq (.cond (.var 5) .skip (.exit 0)) (.seq (.block 1 (.seq (.reg r69_4) (.seq (.reg r69_5) (.block 2 (.seq (.seq (.reg r69_6) (.cond (.var 6) .skip (.reg r69_7))) (.cond (.var 6) (.reg r69_8) (.seq (.reg r69_9) (.cond (.var 7) (.reg r69_10) (.seq (.reg r69_11) (.cond (.var 8) (.reg r69_12) (.seq (.reg r69_13) (.cond (.var 9) (.reg r69_14) .skip)))))))))))) (.reg r69_15))))))) (.seq (.reg r69_16) (.seq (.reg r69_17) .ret)))))
noncomputable def q69 : List RR := [(.cell (.var 0) true 256)]
theorem z69 {n m : Nat} : resCode (E69 n m) (Try.f69.body.getD .skip) = some c69 := by kernel_rfl
theorem zr69 {n m : Nat} : resRs (E69 n m) Try.f69.results.toList = some q69 := by kernel_rfl
theorem ok69 {args : List D} {d : D} (hl : args.length = 0) (h : SWp C69 c69 (fun e s => (match e with | .exit _ => False | _ => True) ∧ rrsWp q69 s fun ds => D.closed (oneOrTup ds) = true ∧ (oneOrTup ds).er = d) (St.init C69 args ⟨[], []⟩)) : Pur M 69 args d :=
  pur_of_body (C := C69) (fn := Try.f69) Try.func69 (by kernel_rfl) (by kernel_rfl) (rc := c69) z69 (rs := q69) zr69 (by kernel_rfl) (by rw [hl]; rfl) (by rw [hl]; decide) rfl rfl h
/- 74 bogie.rule.reserved · 1 arguments · kept slots [0, 2] -/
noncomputable def E74 (n m : Nat) : Cfg := ⟨M, [0, 2], 6, n, m, []⟩
noncomputable def C74 : Cfg := E74 0 0
@[reducible] noncomputable def r74_0 : List RO := [
  ⟨.var 1, .mv, [.con (.bool false)], none⟩]
@[reducible] noncomputable def r74_1 : List RO := [
  ⟨.loc 3, .bsl 1, [(.con (.str [116, 114, 117, 101])), (.con (.str [110, 111, 116])), (.con (.str [97, 110, 100])), (.con (.str [111, 114])), (.con (.str [108, 105, 109, 105, 116])), (.con (.str [111, 118, 101, 114])), (.con (.str [104, 97, 115])), (.con (.str [115, 108, 111, 116])), (.con (.str [97, 108, 108])), (.con (.str [97, 110, 121])), (.con (.str [97, 116]))], none⟩,
  ⟨.loc 4, .mv, [.var 0], none⟩,
  ⟨.loc 5, .call, [(.con (.fn (.func 94) [] [])), .loc 3, .loc 4], none⟩,
  ⟨.var 1, .mv, [.loc 5], none⟩]
theorem P74 : C74.M = M := by unfold C74 E74; rfl
theorem i74 {a0 : D} : St.init C74 [a0] ⟨[], []⟩ = ⟨[a0, .undef], [], ⟨[], []⟩⟩ := by unfold C74 E74; rfl
noncomputable def c74 : RC := (.seq (.reg r74_0) (.seq (.reg r74_1) .ret))
noncomputable def q74 : List RR := [(.slot (.var 1))]
theorem z74 {n m : Nat} : resCode (E74 n m) (Try.f74.body.getD .skip) = some c74 := by kernel_rfl
theorem zr74 {n m : Nat} : resRs (E74 n m) Try.f74.results.toList = some q74 := by kernel_rfl
theorem ok74 {args : List D} {d : D} (hl : args.length = 1) (h : SWp C74 c74 (fun e s => (match e with | .exit _ => False | _ => True) ∧ rrsWp q74 s fun ds => D.closed (oneOrTup ds) = true ∧ (oneOrTup ds).er = d) (St.init C74 args ⟨[], []⟩)) : Pur M 74 args d :=
  pur_of_body (C := C74) (fn := Try.f74) Try.func74 (by kernel_rfl) (by kernel_rfl) (rc := c74) z74 (rs := q74) zr74 (by kernel_rfl) (by rw [hl]; rfl) (by rw [hl]; decide) rfl rfl h
/- 94 slices.Contains[[]string,string] · 2 arguments · kept slots [0, 1, 4] -/
noncomputable def E94 (n m : Nat) : Cfg := ⟨M, [0, 1, 4], 9, n, m, []⟩
noncomputable def C94 : Cfg := E94 0 0
@[reducible] noncomputable def r94_0 : List RO := [
  ⟨.var 2, .mv, [.con (.bool false)], none⟩]
@[reducible] noncomputable def r94_1 : List RO := [
  ⟨.loc 5, .mv, [.var 0], none⟩,
  ⟨.loc 6, .mv, [.var 1], none⟩,
  ⟨.loc 7, .call, [(.con (.fn (.func 103) [] [])), .loc 5, .loc 6], none⟩,
  ⟨.loc 8, .bin .geq, [.loc 7, .con (.int .i64 0)], none⟩,
  ⟨.var 2, .mv, [.loc 8], none⟩]
theorem P94 : C94.M = M := by unfold C94 E94; rfl
theorem i94 {a0 a1 : D} : St.init C94 [a0, a1] ⟨[], []⟩ = ⟨[a0, a1, .undef], [], ⟨[], []⟩⟩ := by unfold C94 E94; rfl
noncomputable def c94 : RC := (.seq (.reg r94_0) (.seq (.reg r94_1) .ret))
noncomputable def q94 : List RR := [(.slot (.var 2))]
theorem z94 {n m : Nat} : resCode (E94 n m) (Try.f94.body.getD .skip) = some c94 := by kernel_rfl
theorem zr94 {n m : Nat} : resRs (E94 n m) Try.f94.results.toList = some q94 := by kernel_rfl
theorem ok94 {args : List D} {d : D} (hl : args.length = 2) (h : SWp C94 c94 (fun e s => (match e with | .exit _ => False | _ => True) ∧ rrsWp q94 s fun ds => D.closed (oneOrTup ds) = true ∧ (oneOrTup ds).er = d) (St.init C94 args ⟨[], []⟩)) : Pur M 94 args d :=
  pur_of_body (C := C94) (fn := Try.f94) Try.func94 (by kernel_rfl) (by kernel_rfl) (rc := c94) z94 (rs := q94) zr94 (by kernel_rfl) (by rw [hl]; rfl) (by rw [hl]; decide) rfl rfl h
/- 103 slices.Index[[]string,string] · 2 arguments · kept slots [0, 1, 4, 5, 7, 8, 9, 16] -/
noncomputable def E103 (n m : Nat) : Cfg := ⟨M, [0, 1, 4, 5, 7, 8, 9, 16], 19, n, m, []⟩
noncomputable def C103 : Cfg := E103 0 0
@[reducible] noncomputable def r103_0 : List RO := [
  ⟨.var 2, .mv, [.con (.int .i64 0)], none⟩]
@[reducible] noncomputable def r103_1 : List RO := [
  ⟨.loc 6, .mv, [.var 0], none⟩,
  ⟨.var 4, .lenL, [.loc 6], none⟩,
  ⟨.var 5, .mv, [.con (.int .i64 0)], none⟩]
@[reducible] noncomputable def r103_2 : List RO := [
  ⟨.var 6, .bin .lss, [.var 5, .var 4], none⟩]
@[reducible] noncomputable def r103_3 : List RO := [
  ⟨.loc 10, .mv, [.var 5], none⟩,
  ⟨.var 3, .mv, [.loc 10], none⟩]
@[reducible] noncomputable def r103_4 : List RO := [
  ⟨.loc 11, .mv, [.var 1], none⟩,
  ⟨.loc 12, .mv, [.var 0], none⟩,
  ⟨.loc 13, .mv, [.var 3], none⟩,
  ⟨.loc 14, .ixaS 1, [.loc 12, .loc 13], none⟩,
  ⟨.loc 15, .ld false 1, [.loc 14], none⟩,
  ⟨.var 7, .bin .eql, [.loc 11, .loc 15], none⟩]
@[reducible] noncomputable def r103_5 : List RO := [
  ⟨.loc 17, .mv, [.var 3], none⟩,
  ⟨.var 2, .mv, [.loc 17], none⟩]
@[reducible] noncomputable def r103_6 : List RO := [
  ⟨.loc 18, .bin .add, [.var 5, .con (.int .i64 1)], none⟩,
  ⟨.var 5, .mv, [.loc 18], none⟩]
@[reducible] noncomputable def r103_7 : List RO := [
  ⟨.var 2, .mv, [(.con (.int .i64 (-1)))], none⟩]
theorem P103 : C103.M = M := by unfold C103 E103; rfl
theorem i103 {a0 a1 : D} : St.init C103 [a0, a1] ⟨[], []⟩ = ⟨[a0, a1, .undef, .undef, .undef, .undef, .undef, .undef], [], ⟨[], []⟩⟩ := by unfold C103 E103; rfl
noncomputable def c103 : RC := (.seq (.reg r103_0) (.seq (.seq (.reg r103_1) (.block 0 (.loop (.seq (.reg r103_2) (.seq (.cond (.var 6) .skip (.exit 0)) (.seq (.block 1 (.seq (.reg r103_3) (.seq (.reg r103_4) (.cond (.var 7) (.seq (.reg r103_5) .ret) .skip)))) (.reg r103_6))))))) (.seq (.reg r103_7) .ret)))
noncomputable def q103 : List RR := [(.slot (.var 2))]
theorem z103 {n m : Nat} : resCode (E103 n m) (Try.f103.body.getD .skip) = some c103 := by kernel_rfl
theorem zr103 {n m : Nat} : resRs (E103 n m) Try.f103.results.toList = some q103 := by kernel_rfl
theorem ok103 {args : List D} {d : D} (hl : args.length = 2) (h : SWp C103 c103 (fun e s => (match e with | .exit _ => False | _ => True) ∧ rrsWp q103 s fun ds => D.closed (oneOrTup ds) = true ∧ (oneOrTup ds).er = d) (St.init C103 args ⟨[], []⟩)) : Pur M 103 args d :=
  pur_of_body (C := C103) (fn := Try.f103) Try.func103 (by kernel_rfl) (by kernel_rfl) (rc := c103) z103 (rs := q103) zr103 (by kernel_rfl) (by rw [hl]; rfl) (by rw [hl]; decide) rfl rfl h
/- 50 bogie.rule.node · 1 arguments · kept slots [0, 1, 2, 3, 4, 5, 6, 7, 16, 17, 19, 25, 32, 50, 59, 79, 81, 89, 96, 105] -/
noncomputable def E50 (n m : Nat) : Cfg := ⟨M, [0, 1, 2, 3, 4, 5, 6, 7, 16, 17, 19, 25, 32, 50, 59, 79, 81, 89, 96, 105], 147, n, m, []⟩
noncomputable def C50 : Cfg := E50 0 0
@[reducible] noncomputable def r50_0 : List RO := [
  ⟨.var 1, .box, [.var 0], none⟩,
  ⟨.var 2, .mv, [.con (.bool false)], none⟩]
@[reducible] noncomputable def r50_1 : List RO := [
  ⟨.loc 8, .fld 0, [.var 1], none⟩,
  ⟨.loc 9, .ld false 1, [.loc 8], none⟩,
  ⟨.loc 10, (.bld [(.int .i64 0), (.str []), (.str []), (.int .i64 0), (.int .i64 0), (.lit (.slice none 0 0))] [(0, 1)]), [.loc 9], none⟩,
  ⟨.var 3, (.newb [(.int .i64 0), (.str []), (.str []), (.int .i64 0), (.int .i64 0), (.lit (.slice none 0 0))]), [], none⟩,
  ⟨.none, .st 6, [.var 3, .loc 10], none⟩]
@[reducible] noncomputable def r50_2 : List RO := [
  ⟨.loc 11, .fld 5, [.var 1], none⟩,
  ⟨.loc 12, .ld false 1, [.loc 11], none⟩,
  ⟨.loc 13, .lenL, [.loc 12], none⟩,
  ⟨.loc 14, .bin .eql, [.loc 13, .con (.int .i64 0)], none⟩,
  ⟨.var 4, .mv, [.loc 14], none⟩,
  ⟨.var 5, .mv, [.con (.bool true)], none⟩]
@[reducible] noncomputable def r50_3 : List RO := [
  ⟨.var 6, .mv, [(.con (.fn (.func 73) [] []))], none⟩]
@[reducible] noncomputable def r50_4 : List RO := [
  ⟨.var 7, .mv, [.con (.bool true)], none⟩]
@[reducible] noncomputable def r50_5 : List RO := [
  ⟨.loc 15, .fld 0, [.var 1], none⟩,
  ⟨.var 8, .ld false 1, [.loc 15], none⟩]
@[reducible] noncomputable def r50_6 : List RO := [
  ⟨.loc 18, .bin .eql, [.var 8, .con (.int .i64 1)], none⟩,
  ⟨.var 9, .mv, [.loc 18], none⟩]
@[reducible] noncomputable def r50_7 : List RO := [
  ⟨.var 5, .mv, [.con (.bool false)], none⟩]
@[reducible] noncomputable def r50_8 : List RO := [
  ⟨.loc 20, .bin .eql, [.var 8, .con (.int .i64 2)], none⟩,
  ⟨.var 10, .mv, [.loc 20], none⟩]
@[reducible] noncomputable def r50_9 : List (RO × Bool) := [
  (⟨.loc 21, .fld 5, [.var 1], none⟩, true),
  (⟨.loc 22, .ld false 1, [.loc 21], none⟩, true),
  (⟨.loc 23, .lenL, [.loc 22], none⟩, true),
  (⟨.loc 24, .bin .eql, [.loc 23, .con (.int .i64 1)], none⟩, true),
  (⟨.var 5, .mv, [.con (.bool false)], none⟩, true)]
@[reducible] noncomputable def r50_10 : List RO := [
  ⟨.var 4, .mv, [.loc 24], none⟩]
@[reducible] noncomputable def r50_11 : List RO := [
  ⟨.loc 26, .bin .eql, [.var 8, .con (.int .i64 3)], none⟩,
  ⟨.var 11, .mv, [.loc 26], none⟩]
@[reducible] noncomputable def r50_12 : List RO := [
  ⟨.loc 27, .bin .eql, [.var 8, .con (.int .i64 4)], none⟩,
  ⟨.var 11, .mv, [.loc 27], none⟩]
@[reducible] noncomputable def r50_13 : List (RO × Bool) := [
  (⟨.loc 28, .fld 5, [.var 1], none⟩, true),
  (⟨.loc 29, .ld false 1, [.loc 28], none⟩, true),
  (⟨.loc 30, .lenL, [.loc 29], none⟩, true),
  (⟨.loc 31, .bin .gtr, [.loc 30, .con (.int .i64 1)], none⟩, true),
  (⟨.var 5, .mv, [.con (.bool false)], none⟩, true)]
@[reducible] noncomputable def r50_14 : List RO := [
  ⟨.var 4, .mv, [.loc 31], none⟩]
@[reducible] noncomputable def r50_15 : List RO := [
  ⟨.loc 33, .bin .eql, [.var 8, .con (.int .i64 5)], none⟩,
  ⟨.var 12, .mv, [.loc 33], none⟩]
@[reducible] noncomputable def r50_16 : List (RO × Bool) := [
  (⟨.loc 34, .fld 3, [.var 1], none⟩, true),
  (⟨.loc 35, .ld false 1, [.loc 34], none⟩, true),
  (⟨.loc 36, .fld 4, [.var 1], none⟩, true),
  (⟨.loc 37, .ld false 1, [.loc 36], none⟩, true),
  (⟨.loc 38, .mv, [.var 6], none⟩, true),
  (⟨.loc 39, .fld 3, [.var 1], none⟩, true),
  (⟨.loc 40, .ld false 1, [.loc 39], none⟩, true),
  (⟨.loc 41, .call, [.loc 38, .loc 40, .con (.int .i64 0)], none⟩, true),
  (⟨.loc 42, .mv, [.loc 41], none⟩, true),
  (⟨.loc 43, .mv, [.var 6], (some (.loc 42, true))⟩, true),
  (⟨.loc 44, .fld 4, [.var 1], (some (.loc 42, true))⟩, true),
  (⟨.loc 45, .ld false 1, [.loc 44], (some (.loc 42, true))⟩, true),
  (⟨.loc 46, .call, [.loc 43, .loc 45, .con (.int .i64 0)], (some (.loc 42, true))⟩, true),
  (⟨.loc 47, .pick, [.loc 42, .loc 46, .con (.bool false)], none⟩, true),
  (⟨.loc 48, .fld 3, [.var 3], none⟩, true),
  (⟨.none, .st 1, [.loc 48, .loc 35], none⟩, true),
  (⟨.loc 49, .fld 4, [.var 3], none⟩, true),
  (⟨.none, .st 1, [.loc 49, .loc 37], none⟩, false)]
@[reducible] noncomputable def r50_17 : List RO := [
  ⟨.var 7, .mv, [.loc 47], none⟩]
@[reducible] noncomputable def r50_18 : List RO := [
  ⟨.loc 51, .bin .eql, [.var 8, .con (.int .i64 6)], none⟩,
  ⟨.var 13, .mv, [.loc 51], none⟩]
@[reducible] noncomputable def r50_19 : List (RO × Bool) := [
  (⟨.loc 52, .fld 3, [.var 1], none⟩, true),
  (⟨.loc 53, .ld false 1, [.loc 52], none⟩, true),
  (⟨.loc 54, .mv, [.var 6], none⟩, true),
  (⟨.loc 55, .fld 3, [.var 1], none⟩, true),
  (⟨.loc 56, .ld false 1, [.loc 55], none⟩, true),
  (⟨.loc 57, .call, [.loc 54, .loc 56, .con (.int .i64 0)], none⟩, true),
  (⟨.loc 58, .fld 3, [.var 3], none⟩, true)]
@[reducible] noncomputable def r50_20 : List RO := [
  ⟨.none, .st 1, [.loc 58, .loc 53], none⟩,
  ⟨.var 7, .mv, [.loc 57], none⟩]
@[reducible] noncomputable def r50_21 : List RO := [
  ⟨.loc 60, .bin .eql, [.var 8, .con (.int .i64 7)], none⟩,
  ⟨.var 14, .mv, [.loc 60], none⟩]
@[reducible] noncomputable def r50_22 : List (RO × Bool) := [
  (⟨.loc 61, .fld 2, [.var 1], none⟩, true),
  (⟨.loc 62, .ld false 1, [.loc 61], none⟩, true),
  (⟨.loc 63, .fld 2, [.var 1], none⟩, true),
  (⟨.loc 64, .ld false 1, [.loc 63], none⟩, true),
  (⟨.loc 65, .bin .neq, [.loc 64, (.con (.str []))], none⟩, true),
  (⟨.loc 66, .mv, [.loc 65], none⟩, true),
  (⟨.loc 67, .fld 2, [.var 1], (some (.loc 66, true))⟩, true),
  (⟨.loc 68, .ld false 1, [.loc 67], (some (.loc 66, true))⟩, true),
  (⟨.loc 69, .lenS, [.loc 68], (some (.loc 66, true))⟩, true),
  (⟨.loc 70, .bin .leq, [.loc 69, .con (.int .i64 200)], (some (.loc 66, true))⟩, true),
  (⟨.loc 71, .pick, [.loc 66, .loc 70, .con (.bool false)], none⟩, true),
  (⟨.loc 72, .mv, [.loc 71], none⟩, true),
  (⟨.loc 73, .fld 1, [.var 1], (some (.loc 72, true))⟩, true),
  (⟨.loc 74, .ld false 1, [.loc 73], (some (.loc 72, true))⟩, true),
  (⟨.loc 75, .call, [(.con (.fn (.func 74) [] [])), .loc 74], (some (.loc 72, true))⟩, true),
  (⟨.loc 76, .un .not, [.loc 75], (some (.loc 72, true))⟩, true),
  (⟨.loc 77, .pick, [.loc 72, .loc 76, .con (.bool false)], none⟩, true),
  (⟨.loc 78, .fld 2, [.var 3], none⟩, true),
  (⟨.none, .st 1, [.loc 78, .loc 62], none⟩, false)]
@[reducible] noncomputable def r50_23 : List RO := [
  ⟨.var 7, .mv, [.loc 77], none⟩]
@[reducible] noncomputable def r50_24 : List RO := [
  ⟨.loc 80, .bin .eql, [.var 8, .con (.int .i64 8)], none⟩,
  ⟨.var 15, .mv, [.loc 80], none⟩]
@[reducible] noncomputable def r50_25 : List RO := [
  ⟨.loc 82, .bin .eql, [.var 8, .con (.int .i64 9)], none⟩,
  ⟨.var 16, .mv, [.loc 82], none⟩]
@[reducible] noncomputable def r50_26 : List (RO × Bool) := [
  (⟨.loc 83, .fld 2, [.var 1], none⟩, true),
  (⟨.loc 84, .ld false 1, [.loc 83], none⟩, true),
  (⟨.loc 85, .fld 2, [.var 1], none⟩, true),
  (⟨.loc 86, .ld false 1, [.loc 85], none⟩, true),
  (⟨.loc 87, .call, [(.con (.fn (.func 47) [] [])), .loc 86], none⟩, true),
  (⟨.loc 88, .fld 2, [.var 3], none⟩, true)]
@[reducible] noncomputable def r50_27 : List RO := [
  ⟨.none, .st 1, [.loc 88, .loc 84], none⟩,
  ⟨.var 7, .mv, [.loc 87], none⟩]
@[reducible] noncomputable def r50_28 : List RO := [
  ⟨.loc 90, .bin .eql, [.var 8, .con (.int .i64 10)], none⟩,
  ⟨.var 17, .mv, [.loc 90], none⟩]
@[reducible] noncomputable def r50_29 : List RO := [
  ⟨.loc 91, .bin .eql, [.var 8, .con (.int .i64 11)], none⟩,
  ⟨.var 17, .mv, [.loc 91], none⟩]
@[reducible] noncomputable def r50_30 : List RO := [
  ⟨.loc 92, .fld 5, [.var 1], none⟩,
  ⟨.loc 93, .ld false 1, [.loc 92], none⟩,
  ⟨.loc 94, .lenL, [.loc 93], none⟩,
  ⟨.loc 95, .bin .eql, [.loc 94, .con (.int .i64 1)], none⟩,
  ⟨.var 4, .mv, [.loc 95], none⟩]
@[reducible] noncomputable def r50_31 : List RO := [
  ⟨.loc 97, .bin .eql, [.var 8, .con (.int .i64 12)], none⟩,
  ⟨.var 18, .mv, [.loc 97], none⟩]
@[reducible] noncomputable def r50_32 : List (RO × Bool) := [
  (⟨.loc 98, .fld 3, [.var 1], none⟩, true),
  (⟨.loc 99, .ld false 1, [.loc 98], none⟩, true),
  (⟨.loc 100, .mv, [.var 6], none⟩, true),
  (⟨.loc 101, .fld 3, [.var 1], none⟩, true),
  (⟨.loc 102, .ld false 1, [.loc 101], none⟩, true),
  (⟨.loc 103, .call, [.loc 100, .loc 102, .con (.int .i64 1)], none⟩, true),
  (⟨.loc 104, .fld 3, [.var 3], none⟩, true)]
@[reducible] noncomputable def r50_33 : List RO := [
  ⟨.none, .st 1, [.loc 104, .loc 99], none⟩,
  ⟨.var 7, .mv, [.loc 103], none⟩]
@[reducible] noncomputable def r50_34 : List RO := [
  ⟨.var 2, .mv, [.con (.bool false)], none⟩]
@[reducible] noncomputable def r50_35 : List RO := [
  ⟨.var 19, .mv, [.var 5], none⟩]
@[reducible] noncomputable def r50_36 : List (RO × Bool) := [
  (⟨.loc 106, .fld 1, [.var 1], none⟩, true),
  (⟨.loc 107, .ld false 1, [.loc 106], none⟩, true),
  (⟨.loc 108, .mv, [.var 7], none⟩, true),
  (⟨.loc 109, .mv, [.loc 108], none⟩, true),
  (⟨.loc 110, .fld 1, [.var 1], (some (.loc 109, true))⟩, true),
  (⟨.loc 111, .ld false 1, [.loc 110], (some (.loc 109, true))⟩, true),
  (⟨.loc 112, .call, [(.con (.fn (.func 47) [] [])), .loc 111], (some (.loc 109, true))⟩, true),
  (⟨.loc 113, .pick, [.loc 109, .loc 112, .con (.bool false)], none⟩, true),
  (⟨.loc 114, .fld 1, [.var 3], none⟩, true),
  (⟨.none, .st 1, [.loc 114, .loc 107], none⟩, false)]
@[reducible] noncomputable def r50_37 : List RO := [
  ⟨.var 7, .mv, [.loc 113], none⟩]
@[reducible] noncomputable def r50_38 : List RO := [
  ⟨.loc 115, .mv, [.var 7], none⟩,
  ⟨.loc 116, .mv, [.loc 115], none⟩,
  ⟨.loc 117, .mv, [.var 4], (some (.loc 116, true))⟩,
  ⟨.loc 118, .pick, [.loc 116, .loc 117, .con (.bool false)], none⟩,
  ⟨.loc 119, .mv, [.loc 118], none⟩,
  ⟨.loc 120, .fld 1, [.var 3], (some (.loc 119, true))⟩,
  ⟨.loc 121, .ld false 1, [.loc 120], (some (.loc 119, true))⟩,
  ⟨.loc 122, .fld 1, [.var 1], (some (.loc 119, true))⟩,
  ⟨.loc 123, .ld false 1, [.loc 122], (some (.loc 119, true))⟩,
  ⟨.loc 124, .bin .eql, [.loc 121, .loc 123], (some (.loc 119, true))⟩,
  ⟨.loc 125, .pick, [.loc 119, .loc 124, .con (.bool false)], none⟩,
  ⟨.loc 126, .mv, [.loc 125], none⟩,
  ⟨.loc 127, .fld 2, [.var 3], (some (.loc 126, true))⟩,
  ⟨.loc 128, .ld false 1, [.loc 127], (some (.loc 126, true))⟩,
  ⟨.loc 129, .fld 2, [.var 1], (some (.loc 126, true))⟩,
  ⟨.loc 130, .ld false 1, [.loc 129], (some (.loc 126, true))⟩,
  ⟨.loc 131, .bin .eql, [.loc 128, .loc 130], (some (.loc 126, true))⟩,
  ⟨.loc 132, .pick, [.loc 126, .loc 131, .con (.bool false)], none⟩,
  ⟨.loc 133, .mv, [.loc 132], none⟩,
  ⟨.loc 134, .fld 3, [.var 3], (some (.loc 133, true))⟩,
  ⟨.loc 135, .ld false 1, [.loc 134], (some (.loc 133, true))⟩,
  ⟨.loc 136, .fld 3, [.var 1], (some (.loc 133, true))⟩,
  ⟨.loc 137, .ld false 1, [.loc 136], (some (.loc 133, true))⟩,
  ⟨.loc 138, .bin .eql, [.loc 135, .loc 137], (some (.loc 133, true))⟩,
  ⟨.loc 139, .pick, [.loc 133, .loc 138, .con (.bool false)], none⟩,
  ⟨.loc 140, .mv, [.loc 139], none⟩,
  ⟨.loc 141, .fld 4, [.var 3], (some (.loc 140, true))⟩,
  ⟨.loc 142, .ld false 1, [.loc 141], (some (.loc 140, true))⟩,
  ⟨.loc 143, .fld 4, [.var 1], (some (.loc 140, true))⟩,
  ⟨.loc 144, .ld false 1, [.loc 143], (some (.loc 140, true))⟩,
  ⟨.loc 145, .bin .eql, [.loc 142, .loc 144], (some (.loc 140, true))⟩,
  ⟨.loc 146, .pick, [.loc 140, .loc 145, .con (.bool false)], none⟩,
  ⟨.var 2, .mv, [.loc 146], none⟩]
theorem P50 : C50.M = M := by unfold C50 E50; rfl
theorem i50 {a0 : D} : St.init C50 [a0] ⟨[], []⟩ = ⟨[a0, .undef, .undef, .undef, .undef, .undef, .undef, .undef, .undef, .undef, .undef, .undef, .undef, .undef, .undef, .undef, .undef, .undef, .undef, .undef], [], ⟨[], []⟩⟩ := by unfold C50 E50; rfl
noncomputable def c50 : RC := (.seq (.reg r50_0) (.seq (.reg r50_1) (.seq (.reg r50_2) (.seq (.reg r50_3) (.seq (.reg r50_4) (.seq (.seq (.reg r50_5) (.block 0 (.seq (.reg r50_6) (.cond (.var 9) (.reg r50_7) (.seq (.reg r50_8) (.cond (.var 10) (.regD r50_9 r50_10) (.seq (.seq (.reg r50_11) (.cond (.var 11) .skip (.reg r50_12))) (.cond (.var 11) (.regD r50_13 r50_14) (.seq (.reg r50_15) (.cond (.var 12) (.regD r50_16 r50_17) (.seq (.reg r50_18) (.cond (.var 13) (.regD r50_19 r50_20) (.seq (.reg r50_21) (.cond (.var 14) (.regD r50_22 r50_23) (.seq (.reg r50_24) (.cond (.var 15) .skip (.seq (.reg r50_25) (.cond (.var 16) (.regD r50_26 r50_27) (.seq (.seq (.reg r50_28) (.cond (.var 17) .skip (.reg r50_29))) (.cond (.var 17) (.reg r50_30) (.seq (.reg r50_31) (.cond (.var 18) (.regD r50_32 r50_33) (.seq (.reg r50_34) .ret))))))))))))))))))))))) (.seq (.seq (.reg r50_35) (.cond (.var 19) (.regD r50_36 r50_37) .skip)) (.seq (.reg r50_38) .ret))))))))
noncomputable def q50 : List RR := [(.slot (.var 2))]
theorem z50 {n m : Nat} : resCode (E50 n m) (Try.f50.body.getD .skip) = some c50 := by kernel_rfl
theorem zr50 {n m : Nat} : resRs (E50 n m) Try.f50.results.toList = some q50 := by kernel_rfl
theorem ok50 {args : List D} {d : D} (hl : args.length = 1) (h : SWp C50 c50 (fun e s => (match e with | .exit _ => False | _ => True) ∧ rrsWp q50 s fun ds => D.closed (oneOrTup ds) = true ∧ (oneOrTup ds).er = d) (St.init C50 args ⟨[], []⟩)) : Pur M 50 args d :=
  pur_of_body (C := C50) (fn := Try.f50) Try.func50 (by kernel_rfl) (by kernel_rfl) (rc := c50) z50 (rs := q50) zr50 (by kernel_rfl) (by rw [hl]; rfl) (by rw [hl]; decide) rfl rfl h
/- 93 slices.IndexFunc[[]bogie.api.Expr,bogie.api.Expr] · 2 arguments · kept slots [0, 1, 4, 5, 7, 8, 9, 16] -/
noncomputable def E93 (n m : Nat) : Cfg := ⟨M, [0, 1, 4, 5, 7, 8, 9, 16], 19, n, m, []⟩
@[reducible] noncomputable def r93_0 : List RO := [
  ⟨.var 2, .mv, [.con (.int .i64 0)], none⟩]
@[reducible] noncomputable def r93_1 : List RO := [
  ⟨.loc 6, .mv, [.var 0], none⟩,
  ⟨.var 4, .lenL, [.loc 6], none⟩,
  ⟨.var 5, .mv, [.con (.int .i64 0)], none⟩]
@[reducible] noncomputable def r93_2 : List RO := [
  ⟨.var 6, .bin .lss, [.var 5, .var 4], none⟩]
@[reducible] noncomputable def r93_3 : List RO := [
  ⟨.loc 10, .mv, [.var 5], none⟩,
  ⟨.var 3, .mv, [.loc 10], none⟩]
@[reducible] noncomputable def r93_4 : List RO := [
  ⟨.loc 11, .mv, [.var 1], none⟩,
  ⟨.loc 12, .mv, [.var 0], none⟩,
  ⟨.loc 13, .mv, [.var 3], none⟩,
  ⟨.loc 14, .ixaS 6, [.loc 12, .loc 13], none⟩,
  ⟨.loc 15, .ld true 6, [.loc 14], none⟩,
  ⟨.var 7, .call, [.loc 11, .loc 15], none⟩]
@[reducible] noncomputable def r93_5 : List RO := [
  ⟨.loc 17, .mv, [.var 3], none⟩,
  ⟨.var 2, .mv, [.loc 17], none⟩]
@[reducible] noncomputable def r93_6 : List RO := [
  ⟨.loc 18, .bin .add, [.var 5, .con (.int .i64 1)], none⟩,
  ⟨.var 5, .mv, [.loc 18], none⟩]
@[reducible] noncomputable def r93_7 : List RO := [
  ⟨.var 2, .mv, [(.con (.int .i64 (-1)))], none⟩]
theorem pe93 {n m : Nat} : (E93 n m).M = M := by unfold E93; rfl
theorem ie93 {n m : Nat} {hp : Hp} {a0 a1 : D} : St.init (E93 n m) [a0, a1] hp = ⟨[a0, a1, .undef, .undef, .undef, .undef, .undef, .undef], [], hp⟩ := by unfold E93; rfl
noncomputable def c93 : RC := (.seq (.reg r93_0) (.seq (.seq (.reg r93_1) (.block 0 (.loop (.seq (.reg r93_2) (.seq (.cond (.var 6) .skip (.exit 0)) (.seq (.block 1 (.seq (.reg r93_3) (.seq (.reg r93_4) (.cond (.var 7) (.seq (.reg r93_5) .ret) .skip)))) (.reg r93_6))))))) (.seq (.reg r93_7) .ret)))
noncomputable def q93 : List RR := [(.slot (.var 2))]
theorem z93 {n m : Nat} : resCode (E93 n m) (Try.f93.body.getD .skip) = some c93 := by kernel_rfl
theorem zr93 {n m : Nat} : resRs (E93 n m) Try.f93.results.toList = some q93 := by kernel_rfl
theorem oe93 {args : List D} {hp : Hp} {R : D → Hp → Prop} (n m : Nat) (hl : args.length = 2) (hn : n = hp.H.length) (hm : m = hp.tk.length) (h : SWp (E93 n m) c93 (fun e s => (match e with | .exit _ => False | _ => True) ∧ ∃ s1, Weak (E93 n m) s s1 ∧ rrsWp q93 s1 fun ds => R (oneOrTup ds) s1.hp) (St.init (E93 n m) args hp)) : Eff M 93 args hp R :=
  eff_of_body (C := E93 n m) (fn := Try.f93) Try.func93 (by kernel_rfl) (by kernel_rfl) (rc := c93) z93 (rs := q93) zr93 (by kernel_rfl) (by rw [hl]; rfl) (by rw [hl]; exact (by decide : 2 ≤ 19)) hn hm h
/- 71 slices.ContainsFunc[[]bogie.api.Expr,bogie.api.Expr] · 2 arguments · kept slots [0, 1, 4] -/
noncomputable def E71 (n m : Nat) : Cfg := ⟨M, [0, 1, 4], 9, n, m, []⟩
@[reducible] noncomputable def r71_0 : List RO := [
  ⟨.var 2, .mv, [.con (.bool false)], none⟩]
@[reducible] noncomputable def r71_1 : List RO := [
  ⟨.loc 5, .mv, [.var 0], none⟩,
  ⟨.loc 6, .mv, [.var 1], none⟩,
  ⟨.loc 7, .call, [(.con (.fn (.func 93) [] [])), .loc 5, .loc 6], none⟩,
  ⟨.loc 8, .bin .geq, [.loc 7, .con (.int .i64 0)], none⟩,
  ⟨.var 2, .mv, [.loc 8], none⟩]
theorem pe71 {n m : Nat} : (E71 n m).M = M := by unfold E71; rfl
theorem ie71 {n m : Nat} {hp : Hp} {a0 a1 : D} : St.init (E71 n m) [a0, a1] hp = ⟨[a0, a1, .undef], [], hp⟩ := by unfold E71; rfl
noncomputable def c71 : RC := (.seq (.reg r71_0) (.seq (.reg r71_1) .ret))
noncomputable def q71 : List RR := [(.slot (.var 2))]
theorem z71 {n m : Nat} : resCode (E71 n m) (Try.f71.body.getD .skip) = some c71 := by kernel_rfl
theorem zr71 {n m : Nat} : resRs (E71 n m) Try.f71.results.toList = some q71 := by kernel_rfl
theorem oe71 {args : List D} {hp : Hp} {R : D → Hp → Prop} (n m : Nat) (hl : args.length = 2) (hn : n = hp.H.length) (hm : m = hp.tk.length) (h : SWp (E71 n m) c71 (fun e s => (match e with | .exit _ => False | _ => True) ∧ ∃ s1, Weak (E71 n m) s s1 ∧ rrsWp q71 s1 fun ds => R (oneOrTup ds) s1.hp) (St.init (E71 n m) args hp)) : Eff M 71 args hp R :=
  eff_of_body (C := E71 n m) (fn := Try.f71) Try.func71 (by kernel_rfl) (by kernel_rfl) (rc := c71) z71 (rs := q71) zr71 (by kernel_rfl) (by rw [hl]; rfl) (by rw [hl]; exact (by decide : 2 ≤ 9)) hn hm h
/- 72 bogie.rule.walk$1 · 2 arguments · kept slots [0, 1, 2, 3] -/
noncomputable def E72 (n m : Nat) : Cfg := ⟨M, [0, 1, 2, 3], 8, n, m, []⟩
@[reducible] noncomputable def r72_0 : List RO := [
  ⟨.var 2, .box, [.var 0], none⟩,
  ⟨.var 3, .mv, [.con (.bool false)], none⟩]
@[reducible] noncomputable def r72_1 : List RO := [
  ⟨.loc 4, .ld true 6, [.var 2], none⟩,
  ⟨.loc 5, .ld false 1, [.var 1], none⟩,
  ⟨.loc 6, .call, [(.con (.fn (.func 49) [] [])), .loc 4, .loc 5], none⟩,
  ⟨.loc 7, .un .not, [.loc 6], none⟩,
  ⟨.var 3, .mv, [.loc 7], none⟩]
theorem pe72 {n m : Nat} : (E72 n m).M = M := by unfold E72; rfl
theorem ie72 {n m : Nat} {hp : Hp} {a0 a1 : D} : St.init (E72 n m) [a0, a1] hp = ⟨[a0, a1, .undef, .undef], [], hp⟩ := by unfold E72; rfl
noncomputable def c72 : RC := (.seq (.reg r72_0) (.seq (.reg r72_1) .ret))
noncomputable def q72 : List RR := [(.slot (.var 3))]
theorem z72 {n m : Nat} : resCode (E72 n m) (Try.f72.body.getD .skip) = some c72 := by kernel_rfl
theorem zr72 {n m : Nat} : resRs (E72 n m) Try.f72.results.toList = some q72 := by kernel_rfl
theorem oe72 {args : List D} {hp : Hp} {R : D → Hp → Prop} (n m : Nat) (hl : args.length = 2) (hn : n = hp.H.length) (hm : m = hp.tk.length) (h : SWp (E72 n m) c72 (fun e s => (match e with | .exit _ => False | _ => True) ∧ ∃ s1, Weak (E72 n m) s s1 ∧ rrsWp q72 s1 fun ds => R (oneOrTup ds) s1.hp) (St.init (E72 n m) args hp)) : Eff M 72 args hp R :=
  eff_of_body (C := E72 n m) (fn := Try.f72) Try.func72 (by kernel_rfl) (by kernel_rfl) (rc := c72) z72 (rs := q72) zr72 (by kernel_rfl) (by rw [hl]; rfl) (by rw [hl]; exact (by decide : 2 ≤ 8)) hn hm h
/- 49 bogie.rule.walk · 2 arguments · kept slots [0, 1, 2, 3, 4] -/
noncomputable def E49 (n m : Nat) : Cfg := ⟨M, [0, 1, 2, 3, 4], 15, n, m, []⟩
noncomputable def C49 : Cfg := E49 0 0
@[reducible] noncomputable def r49_0 : List RO := [
  ⟨.var 2, .box, [.var 0], none⟩,
  ⟨.var 3, .box, [.var 1], none⟩,
  ⟨.var 4, .mv, [.con (.bool false)], none⟩]
@[reducible] noncomputable def r49_1 : List RO := [
  ⟨.loc 5, .ld false 1, [.var 3], none⟩,
  ⟨.loc 6, .ld true 6, [.var 2], none⟩,
  ⟨.loc 7, .call, [.loc 5, .loc 6], none⟩,
  ⟨.loc 8, .mv, [.loc 7], none⟩,
  ⟨.loc 9, .fld 5, [.var 2], (some (.loc 8, true))⟩,
  ⟨.loc 10, .ld false 1, [.loc 9], (some (.loc 8, true))⟩,
  ⟨.loc 11, (.mkF (.func 72) 0), [.var 3], (some (.loc 8, true))⟩,
  ⟨.loc 12, .call, [(.con (.fn (.func 71) [] [])), .loc 10, .loc 11], (some (.loc 8, true))⟩,
  ⟨.loc 13, .un .not, [.loc 12], (some (.loc 8, true))⟩,
  ⟨.loc 14, .pick, [.loc 8, .loc 13, .con (.bool false)], none⟩,
  ⟨.var 4, .mv, [.loc 14], none⟩]
theorem P49 : C49.M = M := by unfold C49 E49; rfl
theorem pe49 {n m : Nat} : (E49 n m).M = M := by unfold E49; rfl
theorem i49 {a0 a1 : D} : St.init C49 [a0, a1] ⟨[], []⟩ = ⟨[a0, a1, .undef, .undef, .undef], [], ⟨[], []⟩⟩ := by unfold C49 E49; rfl
theorem ie49 {n m : Nat} {hp : Hp} {a0 a1 : D} : St.init (E49 n m) [a0, a1] hp = ⟨[a0, a1, .undef, .undef, .undef], [], hp⟩ := by unfold E49; rfl
noncomputable def c49 : RC := (.seq (.reg r49_0) (.seq (.reg r49_1) .ret))
noncomputable def q49 : List RR := [(.slot (.var 4))]
theorem z49 {n m : Nat} : resCode (E49 n m) (Try.f49.body.getD .skip) = some c49 := by kernel_rfl
theorem zr49 {n m : Nat} : resRs (E49 n m) Try.f49.results.toList = some q49 := by kernel_rfl
theorem oe49 {args : List D} {hp : Hp} {R : D → Hp → Prop} (n m : Nat) (hl : args.length = 2) (hn : n = hp.H.length) (hm : m = hp.tk.length) (h : SWp (E49 n m) c49 (fun e s => (match e with | .exit _ => False | _ => True) ∧ ∃ s1, Weak (E49 n m) s s1 ∧ rrsWp q49 s1 fun ds => R (oneOrTup ds) s1.hp) (St.init (E49 n m) args hp)) : Eff M 49 args hp R :=
  eff_of_body (C := E49 n m) (fn := Try.f49) Try.func49 (by kernel_rfl) (by kernel_rfl) (rc := c49) z49 (rs := q49) zr49 (by kernel_rfl) (by rw [hl]; rfl) (by rw [hl]; exact (by decide : 2 ≤ 15)) hn hm h
theorem ok49 {args : List D} {d : D} (hl : args.length = 2) (h : SWp C49 c49 (fun e s => (match e with | .exit _ => False | _ => True) ∧ rrsWp q49 s fun ds => D.closed (oneOrTup ds) = true ∧ (oneOrTup ds).er = d) (St.init C49 args ⟨[], []⟩)) : Pur M 49 args d :=
  pur_of_body (C := C49) (fn := Try.f49) Try.func49 (by kernel_rfl) (by kernel_rfl) (rc := c49) z49 (rs := q49) zr49 (by kernel_rfl) (by rw [hl]; rfl) (by rw [hl]; decide) rfl rfl h
/- 70 bogie.rule.size$1 · 2 arguments · kept slots [0, 1, 3] -/
noncomputable def E70 (n m : Nat) : Cfg := ⟨M, [0, 1, 3], 8, n, m, []⟩
@[reducible] noncomputable def r70_0 : List RO := [
  ⟨.loc 2, .box, [.var 0], none⟩,
  ⟨.var 2, .mv, [.con (.bool false)], none⟩]
@[reducible] noncomputable def r70_1 : List RO := [
  ⟨.loc 4, .ld false 1, [.var 1], none⟩,
  ⟨.loc 5, .bin .add, [.loc 4, .con (.int .i64 1)], none⟩,
  ⟨.none, .st 1, [.var 1, .loc 5], none⟩]
@[reducible] noncomputable def r70_2 : List RO := [
  ⟨.loc 6, .ld false 1, [.var 1], none⟩,
  ⟨.loc 7, .bin .leq, [.loc 6, .con (.int .i64 60)], none⟩,
  ⟨.var 2, .mv, [.loc 7], none⟩]
theorem pe70 {n m : Nat} : (E70 n m).M = M := by unfold E70; rfl
theorem ie70 {n m : Nat} {hp : Hp} {a0 a1 : D} : St.init (E70 n m) [a0, a1] hp = ⟨[a0, a1, .undef], [], hp⟩ := by unfold E70; rfl
noncomputable def c70 : RC := (.seq (.reg r70_0) (.seq (.reg r70_1) (.seq (.reg r70_2) .ret)))
noncomputable def q70 : List RR := [(.slot (.var 2))]
theorem z70 {n m : Nat} : resCode (E70 n m) (Try.f70.body.getD .skip) = some c70 := by kernel_rfl
theorem zr70 {n m : Nat} : resRs (E70 n m) Try.f70.results.toList = some q70 := by kernel_rfl
theorem oe70 {args : List D} {hp : Hp} {R : D → Hp → Prop} (n m : Nat) (hl : args.length = 2) (hn : n = hp.H.length) (hm : m = hp.tk.length) (h : SWp (E70 n m) c70 (fun e s => (match e with | .exit _ => False | _ => True) ∧ ∃ s1, Weak (E70 n m) s s1 ∧ rrsWp q70 s1 fun ds => R (oneOrTup ds) s1.hp) (St.init (E70 n m) args hp)) : Eff M 70 args hp R :=
  eff_of_body (C := E70 n m) (fn := Try.f70) Try.func70 (by kernel_rfl) (by kernel_rfl) (rc := c70) z70 (rs := q70) zr70 (by kernel_rfl) (by rw [hl]; rfl) (by rw [hl]; exact (by decide : 2 ≤ 8)) hn hm h
/- 48 bogie.rule.size · 1 arguments · kept slots [0, 1, 2, 3] -/
noncomputable def E48 (n m : Nat) : Cfg := ⟨M, [0, 1, 2, 3], 8, n, m, []⟩
noncomputable def C48 : Cfg := E48 0 0
@[reducible] noncomputable def r48_0 : List RO := [
  ⟨.var 1, .box, [.var 0], none⟩,
  ⟨.var 2, .mv, [.con (.int .i64 0)], none⟩]
@[reducible] noncomputable def r48_1 : List RO := [
  ⟨.var 3, (.newb [(.int .i64 0)]), [], none⟩,
  ⟨.none, .st 1, [.var 3, .con (.int .i64 0)], none⟩]
@[reducible] noncomputable def r48_2 : List RO := [
  ⟨.loc 4, .ld true 6, [.var 1], none⟩,
  ⟨.loc 5, (.mkF (.func 70) 0), [.var 3], none⟩,
  ⟨.loc 6, .call, [(.con (.fn (.func 49) [] [])), .loc 4, .loc 5], none⟩]
@[reducible] noncomputable def r48_3 : List RO := [
  ⟨.loc 7, .ld false 1, [.var 3], none⟩,
  ⟨.var 2, .mv, [.loc 7], none⟩]
theorem P48 : C48.M = M := by unfold C48 E48; rfl
theorem i48 {a0 : D} : St.init C48 [a0] ⟨[], []⟩ = ⟨[a0, .undef, .undef, .undef], [], ⟨[], []⟩⟩ := by unfold C48 E48; rfl
noncomputable def c48 : RC := (.seq (.reg r48_0) (.seq (.reg r48_1) (.seq (.reg r48_2) (.seq (.reg r48_3) .ret))))
noncomputable def q48 : List RR := [(.slot (.var 2))]
theorem z48 {n m : Nat} : resCode (E48 n m) (Try.f48.body.getD .skip) = some c48 := by kernel_rfl
theorem zr48 {n m : Nat} : resRs (E48 n m) Try.f48.results.toList = some q48 := by kernel_rfl
theorem ok48 {args : List D} {d : D} (hl : args.length = 1) (h : SWp C48 c48 (fun e s => (match e with | .exit _ => False | _ => True) ∧ rrsWp q48 s fun ds => D.closed (oneOrTup ds) = true ∧ (oneOrTup ds).er = d) (St.init C48 args ⟨[], []⟩)) : Pur M 48 args d :=
  pur_of_body (C := C48) (fn := Try.f48) Try.func48 (by kernel_rfl) (by kernel_rfl) (rc := c48) z48 (rs := q48) zr48 (by kernel_rfl) (by rw [hl]; rfl) (by rw [hl]; decide) rfl rfl h
/- 37 bogie.rule.Valid · 1 arguments · kept slots [0, 1, 2] -/
noncomputable def E37 (n m : Nat) : Cfg := ⟨M, [0, 1, 2], 22, n, m, []⟩
noncomputable def C37 : Cfg := E37 0 0
@[reducible] noncomputable def r37_0 : List RO := [
  ⟨.var 1, .box, [.var 0], none⟩,
  ⟨.var 2, .mv, [.con (.bool false)], none⟩]
@[reducible] noncomputable def r37_1 : List RO := [
  ⟨.loc 3, .fld 0, [.var 1], none⟩,
  ⟨.loc 4, .ld false 1, [.loc 3], none⟩,
  ⟨.loc 5, .call, [(.con (.fn (.func 47) [] [])), .loc 4], none⟩,
  ⟨.loc 6, .mv, [.loc 5], none⟩,
  ⟨.loc 7, .fld 1, [.var 1], (some (.loc 6, true))⟩,
  ⟨.loc 8, .ld false 1, [.loc 7], (some (.loc 6, true))⟩,
  ⟨.loc 9, .call, [(.con (.fn (.func 47) [] [])), .loc 8], (some (.loc 6, true))⟩,
  ⟨.loc 10, .pick, [.loc 6, .loc 9, .con (.bool false)], none⟩,
  ⟨.loc 11, .mv, [.loc 10], none⟩,
  ⟨.loc 12, .fld 2, [.var 1], (some (.loc 11, true))⟩,
  ⟨.loc 13, .ld true 6, [.loc 12], (some (.loc 11, true))⟩,
  ⟨.loc 14, .call, [(.con (.fn (.func 48) [] [])), .loc 13], (some (.loc 11, true))⟩,
  ⟨.loc 15, .bin .leq, [.loc 14, .con (.int .i64 60)], (some (.loc 11, true))⟩,
  ⟨.loc 16, .pick, [.loc 11, .loc 15, .con (.bool false)], none⟩,
  ⟨.loc 17, .mv, [.loc 16], none⟩,
  ⟨.loc 18, .fld 2, [.var 1], (some (.loc 17, true))⟩,
  ⟨.loc 19, .ld true 6, [.loc 18], (some (.loc 17, true))⟩,
  ⟨.loc 20, .call, [(.con (.fn (.func 49) [] [])), .loc 19, (.con (.fn (.func 50) [] []))], (some (.loc 17, true))⟩,
  ⟨.loc 21, .pick, [.loc 17, .loc 20, .con (.bool false)], none⟩,
  ⟨.var 2, .mv, [.loc 21], none⟩]
theorem P37 : C37.M = M := by unfold C37 E37; rfl
theorem i37 {a0 : D} : St.init C37 [a0] ⟨[], []⟩ = ⟨[a0, .undef, .undef], [], ⟨[], []⟩⟩ := by unfold C37 E37; rfl
noncomputable def c37 : RC := (.seq (.reg r37_0) (.seq (.reg r37_1) .ret))
noncomputable def q37 : List RR := [(.slot (.var 2))]
theorem z37 {n m : Nat} : resCode (E37 n m) (Try.f37.body.getD .skip) = some c37 := by kernel_rfl
theorem zr37 {n m : Nat} : resRs (E37 n m) Try.f37.results.toList = some q37 := by kernel_rfl
theorem ok37 {args : List D} {d : D} (hl : args.length = 1) (h : SWp C37 c37 (fun e s => (match e with | .exit _ => False | _ => True) ∧ rrsWp q37 s fun ds => D.closed (oneOrTup ds) = true ∧ (oneOrTup ds).er = d) (St.init C37 args ⟨[], []⟩)) : Pur M 37 args d :=
  pur_of_body (C := C37) (fn := Try.f37) Try.func37 (by kernel_rfl) (by kernel_rfl) (rc := c37) z37 (rs := q37) zr37 (by kernel_rfl) (by rw [hl]; rfl) (by rw [hl]; decide) rfl rfl h
/- 28 bogie.book.valid · 1 arguments · kept slots [0, 1, 2] -/
noncomputable def E28 (n m : Nat) : Cfg := ⟨M, [0, 1, 2], 33, n, m, []⟩
noncomputable def C28 : Cfg := E28 0 0
@[reducible] noncomputable def r28_0 : List RO := [
  ⟨.var 1, .box, [.var 0], none⟩,
  ⟨.var 2, .mv, [.con (.bool false)], none⟩]
@[reducible] noncomputable def r28_1 : List RO := [
  ⟨.loc 3, .fld 0, [.var 1], none⟩,
  ⟨.loc 4, .ld false 1, [.loc 3], none⟩,
  ⟨.loc 5, .bin .geq, [.loc 4, .con (.int .i64 0)], none⟩,
  ⟨.loc 6, .mv, [.loc 5], none⟩,
  ⟨.loc 7, .fld 0, [.var 1], (some (.loc 6, true))⟩,
  ⟨.loc 8, .ld false 1, [.loc 7], (some (.loc 6, true))⟩,
  ⟨.loc 9, .bin .leq, [.loc 8, .con (.int .i64 1000000)], (some (.loc 6, true))⟩,
  ⟨.loc 10, .pick, [.loc 6, .loc 9, .con (.bool false)], none⟩,
  ⟨.loc 11, .mv, [.loc 10], none⟩,
  ⟨.loc 12, .fld 1, [.var 1], (some (.loc 11, true))⟩,
  ⟨.loc 13, .ld false 1, [.loc 12], (some (.loc 11, true))⟩,
  ⟨.loc 14, .bin .geq, [.loc 13, .con (.int .i64 0)], (some (.loc 11, true))⟩,
  ⟨.loc 15, .pick, [.loc 11, .loc 14, .con (.bool false)], none⟩,
  ⟨.loc 16, .mv, [.loc 15], none⟩,
  ⟨.loc 17, .fld 1, [.var 1], (some (.loc 16, true))⟩,
  ⟨.loc 18, .ld false 1, [.loc 17], (some (.loc 16, true))⟩,
  ⟨.loc 19, .fld 2, [.var 1], (some (.loc 16, true))⟩,
  ⟨.loc 20, .ld false 1, [.loc 19], (some (.loc 16, true))⟩,
  ⟨.loc 21, .bin .leq, [.loc 18, .loc 20], (some (.loc 16, true))⟩,
  ⟨.loc 22, .pick, [.loc 16, .loc 21, .con (.bool false)], none⟩,
  ⟨.loc 23, .mv, [.loc 22], none⟩,
  ⟨.loc 24, .fld 2, [.var 1], (some (.loc 23, true))⟩,
  ⟨.loc 25, .ld false 1, [.loc 24], (some (.loc 23, true))⟩,
  ⟨.loc 26, .bin .leq, [.loc 25, .con (.int .i64 40000)], (some (.loc 23, true))⟩,
  ⟨.loc 27, .pick, [.loc 23, .loc 26, .con (.bool false)], none⟩,
  ⟨.loc 28, .mv, [.loc 27], none⟩,
  ⟨.loc 29, .fld 4, [.var 1], (some (.loc 28, true))⟩,
  ⟨.loc 30, .ld true 8, [.loc 29], (some (.loc 28, true))⟩,
  ⟨.loc 31, .call, [(.con (.fn (.func 37) [] [])), .loc 30], (some (.loc 28, true))⟩,
  ⟨.loc 32, .pick, [.loc 28, .loc 31, .con (.bool false)], none⟩,
  ⟨.var 2, .mv, [.loc 32], none⟩]
theorem P28 : C28.M = M := by unfold C28 E28; rfl
theorem i28 {a0 : D} : St.init C28 [a0] ⟨[], []⟩ = ⟨[a0, .undef, .undef], [], ⟨[], []⟩⟩ := by unfold C28 E28; rfl
noncomputable def c28 : RC := (.seq (.reg r28_0) (.seq (.reg r28_1) .ret))
noncomputable def q28 : List RR := [(.slot (.var 2))]
theorem z28 {n m : Nat} : resCode (E28 n m) (Try.f28.body.getD .skip) = some c28 := by kernel_rfl
theorem zr28 {n m : Nat} : resRs (E28 n m) Try.f28.results.toList = some q28 := by kernel_rfl
theorem ok28 {args : List D} {d : D} (hl : args.length = 1) (h : SWp C28 c28 (fun e s => (match e with | .exit _ => False | _ => True) ∧ rrsWp q28 s fun ds => D.closed (oneOrTup ds) = true ∧ (oneOrTup ds).er = d) (St.init C28 args ⟨[], []⟩)) : Pur M 28 args d :=
  pur_of_body (C := C28) (fn := Try.f28) Try.func28 (by kernel_rfl) (by kernel_rfl) (rc := c28) z28 (rs := q28) zr28 (by kernel_rfl) (by rw [hl]; rfl) (by rw [hl]; decide) rfl rfl h
end Go.Proofs.Ytnooagipikedeaa
end
section
set_option maxRecDepth 100000
namespace Go.Proofs.Ytnooagipikedeaa
open Go GoV
/- 55 bogie.bogieref20.Nodes · 2 arguments · kept slots [0, 1, 2, 4, 5, 6, 16] -/
noncomputable def E55 (n m : Nat) : Cfg := ⟨M, [0, 1, 2, 4, 5, 6, 16], 31, n, m, []⟩
noncomputable def C55 : Cfg := E55 0 0
@[reducible] noncomputable def r55_0 : List RO := [
  ⟨.var 2, .box, [.var 0], none⟩,
  ⟨.var 3, .mv, [.con (.int .i64 0)], none⟩]
@[reducible] noncomputable def r55_1 : List RO := [
  ⟨.var 4, .mv, [.con (.int .i64 1)], none⟩]
@[reducible] noncomputable def r55_2 : List RO := [
  ⟨.var 5, .mv, [.con (.int .i64 0)], none⟩]
@[reducible] noncomputable def r55_3 : List RO := [
  ⟨.loc 7, .mv, [.var 5], none⟩,
  ⟨.loc 8, .fld 5, [.var 2], none⟩,
  ⟨.loc 9, .ld false 1, [.loc 8], none⟩,
  ⟨.loc 10, .lenL, [.loc 9], none⟩,
  ⟨.loc 11, .bin .lss, [.loc 7, .loc 10], none⟩,
  ⟨.loc 12, .mv, [.loc 11], none⟩,
  ⟨.loc 13, .mv, [.var 4], (some (.loc 12, true))⟩,
  ⟨.loc 14, .mv, [.var 1], (some (.loc 12, true))⟩,
  ⟨.loc 15, .bin .leq, [.loc 13, .loc 14], (some (.loc 12, true))⟩,
  ⟨.var 6, .pick, [.loc 12, .loc 15, .con (.bool false)], none⟩]
@[reducible] noncomputable def r55_4 : List RO := [
  ⟨.loc 19, .mv, [.var 4], none⟩,
  ⟨.loc 20, .fld 5, [.var 2], none⟩,
  ⟨.loc 21, .ld false 1, [.loc 20], none⟩,
  ⟨.loc 22, .mv, [.var 5], none⟩,
  ⟨.loc 23, .ixaS 6, [.loc 21, .loc 22], none⟩,
  ⟨.loc 24, .ld true 6, [.loc 23], none⟩,
  ⟨.loc 25, .mv, [.var 1], none⟩,
  ⟨.loc 26, .mv, [.var 4], none⟩,
  ⟨.loc 27, .bin .sub, [.loc 25, .loc 26], none⟩,
  ⟨.loc 28, .call, [(.con (.fn (.func 55) [] [])), .loc 24, .loc 27], none⟩,
  ⟨.loc 29, .bin .add, [.loc 19, .loc 28], none⟩,
  ⟨.var 4, .mv, [.loc 29], none⟩]
@[reducible] noncomputable def r55_5 : List RO := [
  ⟨.loc 17, .mv, [.var 5], none⟩,
  ⟨.loc 18, .bin .add, [.loc 17, .con (.int .i64 1)], none⟩,
  ⟨.var 5, .mv, [.loc 18], none⟩]
@[reducible] noncomputable def r55_6 : List RO := [
  ⟨.loc 30, .mv, [.var 4], none⟩,
  ⟨.var 3, .mv, [.loc 30], none⟩]
theorem P55 : C55.M = M := by unfold C55 E55; rfl
theorem i55 {a0 a1 : D} : St.init C55 [a0, a1] ⟨[], []⟩ = ⟨[a0, a1, .undef, .undef, .undef, .undef, .undef], [], ⟨[], []⟩⟩ := by unfold C55 E55; rfl
noncomputable def c55 : RC := (.seq (.reg r55_0) (.seq (.reg r55_1) (.seq (.seq (.reg r55_2) (.block 0 (.loop (.seq (.seq (.reg r55_3) (.cond (.var 6) .skip (.exit 0))) (.seq (.block 1 (.reg r55_4)) (.reg r55_5)))))) (.seq (.reg r55_6) .ret))))
noncomputable def q55 : List RR := [(.slot (.var 3))]
theorem z55 {n m : Nat} : resCode (E55 n m) (Try.f55.body.getD .skip) = some c55 := by kernel_rfl
theorem zr55 {n m : Nat} : resRs (E55 n m) Try.f55.results.toList = some q55 := by kernel_rfl
theorem ok55 {args : List D} {d : D} (hl : args.length = 2) (h : SWp C55 c55 (fun e s => (match e with | .exit _ => False | _ => True) ∧ rrsWp q55 s fun ds => D.closed (oneOrTup ds) = true ∧ (oneOrTup ds).er = d) (St.init C55 args ⟨[], []⟩)) : Pur M 55 args d :=
  pur_of_body (C := C55) (fn := Try.f55) Try.func55 (by kernel_rfl) (by kernel_rfl) (rc := c55) z55 (rs := q55) zr55 (by kernel_rfl) (by rw [hl]; rfl) (by rw [hl]; decide) rfl rfl h
/- 57 bogie.bogieref20.short · 1 arguments · kept slots [0, 1, 2, 3, 13, 18, 27] -/
noncomputable def E57 (n m : Nat) : Cfg := ⟨M, [0, 1, 2, 3, 13, 18, 27], 28, n, m, []⟩
noncomputable def C57 : Cfg := E57 0 0
@[reducible] noncomputable def r57_0 : List RO := [
  ⟨.var 1, .box, [.var 0], none⟩,
  ⟨.var 2, .mv, [.con (.bool false)], none⟩]
@[reducible] noncomputable def r57_1 : List RO := [
  ⟨.loc 4, .fld 1, [.var 1], none⟩,
  ⟨.loc 5, .ld false 1, [.loc 4], none⟩,
  ⟨.loc 6, .lenS, [.loc 5], none⟩,
  ⟨.loc 7, .bin .gtr, [.loc 6, .con (.int .i64 300)], none⟩,
  ⟨.loc 8, .mv, [.loc 7], none⟩,
  ⟨.loc 9, .fld 2, [.var 1], (some (.loc 8, false))⟩,
  ⟨.loc 10, .ld false 1, [.loc 9], (some (.loc 8, false))⟩,
  ⟨.loc 11, .lenS, [.loc 10], (some (.loc 8, false))⟩,
  ⟨.loc 12, .bin .gtr, [.loc 11, .con (.int .i64 300)], (some (.loc 8, false))⟩,
  ⟨.var 4, .pick, [.loc 8, .con (.bool true), .loc 12], none⟩]
@[reducible] noncomputable def r57_2 : List RO := [
  ⟨.var 2, .mv, [.con (.bool false)], none⟩]
@[reducible] noncomputable def r57_3 : List RO := [
  ⟨.var 3, .mv, [.con (.int .i64 0)], none⟩]
@[reducible] noncomputable def r57_4 : List RO := [
  ⟨.loc 14, .mv, [.var 3], none⟩,
  ⟨.loc 15, .fld 5, [.var 1], none⟩,
  ⟨.loc 16, .ld false 1, [.loc 15], none⟩,
  ⟨.loc 17, .lenL, [.loc 16], none⟩,
  ⟨.var 5, .bin .lss, [.loc 14, .loc 17], none⟩]
@[reducible] noncomputable def r57_5 : List RO := [
  ⟨.loc 21, .fld 5, [.var 1], none⟩,
  ⟨.loc 22, .ld false 1, [.loc 21], none⟩,
  ⟨.loc 23, .mv, [.var 3], none⟩,
  ⟨.loc 24, .ixaS 6, [.loc 22, .loc 23], none⟩,
  ⟨.loc 25, .ld true 6, [.loc 24], none⟩,
  ⟨.loc 26, .call, [(.con (.fn (.func 57) [] [])), .loc 25], none⟩,
  ⟨.var 6, .un .not, [.loc 26], none⟩]
@[reducible] noncomputable def r57_6 : List RO := [
  ⟨.var 2, .mv, [.con (.bool false)], none⟩]
@[reducible] noncomputable def r57_7 : List RO := [
  ⟨.loc 19, .mv, [.var 3], none⟩,
  ⟨.loc 20, .bin .add, [.loc 19, .con (.int .i64 1)], none⟩,
  ⟨.var 3, .mv, [.loc 20], none⟩]
@[reducible] noncomputable def r57_8 : List RO := [
  ⟨.var 2, .mv, [.con (.bool true)], none⟩]
theorem P57 : C57.M = M := by unfold C57 E57; rfl
theorem i57 {a0 : D} : St.init C57 [a0] ⟨[], []⟩ = ⟨[a0, .undef, .undef, .undef, .undef, .undef, .undef], [], ⟨[], []⟩⟩ := by unfold C57 E57; rfl
noncomputable def c57 : RC := (.seq (.reg r57_0) (.seq (.seq (.reg r57_1) (.cond (.var 4) (.seq (.reg r57_2) .ret) .skip)) (.seq (.seq (.reg r57_3) (.block 0 (.loop (.seq (.seq (.reg r57_4) (.cond (.var 5) .skip (.exit 0))) (.seq (.block 1 (.seq (.reg r57_5) (.cond (.var 6) (.seq (.reg r57_6) .ret) .skip))) (.reg r57_7)))))) (.seq (.reg r57_8) .ret))))
noncomputable def q57 : List RR := [(.slot (.var 2))]
theorem z57 {n m : Nat} : resCode (E57 n m) (Try.f57.body.getD .skip) = some c57 := by kernel_rfl
theorem zr57 {n m : Nat} : resRs (E57 n m) Try.f57.results.toList = some q57 := by kernel_rfl
theorem ok57 {args : List D} {d : D} (hl : args.length = 1) (h : SWp C57 c57 (fun e s => (match e with | .exit _ => False | _ => True) ∧ rrsWp q57 s fun ds => D.closed (oneOrTup ds) = true ∧ (oneOrTup ds).er = d) (St.init C57 args ⟨[], []⟩)) : Pur M 57 args d :=
  pur_of_body (C := C57) (fn := Try.f57) Try.func57 (by kernel_rfl) (by kernel_rfl) (rc := c57) z57 (rs := q57) zr57 (by kernel_rfl) (by rw [hl]; rfl) (by rw [hl]; decide) rfl rfl h
/- 43 bogie.bogieref20.FewCond · 1 arguments · kept slots [0, 1, 2] -/
noncomputable def E43 (n m : Nat) : Cfg := ⟨M, [0, 1, 2], 10, n, m, []⟩
noncomputable def C43 : Cfg := E43 0 0
@[reducible] noncomputable def r43_0 : List RO := [
  ⟨.var 1, .box, [.var 0], none⟩,
  ⟨.var 2, .mv, [.con (.bool false)], none⟩]
@[reducible] noncomputable def r43_1 : List RO := [
  ⟨.loc 3, .ld true 6, [.var 1], none⟩,
  ⟨.loc 4, .call, [(.con (.fn (.func 55) [] [])), .loc 3, .con (.int .i64 80)], none⟩,
  ⟨.loc 5, .bin .leq, [.loc 4, .con (.int .i64 80)], none⟩,
  ⟨.loc 6, .mv, [.loc 5], none⟩,
  ⟨.loc 7, .ld true 6, [.var 1], (some (.loc 6, true))⟩,
  ⟨.loc 8, .call, [(.con (.fn (.func 57) [] [])), .loc 7], (some (.loc 6, true))⟩,
  ⟨.loc 9, .pick, [.loc 6, .loc 8, .con (.bool false)], none⟩,
  ⟨.var 2, .mv, [.loc 9], none⟩]
theorem P43 : C43.M = M := by unfold C43 E43; rfl
theorem i43 {a0 : D} : St.init C43 [a0] ⟨[], []⟩ = ⟨[a0, .undef, .undef], [], ⟨[], []⟩⟩ := by unfold C43 E43; rfl
noncomputable def c43 : RC := (.seq (.reg r43_0) (.seq (.reg r43_1) .ret))
noncomputable def q43 : List RR := [(.slot (.var 2))]
theorem z43 {n m : Nat} : resCode (E43 n m) (Try.f43.body.getD .skip) = some c43 := by kernel_rfl
theorem zr43 {n m : Nat} : resRs (E43 n m) Try.f43.results.toList = some q43 := by kernel_rfl
theorem ok43 {args : List D} {d : D} (hl : args.length = 1) (h : SWp C43 c43 (fun e s => (match e with | .exit _ => False | _ => True) ∧ rrsWp q43 s fun ds => D.closed (oneOrTup ds) = true ∧ (oneOrTup ds).er = d) (St.init C43 args ⟨[], []⟩)) : Pur M 43 args d :=
  pur_of_body (C := C43) (fn := Try.f43) Try.func43 (by kernel_rfl) (by kernel_rfl) (rc := c43) z43 (rs := q43) zr43 (by kernel_rfl) (by rw [hl]; rfl) (by rw [hl]; decide) rfl rfl h
/- 34 bogie.bogieref20.Few · 1 arguments · kept slots [0, 1, 2] -/
noncomputable def E34 (n m : Nat) : Cfg := ⟨M, [0, 1, 2], 16, n, m, []⟩
noncomputable def C34 : Cfg := E34 0 0
@[reducible] noncomputable def r34_0 : List RO := [
  ⟨.var 1, .box, [.var 0], none⟩,
  ⟨.var 2, .mv, [.con (.bool false)], none⟩]
@[reducible] noncomputable def r34_1 : List RO := [
  ⟨.loc 3, .fld 0, [.var 1], none⟩,
  ⟨.loc 4, .ld false 1, [.loc 3], none⟩,
  ⟨.loc 5, .lenS, [.loc 4], none⟩,
  ⟨.loc 6, .fld 1, [.var 1], none⟩,
  ⟨.loc 7, .ld false 1, [.loc 6], none⟩,
  ⟨.loc 8, .lenS, [.loc 7], none⟩,
  ⟨.loc 9, .bin .add, [.loc 5, .loc 8], none⟩,
  ⟨.loc 10, .bin .leq, [.loc 9, .con (.int .i64 300)], none⟩,
  ⟨.loc 11, .mv, [.loc 10], none⟩,
  ⟨.loc 12, .fld 2, [.var 1], (some (.loc 11, true))⟩,
  ⟨.loc 13, .ld true 6, [.loc 12], (some (.loc 11, true))⟩,
  ⟨.loc 14, .call, [(.con (.fn (.func 43) [] [])), .loc 13], (some (.loc 11, true))⟩,
  ⟨.loc 15, .pick, [.loc 11, .loc 14, .con (.bool false)], none⟩,
  ⟨.var 2, .mv, [.loc 15], none⟩]
theorem P34 : C34.M = M := by unfold C34 E34; rfl
theorem i34 {a0 : D} : St.init C34 [a0] ⟨[], []⟩ = ⟨[a0, .undef, .undef], [], ⟨[], []⟩⟩ := by unfold C34 E34; rfl
noncomputable def c34 : RC := (.seq (.reg r34_0) (.seq (.reg r34_1) .ret))
noncomputable def q34 : List RR := [(.slot (.var 2))]
theorem z34 {n m : Nat} : resCode (E34 n m) (Try.f34.body.getD .skip) = some c34 := by kernel_rfl
theorem zr34 {n m : Nat} : resRs (E34 n m) Try.f34.results.toList = some q34 := by kernel_rfl
theorem ok34 {args : List D} {d : D} (hl : args.length = 1) (h : SWp C34 c34 (fun e s => (match e with | .exit _ => False | _ => True) ∧ rrsWp q34 s fun ds => D.closed (oneOrTup ds) = true ∧ (oneOrTup ds).er = d) (St.init C34 args ⟨[], []⟩)) : Pur M 34 args d :=
  pur_of_body (C := C34) (fn := Try.f34) Try.func34 (by kernel_rfl) (by kernel_rfl) (rc := c34) z34 (rs := q34) zr34 (by kernel_rfl) (by rw [hl]; rfl) (by rw [hl]; decide) rfl rfl h
/- 21 bogie.bogieref23.Few · 2 arguments · kept slots [0, 1, 4, 5, 15, 24] -/
noncomputable def E21 (n m : Nat) : Cfg := ⟨M, [0, 1, 4, 5, 15, 24], 29, n, m, []⟩
noncomputable def C21 : Cfg := E21 0 0
@[reducible] noncomputable def r21_0 : List RO := [
  ⟨.var 2, .mv, [.con (.bool false)], none⟩]
@[reducible] noncomputable def r21_1 : List RO := [
  ⟨.var 3, .mv, [.con (.int .i64 0)], none⟩]
@[reducible] noncomputable def r21_2 : List RO := [
  ⟨.loc 6, .mv, [.var 3], none⟩,
  ⟨.loc 7, .mv, [.var 0], none⟩,
  ⟨.loc 8, .lenL, [.loc 7], none⟩,
  ⟨.loc 9, .bin .lss, [.loc 6, .loc 8], none⟩,
  ⟨.loc 10, .mv, [.loc 9], none⟩,
  ⟨.loc 11, .mv, [.var 0], (some (.loc 10, true))⟩,
  ⟨.loc 12, .lenL, [.loc 11], (some (.loc 10, true))⟩,
  ⟨.loc 13, .mv, [.var 1], (some (.loc 10, true))⟩,
  ⟨.loc 14, .bin .leq, [.loc 12, .loc 13], (some (.loc 10, true))⟩,
  ⟨.var 4, .pick, [.loc 10, .loc 14, .con (.bool false)], none⟩]
@[reducible] noncomputable def r21_3 : List RO := [
  ⟨.loc 18, .mv, [.var 0], none⟩,
  ⟨.loc 19, .mv, [.var 3], none⟩,
  ⟨.loc 20, .ixaS 12, [.loc 18, .loc 19], none⟩,
  ⟨.loc 21, .fld 4, [.loc 20], none⟩,
  ⟨.loc 22, .ld true 8, [.loc 21], none⟩,
  ⟨.loc 23, .call, [(.con (.fn (.func 34) [] [])), .loc 22], none⟩,
  ⟨.var 5, .un .not, [.loc 23], none⟩]
@[reducible] noncomputable def r21_4 : List RO := [
  ⟨.var 2, .mv, [.con (.bool false)], none⟩]
@[reducible] noncomputable def r21_5 : List RO := [
  ⟨.loc 16, .mv, [.var 3], none⟩,
  ⟨.loc 17, .bin .add, [.loc 16, .con (.int .i64 1)], none⟩,
  ⟨.var 3, .mv, [.loc 17], none⟩]
@[reducible] noncomputable def r21_6 : List RO := [
  ⟨.loc 25, .mv, [.var 0], none⟩,
  ⟨.loc 26, .lenL, [.loc 25], none⟩,
  ⟨.loc 27, .mv, [.var 1], none⟩,
  ⟨.loc 28, .bin .leq, [.loc 26, .loc 27], none⟩,
  ⟨.var 2, .mv, [.loc 28], none⟩]
theorem P21 : C21.M = M := by unfold C21 E21; rfl
theorem i21 {a0 a1 : D} : St.init C21 [a0, a1] ⟨[], []⟩ = ⟨[a0, a1, .undef, .undef, .undef, .undef], [], ⟨[], []⟩⟩ := by unfold C21 E21; rfl
noncomputable def c21 : RC := (.seq (.reg r21_0) (.seq (.seq (.reg r21_1) (.block 0 (.loop (.seq (.seq (.reg r21_2) (.cond (.var 4) .skip (.exit 0))) (.seq (.block 1 (.seq (.reg r21_3) (.cond (.var 5) (.seq (.reg r21_4) .ret) .skip))) (.reg r21_5)))))) (.seq (.reg r21_6) .ret)))
noncomputable def q21 : List RR := [(.slot (.var 2))]
theorem z21 {n m : Nat} : resCode (E21 n m) (Try.f21.body.getD .skip) = some c21 := by kernel_rfl
theorem zr21 {n m : Nat} : resRs (E21 n m) Try.f21.results.toList = some q21 := by kernel_rfl
theorem ok21 {args : List D} {d : D} (hl : args.length = 2) (h : SWp C21 c21 (fun e s => (match e with | .exit _ => False | _ => True) ∧ rrsWp q21 s fun ds => D.closed (oneOrTup ds) = true ∧ (oneOrTup ds).er = d) (St.init C21 args ⟨[], []⟩)) : Pur M 21 args d :=
  pur_of_body (C := C21) (fn := Try.f21) Try.func21 (by kernel_rfl) (by kernel_rfl) (rc := c21) z21 (rs := q21) zr21 (by kernel_rfl) (by rw [hl]; rfl) (by rw [hl]; decide) rfl rfl h
/- 10 bogie.bogielaw23.few · 1 arguments · kept slots [0, 2] -/
noncomputable def E10 (n m : Nat) : Cfg := ⟨M, [0, 2], 5, n, m, []⟩
noncomputable def C10 : Cfg := E10 0 0
@[reducible] noncomputable def r10_0 : List RO := [
  ⟨.var 1, .mv, [.con (.bool false)], none⟩]
@[reducible] noncomputable def r10_1 : List RO := [
  ⟨.loc 3, .mv, [.var 0], none⟩,
  ⟨.loc 4, .call, [(.con (.fn (.func 21) [] [])), .loc 3, .con (.int .i64 20)], none⟩,
  ⟨.var 1, .mv, [.loc 4], none⟩]
theorem P10 : C10.M = M := by unfold C10 E10; rfl
theorem i10 {a0 : D} : St.init C10 [a0] ⟨[], []⟩ = ⟨[a0, .undef], [], ⟨[], []⟩⟩ := by unfold C10 E10; rfl
noncomputable def c10 : RC := (.seq (.reg r10_0) (.seq (.reg r10_1) .ret))
noncomputable def q10 : List RR := [(.slot (.var 1))]
theorem z10 {n m : Nat} : resCode (E10 n m) (Try.f10.body.getD .skip) = some c10 := by kernel_rfl
theorem zr10 {n m : Nat} : resRs (E10 n m) Try.f10.results.toList = some q10 := by kernel_rfl
theorem ok10 {args : List D} {d : D} (hl : args.length = 1) (h : SWp C10 c10 (fun e s => (match e with | .exit _ => False | _ => True) ∧ rrsWp q10 s fun ds => D.closed (oneOrTup ds) = true ∧ (oneOrTup ds).er = d) (St.init C10 args ⟨[], []⟩)) : Pur M 10 args d :=
  pur_of_body (C := C10) (fn := Try.f10) Try.func10 (by kernel_rfl) (by kernel_rfl) (rc := c10) z10 (rs := q10) zr10 (by kernel_rfl) (by rw [hl]; rfl) (by rw [hl]; decide) rfl rfl h
/- 54 bogie.bogieref05.letter · 1 arguments · kept slots [0, 2] -/
noncomputable def E54 (n m : Nat) : Cfg := ⟨M, [0, 2], 17, n, m, []⟩
noncomputable def C54 : Cfg := E54 0 0
@[reducible] noncomputable def r54_0 : List RO := [
  ⟨.var 1, .mv, [.con (.bool false)], none⟩]
@[reducible] noncomputable def r54_1 : List RO := [
  ⟨.loc 3, .mv, [.var 0], none⟩,
  ⟨.loc 4, .bin .geq, [.loc 3, (.con (.int .u8 97))], none⟩,
  ⟨.loc 5, .mv, [.loc 4], none⟩,
  ⟨.loc 6, .mv, [.var 0], (some (.loc 5, true))⟩,
  ⟨.loc 7, .bin .leq, [.loc 6, (.con (.int .u8 122))], (some (.loc 5, true))⟩,
  ⟨.loc 8, .pick, [.loc 5, .loc 7, .con (.bool false)], none⟩,
  ⟨.loc 9, .mv, [.loc 8], none⟩,
  ⟨.loc 10, .mv, [.var 0], (some (.loc 9, false))⟩,
  ⟨.loc 11, .bin .geq, [.loc 10, (.con (.int .u8 65))], (some (.loc 9, false))⟩,
  ⟨.loc 12, .mv, [.loc 11], (some (.loc 9, false))⟩,
  ⟨.loc 13, .mv, [.var 0], (some (.loc 12, true))⟩,
  ⟨.loc 14, .bin .leq, [.loc 13, (.con (.int .u8 90))], (some (.loc 12, true))⟩,
  ⟨.loc 15, .pick, [.loc 12, .loc 14, .con (.bool false)], (some (.loc 9, false))⟩,
  ⟨.loc 16, .pick, [.loc 9, .con (.bool true), .loc 15], none⟩,
  ⟨.var 1, .mv, [.loc 16], none⟩]
theorem P54 : C54.M = M := by unfold C54 E54; rfl
theorem i54 {a0 : D} : St.init C54 [a0] ⟨[], []⟩ = ⟨[a0, .undef], [], ⟨[], []⟩⟩ := by unfold C54 E54; rfl
noncomputable def c54 : RC := (.seq (.reg r54_0) (.seq (.reg r54_1) .ret))
noncomputable def q54 : List RR := [(.slot (.var 1))]
theorem z54 {n m : Nat} : resCode (E54 n m) (Try.f54.body.getD .skip) = some c54 := by kernel_rfl
theorem zr54 {n m : Nat} : resRs (E54 n m) Try.f54.results.toList = some q54 := by kernel_rfl
theorem ok54 {args : List D} {d : D} (hl : args.length = 1) (h : SWp C54 c54 (fun e s => (match e with | .exit _ => False | _ => True) ∧ rrsWp q54 s fun ds => D.closed (oneOrTup ds) = true ∧ (oneOrTup ds).er = d) (St.init C54 args ⟨[], []⟩)) : Pur M 54 args d :=
  pur_of_body (C := C54) (fn := Try.f54) Try.func54 (by kernel_rfl) (by kernel_rfl) (rc := c54) z54 (rs := q54) zr54 (by kernel_rfl) (by rw [hl]; rfl) (by rw [hl]; decide) rfl rfl h
/- 84 bogie.bogieref05.digit · 1 arguments · kept slots [0, 2] -/
noncomputable def E84 (n m : Nat) : Cfg := ⟨M, [0, 2], 9, n, m, []⟩
noncomputable def C84 : Cfg := E84 0 0
@[reducible] noncomputable def r84_0 : List RO := [
  ⟨.var 1, .mv, [.con (.bool false)], none⟩]
@[reducible] noncomputable def r84_1 : List RO := [
  ⟨.loc 3, .mv, [.var 0], none⟩,
  ⟨.loc 4, .bin .geq, [.loc 3, (.con (.int .u8 48))], none⟩,
  ⟨.loc 5, .mv, [.loc 4], none⟩,
  ⟨.loc 6, .mv, [.var 0], (some (.loc 5, true))⟩,
  ⟨.loc 7, .bin .leq, [.loc 6, (.con (.int .u8 57))], (some (.loc 5, true))⟩,
  ⟨.loc 8, .pick, [.loc 5, .loc 7, .con (.bool false)], none⟩,
  ⟨.var 1, .mv, [.loc 8], none⟩]
theorem P84 : C84.M = M := by unfold C84 E84; rfl
theorem i84 {a0 : D} : St.init C84 [a0] ⟨[], []⟩ = ⟨[a0, .undef], [], ⟨[], []⟩⟩ := by unfold C84 E84; rfl
noncomputable def c84 : RC := (.seq (.reg r84_0) (.seq (.reg r84_1) .ret))
noncomputable def q84 : List RR := [(.slot (.var 1))]
theorem z84 {n m : Nat} : resCode (E84 n m) (Try.f84.body.getD .skip) = some c84 := by kernel_rfl
theorem zr84 {n m : Nat} : resRs (E84 n m) Try.f84.results.toList = some q84 := by kernel_rfl
theorem ok84 {args : List D} {d : D} (hl : args.length = 1) (h : SWp C84 c84 (fun e s => (match e with | .exit _ => False | _ => True) ∧ rrsWp q84 s fun ds => D.closed (oneOrTup ds) = true ∧ (oneOrTup ds).er = d) (St.init C84 args ⟨[], []⟩)) : Pur M 84 args d :=
  pur_of_body (C := C84) (fn := Try.f84) Try.func84 (by kernel_rfl) (by kernel_rfl) (rc := c84) z84 (rs := q84) zr84 (by kernel_rfl) (by rw [hl]; rfl) (by rw [hl]; decide) rfl rfl h
/- 53 bogie.bogieref05.word · 1 arguments · kept slots [0, 2] -/
noncomputable def E53 (n m : Nat) : Cfg := ⟨M, [0, 2], 13, n, m, []⟩
noncomputable def C53 : Cfg := E53 0 0
@[reducible] noncomputable def r53_0 : List RO := [
  ⟨.var 1, .mv, [.con (.bool false)], none⟩]
@[reducible] noncomputable def r53_1 : List RO := [
  ⟨.loc 3, .mv, [.var 0], none⟩,
  ⟨.loc 4, .call, [(.con (.fn (.func 54) [] [])), .loc 3], none⟩,
  ⟨.loc 5, .mv, [.loc 4], none⟩,
  ⟨.loc 6, .mv, [.var 0], (some (.loc 5, false))⟩,
  ⟨.loc 7, .call, [(.con (.fn (.func 84) [] [])), .loc 6], (some (.loc 5, false))⟩,
  ⟨.loc 8, .pick, [.loc 5, .con (.bool true), .loc 7], none⟩,
  ⟨.loc 9, .mv, [.loc 8], none⟩,
  ⟨.loc 10, .mv, [.var 0], (some (.loc 9, false))⟩,
  ⟨.loc 11, .bin .eql, [.loc 10, (.con (.int .u8 95))], (some (.loc 9, false))⟩,
  ⟨.loc 12, .pick, [.loc 9, .con (.bool true), .loc 11], none⟩,
  ⟨.var 1, .mv, [.loc 12], none⟩]
theorem P53 : C53.M = M := by unfold C53 E53; rfl
theorem i53 {a0 : D} : St.init C53 [a0] ⟨[], []⟩ = ⟨[a0, .undef], [], ⟨[], []⟩⟩ := by unfold C53 E53; rfl
noncomputable def c53 : RC := (.seq (.reg r53_0) (.seq (.reg r53_1) .ret))
noncomputable def q53 : List RR := [(.slot (.var 1))]
theorem z53 {n m : Nat} : resCode (E53 n m) (Try.f53.body.getD .skip) = some c53 := by kernel_rfl
theorem zr53 {n m : Nat} : resRs (E53 n m) Try.f53.results.toList = some q53 := by kernel_rfl
theorem ok53 {args : List D} {d : D} (hl : args.length = 1) (h : SWp C53 c53 (fun e s => (match e with | .exit _ => False | _ => True) ∧ rrsWp q53 s fun ds => D.closed (oneOrTup ds) = true ∧ (oneOrTup ds).er = d) (St.init C53 args ⟨[], []⟩)) : Pur M 53 args d :=
  pur_of_body (C := C53) (fn := Try.f53) Try.func53 (by kernel_rfl) (by kernel_rfl) (rc := c53) z53 (rs := q53) zr53 (by kernel_rfl) (by rw [hl]; rfl) (by rw [hl]; decide) rfl rfl h
/- 41 bogie.bogieref05.Name · 1 arguments · kept slots [0, 2, 3, 7, 14] -/
noncomputable def E41 (n m : Nat) : Cfg := ⟨M, [0, 2, 3, 7, 14], 28, n, m, []⟩
noncomputable def C41 : Cfg := E41 0 0
@[reducible] noncomputable def r41_0 : List RO := [
  ⟨.var 1, .mv, [.con (.bool false)], none⟩]
@[reducible] noncomputable def r41_1 : List RO := [
  ⟨.var 2, .mv, [.con (.int .i64 0)], none⟩]
@[reducible] noncomputable def r41_2 : List RO := [
  ⟨.loc 4, .mv, [.var 2], none⟩,
  ⟨.loc 5, .mv, [.var 0], none⟩,
  ⟨.loc 6, .lenS, [.loc 5], none⟩,
  ⟨.var 3, .bin .lss, [.loc 4, .loc 6], none⟩]
@[reducible] noncomputable def r41_3 : List RO := [
  ⟨.loc 10, .mv, [.var 0], none⟩,
  ⟨.loc 11, .mv, [.var 2], none⟩,
  ⟨.loc 12, .ixvS, [.loc 10, .loc 11], none⟩,
  ⟨.loc 13, .call, [(.con (.fn (.func 53) [] [])), .loc 12], none⟩,
  ⟨.var 4, .un .not, [.loc 13], none⟩]
@[reducible] noncomputable def r41_4 : List RO := [
  ⟨.var 1, .mv, [.con (.bool false)], none⟩]
@[reducible] noncomputable def r41_5 : List RO := [
  ⟨.loc 8, .mv, [.var 2], none⟩,
  ⟨.loc 9, .bin .add, [.loc 8, .con (.int .i64 1)], none⟩,
  ⟨.var 2, .mv, [.loc 9], none⟩]
@[reducible] noncomputable def r41_6 : List RO := [
  ⟨.loc 15, .mv, [.var 0], none⟩,
  ⟨.loc 16, .lenS, [.loc 15], none⟩,
  ⟨.loc 17, .bin .gtr, [.loc 16, .con (.int .i64 0)], none⟩,
  ⟨.loc 18, .mv, [.loc 17], none⟩,
  ⟨.loc 19, .mv, [.var 0], (some (.loc 18, true))⟩,
  ⟨.loc 20, .lenS, [.loc 19], (some (.loc 18, true))⟩,
  ⟨.loc 21, .bin .leq, [.loc 20, .con (.int .i64 24)], (some (.loc 18, true))⟩,
  ⟨.loc 22, .pick, [.loc 18, .loc 21, .con (.bool false)], none⟩,
  ⟨.loc 23, .mv, [.loc 22], none⟩,
  ⟨.loc 24, .mv, [.var 0], (some (.loc 23, true))⟩,
  ⟨.loc 25, .ixvS, [.loc 24, .con (.int .i64 0)], (some (.loc 23, true))⟩,
  ⟨.loc 26, .call, [(.con (.fn (.func 54) [] [])), .loc 25], (some (.loc 23, true))⟩,
  ⟨.loc 27, .pick, [.loc 23, .loc 26, .con (.bool false)], none⟩,
  ⟨.var 1, .mv, [.loc 27], none⟩]
theorem P41 : C41.M = M := by unfold C41 E41; rfl
theorem i41 {a0 : D} : St.init C41 [a0] ⟨[], []⟩ = ⟨[a0, .undef, .undef, .undef, .undef], [], ⟨[], []⟩⟩ := by unfold C41 E41; rfl
noncomputable def c41 : RC := (.seq (.reg r41_0) (.seq (.seq (.reg r41_1) (.block 0 (.loop (.seq (.seq (.reg r41_2) (.cond (.var 3) .skip (.exit 0))) (.seq (.block 1 (.seq (.reg r41_3) (.cond (.var 4) (.seq (.reg r41_4) .ret) .skip))) (.reg r41_5)))))) (.seq (.reg r41_6) .ret)))
noncomputable def q41 : List RR := [(.slot (.var 1))]
theorem z41 {n m : Nat} : resCode (E41 n m) (Try.f41.body.getD .skip) = some c41 := by kernel_rfl
theorem zr41 {n m : Nat} : resRs (E41 n m) Try.f41.results.toList = some q41 := by kernel_rfl
theorem ok41 {args : List D} {d : D} (hl : args.length = 1) (h : SWp C41 c41 (fun e s => (match e with | .exit _ => False | _ => True) ∧ rrsWp q41 s fun ds => D.closed (oneOrTup ds) = true ∧ (oneOrTup ds).er = d) (St.init C41 args ⟨[], []⟩)) : Pur M 41 args d :=
  pur_of_body (C := C41) (fn := Try.f41) Try.func41 (by kernel_rfl) (by kernel_rfl) (rc := c41) z41 (rs := q41) zr41 (by kernel_rfl) (by rw [hl]; rfl) (by rw [hl]; decide) rfl rfl h
/- 99 bogie.bogieref20.Reserved · 1 arguments · kept slots [0, 2, 3, 4, 9, 17] -/
noncomputable def E99 (n m : Nat) : Cfg := ⟨M, [0, 2, 3, 4, 9, 17], 18, n, m, []⟩
noncomputable def C99 : Cfg := E99 0 0
@[reducible] noncomputable def r99_0 : List RO := [
  ⟨.var 1, .mv, [.con (.bool false)], none⟩]
@[reducible] noncomputable def r99_1 : List RO := [
  ⟨.loc 5, .bsl 1, [(.con (.str [116, 114, 117, 101])), (.con (.str [110, 111, 116])), (.con (.str [97, 110, 100])), (.con (.str [111, 114])), (.con (.str [108, 105, 109, 105, 116])), (.con (.str [111, 118, 101, 114])), (.con (.str [104, 97, 115])), (.con (.str [115, 108, 111, 116])), (.con (.str [97, 108, 108])), (.con (.str [97, 110, 121])), (.con (.str [97, 116]))], none⟩,
  ⟨.var 2, .mv, [.loc 5], none⟩]
@[reducible] noncomputable def r99_2 : List RO := [
  ⟨.var 3, .mv, [.con (.int .i64 0)], none⟩]
@[reducible] noncomputable def r99_3 : List RO := [
  ⟨.loc 6, .mv, [.var 3], none⟩,
  ⟨.loc 7, .mv, [.var 2], none⟩,
  ⟨.loc 8, .lenL, [.loc 7], none⟩,
  ⟨.var 4, .bin .lss, [.loc 6, .loc 8], none⟩]
@[reducible] noncomputable def r99_4 : List RO := [
  ⟨.loc 12, .mv, [.var 2], none⟩,
  ⟨.loc 13, .mv, [.var 3], none⟩,
  ⟨.loc 14, .ixaS 1, [.loc 12, .loc 13], none⟩,
  ⟨.loc 15, .ld false 1, [.loc 14], none⟩,
  ⟨.loc 16, .mv, [.var 0], none⟩,
  ⟨.var 5, .bin .eql, [.loc 15, .loc 16], none⟩]
@[reducible] noncomputable def r99_5 : List RO := [
  ⟨.var 1, .mv, [.con (.bool true)], none⟩]
@[reducible] noncomputable def r99_6 : List RO := [
  ⟨.loc 10, .mv, [.var 3], none⟩,
  ⟨.loc 11, .bin .add, [.loc 10, .con (.int .i64 1)], none⟩,
  ⟨.var 3, .mv, [.loc 11], none⟩]
@[reducible] noncomputable def r99_7 : List RO := [
  ⟨.var 1, .mv, [.con (.bool false)], none⟩]
theorem P99 : C99.M = M := by unfold C99 E99; rfl
theorem i99 {a0 : D} : St.init C99 [a0] ⟨[], []⟩ = ⟨[a0, .undef, .undef, .undef, .undef, .undef], [], ⟨[], []⟩⟩ := by unfold C99 E99; rfl
noncomputable def c99 : RC := (.seq (.reg r99_0) (.seq (.reg r99_1) (.seq (.seq (.reg r99_2) (.block 0 (.loop (.seq (.seq (.reg r99_3) (.cond (.var 4) .skip (.exit 0))) (.seq (.block 1 (.seq (.reg r99_4) (.cond (.var 5) (.seq (.reg r99_5) .ret) .skip))) (.reg r99_6)))))) (.seq (.reg r99_7) .ret))))
noncomputable def q99 : List RR := [(.slot (.var 1))]
theorem z99 {n m : Nat} : resCode (E99 n m) (Try.f99.body.getD .skip) = some c99 := by kernel_rfl
theorem zr99 {n m : Nat} : resRs (E99 n m) Try.f99.results.toList = some q99 := by kernel_rfl
theorem ok99 {args : List D} {d : D} (hl : args.length = 1) (h : SWp C99 c99 (fun e s => (match e with | .exit _ => False | _ => True) ∧ rrsWp q99 s fun ds => D.closed (oneOrTup ds) = true ∧ (oneOrTup ds).er = d) (St.init C99 args ⟨[], []⟩)) : Pur M 99 args d :=
  pur_of_body (C := C99) (fn := Try.f99) Try.func99 (by kernel_rfl) (by kernel_rfl) (rc := c99) z99 (rs := q99) zr99 (by kernel_rfl) (by rw [hl]; rfl) (by rw [hl]; decide) rfl rfl h
/- 100 bogie.bogieref20.number · 2 arguments · kept slots [0, 1, 4] -/
noncomputable def E100 (n m : Nat) : Cfg := ⟨M, [0, 1, 4], 12, n, m, []⟩
noncomputable def C100 : Cfg := E100 0 0
@[reducible] noncomputable def r100_0 : List RO := [
  ⟨.var 2, .mv, [.con (.bool false)], none⟩]
@[reducible] noncomputable def r100_1 : List RO := [
  ⟨.loc 5, .mv, [.var 0], none⟩,
  ⟨.loc 6, .mv, [.var 1], none⟩,
  ⟨.loc 7, .bin .geq, [.loc 5, .loc 6], none⟩,
  ⟨.loc 8, .mv, [.loc 7], none⟩,
  ⟨.loc 9, .mv, [.var 0], (some (.loc 8, true))⟩,
  ⟨.loc 10, .bin .leq, [.loc 9, .con (.int .i64 9999999)], (some (.loc 8, true))⟩,
  ⟨.loc 11, .pick, [.loc 8, .loc 10, .con (.bool false)], none⟩,
  ⟨.var 2, .mv, [.loc 11], none⟩]
theorem P100 : C100.M = M := by unfold C100 E100; rfl
theorem i100 {a0 a1 : D} : St.init C100 [a0, a1] ⟨[], []⟩ = ⟨[a0, a1, .undef], [], ⟨[], []⟩⟩ := by unfold C100 E100; rfl
noncomputable def c100 : RC := (.seq (.reg r100_0) (.seq (.reg r100_1) .ret))
noncomputable def q100 : List RR := [(.slot (.var 2))]
theorem z100 {n m : Nat} : resCode (E100 n m) (Try.f100.body.getD .skip) = some c100 := by kernel_rfl
theorem zr100 {n m : Nat} : resRs (E100 n m) Try.f100.results.toList = some q100 := by kernel_rfl
theorem ok100 {args : List D} {d : D} (hl : args.length = 2) (h : SWp C100 c100 (fun e s => (match e with | .exit _ => False | _ => True) ∧ rrsWp q100 s fun ds => D.closed (oneOrTup ds) = true ∧ (oneOrTup ds).er = d) (St.init C100 args ⟨[], []⟩)) : Pur M 100 args d :=
  pur_of_body (C := C100) (fn := Try.f100) Try.func100 (by kernel_rfl) (by kernel_rfl) (rc := c100) z100 (rs := q100) zr100 (by kernel_rfl) (by rw [hl]; rfl) (by rw [hl]; decide) rfl rfl h
/- 85 bogie.bogieref20.node · 1 arguments · kept slots [0, 1, 2, 3, 4, 5, 6, 7, 15, 28, 36, 52, 81, 87, 100, 114, 120] -/
noncomputable def E85 (n m : Nat) : Cfg := ⟨M, [0, 1, 2, 3, 4, 5, 6, 7, 15, 28, 36, 52, 81, 87, 100, 114, 120], 144, n, m, []⟩
noncomputable def C85 : Cfg := E85 0 0
@[reducible] noncomputable def r85_0 : List RO := [
  ⟨.var 1, .box, [.var 0], none⟩,
  ⟨.var 2, .mv, [.con (.bool false)], none⟩]
@[reducible] noncomputable def r85_1 : List RO := [
  ⟨.loc 8, .fld 0, [.var 1], none⟩,
  ⟨.loc 9, .ld false 1, [.loc 8], none⟩,
  ⟨.loc 10, .bin .lss, [.loc 9, .con (.int .i64 1)], none⟩,
  ⟨.loc 11, .mv, [.loc 10], none⟩,
  ⟨.loc 12, .fld 0, [.var 1], (some (.loc 11, false))⟩,
  ⟨.loc 13, .ld false 1, [.loc 12], (some (.loc 11, false))⟩,
  ⟨.loc 14, .bin .gtr, [.loc 13, .con (.int .i64 12)], (some (.loc 11, false))⟩,
  ⟨.var 8, .pick, [.loc 11, .con (.bool true), .loc 14], none⟩]
@[reducible] noncomputable def r85_2 : List RO := [
  ⟨.var 2, .mv, [.con (.bool false)], none⟩]
@[reducible] noncomputable def r85_3 : List RO := [
  ⟨.var 3, .mv, [.con (.int .i64 0)], none⟩]
@[reducible] noncomputable def r85_4 : List RO := [
  ⟨.loc 16, .fld 0, [.var 1], none⟩,
  ⟨.loc 17, .ld false 1, [.loc 16], none⟩,
  ⟨.loc 18, .bin .eql, [.loc 17, .con (.int .i64 2)], none⟩,
  ⟨.loc 19, .mv, [.loc 18], none⟩,
  ⟨.loc 20, .fld 0, [.var 1], (some (.loc 19, false))⟩,
  ⟨.loc 21, .ld false 1, [.loc 20], (some (.loc 19, false))⟩,
  ⟨.loc 22, .bin .eql, [.loc 21, .con (.int .i64 10)], (some (.loc 19, false))⟩,
  ⟨.loc 23, .pick, [.loc 19, .con (.bool true), .loc 22], none⟩,
  ⟨.loc 24, .mv, [.loc 23], none⟩,
  ⟨.loc 25, .fld 0, [.var 1], (some (.loc 24, false))⟩,
  ⟨.loc 26, .ld false 1, [.loc 25], (some (.loc 24, false))⟩,
  ⟨.loc 27, .bin .eql, [.loc 26, .con (.int .i64 11)], (some (.loc 24, false))⟩,
  ⟨.var 9, .pick, [.loc 24, .con (.bool true), .loc 27], none⟩]
@[reducible] noncomputable def r85_5 : List RO := [
  ⟨.var 3, .mv, [.con (.int .i64 1)], none⟩]
@[reducible] noncomputable def r85_6 : List RO := [
  ⟨.loc 29, .fld 0, [.var 1], none⟩,
  ⟨.loc 30, .ld false 1, [.loc 29], none⟩,
  ⟨.loc 31, .bin .eql, [.loc 30, .con (.int .i64 3)], none⟩,
  ⟨.loc 32, .mv, [.loc 31], none⟩,
  ⟨.loc 33, .fld 0, [.var 1], (some (.loc 32, false))⟩,
  ⟨.loc 34, .ld false 1, [.loc 33], (some (.loc 32, false))⟩,
  ⟨.loc 35, .bin .eql, [.loc 34, .con (.int .i64 4)], (some (.loc 32, false))⟩,
  ⟨.var 10, .pick, [.loc 32, .con (.bool true), .loc 35], none⟩]
@[reducible] noncomputable def r85_7 : List RO := [
  ⟨.var 3, .mv, [.con (.int .i64 2)], none⟩]
@[reducible] noncomputable def r85_8 : List RO := [
  ⟨.loc 37, .fld 5, [.var 1], none⟩,
  ⟨.loc 38, .ld false 1, [.loc 37], none⟩,
  ⟨.loc 39, .lenL, [.loc 38], none⟩,
  ⟨.loc 40, .mv, [.var 3], none⟩,
  ⟨.loc 41, .bin .lss, [.loc 39, .loc 40], none⟩,
  ⟨.loc 42, .mv, [.loc 41], none⟩,
  ⟨.loc 43, .mv, [.var 3], (some (.loc 42, false))⟩,
  ⟨.loc 44, .bin .lss, [.loc 43, .con (.int .i64 2)], (some (.loc 42, false))⟩,
  ⟨.loc 45, .mv, [.loc 44], (some (.loc 42, false))⟩,
  ⟨.loc 46, .fld 5, [.var 1], (some (.loc 45, true))⟩,
  ⟨.loc 47, .ld false 1, [.loc 46], (some (.loc 45, true))⟩,
  ⟨.loc 48, .lenL, [.loc 47], (some (.loc 45, true))⟩,
  ⟨.loc 49, .mv, [.var 3], (some (.loc 45, true))⟩,
  ⟨.loc 50, .bin .gtr, [.loc 48, .loc 49], (some (.loc 45, true))⟩,
  ⟨.loc 51, .pick, [.loc 45, .loc 50, .con (.bool false)], (some (.loc 42, false))⟩,
  ⟨.var 11, .pick, [.loc 42, .con (.bool true), .loc 51], none⟩]
@[reducible] noncomputable def r85_9 : List RO := [
  ⟨.var 2, .mv, [.con (.bool false)], none⟩]
@[reducible] noncomputable def r85_10 : List RO := [
  ⟨.loc 53, .fld 0, [.var 1], none⟩,
  ⟨.loc 54, .ld false 1, [.loc 53], none⟩,
  ⟨.loc 55, .bin .leq, [.loc 54, .con (.int .i64 4)], none⟩,
  ⟨.var 4, .mv, [.loc 55], none⟩]
@[reducible] noncomputable def r85_11 : List RO := [
  ⟨.loc 56, .mv, [.var 4], none⟩,
  ⟨.loc 57, .mv, [.loc 56], none⟩,
  ⟨.loc 58, .fld 1, [.var 1], (some (.loc 57, true))⟩,
  ⟨.loc 59, .ld false 1, [.loc 58], (some (.loc 57, true))⟩,
  ⟨.loc 60, .bin .neq, [.loc 59, (.con (.str []))], (some (.loc 57, true))⟩,
  ⟨.loc 61, .pick, [.loc 57, .loc 60, .con (.bool false)], none⟩,
  ⟨.loc 62, .mv, [.loc 61], none⟩,
  ⟨.loc 63, .mv, [.var 4], (some (.loc 62, false))⟩,
  ⟨.loc 64, .un .not, [.loc 63], (some (.loc 62, false))⟩,
  ⟨.loc 65, .mv, [.loc 64], (some (.loc 62, false))⟩,
  ⟨.loc 66, .fld 1, [.var 1], (some (.loc 65, true))⟩,
  ⟨.loc 67, .ld false 1, [.loc 66], (some (.loc 65, true))⟩,
  ⟨.loc 68, .call, [(.con (.fn (.func 41) [] [])), .loc 67], (some (.loc 65, true))⟩,
  ⟨.loc 69, .un .not, [.loc 68], (some (.loc 65, true))⟩,
  ⟨.loc 70, .pick, [.loc 65, .loc 69, .con (.bool false)], (some (.loc 62, false))⟩,
  ⟨.loc 71, .pick, [.loc 62, .con (.bool true), .loc 70], none⟩,
  ⟨.loc 72, .mv, [.loc 71], none⟩,
  ⟨.loc 73, .fld 0, [.var 1], (some (.loc 72, false))⟩,
  ⟨.loc 74, .ld false 1, [.loc 73], (some (.loc 72, false))⟩,
  ⟨.loc 75, .bin .eql, [.loc 74, .con (.int .i64 7)], (some (.loc 72, false))⟩,
  ⟨.loc 76, .mv, [.loc 75], (some (.loc 72, false))⟩,
  ⟨.loc 77, .fld 1, [.var 1], (some (.loc 76, true))⟩,
  ⟨.loc 78, .ld false 1, [.loc 77], (some (.loc 76, true))⟩,
  ⟨.loc 79, .call, [(.con (.fn (.func 99) [] [])), .loc 78], (some (.loc 76, true))⟩,
  ⟨.loc 80, .pick, [.loc 76, .loc 79, .con (.bool false)], (some (.loc 72, false))⟩,
  ⟨.var 12, .pick, [.loc 72, .con (.bool true), .loc 80], none⟩]
@[reducible] noncomputable def r85_12 : List RO := [
  ⟨.var 2, .mv, [.con (.bool false)], none⟩]
@[reducible] noncomputable def r85_13 : List RO := [
  ⟨.loc 82, .fld 2, [.var 1], none⟩,
  ⟨.loc 83, .ld false 1, [.loc 82], none⟩,
  ⟨.loc 84, .bin .eql, [.loc 83, (.con (.str []))], none⟩,
  ⟨.var 5, .mv, [.loc 84], none⟩]
@[reducible] noncomputable def r85_14 : List RO := [
  ⟨.loc 85, .fld 0, [.var 1], none⟩,
  ⟨.loc 86, .ld false 1, [.loc 85], none⟩,
  ⟨.var 13, .bin .eql, [.loc 86, .con (.int .i64 7)], none⟩]
@[reducible] noncomputable def r85_15 : List RO := [
  ⟨.loc 88, .fld 2, [.var 1], none⟩,
  ⟨.loc 89, .ld false 1, [.loc 88], none⟩,
  ⟨.loc 90, .lenS, [.loc 89], none⟩,
  ⟨.loc 91, .bin .geq, [.loc 90, .con (.int .i64 1)], none⟩,
  ⟨.loc 92, .mv, [.loc 91], none⟩,
  ⟨.loc 93, .fld 2, [.var 1], (some (.loc 92, true))⟩,
  ⟨.loc 94, .ld false 1, [.loc 93], (some (.loc 92, true))⟩,
  ⟨.loc 95, .lenS, [.loc 94], (some (.loc 92, true))⟩,
  ⟨.loc 96, .bin .leq, [.loc 95, .con (.int .i64 200)], (some (.loc 92, true))⟩,
  ⟨.loc 97, .pick, [.loc 92, .loc 96, .con (.bool false)], none⟩,
  ⟨.var 5, .mv, [.loc 97], none⟩]
@[reducible] noncomputable def r85_16 : List RO := [
  ⟨.loc 98, .fld 0, [.var 1], none⟩,
  ⟨.loc 99, .ld false 1, [.loc 98], none⟩,
  ⟨.var 14, .bin .eql, [.loc 99, .con (.int .i64 9)], none⟩]
@[reducible] noncomputable def r85_17 : List RO := [
  ⟨.loc 101, .fld 2, [.var 1], none⟩,
  ⟨.loc 102, .ld false 1, [.loc 101], none⟩,
  ⟨.loc 103, .call, [(.con (.fn (.func 41) [] [])), .loc 102], none⟩,
  ⟨.var 5, .mv, [.loc 103], none⟩]
@[reducible] noncomputable def r85_18 : List RO := [
  ⟨.loc 104, .fld 3, [.var 1], none⟩,
  ⟨.loc 105, .ld false 1, [.loc 104], none⟩,
  ⟨.loc 106, .bin .eql, [.loc 105, .con (.int .i64 0)], none⟩,
  ⟨.var 6, .mv, [.loc 106], none⟩]
@[reducible] noncomputable def r85_19 : List RO := [
  ⟨.loc 107, .fld 0, [.var 1], none⟩,
  ⟨.loc 108, .ld false 1, [.loc 107], none⟩,
  ⟨.loc 109, .bin .eql, [.loc 108, .con (.int .i64 5)], none⟩,
  ⟨.loc 110, .mv, [.loc 109], none⟩,
  ⟨.loc 111, .fld 0, [.var 1], (some (.loc 110, false))⟩,
  ⟨.loc 112, .ld false 1, [.loc 111], (some (.loc 110, false))⟩,
  ⟨.loc 113, .bin .eql, [.loc 112, .con (.int .i64 6)], (some (.loc 110, false))⟩,
  ⟨.var 15, .pick, [.loc 110, .con (.bool true), .loc 113], none⟩]
@[reducible] noncomputable def r85_20 : List RO := [
  ⟨.loc 115, .fld 3, [.var 1], none⟩,
  ⟨.loc 116, .ld false 1, [.loc 115], none⟩,
  ⟨.loc 117, .call, [(.con (.fn (.func 100) [] [])), .loc 116, .con (.int .i64 0)], none⟩,
  ⟨.var 6, .mv, [.loc 117], none⟩]
@[reducible] noncomputable def r85_21 : List RO := [
  ⟨.loc 118, .fld 0, [.var 1], none⟩,
  ⟨.loc 119, .ld false 1, [.loc 118], none⟩,
  ⟨.var 16, .bin .eql, [.loc 119, .con (.int .i64 12)], none⟩]
@[reducible] noncomputable def r85_22 : List RO := [
  ⟨.loc 121, .fld 3, [.var 1], none⟩,
  ⟨.loc 122, .ld false 1, [.loc 121], none⟩,
  ⟨.loc 123, .call, [(.con (.fn (.func 100) [] [])), .loc 122, .con (.int .i64 1)], none⟩,
  ⟨.var 6, .mv, [.loc 123], none⟩]
@[reducible] noncomputable def r85_23 : List RO := [
  ⟨.loc 124, .fld 4, [.var 1], none⟩,
  ⟨.loc 125, .ld false 1, [.loc 124], none⟩,
  ⟨.loc 126, .bin .eql, [.loc 125, .con (.int .i64 0)], none⟩,
  ⟨.loc 127, .mv, [.loc 126], none⟩,
  ⟨.loc 128, .fld 0, [.var 1], (some (.loc 127, false))⟩,
  ⟨.loc 129, .ld false 1, [.loc 128], (some (.loc 127, false))⟩,
  ⟨.loc 130, .bin .eql, [.loc 129, .con (.int .i64 5)], (some (.loc 127, false))⟩,
  ⟨.loc 131, .mv, [.loc 130], (some (.loc 127, false))⟩,
  ⟨.loc 132, .fld 4, [.var 1], (some (.loc 131, true))⟩,
  ⟨.loc 133, .ld false 1, [.loc 132], (some (.loc 131, true))⟩,
  ⟨.loc 134, .call, [(.con (.fn (.func 100) [] [])), .loc 133, .con (.int .i64 0)], (some (.loc 131, true))⟩,
  ⟨.loc 135, .pick, [.loc 131, .loc 134, .con (.bool false)], (some (.loc 127, false))⟩,
  ⟨.loc 136, .pick, [.loc 127, .con (.bool true), .loc 135], none⟩,
  ⟨.var 7, .mv, [.loc 136], none⟩]
@[reducible] noncomputable def r85_24 : List RO := [
  ⟨.loc 137, .mv, [.var 5], none⟩,
  ⟨.loc 138, .mv, [.loc 137], none⟩,
  ⟨.loc 139, .mv, [.var 6], (some (.loc 138, true))⟩,
  ⟨.loc 140, .pick, [.loc 138, .loc 139, .con (.bool false)], none⟩,
  ⟨.loc 141, .mv, [.loc 140], none⟩,
  ⟨.loc 142, .mv, [.var 7], (some (.loc 141, true))⟩,
  ⟨.loc 143, .pick, [.loc 141, .loc 142, .con (.bool false)], none⟩,
  ⟨.var 2, .mv, [.loc 143], none⟩]
theorem P85 : C85.M = M := by unfold C85 E85; rfl
theorem i85 {a0 : D} : St.init C85 [a0] ⟨[], []⟩ = ⟨[a0, .undef, .undef, .undef, .undef, .undef, .undef, .undef, .undef, .undef, .undef, .undef, .undef, .undef, .undef, .undef, .undef], [], ⟨[], []⟩⟩ := by unfold C85 E85; rfl
noncomputable def c85 : RC := (.seq (.reg r85_0) (.seq (.seq (.reg r85_1) (.cond (.var 8) (.seq (.reg r85_2) .ret) .skip)) (.seq (.reg r85_3) (.seq (.seq (.reg r85_4) (.cond (.var 9) (.reg r85_5) .skip)) (.seq (.seq (.reg r85_6) (.cond (.var 10) (.reg r85_7) .skip)) (.seq (.seq (.reg r85_8) (.cond (.var 11) (.seq (.reg r85_9) .ret) .skip)) (.seq (.reg r85_10) (.seq (.seq (.reg r85_11) (.cond (.var 12) (.seq (.reg r85_12) .ret) .skip)) (.seq (.reg r85_13) (.seq (.seq (.reg r85_14) (.cond (.var 13) (.reg r85_15) .skip)) (.seq (.seq (.reg r85_16) (.cond (.var 14) (.reg r85_17) .skip)) (.seq (.reg r85_18) (.seq (.seq (.reg r85_19) (.cond (.var 15) (.reg r85_20) .skip)) (.seq (.seq (.reg r85_21) (.cond (.var 16) (.reg r85_22) .skip)) (.seq (.reg r85_23) (.seq (.reg r85_24) .ret))))))))))))))))
noncomputable def q85 : List RR := [(.slot (.var 2))]
theorem z85 {n m : Nat} : resCode (E85 n m) (Try.f85.body.getD .skip) = some c85 := by kernel_rfl
theorem zr85 {n m : Nat} : resRs (E85 n m) Try.f85.results.toList = some q85 := by kernel_rfl
theorem ok85 {args : List D} {d : D} (hl : args.length = 1) (h : SWp C85 c85 (fun e s => (match e with | .exit _ => False | _ => True) ∧ rrsWp q85 s fun ds => D.closed (oneOrTup ds) = true ∧ (oneOrTup ds).er = d) (St.init C85 args ⟨[], []⟩)) : Pur M 85 args d :=
  pur_of_body (C := C85) (fn := Try.f85) Try.func85 (by kernel_rfl) (by kernel_rfl) (rc := c85) z85 (rs := q85) zr85 (by kernel_rfl) (by rw [hl]; rfl) (by rw [hl]; decide) rfl rfl h
/- 56 bogie.bogieref20.all · 1 arguments · kept slots [0, 1, 2, 3, 6, 11, 20] -/
noncomputable def E56 (n m : Nat) : Cfg := ⟨M, [0, 1, 2, 3, 6, 11, 20], 21, n, m, []⟩
noncomputable def C56 : Cfg := E56 0 0
@[reducible] noncomputable def r56_0 : List RO := [
  ⟨.var 1, .box, [.var 0], none⟩,
  ⟨.var 2, .mv, [.con (.bool false)], none⟩]
@[reducible] noncomputable def r56_1 : List RO := [
  ⟨.loc 4, .ld true 6, [.var 1], none⟩,
  ⟨.loc 5, .call, [(.con (.fn (.func 85) [] [])), .loc 4], none⟩,
  ⟨.var 4, .un .not, [.loc 5], none⟩]
@[reducible] noncomputable def r56_2 : List RO := [
  ⟨.var 2, .mv, [.con (.bool false)], none⟩]
@[reducible] noncomputable def r56_3 : List RO := [
  ⟨.var 3, .mv, [.con (.int .i64 0)], none⟩]
@[reducible] noncomputable def r56_4 : List RO := [
  ⟨.loc 7, .mv, [.var 3], none⟩,
  ⟨.loc 8, .fld 5, [.var 1], none⟩,
  ⟨.loc 9, .ld false 1, [.loc 8], none⟩,
  ⟨.loc 10, .lenL, [.loc 9], none⟩,
  ⟨.var 5, .bin .lss, [.loc 7, .loc 10], none⟩]
@[reducible] noncomputable def r56_5 : List RO := [
  ⟨.loc 14, .fld 5, [.var 1], none⟩,
  ⟨.loc 15, .ld false 1, [.loc 14], none⟩,
  ⟨.loc 16, .mv, [.var 3], none⟩,
  ⟨.loc 17, .ixaS 6, [.loc 15, .loc 16], none⟩,
  ⟨.loc 18, .ld true 6, [.loc 17], none⟩,
  ⟨.loc 19, .call, [(.con (.fn (.func 56) [] [])), .loc 18], none⟩,
  ⟨.var 6, .un .not, [.loc 19], none⟩]
@[reducible] noncomputable def r56_6 : List RO := [
  ⟨.var 2, .mv, [.con (.bool false)], none⟩]
@[reducible] noncomputable def r56_7 : List RO := [
  ⟨.loc 12, .mv, [.var 3], none⟩,
  ⟨.loc 13, .bin .add, [.loc 12, .con (.int .i64 1)], none⟩,
  ⟨.var 3, .mv, [.loc 13], none⟩]
@[reducible] noncomputable def r56_8 : List RO := [
  ⟨.var 2, .mv, [.con (.bool true)], none⟩]
theorem P56 : C56.M = M := by unfold C56 E56; rfl
theorem i56 {a0 : D} : St.init C56 [a0] ⟨[], []⟩ = ⟨[a0, .undef, .undef, .undef, .undef, .undef, .undef], [], ⟨[], []⟩⟩ := by unfold C56 E56; rfl
noncomputable def c56 : RC := (.seq (.reg r56_0) (.seq (.seq (.reg r56_1) (.cond (.var 4) (.seq (.reg r56_2) .ret) .skip)) (.seq (.seq (.reg r56_3) (.block 0 (.loop (.seq (.seq (.reg r56_4) (.cond (.var 5) .skip (.exit 0))) (.seq (.block 1 (.seq (.reg r56_5) (.cond (.var 6) (.seq (.reg r56_6) .ret) .skip))) (.reg r56_7)))))) (.seq (.reg r56_8) .ret))))
noncomputable def q56 : List RR := [(.slot (.var 2))]
theorem z56 {n m : Nat} : resCode (E56 n m) (Try.f56.body.getD .skip) = some c56 := by kernel_rfl
theorem zr56 {n m : Nat} : resRs (E56 n m) Try.f56.results.toList = some q56 := by kernel_rfl
theorem ok56 {args : List D} {d : D} (hl : args.length = 1) (h : SWp C56 c56 (fun e s => (match e with | .exit _ => False | _ => True) ∧ rrsWp q56 s fun ds => D.closed (oneOrTup ds) = true ∧ (oneOrTup ds).er = d) (St.init C56 args ⟨[], []⟩)) : Pur M 56 args d :=
  pur_of_body (C := C56) (fn := Try.f56) Try.func56 (by kernel_rfl) (by kernel_rfl) (rc := c56) z56 (rs := q56) zr56 (by kernel_rfl) (by rw [hl]; rfl) (by rw [hl]; decide) rfl rfl h
/- 42 bogie.bogieref20.Cond · 1 arguments · kept slots [0, 1, 2] -/
noncomputable def E42 (n m : Nat) : Cfg := ⟨M, [0, 1, 2], 10, n, m, []⟩
noncomputable def C42 : Cfg := E42 0 0
@[reducible] noncomputable def r42_0 : List RO := [
  ⟨.var 1, .box, [.var 0], none⟩,
  ⟨.var 2, .mv, [.con (.bool false)], none⟩]
@[reducible] noncomputable def r42_1 : List RO := [
  ⟨.loc 3, .ld true 6, [.var 1], none⟩,
  ⟨.loc 4, .call, [(.con (.fn (.func 55) [] [])), .loc 3, .con (.int .i64 60)], none⟩,
  ⟨.loc 5, .bin .leq, [.loc 4, .con (.int .i64 60)], none⟩,
  ⟨.loc 6, .mv, [.loc 5], none⟩,
  ⟨.loc 7, .ld true 6, [.var 1], (some (.loc 6, true))⟩,
  ⟨.loc 8, .call, [(.con (.fn (.func 56) [] [])), .loc 7], (some (.loc 6, true))⟩,
  ⟨.loc 9, .pick, [.loc 6, .loc 8, .con (.bool false)], none⟩,
  ⟨.var 2, .mv, [.loc 9], none⟩]
theorem P42 : C42.M = M := by unfold C42 E42; rfl
theorem i42 {a0 : D} : St.init C42 [a0] ⟨[], []⟩ = ⟨[a0, .undef, .undef], [], ⟨[], []⟩⟩ := by unfold C42 E42; rfl
noncomputable def c42 : RC := (.seq (.reg r42_0) (.seq (.reg r42_1) .ret))
noncomputable def q42 : List RR := [(.slot (.var 2))]
theorem z42 {n m : Nat} : resCode (E42 n m) (Try.f42.body.getD .skip) = some c42 := by kernel_rfl
theorem zr42 {n m : Nat} : resRs (E42 n m) Try.f42.results.toList = some q42 := by kernel_rfl
theorem ok42 {args : List D} {d : D} (hl : args.length = 1) (h : SWp C42 c42 (fun e s => (match e with | .exit _ => False | _ => True) ∧ rrsWp q42 s fun ds => D.closed (oneOrTup ds) = true ∧ (oneOrTup ds).er = d) (St.init C42 args ⟨[], []⟩)) : Pur M 42 args d :=
  pur_of_body (C := C42) (fn := Try.f42) Try.func42 (by kernel_rfl) (by kernel_rfl) (rc := c42) z42 (rs := q42) zr42 (by kernel_rfl) (by rw [hl]; rfl) (by rw [hl]; decide) rfl rfl h
/- 32 bogie.bogieref20.Valid · 1 arguments · kept slots [0, 1, 2] -/
noncomputable def E32 (n m : Nat) : Cfg := ⟨M, [0, 1, 2], 16, n, m, []⟩
noncomputable def C32 : Cfg := E32 0 0
@[reducible] noncomputable def r32_0 : List RO := [
  ⟨.var 1, .box, [.var 0], none⟩,
  ⟨.var 2, .mv, [.con (.bool false)], none⟩]
@[reducible] noncomputable def r32_1 : List RO := [
  ⟨.loc 3, .fld 0, [.var 1], none⟩,
  ⟨.loc 4, .ld false 1, [.loc 3], none⟩,
  ⟨.loc 5, .call, [(.con (.fn (.func 41) [] [])), .loc 4], none⟩,
  ⟨.loc 6, .mv, [.loc 5], none⟩,
  ⟨.loc 7, .fld 1, [.var 1], (some (.loc 6, true))⟩,
  ⟨.loc 8, .ld false 1, [.loc 7], (some (.loc 6, true))⟩,
  ⟨.loc 9, .call, [(.con (.fn (.func 41) [] [])), .loc 8], (some (.loc 6, true))⟩,
  ⟨.loc 10, .pick, [.loc 6, .loc 9, .con (.bool false)], none⟩,
  ⟨.loc 11, .mv, [.loc 10], none⟩,
  ⟨.loc 12, .fld 2, [.var 1], (some (.loc 11, true))⟩,
  ⟨.loc 13, .ld true 6, [.loc 12], (some (.loc 11, true))⟩,
  ⟨.loc 14, .call, [(.con (.fn (.func 42) [] [])), .loc 13], (some (.loc 11, true))⟩,
  ⟨.loc 15, .pick, [.loc 11, .loc 14, .con (.bool false)], none⟩,
  ⟨.var 2, .mv, [.loc 15], none⟩]
theorem P32 : C32.M = M := by unfold C32 E32; rfl
theorem i32 {a0 : D} : St.init C32 [a0] ⟨[], []⟩ = ⟨[a0, .undef, .undef], [], ⟨[], []⟩⟩ := by unfold C32 E32; rfl
noncomputable def c32 : RC := (.seq (.reg r32_0) (.seq (.reg r32_1) .ret))
noncomputable def q32 : List RR := [(.slot (.var 2))]
theorem z32 {n m : Nat} : resCode (E32 n m) (Try.f32.body.getD .skip) = some c32 := by kernel_rfl
theorem zr32 {n m : Nat} : resRs (E32 n m) Try.f32.results.toList = some q32 := by kernel_rfl
theorem ok32 {args : List D} {d : D} (hl : args.length = 1) (h : SWp C32 c32 (fun e s => (match e with | .exit _ => False | _ => True) ∧ rrsWp q32 s fun ds => D.closed (oneOrTup ds) = true ∧ (oneOrTup ds).er = d) (St.init C32 args ⟨[], []⟩)) : Pur M 32 args d :=
  pur_of_body (C := C32) (fn := Try.f32) Try.func32 (by kernel_rfl) (by kernel_rfl) (rc := c32) z32 (rs := q32) zr32 (by kernel_rfl) (by rw [hl]; rfl) (by rw [hl]; decide) rfl rfl h
/- 17 bogie.bogieref23.Valid · 1 arguments · kept slots [0, 1, 2] -/
noncomputable def E17 (n m : Nat) : Cfg := ⟨M, [0, 1, 2], 33, n, m, []⟩
noncomputable def C17 : Cfg := E17 0 0
@[reducible] noncomputable def r17_0 : List RO := [
  ⟨.var 1, .box, [.var 0], none⟩,
  ⟨.var 2, .mv, [.con (.bool false)], none⟩]
@[reducible] noncomputable def r17_1 : List RO := [
  ⟨.loc 3, .fld 0, [.var 1], none⟩,
  ⟨.loc 4, .ld false 1, [.loc 3], none⟩,
  ⟨.loc 5, .bin .geq, [.loc 4, .con (.int .i64 0)], none⟩,
  ⟨.loc 6, .mv, [.loc 5], none⟩,
  ⟨.loc 7, .fld 0, [.var 1], (some (.loc 6, true))⟩,
  ⟨.loc 8, .ld false 1, [.loc 7], (some (.loc 6, true))⟩,
  ⟨.loc 9, .bin .leq, [.loc 8, .con (.int .i64 1000000)], (some (.loc 6, true))⟩,
  ⟨.loc 10, .pick, [.loc 6, .loc 9, .con (.bool false)], none⟩,
  ⟨.loc 11, .mv, [.loc 10], none⟩,
  ⟨.loc 12, .fld 1, [.var 1], (some (.loc 11, true))⟩,
  ⟨.loc 13, .ld false 1, [.loc 12], (some (.loc 11, true))⟩,
  ⟨.loc 14, .bin .geq, [.loc 13, .con (.int .i64 0)], (some (.loc 11, true))⟩,
  ⟨.loc 15, .pick, [.loc 11, .loc 14, .con (.bool false)], none⟩,
  ⟨.loc 16, .mv, [.loc 15], none⟩,
  ⟨.loc 17, .fld 1, [.var 1], (some (.loc 16, true))⟩,
  ⟨.loc 18, .ld false 1, [.loc 17], (some (.loc 16, true))⟩,
  ⟨.loc 19, .fld 2, [.var 1], (some (.loc 16, true))⟩,
  ⟨.loc 20, .ld false 1, [.loc 19], (some (.loc 16, true))⟩,
  ⟨.loc 21, .bin .leq, [.loc 18, .loc 20], (some (.loc 16, true))⟩,
  ⟨.loc 22, .pick, [.loc 16, .loc 21, .con (.bool false)], none⟩,
  ⟨.loc 23, .mv, [.loc 22], none⟩,
  ⟨.loc 24, .fld 2, [.var 1], (some (.loc 23, true))⟩,
  ⟨.loc 25, .ld false 1, [.loc 24], (some (.loc 23, true))⟩,
  ⟨.loc 26, .bin .leq, [.loc 25, .con (.int .i64 40000)], (some (.loc 23, true))⟩,
  ⟨.loc 27, .pick, [.loc 23, .loc 26, .con (.bool false)], none⟩,
  ⟨.loc 28, .mv, [.loc 27], none⟩,
  ⟨.loc 29, .fld 4, [.var 1], (some (.loc 28, true))⟩,
  ⟨.loc 30, .ld true 8, [.loc 29], (some (.loc 28, true))⟩,
  ⟨.loc 31, .call, [(.con (.fn (.func 32) [] [])), .loc 30], (some (.loc 28, true))⟩,
  ⟨.loc 32, .pick, [.loc 28, .loc 31, .con (.bool false)], none⟩,
  ⟨.var 2, .mv, [.loc 32], none⟩]
theorem P17 : C17.M = M := by unfold C17 E17; rfl
theorem i17 {a0 : D} : St.init C17 [a0] ⟨[], []⟩ = ⟨[a0, .undef, .undef], [], ⟨[], []⟩⟩ := by unfold C17 E17; rfl
noncomputable def c17 : RC := (.seq (.reg r17_0) (.seq (.reg r17_1) .ret))
noncomputable def q17 : List RR := [(.slot (.var 2))]
theorem z17 {n m : Nat} : resCode (E17 n m) (Try.f17.body.getD .skip) = some c17 := by kernel_rfl
theorem zr17 {n m : Nat} : resRs (E17 n m) Try.f17.results.toList = some q17 := by kernel_rfl
theorem ok17 {args : List D} {d : D} (hl : args.length = 1) (h : SWp C17 c17 (fun e s => (match e with | .exit _ => False | _ => True) ∧ rrsWp q17 s fun ds => D.closed (oneOrTup ds) = true ∧ (oneOrTup ds).er = d) (St.init C17 args ⟨[], []⟩)) : Pur M 17 args d :=
  pur_of_body (C := C17) (fn := Try.f17) Try.func17 (by kernel_rfl) (by kernel_rfl) (rc := c17) z17 (rs := q17) zr17 (by kernel_rfl) (by rw [hl]; rfl) (by rw [hl]; decide) rfl rfl h
/- 33 bogie.bogieref20.SameCond · 2 arguments · kept slots [0, 1, 2, 3, 4, 5, 47, 52, 66] -/
noncomputable def E33 (n m : Nat) : Cfg := ⟨M, [0, 1, 2, 3, 4, 5, 47, 52, 66], 67, n, m, []⟩
noncomputable def C33 : Cfg := E33 0 0
@[reducible] noncomputable def r33_0 : List RO := [
  ⟨.var 2, .box, [.var 0], none⟩,
  ⟨.var 3, .box, [.var 1], none⟩,
  ⟨.var 4, .mv, [.con (.bool false)], none⟩]
@[reducible] noncomputable def r33_1 : List RO := [
  ⟨.loc 6, .fld 0, [.var 2], none⟩,
  ⟨.loc 7, .ld false 1, [.loc 6], none⟩,
  ⟨.loc 8, .fld 0, [.var 3], none⟩,
  ⟨.loc 9, .ld false 1, [.loc 8], none⟩,
  ⟨.loc 10, .bin .neq, [.loc 7, .loc 9], none⟩,
  ⟨.loc 11, .mv, [.loc 10], none⟩,
  ⟨.loc 12, .fld 1, [.var 2], (some (.loc 11, false))⟩,
  ⟨.loc 13, .ld false 1, [.loc 12], (some (.loc 11, false))⟩,
  ⟨.loc 14, .fld 1, [.var 3], (some (.loc 11, false))⟩,
  ⟨.loc 15, .ld false 1, [.loc 14], (some (.loc 11, false))⟩,
  ⟨.loc 16, .bin .neq, [.loc 13, .loc 15], (some (.loc 11, false))⟩,
  ⟨.loc 17, .pick, [.loc 11, .con (.bool true), .loc 16], none⟩,
  ⟨.loc 18, .mv, [.loc 17], none⟩,
  ⟨.loc 19, .fld 2, [.var 2], (some (.loc 18, false))⟩,
  ⟨.loc 20, .ld false 1, [.loc 19], (some (.loc 18, false))⟩,
  ⟨.loc 21, .fld 2, [.var 3], (some (.loc 18, false))⟩,
  ⟨.loc 22, .ld false 1, [.loc 21], (some (.loc 18, false))⟩,
  ⟨.loc 23, .bin .neq, [.loc 20, .loc 22], (some (.loc 18, false))⟩,
  ⟨.loc 24, .pick, [.loc 18, .con (.bool true), .loc 23], none⟩,
  ⟨.loc 25, .mv, [.loc 24], none⟩,
  ⟨.loc 26, .fld 3, [.var 2], (some (.loc 25, false))⟩,
  ⟨.loc 27, .ld false 1, [.loc 26], (some (.loc 25, false))⟩,
  ⟨.loc 28, .fld 3, [.var 3], (some (.loc 25, false))⟩,
  ⟨.loc 29, .ld false 1, [.loc 28], (some (.loc 25, false))⟩,
  ⟨.loc 30, .bin .neq, [.loc 27, .loc 29], (some (.loc 25, false))⟩,
  ⟨.loc 31, .pick, [.loc 25, .con (.bool true), .loc 30], none⟩,
  ⟨.loc 32, .mv, [.loc 31], none⟩,
  ⟨.loc 33, .fld 4, [.var 2], (some (.loc 32, false))⟩,
  ⟨.loc 34, .ld false 1, [.loc 33], (some (.loc 32, false))⟩,
  ⟨.loc 35, .fld 4, [.var 3], (some (.loc 32, false))⟩,
  ⟨.loc 36, .ld false 1, [.loc 35], (some (.loc 32, false))⟩,
  ⟨.loc 37, .bin .neq, [.loc 34, .loc 36], (some (.loc 32, false))⟩,
  ⟨.loc 38, .pick, [.loc 32, .con (.bool true), .loc 37], none⟩,
  ⟨.loc 39, .mv, [.loc 38], none⟩,
  ⟨.loc 40, .fld 5, [.var 2], (some (.loc 39, false))⟩,
  ⟨.loc 41, .ld false 1, [.loc 40], (some (.loc 39, false))⟩,
  ⟨.loc 42, .lenL, [.loc 41], (some (.loc 39, false))⟩,
  ⟨.loc 43, .fld 5, [.var 3], (some (.loc 39, false))⟩,
  ⟨.loc 44, .ld false 1, [.loc 43], (some (.loc 39, false))⟩,
  ⟨.loc 45, .lenL, [.loc 44], (some (.loc 39, false))⟩,
  ⟨.loc 46, .bin .neq, [.loc 42, .loc 45], (some (.loc 39, false))⟩,
  ⟨.var 6, .pick, [.loc 39, .con (.bool true), .loc 46], none⟩]
@[reducible] noncomputable def r33_2 : List RO := [
  ⟨.var 4, .mv, [.con (.bool false)], none⟩]
@[reducible] noncomputable def r33_3 : List RO := [
  ⟨.var 5, .mv, [.con (.int .i64 0)], none⟩]
@[reducible] noncomputable def r33_4 : List RO := [
  ⟨.loc 48, .mv, [.var 5], none⟩,
  ⟨.loc 49, .fld 5, [.var 2], none⟩,
  ⟨.loc 50, .ld false 1, [.loc 49], none⟩,
  ⟨.loc 51, .lenL, [.loc 50], none⟩,
  ⟨.var 7, .bin .lss, [.loc 48, .loc 51], none⟩]
@[reducible] noncomputable def r33_5 : List (RO × Bool) := [
  (⟨.loc 55, .fld 5, [.var 2], none⟩, true),
  (⟨.loc 56, .ld false 1, [.loc 55], none⟩, true),
  (⟨.loc 57, .mv, [.var 5], none⟩, true),
  (⟨.loc 58, .ixaS 6, [.loc 56, .loc 57], none⟩, true),
  (⟨.loc 59, .ld true 6, [.loc 58], none⟩, true),
  (⟨.loc 60, .fld 5, [.var 3], none⟩, true),
  (⟨.loc 61, .ld false 1, [.loc 60], none⟩, true),
  (⟨.loc 62, .mv, [.var 5], none⟩, true),
  (⟨.loc 63, .ixaS 6, [.loc 61, .loc 62], none⟩, true),
  (⟨.loc 64, .ld true 6, [.loc 63], none⟩, true)]
@[reducible] noncomputable def r33_6 : List RO := [
  ⟨.loc 65, .call, [(.con (.fn (.func 33) [] [])), .loc 59, .loc 64], none⟩,
  ⟨.var 8, .un .not, [.loc 65], none⟩]
@[reducible] noncomputable def r33_7 : List RO := [
  ⟨.var 4, .mv, [.con (.bool false)], none⟩]
@[reducible] noncomputable def r33_8 : List RO := [
  ⟨.loc 53, .mv, [.var 5], none⟩,
  ⟨.loc 54, .bin .add, [.loc 53, .con (.int .i64 1)], none⟩,
  ⟨.var 5, .mv, [.loc 54], none⟩]
@[reducible] noncomputable def r33_9 : List RO := [
  ⟨.var 4, .mv, [.con (.bool true)], none⟩]
theorem P33 : C33.M = M := by unfold C33 E33; rfl
theorem i33 {a0 a1 : D} : St.init C33 [a0, a1] ⟨[], []⟩ = ⟨[a0, a1, .undef, .undef, .undef, .undef, .undef, .undef, .undef], [], ⟨[], []⟩⟩ := by unfold C33 E33; rfl
noncomputable def c33 : RC := (.seq (.reg r33_0) (.seq (.seq (.reg r33_1) (.cond (.var 6) (.seq (.reg r33_2) .ret) .skip)) (.seq (.seq (.reg r33_3) (.block 0 (.loop (.seq (.seq (.reg r33_4) (.cond (.var 7) .skip (.exit 0))) (.seq (.block 1 (.seq (.regD r33_5 r33_6) (.cond (.var 8) (.seq (.reg r33_7) .ret) .skip))) (.reg r33_8)))))) (.seq (.reg r33_9) .ret))))
noncomputable def q33 : List RR := [(.slot (.var 4))]
theorem z33 {n m : Nat} : resCode (E33 n m) (Try.f33.body.getD .skip) = some c33 := by kernel_rfl
theorem zr33 {n m : Nat} : resRs (E33 n m) Try.f33.results.toList = some q33 := by kernel_rfl
theorem ok33 {args : List D} {d : D} (hl : args.length = 2) (h : SWp C33 c33 (fun e s => (match e with | .exit _ => False | _ => True) ∧ rrsWp q33 s fun ds => D.closed (oneOrTup ds) = true ∧ (oneOrTup ds).er = d) (St.init C33 args ⟨[], []⟩)) : Pur M 33 args d :=
  pur_of_body (C := C33) (fn := Try.f33) Try.func33 (by kernel_rfl) (by kernel_rfl) (rc := c33) z33 (rs := q33) zr33 (by kernel_rfl) (by rw [hl]; rfl) (by rw [hl]; decide) rfl rfl h
/- 18 bogie.bogieref20.Same · 2 arguments · kept slots [0, 1, 2, 3, 4] -/
noncomputable def E18 (n m : Nat) : Cfg := ⟨M, [0, 1, 2, 3, 4], 24, n, m, []⟩
noncomputable def C18 : Cfg := E18 0 0
@[reducible] noncomputable def r18_0 : List RO := [
  ⟨.var 2, .box, [.var 0], none⟩,
  ⟨.var 3, .box, [.var 1], none⟩,
  ⟨.var 4, .mv, [.con (.bool false)], none⟩]
@[reducible] noncomputable def r18_1 : List RO := [
  ⟨.loc 5, .fld 0, [.var 2], none⟩,
  ⟨.loc 6, .ld false 1, [.loc 5], none⟩,
  ⟨.loc 7, .fld 0, [.var 3], none⟩,
  ⟨.loc 8, .ld false 1, [.loc 7], none⟩,
  ⟨.loc 9, .bin .eql, [.loc 6, .loc 8], none⟩,
  ⟨.loc 10, .mv, [.loc 9], none⟩,
  ⟨.loc 11, .fld 1, [.var 2], (some (.loc 10, true))⟩,
  ⟨.loc 12, .ld false 1, [.loc 11], (some (.loc 10, true))⟩,
  ⟨.loc 13, .fld 1, [.var 3], (some (.loc 10, true))⟩,
  ⟨.loc 14, .ld false 1, [.loc 13], (some (.loc 10, true))⟩,
  ⟨.loc 15, .bin .eql, [.loc 12, .loc 14], (some (.loc 10, true))⟩,
  ⟨.loc 16, .pick, [.loc 10, .loc 15, .con (.bool false)], none⟩,
  ⟨.loc 17, .mv, [.loc 16], none⟩,
  ⟨.loc 18, .fld 2, [.var 2], (some (.loc 17, true))⟩,
  ⟨.loc 19, .ld true 6, [.loc 18], (some (.loc 17, true))⟩,
  ⟨.loc 20, .fld 2, [.var 3], (some (.loc 17, true))⟩,
  ⟨.loc 21, .ld true 6, [.loc 20], (some (.loc 17, true))⟩,
  ⟨.loc 22, .call, [(.con (.fn (.func 33) [] [])), .loc 19, .loc 21], (some (.loc 17, true))⟩,
  ⟨.loc 23, .pick, [.loc 17, .loc 22, .con (.bool false)], none⟩,
  ⟨.var 4, .mv, [.loc 23], none⟩]
theorem P18 : C18.M = M := by unfold C18 E18; rfl
theorem i18 {a0 a1 : D} : St.init C18 [a0, a1] ⟨[], []⟩ = ⟨[a0, a1, .undef, .undef, .undef], [], ⟨[], []⟩⟩ := by unfold C18 E18; rfl
noncomputable def c18 : RC := (.seq (.reg r18_0) (.seq (.reg r18_1) .ret))
noncomputable def q18 : List RR := [(.slot (.var 4))]
theorem z18 {n m : Nat} : resCode (E18 n m) (Try.f18.body.getD .skip) = some c18 := by kernel_rfl
theorem zr18 {n m : Nat} : resRs (E18 n m) Try.f18.results.toList = some q18 := by kernel_rfl
theorem ok18 {args : List D} {d : D} (hl : args.length = 2) (h : SWp C18 c18 (fun e s => (match e with | .exit _ => False | _ => True) ∧ rrsWp q18 s fun ds => D.closed (oneOrTup ds) = true ∧ (oneOrTup ds).er = d) (St.init C18 args ⟨[], []⟩)) : Pur M 18 args d :=
  pur_of_body (C := C18) (fn := Try.f18) Try.func18 (by kernel_rfl) (by kernel_rfl) (rc := c18) z18 (rs := q18) zr18 (by kernel_rfl) (by rw [hl]; rfl) (by rw [hl]; decide) rfl rfl h
/- 11 bogie.bogieref20.All · 2 arguments · kept slots [0, 1, 4, 5, 10, 14, 26] -/
noncomputable def E11 (n m : Nat) : Cfg := ⟨M, [0, 1, 4, 5, 10, 14, 26], 27, n, m, []⟩
noncomputable def C11 : Cfg := E11 0 0
@[reducible] noncomputable def r11_0 : List RO := [
  ⟨.var 2, .mv, [.con (.bool false)], none⟩]
@[reducible] noncomputable def r11_1 : List RO := [
  ⟨.loc 6, .mv, [.var 0], none⟩,
  ⟨.loc 7, .lenL, [.loc 6], none⟩,
  ⟨.loc 8, .mv, [.var 1], none⟩,
  ⟨.loc 9, .lenL, [.loc 8], none⟩,
  ⟨.var 4, .bin .neq, [.loc 7, .loc 9], none⟩]
@[reducible] noncomputable def r11_2 : List RO := [
  ⟨.var 2, .mv, [.con (.bool false)], none⟩]
@[reducible] noncomputable def r11_3 : List RO := [
  ⟨.var 3, .mv, [.con (.int .i64 0)], none⟩]
@[reducible] noncomputable def r11_4 : List RO := [
  ⟨.loc 11, .mv, [.var 3], none⟩,
  ⟨.loc 12, .mv, [.var 0], none⟩,
  ⟨.loc 13, .lenL, [.loc 12], none⟩,
  ⟨.var 5, .bin .lss, [.loc 11, .loc 13], none⟩]
@[reducible] noncomputable def r11_5 : List (RO × Bool) := [
  (⟨.loc 17, .mv, [.var 0], none⟩, true),
  (⟨.loc 18, .mv, [.var 3], none⟩, true),
  (⟨.loc 19, .ixaS 8, [.loc 17, .loc 18], none⟩, true),
  (⟨.loc 20, .ld true 8, [.loc 19], none⟩, true),
  (⟨.loc 21, .mv, [.var 1], none⟩, true),
  (⟨.loc 22, .mv, [.var 3], none⟩, true),
  (⟨.loc 23, .ixaS 8, [.loc 21, .loc 22], none⟩, true),
  (⟨.loc 24, .ld true 8, [.loc 23], none⟩, true)]
@[reducible] noncomputable def r11_6 : List RO := [
  ⟨.loc 25, .call, [(.con (.fn (.func 18) [] [])), .loc 20, .loc 24], none⟩,
  ⟨.var 6, .un .not, [.loc 25], none⟩]
@[reducible] noncomputable def r11_7 : List RO := [
  ⟨.var 2, .mv, [.con (.bool false)], none⟩]
@[reducible] noncomputable def r11_8 : List RO := [
  ⟨.loc 15, .mv, [.var 3], none⟩,
  ⟨.loc 16, .bin .add, [.loc 15, .con (.int .i64 1)], none⟩,
  ⟨.var 3, .mv, [.loc 16], none⟩]
@[reducible] noncomputable def r11_9 : List RO := [
  ⟨.var 2, .mv, [.con (.bool true)], none⟩]
theorem P11 : C11.M = M := by unfold C11 E11; rfl
theorem i11 {a0 a1 : D} : St.init C11 [a0, a1] ⟨[], []⟩ = ⟨[a0, a1, .undef, .undef, .undef, .undef, .undef], [], ⟨[], []⟩⟩ := by unfold C11 E11; rfl
noncomputable def c11 : RC := (.seq (.reg r11_0) (.seq (.seq (.reg r11_1) (.cond (.var 4) (.seq (.reg r11_2) .ret) .skip)) (.seq (.seq (.reg r11_3) (.block 0 (.loop (.seq (.seq (.reg r11_4) (.cond (.var 5) .skip (.exit 0))) (.seq (.block 1 (.seq (.regD r11_5 r11_6) (.cond (.var 6) (.seq (.reg r11_7) .ret) .skip))) (.reg r11_8)))))) (.seq (.reg r11_9) .ret))))
noncomputable def q11 : List RR := [(.slot (.var 2))]
theorem z11 {n m : Nat} : resCode (E11 n m) (Try.f11.body.getD .skip) = some c11 := by kernel_rfl
theorem zr11 {n m : Nat} : resRs (E11 n m) Try.f11.results.toList = some q11 := by kernel_rfl
theorem ok11 {args : List D} {d : D} (hl : args.length = 2) (h : SWp C11 c11 (fun e s => (match e with | .exit _ => False | _ => True) ∧ rrsWp q11 s fun ds => D.closed (oneOrTup ds) = true ∧ (oneOrTup ds).er = d) (St.init C11 args ⟨[], []⟩)) : Pur M 11 args d :=
  pur_of_body (C := C11) (fn := Try.f11) Try.func11 (by kernel_rfl) (by kernel_rfl) (rc := c11) z11 (rs := q11) zr11 (by kernel_rfl) (by rw [hl]; rfl) (by rw [hl]; decide) rfl rfl h
/- 14 bogie.bogieref14.Ints · 2 arguments · kept slots [0, 1, 4, 5, 10, 14, 25] -/
noncomputable def E14 (n m : Nat) : Cfg := ⟨M, [0, 1, 4, 5, 10, 14, 25], 26, n, m, []⟩
noncomputable def C14 : Cfg := E14 0 0
@[reducible] noncomputable def r14_0 : List RO := [
  ⟨.var 2, .mv, [.con (.bool false)], none⟩]
@[reducible] noncomputable def r14_1 : List RO := [
  ⟨.loc 6, .mv, [.var 0], none⟩,
  ⟨.loc 7, .lenL, [.loc 6], none⟩,
  ⟨.loc 8, .mv, [.var 1], none⟩,
  ⟨.loc 9, .lenL, [.loc 8], none⟩,
  ⟨.var 4, .bin .neq, [.loc 7, .loc 9], none⟩]
@[reducible] noncomputable def r14_2 : List RO := [
  ⟨.var 2, .mv, [.con (.bool false)], none⟩]
@[reducible] noncomputable def r14_3 : List RO := [
  ⟨.var 3, .mv, [.con (.int .i64 0)], none⟩]
@[reducible] noncomputable def r14_4 : List RO := [
  ⟨.loc 11, .mv, [.var 3], none⟩,
  ⟨.loc 12, .mv, [.var 0], none⟩,
  ⟨.loc 13, .lenL, [.loc 12], none⟩,
  ⟨.var 5, .bin .lss, [.loc 11, .loc 13], none⟩]
@[reducible] noncomputable def r14_5 : List (RO × Bool) := [
  (⟨.loc 17, .mv, [.var 0], none⟩, true),
  (⟨.loc 18, .mv, [.var 3], none⟩, true),
  (⟨.loc 19, .ixaS 1, [.loc 17, .loc 18], none⟩, true),
  (⟨.loc 20, .ld false 1, [.loc 19], none⟩, true),
  (⟨.loc 21, .mv, [.var 1], none⟩, true),
  (⟨.loc 22, .mv, [.var 3], none⟩, true),
  (⟨.loc 23, .ixaS 1, [.loc 21, .loc 22], none⟩, true),
  (⟨.loc 24, .ld false 1, [.loc 23], none⟩, true)]
@[reducible] noncomputable def r14_6 : List RO := [
  ⟨.var 6, .bin .neq, [.loc 20, .loc 24], none⟩]
@[reducible] noncomputable def r14_7 : List RO := [
  ⟨.var 2, .mv, [.con (.bool false)], none⟩]
@[reducible] noncomputable def r14_8 : List RO := [
  ⟨.loc 15, .mv, [.var 3], none⟩,
  ⟨.loc 16, .bin .add, [.loc 15, .con (.int .i64 1)], none⟩,
  ⟨.var 3, .mv, [.loc 16], none⟩]
@[reducible] noncomputable def r14_9 : List RO := [
  ⟨.var 2, .mv, [.con (.bool true)], none⟩]
theorem P14 : C14.M = M := by unfold C14 E14; rfl
theorem i14 {a0 a1 : D} : St.init C14 [a0, a1] ⟨[], []⟩ = ⟨[a0, a1, .undef, .undef, .undef, .undef, .undef], [], ⟨[], []⟩⟩ := by unfold C14 E14; rfl
noncomputable def c14 : RC := (.seq (.reg r14_0) (.seq (.seq (.reg r14_1) (.cond (.var 4) (.seq (.reg r14_2) .ret) .skip)) (.seq (.seq (.reg r14_3) (.block 0 (.loop (.seq (.seq (.reg r14_4) (.cond (.var 5) .skip (.exit 0))) (.seq (.block 1 (.seq (.regD r14_5 r14_6) (.cond (.var 6) (.seq (.reg r14_7) .ret) .skip))) (.reg r14_8)))))) (.seq (.reg r14_9) .ret))))
noncomputable def q14 : List RR := [(.slot (.var 2))]
theorem z14 {n m : Nat} : resCode (E14 n m) (Try.f14.body.getD .skip) = some c14 := by kernel_rfl
theorem zr14 {n m : Nat} : resRs (E14 n m) Try.f14.results.toList = some q14 := by kernel_rfl
theorem ok14 {args : List D} {d : D} (hl : args.length = 2) (h : SWp C14 c14 (fun e s => (match e with | .exit _ => False | _ => True) ∧ rrsWp q14 s fun ds => D.closed (oneOrTup ds) = true ∧ (oneOrTup ds).er = d) (St.init C14 args ⟨[], []⟩)) : Pur M 14 args d :=
  pur_of_body (C := C14) (fn := Try.f14) Try.func14 (by kernel_rfl) (by kernel_rfl) (rc := c14) z14 (rs := q14) zr14 (by kernel_rfl) (by rw [hl]; rfl) (by rw [hl]; decide) rfl rfl h
/- 31 bogie.bogieref23.in · 2 arguments · kept slots [0, 1, 4, 5, 9, 17] -/
end Go.Proofs.Ytnooagipikedeaa
end
section
set_option maxRecDepth 100000
namespace Go.Proofs.Ytnooagipikedeaa
open Go GoV
/- 36 bogie.book.sameCond · 2 arguments · kept slots [0, 1, 2, 3, 4] -/
noncomputable def E36 (n m : Nat) : Cfg := ⟨M, [0, 1, 2, 3, 4], 45, n, m, []⟩
noncomputable def C36 : Cfg := E36 0 0
@[reducible] noncomputable def r36_0 : List RO := [
  ⟨.var 2, .box, [.var 0], none⟩,
  ⟨.var 3, .box, [.var 1], none⟩,
  ⟨.var 4, .mv, [.con (.bool false)], none⟩]
@[reducible] noncomputable def r36_1 : List RO := [
  ⟨.loc 5, .fld 0, [.var 2], none⟩,
  ⟨.loc 6, .ld false 1, [.loc 5], none⟩,
  ⟨.loc 7, .fld 0, [.var 3], none⟩,
  ⟨.loc 8, .ld false 1, [.loc 7], none⟩,
  ⟨.loc 9, .bin .eql, [.loc 6, .loc 8], none⟩,
  ⟨.loc 10, .mv, [.loc 9], none⟩,
  ⟨.loc 11, .fld 1, [.var 2], (some (.loc 10, true))⟩,
  ⟨.loc 12, .ld false 1, [.loc 11], (some (.loc 10, true))⟩,
  ⟨.loc 13, .fld 1, [.var 3], (some (.loc 10, true))⟩,
  ⟨.loc 14, .ld false 1, [.loc 13], (some (.loc 10, true))⟩,
  ⟨.loc 15, .bin .eql, [.loc 12, .loc 14], (some (.loc 10, true))⟩,
  ⟨.loc 16, .pick, [.loc 10, .loc 15, .con (.bool false)], none⟩,
  ⟨.loc 17, .mv, [.loc 16], none⟩,
  ⟨.loc 18, .fld 2, [.var 2], (some (.loc 17, true))⟩,
  ⟨.loc 19, .ld false 1, [.loc 18], (some (.loc 17, true))⟩,
  ⟨.loc 20, .fld 2, [.var 3], (some (.loc 17, true))⟩,
  ⟨.loc 21, .ld false 1, [.loc 20], (some (.loc 17, true))⟩,
  ⟨.loc 22, .bin .eql, [.loc 19, .loc 21], (some (.loc 17, true))⟩,
  ⟨.loc 23, .pick, [.loc 17, .loc 22, .con (.bool false)], none⟩,
  ⟨.loc 24, .mv, [.loc 23], none⟩,
  ⟨.loc 25, .fld 3, [.var 2], (some (.loc 24, true))⟩,
  ⟨.loc 26, .ld false 1, [.loc 25], (some (.loc 24, true))⟩,
  ⟨.loc 27, .fld 3, [.var 3], (some (.loc 24, true))⟩,
  ⟨.loc 28, .ld false 1, [.loc 27], (some (.loc 24, true))⟩,
  ⟨.loc 29, .bin .eql, [.loc 26, .loc 28], (some (.loc 24, true))⟩,
  ⟨.loc 30, .pick, [.loc 24, .loc 29, .con (.bool false)], none⟩,
  ⟨.loc 31, .mv, [.loc 30], none⟩,
  ⟨.loc 32, .fld 4, [.var 2], (some (.loc 31, true))⟩,
  ⟨.loc 33, .ld false 1, [.loc 32], (some (.loc 31, true))⟩,
  ⟨.loc 34, .fld 4, [.var 3], (some (.loc 31, true))⟩,
  ⟨.loc 35, .ld false 1, [.loc 34], (some (.loc 31, true))⟩,
  ⟨.loc 36, .bin .eql, [.loc 33, .loc 35], (some (.loc 31, true))⟩,
  ⟨.loc 37, .pick, [.loc 31, .loc 36, .con (.bool false)], none⟩,
  ⟨.loc 38, .mv, [.loc 37], none⟩,
  ⟨.loc 39, .fld 5, [.var 2], (some (.loc 38, true))⟩,
  ⟨.loc 40, .ld false 1, [.loc 39], (some (.loc 38, true))⟩,
  ⟨.loc 41, .fld 5, [.var 3], (some (.loc 38, true))⟩,
  ⟨.loc 42, .ld false 1, [.loc 41], (some (.loc 38, true))⟩,
  ⟨.loc 43, .call, [(.con (.fn (.func 46) [] [])), .loc 40, .loc 42, (.con (.fn (.func 36) [] []))], (some (.loc 38, true))⟩,
  ⟨.loc 44, .pick, [.loc 38, .loc 43, .con (.bool false)], none⟩,
  ⟨.var 4, .mv, [.loc 44], none⟩]
theorem P36 : C36.M = M := by unfold C36 E36; rfl
theorem i36 {a0 a1 : D} : St.init C36 [a0, a1] ⟨[], []⟩ = ⟨[a0, a1, .undef, .undef, .undef], [], ⟨[], []⟩⟩ := by unfold C36 E36; rfl
noncomputable def c36 : RC := (.seq (.reg r36_0) (.seq (.reg r36_1) .ret))
noncomputable def q36 : List RR := [(.slot (.var 4))]
theorem z36 {n m : Nat} : resCode (E36 n m) (Try.f36.body.getD .skip) = some c36 := by kernel_rfl
theorem zr36 {n m : Nat} : resRs (E36 n m) Try.f36.results.toList = some q36 := by kernel_rfl
theorem ok36 {args : List D} {d : D} (hl : args.length = 2) (h : SWp C36 c36 (fun e s => (match e with | .exit _ => False | _ => True) ∧ rrsWp q36 s fun ds => D.closed (oneOrTup ds) = true ∧ (oneOrTup ds).er = d) (St.init C36 args ⟨[], []⟩)) : Pur M 36 args d :=
  pur_of_body (C := C36) (fn := Try.f36) Try.func36 (by kernel_rfl) (by kernel_rfl) (rc := c36) z36 (rs := q36) zr36 (by kernel_rfl) (by rw [hl]; rfl) (by rw [hl]; decide) rfl rfl h
/- 46 slices.EqualFunc[[]bogie.api.Expr,[]bogie.api.Expr,bogie.api.Expr,bogie.api.Expr] · 3 arguments · kept slots [0, 1, 2, 6, 7, 8, 9, 14, 15, 16, 17, 18, 30] -/
noncomputable def E46 (n m : Nat) : Cfg := ⟨M, [0, 1, 2, 6, 7, 8, 9, 14, 15, 16, 17, 18, 30], 32, n, m, []⟩
noncomputable def C46 : Cfg := E46 0 0
@[reducible] noncomputable def r46_0 : List RO := [
  ⟨.var 3, .mv, [.con (.bool false)], none⟩]
@[reducible] noncomputable def r46_1 : List RO := [
  ⟨.loc 10, .mv, [.var 0], none⟩,
  ⟨.loc 11, .lenL, [.loc 10], none⟩,
  ⟨.loc 12, .mv, [.var 1], none⟩,
  ⟨.loc 13, .lenL, [.loc 12], none⟩,
  ⟨.var 7, .bin .neq, [.loc 11, .loc 13], none⟩]
@[reducible] noncomputable def r46_2 : List RO := [
  ⟨.var 3, .mv, [.con (.bool false)], none⟩]
@[reducible] noncomputable def r46_3 : List RO := [
  ⟨.var 8, .mv, [.var 0], none⟩,
  ⟨.var 9, .lenL, [.var 8], none⟩,
  ⟨.var 10, .mv, [.con (.int .i64 0)], none⟩]
@[reducible] noncomputable def r46_4 : List RO := [
  ⟨.var 11, .bin .lss, [.var 10, .var 9], none⟩]
@[reducible] noncomputable def r46_5 : List RO := [
  ⟨.loc 19, .mv, [.var 10], none⟩,
  ⟨.loc 20, .ixaS 6, [.var 8, .var 10], none⟩,
  ⟨.loc 21, .ld true 6, [.loc 20], none⟩,
  ⟨.var 5, (.newb [(.int .i64 0), (.str []), (.str []), (.int .i64 0), (.int .i64 0), (.lit (.slice none 0 0))]), [], none⟩,
  ⟨.var 4, .mv, [.loc 19], none⟩,
  ⟨.none, .st 6, [.var 5, .loc 21], none⟩]
@[reducible] noncomputable def r46_6 : List RO := [
  ⟨.loc 22, .mv, [.var 1], none⟩,
  ⟨.loc 23, .mv, [.var 4], none⟩,
  ⟨.loc 24, .ixaS 6, [.loc 22, .loc 23], none⟩,
  ⟨.loc 25, .ld true 6, [.loc 24], none⟩,
  ⟨.var 6, (.newb [(.int .i64 0), (.str []), (.str []), (.int .i64 0), (.int .i64 0), (.lit (.slice none 0 0))]), [], none⟩,
  ⟨.none, .st 6, [.var 6, .loc 25], none⟩]
@[reducible] noncomputable def r46_7 : List RO := [
  ⟨.loc 26, .mv, [.var 2], none⟩,
  ⟨.loc 27, .ld true 6, [.var 5], none⟩,
  ⟨.loc 28, .ld true 6, [.var 6], none⟩,
  ⟨.loc 29, .call, [.loc 26, .loc 27, .loc 28], none⟩,
  ⟨.var 12, .un .not, [.loc 29], none⟩]
@[reducible] noncomputable def r46_8 : List RO := [
  ⟨.var 3, .mv, [.con (.bool false)], none⟩]
@[reducible] noncomputable def r46_9 : List RO := [
  ⟨.loc 31, .bin .add, [.var 10, .con (.int .i64 1)], none⟩,
  ⟨.var 10, .mv, [.loc 31], none⟩]
@[reducible] noncomputable def r46_10 : List RO := [
  ⟨.var 3, .mv, [.con (.bool true)], none⟩]
theorem P46 : C46.M = M := by unfold C46 E46; rfl
theorem i46 {a0 a1 a2 : D} : St.init C46 [a0, a1, a2] ⟨[], []⟩ = ⟨[a0, a1, a2, .undef, .undef, .undef, .undef, .undef, .undef, .undef, .undef, .undef, .undef], [], ⟨[], []⟩⟩ := by unfold C46 E46; rfl
noncomputable def c46 : RC := (.seq (.reg r46_0) (.seq (.seq (.reg r46_1) (.cond (.var 7) (.seq (.reg r46_2) .ret) .skip)) (.seq (.seq (.reg r46_3) (.block 0 (.loop (.seq (.reg r46_4) (.seq (.cond (.var 11) .skip (.exit 0)) (.seq (.block 1 (.seq (.reg r46_5) (.seq (.reg r46_6) (.seq (.reg r46_7) (.cond (.var 12) (.seq (.reg r46_8) .ret) .skip))))) (.reg r46_9))))))) (.seq (.reg r46_10) .ret))))
noncomputable def q46 : List RR := [(.slot (.var 3))]
theorem z46 {n m : Nat} : resCode (E46 n m) (Try.f46.body.getD .skip) = some c46 := by kernel_rfl
theorem zr46 {n m : Nat} : resRs (E46 n m) Try.f46.results.toList = some q46 := by kernel_rfl
theorem ok46 {args : List D} {d : D} (hl : args.length = 3) (h : SWp C46 c46 (fun e s => (match e with | .exit _ => False | _ => True) ∧ rrsWp q46 s fun ds => D.closed (oneOrTup ds) = true ∧ (oneOrTup ds).er = d) (St.init C46 args ⟨[], []⟩)) : Pur M 46 args d :=
  pur_of_body (C := C46) (fn := Try.f46) Try.func46 (by kernel_rfl) (by kernel_rfl) (rc := c46) z46 (rs := q46) zr46 (by kernel_rfl) (by rw [hl]; rfl) (by rw [hl]; decide) rfl rfl h
/- 27 bogie.book.same · 2 arguments · kept slots [0, 1, 2, 3, 4] -/
noncomputable def E27 (n m : Nat) : Cfg := ⟨M, [0, 1, 2, 3, 4], 24, n, m, []⟩
noncomputable def C27 : Cfg := E27 0 0
@[reducible] noncomputable def r27_0 : List RO := [
  ⟨.var 2, .box, [.var 0], none⟩,
  ⟨.var 3, .box, [.var 1], none⟩,
  ⟨.var 4, .mv, [.con (.bool false)], none⟩]
@[reducible] noncomputable def r27_1 : List RO := [
  ⟨.loc 5, .fld 0, [.var 2], none⟩,
  ⟨.loc 6, .ld false 1, [.loc 5], none⟩,
  ⟨.loc 7, .fld 0, [.var 3], none⟩,
  ⟨.loc 8, .ld false 1, [.loc 7], none⟩,
  ⟨.loc 9, .bin .eql, [.loc 6, .loc 8], none⟩,
  ⟨.loc 10, .mv, [.loc 9], none⟩,
  ⟨.loc 11, .fld 1, [.var 2], (some (.loc 10, true))⟩,
  ⟨.loc 12, .ld false 1, [.loc 11], (some (.loc 10, true))⟩,
  ⟨.loc 13, .fld 1, [.var 3], (some (.loc 10, true))⟩,
  ⟨.loc 14, .ld false 1, [.loc 13], (some (.loc 10, true))⟩,
  ⟨.loc 15, .bin .eql, [.loc 12, .loc 14], (some (.loc 10, true))⟩,
  ⟨.loc 16, .pick, [.loc 10, .loc 15, .con (.bool false)], none⟩,
  ⟨.loc 17, .mv, [.loc 16], none⟩,
  ⟨.loc 18, .fld 2, [.var 2], (some (.loc 17, true))⟩,
  ⟨.loc 19, .ld true 6, [.loc 18], (some (.loc 17, true))⟩,
  ⟨.loc 20, .fld 2, [.var 3], (some (.loc 17, true))⟩,
  ⟨.loc 21, .ld true 6, [.loc 20], (some (.loc 17, true))⟩,
  ⟨.loc 22, .call, [(.con (.fn (.func 36) [] [])), .loc 19, .loc 21], (some (.loc 17, true))⟩,
  ⟨.loc 23, .pick, [.loc 17, .loc 22, .con (.bool false)], none⟩,
  ⟨.var 4, .mv, [.loc 23], none⟩]
theorem P27 : C27.M = M := by unfold C27 E27; rfl
theorem i27 {a0 a1 : D} : St.init C27 [a0, a1] ⟨[], []⟩ = ⟨[a0, a1, .undef, .undef, .undef], [], ⟨[], []⟩⟩ := by unfold C27 E27; rfl
noncomputable def c27 : RC := (.seq (.reg r27_0) (.seq (.reg r27_1) .ret))
noncomputable def q27 : List RR := [(.slot (.var 4))]
theorem z27 {n m : Nat} : resCode (E27 n m) (Try.f27.body.getD .skip) = some c27 := by kernel_rfl
theorem zr27 {n m : Nat} : resRs (E27 n m) Try.f27.results.toList = some q27 := by kernel_rfl
theorem ok27 {args : List D} {d : D} (hl : args.length = 2) (h : SWp C27 c27 (fun e s => (match e with | .exit _ => False | _ => True) ∧ rrsWp q27 s fun ds => D.closed (oneOrTup ds) = true ∧ (oneOrTup ds).er = d) (St.init C27 args ⟨[], []⟩)) : Pur M 27 args d :=
  pur_of_body (C := C27) (fn := Try.f27) Try.func27 (by kernel_rfl) (by kernel_rfl) (rc := c27) z27 (rs := q27) zr27 (by kernel_rfl) (by rw [hl]; rfl) (by rw [hl]; decide) rfl rfl h
/- 26 slices.EqualFunc[[]bogie.api.Rule,[]bogie.api.Rule,bogie.api.Rule,bogie.api.Rule] · 3 arguments · kept slots [0, 1, 2, 6, 7, 8, 9, 14, 15, 16, 17, 18, 30] -/
noncomputable def E26 (n m : Nat) : Cfg := ⟨M, [0, 1, 2, 6, 7, 8, 9, 14, 15, 16, 17, 18, 30], 32, n, m, []⟩
noncomputable def C26 : Cfg := E26 0 0
@[reducible] noncomputable def r26_0 : List RO := [
  ⟨.var 3, .mv, [.con (.bool false)], none⟩]
@[reducible] noncomputable def r26_1 : List RO := [
  ⟨.loc 10, .mv, [.var 0], none⟩,
  ⟨.loc 11, .lenL, [.loc 10], none⟩,
  ⟨.loc 12, .mv, [.var 1], none⟩,
  ⟨.loc 13, .lenL, [.loc 12], none⟩,
  ⟨.var 7, .bin .neq, [.loc 11, .loc 13], none⟩]
@[reducible] noncomputable def r26_2 : List RO := [
  ⟨.var 3, .mv, [.con (.bool false)], none⟩]
@[reducible] noncomputable def r26_3 : List RO := [
  ⟨.var 8, .mv, [.var 0], none⟩,
  ⟨.var 9, .lenL, [.var 8], none⟩,
  ⟨.var 10, .mv, [.con (.int .i64 0)], none⟩]
@[reducible] noncomputable def r26_4 : List RO := [
  ⟨.var 11, .bin .lss, [.var 10, .var 9], none⟩]
@[reducible] noncomputable def r26_5 : List RO := [
  ⟨.loc 19, .mv, [.var 10], none⟩,
  ⟨.loc 20, .ixaS 8, [.var 8, .var 10], none⟩,
  ⟨.loc 21, .ld true 8, [.loc 20], none⟩,
  ⟨.var 5, (.newb [(.str []), (.str []), (.int .i64 0), (.str []), (.str []), (.int .i64 0), (.int .i64 0), (.lit (.slice none 0 0))]), [], none⟩,
  ⟨.var 4, .mv, [.loc 19], none⟩,
  ⟨.none, .st 8, [.var 5, .loc 21], none⟩]
@[reducible] noncomputable def r26_6 : List RO := [
  ⟨.loc 22, .mv, [.var 1], none⟩,
  ⟨.loc 23, .mv, [.var 4], none⟩,
  ⟨.loc 24, .ixaS 8, [.loc 22, .loc 23], none⟩,
  ⟨.loc 25, .ld true 8, [.loc 24], none⟩,
  ⟨.var 6, (.newb [(.str []), (.str []), (.int .i64 0), (.str []), (.str []), (.int .i64 0), (.int .i64 0), (.lit (.slice none 0 0))]), [], none⟩,
  ⟨.none, .st 8, [.var 6, .loc 25], none⟩]
@[reducible] noncomputable def r26_7 : List RO := [
  ⟨.loc 26, .mv, [.var 2], none⟩,
  ⟨.loc 27, .ld true 8, [.var 5], none⟩,
  ⟨.loc 28, .ld true 8, [.var 6], none⟩,
  ⟨.loc 29, .call, [.loc 26, .loc 27, .loc 28], none⟩,
  ⟨.var 12, .un .not, [.loc 29], none⟩]
@[reducible] noncomputable def r26_8 : List RO := [
  ⟨.var 3, .mv, [.con (.bool false)], none⟩]
@[reducible] noncomputable def r26_9 : List RO := [
  ⟨.loc 31, .bin .add, [.var 10, .con (.int .i64 1)], none⟩,
  ⟨.var 10, .mv, [.loc 31], none⟩]
@[reducible] noncomputable def r26_10 : List RO := [
  ⟨.var 3, .mv, [.con (.bool true)], none⟩]
theorem P26 : C26.M = M := by unfold C26 E26; rfl
theorem i26 {a0 a1 a2 : D} : St.init C26 [a0, a1, a2] ⟨[], []⟩ = ⟨[a0, a1, a2, .undef, .undef, .undef, .undef, .undef, .undef, .undef, .undef, .undef, .undef], [], ⟨[], []⟩⟩ := by unfold C26 E26; rfl
noncomputable def c26 : RC := (.seq (.reg r26_0) (.seq (.seq (.reg r26_1) (.cond (.var 7) (.seq (.reg r26_2) .ret) .skip)) (.seq (.seq (.reg r26_3) (.block 0 (.loop (.seq (.reg r26_4) (.seq (.cond (.var 11) .skip (.exit 0)) (.seq (.block 1 (.seq (.reg r26_5) (.seq (.reg r26_6) (.seq (.reg r26_7) (.cond (.var 12) (.seq (.reg r26_8) .ret) .skip))))) (.reg r26_9))))))) (.seq (.reg r26_10) .ret))))
noncomputable def q26 : List RR := [(.slot (.var 3))]
theorem z26 {n m : Nat} : resCode (E26 n m) (Try.f26.body.getD .skip) = some c26 := by kernel_rfl
theorem zr26 {n m : Nat} : resRs (E26 n m) Try.f26.results.toList = some q26 := by kernel_rfl
theorem ok26 {args : List D} {d : D} (hl : args.length = 3) (h : SWp C26 c26 (fun e s => (match e with | .exit _ => False | _ => True) ∧ rrsWp q26 s fun ds => D.closed (oneOrTup ds) = true ∧ (oneOrTup ds).er = d) (St.init C26 args ⟨[], []⟩)) : Pur M 26 args d :=
  pur_of_body (C := C26) (fn := Try.f26) Try.func26 (by kernel_rfl) (by kernel_rfl) (rc := c26) z26 (rs := q26) zr26 (by kernel_rfl) (by rw [hl]; rfl) (by rw [hl]; decide) rfl rfl h
/- 22 bogie.book.deciding · 3 arguments · kept slots [0, 1, 2, 6, 7, 8, 9, 10, 11, 13, 14, 15, 16, 40, 60] -/
noncomputable def E22 (n m : Nat) : Cfg := ⟨M, [0, 1, 2, 6, 7, 8, 9, 10, 11, 13, 14, 15, 16, 40, 60], 68, n, m, []⟩
@[reducible] noncomputable def r22_0 : List RO := [
  ⟨.var 3, .mv, [(.con (.lit (.map none)))], none⟩]
@[reducible] noncomputable def r22_1 : List RO := [
  ⟨.loc 12, .newM, [], none⟩,
  ⟨.var 4, .mv, [.loc 12], none⟩]
@[reducible] noncomputable def r22_2 : List RO := [
  ⟨.var 9, .mv, [.var 0], none⟩,
  ⟨.var 10, .lenL, [.var 9], none⟩,
  ⟨.var 11, .mv, [.con (.int .i64 0)], none⟩]
@[reducible] noncomputable def r22_3 : List RO := [
  ⟨.var 12, .bin .lss, [.var 11, .var 10], none⟩]
@[reducible] noncomputable def r22_4 : List RO := [
  ⟨.loc 17, .mv, [.var 11], none⟩,
  ⟨.loc 18, .ixaS 12, [.var 9, .var 11], none⟩,
  ⟨.loc 19, .ld true 12, [.loc 18], none⟩,
  ⟨.var 6, (.newb [(.int .i64 0), (.int .i64 0), (.int .i64 0), (.bool false), (.str []), (.str []), (.int .i64 0), (.str []), (.str []), (.int .i64 0), (.int .i64 0), (.lit (.slice none 0 0))]), [], none⟩,
  ⟨.var 5, .mv, [.loc 17], none⟩,
  ⟨.none, .st 12, [.var 6, .loc 19], none⟩]
@[reducible] noncomputable def r22_5 : List RO := [
  ⟨.loc 20, .ld true 12, [.var 6], none⟩,
  ⟨.loc 21, .call, [(.con (.fn (.func 28) [] [])), .loc 20], none⟩,
  ⟨.loc 22, .un .not, [.loc 21], none⟩,
  ⟨.loc 23, .mv, [.loc 22], none⟩,
  ⟨.loc 24, .fld 0, [.var 6], (some (.loc 23, false))⟩,
  ⟨.loc 25, .ld false 1, [.loc 24], (some (.loc 23, false))⟩,
  ⟨.loc 26, .mv, [.var 2], (some (.loc 23, false))⟩,
  ⟨.loc 27, .bin .gtr, [.loc 25, .loc 26], (some (.loc 23, false))⟩,
  ⟨.loc 28, .pick, [.loc 23, .con (.bool true), .loc 27], none⟩,
  ⟨.loc 29, .mv, [.loc 28], none⟩,
  ⟨.loc 30, .mv, [.var 1], (some (.loc 29, false))⟩,
  ⟨.loc 31, .fld 1, [.var 6], (some (.loc 29, false))⟩,
  ⟨.loc 32, .ld false 1, [.loc 31], (some (.loc 29, false))⟩,
  ⟨.loc 33, .bin .lss, [.loc 30, .loc 32], (some (.loc 29, false))⟩,
  ⟨.loc 34, .pick, [.loc 29, .con (.bool true), .loc 33], none⟩,
  ⟨.loc 35, .mv, [.loc 34], none⟩,
  ⟨.loc 36, .mv, [.var 1], (some (.loc 35, false))⟩,
  ⟨.loc 37, .fld 2, [.var 6], (some (.loc 35, false))⟩,
  ⟨.loc 38, .ld false 1, [.loc 37], (some (.loc 35, false))⟩,
  ⟨.loc 39, .bin .gtr, [.loc 36, .loc 38], (some (.loc 35, false))⟩,
  ⟨.var 13, .pick, [.loc 35, .con (.bool true), .loc 39], none⟩]
@[reducible] noncomputable def r22_6 : List RO := [
  ⟨.loc 42, .mv, [.var 4], none⟩,
  ⟨.loc 43, .fld 4, [.var 6], none⟩,
  ⟨.loc 44, .fld 0, [.loc 43], none⟩,
  ⟨.loc 45, .ld false 1, [.loc 44], none⟩,
  ⟨.loc 46, (.lkp .str true (.int .i64 0)), [.loc 42, .loc 45], none⟩,
  ⟨.loc 41, .mv, [.loc 46], none⟩,
  ⟨.loc 47, .ext 0, [.loc 41], none⟩,
  ⟨.loc 48, .ext 1, [.loc 41], none⟩,
  ⟨.var 7, .mv, [.loc 47], none⟩,
  ⟨.var 8, .mv, [.loc 48], none⟩]
@[reducible] noncomputable def r22_7 : List (RO × Bool) := [
  (⟨.loc 49, .mv, [.var 8], none⟩, true),
  (⟨.loc 50, .un .not, [.loc 49], none⟩, true),
  (⟨.loc 51, .mv, [.loc 50], none⟩, true),
  (⟨.loc 52, .mv, [.var 0], (some (.loc 51, false))⟩, true),
  (⟨.loc 53, .mv, [.var 7], (some (.loc 51, false))⟩, true),
  (⟨.loc 54, .ixaS 12, [.loc 52, .loc 53], (some (.loc 51, false))⟩, true),
  (⟨.loc 55, .fld 0, [.loc 54], (some (.loc 51, false))⟩, true),
  (⟨.loc 56, .ld false 1, [.loc 55], (some (.loc 51, false))⟩, true),
  (⟨.loc 57, .fld 0, [.var 6], (some (.loc 51, false))⟩, true),
  (⟨.loc 58, .ld false 1, [.loc 57], (some (.loc 51, false))⟩, true)]
@[reducible] noncomputable def r22_8 : List RO := [
  ⟨.loc 59, .bin .leq, [.loc 56, .loc 58], (some (.loc 51, false))⟩,
  ⟨.var 14, .pick, [.loc 51, .con (.bool true), .loc 59], none⟩]
@[reducible] noncomputable def r22_9 : List RO := [
  ⟨.loc 61, .mv, [.var 4], none⟩,
  ⟨.loc 62, .fld 4, [.var 6], none⟩,
  ⟨.loc 63, .fld 0, [.loc 62], none⟩,
  ⟨.loc 64, .ld false 1, [.loc 63], none⟩,
  ⟨.loc 65, .mv, [.var 5], none⟩,
  ⟨.none, .mpu .str, [.loc 61, .loc 64, .loc 65], none⟩]
@[reducible] noncomputable def r22_10 : List RO := [
  ⟨.loc 66, .bin .add, [.var 11, .con (.int .i64 1)], none⟩,
  ⟨.var 11, .mv, [.loc 66], none⟩]
@[reducible] noncomputable def r22_11 : List RO := [
  ⟨.loc 67, .mv, [.var 4], none⟩,
  ⟨.var 3, .mv, [.loc 67], none⟩]
theorem pe22 {n m : Nat} : (E22 n m).M = M := by unfold E22; rfl
theorem ie22 {n m : Nat} {hp : Hp} {a0 a1 a2 : D} : St.init (E22 n m) [a0, a1, a2] hp = ⟨[a0, a1, a2, .undef, .undef, .undef, .undef, .undef, .undef, .undef, .undef, .undef, .undef, .undef, .undef], [], hp⟩ := by unfold E22; rfl
noncomputable def c22 : RC := (.seq (.reg r22_0) (.seq (.reg r22_1) (.seq (.seq (.reg r22_2) (.block 0 (.loop (.seq (.reg r22_3) (.seq (.cond (.var 12) .skip (.exit 0)) (.seq (.block 1 (.seq (.reg r22_4) (.seq (.seq (.reg r22_5) (.cond (.var 13) (.exit 1) .skip)) (.seq (.reg r22_6) (.seq (.regD r22_7 r22_8) (.cond (.var 14) (.reg r22_9) .skip)))))) (.reg r22_10))))))) (.seq (.reg r22_11) .ret))))
noncomputable def q22 : List RR := [(.slot (.var 3))]
theorem z22 {n m : Nat} : resCode (E22 n m) (Try.f22.body.getD .skip) = some c22 := by kernel_rfl
theorem zr22 {n m : Nat} : resRs (E22 n m) Try.f22.results.toList = some q22 := by kernel_rfl
theorem oe22 {args : List D} {hp : Hp} {R : D → Hp → Prop} (n m : Nat) (hl : args.length = 3) (hn : n = hp.H.length) (hm : m = hp.tk.length) (h : SWp (E22 n m) c22 (fun e s => (match e with | .exit _ => False | _ => True) ∧ ∃ s1, Weak (E22 n m) s s1 ∧ rrsWp q22 s1 fun ds => R (oneOrTup ds) s1.hp) (St.init (E22 n m) args hp)) : Eff M 22 args hp R :=
  eff_of_body (C := E22 n m) (fn := Try.f22) Try.func22 (by kernel_rfl) (by kernel_rfl) (rc := c22) z22 (rs := q22) zr22 (by kernel_rfl) (by rw [hl]; rfl) (by rw [hl]; exact (by decide : 3 ≤ 68)) hn hm h
/- 23 sort.Strings · 1 arguments · kept slots [0] -/
/- 12 bogie.book.InForce · 3 arguments · kept slots [0, 1, 2, 6, 7, 8, 9, 10, 12, 13, 19, 21, 30, 31, 32, 33, 44] -/
noncomputable def E12 (n m : Nat) : Cfg := ⟨M, [0, 1, 2, 6, 7, 8, 9, 10, 12, 13, 19, 21, 30, 31, 32, 33, 44], 52, n, m, []⟩
noncomputable def C12 : Cfg := E12 0 0
@[reducible] noncomputable def r12_0 : List RO := [
  ⟨.var 3, .mv, [(.con (.lit (.slice none 0 0)))], none⟩]
@[reducible] noncomputable def r12_1 : List RO := [
  ⟨.loc 14, .mv, [.var 0], none⟩,
  ⟨.loc 15, .mv, [.var 1], none⟩,
  ⟨.loc 16, .mv, [.var 2], none⟩,
  ⟨.loc 17, .call, [(.con (.fn (.func 22) [] [])), .loc 14, .loc 15, .loc 16], none⟩,
  ⟨.var 4, .mv, [.loc 17], none⟩]
@[reducible] noncomputable def r12_2 : List RO := [
  ⟨.var 5, .mv, [(.con (.lit (.slice none 0 0)))], none⟩]
@[reducible] noncomputable def r12_3 : List RO := [
  ⟨.loc 18, .mv, [.var 4], none⟩,
  ⟨.var 10, .rngM, [.loc 18], none⟩]
@[reducible] noncomputable def r12_4 : List RO := [
  ⟨.loc 20, .nxtM, [.var 10], none⟩,
  ⟨.var 11, .ext 0, [.loc 20], none⟩]
@[reducible] noncomputable def r12_5 : List RO := [
  ⟨.loc 22, .ent, [.var 10], none⟩,
  ⟨.loc 23, .ext 0, [.loc 22], none⟩,
  ⟨.var 6, .mv, [.loc 23], none⟩]
@[reducible] noncomputable def r12_6 : List RO := [
  ⟨.loc 24, .mv, [.var 5], none⟩,
  ⟨.loc 25, .mv, [.var 6], none⟩,
  ⟨.loc 26, .bsl 1, [.loc 25], none⟩,
  ⟨.loc 27, .app 1 16 9, [.loc 24, .loc 26], none⟩,
  ⟨.var 5, .mv, [.loc 27], none⟩]
@[reducible] noncomputable def r12_7 : List RO := [
  ⟨.loc 28, .mv, [.var 5], none⟩,
  ⟨.loc 29, .call, [(.con (.fn (.func 23) [] [])), .loc 28], none⟩]
@[reducible] noncomputable def r12_8 : List RO := [
  ⟨.var 7, .mv, [(.con (.lit (.slice none 0 0)))], none⟩]
@[reducible] noncomputable def r12_9 : List RO := [
  ⟨.var 12, .mv, [.var 5], none⟩,
  ⟨.var 13, .lenL, [.var 12], none⟩,
  ⟨.var 14, .mv, [.con (.int .i64 0)], none⟩]
@[reducible] noncomputable def r12_10 : List RO := [
  ⟨.var 15, .bin .lss, [.var 14, .var 13], none⟩]
@[reducible] noncomputable def r12_11 : List RO := [
  ⟨.loc 34, .ixaS 1, [.var 12, .var 14], none⟩,
  ⟨.loc 35, .ld false 1, [.loc 34], none⟩,
  ⟨.var 8, .mv, [.loc 35], none⟩]
@[reducible] noncomputable def r12_12 : List RO := [
  ⟨.loc 36, .mv, [.var 0], none⟩,
  ⟨.loc 37, .mv, [.var 4], none⟩,
  ⟨.loc 38, .mv, [.var 8], none⟩,
  ⟨.loc 39, (.lkp .str false (.int .i64 0)), [.loc 37, .loc 38], none⟩,
  ⟨.loc 40, .ixaS 12, [.loc 36, .loc 39], none⟩,
  ⟨.loc 41, .ld true 12, [.loc 40], none⟩,
  ⟨.var 9, (.newb [(.int .i64 0), (.int .i64 0), (.int .i64 0), (.bool false), (.str []), (.str []), (.int .i64 0), (.str []), (.str []), (.int .i64 0), (.int .i64 0), (.lit (.slice none 0 0))]), [], none⟩,
  ⟨.none, .st 12, [.var 9, .loc 41], none⟩]
@[reducible] noncomputable def r12_13 : List RO := [
  ⟨.loc 42, .fld 3, [.var 9], none⟩,
  ⟨.loc 43, .ld false 1, [.loc 42], none⟩,
  ⟨.var 16, .un .not, [.loc 43], none⟩]
@[reducible] noncomputable def r12_14 : List RO := [
  ⟨.loc 45, .mv, [.var 7], none⟩,
  ⟨.loc 46, .fld 4, [.var 9], none⟩,
  ⟨.loc 47, .ld true 8, [.loc 46], none⟩,
  ⟨.loc 48, .bsl 8, [.loc 47], none⟩,
  ⟨.loc 49, .app 8 112 36, [.loc 45, .loc 48], none⟩,
  ⟨.var 7, .mv, [.loc 49], none⟩]
@[reducible] noncomputable def r12_15 : List RO := [
  ⟨.loc 50, .bin .add, [.var 14, .con (.int .i64 1)], none⟩,
  ⟨.var 14, .mv, [.loc 50], none⟩]
@[reducible] noncomputable def r12_16 : List RO := [
  ⟨.loc 51, .mv, [.var 7], none⟩,
  ⟨.var 3, .mv, [.loc 51], none⟩]
theorem P12 : C12.M = M := by unfold C12 E12; rfl
theorem i12 {a0 a1 a2 : D} : St.init C12 [a0, a1, a2] ⟨[], []⟩ = ⟨[a0, a1, a2, .undef, .undef, .undef, .undef, .undef, .undef, .undef, .undef, .undef, .undef, .undef, .undef, .undef, .undef], [], ⟨[], []⟩⟩ := by unfold C12 E12; rfl
noncomputable def c12 : RC := (.seq (.reg r12_0) (.seq (.reg r12_1) (.seq (.reg r12_2) (.seq (.seq (.reg r12_3) (.block 0 (.loop (.seq (.reg r12_4) (.seq (.cond (.var 11) .skip (.exit 0)) (.block 1 (.seq (.reg r12_5) (.reg r12_6)))))))) (.seq (.reg r12_7) (.seq (.reg r12_8) (.seq (.seq (.reg r12_9) (.block 2 (.loop (.seq (.reg r12_10) (.seq (.cond (.var 15) .skip (.exit 2)) (.seq (.block 3 (.seq (.reg r12_11) (.seq (.reg r12_12) (.seq (.reg r12_13) (.cond (.var 16) (.reg r12_14) .skip))))) (.reg r12_15))))))) (.seq (.reg r12_16) .ret))))))))
noncomputable def q12 : List RR := [(.slot (.var 3))]
theorem z12 {n m : Nat} : resCode (E12 n m) (Try.f12.body.getD .skip) = some c12 := by kernel_rfl
theorem zr12 {n m : Nat} : resRs (E12 n m) Try.f12.results.toList = some q12 := by kernel_rfl
theorem ok12 {args : List D} {d : D} (hl : args.length = 3) (h : SWp C12 c12 (fun e s => (match e with | .exit _ => False | _ => True) ∧ rrsWp q12 s fun ds => D.closed (oneOrTup ds) = true ∧ (oneOrTup ds).er = d) (St.init C12 args ⟨[], []⟩)) : Pur M 12 args d :=
  pur_of_body (C := C12) (fn := Try.f12) Try.func12 (by kernel_rfl) (by kernel_rfl) (rc := c12) z12 (rs := q12) zr12 (by kernel_rfl) (by rw [hl]; rfl) (by rw [hl]; decide) rfl rfl h
/- 25 bogie.book.Days$1 · 4 arguments · kept slots [0, 1, 2, 3, 19] -/
noncomputable def E25 (n m : Nat) : Cfg := ⟨M, [0, 1, 2, 3, 19], 22, n, m, []⟩
@[reducible] noncomputable def r25_0 : List (RO × Bool) := [
  (⟨.loc 5, .mv, [.var 0], none⟩, true),
  (⟨.loc 6, .bin .leq, [.loc 5, .con (.int .i64 40000)], none⟩, true),
  (⟨.loc 7, .mv, [.loc 6], none⟩, true),
  (⟨.loc 8, .ld false 1, [.var 1], (some (.loc 7, true))⟩, true),
  (⟨.loc 9, .mv, [.var 0], (some (.loc 7, true))⟩, true),
  (⟨.loc 10, .ld false 1, [.var 2], (some (.loc 7, true))⟩, true),
  (⟨.loc 11, .call, [(.con (.fn (.func 12) [] [])), .loc 8, .loc 9, .loc 10], (some (.loc 7, true))⟩, true),
  (⟨.loc 12, .ld false 1, [.var 1], (some (.loc 7, true))⟩, true),
  (⟨.loc 13, .mv, [.var 0], (some (.loc 7, true))⟩, true),
  (⟨.loc 14, .bin .sub, [.loc 13, .con (.int .i64 1)], (some (.loc 7, true))⟩, true),
  (⟨.loc 15, .ld false 1, [.var 2], (some (.loc 7, true))⟩, true)]
@[reducible] noncomputable def r25_1 : List RO := [
  ⟨.loc 16, .call, [(.con (.fn (.func 12) [] [])), .loc 12, .loc 14, .loc 15], (some (.loc 7, true))⟩,
  ⟨.loc 17, .call, [(.con (.fn (.func 26) [] [])), .loc 11, .loc 16, (.con (.fn (.func 27) [] []))], (some (.loc 7, true))⟩,
  ⟨.loc 18, .un .not, [.loc 17], (some (.loc 7, true))⟩,
  ⟨.var 4, .pick, [.loc 7, .loc 18, .con (.bool false)], none⟩]
@[reducible] noncomputable def r25_2 : List RO := [
  ⟨.loc 20, .ld false 1, [.var 3], none⟩,
  ⟨.loc 21, .mv, [.var 0], none⟩,
  ⟨.none, (.mpu (.int .i64)), [.loc 20, .loc 21, .con (.bool true)], none⟩]
theorem pe25 {n m : Nat} : (E25 n m).M = M := by unfold E25; rfl
theorem ie25 {n m : Nat} {hp : Hp} {a0 a1 a2 a3 : D} : St.init (E25 n m) [a0, a1, a2, a3] hp = ⟨[a0, a1, a2, a3, .undef], [], hp⟩ := by unfold E25; rfl
noncomputable def c25 : RC := (.seq (.regD r25_0 r25_1) (.cond (.var 4) (.reg r25_2) .skip))
noncomputable def q25 : List RR := []
theorem z25 {n m : Nat} : resCode (E25 n m) (Try.f25.body.getD .skip) = some c25 := by kernel_rfl
theorem zr25 {n m : Nat} : resRs (E25 n m) Try.f25.results.toList = some q25 := by kernel_rfl
theorem oe25 {args : List D} {hp : Hp} {R : D → Hp → Prop} (n m : Nat) (hl : args.length = 4) (hn : n = hp.H.length) (hm : m = hp.tk.length) (h : SWp (E25 n m) c25 (fun e s => (match e with | .exit _ => False | _ => True) ∧ ∃ s1, Weak (E25 n m) s s1 ∧ rrsWp q25 s1 fun ds => R (oneOrTup ds) s1.hp) (St.init (E25 n m) args hp)) : Eff M 25 args hp R :=
  eff_of_body (C := E25 n m) (fn := Try.f25) Try.func25 (by kernel_rfl) (by kernel_rfl) (rc := c25) z25 (rs := q25) zr25 (by kernel_rfl) (by rw [hl]; rfl) (by rw [hl]; exact (by decide : 4 ≤ 22)) hn hm h
/- 15 bogie.book.Days · 2 arguments · kept slots [0, 1, 2, 3, 4, 5, 6, 8, 11, 12, 13, 14, 18] -/
noncomputable def E15 (n m : Nat) : Cfg := ⟨M, [0, 1, 2, 3, 4, 5, 6, 8, 11, 12, 13, 14, 18], 32, n, m, []⟩
noncomputable def C15 : Cfg := E15 0 0
@[reducible] noncomputable def r15_0 : List RO := [
  ⟨.var 2, .box, [.var 0], none⟩,
  ⟨.var 3, .box, [.var 1], none⟩,
  ⟨.var 4, .mv, [(.con (.lit (.slice none 0 0)))], none⟩]
@[reducible] noncomputable def r15_1 : List RO := [
  ⟨.loc 9, .newM, [], none⟩,
  ⟨.var 5, (.newb [(.lit (.map none))]), [], none⟩,
  ⟨.none, .st 1, [.var 5, .loc 9], none⟩]
@[reducible] noncomputable def r15_2 : List RO := [
  ⟨.loc 10, (.mkF (.func 25) 0), [.var 2, .var 3, .var 5], none⟩,
  ⟨.var 6, .mv, [.loc 10], none⟩]
@[reducible] noncomputable def r15_3 : List RO := [
  ⟨.var 8, .ld false 1, [.var 2], none⟩,
  ⟨.var 9, .lenL, [.var 8], none⟩,
  ⟨.var 10, .mv, [.con (.int .i64 0)], none⟩]
@[reducible] noncomputable def r15_4 : List RO := [
  ⟨.var 11, .bin .lss, [.var 10, .var 9], none⟩]
@[reducible] noncomputable def r15_5 : List RO := [
  ⟨.loc 15, .ixaS 12, [.var 8, .var 10], none⟩,
  ⟨.loc 16, .ld true 12, [.loc 15], none⟩,
  ⟨.var 7, (.newb [(.int .i64 0), (.int .i64 0), (.int .i64 0), (.bool false), (.str []), (.str []), (.int .i64 0), (.str []), (.str []), (.int .i64 0), (.int .i64 0), (.lit (.slice none 0 0))]), [], none⟩,
  ⟨.none, .st 12, [.var 7, .loc 16], none⟩]
@[reducible] noncomputable def r15_6 : List RO := [
  ⟨.loc 17, .ld true 12, [.var 7], none⟩,
  ⟨.var 12, .call, [(.con (.fn (.func 28) [] [])), .loc 17], none⟩]
@[reducible] noncomputable def r15_7 : List RO := [
  ⟨.loc 19, .mv, [.var 6], none⟩,
  ⟨.loc 20, .fld 1, [.var 7], none⟩,
  ⟨.loc 21, .ld false 1, [.loc 20], none⟩,
  ⟨.loc 22, .call, [.loc 19, .loc 21], none⟩]
@[reducible] noncomputable def r15_8 : List RO := [
  ⟨.loc 23, .mv, [.var 6], none⟩,
  ⟨.loc 24, .fld 2, [.var 7], none⟩,
  ⟨.loc 25, .ld false 1, [.loc 24], none⟩,
  ⟨.loc 26, .bin .add, [.loc 25, .con (.int .i64 1)], none⟩,
  ⟨.loc 27, .call, [.loc 23, .loc 26], none⟩]
@[reducible] noncomputable def r15_9 : List RO := [
  ⟨.loc 28, .bin .add, [.var 10, .con (.int .i64 1)], none⟩,
  ⟨.var 10, .mv, [.loc 28], none⟩]
@[reducible] noncomputable def r15_10 : List RO := [
  ⟨.loc 29, .ld false 1, [.var 5], none⟩,
  ⟨.loc 30, .call, [(.con (.fn (.func 30) [] [])), .loc 29], none⟩,
  ⟨.loc 31, .call, [(.con (.fn (.func 29) [] [])), .loc 30], none⟩,
  ⟨.var 4, .mv, [.loc 31], none⟩]
theorem P15 : C15.M = M := by unfold C15 E15; rfl
theorem i15 {a0 a1 : D} : St.init C15 [a0, a1] ⟨[], []⟩ = ⟨[a0, a1, .undef, .undef, .undef, .undef, .undef, .undef, .undef, .undef, .undef, .undef, .undef], [], ⟨[], []⟩⟩ := by unfold C15 E15; rfl
noncomputable def c15 : RC := (.seq (.reg r15_0) (.seq (.reg r15_1) (.seq (.reg r15_2) (.seq (.seq (.reg r15_3) (.block 0 (.loop (.seq (.reg r15_4) (.seq (.cond (.var 11) .skip (.exit 0)) (.seq (.block 1 (.seq (.reg r15_5) (.seq (.reg r15_6) (.cond (.var 12) (.seq (.reg r15_7) (.reg r15_8)) .skip)))) (.reg r15_9))))))) (.seq (.reg r15_10) .ret)))))
noncomputable def q15 : List RR := [(.slot (.var 4))]
theorem z15 {n m : Nat} : resCode (E15 n m) (Try.f15.body.getD .skip) = some c15 := by kernel_rfl
theorem zr15 {n m : Nat} : resRs (E15 n m) Try.f15.results.toList = some q15 := by kernel_rfl
theorem ok15 {args : List D} {d : D} (hl : args.length = 2) (h : SWp C15 c15 (fun e s => (match e with | .exit _ => False | _ => True) ∧ rrsWp q15 s fun ds => D.closed (oneOrTup ds) = true ∧ (oneOrTup ds).er = d) (St.init C15 args ⟨[], []⟩)) : Pur M 15 args d :=
  pur_of_body (C := C15) (fn := Try.f15) Try.func15 (by kernel_rfl) (by kernel_rfl) (rc := c15) z15 (rs := q15) zr15 (by kernel_rfl) (by rw [hl]; rfl) (by rw [hl]; decide) rfl rfl h
/- 29 slices.Sorted[int] · 1 arguments · kept slots [0, 2, 3] -/
/- 38 slices.Collect[int] · 1 arguments · kept slots [0, 2] -/
/- 51 slices.AppendSeq[[]int,int] · 2 arguments · kept slots [0, 1, 2, 4, 5, 6, 7] -/
/- 30 maps.Keys[map[int]bool,int,bool] · 1 arguments · kept slots [0, 1, 2] -/
noncomputable def E30 (n m : Nat) : Cfg := ⟨M, [0, 1, 2], 4, n, m, []⟩
@[reducible] noncomputable def r30_0 : List RO := [
  ⟨.var 1, .box, [.var 0], none⟩,
  ⟨.var 2, .mv, [(.con (.lit .nilFunc))], none⟩]
@[reducible] noncomputable def r30_1 : List RO := [
  ⟨.loc 3, (.mkF (.func 40) 0), [.var 1], none⟩,
  ⟨.var 2, .mv, [.loc 3], none⟩]
theorem pe30 {n m : Nat} : (E30 n m).M = M := by unfold E30; rfl
theorem ie30 {n m : Nat} {hp : Hp} {a0 : D} : St.init (E30 n m) [a0] hp = ⟨[a0, .undef, .undef], [], hp⟩ := by unfold E30; rfl
noncomputable def c30 : RC := (.seq (.reg r30_0) (.seq (.reg r30_1) .ret))
noncomputable def q30 : List RR := [(.slot (.var 2))]
theorem z30 {n m : Nat} : resCode (E30 n m) (Try.f30.body.getD .skip) = some c30 := by kernel_rfl
theorem zr30 {n m : Nat} : resRs (E30 n m) Try.f30.results.toList = some q30 := by kernel_rfl
theorem oe30 {args : List D} {hp : Hp} {R : D → Hp → Prop} (n m : Nat) (hl : args.length = 1) (hn : n = hp.H.length) (hm : m = hp.tk.length) (h : SWp (E30 n m) c30 (fun e s => (match e with | .exit _ => False | _ => True) ∧ ∃ s1, Weak (E30 n m) s s1 ∧ rrsWp q30 s1 fun ds => R (oneOrTup ds) s1.hp) (St.init (E30 n m) args hp)) : Eff M 30 args hp R :=
  eff_of_body (C := E30 n m) (fn := Try.f30) Try.func30 (by kernel_rfl) (by kernel_rfl) (rc := c30) z30 (rs := q30) zr30 (by kernel_rfl) (by rw [hl]; rfl) (by rw [hl]; exact (by decide : 1 ≤ 4)) hn hm h
/- 40 maps.Keys[map[int]bool,int,bool]$1 · 2 arguments · kept slots [0, 1, 3, 5, 7, 13] -/
end Go.Proofs.Ytnooagipikedeaa
end
