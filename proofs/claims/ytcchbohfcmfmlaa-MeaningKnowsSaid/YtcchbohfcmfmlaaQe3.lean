/- Own texts, merged by a program: the engine that walks the code, and what the functions that the law reaches compute. -/
import Derived.Test.YtcchbohfcmfmlaaQe2
import Derived.Deep.Slices
import Derived.OpenShut
import Derived.Carry
import Derived.Shelf.Vars
import Derived.Test.YtcchbohfcmfmlaaProg
import Derived.KernelRfl
import Derived.Lib.ItoaNum
section
namespace GoV
open Go Go.RowKit Go.ChangeShapes Go.Deep
abbrev G0 (w : World) : Gh := ⟨[], [], fun b _ => b < w.heap.size⟩
def Opens (P : Program) (w : World) (n : Nat) (t : TypeId) {α : Type} (f : α → List D) (ok : α → Prop) : Prop :=
  ∀ (H : Type) (enc : TypeId × Value → H) (cs : List Value) (x : DataW H × List MemPlace), DataW.trod enc P w 0 (fun _ => true) true n t cs = some x →
    ∃ a, ok a ∧ RelL w (G0 w) (f a) cs ∧ ∀ y ∈ cs, oneC y
def pk (ds : List D) : D := match ds with | [d] => d | ds => .agg ds
section
variable {P : Program} {w : World} {n : Nat} {t e : TypeId}
theorem Opens.imp {α β : Type} {f : α → List D} {ok : α → Prop} {f' : β → List D} {ok' : β → Prop} (h : Opens P w n t f ok) (c : α → β) (h1 : ∀ a, ok a → f' (c a) = f a) (h2 : ∀ a, ok a → ok' (c a)) : Opens P w n t f' ok' := by
  intro H enc cs x hx
  obtain ⟨a, k1, k2, k3⟩ := h H enc cs x hx
  exact ⟨c a, h2 a k1, by rw [h1 a k1]; exact k2, k3⟩
theorem opens_int {k : IntKind} (ht : P.underlying t = some (.int k)) : Opens P w n t (fun z : Int => [.int k z]) (fun z => (Lit.int k z).wf = true) := by
  intro H enc cs x hx
  obtain ⟨z, rfl, _, hw⟩ := DataW.trod_int ht hx
  exact ⟨z, hw, RelL.one (by simp [Rel]), by simp [oneC, Value.oneCell']⟩
theorem opens_i64 (ht : P.underlying t = some (.int .i64)) : Opens P w n t (fun z : Int => [.int .i64 z]) (fun z => -9223372036854775808 ≤ z ∧ z ≤ 9223372036854775807) :=
  (opens_int ht).imp id (fun _ _ => rfl) (fun _ h => int_bounds h)
theorem opens_bool (ht : P.underlying t = some .bool) : Opens P w n t (fun b : Bool => [.bool b]) (fun _ => True) := by
  intro H enc cs x hx
  obtain ⟨z, rfl, _⟩ := DataW.trod_bool ht hx
  exact ⟨z, trivial, RelL.one (by simp [Rel]), by simp [oneC, Value.oneCell']⟩
theorem opens_str (ht : P.underlying t = some .string) : Opens P w n t (fun s : List UInt8 => [.str s]) (fun s => s.length ≤ 9223372036854775807) := by
  intro H enc cs x hx
  obtain ⟨s, rfl, _, hl⟩ := DataW.trod_string ht hx
  refine ⟨s.data.toList, ?_, RelL.one (by simp [Rel]), by simp [oneC, Value.oneCell']⟩
  have : s.data.toList.length = s.size := by rw [Array.length_toList]; rfl
  show s.data.toList.length ≤ _
  rw [this]
  exact Nat.le_trans hl (by decide)
theorem rel_pk {ds : List D} {cs : List Value} (h : RelL w (G0 w) ds cs) (ho : ∀ y ∈ cs, oneC y) : ∃ v, Rel w (G0 w) (pk ds) v ∧ v.cells.toList = cs := by
  unfold pk
  split
  · rename_i d
    obtain ⟨y, ys, rfl, h1, h2⟩ := h.inv
    rw [h2.inv_nil] at ho ⊢
    exact ⟨y, h1, by rw [cells_one (ho y (by simp))]⟩
  · exact ⟨.agg cs.toArray, by simp only [Rel]; exact ⟨cs, rfl, h, ho⟩, by simp [Value.cells]⟩
theorem list_choose {α : Type} {q : Nat → α → Prop} : ∀ n, (∀ i, i < n → ∃ a, q i a) → ∃ l : List α, l.length = n ∧ ∀ i (h : i < l.length), q i l[i]
  | 0, _ => ⟨[], rfl, by simp⟩
  | n + 1, h => by
    obtain ⟨l, h1, h2⟩ := list_choose n fun i hi => h i (by omega)
    obtain ⟨a, ha⟩ := h n (by omega)
    refine ⟨l ++ [a], by simp [h1], fun i hi => ?_⟩
    by_cases e : i < l.length
    · rw [List.getElem_append_left e]; exact h2 i e
    · have : i = l.length := by simp at hi; omega
      subst this
      simp; rw [h1]; exact ha
theorem flat_get {k : Nat} (hk : 0 < k) : ∀ {xs : List Value}, (∀ y ∈ xs, y.cells.size = k) → ∀ {j : Nat} {y : Value}, (flat xs)[j]? = some y → ∃ x, xs[j / k]? = some x ∧ x.cells.toList[j % k]? = some y
  | [], _, j, y, h => by simp [flat] at h
  | x :: xs, hs, j, y, h => by
    have hx : x.cells.toList.length = k := by simpa using hs x (by simp)
    simp only [flat] at h
    by_cases e : j < k
    · rw [List.getElem?_append_left (by omega)] at h
      exact ⟨x, by simp [Nat.div_eq_of_lt e], by rw [Nat.mod_eq_of_lt e]; exact h⟩
    · rw [List.getElem?_append_right (by omega), hx] at h
      obtain ⟨x', h1, h2⟩ := flat_get hk (fun y hy => hs y (by simp [hy])) h
      refine ⟨x', ?_, by rwa [Nat.mod_eq_sub_mod (by omega)]⟩
      rw [Nat.div_eq_sub_div hk (by omega)]
      simpa using h1
theorem opens_slice {α : Type} {f : α → List D} {ok : α → Prop} (ht : P.underlying t = some (.slice e)) (hc : 0 < P.cellsOf e) (h : Opens P w n e f ok) :
    Opens P w (n + 1) t (fun l : List α => [.slice (l.map fun a => pk (f a)) .no]) (fun l => l.length ≤ 9223372036854775807 ∧ ∀ a ∈ l, ok a) := by
  intro H enc cs x hx
  rcases DataW.trod_slice ht hx with ⟨rfl, _⟩ | ⟨a, len, cap, elems, rest, n', hn, rfl, _, _, hlc, hm, hlen, hel, _⟩
  · refine ⟨[], by simp, RelL.one ?_, by simp [oneC, Value.oneCell']⟩
    simp only [Rel]
    exact ⟨⟨0, 0, none⟩, 0, 0, [], .inr ⟨by simp, by simp, rfl⟩, by simp, RelL.nil, by simp, At.nil, trivial⟩
  obtain rfl : n = n' := by omega
  have one : ∀ i, i < len → ∃ av : α × Value, ok av.1 ∧ Rel w (G0 w) (pk (f av.1)) av.2 ∧ w.cells? 0 (a.add (i * P.cellsOf e)) (P.cellsOf e) = some av.2.cells.toList ∧ ∀ y ∈ av.2.cells.toList, oneC y := by
    intro i hi
    have h1 := hel i hi
    rw [List.getElem?_eq_getElem (by omega)] at h1
    obtain ⟨cs', h2, h3⟩ := Option.bind_eq_some_iff.1 h1
    obtain ⟨b, k1, k2, k3⟩ := h H enc cs' _ h3
    obtain ⟨v, k4, k5⟩ := rel_pk k2 k3
    exact ⟨⟨b, v⟩, k1, k4, by rw [k5]; exact h2, by rw [k5]; exact k3⟩
  obtain ⟨l, hl, hq⟩ := list_choose len one
  have hrel : ∀ (l : List (α × Value)), (∀ i (h : i < l.length), Rel w (G0 w) (pk (f (l[i]).1)) (l[i]).2) → RelL w (G0 w) (l.map fun av => pk (f av.1)) (l.map (·.2)) := by
    intro l
    induction l with
    | nil => intro _; exact RelL.nil
    | cons x l ih => intro hh; exact RelL.cons (hh 0 (by simp)) (ih fun i hi => hh (i + 1) (by simpa using hi))
  have hsz : ∀ y ∈ l.map (·.2), y.cells.size = P.cellsOf e := by
    intro y hy
    obtain ⟨av, hav, rfl⟩ := List.mem_map.1 hy
    obtain ⟨i, hi, rfl⟩ := List.getElem_of_mem hav
    have := (World.cells?_some (hq i hi).2.2.1).2.1
    simpa using this
  have cap_le : len ≤ 9223372036854775807 := Nat.le_trans hlc (Nat.le_trans hm (by decide))
  refine ⟨l.map (·.1), ⟨by simpa [hl] using cap_le, fun b hb => ?_⟩, RelL.one ?_, by simp [oneC, Value.oneCell']⟩
  · obtain ⟨av, hav, rfl⟩ := List.mem_map.1 hb
    obtain ⟨i, hi, rfl⟩ := List.getElem_of_mem hav
    exact (hq i hi).1
  · simp only [Rel]
    refine ⟨a, cap, P.cellsOf e, l.map (·.2), .inl (by simp [hl]), by simp [hl, hlc], ?_, hsz, ⟨fun hne => ?_, fun j y hj => ?_⟩, trivial⟩
    · have := hrel l fun i hi => (hq i hi).2.1
      rw [List.map_map]
      exact this
    · have hpos : 0 < l.length := by
        rcases Nat.eq_zero_or_pos l.length with q | q
        · exfalso; apply hne
          rw [List.length_eq_zero_iff.1 q]; rfl
        · exact q
      have hc0 := (World.cells?_some (hq 0 hpos).2.2.1).2.2 0 hc
      have hlen0 := (World.cells?_some (hq 0 hpos).2.2.1).2.1
      rw [List.getElem?_eq_getElem (by omega)] at hc0
      simp only [Nat.zero_mul] at hc0
      have ha0 : ∀ b : Addr, b.add 0 = b := fun b => by simp [Addr.add]
      rw [ha0, ha0] at hc0
      unfold World.cell? at hc0
      split at hc0
      · split at hc0
        · cases hc0
        · rename_i hs; simpa using hs
      · cases hc0
    · obtain ⟨x, h1, h2⟩ := flat_get hc hsz hj
      rw [List.getElem?_map] at h1
      obtain ⟨av, hav, rfl⟩ := Option.map_eq_some_iff.1 h1
      have hi : j / P.cellsOf e < l.length := by
        rcases Nat.lt_or_ge (j / P.cellsOf e) l.length with q | q
        · exact q
        · rw [List.getElem?_eq_none q] at hav; cases hav
      rw [List.getElem?_eq_getElem hi] at hav
      cases hav
      obtain ⟨_, _, k3, k4⟩ := hq _ hi
      have hm := Nat.mod_lt j hc
      have hcell := (World.cells?_some k3).2.2 _ hm
      rw [h2] at hcell
      have hadd : w.cell? ((a.add (j / P.cellsOf e * P.cellsOf e)).add (j % P.cellsOf e)) = w.cell? ⟨a.block, a.off + j, none⟩ := by
        rw [add_add]
        have e1 : j / P.cellsOf e * P.cellsOf e + j % P.cellsOf e = j := Nat.div_add_mod' j _
        rw [e1]
        unfold Addr.add
        split
        · rename_i hj0
          subst hj0
          rw [add_add, e1] at hcell
          have : a.add 0 = a := by simp [Addr.add]
          rw [this] at hcell
          have hsp : a.spot = none := by
            unfold World.cell? at hcell
            split at hcell
            · split at hcell
              · cases hcell
              · rename_i hs; simpa using hs
            · cases hcell
          obtain ⟨b, o, s⟩ := a
          simp at hsp; subst hsp; rfl
        · rfl
      rw [hadd] at hcell
      refine ⟨hcell, ?_, k4 y (List.mem_of_getElem? h2)⟩
      have := World.block_lt_of_cell? w _ hcell
      exact this
/-! ### Structs -/

def OpensF (P : Program) (w : World) (n : Nat) (fs : List Field) (off : Nat) {α : Type} (f : α → List D) (ok : α → Prop) : Prop :=
  ∀ (H : Type) (enc : TypeId × Value → H) (cs : List Value), cs.length = off + (fs.map fun f => P.cellsOf f.type).sum →
    (∀ f ∈ fs, ∃ x, DataW.trod enc P w 0 (fun _ => true) true n f.type ((cs.drop f.offset).take (P.cellsOf f.type)) = some x) →
    ∃ a, ok a ∧ RelL w (G0 w) (f a) (cs.drop off) ∧ ∀ y ∈ cs.drop off, oneC y
theorem opensF_nil {off : Nat} : OpensF P w n [] off (fun _ : Unit => []) (fun _ => True) := by
  intro H enc cs hl _
  have : cs.drop off = [] := List.drop_eq_nil_of_le (by simp at hl; omega)
  rw [this]
  exact ⟨(), trivial, RelL.nil, by simp⟩
theorem opensF_cons {α β : Type} {f : α → List D} {ok : α → Prop} {g : β → List D} {ok' : β → Prop} {fl : Field} {fs : List Field} {off c : Nat} (ho : fl.offset = off) (hc : P.cellsOf fl.type = c) (h : Opens P w n fl.type f ok) (hr : OpensF P w n fs (off + c) g ok') :
    OpensF P w n (fl :: fs) off (fun p : α × β => f p.1 ++ g p.2) (fun p => ok p.1 ∧ ok' p.2) := by
  subst ho; subst hc
  intro H enc cs hl hf
  simp only [List.map_cons, List.sum_cons] at hl
  obtain ⟨x, hx⟩ := hf fl (by simp)
  obtain ⟨a, k1, k2, k3⟩ := h H enc _ x hx
  obtain ⟨b, j1, j2, j3⟩ := hr H enc cs (by omega) (fun f hm => hf f (by simp [hm]))
  have e : cs.drop fl.offset = (cs.drop fl.offset).take (P.cellsOf fl.type) ++ cs.drop (fl.offset + P.cellsOf fl.type) := by
    rw [← List.drop_drop, List.take_append_drop]
  refine ⟨(a, b), ⟨k1, j1⟩, ?_, ?_⟩
  · rw [e]; exact k2.append j2
  · rw [e]
    intro y hy
    rcases List.mem_append.1 hy with q | q
    · exact k3 y q
    · exact j3 y q
theorem opens_struct {α : Type} {f : α → List D} {ok : α → Prop} {fs : List Field} (ht : P.underlying t = some (.struct fs.toArray)) (hc : P.cellsOf t = (fs.map fun f => P.cellsOf f.type).sum) (h : OpensF P w n fs 0 f ok) : Opens P w (n + 1) t f ok := by
  intro H enc cs x hx
  obtain ⟨xs, n', hn, _, hl, hlen, hf⟩ := DataW.trod_struct ht hx
  obtain rfl : n = n' := by omega
  have := h H enc cs (by omega) (fun f hm => by
    obtain ⟨i, hi, rfl⟩ := List.getElem_of_mem hm
    have hq := hf i fs[i] (by simp [hi])
    rw [hq]
    have : i < xs.length := by rw [hlen]; simpa using hi
    exact ⟨xs[i], List.getElem?_eq_getElem this⟩)
  simpa using this
theorem opens_zero {α : Type} {f : α → List D} {ok : α → Prop} : Opens P w 0 t f ok := by
  intro H enc cs x hx
  simp [DataW.trod] at hx
theorem opens_all {α : Type} {f : α → List D} {ok : α → Prop} (h : ∀ n, Opens P w (n + 1) t f ok) : ∀ n, Opens P w n t f ok
  | 0 => opens_zero
  | n + 1 => h n
/-! ### A whole argument -/

theorem arg_cell {α : Type} {f : α → List D} {ok : α → Prop} {H : Type} {enc : TypeId × Value → H} {v : Value} {d : DataW H} {ps : List MemPlace} {b : Nat} {desc : TypeDesc} (ht : P.underlying t = some desc) (hd : isRowT desc = false) (hval : Value.okWide P w .any b t v)
    (h : DataW.Trod enc P w 0 (fun _ => true) true t v d ps) (hO : ∀ n, Opens P w n t f ok) : ∃ a, ok a ∧ RelL w (G0 w) (f a) [v] := by
  obtain ⟨fuel, hx⟩ := h
  obtain ⟨a, k1, k2, _⟩ := hO fuel H enc _ _ hx
  refine ⟨a, k1, ?_⟩
  have hv : oneC v := by
    cases v with
    | agg cs =>
      exfalso
      unfold Value.okWide at hval
      rw [ht] at hval
      cases desc <;> simp_all [isRowT, Cell.okWide, Cell.ok]
    | tuple cs =>
      exfalso
      unfold Value.okWide at hval
      rw [ht] at hval
      cases desc <;> simp_all [isRowT, Cell.okWide, Cell.ok]
    | _ => simp [oneC, Value.oneCell']
  rw [cells_one hv] at k2
  exact k2
theorem arg_row {α : Type} {f : α → List D} {ok : α → Prop} {H : Type} {enc : TypeId × Value → H} {v : Value} {d : DataW H} {ps : List MemPlace} {b : Nat} {fs : Array Field} (ht : P.underlying t = some (.struct fs)) (hval : Value.okWide P w .any b t v)
    (h : DataW.Trod enc P w 0 (fun _ => true) true t v d ps) (hO : ∀ n, Opens P w n t f ok) : ∃ a, ok a ∧ RelL w (G0 w) [.agg (f a)] [v] := by
  obtain ⟨fuel, hx⟩ := h
  obtain ⟨a, k1, k2, k3⟩ := hO fuel H enc _ _ hx
  refine ⟨a, k1, RelL.one ?_⟩
  unfold Value.okWide at hval
  rw [ht] at hval
  obtain ⟨cs, rfl, _⟩ := hval
  simp only [Value.cells] at k2 k3
  simp only [Rel]
  exact ⟨cs.toList, by simp, k2, k3⟩
theorem relL_app {ds es : List D} {xs ys : List Value} (h : RelL w (G0 w) ds xs) (h2 : RelL w (G0 w) es ys) : RelL w (G0 w) (ds ++ es) (xs ++ ys) := h.append h2
end
end GoV
end
section
set_option maxHeartbeats 1000000
namespace GoV
open Go Go.RowKit
theorem flat_strs : ∀ ss : List ByteArray, flat (ss.map Value.string) = ss.map Value.string
  | [] => rfl
  | s :: ss => by simp [flat, Value.cells, flat_strs ss]
/-! ### What is known of variables when a law is called -/

end GoV
end
section
set_option linter.unusedSimpArgs false
set_option linter.unusedVariables false
set_option maxHeartbeats 1000000
namespace GoV
open Go
section
variable {C : Cfg} {w0 : World} {B : Gh}
end
section
variable {M : Mod} {j i : Nat} {dst : Dst} {a g : Opd} {q : Bool} {r : List (RO × Bool)} {K : St → Prop} {s : St} {want : Bool} {oc : OC} {args : List Opd}
end
end GoV
end
section
set_option linter.unusedSimpArgs false
set_option linter.unusedVariables false
set_option maxHeartbeats 1000000
namespace GoV
open Go
section
variable {C : Cfg} {w0 : World} {B : Gh}
def AnyF (M : Mod) (F : (Nat → Bool) → Hp) (i : Nat) (oc : OC) (ds : List D) (d : D) : Prop := ∀ E : Nat → Bool, E i = false → OcWp M oc ds (F E) (fun d' hp' => d' = d ∧ hp' = F (fun j => E j || j == i))
def Still (F : (Nat → Bool) → Hp) (i : Nat) : Prop := ∀ E : Nat → Bool, E i = false → F (fun j => E j || j == i) = F E
def headF (M : Mod) (F : (Nat → Bool) → Hp) (i : Nat) (o : RO) (K : St → Prop) (s : St) : Prop :=
  match o.guard with
  | none => ∃ d, AnyF M F i o.oc (o.args.map s.get) d ∧ K (s.put o.dst d)
  | some (g, want) =>
    match s.get g with
    | .bool b => (b = want → ∃ d, AnyF M F i o.oc (o.args.map (s.setO g (.bool want)).get) d ∧ K ((s.setO g (.bool want)).put o.dst d)) ∧
        (b = (!want) → Still F i ∧ K ((s.setO g (.bool (!want))).put o.dst .skip))
    | .skip => Still F i ∧ K (s.put o.dst .skip)
    | _ => False
def opsF (M : Mod) (F : (Nat → Bool) → Hp) : Nat → List (RO × Bool) → (St → Prop) → St → Prop
  | j, [], K, s => K { s with hp := F (fun k => decide (k < j)) }
  | i, (o, _) :: r, K, s => headF M F i o (opsF M F (i + 1) r K) s
end
section
variable {M : Mod} {F : (Nat → Bool) → Hp} {i : Nat} {dst : Dst} {q : Bool} {r : List (RO × Bool)} {K : St → Prop} {s : St} {oc : OC} {args : List Opd}
theorem y_end {hp' : Hp} (hh : F (fun k => decide (k < i)) = hp') (h : K { s with hp := hp' }) : opsF M F i [] K s := by subst hh; exact h
theorem y_op (d : D) (h1 : AnyF M F i oc (args.map s.get) d) (h : opsF M F (i + 1) r K (s.put dst d)) : opsF M F i ((⟨dst, oc, args, none⟩, q) :: r) K s := ⟨d, h1, h⟩
theorem any_still {ds : List D} {d : D} (hF : Still F i) (h : ∀ hp2, OcWp M oc ds hp2 (fun d' hp' => d' = d ∧ hp' = hp2)) : AnyF M F i oc ds d := fun E hE => by rw [hF E hE]; exact h _
theorem y_q {ds : List D} (d : D) (ha : args.map s.get = ds) (hF : Still F i) (ho : ∀ hp2, OcWp M oc ds hp2 (fun d' hp' => d' = d ∧ hp' = hp2)) (h : opsF M F (i + 1) r K (s.put dst d)) : opsF M F i ((⟨dst, oc, args, none⟩, q) :: r) K s :=
  y_op d (by rw [ha]; exact any_still hF ho) h
theorem y_c {ds : List D} {d : D} (ha : args.map s.get = ds) (h1 : AnyF M F i oc ds d) (h : opsF M F (i + 1) r K (s.put dst d)) : opsF M F i ((⟨dst, oc, args, none⟩, q) :: r) K s :=
  y_op d (by rw [ha]; exact h1) h
theorem y_cg {g : Opd} {want : Bool} {ds : List D} {d : D} (hg : s.get g = .bool want) (ha : args.map (s.setO g (.bool want)).get = ds) (h1 : AnyF M F i oc ds d) (h : opsF M F (i + 1) r K ((s.setO g (.bool want)).put dst d)) :
    opsF M F i ((⟨dst, oc, args, some (g, want)⟩, q) :: r) K s := by
  simp only [opsF, headF, hg]
  exact ⟨fun _ => ⟨d, by rw [ha]; exact h1, h⟩, fun e => by cases want <;> cases e⟩
theorem y_qg {g : Opd} {want : Bool} {ds : List D} (d : D) (hg : s.get g = .bool want) (ha : args.map (s.setO g (.bool want)).get = ds) (hF : Still F i) (ho : ∀ hp2, OcWp M oc ds hp2 (fun d' hp' => d' = d ∧ hp' = hp2)) (h : opsF M F (i + 1) r K ((s.setO g (.bool want)).put dst d)) :
    opsF M F i ((⟨dst, oc, args, some (g, want)⟩, q) :: r) K s := y_cg hg ha (any_still hF ho) h
end
theorem weak_resv {C : Cfg} {s : St} (k : Nat) (hk : 0 < k) : Weak C s ⟨s.env, [], { s.hp with tk := s.hp.tk ++ [.chg k []] }⟩ := by
  intro w0 B a w h
  obtain ⟨G, g0, gb, g1, g2, g3, g4⟩ := h
  obtain ⟨q1, q2⟩ := g0.tokFull (len := 0) (a := none) hk (.chg k []) (.inr ⟨rfl, rfl, rfl⟩)
  refine ⟨_, q1, gb, g1, g2, g3, fun t => ?_⟩
  have := Rel.evo _ q2 (g4 t)
  unfold St.slot at *
  split
  · rename_i j hj
    rw [hj] at this
    exact this
  · simp [lk, Rel]
end GoV
end
section
set_option linter.unusedSimpArgs false
set_option linter.unusedVariables false
namespace GoV
open Go
theorem take_range_get {l : List Nat} {n i : Nat} (h : l.take n = List.range n) (hi : i < n) : l[i]? = some i := by
  have : (l.take n)[i]? = some i := by rw [h]; simp [hi]
  rwa [List.getElem?_take, if_pos hi] at this
def St.sel (s : St) (bl tl : List Nat) : St := ⟨D.rnL (posF bl) (posF tl) s.env, [], s.hp.sel bl tl⟩
theorem weak_sel {C : Cfg} {s : St} (bl tl : List Nat) (hs : SelOk s.hp bl tl) (hb : bl.take C.n0 = List.range C.n0) (ht : tl.take C.m0 = List.range C.m0) : Weak C s (s.sel bl tl) := by
  intro w0 B a w h
  obtain ⟨G, g0, gb, g1, g2, g3, g4⟩ := h
  have h0 := g0.heap
  obtain ⟨_, r2⟩ := sel_get (l := G.r) (bl := bl) fun b hb => by rw [← h0.len]; exact hs.bl_ b hb
  obtain ⟨_, t2⟩ := sel_get (l := G.tk) (bl := tl) fun b hb => by rw [← h0.lent]; exact hs.tl_ b hb
  have hr := Ren.sel h0 hs
  have hinv : Inv w0 B (s.sel bl tl).hp w (G.sel bl tl) := by
    refine g0.ghost (h0.sel hs) ⟨fun b o ho => g0.evo.imm b o ho, fun b n hbn => ?_, fun t T hT => ?_⟩ (fun n hn => ?_) (fun n hn => ?_) fun b o ho => .inl ho
    · have e : bl[b]? = some b := take_range_get hb (by rw [← gb.1]; exact lt_of_get hbn)
      exact (r2 b b e).trans (g0.evo.ref b n hbn)
    · have e : tl[t]? = some t := take_range_get ht (by rw [← gb.2]; exact lt_of_get hT)
      obtain ⟨T', q1, q2⟩ := g0.evo.tok t T hT
      exact ⟨T', (t2 t t e).trans q1, q2⟩
    · obtain ⟨c, _, hc⟩ := mem_sel hn
      exact .inl (List.mem_of_getElem? hc)
    · obtain ⟨U, hU, hUb⟩ := mem_blks.1 hn
      obtain ⟨u, _, hu⟩ := mem_sel hU
      exact .inl (mem_blks.2 ⟨U, List.mem_of_getElem? hu, hUb⟩)
  refine ⟨G.sel bl tl, hinv, gb, g1, g2, by simpa [St.sel, rnL_length] using g3, fun t => ?_⟩
  have := g4 t
  unfold St.slot at *
  split
  · rename_i i hi
    rw [hi] at this
    simp only [St.sel, rnL_getD]
    exact Rel.rn _ hr this
  · simp [St.sel, lk, Rel]
def St.toSl (s : St) (i t k n cap : Nat) (cs : List D) : St := ⟨s.env.set i (.sl s.hp.H.length k 0 n cap), [], ⟨s.hp.H ++ [.cells cs], s.hp.tk.set t (.per k (n + 1))⟩⟩
theorem relL_undef {w : World} {g : Gh} : ∀ (xs : List Value), RelL w g (List.replicate xs.length .undef) xs
  | [] => RelL.nil
  | x :: xs => by
    simp only [List.length_cons, List.replicate_succ]
    exact RelL.cons (by simp [Rel]) (relL_undef xs)
theorem swp_sl {C : Cfg} {rc : RC} {Q : Ex → St → Prop} {s : St} (i t k n : Nat) (cs : List D) (hs : s.env.getD i .undef = .gs t n) (hb : s.hp.tk[t]? = some (.chg k cs)) (hl : cs.length = n * k) (hm : C.m0 = 0) (hn : 0 < n)
    (h : ∀ cap, n ≤ cap → SWp C rc Q (s.toSl i t k n cap (cs ++ List.replicate ((cap - n) * k) .undef))) : SWp C rc Q s := by
  refine ⟨fun c hc w0 B hA a w hsim => ?_⟩
  obtain ⟨G, g0, gb, g1, g2, g3, g4⟩ := hsim
  have h0 := g0.heap
  obtain ⟨T, hT, ⟨hk, hcl, hz, hv⟩, hok⟩ := h0.tokBlk hb
  have hTm := List.mem_of_getElem? hT
  subst hk
  have hnT : n = T.len := Nat.eq_of_mul_eq_mul_right hok.1 (hl.symm.trans hcl)
  subst hnT
  obtain ⟨b, hbT⟩ : ∃ b, T.blk = some b := by
    cases e : T.blk with
    | none => have := (hz e).1; omega
    | some b => exact ⟨b, rfl⟩
  obtain ⟨hnI, xs, e, x1, x2⟩ := hv b hbT
  obtain ⟨ad, hbr, hlc, xs', e', y1, y2, y3⟩ := hok.2.2 b hbT
  rw [x1] at y1
  simp only [Option.some.injEq, Obj.cells.injEq] at y1
  obtain ⟨rfl, rfl, _⟩ := y1
  have hxl : xs.toList.length = T.cap * T.k := by rw [Array.length_toList, y2]
  have hle : T.len * T.k ≤ T.cap * T.k := Nat.mul_le_mul_right _ hlc
  have hrest : (xs.toList.drop (T.len * T.k)).length = (T.cap - T.len) * T.k := by rw [List.length_drop, hxl, Nat.sub_mul]
  have hnew : w0.heap.size ≤ b := by
    rcases g0.newt b (mem_blks.2 ⟨T, hTm, hbT⟩) with q | q
    · have : B.tk = [] := List.eq_nil_of_length_eq_zero (by rw [gb.2, hm])
      rw [this] at q; simp [blks] at q
    · exact q
  have hbl : b < w.heap.size := (h0.tok T hTm).lt hbT
  let T' : Tk := ⟨none, none, T.len + 1, T.k, T.len + 1⟩
  let G' : Gh := ⟨G.r ++ [b], G.tk.set t T', G.I⟩
  have htl : t < G.tk.length := lt_of_get hT
  have he : Evo w G w G' := by
    refine ⟨fun c o ho => ⟨ho, rfl⟩, fun c m hc => ?_, fun u U hU => ?_⟩
    · show (G.r ++ [b])[c]? = some m
      rw [List.getElem?_append_left (lt_of_get hc)]; exact hc
    · by_cases e : t = u
      · subst e
        rw [hT] at hU; cases hU
        exact ⟨T', by simp [G', htl], rfl, .inr (Nat.lt_succ_self _)⟩
      · exact ⟨U, by simp [G', List.getElem?_set, e, hU], rfl, .inl rfl⟩
  have getT : ∀ (u : Nat) (U : Tk), G'.tk[u]? = some U → (u = t ∧ U = T') ∨ (u ≠ t ∧ G.tk[u]? = some U) := by
    intro u U hU
    simp only [G', List.getElem?_set] at hU
    by_cases e : t = u
    · subst e; simp [htl] at hU; exact .inl ⟨rfl, hU.symm⟩
    · rw [if_neg e] at hU; exact .inr ⟨fun q => e q.symm, hU⟩
  have notb : ∀ (u : Nat) (U : Tk) (m : Nat), u ≠ t → G.tk[u]? = some U → U.blk = some m → m ≠ b := fun u U m hu hU hm q => by
    subst q
    exact hu (tk_inj h0.tokd hU hT hm hbT)
  have hh : HeapRel w G' ⟨s.hp.H ++ [.cells (cs ++ List.replicate ((T.cap - T.len) * T.k) .undef)], s.hp.tk.set t (.per T.k (T.len + 1))⟩ := by
    refine ⟨by simp [G', h0.len], fun c C' m hC hm => ?_, fun m hm => ?_, ?_, by simp [G', h0.lent], fun u V U hV hU => ?_, fun U hU => ?_, ?_, fun c o ho => ⟨(h0.imm c o ho).1, fun j hj => ?_⟩⟩
    · rcases Nat.lt_or_ge c s.hp.H.length with q | q
      · simp only [List.getElem?_append_left q] at hC
        have hm' : G.r[c]? = some m := by
          have : (G.r ++ [b])[c]? = some m := hm
          rwa [List.getElem?_append_left (by rw [← h0.len]; exact q)] at this
        exact (h0.blk c C' m hC hm').evo he
      · simp only [List.getElem?_append_right q] at hC
        have hc0 : c - s.hp.H.length = 0 := by
          have := lt_of_get hC; simp at this; omega
        rw [hc0] at hC; simp at hC; subst hC
        have hm' : (G.r ++ [b])[c]? = some m := hm
        rw [List.getElem?_append_right (by rw [← h0.len]; exact q), ← h0.len, hc0] at hm'
        simp at hm'; subst hm'
        refine ⟨xs.toList, e, by simpa using x1, ?_, y3⟩
        have hr := (x2.append (relL_undef (xs.toList.drop (T.len * T.k))))
        rw [List.take_append_drop, hrest] at hr
        exact RelL.evo _ he hr
    · rcases List.mem_append.1 hm with q | q
      · exact h0.lt m q
      · simp at q; subst q; exact hbl
    · show (G.r ++ [b]).Nodup
      rw [List.nodup_append]
      refine ⟨h0.nodup, by simp, fun x hx y hy q => ?_⟩
      simp at hy; subst hy; subst q; exact hbr hx
    · rcases getT u U hU with ⟨rfl, rfl⟩ | ⟨q1, q2⟩
      · have : V = .per T.k (T.len + 1) := by
          have hl' : u < s.hp.tk.length := by rw [h0.lent]; exact htl
          simp [hl'] at hV; exact hV.symm
        subst this
        exact ⟨rfl, rfl, fun b' hb' => by simp [T'] at hb'⟩
      · have hV' : s.hp.tk[u]? = some V := by
          simp only [List.getElem?_set] at hV
          rwa [if_neg (fun q => q1 q.symm)] at hV
        exact (h0.tv u V U hV' q2).evo he (fun _ _ _ ho => ho) fun _ _ => rfl
    · obtain ⟨u, hu⟩ := List.mem_iff_getElem?.1 hU
      rcases getT u U hu with ⟨rfl, rfl⟩ | ⟨q1, q2⟩
      · exact ⟨hok.1, fun _ => rfl, fun b' hb' => by simp [T'] at hb'⟩
      · refine (h0.tok U (List.mem_of_getElem? q2)).keep (fun _ _ => rfl) fun m hm hmr hmr' => ?_
        rcases List.mem_append.1 hmr' with p | p
        · exact hmr p
        · simp at p; exact notb u U m q1 q2 hm p
    · refine nodup_blks fun i j U V m hi hj hU hV => ?_
      rcases getT i U hi with ⟨rfl, rfl⟩ | ⟨q1, q2⟩
      · simp [T'] at hU
      · rcases getT j V hj with ⟨rfl, rfl⟩ | ⟨p1, p2⟩
        · simp [T'] at hV
        · exact tk_inj h0.tokd q2 p2 hU hV
    · have hj' : (G.r ++ [b])[j]? = some c := hj
      rcases Nat.lt_or_ge j G.r.length with q | q
      · rw [List.getElem?_append_left q] at hj'
        show (s.hp.H ++ _)[j]? = _
        rw [List.getElem?_append_left (by rw [h0.len]; exact q)]
        exact (h0.imm c o ho).2 j hj'
      · exfalso
        rw [List.getElem?_append_right q] at hj'
        have := List.mem_of_getElem? hj'
        simp at this; subst this
        exact hnI o ho
  have hinv : Inv w0 B ⟨s.hp.H ++ [.cells (cs ++ List.replicate ((T.cap - T.len) * T.k) .undef)], s.hp.tk.set t (.per T.k (T.len + 1))⟩ w G' := by
    refine g0.ghost hh (g0.evo.trans he) (fun m hm => ?_) (fun m hm => ?_) fun c o ho => .inl ho
    · rcases List.mem_append.1 hm with q | q
      · exact .inl q
      · simp at q; subst q; exact .inr hnew
    · obtain ⟨U, hU, hUb⟩ := mem_blks.1 hm
      obtain ⟨u, hu⟩ := List.mem_iff_getElem?.1 hU
      rcases getT u U hu with ⟨rfl, rfl⟩ | ⟨q1, q2⟩
      · simp [T'] at hUb
      · exact .inl (mem_blks.2 ⟨U, List.mem_of_getElem? q2, hUb⟩)
  refine (h T.cap hlc).run c hc w0 B hA a w ⟨G', hinv, gb, g1, g2, by simpa [St.toSl] using g3, fun u => ?_⟩
  have := g4 u
  unfold St.slot at *
  split
  · rename_i j hj
    rw [hj] at this
    simp only at this ⊢
    by_cases e : i = j
    · subst e
      rw [hs] at this
      have hlt : i < s.env.length := by
        rcases Nat.lt_or_ge i s.env.length with q | q
        · exact q
        · simp [List.getD, List.getElem?_eq_none q] at hs
      simp only [Rel] at this
      obtain ⟨ad', cap', T1, p1, p2, p3, p4, p5⟩ := this
      rw [hT] at p3; cases p3
      obtain ⟨rfl, rfl, _⟩ := p5 rfl
      have e1 : (s.toSl i t T.k T.len T.cap (cs ++ List.replicate ((T.cap - T.len) * T.k) .undef)).env.getD i .undef = .sl s.hp.H.length T.k 0 T.len T.cap := by
        simp [St.toSl, List.getD, hlt]
      rw [e1]
      simp only [Rel]
      refine ⟨b, 0, ?_, by rw [p1, ad], fun _ => rfl⟩
      show (G.r ++ [b])[_]? = _
      rw [h0.len, List.getElem?_append_right (Nat.le_refl _)]; simp
    · have e1 : (s.toSl i t T.k T.len T.cap (cs ++ List.replicate ((T.cap - T.len) * T.k) .undef)).env.getD j .undef = s.env.getD j .undef := by
        simp [St.toSl, List.getD, List.getElem?_set, e]
      rw [e1]
      exact Rel.evo _ he this
  · simp [St.toSl, lk, Rel]
end GoV
end
section
set_option linter.unusedSimpArgs false
set_option linter.unusedVariables false
namespace GoV
open Go
theorem call_same {M : Mod} {f : FuncId} {first cap args : List D} {hp : Hp} {K R : D → Hp → Prop} (h : Eff M f (first ++ args ++ cap) hp R) (hk : ∀ d hp1, R d hp1 → K d hp1) : CallOp M (.fn (.func f) first cap :: args) hp K := by
  intro w0 B w G vs hA hi hr
  obtain ⟨fv, av, rfl, h1, h2⟩ := hr.inv
  simp only [Rel] at h1
  obtain ⟨xs, ys, rfl, h3, h4⟩ := h1
  refine .inl ⟨f, xs.toArray, ys.toArray, av, rfl, h.1, ?_⟩
  have hamb : M.amb w G.own := M.up _ _ _ _ hA.1 hi.keeps fun n hn => hi.new n hn
  have hcall := h.2 w G (xs ++ av ++ ys) hamb hi.heap ((h3.append h2).append h4)
  have e : (xs.toArray ++ av.toArray ++ ys.toArray) = (xs ++ av ++ ys).toArray := by simp
  rw [e]
  refine Calls.mono hcall fun e w' hp' => ?_
  obtain ⟨v, d, hp1, g1, rfl, hR, g3, g4⟩ := hp'
  exact ⟨v, d, hp1, g1, rfl, hk d hp1 hR, hi.join g3, g3.evo, g4⟩
mutual
def D.nn : D → D
  | .slice es o => .slice (D.nnL es) o
  | .agg cs => .agg (D.nnL cs)
  | .tup vs => .tup (D.nnL vs)
  | .lit (.slice none 0 0) => .slice [] .no
  | d => d
def D.nnL : List D → List D
  | [] => []
  | d :: ds => D.nn d :: D.nnL ds
end
mutual
theorem Rel.nn {w : World} {g : Gh} : ∀ (d : D) {x : Value}, Rel w g d x → Rel w g d.nn x
  | .slice es o, x, h => by
    simp only [D.nn]
    simp only [Rel] at h ⊢
    have hl : (D.nnL es).length = es.length := nnL_length es
    obtain ⟨a, cap, k, xs, h1, h2, h3, h4, h5, h6⟩ := h
    refine ⟨a, cap, k, xs, ?_, by rw [hl]; exact h2, RelL.nn es h3, h4, h5, by rw [hl]; exact h6⟩
    rcases h1 with h1 | ⟨h1, rfl, h8⟩
    · exact .inl (by rw [hl]; exact h1)
    · exact .inr ⟨h1, rfl, h8⟩
  | .agg cs, x, h => by
    simp only [D.nn]
    simp only [Rel] at h ⊢
    obtain ⟨xs, h1, h2, h3⟩ := h
    exact ⟨xs, h1, RelL.nn cs h2, h3⟩
  | .tup cs, x, h => by
    simp only [D.nn]
    simp only [Rel] at h ⊢
    obtain ⟨xs, h1, h2⟩ := h
    exact ⟨xs, h1, RelL.nn cs h2⟩
  | .lit v, x, h => by
    unfold D.nn
    split
    · simp_all
    · simp_all
    · simp_all
    · rename_i e
      simp only [D.lit.injEq] at e
      subst e
      simp only [Rel] at h ⊢
      obtain ⟨rfl, _⟩ := h
      exact ⟨⟨0, 0, none⟩, 0, 0, [], .inr ⟨by simp, by simp, rfl⟩, by simp, RelL.nil, by simp, At.nil, trivial⟩
    · exact h
  | .undef, x, h => h
  | .skip, x, h => h
  | .int _ _, x, h => h
  | .bool _, x, h => h
  | .str _, x, h => h
  | .iface _ _, x, h => h
  | .fn _ _ _, x, h => h
  | .ptr _ _, x, h => h
  | .ip _, x, h => h
  | .sl _ _ _ _ _, x, h => h
  | .gs _ _, x, h => h
  | .gp _ _ _, x, h => h
  | .mp _, x, h => h
theorem RelL.nn {w : World} {g : Gh} : ∀ (ds : List D) {xs : List Value}, RelL w g ds xs → RelL w g (D.nnL ds) xs
  | [], xs, h => h
  | d :: ds, xs, h => by
    obtain ⟨y, ys, rfl, h1, h2⟩ := h.inv
    exact RelL.cons (Rel.nn d h1) (RelL.nn ds h2)
theorem nnL_length : ∀ ds : List D, (D.nnL ds).length = ds.length
  | [] => rfl
  | d :: ds => by simp [D.nnL, nnL_length ds]
end
theorem eff_args {M : Mod} {f : FuncId} {args args' : List D} {hp : Hp} {R : D → Hp → Prop} (h : Eff M f args' hp R) (e : D.nnL args = args') : Eff M f args hp R :=
  ⟨h.1, fun w g xs hA hh hr => h.2 w g xs hA hh (e ▸ RelL.nn args hr)⟩
theorem pur_res {M : Mod} {f : FuncId} {args : List D} {d d' : D} (h : Pur M f args d) (e : d.nn = d') : Pur M f args d' :=
  ⟨h.1, fun w g xs hA hh hr => Calls.mono (h.2 w g xs hA hh hr) fun en w' ⟨v, d1, hp1, g1, e1, ⟨e2, e3⟩, h1, h2⟩ => ⟨v, d', hp1, g1, e1, ⟨rfl, e3⟩, h1, by subst e2; subst e; exact Rel.nn _ h2⟩⟩
theorem eff_of_pur {M : Mod} {f : FuncId} {args : List D} {d : D} {hp : Hp} (hc : D.closedL args = true) (h : Pur M f (D.erL args) d) : Eff M f args hp fun d' hp' => d' = d ∧ hp' = hp := by
  refine ⟨h.1, fun w g xs hA hh hr => ?_⟩
  have hs : SelOk hp [] [] := ⟨by simp, by simp, by simp, by simp⟩
  have hi := Inv.refl' hh
  have hall := RelL.closed _ hc hr
  have hhs := hi.heap.sel hs
  have e0 : g.sel [] [] = g.cl := rfl
  have e1 : hp.sel [] [] = ⟨[], []⟩ := rfl
  rw [e0, e1] at hhs
  have hcall := h.2 w g.cl xs (M.up _ _ _ _ hA hi.keeps fun n hn => by simp [Gh.own, Gh.cl, blks] at hn) hhs hall
  refine Calls.mono hcall fun e w' hp' => ?_
  obtain ⟨v, d', hp1, g1, rfl, ⟨rfl, rfl⟩, g3, g4⟩ := hp'
  rw [← e0] at g3
  obtain ⟨q1, q2, q3⟩ := hi.back hs g3
  have e2 : hp.back [] [] ⟨[], []⟩ = hp := by
    obtain ⟨H, tk⟩ := hp
    simp [Hp.back, putAt, Blk.rnL, Tv.rnL]
  rw [e2] at q1
  refine ⟨v, d', hp, _, rfl, ⟨rfl, rfl⟩, q1, ?_⟩
  have hg1 : g1 = (g.back [] [] g1).cl := by
    have a1 := g3.heap.len
    have a2 := g3.heap.lent
    obtain ⟨r, tk, I⟩ := g1
    have b1 : r = [] := List.eq_nil_of_length_eq_zero a1.symm
    have b2 : tk = [] := List.eq_nil_of_length_eq_zero a2.symm
    subst b1; subst b2; rfl
  have this : Rel w' (g.back [] [] g1).cl d' v := hg1 ▸ g4
  exact this.any
section
variable {P : Mod} {dst : Dst} {r : List RO} {rq : List (RO × Bool)} {K : St → Prop} {s : St} {ds : List D}
theorem o_same {f : FuncId} {first cap args : List D} {hp0 hp1 : Hp} {d : D} (h : Eff P f args hp0 fun d' hp' => d' = d ∧ hp' = hp1) (he : first ++ ds ++ cap = args) (hh : s.hp = hp0)
    (hk : opsWp P r K ({ s with hp := hp1 }.put dst d)) : OpS P .call (.fn (.func f) first cap :: ds) dst r K s := by
  unfold OpS OcWp
  simp only [isCall, if_true]
  subst he; subst hh
  exact call_same h (by rintro d' hp' ⟨rfl, rfl⟩; exact hk)
end
end GoV
end
section
set_option linter.unusedSimpArgs false
set_option linter.unusedVariables false
namespace GoV
open Go
theorem eff_cut {M : Mod} {f : FuncId} {args : List D} {hp hp1 hp2 : Hp} {d0 d1 : D} (n m : Nat) (h : Eff M f args hp fun d h => d = d0 ∧ h = hp1) (hn : hp.H.length ≤ n) (hm : hp.tk.length ≤ m)
    (ed : d0.rn (cutF n) (cutF m) = d1) (eh : hp1.cut n m = hp2) : Eff M f args hp fun d h => d = d1 ∧ h = hp2 := by
  refine ⟨h.1, fun w g xs hA hh hr => Calls.mono (h.2 w g xs hA hh hr) fun e w' ⟨v, d, hp', g', e1, ⟨e2, e3⟩, h1, h2⟩ => ?_⟩
  subst e2; subst e3
  exact ⟨v, _, _, g'.cut n m, e1, ⟨ed, eh⟩, h1.cut n m (by rw [← hh.len]; exact hn) (by rw [← hh.lent]; exact hm), Rel.rn _ (Ren.cut g' n m) h2⟩
end GoV
end
section
set_option linter.unusedSimpArgs false
set_option linter.unusedVariables false
namespace GoV
open Go
section
variable {C : Cfg} {x y : RC} {s s' : St} {i j : Nat}
theorem px_pass (hne : j ≠ i) (hx : ∀ Q : Ex → St → Prop, Q (.exit j) s' → SWp C x Q s) : ∀ Q : Ex → St → Prop, Q (.exit j) s' → SWp C (.seq (.block i x) y) Q s :=
  fun Q h => swp_seq (swp_block (hx _ (by simp only [hne, if_false]; exact h)))
theorem px_hit (hx : ∀ Q : Ex → St → Prop, Q (.exit i) s' → SWp C x Q s) : ∀ Q : Ex → St → Prop, SWp C y Q s' → SWp C (.seq (.block i x) y) Q s :=
  fun Q h => swp_seq (swp_block (hx _ (by simp only [if_true]; exact h)))
theorem px_norm (hx : ∀ Q : Ex → St → Prop, Q .normal s' → SWp C x Q s) : ∀ Q : Ex → St → Prop, SWp C y Q s' → SWp C (.seq (.block i x) y) Q s :=
  fun Q h => swp_seq (swp_block (hx _ h))
theorem px_ret {T : (St → Prop) → Prop} (hx : ∀ Q : Ex → St → Prop, T (Q .ret) → SWp C x Q s) : ∀ Q : Ex → St → Prop, T (Q .ret) → SWp C (.seq (.block i x) y) Q s :=
  fun Q h => swp_seq (swp_block (hx _ h))
theorem px_top {T : (St → Prop) → Prop} (hx : ∀ Q : Ex → St → Prop, T (Q .ret) → SWp C x Q s) : ∀ Q : Ex → St → Prop, T (Q .ret) → SWp C (.block i x) Q s :=
  fun Q h => swp_block (hx _ h)
theorem px_out (hx : ∀ Q : Ex → St → Prop, Q (.exit i) s' → SWp C x Q s) : ∀ Q : Ex → St → Prop, Q .normal s' → SWp C (.block i x) Q s :=
  fun Q h => swp_block (hx _ (by simp only [if_true]; exact h))
def RetT (C : Cfg) (y : RC) (s : St) (R : St → Prop) : Prop := SWp C y (fun e s => match e with | .ret => R s | _ => False) s
theorem ret_t (hx : ∀ Q : Ex → St → Prop, SWp C y Q s' → SWp C x Q s) : ∀ Q : Ex → St → Prop, RetT C y s' (Q .ret) → SWp C x Q s :=
  fun Q h => hx Q (swp_mono h fun e s1 hq => ⟨s1, weak_refl, by cases e <;> first | exact hq | exact hq.elim⟩)
end
end GoV
end
section
set_option linter.unusedSimpArgs false
set_option linter.unusedVariables false
set_option maxHeartbeats 1000000
namespace GoV
open Go
section
variable {P : Program} {ρ : Operand → Value} {o : Oper} {w0 : World} {g0 : Gh} {hp : Hp} {w : World} {g : Gh} {K : D → Hp → Prop}
theorem done_newG {t : TypeId} {z : List D} {tt : Nat} (hop : o.op = .alloc t) (hz : zeroDs P t = some z) (hi : Inv w0 g0 hp w g) (hpos : 0 < z.length) (hV : hp.tk[tt]? = some (.chg z.length []))
    (h : K (.gp tt 1 0) { hp with tk := hp.tk.set tt (.chg z.length z) }) : Done P ρ o w0 g0 w g K := by
  obtain ⟨i, zv, h1, h2, h3⟩ := zeroDs_spec hz
  obtain ⟨f1, f2⟩ := toDs_rel (w := w) (g := g) h3
  obtain ⟨T, hgT, ⟨hk, hcs, hn0, hIb⟩, hok⟩ := hi.heap.tokBlk hV
  have hT0 : T.len = 0 := by
    rcases Nat.eq_zero_or_pos T.len with q | q
    · exact q
    · have := Nat.mul_pos q hok.1
      simp only [List.length_nil] at hcs
      omega
  have hlen : zv.cells.toList.length = z.length := f1.length
  obtain ⟨q1, q2⟩ := hi.goTok (w' := w.alloc (.cells zv.cells.toList.toArray t (0, 0))) (T' := ⟨some w.heap.size, some ⟨w.heap.size, 0, none⟩, 1, T.k, 1⟩) (I' := g.I) (V' := .chg z.length z) hgT rfl (.inr (by simp only [hT0]; omega))
    (fun n hlt _ => heap_alloc_lt w _ n hlt) (by simp) rfl rfl rfl (fun n hn => by simp at hn; subst hn; exact .inr (Nat.le_refl _)) (fun c o ho => ⟨ho, cell_of_heap (heap_alloc_lt w _ c (hi.heap.imm c o ho).1)⟩) (fun c o ho => .inl ho)
    ⟨hok.1, by simp, fun c hc => by simp at hc; subst hc; exact ⟨rfl, fun hm => by have := hi.heap.lt _ hm; omega, Nat.le_refl _, _, t, heap_alloc_at w _, by rw [List.size_toArray, hlen, ← hk]; simp, by simpa using f2⟩⟩
    (fun he => ⟨hk, by simp only [hk]; omega, by simp, fun c hc => by
      simp at hc; subst hc
      refine ⟨fun o ho => ?_, _, t, heap_alloc_at w _, ?_⟩
      · have := (hi.heap.imm _ o ho).1; omega
      · have e : (zv.cells.toList.toArray.toList.take (1 * T.k)) = zv.cells.toList := by
          rw [List.toList_toArray, Nat.one_mul, ← hk, ← hlen, List.take_length]
        rw [e]
        exact RelL.evo _ he f1.any⟩)
  refine ⟨_, _, _, .pointer (some ⟨w.heap.size, 0, none⟩), _, h, q1, q2, ?_, .inl ?_⟩
  · simp only [Rel]
    exact ⟨_, _, rfl, set_get hgT, Nat.le_refl _, fun _ => ⟨_, rfl, rfl⟩⟩
  · simp [execOp, hop, Instr.alloc, zeroValue, typeInfo, h1, h2, newVar, newRow]
end
theorem resolve_newb {P : Program} {op : Op} {z : List D} {xs : List Operand} (h : resolveOp P op = some (.newb z, xs)) : ∃ t, op = .alloc t ∧ zeroDs P t = some z := by
  cases op <;> simp only [resolveOp] at h <;> try (cases h; done)
  case alloc t =>
    cases hz : zeroDs P t with
    | none => simp [hz] at h
    | some z' =>
      simp only [hz, Option.map_some, Option.some.injEq, Prod.mk.injEq] at h
      obtain ⟨h, _⟩ := h
      split at h
      · cases h
      · cases h; exact ⟨t, rfl, hz⟩
  all_goals exfalso
  case convert => simp only [Option.map_eq_some_iff, Prod.mk.injEq] at h; obtain ⟨oc, h1, rfl, _⟩ := h; unfold resCv at h1; (repeat' split at h1) <;> simp at h1
  case buildSlice => simp only [Option.map_eq_some_iff, Prod.mk.injEq] at h; obtain ⟨oc, h1, rfl, _⟩ := h; unfold resBsl at h1; (repeat' split at h1) <;> simp at h1
  case makeSlice => simp only [Option.map_eq_some_iff, Prod.mk.injEq] at h; obtain ⟨oc, h1, rfl, _⟩ := h; unfold resMks at h1; (repeat' split at h1) <;> simp at h1
  case slice =>
    split at h
    · simp only [Option.map_eq_some_iff, Prod.mk.injEq] at h; obtain ⟨oc, h1, rfl, _⟩ := h; unfold resSlc at h1; (repeat' split at h1) <;> simp at h1
    · split at h
      · simp only [Option.map_eq_some_iff, Prod.mk.injEq] at h; obtain ⟨oc, h1, h2, _⟩ := h; cases h2
      · cases h
  case call c =>
    simp only [resCall] at h
    cases hc : c.callee with
    | value g => simp [hc] at h
    | invoke r m => simp [hc] at h
    | builtin b =>
      cases b <;> simp only [hc] at h <;> try (cases h; done)
      all_goals (repeat' split at h) <;> simp_all
  all_goals try unfold resBin at h
  all_goals (repeat' split at h) <;> simp_all
def Fill (oc : OC) (ds : List D) (hp hp1 : Hp) (d : D) : Prop :=
  ∃ z t, oc = .newb z ∧ ds = [] ∧ 0 < z.length ∧ hp.tk[t]? = some (.chg z.length []) ∧ d = .gp t 1 0 ∧ hp1 = { hp with tk := hp.tk.set t (.chg z.length z) }
def OcG (M : Mod) (oc : OC) (ds : List D) (hp hp1 : Hp) (d : D) : Prop := OcWp M oc ds hp (fun d' hp' => d' = d ∧ hp' = hp1) ∨ Fill oc ds hp hp1 d
def StepG (C : Cfg) (ops : Array Oper) (hp hp1 : Hp) (σ : Nat → D) (o : Oper) (d : D) : Prop :=
  ∃ oc xs, resolveOp C.P o.op = some (oc, xs) ∧ (∃ ys, resOs C xs = some ys) ∧ (∃ ds, resDst C o.dst = some ds) ∧
    ((o.guard = none ∧ OcG C.M oc (xs.map (evO σ)) hp hp1 d) ∨
     ∃ j want t, o.guard = some (j, want) ∧ (ops[j]?).bind (·.dst) = some t ∧ t < C.nt ∧
      ((σ t = .bool want ∧ OcG C.M oc (xs.map (evO σ)) hp hp1 d) ∨ (σ t = .bool (!want) ∧ d = .skip ∧ hp1 = hp) ∨ (σ t = .skip ∧ d = .skip ∧ hp1 = hp)))
section
variable {C : Cfg} {w0 : World} {B : Gh}
theorem StepG.congr {ops : Array Oper} {hp hp1 : Hp} {σ σ' : Nat → D} {o : Oper} {d : D} (h : StepG C ops hp hp1 σ o d) (hs : ∀ t ∈ o.looksAt ops, σ t = σ' t) : StepG C ops hp hp1 σ' o d := by
  obtain ⟨oc, xs, h1, h2, h3, h4⟩ := h
  have hm : xs.map (evO σ) = xs.map (evO σ') := by
    refine List.map_congr_left fun x hx => ?_
    have := resolve_sub h1 x hx
    cases x with
    | tmp t =>
      refine hs t ?_
      simp only [Oper.looksAt, List.mem_append, List.mem_filterMap]
      exact .inl ⟨.tmp t, by simpa using this, rfl⟩
    | _ => rfl
  refine ⟨oc, xs, h1, h2, h3, ?_⟩
  rw [← hm]
  rcases h4 with h4 | ⟨j, want, t, g1, g2, g3, g4⟩
  · exact .inl h4
  · refine .inr ⟨j, want, t, g1, g2, g3, ?_⟩
    rw [← hs t (by simp [Oper.looksAt, g1, g2])]
    exact g4
theorem StepG.sound {ro : Option Nat} (hA : C.M.start w0 B) {ops : Array Oper} {hp hp1 : Hp} {σ : Nat → D} {o : Oper} {d : D} {Q : Exit → Act → World → Prop} {next : Act → World → Prop} (h : StepG C ops hp hp1 σ o d) {a : Act} {w : World} (hs : SimF C w0 B σ hp a w)
    (ih : ∀ a w, SimF C w0 B (updO σ o.dst d) hp1 a w → next a w) :
    if Region.wanted o (yielded ops a.tmps) then o.wpIn (FR ro) 0 C.P a w next Q else (∀ f, o.about C.P w a.eval = some f → (FR ro).fn f) ∧ next (a.put o.dst Go.undef) w := by
  obtain ⟨oc, xs, h1, ⟨ys, h2⟩, ⟨ds, h3⟩, h4⟩ := h
  obtain ⟨G, hi, gb, g1, g2, g4⟩ := hs
  have run : OcG C.M oc (xs.map (evO σ)) hp hp1 d → o.wpIn (FR ro) 0 C.P a w next Q := by
    rintro (hoc | ⟨z, t, rfl, _, hpos, hV, rfl, rfl⟩)
    · refine OcWp_sound h1 hA hi (rel_evO g4 h2) hoc ?_
      rintro d' hp' G' v w' ⟨rfl, rfl⟩ k2 k3 k4
      refine ih _ _ ⟨G', k2, gb, by rw [actput_size]; exact g1, by rw [actput_def]; exact g2, ?_⟩
      exact updO_rel (fun t => Rel.evo _ k3 (g4 t)) g1 h3 k4
    · obtain ⟨ty, hop, hz⟩ := resolve_newb h1
      obtain ⟨d', hp', G', v, w', ⟨rfl, rfl⟩, k2, k3, k4, k5⟩ := done_newG (ρ := a.eval) (o := o) (K := fun d' hp' => d' = .gp t 1 0 ∧ hp' = { hp with tk := hp.tk.set t (.chg z.length z) }) hop hz hi hpos hV ⟨rfl, rfl⟩
      have hnd : ∀ c, o.op ≠ .defer c := by
        intro c hc
        rw [hop] at hc; cases hc
      unfold Oper.wpIn
      rw [Oper.semAt_eq _ _ _ hnd]
      refine ⟨fun _ _ => trivial, ?_⟩
      have fin : next (a.put o.dst v) w' := ih _ _ ⟨G', k2, gb, by rw [actput_size]; exact g1, by rw [actput_def]; exact g2, updO_rel (fun t => Rel.evo _ k3 (g4 t)) g1 h3 k4⟩
      rcases k5 with k5 | ⟨k5, rfl⟩ <;> rw [k5] <;> exact fin
  have skp : d = .skip ∧ hp1 = hp → next (a.put o.dst Go.undef) w := by
    rintro ⟨rfl, rfl⟩
    refine ih _ _ ⟨G, hi, gb, by rw [actput_size]; exact g1, by rw [actput_def]; exact g2, ?_⟩
    exact updO_rel g4 g1 h3 (by simp [Rel])
  rcases h4 with ⟨hog, h4⟩ | ⟨j, want, t, hog, hj, htn, h4⟩
  · simp only [Region.wanted, hog, if_true]; exact run h4
  · have hlt : t < a.tmps.size := g1.symm ▸ htn
    have hy : yielded ops a.tmps j = match a.tmps.getD t Go.undef with | .bool b => some b | _ => none := by
      simp [yielded, hj, Array.getD_eq_getD_getElem?, hlt]
      cases a.tmps[t] <;> rfl
    have hrel := g4 t
    rcases h4 with ⟨e, h4⟩ | ⟨e, h4⟩ | ⟨e, h4⟩
    · rw [e] at hrel; simp only [Rel] at hrel
      have : Region.wanted o (yielded ops a.tmps) = true := by
        simp only [Region.wanted, hog]; rw [hy, hrel]; cases want <;> rfl
      rw [this]; simp only [if_true]; exact run h4
    · rw [e] at hrel; simp only [Rel] at hrel
      have : Region.wanted o (yielded ops a.tmps) = false := by
        simp only [Region.wanted, hog]; rw [hy, hrel]; cases want <;> rfl
      rw [this]; simp only [Bool.false_eq_true, if_false]; exact ⟨fun _ _ => trivial, skp h4⟩
    · rw [e] at hrel; simp only [Rel] at hrel
      have : Region.wanted o (yielded ops a.tmps) = false := by
        simp only [Region.wanted, hog]; rw [hy, hrel]; cases want <;> rfl
      rw [this]; simp only [Bool.false_eq_true, if_false]; exact ⟨fun _ _ => trivial, skp h4⟩
def depB (a b : RO) : Bool := match a.dst with
  | .var n => b.args.any fun x => match x with | .var k => k == n | _ => false
  | .loc n => b.args.any fun x => match x with | .loc k => k == n | _ => false
  | .none => false
theorem resOs_mem {C : Cfg} : ∀ {xs : List Operand} {ys : List Opd}, resOs C xs = some ys → ∀ y ∈ ys, ∃ x ∈ xs, resO C x = some y
  | [], ys, h, y, hy => by simp [resOs] at h; subst h; simp at hy
  | x :: xs, ys, h, y, hy => by
    simp only [resOs] at h
    split at h
    · rename_i y' ys' h1 h2
      simp only [Option.some.injEq] at h
      subst h
      rcases List.mem_cons.1 hy with rfl | hy
      · exact ⟨x, by simp, h1⟩
      · obtain ⟨x', q1, q2⟩ := resOs_mem h2 y hy
        exact ⟨x', by simp [q1], q2⟩
    · cases h
theorem resO_var {C : Cfg} {x : Operand} {n : Nat} (h : resO C x = some (.var n)) : ∃ t, x = .tmp t ∧ idx t C.pers = some n := by
  cases x with
  | tmp t =>
    have := (resO_tmp h).1
    cases hi : idx t C.pers with
    | some i => rw [hi] at this; simp at this; subst this; exact ⟨t, rfl, hi⟩
    | none => rw [hi] at this; simp at this
  | _ => exfalso; simp only [resO] at h; (repeat' split at h) <;> simp_all
theorem resO_loc {C : Cfg} {x : Operand} {n : Nat} (h : resO C x = some (.loc n)) : x = .tmp n ∧ idx n C.pers = none := by
  cases x with
  | tmp t =>
    have := (resO_tmp h).1
    cases hi : idx t C.pers with
    | some i => rw [hi] at this; simp at this
    | none => rw [hi] at this; simp at this; subst this; exact ⟨rfl, hi⟩
  | _ => exfalso; simp only [resO] at h; (repeat' split at h) <;> simp_all
theorem resOp1_inv {C : Cfg} {ops : Array Oper} {o : Oper} {x : RO} (h : resOp1 C ops o = some x) : ∃ xs, resolveOp C.P o.op = some (x.oc, xs) ∧ resOs C xs = some x.args ∧ resDst C o.dst = some x.dst := by
  unfold resOp1 at h
  split at h
  · rename_i oc xs h1
    split at h
    · rename_i args dst guard h2 h3 h4
      simp only [Option.some.injEq] at h
      subst h
      exact ⟨xs, h1, h2, h3⟩
    · cases h
  · cases h
theorem resDst_var {C : Cfg} {o : Option Nat} {n : Nat} (h : resDst C o = some (.var n)) : ∃ t, o = some t ∧ idx t C.pers = some n := by
  cases o with
  | none => simp [resDst] at h
  | some t =>
    simp only [resDst] at h
    split at h
    · cases hi : idx t C.pers with
      | some i => rw [hi] at h; simp at h; subst h; exact ⟨t, rfl, hi⟩
      | none => rw [hi] at h; simp at h
    · cases h
theorem resDst_loc {C : Cfg} {o : Option Nat} {n : Nat} (h : resDst C o = some (.loc n)) : o = some n := by
  cases o with
  | none => simp [resDst] at h
  | some t =>
    simp only [resDst] at h
    split at h
    · cases hi : idx t C.pers with
      | some i => rw [hi] at h; simp at h
      | none => rw [hi] at h; simp at h; subst h; rfl
    · cases h
theorem depB_op {C : Cfg} {ops : Array Oper} {oi oj : Oper} {a b : RO} (h1 : resOp1 C ops oi = some a) (h2 : resOp1 C ops oj = some b) (h : depB a b = true) : ∃ t, oi.dst = some t ∧ t ∈ namesOf ops oj := by
  obtain ⟨xi, _, _, e1⟩ := resOp1_inv h1
  obtain ⟨xj, q1, q2, _⟩ := resOp1_inv h2
  have mem : ∀ t, Operand.tmp t ∈ xj → t ∈ namesOf ops oj := fun t ht => by
    have := resolve_sub q1 _ ht
    simp only [namesOf, Oper.looksAt, List.mem_append, List.mem_filterMap]
    exact .inr (.inl ⟨.tmp t, by simpa using this, rfl⟩)
  unfold depB at h
  split at h
  · rename_i n e
    rw [e] at e1
    obtain ⟨t, f1, f2⟩ := resDst_var e1
    obtain ⟨y, hy, h⟩ := List.any_eq_true.1 h
    split at h
    · rename_i k
      simp only [beq_iff_eq] at h
      subst h
      obtain ⟨x, hx, f3⟩ := resOs_mem q2 _ hy
      obtain ⟨t', rfl, f4⟩ := resO_var f3
      have e2 := idx_some f2; have e3 := idx_some f4
      rw [e2] at e3; cases e3
      exact ⟨t, f1, mem t hx⟩
    · cases h
  · rename_i n e
    rw [e] at e1
    have f1 := resDst_loc e1
    obtain ⟨y, hy, h⟩ := List.any_eq_true.1 h
    split at h
    · rename_i k
      simp only [beq_iff_eq] at h
      subst h
      obtain ⟨x, hx, f3⟩ := resOs_mem q2 _ hy
      obtain ⟨rfl, _⟩ := resO_loc f3
      exact ⟨_, f1, mem _ hx⟩
    · cases h
  · cases h
def Lg (L : List (Nat × Nat)) (E : Nat → Bool) : Prop := ∀ p ∈ L, E p.2 = true → E p.1 = true
def Rdy (L : List (Nat × Nat)) (i : Nat) (E : Nat → Bool) : Prop := ∀ p ∈ L, p.2 = i → E p.1 = true
theorem draw_soundG {ro : Option Nat} (hA : C.M.start w0 B) {ops : Array Oper} {m : Nat} {ros : List RO} {K : St → Prop} {Q : Exit → Act → World → Prop} (hB : drawOk ops m = true) (hm : m ≤ ops.size) (hr : resOps C ops (List.range' 0 ops.size) = some ros)
    (hQ : ∀ s a w, K s → Sim C w0 B s a w → Q .normal a w) {s : St} (_hl : s.env.length = C.pers.length)
    {ds : Nat → D} {F : (Nat → Bool) → Hp} {s1 : St} (hk1 : opsWp C.M (ros.drop m) K s1) (hpm : F (fun j => decide (j < m)) = s1.hp) (hl1 : s1.env.length = C.pers.length)
    {L : List (Nat × Nat)} (hDp : ∀ p ∈ L, p.1 < p.2 ∧ p.2 < m ∧ ∃ oi oj t, ops[p.1]? = some oi ∧ ops[p.2]? = some oj ∧ oi.dst = some t ∧ t ∈ namesOf ops oj)
    (hst : ∀ i, i < m → ∃ o, ops[i]? = some o ∧ ∀ E : Nat → Bool, E i = false → Lg L E → Rdy L i E → StepG C ops (F E) (F (fun j => E j || j == i)) (sig ops (s.slot C.pers) ds (fun _ => true) i) o (ds i))
    (hend : sig ops (s.slot C.pers) ds (fun _ => true) m = s1.slot C.pers) :
    ∀ (fuel : Nat) (listed : Array Bool) (a : Act) (w : World), listed.size = ops.size → unl listed.toList ≤ fuel →
      (∀ j oj, ops[j]? = some oj → listed.getD j false = true → ∀ e ∈ oj.after, Region.binds .any e = true → listed.getD e.on false = true) →
      (((∀ j, listed.getD j false = true → j < m) ∧ SimF C w0 B (sig ops (s.slot C.pers) ds (fun j => listed.getD j false) m) (F (fun j => listed.getD j false)) a w) ∨
        ∃ i s', m ≤ i ∧ (∀ j, j < ops.size → (listed.getD j false = true ↔ j < i)) ∧ Sim C w0 B s' a w ∧ opsWp C.M (ros.drop i) K s') →
      wpAnyIn (FR ro) 0 C.P .any ops Q fuel listed a w := by
  have hros : ros.length = ops.size := by rw [resOps_length _ _ hr]; simp
  have hsub : ∀ (listed : Array Bool), (∀ j oj, ops[j]? = some oj → listed.getD j false = true → ∀ e ∈ oj.after, Region.binds .any e = true → listed.getD e.on false = true) →
      ∀ j oj, ops[j]? = some oj → (∀ e ∈ oj.after, Region.binds .any e = true → listed.getD e.on false = true) → ∀ i ∈ (befores ops.toList).getD j [], listed.getD i false = true := by
    intro listed hcl j
    induction j using Nat.strongRecOn with
    | _ j ih =>
      intro oj hj ha i hi
      obtain ⟨e, he, hbd, h1⟩ := mem_befores (by simpa using hj) hi
      rcases h1 with h1 | h1
      · rw [h1]; exact ha e he hbd
      · have hlt := (drawOk_spec hB hj).1 e he hbd
        have hjs : j < ops.size := (Array.getElem?_eq_some_iff.1 hj).1
        have hoe : ops[e.on]? = some ops[e.on] := Array.getElem?_eq_getElem (by omega)
        exact ih e.on hlt _ hoe (hcl e.on _ hoe (ha e he hbd)) i h1
  have hbefL : ∀ p ∈ L, p.1 ∈ (befores ops.toList).getD p.2 [] := fun p hp => by
    obtain ⟨q0, q1, oi, oj, t, q2, q3, q4, q5⟩ := hDp p hp
    obtain ⟨oi', h1, h2⟩ := (drawOk_spec hB q3).2 p.1 q0
    rw [q2] at h1; cases h1
    rcases h2 with h2 | h2
    · exact h2
    · exact absurd q5 ((clash_spec h2.2).1 t q4)
  have conv : ∀ (listed : Array Bool) (a : Act) (w : World), (∀ j, listed.getD j false = true → j < m) → (∀ j, j < m → listed.getD j false = true) →
      SimF C w0 B (sig ops (s.slot C.pers) ds (fun j => listed.getD j false) m) (F (fun j => listed.getD j false)) a w → Sim C w0 B s1 a w := by
    intro listed a w h1 h2 hs
    have e : sig ops (s.slot C.pers) ds (fun j => listed.getD j false) m = s1.slot C.pers := by
      rw [← hend]; funext t
      exact sig_agree m fun j hj _ => h2 j hj
    obtain ⟨G, g1, gb, g2, g3, g4⟩ := hs
    have ef : (fun j => listed.getD j false) = (fun j => decide (j < m)) := by
      funext j
      by_cases q : j < m
      · rw [h2 j q, decide_eq_true q]
      · rw [decide_eq_false q]
        cases hb : listed.getD j false with
        | false => rfl
        | true => exact absurd (h1 j hb) q
    rw [ef] at g1
    exact ⟨G, by rw [← hpm]; exact g1, gb, g2, g3, hl1, by rw [← e]; exact g4⟩
  have fin : ∀ (listed : Array Bool) (a : Act) (w : World), (∀ j, j < ops.size → listed.getD j false = true) →
      (((∀ j, listed.getD j false = true → j < m) ∧ SimF C w0 B (sig ops (s.slot C.pers) ds (fun j => listed.getD j false) m) (F (fun j => listed.getD j false)) a w) ∨
        ∃ i s', m ≤ i ∧ (∀ j, j < ops.size → (listed.getD j false = true ↔ j < i)) ∧ Sim C w0 B s' a w ∧ opsWp C.M (ros.drop i) K s') → Q .normal a w := by
    intro listed a w hall h
    rcases h with ⟨h1, h2⟩ | ⟨i, s', h1, h2, h3, h4⟩
    · have hs1 := conv listed a w h1 (fun j hj => hall j (by omega)) h2
      have hmn : ops.size ≤ m := by
        rcases Nat.eq_zero_or_pos ops.size with g | g
        · omega
        · have := h1 (ops.size - 1) (hall _ (by omega)); omega
      rw [List.drop_eq_nil_of_le (by omega)] at hk1
      exact hQ s1 a w hk1 hs1
    · have hin : ops.size ≤ i := by
        rcases Nat.eq_zero_or_pos ops.size with g | g
        · omega
        · have := (h2 (ops.size - 1) (by omega)).1 (hall _ (by omega)); omega
      rw [List.drop_eq_nil_of_le (by omega)] at h4
      exact hQ s' a w h4 h3
  have least : ∀ (listed : Array Bool), listed.size = ops.size → (∀ j oj, ops[j]? = some oj → listed.getD j false = true → ∀ e ∈ oj.after, Region.binds .any e = true → listed.getD e.on false = true) →
      Region.ready .any ops listed = [] → ∀ j, j < ops.size → listed.getD j false = true := by
    intro listed hsz hcl hr0 j
    induction j using Nat.strongRecOn with
    | _ j ih =>
      intro hj
      cases hb : listed.getD j false with
      | true => rfl
      | false =>
        exfalso
        have hoj : ops[j]? = some ops[j] := Array.getElem?_eq_getElem hj
        have : j ∈ Region.ready .any ops listed := by
          rw [mem_ready]
          refine ⟨?_, ops[j], hoj, fun e he hbd => ?_⟩
          · have hlt : j < listed.size := by omega
            simp [hlt] at hb ⊢; exact hb
          · have := (drawOk_spec hB hoj).1 e he hbd
            exact ih e.on this (by omega)
        rw [hr0] at this; cases this
  intro fuel
  induction fuel with
  | zero =>
    intro listed a w hsz hu hcl h
    have hall : ∀ j, j < ops.size → listed.getD j false = true := by
      intro j hj
      have hlt : j < listed.size := by omega
      have := unl_zero listed.toList (by omega) j (by simpa using hlt)
      simp [hlt] at this ⊢; exact this
    refine ⟨?_, fin listed a w hall h⟩
    cases hr0 : Region.ready .any ops listed with
    | nil => rfl
    | cons i l =>
      have : i ∈ Region.ready .any ops listed := by rw [hr0]; simp
      obtain ⟨h1, o, ho, _⟩ := mem_ready.1 this
      have hlt : i < ops.size := (Array.getElem?_eq_some_iff.1 ho).1
      have h2 := hall i hlt
      have hlt2 : i < listed.size := by omega
      simp [hlt2] at h1 h2; rw [h1] at h2; cases h2
  | succ fuel ih =>
    intro listed a w hsz hu hcl h
    refine ⟨fun hr0 => fin listed a w (least listed hsz hcl hr0) h, fun i hi => ?_⟩
    obtain ⟨hun, o, ho, hdeps⟩ := mem_ready.1 hi
    have hlt : i < ops.size := (Array.getElem?_eq_some_iff.1 ho).1
    have hlt2 : i < listed.size := by omega
    have hunf : listed.getD i false = false := by simp [hlt2] at hun ⊢; exact hun
    have hdeps' : ∀ e ∈ o.after, Region.binds .any e = true → listed.getD e.on false = true := hdeps
    have hbef := hsub listed hcl i o ho hdeps'
    have hcl' : ∀ j oj, ops[j]? = some oj → (listed.setIfInBounds i true).getD j false = true → ∀ e ∈ oj.after, Region.binds .any e = true → (listed.setIfInBounds i true).getD e.on false = true := by
      intro j oj hj hlj e he hbd
      rw [listed_set hlt2] at hlj ⊢
      simp only [Bool.or_eq_true, beq_iff_eq] at hlj ⊢
      rcases hlj with g | g
      · exact .inl (hcl j oj hj g e he hbd)
      · subst g
        rw [ho] at hj; cases hj
        exact .inl (hdeps' e he hbd)
    have hu' : unl (listed.setIfInBounds i true).toList ≤ fuel := by
      have := unl_set listed.toList i (by simp [hlt2] at hunf ⊢; exact hunf)
      simp only [Array.toList_setIfInBounds]; omega
    have hafter : m ≤ i → ∀ j, j < ops.size → (listed.getD j false = true ↔ j < i) := by
      intro hmi j hj
      constructor
      · intro hlj
        rcases Nat.lt_trichotomy j i with g | g | g
        · exact g
        · subst g; rw [hunf] at hlj; cases hlj
        · exfalso
          have hoj : ops[j]? = some ops[j] := Array.getElem?_eq_getElem hj
          obtain ⟨oi, hoi, q⟩ := (drawOk_spec hB hoj).2 i g
          rcases q with q | q
          · have := hsub listed hcl j _ hoj (hcl j _ hoj hlj) i q
            rw [hunf] at this; cases this
          · omega
      · intro hji
        obtain ⟨oi, hoi, q⟩ := (drawOk_spec hB ho).2 j hji
        rcases q with q | q
        · exact hbef j q
        · omega
    unfold wpOpIn
    rw [ho]
    by_cases him : i < m
    · 
      rcases h with ⟨h1, h2⟩ | ⟨i', s', h1, h2, h3, h4⟩
      · obtain ⟨o', ho', hq⟩ := hst i him
        rw [ho] at ho'; cases ho'
        have ords : ∀ j, j < m → j ≠ i → ∀ t, t ∈ namesOf ops o → dstO ops j = some t → (listed.getD j false = true ↔ j < i) := by
          intro j hj hji t ht hd
          have hjs : j < ops.size := by omega
          have hoj : ops[j]? = some ops[j] := Array.getElem?_eq_getElem hjs
          have hdj : ops[j].dst = some t := by simpa [dstO, hoj] using hd
          constructor
          · intro hlj
            rcases Nat.lt_or_ge j i with g | g
            · exact g
            · exfalso
              obtain ⟨oi, hoi, q⟩ := (drawOk_spec hB hoj).2 i (by omega)
              rw [ho] at hoi; cases hoi
              rcases q with q | q
              · have := hsub listed hcl j _ hoj (hcl j _ hoj hlj) i q
                rw [hunf] at this; cases this
              · exact (clash_spec q.2).2 t hdj ht
          · intro g
            obtain ⟨oi, hoi, q⟩ := (drawOk_spec hB ho).2 j g
            rw [hoj] at hoi; cases hoi
            rcases q with q | q
            · exact hbef j q
            · exact absurd ht ((clash_spec q.2).1 t hdj)
        have hlook : ∀ t ∈ o.looksAt ops, sig ops (s.slot C.pers) ds (fun _ => true) i t = sig ops (s.slot C.pers) ds (fun j => listed.getD j false) m t := by
          intro t ht
          have ht' : t ∈ namesOf ops o := by simp [namesOf, ht]
          have e1 : sig ops (s.slot C.pers) ds (fun j => listed.getD j false) m t = sig ops (s.slot C.pers) ds (fun j => listed.getD j false) i t := by
            refine sig_skip m (by omega) fun j g1 g2 g3 hd => ?_
            by_cases hji : j = i
            · subst hji; rw [hunf] at g3; cases g3
            · have := (ords j g2 hji t ht' hd).1 g3; omega
          rw [e1]
          exact sig_agree i fun j hj hd => ((ords j (by omega) (by omega) t ht' hd).2 hj).symm
        obtain ⟨o', x, r1, r2, r3⟩ := resOps_drop _ _ i ros hr hlt
        rw [Nat.zero_add, ho] at r1; cases r1
        have hx : ros[i]? = some x := by
          have := List.getElem?_drop (xs := ros) (i := i) (j := 0)
          rw [r3] at this; simpa using this.symm
        have hL : ∀ j, (listed.setIfInBounds i true).getD j false = (listed.getD j false || j == i) := fun j => listed_set hlt2
        have hstep : StepG C ops (F (fun j => listed.getD j false)) (F (fun j => (listed.setIfInBounds i true).getD j false)) (sig ops (s.slot C.pers) ds (fun _ => true) i) o (ds i) := by
          have e : (fun j => (listed.setIfInBounds i true).getD j false) = fun j => listed.getD j false || j == i := funext hL
          rw [e]
          refine hq _ hunf (fun p hp h2 => ?_) (fun p hp e2 => ?_)
          · obtain ⟨_, _, oi, oj, t, _, q2, _, _⟩ := hDp p hp
            exact hsub listed hcl p.2 _ q2 (hcl p.2 _ q2 h2) p.1 (hbefL p hp)
          · exact hbef p.1 (e2 ▸ hbefL p hp)
        refine StepG.sound hA (hstep.congr hlook) h2 fun a' w' hs' => ih _ a' w' (by simpa using hsz) hu' hcl' (.inl ⟨fun j hj => ?_, ?_⟩)
        · rw [listed_set hlt2] at hj
          simp only [Bool.or_eq_true, beq_iff_eq] at hj
          rcases hj with g | g
          · exact h1 j g
          · omega
        · have e2 : sig ops (s.slot C.pers) ds (fun j => (listed.setIfInBounds i true).getD j false) m = updO (sig ops (s.slot C.pers) ds (fun j => listed.getD j false) m) (dstO ops i) (ds i) := by
            rw [← sig_set him hunf]
            · congr 1; funext j; exact listed_set hlt2
            · intro j t g1 g2 g3 g4 g5
              cases hb : listed.getD j false with
              | false => rfl
              | true =>
                have hoi : o.dst = some t := by simpa [dstO, ho] using g3
                have := (ords j g1 g2 t (by simp [namesOf, hoi]) g4).1 hb
                omega
          rw [e2]
          have : dstO ops i = o.dst := by simp [dstO, ho]
          rw [this]; exact hs'
      · exfalso
        have := (h2 i hlt).2 (by omega)
        rw [hunf] at this; cases this
    · 
      have hmi : m ≤ i := by omega
      have hiff := hafter hmi
      obtain ⟨s', hs', hk'⟩ : ∃ s', Sim C w0 B s' a w ∧ opsWp C.M (ros.drop i) K s' := by
        rcases h with ⟨h1, h2⟩ | ⟨i', s', h1, h2, h3, h4⟩
        · have hie : i = m := by
            rcases Nat.lt_or_ge m i with g | g
            · have := h1 m ((hiff m (by omega)).2 g); omega
            · omega
          subst hie
          exact ⟨s1, conv listed a w h1 (fun j hj => (hiff j (by omega)).2 hj) h2, hk1⟩
        · have hie : i' = i := by
            rcases Nat.lt_trichotomy i' i with g | g | g
            · have q1 := (hiff i' (by omega)).2 g
              have := (h2 i' (by omega)).1 q1; omega
            · exact g
            · have := (h2 i hlt).2 g; rw [hunf] at this; cases this
          subst hie
          exact ⟨s', h3, h4⟩
      obtain ⟨o', x, g1, g2, g3⟩ := resOps_drop _ _ i ros hr hlt
      rw [Nat.zero_add, ho] at g1; cases g1
      rw [g3] at hk'
      refine head_sound hA g2 (K := opsWp C.M (ros.drop (i + 1)) K) (fun s'' a' w' q1 q2 => ih _ a' w' (by simpa using hsz) hu' hcl' (.inr ⟨i + 1, s'', by omega, fun j hj => ?_, q2, q1⟩)) hk' hs'
      rw [listed_set hlt2]
      simp only [Bool.or_eq_true, beq_iff_eq]
      have := hiff j hj
      constructor
      · rintro (q | q)
        · have := this.1 q; omega
        · omega
      · intro q
        by_cases e : j = i
        · exact .inr e
        · exact .inl (this.2 (by omega))
def AnyG (M : Mod) (F : (Nat → Bool) → Hp) (L : List (Nat × Nat)) (i : Nat) (oc : OC) (ds : List D) (d : D) : Prop := ∀ E : Nat → Bool, E i = false → Lg L E → Rdy L i E → OcG M oc ds (F E) (F (fun j => E j || j == i)) d
def headG (M : Mod) (F : (Nat → Bool) → Hp) (L : List (Nat × Nat)) (i : Nat) (o : RO) (K : St → Prop) (s : St) : Prop :=
  match o.guard with
  | none => ∃ d, AnyG M F L i o.oc (o.args.map s.get) d ∧ K (s.put o.dst d)
  | some (g, want) =>
    match s.get g with
    | .bool b => (b = want → ∃ d, AnyG M F L i o.oc (o.args.map (s.setO g (.bool want)).get) d ∧ K ((s.setO g (.bool want)).put o.dst d)) ∧
        (b = (!want) → Still F i ∧ K ((s.setO g (.bool (!want))).put o.dst .skip))
    | .skip => Still F i ∧ K (s.put o.dst .skip)
    | _ => False
def opsG (M : Mod) (F : (Nat → Bool) → Hp) (L : List (Nat × Nat)) : Nat → List (RO × Bool) → (St → Prop) → St → Prop
  | j, [], K, s => K { s with hp := F (fun k => decide (k < j)) }
  | i, (o, _) :: r, K, s => headG M F L i o (opsG M F L (i + 1) r K) s
theorem headG_step {ops : Array Oper} {o : Oper} {x : RO} {K : St → Prop} {s : St} (h1 : resOp1 C ops o = some x) (hl : s.env.length = C.pers.length) {F : (Nat → Bool) → Hp} {L : List (Nat × Nat)} {i : Nat} (h : headG C.M F L i x K s) :
    ∃ d s1, K s1 ∧ s1.hp = s.hp ∧ s1.env.length = C.pers.length ∧ (∀ E : Nat → Bool, E i = false → Lg L E → Rdy L i E → StepG C ops (F E) (F (fun j => E j || j == i)) (s.slot C.pers) o d) ∧ s1.slot C.pers = updO (s.slot C.pers) o.dst d := by
  unfold resOp1 at h1
  cases hres : resolveOp C.P o.op with
  | none => simp [hres] at h1
  | some p =>
    obtain ⟨oc, ys⟩ := p
    cases ha : resOs C ys with
    | none => simp [hres, ha] at h1
    | some args =>
      cases hd : resDst C o.dst with
      | none => simp [hres, ha, hd] at h1
      | some dst =>
        cases hg : resGuard C ops o.guard with
        | none => simp [hres, ha, hd, hg] at h1
        | some guard =>
          simp [hres, ha, hd, hg] at h1; subst h1
          cases hog : o.guard with
          | none =>
            simp [hog, resGuard] at hg; subst hg
            simp only [headG] at h
            obtain ⟨d, h2, h3⟩ := h
            rw [map_evO ha] at h2
            exact ⟨d, _, h3, put_hp _ _ _, by rw [put_env_len]; exact hl, fun E hE hG hR => ⟨oc, ys, hres, ⟨_, ha⟩, ⟨_, hd⟩, .inl ⟨hog, h2 E hE hG hR⟩⟩, put_slot hd hl _⟩
          | some p =>
            obtain ⟨j, want⟩ := p
            simp only [hog, resGuard] at hg
            cases hj : (ops[j]?).bind (·.dst) with
            | none => simp [hj] at hg
            | some t =>
              simp only [hj] at hg
              cases hgo : resO C (.tmp t) with
              | none => simp [hgo] at hg
              | some g =>
                simp [hgo] at hg; subst hg
                have htn := (resO_tmp hgo).2
                simp only [headG] at h
                have hsl : s.slot C.pers t = s.get g := (get_slot hgo).symm
                cases hb : s.get g <;> simp only [hb] at h
                case bool b =>
                  by_cases e : b = want
                  · subst e
                    obtain ⟨d, h2, h3⟩ := h.1 rfl
                    rw [map_evO ha, setO_same hgo hl hb] at h2
                    refine ⟨d, _, h3, by rw [put_hp, setO_hp], by rw [put_env_len]; simpa [setO_len] using hl, fun E hE hG hR => ⟨oc, ys, hres, ⟨_, ha⟩, ⟨_, hd⟩, .inr ⟨j, b, t, hog, hj, htn, .inl ⟨by rw [hsl, hb], h2 E hE hG hR⟩⟩⟩, ?_⟩
                    rw [put_slot hd (by simpa [setO_len] using hl), setO_same hgo hl hb]
                  · have e' : b = (!want) := by cases b <;> cases want <;> simp_all
                    subst e'
                    refine ⟨.skip, _, (h.2 rfl).2, by rw [put_hp, setO_hp], by rw [put_env_len, setO_len]; exact hl, fun E hE _ _ => ⟨oc, ys, hres, ⟨_, ha⟩, ⟨_, hd⟩, .inr ⟨j, want, t, hog, hj, htn, .inr (.inl ⟨by rw [hsl, hb], rfl, (h.2 rfl).1 E hE⟩)⟩⟩, ?_⟩
                    rw [put_slot hd (by rw [setO_len]; exact hl), setO_same hgo hl hb]
                case skip =>
                  exact ⟨.skip, _, h.2, put_hp _ _ _, by rw [put_env_len]; exact hl, fun E hE _ _ => ⟨oc, ys, hres, ⟨_, ha⟩, ⟨_, hd⟩, .inr ⟨j, want, t, hog, hj, htn, .inr (.inr ⟨by rw [hsl, hb], rfl, h.1 E hE⟩)⟩⟩, put_slot hd hl _⟩
theorem opsG_trace {ops : Array Oper} {K : St → Prop} {F : (Nat → Bool) → Hp} {L : List (Nat × Nat)} : ∀ (len k : Nat) (ros : List RO) (qs : List (RO × Bool)) (s : St), resOps C ops (List.range' k len) = some ros → qs.map (·.1) = ros → s.env.length = C.pers.length → opsG C.M F L k qs K s →
    ∃ (ds : Nat → D) (σ : Nat → Nat → D) (s1 : St), K s1 ∧ s1.hp = F (fun j => decide (j < k + len)) ∧ s1.env.length = C.pers.length ∧ σ k = s.slot C.pers ∧ σ (k + len) = s1.slot C.pers ∧
      ∀ i, k ≤ i → i < k + len → ∃ o, ops[i]? = some o ∧ (∀ E : Nat → Bool, E i = false → Lg L E → Rdy L i E → StepG C ops (F E) (F (fun j => E j || j == i)) (σ i) o (ds i)) ∧ σ (i + 1) = updO (σ i) o.dst (ds i)
  | 0, k, ros, qs, s, hr, hqs, hl, h => by
    simp [resOps] at hr; subst hr
    have : qs = [] := by simpa using hqs
    subst this
    exact ⟨fun _ => .undef, fun _ => s.slot C.pers, _, h, rfl, hl, rfl, rfl, fun i h1 h2 => by omega⟩
  | len + 1, k, ros, qs, s, hr, hqs, hl, h => by
    rw [List.range'_succ] at hr
    obtain ⟨o, x, xs, ho, h1, h2, rfl⟩ := resOps_cons hr
    cases qs with
    | nil => simp at hqs
    | cons p qs =>
      obtain ⟨x', q⟩ := p
      simp only [List.map_cons, List.cons.injEq] at hqs
      obtain ⟨rfl, hqs⟩ := hqs
      simp only [opsG] at h
      obtain ⟨d, s1, k1, _, k3, k4, k5⟩ := headG_step h1 hl h
      obtain ⟨ds, σ, s2, g1, g2, g3, g4, g5, g6⟩ := opsG_trace len (k + 1) xs qs s1 h2 hqs k3 k1
      refine ⟨fun i => if i = k then d else ds i, fun i => if i = k then s.slot C.pers else σ i, s2, g1, ?_, g3, by simp, ?_, fun i h1 h2 => ?_⟩
      · rw [g2]; congr 1; funext j; congr 1; exact propext ⟨fun _ => by omega, fun _ => by omega⟩
      · have : k + (len + 1) ≠ k := by omega
        simp only [this, if_false]
        rw [← g5]; congr 1; omega
      · by_cases ek : i = k
        · subst ek
          refine ⟨o, ho, ?_, ?_⟩
          · simpa using k4
          · simp [g4, k5]
        · obtain ⟨o', q1, q2, q3⟩ := g6 i (by omega) (by omega)
          have e2 : i + 1 ≠ k := by omega
          exact ⟨o', q1, by simpa [ek] using q2, by simpa [ek, e2] using q3⟩
def depsB (qs : List (RO × Bool)) (L : List (Nat × Nat)) : Bool := L.all fun p => decide (p.1 < p.2) && match qs[p.1]?, qs[p.2]? with
  | some a, some b => depB a.1 b.1
  | _, _ => false
theorem depsB_spec {ops : Array Oper} {r : List RO} {L : List (Nat × Nat)} (hr : resOps C ops (List.range' 0 ops.size) = some r) (hrl : tailAt ops ≤ r.length) (h : depsB (flags ops r (tailAt ops)) L = true) :
    ∀ p ∈ L, p.1 < p.2 ∧ p.2 < tailAt ops ∧ ∃ oi oj t, ops[p.1]? = some oi ∧ ops[p.2]? = some oj ∧ oi.dst = some t ∧ t ∈ namesOf ops oj := by
  intro p hp
  have h := List.all_eq_true.1 h p hp
  simp only [Bool.and_eq_true, decide_eq_true_eq] at h
  obtain ⟨h1, h2⟩ := h
  have hf : (flags ops r (tailAt ops)).map (·.1) = r.take (tailAt ops) := flags_fst hrl
  have get : ∀ i a, (flags ops r (tailAt ops))[i]? = some a → i < tailAt ops ∧ ∃ o, ops[i]? = some o ∧ resOp1 C ops o = some a.1 := fun i a ha => by
    have e : ((flags ops r (tailAt ops)).map (·.1))[i]? = some a.1 := by rw [List.getElem?_map, ha]; rfl
    rw [hf, List.getElem?_take] at e
    split at e
    · rename_i hi
      refine ⟨hi, ?_⟩
      obtain ⟨o, x, q1, q2, q3⟩ := resOps_drop _ _ i r hr (by have := resOps_length _ _ hr; simp at this; omega)
      rw [Nat.zero_add] at q1
      have ex : r[i]? = some x := by
        have := List.getElem?_drop (xs := r) (i := i) (j := 0)
        rw [q3] at this; simpa using this.symm
      rw [ex] at e; cases e
      exact ⟨o, q1, q2⟩
    · cases e
  split at h2
  · rename_i a b ea eb
    obtain ⟨_, oi, f1, f2⟩ := get _ _ ea
    obtain ⟨g0, oj, f3, f4⟩ := get _ _ eb
    obtain ⟨t, f5, f6⟩ := depB_op f2 f4 h2
    exact ⟨h1, g0, oi, oj, t, f1, f3, f5, f6⟩
  · cases h2
theorem swp_regDG {Q : Ex → St → Prop} {s : St} {qs : List (RO × Bool)} {ros : List RO} (F : (Nat → Bool) → Hp) (L : List (Nat × Nat)) (hdep : depsB qs L = true) (h0 : F (fun _ => false) = s.hp) (h : opsG C.M F L 0 qs (fun s1 => opsWp C.M ros (fun s' => Q .normal s'.done) s1) s) : SWp C (.regD qs ros) Q s := by
  refine ⟨fun c hc w0 B hA a w hs => ?_⟩
  have hreg : ∀ id ops d, c = .region id ops d → _ := fun id ops d e => res_region (e ▸ hc)
  cases c <;> (try simp only [resCode] at hc) <;> (try (cases hc; done))
  case region id ops d =>
    rcases hreg _ _ _ rfl with ⟨r, h1, _⟩ | ⟨r, h1, rfl, hB1, hB2, hr⟩ | h1
    · cases h1
    · cases h1
      have hB := And.intro hB1 hB2
      · skip
        rw [List.range_eq_range'] at hr
        have hl : s.env.length = C.pers.length := by obtain ⟨_, _, _, _, _, q, _⟩ := hs; exact q
        have hrl : tailAt ops ≤ r.length := by rw [resOps_length _ _ hr]; simpa using tailAt_le ops
        obtain ⟨ds, σ, s1, k1, k2, k3, k4, k5, k6⟩ := opsG_trace (tailAt ops) 0 _ _ s (resOps_take _ _ 0 _ hr (tailAt_le ops)) (flags_fst hrl) hl h
        have hsig : ∀ i, i ≤ tailAt ops → σ i = sig ops (s.slot C.pers) ds (fun _ => true) i := by
          intro i
          induction i with
          | zero => intro _; exact k4
          | succ i ih =>
            intro hi
            obtain ⟨o, q1, _, q3⟩ := k6 i (Nat.zero_le _) (by omega)
            rw [q3, ih (by omega)]
            simp [sig, dstO, q1]
        refine fun ro => wpIn_region_any hB.2 (draw_soundG hA (s := s) (s1 := s1) (K := fun s' => Q .normal s'.done) (ds := ds) (F := F) (L := L) (m := tailAt ops) (ros := r) hB.1 (tailAt_le ops) hr (fun s a w hk hs => ⟨s.done, weak_done _ _ _ _ hs, hk⟩) hl k1 (by rw [k2, Nat.zero_add]) k3 (depsB_spec hr hrl hdep) (fun i hi => ?_) ?_ ops.size _ a _ (by simp) ?_ ?_ (.inl ⟨?_, ?_⟩))
        · obtain ⟨o, q1, q2, _⟩ := k6 i (Nat.zero_le _) (by omega)
          rw [hsig i (by omega)] at q2
          exact ⟨o, q1, q2⟩
        · rw [← hsig _ (Nat.le_refl _), ← k5, Nat.zero_add]
        · simp only [unl, Array.toList_replicate]
          exact Nat.le_trans (List.length_filter_le _ _) (by simp)
        · intro j oj hj hlj
          exfalso
          have : (Array.replicate ops.size false).getD j false = false := by
            simp only [Array.getD_eq_getD_getElem?, Array.getElem?_replicate]; split <;> rfl
          rw [this] at hlj; cases hlj
        · intro j hlj
          exfalso
          have : (Array.replicate ops.size false).getD j false = false := by
            simp only [Array.getD_eq_getD_getElem?, Array.getElem?_replicate]; split <;> rfl
          rw [this] at hlj; cases hlj
        · obtain ⟨G, g0, gb, g1, g2, g3, g4⟩ := hs
          have hrep : ∀ j, (Array.replicate ops.size false).getD j false = false := by
            intro j
            simp only [Array.getD_eq_getD_getElem?, Array.getElem?_replicate]; split <;> rfl
          have e1 : sig ops (s.slot C.pers) ds (fun j => (Array.replicate ops.size false).getD j false) (tailAt ops) = s.slot C.pers := by
            funext t
            exact sig_skip (ops := ops) (σ0 := s.slot C.pers) (ds := ds) (E := fun j => (Array.replicate ops.size false).getD j false) (t := t) (a := 0) (tailAt ops) (Nat.zero_le _) (fun j _ _ hE => by
              rw [hrep] at hE; cases hE)
          have e3 : (fun j => (Array.replicate ops.size false).getD j false) = fun _ => false := funext hrep
          rw [e1, e3, h0]
          obtain ⟨q1, q2⟩ := g0.drawn (w.drawn + 1)
          exact ⟨G, q1, gb, g1, g2, fun t => Rel.evo _ q2 (g4 t)⟩
    · cases h1
  all_goals exfalso; (repeat' split at hc) <;> simp_all
end
section
variable {M : Mod} {F : (Nat → Bool) → Hp} {L : List (Nat × Nat)} {i : Nat} {dst : Dst} {q : Bool} {r : List (RO × Bool)} {K : St → Prop} {s : St} {oc : OC} {args : List Opd}
theorem v_end {hp' : Hp} (hh : F (fun k => decide (k < i)) = hp') (h : K { s with hp := hp' }) : opsG M F L i [] K s := by subst hh; exact h
theorem v_op (d : D) (h1 : AnyG M F L i oc (args.map s.get) d) (h : opsG M F L (i + 1) r K (s.put dst d)) : opsG M F L i ((⟨dst, oc, args, none⟩, q) :: r) K s := ⟨d, h1, h⟩
theorem v_q {ds : List D} (d : D) (ha : args.map s.get = ds) (hF : Still F i) (ho : ∀ E : Nat → Bool, E i = false → OcWp M oc ds (F E) (fun d' hp' => d' = d ∧ hp' = F E)) (h : opsG M F L (i + 1) r K (s.put dst d)) : opsG M F L i ((⟨dst, oc, args, none⟩, q) :: r) K s :=
  v_op d (by rw [ha]; exact fun E hE hG hR => .inl (by rw [hF E hE]; exact ho E hE)) h
theorem v_c {ds : List D} {d : D} (ha : args.map s.get = ds) (h1 : ∀ E : Nat → Bool, E i = false → Lg L E → Rdy L i E → OcWp M oc ds (F E) (fun d' hp' => d' = d ∧ hp' = F (fun j => E j || j == i))) (h : opsG M F L (i + 1) r K (s.put dst d)) : opsG M F L i ((⟨dst, oc, args, none⟩, q) :: r) K s :=
  v_op d (by rw [ha]; exact fun E hE hG hR => .inl (h1 E hE hG hR)) h
theorem v_new {z : List D} (t : Nat) (hpos : 0 < z.length) (hF : ∀ E : Nat → Bool, E i = false → Lg L E → Rdy L i E → (F E).tk[t]? = some (.chg z.length []) ∧ F (fun j => E j || j == i) = { F E with tk := (F E).tk.set t (.chg z.length z) })
    (h : opsG M F L (i + 1) r K (s.put dst (.gp t 1 0))) : opsG M F L i ((⟨dst, .newb z, [], none⟩, q) :: r) K s :=
  v_op _ (fun E hE hG hR => .inr ⟨z, t, rfl, rfl, hpos, (hF E hE hG hR).1, rfl, (hF E hE hG hR).2⟩) h
end
theorem opsF_opsG {M : Mod} {F : (Nat → Bool) → Hp} : ∀ (qs : List (RO × Bool)) (i : Nat) (K : St → Prop) (s : St), opsF M F i qs K s → opsG M F [] i qs K s
  | [], i, K, s, h => h
  | (o, q) :: r, i, K, s, h => by
    simp only [opsF, opsG, headF, headG] at h ⊢
    have any : ∀ {oc : OC} {ds : List D} {d : D}, AnyF M F i oc ds d → AnyG M F [] i oc ds d := fun h E hE _ _ => .inl (h E hE)
    cases hg : o.guard with
    | none =>
      simp only [hg] at h ⊢
      obtain ⟨d, h1, h2⟩ := h
      exact ⟨d, any h1, opsF_opsG r _ _ _ h2⟩
    | some p =>
      obtain ⟨g, want⟩ := p
      simp only [hg] at h ⊢
      cases hb : s.get g <;> simp only [hb] at h ⊢
      case bool b =>
        refine ⟨fun e => ?_, fun e => ⟨(h.2 e).1, opsF_opsG r _ _ _ (h.2 e).2⟩⟩
        obtain ⟨d, h1, h2⟩ := h.1 e
        exact ⟨d, any h1, opsF_opsG r _ _ _ h2⟩
      case skip => exact ⟨h.1, opsF_opsG r _ _ _ h.2⟩
theorem swp_regDF2 {C : Cfg} {Q : Ex → St → Prop} {s : St} {qs : List (RO × Bool)} {ros : List RO} (F : (Nat → Bool) → Hp) (h0 : F (fun _ => false) = s.hp) (h : opsF C.M F 0 qs (fun s1 => opsWp C.M ros (fun s' => Q .normal s'.done) s1) s) : SWp C (.regD qs ros) Q s :=
  swp_regDG F [] rfl h0 (opsF_opsG _ _ _ _ h)
end GoV
end
section
set_option maxRecDepth 100000
namespace Go.Proofs.Ytcchbohfcmfmlaa
open Go GoV
noncomputable def M : Mod := { P := Try.prog, amb := fun _ _ => True, up := fun _ _ _ _ _ _ _ => trivial }
@[irreducible] def zl256 : List D := List.replicate 256 (.int .u8 0)
/- 31 bogie.interval.truth · 1 arguments · kept slots [0, 2, 3, 4] -/
noncomputable def E31 (n m : Nat) : Cfg := ⟨M, [0, 2, 3, 4], 8, n, m, []⟩
noncomputable def C31 : Cfg := E31 0 0
@[reducible] noncomputable def r31_0 : List RO := [
  ⟨.var 1, .mv, [.con (.int .i64 0)], none⟩]
@[reducible] noncomputable def r31_1 : List RO := [
  ⟨.var 2, .mv, [.var 0], none⟩]
@[reducible] noncomputable def r31_2 : List RO := [
  ⟨.loc 5, .bin .eql, [.var 2, .con (.int .i64 0)], none⟩,
  ⟨.var 3, .mv, [.loc 5], none⟩]
@[reducible] noncomputable def r31_3 : List RO := [
  ⟨.loc 6, .bin .eql, [.var 2, .con (.int .i64 2)], none⟩,
  ⟨.var 3, .mv, [.loc 6], none⟩]
@[reducible] noncomputable def r31_4 : List RO := [
  ⟨.loc 7, .mv, [.var 0], none⟩,
  ⟨.var 1, .mv, [.loc 7], none⟩]
@[reducible] noncomputable def r31_5 : List RO := [
  ⟨.var 1, .mv, [.con (.int .i64 1)], none⟩]
theorem P31 : C31.M = M := by unfold C31 E31; rfl
theorem i31 {a0 : D} : St.init C31 [a0] ⟨[], []⟩ = ⟨[a0, .undef, .undef, .undef], [], ⟨[], []⟩⟩ := by unfold C31 E31; rfl
noncomputable def c31 : RC := (.seq (.reg r31_0) (.seq (.seq (.reg r31_1) (.block 0 (.seq (.seq (.reg r31_2) (.cond (.var 3) .skip (.reg r31_3))) (.cond (.var 3) (.seq (.reg r31_4) .ret) .skip)))) (.seq (.reg r31_5) .ret)))
noncomputable def q31 : List RR := [(.slot (.var 1))]
theorem z31 {n m : Nat} : resCode (E31 n m) (Try.f31.body.getD .skip) = some c31 := by kernel_rfl
theorem zr31 {n m : Nat} : resRs (E31 n m) Try.f31.results.toList = some q31 := by kernel_rfl
theorem ok31 {args : List D} {d : D} (hl : args.length = 1) (h : SWp C31 c31 (fun e s => (match e with | .exit _ => False | _ => True) ∧ rrsWp q31 s fun ds => D.closed (oneOrTup ds) = true ∧ (oneOrTup ds).er = d) (St.init C31 args ⟨[], []⟩)) : Pur M 31 args d :=
  pur_of_body (C := C31) (fn := Try.f31) Try.func31 (by kernel_rfl) (by kernel_rfl) (rc := c31) z31 (rs := q31) zr31 (by kernel_rfl) (by rw [hl]; rfl) (by rw [hl]; decide) rfl rfl h
/- 15 bogie.interval.And · 2 arguments · kept slots [0, 1, 4] -/
noncomputable def E15 (n m : Nat) : Cfg := ⟨M, [0, 1, 4], 10, n, m, []⟩
noncomputable def C15 : Cfg := E15 0 0
@[reducible] noncomputable def r15_0 : List RO := [
  ⟨.var 2, .mv, [.con (.int .i64 0)], none⟩]
@[reducible] noncomputable def r15_1 : List RO := [
  ⟨.loc 5, .mv, [.var 0], none⟩,
  ⟨.loc 6, .call, [(.con (.fn (.func 31) [] [])), .loc 5], none⟩,
  ⟨.loc 7, .mv, [.var 1], none⟩,
  ⟨.loc 8, .call, [(.con (.fn (.func 31) [] [])), .loc 7], none⟩,
  ⟨.loc 9, .minI, [.loc 6, .loc 8], none⟩,
  ⟨.var 2, .mv, [.loc 9], none⟩]
theorem P15 : C15.M = M := by unfold C15 E15; rfl
theorem i15 {a0 a1 : D} : St.init C15 [a0, a1] ⟨[], []⟩ = ⟨[a0, a1, .undef], [], ⟨[], []⟩⟩ := by unfold C15 E15; rfl
noncomputable def c15 : RC := (.seq (.reg r15_0) (.seq (.reg r15_1) .ret))
noncomputable def q15 : List RR := [(.slot (.var 2))]
theorem z15 {n m : Nat} : resCode (E15 n m) (Try.f15.body.getD .skip) = some c15 := by kernel_rfl
theorem zr15 {n m : Nat} : resRs (E15 n m) Try.f15.results.toList = some q15 := by kernel_rfl
theorem ok15 {args : List D} {d : D} (hl : args.length = 2) (h : SWp C15 c15 (fun e s => (match e with | .exit _ => False | _ => True) ∧ rrsWp q15 s fun ds => D.closed (oneOrTup ds) = true ∧ (oneOrTup ds).er = d) (St.init C15 args ⟨[], []⟩)) : Pur M 15 args d :=
  pur_of_body (C := C15) (fn := Try.f15) Try.func15 (by kernel_rfl) (by kernel_rfl) (rc := c15) z15 (rs := q15) zr15 (by kernel_rfl) (by rw [hl]; rfl) (by rw [hl]; decide) rfl rfl h
/- 16 bogie.interval.Or · 2 arguments · kept slots [0, 1, 4] -/
noncomputable def E16 (n m : Nat) : Cfg := ⟨M, [0, 1, 4], 10, n, m, []⟩
noncomputable def C16 : Cfg := E16 0 0
@[reducible] noncomputable def r16_0 : List RO := [
  ⟨.var 2, .mv, [.con (.int .i64 0)], none⟩]
@[reducible] noncomputable def r16_1 : List RO := [
  ⟨.loc 5, .mv, [.var 0], none⟩,
  ⟨.loc 6, .call, [(.con (.fn (.func 31) [] [])), .loc 5], none⟩,
  ⟨.loc 7, .mv, [.var 1], none⟩,
  ⟨.loc 8, .call, [(.con (.fn (.func 31) [] [])), .loc 7], none⟩,
  ⟨.loc 9, .maxI, [.loc 6, .loc 8], none⟩,
  ⟨.var 2, .mv, [.loc 9], none⟩]
theorem P16 : C16.M = M := by unfold C16 E16; rfl
theorem i16 {a0 a1 : D} : St.init C16 [a0, a1] ⟨[], []⟩ = ⟨[a0, a1, .undef], [], ⟨[], []⟩⟩ := by unfold C16 E16; rfl
noncomputable def c16 : RC := (.seq (.reg r16_0) (.seq (.reg r16_1) .ret))
noncomputable def q16 : List RR := [(.slot (.var 2))]
theorem z16 {n m : Nat} : resCode (E16 n m) (Try.f16.body.getD .skip) = some c16 := by kernel_rfl
theorem zr16 {n m : Nat} : resRs (E16 n m) Try.f16.results.toList = some q16 := by kernel_rfl
theorem ok16 {args : List D} {d : D} (hl : args.length = 2) (h : SWp C16 c16 (fun e s => (match e with | .exit _ => False | _ => True) ∧ rrsWp q16 s fun ds => D.closed (oneOrTup ds) = true ∧ (oneOrTup ds).er = d) (St.init C16 args ⟨[], []⟩)) : Pur M 16 args d :=
  pur_of_body (C := C16) (fn := Try.f16) Try.func16 (by kernel_rfl) (by kernel_rfl) (rc := c16) z16 (rs := q16) zr16 (by kernel_rfl) (by rw [hl]; rfl) (by rw [hl]; decide) rfl rfl h
/- 18 bogie.interval.Not · 1 arguments · kept slots [0, 2] -/
noncomputable def E18 (n m : Nat) : Cfg := ⟨M, [0, 2], 6, n, m, []⟩
noncomputable def C18 : Cfg := E18 0 0
@[reducible] noncomputable def r18_0 : List RO := [
  ⟨.var 1, .mv, [.con (.int .i64 0)], none⟩]
@[reducible] noncomputable def r18_1 : List RO := [
  ⟨.loc 3, .mv, [.var 0], none⟩,
  ⟨.loc 4, .call, [(.con (.fn (.func 31) [] [])), .loc 3], none⟩,
  ⟨.loc 5, .bin .sub, [.con (.int .i64 2), .loc 4], none⟩,
  ⟨.var 1, .mv, [.loc 5], none⟩]
theorem P18 : C18.M = M := by unfold C18 E18; rfl
theorem i18 {a0 : D} : St.init C18 [a0] ⟨[], []⟩ = ⟨[a0, .undef], [], ⟨[], []⟩⟩ := by unfold C18 E18; rfl
noncomputable def c18 : RC := (.seq (.reg r18_0) (.seq (.reg r18_1) .ret))
noncomputable def q18 : List RR := [(.slot (.var 1))]
theorem z18 {n m : Nat} : resCode (E18 n m) (Try.f18.body.getD .skip) = some c18 := by kernel_rfl
theorem zr18 {n m : Nat} : resRs (E18 n m) Try.f18.results.toList = some q18 := by kernel_rfl
theorem ok18 {args : List D} {d : D} (hl : args.length = 1) (h : SWp C18 c18 (fun e s => (match e with | .exit _ => False | _ => True) ∧ rrsWp q18 s fun ds => D.closed (oneOrTup ds) = true ∧ (oneOrTup ds).er = d) (St.init C18 args ⟨[], []⟩)) : Pur M 18 args d :=
  pur_of_body (C := C18) (fn := Try.f18) Try.func18 (by kernel_rfl) (by kernel_rfl) (rc := c18) z18 (rs := q18) zr18 (by kernel_rfl) (by rw [hl]; rfl) (by rw [hl]; decide) rfl rfl h
/- 41 bogie.interval.Over · 2 arguments · kept slots [0, 1, 2, 4, 5, 15] -/
noncomputable def E41 (n m : Nat) : Cfg := ⟨M, [0, 1, 2, 4, 5, 15], 20, n, m, []⟩
noncomputable def C41 : Cfg := E41 0 0
@[reducible] noncomputable def r41_0 : List RO := [
  ⟨.var 2, .box, [.var 0], none⟩,
  ⟨.var 3, .mv, [.con (.int .i64 0)], none⟩]
@[reducible] noncomputable def r41_1 : List RO := [
  ⟨.loc 6, .ld true 2, [.var 2], none⟩,
  ⟨.loc 7, .call, [(.con (.fn (.func 57) [] [])), .loc 6], none⟩,
  ⟨.loc 8, .un .not, [.loc 7], none⟩,
  ⟨.loc 9, .mv, [.loc 8], none⟩,
  ⟨.loc 10, .fld 1, [.var 2], (some (.loc 9, false))⟩,
  ⟨.loc 11, .ld false 1, [.loc 10], (some (.loc 9, false))⟩,
  ⟨.loc 12, .mv, [.var 1], (some (.loc 9, false))⟩,
  ⟨.loc 13, .bin .leq, [.loc 11, .loc 12], (some (.loc 9, false))⟩,
  ⟨.loc 14, .pick, [.loc 9, .con (.bool true), .loc 13], none⟩,
  ⟨.var 4, .mv, [.loc 14], none⟩]
@[reducible] noncomputable def r41_2 : List RO := [
  ⟨.var 3, .mv, [.con (.int .i64 0)], none⟩]
@[reducible] noncomputable def r41_3 : List RO := [
  ⟨.loc 16, .fld 0, [.var 2], none⟩,
  ⟨.loc 17, .ld false 1, [.loc 16], none⟩,
  ⟨.loc 18, .mv, [.var 1], none⟩,
  ⟨.loc 19, .bin .gtr, [.loc 17, .loc 18], none⟩,
  ⟨.var 5, .mv, [.loc 19], none⟩]
@[reducible] noncomputable def r41_4 : List RO := [
  ⟨.var 3, .mv, [.con (.int .i64 2)], none⟩]
@[reducible] noncomputable def r41_5 : List RO := [
  ⟨.var 3, .mv, [.con (.int .i64 1)], none⟩]
theorem P41 : C41.M = M := by unfold C41 E41; rfl
theorem i41 {a0 a1 : D} : St.init C41 [a0, a1] ⟨[], []⟩ = ⟨[a0, a1, .undef, .undef, .undef, .undef], [], ⟨[], []⟩⟩ := by unfold C41 E41; rfl
noncomputable def c41 : RC := (.seq (.reg r41_0) (.seq (.block 0 (.seq (.reg r41_1) (.cond (.var 4) (.seq (.reg r41_2) .ret) (.seq (.reg r41_3) (.cond (.var 5) (.seq (.reg r41_4) .ret) .skip))))) (.seq (.reg r41_5) .ret)))
noncomputable def q41 : List RR := [(.slot (.var 3))]
theorem z41 {n m : Nat} : resCode (E41 n m) (Try.f41.body.getD .skip) = some c41 := by kernel_rfl
theorem zr41 {n m : Nat} : resRs (E41 n m) Try.f41.results.toList = some q41 := by kernel_rfl
theorem ok41 {args : List D} {d : D} (hl : args.length = 2) (h : SWp C41 c41 (fun e s => (match e with | .exit _ => False | _ => True) ∧ rrsWp q41 s fun ds => D.closed (oneOrTup ds) = true ∧ (oneOrTup ds).er = d) (St.init C41 args ⟨[], []⟩)) : Pur M 41 args d :=
  pur_of_body (C := C41) (fn := Try.f41) Try.func41 (by kernel_rfl) (by kernel_rfl) (rc := c41) z41 (rs := q41) zr41 (by kernel_rfl) (by rw [hl]; rfl) (by rw [hl]; decide) rfl rfl h
/- 57 bogie.interval.Valid · 1 arguments · kept slots [0, 1, 2] -/
noncomputable def E57 (n m : Nat) : Cfg := ⟨M, [0, 1, 2], 18, n, m, []⟩
noncomputable def C57 : Cfg := E57 0 0
@[reducible] noncomputable def r57_0 : List RO := [
  ⟨.var 1, .box, [.var 0], none⟩,
  ⟨.var 2, .mv, [.con (.bool false)], none⟩]
@[reducible] noncomputable def r57_1 : List RO := [
  ⟨.loc 3, .fld 0, [.var 1], none⟩,
  ⟨.loc 4, .ld false 1, [.loc 3], none⟩,
  ⟨.loc 5, .bin .leq, [(.con (.int .i64 (-1000000000000))), .loc 4], none⟩,
  ⟨.loc 6, .mv, [.loc 5], none⟩,
  ⟨.loc 7, .fld 0, [.var 1], (some (.loc 6, true))⟩,
  ⟨.loc 8, .ld false 1, [.loc 7], (some (.loc 6, true))⟩,
  ⟨.loc 9, .fld 1, [.var 1], (some (.loc 6, true))⟩,
  ⟨.loc 10, .ld false 1, [.loc 9], (some (.loc 6, true))⟩,
  ⟨.loc 11, .bin .leq, [.loc 8, .loc 10], (some (.loc 6, true))⟩,
  ⟨.loc 12, .pick, [.loc 6, .loc 11, .con (.bool false)], none⟩,
  ⟨.loc 13, .mv, [.loc 12], none⟩,
  ⟨.loc 14, .fld 1, [.var 1], (some (.loc 13, true))⟩,
  ⟨.loc 15, .ld false 1, [.loc 14], (some (.loc 13, true))⟩,
  ⟨.loc 16, .bin .leq, [.loc 15, .con (.int .i64 1000000000000)], (some (.loc 13, true))⟩,
  ⟨.loc 17, .pick, [.loc 13, .loc 16, .con (.bool false)], none⟩,
  ⟨.var 2, .mv, [.loc 17], none⟩]
theorem P57 : C57.M = M := by unfold C57 E57; rfl
theorem i57 {a0 : D} : St.init C57 [a0] ⟨[], []⟩ = ⟨[a0, .undef, .undef], [], ⟨[], []⟩⟩ := by unfold C57 E57; rfl
noncomputable def c57 : RC := (.seq (.reg r57_0) (.seq (.reg r57_1) .ret))
noncomputable def q57 : List RR := [(.slot (.var 2))]
theorem z57 {n m : Nat} : resCode (E57 n m) (Try.f57.body.getD .skip) = some c57 := by kernel_rfl
theorem zr57 {n m : Nat} : resRs (E57 n m) Try.f57.results.toList = some q57 := by kernel_rfl
theorem ok57 {args : List D} {d : D} (hl : args.length = 1) (h : SWp C57 c57 (fun e s => (match e with | .exit _ => False | _ => True) ∧ rrsWp q57 s fun ds => D.closed (oneOrTup ds) = true ∧ (oneOrTup ds).er = d) (St.init C57 args ⟨[], []⟩)) : Pur M 57 args d :=
  pur_of_body (C := C57) (fn := Try.f57) Try.func57 (by kernel_rfl) (by kernel_rfl) (rc := c57) z57 (rs := q57) zr57 (by kernel_rfl) (by rw [hl]; rfl) (by rw [hl]; decide) rfl rfl h
/- 32 bogie.bogieref04.Valid · 1 arguments · kept slots [0, 1, 2] -/
noncomputable def E32 (n m : Nat) : Cfg := ⟨M, [0, 1, 2], 18, n, m, []⟩
noncomputable def C32 : Cfg := E32 0 0
@[reducible] noncomputable def r32_0 : List RO := [
  ⟨.var 1, .box, [.var 0], none⟩,
  ⟨.var 2, .mv, [.con (.bool false)], none⟩]
@[reducible] noncomputable def r32_1 : List RO := [
  ⟨.loc 3, .fld 0, [.var 1], none⟩,
  ⟨.loc 4, .ld false 1, [.loc 3], none⟩,
  ⟨.loc 5, .fld 1, [.var 1], none⟩,
  ⟨.loc 6, .ld false 1, [.loc 5], none⟩,
  ⟨.loc 7, .bin .leq, [.loc 4, .loc 6], none⟩,
  ⟨.loc 8, .mv, [.loc 7], none⟩,
  ⟨.loc 9, .fld 0, [.var 1], (some (.loc 8, true))⟩,
  ⟨.loc 10, .ld false 1, [.loc 9], (some (.loc 8, true))⟩,
  ⟨.loc 11, .bin .geq, [.loc 10, (.con (.int .i64 (-1000000000000)))], (some (.loc 8, true))⟩,
  ⟨.loc 12, .pick, [.loc 8, .loc 11, .con (.bool false)], none⟩,
  ⟨.loc 13, .mv, [.loc 12], none⟩,
  ⟨.loc 14, .fld 1, [.var 1], (some (.loc 13, true))⟩,
  ⟨.loc 15, .ld false 1, [.loc 14], (some (.loc 13, true))⟩,
  ⟨.loc 16, .bin .leq, [.loc 15, .con (.int .i64 1000000000000)], (some (.loc 13, true))⟩,
  ⟨.loc 17, .pick, [.loc 13, .loc 16, .con (.bool false)], none⟩,
  ⟨.var 2, .mv, [.loc 17], none⟩]
theorem P32 : C32.M = M := by unfold C32 E32; rfl
theorem i32 {a0 : D} : St.init C32 [a0] ⟨[], []⟩ = ⟨[a0, .undef, .undef], [], ⟨[], []⟩⟩ := by unfold C32 E32; rfl
noncomputable def c32 : RC := (.seq (.reg r32_0) (.seq (.reg r32_1) .ret))
noncomputable def q32 : List RR := [(.slot (.var 2))]
theorem z32 {n m : Nat} : resCode (E32 n m) (Try.f32.body.getD .skip) = some c32 := by kernel_rfl
theorem zr32 {n m : Nat} : resRs (E32 n m) Try.f32.results.toList = some q32 := by kernel_rfl
theorem ok32 {args : List D} {d : D} (hl : args.length = 1) (h : SWp C32 c32 (fun e s => (match e with | .exit _ => False | _ => True) ∧ rrsWp q32 s fun ds => D.closed (oneOrTup ds) = true ∧ (oneOrTup ds).er = d) (St.init C32 args ⟨[], []⟩)) : Pur M 32 args d :=
  pur_of_body (C := C32) (fn := Try.f32) Try.func32 (by kernel_rfl) (by kernel_rfl) (rc := c32) z32 (rs := q32) zr32 (by kernel_rfl) (by rw [hl]; rfl) (by rw [hl]; decide) rfl rfl h
/- 20 bogie.bogielaw22.within · 2 arguments · kept slots [0, 1, 2, 3, 4] -/
noncomputable def E20 (n m : Nat) : Cfg := ⟨M, [0, 1, 2, 3, 4], 25, n, m, []⟩
noncomputable def C20 : Cfg := E20 0 0
@[reducible] noncomputable def r20_0 : List RO := [
  ⟨.var 2, .box, [.var 0], none⟩,
  ⟨.var 3, .box, [.var 1], none⟩,
  ⟨.var 4, .mv, [.con (.bool false)], none⟩]
@[reducible] noncomputable def r20_1 : List RO := [
  ⟨.loc 5, .ld true 2, [.var 2], none⟩,
  ⟨.loc 6, .call, [(.con (.fn (.func 32) [] [])), .loc 5], none⟩,
  ⟨.loc 7, .mv, [.loc 6], none⟩,
  ⟨.loc 8, .ld true 2, [.var 3], (some (.loc 7, true))⟩,
  ⟨.loc 9, .call, [(.con (.fn (.func 32) [] [])), .loc 8], (some (.loc 7, true))⟩,
  ⟨.loc 10, .pick, [.loc 7, .loc 9, .con (.bool false)], none⟩,
  ⟨.loc 11, .mv, [.loc 10], none⟩,
  ⟨.loc 12, .fld 0, [.var 3], (some (.loc 11, true))⟩,
  ⟨.loc 13, .ld false 1, [.loc 12], (some (.loc 11, true))⟩,
  ⟨.loc 14, .fld 0, [.var 2], (some (.loc 11, true))⟩,
  ⟨.loc 15, .ld false 1, [.loc 14], (some (.loc 11, true))⟩,
  ⟨.loc 16, .bin .leq, [.loc 13, .loc 15], (some (.loc 11, true))⟩,
  ⟨.loc 17, .pick, [.loc 11, .loc 16, .con (.bool false)], none⟩,
  ⟨.loc 18, .mv, [.loc 17], none⟩,
  ⟨.loc 19, .fld 1, [.var 2], (some (.loc 18, true))⟩,
  ⟨.loc 20, .ld false 1, [.loc 19], (some (.loc 18, true))⟩,
  ⟨.loc 21, .fld 1, [.var 3], (some (.loc 18, true))⟩,
  ⟨.loc 22, .ld false 1, [.loc 21], (some (.loc 18, true))⟩,
  ⟨.loc 23, .bin .leq, [.loc 20, .loc 22], (some (.loc 18, true))⟩,
  ⟨.loc 24, .pick, [.loc 18, .loc 23, .con (.bool false)], none⟩,
  ⟨.var 4, .mv, [.loc 24], none⟩]
theorem P20 : C20.M = M := by unfold C20 E20; rfl
theorem i20 {a0 a1 : D} : St.init C20 [a0, a1] ⟨[], []⟩ = ⟨[a0, a1, .undef, .undef, .undef], [], ⟨[], []⟩⟩ := by unfold C20 E20; rfl
noncomputable def c20 : RC := (.seq (.reg r20_0) (.seq (.reg r20_1) .ret))
noncomputable def q20 : List RR := [(.slot (.var 4))]
theorem z20 {n m : Nat} : resCode (E20 n m) (Try.f20.body.getD .skip) = some c20 := by kernel_rfl
theorem zr20 {n m : Nat} : resRs (E20 n m) Try.f20.results.toList = some q20 := by kernel_rfl
theorem ok20 {args : List D} {d : D} (hl : args.length = 2) (h : SWp C20 c20 (fun e s => (match e with | .exit _ => False | _ => True) ∧ rrsWp q20 s fun ds => D.closed (oneOrTup ds) = true ∧ (oneOrTup ds).er = d) (St.init C20 args ⟨[], []⟩)) : Pur M 20 args d :=
  pur_of_body (C := C20) (fn := Try.f20) Try.func20 (by kernel_rfl) (by kernel_rfl) (rc := c20) z20 (rs := q20) zr20 (by kernel_rfl) (by rw [hl]; rfl) (by rw [hl]; decide) rfl rfl h
/- 22 bogie.bogielaw22.exact · 1 arguments · kept slots [0, 1, 2] -/
/- 42 bogie.meaning.truth · 1 arguments · kept slots [0, 2, 3] -/
noncomputable def E42 (n m : Nat) : Cfg := ⟨M, [0, 2, 3], 4, n, m, []⟩
noncomputable def C42 : Cfg := E42 0 0
@[reducible] noncomputable def r42_0 : List RO := [
  ⟨.var 1, .mv, [.con (.int .i64 0)], none⟩]
@[reducible] noncomputable def r42_1 : List RO := [
  ⟨.var 2, .mv, [.var 0], none⟩]
@[reducible] noncomputable def r42_2 : List RO := [
  ⟨.var 1, .mv, [.con (.int .i64 2)], none⟩]
@[reducible] noncomputable def r42_3 : List RO := [
  ⟨.var 1, .mv, [.con (.int .i64 0)], none⟩]
theorem P42 : C42.M = M := by unfold C42 E42; rfl
theorem i42 {a0 : D} : St.init C42 [a0] ⟨[], []⟩ = ⟨[a0, .undef, .undef], [], ⟨[], []⟩⟩ := by unfold C42 E42; rfl
noncomputable def c42 : RC := (.seq (.reg r42_0) (.seq (.seq (.reg r42_1) (.cond (.var 2) (.seq (.reg r42_2) .ret) .skip)) (.seq (.reg r42_3) .ret)))
noncomputable def q42 : List RR := [(.slot (.var 1))]
theorem z42 {n m : Nat} : resCode (E42 n m) (Try.f42.body.getD .skip) = some c42 := by kernel_rfl
theorem zr42 {n m : Nat} : resRs (E42 n m) Try.f42.results.toList = some q42 := by kernel_rfl
theorem ok42 {args : List D} {d : D} (hl : args.length = 1) (h : SWp C42 c42 (fun e s => (match e with | .exit _ => False | _ => True) ∧ rrsWp q42 s fun ds => D.closed (oneOrTup ds) = true ∧ (oneOrTup ds).er = d) (St.init C42 args ⟨[], []⟩)) : Pur M 42 args d :=
  pur_of_body (C := C42) (fn := Try.f42) Try.func42 (by kernel_rfl) (by kernel_rfl) (rc := c42) z42 (rs := q42) zr42 (by kernel_rfl) (by rw [hl]; rfl) (by rw [hl]; decide) rfl rfl h
/- 25 bogie.bogielaw22.limit · 2 arguments · kept slots [0, 1, 4] -/
noncomputable def E25 (n m : Nat) : Cfg := ⟨M, [0, 1, 4], 8, n, m, []⟩
noncomputable def C25 : Cfg := E25 0 0
@[reducible] noncomputable def r25_0 : List RO := [
  ⟨.var 2, (.newb [(.int .i64 0), (.str []), (.str []), (.int .i64 0), (.int .i64 0), (.lit (.slice none 0 0))]), [], none⟩]
@[reducible] noncomputable def r25_1 : List RO := [
  ⟨.loc 5, .mv, [.var 0], none⟩,
  ⟨.loc 6, .mv, [.var 1], none⟩,
  ⟨.loc 7, (.bld [(.int .i64 0), (.str []), (.str []), (.int .i64 0), (.int .i64 0), (.lit (.slice none 0 0))] [(0, 1), (1, 1), (3, 1), (4, 1)]), [.con (.int .i64 5), (.con (.str [107, 109])), .loc 5, .loc 6], none⟩,
  ⟨.none, .st 6, [.var 2, .loc 7], none⟩]
theorem P25 : C25.M = M := by unfold C25 E25; rfl
theorem i25 {a0 a1 : D} : St.init C25 [a0, a1] ⟨[], []⟩ = ⟨[a0, a1, .undef], [], ⟨[], []⟩⟩ := by unfold C25 E25; rfl
noncomputable def c25 : RC := (.seq (.reg r25_0) (.seq (.reg r25_1) .ret))
noncomputable def q25 : List RR := [(.cell (.var 2) true 6)]
theorem z25 {n m : Nat} : resCode (E25 n m) (Try.f25.body.getD .skip) = some c25 := by kernel_rfl
theorem zr25 {n m : Nat} : resRs (E25 n m) Try.f25.results.toList = some q25 := by kernel_rfl
theorem ok25 {args : List D} {d : D} (hl : args.length = 2) (h : SWp C25 c25 (fun e s => (match e with | .exit _ => False | _ => True) ∧ rrsWp q25 s fun ds => D.closed (oneOrTup ds) = true ∧ (oneOrTup ds).er = d) (St.init C25 args ⟨[], []⟩)) : Pur M 25 args d :=
  pur_of_body (C := C25) (fn := Try.f25) Try.func25 (by kernel_rfl) (by kernel_rfl) (rc := c25) z25 (rs := q25) zr25 (by kernel_rfl) (by rw [hl]; rfl) (by rw [hl]; decide) rfl rfl h
/- 17 bogie.bogielaw22.not · 1 arguments · kept slots [0, 1, 2] -/
/- 54 bogie.rule.node$1 · 2 arguments · kept slots [0, 1, 4] -/
noncomputable def E54 (n m : Nat) : Cfg := ⟨M, [0, 1, 4], 12, n, m, []⟩
noncomputable def C54 : Cfg := E54 0 0
@[reducible] noncomputable def r54_0 : List RO := [
  ⟨.var 2, .mv, [.con (.bool false)], none⟩]
@[reducible] noncomputable def r54_1 : List RO := [
  ⟨.loc 5, .mv, [.var 0], none⟩,
  ⟨.loc 6, .mv, [.var 1], none⟩,
  ⟨.loc 7, .bin .geq, [.loc 5, .loc 6], none⟩,
  ⟨.loc 8, .mv, [.loc 7], none⟩,
  ⟨.loc 9, .mv, [.var 0], (some (.loc 8, true))⟩,
  ⟨.loc 10, .bin .leq, [.loc 9, .con (.int .i64 9999999)], (some (.loc 8, true))⟩,
  ⟨.loc 11, .pick, [.loc 8, .loc 10, .con (.bool false)], none⟩,
  ⟨.var 2, .mv, [.loc 11], none⟩]
theorem P54 : C54.M = M := by unfold C54 E54; rfl
theorem i54 {a0 a1 : D} : St.init C54 [a0, a1] ⟨[], []⟩ = ⟨[a0, a1, .undef], [], ⟨[], []⟩⟩ := by unfold C54 E54; rfl
noncomputable def c54 : RC := (.seq (.reg r54_0) (.seq (.reg r54_1) .ret))
noncomputable def q54 : List RR := [(.slot (.var 2))]
theorem z54 {n m : Nat} : resCode (E54 n m) (Try.f54.body.getD .skip) = some c54 := by kernel_rfl
theorem zr54 {n m : Nat} : resRs (E54 n m) Try.f54.results.toList = some q54 := by kernel_rfl
theorem ok54 {args : List D} {d : D} (hl : args.length = 2) (h : SWp C54 c54 (fun e s => (match e with | .exit _ => False | _ => True) ∧ rrsWp q54 s fun ds => D.closed (oneOrTup ds) = true ∧ (oneOrTup ds).er = d) (St.init C54 args ⟨[], []⟩)) : Pur M 54 args d :=
  pur_of_body (C := C54) (fn := Try.f54) Try.func54 (by kernel_rfl) (by kernel_rfl) (rc := c54) z54 (rs := q54) zr54 (by kernel_rfl) (by rw [hl]; rfl) (by rw [hl]; decide) rfl rfl h
/- 33 bogie.lexer.Name · 1 arguments · kept slots [0, 2, 3, 4, 5, 8, 9, 10, 30] -/
noncomputable def E33 (n m : Nat) : Cfg := ⟨M, [0, 2, 3, 4, 5, 8, 9, 10, 30], 39, n, m, []⟩
noncomputable def C33 : Cfg := E33 0 0
@[reducible] noncomputable def r33_0 : List RO := [
  ⟨.var 1, .mv, [.con (.bool false)], none⟩]
@[reducible] noncomputable def r33_1 : List RO := [
  ⟨.loc 6, .call, [(.con (.fn (.func 50) [] []))], none⟩,
  ⟨.var 2, .newb zl256, [], none⟩,
  ⟨.none, .st 256, [.var 2, .loc 6], none⟩]
@[reducible] noncomputable def r33_2 : List RO := [
  ⟨.loc 7, .mv, [.var 0], none⟩,
  ⟨.var 5, .lenS, [.loc 7], none⟩,
  ⟨.var 6, .mv, [.con (.int .i64 0)], none⟩]
@[reducible] noncomputable def r33_3 : List RO := [
  ⟨.var 7, .bin .lss, [.var 6, .var 5], none⟩]
@[reducible] noncomputable def r33_4 : List RO := [
  ⟨.loc 11, .mv, [.var 6], none⟩,
  ⟨.var 3, .mv, [.loc 11], none⟩]
@[reducible] noncomputable def r33_5 : List RO := [
  ⟨.loc 12, .mv, [.var 0], none⟩,
  ⟨.loc 13, .mv, [.var 3], none⟩,
  ⟨.loc 14, .ixvS, [.loc 12, .loc 13], none⟩,
  ⟨.loc 15, .ixaA 256 1, [.var 2, .loc 14], none⟩,
  ⟨.loc 16, .ld false 1, [.loc 15], none⟩,
  ⟨.var 4, .mv, [.loc 16], none⟩]
@[reducible] noncomputable def r33_6 : List RO := [
  ⟨.loc 17, .mv, [.var 4], none⟩,
  ⟨.loc 18, .bin .neq, [.loc 17, (.con (.int .u8 3))], none⟩,
  ⟨.loc 19, .mv, [.loc 18], none⟩,
  ⟨.loc 20, .mv, [.var 3], (some (.loc 19, true))⟩,
  ⟨.loc 21, .bin .eql, [.loc 20, .con (.int .i64 0)], (some (.loc 19, true))⟩,
  ⟨.loc 22, .mv, [.loc 21], (some (.loc 19, true))⟩,
  ⟨.loc 23, .mv, [.var 4], (some (.loc 22, false))⟩,
  ⟨.loc 24, .bin .neq, [.loc 23, (.con (.int .u8 4))], (some (.loc 22, false))⟩,
  ⟨.loc 25, .mv, [.loc 24], (some (.loc 22, false))⟩,
  ⟨.loc 26, .mv, [.var 4], (some (.loc 25, true))⟩,
  ⟨.loc 27, .bin .neq, [.loc 26, (.con (.int .u8 5))], (some (.loc 25, true))⟩,
  ⟨.loc 28, .pick, [.loc 25, .loc 27, .con (.bool false)], (some (.loc 22, false))⟩,
  ⟨.loc 29, .pick, [.loc 22, .con (.bool true), .loc 28], (some (.loc 19, true))⟩,
  ⟨.var 8, .pick, [.loc 19, .loc 29, .con (.bool false)], none⟩]
@[reducible] noncomputable def r33_7 : List RO := [
  ⟨.var 1, .mv, [.con (.bool false)], none⟩]
@[reducible] noncomputable def r33_8 : List RO := [
  ⟨.loc 31, .bin .add, [.var 6, .con (.int .i64 1)], none⟩,
  ⟨.var 6, .mv, [.loc 31], none⟩]
@[reducible] noncomputable def r33_9 : List RO := [
  ⟨.loc 32, .mv, [.var 0], none⟩,
  ⟨.loc 33, .bin .neq, [.loc 32, (.con (.str []))], none⟩,
  ⟨.loc 34, .mv, [.loc 33], none⟩,
  ⟨.loc 35, .mv, [.var 0], (some (.loc 34, true))⟩,
  ⟨.loc 36, .lenS, [.loc 35], (some (.loc 34, true))⟩,
  ⟨.loc 37, .bin .leq, [.loc 36, .con (.int .i64 24)], (some (.loc 34, true))⟩,
  ⟨.loc 38, .pick, [.loc 34, .loc 37, .con (.bool false)], none⟩,
  ⟨.var 1, .mv, [.loc 38], none⟩]
theorem P33 : C33.M = M := by unfold C33 E33; rfl
theorem i33 {a0 : D} : St.init C33 [a0] ⟨[], []⟩ = ⟨[a0, .undef, .undef, .undef, .undef, .undef, .undef, .undef, .undef], [], ⟨[], []⟩⟩ := by unfold C33 E33; rfl
noncomputable def c33 : RC := (.seq (.reg r33_0) (.seq (.reg r33_1) (.seq (.seq (.reg r33_2) (.block 0 (.loop (.seq (.reg r33_3) (.seq (.cond (.var 7) .skip (.exit 0)) (.seq (.block 1 (.seq (.reg r33_4) (.seq (.reg r33_5) (.seq (.reg r33_6) (.cond (.var 8) (.seq (.reg r33_7) .ret) .skip))))) (.reg r33_8))))))) (.seq (.reg r33_9) .ret))))
noncomputable def q33 : List RR := [(.slot (.var 1))]
theorem z33 {n m : Nat} : resCode (E33 n m) (Try.f33.body.getD .skip) = some c33 := by kernel_rfl
theorem zr33 {n m : Nat} : resRs (E33 n m) Try.f33.results.toList = some q33 := by kernel_rfl
theorem ok33 {args : List D} {d : D} (hl : args.length = 1) (h : SWp C33 c33 (fun e s => (match e with | .exit _ => False | _ => True) ∧ rrsWp q33 s fun ds => D.closed (oneOrTup ds) = true ∧ (oneOrTup ds).er = d) (St.init C33 args ⟨[], []⟩)) : Pur M 33 args d :=
  pur_of_body (C := C33) (fn := Try.f33) Try.func33 (by kernel_rfl) (by kernel_rfl) (rc := c33) z33 (rs := q33) zr33 (by kernel_rfl) (by rw [hl]; rfl) (by rw [hl]; decide) rfl rfl h
/- 50 bogie.lexer.classes · 0 arguments · kept slots [0, 1, 2, 3, 4, 5, 9, 24, 33, 39] -/
noncomputable def E50 (n m : Nat) : Cfg := ⟨M, [0, 1, 2, 3, 4, 5, 9, 24, 33, 39], 50, n, m, []⟩
noncomputable def C50 : Cfg := E50 0 0
@[reducible] noncomputable def r50_0 : List RO := [
  ⟨.var 0, .newb zl256, [], none⟩]
@[reducible] noncomputable def r50_1 : List RO := [
  ⟨.var 1, .newb zl256, [], none⟩]
@[reducible] noncomputable def r50_2 : List RO := [
  ⟨.var 4, .mv, [.con (.int .i64 0)], none⟩]
@[reducible] noncomputable def r50_3 : List RO := [
  ⟨.var 5, .bin .lss, [.var 4, .con (.int .i64 256)], none⟩]
@[reducible] noncomputable def r50_4 : List RO := [
  ⟨.loc 6, .mv, [.var 4], none⟩,
  ⟨.var 2, .mv, [.loc 6], none⟩]
@[reducible] noncomputable def r50_5 : List RO := [
  ⟨.loc 7, .mv, [.var 2], none⟩,
  ⟨.loc 8, .cvI .u8, [.loc 7], none⟩,
  ⟨.var 3, .mv, [.loc 8], none⟩]
@[reducible] noncomputable def r50_6 : List RO := [
  ⟨.loc 10, .mv, [.var 3], none⟩,
  ⟨.loc 11, .bin .leq, [(.con (.int .u8 97)), .loc 10], none⟩,
  ⟨.loc 12, .mv, [.loc 11], none⟩,
  ⟨.loc 13, .mv, [.var 3], (some (.loc 12, true))⟩,
  ⟨.loc 14, .bin .leq, [.loc 13, (.con (.int .u8 122))], (some (.loc 12, true))⟩,
  ⟨.loc 15, .pick, [.loc 12, .loc 14, .con (.bool false)], none⟩,
  ⟨.var 6, .mv, [.loc 15], none⟩]
@[reducible] noncomputable def r50_7 : List RO := [
  ⟨.loc 16, .mv, [.var 3], none⟩,
  ⟨.loc 17, .bin .leq, [(.con (.int .u8 65)), .loc 16], none⟩,
  ⟨.loc 18, .mv, [.loc 17], none⟩,
  ⟨.loc 19, .mv, [.var 3], (some (.loc 18, true))⟩,
  ⟨.loc 20, .bin .leq, [.loc 19, (.con (.int .u8 90))], (some (.loc 18, true))⟩,
  ⟨.loc 21, .pick, [.loc 18, .loc 20, .con (.bool false)], none⟩,
  ⟨.var 6, .mv, [.loc 21], none⟩]
@[reducible] noncomputable def r50_8 : List RO := [
  ⟨.loc 22, .mv, [.var 2], none⟩,
  ⟨.loc 23, .ixaA 256 1, [.var 1, .loc 22], none⟩,
  ⟨.none, .st 1, [.loc 23, (.con (.int .u8 3))], none⟩]
@[reducible] noncomputable def r50_9 : List RO := [
  ⟨.loc 25, .mv, [.var 3], none⟩,
  ⟨.loc 26, .bin .leq, [(.con (.int .u8 48)), .loc 25], none⟩,
  ⟨.loc 27, .mv, [.loc 26], none⟩,
  ⟨.loc 28, .mv, [.var 3], (some (.loc 27, true))⟩,
  ⟨.loc 29, .bin .leq, [.loc 28, (.con (.int .u8 57))], (some (.loc 27, true))⟩,
  ⟨.loc 30, .pick, [.loc 27, .loc 29, .con (.bool false)], none⟩,
  ⟨.var 7, .mv, [.loc 30], none⟩]
@[reducible] noncomputable def r50_10 : List RO := [
  ⟨.loc 31, .mv, [.var 2], none⟩,
  ⟨.loc 32, .ixaA 256 1, [.var 1, .loc 31], none⟩,
  ⟨.none, .st 1, [.loc 32, (.con (.int .u8 4))], none⟩]
@[reducible] noncomputable def r50_11 : List RO := [
  ⟨.loc 34, .mv, [.var 3], none⟩,
  ⟨.loc 35, .call, [(.con (.fn (.func 64) [] [])), (.con (.str [32, 9, 10])), .loc 34], none⟩,
  ⟨.loc 36, .bin .geq, [.loc 35, .con (.int .i64 0)], none⟩,
  ⟨.var 8, .mv, [.loc 36], none⟩]
@[reducible] noncomputable def r50_12 : List RO := [
  ⟨.loc 37, .mv, [.var 2], none⟩,
  ⟨.loc 38, .ixaA 256 1, [.var 1, .loc 37], none⟩,
  ⟨.none, .st 1, [.loc 38, (.con (.int .u8 1))], none⟩]
@[reducible] noncomputable def r50_13 : List RO := [
  ⟨.loc 40, .mv, [.var 3], none⟩,
  ⟨.loc 41, .call, [(.con (.fn (.func 64) [] [])), (.con (.str [59, 44, 46, 58, 40, 41, 123, 125, 91, 93, 61, 60, 62, 47, 43, 45, 42])), .loc 40], none⟩,
  ⟨.loc 42, .bin .geq, [.loc 41, .con (.int .i64 0)], none⟩,
  ⟨.var 9, .mv, [.loc 42], none⟩]
@[reducible] noncomputable def r50_14 : List RO := [
  ⟨.loc 43, .mv, [.var 2], none⟩,
  ⟨.loc 44, .ixaA 256 1, [.var 1, .loc 43], none⟩,
  ⟨.none, .st 1, [.loc 44, (.con (.int .u8 6))], none⟩]
@[reducible] noncomputable def r50_15 : List RO := [
  ⟨.loc 45, .bin .add, [.var 4, .con (.int .i64 1)], none⟩,
  ⟨.var 4, .mv, [.loc 45], none⟩]
@[reducible] noncomputable def r50_16 : List RO := [
  ⟨.loc 46, .ixaA 256 1, [.var 1, .con (.int .i64 35)], none⟩,
  ⟨.none, .st 1, [.loc 46, (.con (.int .u8 2))], none⟩,
  ⟨.loc 47, .ixaA 256 1, [.var 1, .con (.int .i64 95)], none⟩,
  ⟨.none, .st 1, [.loc 47, (.con (.int .u8 5))], none⟩,
  ⟨.loc 48, .ixaA 256 1, [.var 1, .con (.int .i64 34)], none⟩,
  ⟨.none, .st 1, [.loc 48, (.con (.int .u8 7))], none⟩]
@[reducible] noncomputable def r50_17 : List RO := [
  ⟨.loc 49, .ld true 256, [.var 1], none⟩,
  ⟨.none, .st 256, [.var 0, .loc 49], none⟩]
theorem P50 : C50.M = M := by unfold C50 E50; rfl
theorem i50 : St.init C50 [] ⟨[], []⟩ = ⟨[.undef, .undef, .undef, .undef, .undef, .undef, .undef, .undef, .undef, .undef], [], ⟨[], []⟩⟩ := by unfold C50 E50; rfl
noncomputable def c50 : RC := (.seq (.reg r50_0) (.seq (.reg r50_1) (.seq (.seq (.reg r50_2) (.block 0 (.loop (.seq (.reg r50_3) (.seq (.cond (.var 5) .skip (.exit 0)) (.seq (.block 1 (.seq (.reg r50_4) (.seq (.reg r50_5) (.block 2 (.seq (.seq (.reg r50_6) (.cond (.var 6) .skip (.reg r50_7))) (.cond (.var 6) (.reg r50_8) (.seq (.reg r50_9) (.cond (.var 7) (.reg r50_10) (.seq (.reg r50_11) (.cond (.var 8) (.reg r50_12) (.seq (.reg r50_13) (.cond (.var 9) (.reg r50_14) .skip)))))))))))) (.reg r50_15))))))) (.seq (.reg r50_16) (.seq (.reg r50_17) .ret)))))
noncomputable def q50 : List RR := [(.cell (.var 0) true 256)]
theorem z50 {n m : Nat} : resCode (E50 n m) (Try.f50.body.getD .skip) = some c50 := by kernel_rfl
theorem zr50 {n m : Nat} : resRs (E50 n m) Try.f50.results.toList = some q50 := by kernel_rfl
theorem ok50 {args : List D} {d : D} (hl : args.length = 0) (h : SWp C50 c50 (fun e s => (match e with | .exit _ => False | _ => True) ∧ rrsWp q50 s fun ds => D.closed (oneOrTup ds) = true ∧ (oneOrTup ds).er = d) (St.init C50 args ⟨[], []⟩)) : Pur M 50 args d :=
  pur_of_body (C := C50) (fn := Try.f50) Try.func50 (by kernel_rfl) (by kernel_rfl) (rc := c50) z50 (rs := q50) zr50 (by kernel_rfl) (by rw [hl]; rfl) (by rw [hl]; decide) rfl rfl h
/- 55 bogie.rule.reserved · 1 arguments · kept slots [0, 2] -/
noncomputable def E55 (n m : Nat) : Cfg := ⟨M, [0, 2], 6, n, m, []⟩
noncomputable def C55 : Cfg := E55 0 0
@[reducible] noncomputable def r55_0 : List RO := [
  ⟨.var 1, .mv, [.con (.bool false)], none⟩]
@[reducible] noncomputable def r55_1 : List RO := [
  ⟨.loc 3, .bsl 1, [(.con (.str [116, 114, 117, 101])), (.con (.str [110, 111, 116])), (.con (.str [97, 110, 100])), (.con (.str [111, 114])), (.con (.str [108, 105, 109, 105, 116])), (.con (.str [111, 118, 101, 114])), (.con (.str [104, 97, 115])), (.con (.str [115, 108, 111, 116])), (.con (.str [97, 108, 108])), (.con (.str [97, 110, 121])), (.con (.str [97, 116]))], none⟩,
  ⟨.loc 4, .mv, [.var 0], none⟩,
  ⟨.loc 5, .call, [(.con (.fn (.func 66) [] [])), .loc 3, .loc 4], none⟩,
  ⟨.var 1, .mv, [.loc 5], none⟩]
theorem P55 : C55.M = M := by unfold C55 E55; rfl
theorem i55 {a0 : D} : St.init C55 [a0] ⟨[], []⟩ = ⟨[a0, .undef], [], ⟨[], []⟩⟩ := by unfold C55 E55; rfl
noncomputable def c55 : RC := (.seq (.reg r55_0) (.seq (.reg r55_1) .ret))
noncomputable def q55 : List RR := [(.slot (.var 1))]
theorem z55 {n m : Nat} : resCode (E55 n m) (Try.f55.body.getD .skip) = some c55 := by kernel_rfl
theorem zr55 {n m : Nat} : resRs (E55 n m) Try.f55.results.toList = some q55 := by kernel_rfl
theorem ok55 {args : List D} {d : D} (hl : args.length = 1) (h : SWp C55 c55 (fun e s => (match e with | .exit _ => False | _ => True) ∧ rrsWp q55 s fun ds => D.closed (oneOrTup ds) = true ∧ (oneOrTup ds).er = d) (St.init C55 args ⟨[], []⟩)) : Pur M 55 args d :=
  pur_of_body (C := C55) (fn := Try.f55) Try.func55 (by kernel_rfl) (by kernel_rfl) (rc := c55) z55 (rs := q55) zr55 (by kernel_rfl) (by rw [hl]; rfl) (by rw [hl]; decide) rfl rfl h
/- 66 slices.Contains[[]string,string] · 2 arguments · kept slots [0, 1, 4] -/
noncomputable def E66 (n m : Nat) : Cfg := ⟨M, [0, 1, 4], 9, n, m, []⟩
noncomputable def C66 : Cfg := E66 0 0
@[reducible] noncomputable def r66_0 : List RO := [
  ⟨.var 2, .mv, [.con (.bool false)], none⟩]
@[reducible] noncomputable def r66_1 : List RO := [
  ⟨.loc 5, .mv, [.var 0], none⟩,
  ⟨.loc 6, .mv, [.var 1], none⟩,
  ⟨.loc 7, .call, [(.con (.fn (.func 76) [] [])), .loc 5, .loc 6], none⟩,
  ⟨.loc 8, .bin .geq, [.loc 7, .con (.int .i64 0)], none⟩,
  ⟨.var 2, .mv, [.loc 8], none⟩]
theorem P66 : C66.M = M := by unfold C66 E66; rfl
theorem i66 {a0 a1 : D} : St.init C66 [a0, a1] ⟨[], []⟩ = ⟨[a0, a1, .undef], [], ⟨[], []⟩⟩ := by unfold C66 E66; rfl
noncomputable def c66 : RC := (.seq (.reg r66_0) (.seq (.reg r66_1) .ret))
noncomputable def q66 : List RR := [(.slot (.var 2))]
theorem z66 {n m : Nat} : resCode (E66 n m) (Try.f66.body.getD .skip) = some c66 := by kernel_rfl
theorem zr66 {n m : Nat} : resRs (E66 n m) Try.f66.results.toList = some q66 := by kernel_rfl
theorem ok66 {args : List D} {d : D} (hl : args.length = 2) (h : SWp C66 c66 (fun e s => (match e with | .exit _ => False | _ => True) ∧ rrsWp q66 s fun ds => D.closed (oneOrTup ds) = true ∧ (oneOrTup ds).er = d) (St.init C66 args ⟨[], []⟩)) : Pur M 66 args d :=
  pur_of_body (C := C66) (fn := Try.f66) Try.func66 (by kernel_rfl) (by kernel_rfl) (rc := c66) z66 (rs := q66) zr66 (by kernel_rfl) (by rw [hl]; rfl) (by rw [hl]; decide) rfl rfl h
/- 76 slices.Index[[]string,string] · 2 arguments · kept slots [0, 1, 4, 5, 7, 8, 9, 16] -/
noncomputable def E76 (n m : Nat) : Cfg := ⟨M, [0, 1, 4, 5, 7, 8, 9, 16], 19, n, m, []⟩
noncomputable def C76 : Cfg := E76 0 0
@[reducible] noncomputable def r76_0 : List RO := [
  ⟨.var 2, .mv, [.con (.int .i64 0)], none⟩]
@[reducible] noncomputable def r76_1 : List RO := [
  ⟨.loc 6, .mv, [.var 0], none⟩,
  ⟨.var 4, .lenL, [.loc 6], none⟩,
  ⟨.var 5, .mv, [.con (.int .i64 0)], none⟩]
@[reducible] noncomputable def r76_2 : List RO := [
  ⟨.var 6, .bin .lss, [.var 5, .var 4], none⟩]
@[reducible] noncomputable def r76_3 : List RO := [
  ⟨.loc 10, .mv, [.var 5], none⟩,
  ⟨.var 3, .mv, [.loc 10], none⟩]
@[reducible] noncomputable def r76_4 : List RO := [
  ⟨.loc 11, .mv, [.var 1], none⟩,
  ⟨.loc 12, .mv, [.var 0], none⟩,
  ⟨.loc 13, .mv, [.var 3], none⟩,
  ⟨.loc 14, .ixaS 1, [.loc 12, .loc 13], none⟩,
  ⟨.loc 15, .ld false 1, [.loc 14], none⟩,
  ⟨.var 7, .bin .eql, [.loc 11, .loc 15], none⟩]
@[reducible] noncomputable def r76_5 : List RO := [
  ⟨.loc 17, .mv, [.var 3], none⟩,
  ⟨.var 2, .mv, [.loc 17], none⟩]
@[reducible] noncomputable def r76_6 : List RO := [
  ⟨.loc 18, .bin .add, [.var 5, .con (.int .i64 1)], none⟩,
  ⟨.var 5, .mv, [.loc 18], none⟩]
@[reducible] noncomputable def r76_7 : List RO := [
  ⟨.var 2, .mv, [(.con (.int .i64 (-1)))], none⟩]
theorem P76 : C76.M = M := by unfold C76 E76; rfl
theorem i76 {a0 a1 : D} : St.init C76 [a0, a1] ⟨[], []⟩ = ⟨[a0, a1, .undef, .undef, .undef, .undef, .undef, .undef], [], ⟨[], []⟩⟩ := by unfold C76 E76; rfl
noncomputable def c76 : RC := (.seq (.reg r76_0) (.seq (.seq (.reg r76_1) (.block 0 (.loop (.seq (.reg r76_2) (.seq (.cond (.var 6) .skip (.exit 0)) (.seq (.block 1 (.seq (.reg r76_3) (.seq (.reg r76_4) (.cond (.var 7) (.seq (.reg r76_5) .ret) .skip)))) (.reg r76_6))))))) (.seq (.reg r76_7) .ret)))
noncomputable def q76 : List RR := [(.slot (.var 2))]
theorem z76 {n m : Nat} : resCode (E76 n m) (Try.f76.body.getD .skip) = some c76 := by kernel_rfl
theorem zr76 {n m : Nat} : resRs (E76 n m) Try.f76.results.toList = some q76 := by kernel_rfl
theorem ok76 {args : List D} {d : D} (hl : args.length = 2) (h : SWp C76 c76 (fun e s => (match e with | .exit _ => False | _ => True) ∧ rrsWp q76 s fun ds => D.closed (oneOrTup ds) = true ∧ (oneOrTup ds).er = d) (St.init C76 args ⟨[], []⟩)) : Pur M 76 args d :=
  pur_of_body (C := C76) (fn := Try.f76) Try.func76 (by kernel_rfl) (by kernel_rfl) (rc := c76) z76 (rs := q76) zr76 (by kernel_rfl) (by rw [hl]; rfl) (by rw [hl]; decide) rfl rfl h
/- 36 bogie.rule.node · 1 arguments · kept slots [0, 1, 2, 3, 4, 5, 6, 7, 16, 17, 19, 25, 32, 50, 59, 79, 81, 89, 96, 105] -/
noncomputable def E36 (n m : Nat) : Cfg := ⟨M, [0, 1, 2, 3, 4, 5, 6, 7, 16, 17, 19, 25, 32, 50, 59, 79, 81, 89, 96, 105], 147, n, m, []⟩
noncomputable def C36 : Cfg := E36 0 0
@[reducible] noncomputable def r36_0 : List RO := [
  ⟨.var 1, .box, [.var 0], none⟩,
  ⟨.var 2, .mv, [.con (.bool false)], none⟩]
@[reducible] noncomputable def r36_1 : List RO := [
  ⟨.loc 8, .fld 0, [.var 1], none⟩,
  ⟨.loc 9, .ld false 1, [.loc 8], none⟩,
  ⟨.loc 10, (.bld [(.int .i64 0), (.str []), (.str []), (.int .i64 0), (.int .i64 0), (.lit (.slice none 0 0))] [(0, 1)]), [.loc 9], none⟩,
  ⟨.var 3, (.newb [(.int .i64 0), (.str []), (.str []), (.int .i64 0), (.int .i64 0), (.lit (.slice none 0 0))]), [], none⟩,
  ⟨.none, .st 6, [.var 3, .loc 10], none⟩]
@[reducible] noncomputable def r36_2 : List RO := [
  ⟨.loc 11, .fld 5, [.var 1], none⟩,
  ⟨.loc 12, .ld false 1, [.loc 11], none⟩,
  ⟨.loc 13, .lenL, [.loc 12], none⟩,
  ⟨.loc 14, .bin .eql, [.loc 13, .con (.int .i64 0)], none⟩,
  ⟨.var 4, .mv, [.loc 14], none⟩,
  ⟨.var 5, .mv, [.con (.bool true)], none⟩]
@[reducible] noncomputable def r36_3 : List RO := [
  ⟨.var 6, .mv, [(.con (.fn (.func 54) [] []))], none⟩]
@[reducible] noncomputable def r36_4 : List RO := [
  ⟨.var 7, .mv, [.con (.bool true)], none⟩]
@[reducible] noncomputable def r36_5 : List RO := [
  ⟨.loc 15, .fld 0, [.var 1], none⟩,
  ⟨.var 8, .ld false 1, [.loc 15], none⟩]
@[reducible] noncomputable def r36_6 : List RO := [
  ⟨.loc 18, .bin .eql, [.var 8, .con (.int .i64 1)], none⟩,
  ⟨.var 9, .mv, [.loc 18], none⟩]
@[reducible] noncomputable def r36_7 : List RO := [
  ⟨.var 5, .mv, [.con (.bool false)], none⟩]
@[reducible] noncomputable def r36_8 : List RO := [
  ⟨.loc 20, .bin .eql, [.var 8, .con (.int .i64 2)], none⟩,
  ⟨.var 10, .mv, [.loc 20], none⟩]
@[reducible] noncomputable def r36_9 : List (RO × Bool) := [
  (⟨.loc 21, .fld 5, [.var 1], none⟩, true),
  (⟨.loc 22, .ld false 1, [.loc 21], none⟩, true),
  (⟨.loc 23, .lenL, [.loc 22], none⟩, true),
  (⟨.loc 24, .bin .eql, [.loc 23, .con (.int .i64 1)], none⟩, true),
  (⟨.var 5, .mv, [.con (.bool false)], none⟩, true)]
@[reducible] noncomputable def r36_10 : List RO := [
  ⟨.var 4, .mv, [.loc 24], none⟩]
@[reducible] noncomputable def r36_11 : List RO := [
  ⟨.loc 26, .bin .eql, [.var 8, .con (.int .i64 3)], none⟩,
  ⟨.var 11, .mv, [.loc 26], none⟩]
@[reducible] noncomputable def r36_12 : List RO := [
  ⟨.loc 27, .bin .eql, [.var 8, .con (.int .i64 4)], none⟩,
  ⟨.var 11, .mv, [.loc 27], none⟩]
@[reducible] noncomputable def r36_13 : List (RO × Bool) := [
  (⟨.loc 28, .fld 5, [.var 1], none⟩, true),
  (⟨.loc 29, .ld false 1, [.loc 28], none⟩, true),
  (⟨.loc 30, .lenL, [.loc 29], none⟩, true),
  (⟨.loc 31, .bin .gtr, [.loc 30, .con (.int .i64 1)], none⟩, true),
  (⟨.var 5, .mv, [.con (.bool false)], none⟩, true)]
@[reducible] noncomputable def r36_14 : List RO := [
  ⟨.var 4, .mv, [.loc 31], none⟩]
@[reducible] noncomputable def r36_15 : List RO := [
  ⟨.loc 33, .bin .eql, [.var 8, .con (.int .i64 5)], none⟩,
  ⟨.var 12, .mv, [.loc 33], none⟩]
@[reducible] noncomputable def r36_16 : List (RO × Bool) := [
  (⟨.loc 34, .fld 3, [.var 1], none⟩, true),
  (⟨.loc 35, .ld false 1, [.loc 34], none⟩, true),
  (⟨.loc 36, .fld 4, [.var 1], none⟩, true),
  (⟨.loc 37, .ld false 1, [.loc 36], none⟩, true),
  (⟨.loc 38, .mv, [.var 6], none⟩, true),
  (⟨.loc 39, .fld 3, [.var 1], none⟩, true),
  (⟨.loc 40, .ld false 1, [.loc 39], none⟩, true),
  (⟨.loc 41, .call, [.loc 38, .loc 40, .con (.int .i64 0)], none⟩, true),
  (⟨.loc 42, .mv, [.loc 41], none⟩, true),
  (⟨.loc 43, .mv, [.var 6], (some (.loc 42, true))⟩, true),
  (⟨.loc 44, .fld 4, [.var 1], (some (.loc 42, true))⟩, true),
  (⟨.loc 45, .ld false 1, [.loc 44], (some (.loc 42, true))⟩, true),
  (⟨.loc 46, .call, [.loc 43, .loc 45, .con (.int .i64 0)], (some (.loc 42, true))⟩, true),
  (⟨.loc 47, .pick, [.loc 42, .loc 46, .con (.bool false)], none⟩, true),
  (⟨.loc 48, .fld 3, [.var 3], none⟩, true),
  (⟨.none, .st 1, [.loc 48, .loc 35], none⟩, true),
  (⟨.loc 49, .fld 4, [.var 3], none⟩, true),
  (⟨.none, .st 1, [.loc 49, .loc 37], none⟩, false)]
@[reducible] noncomputable def r36_17 : List RO := [
  ⟨.var 7, .mv, [.loc 47], none⟩]
@[reducible] noncomputable def r36_18 : List RO := [
  ⟨.loc 51, .bin .eql, [.var 8, .con (.int .i64 6)], none⟩,
  ⟨.var 13, .mv, [.loc 51], none⟩]
@[reducible] noncomputable def r36_19 : List (RO × Bool) := [
  (⟨.loc 52, .fld 3, [.var 1], none⟩, true),
  (⟨.loc 53, .ld false 1, [.loc 52], none⟩, true),
  (⟨.loc 54, .mv, [.var 6], none⟩, true),
  (⟨.loc 55, .fld 3, [.var 1], none⟩, true),
  (⟨.loc 56, .ld false 1, [.loc 55], none⟩, true),
  (⟨.loc 57, .call, [.loc 54, .loc 56, .con (.int .i64 0)], none⟩, true),
  (⟨.loc 58, .fld 3, [.var 3], none⟩, true)]
@[reducible] noncomputable def r36_20 : List RO := [
  ⟨.none, .st 1, [.loc 58, .loc 53], none⟩,
  ⟨.var 7, .mv, [.loc 57], none⟩]
@[reducible] noncomputable def r36_21 : List RO := [
  ⟨.loc 60, .bin .eql, [.var 8, .con (.int .i64 7)], none⟩,
  ⟨.var 14, .mv, [.loc 60], none⟩]
@[reducible] noncomputable def r36_22 : List (RO × Bool) := [
  (⟨.loc 61, .fld 2, [.var 1], none⟩, true),
  (⟨.loc 62, .ld false 1, [.loc 61], none⟩, true),
  (⟨.loc 63, .fld 2, [.var 1], none⟩, true),
  (⟨.loc 64, .ld false 1, [.loc 63], none⟩, true),
  (⟨.loc 65, .bin .neq, [.loc 64, (.con (.str []))], none⟩, true),
  (⟨.loc 66, .mv, [.loc 65], none⟩, true),
  (⟨.loc 67, .fld 2, [.var 1], (some (.loc 66, true))⟩, true),
  (⟨.loc 68, .ld false 1, [.loc 67], (some (.loc 66, true))⟩, true),
  (⟨.loc 69, .lenS, [.loc 68], (some (.loc 66, true))⟩, true),
  (⟨.loc 70, .bin .leq, [.loc 69, .con (.int .i64 200)], (some (.loc 66, true))⟩, true),
  (⟨.loc 71, .pick, [.loc 66, .loc 70, .con (.bool false)], none⟩, true),
  (⟨.loc 72, .mv, [.loc 71], none⟩, true),
  (⟨.loc 73, .fld 1, [.var 1], (some (.loc 72, true))⟩, true),
  (⟨.loc 74, .ld false 1, [.loc 73], (some (.loc 72, true))⟩, true),
  (⟨.loc 75, .call, [(.con (.fn (.func 55) [] [])), .loc 74], (some (.loc 72, true))⟩, true),
  (⟨.loc 76, .un .not, [.loc 75], (some (.loc 72, true))⟩, true),
  (⟨.loc 77, .pick, [.loc 72, .loc 76, .con (.bool false)], none⟩, true),
  (⟨.loc 78, .fld 2, [.var 3], none⟩, true),
  (⟨.none, .st 1, [.loc 78, .loc 62], none⟩, false)]
@[reducible] noncomputable def r36_23 : List RO := [
  ⟨.var 7, .mv, [.loc 77], none⟩]
@[reducible] noncomputable def r36_24 : List RO := [
  ⟨.loc 80, .bin .eql, [.var 8, .con (.int .i64 8)], none⟩,
  ⟨.var 15, .mv, [.loc 80], none⟩]
@[reducible] noncomputable def r36_25 : List RO := [
  ⟨.loc 82, .bin .eql, [.var 8, .con (.int .i64 9)], none⟩,
  ⟨.var 16, .mv, [.loc 82], none⟩]
@[reducible] noncomputable def r36_26 : List (RO × Bool) := [
  (⟨.loc 83, .fld 2, [.var 1], none⟩, true),
  (⟨.loc 84, .ld false 1, [.loc 83], none⟩, true),
  (⟨.loc 85, .fld 2, [.var 1], none⟩, true),
  (⟨.loc 86, .ld false 1, [.loc 85], none⟩, true),
  (⟨.loc 87, .call, [(.con (.fn (.func 33) [] [])), .loc 86], none⟩, true),
  (⟨.loc 88, .fld 2, [.var 3], none⟩, true)]
@[reducible] noncomputable def r36_27 : List RO := [
  ⟨.none, .st 1, [.loc 88, .loc 84], none⟩,
  ⟨.var 7, .mv, [.loc 87], none⟩]
@[reducible] noncomputable def r36_28 : List RO := [
  ⟨.loc 90, .bin .eql, [.var 8, .con (.int .i64 10)], none⟩,
  ⟨.var 17, .mv, [.loc 90], none⟩]
@[reducible] noncomputable def r36_29 : List RO := [
  ⟨.loc 91, .bin .eql, [.var 8, .con (.int .i64 11)], none⟩,
  ⟨.var 17, .mv, [.loc 91], none⟩]
@[reducible] noncomputable def r36_30 : List RO := [
  ⟨.loc 92, .fld 5, [.var 1], none⟩,
  ⟨.loc 93, .ld false 1, [.loc 92], none⟩,
  ⟨.loc 94, .lenL, [.loc 93], none⟩,
  ⟨.loc 95, .bin .eql, [.loc 94, .con (.int .i64 1)], none⟩,
  ⟨.var 4, .mv, [.loc 95], none⟩]
@[reducible] noncomputable def r36_31 : List RO := [
  ⟨.loc 97, .bin .eql, [.var 8, .con (.int .i64 12)], none⟩,
  ⟨.var 18, .mv, [.loc 97], none⟩]
@[reducible] noncomputable def r36_32 : List (RO × Bool) := [
  (⟨.loc 98, .fld 3, [.var 1], none⟩, true),
  (⟨.loc 99, .ld false 1, [.loc 98], none⟩, true),
  (⟨.loc 100, .mv, [.var 6], none⟩, true),
  (⟨.loc 101, .fld 3, [.var 1], none⟩, true),
  (⟨.loc 102, .ld false 1, [.loc 101], none⟩, true),
  (⟨.loc 103, .call, [.loc 100, .loc 102, .con (.int .i64 1)], none⟩, true),
  (⟨.loc 104, .fld 3, [.var 3], none⟩, true)]
@[reducible] noncomputable def r36_33 : List RO := [
  ⟨.none, .st 1, [.loc 104, .loc 99], none⟩,
  ⟨.var 7, .mv, [.loc 103], none⟩]
@[reducible] noncomputable def r36_34 : List RO := [
  ⟨.var 2, .mv, [.con (.bool false)], none⟩]
@[reducible] noncomputable def r36_35 : List RO := [
  ⟨.var 19, .mv, [.var 5], none⟩]
@[reducible] noncomputable def r36_36 : List (RO × Bool) := [
  (⟨.loc 106, .fld 1, [.var 1], none⟩, true),
  (⟨.loc 107, .ld false 1, [.loc 106], none⟩, true),
  (⟨.loc 108, .mv, [.var 7], none⟩, true),
  (⟨.loc 109, .mv, [.loc 108], none⟩, true),
  (⟨.loc 110, .fld 1, [.var 1], (some (.loc 109, true))⟩, true),
  (⟨.loc 111, .ld false 1, [.loc 110], (some (.loc 109, true))⟩, true),
  (⟨.loc 112, .call, [(.con (.fn (.func 33) [] [])), .loc 111], (some (.loc 109, true))⟩, true),
  (⟨.loc 113, .pick, [.loc 109, .loc 112, .con (.bool false)], none⟩, true),
  (⟨.loc 114, .fld 1, [.var 3], none⟩, true),
  (⟨.none, .st 1, [.loc 114, .loc 107], none⟩, false)]
@[reducible] noncomputable def r36_37 : List RO := [
  ⟨.var 7, .mv, [.loc 113], none⟩]
@[reducible] noncomputable def r36_38 : List RO := [
  ⟨.loc 115, .mv, [.var 7], none⟩,
  ⟨.loc 116, .mv, [.loc 115], none⟩,
  ⟨.loc 117, .mv, [.var 4], (some (.loc 116, true))⟩,
  ⟨.loc 118, .pick, [.loc 116, .loc 117, .con (.bool false)], none⟩,
  ⟨.loc 119, .mv, [.loc 118], none⟩,
  ⟨.loc 120, .fld 1, [.var 3], (some (.loc 119, true))⟩,
  ⟨.loc 121, .ld false 1, [.loc 120], (some (.loc 119, true))⟩,
  ⟨.loc 122, .fld 1, [.var 1], (some (.loc 119, true))⟩,
  ⟨.loc 123, .ld false 1, [.loc 122], (some (.loc 119, true))⟩,
  ⟨.loc 124, .bin .eql, [.loc 121, .loc 123], (some (.loc 119, true))⟩,
  ⟨.loc 125, .pick, [.loc 119, .loc 124, .con (.bool false)], none⟩,
  ⟨.loc 126, .mv, [.loc 125], none⟩,
  ⟨.loc 127, .fld 2, [.var 3], (some (.loc 126, true))⟩,
  ⟨.loc 128, .ld false 1, [.loc 127], (some (.loc 126, true))⟩,
  ⟨.loc 129, .fld 2, [.var 1], (some (.loc 126, true))⟩,
  ⟨.loc 130, .ld false 1, [.loc 129], (some (.loc 126, true))⟩,
  ⟨.loc 131, .bin .eql, [.loc 128, .loc 130], (some (.loc 126, true))⟩,
  ⟨.loc 132, .pick, [.loc 126, .loc 131, .con (.bool false)], none⟩,
  ⟨.loc 133, .mv, [.loc 132], none⟩,
  ⟨.loc 134, .fld 3, [.var 3], (some (.loc 133, true))⟩,
  ⟨.loc 135, .ld false 1, [.loc 134], (some (.loc 133, true))⟩,
  ⟨.loc 136, .fld 3, [.var 1], (some (.loc 133, true))⟩,
  ⟨.loc 137, .ld false 1, [.loc 136], (some (.loc 133, true))⟩,
  ⟨.loc 138, .bin .eql, [.loc 135, .loc 137], (some (.loc 133, true))⟩,
  ⟨.loc 139, .pick, [.loc 133, .loc 138, .con (.bool false)], none⟩,
  ⟨.loc 140, .mv, [.loc 139], none⟩,
  ⟨.loc 141, .fld 4, [.var 3], (some (.loc 140, true))⟩,
  ⟨.loc 142, .ld false 1, [.loc 141], (some (.loc 140, true))⟩,
  ⟨.loc 143, .fld 4, [.var 1], (some (.loc 140, true))⟩,
  ⟨.loc 144, .ld false 1, [.loc 143], (some (.loc 140, true))⟩,
  ⟨.loc 145, .bin .eql, [.loc 142, .loc 144], (some (.loc 140, true))⟩,
  ⟨.loc 146, .pick, [.loc 140, .loc 145, .con (.bool false)], none⟩,
  ⟨.var 2, .mv, [.loc 146], none⟩]
theorem P36 : C36.M = M := by unfold C36 E36; rfl
theorem i36 {a0 : D} : St.init C36 [a0] ⟨[], []⟩ = ⟨[a0, .undef, .undef, .undef, .undef, .undef, .undef, .undef, .undef, .undef, .undef, .undef, .undef, .undef, .undef, .undef, .undef, .undef, .undef, .undef], [], ⟨[], []⟩⟩ := by unfold C36 E36; rfl
noncomputable def c36 : RC := (.seq (.reg r36_0) (.seq (.reg r36_1) (.seq (.reg r36_2) (.seq (.reg r36_3) (.seq (.reg r36_4) (.seq (.seq (.reg r36_5) (.block 0 (.seq (.reg r36_6) (.cond (.var 9) (.reg r36_7) (.seq (.reg r36_8) (.cond (.var 10) (.regD r36_9 r36_10) (.seq (.seq (.reg r36_11) (.cond (.var 11) .skip (.reg r36_12))) (.cond (.var 11) (.regD r36_13 r36_14) (.seq (.reg r36_15) (.cond (.var 12) (.regD r36_16 r36_17) (.seq (.reg r36_18) (.cond (.var 13) (.regD r36_19 r36_20) (.seq (.reg r36_21) (.cond (.var 14) (.regD r36_22 r36_23) (.seq (.reg r36_24) (.cond (.var 15) .skip (.seq (.reg r36_25) (.cond (.var 16) (.regD r36_26 r36_27) (.seq (.seq (.reg r36_28) (.cond (.var 17) .skip (.reg r36_29))) (.cond (.var 17) (.reg r36_30) (.seq (.reg r36_31) (.cond (.var 18) (.regD r36_32 r36_33) (.seq (.reg r36_34) .ret))))))))))))))))))))))) (.seq (.seq (.reg r36_35) (.cond (.var 19) (.regD r36_36 r36_37) .skip)) (.seq (.reg r36_38) .ret))))))))
noncomputable def q36 : List RR := [(.slot (.var 2))]
theorem z36 {n m : Nat} : resCode (E36 n m) (Try.f36.body.getD .skip) = some c36 := by kernel_rfl
theorem zr36 {n m : Nat} : resRs (E36 n m) Try.f36.results.toList = some q36 := by kernel_rfl
theorem ok36 {args : List D} {d : D} (hl : args.length = 1) (h : SWp C36 c36 (fun e s => (match e with | .exit _ => False | _ => True) ∧ rrsWp q36 s fun ds => D.closed (oneOrTup ds) = true ∧ (oneOrTup ds).er = d) (St.init C36 args ⟨[], []⟩)) : Pur M 36 args d :=
  pur_of_body (C := C36) (fn := Try.f36) Try.func36 (by kernel_rfl) (by kernel_rfl) (rc := c36) z36 (rs := q36) zr36 (by kernel_rfl) (by rw [hl]; rfl) (by rw [hl]; decide) rfl rfl h
/- 65 slices.IndexFunc[[]bogie.api.Expr,bogie.api.Expr] · 2 arguments · kept slots [0, 1, 4, 5, 7, 8, 9, 16] -/
noncomputable def E65 (n m : Nat) : Cfg := ⟨M, [0, 1, 4, 5, 7, 8, 9, 16], 19, n, m, []⟩
@[reducible] noncomputable def r65_0 : List RO := [
  ⟨.var 2, .mv, [.con (.int .i64 0)], none⟩]
@[reducible] noncomputable def r65_1 : List RO := [
  ⟨.loc 6, .mv, [.var 0], none⟩,
  ⟨.var 4, .lenL, [.loc 6], none⟩,
  ⟨.var 5, .mv, [.con (.int .i64 0)], none⟩]
@[reducible] noncomputable def r65_2 : List RO := [
  ⟨.var 6, .bin .lss, [.var 5, .var 4], none⟩]
@[reducible] noncomputable def r65_3 : List RO := [
  ⟨.loc 10, .mv, [.var 5], none⟩,
  ⟨.var 3, .mv, [.loc 10], none⟩]
@[reducible] noncomputable def r65_4 : List RO := [
  ⟨.loc 11, .mv, [.var 1], none⟩,
  ⟨.loc 12, .mv, [.var 0], none⟩,
  ⟨.loc 13, .mv, [.var 3], none⟩,
  ⟨.loc 14, .ixaS 6, [.loc 12, .loc 13], none⟩,
  ⟨.loc 15, .ld true 6, [.loc 14], none⟩,
  ⟨.var 7, .call, [.loc 11, .loc 15], none⟩]
@[reducible] noncomputable def r65_5 : List RO := [
  ⟨.loc 17, .mv, [.var 3], none⟩,
  ⟨.var 2, .mv, [.loc 17], none⟩]
@[reducible] noncomputable def r65_6 : List RO := [
  ⟨.loc 18, .bin .add, [.var 5, .con (.int .i64 1)], none⟩,
  ⟨.var 5, .mv, [.loc 18], none⟩]
@[reducible] noncomputable def r65_7 : List RO := [
  ⟨.var 2, .mv, [(.con (.int .i64 (-1)))], none⟩]
theorem pe65 {n m : Nat} : (E65 n m).M = M := by unfold E65; rfl
theorem ie65 {n m : Nat} {hp : Hp} {a0 a1 : D} : St.init (E65 n m) [a0, a1] hp = ⟨[a0, a1, .undef, .undef, .undef, .undef, .undef, .undef], [], hp⟩ := by unfold E65; rfl
noncomputable def c65 : RC := (.seq (.reg r65_0) (.seq (.seq (.reg r65_1) (.block 0 (.loop (.seq (.reg r65_2) (.seq (.cond (.var 6) .skip (.exit 0)) (.seq (.block 1 (.seq (.reg r65_3) (.seq (.reg r65_4) (.cond (.var 7) (.seq (.reg r65_5) .ret) .skip)))) (.reg r65_6))))))) (.seq (.reg r65_7) .ret)))
noncomputable def q65 : List RR := [(.slot (.var 2))]
theorem z65 {n m : Nat} : resCode (E65 n m) (Try.f65.body.getD .skip) = some c65 := by kernel_rfl
theorem zr65 {n m : Nat} : resRs (E65 n m) Try.f65.results.toList = some q65 := by kernel_rfl
theorem oe65 {args : List D} {hp : Hp} {R : D → Hp → Prop} (n m : Nat) (hl : args.length = 2) (hn : n = hp.H.length) (hm : m = hp.tk.length) (h : SWp (E65 n m) c65 (fun e s => (match e with | .exit _ => False | _ => True) ∧ ∃ s1, Weak (E65 n m) s s1 ∧ rrsWp q65 s1 fun ds => R (oneOrTup ds) s1.hp) (St.init (E65 n m) args hp)) : Eff M 65 args hp R :=
  eff_of_body (C := E65 n m) (fn := Try.f65) Try.func65 (by kernel_rfl) (by kernel_rfl) (rc := c65) z65 (rs := q65) zr65 (by kernel_rfl) (by rw [hl]; rfl) (by rw [hl]; exact (by decide : 2 ≤ 19)) hn hm h
/- 52 slices.ContainsFunc[[]bogie.api.Expr,bogie.api.Expr] · 2 arguments · kept slots [0, 1, 4] -/
noncomputable def E52 (n m : Nat) : Cfg := ⟨M, [0, 1, 4], 9, n, m, []⟩
@[reducible] noncomputable def r52_0 : List RO := [
  ⟨.var 2, .mv, [.con (.bool false)], none⟩]
@[reducible] noncomputable def r52_1 : List RO := [
  ⟨.loc 5, .mv, [.var 0], none⟩,
  ⟨.loc 6, .mv, [.var 1], none⟩,
  ⟨.loc 7, .call, [(.con (.fn (.func 65) [] [])), .loc 5, .loc 6], none⟩,
  ⟨.loc 8, .bin .geq, [.loc 7, .con (.int .i64 0)], none⟩,
  ⟨.var 2, .mv, [.loc 8], none⟩]
theorem pe52 {n m : Nat} : (E52 n m).M = M := by unfold E52; rfl
theorem ie52 {n m : Nat} {hp : Hp} {a0 a1 : D} : St.init (E52 n m) [a0, a1] hp = ⟨[a0, a1, .undef], [], hp⟩ := by unfold E52; rfl
noncomputable def c52 : RC := (.seq (.reg r52_0) (.seq (.reg r52_1) .ret))
noncomputable def q52 : List RR := [(.slot (.var 2))]
theorem z52 {n m : Nat} : resCode (E52 n m) (Try.f52.body.getD .skip) = some c52 := by kernel_rfl
theorem zr52 {n m : Nat} : resRs (E52 n m) Try.f52.results.toList = some q52 := by kernel_rfl
theorem oe52 {args : List D} {hp : Hp} {R : D → Hp → Prop} (n m : Nat) (hl : args.length = 2) (hn : n = hp.H.length) (hm : m = hp.tk.length) (h : SWp (E52 n m) c52 (fun e s => (match e with | .exit _ => False | _ => True) ∧ ∃ s1, Weak (E52 n m) s s1 ∧ rrsWp q52 s1 fun ds => R (oneOrTup ds) s1.hp) (St.init (E52 n m) args hp)) : Eff M 52 args hp R :=
  eff_of_body (C := E52 n m) (fn := Try.f52) Try.func52 (by kernel_rfl) (by kernel_rfl) (rc := c52) z52 (rs := q52) zr52 (by kernel_rfl) (by rw [hl]; rfl) (by rw [hl]; exact (by decide : 2 ≤ 9)) hn hm h
/- 53 bogie.rule.walk$1 · 2 arguments · kept slots [0, 1, 2, 3] -/
noncomputable def E53 (n m : Nat) : Cfg := ⟨M, [0, 1, 2, 3], 8, n, m, []⟩
@[reducible] noncomputable def r53_0 : List RO := [
  ⟨.var 2, .box, [.var 0], none⟩,
  ⟨.var 3, .mv, [.con (.bool false)], none⟩]
@[reducible] noncomputable def r53_1 : List RO := [
  ⟨.loc 4, .ld true 6, [.var 2], none⟩,
  ⟨.loc 5, .ld false 1, [.var 1], none⟩,
  ⟨.loc 6, .call, [(.con (.fn (.func 35) [] [])), .loc 4, .loc 5], none⟩,
  ⟨.loc 7, .un .not, [.loc 6], none⟩,
  ⟨.var 3, .mv, [.loc 7], none⟩]
theorem pe53 {n m : Nat} : (E53 n m).M = M := by unfold E53; rfl
theorem ie53 {n m : Nat} {hp : Hp} {a0 a1 : D} : St.init (E53 n m) [a0, a1] hp = ⟨[a0, a1, .undef, .undef], [], hp⟩ := by unfold E53; rfl
noncomputable def c53 : RC := (.seq (.reg r53_0) (.seq (.reg r53_1) .ret))
noncomputable def q53 : List RR := [(.slot (.var 3))]
theorem z53 {n m : Nat} : resCode (E53 n m) (Try.f53.body.getD .skip) = some c53 := by kernel_rfl
theorem zr53 {n m : Nat} : resRs (E53 n m) Try.f53.results.toList = some q53 := by kernel_rfl
theorem oe53 {args : List D} {hp : Hp} {R : D → Hp → Prop} (n m : Nat) (hl : args.length = 2) (hn : n = hp.H.length) (hm : m = hp.tk.length) (h : SWp (E53 n m) c53 (fun e s => (match e with | .exit _ => False | _ => True) ∧ ∃ s1, Weak (E53 n m) s s1 ∧ rrsWp q53 s1 fun ds => R (oneOrTup ds) s1.hp) (St.init (E53 n m) args hp)) : Eff M 53 args hp R :=
  eff_of_body (C := E53 n m) (fn := Try.f53) Try.func53 (by kernel_rfl) (by kernel_rfl) (rc := c53) z53 (rs := q53) zr53 (by kernel_rfl) (by rw [hl]; rfl) (by rw [hl]; exact (by decide : 2 ≤ 8)) hn hm h
/- 35 bogie.rule.walk · 2 arguments · kept slots [0, 1, 2, 3, 4] -/
noncomputable def E35 (n m : Nat) : Cfg := ⟨M, [0, 1, 2, 3, 4], 15, n, m, []⟩
noncomputable def C35 : Cfg := E35 0 0
@[reducible] noncomputable def r35_0 : List RO := [
  ⟨.var 2, .box, [.var 0], none⟩,
  ⟨.var 3, .box, [.var 1], none⟩,
  ⟨.var 4, .mv, [.con (.bool false)], none⟩]
@[reducible] noncomputable def r35_1 : List RO := [
  ⟨.loc 5, .ld false 1, [.var 3], none⟩,
  ⟨.loc 6, .ld true 6, [.var 2], none⟩,
  ⟨.loc 7, .call, [.loc 5, .loc 6], none⟩,
  ⟨.loc 8, .mv, [.loc 7], none⟩,
  ⟨.loc 9, .fld 5, [.var 2], (some (.loc 8, true))⟩,
  ⟨.loc 10, .ld false 1, [.loc 9], (some (.loc 8, true))⟩,
  ⟨.loc 11, (.mkF (.func 53) 0), [.var 3], (some (.loc 8, true))⟩,
  ⟨.loc 12, .call, [(.con (.fn (.func 52) [] [])), .loc 10, .loc 11], (some (.loc 8, true))⟩,
  ⟨.loc 13, .un .not, [.loc 12], (some (.loc 8, true))⟩,
  ⟨.loc 14, .pick, [.loc 8, .loc 13, .con (.bool false)], none⟩,
  ⟨.var 4, .mv, [.loc 14], none⟩]
theorem P35 : C35.M = M := by unfold C35 E35; rfl
theorem pe35 {n m : Nat} : (E35 n m).M = M := by unfold E35; rfl
theorem i35 {a0 a1 : D} : St.init C35 [a0, a1] ⟨[], []⟩ = ⟨[a0, a1, .undef, .undef, .undef], [], ⟨[], []⟩⟩ := by unfold C35 E35; rfl
theorem ie35 {n m : Nat} {hp : Hp} {a0 a1 : D} : St.init (E35 n m) [a0, a1] hp = ⟨[a0, a1, .undef, .undef, .undef], [], hp⟩ := by unfold E35; rfl
noncomputable def c35 : RC := (.seq (.reg r35_0) (.seq (.reg r35_1) .ret))
noncomputable def q35 : List RR := [(.slot (.var 4))]
theorem z35 {n m : Nat} : resCode (E35 n m) (Try.f35.body.getD .skip) = some c35 := by kernel_rfl
theorem zr35 {n m : Nat} : resRs (E35 n m) Try.f35.results.toList = some q35 := by kernel_rfl
theorem oe35 {args : List D} {hp : Hp} {R : D → Hp → Prop} (n m : Nat) (hl : args.length = 2) (hn : n = hp.H.length) (hm : m = hp.tk.length) (h : SWp (E35 n m) c35 (fun e s => (match e with | .exit _ => False | _ => True) ∧ ∃ s1, Weak (E35 n m) s s1 ∧ rrsWp q35 s1 fun ds => R (oneOrTup ds) s1.hp) (St.init (E35 n m) args hp)) : Eff M 35 args hp R :=
  eff_of_body (C := E35 n m) (fn := Try.f35) Try.func35 (by kernel_rfl) (by kernel_rfl) (rc := c35) z35 (rs := q35) zr35 (by kernel_rfl) (by rw [hl]; rfl) (by rw [hl]; exact (by decide : 2 ≤ 15)) hn hm h
theorem ok35 {args : List D} {d : D} (hl : args.length = 2) (h : SWp C35 c35 (fun e s => (match e with | .exit _ => False | _ => True) ∧ rrsWp q35 s fun ds => D.closed (oneOrTup ds) = true ∧ (oneOrTup ds).er = d) (St.init C35 args ⟨[], []⟩)) : Pur M 35 args d :=
  pur_of_body (C := C35) (fn := Try.f35) Try.func35 (by kernel_rfl) (by kernel_rfl) (rc := c35) z35 (rs := q35) zr35 (by kernel_rfl) (by rw [hl]; rfl) (by rw [hl]; decide) rfl rfl h
/- 51 bogie.rule.size$1 · 2 arguments · kept slots [0, 1, 3] -/
noncomputable def E51 (n m : Nat) : Cfg := ⟨M, [0, 1, 3], 8, n, m, []⟩
@[reducible] noncomputable def r51_0 : List RO := [
  ⟨.loc 2, .box, [.var 0], none⟩,
  ⟨.var 2, .mv, [.con (.bool false)], none⟩]
@[reducible] noncomputable def r51_1 : List RO := [
  ⟨.loc 4, .ld false 1, [.var 1], none⟩,
  ⟨.loc 5, .bin .add, [.loc 4, .con (.int .i64 1)], none⟩,
  ⟨.none, .st 1, [.var 1, .loc 5], none⟩]
@[reducible] noncomputable def r51_2 : List RO := [
  ⟨.loc 6, .ld false 1, [.var 1], none⟩,
  ⟨.loc 7, .bin .leq, [.loc 6, .con (.int .i64 60)], none⟩,
  ⟨.var 2, .mv, [.loc 7], none⟩]
theorem pe51 {n m : Nat} : (E51 n m).M = M := by unfold E51; rfl
theorem ie51 {n m : Nat} {hp : Hp} {a0 a1 : D} : St.init (E51 n m) [a0, a1] hp = ⟨[a0, a1, .undef], [], hp⟩ := by unfold E51; rfl
noncomputable def c51 : RC := (.seq (.reg r51_0) (.seq (.reg r51_1) (.seq (.reg r51_2) .ret)))
noncomputable def q51 : List RR := [(.slot (.var 2))]
theorem z51 {n m : Nat} : resCode (E51 n m) (Try.f51.body.getD .skip) = some c51 := by kernel_rfl
theorem zr51 {n m : Nat} : resRs (E51 n m) Try.f51.results.toList = some q51 := by kernel_rfl
theorem oe51 {args : List D} {hp : Hp} {R : D → Hp → Prop} (n m : Nat) (hl : args.length = 2) (hn : n = hp.H.length) (hm : m = hp.tk.length) (h : SWp (E51 n m) c51 (fun e s => (match e with | .exit _ => False | _ => True) ∧ ∃ s1, Weak (E51 n m) s s1 ∧ rrsWp q51 s1 fun ds => R (oneOrTup ds) s1.hp) (St.init (E51 n m) args hp)) : Eff M 51 args hp R :=
  eff_of_body (C := E51 n m) (fn := Try.f51) Try.func51 (by kernel_rfl) (by kernel_rfl) (rc := c51) z51 (rs := q51) zr51 (by kernel_rfl) (by rw [hl]; rfl) (by rw [hl]; exact (by decide : 2 ≤ 8)) hn hm h
/- 34 bogie.rule.size · 1 arguments · kept slots [0, 1, 2, 3] -/
noncomputable def E34 (n m : Nat) : Cfg := ⟨M, [0, 1, 2, 3], 8, n, m, []⟩
noncomputable def C34 : Cfg := E34 0 0
@[reducible] noncomputable def r34_0 : List RO := [
  ⟨.var 1, .box, [.var 0], none⟩,
  ⟨.var 2, .mv, [.con (.int .i64 0)], none⟩]
@[reducible] noncomputable def r34_1 : List RO := [
  ⟨.var 3, (.newb [(.int .i64 0)]), [], none⟩,
  ⟨.none, .st 1, [.var 3, .con (.int .i64 0)], none⟩]
@[reducible] noncomputable def r34_2 : List RO := [
  ⟨.loc 4, .ld true 6, [.var 1], none⟩,
  ⟨.loc 5, (.mkF (.func 51) 0), [.var 3], none⟩,
  ⟨.loc 6, .call, [(.con (.fn (.func 35) [] [])), .loc 4, .loc 5], none⟩]
@[reducible] noncomputable def r34_3 : List RO := [
  ⟨.loc 7, .ld false 1, [.var 3], none⟩,
  ⟨.var 2, .mv, [.loc 7], none⟩]
theorem P34 : C34.M = M := by unfold C34 E34; rfl
theorem i34 {a0 : D} : St.init C34 [a0] ⟨[], []⟩ = ⟨[a0, .undef, .undef, .undef], [], ⟨[], []⟩⟩ := by unfold C34 E34; rfl
noncomputable def c34 : RC := (.seq (.reg r34_0) (.seq (.reg r34_1) (.seq (.reg r34_2) (.seq (.reg r34_3) .ret))))
noncomputable def q34 : List RR := [(.slot (.var 2))]
theorem z34 {n m : Nat} : resCode (E34 n m) (Try.f34.body.getD .skip) = some c34 := by kernel_rfl
theorem zr34 {n m : Nat} : resRs (E34 n m) Try.f34.results.toList = some q34 := by kernel_rfl
theorem ok34 {args : List D} {d : D} (hl : args.length = 1) (h : SWp C34 c34 (fun e s => (match e with | .exit _ => False | _ => True) ∧ rrsWp q34 s fun ds => D.closed (oneOrTup ds) = true ∧ (oneOrTup ds).er = d) (St.init C34 args ⟨[], []⟩)) : Pur M 34 args d :=
  pur_of_body (C := C34) (fn := Try.f34) Try.func34 (by kernel_rfl) (by kernel_rfl) (rc := c34) z34 (rs := q34) zr34 (by kernel_rfl) (by rw [hl]; rfl) (by rw [hl]; decide) rfl rfl h
/- 27 bogie.rule.Valid · 1 arguments · kept slots [0, 1, 2] -/
noncomputable def E27 (n m : Nat) : Cfg := ⟨M, [0, 1, 2], 22, n, m, []⟩
noncomputable def C27 : Cfg := E27 0 0
@[reducible] noncomputable def r27_0 : List RO := [
  ⟨.var 1, .box, [.var 0], none⟩,
  ⟨.var 2, .mv, [.con (.bool false)], none⟩]
@[reducible] noncomputable def r27_1 : List RO := [
  ⟨.loc 3, .fld 0, [.var 1], none⟩,
  ⟨.loc 4, .ld false 1, [.loc 3], none⟩,
  ⟨.loc 5, .call, [(.con (.fn (.func 33) [] [])), .loc 4], none⟩,
  ⟨.loc 6, .mv, [.loc 5], none⟩,
  ⟨.loc 7, .fld 1, [.var 1], (some (.loc 6, true))⟩,
  ⟨.loc 8, .ld false 1, [.loc 7], (some (.loc 6, true))⟩,
  ⟨.loc 9, .call, [(.con (.fn (.func 33) [] [])), .loc 8], (some (.loc 6, true))⟩,
  ⟨.loc 10, .pick, [.loc 6, .loc 9, .con (.bool false)], none⟩,
  ⟨.loc 11, .mv, [.loc 10], none⟩,
  ⟨.loc 12, .fld 2, [.var 1], (some (.loc 11, true))⟩,
  ⟨.loc 13, .ld true 6, [.loc 12], (some (.loc 11, true))⟩,
  ⟨.loc 14, .call, [(.con (.fn (.func 34) [] [])), .loc 13], (some (.loc 11, true))⟩,
  ⟨.loc 15, .bin .leq, [.loc 14, .con (.int .i64 60)], (some (.loc 11, true))⟩,
  ⟨.loc 16, .pick, [.loc 11, .loc 15, .con (.bool false)], none⟩,
  ⟨.loc 17, .mv, [.loc 16], none⟩,
  ⟨.loc 18, .fld 2, [.var 1], (some (.loc 17, true))⟩,
  ⟨.loc 19, .ld true 6, [.loc 18], (some (.loc 17, true))⟩,
  ⟨.loc 20, .call, [(.con (.fn (.func 35) [] [])), .loc 19, (.con (.fn (.func 36) [] []))], (some (.loc 17, true))⟩,
  ⟨.loc 21, .pick, [.loc 17, .loc 20, .con (.bool false)], none⟩,
  ⟨.var 2, .mv, [.loc 21], none⟩]
theorem P27 : C27.M = M := by unfold C27 E27; rfl
theorem i27 {a0 : D} : St.init C27 [a0] ⟨[], []⟩ = ⟨[a0, .undef, .undef], [], ⟨[], []⟩⟩ := by unfold C27 E27; rfl
noncomputable def c27 : RC := (.seq (.reg r27_0) (.seq (.reg r27_1) .ret))
noncomputable def q27 : List RR := [(.slot (.var 2))]
theorem z27 {n m : Nat} : resCode (E27 n m) (Try.f27.body.getD .skip) = some c27 := by kernel_rfl
theorem zr27 {n m : Nat} : resRs (E27 n m) Try.f27.results.toList = some q27 := by kernel_rfl
theorem ok27 {args : List D} {d : D} (hl : args.length = 1) (h : SWp C27 c27 (fun e s => (match e with | .exit _ => False | _ => True) ∧ rrsWp q27 s fun ds => D.closed (oneOrTup ds) = true ∧ (oneOrTup ds).er = d) (St.init C27 args ⟨[], []⟩)) : Pur M 27 args d :=
  pur_of_body (C := C27) (fn := Try.f27) Try.func27 (by kernel_rfl) (by kernel_rfl) (rc := c27) z27 (rs := q27) zr27 (by kernel_rfl) (by rw [hl]; rfl) (by rw [hl]; decide) rfl rfl h
/- 13 bogie.bogielaw22.valid · 1 arguments · kept slots [0, 1, 2] -/
end Go.Proofs.Ytcchbohfcmfmlaa
end
section
set_option maxRecDepth 100000
namespace Go.Proofs.Ytcchbohfcmfmlaa
open Go GoV
/- 37 bogie.fleet.Find · 2 arguments · kept slots [0, 1, 2, 4, 5, 7, 9, 10, 11, 12, 18] -/
noncomputable def E37 (n m : Nat) : Cfg := ⟨M, [0, 1, 2, 4, 5, 7, 9, 10, 11, 12, 18], 22, n, m, []⟩
noncomputable def C37 : Cfg := E37 0 0
@[reducible] noncomputable def r37_0 : List RO := [
  ⟨.var 2, .box, [.var 0], none⟩,
  ⟨.var 3, (.newb [(.str []), (.str []), (.str []), (.str []), (.int .i64 0), (.int .i64 0), (.bool false), (.lit (.slice none 0 0)), (.int .i64 0), (.int .i64 0), (.int .i64 0), (.int .i64 0), (.int .i64 0), (.int .i64 0)]), [], none⟩,
  ⟨.var 4, .mv, [.con (.bool false)], none⟩]
@[reducible] noncomputable def r37_1 : List RO := [
  ⟨.loc 8, .fld 0, [.var 2], none⟩,
  ⟨.var 6, .ld false 1, [.loc 8], none⟩,
  ⟨.var 7, .lenL, [.var 6], none⟩,
  ⟨.var 8, .mv, [.con (.int .i64 0)], none⟩]
@[reducible] noncomputable def r37_2 : List RO := [
  ⟨.var 9, .bin .lss, [.var 8, .var 7], none⟩]
@[reducible] noncomputable def r37_3 : List RO := [
  ⟨.loc 13, .ixaS 14, [.var 6, .var 8], none⟩,
  ⟨.loc 14, .ld true 14, [.loc 13], none⟩,
  ⟨.var 5, (.newb [(.str []), (.str []), (.str []), (.str []), (.int .i64 0), (.int .i64 0), (.bool false), (.lit (.slice none 0 0)), (.int .i64 0), (.int .i64 0), (.int .i64 0), (.int .i64 0), (.int .i64 0), (.int .i64 0)]), [], none⟩,
  ⟨.none, .st 14, [.var 5, .loc 14], none⟩]
@[reducible] noncomputable def r37_4 : List RO := [
  ⟨.loc 15, .fld 0, [.var 5], none⟩,
  ⟨.loc 16, .ld false 1, [.loc 15], none⟩,
  ⟨.loc 17, .mv, [.var 1], none⟩,
  ⟨.var 10, .bin .eql, [.loc 16, .loc 17], none⟩]
@[reducible] noncomputable def r37_5 : List RO := [
  ⟨.loc 19, .ld true 14, [.var 5], none⟩,
  ⟨.none, .st 14, [.var 3, .loc 19], none⟩,
  ⟨.var 4, .mv, [.con (.bool true)], none⟩]
@[reducible] noncomputable def r37_6 : List RO := [
  ⟨.loc 20, .bin .add, [.var 8, .con (.int .i64 1)], none⟩,
  ⟨.var 8, .mv, [.loc 20], none⟩]
@[reducible] noncomputable def r37_7 : List RO := [
  ⟨.loc 21, (.bld [(.str []), (.str []), (.str []), (.str []), (.int .i64 0), (.int .i64 0), (.bool false), (.lit (.slice none 0 0)), (.int .i64 0), (.int .i64 0), (.int .i64 0), (.int .i64 0), (.int .i64 0), (.int .i64 0)] []), [], none⟩,
  ⟨.none, .st 14, [.var 3, .loc 21], none⟩,
  ⟨.var 4, .mv, [.con (.bool false)], none⟩]
theorem P37 : C37.M = M := by unfold C37 E37; rfl
theorem i37 {a0 a1 : D} : St.init C37 [a0, a1] ⟨[], []⟩ = ⟨[a0, a1, .undef, .undef, .undef, .undef, .undef, .undef, .undef, .undef, .undef], [], ⟨[], []⟩⟩ := by unfold C37 E37; rfl
noncomputable def c37 : RC := (.seq (.reg r37_0) (.seq (.seq (.reg r37_1) (.block 0 (.loop (.seq (.reg r37_2) (.seq (.cond (.var 9) .skip (.exit 0)) (.seq (.block 1 (.seq (.reg r37_3) (.seq (.reg r37_4) (.cond (.var 10) (.seq (.reg r37_5) .ret) .skip)))) (.reg r37_6))))))) (.seq (.reg r37_7) .ret)))
noncomputable def q37 : List RR := [(.cell (.var 3) true 14), (.slot (.var 4))]
theorem z37 {n m : Nat} : resCode (E37 n m) (Try.f37.body.getD .skip) = some c37 := by kernel_rfl
theorem zr37 {n m : Nat} : resRs (E37 n m) Try.f37.results.toList = some q37 := by kernel_rfl
theorem ok37 {args : List D} {d : D} (hl : args.length = 2) (h : SWp C37 c37 (fun e s => (match e with | .exit _ => False | _ => True) ∧ rrsWp q37 s fun ds => D.closed (oneOrTup ds) = true ∧ (oneOrTup ds).er = d) (St.init C37 args ⟨[], []⟩)) : Pur M 37 args d :=
  pur_of_body (C := C37) (fn := Try.f37) Try.func37 (by kernel_rfl) (by kernel_rfl) (rc := c37) z37 (rs := q37) zr37 (by kernel_rfl) (by rw [hl]; rfl) (by rw [hl]; decide) rfl rfl h
/- 29 bogie.fleet.of · 1 arguments · kept slots [0, 1, 2, 3, 4, 5, 7, 13, 14, 15, 16, 29] -/
noncomputable def E29 (n m : Nat) : Cfg := ⟨M, [0, 1, 2, 3, 4, 5, 7, 13, 14, 15, 16, 29], 37, n, m, []⟩
@[reducible] noncomputable def r29_0 : List RO := [
  ⟨.var 1, .box, [.var 0], none⟩,
  ⟨.var 2, (.newb [(.lit (.slice none 0 0)), (.lit (.map none))]), [], none⟩]
@[reducible] noncomputable def r29_1 : List RO := [
  ⟨.loc 8, .fld 0, [.var 1], none⟩,
  ⟨.loc 9, .ld false 1, [.loc 8], none⟩,
  ⟨.loc 10, .newM, [], none⟩,
  ⟨.loc 11, (.bld [(.lit (.slice none 0 0)), (.lit (.map none))] [(0, 1), (1, 1)]), [.loc 9, .loc 10], none⟩,
  ⟨.var 3, (.newb [(.lit (.slice none 0 0)), (.lit (.map none))]), [], none⟩,
  ⟨.none, .st 2, [.var 3, .loc 11], none⟩]
@[reducible] noncomputable def r29_2 : List RO := [
  ⟨.loc 12, .fld 0, [.var 1], none⟩,
  ⟨.var 7, .ld false 1, [.loc 12], none⟩,
  ⟨.var 8, .lenL, [.var 7], none⟩,
  ⟨.var 9, .mv, [.con (.int .i64 0)], none⟩]
@[reducible] noncomputable def r29_3 : List RO := [
  ⟨.var 10, .bin .lss, [.var 9, .var 8], none⟩]
@[reducible] noncomputable def r29_4 : List RO := [
  ⟨.loc 17, .mv, [.var 9], none⟩,
  ⟨.loc 18, .ixaS 14, [.var 7, .var 9], none⟩,
  ⟨.loc 19, .ld true 14, [.loc 18], none⟩,
  ⟨.var 5, (.newb [(.str []), (.str []), (.str []), (.str []), (.int .i64 0), (.int .i64 0), (.bool false), (.lit (.slice none 0 0)), (.int .i64 0), (.int .i64 0), (.int .i64 0), (.int .i64 0), (.int .i64 0), (.int .i64 0)]), [], none⟩,
  ⟨.var 4, .mv, [.loc 17], none⟩,
  ⟨.none, .st 14, [.var 5, .loc 19], none⟩]
@[reducible] noncomputable def r29_5 : List RO := [
  ⟨.loc 21, .fld 1, [.var 3], none⟩,
  ⟨.loc 22, .ld false 1, [.loc 21], none⟩,
  ⟨.loc 23, .fld 0, [.var 5], none⟩,
  ⟨.loc 24, .ld false 1, [.loc 23], none⟩,
  ⟨.loc 25, (.lkp .str true (.int .i64 0)), [.loc 22, .loc 24], none⟩,
  ⟨.loc 20, .mv, [.loc 25], none⟩,
  ⟨.loc 26, .ext 0, [.loc 20], none⟩,
  ⟨.loc 27, .ext 1, [.loc 20], none⟩,
  ⟨.loc 6, .mv, [.loc 26], none⟩,
  ⟨.var 6, .mv, [.loc 27], none⟩]
@[reducible] noncomputable def r29_6 : List RO := [
  ⟨.loc 28, .mv, [.var 6], none⟩,
  ⟨.var 11, .un .not, [.loc 28], none⟩]
@[reducible] noncomputable def r29_7 : List RO := [
  ⟨.loc 30, .fld 1, [.var 3], none⟩,
  ⟨.loc 31, .ld false 1, [.loc 30], none⟩,
  ⟨.loc 32, .fld 0, [.var 5], none⟩,
  ⟨.loc 33, .ld false 1, [.loc 32], none⟩,
  ⟨.loc 34, .mv, [.var 4], none⟩,
  ⟨.none, .mpu .str, [.loc 31, .loc 33, .loc 34], none⟩]
@[reducible] noncomputable def r29_8 : List RO := [
  ⟨.loc 35, .bin .add, [.var 9, .con (.int .i64 1)], none⟩,
  ⟨.var 9, .mv, [.loc 35], none⟩]
@[reducible] noncomputable def r29_9 : List RO := [
  ⟨.loc 36, .ld true 2, [.var 3], none⟩,
  ⟨.none, .st 2, [.var 2, .loc 36], none⟩]
theorem pe29 {n m : Nat} : (E29 n m).M = M := by unfold E29; rfl
theorem ie29 {n m : Nat} {hp : Hp} {a0 : D} : St.init (E29 n m) [a0] hp = ⟨[a0, .undef, .undef, .undef, .undef, .undef, .undef, .undef, .undef, .undef, .undef, .undef], [], hp⟩ := by unfold E29; rfl
noncomputable def c29 : RC := (.seq (.reg r29_0) (.seq (.reg r29_1) (.seq (.seq (.reg r29_2) (.block 0 (.loop (.seq (.reg r29_3) (.seq (.cond (.var 10) .skip (.exit 0)) (.seq (.block 1 (.seq (.reg r29_4) (.seq (.reg r29_5) (.seq (.reg r29_6) (.cond (.var 11) (.reg r29_7) .skip))))) (.reg r29_8))))))) (.seq (.reg r29_9) .ret))))
noncomputable def q29 : List RR := [(.cell (.var 2) true 2)]
theorem z29 {n m : Nat} : resCode (E29 n m) (Try.f29.body.getD .skip) = some c29 := by kernel_rfl
theorem zr29 {n m : Nat} : resRs (E29 n m) Try.f29.results.toList = some q29 := by kernel_rfl
theorem oe29 {args : List D} {hp : Hp} {R : D → Hp → Prop} (n m : Nat) (hl : args.length = 1) (hn : n = hp.H.length) (hm : m = hp.tk.length) (h : SWp (E29 n m) c29 (fun e s => (match e with | .exit _ => False | _ => True) ∧ ∃ s1, Weak (E29 n m) s s1 ∧ rrsWp q29 s1 fun ds => R (oneOrTup ds) s1.hp) (St.init (E29 n m) args hp)) : Eff M 29 args hp R :=
  eff_of_body (C := E29 n m) (fn := Try.f29) Try.func29 (by kernel_rfl) (by kernel_rfl) (rc := c29) z29 (rs := q29) zr29 (by kernel_rfl) (by rw [hl]; rfl) (by rw [hl]; exact (by decide : 1 ≤ 37)) hn hm h
/- 30 (bogie.fleet.yard).get · 2 arguments · kept slots [0, 1, 2, 4, 5, 6, 7, 16] -/
noncomputable def E30 (n m : Nat) : Cfg := ⟨M, [0, 1, 2, 4, 5, 6, 7, 16], 23, n, m, []⟩
@[reducible] noncomputable def r30_0 : List RO := [
  ⟨.var 2, .box, [.var 0], none⟩,
  ⟨.var 3, (.newb [(.str []), (.str []), (.str []), (.str []), (.int .i64 0), (.int .i64 0), (.bool false), (.lit (.slice none 0 0)), (.int .i64 0), (.int .i64 0), (.int .i64 0), (.int .i64 0), (.int .i64 0), (.int .i64 0)]), [], none⟩,
  ⟨.var 4, .mv, [.con (.bool false)], none⟩]
@[reducible] noncomputable def r30_1 : List RO := [
  ⟨.loc 9, .fld 1, [.var 2], none⟩,
  ⟨.loc 10, .ld false 1, [.loc 9], none⟩,
  ⟨.loc 11, .mv, [.var 1], none⟩,
  ⟨.loc 12, (.lkp .str true (.int .i64 0)), [.loc 10, .loc 11], none⟩,
  ⟨.loc 8, .mv, [.loc 12], none⟩,
  ⟨.loc 13, .ext 0, [.loc 8], none⟩,
  ⟨.loc 14, .ext 1, [.loc 8], none⟩,
  ⟨.var 5, .mv, [.loc 13], none⟩,
  ⟨.var 6, .mv, [.loc 14], none⟩]
@[reducible] noncomputable def r30_2 : List RO := [
  ⟨.loc 15, .mv, [.var 6], none⟩,
  ⟨.var 7, .un .not, [.loc 15], none⟩]
@[reducible] noncomputable def r30_3 : List RO := [
  ⟨.loc 17, (.bld [(.str []), (.str []), (.str []), (.str []), (.int .i64 0), (.int .i64 0), (.bool false), (.lit (.slice none 0 0)), (.int .i64 0), (.int .i64 0), (.int .i64 0), (.int .i64 0), (.int .i64 0), (.int .i64 0)] []), [], none⟩,
  ⟨.none, .st 14, [.var 3, .loc 17], none⟩,
  ⟨.var 4, .mv, [.con (.bool false)], none⟩]
@[reducible] noncomputable def r30_4 : List RO := [
  ⟨.loc 18, .fld 0, [.var 2], none⟩,
  ⟨.loc 19, .ld false 1, [.loc 18], none⟩,
  ⟨.loc 20, .mv, [.var 5], none⟩,
  ⟨.loc 21, .ixaS 14, [.loc 19, .loc 20], none⟩,
  ⟨.loc 22, .ld true 14, [.loc 21], none⟩,
  ⟨.none, .st 14, [.var 3, .loc 22], none⟩,
  ⟨.var 4, .mv, [.con (.bool true)], none⟩]
theorem pe30 {n m : Nat} : (E30 n m).M = M := by unfold E30; rfl
theorem ie30 {n m : Nat} {hp : Hp} {a0 a1 : D} : St.init (E30 n m) [a0, a1] hp = ⟨[a0, a1, .undef, .undef, .undef, .undef, .undef, .undef], [], hp⟩ := by unfold E30; rfl
noncomputable def c30 : RC := (.seq (.reg r30_0) (.seq (.reg r30_1) (.seq (.seq (.reg r30_2) (.cond (.var 7) (.seq (.reg r30_3) .ret) .skip)) (.seq (.reg r30_4) .ret))))
noncomputable def q30 : List RR := [(.cell (.var 3) true 14), (.slot (.var 4))]
theorem z30 {n m : Nat} : resCode (E30 n m) (Try.f30.body.getD .skip) = some c30 := by kernel_rfl
theorem zr30 {n m : Nat} : resRs (E30 n m) Try.f30.results.toList = some q30 := by kernel_rfl
theorem oe30 {args : List D} {hp : Hp} {R : D → Hp → Prop} (n m : Nat) (hl : args.length = 2) (hn : n = hp.H.length) (hm : m = hp.tk.length) (h : SWp (E30 n m) c30 (fun e s => (match e with | .exit _ => False | _ => True) ∧ ∃ s1, Weak (E30 n m) s s1 ∧ rrsWp q30 s1 fun ds => R (oneOrTup ds) s1.hp) (St.init (E30 n m) args hp)) : Eff M 30 args hp R :=
  eff_of_body (C := E30 n m) (fn := Try.f30) Try.func30 (by kernel_rfl) (by kernel_rfl) (rc := c30) z30 (rs := q30) zr30 (by kernel_rfl) (by rw [hl]; rfl) (by rw [hl]; exact (by decide : 2 ≤ 23)) hn hm h
/- 14 bogie.fleet.Root · 2 arguments · kept slots [0, 1, 2, 4, 5, 6, 7, 12, 13, 14, 22, 25] -/
noncomputable def E14 (n m : Nat) : Cfg := ⟨M, [0, 1, 2, 4, 5, 6, 7, 12, 13, 14, 22, 25], 30, n, m, []⟩
noncomputable def C14 : Cfg := E14 0 0
@[reducible] noncomputable def r14_0 : List RO := [
  ⟨.var 2, .box, [.var 0], none⟩,
  ⟨.var 3, .mv, [(.con (.str []))], none⟩]
@[reducible] noncomputable def r14_1 : List RO := [
  ⟨.loc 8, .ld true 1, [.var 2], none⟩,
  ⟨.loc 9, .call, [(.con (.fn (.func 29) [] [])), .loc 8], none⟩,
  ⟨.var 4, (.newb [(.lit (.slice none 0 0)), (.lit (.map none))]), [], none⟩,
  ⟨.none, .st 2, [.var 4, .loc 9], none⟩]
@[reducible] noncomputable def r14_2 : List RO := [
  ⟨.loc 10, .fld 0, [.var 2], none⟩,
  ⟨.loc 11, .ld false 1, [.loc 10], none⟩,
  ⟨.var 7, .lenL, [.loc 11], none⟩,
  ⟨.var 8, .mv, [.con (.int .i64 0)], none⟩]
@[reducible] noncomputable def r14_3 : List RO := [
  ⟨.var 9, .bin .lss, [.var 8, .var 7], none⟩]
@[reducible] noncomputable def r14_4 : List RO := [
  ⟨.loc 16, .ld true 2, [.var 4], none⟩,
  ⟨.loc 17, .mv, [.var 1], none⟩,
  ⟨.loc 18, .call, [(.con (.fn (.func 30) [] [])), .loc 16, .loc 17], none⟩,
  ⟨.loc 15, .mv, [.loc 18], none⟩,
  ⟨.loc 19, .ext 0, [.loc 15], none⟩,
  ⟨.loc 20, .ext 1, [.loc 15], none⟩,
  ⟨.var 5, (.newb [(.str []), (.str []), (.str []), (.str []), (.int .i64 0), (.int .i64 0), (.bool false), (.lit (.slice none 0 0)), (.int .i64 0), (.int .i64 0), (.int .i64 0), (.int .i64 0), (.int .i64 0), (.int .i64 0)]), [], none⟩,
  ⟨.none, .st 14, [.var 5, .loc 19], none⟩,
  ⟨.var 6, .mv, [.loc 20], none⟩]
@[reducible] noncomputable def r14_5 : List RO := [
  ⟨.loc 21, .mv, [.var 6], none⟩,
  ⟨.var 10, .un .not, [.loc 21], none⟩]
@[reducible] noncomputable def r14_6 : List RO := [
  ⟨.var 3, .mv, [(.con (.str []))], none⟩]
@[reducible] noncomputable def r14_7 : List RO := [
  ⟨.loc 23, .fld 2, [.var 5], none⟩,
  ⟨.loc 24, .ld false 1, [.loc 23], none⟩,
  ⟨.var 11, .bin .eql, [.loc 24, (.con (.str []))], none⟩]
@[reducible] noncomputable def r14_8 : List RO := [
  ⟨.loc 26, .mv, [.var 1], none⟩,
  ⟨.var 3, .mv, [.loc 26], none⟩]
@[reducible] noncomputable def r14_9 : List RO := [
  ⟨.loc 27, .fld 2, [.var 5], none⟩,
  ⟨.loc 28, .ld false 1, [.loc 27], none⟩,
  ⟨.var 1, .mv, [.loc 28], none⟩]
@[reducible] noncomputable def r14_10 : List RO := [
  ⟨.loc 29, .bin .add, [.var 8, .con (.int .i64 1)], none⟩,
  ⟨.var 8, .mv, [.loc 29], none⟩]
@[reducible] noncomputable def r14_11 : List RO := [
  ⟨.var 3, .mv, [(.con (.str []))], none⟩]
theorem P14 : C14.M = M := by unfold C14 E14; rfl
theorem i14 {a0 a1 : D} : St.init C14 [a0, a1] ⟨[], []⟩ = ⟨[a0, a1, .undef, .undef, .undef, .undef, .undef, .undef, .undef, .undef, .undef, .undef], [], ⟨[], []⟩⟩ := by unfold C14 E14; rfl
noncomputable def c14 : RC := (.seq (.reg r14_0) (.seq (.reg r14_1) (.seq (.seq (.reg r14_2) (.block 0 (.loop (.seq (.reg r14_3) (.seq (.cond (.var 9) .skip (.exit 0)) (.seq (.block 1 (.seq (.reg r14_4) (.seq (.seq (.reg r14_5) (.cond (.var 10) (.seq (.reg r14_6) .ret) .skip)) (.seq (.seq (.reg r14_7) (.cond (.var 11) (.seq (.reg r14_8) .ret) .skip)) (.reg r14_9))))) (.reg r14_10))))))) (.seq (.reg r14_11) .ret))))
noncomputable def q14 : List RR := [(.slot (.var 3))]
theorem z14 {n m : Nat} : resCode (E14 n m) (Try.f14.body.getD .skip) = some c14 := by kernel_rfl
theorem zr14 {n m : Nat} : resRs (E14 n m) Try.f14.results.toList = some q14 := by kernel_rfl
theorem ok14 {args : List D} {d : D} (hl : args.length = 2) (h : SWp C14 c14 (fun e s => (match e with | .exit _ => False | _ => True) ∧ rrsWp q14 s fun ds => D.closed (oneOrTup ds) = true ∧ (oneOrTup ds).er = d) (St.init C14 args ⟨[], []⟩)) : Pur M 14 args d :=
  pur_of_body (C := C14) (fn := Try.f14) Try.func14 (by kernel_rfl) (by kernel_rfl) (rc := c14) z14 (rs := q14) zr14 (by kernel_rfl) (by rw [hl]; rfl) (by rw [hl]; decide) rfl rfl h
/- 96 cmp.isNaN[string] · 1 arguments · kept slots [0, 2] -/
noncomputable def E96 (n m : Nat) : Cfg := ⟨M, [0, 2], 6, n, m, []⟩
noncomputable def C96 : Cfg := E96 0 0
@[reducible] noncomputable def r96_0 : List RO := [
  ⟨.var 1, .mv, [.con (.bool false)], none⟩]
@[reducible] noncomputable def r96_1 : List RO := [
  ⟨.loc 3, .mv, [.var 0], none⟩,
  ⟨.loc 4, .mv, [.var 0], none⟩,
  ⟨.loc 5, .bin .neq, [.loc 3, .loc 4], none⟩,
  ⟨.var 1, .mv, [.loc 5], none⟩]
theorem P96 : C96.M = M := by unfold C96 E96; rfl
theorem i96 {a0 : D} : St.init C96 [a0] ⟨[], []⟩ = ⟨[a0, .undef], [], ⟨[], []⟩⟩ := by unfold C96 E96; rfl
noncomputable def c96 : RC := (.seq (.reg r96_0) (.seq (.reg r96_1) .ret))
noncomputable def q96 : List RR := [(.slot (.var 1))]
theorem z96 {n m : Nat} : resCode (E96 n m) (Try.f96.body.getD .skip) = some c96 := by kernel_rfl
theorem zr96 {n m : Nat} : resRs (E96 n m) Try.f96.results.toList = some q96 := by kernel_rfl
theorem ok96 {args : List D} {d : D} (hl : args.length = 1) (h : SWp C96 c96 (fun e s => (match e with | .exit _ => False | _ => True) ∧ rrsWp q96 s fun ds => D.closed (oneOrTup ds) = true ∧ (oneOrTup ds).er = d) (St.init C96 args ⟨[], []⟩)) : Pur M 96 args d :=
  pur_of_body (C := C96) (fn := Try.f96) Try.func96 (by kernel_rfl) (by kernel_rfl) (rc := c96) z96 (rs := q96) zr96 (by kernel_rfl) (by rw [hl]; rfl) (by rw [hl]; decide) rfl rfl h
/- 86 cmp.Less[string] · 2 arguments · kept slots [0, 1, 4] -/
noncomputable def E86 (n m : Nat) : Cfg := ⟨M, [0, 1, 4], 17, n, m, []⟩
noncomputable def C86 : Cfg := E86 0 0
@[reducible] noncomputable def r86_0 : List RO := [
  ⟨.var 2, .mv, [.con (.bool false)], none⟩]
@[reducible] noncomputable def r86_1 : List RO := [
  ⟨.loc 5, .mv, [.var 0], none⟩,
  ⟨.loc 6, .call, [(.con (.fn (.func 96) [] [])), .loc 5], none⟩,
  ⟨.loc 7, .mv, [.loc 6], none⟩,
  ⟨.loc 8, .mv, [.var 1], (some (.loc 7, true))⟩,
  ⟨.loc 9, .call, [(.con (.fn (.func 96) [] [])), .loc 8], (some (.loc 7, true))⟩,
  ⟨.loc 10, .un .not, [.loc 9], (some (.loc 7, true))⟩,
  ⟨.loc 11, .pick, [.loc 7, .loc 10, .con (.bool false)], none⟩,
  ⟨.loc 12, .mv, [.loc 11], none⟩,
  ⟨.loc 13, .mv, [.var 0], (some (.loc 12, false))⟩,
  ⟨.loc 14, .mv, [.var 1], (some (.loc 12, false))⟩,
  ⟨.loc 15, .bin .lss, [.loc 13, .loc 14], (some (.loc 12, false))⟩,
  ⟨.loc 16, .pick, [.loc 12, .con (.bool true), .loc 15], none⟩,
  ⟨.var 2, .mv, [.loc 16], none⟩]
theorem P86 : C86.M = M := by unfold C86 E86; rfl
theorem i86 {a0 a1 : D} : St.init C86 [a0, a1] ⟨[], []⟩ = ⟨[a0, a1, .undef], [], ⟨[], []⟩⟩ := by unfold C86 E86; rfl
noncomputable def c86 : RC := (.seq (.reg r86_0) (.seq (.reg r86_1) .ret))
noncomputable def q86 : List RR := [(.slot (.var 2))]
theorem z86 {n m : Nat} : resCode (E86 n m) (Try.f86.body.getD .skip) = some c86 := by kernel_rfl
theorem zr86 {n m : Nat} : resRs (E86 n m) Try.f86.results.toList = some q86 := by kernel_rfl
theorem ok86 {args : List D} {d : D} (hl : args.length = 2) (h : SWp C86 c86 (fun e s => (match e with | .exit _ => False | _ => True) ∧ rrsWp q86 s fun ds => D.closed (oneOrTup ds) = true ∧ (oneOrTup ds).er = d) (St.init C86 args ⟨[], []⟩)) : Pur M 86 args d :=
  pur_of_body (C := C86) (fn := Try.f86) Try.func86 (by kernel_rfl) (by kernel_rfl) (rc := c86) z86 (rs := q86) zr86 (by kernel_rfl) (by rw [hl]; rfl) (by rw [hl]; decide) rfl rfl h
/- 80 slices.insertionSortOrdered[string] · 3 arguments · kept slots [0, 1, 2, 6, 7, 12, 30] -/
noncomputable def E80 (n m : Nat) : Cfg := ⟨M, [0, 1, 2, 6, 7, 12, 30], 49, n, m, []⟩
noncomputable def C80 : Cfg := E80 0 0
@[reducible] noncomputable def r80_0 : List RO := [
  ⟨.loc 8, .mv, [.var 1], none⟩,
  ⟨.loc 9, .bin .add, [.loc 8, .con (.int .i64 1)], none⟩,
  ⟨.var 3, .mv, [.loc 9], none⟩]
@[reducible] noncomputable def r80_1 : List RO := [
  ⟨.loc 10, .mv, [.var 3], none⟩,
  ⟨.loc 11, .mv, [.var 2], none⟩,
  ⟨.var 5, .bin .lss, [.loc 10, .loc 11], none⟩]
@[reducible] noncomputable def r80_2 : List RO := [
  ⟨.loc 15, .mv, [.var 3], none⟩,
  ⟨.var 4, .mv, [.loc 15], none⟩]
@[reducible] noncomputable def r80_3 : List (RO × Bool) := [
  (⟨.loc 16, .mv, [.var 4], none⟩, true),
  (⟨.loc 17, .mv, [.var 1], none⟩, true),
  (⟨.loc 18, .bin .gtr, [.loc 16, .loc 17], none⟩, true),
  (⟨.loc 19, .mv, [.loc 18], none⟩, true),
  (⟨.loc 20, .mv, [.var 0], (some (.loc 19, true))⟩, true),
  (⟨.loc 21, .mv, [.var 4], (some (.loc 19, true))⟩, true),
  (⟨.loc 22, .ixaS 1, [.loc 20, .loc 21], (some (.loc 19, true))⟩, true),
  (⟨.loc 23, .ld false 1, [.loc 22], (some (.loc 19, true))⟩, true),
  (⟨.loc 24, .mv, [.var 0], (some (.loc 19, true))⟩, true),
  (⟨.loc 25, .mv, [.var 4], (some (.loc 19, true))⟩, true),
  (⟨.loc 26, .bin .sub, [.loc 25, .con (.int .i64 1)], (some (.loc 19, true))⟩, true),
  (⟨.loc 27, .ixaS 1, [.loc 24, .loc 26], (some (.loc 19, true))⟩, true),
  (⟨.loc 28, .ld false 1, [.loc 27], (some (.loc 19, true))⟩, true)]
@[reducible] noncomputable def r80_4 : List RO := [
  ⟨.loc 29, .call, [(.con (.fn (.func 86) [] [])), .loc 23, .loc 28], (some (.loc 19, true))⟩,
  ⟨.var 6, .pick, [.loc 19, .loc 29, .con (.bool false)], none⟩]
@[reducible] noncomputable def r80_5 : List (RO × Bool) := [
  (⟨.loc 33, .mv, [.var 0], none⟩, true),
  (⟨.loc 34, .mv, [.var 4], none⟩, true),
  (⟨.loc 35, .mv, [.var 0], none⟩, true),
  (⟨.loc 36, .mv, [.var 4], none⟩, true),
  (⟨.loc 37, .bin .sub, [.loc 36, .con (.int .i64 1)], none⟩, true),
  (⟨.loc 38, .mv, [.var 0], none⟩, true),
  (⟨.loc 39, .mv, [.var 4], none⟩, true),
  (⟨.loc 40, .bin .sub, [.loc 39, .con (.int .i64 1)], none⟩, true),
  (⟨.loc 41, .ixaS 1, [.loc 38, .loc 40], none⟩, true),
  (⟨.loc 42, .ld false 1, [.loc 41], none⟩, true),
  (⟨.loc 43, .mv, [.var 0], none⟩, true),
  (⟨.loc 44, .mv, [.var 4], none⟩, true),
  (⟨.loc 45, .ixaS 1, [.loc 43, .loc 44], none⟩, true),
  (⟨.loc 46, .ld false 1, [.loc 45], none⟩, true),
  (⟨.loc 47, .ixaS 1, [.loc 33, .loc 34], none⟩, true),
  (⟨.none, .st 1, [.loc 47, .loc 42], none⟩, false)]
@[reducible] noncomputable def r80_6 : List RO := [
  ⟨.loc 48, .ixaS 1, [.loc 35, .loc 37], none⟩,
  ⟨.none, .st 1, [.loc 48, .loc 46], none⟩]
@[reducible] noncomputable def r80_7 : List RO := [
  ⟨.loc 31, .mv, [.var 4], none⟩,
  ⟨.loc 32, .bin .sub, [.loc 31, .con (.int .i64 1)], none⟩,
  ⟨.var 4, .mv, [.loc 32], none⟩]
@[reducible] noncomputable def r80_8 : List RO := [
  ⟨.loc 13, .mv, [.var 3], none⟩,
  ⟨.loc 14, .bin .add, [.loc 13, .con (.int .i64 1)], none⟩,
  ⟨.var 3, .mv, [.loc 14], none⟩]
theorem P80 : C80.M = M := by unfold C80 E80; rfl
theorem pe80 {n m : Nat} : (E80 n m).M = M := by unfold E80; rfl
theorem i80 {a0 a1 a2 : D} : St.init C80 [a0, a1, a2] ⟨[], []⟩ = ⟨[a0, a1, a2, .undef, .undef, .undef, .undef], [], ⟨[], []⟩⟩ := by unfold C80 E80; rfl
theorem ie80 {n m : Nat} {hp : Hp} {a0 a1 a2 : D} : St.init (E80 n m) [a0, a1, a2] hp = ⟨[a0, a1, a2, .undef, .undef, .undef, .undef], [], hp⟩ := by unfold E80; rfl
noncomputable def c80 : RC := (.seq (.reg r80_0) (.block 0 (.loop (.seq (.seq (.reg r80_1) (.cond (.var 5) .skip (.exit 0))) (.seq (.block 1 (.seq (.reg r80_2) (.block 2 (.loop (.seq (.seq (.regD r80_3 r80_4) (.cond (.var 6) .skip (.exit 2))) (.seq (.block 3 (.regD r80_5 r80_6)) (.reg r80_7))))))) (.reg r80_8))))))
noncomputable def q80 : List RR := []
theorem z80 {n m : Nat} : resCode (E80 n m) (Try.f80.body.getD .skip) = some c80 := by kernel_rfl
theorem zr80 {n m : Nat} : resRs (E80 n m) Try.f80.results.toList = some q80 := by kernel_rfl
theorem oe80 {args : List D} {hp : Hp} {R : D → Hp → Prop} (n m : Nat) (hl : args.length = 3) (hn : n = hp.H.length) (hm : m = hp.tk.length) (h : SWp (E80 n m) c80 (fun e s => (match e with | .exit _ => False | _ => True) ∧ ∃ s1, Weak (E80 n m) s s1 ∧ rrsWp q80 s1 fun ds => R (oneOrTup ds) s1.hp) (St.init (E80 n m) args hp)) : Eff M 80 args hp R :=
  eff_of_body (C := E80 n m) (fn := Try.f80) Try.func80 (by kernel_rfl) (by kernel_rfl) (rc := c80) z80 (rs := q80) zr80 (by kernel_rfl) (by rw [hl]; rfl) (by rw [hl]; exact (by decide : 3 ≤ 49)) hn hm h
theorem ok80 {args : List D} {d : D} (hl : args.length = 3) (h : SWp C80 c80 (fun e s => (match e with | .exit _ => False | _ => True) ∧ rrsWp q80 s fun ds => D.closed (oneOrTup ds) = true ∧ (oneOrTup ds).er = d) (St.init C80 args ⟨[], []⟩)) : Pur M 80 args d :=
  pur_of_body (C := C80) (fn := Try.f80) Try.func80 (by kernel_rfl) (by kernel_rfl) (rc := c80) z80 (rs := q80) zr80 (by kernel_rfl) (by rw [hl]; rfl) (by rw [hl]; decide) rfl rfl h
/- 77 slices.pdqsortOrdered[string] · 4 arguments · kept slots [0, 1, 2, 3, 8, 9, 10, 11, 12, 13, 14, 15, 16, 17, 18, 23, 29, 35, 50, 68, 72, 87, 113] -/
noncomputable def E77 (n m : Nat) : Cfg := ⟨M, [0, 1, 2, 3, 8, 9, 10, 11, 12, 13, 14, 15, 16, 17, 18, 23, 29, 35, 50, 68, 72, 87, 113], 134, n, m, []⟩
noncomputable def C77 : Cfg := E77 0 0
@[reducible] noncomputable def r77_0 : List RO := [
  ⟨.var 4, .mv, [.con (.bool true)], none⟩]
@[reducible] noncomputable def r77_1 : List RO := [
  ⟨.var 5, .mv, [.con (.bool true)], none⟩]
@[reducible] noncomputable def r77_2 : List RO := [
  ⟨.loc 19, .mv, [.var 2], none⟩,
  ⟨.loc 20, .mv, [.var 1], none⟩,
  ⟨.loc 21, .bin .sub, [.loc 19, .loc 20], none⟩,
  ⟨.var 6, .mv, [.loc 21], none⟩]
@[reducible] noncomputable def r77_3 : List RO := [
  ⟨.loc 22, .mv, [.var 6], none⟩,
  ⟨.var 15, .bin .leq, [.loc 22, .con (.int .i64 12)], none⟩]
@[reducible] noncomputable def r77_4 : List RO := [
  ⟨.loc 24, .mv, [.var 0], none⟩,
  ⟨.loc 25, .mv, [.var 1], none⟩,
  ⟨.loc 26, .mv, [.var 2], none⟩,
  ⟨.loc 27, .call, [(.con (.fn (.func 80) [] [])), .loc 24, .loc 25, .loc 26], none⟩]
@[reducible] noncomputable def r77_5 : List RO := [
  ⟨.loc 28, .mv, [.var 3], none⟩,
  ⟨.var 16, .bin .eql, [.loc 28, .con (.int .i64 0)], none⟩]
@[reducible] noncomputable def r77_6 : List RO := [
  ⟨.loc 30, .mv, [.var 0], none⟩,
  ⟨.loc 31, .mv, [.var 1], none⟩,
  ⟨.loc 32, .mv, [.var 2], none⟩,
  ⟨.loc 33, .call, [(.con (.fn (.func 81) [] [])), .loc 30, .loc 31, .loc 32], none⟩]
@[reducible] noncomputable def r77_7 : List RO := [
  ⟨.loc 34, .mv, [.var 4], none⟩,
  ⟨.var 17, .un .not, [.loc 34], none⟩]
@[reducible] noncomputable def r77_8 : List RO := [
  ⟨.loc 36, .mv, [.var 0], none⟩,
  ⟨.loc 37, .mv, [.var 1], none⟩,
  ⟨.loc 38, .mv, [.var 2], none⟩,
  ⟨.loc 39, .call, [(.con (.fn (.func 82) [] [])), .loc 36, .loc 37, .loc 38], none⟩]
@[reducible] noncomputable def r77_9 : List RO := [
  ⟨.loc 40, .mv, [.var 3], none⟩,
  ⟨.loc 41, .bin .sub, [.loc 40, .con (.int .i64 1)], none⟩,
  ⟨.var 3, .mv, [.loc 41], none⟩]
@[reducible] noncomputable def r77_10 : List RO := [
  ⟨.loc 43, .mv, [.var 0], none⟩,
  ⟨.loc 44, .mv, [.var 1], none⟩,
  ⟨.loc 45, .mv, [.var 2], none⟩,
  ⟨.loc 46, .call, [(.con (.fn (.func 83) [] [])), .loc 43, .loc 44, .loc 45], none⟩,
  ⟨.loc 42, .mv, [.loc 46], none⟩,
  ⟨.loc 47, .ext 0, [.loc 42], none⟩,
  ⟨.loc 48, .ext 1, [.loc 42], none⟩,
  ⟨.var 7, .mv, [.loc 47], none⟩,
  ⟨.var 8, .mv, [.loc 48], none⟩]
@[reducible] noncomputable def r77_11 : List RO := [
  ⟨.loc 49, .mv, [.var 8], none⟩,
  ⟨.var 18, .bin .eql, [.loc 49, .con (.int .i64 2)], none⟩]
@[reducible] noncomputable def r77_12 : List RO := [
  ⟨.loc 51, .mv, [.var 0], none⟩,
  ⟨.loc 52, .mv, [.var 1], none⟩,
  ⟨.loc 53, .mv, [.var 2], none⟩,
  ⟨.loc 54, .call, [(.con (.fn (.func 84) [] [])), .loc 51, .loc 52, .loc 53], none⟩]
@[reducible] noncomputable def r77_13 : List RO := [
  ⟨.loc 55, .mv, [.var 2], none⟩,
  ⟨.loc 56, .bin .sub, [.loc 55, .con (.int .i64 1)], none⟩,
  ⟨.loc 57, .mv, [.var 7], none⟩,
  ⟨.loc 58, .mv, [.var 1], none⟩,
  ⟨.loc 59, .bin .sub, [.loc 57, .loc 58], none⟩,
  ⟨.loc 60, .bin .sub, [.loc 56, .loc 59], none⟩,
  ⟨.var 7, .mv, [.loc 60], none⟩]
@[reducible] noncomputable def r77_14 : List RO := [
  ⟨.var 8, .mv, [.con (.int .i64 1)], none⟩]
@[reducible] noncomputable def r77_15 : List RO := [
  ⟨.loc 61, .mv, [.var 4], none⟩,
  ⟨.loc 62, .mv, [.loc 61], none⟩,
  ⟨.loc 63, .mv, [.var 5], (some (.loc 62, true))⟩,
  ⟨.loc 64, .pick, [.loc 62, .loc 63, .con (.bool false)], none⟩,
  ⟨.loc 65, .mv, [.loc 64], none⟩,
  ⟨.loc 66, .mv, [.var 8], (some (.loc 65, true))⟩,
  ⟨.loc 67, .bin .eql, [.loc 66, .con (.int .i64 1)], (some (.loc 65, true))⟩,
  ⟨.var 19, .pick, [.loc 65, .loc 67, .con (.bool false)], none⟩]
@[reducible] noncomputable def r77_16 : List RO := [
  ⟨.loc 69, .mv, [.var 0], none⟩,
  ⟨.loc 70, .mv, [.var 1], none⟩,
  ⟨.loc 71, .mv, [.var 2], none⟩,
  ⟨.var 20, .call, [(.con (.fn (.func 85) [] [])), .loc 69, .loc 70, .loc 71], none⟩]
@[reducible] noncomputable def r77_17 : List (RO × Bool) := [
  (⟨.loc 73, .mv, [.var 1], none⟩, true),
  (⟨.loc 74, .bin .gtr, [.loc 73, .con (.int .i64 0)], none⟩, true),
  (⟨.loc 75, .mv, [.loc 74], none⟩, true),
  (⟨.loc 76, .mv, [.var 0], (some (.loc 75, true))⟩, true),
  (⟨.loc 77, .mv, [.var 1], (some (.loc 75, true))⟩, true),
  (⟨.loc 78, .bin .sub, [.loc 77, .con (.int .i64 1)], (some (.loc 75, true))⟩, true),
  (⟨.loc 79, .ixaS 1, [.loc 76, .loc 78], (some (.loc 75, true))⟩, true),
  (⟨.loc 80, .ld false 1, [.loc 79], (some (.loc 75, true))⟩, true),
  (⟨.loc 81, .mv, [.var 0], (some (.loc 75, true))⟩, true),
  (⟨.loc 82, .mv, [.var 7], (some (.loc 75, true))⟩, true),
  (⟨.loc 83, .ixaS 1, [.loc 81, .loc 82], (some (.loc 75, true))⟩, true),
  (⟨.loc 84, .ld false 1, [.loc 83], (some (.loc 75, true))⟩, true)]
@[reducible] noncomputable def r77_18 : List RO := [
  ⟨.loc 85, .call, [(.con (.fn (.func 86) [] [])), .loc 80, .loc 84], (some (.loc 75, true))⟩,
  ⟨.loc 86, .un .not, [.loc 85], (some (.loc 75, true))⟩,
  ⟨.var 21, .pick, [.loc 75, .loc 86, .con (.bool false)], none⟩]
@[reducible] noncomputable def r77_19 : List RO := [
  ⟨.loc 88, .mv, [.var 0], none⟩,
  ⟨.loc 89, .mv, [.var 1], none⟩,
  ⟨.loc 90, .mv, [.var 2], none⟩,
  ⟨.loc 91, .mv, [.var 7], none⟩,
  ⟨.loc 92, .call, [(.con (.fn (.func 87) [] [])), .loc 88, .loc 89, .loc 90, .loc 91], none⟩,
  ⟨.var 9, .mv, [.loc 92], none⟩]
@[reducible] noncomputable def r77_20 : List RO := [
  ⟨.loc 93, .mv, [.var 9], none⟩,
  ⟨.var 1, .mv, [.loc 93], none⟩]
@[reducible] noncomputable def r77_21 : List RO := [
  ⟨.loc 95, .mv, [.var 0], none⟩,
  ⟨.loc 96, .mv, [.var 1], none⟩,
  ⟨.loc 97, .mv, [.var 2], none⟩,
  ⟨.loc 98, .mv, [.var 7], none⟩,
  ⟨.loc 99, .call, [(.con (.fn (.func 88) [] [])), .loc 95, .loc 96, .loc 97, .loc 98], none⟩,
  ⟨.loc 94, .mv, [.loc 99], none⟩,
  ⟨.loc 100, .ext 0, [.loc 94], none⟩,
  ⟨.loc 101, .ext 1, [.loc 94], none⟩,
  ⟨.var 10, .mv, [.loc 100], none⟩,
  ⟨.var 11, .mv, [.loc 101], none⟩]
@[reducible] noncomputable def r77_22 : List RO := [
  ⟨.loc 102, .mv, [.var 11], none⟩,
  ⟨.var 5, .mv, [.loc 102], none⟩]
@[reducible] noncomputable def r77_23 : List RO := [
  ⟨.loc 103, .mv, [.var 10], none⟩,
  ⟨.loc 104, .mv, [.var 1], none⟩,
  ⟨.loc 105, .bin .sub, [.loc 103, .loc 104], none⟩,
  ⟨.loc 106, .mv, [.var 2], none⟩,
  ⟨.loc 107, .mv, [.var 10], none⟩,
  ⟨.loc 108, .bin .sub, [.loc 106, .loc 107], none⟩,
  ⟨.var 12, .mv, [.loc 105], none⟩,
  ⟨.var 13, .mv, [.loc 108], none⟩]
@[reducible] noncomputable def r77_24 : List RO := [
  ⟨.loc 109, .mv, [.var 6], none⟩,
  ⟨.loc 110, .bin .quo, [.loc 109, .con (.int .i64 8)], none⟩,
  ⟨.var 14, .mv, [.loc 110], none⟩]
@[reducible] noncomputable def r77_25 : List RO := [
  ⟨.loc 111, .mv, [.var 12], none⟩,
  ⟨.loc 112, .mv, [.var 13], none⟩,
  ⟨.var 22, .bin .lss, [.loc 111, .loc 112], none⟩]
@[reducible] noncomputable def r77_26 : List RO := [
  ⟨.loc 114, .mv, [.var 12], none⟩,
  ⟨.loc 115, .mv, [.var 14], none⟩,
  ⟨.loc 116, .bin .geq, [.loc 114, .loc 115], none⟩,
  ⟨.var 4, .mv, [.loc 116], none⟩]
@[reducible] noncomputable def r77_27 : List RO := [
  ⟨.loc 117, .mv, [.var 0], none⟩,
  ⟨.loc 118, .mv, [.var 1], none⟩,
  ⟨.loc 119, .mv, [.var 10], none⟩,
  ⟨.loc 120, .mv, [.var 3], none⟩,
  ⟨.loc 121, .call, [(.con (.fn (.func 77) [] [])), .loc 117, .loc 118, .loc 119, .loc 120], none⟩]
@[reducible] noncomputable def r77_28 : List RO := [
  ⟨.loc 122, .mv, [.var 10], none⟩,
  ⟨.loc 123, .bin .add, [.loc 122, .con (.int .i64 1)], none⟩,
  ⟨.var 1, .mv, [.loc 123], none⟩]
@[reducible] noncomputable def r77_29 : List RO := [
  ⟨.loc 124, .mv, [.var 13], none⟩,
  ⟨.loc 125, .mv, [.var 14], none⟩,
  ⟨.loc 126, .bin .geq, [.loc 124, .loc 125], none⟩,
  ⟨.var 4, .mv, [.loc 126], none⟩]
@[reducible] noncomputable def r77_30 : List RO := [
  ⟨.loc 127, .mv, [.var 0], none⟩,
  ⟨.loc 128, .mv, [.var 10], none⟩,
  ⟨.loc 129, .bin .add, [.loc 128, .con (.int .i64 1)], none⟩,
  ⟨.loc 130, .mv, [.var 2], none⟩,
  ⟨.loc 131, .mv, [.var 3], none⟩,
  ⟨.loc 132, .call, [(.con (.fn (.func 77) [] [])), .loc 127, .loc 129, .loc 130, .loc 131], none⟩]
@[reducible] noncomputable def r77_31 : List RO := [
  ⟨.loc 133, .mv, [.var 10], none⟩,
  ⟨.var 2, .mv, [.loc 133], none⟩]
theorem P77 : C77.M = M := by unfold C77 E77; rfl
theorem pe77 {n m : Nat} : (E77 n m).M = M := by unfold E77; rfl
theorem i77 {a0 a1 a2 a3 : D} : St.init C77 [a0, a1, a2, a3] ⟨[], []⟩ = ⟨[a0, a1, a2, a3, .undef, .undef, .undef, .undef, .undef, .undef, .undef, .undef, .undef, .undef, .undef, .undef, .undef, .undef, .undef, .undef, .undef, .undef, .undef], [], ⟨[], []⟩⟩ := by unfold C77 E77; rfl
theorem ie77 {n m : Nat} {hp : Hp} {a0 a1 a2 a3 : D} : St.init (E77 n m) [a0, a1, a2, a3] hp = ⟨[a0, a1, a2, a3, .undef, .undef, .undef, .undef, .undef, .undef, .undef, .undef, .undef, .undef, .undef, .undef, .undef, .undef, .undef, .undef, .undef, .undef, .undef], [], hp⟩ := by unfold E77; rfl
noncomputable def c77 : RC := (.seq (.reg r77_0) (.seq (.reg r77_1) (.block 0 (.loop (.block 1 (.seq (.reg r77_2) (.seq (.seq (.reg r77_3) (.cond (.var 15) (.seq (.reg r77_4) .ret) .skip)) (.seq (.seq (.reg r77_5) (.cond (.var 16) (.seq (.reg r77_6) .ret) .skip)) (.seq (.seq (.reg r77_7) (.cond (.var 17) (.seq (.reg r77_8) (.reg r77_9)) .skip)) (.seq (.reg r77_10) (.seq (.seq (.reg r77_11) (.cond (.var 18) (.seq (.reg r77_12) (.seq (.reg r77_13) (.reg r77_14))) .skip)) (.seq (.seq (.reg r77_15) (.cond (.var 19) (.seq (.reg r77_16) (.cond (.var 20) .ret .skip)) .skip)) (.seq (.seq (.regD r77_17 r77_18) (.cond (.var 21) (.seq (.reg r77_19) (.seq (.reg r77_20) (.exit 1))) .skip)) (.seq (.reg r77_21) (.seq (.reg r77_22) (.seq (.reg r77_23) (.seq (.reg r77_24) (.seq (.reg r77_25) (.cond (.var 22) (.seq (.reg r77_26) (.seq (.reg r77_27) (.reg r77_28))) (.seq (.reg r77_29) (.seq (.reg r77_30) (.reg r77_31))))))))))))))))))))))
noncomputable def q77 : List RR := []
theorem z77 {n m : Nat} : resCode (E77 n m) (Try.f77.body.getD .skip) = some c77 := by kernel_rfl
theorem zr77 {n m : Nat} : resRs (E77 n m) Try.f77.results.toList = some q77 := by kernel_rfl
theorem oe77 {args : List D} {hp : Hp} {R : D → Hp → Prop} (n m : Nat) (hl : args.length = 4) (hn : n = hp.H.length) (hm : m = hp.tk.length) (h : SWp (E77 n m) c77 (fun e s => (match e with | .exit _ => False | _ => True) ∧ ∃ s1, Weak (E77 n m) s s1 ∧ rrsWp q77 s1 fun ds => R (oneOrTup ds) s1.hp) (St.init (E77 n m) args hp)) : Eff M 77 args hp R :=
  eff_of_body (C := E77 n m) (fn := Try.f77) Try.func77 (by kernel_rfl) (by kernel_rfl) (rc := c77) z77 (rs := q77) zr77 (by kernel_rfl) (by rw [hl]; rfl) (by rw [hl]; exact (by decide : 4 ≤ 134)) hn hm h
theorem ok77 {args : List D} {d : D} (hl : args.length = 4) (h : SWp C77 c77 (fun e s => (match e with | .exit _ => False | _ => True) ∧ rrsWp q77 s fun ds => D.closed (oneOrTup ds) = true ∧ (oneOrTup ds).er = d) (St.init C77 args ⟨[], []⟩)) : Pur M 77 args d :=
  pur_of_body (C := C77) (fn := Try.f77) Try.func77 (by kernel_rfl) (by kernel_rfl) (rc := c77) z77 (rs := q77) zr77 (by kernel_rfl) (by rw [hl]; rfl) (by rw [hl]; decide) rfl rfl h
/- 74 slices.Sort[[]string,string] · 1 arguments · kept slots [0, 2] -/
noncomputable def E74 (n m : Nat) : Cfg := ⟨M, [0, 2], 11, n, m, []⟩
noncomputable def C74 : Cfg := E74 0 0
@[reducible] noncomputable def r74_0 : List RO := [
  ⟨.loc 3, .mv, [.var 0], none⟩,
  ⟨.loc 4, .lenL, [.loc 3], none⟩,
  ⟨.var 1, .mv, [.loc 4], none⟩]
@[reducible] noncomputable def r74_1 : List RO := [
  ⟨.loc 5, .mv, [.var 0], none⟩,
  ⟨.loc 6, .mv, [.var 1], none⟩,
  ⟨.loc 7, .mv, [.var 1], none⟩,
  ⟨.loc 8, .cvI .u64, [.loc 7], none⟩,
  ⟨.loc 9, .call, [(.con (.fn (.func 78) [] [])), .loc 8], none⟩,
  ⟨.loc 10, .call, [(.con (.fn (.func 77) [] [])), .loc 5, .con (.int .i64 0), .loc 6, .loc 9], none⟩]
theorem P74 : C74.M = M := by unfold C74 E74; rfl
theorem pe74 {n m : Nat} : (E74 n m).M = M := by unfold E74; rfl
theorem i74 {a0 : D} : St.init C74 [a0] ⟨[], []⟩ = ⟨[a0, .undef], [], ⟨[], []⟩⟩ := by unfold C74 E74; rfl
theorem ie74 {n m : Nat} {hp : Hp} {a0 : D} : St.init (E74 n m) [a0] hp = ⟨[a0, .undef], [], hp⟩ := by unfold E74; rfl
noncomputable def c74 : RC := (.seq (.reg r74_0) (.reg r74_1))
noncomputable def q74 : List RR := []
theorem z74 {n m : Nat} : resCode (E74 n m) (Try.f74.body.getD .skip) = some c74 := by kernel_rfl
theorem zr74 {n m : Nat} : resRs (E74 n m) Try.f74.results.toList = some q74 := by kernel_rfl
theorem oe74 {args : List D} {hp : Hp} {R : D → Hp → Prop} (n m : Nat) (hl : args.length = 1) (hn : n = hp.H.length) (hm : m = hp.tk.length) (h : SWp (E74 n m) c74 (fun e s => (match e with | .exit _ => False | _ => True) ∧ ∃ s1, Weak (E74 n m) s s1 ∧ rrsWp q74 s1 fun ds => R (oneOrTup ds) s1.hp) (St.init (E74 n m) args hp)) : Eff M 74 args hp R :=
  eff_of_body (C := E74 n m) (fn := Try.f74) Try.func74 (by kernel_rfl) (by kernel_rfl) (rc := c74) z74 (rs := q74) zr74 (by kernel_rfl) (by rw [hl]; rfl) (by rw [hl]; exact (by decide : 1 ≤ 11)) hn hm h
theorem ok74 {args : List D} {d : D} (hl : args.length = 1) (h : SWp C74 c74 (fun e s => (match e with | .exit _ => False | _ => True) ∧ rrsWp q74 s fun ds => D.closed (oneOrTup ds) = true ∧ (oneOrTup ds).er = d) (St.init C74 args ⟨[], []⟩)) : Pur M 74 args d :=
  pur_of_body (C := C74) (fn := Try.f74) Try.func74 (by kernel_rfl) (by kernel_rfl) (rc := c74) z74 (rs := q74) zr74 (by kernel_rfl) (by rw [hl]; rfl) (by rw [hl]; decide) rfl rfl h
/- 62 bogie.fleet.Inside · 2 arguments · kept slots [0, 1, 2, 4, 5, 7, 8, 9, 10, 11, 12, 13, 14, 15, 16, 18, 29, 33, 35, 46, 56, 58, 60, 66, 71, 72, 73, 74] -/
noncomputable def E62 (n m : Nat) : Cfg := ⟨M, [0, 1, 2, 4, 5, 7, 8, 9, 10, 11, 12, 13, 14, 15, 16, 18, 29, 33, 35, 46, 56, 58, 60, 66, 71, 72, 73, 74], 87, n, m, []⟩
noncomputable def C62 : Cfg := E62 0 0
@[reducible] noncomputable def r62_0 : List RO := [
  ⟨.var 2, .box, [.var 0], none⟩,
  ⟨.var 3, .mv, [(.con (.lit (.slice none 0 0)))], none⟩]
@[reducible] noncomputable def r62_1 : List RO := [
  ⟨.loc 19, .ld true 1, [.var 2], none⟩,
  ⟨.loc 20, .call, [(.con (.fn (.func 29) [] [])), .loc 19], none⟩,
  ⟨.var 4, (.newb [(.lit (.slice none 0 0)), (.lit (.map none))]), [], none⟩,
  ⟨.none, .st 2, [.var 4, .loc 20], none⟩]
@[reducible] noncomputable def r62_2 : List RO := [
  ⟨.loc 22, .fld 1, [.var 4], none⟩,
  ⟨.loc 23, .ld false 1, [.loc 22], none⟩,
  ⟨.loc 24, .mv, [.var 1], none⟩,
  ⟨.loc 25, (.lkp .str true (.int .i64 0)), [.loc 23, .loc 24], none⟩,
  ⟨.loc 21, .mv, [.loc 25], none⟩,
  ⟨.loc 26, .ext 0, [.loc 21], none⟩,
  ⟨.loc 27, .ext 1, [.loc 21], none⟩,
  ⟨.loc 6, .mv, [.loc 26], none⟩,
  ⟨.var 5, .mv, [.loc 27], none⟩]
@[reducible] noncomputable def r62_3 : List RO := [
  ⟨.loc 28, .mv, [.var 5], none⟩,
  ⟨.var 16, .un .not, [.loc 28], none⟩]
@[reducible] noncomputable def r62_4 : List RO := [
  ⟨.var 3, .mv, [(.con (.lit (.slice none 0 0)))], none⟩]
@[reducible] noncomputable def r62_5 : List RO := [
  ⟨.loc 30, .newM, [], none⟩,
  ⟨.var 6, .mv, [.loc 30], none⟩]
@[reducible] noncomputable def r62_6 : List RO := [
  ⟨.loc 31, .fld 1, [.var 4], none⟩,
  ⟨.loc 32, .ld false 1, [.loc 31], none⟩,
  ⟨.var 17, .rngM, [.loc 32], none⟩]
@[reducible] noncomputable def r62_7 : List RO := [
  ⟨.loc 34, .nxtM, [.var 17], none⟩,
  ⟨.var 18, .ext 0, [.loc 34], none⟩]
@[reducible] noncomputable def r62_8 : List RO := [
  ⟨.loc 36, .ent, [.var 17], none⟩,
  ⟨.loc 37, .ext 0, [.loc 36], none⟩,
  ⟨.loc 38, .ext 1, [.loc 36], none⟩,
  ⟨.var 7, .mv, [.loc 37], none⟩,
  ⟨.var 8, .mv, [.loc 38], none⟩]
@[reducible] noncomputable def r62_9 : List RO := [
  ⟨.loc 39, .fld 0, [.var 4], none⟩,
  ⟨.loc 40, .ld false 1, [.loc 39], none⟩,
  ⟨.loc 41, .mv, [.var 8], none⟩,
  ⟨.loc 42, .ixaS 14, [.loc 40, .loc 41], none⟩,
  ⟨.loc 43, .fld 2, [.loc 42], none⟩,
  ⟨.loc 44, .ld false 1, [.loc 43], none⟩,
  ⟨.var 9, .mv, [.loc 44], none⟩]
@[reducible] noncomputable def r62_10 : List RO := [
  ⟨.loc 45, .mv, [.var 9], none⟩,
  ⟨.var 19, .bin .neq, [.loc 45, (.con (.str []))], none⟩]
@[reducible] noncomputable def r62_11 : List RO := [
  ⟨.loc 47, .mv, [.var 6], none⟩,
  ⟨.loc 48, .mv, [.var 7], none⟩,
  ⟨.loc 49, .mv, [.var 9], none⟩,
  ⟨.none, .mpu .str, [.loc 47, .loc 48, .loc 49], none⟩]
@[reducible] noncomputable def r62_12 : List RO := [
  ⟨.loc 50, .mv, [.var 6], none⟩,
  ⟨.loc 51, .mv, [.var 1], none⟩,
  ⟨.none, .mdl .str, [.loc 50, .loc 51], none⟩]
@[reducible] noncomputable def r62_13 : List RO := [
  ⟨.var 10, .mv, [(.con (.lit (.slice none 0 0)))], none⟩]
@[reducible] noncomputable def r62_14 : List RO := [
  ⟨.loc 52, .mv, [.var 1], none⟩,
  ⟨.loc 53, .bsl 1, [.loc 52], none⟩,
  ⟨.var 11, .mv, [.loc 53], none⟩]
@[reducible] noncomputable def r62_15 : List RO := [
  ⟨.loc 54, .mv, [.var 11], none⟩,
  ⟨.loc 55, .lenL, [.loc 54], none⟩,
  ⟨.var 20, .bin .gtr, [.loc 55, .con (.int .i64 0)], none⟩]
@[reducible] noncomputable def r62_16 : List RO := [
  ⟨.var 12, .mv, [(.con (.lit (.slice none 0 0)))], none⟩]
@[reducible] noncomputable def r62_17 : List RO := [
  ⟨.loc 57, .mv, [.var 6], none⟩,
  ⟨.var 21, .rngM, [.loc 57], none⟩]
@[reducible] noncomputable def r62_18 : List RO := [
  ⟨.loc 59, .nxtM, [.var 21], none⟩,
  ⟨.var 22, .ext 0, [.loc 59], none⟩]
@[reducible] noncomputable def r62_19 : List RO := [
  ⟨.loc 61, .ent, [.var 21], none⟩,
  ⟨.loc 62, .ext 0, [.loc 61], none⟩,
  ⟨.loc 63, .ext 1, [.loc 61], none⟩,
  ⟨.var 13, .mv, [.loc 62], none⟩,
  ⟨.var 14, .mv, [.loc 63], none⟩]
@[reducible] noncomputable def r62_20 : List RO := [
  ⟨.loc 64, .mv, [.var 11], none⟩,
  ⟨.loc 65, .mv, [.var 14], none⟩,
  ⟨.var 23, .call, [(.con (.fn (.func 66) [] [])), .loc 64, .loc 65], none⟩]
@[reducible] noncomputable def r62_21 : List RO := [
  ⟨.loc 67, .mv, [.var 12], none⟩,
  ⟨.loc 68, .mv, [.var 13], none⟩,
  ⟨.loc 69, .bsl 1, [.loc 68], none⟩,
  ⟨.loc 70, .app 1 16 9, [.loc 67, .loc 69], none⟩,
  ⟨.var 12, .mv, [.loc 70], none⟩]
@[reducible] noncomputable def r62_22 : List RO := [
  ⟨.var 24, .mv, [.var 12], none⟩,
  ⟨.var 25, .lenL, [.var 24], none⟩,
  ⟨.var 26, .mv, [.con (.int .i64 0)], none⟩]
@[reducible] noncomputable def r62_23 : List RO := [
  ⟨.var 27, .bin .lss, [.var 26, .var 25], none⟩]
@[reducible] noncomputable def r62_24 : List RO := [
  ⟨.loc 75, .ixaS 1, [.var 24, .var 26], none⟩,
  ⟨.loc 76, .ld false 1, [.loc 75], none⟩,
  ⟨.var 15, .mv, [.loc 76], none⟩]
@[reducible] noncomputable def r62_25 : List RO := [
  ⟨.loc 77, .mv, [.var 6], none⟩,
  ⟨.loc 78, .mv, [.var 15], none⟩,
  ⟨.none, .mdl .str, [.loc 77, .loc 78], none⟩]
@[reducible] noncomputable def r62_26 : List RO := [
  ⟨.loc 79, .bin .add, [.var 26, .con (.int .i64 1)], none⟩,
  ⟨.var 26, .mv, [.loc 79], none⟩]
@[reducible] noncomputable def r62_27 : List RO := [
  ⟨.loc 80, .mv, [.var 10], none⟩,
  ⟨.loc 81, .mv, [.var 12], none⟩,
  ⟨.loc 82, .app 1 16 9, [.loc 80, .loc 81], none⟩,
  ⟨.var 10, .mv, [.loc 82], none⟩]
@[reducible] noncomputable def r62_28 : List RO := [
  ⟨.loc 83, .mv, [.var 12], none⟩,
  ⟨.var 11, .mv, [.loc 83], none⟩]
@[reducible] noncomputable def r62_29 : List RO := [
  ⟨.loc 84, .mv, [.var 10], none⟩,
  ⟨.loc 85, .call, [(.con (.fn (.func 74) [] [])), .loc 84], none⟩]
@[reducible] noncomputable def r62_30 : List RO := [
  ⟨.loc 86, .mv, [.var 10], none⟩,
  ⟨.var 3, .mv, [.loc 86], none⟩]
theorem P62 : C62.M = M := by unfold C62 E62; rfl
theorem pe62 {n m : Nat} : (E62 n m).M = M := by unfold E62; rfl
theorem i62 {a0 a1 : D} : St.init C62 [a0, a1] ⟨[], []⟩ = ⟨[a0, a1, .undef, .undef, .undef, .undef, .undef, .undef, .undef, .undef, .undef, .undef, .undef, .undef, .undef, .undef, .undef, .undef, .undef, .undef, .undef, .undef, .undef, .undef, .undef, .undef, .undef, .undef], [], ⟨[], []⟩⟩ := by unfold C62 E62; rfl
theorem ie62 {n m : Nat} {hp : Hp} {a0 a1 : D} : St.init (E62 n m) [a0, a1] hp = ⟨[a0, a1, .undef, .undef, .undef, .undef, .undef, .undef, .undef, .undef, .undef, .undef, .undef, .undef, .undef, .undef, .undef, .undef, .undef, .undef, .undef, .undef, .undef, .undef, .undef, .undef, .undef, .undef], [], hp⟩ := by unfold E62; rfl
noncomputable def c62 : RC := (.seq (.reg r62_0) (.seq (.reg r62_1) (.seq (.seq (.reg r62_2) (.seq (.reg r62_3) (.cond (.var 16) (.seq (.reg r62_4) .ret) .skip))) (.seq (.reg r62_5) (.seq (.seq (.reg r62_6) (.block 0 (.loop (.seq (.reg r62_7) (.seq (.cond (.var 18) .skip (.exit 0)) (.block 1 (.seq (.reg r62_8) (.seq (.reg r62_9) (.seq (.reg r62_10) (.cond (.var 19) (.reg r62_11) .skip)))))))))) (.seq (.reg r62_12) (.seq (.reg r62_13) (.seq (.seq (.reg r62_14) (.block 2 (.loop (.seq (.seq (.reg r62_15) (.cond (.var 20) .skip (.exit 2))) (.block 3 (.seq (.reg r62_16) (.seq (.seq (.reg r62_17) (.block 4 (.loop (.seq (.reg r62_18) (.seq (.cond (.var 22) .skip (.exit 4)) (.block 5 (.seq (.reg r62_19) (.seq (.reg r62_20) (.cond (.var 23) (.reg r62_21) .skip))))))))) (.seq (.seq (.reg r62_22) (.block 6 (.loop (.seq (.reg r62_23) (.seq (.cond (.var 27) .skip (.exit 6)) (.seq (.block 7 (.seq (.reg r62_24) (.reg r62_25))) (.reg r62_26))))))) (.seq (.reg r62_27) (.reg r62_28)))))))))) (.seq (.reg r62_29) (.seq (.reg r62_30) .ret))))))))))
noncomputable def q62 : List RR := [(.slot (.var 3))]
theorem z62 {n m : Nat} : resCode (E62 n m) (Try.f62.body.getD .skip) = some c62 := by kernel_rfl
theorem zr62 {n m : Nat} : resRs (E62 n m) Try.f62.results.toList = some q62 := by kernel_rfl
theorem oe62 {args : List D} {hp : Hp} {R : D → Hp → Prop} (n m : Nat) (hl : args.length = 2) (hn : n = hp.H.length) (hm : m = hp.tk.length) (h : SWp (E62 n m) c62 (fun e s => (match e with | .exit _ => False | _ => True) ∧ ∃ s1, Weak (E62 n m) s s1 ∧ rrsWp q62 s1 fun ds => R (oneOrTup ds) s1.hp) (St.init (E62 n m) args hp)) : Eff M 62 args hp R :=
  eff_of_body (C := E62 n m) (fn := Try.f62) Try.func62 (by kernel_rfl) (by kernel_rfl) (rc := c62) z62 (rs := q62) zr62 (by kernel_rfl) (by rw [hl]; rfl) (by rw [hl]; exact (by decide : 2 ≤ 87)) hn hm h
theorem ok62 {args : List D} {d : D} (hl : args.length = 2) (h : SWp C62 c62 (fun e s => (match e with | .exit _ => False | _ => True) ∧ rrsWp q62 s fun ds => D.closed (oneOrTup ds) = true ∧ (oneOrTup ds).er = d) (St.init C62 args ⟨[], []⟩)) : Pur M 62 args d :=
  pur_of_body (C := C62) (fn := Try.f62) Try.func62 (by kernel_rfl) (by kernel_rfl) (rc := c62) z62 (rs := q62) zr62 (by kernel_rfl) (by rw [hl]; rfl) (by rw [hl]; decide) rfl rfl h
/- 73 slices.IndexFunc[[]string,string] · 2 arguments · kept slots [0, 1, 4, 5, 7, 8, 9, 16] -/
noncomputable def E73 (n m : Nat) : Cfg := ⟨M, [0, 1, 4, 5, 7, 8, 9, 16], 19, n, m, []⟩
@[reducible] noncomputable def r73_0 : List RO := [
  ⟨.var 2, .mv, [.con (.int .i64 0)], none⟩]
@[reducible] noncomputable def r73_1 : List RO := [
  ⟨.loc 6, .mv, [.var 0], none⟩,
  ⟨.var 4, .lenL, [.loc 6], none⟩,
  ⟨.var 5, .mv, [.con (.int .i64 0)], none⟩]
@[reducible] noncomputable def r73_2 : List RO := [
  ⟨.var 6, .bin .lss, [.var 5, .var 4], none⟩]
@[reducible] noncomputable def r73_3 : List RO := [
  ⟨.loc 10, .mv, [.var 5], none⟩,
  ⟨.var 3, .mv, [.loc 10], none⟩]
@[reducible] noncomputable def r73_4 : List RO := [
  ⟨.loc 11, .mv, [.var 1], none⟩,
  ⟨.loc 12, .mv, [.var 0], none⟩,
  ⟨.loc 13, .mv, [.var 3], none⟩,
  ⟨.loc 14, .ixaS 1, [.loc 12, .loc 13], none⟩,
  ⟨.loc 15, .ld false 1, [.loc 14], none⟩,
  ⟨.var 7, .call, [.loc 11, .loc 15], none⟩]
@[reducible] noncomputable def r73_5 : List RO := [
  ⟨.loc 17, .mv, [.var 3], none⟩,
  ⟨.var 2, .mv, [.loc 17], none⟩]
@[reducible] noncomputable def r73_6 : List RO := [
  ⟨.loc 18, .bin .add, [.var 5, .con (.int .i64 1)], none⟩,
  ⟨.var 5, .mv, [.loc 18], none⟩]
@[reducible] noncomputable def r73_7 : List RO := [
  ⟨.var 2, .mv, [(.con (.int .i64 (-1)))], none⟩]
theorem pe73 {n m : Nat} : (E73 n m).M = M := by unfold E73; rfl
theorem ie73 {n m : Nat} {hp : Hp} {a0 a1 : D} : St.init (E73 n m) [a0, a1] hp = ⟨[a0, a1, .undef, .undef, .undef, .undef, .undef, .undef], [], hp⟩ := by unfold E73; rfl
noncomputable def c73 : RC := (.seq (.reg r73_0) (.seq (.seq (.reg r73_1) (.block 0 (.loop (.seq (.reg r73_2) (.seq (.cond (.var 6) .skip (.exit 0)) (.seq (.block 1 (.seq (.reg r73_3) (.seq (.reg r73_4) (.cond (.var 7) (.seq (.reg r73_5) .ret) .skip)))) (.reg r73_6))))))) (.seq (.reg r73_7) .ret)))
noncomputable def q73 : List RR := [(.slot (.var 2))]
theorem z73 {n m : Nat} : resCode (E73 n m) (Try.f73.body.getD .skip) = some c73 := by kernel_rfl
theorem zr73 {n m : Nat} : resRs (E73 n m) Try.f73.results.toList = some q73 := by kernel_rfl
theorem oe73 {args : List D} {hp : Hp} {R : D → Hp → Prop} (n m : Nat) (hl : args.length = 2) (hn : n = hp.H.length) (hm : m = hp.tk.length) (h : SWp (E73 n m) c73 (fun e s => (match e with | .exit _ => False | _ => True) ∧ ∃ s1, Weak (E73 n m) s s1 ∧ rrsWp q73 s1 fun ds => R (oneOrTup ds) s1.hp) (St.init (E73 n m) args hp)) : Eff M 73 args hp R :=
  eff_of_body (C := E73 n m) (fn := Try.f73) Try.func73 (by kernel_rfl) (by kernel_rfl) (rc := c73) z73 (rs := q73) zr73 (by kernel_rfl) (by rw [hl]; rfl) (by rw [hl]; exact (by decide : 2 ≤ 19)) hn hm h
/- 63 (bogie.meaning.asker).inside$1 · 3 arguments · kept slots [0, 1, 2, 4, 5] -/
noncomputable def E63 (n m : Nat) : Cfg := ⟨M, [0, 1, 2, 4, 5], 18, n, m, []⟩
@[reducible] noncomputable def r63_0 : List RO := [
  ⟨.var 3, .mv, [.con (.bool false)], none⟩]
@[reducible] noncomputable def r63_1 : List RO := [
  ⟨.loc 8, .fld 0, [.var 1], none⟩,
  ⟨.loc 9, .ld true 1, [.loc 8], none⟩,
  ⟨.loc 10, .mv, [.var 0], none⟩,
  ⟨.loc 11, .call, [(.con (.fn (.func 37) [] [])), .loc 9, .loc 10], none⟩,
  ⟨.loc 7, .mv, [.loc 11], none⟩,
  ⟨.loc 12, .ext 0, [.loc 7], none⟩,
  ⟨.loc 13, .ext 1, [.loc 7], none⟩,
  ⟨.var 4, (.newb [(.str []), (.str []), (.str []), (.str []), (.int .i64 0), (.int .i64 0), (.bool false), (.lit (.slice none 0 0)), (.int .i64 0), (.int .i64 0), (.int .i64 0), (.int .i64 0), (.int .i64 0), (.int .i64 0)]), [], none⟩,
  ⟨.none, .st 14, [.var 4, .loc 12], none⟩,
  ⟨.loc 6, .mv, [.loc 13], none⟩]
@[reducible] noncomputable def r63_2 : List RO := [
  ⟨.loc 14, .fld 1, [.var 4], none⟩,
  ⟨.loc 15, .ld false 1, [.loc 14], none⟩,
  ⟨.loc 16, .ld false 1, [.var 2], none⟩,
  ⟨.loc 17, .bin .neq, [.loc 15, .loc 16], none⟩,
  ⟨.var 3, .mv, [.loc 17], none⟩]
theorem pe63 {n m : Nat} : (E63 n m).M = M := by unfold E63; rfl
theorem ie63 {n m : Nat} {hp : Hp} {a0 a1 a2 : D} : St.init (E63 n m) [a0, a1, a2] hp = ⟨[a0, a1, a2, .undef, .undef], [], hp⟩ := by unfold E63; rfl
noncomputable def c63 : RC := (.seq (.reg r63_0) (.seq (.reg r63_1) (.seq (.reg r63_2) .ret)))
noncomputable def q63 : List RR := [(.slot (.var 3))]
theorem z63 {n m : Nat} : resCode (E63 n m) (Try.f63.body.getD .skip) = some c63 := by kernel_rfl
theorem zr63 {n m : Nat} : resRs (E63 n m) Try.f63.results.toList = some q63 := by kernel_rfl
theorem oe63 {args : List D} {hp : Hp} {R : D → Hp → Prop} (n m : Nat) (hl : args.length = 3) (hn : n = hp.H.length) (hm : m = hp.tk.length) (h : SWp (E63 n m) c63 (fun e s => (match e with | .exit _ => False | _ => True) ∧ ∃ s1, Weak (E63 n m) s s1 ∧ rrsWp q63 s1 fun ds => R (oneOrTup ds) s1.hp) (St.init (E63 n m) args hp)) : Eff M 63 args hp R :=
  eff_of_body (C := E63 n m) (fn := Try.f63) Try.func63 (by kernel_rfl) (by kernel_rfl) (rc := c63) z63 (rs := q63) zr63 (by kernel_rfl) (by rw [hl]; rfl) (by rw [hl]; exact (by decide : 3 ≤ 18)) hn hm h
/- 61 slices.DeleteFunc[[]string,string] · 2 arguments · kept slots [0, 1, 4, 5, 6, 7, 12, 19, 29] -/
noncomputable def E61 (n m : Nat) : Cfg := ⟨M, [0, 1, 4, 5, 6, 7, 12, 19, 29], 42, n, m, []⟩
@[reducible] noncomputable def r61_0 : List RO := [
  ⟨.var 2, .mv, [(.con (.lit (.slice none 0 0)))], none⟩]
@[reducible] noncomputable def r61_1 : List RO := [
  ⟨.loc 8, .mv, [.var 0], none⟩,
  ⟨.loc 9, .mv, [.var 1], none⟩,
  ⟨.loc 10, .call, [(.con (.fn (.func 73) [] [])), .loc 8, .loc 9], none⟩,
  ⟨.var 3, .mv, [.loc 10], none⟩]
@[reducible] noncomputable def r61_2 : List RO := [
  ⟨.loc 11, .mv, [.var 3], none⟩,
  ⟨.var 6, .bin .eql, [.loc 11, (.con (.int .i64 (-1)))], none⟩]
@[reducible] noncomputable def r61_3 : List RO := [
  ⟨.loc 13, .mv, [.var 0], none⟩,
  ⟨.var 2, .mv, [.loc 13], none⟩]
@[reducible] noncomputable def r61_4 : List RO := [
  ⟨.loc 14, .mv, [.var 3], none⟩,
  ⟨.loc 15, .bin .add, [.loc 14, .con (.int .i64 1)], none⟩,
  ⟨.var 4, .mv, [.loc 15], none⟩]
@[reducible] noncomputable def r61_5 : List RO := [
  ⟨.loc 16, .mv, [.var 4], none⟩,
  ⟨.loc 17, .mv, [.var 0], none⟩,
  ⟨.loc 18, .lenL, [.loc 17], none⟩,
  ⟨.var 7, .bin .lss, [.loc 16, .loc 18], none⟩]
@[reducible] noncomputable def r61_6 : List RO := [
  ⟨.loc 22, .mv, [.var 0], none⟩,
  ⟨.loc 23, .mv, [.var 4], none⟩,
  ⟨.loc 24, .ixaS 1, [.loc 22, .loc 23], none⟩,
  ⟨.loc 25, .ld false 1, [.loc 24], none⟩,
  ⟨.var 5, .mv, [.loc 25], none⟩]
@[reducible] noncomputable def r61_7 : List RO := [
  ⟨.loc 26, .mv, [.var 1], none⟩,
  ⟨.loc 27, .mv, [.var 5], none⟩,
  ⟨.loc 28, .call, [.loc 26, .loc 27], none⟩,
  ⟨.var 8, .un .not, [.loc 28], none⟩]
@[reducible] noncomputable def r61_8 : List RO := [
  ⟨.loc 30, .mv, [.var 0], none⟩,
  ⟨.loc 31, .mv, [.var 3], none⟩,
  ⟨.loc 32, .mv, [.var 5], none⟩,
  ⟨.loc 33, .ixaS 1, [.loc 30, .loc 31], none⟩,
  ⟨.none, .st 1, [.loc 33, .loc 32], none⟩]
@[reducible] noncomputable def r61_9 : List RO := [
  ⟨.loc 34, .mv, [.var 3], none⟩,
  ⟨.loc 35, .bin .add, [.loc 34, .con (.int .i64 1)], none⟩,
  ⟨.var 3, .mv, [.loc 35], none⟩]
@[reducible] noncomputable def r61_10 : List RO := [
  ⟨.loc 20, .mv, [.var 4], none⟩,
  ⟨.loc 21, .bin .add, [.loc 20, .con (.int .i64 1)], none⟩,
  ⟨.var 4, .mv, [.loc 21], none⟩]
@[reducible] noncomputable def r61_11 : List RO := [
  ⟨.loc 36, .mv, [.var 0], none⟩,
  ⟨.loc 37, .mv, [.var 3], none⟩,
  ⟨.loc 38, .slcL 1 true false, [.loc 36, .loc 37], none⟩,
  ⟨.none, (.clr 1 [(.str [])]), [.loc 38], none⟩]
@[reducible] noncomputable def r61_12 : List RO := [
  ⟨.loc 39, .mv, [.var 0], none⟩,
  ⟨.loc 40, .mv, [.var 3], none⟩,
  ⟨.loc 41, .slcL 1 false true, [.loc 39, .loc 40], none⟩,
  ⟨.var 2, .mv, [.loc 41], none⟩]
theorem pe61 {n m : Nat} : (E61 n m).M = M := by unfold E61; rfl
theorem ie61 {n m : Nat} {hp : Hp} {a0 a1 : D} : St.init (E61 n m) [a0, a1] hp = ⟨[a0, a1, .undef, .undef, .undef, .undef, .undef, .undef, .undef], [], hp⟩ := by unfold E61; rfl
noncomputable def c61 : RC := (.seq (.reg r61_0) (.seq (.reg r61_1) (.seq (.seq (.reg r61_2) (.cond (.var 6) (.seq (.reg r61_3) .ret) .skip)) (.seq (.seq (.reg r61_4) (.block 0 (.loop (.seq (.seq (.reg r61_5) (.cond (.var 7) .skip (.exit 0))) (.seq (.block 1 (.seq (.reg r61_6) (.seq (.reg r61_7) (.cond (.var 8) (.seq (.reg r61_8) (.reg r61_9)) .skip)))) (.reg r61_10)))))) (.seq (.reg r61_11) (.seq (.reg r61_12) .ret))))))
noncomputable def q61 : List RR := [(.slot (.var 2))]
theorem z61 {n m : Nat} : resCode (E61 n m) (Try.f61.body.getD .skip) = some c61 := by kernel_rfl
theorem zr61 {n m : Nat} : resRs (E61 n m) Try.f61.results.toList = some q61 := by kernel_rfl
theorem oe61 {args : List D} {hp : Hp} {R : D → Hp → Prop} (n m : Nat) (hl : args.length = 2) (hn : n = hp.H.length) (hm : m = hp.tk.length) (h : SWp (E61 n m) c61 (fun e s => (match e with | .exit _ => False | _ => True) ∧ ∃ s1, Weak (E61 n m) s s1 ∧ rrsWp q61 s1 fun ds => R (oneOrTup ds) s1.hp) (St.init (E61 n m) args hp)) : Eff M 61 args hp R :=
  eff_of_body (C := E61 n m) (fn := Try.f61) Try.func61 (by kernel_rfl) (by kernel_rfl) (rc := c61) z61 (rs := q61) zr61 (by kernel_rfl) (by rw [hl]; rfl) (by rw [hl]; exact (by decide : 2 ≤ 42)) hn hm h
/- 48 (bogie.meaning.asker).inside · 3 arguments · kept slots [0, 1, 2, 3, 5, 6] -/
noncomputable def E48 (n m : Nat) : Cfg := ⟨M, [0, 1, 2, 3, 5, 6], 13, n, m, []⟩
noncomputable def C48 : Cfg := E48 0 0
@[reducible] noncomputable def r48_0 : List RO := [
  ⟨.var 3, .box, [.var 0], none⟩,
  ⟨.var 4, .box, [.var 2], none⟩,
  ⟨.var 5, .mv, [(.con (.lit (.slice none 0 0)))], none⟩]
@[reducible] noncomputable def r48_1 : List RO := [
  ⟨.loc 7, .fld 0, [.var 3], none⟩,
  ⟨.loc 8, .ld true 1, [.loc 7], none⟩,
  ⟨.loc 9, .mv, [.var 1], none⟩,
  ⟨.loc 10, .call, [(.con (.fn (.func 62) [] [])), .loc 8, .loc 9], none⟩,
  ⟨.loc 11, (.mkF (.func 63) 0), [.var 3, .var 4], none⟩,
  ⟨.loc 12, .call, [(.con (.fn (.func 61) [] [])), .loc 10, .loc 11], none⟩,
  ⟨.var 5, .mv, [.loc 12], none⟩]
theorem P48 : C48.M = M := by unfold C48 E48; rfl
theorem i48 {a0 a1 a2 : D} : St.init C48 [a0, a1, a2] ⟨[], []⟩ = ⟨[a0, a1, a2, .undef, .undef, .undef], [], ⟨[], []⟩⟩ := by unfold C48 E48; rfl
noncomputable def c48 : RC := (.seq (.reg r48_0) (.seq (.reg r48_1) .ret))
noncomputable def q48 : List RR := [(.slot (.var 5))]
theorem z48 {n m : Nat} : resCode (E48 n m) (Try.f48.body.getD .skip) = some c48 := by kernel_rfl
theorem zr48 {n m : Nat} : resRs (E48 n m) Try.f48.results.toList = some q48 := by kernel_rfl
theorem ow48 {args : List D} {d : D} (hl : args.length = 3) (h : SWp C48 c48 (fun e s => (match e with | .exit _ => False | _ => True) ∧ ∃ s1, Weak C48 s s1 ∧ rrsWp q48 s1 fun ds => D.closed (oneOrTup ds) = true ∧ (oneOrTup ds).er = d) (St.init C48 args ⟨[], []⟩)) : Pur M 48 args d :=
  pur_of_bodyW (C := C48) (fn := Try.f48) Try.func48 (by kernel_rfl) (by kernel_rfl) (rc := c48) z48 (rs := q48) zr48 (by kernel_rfl) (by rw [hl]; rfl) (by rw [hl]; decide) rfl rfl h
end Go.Proofs.Ytcchbohfcmfmlaa
end
section
set_option maxRecDepth 100000
namespace Go.Proofs.Ytcchbohfcmfmlaa
open Go GoV
/- 67 bogie.life.currencies$1 · 2 arguments · kept slots [0, 1, 4, 5, 8] -/
noncomputable def E67 (n m : Nat) : Cfg := ⟨M, [0, 1, 4, 5, 8], 19, n, m, []⟩
noncomputable def C67 : Cfg := E67 0 0
@[reducible] noncomputable def r67_0 : List RO := [
  ⟨.var 2, (.newb [(.int .i64 0), (.int .i64 0)]), [], none⟩]
@[reducible] noncomputable def r67_1 : List RO := [
  ⟨.loc 6, .mv, [.var 1], none⟩,
  ⟨.loc 7, .mv, [.var 0], none⟩,
  ⟨.var 4, .bin .geq, [.loc 6, .loc 7], none⟩]
@[reducible] noncomputable def r67_2 : List RO := [
  ⟨.loc 9, (.bld [(.int .i64 0), (.int .i64 0)] []), [], none⟩,
  ⟨.none, .st 2, [.var 2, .loc 9], none⟩]
@[reducible] noncomputable def r67_3 : List RO := [
  ⟨.loc 10, .mv, [.var 0], none⟩,
  ⟨.loc 11, .mv, [.var 1], none⟩,
  ⟨.loc 12, .mv, [.var 0], none⟩,
  ⟨.loc 13, .bin .sub, [.loc 12, .con (.int .i64 1000000000000)], none⟩,
  ⟨.loc 14, .maxI, [.loc 11, .loc 13], none⟩,
  ⟨.loc 15, .bin .sub, [.loc 10, .loc 14], none⟩,
  ⟨.var 3, .mv, [.loc 15], none⟩]
@[reducible] noncomputable def r67_4 : List RO := [
  ⟨.loc 16, .mv, [.var 3], none⟩,
  ⟨.loc 17, .mv, [.var 3], none⟩,
  ⟨.loc 18, (.bld [(.int .i64 0), (.int .i64 0)] [(0, 1), (1, 1)]), [.loc 16, .loc 17], none⟩,
  ⟨.none, .st 2, [.var 2, .loc 18], none⟩]
theorem P67 : C67.M = M := by unfold C67 E67; rfl
theorem i67 {a0 a1 : D} : St.init C67 [a0, a1] ⟨[], []⟩ = ⟨[a0, a1, .undef, .undef, .undef], [], ⟨[], []⟩⟩ := by unfold C67 E67; rfl
noncomputable def c67 : RC := (.seq (.reg r67_0) (.seq (.seq (.reg r67_1) (.cond (.var 4) (.seq (.reg r67_2) .ret) .skip)) (.seq (.reg r67_3) (.seq (.reg r67_4) .ret))))
noncomputable def q67 : List RR := [(.cell (.var 2) true 2)]
theorem z67 {n m : Nat} : resCode (E67 n m) (Try.f67.body.getD .skip) = some c67 := by kernel_rfl
theorem zr67 {n m : Nat} : resRs (E67 n m) Try.f67.results.toList = some q67 := by kernel_rfl
theorem ok67 {args : List D} {d : D} (hl : args.length = 2) (h : SWp C67 c67 (fun e s => (match e with | .exit _ => False | _ => True) ∧ rrsWp q67 s fun ds => D.closed (oneOrTup ds) = true ∧ (oneOrTup ds).er = d) (St.init C67 args ⟨[], []⟩)) : Pur M 67 args d :=
  pur_of_body (C := C67) (fn := Try.f67) Try.func67 (by kernel_rfl) (by kernel_rfl) (rc := c67) z67 (rs := q67) zr67 (by kernel_rfl) (by rw [hl]; rfl) (by rw [hl]; decide) rfl rfl h
/- 68 bogie.life.currencies$2 · 2 arguments · kept slots [0, 1, 2, 4] -/
noncomputable def E68 (n m : Nat) : Cfg := ⟨M, [0, 1, 2, 4], 8, n, m, []⟩
noncomputable def C68 : Cfg := E68 0 0
@[reducible] noncomputable def r68_0 : List RO := [
  ⟨.var 2, .box, [.var 0], none⟩,
  ⟨.var 3, (.newb [(.int .i64 0), (.int .i64 0)]), [], none⟩]
@[reducible] noncomputable def r68_1 : List RO := [
  ⟨.loc 5, .fld 8, [.var 2], none⟩,
  ⟨.loc 6, .fld 0, [.loc 5], none⟩,
  ⟨.loc 7, .ld true 2, [.loc 6], none⟩,
  ⟨.none, .st 2, [.var 3, .loc 7], none⟩]
theorem P68 : C68.M = M := by unfold C68 E68; rfl
theorem i68 {a0 a1 : D} : St.init C68 [a0, a1] ⟨[], []⟩ = ⟨[a0, a1, .undef, .undef], [], ⟨[], []⟩⟩ := by unfold C68 E68; rfl
noncomputable def c68 : RC := (.seq (.reg r68_0) (.seq (.reg r68_1) .ret))
noncomputable def q68 : List RR := [(.cell (.var 3) true 2)]
theorem z68 {n m : Nat} : resCode (E68 n m) (Try.f68.body.getD .skip) = some c68 := by kernel_rfl
theorem zr68 {n m : Nat} : resRs (E68 n m) Try.f68.results.toList = some q68 := by kernel_rfl
theorem ok68 {args : List D} {d : D} (hl : args.length = 2) (h : SWp C68 c68 (fun e s => (match e with | .exit _ => False | _ => True) ∧ rrsWp q68 s fun ds => D.closed (oneOrTup ds) = true ∧ (oneOrTup ds).er = d) (St.init C68 args ⟨[], []⟩)) : Pur M 68 args d :=
  pur_of_body (C := C68) (fn := Try.f68) Try.func68 (by kernel_rfl) (by kernel_rfl) (rc := c68) z68 (rs := q68) zr68 (by kernel_rfl) (by rw [hl]; rfl) (by rw [hl]; decide) rfl rfl h
/- 69 bogie.life.currencies$3 · 2 arguments · kept slots [0, 1, 2, 4] -/
noncomputable def E69 (n m : Nat) : Cfg := ⟨M, [0, 1, 2, 4], 8, n, m, []⟩
noncomputable def C69 : Cfg := E69 0 0
@[reducible] noncomputable def r69_0 : List RO := [
  ⟨.var 2, .box, [.var 0], none⟩,
  ⟨.var 3, (.newb [(.int .i64 0), (.int .i64 0)]), [], none⟩]
@[reducible] noncomputable def r69_1 : List RO := [
  ⟨.loc 5, .fld 8, [.var 2], none⟩,
  ⟨.loc 6, .fld 2, [.loc 5], none⟩,
  ⟨.loc 7, .ld true 2, [.loc 6], none⟩,
  ⟨.none, .st 2, [.var 3, .loc 7], none⟩]
theorem P69 : C69.M = M := by unfold C69 E69; rfl
theorem i69 {a0 a1 : D} : St.init C69 [a0, a1] ⟨[], []⟩ = ⟨[a0, a1, .undef, .undef], [], ⟨[], []⟩⟩ := by unfold C69 E69; rfl
noncomputable def c69 : RC := (.seq (.reg r69_0) (.seq (.reg r69_1) .ret))
noncomputable def q69 : List RR := [(.cell (.var 3) true 2)]
theorem z69 {n m : Nat} : resCode (E69 n m) (Try.f69.body.getD .skip) = some c69 := by kernel_rfl
theorem zr69 {n m : Nat} : resRs (E69 n m) Try.f69.results.toList = some q69 := by kernel_rfl
theorem ok69 {args : List D} {d : D} (hl : args.length = 2) (h : SWp C69 c69 (fun e s => (match e with | .exit _ => False | _ => True) ∧ rrsWp q69 s fun ds => D.closed (oneOrTup ds) = true ∧ (oneOrTup ds).er = d) (St.init C69 args ⟨[], []⟩)) : Pur M 69 args d :=
  pur_of_body (C := C69) (fn := Try.f69) Try.func69 (by kernel_rfl) (by kernel_rfl) (rc := c69) z69 (rs := q69) zr69 (by kernel_rfl) (by rw [hl]; rfl) (by rw [hl]; decide) rfl rfl h
/- 70 bogie.life.currencies$4 · 2 arguments · kept slots [0, 1, 2, 4] -/
noncomputable def E70 (n m : Nat) : Cfg := ⟨M, [0, 1, 2, 4], 8, n, m, []⟩
noncomputable def C70 : Cfg := E70 0 0
@[reducible] noncomputable def r70_0 : List RO := [
  ⟨.var 2, .box, [.var 0], none⟩,
  ⟨.var 3, (.newb [(.int .i64 0), (.int .i64 0)]), [], none⟩]
@[reducible] noncomputable def r70_1 : List RO := [
  ⟨.loc 5, .fld 8, [.var 2], none⟩,
  ⟨.loc 6, .fld 4, [.loc 5], none⟩,
  ⟨.loc 7, .ld true 2, [.loc 6], none⟩,
  ⟨.none, .st 2, [.var 3, .loc 7], none⟩]
theorem P70 : C70.M = M := by unfold C70 E70; rfl
theorem i70 {a0 a1 : D} : St.init C70 [a0, a1] ⟨[], []⟩ = ⟨[a0, a1, .undef, .undef], [], ⟨[], []⟩⟩ := by unfold C70 E70; rfl
noncomputable def c70 : RC := (.seq (.reg r70_0) (.seq (.reg r70_1) .ret))
noncomputable def q70 : List RR := [(.cell (.var 3) true 2)]
theorem z70 {n m : Nat} : resCode (E70 n m) (Try.f70.body.getD .skip) = some c70 := by kernel_rfl
theorem zr70 {n m : Nat} : resRs (E70 n m) Try.f70.results.toList = some q70 := by kernel_rfl
theorem ok70 {args : List D} {d : D} (hl : args.length = 2) (h : SWp C70 c70 (fun e s => (match e with | .exit _ => False | _ => True) ∧ rrsWp q70 s fun ds => D.closed (oneOrTup ds) = true ∧ (oneOrTup ds).er = d) (St.init C70 args ⟨[], []⟩)) : Pur M 70 args d :=
  pur_of_body (C := C70) (fn := Try.f70) Try.func70 (by kernel_rfl) (by kernel_rfl) (rc := c70) z70 (rs := q70) zr70 (by kernel_rfl) (by rw [hl]; rfl) (by rw [hl]; decide) rfl rfl h
/- 71 bogie.life.currencies$5 · 3 arguments · kept slots [0, 1, 2, 3, 5] -/
noncomputable def E71 (n m : Nat) : Cfg := ⟨M, [0, 1, 2, 3, 5], 11, n, m, []⟩
@[reducible] noncomputable def r71_0 : List RO := [
  ⟨.var 3, .box, [.var 0], none⟩,
  ⟨.var 4, (.newb [(.int .i64 0), (.int .i64 0)]), [], none⟩]
@[reducible] noncomputable def r71_1 : List RO := [
  ⟨.loc 6, .ld false 1, [.var 2], none⟩,
  ⟨.loc 7, .mv, [.var 1], none⟩,
  ⟨.loc 8, .fld 5, [.var 3], none⟩,
  ⟨.loc 9, .ld false 1, [.loc 8], none⟩,
  ⟨.loc 10, .call, [.loc 6, .loc 7, .loc 9], none⟩,
  ⟨.none, .st 2, [.var 4, .loc 10], none⟩]
theorem pe71 {n m : Nat} : (E71 n m).M = M := by unfold E71; rfl
theorem ie71 {n m : Nat} {hp : Hp} {a0 a1 a2 : D} : St.init (E71 n m) [a0, a1, a2] hp = ⟨[a0, a1, a2, .undef, .undef], [], hp⟩ := by unfold E71; rfl
noncomputable def c71 : RC := (.seq (.reg r71_0) (.seq (.reg r71_1) .ret))
noncomputable def q71 : List RR := [(.cell (.var 4) true 2)]
theorem z71 {n m : Nat} : resCode (E71 n m) (Try.f71.body.getD .skip) = some c71 := by kernel_rfl
theorem zr71 {n m : Nat} : resRs (E71 n m) Try.f71.results.toList = some q71 := by kernel_rfl
theorem oe71 {args : List D} {hp : Hp} {R : D → Hp → Prop} (n m : Nat) (hl : args.length = 3) (hn : n = hp.H.length) (hm : m = hp.tk.length) (h : SWp (E71 n m) c71 (fun e s => (match e with | .exit _ => False | _ => True) ∧ ∃ s1, Weak (E71 n m) s s1 ∧ rrsWp q71 s1 fun ds => R (oneOrTup ds) s1.hp) (St.init (E71 n m) args hp)) : Eff M 71 args hp R :=
  eff_of_body (C := E71 n m) (fn := Try.f71) Try.func71 (by kernel_rfl) (by kernel_rfl) (rc := c71) z71 (rs := q71) zr71 (by kernel_rfl) (by rw [hl]; rfl) (by rw [hl]; exact (by decide : 3 ≤ 11)) hn hm h
/- 72 bogie.life.currencies$6 · 3 arguments · kept slots [0, 1, 2, 3, 5] -/
noncomputable def E72 (n m : Nat) : Cfg := ⟨M, [0, 1, 2, 3, 5], 11, n, m, []⟩
@[reducible] noncomputable def r72_0 : List RO := [
  ⟨.var 3, .box, [.var 0], none⟩,
  ⟨.var 4, (.newb [(.int .i64 0), (.int .i64 0)]), [], none⟩]
@[reducible] noncomputable def r72_1 : List RO := [
  ⟨.loc 6, .ld false 1, [.var 2], none⟩,
  ⟨.loc 7, .mv, [.var 1], none⟩,
  ⟨.loc 8, .fld 4, [.var 3], none⟩,
  ⟨.loc 9, .ld false 1, [.loc 8], none⟩,
  ⟨.loc 10, .call, [.loc 6, .loc 7, .loc 9], none⟩,
  ⟨.none, .st 2, [.var 4, .loc 10], none⟩]
theorem pe72 {n m : Nat} : (E72 n m).M = M := by unfold E72; rfl
theorem ie72 {n m : Nat} {hp : Hp} {a0 a1 a2 : D} : St.init (E72 n m) [a0, a1, a2] hp = ⟨[a0, a1, a2, .undef, .undef], [], hp⟩ := by unfold E72; rfl
noncomputable def c72 : RC := (.seq (.reg r72_0) (.seq (.reg r72_1) .ret))
noncomputable def q72 : List RR := [(.cell (.var 4) true 2)]
theorem z72 {n m : Nat} : resCode (E72 n m) (Try.f72.body.getD .skip) = some c72 := by kernel_rfl
theorem zr72 {n m : Nat} : resRs (E72 n m) Try.f72.results.toList = some q72 := by kernel_rfl
theorem oe72 {args : List D} {hp : Hp} {R : D → Hp → Prop} (n m : Nat) (hl : args.length = 3) (hn : n = hp.H.length) (hm : m = hp.tk.length) (h : SWp (E72 n m) c72 (fun e s => (match e with | .exit _ => False | _ => True) ∧ ∃ s1, Weak (E72 n m) s s1 ∧ rrsWp q72 s1 fun ds => R (oneOrTup ds) s1.hp) (St.init (E72 n m) args hp)) : Eff M 72 args hp R :=
  eff_of_body (C := E72 n m) (fn := Try.f72) Try.func72 (by kernel_rfl) (by kernel_rfl) (rc := c72) z72 (rs := q72) zr72 (by kernel_rfl) (by rw [hl]; rfl) (by rw [hl]; exact (by decide : 3 ≤ 11)) hn hm h
/- 56 bogie.life.currencies · 0 arguments · kept slots [0, 1] -/
noncomputable def E56 (n m : Nat) : Cfg := ⟨M, [0, 1], 6, n, m, []⟩
@[reducible] noncomputable def r56_0 : List RO := [
  ⟨.var 0, .mv, [(.con (.lit (.map none)))], none⟩]
@[reducible] noncomputable def r56_1 : List RO := [
  ⟨.var 1, (.newb [(.lit .nilFunc)]), [], none⟩,
  ⟨.none, .st 1, [.var 1, (.con (.fn (.func 67) [] []))], none⟩]
@[reducible] noncomputable def r56_2 : List RO := [
  ⟨.loc 2, .newM, [], none⟩,
  ⟨.none, .mpu .str, [.loc 2, (.con (.str [107, 109])), (.con (.fn (.func 68) [] []))], none⟩,
  ⟨.none, .mpu .str, [.loc 2, (.con (.str [99, 121, 99, 108, 101, 115])), (.con (.fn (.func 69) [] []))], none⟩,
  ⟨.none, .mpu .str, [.loc 2, (.con (.str [100, 97, 109, 97, 103, 101])), (.con (.fn (.func 70) [] []))], none⟩,
  ⟨.loc 3, (.mkF (.func 71) 0), [.var 1], none⟩,
  ⟨.none, .mpu .str, [.loc 2, (.con (.str [100, 97, 121, 115])), .loc 3], none⟩,
  ⟨.loc 4, (.mkF (.func 72) 0), [.var 1], none⟩,
  ⟨.none, .mpu .str, [.loc 2, (.con (.str [97, 103, 101])), .loc 4], none⟩,
  ⟨.loc 5, .mv, [.loc 2], none⟩,
  ⟨.var 0, .mv, [.loc 5], none⟩]
theorem pe56 {n m : Nat} : (E56 n m).M = M := by unfold E56; rfl
theorem ie56 {n m : Nat} {hp : Hp} : St.init (E56 n m) [] hp = ⟨[.undef, .undef], [], hp⟩ := by unfold E56; rfl
noncomputable def c56 : RC := (.seq (.reg r56_0) (.seq (.reg r56_1) (.seq (.reg r56_2) .ret)))
noncomputable def q56 : List RR := [(.slot (.var 0))]
theorem z56 {n m : Nat} : resCode (E56 n m) (Try.f56.body.getD .skip) = some c56 := by kernel_rfl
theorem zr56 {n m : Nat} : resRs (E56 n m) Try.f56.results.toList = some q56 := by kernel_rfl
theorem oe56 {args : List D} {hp : Hp} {R : D → Hp → Prop} (n m : Nat) (hl : args.length = 0) (hn : n = hp.H.length) (hm : m = hp.tk.length) (h : SWp (E56 n m) c56 (fun e s => (match e with | .exit _ => False | _ => True) ∧ ∃ s1, Weak (E56 n m) s s1 ∧ rrsWp q56 s1 fun ds => R (oneOrTup ds) s1.hp) (St.init (E56 n m) args hp)) : Eff M 56 args hp R :=
  eff_of_body (C := E56 n m) (fn := Try.f56) Try.func56 (by kernel_rfl) (by kernel_rfl) (rc := c56) z56 (rs := q56) zr56 (by kernel_rfl) (by rw [hl]; rfl) (by rw [hl]; exact (by decide : 0 ≤ 6)) hn hm h
/- 40 bogie.life.Value · 3 arguments · kept slots [0, 1, 2, 3, 6, 7, 8, 9, 16, 20] -/
noncomputable def E40 (n m : Nat) : Cfg := ⟨M, [0, 1, 2, 3, 6, 7, 8, 9, 16, 20], 32, n, m, []⟩
noncomputable def C40 : Cfg := E40 0 0
@[reducible] noncomputable def r40_0 : List RO := [
  ⟨.var 3, .box, [.var 0], none⟩,
  ⟨.var 4, (.newb [(.int .i64 0), (.int .i64 0)]), [], none⟩,
  ⟨.var 5, .mv, [.con (.int .i64 0)], none⟩]
@[reducible] noncomputable def r40_1 : List RO := [
  ⟨.loc 11, .call, [(.con (.fn (.func 56) [] []))], none⟩,
  ⟨.loc 12, .mv, [.var 1], none⟩,
  ⟨.loc 13, (.lkp .str true (.lit .nilFunc)), [.loc 11, .loc 12], none⟩,
  ⟨.loc 10, .mv, [.loc 13], none⟩,
  ⟨.loc 14, .ext 0, [.loc 10], none⟩,
  ⟨.loc 15, .ext 1, [.loc 10], none⟩,
  ⟨.var 6, .mv, [.loc 14], none⟩,
  ⟨.var 7, .mv, [.loc 15], none⟩]
@[reducible] noncomputable def r40_2 : List RO := [
  ⟨.loc 17, .mv, [.var 7], none⟩,
  ⟨.loc 18, .un .not, [.loc 17], none⟩,
  ⟨.var 8, .mv, [.loc 18], none⟩]
@[reducible] noncomputable def r40_3 : List RO := [
  ⟨.loc 19, (.bld [(.int .i64 0), (.int .i64 0)] []), [], none⟩,
  ⟨.none, .st 2, [.var 4, .loc 19], none⟩,
  ⟨.var 5, .mv, [.con (.int .i64 15)], none⟩]
@[reducible] noncomputable def r40_4 : List RO := [
  ⟨.loc 21, .mv, [.var 2], none⟩,
  ⟨.loc 22, .bin .lss, [.loc 21, .con (.int .i64 0)], none⟩,
  ⟨.loc 23, .mv, [.loc 22], none⟩,
  ⟨.loc 24, .mv, [.var 2], (some (.loc 23, false))⟩,
  ⟨.loc 25, .bin .gtr, [.loc 24, .con (.int .i64 40000)], (some (.loc 23, false))⟩,
  ⟨.loc 26, .pick, [.loc 23, .con (.bool true), .loc 25], none⟩,
  ⟨.var 9, .mv, [.loc 26], none⟩]
@[reducible] noncomputable def r40_5 : List RO := [
  ⟨.loc 27, (.bld [(.int .i64 0), (.int .i64 0)] []), [], none⟩,
  ⟨.none, .st 2, [.var 4, .loc 27], none⟩,
  ⟨.var 5, .mv, [.con (.int .i64 13)], none⟩]
@[reducible] noncomputable def r40_6 : List RO := [
  ⟨.loc 28, .mv, [.var 6], none⟩,
  ⟨.loc 29, .ld true 14, [.var 3], none⟩,
  ⟨.loc 30, .mv, [.var 2], none⟩,
  ⟨.loc 31, .call, [.loc 28, .loc 29, .loc 30], none⟩,
  ⟨.none, .st 2, [.var 4, .loc 31], none⟩,
  ⟨.var 5, .mv, [.con (.int .i64 0)], none⟩]
theorem P40 : C40.M = M := by unfold C40 E40; rfl
theorem i40 {a0 a1 a2 : D} : St.init C40 [a0, a1, a2] ⟨[], []⟩ = ⟨[a0, a1, a2, .undef, .undef, .undef, .undef, .undef, .undef, .undef], [], ⟨[], []⟩⟩ := by unfold C40 E40; rfl
noncomputable def c40 : RC := (.seq (.reg r40_0) (.seq (.reg r40_1) (.seq (.block 0 (.seq (.reg r40_2) (.cond (.var 8) (.seq (.reg r40_3) .ret) (.seq (.reg r40_4) (.cond (.var 9) (.seq (.reg r40_5) .ret) .skip))))) (.seq (.reg r40_6) .ret))))
noncomputable def q40 : List RR := [(.cell (.var 4) true 2), (.slot (.var 5))]
theorem z40 {n m : Nat} : resCode (E40 n m) (Try.f40.body.getD .skip) = some c40 := by kernel_rfl
theorem zr40 {n m : Nat} : resRs (E40 n m) Try.f40.results.toList = some q40 := by kernel_rfl
theorem ok40 {args : List D} {d : D} (hl : args.length = 3) (h : SWp C40 c40 (fun e s => (match e with | .exit _ => False | _ => True) ∧ rrsWp q40 s fun ds => D.closed (oneOrTup ds) = true ∧ (oneOrTup ds).er = d) (St.init C40 args ⟨[], []⟩)) : Pur M 40 args d :=
  pur_of_body (C := C40) (fn := Try.f40) Try.func40 (by kernel_rfl) (by kernel_rfl) (rc := c40) z40 (rs := q40) zr40 (by kernel_rfl) (by rw [hl]; rfl) (by rw [hl]; decide) rfl rfl h
/- 58 slices.Index[[]bogie.api.Prop,bogie.api.Prop] · 2 arguments · kept slots [0, 1, 3, 4, 5, 7, 8, 9, 16] -/
noncomputable def E58 (n m : Nat) : Cfg := ⟨M, [0, 1, 3, 4, 5, 7, 8, 9, 16], 19, n, m, []⟩
noncomputable def C58 : Cfg := E58 0 0
@[reducible] noncomputable def r58_0 : List RO := [
  ⟨.var 2, .box, [.var 1], none⟩,
  ⟨.var 3, .mv, [.con (.int .i64 0)], none⟩]
@[reducible] noncomputable def r58_1 : List RO := [
  ⟨.loc 6, .mv, [.var 0], none⟩,
  ⟨.var 5, .lenL, [.loc 6], none⟩,
  ⟨.var 6, .mv, [.con (.int .i64 0)], none⟩]
@[reducible] noncomputable def r58_2 : List RO := [
  ⟨.var 7, .bin .lss, [.var 6, .var 5], none⟩]
@[reducible] noncomputable def r58_3 : List RO := [
  ⟨.loc 10, .mv, [.var 6], none⟩,
  ⟨.var 4, .mv, [.loc 10], none⟩]
@[reducible] noncomputable def r58_4 : List (RO × Bool) := [
  (⟨.loc 11, .ld true 2, [.var 2], none⟩, true),
  (⟨.loc 12, .mv, [.var 0], none⟩, true),
  (⟨.loc 13, .mv, [.var 4], none⟩, true),
  (⟨.loc 14, .ixaS 2, [.loc 12, .loc 13], none⟩, true),
  (⟨.loc 15, .ld true 2, [.loc 14], none⟩, true)]
@[reducible] noncomputable def r58_5 : List RO := [
  ⟨.var 8, (.eqA false [.str, .str]), [.loc 11, .loc 15], none⟩]
@[reducible] noncomputable def r58_6 : List RO := [
  ⟨.loc 17, .mv, [.var 4], none⟩,
  ⟨.var 3, .mv, [.loc 17], none⟩]
@[reducible] noncomputable def r58_7 : List RO := [
  ⟨.loc 18, .bin .add, [.var 6, .con (.int .i64 1)], none⟩,
  ⟨.var 6, .mv, [.loc 18], none⟩]
@[reducible] noncomputable def r58_8 : List RO := [
  ⟨.var 3, .mv, [(.con (.int .i64 (-1)))], none⟩]
theorem P58 : C58.M = M := by unfold C58 E58; rfl
theorem i58 {a0 a1 : D} : St.init C58 [a0, a1] ⟨[], []⟩ = ⟨[a0, a1, .undef, .undef, .undef, .undef, .undef, .undef, .undef], [], ⟨[], []⟩⟩ := by unfold C58 E58; rfl
noncomputable def c58 : RC := (.seq (.reg r58_0) (.seq (.seq (.reg r58_1) (.block 0 (.loop (.seq (.reg r58_2) (.seq (.cond (.var 7) .skip (.exit 0)) (.seq (.block 1 (.seq (.reg r58_3) (.seq (.regD r58_4 r58_5) (.cond (.var 8) (.seq (.reg r58_6) .ret) .skip)))) (.reg r58_7))))))) (.seq (.reg r58_8) .ret)))
noncomputable def q58 : List RR := [(.slot (.var 3))]
theorem z58 {n m : Nat} : resCode (E58 n m) (Try.f58.body.getD .skip) = some c58 := by kernel_rfl
theorem zr58 {n m : Nat} : resRs (E58 n m) Try.f58.results.toList = some q58 := by kernel_rfl
theorem ok58 {args : List D} {d : D} (hl : args.length = 2) (h : SWp C58 c58 (fun e s => (match e with | .exit _ => False | _ => True) ∧ rrsWp q58 s fun ds => D.closed (oneOrTup ds) = true ∧ (oneOrTup ds).er = d) (St.init C58 args ⟨[], []⟩)) : Pur M 58 args d :=
  pur_of_body (C := C58) (fn := Try.f58) Try.func58 (by kernel_rfl) (by kernel_rfl) (rc := c58) z58 (rs := q58) zr58 (by kernel_rfl) (by rw [hl]; rfl) (by rw [hl]; decide) rfl rfl h
/- 43 slices.Contains[[]bogie.api.Prop,bogie.api.Prop] · 2 arguments · kept slots [0, 1, 3, 4] -/
noncomputable def E43 (n m : Nat) : Cfg := ⟨M, [0, 1, 3, 4], 9, n, m, []⟩
noncomputable def C43 : Cfg := E43 0 0
@[reducible] noncomputable def r43_0 : List RO := [
  ⟨.var 2, .box, [.var 1], none⟩,
  ⟨.var 3, .mv, [.con (.bool false)], none⟩]
@[reducible] noncomputable def r43_1 : List RO := [
  ⟨.loc 5, .mv, [.var 0], none⟩,
  ⟨.loc 6, .ld true 2, [.var 2], none⟩,
  ⟨.loc 7, .call, [(.con (.fn (.func 58) [] [])), .loc 5, .loc 6], none⟩,
  ⟨.loc 8, .bin .geq, [.loc 7, .con (.int .i64 0)], none⟩,
  ⟨.var 3, .mv, [.loc 8], none⟩]
theorem P43 : C43.M = M := by unfold C43 E43; rfl
theorem i43 {a0 a1 : D} : St.init C43 [a0, a1] ⟨[], []⟩ = ⟨[a0, a1, .undef, .undef], [], ⟨[], []⟩⟩ := by unfold C43 E43; rfl
noncomputable def c43 : RC := (.seq (.reg r43_0) (.seq (.reg r43_1) .ret))
noncomputable def q43 : List RR := [(.slot (.var 3))]
theorem z43 {n m : Nat} : resCode (E43 n m) (Try.f43.body.getD .skip) = some c43 := by kernel_rfl
theorem zr43 {n m : Nat} : resRs (E43 n m) Try.f43.results.toList = some q43 := by kernel_rfl
theorem ok43 {args : List D} {d : D} (hl : args.length = 2) (h : SWp C43 c43 (fun e s => (match e with | .exit _ => False | _ => True) ∧ rrsWp q43 s fun ds => D.closed (oneOrTup ds) = true ∧ (oneOrTup ds).er = d) (St.init C43 args ⟨[], []⟩)) : Pur M 43 args d :=
  pur_of_body (C := C43) (fn := Try.f43) Try.func43 (by kernel_rfl) (by kernel_rfl) (rc := c43) z43 (rs := q43) zr43 (by kernel_rfl) (by rw [hl]; rfl) (by rw [hl]; decide) rfl rfl h
/- 59 slices.IndexFunc[[]bogie.api.Prop,bogie.api.Prop] · 2 arguments · kept slots [0, 1, 4, 5, 7, 8, 9, 16] -/
noncomputable def E59 (n m : Nat) : Cfg := ⟨M, [0, 1, 4, 5, 7, 8, 9, 16], 19, n, m, []⟩
@[reducible] noncomputable def r59_0 : List RO := [
  ⟨.var 2, .mv, [.con (.int .i64 0)], none⟩]
@[reducible] noncomputable def r59_1 : List RO := [
  ⟨.loc 6, .mv, [.var 0], none⟩,
  ⟨.var 4, .lenL, [.loc 6], none⟩,
  ⟨.var 5, .mv, [.con (.int .i64 0)], none⟩]
@[reducible] noncomputable def r59_2 : List RO := [
  ⟨.var 6, .bin .lss, [.var 5, .var 4], none⟩]
@[reducible] noncomputable def r59_3 : List RO := [
  ⟨.loc 10, .mv, [.var 5], none⟩,
  ⟨.var 3, .mv, [.loc 10], none⟩]
@[reducible] noncomputable def r59_4 : List RO := [
  ⟨.loc 11, .mv, [.var 1], none⟩,
  ⟨.loc 12, .mv, [.var 0], none⟩,
  ⟨.loc 13, .mv, [.var 3], none⟩,
  ⟨.loc 14, .ixaS 2, [.loc 12, .loc 13], none⟩,
  ⟨.loc 15, .ld true 2, [.loc 14], none⟩,
  ⟨.var 7, .call, [.loc 11, .loc 15], none⟩]
@[reducible] noncomputable def r59_5 : List RO := [
  ⟨.loc 17, .mv, [.var 3], none⟩,
  ⟨.var 2, .mv, [.loc 17], none⟩]
@[reducible] noncomputable def r59_6 : List RO := [
  ⟨.loc 18, .bin .add, [.var 5, .con (.int .i64 1)], none⟩,
  ⟨.var 5, .mv, [.loc 18], none⟩]
@[reducible] noncomputable def r59_7 : List RO := [
  ⟨.var 2, .mv, [(.con (.int .i64 (-1)))], none⟩]
theorem pe59 {n m : Nat} : (E59 n m).M = M := by unfold E59; rfl
theorem ie59 {n m : Nat} {hp : Hp} {a0 a1 : D} : St.init (E59 n m) [a0, a1] hp = ⟨[a0, a1, .undef, .undef, .undef, .undef, .undef, .undef], [], hp⟩ := by unfold E59; rfl
noncomputable def c59 : RC := (.seq (.reg r59_0) (.seq (.seq (.reg r59_1) (.block 0 (.loop (.seq (.reg r59_2) (.seq (.cond (.var 6) .skip (.exit 0)) (.seq (.block 1 (.seq (.reg r59_3) (.seq (.reg r59_4) (.cond (.var 7) (.seq (.reg r59_5) .ret) .skip)))) (.reg r59_6))))))) (.seq (.reg r59_7) .ret)))
noncomputable def q59 : List RR := [(.slot (.var 2))]
theorem z59 {n m : Nat} : resCode (E59 n m) (Try.f59.body.getD .skip) = some c59 := by kernel_rfl
theorem zr59 {n m : Nat} : resRs (E59 n m) Try.f59.results.toList = some q59 := by kernel_rfl
theorem oe59 {args : List D} {hp : Hp} {R : D → Hp → Prop} (n m : Nat) (hl : args.length = 2) (hn : n = hp.H.length) (hm : m = hp.tk.length) (h : SWp (E59 n m) c59 (fun e s => (match e with | .exit _ => False | _ => True) ∧ ∃ s1, Weak (E59 n m) s s1 ∧ rrsWp q59 s1 fun ds => R (oneOrTup ds) s1.hp) (St.init (E59 n m) args hp)) : Eff M 59 args hp R :=
  eff_of_body (C := E59 n m) (fn := Try.f59) Try.func59 (by kernel_rfl) (by kernel_rfl) (rc := c59) z59 (rs := q59) zr59 (by kernel_rfl) (by rw [hl]; rfl) (by rw [hl]; exact (by decide : 2 ≤ 19)) hn hm h
/- 44 slices.ContainsFunc[[]bogie.api.Prop,bogie.api.Prop] · 2 arguments · kept slots [0, 1, 4] -/
noncomputable def E44 (n m : Nat) : Cfg := ⟨M, [0, 1, 4], 9, n, m, []⟩
@[reducible] noncomputable def r44_0 : List RO := [
  ⟨.var 2, .mv, [.con (.bool false)], none⟩]
@[reducible] noncomputable def r44_1 : List RO := [
  ⟨.loc 5, .mv, [.var 0], none⟩,
  ⟨.loc 6, .mv, [.var 1], none⟩,
  ⟨.loc 7, .call, [(.con (.fn (.func 59) [] [])), .loc 5, .loc 6], none⟩,
  ⟨.loc 8, .bin .geq, [.loc 7, .con (.int .i64 0)], none⟩,
  ⟨.var 2, .mv, [.loc 8], none⟩]
theorem pe44 {n m : Nat} : (E44 n m).M = M := by unfold E44; rfl
theorem ie44 {n m : Nat} {hp : Hp} {a0 a1 : D} : St.init (E44 n m) [a0, a1] hp = ⟨[a0, a1, .undef], [], hp⟩ := by unfold E44; rfl
noncomputable def c44 : RC := (.seq (.reg r44_0) (.seq (.reg r44_1) .ret))
noncomputable def q44 : List RR := [(.slot (.var 2))]
theorem z44 {n m : Nat} : resCode (E44 n m) (Try.f44.body.getD .skip) = some c44 := by kernel_rfl
theorem zr44 {n m : Nat} : resRs (E44 n m) Try.f44.results.toList = some q44 := by kernel_rfl
theorem oe44 {args : List D} {hp : Hp} {R : D → Hp → Prop} (n m : Nat) (hl : args.length = 2) (hn : n = hp.H.length) (hm : m = hp.tk.length) (h : SWp (E44 n m) c44 (fun e s => (match e with | .exit _ => False | _ => True) ∧ ∃ s1, Weak (E44 n m) s s1 ∧ rrsWp q44 s1 fun ds => R (oneOrTup ds) s1.hp) (St.init (E44 n m) args hp)) : Eff M 44 args hp R :=
  eff_of_body (C := E44 n m) (fn := Try.f44) Try.func44 (by kernel_rfl) (by kernel_rfl) (rc := c44) z44 (rs := q44) zr44 (by kernel_rfl) (by rw [hl]; rfl) (by rw [hl]; exact (by decide : 2 ≤ 9)) hn hm h
/- 45 (bogie.meaning.asker).ask$3 · 2 arguments · kept slots [0, 1, 2, 3] -/
noncomputable def E45 (n m : Nat) : Cfg := ⟨M, [0, 1, 2, 3], 9, n, m, []⟩
@[reducible] noncomputable def r45_0 : List RO := [
  ⟨.var 2, .box, [.var 0], none⟩,
  ⟨.var 3, .mv, [.con (.bool false)], none⟩]
@[reducible] noncomputable def r45_1 : List RO := [
  ⟨.loc 4, .fld 0, [.var 2], none⟩,
  ⟨.loc 5, .ld false 1, [.loc 4], none⟩,
  ⟨.loc 6, .fld 1, [.var 1], none⟩,
  ⟨.loc 7, .ld false 1, [.loc 6], none⟩,
  ⟨.loc 8, .bin .eql, [.loc 5, .loc 7], none⟩,
  ⟨.var 3, .mv, [.loc 8], none⟩]
theorem pe45 {n m : Nat} : (E45 n m).M = M := by unfold E45; rfl
theorem ie45 {n m : Nat} {hp : Hp} {a0 a1 : D} : St.init (E45 n m) [a0, a1] hp = ⟨[a0, a1, .undef, .undef], [], hp⟩ := by unfold E45; rfl
noncomputable def c45 : RC := (.seq (.reg r45_0) (.seq (.reg r45_1) .ret))
noncomputable def q45 : List RR := [(.slot (.var 3))]
theorem z45 {n m : Nat} : resCode (E45 n m) (Try.f45.body.getD .skip) = some c45 := by kernel_rfl
theorem zr45 {n m : Nat} : resRs (E45 n m) Try.f45.results.toList = some q45 := by kernel_rfl
theorem oe45 {args : List D} {hp : Hp} {R : D → Hp → Prop} (n m : Nat) (hl : args.length = 2) (hn : n = hp.H.length) (hm : m = hp.tk.length) (h : SWp (E45 n m) c45 (fun e s => (match e with | .exit _ => False | _ => True) ∧ ∃ s1, Weak (E45 n m) s s1 ∧ rrsWp q45 s1 fun ds => R (oneOrTup ds) s1.hp) (St.init (E45 n m) args hp)) : Eff M 45 args hp R :=
  eff_of_body (C := E45 n m) (fn := Try.f45) Try.func45 (by kernel_rfl) (by kernel_rfl) (rc := c45) z45 (rs := q45) zr45 (by kernel_rfl) (by rw [hl]; rfl) (by rw [hl]; exact (by decide : 2 ≤ 9)) hn hm h
/- 60 slices.IndexFunc[[]bogie.api.Part,bogie.api.Part] · 2 arguments · kept slots [0, 1, 4, 5, 7, 8, 9, 16] -/
noncomputable def E60 (n m : Nat) : Cfg := ⟨M, [0, 1, 4, 5, 7, 8, 9, 16], 19, n, m, []⟩
@[reducible] noncomputable def r60_0 : List RO := [
  ⟨.var 2, .mv, [.con (.int .i64 0)], none⟩]
@[reducible] noncomputable def r60_1 : List RO := [
  ⟨.loc 6, .mv, [.var 0], none⟩,
  ⟨.var 4, .lenL, [.loc 6], none⟩,
  ⟨.var 5, .mv, [.con (.int .i64 0)], none⟩]
@[reducible] noncomputable def r60_2 : List RO := [
  ⟨.var 6, .bin .lss, [.var 5, .var 4], none⟩]
@[reducible] noncomputable def r60_3 : List RO := [
  ⟨.loc 10, .mv, [.var 5], none⟩,
  ⟨.var 3, .mv, [.loc 10], none⟩]
@[reducible] noncomputable def r60_4 : List RO := [
  ⟨.loc 11, .mv, [.var 1], none⟩,
  ⟨.loc 12, .mv, [.var 0], none⟩,
  ⟨.loc 13, .mv, [.var 3], none⟩,
  ⟨.loc 14, .ixaS 14, [.loc 12, .loc 13], none⟩,
  ⟨.loc 15, .ld true 14, [.loc 14], none⟩,
  ⟨.var 7, .call, [.loc 11, .loc 15], none⟩]
@[reducible] noncomputable def r60_5 : List RO := [
  ⟨.loc 17, .mv, [.var 3], none⟩,
  ⟨.var 2, .mv, [.loc 17], none⟩]
@[reducible] noncomputable def r60_6 : List RO := [
  ⟨.loc 18, .bin .add, [.var 5, .con (.int .i64 1)], none⟩,
  ⟨.var 5, .mv, [.loc 18], none⟩]
@[reducible] noncomputable def r60_7 : List RO := [
  ⟨.var 2, .mv, [(.con (.int .i64 (-1)))], none⟩]
theorem pe60 {n m : Nat} : (E60 n m).M = M := by unfold E60; rfl
theorem ie60 {n m : Nat} {hp : Hp} {a0 a1 : D} : St.init (E60 n m) [a0, a1] hp = ⟨[a0, a1, .undef, .undef, .undef, .undef, .undef, .undef], [], hp⟩ := by unfold E60; rfl
noncomputable def c60 : RC := (.seq (.reg r60_0) (.seq (.seq (.reg r60_1) (.block 0 (.loop (.seq (.reg r60_2) (.seq (.cond (.var 6) .skip (.exit 0)) (.seq (.block 1 (.seq (.reg r60_3) (.seq (.reg r60_4) (.cond (.var 7) (.seq (.reg r60_5) .ret) .skip)))) (.reg r60_6))))))) (.seq (.reg r60_7) .ret)))
noncomputable def q60 : List RR := [(.slot (.var 2))]
theorem z60 {n m : Nat} : resCode (E60 n m) (Try.f60.body.getD .skip) = some c60 := by kernel_rfl
theorem zr60 {n m : Nat} : resRs (E60 n m) Try.f60.results.toList = some q60 := by kernel_rfl
theorem oe60 {args : List D} {hp : Hp} {R : D → Hp → Prop} (n m : Nat) (hl : args.length = 2) (hn : n = hp.H.length) (hm : m = hp.tk.length) (h : SWp (E60 n m) c60 (fun e s => (match e with | .exit _ => False | _ => True) ∧ ∃ s1, Weak (E60 n m) s s1 ∧ rrsWp q60 s1 fun ds => R (oneOrTup ds) s1.hp) (St.init (E60 n m) args hp)) : Eff M 60 args hp R :=
  eff_of_body (C := E60 n m) (fn := Try.f60) Try.func60 (by kernel_rfl) (by kernel_rfl) (rc := c60) z60 (rs := q60) zr60 (by kernel_rfl) (by rw [hl]; rfl) (by rw [hl]; exact (by decide : 2 ≤ 19)) hn hm h
/- 46 slices.ContainsFunc[[]bogie.api.Part,bogie.api.Part] · 2 arguments · kept slots [0, 1, 4] -/
noncomputable def E46 (n m : Nat) : Cfg := ⟨M, [0, 1, 4], 9, n, m, []⟩
@[reducible] noncomputable def r46_0 : List RO := [
  ⟨.var 2, .mv, [.con (.bool false)], none⟩]
@[reducible] noncomputable def r46_1 : List RO := [
  ⟨.loc 5, .mv, [.var 0], none⟩,
  ⟨.loc 6, .mv, [.var 1], none⟩,
  ⟨.loc 7, .call, [(.con (.fn (.func 60) [] [])), .loc 5, .loc 6], none⟩,
  ⟨.loc 8, .bin .geq, [.loc 7, .con (.int .i64 0)], none⟩,
  ⟨.var 2, .mv, [.loc 8], none⟩]
theorem pe46 {n m : Nat} : (E46 n m).M = M := by unfold E46; rfl
theorem ie46 {n m : Nat} {hp : Hp} {a0 a1 : D} : St.init (E46 n m) [a0, a1] hp = ⟨[a0, a1, .undef], [], hp⟩ := by unfold E46; rfl
noncomputable def c46 : RC := (.seq (.reg r46_0) (.seq (.reg r46_1) .ret))
noncomputable def q46 : List RR := [(.slot (.var 2))]
theorem z46 {n m : Nat} : resCode (E46 n m) (Try.f46.body.getD .skip) = some c46 := by kernel_rfl
theorem zr46 {n m : Nat} : resRs (E46 n m) Try.f46.results.toList = some q46 := by kernel_rfl
theorem oe46 {args : List D} {hp : Hp} {R : D → Hp → Prop} (n m : Nat) (hl : args.length = 2) (hn : n = hp.H.length) (hm : m = hp.tk.length) (h : SWp (E46 n m) c46 (fun e s => (match e with | .exit _ => False | _ => True) ∧ ∃ s1, Weak (E46 n m) s s1 ∧ rrsWp q46 s1 fun ds => R (oneOrTup ds) s1.hp) (St.init (E46 n m) args hp)) : Eff M 46 args hp R :=
  eff_of_body (C := E46 n m) (fn := Try.f46) Try.func46 (by kernel_rfl) (by kernel_rfl) (rc := c46) z46 (rs := q46) zr46 (by kernel_rfl) (by rw [hl]; rfl) (by rw [hl]; exact (by decide : 2 ≤ 9)) hn hm h
/- 47 (bogie.meaning.asker).ask$4 · 3 arguments · kept slots [0, 1, 2, 3, 4] -/
noncomputable def E47 (n m : Nat) : Cfg := ⟨M, [0, 1, 2, 3, 4], 23, n, m, []⟩
@[reducible] noncomputable def r47_0 : List RO := [
  ⟨.var 3, .box, [.var 0], none⟩,
  ⟨.var 4, .mv, [.con (.bool false)], none⟩]
@[reducible] noncomputable def r47_1 : List RO := [
  ⟨.loc 5, .fld 2, [.var 3], none⟩,
  ⟨.loc 6, .ld false 1, [.loc 5], none⟩,
  ⟨.loc 7, .ld false 1, [.var 1], none⟩,
  ⟨.loc 8, .bin .eql, [.loc 6, .loc 7], none⟩,
  ⟨.loc 9, .mv, [.loc 8], none⟩,
  ⟨.loc 10, .fld 3, [.var 3], (some (.loc 9, true))⟩,
  ⟨.loc 11, .ld false 1, [.loc 10], (some (.loc 9, true))⟩,
  ⟨.loc 12, .fld 1, [.var 2], (some (.loc 9, true))⟩,
  ⟨.loc 13, .ld false 1, [.loc 12], (some (.loc 9, true))⟩,
  ⟨.loc 14, .bin .eql, [.loc 11, .loc 13], (some (.loc 9, true))⟩,
  ⟨.loc 15, .pick, [.loc 9, .loc 14, .con (.bool false)], none⟩,
  ⟨.loc 16, .mv, [.loc 15], none⟩,
  ⟨.loc 17, .fld 1, [.var 3], (some (.loc 16, true))⟩,
  ⟨.loc 18, .ld false 1, [.loc 17], (some (.loc 16, true))⟩,
  ⟨.loc 19, .fld 2, [.var 2], (some (.loc 16, true))⟩,
  ⟨.loc 20, .ld false 1, [.loc 19], (some (.loc 16, true))⟩,
  ⟨.loc 21, .bin .eql, [.loc 18, .loc 20], (some (.loc 16, true))⟩,
  ⟨.loc 22, .pick, [.loc 16, .loc 21, .con (.bool false)], none⟩,
  ⟨.var 4, .mv, [.loc 22], none⟩]
theorem pe47 {n m : Nat} : (E47 n m).M = M := by unfold E47; rfl
theorem ie47 {n m : Nat} {hp : Hp} {a0 a1 a2 : D} : St.init (E47 n m) [a0, a1, a2] hp = ⟨[a0, a1, a2, .undef, .undef], [], hp⟩ := by unfold E47; rfl
noncomputable def c47 : RC := (.seq (.reg r47_0) (.seq (.reg r47_1) .ret))
noncomputable def q47 : List RR := [(.slot (.var 4))]
theorem z47 {n m : Nat} : resCode (E47 n m) (Try.f47.body.getD .skip) = some c47 := by kernel_rfl
theorem zr47 {n m : Nat} : resRs (E47 n m) Try.f47.results.toList = some q47 := by kernel_rfl
theorem oe47 {args : List D} {hp : Hp} {R : D → Hp → Prop} (n m : Nat) (hl : args.length = 3) (hn : n = hp.H.length) (hm : m = hp.tk.length) (h : SWp (E47 n m) c47 (fun e s => (match e with | .exit _ => False | _ => True) ∧ ∃ s1, Weak (E47 n m) s s1 ∧ rrsWp q47 s1 fun ds => R (oneOrTup ds) s1.hp) (St.init (E47 n m) args hp)) : Eff M 47 args hp R :=
  eff_of_body (C := E47 n m) (fn := Try.f47) Try.func47 (by kernel_rfl) (by kernel_rfl) (rc := c47) z47 (rs := q47) zr47 (by kernel_rfl) (by rw [hl]; rfl) (by rw [hl]; exact (by decide : 3 ≤ 23)) hn hm h
/- 38 (bogie.meaning.asker).ask$1 · 4 arguments · kept slots [0, 1, 2, 3, 8, 9, 10, 11, 12] -/
noncomputable def E38 (n m : Nat) : Cfg := ⟨M, [0, 1, 2, 3, 8, 9, 10, 11, 12], 22, n, m, []⟩
@[reducible] noncomputable def r38_0 : List RO := [
  ⟨.var 4, .mv, [.con (.int .i64 0)], none⟩]
@[reducible] noncomputable def r38_1 : List RO := [
  ⟨.var 6, .mv, [.var 2], none⟩,
  ⟨.var 7, .mv, [.con (.int .i64 0)], none⟩]
@[reducible] noncomputable def r38_2 : List RO := [
  ⟨.var 8, .bin .lss, [.var 7, .var 6], none⟩]
@[reducible] noncomputable def r38_3 : List RO := [
  ⟨.loc 13, .mv, [.var 7], none⟩,
  ⟨.var 5, .mv, [.loc 13], none⟩]
@[reducible] noncomputable def r38_4 : List RO := [
  ⟨.loc 14, .mv, [.var 0], none⟩,
  ⟨.loc 15, .mv, [.var 1], none⟩,
  ⟨.loc 16, .mv, [.var 3], none⟩,
  ⟨.loc 17, .mv, [.var 5], none⟩,
  ⟨.loc 18, .call, [.loc 16, .loc 17], none⟩,
  ⟨.loc 19, .call, [.loc 14, .loc 15, .loc 18], none⟩,
  ⟨.var 1, .mv, [.loc 19], none⟩]
@[reducible] noncomputable def r38_5 : List RO := [
  ⟨.loc 20, .bin .add, [.var 7, .con (.int .i64 1)], none⟩,
  ⟨.var 7, .mv, [.loc 20], none⟩]
@[reducible] noncomputable def r38_6 : List RO := [
  ⟨.loc 21, .mv, [.var 1], none⟩,
  ⟨.var 4, .mv, [.loc 21], none⟩]
theorem pe38 {n m : Nat} : (E38 n m).M = M := by unfold E38; rfl
theorem ie38 {n m : Nat} {hp : Hp} {a0 a1 a2 a3 : D} : St.init (E38 n m) [a0, a1, a2, a3] hp = ⟨[a0, a1, a2, a3, .undef, .undef, .undef, .undef, .undef], [], hp⟩ := by unfold E38; rfl
noncomputable def c38 : RC := (.seq (.reg r38_0) (.seq (.seq (.reg r38_1) (.block 0 (.loop (.seq (.reg r38_2) (.seq (.cond (.var 8) .skip (.exit 0)) (.seq (.block 1 (.seq (.reg r38_3) (.reg r38_4))) (.reg r38_5))))))) (.seq (.reg r38_6) .ret)))
noncomputable def q38 : List RR := [(.slot (.var 4))]
theorem z38 {n m : Nat} : resCode (E38 n m) (Try.f38.body.getD .skip) = some c38 := by kernel_rfl
theorem zr38 {n m : Nat} : resRs (E38 n m) Try.f38.results.toList = some q38 := by kernel_rfl
theorem oe38 {args : List D} {hp : Hp} {R : D → Hp → Prop} (n m : Nat) (hl : args.length = 4) (hn : n = hp.H.length) (hm : m = hp.tk.length) (h : SWp (E38 n m) c38 (fun e s => (match e with | .exit _ => False | _ => True) ∧ ∃ s1, Weak (E38 n m) s s1 ∧ rrsWp q38 s1 fun ds => R (oneOrTup ds) s1.hp) (St.init (E38 n m) args hp)) : Eff M 38 args hp R :=
  eff_of_body (C := E38 n m) (fn := Try.f38) Try.func38 (by kernel_rfl) (by kernel_rfl) (rc := c38) z38 (rs := q38) zr38 (by kernel_rfl) (by rw [hl]; rfl) (by rw [hl]; exact (by decide : 4 ≤ 22)) hn hm h
/- 39 (bogie.meaning.asker).ask$2 · 4 arguments · kept slots [0, 1, 2, 3, 5] -/
noncomputable def E39 (n m : Nat) : Cfg := ⟨M, [0, 1, 2, 3, 5], 14, n, m, []⟩
@[reducible] noncomputable def r39_0 : List RO := [
  ⟨.var 4, .mv, [.con (.int .i64 0)], none⟩]
@[reducible] noncomputable def r39_1 : List (RO × Bool) := [
  (⟨.loc 6, .ld true 2, [.var 1], none⟩, true),
  (⟨.loc 7, .fld 5, [.var 2], none⟩, true),
  (⟨.loc 8, .ld false 1, [.loc 7], none⟩, true),
  (⟨.loc 9, .mv, [.var 0], none⟩, true),
  (⟨.loc 10, .ixaS 6, [.loc 8, .loc 9], none⟩, true),
  (⟨.loc 11, .ld true 6, [.loc 10], none⟩, true),
  (⟨.loc 12, .ld false 1, [.var 3], none⟩, true)]
@[reducible] noncomputable def r39_2 : List RO := [
  ⟨.loc 13, .call, [(.con (.fn (.func 28) [] [])), .loc 6, .loc 11, .loc 12], none⟩,
  ⟨.var 4, .mv, [.loc 13], none⟩]
theorem pe39 {n m : Nat} : (E39 n m).M = M := by unfold E39; rfl
theorem ie39 {n m : Nat} {hp : Hp} {a0 a1 a2 a3 : D} : St.init (E39 n m) [a0, a1, a2, a3] hp = ⟨[a0, a1, a2, a3, .undef], [], hp⟩ := by unfold E39; rfl
noncomputable def c39 : RC := (.seq (.reg r39_0) (.seq (.regD r39_1 r39_2) .ret))
noncomputable def q39 : List RR := [(.slot (.var 4))]
theorem z39 {n m : Nat} : resCode (E39 n m) (Try.f39.body.getD .skip) = some c39 := by kernel_rfl
theorem zr39 {n m : Nat} : resRs (E39 n m) Try.f39.results.toList = some q39 := by kernel_rfl
theorem oe39 {args : List D} {hp : Hp} {R : D → Hp → Prop} (n m : Nat) (hl : args.length = 4) (hn : n = hp.H.length) (hm : m = hp.tk.length) (h : SWp (E39 n m) c39 (fun e s => (match e with | .exit _ => False | _ => True) ∧ ∃ s1, Weak (E39 n m) s s1 ∧ rrsWp q39 s1 fun ds => R (oneOrTup ds) s1.hp) (St.init (E39 n m) args hp)) : Eff M 39 args hp R :=
  eff_of_body (C := E39 n m) (fn := Try.f39) Try.func39 (by kernel_rfl) (by kernel_rfl) (rc := c39) z39 (rs := q39) zr39 (by kernel_rfl) (by rw [hl]; rfl) (by rw [hl]; exact (by decide : 4 ≤ 14)) hn hm h
/- 49 (bogie.meaning.asker).ask$5 · 4 arguments · kept slots [0, 1, 2, 3, 5] -/
noncomputable def E49 (n m : Nat) : Cfg := ⟨M, [0, 1, 2, 3, 5], 16, n, m, []⟩
@[reducible] noncomputable def r49_0 : List RO := [
  ⟨.var 4, .mv, [.con (.int .i64 0)], none⟩]
@[reducible] noncomputable def r49_1 : List (RO × Bool) := [
  (⟨.loc 6, .ld true 2, [.var 1], none⟩, true),
  (⟨.loc 7, .fld 5, [.var 2], none⟩, true),
  (⟨.loc 8, .ld false 1, [.loc 7], none⟩, true),
  (⟨.loc 9, .ixaS 6, [.loc 8, .con (.int .i64 0)], none⟩, true),
  (⟨.loc 10, .ld true 6, [.loc 9], none⟩, true),
  (⟨.loc 11, .ld false 1, [.var 3], none⟩, true),
  (⟨.loc 12, .mv, [.var 0], none⟩, true),
  (⟨.loc 13, .ixaS 1, [.loc 11, .loc 12], none⟩, true),
  (⟨.loc 14, .ld false 1, [.loc 13], none⟩, true)]
@[reducible] noncomputable def r49_2 : List RO := [
  ⟨.loc 15, .call, [(.con (.fn (.func 28) [] [])), .loc 6, .loc 10, .loc 14], none⟩,
  ⟨.var 4, .mv, [.loc 15], none⟩]
theorem pe49 {n m : Nat} : (E49 n m).M = M := by unfold E49; rfl
theorem ie49 {n m : Nat} {hp : Hp} {a0 a1 a2 a3 : D} : St.init (E49 n m) [a0, a1, a2, a3] hp = ⟨[a0, a1, a2, a3, .undef], [], hp⟩ := by unfold E49; rfl
noncomputable def c49 : RC := (.seq (.reg r49_0) (.seq (.regD r49_1 r49_2) .ret))
noncomputable def q49 : List RR := [(.slot (.var 4))]
theorem z49 {n m : Nat} : resCode (E49 n m) (Try.f49.body.getD .skip) = some c49 := by kernel_rfl
theorem zr49 {n m : Nat} : resRs (E49 n m) Try.f49.results.toList = some q49 := by kernel_rfl
theorem oe49 {args : List D} {hp : Hp} {R : D → Hp → Prop} (n m : Nat) (hl : args.length = 4) (hn : n = hp.H.length) (hm : m = hp.tk.length) (h : SWp (E49 n m) c49 (fun e s => (match e with | .exit _ => False | _ => True) ∧ ∃ s1, Weak (E49 n m) s s1 ∧ rrsWp q49 s1 fun ds => R (oneOrTup ds) s1.hp) (St.init (E49 n m) args hp)) : Eff M 49 args hp R :=
  eff_of_body (C := E49 n m) (fn := Try.f49) Try.func49 (by kernel_rfl) (by kernel_rfl) (rc := c49) z49 (rs := q49) zr49 (by kernel_rfl) (by rw [hl]; rfl) (by rw [hl]; exact (by decide : 4 ≤ 16)) hn hm h
/- 28 (bogie.meaning.asker).ask · 3 arguments · kept slots [0, 1, 2, 3, 4, 5, 6, 7, 9, 10, 11, 12, 13, 14, 15, 16, 17, 29, 30, 32, 34, 36, 38, 40, 42, 44, 46, 77, 83, 116, 117, 124] -/
noncomputable def E28 (n m : Nat) : Cfg := ⟨M, [0, 1, 2, 3, 4, 5, 6, 7, 9, 10, 11, 12, 13, 14, 15, 16, 17, 29, 30, 32, 34, 36, 38, 40, 42, 44, 46, 77, 83, 116, 117, 124], 137, n, m, []⟩
noncomputable def C28 : Cfg := E28 0 0
@[reducible] noncomputable def r28_0 : List RO := [
  ⟨.var 3, .box, [.var 0], none⟩,
  ⟨.var 4, .box, [.var 1], none⟩,
  ⟨.var 5, .box, [.var 2], none⟩,
  ⟨.var 6, .mv, [.con (.int .i64 0)], none⟩]
@[reducible] noncomputable def r28_1 : List RO := [
  ⟨.loc 19, .fld 0, [.var 3], none⟩,
  ⟨.loc 20, .ld true 1, [.loc 19], none⟩,
  ⟨.loc 21, .ld false 1, [.var 5], none⟩,
  ⟨.loc 22, .call, [(.con (.fn (.func 37) [] [])), .loc 20, .loc 21], none⟩,
  ⟨.loc 18, .mv, [.loc 22], none⟩,
  ⟨.loc 23, .ext 0, [.loc 18], none⟩,
  ⟨.loc 24, .ext 1, [.loc 18], none⟩,
  ⟨.var 7, (.newb [(.str []), (.str []), (.str []), (.str []), (.int .i64 0), (.int .i64 0), (.bool false), (.lit (.slice none 0 0)), (.int .i64 0), (.int .i64 0), (.int .i64 0), (.int .i64 0), (.int .i64 0), (.int .i64 0)]), [], none⟩,
  ⟨.none, .st 14, [.var 7, .loc 23], none⟩,
  ⟨.loc 8, .mv, [.loc 24], none⟩]
@[reducible] noncomputable def r28_2 : List RO := [
  ⟨.var 8, .mv, [(.con (.fn (.func 38) [] []))], none⟩]
@[reducible] noncomputable def r28_3 : List RO := [
  ⟨.loc 25, (.mkF (.func 39) 0), [.var 3, .var 4, .var 5], none⟩,
  ⟨.var 9, .mv, [.loc 25], none⟩]
@[reducible] noncomputable def r28_4 : List RO := [
  ⟨.loc 26, .fld 3, [.var 4], none⟩,
  ⟨.loc 27, .ld false 1, [.loc 26], none⟩,
  ⟨.var 10, .mv, [.loc 27], none⟩]
@[reducible] noncomputable def r28_5 : List RO := [
  ⟨.loc 28, .fld 0, [.var 4], none⟩,
  ⟨.var 17, .ld false 1, [.loc 28], none⟩]
@[reducible] noncomputable def r28_6 : List RO := [
  ⟨.loc 31, .bin .eql, [.var 17, .con (.int .i64 1)], none⟩,
  ⟨.var 18, .mv, [.loc 31], none⟩]
@[reducible] noncomputable def r28_7 : List RO := [
  ⟨.loc 33, .bin .eql, [.var 17, .con (.int .i64 2)], none⟩,
  ⟨.var 19, .mv, [.loc 33], none⟩]
@[reducible] noncomputable def r28_8 : List RO := [
  ⟨.loc 35, .bin .eql, [.var 17, .con (.int .i64 3)], none⟩,
  ⟨.var 20, .mv, [.loc 35], none⟩]
@[reducible] noncomputable def r28_9 : List RO := [
  ⟨.loc 37, .bin .eql, [.var 17, .con (.int .i64 4)], none⟩,
  ⟨.var 21, .mv, [.loc 37], none⟩]
@[reducible] noncomputable def r28_10 : List RO := [
  ⟨.loc 39, .bin .eql, [.var 17, .con (.int .i64 5)], none⟩,
  ⟨.var 22, .mv, [.loc 39], none⟩]
@[reducible] noncomputable def r28_11 : List RO := [
  ⟨.loc 41, .bin .eql, [.var 17, .con (.int .i64 6)], none⟩,
  ⟨.var 23, .mv, [.loc 41], none⟩]
@[reducible] noncomputable def r28_12 : List RO := [
  ⟨.loc 43, .bin .eql, [.var 17, .con (.int .i64 7)], none⟩,
  ⟨.var 24, .mv, [.loc 43], none⟩]
@[reducible] noncomputable def r28_13 : List RO := [
  ⟨.loc 45, .bin .eql, [.var 17, .con (.int .i64 8)], none⟩,
  ⟨.var 25, .mv, [.loc 45], none⟩]
@[reducible] noncomputable def r28_14 : List RO := [
  ⟨.loc 47, .bin .eql, [.var 17, .con (.int .i64 9)], none⟩,
  ⟨.var 26, .mv, [.loc 47], none⟩]
@[reducible] noncomputable def r28_15 : List RO := [
  ⟨.var 6, .mv, [.con (.int .i64 2)], none⟩]
@[reducible] noncomputable def r28_16 : List RO := [
  ⟨.loc 48, .mv, [.var 9], none⟩,
  ⟨.loc 49, .call, [.loc 48, .con (.int .i64 0)], none⟩,
  ⟨.loc 50, .call, [(.con (.fn (.func 18) [] [])), .loc 49], none⟩,
  ⟨.var 6, .mv, [.loc 50], none⟩]
@[reducible] noncomputable def r28_17 : List RO := [
  ⟨.loc 51, .mv, [.var 8], none⟩,
  ⟨.loc 52, .fld 5, [.var 4], none⟩,
  ⟨.loc 53, .ld false 1, [.loc 52], none⟩,
  ⟨.loc 54, .lenL, [.loc 53], none⟩,
  ⟨.loc 55, .mv, [.var 9], none⟩,
  ⟨.loc 56, .call, [.loc 51, (.con (.fn (.func 15) [] [])), .con (.int .i64 2), .loc 54, .loc 55], none⟩,
  ⟨.var 6, .mv, [.loc 56], none⟩]
@[reducible] noncomputable def r28_18 : List RO := [
  ⟨.loc 57, .mv, [.var 8], none⟩,
  ⟨.loc 58, .fld 5, [.var 4], none⟩,
  ⟨.loc 59, .ld false 1, [.loc 58], none⟩,
  ⟨.loc 60, .lenL, [.loc 59], none⟩,
  ⟨.loc 61, .mv, [.var 9], none⟩,
  ⟨.loc 62, .call, [.loc 57, (.con (.fn (.func 16) [] [])), .con (.int .i64 0), .loc 60, .loc 61], none⟩,
  ⟨.var 6, .mv, [.loc 62], none⟩]
@[reducible] noncomputable def r28_19 : List RO := [
  ⟨.loc 63, .mv, [.var 10], none⟩,
  ⟨.loc 64, .fld 4, [.var 4], none⟩,
  ⟨.loc 65, .ld false 1, [.loc 64], none⟩,
  ⟨.loc 66, .bin .add, [.loc 63, .loc 65], none⟩,
  ⟨.var 10, .mv, [.loc 66], none⟩]
@[reducible] noncomputable def r28_20 : List RO := [
  ⟨.loc 68, .ld true 14, [.var 7], none⟩,
  ⟨.loc 69, .fld 1, [.var 4], none⟩,
  ⟨.loc 70, .ld false 1, [.loc 69], none⟩,
  ⟨.loc 71, .fld 1, [.var 3], none⟩,
  ⟨.loc 72, .ld false 1, [.loc 71], none⟩,
  ⟨.loc 73, .call, [(.con (.fn (.func 40) [] [])), .loc 68, .loc 70, .loc 72], none⟩,
  ⟨.loc 67, .mv, [.loc 73], none⟩,
  ⟨.loc 74, .ext 0, [.loc 67], none⟩,
  ⟨.loc 75, .ext 1, [.loc 67], none⟩,
  ⟨.var 11, (.newb [(.int .i64 0), (.int .i64 0)]), [], none⟩,
  ⟨.none, .st 2, [.var 11, .loc 74], none⟩,
  ⟨.var 12, .mv, [.loc 75], none⟩]
@[reducible] noncomputable def r28_21 : List RO := [
  ⟨.loc 76, .mv, [.var 12], none⟩,
  ⟨.var 27, .bin .neq, [.loc 76, .con (.int .i64 0)], none⟩]
@[reducible] noncomputable def r28_22 : List RO := [
  ⟨.var 6, .mv, [.con (.int .i64 0)], none⟩]
@[reducible] noncomputable def r28_23 : List RO := [
  ⟨.loc 78, .ld true 2, [.var 11], none⟩,
  ⟨.loc 79, .mv, [.var 10], none⟩,
  ⟨.loc 80, .call, [(.con (.fn (.func 41) [] [])), .loc 78, .loc 79], none⟩,
  ⟨.var 13, .mv, [.loc 80], none⟩]
@[reducible] noncomputable def r28_24 : List RO := [
  ⟨.loc 81, .fld 0, [.var 4], none⟩,
  ⟨.loc 82, .ld false 1, [.loc 81], none⟩,
  ⟨.var 28, .bin .eql, [.loc 82, .con (.int .i64 6)], none⟩]
@[reducible] noncomputable def r28_25 : List RO := [
  ⟨.loc 84, .mv, [.var 13], none⟩,
  ⟨.var 6, .mv, [.loc 84], none⟩]
@[reducible] noncomputable def r28_26 : List RO := [
  ⟨.loc 85, .mv, [.var 13], none⟩,
  ⟨.loc 86, .call, [(.con (.fn (.func 18) [] [])), .loc 85], none⟩,
  ⟨.var 6, .mv, [.loc 86], none⟩]
@[reducible] noncomputable def r28_27 : List RO := [
  ⟨.loc 87, .fld 7, [.var 7], none⟩,
  ⟨.loc 88, .ld false 1, [.loc 87], none⟩,
  ⟨.loc 89, .fld 1, [.var 4], none⟩,
  ⟨.loc 90, .ld false 1, [.loc 89], none⟩,
  ⟨.loc 91, .fld 2, [.var 4], none⟩,
  ⟨.loc 92, .ld false 1, [.loc 91], none⟩,
  ⟨.loc 93, (.bld [(.str []), (.str [])] [(0, 1), (1, 1)]), [.loc 90, .loc 92], none⟩,
  ⟨.loc 94, .call, [(.con (.fn (.func 43) [] [])), .loc 88, .loc 93], none⟩,
  ⟨.loc 95, .call, [(.con (.fn (.func 42) [] [])), .loc 94], none⟩,
  ⟨.var 6, .mv, [.loc 95], none⟩]
@[reducible] noncomputable def r28_28 : List RO := [
  ⟨.loc 96, .fld 7, [.var 7], none⟩,
  ⟨.loc 97, .ld false 1, [.loc 96], none⟩,
  ⟨.loc 98, (.mkF (.func 45) 0), [.var 4], none⟩,
  ⟨.loc 99, .call, [(.con (.fn (.func 44) [] [])), .loc 97, .loc 98], none⟩,
  ⟨.loc 100, .call, [(.con (.fn (.func 42) [] [])), .loc 99], none⟩,
  ⟨.var 6, .mv, [.loc 100], none⟩]
@[reducible] noncomputable def r28_29 : List RO := [
  ⟨.loc 101, .fld 0, [.var 3], none⟩,
  ⟨.loc 102, .fld 0, [.loc 101], none⟩,
  ⟨.loc 103, .ld false 1, [.loc 102], none⟩,
  ⟨.loc 104, (.mkF (.func 47) 0), [.var 5, .var 4], none⟩,
  ⟨.loc 105, .call, [(.con (.fn (.func 46) [] [])), .loc 103, .loc 104], none⟩,
  ⟨.loc 106, .call, [(.con (.fn (.func 42) [] [])), .loc 105], none⟩,
  ⟨.var 6, .mv, [.loc 106], none⟩]
@[reducible] noncomputable def r28_30 : List RO := [
  ⟨.loc 107, .ld true 2, [.var 3], none⟩,
  ⟨.loc 108, (.mkF (.func 48) 1), [.loc 107], none⟩,
  ⟨.var 14, .mv, [.loc 108], none⟩]
@[reducible] noncomputable def r28_31 : List RO := [
  ⟨.loc 109, .mv, [.var 14], none⟩,
  ⟨.loc 110, .ld false 1, [.var 5], none⟩,
  ⟨.loc 111, .fld 1, [.var 4], none⟩,
  ⟨.loc 112, .ld false 1, [.loc 111], none⟩,
  ⟨.loc 113, .call, [.loc 109, .loc 110, .loc 112], none⟩,
  ⟨.var 15, (.newb [(.lit (.slice none 0 0))]), [], none⟩,
  ⟨.none, .st 1, [.var 15, .loc 113], none⟩]
@[reducible] noncomputable def r28_32 : List RO := [
  ⟨.loc 114, (.mkF (.func 49) 0), [.var 3, .var 4, .var 15], none⟩,
  ⟨.var 16, .mv, [.loc 114], none⟩]
@[reducible] noncomputable def r28_33 : List RO := [
  ⟨.loc 115, .fld 0, [.var 4], none⟩,
  ⟨.var 29, .ld false 1, [.loc 115], none⟩]
@[reducible] noncomputable def r28_34 : List RO := [
  ⟨.loc 118, .bin .eql, [.var 29, .con (.int .i64 10)], none⟩,
  ⟨.var 30, .mv, [.loc 118], none⟩]
@[reducible] noncomputable def r28_35 : List RO := [
  ⟨.loc 119, .mv, [.var 8], none⟩,
  ⟨.loc 120, .ld false 1, [.var 15], none⟩,
  ⟨.loc 121, .lenL, [.loc 120], none⟩,
  ⟨.loc 122, .mv, [.var 16], none⟩,
  ⟨.loc 123, .call, [.loc 119, (.con (.fn (.func 15) [] [])), .con (.int .i64 2), .loc 121, .loc 122], none⟩,
  ⟨.var 6, .mv, [.loc 123], none⟩]
@[reducible] noncomputable def r28_36 : List RO := [
  ⟨.loc 125, .bin .eql, [.var 29, .con (.int .i64 11)], none⟩,
  ⟨.var 31, .mv, [.loc 125], none⟩]
@[reducible] noncomputable def r28_37 : List RO := [
  ⟨.loc 126, .mv, [.var 8], none⟩,
  ⟨.loc 127, .ld false 1, [.var 15], none⟩,
  ⟨.loc 128, .lenL, [.loc 127], none⟩,
  ⟨.loc 129, .mv, [.var 16], none⟩,
  ⟨.loc 130, .call, [.loc 126, (.con (.fn (.func 16) [] [])), .con (.int .i64 0), .loc 128, .loc 129], none⟩,
  ⟨.var 6, .mv, [.loc 130], none⟩]
@[reducible] noncomputable def r28_38 : List RO := [
  ⟨.loc 131, .ld false 1, [.var 15], none⟩,
  ⟨.loc 132, .lenL, [.loc 131], none⟩,
  ⟨.loc 133, .fld 3, [.var 4], none⟩,
  ⟨.loc 134, .ld false 1, [.loc 133], none⟩,
  ⟨.loc 135, .bin .geq, [.loc 132, .loc 134], none⟩,
  ⟨.loc 136, .call, [(.con (.fn (.func 42) [] [])), .loc 135], none⟩,
  ⟨.var 6, .mv, [.loc 136], none⟩]
theorem P28 : C28.M = M := by unfold C28 E28; rfl
theorem i28 {a0 a1 a2 : D} : St.init C28 [a0, a1, a2] ⟨[], []⟩ = ⟨[a0, a1, a2, .undef, .undef, .undef, .undef, .undef, .undef, .undef, .undef, .undef, .undef, .undef, .undef, .undef, .undef, .undef, .undef, .undef, .undef, .undef, .undef, .undef, .undef, .undef, .undef, .undef, .undef, .undef, .undef, .undef], [], ⟨[], []⟩⟩ := by unfold C28 E28; rfl
noncomputable def c28 : RC := (.seq (.reg r28_0) (.seq (.reg r28_1) (.seq (.reg r28_2) (.seq (.reg r28_3) (.seq (.reg r28_4) (.seq (.seq (.reg r28_5) (.block 0 (.seq (.block 9 (.seq (.block 8 (.seq (.block 7 (.seq (.block 6 (.seq (.block 5 (.seq (.block 4 (.seq (.block 3 (.seq (.block 2 (.seq (.block 1 (.seq (.seq (.seq (.reg r28_6) (.cond (.var 18) (.exit 1) .skip)) (.seq (.seq (.reg r28_7) (.cond (.var 19) (.exit 2) .skip)) (.seq (.seq (.reg r28_8) (.cond (.var 20) (.exit 3) .skip)) (.seq (.seq (.reg r28_9) (.cond (.var 21) (.exit 4) .skip)) (.seq (.seq (.reg r28_10) (.cond (.var 22) (.exit 5) .skip)) (.seq (.seq (.reg r28_11) (.cond (.var 23) (.exit 6) .skip)) (.seq (.seq (.reg r28_12) (.cond (.var 24) (.exit 7) .skip)) (.seq (.seq (.reg r28_13) (.cond (.var 25) (.exit 8) .skip)) (.seq (.reg r28_14) (.cond (.var 26) (.exit 9) .skip)))))))))) (.exit 0))) (.seq (.seq (.reg r28_15) .ret) (.exit 0)))) (.seq (.seq (.reg r28_16) .ret) (.exit 0)))) (.seq (.seq (.reg r28_17) .ret) (.exit 0)))) (.seq (.seq (.reg r28_18) .ret) (.exit 0)))) (.reg r28_19))) (.seq (.seq (.reg r28_20) (.seq (.seq (.reg r28_21) (.cond (.var 27) (.seq (.reg r28_22) .ret) .skip)) (.seq (.reg r28_23) (.seq (.seq (.reg r28_24) (.cond (.var 28) (.seq (.reg r28_25) .ret) .skip)) (.seq (.reg r28_26) .ret))))) (.exit 0)))) (.seq (.seq (.reg r28_27) .ret) (.exit 0)))) (.seq (.seq (.reg r28_28) .ret) (.exit 0)))) (.seq (.seq (.reg r28_29) .ret) (.exit 0))))) (.seq (.reg r28_30) (.seq (.reg r28_31) (.seq (.reg r28_32) (.seq (.seq (.reg r28_33) (.block 10 (.seq (.reg r28_34) (.cond (.var 30) (.seq (.reg r28_35) .ret) (.seq (.reg r28_36) (.cond (.var 31) (.seq (.reg r28_37) .ret) .skip)))))) (.seq (.reg r28_38) .ret)))))))))))
noncomputable def q28 : List RR := [(.slot (.var 6))]
theorem z28 {n m : Nat} : resCode (E28 n m) (Try.f28.body.getD .skip) = some c28 := by kernel_rfl
theorem zr28 {n m : Nat} : resRs (E28 n m) Try.f28.results.toList = some q28 := by kernel_rfl
theorem ok28 {args : List D} {d : D} (hl : args.length = 3) (h : SWp C28 c28 (fun e s => (match e with | .exit _ => False | _ => True) ∧ rrsWp q28 s fun ds => D.closed (oneOrTup ds) = true ∧ (oneOrTup ds).er = d) (St.init C28 args ⟨[], []⟩)) : Pur M 28 args d :=
  pur_of_body (C := C28) (fn := Try.f28) Try.func28 (by kernel_rfl) (by kernel_rfl) (rc := c28) z28 (rs := q28) zr28 (by kernel_rfl) (by rw [hl]; rfl) (by rw [hl]; decide) rfl rfl h
/- 12 bogie.meaning.Holds · 4 arguments · kept slots [0, 1, 2, 3, 4, 5, 8, 18] -/
noncomputable def E12 (n m : Nat) : Cfg := ⟨M, [0, 1, 2, 3, 4, 5, 8, 18], 25, n, m, []⟩
noncomputable def C12 : Cfg := E12 0 0
@[reducible] noncomputable def r12_0 : List RO := [
  ⟨.var 4, .box, [.var 0], none⟩,
  ⟨.var 5, .box, [.var 1], none⟩,
  ⟨.var 6, .mv, [.con (.int .i64 0)], none⟩]
@[reducible] noncomputable def r12_1 : List RO := [
  ⟨.loc 9, .ld true 6, [.var 5], none⟩,
  ⟨.loc 10, (.bld [(.str []), (.str []), (.int .i64 0), (.str []), (.str []), (.int .i64 0), (.int .i64 0), (.lit (.slice none 0 0))] [(0, 1), (1, 1), (2, 6)]), [(.con (.str [114])), (.con (.str [107])), .loc 9], none⟩,
  ⟨.loc 11, .call, [(.con (.fn (.func 27) [] [])), .loc 10], none⟩,
  ⟨.loc 12, .un .not, [.loc 11], none⟩,
  ⟨.loc 13, .mv, [.loc 12], none⟩,
  ⟨.loc 14, .ld true 1, [.var 4], (some (.loc 13, false))⟩,
  ⟨.loc 15, .mv, [.var 2], (some (.loc 13, false))⟩,
  ⟨.loc 16, .call, [(.con (.fn (.func 14) [] [])), .loc 14, .loc 15], (some (.loc 13, false))⟩,
  ⟨.loc 17, .bin .eql, [.loc 16, (.con (.str []))], (some (.loc 13, false))⟩,
  ⟨.var 7, .pick, [.loc 13, .con (.bool true), .loc 17], none⟩]
@[reducible] noncomputable def r12_2 : List RO := [
  ⟨.var 6, .mv, [.con (.int .i64 0)], none⟩]
@[reducible] noncomputable def r12_3 : List RO := [
  ⟨.loc 19, .ld true 1, [.var 4], none⟩,
  ⟨.loc 20, .mv, [.var 3], none⟩,
  ⟨.loc 21, (.bld [(.lit (.slice none 0 0)), (.int .i64 0)] [(0, 1), (1, 1)]), [.loc 19, .loc 20], none⟩,
  ⟨.loc 22, .ld true 6, [.var 5], none⟩,
  ⟨.loc 23, .mv, [.var 2], none⟩,
  ⟨.loc 24, .call, [(.con (.fn (.func 28) [] [])), .loc 21, .loc 22, .loc 23], none⟩,
  ⟨.var 6, .mv, [.loc 24], none⟩]
theorem P12 : C12.M = M := by unfold C12 E12; rfl
theorem i12 {a0 a1 a2 a3 : D} : St.init C12 [a0, a1, a2, a3] ⟨[], []⟩ = ⟨[a0, a1, a2, a3, .undef, .undef, .undef, .undef], [], ⟨[], []⟩⟩ := by unfold C12 E12; rfl
noncomputable def c12 : RC := (.seq (.reg r12_0) (.seq (.seq (.reg r12_1) (.cond (.var 7) (.seq (.reg r12_2) .ret) .skip)) (.seq (.reg r12_3) .ret)))
noncomputable def q12 : List RR := [(.slot (.var 6))]
theorem z12 {n m : Nat} : resCode (E12 n m) (Try.f12.body.getD .skip) = some c12 := by kernel_rfl
theorem zr12 {n m : Nat} : resRs (E12 n m) Try.f12.results.toList = some q12 := by kernel_rfl
theorem ok12 {args : List D} {d : D} (hl : args.length = 4) (h : SWp C12 c12 (fun e s => (match e with | .exit _ => False | _ => True) ∧ rrsWp q12 s fun ds => D.closed (oneOrTup ds) = true ∧ (oneOrTup ds).er = d) (St.init C12 args ⟨[], []⟩)) : Pur M 12 args d :=
  pur_of_body (C := C12) (fn := Try.f12) Try.func12 (by kernel_rfl) (by kernel_rfl) (rc := c12) z12 (rs := q12) zr12 (by kernel_rfl) (by rw [hl]; rfl) (by rw [hl]; decide) rfl rfl h
end Go.Proofs.Ytcchbohfcmfmlaa
end
