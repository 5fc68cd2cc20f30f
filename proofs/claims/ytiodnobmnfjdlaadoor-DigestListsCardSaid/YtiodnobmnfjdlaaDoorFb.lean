/- The engine, part fb: what contracts from elsewhere leave: new rows of texts. Own work; no program in sight. -/
import Derived.Test.YtiodnobmnfjdlaaDoorFa
import Derived.Shelf.Vars
namespace GoV
open Go Go.RowKit

theorem rel_strs {w : World} {g : Gh} : ∀ ss : List ByteArray, RelL w g (ss.map fun s => D.str s.data.toList) (ss.map Value.string)
  | [] => RelL.nil
  | s :: ss => RelL.cons (by simp [Rel]) (rel_strs ss)

theorem flat_strs : ∀ ss : List ByteArray, flat (ss.map Value.string) = ss.map Value.string
  | [] => rfl
  | s :: ss => by simp [flat, Value.cells, flat_strs ss]

/-- A new row of texts, as a slice that is only read. -/
theorem alloc_strs (w : World) (e : TypeId) (ss : List ByteArray) : Below w.heap.size w (w.alloc (.cells (ss.map Value.string).toArray e (0, 0))) ∧
    ∀ I : Nat → Nat → Prop, ∃ I' : Nat → Nat → Prop, (∀ b o, I b o → I' b o) ∧ (∀ b o, I' b o → I b o ∨ (w.heap.size ≤ b ∧ b < (w.alloc (.cells (ss.map Value.string).toArray e (0, 0))).heap.size)) ∧
      Rel (w.alloc (.cells (ss.map Value.string).toArray e (0, 0))) ⟨[], [], I'⟩ (.slice (ss.map fun s => .str s.data.toList) .no) (.slice (some ⟨w.heap.size, 0, none⟩) ss.length ss.length) := by
  refine ⟨(Below.refl _ w).alloc (Nat.le_refl _) _, fun I => ⟨fun b o => I b o ∨ b = w.heap.size, fun b o h => .inl h, fun b o h => ?_, ?_⟩⟩
  · rcases h with h | h
    · exact .inl h
    · subst h; exact .inr ⟨Nat.le_refl _, by show w.heap.size < (w.heap.push _).size; simp⟩
  · simp only [Rel]
    refine ⟨⟨w.heap.size, 0, none⟩, ss.length, 1, ss.map Value.string, .inl (by simp), by simp, rel_strs ss, ?_, ⟨fun _ => rfl, fun j y hj => ?_⟩, trivial⟩
    · intro y hy
      obtain ⟨s, _, rfl⟩ := List.mem_map.1 hy
      simp [Value.cells]
    · rw [flat_strs] at hj
      have hc := heap_alloc_at w (.cells (ss.map Value.string).toArray e (0, 0))
      refine ⟨?_, .inr rfl, ?_⟩
      · rw [Nat.zero_add, cell_at hc]; simpa using hj
      · obtain ⟨s, _, rfl⟩ := List.mem_map.1 (List.mem_of_getElem? hj)
        simp [oneC, Value.oneCell']

/-! ### What is known of variables when a law is called -/

/-- A listed variable. -/
theorem laid_var {P : Program} {W : World} : ∀ {l : List (String × DataW Unit)} {ps : List MemPlace}, DataW.LaidVars P W l ps → ∀ {name : String} {d : DataW Unit}, (name, d) ∈ l → ∃ g t cs fuel p, P.globalNamed name = some g ∧ (P.globals[g]?).map (·.type) = some t ∧ W.var? P name = some cs ∧
    DataW.trod (fun _ => ()) P W 0 (fun _ => true) false fuel t cs.toList = some (d, p)
  | [], _, _, _, _, h => by cases h
  | x :: r, _, hl, name, d, h => by
    obtain ⟨g, t, cs, fuel, p, q, h1, h2, h3, h4, h5, _⟩ := hl
    rcases List.mem_cons.1 h with h | h
    · subst h; exact ⟨g, t, cs, fuel, p, h1, h2, h3, h4⟩
    · exact laid_var h5 h

theorem heap_of_var {P : Program} {W : World} {name : String} {g : Nat} {cs : Array Value} (hg : P.globalNamed name = some g) (h : W.var? P name = some cs) : ∃ e fr, W.heap[g]? = some (.cells cs e fr) := by
  unfold World.var? at h
  rw [hg] at h
  simp only [Option.bind_some] at h
  split at h
  · rename_i cs e fr hh; simp at h; subst h; exact ⟨e, fr, hh⟩
  · cases h

/-- A listed table of integers. -/
theorem var_tab {P : Program} {W : World} {l : List (String × DataW Unit)} {name : String} {k : IntKind} {zs : List Int} {ps : List MemPlace} {g : Nat} {t e : TypeId} {n : Nat}
    (hl : DataW.LaidVars P W l ps) (hm : (name, Lib.tabData k zs) ∈ l) (hg : P.globalNamed name = some g) (hty : (P.globals[g]?).map (·.type) = some t) (ht : P.underlying t = some (.array n e)) (he : P.underlying e = some (.int k)) (hce : P.cellsOf e = 1) (hct : P.cellsOf t = n) :
    ∃ cs x fr, cs = (zs.map fun z => Value.int k z).toArray ∧ W.heap[g]? = some (.cells cs x fr) := by
  obtain ⟨g', t', cs, fuel, p, hg', ht', hvar, hd⟩ := laid_var hl hm
  obtain rfl := Option.some.inj (hg.symm.trans hg')
  obtain rfl := Option.some.inj (hty.symm.trans ht')
  obtain ⟨x, fr, hh⟩ := heap_of_var hg hvar
  exact ⟨cs, x, fr, by rw [← Lib.cells_of_tab ht he hce hct hd], hh⟩

/-- A listed error. -/
theorem var_err {P : Program} {W : World} {l : List (String × DataW Unit)} {name nm : String} {d : DataW Unit} {ps : List MemPlace} {g : Nat} {t : TypeId} {ms : Array (String × TypeId)}
    (hl : DataW.LaidVars P W l ps) (hm : (name, .iface nm d) ∈ l) (hg : P.globalNamed name = some g) (hty : (P.globals[g]?).map (·.type) = some t) (ht : P.underlying t = some (.interface ms)) :
    ∃ cs x fr, (∃ v, (v = .nilIface ∨ ∃ te pe, v = .iface te pe) ∧ cs = #[v]) ∧ W.heap[g]? = some (.cells cs x fr) := by
  obtain ⟨g', t', cs, fuel, p, hg', ht', hvar, hd⟩ := laid_var hl hm
  obtain rfl := Option.some.inj (hg.symm.trans hg')
  obtain rfl := Option.some.inj (hty.symm.trans ht')
  obtain ⟨x, fr, hh⟩ := heap_of_var hg hvar
  refine ⟨cs, x, fr, ?_, hh⟩
  cases fuel with
  | zero => simp [DataW.trod] at hd
  | succ n =>
    unfold DataW.trod at hd
    rw [ht] at hd
    split at hd <;> first
      | (simp at hd; done)
      | (rename_i hc; simp_all; done)
      | (rename_i u v _ hc
         have : cs = #[.iface u v] := by
           cases cs with
           | mk c => simp at hc; rw [hc]
         exact ⟨_, .inr ⟨u, v, rfl⟩, this⟩)
      | (rename_i u v hc _
         have : cs = #[.iface u v] := by
           cases cs with
           | mk c => simp at hc; rw [hc]
         exact ⟨_, .inr ⟨u, v, rfl⟩, this⟩)

/-- A variable of the library's that holds some integer. -/
theorem var_int {P : Program} {W : World} {g : Nat} {t : TypeId} {zero : Array Value} {k : IntKind} (h : W.ShapedOpen P) (hg : g < P.globals.size)
    (h0 : ((begin P (fun _ _ => 0) default).world.heap[g]?).bind Obj.row? = some (zero, t)) (hz : zero.size = 1) (hb : P.buildable t = true) (hc : P.cellTypes P.depth t = some [t]) (hu : P.underlying t = some (.int k)) :
    ∃ cs x fr, (∃ v, (∃ m, v = .int k m) ∧ cs = #[v]) ∧ W.heap[g]? = some (.cells cs x fr) := by
  obtain ⟨m, hm⟩ := Proofs.cell_of_shapedOpen_int h hg h0 hz hb hc hu
  obtain ⟨cs, hh, hs, _⟩ := h.1 g zero t hg h0
  refine ⟨cs, t, _, ⟨.int k m, ⟨m, rfl⟩, ?_⟩, hh⟩
  rw [hz] at hs
  unfold World.cell? at hm
  rw [hh] at hm
  simp at hm
  obtain ⟨c⟩ := cs
  match c, hs with
  | [v], _ => simp at hm; rw [hm]
end GoV
