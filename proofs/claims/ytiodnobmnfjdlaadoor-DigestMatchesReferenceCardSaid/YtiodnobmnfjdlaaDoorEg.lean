/- The engine, part g: single operations that do not call are sound, continued. Own work; no program in sight. -/
import Derived.Test.YtiodnobmnfjdlaaDoorEf
set_option linter.unusedSimpArgs false
namespace GoV
open Go

section
variable {P : Program} {ρ : Operand → Value} {o : Oper} {w0 : World} {g0 : Gh} {hp : Hp} {w : World} {g : Gh} {K : D → Hp → Prop}

theorem snd_eqB {neg : Bool} {t u : TypeId} {x y : Operand} (hop : o.op = .binOp (if neg then .neq else .eql) t x y u) (hu : P.underlying t = some .bool)
    (hi : Inv w0 g0 hp w g) {ds : List D} (hr : RelL w g ds [ρ x, ρ y]) (h : opWp (.eqB neg) ds hp K) : Done P ρ o w0 g0 w g K := by
  obtain ⟨a, b, rfl, ha, hb⟩ := list2 (f := ρ) hr
  cases a <;> cases b <;> simp only [opWp] at h
  case bool.bool p q =>
    simp only [Rel] at ha hb
    refine done_bool hi h ?_
    cases neg <;> simp [execOp, hop, ha, hb, eqGuard_at_bool, binOp, Op.equal, Op.maxDepth, run_equalIn_bool' w _ t _ _ hu]

theorem run_part_one {t : TypeId} {d : TypeDesc} (hu : P.underlying t = some d) (hd : isRowT d = false) (cs : Array Value) (n : Nat) (v : Value) (hv : cs[n]? = some v) (w : World) :
    (part t cs n).run P w = .ok v w := by
  simp [part, run_isAgg hu, hd, hv]

theorem run_part_row {t : TypeId} {d : TypeDesc} {n : Nat} (hu : P.underlying t = some d) (hd : isRowT d = true) (hs : szOf P t = some n) (cs : Array Value) (off : Nat) (w : World) :
    (part t cs off).run P w = .ok (.agg (cs.extract off (off + n))) w := by
  simp [part, run_isAgg hu, hd, run_sizeOf hs]

theorem eqD_run {e : EK} {d d' : D} {x y : Value} {b : Bool} {t : TypeId} {m : Nat} (hk : match e with | .int => ∃ k, P.underlying t = some (.int k) | .bool => P.underlying t = some .bool | .str => P.underlying t = some .string)
    (h : eqD e d d' = some b) (h1 : Rel w g d x) (h2 : Rel w g d' y) (w1 : World) : (Op.equalIn (m + 1) t x y).run P w1 = .ok b w1 := by
  cases e <;> cases d <;> simp only [eqD] at h <;> first
    | (cases h; done)
    | skip
  case int.int =>
    cases d' <;> simp only [eqD] at h <;> first
      | (cases h; done)
      | skip
    obtain ⟨k, hk⟩ := hk
    simp only [Rel] at h1 h2
    split at h
    · rename_i e; subst e
      simp at h; subst h; subst h1; subst h2
      exact run_equalIn_int w1 m t _ _ _ _ hk
    · cases h
  case bool.bool =>
    cases d' <;> simp only [eqD] at h <;> first
      | (cases h; done)
      | skip
    simp only [Rel] at h1 h2
    simp at h; subst h; subst h1; subst h2
    exact run_equalIn_bool' w1 m t _ _ hk
  case str.str =>
    cases d' <;> simp only [eqD] at h <;> first
      | (cases h; done)
      | skip
    simp only [Rel] at h1 h2
    simp only [Option.some.injEq] at h; subst h; subst h1; subst h2
    rw [run_equalIn_string w1 m t _ _ hk, toList_str, toList_str]

theorem eqFields_run {m : Nat} {xs ys : List Value} : ∀ (fs : List Field) (n : Nat) (ks : List EK) (ds ds' : List D) (b : Bool), plainKinds P n fs = some ks →
    eqDs ks ds ds' = some b → RelL w g ds (xs.drop n) → RelL w g ds' (ys.drop n) → ∀ w1 : World, (Op.eqFields (m + 1) xs.toArray ys.toArray fs).run P w1 = .ok b w1
  | [], n, ks, ds, ds', b, hk, hb, _, _, w1 => by
    simp [plainKinds] at hk; subst hk
    cases ds <;> cases ds' <;> simp [eqDs] at hb
    subst hb; simp [Op.eqFields]
  | f :: fs, n, ks, ds, ds', b, hk, hb, h1, h2, w1 => by
    simp only [plainKinds] at hk
    split at hk
    case isFalse => cases hk
    rename_i hf
    obtain ⟨hf1, hf2⟩ := hf
    obtain ⟨e, r1, d, hks, hu, hrest, hd, hkk⟩ : ∃ e r1 d, ks = e :: r1 ∧ P.underlying f.type = some d ∧ plainKinds P (n + 1) fs = some r1 ∧ isRowT d = false ∧
        (match e with | EK.int => ∃ k, P.underlying f.type = some (.int k) | .bool => P.underlying f.type = some .bool | .str => P.underlying f.type = some .string) := by
      split at hk <;> first
        | (cases hk; done)
        | skip
      · rename_i k r1 hu hrest; simp at hk; subst hk; exact ⟨.int, r1, _, rfl, hu, hrest, rfl, _, hu⟩
      · rename_i r1 hu hrest; simp at hk; subst hk; exact ⟨.bool, r1, _, rfl, hu, hrest, rfl, hu⟩
      · rename_i r1 hu hrest; simp at hk; subst hk; exact ⟨.str, r1, _, rfl, hu, hrest, rfl, hu⟩
    subst hks
    cases ds with
    | nil => simp [eqDs] at hb
    | cons x xs' =>
      cases ds' with
      | nil => simp [eqDs] at hb
      | cons y ys' =>
        simp only [eqDs] at hb
        cases e1 : eqD e x y with
        | none => simp [e1] at hb
        | some a =>
          cases e2 : eqDs r1 xs' ys' with
          | none => simp [e1, e2] at hb
          | some b' =>
            simp [e1, e2] at hb
            obtain ⟨u, us, hu1, hu2, hu3⟩ := h1.inv
            obtain ⟨v, vs, hv1, hv2, hv3⟩ := h2.inv
            have hx : xs[n]? = some u := by have := congrArg (·[0]?) hu1; simpa using this
            have hy : ys[n]? = some v := by have := congrArg (·[0]?) hv1; simpa using this
            have hxs : xs.drop (n + 1) = us := by have := congrArg List.tail hu1; simpa using this
            have hys : ys.drop (n + 1) = vs := by have := congrArg List.tail hv1; simpa using this
            have he := eqD_run (P := P) (w := w) (g := g) (m := m) hkk e1 hu2 hv2
            have p1 := fun w1 => run_part_one (P := P) hu hd xs.toArray n u (by simpa using hx) w1
            have p2 := fun w1 => run_part_one (P := P) hu hd ys.toArray n v (by simpa using hy) w1
            have ih := eqFields_run (m := m) fs (n + 1) r1 xs' ys' b' hrest e2 (by rw [hxs]; exact hu3) (by rw [hys]; exact hv3) w1
            simp only [Op.eqFields, hf1, ne_eq, hf2, not_false_eq_true, if_true, Sem.run_bind, p1, p2, Result.andThen_ok, he, Sem.run_ite, ih]
            cases a <;> simp at hb ⊢ <;> exact hb

theorem snd_eqA {neg : Bool} {t u : TypeId} {x y : Operand} {fs : Array Field} {ks : List EK} (hop : o.op = .binOp (if neg then .neq else .eql) t x y u) (hu : P.underlying t = some (.struct fs))
    (hst : P.stoodInHeld t = false) (hg : P.eqGuardType P.depth t = false) (hks : plainKinds P 0 fs.toList = some ks)
    (hi : Inv w0 g0 hp w g) {ds : List D} (hr : RelL w g ds [ρ x, ρ y]) (h : opWp (.eqA neg ks) ds hp K) : Done P ρ o w0 g0 w g K := by
  obtain ⟨a, b, rfl, ha, hb⟩ := list2 (f := ρ) hr
  cases a <;> cases b <;> simp only [opWp] at h
  case agg.agg p q =>
    obtain ⟨c, hc, h⟩ := h
    simp only [Rel] at ha hb
    obtain ⟨xs, hx, rx, _⟩ := ha
    obtain ⟨ys, hy, ry, _⟩ := hb
    have hfo : P.fieldsOf t = fs := by simp [Program.fieldsOf, hu]
    have hrun := eqFields_run (P := P) (m := 9998) (w := w) (g := g) (xs := xs) (ys := ys) fs.toList 0 ks p q c hks hc (by simpa using rx) (by simpa using ry) w
    have hst' := run_equalIn_struct (P := P) w 9999 t xs.toArray ys.toArray (by rw [hfo]; exact hu) hst
    rw [hfo, hrun] at hst'
    refine done_bool hi h ?_
    cases neg
    · simp [execOp, hop, hx, hy, run_eqGuard_agg (P := P) w .eql t x y xs.toArray ys.toArray hg, run_eql_struct, hst']
    · simp [execOp, hop, hx, hy, run_eqGuard_agg (P := P) w .neq t x y xs.toArray ys.toArray hg, run_neq_struct, hst']

theorem snd_un {op : UnOp} {t : TypeId} {x : Operand} (hop : o.op = .unOp op t x) (hi : Inv w0 g0 hp w g) {ds : List D} (hr : RelL w g ds [ρ x]) (h : opWp (.un op) ds hp K) : Done P ρ o w0 g0 w g K := by
  obtain ⟨a, rfl, ha⟩ := list1 (f := ρ) hr
  simp only [opWp] at h
  unfold unWp at h
  split at h <;> first
    | exact h.elim
    | skip
  all_goals simp only [Rel] at ha
  · exact done_int hi h (by simp [execOp, hop, ha, Op.unary, Op.intArith])
  · refine done_int hi h ?_
    simp only [execOp, hop, ha, Op.unary, intBits_xor]
    rfl
  · exact done_bool hi h (by simp [execOp, hop, ha, Op.unary])

theorem snd_cvI {s t : TypeId} {x : Operand} {k k' : IntKind} (hop : o.op = .convert s t x) (hs : P.underlying s = some (.int k')) (ht : P.underlying t = some (.int k))
    (hi : Inv w0 g0 hp w g) {ds : List D} (hr : RelL w g ds [ρ x]) (h : opWp (.cvI k) ds hp K) : Done P ρ o w0 g0 w g K := by
  obtain ⟨a, rfl, ha⟩ := list1 (f := ρ) hr
  cases a <;> simp only [opWp] at h
  case int k2 n =>
    simp only [Rel] at ha
    refine done_int hi h ?_
    simp [execOp, hop, ha, convert, run_underlying hs, run_underlying ht, Conv.intToInt]

/-- A new block that becomes an abstract block. -/
theorem done_new (hi : Inv w0 g0 hp w g) {cs : List D} {xs : List Value} {e : TypeId} (hr : RelL w g cs xs) (h1 : ∀ y ∈ xs, oneC y)
    (hk : K (.ptr hp.H.length 0) { hp with H := hp.H ++ [.cells cs] })
    (hx : (execOp ρ o).run P w = .ok (.value (.pointer (some ⟨w.heap.size, 0, none⟩))) (w.alloc (.cells xs.toArray e (0, 0)))) : Done P ρ o w0 g0 w g K := by
  obtain ⟨hi', he⟩ := hi.newBlk (.cells cs) (.cells xs.toArray e (0, 0)) fun w' g' he => ⟨xs, e, rfl, RelL.evo cs he hr, h1⟩
  refine ⟨_, _, _, _, _, hk, hi', he, ?_, .inl hx⟩
  simp only [Rel]
  refine ⟨w.heap.size, ?_, rfl⟩
  rw [hi.heap.len, List.getElem?_append_right (Nat.le_refl _)]
  simp

theorem snd_newb {t : TypeId} {z : List D} (hop : o.op = .alloc t) (hz : zeroDs P t = some z) (hi : Inv w0 g0 hp w g) (h : opWp (.newb z) [] hp K) : Done P ρ o w0 g0 w g K := by
  obtain ⟨i, zv, h1, h2, h3⟩ := zeroDs_spec hz
  obtain ⟨g1, g2⟩ := toDs_rel (w := w) (g := g) h3
  simp only [opWp] at h
  refine done_new (e := t) hi g1.any g2 h ?_
  simp [execOp, hop, Instr.alloc, zeroValue, typeInfo, h1, h2, newVar, newRow]

theorem snd_newT {t : TypeId} {z : List D} (hop : o.op = .alloc t) (hz : zeroDs P t = some z) (hi : Inv w0 g0 hp w g) (h : opWp (.newT t z) [] hp K) : Done P ρ o w0 g0 w g K := by
  obtain ⟨i, zv, h1, h2, h3⟩ := zeroDs_spec hz
  obtain ⟨g1, g2⟩ := toDs_rel (w := w) (g := g) h3
  simp only [opWp] at h
  obtain ⟨hi', he⟩ := hi.newBlk (.tcells t z) (.cells zv.cells.toList.toArray t (0, 0)) fun w' g' he => ⟨zv.cells.toList, rfl, RelL.evo z he g1.any, g2⟩
  refine ⟨_, _, _, .pointer (some ⟨w.heap.size, 0, none⟩), _, h, hi', he, ?_, .inl ?_⟩
  · simp only [Rel]
    refine ⟨w.heap.size, ?_, rfl⟩
    rw [hi.heap.len, List.getElem?_append_right (Nat.le_refl _)]
    simp
  · simp [execOp, hop, Instr.alloc, zeroValue, typeInfo, h1, h2, newVar, newRow]

theorem snd_box {t : TypeId} {x : Operand} (hop : o.op = .box t x) (hi : Inv w0 g0 hp w g) {ds : List D} (hr : RelL w g ds [ρ x]) (h : opWp .box ds hp K) : Done P ρ o w0 g0 w g K := by
  obtain ⟨a, rfl, ha⟩ := list1 (f := ρ) hr
  simp only [opWp] at h
  obtain ⟨hv, h⟩ := h
  obtain ⟨g1, g2⟩ := ha.cells hv
  refine done_new (e := t) hi g1 g2 h ?_
  simp [execOp, hop, Instr.box, newVar, newRow]

theorem snd_mkI {t : TypeId} {x : Operand} (hop : o.op = .makeInterface t x) (hc : P.concrete t = true) (hi : Inv w0 g0 hp w g) {ds : List D} (hr : RelL w g ds [ρ x]) (h : opWp (.mkI t) ds hp K) : Done P ρ o w0 g0 w g K := by
  obtain ⟨a, rfl, ha⟩ := list1 (f := ρ) hr
  simp only [opWp] at h
  exact done_val hi h (v := .iface t (ρ x)) (by simp only [Rel]; exact ⟨_, rfl, ha⟩) (by simp [execOp, hop, run_makeInterface (P := P) w t _ hc])

theorem snd_mkF {f : Fn} {first cap : Array Operand} (hop : o.op = .makeFunc f first cap) (hi : Inv w0 g0 hp w g) {ds : List D} (hr : RelL w g ds ((first.toList ++ cap.toList).map ρ)) (h : opWp (.mkF f first.size) ds hp K) : Done P ρ o w0 g0 w g K := by
  simp only [opWp] at h
  rw [List.map_append] at hr
  have h1 := hr.take first.size
  have h2 := hr.drop first.size
  rw [show first.size = (first.toList.map ρ).length by simp] at h1 h2
  simp only [List.take_left, List.drop_left] at h1 h2
  refine done_val hi h (v := .func f (first.map ρ) (cap.map ρ)) ?_ (by simp [execOp, hop, Instr.makeFunc])
  simp only [Rel]
  refine ⟨first.toList.map ρ, cap.toList.map ρ, by rw [← Array.toList_map, ← Array.toList_map, Array.toArray_toList, Array.toArray_toList], ?_, ?_⟩
  · simpa using h1
  · simpa using h2

theorem snd_ext {x : Operand} {i : Nat} (hop : o.op = .extract x i) (hi : Inv w0 g0 hp w g) {ds : List D} (hr : RelL w g ds [ρ x]) (h : opWp (.ext i) ds hp K) : Done P ρ o w0 g0 w g K := by
  obtain ⟨a, rfl, ha⟩ := list1 (f := ρ) hr
  cases a <;> simp only [opWp] at h
  case tup vs =>
    obtain ⟨hl, h⟩ := h
    simp only [Rel] at ha
    obtain ⟨xs, hx, hr2⟩ := ha
    obtain ⟨v, hv, _⟩ := hr2.get (List.getElem?_eq_getElem hl)
    refine done_val hi h (hr2.getD hv) ?_
    simp [execOp, hop, Instr.extract, hx, hv]
end
end GoV
