/- The engine, part w: operations that make, copy and lengthen slices are sound. Own work; no program in sight. -/
import Derived.Test.YtiodnobmnfjdlaaDoorEv
set_option linter.unusedSimpArgs false
namespace GoV
open Go

section
variable {P : Program} {ρ : Operand → Value} {o : Oper} {w0 : World} {g0 : Gh} {hp : Hp} {w : World} {g : Gh} {K : D → Hp → Prop}

theorem run_builtin {c : Call} {b : Builtin} (hop : o.op = .call c) (hc : c.callee = .builtin b) :
    ∃ cs, (execOp ρ o).run P w = (builtin b c.argTypes o.type cs (c.args.map ρ)).run P w := by
  simp only [execOp, hop, resolve, hc, Sem.run_bind, Sem.run_pure, Result.andThen_ok, invoke]
  exact ⟨_, rfl⟩

theorem args1 {c : Call} {x : Operand} (hx : c.args.toList = [x]) : c.args = #[x] := by apply Array.ext'; simpa using hx
theorem args2 {c : Call} {x y : Operand} (hx : c.args.toList = [x, y]) : c.args = #[x, y] := by apply Array.ext'; simpa using hx

/-- The element's type, where one may make or append. -/
structure ElemT (P : Program) (t e : TypeId) (i : TypeInfo) (zv : Value) (z : List D) : Prop where
  ht : P.underlying t = some (.slice e)
  hi : P.info? e = some i
  hz : i.zero = some zv
  hd : toDs zv.cells.toList = some z
  hl : z.length = i.size

theorem ElemT.cells {t e : TypeId} {i : TypeInfo} {zv : Value} {z : List D} (h : ElemT P t e i zv z) (w : World) (g : Gh) : RelL w g z zv.cells.toList ∧ (∀ y ∈ zv.cells.toList, oneC y) ∧ zv.cells.size = i.size := by
  obtain ⟨h1, h2⟩ := toDs_rel (w := w) (g := g) h.hd
  refine ⟨h1.any, h2, ?_⟩
  rw [← h.hl, ← h1.length]; simp

theorem elemsK_erL {k : Nat} : ∀ {es : List D}, elemsK k es = true → D.closedL es = true → elemsK k (D.erL es) = true
  | [], _, _ => rfl
  | e :: es, h, hc => by
    simp only [elemsK, Bool.and_eq_true, beq_iff_eq, D.erL, D.closedL] at h hc ⊢
    refine ⟨?_, elemsK_erL h.2 hc.2⟩
    obtain ⟨⟨h1, h2⟩, _⟩ := h
    have erl : ∀ l : List D, (D.erL l).length = l.length := by
      intro l
      induction l with
      | nil => rfl
      | cons a l ih => simp [D.erL, ih]
    cases e <;> simp_all [D.er, D.isVal, D.cells]

theorem run_bs {t e : TypeId} {len : Nat} {ps : Array (Nat × Value)} {cells : Array Value} {i : TypeInfo} {z : Value} (hu : P.underlying t = some (.slice e)) (hi : P.info? e = some i) (hz : i.zero = some z) (h16 : ¬ 16777216 < len * i.size) (hpos : ¬ len * i.size = 0)
    (h : Instr.fill (fun j => some (j * i.size, i.size)) ((Array.range (len * i.size)).map (z.cells[· % z.cells.size]!)) ps.toList = some cells) :
    (Instr.buildSlice t len ps).run P w = .ok (.slice (some ⟨w.heap.size, 0, none⟩) len len) (w.alloc (.cells cells e (0, 0))) := by
  simp [Instr.buildSlice, run_underlying hu, Go.sizeOf, h16, hpos, Go.zeroValue, typeInfo, hi, hz, h, newRow]

theorem snd_bsl {t e : TypeId} {len k : Nat} {parts : Array (Nat × Operand)} {zd : List D} (hop : o.op = .buildSlice t len parts) (hu : P.underlying t = some (.slice e)) (hk : szOf P e = some k) (hz : zeroDs P e = some zd) (hzl : zd.length = k) (hk0 : 0 < k)
    (hp' : parts.toList.map (·.1) = List.range len)
    (hi : Inv w0 g0 hp w g) {ds : List D} (hr : RelL w g ds ((parts.toList.map (·.2)).map ρ)) (h : opWp (.bsl k) ds hp K) : Done P ρ o w0 g0 w g K := by
  simp only [opWp] at h
  obtain ⟨hK, hl16, h⟩ := h
  obtain ⟨i, zv, h1, h2, h3⟩ := zeroDs_spec hz
  obtain ⟨g1, g2⟩ := toDs_rel (w := w) (g := g) h3
  have hik : i.size = k := by unfold szOf at hk; simp [h1] at hk; exact hk
  have hzs : zv.cells.size = k := by rw [← hzl, ← g1.length]; simp
  have hlen := hr.length
  have hpl : parts.toList.length = len := by have := congrArg List.length hp'; simpa using this
  have hdl : ds.length = len := by rw [← hlen]; simpa using hpl
  obtain ⟨f1, f2⟩ := flatD_rel hr hK
  have hsz := elemsK_sizes hr hK
  have hfl := flat_length _ k hsz
  have hzip : (parts.map fun (i, x) => (i, ρ x)).toList = (List.range' 0 ((parts.toList.map (·.2)).map ρ).length).zip ((parts.toList.map (·.2)).map ρ) := by
    have e1 : (parts.map fun (i, x) => (i, ρ x)).toList = (parts.toList.map (·.1)).zip ((parts.toList.map (·.2)).map ρ) := by
      rw [Array.toList_map]
      generalize parts.toList = l
      induction l with
      | nil => rfl
      | cons a l ih => simp [ih]
    rw [e1, hp', List.range_eq_range']
    congr 2
    simpa using hpl.symm
  have hfill : Instr.fill (fun i => some (i * k, k)) ((Array.range (len * k)).map (zv.cells[· % zv.cells.size]!)) (parts.map fun (i, x) => (i, ρ x)).toList = some (flat ((parts.toList.map (·.2)).map ρ)).toArray := by
    rw [hzip, fill_seq _ 0 _ hsz (by simp only [Nat.zero_add, Array.size_map, Array.size_range]; rw [hlen, hdl]; exact Nat.le_refl _)]
    simp only [Nat.zero_mul]
    rw [setV_all]
    rw [hfl, hlen, hdl]; simp
  have hrun : (execOp ρ o).run P w = .ok (.value (.slice (some ⟨w.heap.size, 0, none⟩) len len)) (w.alloc (.cells (flat ((parts.toList.map (·.2)).map ρ)).toArray e (0, 0))) := by
    subst hik
    by_cases hpos : len * i.size = 0
    · have h0 : len = 0 := by
        rcases Nat.mul_eq_zero.1 hpos with q | q
        · exact q
        · omega
      subst h0
      have hpe : parts = #[] := by
        apply Array.ext'; simpa using List.eq_nil_of_length_eq_zero hpl
      subst hpe
      have ea : (Array.range 0) = #[] := by apply Array.ext'; simp
      simp [execOp, hop, Instr.buildSlice, run_underlying hu, run_sizeOf hk, Instr.fill, newRow, flat, ea]
    · have h16 : ¬ len * i.size > 2 ^ 24 := by rw [← hdl]; omega
      have h16' : ¬ (16777216 < len * i.size) := by omega
      have := run_bs (P := P) (w := w) hu h1 h2 h16' hpos hfill
      simp only [execOp, hop, Sem.run_bind, this, Result.andThen_ok, Sem.run_pure]
  rcases h with ⟨hc, h⟩ | h
  · obtain ⟨q1, q2, q3, q4, q5⟩ := hi.newPer (RelL.closed _ hc hr) (elemsK_erL hK hc) (flat ((parts.toList.map (·.2)).map ρ)).toArray e (0, 0) (by simp)
    refine ⟨_, _, _, _, _, h, q1, q2, ?_, .inl hrun⟩
    simp only [Rel]
    refine ⟨_, len, k, _, .inl ?_, ?_, q3, q4, q5, ?_⟩
    · rw [← q3.length, hlen, hdl]
    · rw [← q3.length, hlen, hdl]; exact Nat.le_refl _
    · show len = (D.erL ds).length
      rw [← q3.length, hlen, hdl]
  · obtain ⟨q1, q2⟩ := hi.newBlk (.cells (flatD ds)) (.cells (flat ((parts.toList.map (·.2)).map ρ)).toArray e (0, 0)) fun w' g' he => ⟨_, e, rfl, RelL.evo _ he f1, f2⟩
    refine ⟨_, _, _, _, _, h, q1, q2, ?_, .inl hrun⟩
    simp only [Rel]
    refine ⟨w.heap.size, 0, ?_, by rw [hdl], fun _ => rfl⟩
    rw [hi.heap.len, List.getElem?_append_right (Nat.le_refl _)]; simp

theorem own_fresh (hi : Inv w0 g0 hp w g) : w.heap.size ∉ g.own := fun hm => by have := hi.heap.own_lt _ hm; omega
theorem I_fresh (hi : Inv w0 g0 hp w g) (o : Nat) : ¬ g.I w.heap.size o := fun hm => by have := (hi.heap.imm _ o hm).1; omega

theorem snd_mks {t e : TypeId} {x y : Operand} {i : TypeInfo} {zv : Value} {z : List D} (hop : o.op = .makeSlice t x y) (hT : ElemT P t e i zv z)
    (hi : Inv w0 g0 hp w g) {ds : List D} (hr : RelL w g ds [ρ x, ρ y]) (h : opWp (.mks i.size i.bytes z) ds hp K) : Done P ρ o w0 g0 w g K := by
  obtain ⟨a, b, rfl, ha, hb⟩ := list2 (f := ρ) hr
  cases a <;> try (simp only [opWp] at h; done)
  cases b <;> try (simp only [opWp] at h; done)
  rename_i k1 l k2 c
  simp only [opWp] at h
  obtain ⟨h0, hlc, ⟨hb1, hb2⟩, h⟩ := h
  simp only [Rel] at ha hb
  obtain ⟨z1, z2, z3⟩ := hT.cells w g
  have hbb : (i.bytes : Int) * c ≤ 281474976710656 := by
    have e1 : (c.toNat : Int) = c := by omega
    have e2 : ((c.toNat * i.bytes : Nat) : Int) = i.bytes * c := by rw [Int.natCast_mul, e1, Int.mul_comm]
    omega
  have hrun := run_make (P := P) w t e i zv hT.ht hT.hi hT.hz k1 k2 l c h0 hlc hbb (by omega)
  have hmc : (madeCells zv.cells (c.toNat * i.size)).toList = zerosV zv.cells.toList c.toNat := by
    unfold madeCells; rw [← z3]; exact range_zero zv.cells c.toNat
  have hmo : ∀ y ∈ (madeCells zv.cells (c.toNat * i.size)).toList, oneC y := by rw [hmc]; exact zerosV_one z2 _
  have hms : (madeCells zv.cells (c.toNat * i.size)).size = c.toNat * i.size := size_madeCells _ _
  have hx : (execOp ρ o).run P w = .ok (.value (.slice (some ⟨w.heap.size, 0, none⟩) l.toNat c.toNat)) (w.alloc (.cells (madeCells zv.cells (c.toNat * i.size)) e (0, 0))) := by
    simp [execOp, hop, ha, hb, hrun]
  rcases h with h | ⟨hk0, hl0, h⟩
  · obtain ⟨q1, q2⟩ := hi.newBlk (.cells (zeros z c.toNat)) (.cells (madeCells zv.cells (c.toNat * i.size)) e (0, 0)) fun w' g' he =>
      ⟨zerosV zv.cells.toList c.toNat, e, by rw [← hmc, Array.toArray_toList], zeros_rel (hT.cells w' g').1 _, zerosV_one z2 _⟩
    refine ⟨_, _, _, _, _, h, q1, q2, ?_, .inl hx⟩
    simp only [Rel]
    refine ⟨w.heap.size, 0, ?_, rfl, fun _ => rfl⟩
    rw [hi.heap.len, List.getElem?_append_right (Nat.le_refl _)]; simp
  · subst hl0
    obtain ⟨q1, q2⟩ := hi.alloc (.cells (madeCells zv.cells (c.toNat * i.size)) e (0, 0))
    have hat := heap_alloc_at w (.cells (madeCells zv.cells (c.toNat * i.size)) e (0, 0))
    rcases h with h | h
    · obtain ⟨q3, q4⟩ := q1.tokPer (len := 0) hk0 hat hms (Nat.zero_le _) hmo (own_fresh hi) hi.keeps.size (fun o ho => absurd ho (I_fresh hi o))
      rw [hi.heap.lent] at h
      refine ⟨_, _, _, _, _, h, q3, q2.trans q4, ?_, .inl hx⟩
      simp only [Rel]
      refine ⟨⟨w.heap.size, 0, none⟩, c.toNat, i.size, [], .inl rfl, Nat.zero_le _, RelL.nil, by simp, ⟨fun _ => rfl, by simp [flat]⟩, ?_⟩
      exact ⟨_, tok_get g _, rfl, Nat.zero_le _, fun _ => rfl⟩
    · obtain ⟨q3, q4⟩ := q1.tokChg (len := 0) (cs := []) hk0 hat hms (Nat.zero_le _) hmo (own_fresh hi) hi.keeps.size (I_fresh hi) (by simp) (by simpa using RelL.nil)
      rw [hi.heap.lent] at h
      refine ⟨_, _, _, _, _, h, q3, q2.trans q4, ?_, .inl hx⟩
      simp only [Rel]
      exact ⟨_, _, _, rfl, by simp, tok_get g _, Nat.zero_le _, fun _ => ⟨rfl, rfl, by simp⟩⟩

theorem snd_b2s {s t e : TypeId} {x : Operand} (hop : o.op = .convert s t x) (hs : P.underlying s = some (.slice e)) (ht : P.underlying t = some .string) (he : P.underlying e = some (.int .u8))
    (hi : Inv w0 g0 hp w g) {ds : List D} (hr : RelL w g ds [ρ x]) (h : opWp .b2s ds hp K) : Done P ρ o w0 g0 w g K := by
  obtain ⟨a, rfl, ha⟩ := list1 (f := ρ) hr
  simp only [opWp] at h
  obtain ⟨hns, es, bs, h1, h2, h⟩ := h
  have hK : ∀ (es : List D) (bs : List UInt8), bytesOf es = some bs → elemsK 1 es = true ∧ ∃ ns : List Int, es = ns.map (D.int .u8) ∧ bs = ns.map fun n => UInt8.ofNat n.toNat := by
    intro es
    induction es with
    | nil => intro bs h; simp [bytesOf] at h; subst h; exact ⟨rfl, [], rfl, rfl⟩
    | cons e es ih =>
      intro bs h
      cases e <;> try (simp only [bytesOf] at h; cases h; done)
      rename_i k n
      cases k <;> try (simp only [bytesOf] at h; cases h; done)
      simp only [bytesOf] at h
      cases hb : bytesOf es with
      | none => simp [hb] at h
      | some r =>
        simp [hb] at h; subst h
        obtain ⟨q1, ns, q2, q3⟩ := ih r hb
        exact ⟨by simp [elemsK, D.isVal, D.cells, q1], n :: ns, by simp [q2], by simp [q3]⟩
  obtain ⟨k1, ns, k2, k3⟩ := hK es bs h2
  obtain ⟨vs, hel⟩ := elems_val (P := P) hi.heap ha h1 k1
  have hvs : vs = ns.map (Value.int .u8) := by
    have hrel := hel.rel
    rw [k2] at hrel
    have aux : ∀ (ns : List Int) (vs : List Value), RelL w g (ns.map (D.int .u8)) vs → vs = ns.map (Value.int .u8) := by
      intro ns
      induction ns with
      | nil => intro vs h; exact h.inv_nil
      | cons n ns ih =>
        intro vs h
        obtain ⟨y, ys, rfl, h3, h4⟩ := h.inv
        simp only [Rel] at h3
        rw [h3, ih ys h4]; rfl
    exact aux ns vs hrel
  have hfv : flat vs = ns.map (Value.int .u8) := by
    rw [hvs]
    clear hvs hel k2 k3
    induction ns with
    | nil => rfl
    | cons n ns ih => simp [flat, Value.cells, ih]
  have hes : es.length = ns.length := by rw [k2]; simp
  have hc := hel.cells es.length (Nat.le_refl _) w rfl
  have hln := hel.len w
  have hfold : ∀ (ns : List Int) (s : ByteArray), ns.foldl (fun r n => r.push (UInt8.ofNat n.toNat)) s = ⟨(s.data.toList ++ ns.map fun n => UInt8.ofNat n.toNat).toArray⟩ := by
    intro ns
    induction ns with
    | nil => intro s; simp
    | cons n ns ih =>
      intro s
      rw [List.foldl_cons, ih]
      congr 1
      simp [ByteArray.push, List.append_assoc]
  refine done_str hi h ?_
  rw [k3]
  have hlen : (flat vs).take (es.length * 1) = ns.map (Value.int .u8) := by
    rw [hfv, Nat.mul_one, hes, ← List.length_map (f := Value.int .u8) (as := ns), List.take_length]
  rw [hlen] at hc
  cases hx : ρ x <;> simp only [hx, Builtin.lenOf, run_stuck, Sem.run_pure] at hln <;> try (cases hln; done)
  case string s =>
    exfalso
    rw [hx] at ha
    cases a <;> try (simp only [elemsOf] at h1; cases h1; done)
    case str => simp [isStr] at hns
    case lit v =>
      simp only [Rel] at ha
      rw [← ha.1] at h1
      simp [elemsOf] at h1
    all_goals simp [Rel] at ha
  case slice ad n cap =>
    simp only [Result.ok.injEq, and_true] at hln
    subst hln
    cases ad with
    | none =>
      have : ns = [] := by
        simp only [hx, Builtin.firstCells, Sem.run_pure, Result.ok.injEq, and_true] at hc
        have := congrArg Array.toList hc
        simpa using this.symm
      subst this
      simp [execOp, hop, hx, convert, run_underlying hs, run_underlying ht, run_underlying he, Conv.bytesToString]
      rfl
    | some ad =>
      simp only [hx, Builtin.firstCells, Nat.mul_one] at hc
      have hb := run_bytesToString (P := P) w ad es.length cap ns hc
      rw [hfold] at hb
      simp [execOp, hop, hx, convert, run_underlying hs, run_underlying ht, run_underlying he, hb]
end
end GoV
