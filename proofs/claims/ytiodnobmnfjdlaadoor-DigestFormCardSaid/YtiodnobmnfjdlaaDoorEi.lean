/- The engine, part i: single operations that do not call are sound, continued; all of them. Own work; no program in sight. -/
import Derived.Test.YtiodnobmnfjdlaaDoorEh
set_option linter.unusedSimpArgs false
namespace GoV
open Go

section
variable {P : Program} {ρ : Operand → Value} {o : Oper} {w0 : World} {g0 : Gh} {hp : Hp} {w : World} {g : Gh} {K : D → Hp → Prop}

theorem snd_fld {t : TypeId} {x : Operand} {f m : Nat} {fs : Array Field} {fl : Field} (hop : o.op = .fieldAddr t x f) (hu : P.underlying t = some (.struct fs)) (hf : fs[f]? = some fl) (hm : szOf P fl.type = some (m + 1))
    (hi : Inv w0 g0 hp w g) {ds : List D} (hr : RelL w g ds [ρ x]) (h : opWp (.fld fl.offset) ds hp K) : Done P ρ o w0 g0 w g K := by
  obtain ⟨a, rfl, ha⟩ := list1 (f := ρ) hr
  have hrun : ∀ a : Addr, (Instr.fieldAt t (.pointer (some a)) f).run P w = .ok (.pointer (some (a.add fl.offset))) w := by
    intro a
    simp [Instr.fieldAt, run_underlying hu, hf, Instr.sureAddr, fieldPlace, run_sizeOf hm]
  cases a <;> simp only [opWp] at h
  case ptr b off =>
    simp only [Rel] at ha
    obtain ⟨nb, hn, hx⟩ := ha
    refine done_val hi h (v := .pointer (some ⟨nb, off + fl.offset, none⟩)) (by simp only [Rel]; exact ⟨nb, hn, rfl⟩) ?_
    simp [execOp, hop, hx, hrun, Addr.add_lit]
  case ip cs =>
    simp only [Rel] at ha
    obtain ⟨a, xs, hx, g2, g3⟩ := ha
    refine done_val hi h (v := .pointer (some (a.add fl.offset))) ?_ (by simp [execOp, hop, hx, hrun])
    simp only [Rel]
    exact ⟨_, _, rfl, g2.drop fl.offset, g3.add fl.offset⟩
  case gp tt m off =>
    simp only [Rel] at ha
    obtain ⟨a, T, hx, h1, h2, h3⟩ := ha
    refine done_val hi h (v := .pointer (some (a.add fl.offset))) ?_ (by simp [execOp, hop, hx, hrun])
    simp only [Rel]
    refine ⟨_, T, rfl, h1, h2, fun e => ?_⟩
    obtain ⟨b, h4, rfl⟩ := h3 e
    exact ⟨b, h4, by rw [Addr.add_lit]⟩

theorem snd_fv {t : TypeId} {x : Operand} {f n : Nat} {fs : Array Field} {fl : Field} {d : TypeDesc} (hop : o.op = .field t x f) (hu : P.underlying t = some (.struct fs)) (hf : fs[f]? = some fl) (hm : szOf P fl.type = some n) (hd : P.underlying fl.type = some d)
    (hi : Inv w0 g0 hp w g) {ds : List D} (hr : RelL w g ds [ρ x]) (h : opWp (.fv (isRowT d) fl.offset (if isRowT d then n else 1)) ds hp K) : Done P ρ o w0 g0 w g K := by
  obtain ⟨a, rfl, ha⟩ := list1 (f := ρ) hr
  cases a <;> simp only [opWp] at h
  case agg cs =>
    obtain ⟨hl, h⟩ := h
    simp only [Rel] at ha
    obtain ⟨xs, hx, g2, g3⟩ := ha
    have hlen := g2.length
    cases he : isRowT d <;> simp only [he, if_true, if_false, Bool.false_eq_true] at h hl
    · have hlt : fl.offset < xs.length := by omega
      refine done_val hi h (g2.getD (List.getElem?_eq_getElem hlt)) ?_
      simp [execOp, hop, hx, Instr.field, run_underlying hu, hf, asAgg, run_part_one (P := P) hd he xs.toArray fl.offset xs[fl.offset] (by simp [hlt])]
    · refine done_val hi h (v := .agg ((xs.drop fl.offset).take n).toArray) ?_ ?_
      · simp only [Rel]
        exact ⟨_, rfl, (g2.drop _).take n, fun y hy => g3 y (List.mem_of_mem_drop (List.mem_of_mem_take hy))⟩
      · have e : (xs.toArray.extract fl.offset (fl.offset + n)) = ((xs.drop fl.offset).take n).toArray := by
          apply Array.ext'
          simp [List.extract_eq_take_drop]
        simp only [execOp, hop, hx, Instr.field, Sem.run_bind, run_underlying hu, Result.andThen_ok, hf, asAgg, Sem.run_pure, run_part_row (P := P) hd he hm xs.toArray fl.offset, e]

theorem run_asIntOf (k : IntKind) (n : Int) (w : World) : (asIntOf (.int k n)).run P w = .ok (k, n) w := rfl

theorem snd_ixaA {t : TypeId} {x i : Operand} {n k : Nat} {e : TypeId} (hop : o.op = .indexAddr t x i) (hu : P.underlying t = some (.array n e)) (hk : szOf P e = some k)
    (hi : Inv w0 g0 hp w g) {ds : List D} (hr : RelL w g ds [ρ x, ρ i]) (h : opWp (.ixaA n k) ds hp K) : Done P ρ o w0 g0 w g K := by
  obtain ⟨a, b, rfl, ha, hb⟩ := list2 (f := ρ) hr
  have hrun : ∀ (a : Addr) (ki : IntKind) (j : Int), 0 ≤ j → j < n → (Instr.indexAt t (.pointer (some a)) (.int ki j)).run P w = .ok (.pointer (some (a.add (j.toNat * k)))) w := by
    intro a ki j h0 h1
    simp [Instr.indexAt, run_asIntOf, run_underlying hu, Instr.sureAddr, h0, h1, run_sizeOf hk]
  cases a <;> cases b <;> simp only [opWp] at h
  case ptr.int b off ki j =>
    obtain ⟨h0, h1, h⟩ := h
    simp only [Rel] at ha hb
    obtain ⟨nb, hn, hx⟩ := ha
    refine done_val hi h (v := .pointer (some ⟨nb, off + j.toNat * k, none⟩)) (by simp only [Rel]; exact ⟨nb, hn, rfl⟩) ?_
    simp [execOp, hop, hx, hb, hrun _ ki j h0 h1, Addr.add_lit]
  case ip.int cs ki j =>
    obtain ⟨h0, h1, h⟩ := h
    simp only [Rel] at ha hb
    obtain ⟨a, xs, hx, g2, g3⟩ := ha
    refine done_val hi h (v := .pointer (some (a.add (j.toNat * k)))) ?_ (by simp [execOp, hop, hx, hb, hrun _ ki j h0 h1])
    simp only [Rel]
    exact ⟨_, _, rfl, g2.drop _, g3.add _⟩
  case gp.int tt m off ki j =>
    obtain ⟨h0, h1, h⟩ := h
    simp only [Rel] at ha hb
    obtain ⟨a, T, hx, q1, q2, q3⟩ := ha
    refine done_val hi h (v := .pointer (some (a.add (j.toNat * k)))) ?_ (by simp [execOp, hop, hx, hb, hrun _ ki j h0 h1])
    simp only [Rel]
    refine ⟨_, T, rfl, q1, q2, fun e => ?_⟩
    obtain ⟨b, h4, rfl⟩ := q3 e
    exact ⟨b, h4, by rw [Addr.add_lit]⟩

theorem snd_ixaS {t : TypeId} {x i : Operand} {k : Nat} {e : TypeId} (hop : o.op = .indexAddr t x i) (hu : P.underlying t = some (.slice e)) (hk : szOf P e = some k)
    (hi : Inv w0 g0 hp w g) {ds : List D} (hr : RelL w g ds [ρ x, ρ i]) (h : opWp (.ixaS k) ds hp K) : Done P ρ o w0 g0 w g K := by
  obtain ⟨a, b, rfl, ha, hb⟩ := list2 (f := ρ) hr
  have hrun : ∀ (a : Addr) (n cap : Nat) (ki : IntKind) (j : Int), 0 ≤ j → j < n → (Instr.indexAt t (.slice (some a) n cap) (.int ki j)).run P w = .ok (.pointer (some (a.add (j.toNat * k)))) w := by
    intro a n cap ki j h0 h1
    simp [Instr.indexAt, run_asIntOf, run_underlying hu, h0, h1, run_sizeOf hk]
  cases a <;> cases b <;> simp only [opWp] at h
  case slice.int es own ki j =>
    obtain ⟨h0, h1, hv, hc, h⟩ := h
    simp only [Rel] at ha hb
    obtain ⟨a, cap, k', xs, hx, _, g3, g4, g5, _⟩ := ha
    have hlt : j.toNat < xs.length := by rw [g3.length]; omega
    have hx : ρ x = .slice (some a) es.length cap := by
      rcases hx with hx | ⟨_, hx, _⟩
      · exact hx
      · subst hx; simp at h1; omega
    have hrel := g3.getD (List.getElem?_eq_getElem hlt)
    have hk' : k' = k := by
      rw [← hc, ← hrel.cells_size hv]
      exact (g4 _ (List.getElem_mem hlt)).symm
    subst hk'
    have hat := flat_at g5 g4 (List.getElem?_eq_getElem hlt)
    refine done_val hi h (v := .pointer (some (a.add (j.toNat * k')))) ?_ ?_
    · simp only [Rel]
      exact ⟨_, _, rfl, (hrel.cells hv).1, hat⟩
    · simp [execOp, hop, hx, hb, hrun _ _ _ ki j h0 h1]
  case sl.int b' k' off len cap ki j =>
    obtain ⟨h0, h1, h2, rfl, h⟩ := h
    simp only [Rel] at ha hb
    obtain ⟨n, o', q1, hx, q2⟩ := ha
    have q2 := q2 (by omega)
    subst q2
    refine done_val hi h (v := .pointer (some ⟨n, o' + j.toNat * k', none⟩)) (by simp only [Rel]; exact ⟨n, q1, rfl⟩) ?_
    simp [execOp, hop, hx, hb, hrun _ _ _ ki j h0 h1, Addr.add_lit]
  case gs.int tt n ki j =>
    obtain ⟨h0, h1, h⟩ := h
    simp only [Rel] at ha hb
    obtain ⟨a, cap, T, hx, hnn, hT, hl, he⟩ := ha
    have hok := hi.heap.tok T (List.mem_of_getElem? hT)
    cases a with
    | some a =>
      refine done_val hi h (v := .pointer (some (a.add (j.toNat * k)))) ?_ (by simp [execOp, hop, hx, hb, hrun _ _ _ ki j h0 h1])
      simp only [Rel]
      refine ⟨_, T, rfl, hT, hl, fun e => ?_⟩
      obtain ⟨hae, _, hbl⟩ := he e
      obtain ⟨b, hTb⟩ := hbl (by omega)
      have := (hok.2.2 b hTb).1
      rw [this] at hae; cases hae
      exact ⟨b, hTb, by rw [Addr.add_lit, Nat.zero_add]⟩
    | none => have := hnn rfl; omega

theorem snd_ixvA {t : TypeId} {x i : Operand} {n k : Nat} {e : TypeId} {d : TypeDesc} (hop : o.op = .index t x i) (hu : P.underlying t = some (.array n e)) (hk : szOf P e = some k) (hd : P.underlying e = some d) (_h1k : isRowT d = false → k = 1)
    (hi : Inv w0 g0 hp w g) {ds : List D} (hr : RelL w g ds [ρ x, ρ i]) (h : opWp (.ixvA (isRowT d) n k) ds hp K) : Done P ρ o w0 g0 w g K := by
  obtain ⟨a, b, rfl, ha, hb⟩ := list2 (f := ρ) hr
  cases a <;> cases b <;> simp only [opWp] at h
  case agg.int cs ki j =>
    obtain ⟨h0, h1, hl, hkp, h⟩ := h
    simp only [Rel] at ha hb
    obtain ⟨xs, hx, g2, g3⟩ := ha
    have hlen := g2.length
    have hmul : (j.toNat + 1) * k ≤ n * k := Nat.mul_le_mul_right k (by omega)
    rw [Nat.add_mul, Nat.one_mul] at hmul
    cases he : isRowT d <;> simp only [he, if_true, if_false, Bool.false_eq_true] at h
    · have hlt : j.toNat * k < xs.length := by omega
      refine done_val hi h (g2.getD (List.getElem?_eq_getElem hlt)) ?_
      simp [execOp, hop, hx, hb, Instr.index, run_asIntOf, run_underlying hu, h0, h1, run_sizeOf hk, run_part_one (P := P) hd he xs.toArray (j.toNat * k) xs[j.toNat * k] (by simp [hlt])]
    · refine done_val hi h (v := .agg ((xs.drop (j.toNat * k)).take k).toArray) ?_ ?_
      · simp only [Rel]
        exact ⟨_, rfl, (g2.drop _).take k, fun y hy => g3 y (List.mem_of_mem_drop (List.mem_of_mem_take hy))⟩
      · have e' : (xs.toArray.extract (j.toNat * k) (j.toNat * k + k)) = ((xs.drop (j.toNat * k)).take k).toArray := by
          apply Array.ext'
          simp [List.extract_eq_take_drop]
        have hpr := run_part_row (P := P) hd he hk xs.toArray (j.toNat * k) w
        rw [e'] at hpr
        simp only [execOp, hop, hx, hb, Instr.index, Sem.run_bind, run_asIntOf, Result.andThen_ok, run_underlying hu, h0, h1, and_self, if_true, run_sizeOf hk, hpr, Sem.run_pure]

theorem snd_ixvS {t : TypeId} {x i : Operand} (hop : o.op = .index t x i) (hu : P.underlying t = some .string)
    (hi : Inv w0 g0 hp w g) {ds : List D} (hr : RelL w g ds [ρ x, ρ i]) (h : opWp .ixvS ds hp K) : Done P ρ o w0 g0 w g K := by
  obtain ⟨a, b, rfl, ha, hb⟩ := list2 (f := ρ) hr
  cases a <;> cases b <;> simp only [opWp] at h
  case str.int s ki j =>
    obtain ⟨h0, h1, h⟩ := h
    simp only [Rel] at ha hb
    refine done_int hi h ?_
    have hlt : j.toNat < s.length := by omega
    have hs : (ByteArray.mk s.toArray)[j.toNat]? = some (s.getD j.toNat 0) := by
      rw [ByteArray.getElem?_lt' _ _ (by simpa [ByteArray.size] using hlt)]
      simp [List.getD, hlt]
      rfl
    simp [execOp, hop, ha, hb, Instr.index, run_asIntOf, run_underlying hu, h0, hs]

theorem run_sliceStr {t : TypeId} (hu : P.underlying t = some .string) (s : List UInt8) (lo hi : Option (IntKind × Int)) (l h : Nat)
    (hl : l = match lo with | some p => p.2.toNat | none => 0) (hh : h = match hi with | some p => p.2.toNat | none => s.length)
    (h0 : ∀ p, lo = some p → 0 ≤ p.2) (h1 : ∀ p, hi = some p → 0 ≤ p.2) (h2 : l ≤ h) (h3 : h ≤ s.length) (w : World) :
    (Instr.sliceAt t (.string ⟨s.toArray⟩) (lo.map fun p => .int p.1 p.2) (hi.map fun p => .int p.1 p.2) none).run P w = .ok (.string ⟨((s.take h).drop l).toArray⟩) w := by
  have hx : ByteArray.extract ⟨s.toArray⟩ l h = ⟨((s.take h).drop l).toArray⟩ := by
    rw [Lib.extract_eq]
    congr 2
    simp [List.drop_take]
  have hsz : (ByteArray.mk s.toArray).size = s.length := size_str s
  have hb : (Instr.sliceBounds false (ByteArray.mk s.toArray).size (ByteArray.mk s.toArray).size (lo.map fun p => .int p.1 p.2) (hi.map fun p => .int p.1 p.2) none).run P w = .ok (l, h, s.length) w := by
    cases lo with
    | none =>
      cases hi with
      | none => simp at hl hh; subst hl; subst hh; simp [Instr.sliceBounds, hsz]
      | some q =>
        obtain ⟨k2, j2⟩ := q
        have := h1 _ rfl
        simp at hl hh this; subst hl; subst hh
        simp [Instr.sliceBounds, hsz, run_sliceBound (P := P) (w := w) k2 j2 s.length _ this (by omega)]
    | some p =>
      obtain ⟨k1, j1⟩ := p
      have g0 := h0 _ rfl
      cases hi with
      | none =>
        simp at hl hh g0; subst hl; subst hh
        simp [Instr.sliceBounds, hsz, run_sliceBound (P := P) (w := w) k1 j1 s.length _ g0 (by omega)]
      | some q =>
        obtain ⟨k2, j2⟩ := q
        have := h1 _ rfl
        simp at hl hh g0 this; subst hl; subst hh
        simp [Instr.sliceBounds, hsz, run_sliceBound (P := P) (w := w) k2 j2 s.length _ this (by omega), run_sliceBound (P := P) (w := w) k1 j1 j2.toNat _ g0 (by omega)]
  simp [Instr.sliceAt, run_underlying hu, Instr.slice, hb, hx]

theorem snd_slcS {t : TypeId} {x : Operand} {lo hi' : Option Operand} (hop : o.op = .slice t x lo hi' none) (hu : P.underlying t = some .string)
    (hi : Inv w0 g0 hp w g) {ds : List D} (hr : RelL w g ds ((x :: (lo.toList ++ hi'.toList)).map ρ)) (h : opWp (.slcS lo.isSome hi'.isSome) ds hp K) : Done P ρ o w0 g0 w g K := by
  cases lo <;> cases hi' <;> simp only [Option.isSome, Option.toList, List.nil_append, List.append_nil, List.map_cons, List.map_nil, List.cons_append] at hr h
  · obtain ⟨a, rfl, ha⟩ := list1 (f := ρ) hr
    cases a <;> simp only [opWp] at h
    case str s =>
      simp only [Rel] at ha
      refine done_str hi h ?_
      have := run_sliceStr (P := P) hu s none none 0 s.length rfl rfl (by simp) (by simp) (Nat.zero_le _) (Nat.le_refl _) w
      simp at this
      simp [execOp, hop, ha, this]
  · rename_i q
    obtain ⟨a, b, rfl, ha, hb⟩ := list2 (f := ρ) hr
    cases a <;> cases b <;> simp only [opWp] at h
    case str.int s k j =>
      obtain ⟨h0, h1, h⟩ := h
      simp only [Rel] at ha hb
      refine done_str hi h ?_
      have := run_sliceStr (P := P) hu s none (some (k, j)) 0 j.toNat rfl rfl (by simp) (by simpa using h0) (Nat.zero_le _) (by omega) w
      simp at this
      simp [execOp, hop, ha, hb, this]
  · rename_i q
    obtain ⟨a, b, rfl, ha, hb⟩ := list2 (f := ρ) hr
    cases a <;> cases b <;> simp only [opWp] at h
    case str.int s k j =>
      obtain ⟨h0, h1, h⟩ := h
      simp only [Rel] at ha hb
      refine done_str hi h ?_
      have := run_sliceStr (P := P) hu s (some (k, j)) none j.toNat s.length rfl rfl (by simpa using h0) (by simp) (by omega) (Nat.le_refl _) w
      simp at this
      simp [execOp, hop, ha, hb, this]
  · rename_i q r
    obtain ⟨a, b, c, rfl, ha, hb, hc⟩ := list3 (f := ρ) hr
    cases a <;> try (simp only [opWp] at h; done)
    cases b <;> try (simp only [opWp] at h; done)
    cases c <;> try (simp only [opWp] at h; done)
    all_goals simp only [opWp] at h
    case str.int.int s k j k2 j2 =>
      obtain ⟨h0, h1, h2, h⟩ := h
      simp only [Rel] at ha hb hc
      refine done_str hi h ?_
      have := run_sliceStr (P := P) hu s (some (k, j)) (some (k2, j2)) j.toNat j2.toNat rfl rfl (by simpa using h0) (by simp; omega) (by omega) (by omega) w
      simp at this
      simp [execOp, hop, ha, hb, hc, this]

/-- The bounds of a slice expression. -/
def bnds (lo hi : Bool) (is : List D) (n l h : Int) : Prop :=
  match lo, hi, is with
  | false, false, [] => l = 0 ∧ h = n
  | true, false, [.int _ a] => l = a ∧ h = n
  | false, true, [.int _ b] => l = 0 ∧ h = b
  | true, true, [.int _ a, .int _ b] => l = a ∧ h = b
  | _, _, _ => False

theorem run_bounds {lo hi' : Option Operand} {is : List D} {n cap : Nat} {l h : Int} (b : Bool) (hb : bnds lo.isSome hi'.isSome is n l h) (hr : RelL w g is ((lo.toList ++ hi'.toList).map ρ)) (h0 : 0 ≤ l) (h1 : l ≤ h) (h2 : h ≤ n) (hc : n ≤ cap) :
    (Instr.sliceBounds b n cap (lo.map ρ) (hi'.map ρ) none).run P w = .ok (l.toNat, h.toNat, cap) w := by
  cases lo <;> cases hi' <;> simp only [Option.toList, List.nil_append, List.append_nil, List.map_cons, List.map_nil, List.cons_append] at hr <;> unfold bnds at hb <;> dsimp only [Option.isSome] at hb
  · rw [show is = [] by cases is with | nil => rfl | cons a r => obtain ⟨_, _, e, _⟩ := hr.inv; cases e] at hb
    obtain ⟨rfl, rfl⟩ := hb
    simp [Instr.sliceBounds]
  · rename_i q
    obtain ⟨a, rfl, ha⟩ := list1 (f := ρ) hr
    cases a <;> simp only at hb
    case int k j =>
      obtain ⟨rfl, rfl⟩ := hb
      simp only [Rel] at ha
      simp [Instr.sliceBounds, ha, run_sliceBound (P := P) (w := w) k h cap _ (by omega) (by omega)]
  · rename_i q
    obtain ⟨a, rfl, ha⟩ := list1 (f := ρ) hr
    cases a <;> simp only at hb
    case int k j =>
      obtain ⟨rfl, rfl⟩ := hb
      simp only [Rel] at ha
      simp [Instr.sliceBounds, ha, run_sliceBound (P := P) (w := w) k l n _ (by omega) (by omega)]
  · rename_i q r
    obtain ⟨a, c, rfl, ha, hc'⟩ := list2 (f := ρ) hr
    cases a <;> cases c <;> simp only at hb
    case int.int k j k2 j2 =>
      obtain ⟨rfl, rfl⟩ := hb
      simp only [Rel] at ha hc'
      simp [Instr.sliceBounds, ha, hc', run_sliceBound (P := P) (w := w) k2 h cap _ (by omega) (by omega), run_sliceBound (P := P) (w := w) k l h.toNat _ (by omega) (by omega)]

theorem elemsK_mem {k : Nat} : ∀ {es : List D}, elemsK k es = true → ∀ d ∈ es, d.isVal = true ∧ d.cells.length = k
  | [], _, _, h => by simp at h
  | e :: es, h, d, hd => by
    simp only [elemsK, Bool.and_eq_true, beq_iff_eq] at h
    rcases List.mem_cons.1 hd with q | q
    · subst q; exact ⟨h.1.1, h.1.2⟩
    · exact elemsK_mem h.2 d q

/-- The size of the elements of a slice. -/
theorem elemsK_size {k k' : Nat} {es : List D} {xs : List Value} (h : elemsK k es = true) (hr : RelL w g.cl es xs) (hk : ∀ y ∈ xs, y.cells.size = k') : xs = [] ∨ k' = k := by
  cases es with
  | nil => exact .inl hr.inv_nil
  | cons e es =>
    obtain ⟨y, ys, rfl, h1, h2⟩ := hr.inv
    obtain ⟨q1, q2⟩ := elemsK_mem h e (by simp)
    right
    rw [← q2, ← h1.cells_size q1]
    exact (hk y (by simp)).symm

theorem addr_shift (a : Addr) (h : a.spot = none) (c : Prop) [Decidable c] (n : Nat) : ∃ o, (if c then a else a.add n) = ⟨a.block, o, none⟩ ∧ (¬c → o = a.off + n) := by
  rw [add_eq a h]
  by_cases hc : c
  · rw [if_pos hc]; exact ⟨a.off, by obtain ⟨b, o, s⟩ := a; simp at h; subst h; rfl, fun q => absurd hc q⟩
  · rw [if_neg hc]; exact ⟨_, rfl, fun _ => rfl⟩

theorem snd_slcL {t : TypeId} {x : Operand} {lo hi' : Option Operand} {k : Nat} {e : TypeId} (hop : o.op = .slice t x lo hi' none) (hu : P.underlying t = some (.slice e)) (hk : szOf P e = some k)
    (hi : Inv w0 g0 hp w g) {ds : List D} (hr : RelL w g ds ((x :: (lo.toList ++ hi'.toList)).map ρ)) (h : opWp (.slcL k lo.isSome hi'.isSome) ds hp K) : Done P ρ o w0 g0 w g K := by
  cases ds with
  | nil => simp only [opWp] at h
  | cons a is =>
    obtain ⟨v, vs, e0, ha, his⟩ := hr.inv
    simp only [List.map_cons, List.cons.injEq] at e0
    obtain ⟨rfl, rfl⟩ := e0
    simp only [opWp] at h
    obtain ⟨l, h', hb', h0, h1, h2, h⟩ := h
    have hb : bnds lo.isSome hi'.isSome is (dlen a) l h' := hb'
    clear hb'
    cases a <;> first
      | (simp only at h; done)
      | skip
    case lit v =>
      cases v <;> first
        | (simp only at h; done)
        | skip
      rename_i aa nn cc
      cases aa <;> cases nn <;> cases cc <;> first
        | (simp only at h; done)
        | skip
      simp only [dlen] at hb h2
      have hl0 : l = 0 := by omega
      have hh0 : h' = 0 := by omega
      subst hl0; subst hh0
      simp only [Rel] at ha
      have hbd := run_bounds (P := P) (n := 0) (cap := 0) true (by simpa using hb) his (by omega) (by omega) (by omega) (by omega)
      refine done_val hi h (v := .slice none 0 0) (by simp [Rel, Value.oneCell']) ?_
      simp [execOp, hop, ha.1, Instr.sliceAt, run_underlying hu, Instr.slice, hbd, run_sizeOf hk]
    case slice es own =>
      obtain ⟨hK, h⟩ := h
      simp only [dlen] at hb h2
      simp only [Rel] at ha
      obtain ⟨a, cap, k', xs, hx, g2, g3, g4, g5, _⟩ := ha
      have hlen := g3.length
      have hbd := run_bounds (P := P) (n := es.length) (cap := cap) true hb his h0 h1 h2 g2
      rcases hx with hx | ⟨hx, rfl, rfl⟩
      · refine done_val hi h (v := .slice (some (if cap = l.toNat then a else a.add (l.toNat * k))) (h'.toNat - l.toNat) (cap - l.toNat)) ?_ ?_
        · simp only [Rel]
          refine ⟨(if cap = l.toNat then a else a.add (l.toNat * k)), cap - l.toNat, k', (xs.take h'.toNat).drop l.toNat, .inl ?_, ?_, (g3.take _).drop _, fun y hy => g4 y (List.mem_of_mem_take (List.mem_of_mem_drop hy)), ?_, trivial⟩
          · simp; omega
          · simp; omega
          · by_cases hz : (xs.take h'.toNat).drop l.toNat = []
            · rw [hz]; exact At.nil
            · have hlt : l.toNat < h'.toNat := by
                rcases Nat.lt_or_ge l.toNat h'.toNat with q | q
                · exact q
                · exact absurd (List.drop_eq_nil_of_le (by simp; omega)) hz
              have hkk : k' = k := by
                rcases elemsK_size hK g3 g4 with q | q
                · subst q; simp at hlen; omega
                · exact q
              subst hkk
              rw [if_neg (show ¬cap = l.toNat by omega)]
              have h3 := g5.take (h'.toNat * k')
              rw [flat_take xs k' h'.toNat g4 (by omega)] at h3
              have h4 := h3.add (l.toNat * k')
              rw [flat_drop _ k' l.toNat (fun y hy => g4 y (List.mem_of_mem_take hy))] at h4
              exact h4
        · simp [execOp, hop, hx, Instr.sliceAt, run_underlying hu, Instr.slice, hbd, run_sizeOf hk]
          by_cases q : cap = l.toNat <;> simp [q]
      · have hn := g3.inv_nil
        subst hn
        simp at h2
        have hl0 : l = 0 := by omega
        have hh0 : h' = 0 := by omega
        subst hl0; subst hh0
        refine done_val hi h (v := .slice none 0 0) ?_ ?_
        · simp only [Rel]
          exact ⟨⟨0, 0, none⟩, 0, 0, [], .inr ⟨by simp, by simp, rfl⟩, by simp, by simpa using RelL.nil, by simp, At.nil, by trivial⟩
        · simp at hbd
          simp [execOp, hop, hx, Instr.sliceAt, run_underlying hu, Instr.slice, hbd, run_sizeOf hk]
    case sl b k' off len cap =>
      obtain ⟨rfl, hlc, h⟩ := h
      simp only [dlen] at hb h2
      simp only [Rel] at ha
      obtain ⟨n, o', q1, hx, q2⟩ := ha
      have hbd := run_bounds (P := P) (n := len) (cap := cap) true hb his h0 h1 h2 hlc
      obtain ⟨o2, ho1, ho2⟩ := addr_shift ⟨n, o', none⟩ rfl (cap = l.toNat) (l.toNat * k')
      refine done_val hi h (v := .slice (some ⟨n, o2, none⟩) (h'.toNat - l.toNat) (cap - l.toNat)) ?_ ?_
      · simp only [Rel]
        exact ⟨n, o2, q1, rfl, fun hc => by rw [ho2 (by omega), q2 (by omega)]⟩
      · simp [execOp, hop, hx, Instr.sliceAt, run_underlying hu, Instr.slice, hbd, run_sizeOf hk]
        rw [← ho1]
        by_cases q : cap = l.toNat <;> simp [q]

theorem snd_slcA {t : TypeId} {x : Operand} {lo hi' : Option Operand} {n k : Nat} {e : TypeId} (hop : o.op = .slice t x lo hi' none) (hu : P.underlying t = some (.array n e)) (hk : szOf P e = some k)
    (hi : Inv w0 g0 hp w g) {ds : List D} (hr : RelL w g ds ((x :: (lo.toList ++ hi'.toList)).map ρ)) (h : opWp (.slcA n k lo.isSome hi'.isSome) ds hp K) : Done P ρ o w0 g0 w g K := by
  cases ds with
  | nil => simp only [opWp] at h
  | cons a is =>
    obtain ⟨v, vs, e0, ha, his⟩ := hr.inv
    simp only [List.map_cons, List.cons.injEq] at e0
    obtain ⟨rfl, rfl⟩ := e0
    cases a <;> simp only [opWp] at h
    case ptr b off =>
      obtain ⟨l, h', hb, h0, h1, h2, h⟩ := h
      have hb : bnds lo.isSome hi'.isSome is (n : Int) l h' := hb
      simp only [Rel] at ha
      obtain ⟨nb, q1, hx⟩ := ha
      have hbd := run_bounds (P := P) (n := n) (cap := n) false hb his h0 h1 h2 (Nat.le_refl _)
      obtain ⟨o2, ho1, ho2⟩ := addr_shift ⟨nb, off, none⟩ rfl (n = l.toNat) (l.toNat * k)
      refine done_val hi h (v := .slice (some ⟨nb, o2, none⟩) (h'.toNat - l.toNat) (n - l.toNat)) ?_ ?_
      · simp only [Rel]
        exact ⟨nb, o2, q1, rfl, fun hc => by rw [ho2 (by omega)]⟩
      · simp [execOp, hop, hx, Instr.sliceAt, Instr.sureAddr, run_underlying hu, hbd, run_sizeOf hk]
        rw [← ho1]
end
end GoV
