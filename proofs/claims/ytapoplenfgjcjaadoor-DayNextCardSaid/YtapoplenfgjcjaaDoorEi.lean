/- The engine, part i: single operations that do not call are sound, continued; all of them. Own work; no program in sight. -/
import Derived.Test.YtapoplenfgjcjaaDoorEh
set_option linter.unusedSimpArgs false
namespace GoV
open Go

section
variable {P : Program} {ρ : Operand → Value} {o : Oper} {w0 : World} {r0 : List Nat} {I0 : Nat → Nat → Prop} {hp : Hp} {rn : List Nat} {tk : List Tk} {I : Nat → Nat → Prop} {w : World} {K : D → Hp → Prop}

theorem snd_fld {t : TypeId} {x : Operand} {f m : Nat} {fs : Array Field} {fl : Field} (hop : o.op = .fieldAddr t x f) (hu : P.underlying t = some (.struct fs)) (hf : fs[f]? = some fl) (hm : szOf P fl.type = some (m + 1))
    (hi : Inv w0 r0 I0 hp rn tk I w) {ds : List D} (hr : RelL w I ds (r0 ++ rn) tk [ρ x]) (h : opWp (.fld fl.offset) ds hp K) : Done P ρ o w0 r0 I0 rn tk I w K := by
  obtain ⟨a, rfl, ha⟩ := list1 (f := ρ) hr
  have hrun : ∀ a : Addr, (Instr.fieldAt t (.pointer (some a)) f).run P w = .ok (.pointer (some (a.add fl.offset))) w := by
    intro a
    simp [Instr.fieldAt, run_underlying hu, hf, Instr.sureAddr, fieldPlace, run_sizeOf hm]
  cases a <;> simp only [opWp] at h
  case ptr b off =>
    simp only [Rel] at ha
    obtain ⟨nb, hn, hx⟩ := ha
    refine done_val hi h (v := .pointer (some ⟨nb, off + fl.offset, none⟩)) (by simp only [Rel]; exact ⟨nb, hn, rfl⟩) ?_
    simp [execOp, hop, hx, hrun, Addr.add_lit]
  case ip cs =>
    simp only [Rel] at ha
    obtain ⟨a, xs, hx, g2, g3⟩ := ha
    have hsp : a.spot = none := g3.1
    refine done_val hi h (v := .pointer (some (a.add fl.offset))) ?_ (by simp [execOp, hop, hx, hrun])
    rw [add_eq a hsp]
    simp only [Rel]
    exact ⟨_, _, rfl, g2.drop fl.offset, g3.drop fl.offset⟩

theorem snd_fv {t : TypeId} {x : Operand} {f n : Nat} {fs : Array Field} {fl : Field} {d : TypeDesc} (hop : o.op = .field t x f) (hu : P.underlying t = some (.struct fs)) (hf : fs[f]? = some fl) (hm : szOf P fl.type = some n) (hd : P.underlying fl.type = some d)
    (hi : Inv w0 r0 I0 hp rn tk I w) {ds : List D} (hr : RelL w I ds (r0 ++ rn) tk [ρ x]) (h : opWp (.fv (isRowT d) fl.offset (if isRowT d then n else 1)) ds hp K) : Done P ρ o w0 r0 I0 rn tk I w K := by
  obtain ⟨a, rfl, ha⟩ := list1 (f := ρ) hr
  cases a <;> simp only [opWp] at h
  case agg cs =>
    obtain ⟨hl, h⟩ := h
    simp only [Rel] at ha
    obtain ⟨xs, hx, g2, g3⟩ := ha
    have hlen := g2.length
    cases he : isRowT d <;> simp only [he, if_true, if_false, Bool.false_eq_true] at h hl
    · have hlt : fl.offset < xs.length := by omega
      refine done_val hi h (g2.getD (List.getElem?_eq_getElem hlt)) ?_
      simp [execOp, hop, hx, Instr.field, run_underlying hu, hf, asAgg, run_part_one (P := P) hd he xs.toArray fl.offset xs[fl.offset] (by simp [hlt])]
    · refine done_val hi h (v := .agg ((xs.drop fl.offset).take n).toArray) ?_ ?_
      · simp only [Rel]
        exact ⟨_, rfl, (g2.drop _).take n, fun y hy => g3 y (List.mem_of_mem_drop (List.mem_of_mem_take hy))⟩
      · have e : (xs.toArray.extract fl.offset (fl.offset + n)) = ((xs.drop fl.offset).take n).toArray := by
          apply Array.ext'
          simp [List.extract_eq_take_drop]
        simp only [execOp, hop, hx, Instr.field, Sem.run_bind, run_underlying hu, Result.andThen_ok, hf, asAgg, Sem.run_pure, run_part_row (P := P) hd he hm xs.toArray fl.offset, e]

theorem run_asIntOf (k : IntKind) (n : Int) (w : World) : (asIntOf (.int k n)).run P w = .ok (k, n) w := rfl

theorem snd_ixaA {t : TypeId} {x i : Operand} {n k : Nat} {e : TypeId} (hop : o.op = .indexAddr t x i) (hu : P.underlying t = some (.array n e)) (hk : szOf P e = some k)
    (hi : Inv w0 r0 I0 hp rn tk I w) {ds : List D} (hr : RelL w I ds (r0 ++ rn) tk [ρ x, ρ i]) (h : opWp (.ixaA n k) ds hp K) : Done P ρ o w0 r0 I0 rn tk I w K := by
  obtain ⟨a, b, rfl, ha, hb⟩ := list2 (f := ρ) hr
  have hrun : ∀ (a : Addr) (ki : IntKind) (j : Int), 0 ≤ j → j < n → (Instr.indexAt t (.pointer (some a)) (.int ki j)).run P w = .ok (.pointer (some (a.add (j.toNat * k)))) w := by
    intro a ki j h0 h1
    simp [Instr.indexAt, run_asIntOf, run_underlying hu, Instr.sureAddr, h0, h1, run_sizeOf hk]
  cases a <;> cases b <;> simp only [opWp] at h
  case ptr.int b off ki j =>
    obtain ⟨h0, h1, h⟩ := h
    simp only [Rel] at ha hb
    obtain ⟨nb, hn, hx⟩ := ha
    refine done_val hi h (v := .pointer (some ⟨nb, off + j.toNat * k, none⟩)) (by simp only [Rel]; exact ⟨nb, hn, rfl⟩) ?_
    simp [execOp, hop, hx, hb, hrun _ ki j h0 h1, Addr.add_lit]
  case ip.int cs ki j =>
    obtain ⟨h0, h1, h⟩ := h
    simp only [Rel] at ha hb
    obtain ⟨a, xs, hx, g2, g3⟩ := ha
    have hsp : a.spot = none := g3.1
    refine done_val hi h (v := .pointer (some (a.add (j.toNat * k)))) ?_ (by simp [execOp, hop, hx, hb, hrun _ ki j h0 h1])
    rw [add_eq a hsp]
    simp only [Rel]
    exact ⟨_, _, rfl, g2.drop _, g3.drop _⟩

theorem snd_ixaS {t : TypeId} {x i : Operand} {k : Nat} {e : TypeId} (hop : o.op = .indexAddr t x i) (hu : P.underlying t = some (.slice e)) (hk : szOf P e = some k)
    (hi : Inv w0 r0 I0 hp rn tk I w) {ds : List D} (hr : RelL w I ds (r0 ++ rn) tk [ρ x, ρ i]) (h : opWp (.ixaS k) ds hp K) : Done P ρ o w0 r0 I0 rn tk I w K := by
  obtain ⟨a, b, rfl, ha, hb⟩ := list2 (f := ρ) hr
  cases a <;> cases b <;> simp only [opWp] at h
  case slice.int es tok ki j =>
    obtain ⟨h0, h1, hv, hc, h⟩ := h
    simp only [Rel] at ha hb
    obtain ⟨a, cap, k', xs, hx, _, g3, g4, g5, _⟩ := ha
    have hlt : j.toNat < xs.length := by rw [g3.length]; omega
    have hrel := g3.getD (List.getElem?_eq_getElem hlt)
    have hk' : k' = k := by
      rw [← hc, ← hrel.cells_size hv]
      exact (g4 _ (List.getElem_mem hlt)).symm
    subst hk'
    have hat := flat_at g5 g4 (List.getElem?_eq_getElem hlt)
    have hsp : a.spot = none := g5.1
    refine done_val hi h (v := .pointer (some (a.add (j.toNat * k')))) ?_ ?_
    · rw [add_eq a hsp]
      simp only [Rel]
      exact ⟨_, _, rfl, (hrel.cells hv).1, hat⟩
    · simp [execOp, hop, hx, hb, Instr.indexAt, run_asIntOf, run_underlying hu, h0, h1, run_sizeOf hk]

theorem snd_ixvA {t : TypeId} {x i : Operand} {n k : Nat} {e : TypeId} {d : TypeDesc} (hop : o.op = .index t x i) (hu : P.underlying t = some (.array n e)) (hk : szOf P e = some k) (hd : P.underlying e = some d) (_h1k : isRowT d = false → k = 1)
    (hi : Inv w0 r0 I0 hp rn tk I w) {ds : List D} (hr : RelL w I ds (r0 ++ rn) tk [ρ x, ρ i]) (h : opWp (.ixvA (isRowT d) n k) ds hp K) : Done P ρ o w0 r0 I0 rn tk I w K := by
  obtain ⟨a, b, rfl, ha, hb⟩ := list2 (f := ρ) hr
  cases a <;> cases b <;> simp only [opWp] at h
  case agg.int cs ki j =>
    obtain ⟨h0, h1, hl, hkp, h⟩ := h
    simp only [Rel] at ha hb
    obtain ⟨xs, hx, g2, g3⟩ := ha
    have hlen := g2.length
    have hmul : (j.toNat + 1) * k ≤ n * k := Nat.mul_le_mul_right k (by omega)
    rw [Nat.add_mul, Nat.one_mul] at hmul
    cases he : isRowT d <;> simp only [he, if_true, if_false, Bool.false_eq_true] at h
    · have hlt : j.toNat * k < xs.length := by omega
      refine done_val hi h (g2.getD (List.getElem?_eq_getElem hlt)) ?_
      simp [execOp, hop, hx, hb, Instr.index, run_asIntOf, run_underlying hu, h0, h1, run_sizeOf hk, run_part_one (P := P) hd he xs.toArray (j.toNat * k) xs[j.toNat * k] (by simp [hlt])]
    · refine done_val hi h (v := .agg ((xs.drop (j.toNat * k)).take k).toArray) ?_ ?_
      · simp only [Rel]
        exact ⟨_, rfl, (g2.drop _).take k, fun y hy => g3 y (List.mem_of_mem_drop (List.mem_of_mem_take hy))⟩
      · have e' : (xs.toArray.extract (j.toNat * k) (j.toNat * k + k)) = ((xs.drop (j.toNat * k)).take k).toArray := by
          apply Array.ext'
          simp [List.extract_eq_take_drop]
        have hpr := run_part_row (P := P) hd he hk xs.toArray (j.toNat * k) w
        rw [e'] at hpr
        simp only [execOp, hop, hx, hb, Instr.index, Sem.run_bind, run_asIntOf, Result.andThen_ok, run_underlying hu, h0, h1, and_self, if_true, run_sizeOf hk, hpr, Sem.run_pure]

theorem snd_ixvS {t : TypeId} {x i : Operand} (hop : o.op = .index t x i) (hu : P.underlying t = some .string)
    (hi : Inv w0 r0 I0 hp rn tk I w) {ds : List D} (hr : RelL w I ds (r0 ++ rn) tk [ρ x, ρ i]) (h : opWp .ixvS ds hp K) : Done P ρ o w0 r0 I0 rn tk I w K := by
  obtain ⟨a, b, rfl, ha, hb⟩ := list2 (f := ρ) hr
  cases a <;> cases b <;> simp only [opWp] at h
  case str.int s ki j =>
    obtain ⟨h0, h1, h⟩ := h
    simp only [Rel] at ha hb
    refine done_int hi h ?_
    have hlt : j.toNat < s.length := by omega
    have hs : (ByteArray.mk s.toArray)[j.toNat]? = some (s.getD j.toNat 0) := by
      rw [ByteArray.getElem?_lt' _ _ (by simpa [ByteArray.size] using hlt)]
      simp [List.getD, hlt]
      rfl
    simp [execOp, hop, ha, hb, Instr.index, run_asIntOf, run_underlying hu, h0, hs]

theorem run_sliceStr {t : TypeId} (hu : P.underlying t = some .string) (s : List UInt8) (lo hi : Option (IntKind × Int)) (l h : Nat)
    (hl : l = match lo with | some p => p.2.toNat | none => 0) (hh : h = match hi with | some p => p.2.toNat | none => s.length)
    (h0 : ∀ p, lo = some p → 0 ≤ p.2) (h1 : ∀ p, hi = some p → 0 ≤ p.2) (h2 : l ≤ h) (h3 : h ≤ s.length) (w : World) :
    (Instr.sliceAt t (.string ⟨s.toArray⟩) (lo.map fun p => .int p.1 p.2) (hi.map fun p => .int p.1 p.2) none).run P w = .ok (.string ⟨((s.take h).drop l).toArray⟩) w := by
  have hx : ByteArray.extract ⟨s.toArray⟩ l h = ⟨((s.take h).drop l).toArray⟩ := by
    rw [Lib.extract_eq]
    congr 2
    simp [List.drop_take]
  have hsz : (ByteArray.mk s.toArray).size = s.length := size_str s
  have hb : (Instr.sliceBounds false (ByteArray.mk s.toArray).size (ByteArray.mk s.toArray).size (lo.map fun p => .int p.1 p.2) (hi.map fun p => .int p.1 p.2) none).run P w = .ok (l, h, s.length) w := by
    cases lo with
    | none =>
      cases hi with
      | none => simp at hl hh; subst hl; subst hh; simp [Instr.sliceBounds, hsz]
      | some q =>
        obtain ⟨k2, j2⟩ := q
        have := h1 _ rfl
        simp at hl hh this; subst hl; subst hh
        simp [Instr.sliceBounds, hsz, run_sliceBound (P := P) (w := w) k2 j2 s.length _ this (by omega)]
    | some p =>
      obtain ⟨k1, j1⟩ := p
      have g0 := h0 _ rfl
      cases hi with
      | none =>
        simp at hl hh g0; subst hl; subst hh
        simp [Instr.sliceBounds, hsz, run_sliceBound (P := P) (w := w) k1 j1 s.length _ g0 (by omega)]
      | some q =>
        obtain ⟨k2, j2⟩ := q
        have := h1 _ rfl
        simp at hl hh g0 this; subst hl; subst hh
        simp [Instr.sliceBounds, hsz, run_sliceBound (P := P) (w := w) k2 j2 s.length _ this (by omega), run_sliceBound (P := P) (w := w) k1 j1 j2.toNat _ g0 (by omega)]
  simp [Instr.sliceAt, run_underlying hu, Instr.slice, hb, hx]

theorem snd_slcS {t : TypeId} {x : Operand} {lo hi' : Option Operand} (hop : o.op = .slice t x lo hi' none) (hu : P.underlying t = some .string)
    (hi : Inv w0 r0 I0 hp rn tk I w) {ds : List D} (hr : RelL w I ds (r0 ++ rn) tk ((x :: (lo.toList ++ hi'.toList)).map ρ)) (h : opWp (.slcS lo.isSome hi'.isSome) ds hp K) : Done P ρ o w0 r0 I0 rn tk I w K := by
  cases lo <;> cases hi' <;> simp only [Option.isSome, Option.toList, List.nil_append, List.append_nil, List.map_cons, List.map_nil, List.cons_append] at hr h
  · obtain ⟨a, rfl, ha⟩ := list1 (f := ρ) hr
    cases a <;> simp only [opWp] at h
    case str s =>
      simp only [Rel] at ha
      refine done_str hi h ?_
      have := run_sliceStr (P := P) hu s none none 0 s.length rfl rfl (by simp) (by simp) (Nat.zero_le _) (Nat.le_refl _) w
      simp at this
      simp [execOp, hop, ha, this]
  · rename_i q
    obtain ⟨a, b, rfl, ha, hb⟩ := list2 (f := ρ) hr
    cases a <;> cases b <;> simp only [opWp] at h
    case str.int s k j =>
      obtain ⟨h0, h1, h⟩ := h
      simp only [Rel] at ha hb
      refine done_str hi h ?_
      have := run_sliceStr (P := P) hu s none (some (k, j)) 0 j.toNat rfl rfl (by simp) (by simpa using h0) (Nat.zero_le _) (by omega) w
      simp at this
      simp [execOp, hop, ha, hb, this]
  · rename_i q
    obtain ⟨a, b, rfl, ha, hb⟩ := list2 (f := ρ) hr
    cases a <;> cases b <;> simp only [opWp] at h
    case str.int s k j =>
      obtain ⟨h0, h1, h⟩ := h
      simp only [Rel] at ha hb
      refine done_str hi h ?_
      have := run_sliceStr (P := P) hu s (some (k, j)) none j.toNat s.length rfl rfl (by simpa using h0) (by simp) (by omega) (Nat.le_refl _) w
      simp at this
      simp [execOp, hop, ha, hb, this]
  · rename_i q r
    obtain ⟨a, b, c, rfl, ha, hb, hc⟩ := list3 (f := ρ) hr
    cases a <;> cases b <;> cases c <;> simp only [opWp] at h
    case str.int.int s k j k2 j2 =>
      obtain ⟨h0, h1, h2, h⟩ := h
      simp only [Rel] at ha hb hc
      refine done_str hi h ?_
      have := run_sliceStr (P := P) hu s (some (k, j)) (some (k2, j2)) j.toNat j2.toNat rfl rfl (by simpa using h0) (by simp; omega) (by omega) (by omega) w
      simp at this
      simp [execOp, hop, ha, hb, hc, this]
end
end GoV
