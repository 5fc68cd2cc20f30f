/- The engine, part y: copy, the runes of strings, lengths are sound. Own work; no program in sight. -/
import Derived.Test.YtiodnobmnfjdlaaDoorEx
set_option linter.unusedSimpArgs false
namespace GoV
open Go

section
variable {P : Program} {ρ : Operand → Value} {o : Oper} {w0 : World} {g0 : Gh} {hp : Hp} {w : World} {g : Gh} {K : D → Hp → Prop}

theorem flat_takeK {es : List D} {vs : List Value} {k : Nat} (h : RelL w g es vs) (hk : elemsK k es = true) (n : Nat) (hn : n ≤ es.length) : (flat vs).take (n * k) = flat (vs.take n) :=
  flat_take vs k n (elemsK_sizes h hk) (by rw [h.length]; exact hn)

theorem snd_cpy {c : Call} {s x : Operand} {t e : TypeId} {k : Nat} (hop : o.op = .call c) (hc : c.callee = .builtin .copy) (hta : c.argTypes[0]? = some t) (hx : c.args.toList = [s, x]) (hu : P.underlying t = some (.slice e)) (hk : szOf P e = some k)
    (hi : Inv w0 g0 hp w g) {ds : List D} (hr : RelL w g ds [ρ s, ρ x]) (h : opWp (.cpy k) ds hp K) : Done P ρ o w0 g0 w g K := by
  obtain ⟨a, b, rfl, ha, hb⟩ := list2 (f := ρ) hr
  obtain ⟨consts, hrun⟩ := run_builtin (ρ := ρ) (o := o) (P := P) (w := w) hop hc
  simp only [args2 hx, builtin, List.map_toArray, List.map_cons, List.map_nil] at hrun
  cases a <;> try (simp only [opWp] at h; done)
  case sl b' k' off len cap =>
    simp only [opWp] at h
    obtain ⟨rfl, cs, es, h1, h2, hlc, h3, hK, h⟩ := h
    obtain ⟨vs, hel⟩ := elems_val (P := P) hi.heap hb h3 hK
    simp only [Rel] at ha
    obtain ⟨nb, o', q1, q2, q3⟩ := ha
    obtain ⟨xs, e', x1, x2, x3⟩ := hi.heap.blk b' _ nb h1 q1
    have hxl := x2.length
    have hmin : (es.take len).length = min es.length len := by rw [List.length_take, Nat.min_comm]
    have hcells := hel.cells (min es.length len) (Nat.min_le_left _ _) w rfl
    rw [flat_takeK hel.rel hK _ (Nat.min_le_left _ _)] at hcells
    have hrel2 : RelL w g (es.take len) (vs.take (min es.length len)) := by
      have := hel.rel.take (min es.length len)
      have e1 : es.take (min es.length len) = es.take len := by
        rcases Nat.le_total es.length len with q | q
        · rw [Nat.min_eq_left q, List.take_length, List.take_of_length_le q]
        · rw [Nat.min_eq_right q]
      rw [e1] at this; exact this
    obtain ⟨f1, f2⟩ := flatD_rel hrel2 (elemsK_take len hK)
    have hfl := flat_length _ k' (elemsK_sizes hrel2 (elemsK_take len hK))
    rw [hrel2.length, hmin] at hfl
    have hle : min es.length len * k' ≤ len * k' := Nat.mul_le_mul_right _ (Nat.min_le_right _ _)
    have hlen := hel.len w
    have hng : ∃ C, hp.H[b']? = some C ∧ C ≠ .gone := ⟨_, h1, by simp⟩
    have hargs : c.argTypes[0]? = some t := hta
    by_cases hcap : 0 < cap
    · have ho := q3 hcap
      subst ho
      have hst := run_storeCells_at P nb o' e' (flat (vs.take (min es.length len))) 0 xs.toArray w x1 (by rw [hfl]; simp; omega) f2
      simp only [Nat.add_zero, List.toList_toArray] at hst
      rw [← setV_eq _ xs o' (by rw [hfl]; omega)] at hst
      obtain ⟨w1, w2⟩ := hi.write (w' := w.setRow nb (setV xs o' (flat (vs.take (min es.length len)))).toArray) b' nb q1 hng (.cells (setL cs o' (flatD (es.take len))))
        (fun w1 g1 he => ⟨_, e', by simp [World.setRow, Array.getElem?_modify, x1], RelL.evo _ he (x2.setL o' f1), mem_setV _ _ _ _ x3 f2⟩)
        (fun m hm => by simp [World.setRow, Array.getElem?_modify, Ne.symm hm]) (by simp [World.setRow]) rfl rfl rfl
      refine ⟨_, _, g, .int .i64 (min es.length len : Nat), _, h, w1, w2, by simp [Rel], .inl ?_⟩
      rw [hrun]
      simp [Builtin.copy_, hargs, run_underlying hu, run_sizeOf hk, hlen, q2, Nat.min_def]
      have e1 : (if es.length ≤ len then es.length else len) = min es.length len := by rw [Nat.min_def]
      rw [e1, hcells]
      simp [hst, goInt]
    · have hl0 : len = 0 := by omega
      subst hl0
      have hm0 : min es.length 0 = 0 := by omega
      rw [hm0] at hcells
      simp only [List.take_zero, flat] at hcells
      obtain ⟨w1, w2⟩ := hi.write (w' := w) b' nb q1 hng (.cells (setL cs off (flatD (es.take 0))))
        (fun w1 g1 he => ⟨xs, e', x1, by simpa [flatD, setL] using RelL.evo _ he x2, x3⟩) (fun m hm => rfl) rfl rfl rfl rfl
      refine ⟨_, _, g, .int .i64 (min es.length 0 : Nat), w, h, w1, w2, by simp [Rel], .inl ?_⟩
      rw [hrun]
      simp [Builtin.copy_, hargs, run_underlying hu, run_sizeOf hk, hlen, q2, hcells, goInt, storeCells]

theorem snd_rngS {t : TypeId} {x : Operand} (hop : o.op = .range t x) (hu : P.underlying t = some .string)
    (hi : Inv w0 g0 hp w g) {ds : List D} (hr : RelL w g ds [ρ x]) (h : opWp .rngS ds hp K) : Done P ρ o w0 g0 w g K := by
  obtain ⟨a, rfl, ha⟩ := list1 (f := ρ) hr
  cases a <;> try (simp only [opWp] at h; done)
  case str s =>
    simp only [opWp] at h
    simp only [Rel] at ha
    obtain ⟨q1, q2⟩ := hi.newBlk (.siter s 0) (.stringIter ⟨s.toArray⟩ 0) fun w' g' he => rfl
    refine ⟨_, _, _, .pointer (some ⟨w.heap.size, 0, none⟩), _, h, q1, q2, ?_, .inl ?_⟩
    · simp only [Rel]
      refine ⟨w.heap.size, ?_, rfl⟩
      rw [hi.heap.len, List.getElem?_append_right (Nat.le_refl _)]; simp
    · simp [execOp, hop, ha, Instr.range, run_underlying hu]

theorem snd_nxtS {it : Operand} (hop : o.op = .next it true)
    (hi : Inv w0 g0 hp w g) {ds : List D} (hr : RelL w g ds [ρ it]) (h : opWp .nxtS ds hp K) : Done P ρ o w0 g0 w g K := by
  obtain ⟨a, rfl, ha⟩ := list1 (f := ρ) hr
  cases a <;> try (simp only [opWp] at h; done)
  case ptr b off =>
    cases off <;> try (simp only [opWp] at h; done)
    simp only [opWp] at h
    obtain ⟨s, p, h1, h2, h3⟩ := h
    simp only [Rel] at ha
    obtain ⟨n, q1, q2⟩ := ha
    have hb := hi.heap.blk b _ n h1 q1
    have hb : w.heap[n]? = some (.stringIter ⟨s.toArray⟩ p) := hb
    have hsz := size_str s
    by_cases hp' : p < s.length
    · have hK := h2 hp'
      obtain ⟨w1, w2⟩ := hi.write (w' := { w with heap := w.heap.setIfInBounds n (.stringIter ⟨s.toArray⟩ (p + (Utf8.decode ⟨s.toArray⟩ p).2)) }) b n q1 ⟨_, h1, by simp⟩ (.siter s (p + (Utf8.decode ⟨s.toArray⟩ p).2))
        (fun w1 g1 he => by simp [BlkRel, Array.getElem?_setIfInBounds, lt_of_some hb]) (fun m hm => by simp [Array.getElem?_setIfInBounds, Ne.symm hm]) (by simp) rfl rfl rfl
      refine ⟨_, _, g, .tuple #[.bool true, .int .i64 p, .int .i32 (Utf8.decode ⟨s.toArray⟩ p).1], _, hK, w1, w2, ?_, .inl ?_⟩
      · simp only [Rel]
        exact ⟨_, rfl, RelL.cons (by simp [Rel]) (RelL.cons (by simp [Rel]) (RelL.one (by simp [Rel])))⟩
      · have hlt : p < (ByteArray.mk s.toArray).size := by rw [hsz]; exact hp'
        simp only [execOp, hop, Sem.run_bind]
        have hnx : (Instr.next (ρ it) true o.type).run P w = .ok (.tuple #[.bool true, .int .i64 p, .int .i32 (Utf8.decode ⟨s.toArray⟩ p).1]) { w with heap := w.heap.setIfInBounds n (.stringIter ⟨s.toArray⟩ (p + (Utf8.decode ⟨s.toArray⟩ p).2)) } := by
          rw [q2]
          simp only [Instr.next, getObj, setObj, Sem.run_bind, Sem.run, hb, Result.andThen, hlt, if_true]
          simp [goInt]
        simp only [hnx, Result.andThen_ok, Sem.run_pure]
    · have hK := h3 (by omega)
      refine done_val hi hK (v := .tuple #[.bool false]) (by simp only [Rel]; exact ⟨_, rfl, RelL.one (by simp [Rel])⟩) ?_
      have hlt : ¬ p < (ByteArray.mk s.toArray).size := by rw [hsz]; exact hp'
      simp [execOp, hop, q2, Instr.next, getObj, Sem.run, hb, hlt]

theorem snd_lenS {c : Call} {x : Operand} {t : TypeId} (hop : o.op = .call c) (hc : c.callee = .builtin .len) (ht : c.argTypes[0]? = some t) (hx : c.args.toList = [x]) (hu : P.underlying t = some .string)
    (hi : Inv w0 g0 hp w g) {ds : List D} (hr : RelL w g ds [ρ x]) (h : opWp .lenS ds hp K) : Done P ρ o w0 g0 w g K := by
  obtain ⟨a, rfl, ha⟩ := list1 (f := ρ) hr
  obtain ⟨cs, hrun⟩ := run_builtin (ρ := ρ) (o := o) (P := P) (w := w) hop hc
  simp only [args1 hx, builtin, Builtin.len_, ht] at hrun
  cases a <;> simp only [opWp] at h
  case str s =>
    simp only [Rel] at ha
    refine done_int hi h ?_
    rw [hrun]
    simp [run_underlying hu, ha, goInt, size_str]

theorem snd_lenL {c : Call} {x : Operand} {t e : TypeId} (hop : o.op = .call c) (hc : c.callee = .builtin .len) (ht : c.argTypes[0]? = some t) (hx : c.args.toList = [x]) (hu : P.underlying t = some (.slice e))
    (hi : Inv w0 g0 hp w g) {ds : List D} (hr : RelL w g ds [ρ x]) (h : opWp .lenL ds hp K) : Done P ρ o w0 g0 w g K := by
  obtain ⟨a, rfl, ha⟩ := list1 (f := ρ) hr
  obtain ⟨cs, hrun⟩ := run_builtin (ρ := ρ) (o := o) (P := P) (w := w) hop hc
  simp only [args1 hx, builtin, Builtin.len_, ht] at hrun
  cases a <;> try (simp only [opWp] at h; done)
  case slice es own =>
    simp only [Rel] at ha
    obtain ⟨a, cap, k, xs, hv, _⟩ := ha
    simp only [opWp] at h
    refine done_int hi h ?_
    rw [hrun]
    rcases hv with hv | ⟨hv, rfl, _⟩ <;> simp [run_underlying hu, hv, goInt]
  case sl b k off len cap =>
    simp only [Rel] at ha
    obtain ⟨n, o', _, hv, _⟩ := ha
    simp only [opWp] at h
    refine done_int hi h ?_
    rw [hrun]
    simp [run_underlying hu, hv, goInt]
  case gs tt n =>
    simp only [Rel] at ha
    obtain ⟨a, cap, T, hv, _⟩ := ha
    simp only [opWp] at h
    refine done_int hi h ?_
    rw [hrun]
    simp [run_underlying hu, hv, goInt]
  case lit v =>
    cases v <;> try (simp only [opWp] at h; done)
    case slice a n c =>
      cases a <;> cases n <;> cases c <;> try (simp only [opWp] at h; done)
      simp only [opWp] at h
      simp only [Rel] at ha
      refine done_int hi h ?_
      rw [hrun]
      simp [run_underlying hu, ha.1, goInt]
end
end GoV
