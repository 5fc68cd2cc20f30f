/- The engine, part h: single operations that do not call are sound, continued. Own work; no program in sight. -/
import Derived.Test.YtiodnobmnfjdlaaDoorEg
set_option linter.unusedSimpArgs false
namespace GoV
open Go

section
variable {P : Program} {ρ : Operand → Value} {o : Oper} {w0 : World} {g0 : Gh} {hp : Hp} {w : World} {g : Gh} {K : D → Hp → Prop}

theorem foldl_set : ∀ (vs : List Value) (cs : Array Value) (n off : Nat),
    ((vs.zipIdx n).foldl (fun cs (p : Value × Nat) => cs.setIfInBounds (off + p.2) p.1) cs).toList = setV cs.toList (off + n) vs
  | [], _, _, _ => rfl
  | v :: vs, cs, n, off => by
    simp only [List.zipIdx_cons, List.foldl_cons, setV]
    rw [foldl_set vs _ (n + 1) off]
    simp [Nat.add_assoc]

theorem fill_sound {place : Nat → Option (Nat × Nat)} : ∀ (ps : List (Nat × Nat)) (is : List Nat) (ds : List D) (vs : List Value) (cs cs' : List D) (xs : Array Value),
    fillL cs ps ds = some cs' → is.map place = ps.map some → RelL w g ds vs → RelL w g cs xs.toList → (∀ y ∈ xs.toList, oneC y) →
    ∃ ys, Instr.fill place xs (is.zip vs) = some ys ∧ RelL w g cs' ys.toList ∧ ∀ y ∈ ys.toList, oneC y
  | [], is, ds, vs, cs, cs', xs, hf, hp, hr, hc, ho => by
    cases ds with
    | cons d ds => simp [fillL] at hf
    | nil =>
      simp [fillL] at hf; subst hf
      have : is = [] := by simpa using hp
      subst this
      exact ⟨xs, by simp [Instr.fill], hc, ho⟩
  | (off, n) :: ps, is, ds, vs, cs, cs', xs, hf, hp, hr, hc, ho => by
    cases ds with
    | nil => simp [fillL] at hf
    | cons d ds =>
      cases is with
      | nil => simp at hp
      | cons i is =>
        simp only [List.map_cons, List.cons.injEq] at hp
        obtain ⟨hp1, hp2⟩ := hp
        obtain ⟨v, vs', rfl, hv, hvs⟩ := hr.inv
        simp only [fillL] at hf
        split at hf
        case isFalse => cases hf
        rename_i hc3
        obtain ⟨c1, c2, c3⟩ := hc3
        obtain ⟨g1, g2⟩ := hv.cells c1
        have hsz : v.cells.size = n := by rw [hv.cells_size c1, c2]
        have hlen : cs.length = xs.size := by have := hc.length; simp at this; omega
        have hstep : (v.cells.zipIdx.foldl (fun cs (p : Value × Nat) => cs.setIfInBounds (off + p.2) p.1) xs).toList = setV xs.toList off v.cells.toList := by
          have := foldl_set v.cells.toList xs 0 off
          rw [← Array.foldl_toList]
          simpa using this
        obtain ⟨ys, e1, e2, e3⟩ := fill_sound ps is ds vs' _ cs' (v.cells.zipIdx.foldl (fun cs (p : Value × Nat) => cs.setIfInBounds (off + p.2) p.1) xs) hf hp2 hvs
          (by rw [hstep]; exact hc.setL off g1) (by rw [hstep]; exact mem_setV _ _ _ _ ho g2)
        refine ⟨ys, ?_, e2, e3⟩
        simp only [List.zip_cons_cons, Instr.fill, hp1]
        rw [if_neg (by simp; omega)]
        exact e1

theorem pick_map {ps : List (Nat × Nat)} : ∀ (is : List Nat) (q : List (Nat × Nat)), pick ps is = some q → is.map (fun i => ps.toArray[i]?) = q.map some
  | [], q, h => by simp [pick] at h; subst h; rfl
  | i :: is, q, h => by
    simp only [pick] at h
    split at h
    · rename_i p r h1 h2
      simp at h; subst h
      simpa [h1] using pick_map is r h2
    · cases h

theorem snd_bld {t : TypeId} {parts : Array (Nat × Operand)} {z : List D} {q : List (Nat × Nat)} (hop : o.op = .build t parts) (hz : zeroDs P t = some z)
    (hq : (∃ fs ps, P.underlying t = some (.struct fs) ∧ places P fs.toList = some ps ∧ pick ps (parts.toList.map (·.1)) = some q) ∨
      (∃ n e k, P.underlying t = some (.array n e) ∧ szOf P e = some k ∧ q = parts.toList.map fun p => (p.1 * k, k)))
    (hi : Inv w0 g0 hp w g) {ds : List D} (hr : RelL w g ds ((parts.toList.map (·.2)).map ρ)) (h : opWp (.bld z q) ds hp K) : Done P ρ o w0 g0 w g K := by
  simp only [opWp] at h
  obtain ⟨cs, hf, h⟩ := h
  obtain ⟨i, zv, h1, h2, h3⟩ := zeroDs_spec hz
  obtain ⟨g1, g2⟩ := toDs_rel (w := w) (g := g) h3
  have hzip : (parts.map fun (i, x) => (i, ρ x)).toList = (parts.toList.map (·.1)).zip ((parts.toList.map (·.2)).map ρ) := by
    rw [Array.toList_map]
    generalize parts.toList = l
    induction l with
    | nil => rfl
    | cons a l ih => simp [ih]
  have fin : ∀ place, (parts.toList.map (·.1)).map place = q.map some → Instr.fill place zv.cells ((parts.map fun (i, x) => (i, ρ x)).toList) = P.built t ((parts.map fun (i, x) => (i, ρ x)).toList) → Done P ρ o w0 g0 w g K := by
    intro place hpl hb
    obtain ⟨ys, e1, e2, e3⟩ := fill_sound (w := w)  q _ ds _ z cs zv.cells hf hpl hr g1.any g2
    rw [← hzip, hb] at e1
    refine done_val hi h (v := .agg ys) ?_ ?_
    · simp only [Rel]; exact ⟨ys.toList, by simp, e2, e3⟩
    · simp [execOp, hop, run_build w t _ ys e1]
  rcases hq with ⟨fs, ps, hu, hps, hpk⟩ | ⟨n, e, k, hu, hk, rfl⟩
  · refine fin (fun i => ps.toArray[i]?) (pick_map _ _ hpk) ?_
    unfold places at hps
    simp only [Program.built, h1, hu, h2, hps]
  · refine fin (fun i => some (i * k, k)) (by simp) ?_
    unfold szOf at hk
    cases hie : P.info? e with
    | none => simp [hie] at hk
    | some ie => simp [hie] at hk; subst hk; simp only [Program.built, h1, hu, h2, hie]

theorem take_drop_get {xs : Array Value} {n j : Nat} {y : Value} (h : (xs.toList.take n)[j]? = some y) : xs[j]? = some y := by
  rw [List.getElem?_take] at h
  split at h
  · simpa using h
  · cases h

/-- What a pointer into a growing slice stands for. -/
theorem gp_cells {x : Value} {tt m off k : Nat} {cs : List D} (hi : Inv w0 g0 hp w g) (hb : hp.tk[tt]? = some (.chg k cs)) (hv : cs.length = m * k) (ha : Rel w g (.gp tt m off) x) (_h0 : 0 ≤ off) :
    ∃ b, ∃ (_ : True), ∃ xs, x = .pointer (some ⟨b, off, none⟩) ∧ RelL w g cs xs ∧ (∀ y ∈ xs, oneC y) ∧ (∀ (j : Nat) y, xs[j]? = some y → w.cell? ⟨b, j, none⟩ = some y) ∧
      ∃ T ys e, g.tk[tt]? = some T ∧ T.blk = some b ∧ T.len * T.k = cs.length ∧ w.heap[b]? = some (.cells ys e (0, 0)) ∧ xs = ys.toList.take (T.len * T.k) ∧ T.k = k ∧ T.len ≤ T.cap ∧ ys.size = T.cap * T.k := by
  simp only [Rel] at ha
  obtain ⟨a, T, hx, hT, hl, he⟩ := ha
  obtain ⟨T', hT', hvr, hok⟩ := hi.heap.tokBlk hb
  rw [hT] at hT'; cases hT'
  obtain ⟨hk, hlen, _, hr⟩ := hvr
  have hme : m = T.len := by
    subst hk
    exact Nat.eq_of_mul_eq_mul_right hok.1 (hv.symm.trans hlen)
  obtain ⟨b, hb', ha⟩ := he hme
  obtain ⟨_, ys, e, h1, h2⟩ := hr b hb'
  obtain ⟨_, _, hc, zs, e', h3, h4, h5⟩ := hok.2.2 b hb'
  rw [h1] at h3; cases h3
  refine ⟨b, trivial, ys.toList.take (T.len * T.k), by rw [hx, ha], h2, fun y hy => h5 y (List.mem_of_mem_take hy), fun j y hj => ?_, T, ys, e, hT, hb', hlen.symm, h1, rfl, hk.symm, hc, h4⟩
  rw [cell_at h1]; exact take_drop_get hj

theorem snd_ld {t : TypeId} {x : Operand} {n : Nat} {d : TypeDesc} (hop : o.op = .load t x) (hs : szOf P t = some n) (hu : P.underlying t = some d)
    (hi : Inv w0 g0 hp w g) {ds : List D} (hr : RelL w g ds [ρ x]) (h : opWp (.ld (isRowT d) (if isRowT d then n else 1)) ds hp K) : Done P ρ o w0 g0 w g K := by
  obtain ⟨a, rfl, ha⟩ := list1 (f := ρ) hr
  cases a <;> simp only [opWp] at h
  case ptr b off =>
    obtain ⟨B, cs, hb, hB, hl, h⟩ := h
    simp only [Rel] at ha
    obtain ⟨nb, hn, hx⟩ := ha
    obtain ⟨xs, e, _, g2, g3, g4, _⟩ := blk_csq hi hb hB hn
    have hlen := g2.length
    cases hd : isRowT d <;> simp only [hd, if_true, if_false, Bool.false_eq_true] at h hl
    · have hlt : off < xs.length := by omega
      refine done_val hi h (g2.getD (List.getElem?_eq_getElem hlt)) ?_
      simp [execOp, hop, hx, run_loadAt_one (P := P) hu hd xs[off] nb off (g4 off _ (List.getElem?_eq_getElem hlt))]
    · refine done_val hi h (v := .agg ((xs.drop off).take n).toArray) ?_ ?_
      · simp only [Rel]
        exact ⟨_, rfl, (g2.drop off).take n, fun y hy => g3 y (List.mem_of_mem_drop (List.mem_of_mem_take hy))⟩
      · have hlen2 : ((xs.drop off).take n).length = n := by simp; omega
        have := run_loadAt_row (P := P) (w := w) hu hd ((xs.drop off).take n) (by rw [hlen2]; exact hs) nb off (fun j y hj => by
          rw [List.getElem?_take] at hj
          split at hj
          · rw [List.getElem?_drop] at hj; exact g4 _ _ hj
          · cases hj)
        simp [execOp, hop, hx, this]
  case gp tt m off =>
    obtain ⟨k, cs, hb, hv, hl, h⟩ := h
    obtain ⟨b, _, xs, e0, g2, g3, g4, _⟩ := gp_cells hi hb hv ha (by omega)
    have hlen := g2.length
    cases hd : isRowT d <;> simp only [hd, if_true, if_false, Bool.false_eq_true] at h hl
    · have hlt : off < xs.length := by omega
      refine done_val hi h (g2.getD (List.getElem?_eq_getElem hlt)) ?_
      simp [execOp, hop, e0, run_loadAt_one (P := P) hu hd xs[off] b off (g4 off _ (List.getElem?_eq_getElem hlt))]
    · refine done_val hi h (v := .agg ((xs.drop off).take n).toArray) ?_ ?_
      · simp only [Rel]
        exact ⟨_, rfl, (g2.drop off).take n, fun y hy => g3 y (List.mem_of_mem_drop (List.mem_of_mem_take hy))⟩
      · have hlen2 : ((xs.drop off).take n).length = n := by simp; omega
        have := run_loadAt_row (P := P) (w := w) hu hd ((xs.drop off).take n) (by rw [hlen2]; exact hs) b off (fun j y hj => by
          rw [List.getElem?_take] at hj
          split at hj
          · rw [List.getElem?_drop] at hj; exact g4 _ _ hj
          · cases hj)
        simp [execOp, hop, e0, this]
  case ip cs =>
    obtain ⟨h00, hl, h⟩ := h
    simp only [Rel] at ha
    obtain ⟨a, xs, hx, g2, g3⟩ := ha
    obtain ⟨ab, ao, as⟩ := a
    have hlen := g2.length
    have hsp : as = none := g3.1 fun e => by
      rw [e] at hlen; simp at hlen
      rw [← hlen] at hl; simp at hl; omega
    subst hsp
    cases hd : isRowT d <;> simp only [hd, if_true, if_false, Bool.false_eq_true] at h hl
    · have hlt : 0 < xs.length := by omega
      refine done_val hi h (g2.any.getD (List.getElem?_eq_getElem hlt)) ?_
      have := (g3.2 0 _ (List.getElem?_eq_getElem hlt)).1
      simp [execOp, hop, hx, run_loadAt_one (P := P) hu hd xs[0] ab ao (by simpa using this)]
    · refine done_val hi h (v := .agg (xs.take n).toArray) ?_ ?_
      · simp only [Rel]
        refine ⟨_, rfl, g2.any.take n, fun y hy => ?_⟩
        obtain ⟨j, hj⟩ := List.mem_iff_getElem?.1 (List.mem_of_mem_take hy)
        exact (g3.2 j y hj).2.2
      · have hlen2 : (xs.take n).length = n := by simp; omega
        have := run_loadAt_row (P := P) (w := w) hu hd (xs.take n) (by rw [hlen2]; exact hs) ab ao (fun j y hj => by
          rw [List.getElem?_take] at hj
          split at hj
          · exact (g3.2 _ _ hj).1
          · cases hj)
        simp [execOp, hop, hx, this]

theorem setV_take : ∀ (ys cs : List Value) (off : Nat) {n : Nat}, off + ys.length ≤ n → (setV cs off ys).take n = setV (cs.take n) off ys
  | [], _, _, _, _ => rfl
  | y :: ys, cs, off, n, h => by
    simp at h
    rw [setV, setV, setV_take ys _ _ (by omega), List.take_set]

/-- The cells of a growing slice change. -/
theorem Inv.writeTok {w0 g0 hp w g w'} (h : Inv w0 g0 hp w g) {t b k : Nat} {T : Tk} {cs cs' : List D} {ys ys' : Array Value} {e : TypeId} {V' : Tv} (hT : g.tk[t]? = some T) (hV : hp.tk[t]? = some (.chg k cs)) (hb : T.blk = some b)
    (hw0 : w.heap[b]? = some (.cells ys e (0, 0))) (hw1 : w'.heap[b]? = some (.cells ys' e (0, 0))) (hw2 : ∀ m, m ≠ b → w'.heap[m]? = w.heap[m]?)
    (hs : w'.heap.size = w.heap.size) (hos : w'.os = w.os) (htp : w'.tape = w.tape) (hout : w'.output = w.output) (hsz : ys'.size = T.cap * T.k) (h1 : ∀ y ∈ ys'.toList, oneC y)
    (hr : ∀ g', Evo w g w' g' → k = T.k ∧ cs'.length = T.len * T.k ∧ RelL w' g' cs' (ys'.toList.take (T.len * T.k))) (hV' : V' = .chg k cs' := by rfl) :
    Inv w0 g0 { hp with tk := hp.tk.set t V' } w' g ∧ Evo w g w' g := by
  have h0 := h.heap
  have hTm := List.mem_of_getElem? hT
  have hset : g.tk.set t T = g.tk := by
    apply List.ext_getElem?
    intro i
    rw [List.getElem?_set]
    by_cases e : t = i
    · subst e; rw [if_pos rfl, if_pos (lt_of_get hT), hT]
    · simp [e]
  have hnI : ∀ o, ¬ g.I b o := ((h0.tv t _ T hV hT).2.2.2 b hb).1
  have he : Evo w g w' g := ⟨fun b' o' hi => ⟨hi, cell_of_heap (hw2 b' fun e => by subst e; exact hnI o' hi)⟩, fun _ _ h => h, fun _ T h => ⟨T, h, rfl, .inl rfl⟩⟩
  have heq : (⟨g.r, g.tk.set t T, g.I⟩ : Gh) = g := by rw [hset]
  have hbe : b ∈ blks g.tk := mem_blks.2 ⟨T, hTm, hb⟩
  have hok := h0.tok T hTm
  have hh := h0.setTok (w' := w') (T' := T) (V' := V') (I' := g.I) hT (by rw [heq]; exact he) (fun n _ hn => hw2 n fun e => hn (by rw [e]; exact hb)) (by omega) (fun n hn => .inl hn) (fun b o ho => .inl ho)
    ⟨hok.1, hok.2.1, fun c hc => by
      rw [hb] at hc; cases hc
      exact ⟨(hok.2.2 b hb).1, (hok.2.2 b hb).2.1, (hok.2.2 b hb).2.2.1, ys', e, hw1, hsz, h1⟩⟩
    (by
      subst hV'
      rw [heq]
      obtain ⟨q1, q2, q3⟩ := hr g he
      exact ⟨q1, q2, (fun hn => by rw [hb] at hn; cases hn), fun c hc => by rw [hb] at hc; cases hc; exact ⟨hnI, ys', e, hw1, q3⟩⟩)
  rw [heq] at hh
  refine ⟨h.step hh he ⟨hos, htp, hout, by omega, fun m _ hm => hw2 m fun e => ?_⟩ (fun n hn => .inl hn) (fun n hn => .inl hn) (fun b o ho => .inl ho), he⟩
  subst e
  exact hm (List.mem_append.2 (.inr hbe))

theorem snd_st {t : TypeId} {x y : Operand} {n : Nat} (hop : o.op = .store t x y) (hs : szOf P t = some n)
    (hi : Inv w0 g0 hp w g) {ds : List D} (hr : RelL w g ds [ρ x, ρ y]) (h : opWp (.st n) ds hp K) : Done P ρ o w0 g0 w g K := by
  obtain ⟨a, v, rfl, ha, hv⟩ := list2 (f := ρ) hr
  cases a <;> simp only [opWp] at h
  case ptr b off =>
    obtain ⟨B, cs, hb, hB, hval, hn, hl, h⟩ := h
    simp only [Rel] at ha
    obtain ⟨nb, hnb, hx⟩ := ha
    obtain ⟨xs, e, g1, g2, g3, g4, g5⟩ := blk_csq hi hb hB hnb
    obtain ⟨c1, c2⟩ := hv.cells hval
    have hlen := g2.length
    have hvs : (ρ y).cells.size = n := by rw [hv.cells_size hval, hn]
    have hrun := run_storeCells_at (P := P) nb off e (ρ y).cells.toList 0 xs.toArray w g1 (by simp; omega) c2
    simp only [Nat.add_zero, List.toList_toArray] at hrun
    rw [← setV_eq (ρ y).cells.toList xs off (by simp; omega)] at hrun
    obtain ⟨hi', he⟩ := hi.write (w' := w.setRow nb (setV xs off (ρ y).cells.toList).toArray) b nb hnb ⟨_, hb, by intro e; subst e; simp [Blk.csq] at hB⟩ (B.putc (setL cs off v.cells))
      (fun w1 g' he => by
        have e1 : (w.setRow nb (setV xs off (ρ y).cells.toList).toArray).heap[nb]? = some (.cells (setV xs off (ρ y).cells.toList).toArray e (0, 0)) := by simp [World.setRow, Array.getElem?_modify, g1]
        rw [e1]
        exact g5 _ _ _ _ (RelL.evo _ he (g2.setL off c1)) (mem_setV _ _ _ _ g3 c2))
      (fun m hm => by simp [World.setRow, Array.getElem?_modify, Ne.symm hm])
      (by simp [World.setRow]) rfl rfl rfl
    refine ⟨_, _, g, Go.undef, _, h, hi', he, by simp [Rel], .inr ⟨?_, rfl⟩⟩
    simp [execOp, hop, hx, Instr.storeAt, Instr.sureAddr, storeVar, run_sizeOf hs, hvs, hrun]
  case gp tt m off =>
    obtain ⟨k, cs, hb, hvl, hval, hn, hl, h⟩ := h
    obtain ⟨b, _, xs, hx, g2, g3, g4, T, ys, e, hT, hTb, hTl, g1, hxs, hTk, hcap, hsz⟩ := gp_cells hi hb hvl ha (by omega)
    obtain ⟨c1, c2⟩ := hv.cells hval
    have hlen := g2.length
    have hvs : (ρ y).cells.size = n := by rw [hv.cells_size hval, hn]
    have hle : T.len * T.k ≤ ys.size := by rw [hsz]; exact Nat.mul_le_mul_right _ hcap
    have hrun := run_storeCells_at (P := P) b off e (ρ y).cells.toList 0 ys w g1 (by simp; omega) c2
    simp only [Nat.add_zero] at hrun
    rw [← setV_eq (ρ y).cells.toList ys.toList off (by simp; omega)] at hrun
    have hw1 : (w.setRow b (setV ys.toList off (ρ y).cells.toList).toArray).heap[b]? = some (.cells (setV ys.toList off (ρ y).cells.toList).toArray e (0, 0)) := by
      simp [World.setRow, Array.getElem?_modify, g1]
    have hw2 : ∀ m, m ≠ b → (w.setRow b (setV ys.toList off (ρ y).cells.toList).toArray).heap[m]? = w.heap[m]? := fun m hm => by
      simp [World.setRow, Array.getElem?_modify, Ne.symm hm]
    obtain ⟨hi', he⟩ := hi.writeTok (V' := .chg k (setL cs off v.cells)) hT hb hTb g1 hw1 hw2 (by simp [World.setRow]) rfl rfl rfl (by simp [setV_length, hsz]) (mem_setV _ _ _ _ (((hi.heap.tok T (List.mem_of_getElem? hT)).2.2 b hTb).2.2.2.elim fun zs hz => by
        obtain ⟨e', q1, _, q3⟩ := hz; rw [g1] at q1; cases q1; exact q3) c2)
      (fun g' he' => ⟨hTk.symm, by rw [setL_length]; exact hTl.symm, by
        rw [List.toList_toArray, setV_take _ _ _ (by simp; omega), ← hxs]
        exact RelL.evo _ he' (g2.setL off c1)⟩)
    refine ⟨_, _, g, Go.undef, _, h, hi', he, by simp [Rel], .inr ⟨?_, rfl⟩⟩
    simp [execOp, hop, hx, Instr.storeAt, Instr.sureAddr, storeVar, run_sizeOf hs, hvs, hrun]
end
end GoV
