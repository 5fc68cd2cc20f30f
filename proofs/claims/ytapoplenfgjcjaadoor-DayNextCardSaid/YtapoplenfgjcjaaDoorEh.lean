/- The engine, part h: single operations that do not call are sound, continued. Own work; no program in sight. -/
import Derived.Test.YtapoplenfgjcjaaDoorEg
set_option linter.unusedSimpArgs false
namespace GoV
open Go

section
variable {P : Program} {ρ : Operand → Value} {o : Oper} {w0 : World} {r0 : List Nat} {I0 : Nat → Nat → Prop} {hp : Hp} {rn : List Nat} {tk : List Tk} {I : Nat → Nat → Prop} {w : World} {K : D → Hp → Prop}

theorem foldl_set : ∀ (vs : List Value) (cs : Array Value) (n off : Nat),
    ((vs.zipIdx n).foldl (fun cs (p : Value × Nat) => cs.setIfInBounds (off + p.2) p.1) cs).toList = setV cs.toList (off + n) vs
  | [], _, _, _ => rfl
  | v :: vs, cs, n, off => by
    simp only [List.zipIdx_cons, List.foldl_cons, setV]
    rw [foldl_set vs _ (n + 1) off]
    simp [Nat.add_assoc]

theorem fill_sound {place : Nat → Option (Nat × Nat)} {r : List Nat} : ∀ (ps : List (Nat × Nat)) (is : List Nat) (ds : List D) (vs : List Value) (cs cs' : List D) (xs : Array Value),
    fillL cs ps ds = some cs' → is.map place = ps.map some → RelL w I ds r tk vs → RelL w I cs r tk xs.toList → (∀ y ∈ xs.toList, oneC y) →
    ∃ ys, Instr.fill place xs (is.zip vs) = some ys ∧ RelL w I cs' r tk ys.toList ∧ ∀ y ∈ ys.toList, oneC y
  | [], is, ds, vs, cs, cs', xs, hf, hp, hr, hc, ho => by
    cases ds with
    | cons d ds => simp [fillL] at hf
    | nil =>
      simp [fillL] at hf; subst hf
      have : is = [] := by simpa using hp
      subst this
      exact ⟨xs, by simp [Instr.fill], hc, ho⟩
  | (off, n) :: ps, is, ds, vs, cs, cs', xs, hf, hp, hr, hc, ho => by
    cases ds with
    | nil => simp [fillL] at hf
    | cons d ds =>
      cases is with
      | nil => simp at hp
      | cons i is =>
        simp only [List.map_cons, List.cons.injEq] at hp
        obtain ⟨hp1, hp2⟩ := hp
        obtain ⟨v, vs', rfl, hv, hvs⟩ := hr.inv
        simp only [fillL] at hf
        split at hf
        case isFalse => cases hf
        rename_i hc3
        obtain ⟨c1, c2, c3⟩ := hc3
        obtain ⟨g1, g2⟩ := hv.cells c1
        have hsz : v.cells.size = n := by rw [hv.cells_size c1, c2]
        have hlen : cs.length = xs.size := by have := hc.length; simp at this; omega
        have hstep : (v.cells.zipIdx.foldl (fun cs (p : Value × Nat) => cs.setIfInBounds (off + p.2) p.1) xs).toList = setV xs.toList off v.cells.toList := by
          have := foldl_set v.cells.toList xs 0 off
          rw [← Array.foldl_toList]
          simpa using this
        obtain ⟨ys, e1, e2, e3⟩ := fill_sound ps is ds vs' _ cs' (v.cells.zipIdx.foldl (fun cs (p : Value × Nat) => cs.setIfInBounds (off + p.2) p.1) xs) hf hp2 hvs
          (by rw [hstep]; exact hc.setL off g1) (by rw [hstep]; exact mem_setV _ _ _ _ ho g2)
        refine ⟨ys, ?_, e2, e3⟩
        simp only [List.zip_cons_cons, Instr.fill, hp1]
        rw [if_neg (by simp; omega)]
        exact e1

theorem pick_map {ps : List (Nat × Nat)} : ∀ (is : List Nat) (q : List (Nat × Nat)), pick ps is = some q → is.map (fun i => ps.toArray[i]?) = q.map some
  | [], q, h => by simp [pick] at h; subst h; rfl
  | i :: is, q, h => by
    simp only [pick] at h
    split at h
    · rename_i p r h1 h2
      simp at h; subst h
      simpa [h1] using pick_map is r h2
    · cases h

theorem snd_bld {t : TypeId} {parts : Array (Nat × Operand)} {z : List D} {q : List (Nat × Nat)} (hop : o.op = .build t parts) (hz : zeroDs P t = some z)
    (hq : (∃ fs ps, P.underlying t = some (.struct fs) ∧ places P fs.toList = some ps ∧ pick ps (parts.toList.map (·.1)) = some q) ∨
      (∃ n e k, P.underlying t = some (.array n e) ∧ szOf P e = some k ∧ q = parts.toList.map fun p => (p.1 * k, k)))
    (hi : Inv w0 r0 I0 hp rn tk I w) {ds : List D} (hr : RelL w I ds (r0 ++ rn) tk ((parts.toList.map (·.2)).map ρ)) (h : opWp (.bld z q) ds hp K) : Done P ρ o w0 r0 I0 rn tk I w K := by
  simp only [opWp] at h
  obtain ⟨cs, hf, h⟩ := h
  obtain ⟨i, zv, h1, h2, h3⟩ := zeroDs_spec hz
  obtain ⟨g1, g2⟩ := toDs_rel (w := w) (I := I) h3
  have hzip : (parts.map fun (i, x) => (i, ρ x)).toList = (parts.toList.map (·.1)).zip ((parts.toList.map (·.2)).map ρ) := by
    rw [Array.toList_map]
    generalize parts.toList = l
    induction l with
    | nil => rfl
    | cons a l ih => simp [ih]
  have fin : ∀ place, (parts.toList.map (·.1)).map place = q.map some → Instr.fill place zv.cells ((parts.map fun (i, x) => (i, ρ x)).toList) = P.built t ((parts.map fun (i, x) => (i, ρ x)).toList) → Done P ρ o w0 r0 I0 rn tk I w K := by
    intro place hpl hb
    obtain ⟨ys, e1, e2, e3⟩ := fill_sound (w := w) (I := I) (tk := tk) (r := r0 ++ rn) q _ ds _ z cs zv.cells hf hpl hr g1.any g2
    rw [← hzip, hb] at e1
    refine done_val hi h (v := .agg ys) ?_ ?_
    · simp only [Rel]; exact ⟨ys.toList, by simp, e2, e3⟩
    · simp [execOp, hop, run_build w t _ ys e1]
  rcases hq with ⟨fs, ps, hu, hps, hpk⟩ | ⟨n, e, k, hu, hk, rfl⟩
  · refine fin (fun i => ps.toArray[i]?) (pick_map _ _ hpk) ?_
    unfold places at hps
    simp only [Program.built, h1, hu, h2, hps]
  · refine fin (fun i => some (i * k, k)) (by simp) ?_
    unfold szOf at hk
    cases hie : P.info? e with
    | none => simp [hie] at hk
    | some ie => simp [hie] at hk; subst hk; simp only [Program.built, h1, hu, h2, hie]

theorem snd_ld {t : TypeId} {x : Operand} {n : Nat} {d : TypeDesc} (hop : o.op = .load t x) (hs : szOf P t = some n) (hu : P.underlying t = some d)
    (hi : Inv w0 r0 I0 hp rn tk I w) {ds : List D} (hr : RelL w I ds (r0 ++ rn) tk [ρ x]) (h : opWp (.ld (isRowT d) (if isRowT d then n else 1)) ds hp K) : Done P ρ o w0 r0 I0 rn tk I w K := by
  obtain ⟨a, rfl, ha⟩ := list1 (f := ρ) hr
  cases a <;> simp only [opWp] at h
  case ptr b off =>
    obtain ⟨cs, hb, hl, h⟩ := h
    simp only [Rel] at ha
    obtain ⟨nb, hn, hx⟩ := ha
    obtain ⟨xs, e, _, g2, g3, g4⟩ := blk_cells hi hb hn
    have hlen := g2.length
    cases hd : isRowT d <;> simp only [hd, if_true, if_false, Bool.false_eq_true] at h hl
    · have hlt : off < xs.length := by omega
      refine done_val hi h (g2.getD (List.getElem?_eq_getElem hlt)) ?_
      simp [execOp, hop, hx, run_loadAt_one (P := P) hu hd xs[off] nb off (g4 off _ (List.getElem?_eq_getElem hlt))]
    · refine done_val hi h (v := .agg ((xs.drop off).take n).toArray) ?_ ?_
      · simp only [Rel]
        exact ⟨_, rfl, (g2.drop off).take n, fun y hy => g3 y (List.mem_of_mem_drop (List.mem_of_mem_take hy))⟩
      · have hlen2 : ((xs.drop off).take n).length = n := by simp; omega
        have := run_loadAt_row (P := P) (w := w) hu hd ((xs.drop off).take n) (by rw [hlen2]; exact hs) nb off (fun j y hj => by
          rw [List.getElem?_take] at hj
          split at hj
          · rw [List.getElem?_drop] at hj; exact g4 _ _ hj
          · cases hj)
        simp [execOp, hop, hx, this]
  case ip cs =>
    obtain ⟨hl, h⟩ := h
    simp only [Rel] at ha
    obtain ⟨a, xs, hx, g2, g3⟩ := ha
    obtain ⟨ab, ao, as⟩ := a
    have hsp : as = none := g3.1
    subst hsp
    have hlen := g2.length
    cases hd : isRowT d <;> simp only [hd, if_true, if_false, Bool.false_eq_true] at h hl
    · have hlt : 0 < xs.length := by omega
      refine done_val hi h (g2.any.getD (List.getElem?_eq_getElem hlt)) ?_
      have := (g3.2 0 _ (List.getElem?_eq_getElem hlt)).1
      simp [execOp, hop, hx, run_loadAt_one (P := P) hu hd xs[0] ab ao (by simpa using this)]
    · refine done_val hi h (v := .agg (xs.take n).toArray) ?_ ?_
      · simp only [Rel]
        refine ⟨_, rfl, g2.any.take n, fun y hy => ?_⟩
        obtain ⟨j, hj⟩ := List.mem_iff_getElem?.1 (List.mem_of_mem_take hy)
        exact (g3.2 j y hj).2.2
      · have hlen2 : (xs.take n).length = n := by simp; omega
        have := run_loadAt_row (P := P) (w := w) hu hd (xs.take n) (by rw [hlen2]; exact hs) ab ao (fun j y hj => by
          rw [List.getElem?_take] at hj
          split at hj
          · exact (g3.2 _ _ hj).1
          · cases hj)
        simp [execOp, hop, hx, this]

theorem snd_st {t : TypeId} {x y : Operand} {n : Nat} (hop : o.op = .store t x y) (hs : szOf P t = some n)
    (hi : Inv w0 r0 I0 hp rn tk I w) {ds : List D} (hr : RelL w I ds (r0 ++ rn) tk [ρ x, ρ y]) (h : opWp (.st n) ds hp K) : Done P ρ o w0 r0 I0 rn tk I w K := by
  obtain ⟨a, v, rfl, ha, hv⟩ := list2 (f := ρ) hr
  cases a <;> simp only [opWp] at h
  case ptr b off =>
    obtain ⟨cs, hb, hval, hn, hl, h⟩ := h
    simp only [Rel] at ha
    obtain ⟨nb, hnb, hx⟩ := ha
    obtain ⟨xs, e, g1, g2, g3, g4⟩ := blk_cells hi hb hnb
    obtain ⟨c1, c2⟩ := hv.cells hval
    have hlen := g2.length
    have hvs : (ρ y).cells.size = n := by rw [hv.cells_size hval, hn]
    have hblt : b < hp.H.length := by
      rcases Nat.lt_or_ge b hp.H.length with q | q
      · exact q
      · rw [List.getElem?_eq_none q] at hb; cases hb
    have hrun := run_storeCells_at (P := P) nb off e (ρ y).cells.toList 0 xs.toArray w g1 (by simp; omega) c2
    simp only [Nat.add_zero, List.toList_toArray] at hrun
    rw [← setV_eq (ρ y).cells.toList xs off (by simp; omega)] at hrun
    obtain ⟨hi', he⟩ := hi.write (w' := w.setRow nb (setV xs off (ρ y).cells.toList).toArray) b nb hblt hnb (setL cs off v.cells) (setV xs off (ρ y).cells.toList) e
      (by simp [World.setRow, Array.getElem?_modify, g1])
      (fun m hm => by simp [World.setRow, Array.getElem?_modify, Ne.symm hm])
      (by simp [World.setRow]) rfl rfl rfl (g2.setL off c1) (mem_setV _ _ _ _ g3 c2)
    refine ⟨_, _, rn, tk, I, Go.undef, _, h, hi', he, by simp [Rel], .inr ⟨?_, rfl⟩⟩
    simp [execOp, hop, hx, Instr.storeAt, Instr.sureAddr, storeVar, run_sizeOf hs, hvs, hrun]
end
end GoV
