/- The engine, part c: laws on the relation between data values and values. Own work; no program in sight. -/
import Derived.Test.YtiodnobmnfjdlaaDoorEb
namespace GoV
open Go

theorem Evo.cl {w g w' g'} (h : Evo w g w' g') : Evo w g.cl w' g'.cl :=
  ⟨h.imm, fun _ _ h => by simp [Gh.cl] at h, fun _ _ h => by simp [Gh.cl] at h⟩

theorem Evo.refl (w g) : Evo w g w g :=
  ⟨fun _ _ h => ⟨h, rfl⟩, fun _ _ h => h, fun _ T h => ⟨T, h, rfl, .inl rfl⟩⟩

theorem Evo.trans {w g w1 g1 w2 g2} (h : Evo w g w1 g1) (k : Evo w1 g1 w2 g2) : Evo w g w2 g2 := by
  refine ⟨fun b o hi => ?_, fun b n hb => k.ref b n (h.ref b n hb), fun t T ht => ?_⟩
  · obtain ⟨i1, c1⟩ := h.imm b o hi
    obtain ⟨i2, c2⟩ := k.imm b o i1
    exact ⟨i2, c2.trans c1⟩
  · obtain ⟨T1, e1, k1, o1⟩ := h.tok t T ht
    obtain ⟨T2, e2, k2, o2⟩ := k.tok t T1 e1
    refine ⟨T2, e2, k2.trans k1, ?_⟩
    rcases o1 with rfl | o1 <;> rcases o2 with rfl | o2
    · exact .inl rfl
    · exact .inr o2
    · exact .inr o1
    · exact .inr (Nat.lt_trans o1 o2)

theorem At.evo {w I w' I' a ys} (h : At w I a ys) (he : ∀ b o, I b o → I' b o ∧ w'.cell? ⟨b, o, none⟩ = w.cell? ⟨b, o, none⟩) : At w' I' a ys := by
  refine ⟨h.1, fun j y hj => ?_⟩
  obtain ⟨c, i, o⟩ := h.2 j y hj
  obtain ⟨i', c'⟩ := he _ _ i
  exact ⟨c'.trans c, i', o⟩

theorem OwnOk.evo {own tk tk' len x cap k} (h : OwnOk own tk len x cap k)
    (ht : ∀ (t : Nat) (T : Tk), tk[t]? = some T → ∃ T', tk'[t]? = some T' ∧ T'.k = T.k ∧ (T' = T ∨ T.len < T'.len)) : OwnOk own tk' len x cap k := by
  cases own with
  | no => trivial
  | full => exact h
  | tok t =>
    obtain ⟨T, h1, h2, h3, h4⟩ := h
    obtain ⟨T', g1, g2, g3⟩ := ht t T h1
    refine ⟨T', g1, h2.trans g2.symm, ?_, fun hl => ?_⟩
    · rcases g3 with rfl | g3
      · exact h3
      · omega
    · rcases g3 with rfl | g3
      · exact h4 hl
      · omega

mutual
theorem Rel.evo {w w'} : ∀ (d : D) {g g' : Gh} {x : Value}, Evo w g w' g' → Rel w g d x → Rel w' g' d x
  | .undef, _, _, _, _, _ => by simp [Rel]
  | .skip, _, _, _, _, h => by simpa [Rel] using h
  | .int _ _, _, _, _, _, h => by simpa [Rel] using h
  | .bool _, _, _, _, _, h => by simpa [Rel] using h
  | .str _, _, _, _, _, h => by simpa [Rel] using h
  | .lit _, _, _, _, _, h => by simpa [Rel] using h
  | .slice es own, _, _, _, he, h => by
    simp only [Rel] at h ⊢
    obtain ⟨a, cap, k, xs, h1, h2, h3, h4, h5, h6⟩ := h
    exact ⟨a, cap, k, xs, h1, h2, RelL.evo es he.cl h3, h4, h5.evo he.imm, h6.evo he.tok⟩
  | .agg cs, _, _, _, he, h => by
    simp only [Rel] at h ⊢
    obtain ⟨xs, h1, h2, h3⟩ := h
    exact ⟨xs, h1, RelL.evo cs he h2, h3⟩
  | .tup vs, _, _, _, he, h => by
    simp only [Rel] at h ⊢
    obtain ⟨xs, h1, h2⟩ := h
    exact ⟨xs, h1, RelL.evo vs he h2⟩
  | .iface t d, _, _, _, he, h => by
    simp only [Rel] at h ⊢
    obtain ⟨y, h1, h2⟩ := h
    exact ⟨y, h1, Rel.evo d he h2⟩
  | .fn f a c, _, _, _, he, h => by
    simp only [Rel] at h ⊢
    obtain ⟨xs, ys, h1, h2, h3⟩ := h
    exact ⟨xs, ys, h1, RelL.evo a he h2, RelL.evo c he h3⟩
  | .ptr b off, _, _, _, he, h => by
    simp only [Rel] at h ⊢
    obtain ⟨n, h1, h2⟩ := h
    exact ⟨n, he.ref b n h1, h2⟩
  | .ip cs, _, _, _, he, h => by
    simp only [Rel] at h ⊢
    obtain ⟨a, xs, h1, h2, h3⟩ := h
    exact ⟨a, xs, h1, RelL.evo cs he.cl h2, h3.evo he.imm⟩
  | .sl b k off len cap, _, _, _, he, h => by
    simp only [Rel] at h ⊢
    obtain ⟨n, o, h1, h2, h3⟩ := h
    exact ⟨n, o, he.ref b n h1, h2, h3⟩
  | .gs t n, _, _, _, he, h => by
    simp only [Rel] at h ⊢
    obtain ⟨a, cap, T, h1, h0, h2, h3, h4⟩ := h
    obtain ⟨T', g1, g2, g3⟩ := he.tok t T h2
    refine ⟨a, cap, T', h1, h0, g1, ?_, fun e => ?_⟩
    · rcases g3 with rfl | g3
      · exact h3
      · omega
    · rcases g3 with rfl | g3
      · exact h4 e
      · omega
  | .gp t n off, _, _, _, he, h => by
    simp only [Rel] at h ⊢
    obtain ⟨a, T, h1, h2, h3, h4⟩ := h
    obtain ⟨T', g1, g2, g3⟩ := he.tok t T h2
    refine ⟨a, T', h1, g1, ?_, fun e => ?_⟩
    · rcases g3 with rfl | g3
      · exact h3
      · omega
    · rcases g3 with rfl | g3
      · exact h4 e
      · omega
  | .mp b, _, _, _, he, h => by
    simp only [Rel] at h ⊢
    obtain ⟨n, h1, h2⟩ := h
    exact ⟨n, he.ref b n h1, h2⟩
theorem RelL.evo {w w'} : ∀ (ds : List D) {g g' : Gh} {xs : List Value}, Evo w g w' g' → RelL w g ds xs → RelL w' g' ds xs
  | [], _, _, _, _, h => by simpa [RelL] using h
  | d :: ds, _, _, _, he, h => by
    simp only [RelL] at h ⊢
    obtain ⟨y, ys, h1, h2, h3⟩ := h
    exact ⟨y, ys, h1, Rel.evo d he h2, RelL.evo ds he h3⟩
end

theorem Evo.same {w : World} {g g' : Gh} (hI : g'.I = g.I) (hr : ∀ (b n : Nat), g.r[b]? = some n → g'.r[b]? = some n) (ht : ∀ (t : Nat) (T : Tk), g.tk[t]? = some T → g'.tk[t]? = some T) : Evo w g w g' :=
  ⟨fun b o h => ⟨by rw [hI]; exact h, rfl⟩, hr, fun t T h => ⟨T, ht t T h, rfl, .inl rfl⟩⟩

/-- Closed data: whatever stands behind the numbers. -/
theorem Rel.any {w g d x} (h : Rel w g.cl d x) : Rel w g d x :=
  Rel.evo d (g := g.cl) (g' := g) (Evo.same rfl (by simp [Gh.cl]) (by simp [Gh.cl])) h
theorem RelL.any {w g ds xs} (h : RelL w g.cl ds xs) : RelL w g ds xs :=
  RelL.evo ds (g := g.cl) (g' := g) (Evo.same rfl (by simp [Gh.cl]) (by simp [Gh.cl])) h

/-- How numbers may be changed. -/
structure Ren (β τ : Nat → Option Nat) (g g' : Gh) : Prop where
  I : g'.I = g.I
  r : ∀ b b' n : Nat, β b = some b' → g.r[b]? = some n → g'.r[b']? = some n
  t : ∀ (t t' : Nat) (T : Tk), τ t = some t' → g.tk[t]? = some T → g'.tk[t']? = some T

mutual
theorem Rel.rn {w β τ} : ∀ (d : D) {g g' : Gh} {x : Value}, Ren β τ g g' → Rel w g d x → Rel w g' (d.rn β τ) x
  | .undef, _, _, _, _, _ => by simp [Rel, D.rn]
  | .skip, _, _, _, _, h => by simpa [Rel, D.rn] using h
  | .int _ _, _, _, _, _, h => by simpa [Rel, D.rn] using h
  | .bool _, _, _, _, _, h => by simpa [Rel, D.rn] using h
  | .str _, _, _, _, _, h => by simpa [Rel, D.rn] using h
  | .lit _, _, _, _, _, h => by simpa [Rel, D.rn] using h
  | .slice es own, g, g', x, he, h => by
    simp only [Rel, D.rn] at h ⊢
    obtain ⟨a, cap, k, xs, h1, h2, h3, h4, h5, h6⟩ := h
    have hc : g'.cl = g.cl := by simp [Gh.cl, he.I]
    refine ⟨a, cap, k, xs, h1, h2, by rw [hc]; exact h3, h4, by rw [he.I]; exact h5, ?_⟩
    cases own with
    | no => trivial
    | full => exact h6
    | tok t =>
      simp only [Own.rn]
      cases ht : τ t with
      | none => trivial
      | some u =>
        obtain ⟨T, k1, k2⟩ := h6
        exact ⟨T, he.t t u T ht k1, k2⟩
  | .agg cs, _, _, _, he, h => by
    simp only [Rel, D.rn] at h ⊢
    obtain ⟨xs, h1, h2, h3⟩ := h
    exact ⟨xs, h1, RelL.rn cs he h2, h3⟩
  | .tup vs, _, _, _, he, h => by
    simp only [Rel, D.rn] at h ⊢
    obtain ⟨xs, h1, h2⟩ := h
    exact ⟨xs, h1, RelL.rn vs he h2⟩
  | .iface t d, _, _, _, he, h => by
    simp only [Rel, D.rn] at h ⊢
    obtain ⟨y, h1, h2⟩ := h
    exact ⟨y, h1, Rel.rn d he h2⟩
  | .fn f a c, _, _, _, he, h => by
    simp only [Rel, D.rn] at h ⊢
    obtain ⟨xs, ys, h1, h2, h3⟩ := h
    exact ⟨xs, ys, h1, RelL.rn a he h2, RelL.rn c he h3⟩
  | .ptr b off, _, _, _, he, h => by
    simp only [Rel, D.rn] at h ⊢
    obtain ⟨n, h1, h2⟩ := h
    cases hb : β b with
    | none => simp [Rel]
    | some c => simp only [Rel]; exact ⟨n, he.r b c n hb h1, h2⟩
  | .ip cs, g, g', x, he, h => by
    simp only [Rel, D.rn] at h ⊢
    have hc : g'.cl = g.cl := by simp [Gh.cl, he.I]
    rw [hc, he.I]; exact h
  | .sl b k off len cap, _, _, _, he, h => by
    simp only [Rel, D.rn] at h ⊢
    obtain ⟨n, o, h1, h2, h3⟩ := h
    cases hb : β b with
    | none => simp [Rel]
    | some c => simp only [Rel]; exact ⟨n, o, he.r b c n hb h1, h2, h3⟩
  | .gs t n, _, _, _, he, h => by
    simp only [Rel, D.rn] at h ⊢
    obtain ⟨a, cap, T, h1, h0, h2, h3⟩ := h
    cases ht : τ t with
    | none => simp [Rel]
    | some u => simp only [Rel]; exact ⟨a, cap, T, h1, h0, he.t t u T ht h2, h3⟩
  | .gp t n off, _, _, _, he, h => by
    simp only [Rel, D.rn] at h ⊢
    obtain ⟨a, T, h1, h2, h3⟩ := h
    cases ht : τ t with
    | none => simp [Rel]
    | some u => simp only [Rel]; exact ⟨a, T, h1, he.t t u T ht h2, h3⟩
  | .mp b, _, _, _, he, h => by
    simp only [Rel, D.rn] at h ⊢
    obtain ⟨n, h1, h2⟩ := h
    cases hb : β b with
    | none => simp [Rel]
    | some c => simp only [Rel]; exact ⟨n, he.r b c n hb h1, h2⟩
theorem RelL.rn {w β τ} : ∀ (ds : List D) {g g' : Gh} {xs : List Value}, Ren β τ g g' → RelL w g ds xs → RelL w g' (D.rnL β τ ds) xs
  | [], _, _, _, _, h => by simpa [RelL, D.rnL] using h
  | d :: ds, _, _, _, he, h => by
    simp only [RelL, D.rnL] at h ⊢
    obtain ⟨y, ys, h1, h2, h3⟩ := h
    exact ⟨y, ys, h1, Rel.rn d he h2, RelL.rn ds he h3⟩
end

mutual
theorem Rel.closed {w} : ∀ (d : D) {g : Gh} {x : Value}, d.closed = true → Rel w g d x → Rel w g.cl d.er x
  | .undef, _, _, _, _ => by simp [Rel, D.er]
  | .skip, _, _, _, h => by simpa [Rel, D.er] using h
  | .int _ _, _, _, _, h => by simpa [Rel, D.er] using h
  | .bool _, _, _, _, h => by simpa [Rel, D.er] using h
  | .str _, _, _, _, h => by simpa [Rel, D.er] using h
  | .lit _, _, _, _, h => by simpa [Rel, D.er] using h
  | .slice es own, _, _, _, h => by
    simp only [Rel, D.er] at h ⊢
    obtain ⟨a, cap, k, xs, h1, h2, h3, h4, h5, h6⟩ := h
    exact ⟨a, cap, k, xs, h1, h2, h3, h4, h5, trivial⟩
  | .agg cs, _, _, hc, h => by
    simp only [Rel, D.er, D.closed] at h hc ⊢
    obtain ⟨xs, h1, h2, h3⟩ := h
    exact ⟨xs, h1, RelL.closed cs hc h2, h3⟩
  | .tup vs, _, _, hc, h => by
    simp only [Rel, D.er, D.closed] at h hc ⊢
    obtain ⟨xs, h1, h2⟩ := h
    exact ⟨xs, h1, RelL.closed vs hc h2⟩
  | .iface t d, _, _, hc, h => by
    simp only [Rel, D.er, D.closed] at h hc ⊢
    obtain ⟨y, h1, h2⟩ := h
    exact ⟨y, h1, Rel.closed d hc h2⟩
  | .fn f a c, _, _, hc, h => by
    simp only [Rel, D.er, D.closed, Bool.and_eq_true] at h hc ⊢
    obtain ⟨xs, ys, h1, h2, h3⟩ := h
    exact ⟨xs, ys, h1, RelL.closed a hc.1 h2, RelL.closed c hc.2 h3⟩
  | .ptr b off, _, _, hc, h => by simp [D.closed] at hc
  | .ip cs, _, _, _, h => by simpa [Rel, D.er, Gh.cl] using h
  | .sl b k off len cap, _, _, hc, h => by simp [D.closed] at hc
  | .gs t n, _, _, hc, h => by simp [D.closed] at hc
  | .gp t n off, _, _, hc, h => by simp [D.closed] at hc
  | .mp b, _, _, hc, h => by simp [D.closed] at hc
theorem RelL.closed {w} : ∀ (ds : List D) {g : Gh} {xs : List Value}, D.closedL ds = true → RelL w g ds xs → RelL w g.cl (D.erL ds) xs
  | [], _, _, _, h => by simpa [RelL, D.erL] using h
  | d :: ds, _, _, hc, h => by
    simp only [RelL, D.erL, D.closedL, Bool.and_eq_true] at h hc ⊢
    obtain ⟨y, ys, h1, h2, h3⟩ := h
    exact ⟨y, ys, h1, Rel.closed d hc.1 h2, RelL.closed ds hc.2 h3⟩
end

section lists
variable {w : World} {g : Gh} {I : Nat → Nat → Prop}

theorem RelL.nil : RelL w g [] [] := by simp [RelL]
theorem RelL.cons {d ds x xs} (h : Rel w g d x) (hs : RelL w g ds xs) : RelL w g (d :: ds) (x :: xs) := by
  simp only [RelL]; exact ⟨x, xs, rfl, h, hs⟩
theorem RelL.one {d x} (h : Rel w g d x) : RelL w g [d] [x] := RelL.cons h RelL.nil
theorem RelL.inv_nil {xs} (h : RelL w g [] xs) : xs = [] := by simpa [RelL] using h
theorem RelL.inv {d ds xs} (h : RelL w g (d :: ds) xs) : ∃ y ys, xs = y :: ys ∧ Rel w g d y ∧ RelL w g ds ys := by
  simpa [RelL] using h

theorem RelL.length : ∀ {ds : List D} {xs : List Value}, RelL w g ds xs → xs.length = ds.length
  | [], xs, h => by rw [h.inv_nil]; rfl
  | d :: ds, xs, h => by
    obtain ⟨y, ys, rfl, _, h2⟩ := h.inv
    simp [RelL.length h2]

theorem RelL.get : ∀ {ds : List D} {xs : List Value} {i : Nat} {d : D}, RelL w g ds xs → ds[i]? = some d → ∃ x, xs[i]? = some x ∧ Rel w g d x
  | [], _, _, _, _, e => by simp at e
  | d :: ds, xs, 0, _, h, e => by
    obtain ⟨y, ys, rfl, h1, _⟩ := h.inv
    simp at e; subst e; exact ⟨y, by simp, h1⟩
  | d :: ds, xs, i + 1, d', h, e => by
    obtain ⟨y, ys, rfl, _, h2⟩ := h.inv
    obtain ⟨x, e1, e2⟩ := RelL.get (i := i) h2 (by simpa using e)
    exact ⟨x, by simpa using e1, e2⟩

theorem RelL.get' {ds : List D} {xs : List Value} {i : Nat} {x : Value} (h : RelL w g ds xs) (e : xs[i]? = some x) : ∃ d, ds[i]? = some d ∧ Rel w g d x := by
  have hl : i < ds.length := by
    rw [← h.length]
    rcases Nat.lt_or_ge i xs.length with g | g
    · exact g
    · rw [List.getElem?_eq_none g] at e; cases e
  obtain ⟨y, e1, e2⟩ := h.get (List.getElem?_eq_getElem hl)
  rw [e1] at e; cases e
  exact ⟨_, List.getElem?_eq_getElem hl, e2⟩

theorem RelL.getD {ds : List D} {xs : List Value} {i : Nat} {x : Value} (h : RelL w g ds xs) (e : xs[i]? = some x) : Rel w g (ds.getD i .undef) x := by
  obtain ⟨d, e1, e2⟩ := h.get' e
  simpa [List.getD, e1] using e2

theorem RelL.append : ∀ {ds es : List D} {xs ys : List Value}, RelL w g ds xs → RelL w g es ys → RelL w g (ds ++ es) (xs ++ ys)
  | [], _, _, _, h, g => by rw [h.inv_nil]; exact g
  | d :: ds, es, xs, ys, h, g => by
    obtain ⟨y, zs, rfl, h1, h2⟩ := h.inv
    exact RelL.cons h1 (RelL.append h2 g)

theorem RelL.take : ∀ {ds : List D} {xs : List Value} (n : Nat), RelL w g ds xs → RelL w g (ds.take n) (xs.take n)
  | [], _, _, h => by rw [h.inv_nil]; simp [RelL.nil]
  | d :: ds, _, 0, _ => by simp [RelL.nil]
  | d :: ds, _, n + 1, h => by
    obtain ⟨y, zs, rfl, h1, h2⟩ := h.inv
    exact RelL.cons h1 (RelL.take n h2)

theorem RelL.drop : ∀ {ds : List D} {xs : List Value} (n : Nat), RelL w g ds xs → RelL w g (ds.drop n) (xs.drop n)
  | [], _, _, h => by rw [h.inv_nil]; simp [RelL.nil]
  | d :: ds, _, 0, h => by simpa using h
  | d :: ds, _, n + 1, h => by
    obtain ⟨y, zs, rfl, h1, h2⟩ := h.inv
    simpa using RelL.drop n h2

theorem RelL.set : ∀ {ds : List D} {xs : List Value} (i : Nat) {d x}, RelL w g ds xs → Rel w g d x → RelL w g (ds.set i d) (xs.set i x)
  | [], _, _, _, _, h, _ => by rw [h.inv_nil]; simp [RelL.nil]
  | d :: ds, _, 0, _, _, h, g => by
    obtain ⟨y, zs, rfl, h1, h2⟩ := h.inv
    exact RelL.cons g h2
  | d :: ds, _, n + 1, _, _, h, g => by
    obtain ⟨y, zs, rfl, h1, h2⟩ := h.inv
    exact RelL.cons h1 (RelL.set n h2 g)

/-- Replaces values from a place on. -/
def setV (cs : List Value) (off : Nat) : List Value → List Value
  | [] => cs
  | d :: ds => setV (cs.set off d) (off + 1) ds

theorem setV_length : ∀ (ys cs : List Value) (off : Nat), (setV cs off ys).length = cs.length
  | [], _, _ => rfl
  | y :: ys, cs, off => by simp [setV, setV_length ys]

theorem setL_length : ∀ (ys cs : List D) (off : Nat), (setL cs off ys).length = cs.length
  | [], _, _ => rfl
  | y :: ys, cs, off => by simp [setL, setL_length ys]

theorem setV_eq : ∀ (ys cs : List Value) (off : Nat), off + ys.length ≤ cs.length → setV cs off ys = cs.take off ++ ys ++ cs.drop (off + ys.length)
  | [], cs, off, _ => by simp [setV]
  | y :: ys, cs, off, h => by
    simp at h
    rw [setV, setV_eq ys _ _ (by simp; omega)]
    exact list_seg_step cs off y ys (by omega)

theorem RelL.setL : ∀ {es : List D} {ys : List Value} {ds : List D} {xs : List Value} (off : Nat), RelL w g ds xs → RelL w g es ys → RelL w g (setL ds off es) (setV xs off ys)
  | [], _, _, _, _, h, g => by rw [g.inv_nil]; exact h
  | e :: es, _, ds, xs, off, h, g => by
    obtain ⟨y, zs, rfl, h1, h2⟩ := g.inv
    exact RelL.setL (off + 1) (h.set off h1) h2

theorem mem_setV : ∀ (ys cs : List Value) (off : Nat) (p : Value → Prop), (∀ x ∈ cs, p x) → (∀ y ∈ ys, p y) → ∀ z ∈ setV cs off ys, p z
  | [], _, _, _, h, _ => h
  | y :: ys, cs, off, p, h, g => by
    refine mem_setV ys _ _ p (fun x hx => ?_) (fun z hz => g z (by simp [hz]))
    rcases List.mem_or_eq_of_mem_set hx with h1 | h1
    · exact h x h1
    · rw [h1]; exact g y (by simp)

/-- The cells of a value stand for the cells of its data value. -/
theorem Rel.cells {d : D} {x : Value} (hv : d.isVal = true) (h : Rel w g d x) : RelL w g d.cells x.cells.toList ∧ ∀ y ∈ x.cells.toList, oneC y := by
  cases d with
  | undef => simp [D.isVal] at hv
  | skip => simp [D.isVal] at hv
  | tup vs => simp [D.isVal] at hv
  | agg cs =>
    simp only [Rel] at h
    obtain ⟨xs, rfl, h2, h3⟩ := h
    simpa [D.cells, Value.cells] using ⟨h2, h3⟩
  | int k n => simp only [Rel] at h; subst h; exact ⟨RelL.one (by simp [Rel]), by simp [Value.cells, oneC, Value.oneCell']⟩
  | bool k => simp only [Rel] at h; subst h; exact ⟨RelL.one (by simp [Rel]), by simp [Value.cells, oneC, Value.oneCell']⟩
  | str k => simp only [Rel] at h; subst h; exact ⟨RelL.one (by simp [Rel]), by simp [Value.cells, oneC, Value.oneCell']⟩
  | lit v =>
    have h0 := h
    simp only [Rel] at h; obtain ⟨rfl, h1⟩ := h
    have hc : x.cells = #[x] := by cases x <;> first | rfl | simp [Value.oneCell'] at h1
    rw [hc]; exact ⟨RelL.one h0, by simpa [oneC] using h1⟩
  | slice es own =>
    have h0 := h
    simp only [Rel] at h; obtain ⟨a, cap, k, xs, h | ⟨h, _⟩, _⟩ := h <;> subst h <;> exact ⟨RelL.one h0, by simp [Value.cells, oneC, Value.oneCell']⟩
  | sl b k off len cap =>
    have h0 := h
    simp only [Rel] at h; obtain ⟨n, o, _, rfl, _⟩ := h
    exact ⟨RelL.one h0, by simp [Value.cells, oneC, Value.oneCell']⟩
  | gs t n =>
    have h0 := h
    simp only [Rel] at h; obtain ⟨a, cap, T, rfl, _⟩ := h
    exact ⟨RelL.one h0, by simp [Value.cells, oneC, Value.oneCell']⟩
  | gp t n off =>
    have h0 := h
    simp only [Rel] at h; obtain ⟨a, T, rfl, _⟩ := h
    exact ⟨RelL.one h0, by simp [Value.cells, oneC, Value.oneCell']⟩
  | mp b =>
    have h0 := h
    simp only [Rel] at h; obtain ⟨n, _, rfl⟩ := h
    exact ⟨RelL.one h0, by simp [Value.cells, oneC, Value.oneCell']⟩
  | iface t d =>
    have h0 := h
    simp only [Rel] at h; obtain ⟨y, rfl, _⟩ := h
    exact ⟨RelL.one h0, by simp [Value.cells, oneC, Value.oneCell']⟩
  | fn f a c =>
    have h0 := h
    simp only [Rel] at h; obtain ⟨xs, ys, rfl, _⟩ := h
    exact ⟨RelL.one h0, by simp [Value.cells, oneC, Value.oneCell']⟩
  | ptr b off =>
    have h0 := h
    simp only [Rel] at h; obtain ⟨n, _, rfl⟩ := h
    exact ⟨RelL.one h0, by simp [Value.cells, oneC, Value.oneCell']⟩
  | ip cs =>
    have h0 := h
    simp only [Rel] at h; obtain ⟨a, xs, rfl, _⟩ := h
    exact ⟨RelL.one h0, by simp [Value.cells, oneC, Value.oneCell']⟩

theorem Rel.cells_size {d : D} {x : Value} (hv : d.isVal = true) (h : Rel w g d x) : x.cells.size = d.cells.length := by
  have := (h.cells hv).1.length
  simpa using this

theorem At.drop {a : Addr} {ys : List Value} (h : At w I a ys) (n : Nat) : At w I ⟨a.block, a.off + n, none⟩ (ys.drop n) := by
  refine ⟨fun _ => rfl, fun j y hj => ?_⟩
  have := h.2 (n + j) y (by simpa using hj)
  simpa [Nat.add_assoc] using this

theorem At.take {a : Addr} {ys : List Value} (h : At w I a ys) (n : Nat) : At w I a (ys.take n) := by
  refine ⟨fun q => h.1 fun e => q (by rw [e]; simp), fun j y hj => h.2 j y ?_⟩
  rw [List.getElem?_take] at hj
  split at hj
  · exact hj
  · cases hj

theorem add_eq (a : Addr) (h : a.spot = none) (n : Nat) : a.add n = ⟨a.block, a.off + n, none⟩ := by
  obtain ⟨b, o, s⟩ := a
  simp at h; subst h
  exact Addr.add_lit b o n

theorem At.nil {a : Addr} : At w I a [] := ⟨fun h => absurd rfl h, fun j y hj => by simp at hj⟩

theorem At.add {a : Addr} {ys : List Value} (h : At w I a ys) (n : Nat) : At w I (a.add n) (ys.drop n) := by
  by_cases e : ys = []
  · subst e; rw [List.drop_nil]; exact At.nil
  · rw [add_eq a (h.1 e)]; exact h.drop n

theorem flat_length : ∀ (xs : List Value) (k : Nat), (∀ y ∈ xs, y.cells.size = k) → (flat xs).length = xs.length * k
  | [], k, _ => by simp [flat]
  | x :: xs, k, h => by
    simp only [flat, List.length_append, Array.length_toList, List.length_cons]
    rw [flat_length xs k (fun y hy => h y (by simp [hy])), h x (by simp), Nat.add_mul]; omega

theorem flat_drop : ∀ (xs : List Value) (k i : Nat), (∀ y ∈ xs, y.cells.size = k) → (flat xs).drop (i * k) = flat (xs.drop i)
  | xs, k, 0, _ => by simp
  | [], k, i + 1, _ => by simp [flat]
  | x :: xs, k, i + 1, h => by
    simp only [flat, List.drop_succ_cons]
    have hx : x.cells.toList.length = k := by simpa using h x (by simp)
    rw [← flat_drop xs k i (fun y hy => h y (by simp [hy]))]
    rw [show (i + 1) * k = x.cells.toList.length + i * k by rw [Nat.add_mul]; omega, List.drop_length_add_append]

theorem flat_append : ∀ (xs ys : List Value), flat (xs ++ ys) = flat xs ++ flat ys
  | [], _ => rfl
  | x :: xs, ys => by simp [flat, flat_append xs ys]

theorem flat_take (xs : List Value) (k i : Nat) (h : ∀ y ∈ xs, y.cells.size = k) (hi : i ≤ xs.length) : (flat xs).take (i * k) = flat (xs.take i) := by
  have e : flat xs = flat (xs.take i) ++ flat (xs.drop i) := by rw [← flat_append, List.take_append_drop]
  have hl : (flat (xs.take i)).length = i * k := by
    rw [flat_length _ k (fun y hy => h y (List.mem_of_mem_take hy))]; simp [Nat.min_eq_left hi]
  rw [e, ← hl]; simp

/-- An element of an immutable slice. -/
theorem flat_at {a : Addr} {xs : List Value} {k i : Nat} {x : Value} (h : At w I a (flat xs)) (hk : ∀ y ∈ xs, y.cells.size = k) (hi : xs[i]? = some x) :
    At w I (a.add (i * k)) x.cells.toList := by
  have h1 := h.add (i * k)
  rw [flat_drop xs k i hk] at h1
  have hl : i < xs.length := by
    rcases Nat.lt_or_ge i xs.length with g | g
    · exact g
    · rw [List.getElem?_eq_none g] at hi; cases hi
  have e : xs.drop i = x :: xs.drop (i + 1) := by
    rw [List.drop_eq_getElem_cons hl]
    rw [List.getElem?_eq_getElem hl] at hi
    cases hi; rfl
  rw [e] at h1
  have h2 := h1.take x.cells.toList.length
  simpa [flat] using h2
end lists

end GoV
