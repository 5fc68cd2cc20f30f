/- The engine, part c: laws on the relation between data values and values. Own work; no program in sight. -/
import Derived.Test.YtapoplenfgjcjaaDoorEb
namespace GoV
open Go

/-- How a world, the immutable cells and the ghost numbers may go on. -/
structure Evo (w : World) (I : Nat → Nat → Prop) (r : List Nat) (tk : List Tk) (w' : World) (I' : Nat → Nat → Prop) (r' : List Nat) (tk' : List Tk) : Prop where
  imm : ∀ b o, I b o → I' b o ∧ w'.cell? ⟨b, o, none⟩ = w.cell? ⟨b, o, none⟩
  ref : ∀ (b n : Nat), r[b]? = some n → r'[b]? = some n
  tok : ∀ (t : Nat) (T : Tk), tk[t]? = some T → ∃ T', tk'[t]? = some T' ∧ T'.k = T.k ∧ (T' = T ∨ T.len < T'.len)

theorem Evo.base {w I r tk w' I' r' tk'} (h : Evo w I r tk w' I' r' tk') : Evo w I [] [] w' I' [] [] :=
  ⟨h.imm, fun _ _ h => by simp at h, fun _ _ h => by simp at h⟩

theorem Evo.refl (w I r tk) : Evo w I r tk w I r tk :=
  ⟨fun _ _ h => ⟨h, rfl⟩, fun _ _ h => h, fun _ T h => ⟨T, h, rfl, .inl rfl⟩⟩

theorem Evo.trans {w I r tk w1 I1 r1 tk1 w2 I2 r2 tk2} (h : Evo w I r tk w1 I1 r1 tk1) (g : Evo w1 I1 r1 tk1 w2 I2 r2 tk2) : Evo w I r tk w2 I2 r2 tk2 := by
  refine ⟨fun b o hi => ?_, fun b n hb => g.ref b n (h.ref b n hb), fun t T ht => ?_⟩
  · obtain ⟨i1, c1⟩ := h.imm b o hi
    obtain ⟨i2, c2⟩ := g.imm b o i1
    exact ⟨i2, c2.trans c1⟩
  · obtain ⟨T1, e1, k1, o1⟩ := h.tok t T ht
    obtain ⟨T2, e2, k2, o2⟩ := g.tok t T1 e1
    refine ⟨T2, e2, k2.trans k1, ?_⟩
    rcases o1 with rfl | o1 <;> rcases o2 with rfl | o2
    · exact .inl rfl
    · exact .inr o2
    · exact .inr o1
    · exact .inr (Nat.lt_trans o1 o2)

theorem At.evo {w I w' I' a ys} (h : At w I a ys) (he : ∀ b o, I b o → I' b o ∧ w'.cell? ⟨b, o, none⟩ = w.cell? ⟨b, o, none⟩) : At w' I' a ys := by
  refine ⟨h.1, fun j y hj => ?_⟩
  obtain ⟨c, i, o⟩ := h.2 j y hj
  obtain ⟨i', c'⟩ := he _ _ i
  exact ⟨c'.trans c, i', o⟩

theorem TokOk.evo {tok tk tk' len a cap k} (h : TokOk tok tk len a cap k)
    (ht : ∀ (t : Nat) (T : Tk), tk[t]? = some T → ∃ T', tk'[t]? = some T' ∧ T'.k = T.k ∧ (T' = T ∨ T.len < T'.len)) : TokOk tok tk' len a cap k := by
  intro t e
  obtain ⟨T, h1, h2, h3, h4⟩ := h t e
  obtain ⟨T', g1, g2, g3⟩ := ht t T h1
  refine ⟨T', g1, h2.trans g2.symm, ?_, fun hl => ?_⟩
  · rcases g3 with rfl | g3
    · exact h3
    · omega
  · rcases g3 with rfl | g3
    · exact h4 hl
    · omega

mutual
theorem Rel.evo {w I w' I'} : ∀ (d : D) {r tk r' tk'} {x : Value}, Evo w I r tk w' I' r' tk' → Rel w I d r tk x → Rel w' I' d r' tk' x
  | .undef, _, _, _, _, _, _, _ => by simp [Rel]
  | .skip, _, _, _, _, _, _, h => by simpa [Rel] using h
  | .int _ _, _, _, _, _, _, _, h => by simpa [Rel] using h
  | .bool _, _, _, _, _, _, _, h => by simpa [Rel] using h
  | .str _, _, _, _, _, _, _, h => by simpa [Rel] using h
  | .lit _, _, _, _, _, _, _, h => by simpa [Rel] using h
  | .slice es tok, _, _, _, _, _, he, h => by
    simp only [Rel] at h ⊢
    obtain ⟨a, cap, k, xs, h1, h2, h3, h4, h5, h6⟩ := h
    exact ⟨a, cap, k, xs, h1, h2, RelL.evo es he.base h3, h4, h5.evo he.imm, h6.evo he.tok⟩
  | .agg cs, _, _, _, _, _, he, h => by
    simp only [Rel] at h ⊢
    obtain ⟨xs, h1, h2, h3⟩ := h
    exact ⟨xs, h1, RelL.evo cs he h2, h3⟩
  | .tup vs, _, _, _, _, _, he, h => by
    simp only [Rel] at h ⊢
    obtain ⟨xs, h1, h2⟩ := h
    exact ⟨xs, h1, RelL.evo vs he h2⟩
  | .iface t d, _, _, _, _, _, he, h => by
    simp only [Rel] at h ⊢
    obtain ⟨y, h1, h2⟩ := h
    exact ⟨y, h1, Rel.evo d he h2⟩
  | .fn f a c, _, _, _, _, _, he, h => by
    simp only [Rel] at h ⊢
    obtain ⟨xs, ys, h1, h2, h3⟩ := h
    exact ⟨xs, ys, h1, RelL.evo a he h2, RelL.evo c he h3⟩
  | .ptr b off, _, _, _, _, _, he, h => by
    simp only [Rel] at h ⊢
    obtain ⟨n, h1, h2⟩ := h
    exact ⟨n, he.ref b n h1, h2⟩
  | .ip cs, _, _, _, _, _, he, h => by
    simp only [Rel] at h ⊢
    obtain ⟨a, xs, h1, h2, h3⟩ := h
    exact ⟨a, xs, h1, RelL.evo cs he.base h2, h3.evo he.imm⟩
theorem RelL.evo {w I w' I'} : ∀ (ds : List D) {r tk r' tk'} {xs : List Value}, Evo w I r tk w' I' r' tk' → RelL w I ds r tk xs → RelL w' I' ds r' tk' xs
  | [], _, _, _, _, _, _, h => by simpa [RelL] using h
  | d :: ds, _, _, _, _, _, he, h => by
    simp only [RelL] at h ⊢
    obtain ⟨y, ys, h1, h2, h3⟩ := h
    exact ⟨y, ys, h1, Rel.evo d he h2, RelL.evo ds he h3⟩
end

/-- Without tokens: more of them do no harm. -/
theorem Rel.tok {w I d r tk x} (h : Rel w I d r [] x) : Rel w I d r tk x :=
  Rel.evo d ⟨fun _ _ h => ⟨h, rfl⟩, fun _ _ h => h, fun _ _ h => by simp at h⟩ h
theorem RelL.tok {w I ds r tk xs} (h : RelL w I ds r [] xs) : RelL w I ds r tk xs :=
  RelL.evo ds ⟨fun _ _ h => ⟨h, rfl⟩, fun _ _ h => h, fun _ _ h => by simp at h⟩ h
/-- Closed data: any ghost numbers. -/
theorem Rel.any {w I d r tk x} (h : Rel w I d [] [] x) : Rel w I d r tk x :=
  Rel.evo d ⟨fun _ _ h => ⟨h, rfl⟩, fun _ _ h => by simp at h, fun _ _ h => by simp at h⟩ h
theorem RelL.any {w I ds r tk xs} (h : RelL w I ds [] [] xs) : RelL w I ds r tk xs :=
  RelL.evo ds ⟨fun _ _ h => ⟨h, rfl⟩, fun _ _ h => by simp at h, fun _ _ h => by simp at h⟩ h

mutual
theorem Rel.er {w I} : ∀ (d : D) {r tk} {x : Value}, Rel w I d r tk x → Rel w I d.er r [] x
  | .undef, _, _, _, _ => by simp [Rel, D.er]
  | .skip, _, _, _, h => by simpa [Rel, D.er] using h
  | .int _ _, _, _, _, h => by simpa [Rel, D.er] using h
  | .bool _, _, _, _, h => by simpa [Rel, D.er] using h
  | .str _, _, _, _, h => by simpa [Rel, D.er] using h
  | .lit _, _, _, _, h => by simpa [Rel, D.er] using h
  | .slice es tok, _, _, _, h => by
    simp only [Rel, D.er] at h ⊢
    obtain ⟨a, cap, k, xs, h1, h2, h3, h4, h5, h6⟩ := h
    exact ⟨a, cap, k, xs, h1, h2, h3, h4, h5, fun _ e => by cases e⟩
  | .agg cs, _, _, _, h => by
    simp only [Rel, D.er] at h ⊢
    obtain ⟨xs, h1, h2, h3⟩ := h
    exact ⟨xs, h1, RelL.er cs h2, h3⟩
  | .tup vs, _, _, _, h => by
    simp only [Rel, D.er] at h ⊢
    obtain ⟨xs, h1, h2⟩ := h
    exact ⟨xs, h1, RelL.er vs h2⟩
  | .iface t d, _, _, _, h => by
    simp only [Rel, D.er] at h ⊢
    obtain ⟨y, h1, h2⟩ := h
    exact ⟨y, h1, Rel.er d h2⟩
  | .fn f a c, _, _, _, h => by
    simp only [Rel, D.er] at h ⊢
    obtain ⟨xs, ys, h1, h2, h3⟩ := h
    exact ⟨xs, ys, h1, RelL.er a h2, RelL.er c h3⟩
  | .ptr b off, _, _, _, h => by simpa [Rel, D.er] using h
  | .ip cs, _, _, _, h => by simpa [Rel, D.er] using h
theorem RelL.er {w I} : ∀ (ds : List D) {r tk} {xs : List Value}, RelL w I ds r tk xs → RelL w I (D.erL ds) r [] xs
  | [], _, _, _, h => by simpa [RelL, D.erL] using h
  | d :: ds, _, _, _, h => by
    simp only [RelL, D.erL] at h ⊢
    obtain ⟨y, ys, h1, h2, h3⟩ := h
    exact ⟨y, ys, h1, Rel.er d h2, RelL.er ds h3⟩
end

mutual
theorem Rel.closed {w I} : ∀ (d : D) {r} {x : Value}, d.closed = true → Rel w I d.er r [] x → Rel w I d.er [] [] x
  | .undef, _, _, _, _ => by simp [Rel, D.er]
  | .skip, _, _, _, h => by simpa [Rel, D.er] using h
  | .int _ _, _, _, _, h => by simpa [Rel, D.er] using h
  | .bool _, _, _, _, h => by simpa [Rel, D.er] using h
  | .str _, _, _, _, h => by simpa [Rel, D.er] using h
  | .lit _, _, _, _, h => by simpa [Rel, D.er] using h
  | .slice es tok, _, _, _, h => by simpa [Rel, D.er] using h
  | .agg cs, _, _, hc, h => by
    simp only [Rel, D.er, D.closed] at h hc ⊢
    obtain ⟨xs, h1, h2, h3⟩ := h
    exact ⟨xs, h1, RelL.closed cs hc h2, h3⟩
  | .tup vs, _, _, hc, h => by
    simp only [Rel, D.er, D.closed] at h hc ⊢
    obtain ⟨xs, h1, h2⟩ := h
    exact ⟨xs, h1, RelL.closed vs hc h2⟩
  | .iface t d, _, _, hc, h => by
    simp only [Rel, D.er, D.closed] at h hc ⊢
    obtain ⟨y, h1, h2⟩ := h
    exact ⟨y, h1, Rel.closed d hc h2⟩
  | .fn f a c, _, _, hc, h => by
    simp only [Rel, D.er, D.closed, Bool.and_eq_true] at h hc ⊢
    obtain ⟨xs, ys, h1, h2, h3⟩ := h
    exact ⟨xs, ys, h1, RelL.closed a hc.1 h2, RelL.closed c hc.2 h3⟩
  | .ptr b off, _, _, hc, h => by simp [D.closed] at hc
  | .ip cs, _, _, _, h => by simpa [Rel, D.er] using h
theorem RelL.closed {w I} : ∀ (ds : List D) {r} {xs : List Value}, D.closedL ds = true → RelL w I (D.erL ds) r [] xs → RelL w I (D.erL ds) [] [] xs
  | [], _, _, _, h => by simpa [RelL, D.erL] using h
  | d :: ds, _, _, hc, h => by
    simp only [RelL, D.erL, D.closedL, Bool.and_eq_true] at h hc ⊢
    obtain ⟨y, ys, h1, h2, h3⟩ := h
    exact ⟨y, ys, h1, Rel.closed d hc.1 h2, RelL.closed ds hc.2 h3⟩
end

section lists
variable {w : World} {I : Nat → Nat → Prop} {r : List Nat} {tk : List Tk}

theorem RelL.nil : RelL w I [] r tk [] := by simp [RelL]
theorem RelL.cons {d ds x xs} (h : Rel w I d r tk x) (hs : RelL w I ds r tk xs) : RelL w I (d :: ds) r tk (x :: xs) := by
  simp only [RelL]; exact ⟨x, xs, rfl, h, hs⟩
theorem RelL.one {d x} (h : Rel w I d r tk x) : RelL w I [d] r tk [x] := RelL.cons h RelL.nil
theorem RelL.inv_nil {xs} (h : RelL w I [] r tk xs) : xs = [] := by simpa [RelL] using h
theorem RelL.inv {d ds xs} (h : RelL w I (d :: ds) r tk xs) : ∃ y ys, xs = y :: ys ∧ Rel w I d r tk y ∧ RelL w I ds r tk ys := by
  simpa [RelL] using h

theorem RelL.length : ∀ {ds : List D} {xs : List Value}, RelL w I ds r tk xs → xs.length = ds.length
  | [], xs, h => by rw [h.inv_nil]; rfl
  | d :: ds, xs, h => by
    obtain ⟨y, ys, rfl, _, h2⟩ := h.inv
    simp [RelL.length h2]

theorem RelL.get : ∀ {ds : List D} {xs : List Value} {i : Nat} {d : D}, RelL w I ds r tk xs → ds[i]? = some d → ∃ x, xs[i]? = some x ∧ Rel w I d r tk x
  | [], _, _, _, _, e => by simp at e
  | d :: ds, xs, 0, _, h, e => by
    obtain ⟨y, ys, rfl, h1, _⟩ := h.inv
    simp at e; subst e; exact ⟨y, by simp, h1⟩
  | d :: ds, xs, i + 1, d', h, e => by
    obtain ⟨y, ys, rfl, _, h2⟩ := h.inv
    obtain ⟨x, e1, e2⟩ := RelL.get (i := i) h2 (by simpa using e)
    exact ⟨x, by simpa using e1, e2⟩

theorem RelL.get' {ds : List D} {xs : List Value} {i : Nat} {x : Value} (h : RelL w I ds r tk xs) (e : xs[i]? = some x) : ∃ d, ds[i]? = some d ∧ Rel w I d r tk x := by
  have hl : i < ds.length := by
    rw [← h.length]
    rcases Nat.lt_or_ge i xs.length with g | g
    · exact g
    · rw [List.getElem?_eq_none g] at e; cases e
  obtain ⟨y, e1, e2⟩ := h.get (List.getElem?_eq_getElem hl)
  rw [e1] at e; cases e
  exact ⟨_, List.getElem?_eq_getElem hl, e2⟩

theorem RelL.getD {ds : List D} {xs : List Value} {i : Nat} {x : Value} (h : RelL w I ds r tk xs) (e : xs[i]? = some x) : Rel w I (ds.getD i .undef) r tk x := by
  obtain ⟨d, e1, e2⟩ := h.get' e
  simpa [List.getD, e1] using e2

theorem RelL.append : ∀ {ds es : List D} {xs ys : List Value}, RelL w I ds r tk xs → RelL w I es r tk ys → RelL w I (ds ++ es) r tk (xs ++ ys)
  | [], _, _, _, h, g => by rw [h.inv_nil]; exact g
  | d :: ds, es, xs, ys, h, g => by
    obtain ⟨y, zs, rfl, h1, h2⟩ := h.inv
    exact RelL.cons h1 (RelL.append h2 g)

theorem RelL.take : ∀ {ds : List D} {xs : List Value} (n : Nat), RelL w I ds r tk xs → RelL w I (ds.take n) r tk (xs.take n)
  | [], _, _, h => by rw [h.inv_nil]; simp [RelL.nil]
  | d :: ds, _, 0, _ => by simp [RelL.nil]
  | d :: ds, _, n + 1, h => by
    obtain ⟨y, zs, rfl, h1, h2⟩ := h.inv
    exact RelL.cons h1 (RelL.take n h2)

theorem RelL.drop : ∀ {ds : List D} {xs : List Value} (n : Nat), RelL w I ds r tk xs → RelL w I (ds.drop n) r tk (xs.drop n)
  | [], _, _, h => by rw [h.inv_nil]; simp [RelL.nil]
  | d :: ds, _, 0, h => by simpa using h
  | d :: ds, _, n + 1, h => by
    obtain ⟨y, zs, rfl, h1, h2⟩ := h.inv
    simpa using RelL.drop n h2

theorem RelL.set : ∀ {ds : List D} {xs : List Value} (i : Nat) {d x}, RelL w I ds r tk xs → Rel w I d r tk x → RelL w I (ds.set i d) r tk (xs.set i x)
  | [], _, _, _, _, h, _ => by rw [h.inv_nil]; simp [RelL.nil]
  | d :: ds, _, 0, _, _, h, g => by
    obtain ⟨y, zs, rfl, h1, h2⟩ := h.inv
    exact RelL.cons g h2
  | d :: ds, _, n + 1, _, _, h, g => by
    obtain ⟨y, zs, rfl, h1, h2⟩ := h.inv
    exact RelL.cons h1 (RelL.set n h2 g)

/-- Replaces values from a place on. -/
def setV (cs : List Value) (off : Nat) : List Value → List Value
  | [] => cs
  | d :: ds => setV (cs.set off d) (off + 1) ds

theorem setV_length : ∀ (ys cs : List Value) (off : Nat), (setV cs off ys).length = cs.length
  | [], _, _ => rfl
  | y :: ys, cs, off => by simp [setV, setV_length ys]

theorem setL_length : ∀ (ys cs : List D) (off : Nat), (setL cs off ys).length = cs.length
  | [], _, _ => rfl
  | y :: ys, cs, off => by simp [setL, setL_length ys]

theorem setV_eq : ∀ (ys cs : List Value) (off : Nat), off + ys.length ≤ cs.length → setV cs off ys = cs.take off ++ ys ++ cs.drop (off + ys.length)
  | [], cs, off, _ => by simp [setV]
  | y :: ys, cs, off, h => by
    simp at h
    rw [setV, setV_eq ys _ _ (by simp; omega)]
    exact list_seg_step cs off y ys (by omega)

theorem RelL.setL : ∀ {es : List D} {ys : List Value} {ds : List D} {xs : List Value} (off : Nat), RelL w I ds r tk xs → RelL w I es r tk ys → RelL w I (setL ds off es) r tk (setV xs off ys)
  | [], _, _, _, _, h, g => by rw [g.inv_nil]; exact h
  | e :: es, _, ds, xs, off, h, g => by
    obtain ⟨y, zs, rfl, h1, h2⟩ := g.inv
    exact RelL.setL (off + 1) (h.set off h1) h2

theorem mem_setV : ∀ (ys cs : List Value) (off : Nat) (p : Value → Prop), (∀ x ∈ cs, p x) → (∀ y ∈ ys, p y) → ∀ z ∈ setV cs off ys, p z
  | [], _, _, _, h, _ => h
  | y :: ys, cs, off, p, h, g => by
    refine mem_setV ys _ _ p (fun x hx => ?_) (fun z hz => g z (by simp [hz]))
    rcases List.mem_or_eq_of_mem_set hx with h1 | h1
    · exact h x h1
    · rw [h1]; exact g y (by simp)

/-- The cells of a value stand for the cells of its data value. -/
theorem Rel.cells {d : D} {x : Value} (hv : d.isVal = true) (h : Rel w I d r tk x) : RelL w I d.cells r tk x.cells.toList ∧ ∀ y ∈ x.cells.toList, oneC y := by
  cases d with
  | undef => simp [D.isVal] at hv
  | skip => simp [D.isVal] at hv
  | tup vs => simp [D.isVal] at hv
  | agg cs =>
    simp only [Rel] at h
    obtain ⟨xs, rfl, h2, h3⟩ := h
    simpa [D.cells, Value.cells] using ⟨h2, h3⟩
  | int k n => simp only [Rel] at h; subst h; exact ⟨RelL.one (by simp [Rel]), by simp [Value.cells, oneC, Value.oneCell']⟩
  | bool k => simp only [Rel] at h; subst h; exact ⟨RelL.one (by simp [Rel]), by simp [Value.cells, oneC, Value.oneCell']⟩
  | str k => simp only [Rel] at h; subst h; exact ⟨RelL.one (by simp [Rel]), by simp [Value.cells, oneC, Value.oneCell']⟩
  | lit v =>
    have h0 := h
    simp only [Rel] at h; obtain ⟨rfl, h1⟩ := h
    have hc : x.cells = #[x] := by cases x <;> first | rfl | simp [Value.oneCell'] at h1
    rw [hc]; exact ⟨RelL.one h0, by simpa [oneC] using h1⟩
  | slice es tok =>
    have h0 := h
    simp only [Rel] at h; obtain ⟨a, cap, k, xs, rfl, _⟩ := h
    exact ⟨RelL.one h0, by simp [Value.cells, oneC, Value.oneCell']⟩
  | iface t d =>
    have h0 := h
    simp only [Rel] at h; obtain ⟨y, rfl, _⟩ := h
    exact ⟨RelL.one h0, by simp [Value.cells, oneC, Value.oneCell']⟩
  | fn f a c =>
    have h0 := h
    simp only [Rel] at h; obtain ⟨xs, ys, rfl, _⟩ := h
    exact ⟨RelL.one h0, by simp [Value.cells, oneC, Value.oneCell']⟩
  | ptr b off =>
    have h0 := h
    simp only [Rel] at h; obtain ⟨n, _, rfl⟩ := h
    exact ⟨RelL.one h0, by simp [Value.cells, oneC, Value.oneCell']⟩
  | ip cs =>
    have h0 := h
    simp only [Rel] at h; obtain ⟨a, xs, rfl, _⟩ := h
    exact ⟨RelL.one h0, by simp [Value.cells, oneC, Value.oneCell']⟩

theorem Rel.cells_size {d : D} {x : Value} (hv : d.isVal = true) (h : Rel w I d r tk x) : x.cells.size = d.cells.length := by
  have := (h.cells hv).1.length
  simpa using this

theorem At.drop {a : Addr} {ys : List Value} (h : At w I a ys) (n : Nat) : At w I ⟨a.block, a.off + n, none⟩ (ys.drop n) := by
  refine ⟨rfl, fun j y hj => ?_⟩
  have := h.2 (n + j) y (by simpa using hj)
  simpa [Nat.add_assoc] using this

theorem At.take {a : Addr} {ys : List Value} (h : At w I a ys) (n : Nat) : At w I a (ys.take n) := by
  refine ⟨h.1, fun j y hj => h.2 j y ?_⟩
  rw [List.getElem?_take] at hj
  split at hj
  · exact hj
  · cases hj

theorem add_eq (a : Addr) (h : a.spot = none) (n : Nat) : a.add n = ⟨a.block, a.off + n, none⟩ := by
  obtain ⟨b, o, s⟩ := a
  simp at h; subst h
  exact Addr.add_lit b o n

theorem flat_length : ∀ (xs : List Value) (k : Nat), (∀ y ∈ xs, y.cells.size = k) → (flat xs).length = xs.length * k
  | [], k, _ => by simp [flat]
  | x :: xs, k, h => by
    simp only [flat, List.length_append, Array.length_toList, List.length_cons]
    rw [flat_length xs k (fun y hy => h y (by simp [hy])), h x (by simp), Nat.add_mul]; omega

theorem flat_drop : ∀ (xs : List Value) (k i : Nat), (∀ y ∈ xs, y.cells.size = k) → (flat xs).drop (i * k) = flat (xs.drop i)
  | xs, k, 0, _ => by simp
  | [], k, i + 1, _ => by simp [flat]
  | x :: xs, k, i + 1, h => by
    simp only [flat, List.drop_succ_cons]
    have hx : x.cells.toList.length = k := by simpa using h x (by simp)
    rw [← flat_drop xs k i (fun y hy => h y (by simp [hy]))]
    rw [show (i + 1) * k = x.cells.toList.length + i * k by rw [Nat.add_mul]; omega, List.drop_length_add_append]

theorem flat_append : ∀ (xs ys : List Value), flat (xs ++ ys) = flat xs ++ flat ys
  | [], _ => rfl
  | x :: xs, ys => by simp [flat, flat_append xs ys]

theorem flat_take (xs : List Value) (k i : Nat) (h : ∀ y ∈ xs, y.cells.size = k) (hi : i ≤ xs.length) : (flat xs).take (i * k) = flat (xs.take i) := by
  have e : flat xs = flat (xs.take i) ++ flat (xs.drop i) := by rw [← flat_append, List.take_append_drop]
  have hl : (flat (xs.take i)).length = i * k := by
    rw [flat_length _ k (fun y hy => h y (List.mem_of_mem_take hy))]; simp [Nat.min_eq_left hi]
  rw [e, ← hl]; simp

/-- An element of an immutable slice. -/
theorem flat_at {a : Addr} {xs : List Value} {k i : Nat} {x : Value} (h : At w I a (flat xs)) (hk : ∀ y ∈ xs, y.cells.size = k) (hi : xs[i]? = some x) :
    At w I ⟨a.block, a.off + i * k, none⟩ x.cells.toList := by
  have h1 := h.drop (i * k)
  rw [flat_drop xs k i hk] at h1
  have hl : i < xs.length := by
    rcases Nat.lt_or_ge i xs.length with g | g
    · exact g
    · rw [List.getElem?_eq_none g] at hi; cases hi
  have e : xs.drop i = x :: xs.drop (i + 1) := by
    rw [List.drop_eq_getElem_cons hl]
    rw [List.getElem?_eq_getElem hl] at hi
    cases hi; rfl
  rw [e] at h1
  have h2 := h1.take x.cells.toList.length
  simpa [flat] using h2
end lists

end GoV
