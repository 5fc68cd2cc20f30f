/- The engine, part u: the elements of slices, as data and as values. Own work; no program in sight. -/
import Derived.Test.YtiodnobmnfjdlaaDoorEi
import Derived.Laws.AppendOwn
import Derived.Laws.MakeOwn
import Derived.Laws.BytesString
import Derived.Laws.NewFold
import Derived.Laws.RangeAny
import Derived.Laws.RangeString
set_option linter.unusedSimpArgs false
namespace GoV
open Go

section
variable {P : Program} {w : World} {g : Gh}

def chunkV (k : Nat) : Nat → List Value → List Value
  | 0, _ => []
  | n + 1, cs => (if k = 1 then cs.getD 0 Go.undef else .agg (cs.take k).toArray) :: chunkV k n (cs.drop k)

theorem chunkV_length (k : Nat) : ∀ (n : Nat) (cs : List Value), (chunkV k n cs).length = n
  | 0, _ => rfl
  | n + 1, cs => by simp [chunkV, chunkV_length k n]

theorem chunk_length (k : Nat) : ∀ (n : Nat) (cs : List D), (chunk k n cs).length = n
  | 0, _ => rfl
  | n + 1, cs => by simp [chunk, chunk_length k n]

theorem cells_one {x : Value} (h : oneC x) : x.cells = #[x] := by
  unfold oneC at h
  cases x <;> first
    | rfl
    | simp [Value.oneCell'] at h

theorem chunk_rel {k : Nat} : ∀ (n : Nat) (cs : List D) (xs : List Value), RelL w g cs xs → (∀ y ∈ xs, oneC y) → n * k ≤ xs.length →
    RelL w g (chunk k n cs) (chunkV k n xs) ∧ (∀ y ∈ chunkV k n xs, y.cells.size = k) ∧ flat (chunkV k n xs) = xs.take (n * k)
  | 0, _, _, _, _, _ => ⟨RelL.nil, by simp [chunkV], by simp [chunkV, flat]⟩
  | n + 1, cs, xs, h, ho, hl => by
    rw [Nat.add_mul, Nat.one_mul] at hl
    obtain ⟨h1, h2, h3⟩ := chunk_rel (k := k) n (cs.drop k) (xs.drop k) (h.drop k) (fun y hy => ho y (List.mem_of_mem_drop hy)) (by simp; omega)
    have hlen := h.length
    simp only [chunk, chunkV]
    by_cases hk : k = 1
    · subst hk
      simp only [if_true]
      have hlt : 0 < xs.length := by omega
      have hx := List.getElem?_eq_getElem hlt
      have hoc := ho _ (List.getElem_mem hlt)
      have e : xs.getD 0 Go.undef = xs[0] := by simp [List.getD, hx]
      rw [e]
      refine ⟨RelL.cons (h.getD hx) h1, fun y hy => ?_, ?_⟩
      · rcases List.mem_cons.1 hy with q | q
        · subst q; rw [cells_one hoc]; rfl
        · exact h2 y q
      · simp only [flat, cells_one hoc, h3]
        cases xs with
        | nil => simp at hlt
        | cons x xs => simp [Nat.add_comm]
    · simp only [hk, if_false]
      refine ⟨RelL.cons (by simp only [Rel]; exact ⟨_, rfl, h.take k, fun y hy => ho y (List.mem_of_mem_take hy)⟩) h1, fun y hy => ?_, ?_⟩
      · rcases List.mem_cons.1 hy with q | q
        · subst q; simp [Value.cells]; omega
        · exact h2 y q
      · simp only [flat, Value.cells, h3]
        rw [show (n + 1) * k = k + n * k by rw [Nat.add_mul]; omega, List.take_add]

theorem flatD_rel : ∀ {es : List D} {vs : List Value} {k : Nat}, RelL w g es vs → elemsK k es = true → RelL w g (flatD es) (flat vs) ∧ ∀ y ∈ flat vs, oneC y
  | [], vs, _, h, _ => by rw [h.inv_nil]; exact ⟨RelL.nil, by simp [flat]⟩
  | e :: es, vs, k, h, hk => by
    obtain ⟨y, ys, rfl, h1, h2⟩ := h.inv
    simp only [elemsK, Bool.and_eq_true, beq_iff_eq] at hk
    obtain ⟨q1, q2⟩ := h1.cells hk.1.1
    obtain ⟨q3, q4⟩ := flatD_rel h2 hk.2
    refine ⟨q1.append q3, fun z hz => ?_⟩
    simp only [flat, List.mem_append] at hz
    rcases hz with hz | hz
    · exact q2 z hz
    · exact q4 z hz

theorem elemsK_sizes {es : List D} {vs : List Value} {k : Nat} (h : RelL w g es vs) (hk : elemsK k es = true) : ∀ y ∈ vs, y.cells.size = k := by
  intro y hy
  obtain ⟨i, hi⟩ := List.mem_iff_getElem?.1 hy
  obtain ⟨d, h1, h2⟩ := h.get' hi
  obtain ⟨q1, q2⟩ := elemsK_mem hk d (List.mem_of_getElem? h1)
  rw [h2.cells_size q1, q2]

theorem elemsK_take {k : Nat} : ∀ {es : List D} (n : Nat), elemsK k es = true → elemsK k (es.take n) = true
  | [], n, _ => by simp [elemsK]
  | e :: es, 0, _ => by simp [elemsK]
  | e :: es, n + 1, h => by
    simp only [elemsK, Bool.and_eq_true] at h
    simp only [List.take_succ_cons, elemsK, Bool.and_eq_true]
    exact ⟨h.1, elemsK_take n h.2⟩

theorem flatD_length {k : Nat} : ∀ {es : List D}, elemsK k es = true → (flatD es).length = es.length * k
  | [], _ => by simp [flatD]
  | e :: es, h => by
    simp only [elemsK, Bool.and_eq_true, beq_iff_eq] at h
    simp only [flatD, List.length_append, List.length_cons, flatD_length h.2, h.1.2, Nat.add_mul]
    omega

/-- What stands in a slice or a string that is read. -/
structure Elems (P : Program) (w : World) (g : Gh) (k : Nat) (x : Value) (es : List D) (vs : List Value) : Prop where
  rel : RelL w g es vs
  len : ∀ w1 : World, (Builtin.lenOf x).run P w1 = .ok es.length w1
  cells : ∀ n, n ≤ es.length → ∀ w1 : World, w1.heap = w.heap → (Builtin.firstCells k n x).run P w1 = .ok ((flat vs).take (n * k)).toArray w1

theorem cell_heap {w w1 : World} (h : w1.heap = w.heap) (a : Addr) : w1.cell? a = w.cell? a := by simp [World.cell?, h]

theorem firstCells_at {a : Addr} {ys : List Value} {n k len cap : Nat} (ha : ys ≠ [] → a.spot = none) (hl : n * k ≤ ys.length) (h : ∀ (j : Nat) y, ys[j]? = some y → w.cell? ⟨a.block, a.off + j, none⟩ = some y) (w1 : World) (hw : w1.heap = w.heap) :
    (Builtin.firstCells k n (.slice (some a) len cap)).run P w1 = .ok (ys.take (n * k)).toArray w1 := by
  refine run_firstCells_some (P := P) w1 k n a len cap _ (by simp; omega) fun j v hj => ?_
  rw [List.getElem?_take] at hj
  split at hj
  · rw [add_eq a (ha fun e => by rw [e] at hj; simp at hj), cell_heap hw]; exact h j v hj
  · cases hj

theorem ints_rel (s : List UInt8) : RelL w g (s.map fun b => D.int .u8 b.toNat) (s.map fun b => Value.int .u8 b.toNat) := by
  induction s with
  | nil => exact RelL.nil
  | cons b s ih => exact RelL.cons (by simp [Rel]) ih

theorem ints_flat (s : List UInt8) : flat (s.map fun b => Value.int .u8 b.toNat) = s.map fun b => Value.int .u8 b.toNat := by
  induction s with
  | nil => rfl
  | cons b s ih => simp [flat, Value.cells, ih]

theorem elems_val {hp : Hp} {k : Nat} {d : D} {x : Value} {es : List D} (hh : HeapRel w g hp) (hx : Rel w g d x) (he : elemsOf hp k d = some es) (hK : elemsK k es = true) : ∃ vs, Elems P w g k x es vs := by
  cases d <;> try (simp only [elemsOf] at he; cases he; done)
  case str s =>
    simp only [elemsOf, Option.some.injEq] at he
    subst he
    simp only [Rel] at hx
    subst hx
    have hk : s = [] ∨ k = 1 := by
      cases s with
      | nil => exact .inl rfl
      | cons b s => right; simp [elemsK, D.cells] at hK; exact hK.1.2.symm
    refine ⟨s.map fun b => .int .u8 b.toNat, ints_rel s, fun w1 => by simp [Builtin.lenOf, size_str], fun n hn w1 hw => ?_⟩
    simp only [List.length_map] at hn
    have hnk : n * k = n := by
      rcases hk with q | q
      · subst q; simp at hn; subst hn; simp
      · subst q; simp
    have hex : ByteArray.extract ⟨s.toArray⟩ 0 n = ⟨(s.take n).toArray⟩ := by
      rw [Lib.extract_eq]; simp
    simp only [Builtin.firstCells, Sem.run_pure, hex, ints_flat, hnk]
    congr 1
    apply Array.ext'
    simp [List.map_take]
  case lit v =>
    cases v <;> try (simp only [elemsOf] at he; cases he; done)
    rename_i a n c
    cases a <;> cases n <;> cases c <;> try (simp only [elemsOf] at he; cases he; done)
    simp only [elemsOf, Option.some.injEq] at he
    subst he
    simp only [Rel] at hx
    obtain ⟨rfl, _⟩ := hx
    exact ⟨[], RelL.nil, fun w1 => by simp [Builtin.lenOf], fun n hn w1 hw => by simp [Builtin.firstCells, flat]⟩
  case slice es' own =>
    simp only [elemsOf, Option.some.injEq] at he
    subst he
    simp only [Rel] at hx
    obtain ⟨a, cap, k', xs, hx, g2, g3, g4, g5, _⟩ := hx
    have hlen := g3.length
    rcases hx with hx | ⟨hx, rfl, rfl⟩
    · subst hx
      refine ⟨xs, g3.any, fun w1 => by simp [Builtin.lenOf], fun n hn w1 hw => ?_⟩
      have hfl := flat_length xs k' g4
      refine firstCells_at g5.1 ?_ (fun j y hj => (g5.2 j y hj).1) w1 hw
      rw [hfl]
      rcases elemsK_size hK g3 g4 with q | q
      · subst q; simp at hlen; have : n = 0 := by omega
        subst this; simp
      · subst q; exact Nat.mul_le_mul_right _ (by omega)
    · subst hx
      have := g3.inv_nil
      subst this
      exact ⟨[], RelL.nil, fun w1 => by simp [Builtin.lenOf], fun n hn w1 hw => by simp [Builtin.firstCells, flat]⟩
  case sl b k' off len cap =>
    simp only [elemsOf] at he
    split at he
    case isFalse => cases he
    rename_i hk
    obtain ⟨rfl, hlc⟩ := hk
    split at he
    case h_2 => cases he
    rename_i cs hb
    split at he
    case isFalse => cases he
    rename_i hl
    simp only [Option.some.injEq] at he
    subst he
    simp only [Rel] at hx
    obtain ⟨n, o, h1, rfl, h2⟩ := hx
    obtain ⟨xs, e, h3, h4, h5⟩ := hh.blk b _ n hb h1
    have hlen := h4.length
    obtain ⟨c1, c2, c3⟩ := chunk_rel (k := k') len (cs.drop off) (xs.drop off) (h4.drop off) (fun y hy => h5 y (List.mem_of_mem_drop hy)) (by simp; omega)
    refine ⟨chunkV k' len (xs.drop off), c1, fun w1 => by simp [Builtin.lenOf, chunk_length], fun m hm w1 hw => ?_⟩
    rw [chunk_length] at hm
    have hmk : m * k' ≤ len * k' := Nat.mul_le_mul_right _ hm
    rcases Nat.eq_zero_or_pos (m * k') with hz | hz
    · simp [Builtin.firstCells, hz]
      rfl
    · have hm0 : 0 < m := Nat.pos_of_ne_zero fun e => by subst e; simp at hz
      have ho : o = off := h2 (by omega)
      subst ho
      refine firstCells_at (fun _ => rfl) (by rw [c3]; simp; omega) (fun j y hj => ?_) w1 hw
      rw [c3, List.getElem?_take] at hj
      split at hj
      · rw [List.getElem?_drop] at hj
        rw [cell_at h3]; simpa using hj
      · cases hj
  case gs t n =>
    simp only [elemsOf] at he
    split at he
    case h_2 => cases he
    rename_i k' cs ht
    split at he
    case isFalse => cases he
    rename_i hk
    obtain ⟨rfl, hl⟩ := hk
    simp only [Option.some.injEq] at he
    subst he
    simp only [Rel] at hx
    obtain ⟨a, cap, T, rfl, hnn, hT, hle, hee⟩ := hx
    obtain ⟨T', hT', ⟨hTk, hTl, hr0, hr⟩, hok⟩ := hh.tokBlk ht
    rw [hT] at hT'; cases hT'
    subst hTk
    have hn : n = T.len := Nat.eq_of_mul_eq_mul_right hok.1 (hl.symm.trans hTl)
    obtain ⟨rfl, rfl, _⟩ := hee hn
    cases hTb : T.blk with
    | none =>
      obtain ⟨q1, q2⟩ := hr0 hTb
      have hn0 : n = 0 := by omega
      subst hn0
      exact ⟨[], by simpa [chunk] using RelL.nil, fun w1 => by simp [Builtin.lenOf, chunk], fun m hm w1 hw => by simp [q2, Builtin.firstCells, flat]⟩
    | some b =>
      obtain ⟨_, ys, e, h1, h2⟩ := hr b hTb
      obtain ⟨had, _, hc, zs, e', h3, h4, h5⟩ := hok.2.2 b hTb
      rw [h1] at h3; cases h3
      have hlen := h2.length
      have hle2 : T.len * T.k ≤ ys.size := by rw [h4]; exact Nat.mul_le_mul_right _ hc
      obtain ⟨c1, c2, c3⟩ := chunk_rel (k := T.k) n cs _ h2 (fun y hy => h5 y (List.mem_of_mem_take hy)) (by rw [hn]; simp; omega)
      refine ⟨chunkV T.k n (ys.toList.take (T.len * T.k)), c1, fun w1 => by simp [Builtin.lenOf, chunk_length], fun m hm w1 hw => ?_⟩
      rw [chunk_length] at hm
      have hmk : m * T.k ≤ n * T.k := Nat.mul_le_mul_right _ hm
      have hcl : (flat (chunkV T.k n (ys.toList.take (T.len * T.k)))).length = n * T.k := by
        rw [c3, hn]; simp; omega
      rw [had]
      refine firstCells_at (fun _ => rfl) (by rw [hcl]; exact hmk) (fun j y hj => ?_) w1 hw
      rw [c3, List.getElem?_take] at hj
      split at hj
      · rw [Nat.zero_add, cell_at h1]; exact take_drop_get hj
      · cases hj

theorem setV_append : ∀ (a b cs : List Value) (off : Nat), setV cs off (a ++ b) = setV (setV cs off a) (off + a.length) b
  | [], b, cs, off => by simp [setV]
  | x :: a, b, cs, off => by
    simp only [List.cons_append, setV, List.length_cons]
    rw [setV_append a b]
    congr 1
    omega

theorem fill_seq {k : Nat} : ∀ (vs : List Value) (i : Nat) (xs : Array Value), (∀ v ∈ vs, v.cells.size = k) → (i + vs.length) * k ≤ xs.size →
    Instr.fill (fun i => some (i * k, k)) xs ((List.range' i vs.length).zip vs) = some (setV xs.toList (i * k) (flat vs)).toArray
  | [], i, xs, _, _ => by simp [Instr.fill, flat, setV]
  | v :: vs, i, xs, hk, hl => by
    have hv := hk v (by simp)
    simp only [List.length_cons] at hl
    have hl2 : i * k + k ≤ xs.size := by
      have : (i + 1) * k ≤ (i + (vs.length + 1)) * k := Nat.mul_le_mul_right _ (by omega)
      rw [Nat.add_mul, Nat.one_mul] at this
      omega
    simp only [List.length_cons, List.range'_succ, List.zip_cons_cons, Instr.fill]
    rw [if_neg (by simp; omega)]
    have hstep : (v.cells.zipIdx.foldl (fun cs (p : Value × Nat) => cs.setIfInBounds (i * k + p.2) p.1) xs).toList = setV xs.toList (i * k) v.cells.toList := by
      have := foldl_set v.cells.toList xs 0 (i * k)
      rw [← Array.foldl_toList]
      simpa using this
    have hsz : (v.cells.zipIdx.foldl (fun cs (p : Value × Nat) => cs.setIfInBounds (i * k + p.2) p.1) xs).size = xs.size := by
      rw [← Array.length_toList, hstep, setV_length, Array.length_toList]
    have ih := fill_seq vs (i + 1) (v.cells.zipIdx.foldl (fun cs (p : Value × Nat) => cs.setIfInBounds (i * k + p.2) p.1) xs) (fun u hu => hk u (by simp [hu])) (by rw [hsz]; rw [show i + 1 + vs.length = i + (vs.length + 1) by omega]; exact hl)
    rw [ih, hstep, flat, setV_append]
    congr 3
    rw [Nat.add_mul, Nat.one_mul]; simp; omega

theorem setV_all (vs cs : List Value) (h : vs.length = cs.length) : setV cs 0 vs = vs := by
  rw [setV_eq vs cs 0 (by omega)]
  simp [h]

theorem zeros_length (z : List D) : ∀ n, (zeros z n).length = n * z.length
  | 0 => by simp [zeros]
  | n + 1 => by simp [zeros, zeros_length z n, Nat.add_mul]; omega

def zerosV (z : List Value) : Nat → List Value
  | 0 => []
  | n + 1 => z ++ zerosV z n

theorem zeros_rel {z : List D} {zv : List Value} (h : RelL w g z zv) : ∀ n, RelL w g (zeros z n) (zerosV zv n)
  | 0 => RelL.nil
  | n + 1 => h.append (zeros_rel h n)

theorem zerosV_one {zv : List Value} (h : ∀ y ∈ zv, oneC y) : ∀ n, ∀ y ∈ zerosV zv n, oneC y
  | 0, y, hy => by simp [zerosV] at hy
  | n + 1, y, hy => by
    simp only [zerosV, List.mem_append] at hy
    rcases hy with q | q
    · exact h y q
    · exact zerosV_one h n y q

theorem zerosV_length (z : List Value) : ∀ n, (zerosV z n).length = n * z.length
  | 0 => by simp [zerosV]
  | n + 1 => by simp [zerosV, zerosV_length z n, Nat.add_mul]; omega

theorem zerosV_get (z : List Value) : ∀ (n i : Nat), i < n * z.length → (zerosV z n)[i]? = z[i % z.length]?
  | 0, i, h => by simp at h
  | n + 1, i, h => by
    simp only [zerosV]
    by_cases hi : i < z.length
    · rw [List.getElem?_append_left hi, Nat.mod_eq_of_lt hi]
    · rw [List.getElem?_append_right (by omega), zerosV_get z n (i - z.length) (by rw [Nat.add_mul, Nat.one_mul] at h; omega)]
      congr 1
      exact (Nat.mod_eq_sub_mod (by omega)).symm

theorem range_zero (z : Array Value) (n : Nat) : ((Array.range (n * z.size)).map fun i => z[i % z.size]!).toList = zerosV z.toList n := by
  apply List.ext_getElem?
  intro i
  by_cases h : i < n * z.size
  · rw [zerosV_get _ _ _ (by simpa using h)]
    have hz : 0 < z.size := Nat.pos_of_ne_zero fun e => by rw [e] at h; simp at h
    have hm : i % z.size < z.size := Nat.mod_lt _ hz
    simp [h, hm]
  · have h1 : ((Array.range (n * z.size)).map fun i => z[i % z.size]!).toList.length ≤ i := by simp; omega
    rw [List.getElem?_eq_none h1, List.getElem?_eq_none (by rw [zerosV_length]; simpa using h)]
end
end GoV
