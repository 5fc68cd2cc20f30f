/- The engine, part f: single operations that do not call are sound. Own work; no program in sight. -/
import Derived.Test.YtiodnobmnfjdlaaDoorEe
set_option linter.unusedSimpArgs false
namespace GoV
open Go

/-- The operation has run, and what is asked holds of what it left. -/
def Done (P : Program) (ρ : Operand → Value) (o : Oper) (w0 : World) (g0 : Gh) (w : World) (g : Gh) (K : D → Hp → Prop) : Prop :=
  ∃ d hp' g' v w', K d hp' ∧ Inv w0 g0 hp' w' g' ∧ Evo w g w' g' ∧ Rel w' g' d v ∧
    ((execOp ρ o).run P w = .ok (.value v) w' ∨ ((execOp ρ o).run P w = .ok .skip w' ∧ v = Go.undef))

section
variable {P : Program} {ρ : Operand → Value} {o : Oper} {w0 : World} {g0 : Gh} {hp : Hp} {w : World} {g : Gh} {K : D → Hp → Prop}

theorem done_val (hi : Inv w0 g0 hp w g) {d : D} {v : Value} (hk : K d hp) (hr : Rel w g d v) (hx : (execOp ρ o).run P w = .ok (.value v) w) :
    Done P ρ o w0 g0 w g K := ⟨d, hp, g, v, w, hk, hi, Evo.refl _ _, hr, .inl hx⟩

theorem done_int (hi : Inv w0 g0 hp w g) {k : IntKind} {n : Int} (hk : K (.int k n) hp) (hx : (execOp ρ o).run P w = .ok (.value (.int k n)) w) :
    Done P ρ o w0 g0 w g K := done_val hi hk (by simp [Rel]) hx
theorem done_bool (hi : Inv w0 g0 hp w g) {b : Bool} (hk : K (.bool b) hp) (hx : (execOp ρ o).run P w = .ok (.value (.bool b)) w) :
    Done P ρ o w0 g0 w g K := done_val hi hk (by simp [Rel]) hx
theorem done_str (hi : Inv w0 g0 hp w g) {s : List UInt8} (hk : K (.str s) hp) (hx : (execOp ρ o).run P w = .ok (.value (.string ⟨s.toArray⟩)) w) :
    Done P ρ o w0 g0 w g K := done_val hi hk (by simp [Rel]) hx

theorem run_isAgg {t : TypeId} {d : TypeDesc} (hu : P.underlying t = some d) (w : World) : (isAgg t).run P w = .ok (isRowT d) w := by
  unfold isAgg
  rw [Sem.run_bind, run_underlying hu]
  cases d <;> rfl

theorem run_sizeOf {t : TypeId} {n : Nat} (h : szOf P t = some n) (w : World) : (Go.sizeOf t).run P w = .ok n w := by
  unfold szOf at h
  cases hi : P.info? t with
  | none => simp [hi] at h
  | some i => simp [hi] at h; simp [Go.sizeOf, typeInfo, hi, h]

theorem run_loadAt_row {t : TypeId} {d : TypeDesc} (hu : P.underlying t = some d) (hd : isRowT d = true) (ys : List Value) (hs : szOf P t = some ys.length) (b off : Nat)
    (h : ∀ (j : Nat) y, ys[j]? = some y → w.cell? ⟨b, off + j, none⟩ = some y) :
    (Instr.loadAt t (.pointer (some ⟨b, off, none⟩))).run P w = .ok (.agg ys.toArray) w := by
  have hl : (loadCells ⟨b, off, none⟩ ys.length).run P w = .ok ys.toArray w :=
    run_loadCells_list (P := P) w ⟨b, off, none⟩ ys (fun j v hv => by rw [Addr.add_lit]; exact h j v hv)
  simp [Instr.loadAt, Instr.sureAddr, loadVar, run_isAgg hu, hd, run_sizeOf hs, hl]

theorem run_loadAt_one {t : TypeId} {d : TypeDesc} (hu : P.underlying t = some d) (hd : isRowT d = false) (y : Value) (b off : Nat)
    (h : w.cell? ⟨b, off, none⟩ = some y) :
    (Instr.loadAt t (.pointer (some ⟨b, off, none⟩))).run P w = .ok y w := by
  simp [Instr.loadAt, Instr.sureAddr, loadVar, run_isAgg hu, hd, h]

theorem toD_rel {v : Value} {d : D} (h : toD v = some d) : Rel w g.cl d v ∧ oneC v := by
  cases v <;> simp only [toD, Option.some.injEq] at h <;> first
    | (cases h; done)
    | (subst h; simp [Rel, oneC, Value.oneCell'])

theorem toDs_rel : ∀ {vs : List Value} {ds : List D}, toDs vs = some ds → RelL w g.cl ds vs ∧ ∀ y ∈ vs, oneC y
  | [], ds, h => by
    simp [toDs] at h; subst h; exact ⟨RelL.nil, by simp⟩
  | v :: vs, ds, h => by
    simp only [toDs] at h
    cases h1 : toD v with
    | none => simp [h1] at h
    | some d =>
      cases h2 : toDs vs with
      | none => simp [h1, h2] at h
      | some es =>
        simp [h1, h2] at h; subst h
        obtain ⟨g1, g2⟩ := toD_rel (w := w) (g := g) h1
        obtain ⟨g3, g4⟩ := toDs_rel (vs := vs) h2
        exact ⟨RelL.cons g1 g3, by intro y hy; simp at hy; rcases hy with rfl | hy; exact g2; exact g4 y hy⟩

theorem zeroDs_spec {t : TypeId} {z : List D} (h : zeroDs P t = some z) : ∃ i zv, P.info? t = some i ∧ i.zero = some zv ∧ toDs zv.cells.toList = some z := by
  unfold zeroDs at h
  split at h
  · rename_i i hi
    split at h
    · rename_i zv hz; exact ⟨i, zv, hi, hz, h⟩
    · cases h
  · cases h

/-- What the cells of an abstract block hold, whether its type is known or not. -/
theorem blk_csq (hi : Inv w0 g0 hp w g) {b : Nat} {B : Blk} {cs : List D} (hb : hp.H[b]? = some B) (hc : B.csq = some cs) {n : Nat} (hn : g.r[b]? = some n) :
    ∃ xs e, w.heap[n]? = some (.cells xs.toArray e (0, 0)) ∧ RelL w g cs xs ∧ (∀ y ∈ xs, oneC y) ∧ (∀ (j : Nat) y, xs[j]? = some y → w.cell? ⟨n, j, none⟩ = some y) ∧
      ∀ (w' : World) (g' : Gh) (cs' : List D) (xs' : List Value), RelL w' g' cs' xs' → (∀ y ∈ xs', oneC y) → BlkRel w' g' (B.putc cs') (some (.cells xs'.toArray e (0, 0))) := by
  have hB := hi.heap.blk b _ n hb hn
  cases B with
  | cells ds =>
    simp only [Blk.csq, Option.some.injEq] at hc; subst hc
    obtain ⟨xs, e, h1, h2, h3⟩ := hB
    exact ⟨xs, e, h1, h2, h3, fun j y hj => by simp [World.cell?, h1, hj], fun w' g' cs' xs' q2 q3 => ⟨xs', e, rfl, q2, q3⟩⟩
  | tcells e ds =>
    simp only [Blk.csq, Option.some.injEq] at hc; subst hc
    obtain ⟨xs, h1, h2, h3⟩ := hB
    exact ⟨xs, e, h1, h2, h3, fun j y hj => by simp [World.cell?, h1, hj], fun w' g' cs' xs' q2 q3 => ⟨xs', rfl, q2, q3⟩⟩
  | gone => simp [Blk.csq] at hc
  | map es => simp [Blk.csq] at hc
  | siter s p => simp [Blk.csq] at hc

theorem putc_gone {B : Blk} {cs : List D} : B.putc cs ≠ .gone := by cases B <;> simp [Blk.putc]

/-- What the cells of an abstract block hold. -/
theorem blk_cells (hi : Inv w0 g0 hp w g) {b : Nat} {cs : List D} (hb : hp.H[b]? = some (.cells cs)) {n : Nat} (hn : g.r[b]? = some n) :
    ∃ xs e, w.heap[n]? = some (.cells xs.toArray e (0, 0)) ∧ RelL w g cs xs ∧ (∀ y ∈ xs, oneC y) ∧ ∀ (j : Nat) y, xs[j]? = some y → w.cell? ⟨n, j, none⟩ = some y := by
  obtain ⟨xs, e, h1, h2, h3⟩ := hi.heap.blk b _ n hb hn
  refine ⟨xs, e, h1, h2, h3, fun j y hj => ?_⟩
  simp [World.cell?, h1, hj]

theorem list2 {α : Type} {f : α → Value} {x y : α} {ds : List D} (h : RelL w g ds [f x, f y]) : ∃ a b, ds = [a, b] ∧ Rel w g a (f x) ∧ Rel w g b (f y) := by
  match ds, h with
  | [], h => have := h.inv_nil; cases this
  | [a], h => obtain ⟨_, _, e, _, h2⟩ := h.inv; cases e; have := h2.inv_nil; cases this
  | [a, b], h =>
    obtain ⟨_, _, e, h1, h2⟩ := h.inv; cases e
    obtain ⟨_, _, e, h3, h4⟩ := h2.inv; cases e
    exact ⟨a, b, rfl, h1, h3⟩
  | a :: b :: c :: l, h =>
    obtain ⟨_, _, e, h1, h2⟩ := h.inv; cases e
    obtain ⟨_, _, e, h3, h4⟩ := h2.inv; cases e
    obtain ⟨_, _, e, _⟩ := h4.inv; cases e

theorem list1 {α : Type} {f : α → Value} {x : α} {ds : List D} (h : RelL w g ds [f x]) : ∃ a, ds = [a] ∧ Rel w g a (f x) := by
  match ds, h with
  | [], h => have := h.inv_nil; cases this
  | [a], h => obtain ⟨_, _, e, h1, h2⟩ := h.inv; cases e; exact ⟨a, rfl, h1⟩
  | a :: b :: l, h =>
    obtain ⟨_, _, e, h1, h2⟩ := h.inv; cases e
    obtain ⟨_, _, e, _⟩ := h2.inv; cases e

theorem list3 {α : Type} {f : α → Value} {x y z : α} {ds : List D} (h : RelL w g ds [f x, f y, f z]) :
    ∃ a b c, ds = [a, b, c] ∧ Rel w g a (f x) ∧ Rel w g b (f y) ∧ Rel w g c (f z) := by
  match ds, h with
  | [], h => have := h.inv_nil; cases this
  | a :: l, h =>
    obtain ⟨_, _, e, h1, h2⟩ := h.inv; cases e
    obtain ⟨b, c, rfl, h3, h4⟩ := list2 (f := f) (x := y) (y := z) h2
    exact ⟨a, b, c, rfl, h1, h3, h4⟩

theorem snd_mv {x : Operand} (hop : o.op = .move x ∨ o.op = .assign x) (hi : Inv w0 g0 hp w g) {ds : List D} (hr : RelL w g ds [ρ x]) (h : opWp .mv ds hp K) : Done P ρ o w0 g0 w g K := by
  obtain ⟨a, rfl, ha⟩ := list1 (f := ρ) hr
  simp only [opWp] at h
  refine done_val hi h ha ?_
  rcases hop with hop | hop <;> simp [execOp, hop]

theorem snd_nck {x : Operand} (hop : o.op = .nilCheck x) (hi : Inv w0 g0 hp w g) {ds : List D} (hr : RelL w g ds [ρ x]) (h : opWp .nck ds hp K) : Done P ρ o w0 g0 w g K := by
  obtain ⟨a, rfl, ha⟩ := list1 (f := ρ) hr
  have hrun : (∃ q, ρ x = .pointer (some q)) → (execOp ρ o).run P w = .ok (.value (ρ x)) w := by
    rintro ⟨q, hq⟩
    simp [execOp, hop, hq]
  cases a <;> simp only [opWp] at h
  case ptr b off =>
    refine done_val hi h ha (hrun ?_)
    simp only [Rel] at ha
    obtain ⟨n, _, hx⟩ := ha
    exact ⟨_, hx⟩
  case ip cs =>
    refine done_val hi h ha (hrun ?_)
    simp only [Rel] at ha
    obtain ⟨q, _, hx, _⟩ := ha
    exact ⟨_, hx⟩
  case gp t n off =>
    refine done_val hi h ha (hrun ?_)
    simp only [Rel] at ha
    obtain ⟨q, _, hx, _⟩ := ha
    exact ⟨_, hx⟩

theorem snd_pick {c a b : Operand} (hop : o.op = .pick c a b) (hi : Inv w0 g0 hp w g) {ds : List D} (hr : RelL w g ds [ρ c, ρ a, ρ b]) (h : opWp .pick ds hp K) : Done P ρ o w0 g0 w g K := by
  obtain ⟨x, y, z, rfl, hx, hy, hz⟩ := list3 (f := ρ) hr
  cases x <;> simp only [opWp] at h
  case bool t =>
    simp only [Rel] at hx
    cases t
    · exact done_val hi (h.2 rfl) hz (by simp [execOp, hop, hx, asBool])
    · exact done_val hi (h.1 rfl) hy (by simp [execOp, hop, hx, asBool])

theorem toList_str (s : List UInt8) : (ByteArray.mk s.toArray).toList = s := ByteArray.toList_mk s
theorem size_str (s : List UInt8) : (ByteArray.mk s.toArray).size = s.length := by simp [ByteArray.size]
theorem append_str (s t : List UInt8) : (ByteArray.mk s.toArray) ++ (ByteArray.mk t.toArray) = ByteArray.mk (s ++ t).toArray := by
  apply ByteArray.ext
  simp

theorem snd_bin {op : BinOp} {t u : TypeId} {x y : Operand} (hop : o.op = .binOp op t x y u) (hi : Inv w0 g0 hp w g) {ds : List D} (hr : RelL w g ds [ρ x, ρ y]) (h : opWp (.bin op) ds hp K) : Done P ρ o w0 g0 w g K := by
  obtain ⟨a, b, rfl, ha, hb⟩ := list2 (f := ρ) hr
  simp only [opWp] at h
  unfold binWp at h
  split at h <;> first
    | exact h.elim
    | skip
  all_goals simp only [Rel] at ha hb
  case h_1 => obtain ⟨rfl, h⟩ := h; exact done_int hi h (by simp [execOp, hop, ha, hb, eqGuard_at_int, binOp_add, Op.intArith])
  case h_2 => obtain ⟨rfl, h⟩ := h; exact done_int hi h (by simp [execOp, hop, ha, hb, eqGuard_at_int, binOp_sub, Op.intArith])
  case h_3 => obtain ⟨rfl, h⟩ := h; exact done_int hi h (by simp [execOp, hop, ha, hb, eqGuard_at_int, binOp_mul, Op.intArith])
  case h_4 => obtain ⟨rfl, h0, h⟩ := h; exact done_int hi h (by simp [execOp, hop, ha, hb, eqGuard_at_int, binOp_quo, Op.intDiv, h0])
  case h_5 => obtain ⟨rfl, h0, h⟩ := h; exact done_int hi h (by simp [execOp, hop, ha, hb, eqGuard_at_int, binOp_rem, Op.intDiv, h0])
  case h_6 => obtain ⟨rfl, h⟩ := h; exact done_int hi h (by simp [execOp, hop, ha, hb, eqGuard_at_int, binOp_and, intBits_and, bitsV])
  case h_7 => obtain ⟨rfl, h⟩ := h; exact done_int hi h (by simp [execOp, hop, ha, hb, eqGuard_at_int, binOp_or, intBits_or, bitsV])
  case h_8 => obtain ⟨rfl, h⟩ := h; exact done_int hi h (by simp [execOp, hop, ha, hb, eqGuard_at_int, binOp_xor, intBits_xor, bitsV])
  case h_9 => obtain ⟨rfl, h⟩ := h; exact done_int hi h (by simp [execOp, hop, ha, hb, eqGuard_at_int, binOp_andNot, intBits_andNot, bitsV])
  case h_10 => obtain ⟨h0, h⟩ := h; exact done_int hi h (by simp [execOp, hop, ha, hb, eqGuard_at_int, binOp_shl, Op.shift, Int.not_lt.2 h0])
  case h_11 => obtain ⟨h0, h⟩ := h; exact done_int hi h (by simp [execOp, hop, ha, hb, eqGuard_at_int, binOp_shr, Op.shift, Int.not_lt.2 h0])
  case h_12 => obtain ⟨rfl, h⟩ := h; exact done_bool hi h (by simp [execOp, hop, ha, hb, eqGuard_at_int, binOp_eql])
  case h_13 => obtain ⟨rfl, h⟩ := h; exact done_bool hi h (by simp [execOp, hop, ha, hb, eqGuard_at_int, binOp_neq])
  case h_14 => obtain ⟨rfl, h⟩ := h; exact done_bool hi h (by simp [execOp, hop, ha, hb, eqGuard_at_int, binOp_lss])
  case h_15 => obtain ⟨rfl, h⟩ := h; exact done_bool hi h (by simp [execOp, hop, ha, hb, eqGuard_at_int, binOp_leq])
  case h_16 => obtain ⟨rfl, h⟩ := h; exact done_bool hi h (by simp [execOp, hop, ha, hb, eqGuard_at_int, binOp_gtr])
  case h_17 => obtain ⟨rfl, h⟩ := h; exact done_bool hi h (by simp [execOp, hop, ha, hb, eqGuard_at_int, binOp_geq])
  case h_18 =>
    obtain ⟨h0, h⟩ := h
    refine done_str hi h ?_
    simp only [execOp, hop, ha, hb, eqGuard_at_string, binOp_string_add, Op.stringOp, append_str, size_str]
    rw [if_neg (by simp [IntKind.max_i64]; omega)]
    simp
  case h_19 => exact done_bool hi h (by simp [execOp, hop, ha, hb, eqGuard_at_string, binOp, Op.stringOp, toList_str])
  case h_20 => exact done_bool hi h (by simp [execOp, hop, ha, hb, eqGuard_at_string, binOp, Op.stringOp, toList_str])
  case h_21 => exact done_bool hi h (by simp [execOp, hop, ha, hb, eqGuard_at_string, binOp, Op.stringOp, toList_str])
  case h_22 => exact done_bool hi h (by simp [execOp, hop, ha, hb, eqGuard_at_string, binOp, Op.stringOp, toList_str])
  case h_23 => exact done_bool hi h (by simp [execOp, hop, ha, hb, eqGuard_at_string, binOp, Op.stringOp, toList_str])
  case h_24 => exact done_bool hi h (by simp [execOp, hop, ha, hb, eqGuard_at_string, binOp, Op.stringOp, toList_str])
end
end GoV
