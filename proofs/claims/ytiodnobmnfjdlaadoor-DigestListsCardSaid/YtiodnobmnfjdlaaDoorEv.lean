/- The engine, part v: new memory for slices; append. Own work; no program in sight. -/
import Derived.Test.YtiodnobmnfjdlaaDoorEu
set_option linter.unusedSimpArgs false
namespace GoV
open Go

theorem Keeps.drawn (w : World) (n : Nat) (r : List Nat) : Keeps w { w with drawn := n } r := ⟨rfl, rfl, rfl, Nat.le_refl _, fun _ _ _ => rfl⟩

theorem Inv.drawn {w0 g0 hp w g} (h : Inv w0 g0 hp w g) (n : Nat) : Inv w0 g0 hp { w with drawn := n } g ∧ Evo w g { w with drawn := n } g := by
  have he : Evo w g { w with drawn := n } g := ⟨fun b o hi => ⟨hi, rfl⟩, fun _ _ h => h, fun _ T h => ⟨T, h, rfl, .inl rfl⟩⟩
  exact ⟨h.step (h.heap.other he rfl rfl (fun _ _ => rfl) (Nat.le_refl _) fun b o ho => .inl ho) he (Keeps.drawn w n _) (fun n hn => .inl hn) (fun n hn => .inl hn) (fun b o ho => .inl ho), he⟩

section
variable {w0 : World} {g0 : Gh} {hp : Hp} {w : World} {g : Gh}

/-- The cells below n of block b never change from now on. -/
def Gh.fix (g : Gh) (b n : Nat) : Gh := { g with I := fun c o => g.I c o ∨ (c = b ∧ o < n) }
/-- One growing slice more. -/
def Gh.tok (g : Gh) (T : Tk) : Gh := { g with tk := g.tk ++ [T] }

/-- A new block whose first cells never change. -/
theorem Inv.newPer (h : Inv w0 g0 hp w g) {es : List D} {vs : List Value} {k : Nat} (hr : RelL w g.cl es vs) (hK : elemsK k es = true) (ys : Array Value) (e : TypeId) (fr : Nat × Nat) (hys : ys.toList.take (flat vs).length = flat vs) :
    Inv w0 g0 hp (w.alloc (.cells ys e fr)) (g.fix w.heap.size (flat vs).length) ∧ Evo w g (w.alloc (.cells ys e fr)) (g.fix w.heap.size (flat vs).length) ∧
      RelL (w.alloc (.cells ys e fr)) (g.fix w.heap.size (flat vs).length).cl es vs ∧ (∀ y ∈ vs, y.cells.size = k) ∧
      At (w.alloc (.cells ys e fr)) (g.fix w.heap.size (flat vs).length).I ⟨w.heap.size, 0, none⟩ (flat vs) := by
  obtain ⟨h1, e1⟩ := h.alloc (.cells ys e fr)
  have hne : w.heap.size ∉ g.own := fun hm => by have := h.heap.own_lt _ hm; omega
  obtain ⟨h2, e2⟩ := h1.more w.heap.size (fun o => o < (flat vs).length) (by simp) hne h.keeps.size
  obtain ⟨_, ho⟩ := flatD_rel hr hK
  refine ⟨h2, e1.trans e2, RelL.evo _ (e1.trans e2).cl hr, elemsK_sizes hr hK, fun _ => rfl, fun j y hj => ?_⟩
  have hlt := lt_of_get hj
  refine ⟨?_, .inr ⟨rfl, by simpa using hlt⟩, ho y (List.mem_of_getElem? hj)⟩
  rw [cell_at (heap_alloc_at w _), Nat.zero_add, ← Array.getElem?_toList]
  rw [← hys, List.getElem?_take, if_pos hlt] at hj
  exact hj

/-- A new growing slice whose cells below its length never change. -/
theorem Inv.tokPer (h : Inv w0 g0 hp w g) {b cap k len : Nat} {ys : Array Value} {e : TypeId} (hk : 0 < k) (hw : w.heap[b]? = some (.cells ys e (0, 0))) (hs : ys.size = cap * k) (hc : len ≤ cap) (ho : ∀ y ∈ ys.toList, oneC y)
    (hb : b ∉ g.own) (hnew : w0.heap.size ≤ b) (hI : ∀ o, g.I b o → o < len * k) :
    Inv w0 g0 { hp with tk := hp.tk ++ [.per k len] } w (g.tok ⟨some b, some ⟨b, 0, none⟩, cap, k, len⟩) ∧ Evo w g w (g.tok ⟨some b, some ⟨b, 0, none⟩, cap, k, len⟩) := by
  obtain ⟨h1, h2⟩ := h.heap.newTok ⟨some b, some ⟨b, 0, none⟩, cap, k, len⟩ (.per k len)
    ⟨hk, by simp, fun c hc' => by
      simp at hc'; subst hc'
      exact ⟨rfl, fun hm => hb (List.mem_append.2 (.inl hm)), hc, ys, e, hw, hs, ho⟩⟩
    ⟨rfl, rfl, fun c hc' o hi => by simp at hc'; subst hc'; exact hI o hi⟩
    (fun c hc' => by simp at hc'; subst hc'; exact hb)
  refine ⟨h.ghost h1 (h.evo.trans h2) (fun n hn => .inl hn) (fun n hn => ?_) (fun c o hi => .inl hi), h2⟩
  simp only [Gh.tok, blks, List.filterMap_append, List.mem_append] at hn ⊢
  rcases hn with q | q
  · exact .inl q
  · simp [List.filterMap_cons] at q; subst q
    exact .inr hnew

/-- A new growing slice, of which is known what it holds. -/
theorem Inv.tokChg (h : Inv w0 g0 hp w g) {b cap k len : Nat} {ys : Array Value} {e : TypeId} {cs : List D} (hk : 0 < k) (hw : w.heap[b]? = some (.cells ys e (0, 0))) (hs : ys.size = cap * k) (hc : len ≤ cap) (ho : ∀ y ∈ ys.toList, oneC y)
    (hb : b ∉ g.own) (hnew : w0.heap.size ≤ b) (hI : ∀ o, ¬ g.I b o) (hl : cs.length = len * k) (hr : RelL w g cs (ys.toList.take (len * k))) :
    Inv w0 g0 { hp with tk := hp.tk ++ [.chg k cs] } w (g.tok ⟨some b, some ⟨b, 0, none⟩, cap, k, len⟩) ∧ Evo w g w (g.tok ⟨some b, some ⟨b, 0, none⟩, cap, k, len⟩) := by
  have he : Evo w g w (g.tok ⟨some b, some ⟨b, 0, none⟩, cap, k, len⟩) := by
    refine ⟨fun c o hi => ⟨hi, rfl⟩, fun _ _ h => h, fun t U h => ⟨U, ?_, rfl, .inl rfl⟩⟩
    show (g.tk ++ [_])[t]? = some U
    rw [List.getElem?_append_left (lt_of_get h)]; exact h
  obtain ⟨h1, h2⟩ := h.heap.newTok ⟨some b, some ⟨b, 0, none⟩, cap, k, len⟩ (.chg k cs)
    ⟨hk, by simp, fun c hc' => by
      simp at hc'; subst hc'
      exact ⟨rfl, fun hm => hb (List.mem_append.2 (.inl hm)), hc, ys, e, hw, hs, ho⟩⟩
    ⟨rfl, hl, by simp, fun c hc' => by simp at hc'; subst hc'; exact ⟨hI, ys, e, hw, RelL.evo _ he hr⟩⟩
    (fun c hc' => by simp at hc'; subst hc'; exact hb)
  refine ⟨h.ghost h1 (h.evo.trans h2) (fun n hn => .inl hn) (fun n hn => ?_) (fun c o hi => .inl hi), h2⟩
  simp only [Gh.tok, blks, List.filterMap_append, List.mem_append] at hn ⊢
  rcases hn with q | q
  · exact .inl q
  · simp [List.filterMap_cons] at q; subst q
    exact .inr hnew

/-- A new growing slice without room: nil, or memory that is not its own. -/
theorem Inv.tokFull (h : Inv w0 g0 hp w g) {k len : Nat} {a : Option Addr} (hk : 0 < k) (V : Tv) (hV : V = .per k len ∨ (V = .chg k [] ∧ len = 0 ∧ a = none)) :
    Inv w0 g0 { hp with tk := hp.tk ++ [V] } w (g.tok ⟨none, a, len, k, len⟩) ∧ Evo w g w (g.tok ⟨none, a, len, k, len⟩) := by
  obtain ⟨h1, h2⟩ := h.heap.newTok ⟨none, a, len, k, len⟩ V ⟨hk, by simp, by simp⟩ (by rcases hV with rfl | ⟨rfl, rfl, rfl⟩ <;> exact ⟨rfl, by simp, by simp⟩) (by simp)
  refine ⟨h.ghost h1 (h.evo.trans h2) (fun n hn => .inl hn) (fun n hn => ?_) (fun c o hi => .inl hi), h2⟩
  simp only [Gh.tok, blks, List.filterMap_append, List.mem_append] at hn ⊢
  rcases hn with q | q
  · exact .inl q
  · simp [List.filterMap_cons] at q

theorem tok_get (g : Gh) (T : Tk) : (g.tok T).tk[g.tk.length]? = some T := by
  show (g.tk ++ [T])[g.tk.length]? = some T
  rw [List.getElem?_append_right (Nat.le_refl _)]; simp

theorem set_get {l : List Tk} {t : Nat} {T T' : Tk} (h : l[t]? = some T) : (l.set t T')[t]? = some T' := by
  rw [List.getElem?_set, if_pos rfl, if_pos (lt_of_get h)]

/-- A growing slice goes on, in its own block or in a new one. -/
theorem Inv.goTok {w'} (h : Inv w0 g0 hp w g) {t : Nat} {T T' : Tk} {V' : Tv} {I' : Nat → Nat → Prop} (hT : g.tk[t]? = some T) (hk : T'.k = T.k) (hT' : T' = T ∨ T.len < T'.len)
    (hb : ∀ n, n < w.heap.size → T.blk ≠ some n → w'.heap[n]? = w.heap[n]?) (hs : w.heap.size ≤ w'.heap.size) (hos : w'.os = w.os) (htp : w'.tape = w.tape) (hout : w'.output = w.output)
    (hn : ∀ n, T'.blk = some n → T.blk = some n ∨ w.heap.size ≤ n) (hI0 : ∀ b o, g.I b o → I' b o ∧ w'.cell? ⟨b, o, none⟩ = w.cell? ⟨b, o, none⟩) (hI : ∀ b o, I' b o → g.I b o ∨ (T'.blk = some b ∧ b < w'.heap.size))
    (hok : TkOk w' ⟨g.r, g.tk.set t T', I'⟩ T') (hV : Evo w g w' ⟨g.r, g.tk.set t T', I'⟩ → TvRel w' ⟨g.r, g.tk.set t T', I'⟩ T' V') :
    Inv w0 g0 { hp with tk := hp.tk.set t V' } w' ⟨g.r, g.tk.set t T', I'⟩ ∧ Evo w g w' ⟨g.r, g.tk.set t T', I'⟩ := by
  have hTm := List.mem_of_getElem? hT
  have he : Evo w g w' ⟨g.r, g.tk.set t T', I'⟩ := by
    refine ⟨hI0, fun _ _ h => h, fun u U hU => ?_⟩
    by_cases e : t = u
    · subst e
      rw [hT] at hU; cases hU
      exact ⟨T', set_get hT, hk, hT'⟩
    · refine ⟨U, ?_, rfl, .inl rfl⟩
      show (g.tk.set t T')[u]? = some U
      rw [List.getElem?_set, if_neg e]; exact hU
  refine ⟨h.step (h.heap.setTok hT he hb hs hn hI hok (hV he)) he ⟨hos, htp, hout, hs, fun n hlt hno => hb n hlt fun e => hno (List.mem_append.2 (.inr (mem_blks.2 ⟨T, hTm, e⟩)))⟩ (fun n hm => .inl hm) (fun n hm => ?_) (fun b o ho => ?_), he⟩
  · rcases blks_set_new hm with q | q
    · exact .inl q
    · rcases hn n q with q1 | q1
      · exact .inl (mem_blks.2 ⟨T, hTm, q1⟩)
      · exact .inr q1
  · rcases hI b o ho with q | q
    · exact .inl q
    · rcases hn b q.1 with q1 | q1
      · exact .inr (.inr (mem_blks.2 ⟨T, hTm, q1⟩))
      · exact .inr (.inl q1)
end

/-! ### append, in the model -/

section
variable {P : Program} {w : World} {t u ty e : TypeId} {i : TypeInfo} {z : Value}

theorem app_room (ht : P.underlying t = some (.slice e)) (hu : (∃ e', P.underlying u = some (.slice e')) ∨ P.underlying u = some .string) (hi : P.info? e = some i)
    {b sLen sCap m : Nat} {cur : Array Value} {x : Value} {news : List Value} {e0 : TypeId} (hg : w.heap[b]? = some (.cells cur e0 (0, 0)))
    (hlen : (Builtin.lenOf x).run P w = .ok m w) (hf : (Builtin.firstCells i.size m x).run P w = .ok news.toArray w) (h1 : ∀ y ∈ news, oneC y)
    (hroom : sLen + m ≤ sCap) (hfit : sLen * i.size + news.length ≤ cur.size) :
    (Builtin.append_ #[t, u] ty #[.slice (some ⟨b, 0, none⟩) sLen sCap, x]).run P w =
      .ok (.slice (some ⟨b, 0, none⟩) (sLen + m) sCap) (w.setRow b (setV cur.toList (sLen * i.size) news).toArray) := by
  have hst := run_storeCells_at P b (sLen * i.size) e0 news 0 cur w hg (by simpa using hfit) h1
  simp only [Nat.add_zero] at hst
  rw [← setV_eq news cur.toList (sLen * i.size) (by simpa using hfit)] at hst
  rcases hu with ⟨e', hu⟩ | hu
  · simp [Builtin.append_, run_underlying ht, run_underlying hu, Go.sizeOf, typeInfo, hi, hlen, hroom, hf, Addr.add_lit, hst]
  · simp [Builtin.append_, run_underlying ht, run_underlying hu, Go.sizeOf, typeInfo, hi, hlen, hroom, hf, Addr.add_lit, hst]

theorem app_nil0 (ht : P.underlying t = some (.slice e)) (hu : (∃ e', P.underlying u = some (.slice e')) ∨ P.underlying u = some .string) (hi : P.info? e = some i) {x : Value}
    (hlen : (Builtin.lenOf x).run P w = .ok 0 w) (hf : (Builtin.firstCells i.size 0 x).run P w = .ok #[] w) :
    (Builtin.append_ #[t, u] ty #[.slice none 0 0, x]).run P w = .ok (.slice none 0 0) w := by
  rcases hu with ⟨e', hu⟩ | hu <;> simp [Builtin.append_, run_underlying ht, run_underlying hu, Go.sizeOf, typeInfo, hi, hlen, hf]

theorem app_grow (ht : P.underlying t = some (.slice e)) (hu : (∃ e', P.underlying u = some (.slice e')) ∨ P.underlying u = some .string) (hi : P.info? e = some i) (hz : i.zero = some z)
    {base : Option Addr} {sLen sCap m : Nat} {x : Value} {olds news : List Value} (hlen : (Builtin.lenOf x).run P w = .ok m w) (hf : ∀ w1 : World, w1.heap = w.heap → (Builtin.firstCells i.size m x).run P w1 = .ok news.toArray w1)
    (hfo : ∀ w1 : World, w1.heap = w.heap → (Builtin.firstCells i.size sLen (.slice base sLen sCap)).run P w1 = .ok olds.toArray w1)
    (hg : sCap < sLen + m) (hb : (sLen + m) * i.bytes ≤ 140737488355328) (hb2 : sLen + m ≤ 140737488355328) :
    (Builtin.append_ #[t, u] ty #[.slice base sLen sCap, x]).run P w =
      .ok (.slice (some ⟨w.heap.size, 0, none⟩) (sLen + m) (grownCap w (sLen + m) sCap e))
        (w.drew.alloc (.cells (olds.toArray ++ news.toArray ++ Builtin.zeroCells z.cells (grownCap w (sLen + m) sCap e - (sLen + m))) e (0, 0))) := by
  have hfit := growslice_fits hg hb
  have hn : ¬ (sLen + m ≤ sCap) := by omega
  have h63' : ¬ (9223372036854775807 < ((sLen : Int) + (m : Int))) := by omega
  have h48' : ¬ (281474976710656 < Builtin.nextslicecap (sLen + m) sCap * i.bytes) := by omega
  have h1 := hf w.drew rfl
  have h2 := hfo w.drew rfl
  rcases hu with ⟨e', hu⟩ | hu
  · simp [Builtin.append_, run_underlying ht, run_underlying hu, Go.sizeOf, typeInfo, zeroValue, hi, hz, hlen, hn, h63', h48', Question.forced, h1, h2, newRow, grownCap]
    congr 2; apply Array.ext'; simp [List.append_assoc]
  · simp [Builtin.append_, run_underlying ht, run_underlying hu, Go.sizeOf, typeInfo, zeroValue, hi, hz, hlen, hn, h63', h48', Question.forced, h1, h2, newRow, grownCap]
    congr 2; apply Array.ext'; simp [List.append_assoc]

theorem zeroCells_one {z : Value} (h : ∀ y ∈ z.cells.toList, oneC y) (n : Nat) : ∀ y ∈ (Builtin.zeroCells z.cells n).toList, oneC y := by
  intro y hy
  simp only [Builtin.zeroCells, Array.toList_map, List.mem_map] at hy
  obtain ⟨j, hj, rfl⟩ := hy
  have hj : j < n * z.cells.size := by simpa using hj
  have hz : 0 < z.cells.size := Nat.pos_of_ne_zero fun e => by rw [e] at hj; simp at hj
  have hm : j % z.cells.size < z.cells.size := Nat.mod_lt _ hz
  simp only [hm, getElem!_pos]
  exact h _ (by simp)
end
end GoV
