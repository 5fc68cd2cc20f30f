/- The engine, part fc: strings.Builder: its variable becomes a growing row of bytes; contracts of copyCheck and String, out of the kit's shelf. Own work; no program in sight.
   (The walk of String: the worked proof of the shelf's contract, turned: it says besides which world is left.) -/
import Derived.Test.YtiodnobmnfjdlaaDoorFb
import Derived.Shelf.Strings.Builder1
set_option linter.unusedSimpArgs false
set_option linter.unusedVariables false
namespace GoV
open Go Go.RowKit

theorem inv_refl {w : World} {g : Gh} {hp : Hp} (h : HeapRel w g hp) : Inv w g hp w g :=
  ⟨h, Evo.refl _ _, Keeps.refl _ _, fun _ h => .inl h, fun _ h => .inl h, fun _ _ h => .inl h⟩

/-- A fresh growing row of bytes. -/
theorem inv_tokByt {w0 : World} {g0 : Gh} {hp : Hp} {w : World} {g : Gh} (h : Inv w0 g0 hp w g) (e : TypeId) :
    Inv w0 g0 { hp with tk := hp.tk ++ [.byt e []] } w (g.tok ⟨none, none, 0, 1, 0⟩) ∧ Evo w g w (g.tok ⟨none, none, 0, 1, 0⟩) := by
  obtain ⟨h1, h2⟩ := h.heap.newTok ⟨none, none, 0, 1, 0⟩ (.byt e []) ⟨by simp, by simp, by simp⟩ ⟨rfl, rfl, by simp, by simp⟩ (by simp)
  refine ⟨⟨h1, h.evo.trans h2, h.keeps, h.newr, fun n hn => ?_, h.i1⟩, h2⟩
  refine h.newt n ?_
  obtain ⟨T, hT, hb⟩ := mem_blks.1 hn
  rcases List.mem_append.1 hT with q | q
  · exact mem_blks.2 ⟨T, q, hb⟩
  · simp at q; subst q; simp at hb

/-- The buffer of a builder that holds nothing yet becomes a growing row of bytes. -/
theorem weak_bld {C : Cfg} {s : St} (b : Nat) (eB e : TypeId) (p : D) (hb : s.hp.H[b]? = some (.tcells eB [p, .lit (.slice none 0 0)])) :
    Weak C s ⟨s.env, s.scr, ⟨s.hp.H.set b (.tcells eB [p, .gs s.hp.tk.length 0]), s.hp.tk ++ [.byt e []]⟩⟩ := by
  intro w0 B a w h
  obtain ⟨G, g0, gb, g1, g2, g3, g4⟩ := h
  obtain ⟨q1, q2⟩ := inv_tokByt g0 e
  obtain ⟨n, hn⟩ : ∃ n, G.r[b]? = some n := by
    have hl := lt_of_get hb
    rw [g0.heap.len] at hl
    exact ⟨_, List.getElem?_eq_getElem hl⟩
  obtain ⟨xs, k1, k2, k3⟩ := g0.heap.blk b _ n hb hn
  obtain ⟨x0, ys, rfl, r0, r1⟩ := k2.inv
  obtain ⟨x1, zs, rfl, r2, r3⟩ := r1.inv
  have := r3.inv_nil
  subst this
  simp only [Rel] at r2
  obtain ⟨rfl, _⟩ := r2
  have hgs : Rel w (G.tok ⟨none, none, 0, 1, 0⟩) (.gs s.hp.tk.length 0) (.slice none 0 0) := by
    simp only [Rel]
    rw [g0.heap.lent]
    exact ⟨none, 0, _, rfl, by simp, tok_get _ _, by simp, fun _ => by simp⟩
  obtain ⟨u1, u2⟩ := q1.write (w' := w) b n hn ⟨_, hb, by simp⟩ (.tcells eB [p, .gs s.hp.tk.length 0])
    (fun w1 g1 he => by
      rw [k1]
      exact ⟨_, rfl, RelL.cons (Rel.evo _ (he) (Rel.evo _ q2 r0)) (RelL.one (Rel.evo _ he hgs)), k3⟩)
    (fun _ _ => rfl) rfl rfl rfl rfl
  refine ⟨_, u1, gb, g1, g2, g3, fun t => ?_⟩
  have h4 := g4 t
  unfold St.slot at *
  split
  · rename_i j hj
    rw [hj] at h4
    exact Rel.evo _ u2 (Rel.evo _ q2 h4)
  · rename_i hj
    rw [hj] at h4
    exact Rel.evo _ u2 (Rel.evo _ q2 h4)

/-! ### The contracts -/

section
open Go.Proofs
variable {M : Mod} {ρ : Go.Shelf.Ren}

theorem copyCheck_e (L : Lays.n240 M.P ρ) (X : Builder.X72 M.P ρ) (hc : Callable M (ρ.f 240)) {p x : D} {V : List Tv} (hp : p = .lit (.pointer none) ∨ p = .ptr 0 0) :
    Eff M (ρ.f 240) [.ptr 0 0] ⟨[.tcells (ρ.t 72) [p, x]], V⟩ (fun d hp' => d = .tup [] ∧ hp' = ⟨[.tcells (ρ.t 72) [.ptr 0 0, x]], V⟩) := by
  refine ⟨hc, fun w g xs hA hH hargs => ?_⟩
  obtain ⟨v, vs, rfl, h1, h2⟩ := hargs.inv
  have := h2.inv_nil
  subst this
  simp only [Rel] at h1
  obtain ⟨n, hn, rfl⟩ := h1
  obtain ⟨ys, k1, k2, k3⟩ := hH.blk 0 _ n rfl hn
  obtain ⟨y0, zs, rfl, r0, r1⟩ := k2.inv
  obtain ⟨y1, zs', rfl, r2, r3⟩ := r1.inv
  have := r3.inv_nil
  subst this
  have hcell : w.cell? ⟨n, 0, none⟩ = some y0 := by simp [World.cell?, k1]
  rcases hp with rfl | rfl
  · simp only [Rel] at r0
    obtain ⟨rfl, _⟩ := r0
    refine (Any.Builder_copyCheck_fresh L X n w hcell (by simp [World.shape?, k1]) (by simp [World.frozen?, k1])).mono fun e w' hh => ?_
    obtain ⟨rfl, rfl⟩ := hh
    obtain ⟨u1, u2⟩ := (inv_refl hH).write (w' := w.setCell ⟨n, 0, none⟩ (.pointer (some ⟨n, 0, none⟩))) 0 n hn ⟨_, rfl, by simp⟩ (.tcells (ρ.t 72) [.ptr 0 0, x])
      (fun w1 g1 he => ⟨[.pointer (some ⟨n, 0, none⟩), y1], by simp [World.setCell, Array.getElem?_modify, k1], RelL.cons (by simp only [Rel]; exact ⟨n, he.ref 0 n hn, rfl⟩) (RelL.one (Rel.evo _ he r2)), by
        intro y hy
        rcases List.mem_cons.1 hy with q | q
        · subst q; simp [oneC, Value.oneCell']
        · exact k3 y (by simp [List.mem_singleton.1 q])⟩)
      (fun m hm => by simp [World.setCell, Array.getElem?_modify, Ne.symm hm]) (by simp [World.setCell]) rfl rfl rfl
    exact ⟨_, _, _, _, rfl, ⟨rfl, rfl⟩, u1, by simp [Rel, RelL]⟩
  · simp only [Rel] at r0
    obtain ⟨m, hm, rfl⟩ := r0
    rw [hn] at hm
    cases hm
    refine (Any.Builder_copyCheck_used L X n w hcell).mono fun e w' hh => ?_
    obtain ⟨rfl, rfl⟩ := hh
    exact ⟨_, _, _, _, rfl, ⟨rfl, rfl⟩, inv_refl hH, by simp [Rel, RelL]⟩

set_option maxHeartbeats 2000000 in
set_option maxRecDepth 100000 in
theorem string_row (L : Lays.n169 M.P ρ) (X : Builder.Extra M.P ρ) (b g cap : Nat) (p : Value) (T : TypeId) (l : List UInt8) (cur : Array Value) (w : World) (hbk : w.heap[b]? = some (.cells #[p, .slice (some ⟨g, 0, none⟩) l.length cap] T (0, 0))) (hg : w.heap[g]? = some (.cells cur (ρ.t 5) (0, 0)))
    (h0 : l ≠ []) (hl : l.length ≤ 140737488355328) (hnc : l.length ≤ cap) (hcs : cur.size = cap) (hcells : ∀ (j : Nat) x, l[j]? = some x → w.cell? ⟨g, j, none⟩ = some (.int .u8 x.toNat)) :
    Calls M.P (ρ.f 169) #[.pointer (some ⟨b, 0, none⟩)] w fun e w' => e = .returned (.string ⟨l.toArray⟩) ∧ w' = w.drew.freeze ⟨g, 0, none⟩ l.length := by
  have hl0 : l.length ≠ 0 := by simpa using h0
  have c1 : w.drew.cell? ⟨b, 1, none⟩ = some (.slice (some ⟨g, 0, none⟩) l.length cap) := by
    have : w.drew.heap[b]? = some (.cells #[p, .slice (some ⟨g, 0, none⟩) l.length cap] T (0, 0)) := hbk
    rw [Lib.cell_of_heap this]; rfl
  have hSD : (Builtin.unsafeSliceData_ #[(ρ.t 37)] (ρ.t 127) #[.slice (some ⟨g, 0, none⟩) l.length cap]).run M.P w.drew = .ok (.pointer (some ⟨g, 0, none⟩)) w.drew :=
    Lib.run_unsafeSliceData_row _ _ _ _ _ _ (by omega)
  have hUS : (Builtin.unsafeString_ #[(ρ.t 127), (ρ.t 3)] (ρ.t 9) #[.pointer (some ⟨g, 0, none⟩), .int .i64 l.length]).run M.P w.drew = .ok (.string ⟨l.toArray⟩) (w.drew.freeze ⟨g, 0, none⟩ l.length) := by
    refine Lib.run_unsafeString_row w.drew (ρ.t 127) (ρ.t 3) (ρ.t 9) (ρ.t 5) L.t127 X.cellsByte g cur.size (by have hg' : w.drew.heap[g]? = some (.cells cur (ρ.t 5) (0, 0)) := hg; simp [World.shape?, hg']) l h0 (by omega) (by omega) ?_
    intro j x hx
    have := hcells j x hx
    rw [Addr.add_lit, Nat.zero_add]
    exact this
  have mixed := L.mixed
  have t72 := L.t72; have a72 := L.a72; have z72 := L.z72; have v72 := L.v72; have u72 := run_underlying L.t72
  have t70 := L.t70; have a70 := L.a70; have z70 := L.z70; have v70 := L.v70; have u70 := run_underlying L.t70
  have t37 := L.t37; have a37 := L.a37; have z37 := L.z37; have v37 := L.v37; have u37 := run_underlying L.t37
  have t127 := L.t127; have a127 := L.a127; have z127 := L.z127; have v127 := L.v127; have u127 := run_underlying L.t127
  have t3 := L.t3; have a3 := L.a3; have z3 := L.z3; have v3 := L.v3; have u3 := run_underlying L.t3
  have t9 := L.t9; have a9 := L.a9; have z9 := L.z9; have v9 := L.v9; have u9 := run_underlying L.t9
  have t5 := X.t5; have a5 := X.a5; have z5 := X.z5; have v5 := X.v5; have u5 := run_underlying X.t5
  go_enter L.f169, Body.n169_ntmps ρ
  go_wp2
  go_region_o
  all_goals (go_wp2; go_ret; exact ⟨rfl, rfl⟩)

/-- What String returns; the buffer is not written any more. -/
theorem string_e (L : Lays.n169 M.P ρ) (X : Builder.Extra M.P ρ) (hc : Callable M (ρ.f 169)) {p : D} {bs : List UInt8} (hl : bs.length ≤ 140737488355328) :
    Eff M (ρ.f 169) [.ptr 0 0] ⟨[.tcells (ρ.t 72) [p, .gs 0 bs.length]], [.byt (ρ.t 5) bs]⟩ (fun d hp' => d = .str bs ∧ hp' = ⟨[.tcells (ρ.t 72) [p, .gs 0 bs.length]], [.per 1 (bs.length + 1)]⟩) := by
  refine ⟨hc, fun w g xs hA hH hargs => ?_⟩
  obtain ⟨v, vs, rfl, h1, h2⟩ := hargs.inv
  have := h2.inv_nil
  subst this
  simp only [Rel] at h1
  obtain ⟨n, hn, rfl⟩ := h1
  obtain ⟨ys, k1, k2, k3⟩ := hH.blk 0 _ n rfl hn
  obtain ⟨y0, zs, rfl, r0, r1⟩ := k2.inv
  obtain ⟨y1, zs', rfl, r2, r3⟩ := r1.inv
  have := r3.inv_nil
  subst this
  simp only [Rel] at r2
  obtain ⟨a, cap, T, rfl, hnn, hT, hlT, hsT⟩ := r2
  obtain ⟨T', hT', ⟨q1, q2, q3, q4⟩, hok⟩ := hH.tokBlk (t := 0) (V := .byt (ρ.t 5) bs) rfl
  rw [hT] at hT'; cases hT'
  obtain ⟨rfl, rfl, hb⟩ := hsT (by omega)
  have fin : ∀ {w' : World}, w'.os = w.os → w'.tape = w.tape → w'.output = w.output → w.heap.size ≤ w'.heap.size → (∀ m, m < w.heap.size → T.blk ≠ some m → w'.heap[m]? = w.heap[m]?) → (∀ c o, g.I c o → w'.cell? ⟨c, o, none⟩ = w.cell? ⟨c, o, none⟩) →
      Post w g (fun d hp' => d = .str bs ∧ hp' = ⟨[.tcells (ρ.t 72) [p, .gs 0 bs.length]], [.per 1 (bs.length + 1)]⟩) (.returned (.string ⟨bs.toArray⟩)) w' := by
    intro w' e1 e2 e3 e4 e5 e6
    obtain ⟨u1, u2⟩ := (inv_refl hH).goTok (w' := w') (T' := ⟨Option.none, Option.none, T.len + 1, 1, T.len + 1⟩) (I' := g.I) (V' := .per 1 (bs.length + 1)) hT q1.symm (.inr (by simp)) e5 e4 e1 e2 e3 (fun n hn => by simp at hn)
      (fun c o ho => ⟨ho, e6 c o ho⟩) (fun c o ho => .inl ho) ⟨by simp, by simp, by simp⟩ (fun _ => ⟨rfl, by simp [q2], by simp⟩)
    exact ⟨_, _, _, _, rfl, ⟨rfl, rfl⟩, u1, by simp [Rel]⟩
  have old : ∀ {w' : World}, Below w.heap.size w w' → Post w g (fun d hp' => d = .str bs ∧ hp' = ⟨[.tcells (ρ.t 72) [p, .gs 0 bs.length]], [.per 1 (bs.length + 1)]⟩) (.returned (.string ⟨bs.toArray⟩)) w' := by
    intro w' hb'
    exact fin hb'.os hb'.tape hb'.output hb'.size (fun m hm _ => hb'.block m hm) (fun c o ho => cell_of_heap (hb'.block c (hH.imm c o ho).1))
  cases hTb : T.blk with
  | none =>
    obtain ⟨z1, z2⟩ := q3 hTb
    have hlen : bs = [] := List.eq_nil_of_length_eq_zero (by omega)
    subst hlen
    have hcap : T.cap = 0 := by rw [← hok.2.1 hTb]; exact z1
    rw [z2, hcap] at k1
    refine (Any.Builder_String_nil L X w.heap.size n y0 w k1).mono fun e w' hh => ?_
    obtain ⟨rfl, hb'⟩ := hh
    exact old hb'
  | some m =>
    obtain ⟨hI, ys, z1, z2⟩ := q4 m hTb
    obtain ⟨had, _, hlc, ys', e', z3, z4, z5⟩ := hok.2.2 m hTb
    rw [z1] at z3; cases z3
    rw [had] at k1
    rw [q1, Nat.mul_one] at z4
    by_cases hz : bs = []
    · subst hz
      by_cases hcap : T.cap = 0
      · rw [hcap] at k1
        refine (Any.Builder_String_noroom L X w.heap.size n m y0 ys w (Nat.le_refl _) k1 z1).mono fun e w' hh => ?_
        obtain ⟨rfl, hb'⟩ := hh
        exact old hb'
      · refine (Any.Builder_String_room L X w.heap.size n m T.cap y0 w hcap k1).mono fun e w' hh => ?_
        obtain ⟨rfl, hb'⟩ := hh
        exact old hb'
    · refine (string_row L X n m T.cap y0 (ρ.t 72) bs ys w k1 z1 hz hl (by omega) z4 (fun j x hx => ?_)).mono fun e w' hh => ?_
      · have hj := lt_of_get hx
        have h3 := congrArg (fun l => l[j]?) z2
        simp only [List.getElem?_map, hx, Option.map_some] at h3
        rw [List.getElem?_take, if_pos (by omega)] at h3
        rw [cell_at z1, ← Array.getElem?_toList]
        exact h3
      · obtain ⟨rfl, rfl⟩ := hh
        have hfr : ∀ c, m ≠ c → (w.drew.freeze ⟨m, 0, none⟩ bs.length).heap[c]? = w.heap[c]? := by
          intro c hc
          unfold World.freeze
          split
          · rfl
          · simp [Array.getElem?_modify, hc]; rfl
        have hsz : (w.drew.freeze ⟨m, 0, none⟩ bs.length).heap.size = w.heap.size := by
          unfold World.freeze
          split
          · rfl
          · simp
        have hos : ∀ w : World, (w.freeze ⟨m, 0, none⟩ bs.length).os = w.os ∧ (w.freeze ⟨m, 0, none⟩ bs.length).tape = w.tape ∧ (w.freeze ⟨m, 0, none⟩ bs.length).output = w.output := by
          intro w
          unfold World.freeze
          split <;> exact ⟨rfl, rfl, rfl⟩
        refine fin (hos w.drew).1 (hos w.drew).2.1 (hos w.drew).2.2 (Nat.le_of_eq hsz.symm) (fun c _ hne => hfr c fun e => hne (by rw [hTb, e])) (fun c o ho => cell_of_heap (hfr c fun e => by subst e; exact hI o ho))
end
end GoV
