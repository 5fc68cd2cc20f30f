/- Own texts, merged by a program: the engine that walks the code, and what the functions that the law reaches compute. -/
import Derived.Test.YtkjnhkoipgdfeaaGreatDoorXc2
import Derived.Sort.Grow
import Derived.Laws.AppendOwn
import Derived.KernelRfl
import Derived.Shelf.Strings.Builder1
import Derived.Shelf.Small.Strs
import Derived.Shelf.Strings.BuilderF
import Derived.Shelf.Strings.BuilderK
import Derived.Shelf.Strconv.Atoi
import Derived.Shelf.Strconv.Itoa0
import Derived.Shelf.Strconv.Itoa1
import Derived.Shelf.LaysM
import Derived.Shelf.Strconv.Itoa2
import Derived.Shelf.Strconv.Itoa3
import Derived.Shelf.Strconv.AtoiErrFast
import Derived.Shelf.Strconv.ParseIntEmpty
import Derived.Shelf.Strconv.AtoiFail
import Derived.Shelf.Strconv.Clone
import Derived.Shelf.Strconv.SyntaxError
import Derived.Shelf.LaysC
import Derived.Shelf.Strconv.ToError
import Derived.Shelf.Strconv.AtoiErr
import Derived.Shelf.Strconv.ErrVar
import Derived.Shelf.Strconv.Lower
import Derived.Shelf.Strconv.ParseUint10
import Derived.Shelf.Strconv.ParseUint10Empty
import Derived.Shelf.Strconv.ParseUint10Any
import Derived.Shelf.Strconv.ParseInt10
import Derived.Shelf.Strconv.AtoiLong
import Derived.Shelf.Strconv.AtoiInnerAll
import Derived.Shelf.Strconv.RangeError
import Derived.Shelf.Strconv.ToErrorRange
import Derived.Shelf.Strconv.AtoiAll
import Derived.Shelf.Strconv.ErrVarAll
import Derived.Shelf.Strconv.ParseUintEmpty
import Derived.Shelf.Strconv.ParseUint10b64
import Derived.Shelf.Strconv.ParseUint10b32
import Derived.Shelf.Strconv.ParseUint10b16
import Derived.Shelf.Strconv.ParseUint10b8
import Derived.Shelf.Strconv.ParseUint10At
import Derived.Shelf.Strconv.ParseInt10At64
import Derived.Shelf.Strconv.ParseInt10At32
import Derived.Shelf.Strconv.ParseInt10At16
import Derived.Shelf.Strconv.ParseInt10At8
import Derived.Shelf.Strconv.ParseInt10All
import Derived.Shelf.Strings.Search1
import Derived.Shelf.Bits.Mul64
import Derived.Shelf.Strings.BuilderCap
import Derived.Test.YtkjnhkoipgdfeaaGreatDoorProg
import Derived.Lib.ItoaNum
section
set_option linter.unusedSimpArgs false
set_option linter.unusedVariables false
namespace GoV
open Go
theorem call_same {M : Mod} {f : FuncId} {first cap args : List D} {hp : Hp} {K R : D → Hp → Prop} (h : Eff M f (first ++ args ++ cap) hp R) (hk : ∀ d hp1, R d hp1 → K d hp1) : CallOp M (.fn (.func f) first cap :: args) hp K := by
 intro w0 B w G vs hA hi hr
 obtain ⟨fv, av, rfl, h1, h2⟩ := hr.inv
 simp only [Rel] at h1
 obtain ⟨xs, ys, rfl, h3, h4⟩ := h1
 refine .inl ⟨f, xs.toArray, ys.toArray, av, rfl, h.1, ?_⟩
 have hamb : M.amb w G.own := M.up _ _ _ _ hA.1 hi.keeps fun n hn => hi.new n hn
 have hcall := h.2 w G (xs ++ av ++ ys) hamb hi.heap ((h3.append h2).append h4)
 have e : (xs.toArray ++ av.toArray ++ ys.toArray) = (xs ++ av ++ ys).toArray := by simp
 rw [e]
 refine Calls.mono hcall fun e w' hp' => ?_
 obtain ⟨v, d, hp1, g1, rfl, hR, g3, g4⟩ := hp'
 exact ⟨v, d, hp1, g1, rfl, hk d hp1 hR, hi.join g3, g3.evo, g4⟩
mutual
def D.nn : D → D
 | .slice es o => .slice (D.nnL es) o
 | .agg cs => .agg (D.nnL cs)
 | .tup vs => .tup (D.nnL vs)
 | .lit (.slice none 0 0) => .slice [] .no
 | d => d
def D.nnL : List D → List D
 | [] => []
 | d :: ds => D.nn d :: D.nnL ds
end
mutual
theorem Rel.nn {w : World} {g : Gh} : ∀ (d : D) {x : Value}, Rel w g d x → Rel w g d.nn x
 | .slice es o, x, h => by
   simp only [D.nn]
   simp only [Rel] at h ⊢
   have hl : (D.nnL es).length = es.length := nnL_length es
   obtain ⟨a, cap, k, xs, h1, h2, h3, h4, h5, h6⟩ := h
   refine ⟨a, cap, k, xs, ?_, by rw [hl]; exact h2, RelL.nn es h3, h4, h5, by rw [hl]; exact h6⟩
   rcases h1 with h1 | ⟨h1, rfl, h8⟩
   ·exact .inl (by rw [hl]; exact h1)
   ·exact .inr ⟨h1, rfl, h8⟩
 | .agg cs, x, h => by
   simp only [D.nn]
   simp only [Rel] at h ⊢
   obtain ⟨xs, h1, h2, h3⟩ := h
   exact ⟨xs, h1, RelL.nn cs h2, h3⟩
 | .tup cs, x, h => by
   simp only [D.nn]
   simp only [Rel] at h ⊢
   obtain ⟨xs, h1, h2⟩ := h
   exact ⟨xs, h1, RelL.nn cs h2⟩
 | .lit v, x, h => by
   unfold D.nn
   split
   iterate 3
    ·simp_all
   ·rename_i e
    simp only [D.lit.injEq] at e
    subst e
    simp only [Rel] at h ⊢
    obtain ⟨rfl, _⟩ := h
    exact ⟨⟨0, 0, none⟩, 0, 0, [], .inr ⟨by simp, by simp, rfl⟩, by simp, RelL.nil, by simp, At.nil, trivial⟩
   ·exact h
 | .u0, x, h => h
 | .skip, x, h => h
 | .int _ _, x, h => h
 | .bool _, x, h => h
 | .str _, x, h => h
 | .iface _ _, x, h => h
 | .fn _ _ _, x, h => h
 | .ptr _ _, x, h => h
 | .ip _, x, h => h
 | .sl _ _ _ _ _, x, h => h
 | .gs _ _, x, h => h
 | .gp _ _ _, x, h => h
 | .mp _, x, h => h
theorem RelL.nn {w : World} {g : Gh} : ∀ (ds : List D) {xs : List Value}, RelL w g ds xs → RelL w g (D.nnL ds) xs
 | [], xs, h => h
 | d :: ds, xs, h => by
   obtain ⟨y, ys, rfl, h1, h2⟩ := h.inv
   exact RelL.cons (Rel.nn d h1) (RelL.nn ds h2)
theorem nnL_length : ∀ ds : List D, (D.nnL ds).length = ds.length
 | [] => rfl
 | d :: ds => by simp [D.nnL, nnL_length ds]
end
theorem zEk {M : Mod} {f : FuncId} {args : List D} {d d' : D} (h : Pur M f args d) (e : d.nn = d') : Pur M f args d' :=
 ⟨h.1, fun w g xs hA hh hr => Calls.mono (h.2 w g xs hA hh hr) fun en w' ⟨v, d1, hp1, g1, e1, ⟨e2, e3⟩, h1, h2⟩ => ⟨v, d', hp1, g1, e1, ⟨rfl, e3⟩, h1, by subst e2; subst e; exact Rel.nn _ h2⟩⟩
section
variable {P : Mod} {dst : Dst} {r : List RO} {rq : List (RO × Bool)} {K : St → Prop} {s : St} {ds : List D}
theorem o_same {f : FuncId} {first cap args : List D} {hp0 hp1 : Hp} {d : D} (h : Eff P f args hp0 fun d' hp' => d' = d ∧ hp' = hp1) (he : first ++ ds ++ cap = args) (hh : s.hp = hp0)
 (hk : opsWp P r K ({ s with hp := hp1 }.put dst d)) : OpS P .call (.fn (.func f) first cap :: ds) dst r K s := by
 unfold OpS OcWp
 simp only [zAa, if_true]
 subst he; subst hh
 exact call_same h (by rintro d' hp' ⟨rfl, rfl⟩; exact hk)
end
end GoV
end
section
set_option linter.unusedSimpArgs false
set_option linter.unusedVariables false
namespace GoV
open Go
end GoV
end
section
set_option linter.unusedSimpArgs false
set_option linter.unusedVariables false
namespace GoV
open Go
section
variable {C : Cfg} {x y : RC} {s s' : St} {i j : Nat}
end
end GoV
end
section
set_option linter.unusedSimpArgs false
set_option linter.unusedVariables false
set_option maxHeartbeats 1000000
namespace GoV
open Go
section
variable {P : Program} {ρ : Operand → Value} {o : Oper} {w0 : World} {g0 : Gh} {hp : Hp} {w : World} {g : Gh} {K : D → Hp → Prop}
theorem done_newG {t : TypeId} {z : List D} {tt : Nat} (hop : o.op = .alloc t) (hz : zCk P t = some z) (hi : Inv w0 g0 hp w g) (hpos : 0 < z.length) (hV : hp.tk[tt]? = some (.chg z.length []))
 (h : K (.gp tt 1 0) { hp with tk := hp.tk.set tt (.chg z.length z) }) : Done P ρ o w0 g0 w g K := by
 obtain ⟨i, zv, h1, h2, h3⟩ := zB7 hz
 obtain ⟨f1, f2⟩ := zDs (w := w) (g := g) h3
 obtain ⟨T, hgT, ⟨hk, hcs, hn0, hIb⟩, hok⟩ := hi.heap.tokBlk hV
 have hT0 : T.len = 0 := by
  rcases Nat.eq_zero_or_pos T.len with q | q
  ·exact q
  ·have := Nat.mul_pos q hok.1
   simp only [List.length_nil] at hcs
   omega
 have hlen : zv.cells.toList.length = z.length := f1.length
 obtain ⟨q1, q2⟩ := hi.goTok (w' := w.alloc (.cells zv.cells.toList.toArray t (0, 0))) (T' := ⟨some w.heap.size, some ⟨w.heap.size, 0, none⟩, 1, T.k, 1⟩) (I' := g.I) (V' := .chg z.length z) hgT rfl (.inr (by simp only [hT0]; omega))
  (fun n hlt _ => zAr w _ n hlt) (by simp) rfl rfl rfl (fun n hn => by simp at hn; subst hn; exact .inr (Nat.le_refl _)) (fun c o ho => ⟨ho, cell_of_heap (zAr w _ c (hi.heap.imm c o ho).1)⟩) (fun c o ho => .inl ho)
  ⟨hok.1, by simp, fun c hc => by simp at hc; subst hc; exact ⟨rfl, fun hm => by have := hi.heap.lt _ hm; omega, Nat.le_refl _, _, t, zBg w _, by rw [List.size_toArray, hlen, ← hk]; simp, by simpa using f2⟩⟩
  (fun he => ⟨hk, by simp only [hk]; omega, by simp, fun c hc => by
   simp at hc; subst hc
   refine ⟨fun o ho => ?_, _, t, zBg w _, ?_⟩
   ·have := (hi.heap.imm _ o ho).1; omega
   ·have e : (zv.cells.toList.toArray.toList.take (1 * T.k)) = zv.cells.toList := by
     rw [List.toList_toArray, Nat.one_mul, ← hk, ← hlen, List.take_length]
    rw [e]
    exact RelL.evo _ he f1.any⟩)
 refine ⟨_, _, _, .pointer (some ⟨w.heap.size, 0, none⟩), _, h, q1, q2, ?_, .inl ?_⟩
 ·simp only [Rel]
  exact ⟨_, _, rfl, zDv hgT, Nat.le_refl _, fun _ => ⟨_, rfl, rfl⟩⟩
 ·simp [execOp, hop, Instr.alloc, zeroValue, typeInfo, h1, h2, newVar, newRow]
end
theorem resolve_newb {P : Program} {op : Op} {z : List D} {xs : List Operand} (h : zAo P op = some (.newb z, xs)) : ∃ t, op = .alloc t ∧ zCk P t = some z := by
 cases op <;> simp only [zAo] at h <;> try (cases h; done)
 case alloc t =>
  cases hz : zCk P t with
  | none => simp [hz] at h
  | some z' =>
    simp only [hz, Option.map_some, Option.some.injEq, Prod.mk.injEq] at h
    obtain ⟨h, _⟩ := h
    split at h
    ·cases h
    ·cases h; exact ⟨t, rfl, hz⟩
 all_goals exfalso
 case convert => simp only [Option.map_eq_some_iff, Prod.mk.injEq] at h; obtain ⟨oc, h1, rfl, _⟩ := h; unfold resCv at h1; (repeat' split at h1) <;> simp at h1
 case buildSlice => simp only [Option.map_eq_some_iff, Prod.mk.injEq] at h; obtain ⟨oc, h1, rfl, _⟩ := h; unfold resBsl at h1; (repeat' split at h1) <;> simp at h1
 case slice =>
  split at h
  ·simp only [Option.map_eq_some_iff, Prod.mk.injEq] at h; obtain ⟨oc, h1, rfl, _⟩ := h; unfold resSlc at h1; (repeat' split at h1) <;> simp at h1
  ·cases h
 case call c =>
  simp only [zFn] at h
  cases hc : c.callee with
  | value g => simp [hc] at h
  | invoke r m => simp [hc] at h
  | builtin b =>
    cases b <;> simp only [hc] at h <;> try (cases h; done)
    all_goals (repeat' split at h) <;> simp_all
 all_goals try unfold resBin at h
 all_goals (repeat' split at h) <;> simp_all
def Fill (oc : OC) (ds : List D) (hp hp1 : Hp) (d : D) : Prop :=
 ∃ z t, oc = .newb z ∧ ds = [] ∧ 0 < z.length ∧ hp.tk[t]? = some (.chg z.length []) ∧ d = .gp t 1 0 ∧ hp1 = { hp with tk := hp.tk.set t (.chg z.length z) }
def OcG (M : Mod) (oc : OC) (ds : List D) (hp hp1 : Hp) (d : D) : Prop := OcWp M oc ds hp (fun d' hp' => d' = d ∧ hp' = hp1) ∨ Fill oc ds hp hp1 d
def StepG (C : Cfg) (ops : Array Oper) (hp hp1 : Hp) (σ : Nat → D) (o : Oper) (d : D) : Prop :=
 ∃ oc xs, zAo C.P o.op = some (oc, xs) ∧ (∃ ys, resOs C xs = some ys) ∧ (∃ ds, zBq C o.dst = some ds) ∧
  ((o.guard = none ∧ OcG C.M oc (xs.map (evO σ)) hp hp1 d) ∨
   ∃ j want t, o.guard = some (j, want) ∧ (ops[j]?).bind (·.dst) = some t ∧ t < C.nt ∧
    ((σ t = .bool want ∧ OcG C.M oc (xs.map (evO σ)) hp hp1 d) ∨ (σ t = .bool (!want) ∧ d = .skip ∧ hp1 = hp) ∨ (σ t = .skip ∧ d = .skip ∧ hp1 = hp)))
section
variable {C : Cfg} {w0 : World} {B : Gh}
theorem StepG.congr {ops : Array Oper} {hp hp1 : Hp} {σ σ' : Nat → D} {o : Oper} {d : D} (h : StepG C ops hp hp1 σ o d) (hs : ∀ t ∈ o.looksAt ops, σ t = σ' t) : StepG C ops hp hp1 σ' o d := by
 obtain ⟨oc, xs, h1, h2, h3, h4⟩ := h
 have hm : xs.map (evO σ) = xs.map (evO σ') := by
  refine List.map_congr_left fun x hx => ?_
  have := resolve_sub h1 x hx
  cases x with
  | tmp t =>
    refine hs t ?_
    simp only [Oper.looksAt, List.mem_append, List.mem_filterMap]
    exact .inl ⟨.tmp t, by simpa using this, rfl⟩
  | _ => rfl
 refine ⟨oc, xs, h1, h2, h3, ?_⟩
 rw [← hm]
 rcases h4 with h4 | ⟨j, want, t, g1, g2, g3, g4⟩
 ·exact .inl h4
 ·refine .inr ⟨j, want, t, g1, g2, g3, ?_⟩
  rw [← hs t (by simp [Oper.looksAt, g1, g2])]
  exact g4
theorem StepG.sound {ro : Option Nat} {Q : Exit → Act → World → Prop} (hA : C.M.start w0 B ∧ PQ C w0 B Q) {ops : Array Oper} {hp hp1 : Hp} {σ : Nat → D} {o : Oper} {d : D} {next : Act → World → Prop} (h : StepG C ops hp hp1 σ o d) {a : Act} {w : World} (hs : SimF C w0 B σ hp a w)
 (ih : ∀ a w, SimF C w0 B (updO σ o.dst d) hp1 a w → next a w) :
 if Region.wanted o (yielded ops a.tmps) then o.wpIn (FR ro) 0 C.P a w next Q else (∀ f, o.about C.P w a.eval = some f → (FR ro).fn f) ∧ next (a.put o.dst Go.undef) w := by
 obtain ⟨oc, xs, h1, ⟨ys, h2⟩, ⟨ds, h3⟩, h4⟩ := h
 obtain ⟨G, hi, gb, g1, g2, g4⟩ := hs
 have run : OcG C.M oc (xs.map (evO σ)) hp hp1 d → o.wpIn (FR ro) 0 C.P a w next Q := by
  rintro (hoc | ⟨z, t, rfl, _, hpos, hV, rfl, rfl⟩)
  ·refine OcWp_sound h1 hA.1 hi (rel_evO g4 h2) hoc (fun ch w' hp => hA.2 _ _ _ g2 hp) ?_
   rintro d' hp' G' v w' ⟨rfl, rfl⟩ k2 k3 k4
   refine ih _ _ ⟨G', k2, gb, by rw [zA5]; exact g1, by rw [zCu]; exact g2, ?_⟩
   exact zFr (fun t => Rel.evo _ k3 (g4 t)) g1 h3 k4
  ·obtain ⟨ty, hop, hz⟩ := resolve_newb h1
   obtain ⟨d', hp', G', v, w', ⟨rfl, rfl⟩, k2, k3, k4, k5⟩ := done_newG (ρ := a.eval) (o := o) (K := fun d' hp' => d' = .gp t 1 0 ∧ hp' = { hp with tk := hp.tk.set t (.chg z.length z) }) hop hz hi hpos hV ⟨rfl, rfl⟩
   have hnd : ∀ c, o.op ≠ .defer c := by
    intro c hc
    rw [hop] at hc; cases hc
   unfold Oper.wpIn
   rw [Oper.semAt_eq _ _ _ hnd]
   refine ⟨fun _ _ => trivial, ?_⟩
   have fin : next (a.put o.dst v) w' := ih _ _ ⟨G', k2, gb, by rw [zA5]; exact g1, by rw [zCu]; exact g2, zFr (fun t => Rel.evo _ k3 (g4 t)) g1 h3 k4⟩
   rcases k5 with k5 | ⟨k5, rfl⟩ <;> rw [k5] <;> exact fin
 have skp : d = .skip ∧ hp1 = hp → next (a.put o.dst Go.undef) w := by
  rintro ⟨rfl, rfl⟩
  refine ih _ _ ⟨G, hi, gb, by rw [zA5]; exact g1, by rw [zCu]; exact g2, ?_⟩
  exact zFr g4 g1 h3 (by simp [Rel])
 rcases h4 with ⟨hog, h4⟩ | ⟨j, want, t, hog, hj, htn, h4⟩
 ·simp only [Region.wanted, hog, if_true]; exact run h4
 ·have hlt : t < a.tmps.size := g1.symm ▸ htn
  have hy : yielded ops a.tmps j = match a.tmps.getD t Go.undef with | .bool b => some b | _ => none := by
   simp [yielded, hj, Array.getD_eq_getD_getElem?, hlt]
   cases a.tmps[t] <;> rfl
  have hrel := g4 t
  rcases h4 with ⟨e, h4⟩ | ⟨e, h4⟩ | ⟨e, h4⟩
  ·rw [e] at hrel; simp only [Rel] at hrel
   have : Region.wanted o (yielded ops a.tmps) = true := by
    simp only [Region.wanted, hog]; rw [hy, hrel]; cases want <;> rfl
   rw [this]; simp only [if_true]; exact run h4
  iterate 2
   ·rw [e] at hrel; simp only [Rel] at hrel
    have : Region.wanted o (yielded ops a.tmps) = false := by
     simp only [Region.wanted, hog]; rw [hy, hrel]; cases want <;> rfl
    rw [this]; simp only [Bool.false_eq_true, if_false]; exact ⟨fun _ _ => trivial, skp h4⟩
end
section
variable {M : Mod} {F : (Nat → Bool) → Hp} {L : List (Nat × Nat)} {i : Nat} {dst : Dst} {q : Bool} {r : List (RO × Bool)} {K : St → Prop} {s : St} {oc : OC} {args : List Opd}
end
end GoV
end
section
set_option linter.unusedSimpArgs false
set_option linter.unusedVariables false
namespace GoV
open Go
theorem Inv.grow {w0 g0 hp w g} (h : Inv w0 g0 hp w g) (os : Array Obj) : Inv w0 g0 hp (Go.Sort.grow w os) g ∧ Evo w g (Go.Sort.grow w os) g := by
 have hb : ∀ n, n < w.heap.size → (Go.Sort.grow w os).heap[n]? = w.heap[n]? := fun n hn => by
  show (w.heap ++ os)[n]? = w.heap[n]?
  rw [Array.getElem?_append_left hn]
 have he : Evo w g (Go.Sort.grow w os) g := ⟨fun b o' hi => ⟨hi, cell_of_heap (hb b (h.heap.imm b o' hi).1)⟩, fun _ _ h => h, fun _ T h => ⟨T, h, rfl, .inl rfl⟩⟩
 refine ⟨h.step (h.heap.other he rfl rfl (fun n hn => hb n (h.heap.own_lt n hn)) (by simp) fun b o ho => .inl ho) he ⟨rfl, rfl, rfl, by simp, fun b hb' _ => hb b hb'⟩ (fun n hn => .inl hn) (fun n hn => .inl hn) (fun b o ho => .inl ho), he⟩
section
variable {P : Mod} {r : List RO} {rq : List (RO × Bool)} {K : St → Prop} {s : St} {dst : Dst}
end
end GoV
end
section
set_option linter.unusedSimpArgs false
set_option linter.unusedVariables false
set_option maxHeartbeats 1000000
namespace GoV
open Go
end GoV
end
section
set_option linter.unusedSimpArgs false
set_option linter.unusedVariables false
namespace GoV
open Go
end GoV
end
section
set_option linter.unusedSimpArgs false
set_option linter.unusedVariables false
namespace GoV
open Go
theorem tw : 1 + 1 = 2 := rfl
theorem sd {W p : Prop} (ws : W) (h : W → p := by
 intro ws
 first | rfl | assumption | omega | ((first | refine ⟨?_, ?_⟩ | skip) <;> first | omega | (simp only [lN, ws] <;> omega)) | (simp [zAk, D.iV, D.cells, D.cL, D.closed, ws]; first | done | omega)) : p := h ws
theorem sh {W p : Prop} (ws : W) (h : W → p := by
 intro ws
 first | rfl | (simp [go_sem, seval, ws] <;> fail)) : p := h ws
theorem sc {W p : Prop} (ws : W) (h : W → p := by
 intro ws
 first | rfl | (simp [D.erL, D.er, D.cL, D.closed, ws] <;> fail)) : p := h ws
theorem sw {W p : Prop} (ws : W) (h : W → p := by
 intro ws
 first | omega | rfl | exact ⟨_, _, rfl⟩ | assumption | (simp only [lN, ws] <;> omega)) : p := h ws
theorem so {p : Prop} (h : p := by exact ⟨by simp, by simp, by simp, by simp⟩) : p := h
theorem wA : (∀ {n : Int}, -9223372036854775808 ≤ n → n ≤ 9223372036854775807 → IntKind.i64.wrap n = n) ∧ (∀ {n : Int}, -2147483648 ≤ n → n ≤ 2147483647 → IntKind.i32.wrap n = n) ∧ (∀ {n : Int}, 0 ≤ n → n ≤ 255 → IntKind.u8.wrap n = n) ∧ (∀ {n : Int}, 0 ≤ n → n ≤ 65535 → IntKind.u16.wrap n = n) ∧ (∀ {n : Int}, 0 ≤ n → n ≤ 4294967295 → IntKind.u32.wrap n = n) ∧ (∀ {n : Int}, 0 ≤ n → n ≤ 18446744073709551615 → IntKind.u64.wrap n = n) := ⟨w64, w32, wu8, wu16, wu32, wu64⟩
inductive SWi (C : Cfg) : RC → (Ex → St → Prop) → St → Prop
 | seq {x y : RC} {Q : Ex → St → Prop} {s : St} (h : SWp C x (fun e s' => match e with | .normal => SWp C y Q s' | e => Q e s') s) : SWi C (.seq x y) Q s
 | reg {ros : List RO} {Q : Ex → St → Prop} {s : St} (h : opsWp C.M ros (fun s' => Q .normal s'.done) s) : SWi C (.reg ros) Q s
 | regD {qs : List (RO × Bool)} {ros : List RO} {Q : Ex → St → Prop} {s : St} (h : opsQ C.M qs (fun s1 => opsWp C.M ros (fun s' => Q .normal s'.done) s1) s) : SWi C (.regD qs ros) Q s
 | block {id : Nat} {x : RC} {Q : Ex → St → Prop} {s : St} (h : SWp C x (fun e s' => match e with | .exit i => if i = id then Q .normal s' else Q (.exit i) s' | e => Q e s') s) : SWi C (.block id x) Q s
 | exit {id : Nat} {Q : Ex → St → Prop} {s : St} (h : Q (.exit id) s) : SWi C (.exit id) Q s
 | scope {x : RC} {Q : Ex → St → Prop} {s : St} (h : SWp C x Q s) : SWi C (.scope x) Q s
 | ret {Q : Ex → St → Prop} {s : St} (h : Q .ret s) : SWi C .ret Q s
 | skip {Q : Ex → St → Prop} {s : St} (h : Q .normal s) : SWi C .skip Q s
 | cd {g : Opd} {x y : RC} {Q : Ex → St → Prop} {s : St} (h : CdS C (s.get g) g x y Q s) : SWi C (.cond g x y) Q s
theorem swq {C : Cfg} {rc : RC} {Q : Ex → St → Prop} {s : St} (h : SWi C rc Q s) : SWp C rc Q s := by
 cases h with
 | seq h => exact swp_seq h
 | reg h => exact swp_reg h
 | regD h => exact swp_regD h
 | block h => exact swp_block h
 | exit h => exact swp_exit h
 | scope h => exact swp_scope h
 | ret h => exact swp_ret h
 | skip h => exact swp_skip h
 | cd h => exact swp_cd h
inductive CdI (C : Cfg) : D → Opd → RC → RC → (Ex → St → Prop) → St → Prop
 | dec {p : Prop} {_ : Decidable p} {g : Opd} {x y : RC} {Q : Ex → St → Prop} {s : St} (h1 : p → SWp C x Q (s.setO g (.bool true))) (h2 : ¬p → SWp C y Q (s.setO g (.bool false))) : CdI C (.bool (decide p)) g x y Q s
 | eq {a b : Int} {g : Opd} {x y : RC} {Q : Ex → St → Prop} {s : St} (h1 : a = b → SWp C x Q (s.setO g (.bool true))) (h2 : a ≠ b → SWp C y Q (s.setO g (.bool false))) : CdI C (.bool (a == b)) g x y Q s
 | ne {a b : Int} {g : Opd} {x y : RC} {Q : Ex → St → Prop} {s : St} (h1 : a ≠ b → SWp C x Q (s.setO g (.bool true))) (h2 : a = b → SWp C y Q (s.setO g (.bool false))) : CdI C (.bool (a != b)) g x y Q s
 | any {c : Bool} {g : Opd} {x y : RC} {Q : Ex → St → Prop} {s : St} (h1 : c = true → SWp C x Q (s.setO g (.bool true))) (h2 : c = false → SWp C y Q (s.setO g (.bool false))) : CdI C (.bool c) g x y Q s
theorem cdA {C : Cfg} {b : D} {g : Opd} {x y : RC} {Q : Ex → St → Prop} {s : St} (h : CdI C b g x y Q s) : CdS C b g x y Q s := by
 cases h with
 | dec h1 h2 => exact cd_split (fun h => h1 (of_decide_eq_true h)) (fun h => h2 (of_decide_eq_false h))
 | eq h1 h2 => exact cd_split (fun h => h1 (by simpa using h)) (fun h => h2 (by simpa using h))
 | ne h1 h2 => exact cd_split (fun h => h1 (by simpa using h)) (fun h => h2 (by simpa using h))
 | any h1 h2 => exact cd_split h1 h2
inductive GdI (P : Mod) : D → Opd → Bool → Dst → OC → List Opd → List RO → (St → Prop) → St → Prop
 | dec {p : Prop} {_ : Decidable p} {g : Opd} {want : Bool} {dst : Dst} {oc : OC} {args : List Opd} {r : List RO} {K : St → Prop} {s : St} (h1 : p → GdS P (.bool true) g want dst oc args r K s) (h2 : ¬p → GdS P (.bool false) g want dst oc args r K s) : GdI P (.bool (decide p)) g want dst oc args r K s
 | eq {a b : Int} {g : Opd} {want : Bool} {dst : Dst} {oc : OC} {args : List Opd} {r : List RO} {K : St → Prop} {s : St} (h1 : a = b → GdS P (.bool true) g want dst oc args r K s) (h2 : a ≠ b → GdS P (.bool false) g want dst oc args r K s) : GdI P (.bool (a == b)) g want dst oc args r K s
 | ne {a b : Int} {g : Opd} {want : Bool} {dst : Dst} {oc : OC} {args : List Opd} {r : List RO} {K : St → Prop} {s : St} (h1 : a ≠ b → GdS P (.bool true) g want dst oc args r K s) (h2 : a = b → GdS P (.bool false) g want dst oc args r K s) : GdI P (.bool (a != b)) g want dst oc args r K s
 | any {c : Bool} {g : Opd} {want : Bool} {dst : Dst} {oc : OC} {args : List Opd} {r : List RO} {K : St → Prop} {s : St} (h1 : c = true → GdS P (.bool true) g want dst oc args r K s) (h2 : c = false → GdS P (.bool false) g want dst oc args r K s) : GdI P (.bool c) g want dst oc args r K s
theorem gdA {P : Mod} {b : D} {g : Opd} {want : Bool} {dst : Dst} {oc : OC} {args : List Opd} {r : List RO} {K : St → Prop} {s : St} (h : GdI P b g want dst oc args r K s) : GdS P b g want dst oc args r K s := by
 cases h with
 | dec h1 h2 => exact gd_split (fun h => h1 (of_decide_eq_true h)) (fun h => h2 (of_decide_eq_false h))
 | eq h1 h2 => exact gd_split (fun h => h1 (by simpa using h)) (fun h => h2 (by simpa using h))
 | ne h1 h2 => exact gd_split (fun h => h1 (by simpa using h)) (fun h => h2 (by simpa using h))
 | any h1 h2 => exact gd_split h1 h2
inductive GqI (P : Mod) (qf : Bool) : D → Opd → Bool → Dst → OC → List Opd → List (RO × Bool) → (St → Prop) → St → Prop
 | dec {p : Prop} {_ : Decidable p} {g : Opd} {want : Bool} {dst : Dst} {oc : OC} {args : List Opd} {r : List (RO × Bool)} {K : St → Prop} {s : St} (h1 : p → GdQ P qf (.bool true) g want dst oc args r K s) (h2 : ¬p → GdQ P qf (.bool false) g want dst oc args r K s) : GqI P qf (.bool (decide p)) g want dst oc args r K s
 | eq {a b : Int} {g : Opd} {want : Bool} {dst : Dst} {oc : OC} {args : List Opd} {r : List (RO × Bool)} {K : St → Prop} {s : St} (h1 : a = b → GdQ P qf (.bool true) g want dst oc args r K s) (h2 : a ≠ b → GdQ P qf (.bool false) g want dst oc args r K s) : GqI P qf (.bool (a == b)) g want dst oc args r K s
 | ne {a b : Int} {g : Opd} {want : Bool} {dst : Dst} {oc : OC} {args : List Opd} {r : List (RO × Bool)} {K : St → Prop} {s : St} (h1 : a ≠ b → GdQ P qf (.bool true) g want dst oc args r K s) (h2 : a = b → GdQ P qf (.bool false) g want dst oc args r K s) : GqI P qf (.bool (a != b)) g want dst oc args r K s
 | any {c : Bool} {g : Opd} {want : Bool} {dst : Dst} {oc : OC} {args : List Opd} {r : List (RO × Bool)} {K : St → Prop} {s : St} (h1 : c = true → GdQ P qf (.bool true) g want dst oc args r K s) (h2 : c = false → GdQ P qf (.bool false) g want dst oc args r K s) : GqI P qf (.bool c) g want dst oc args r K s
structure FnOk (M : Mod) (f : FuncId) (na : Nat) (fn : Func) (E : Nat → Nat → Cfg) (rc : RC) (rs : List RR) : Prop where
 c : ∀ n m, (E n m).M = M ∧ (E n m).n0 = n ∧ (E n m).m0 = m ∧ (E n m).dfs = [] ∧ fn.ntmps = (E n m).nt ∧ (E n m).pers.take na = List.range na ∧ na ≤ (E n m).nt
 hf : M.P.funcs[f]? = some fn
 hb : fn.body = some (fn.body.getD .skip)
 z : ∀ n m, zAe (E n m) (fn.body.getD .skip) = some rc
 zr : ∀ n m, resRs (E n m) fn.results.toList = some rs
 nm : (fn.name == "runtime.NumGoroutine") = false
 bs : ∀ w g, M.base w g
 np : ∀ d hp, ¬ M.pan d hp
theorem fnOk {M : Mod} {f : FuncId} {na : Nat} {fn : Func} {E : Nat → Nat → Cfg} {rc : RC} {rs : List RR} (hf : M.P.funcs[f]? = some fn)
 (hb : fn.body = some (fn.body.getD .skip) := by kernel_rfl) (z : ∀ n m, zAe (E n m) (fn.body.getD .skip) = some rc := by intro n m; kernel_rfl) (zr : ∀ n m, resRs (E n m) fn.results.toList = some rs := by intro n m; kernel_rfl)
 (nm : (fn.name == "runtime.NumGoroutine") = false := by kernel_rfl) (bs : ∀ w g, M.base w g := by exact fun _ _ => trivial) (np : ∀ d hp, ¬ M.pan d hp := by exact fun _ _ h => h)
 (c : ∀ n m, (E n m).M = M ∧ (E n m).n0 = n ∧ (E n m).m0 = m ∧ (E n m).dfs = [] ∧ fn.ntmps = (E n m).nt ∧ (E n m).pers.take na = List.range na ∧ na ≤ (E n m).nt := by intro n m; exact ⟨rfl, rfl, rfl, rfl, by kernel_rfl, rfl, of_decide_eq_true rfl⟩) :
 FnOk M f na fn E rc rs := ⟨c, hf, hb, z, zr, nm, bs, np⟩
section
variable {M : Mod} {f : FuncId} {na : Nat} {fn : Func} {E : Nat → Nat → Cfg} {rc : RC} {rs : List RR}
theorem FnOk.oe (k : FnOk M f na fn E rc rs) {args : List D} {hp : Hp} {R : D → Hp → Prop} (n m : Nat) (hl : args.length = na) (hn : n = hp.H.length) (hm : m = hp.tk.length)
 (h : SWp (E n m) rc (fun e s => (match e with | .exit _ => False | _ => True) ∧ ∃ s1, Weak (E n m) s s1 ∧ rrsWp rs s1 fun ds => R (zAl ds) s1.hp) (St.init (E n m) args hp)) : Eff M f args hp R := by
 obtain ⟨c1, c2, c3, c4, c5, c6, c7⟩ := k.c n m
 have hf := k.hf
 have hb := k.bs
 have hn2 := k.np
 rw [← c1] at hf hb hn2 ⊢
 exact eff_of_body hf k.hb c5 (k.z n m) (k.zr n m) k.nm (by rw [hl]; exact c6) (by rw [hl]; exact c7) (by rw [c2]; exact hn) (by rw [c3]; exact hm) h c4 hb hn2
theorem FnOk.ow (k : FnOk M f na fn E rc rs) {C : Cfg} (hC : E 0 0 = C) {args : List D} {d : D} (hl : args.length = na)
 (h : SWp C rc (fun e s => (match e with | .exit _ => False | _ => True) ∧ ∃ s1, Weak C s s1 ∧ rrsWp rs s1 fun ds => D.closed (zAl ds) = true ∧ (zAl ds).er = d) (St.init C args ⟨[], []⟩)) : Pur M f args d := by
 subst hC
 obtain ⟨c1, c2, c3, c4, c5, c6, c7⟩ := k.c 0 0
 have hf := k.hf
 have hb := k.bs
 have hn2 := k.np
 rw [← c1] at hf hb hn2 ⊢
 exact pur_of_bodyW hf k.hb c5 (k.z 0 0) (k.zr 0 0) k.nm (by rw [hl]; exact c6) (by rw [hl]; exact c7) c2 c3 h c4 hb hn2
theorem FnOk.ok (k : FnOk M f na fn E rc rs) {C : Cfg} (hC : E 0 0 = C) {args : List D} {d : D} (hl : args.length = na)
 (h : SWp C rc (fun e s => (match e with | .exit _ => False | _ => True) ∧ rrsWp rs s fun ds => D.closed (zAl ds) = true ∧ (zAl ds).er = d) (St.init C args ⟨[], []⟩)) : Pur M f args d :=
 k.ow hC hl (zCq h fun _ s hq => ⟨s, zAf, hq.1, s, zAf, hq.2⟩)
end
end GoV
end
section
set_option linter.unusedSimpArgs false
set_option linter.unusedVariables false
namespace GoV
open Go
def Mod.pans (M : Mod) (p : D → Hp → Prop) : Mod := { M with pan := p }
def Cfg.pans (C : Cfg) (p : D → Hp → Prop) : Cfg := { C with M := C.M.pans p }
theorem zAy {C : Cfg} {p : D → Hp → Prop} : (C.pans p).M = C.M.pans p := rfl
theorem zAm {M : Mod} {f : FuncId} {args : List D} {hp : Hp} {R : D → Hp → Prop} (h : Eff M f args hp R) (p : D → Hp → Prop) : Eff (M.pans p) f args hp R := h
def Xff (M : Mod) (f : FuncId) (args : List D) (hp : Hp) (R : D → Hp → Prop) : Prop :=
 zBs M f ∧ ∀ w g xs, M.amb w g.own → HeapRel w g hp → RelL w g args xs → Calls M.P f xs.toArray w fun e w' =>
  ∃ v d hp' g', e = .panicked [{ v, recovered := false }] ∧ R d hp' ∧ Inv w g hp' w' g' ∧ Rel w' g' d v
theorem zBc {M : Mod} {f : FuncId} {args : List D} {hp : Hp} {R : D → Hp → Prop} (h : Xff M f args hp R) (p : D → Hp → Prop) : Xff (M.pans p) f args hp R := h
theorem call_pan {M : Mod} {f : FuncId} {first cap args : List D} {K : D → Hp → Prop} {ds : List D} {hp hp0 : Hp} {R : D → Hp → Prop} (bl tl : List Nat) (h : Xff M f ds hp0 R) (hs : SelOk hp bl tl)
 (hd : D.rnL (posF bl) (posF tl) (first ++ args ++ cap) = ds) (hh : hp.sel bl tl = hp0)
 (hk : ∀ d hp1, R d hp1 → M.pan (d.rn (bakF bl hp.H.length) (bakF tl hp.tk.length)) (hp.back bl tl hp1)) : CallOp M (.fn (.func f) first cap :: args) hp K := by
 intro w0 B w G vs hA hi hr
 obtain ⟨fv, av, rfl, h1, h2⟩ := hr.inv
 simp only [Rel] at h1
 obtain ⟨xs, ys, rfl, h3, h4⟩ := h1
 refine .inr (.inr ⟨f, xs.toArray, ys.toArray, av, rfl, h.1, ?_⟩)
 have hall := RelL.rn _ (Ren.sel hi.heap hs) ((h3.append h2).append h4)
 have hhs := hi.heap.sel hs
 rw [hd] at hall
 rw [hh] at hhs
 have hamb : M.amb w (G.sel bl tl).own := M.up _ _ _ _ hA.1 hi.keeps fun n hn => hi.new n (own_sel hn)
 have hcall := h.2 w (G.sel bl tl) (xs ++ av ++ ys) hamb hhs hall
 have e : (xs.toArray ++ av.toArray ++ ys.toArray) = (xs ++ av ++ ys).toArray := by simp
 rw [e]
 refine Calls.mono hcall fun e w' hp' => ?_
 obtain ⟨v, d, hp1, g1, rfl, hR, g3, g4⟩ := hp'
 obtain ⟨q1, q2, q3⟩ := hi.back hs g3
 exact ⟨v, _, _, _, rfl, hk d hp1 hR, q1, Rel.rn _ q3 g4⟩
section
variable {P : Mod} {r : List RO} {K : St → Prop} {s : St} {dst : Dst} {ds : List D}
theorem o_pan {f : FuncId} {first cap ds' : List D} {hp0 : Hp} {R : D → Hp → Prop} (bl tl : List Nat) (h : Xff P f ds' hp0 R) (hs : SelOk s.hp bl tl) (hd : D.rnL (posF bl) (posF tl) (first ++ ds ++ cap) = ds') (hh : s.hp.sel bl tl = hp0)
 (hk : ∀ d hp1, R d hp1 → P.pan (d.rn (bakF bl s.hp.H.length) (bakF tl s.hp.tk.length)) (s.hp.back bl tl hp1)) : OpS P .call (.fn (.func f) first cap :: ds) dst r K s := by
 unfold OpS OcWp
 simp only [zAa, if_true]
 exact call_pan bl tl h hs hd hh hk
theorem s_pan {t : Nat} {d : D} (h : P.pan (.iface t d) s.hp) : OpS P .pan [.iface t d] dst r K s := by
 unfold OpS OcWp
 simp only [zAa, isPan, Bool.false_eq_true, if_false, if_true]
 exact ⟨t, d, rfl, h⟩
end
theorem zB8 {C : Cfg} {f : FuncId} {fn : Func} {c : Code} {rc : RC} (hf : C.P.funcs[f]? = some fn) (hb : fn.body = some c) (hnt : fn.ntmps = C.nt) (hrc : zAe C c = some rc)
 {args : List D} {hp : Hp} {R : D → Hp → Prop} (hname : (fn.name == "runtime.NumGoroutine") = false) (hpl : C.pers.take args.length = List.range args.length) (hlt : args.length ≤ C.nt) (hn0 : C.n0 = hp.H.length) (hm0 : C.m0 = hp.tk.length)
 (h : SWp (C.pans R) rc (fun _ _ => False) (St.init C args hp)) (hd0 : C.dfs = []) (hbs : ∀ w g, C.M.base w g) : Xff C.M f args hp R := by
 refine ⟨⟨fn, hf, by simp [hb], hname⟩, fun w g xs hA hH hargs => ?_⟩
 refine calls_of_wp hf hb ((wpIn_wide (n := 0)).1 ?_)
 have hsim := zD0 (C := C.pans R) hnt hpl hlt hn0 hm0 hd0 hH hargs
 refine wpIn_mono (h.run c (zCd hrc rfl rfl rfl) w g ⟨hA, hbs _ _⟩ _ w hsim none) fun e a' w' hl => ?_
 cases e <;> simp only [Lift, bodyPost] at hl ⊢
 case panic ch =>
  obtain ⟨h1, v, d, hp', G', e1, h2, h3, h4⟩ := hl
  exact ⟨h1.trans hd0, v, d, hp', G', e1, h2, h3, h4⟩
 all_goals (obtain ⟨_, _, q⟩ := hl; exact q.elim)
def callM (o : Option FuncId) (d : D) (args : List D) : List D :=
 match o with
 | some f => .fn (.func f) [d] [] :: args
 | none => [.u0]
theorem callM_some {f : FuncId} {d : D} {args : List D} : callM (some f) d args = .fn (.func f) [d] [] :: args := by simp [callM]
theorem callDs_iface {P : Mod} {name : String} {t : Nat} {d : D} {args : List D} : zDp P (.inv name) (.iface t d :: args) = callM (zB3 P.P t name) d args := by
 simp only [zDp, callM]
 cases zB3 P.P t name <;> rfl
section
variable {P : Mod} {r : List RO} {rq : List (RO × Bool)} {K : St → Prop} {s : St} {dst : Dst} {ds : List D}
theorem o_inv {name : String} : OpS P (.inv name) ds dst r K s = OpS P .call (zDp P (.inv name) ds) dst r K s := by
 simp [OpS, OcWp, zAa, zDp]
theorem p_inv {name : String} : OpQ P (.inv name) ds dst rq K s = OpQ P .call (zDp P (.inv name) ds) dst rq K s := by
 simp [OpQ, zAh, zAa, zDp]
theorem c_inv {name : String} : OpC P (.inv name) ds dst rq K s = OpC P .call (zDp P (.inv name) ds) dst rq K s := by
 simp [OpC, detWp, OcWp, zAa, zDp]
end
attribute [go_sem] callM_some callDs_iface o_inv p_inv c_inv
end GoV
end
section
set_option linter.unusedSimpArgs false
set_option linter.unusedVariables false
set_option maxHeartbeats 1000000
namespace GoV
open Go
theorem take_sel {α : Type} (l : List α) : ∀ n, n ≤ l.length → (List.range n).filterMap (l[·]?) = l.take n
 | 0, _ => by simp
 | n + 1, h => by
   rw [List.range_succ, List.filterMap_append, take_sel l n (by omega), List.take_succ_eq_append_getElem (by omega)]
   simp [show n < l.length by omega]
theorem cut_sel {G : Gh} {n m : Nat} (hn : n ≤ G.r.length) (hm : m ≤ G.tk.length) : G.sel (List.range n) (List.range m) = G.cut n m := by
 unfold Gh.sel Gh.cut
 rw [take_sel _ _ hn, take_sel _ _ hm]
theorem range_ok {hp : Hp} {n m : Nat} (hn : n ≤ hp.H.length) (hm : m ≤ hp.tk.length) : SelOk hp (List.range n) (List.range m) :=
 ⟨List.nodup_range, List.nodup_range, fun b hb => by have := List.mem_range.1 hb; omega, fun b hb => by have := List.mem_range.1 hb; omega⟩
theorem Evo.selR {w w' : World} {G G' : Gh} {n m : Nat} (h : Evo w G w' G') (hn : G.r.length ≤ n) (hm : G.tk.length ≤ m) (hn' : n ≤ G'.r.length) (hm' : m ≤ G'.tk.length) : Evo w G w' (G'.sel (List.range n) (List.range m)) := by
 rw [cut_sel hn' hm']
 refine ⟨h.imm, fun b k hb => ?_, fun t T hT => ?_⟩
 ·have := zAg hb
  show (G'.r.take n)[b]? = some k
  rw [List.getElem?_take_of_lt (by omega)]; exact h.ref b k hb
 ·have := zAg hT
  obtain ⟨T', h1, h2⟩ := h.tok t T hT
  refine ⟨T', ?_, h2⟩
  show (G'.tk.take m)[t]? = some T'
  rw [List.getElem?_take_of_lt (by omega)]; exact h1
def YOkB (M : Mod) (l : Nat) (x : List D) (hp hp' : Hp) (b : Bool) : Prop :=
 ∀ w0 B, M.base w0 B → ∀ w G vs, Inv w0 B hp w G → RelL w G x vs → YieldAt Fence.wide 0 M.P l vs.toArray w (Post w G fun d h => d = .bool b ∧ h = hp')
theorem call_yieldX {M : Mod} {l n m : Nat} {x x' : List D} {hp hp0 hp1 hp2 : Hp} {b : Bool} {K : D → Hp → Prop} (h : YOkB M l x hp0 hp1 b) (hB : ∀ w0 B, M.base w0 B → B.r.length = n ∧ B.tk.length = m) (hx : D.rnL (cutF n) (cutF m) x' = x) (hn : n ≤ hp.H.length) (hm : m ≤ hp.tk.length)
 (hc : hp.cut n m = hp0) (hb : hp.back (List.range n) (List.range m) hp1 = hp2) (hk : K (.bool b) hp2) : CallOp M (yldD l :: x') hp K := by
 intro w0 B w G vs hA hi hr
 obtain ⟨v, av, rfl, h1, h2⟩ := hr.inv
 simp only [yldD, Rel] at h1
 obtain ⟨rfl, _⟩ := h1
 refine .inr (.inl ⟨l, av, rfl, ?_⟩)
 obtain ⟨b1, b2⟩ := hB w0 B hA.2
 have hcut := hi.cut n m (by omega) (by omega)
 rw [hc] at hcut
 have h3 := RelL.rn x' (Ren.cut G n m) h2
 rw [hx] at h3
 obtain ⟨fn, tmps, asg, bd, e1, e2⟩ := h w0 B hA.2 w (G.cut n m) av hcut h3
 refine ⟨fn, tmps, asg, bd, e1, e2.mono fun e w' hp => ?_⟩
 obtain ⟨v, d, hp1', G', rfl, ⟨rfl, rfl⟩, g1, g2⟩ := hp
 have hln : n ≤ G.r.length := by rw [← hi.heap.len]; exact hn
 have hlm : m ≤ G.tk.length := by rw [← hi.heap.lent]; exact hm
 rw [← cut_sel hln hlm] at g1
 obtain ⟨q1, q2, q3⟩ := hi.back (range_ok hn hm) g1
 rw [hb] at q1
 exact ⟨v, _, _, _, rfl, hk, q1, q2, by simpa [D.rn] using Rel.rn (.bool b) q3 g2⟩
theorem o_yieldX {M : Mod} {r : List RO} {K : St → Prop} {s : St} {dst : Dst} {l n m : Nat} {x x' : List D} {hp0 hp1 hp2 : Hp} {b : Bool} (h : YOkB M l x hp0 hp1 b) (hB : ∀ w0 B, M.base w0 B → B.r.length = n ∧ B.tk.length = m) (hx : D.rnL (cutF n) (cutF m) x' = x) (hn : n ≤ s.hp.H.length) (hm : m ≤ s.hp.tk.length)
 (hc : s.hp.cut n m = hp0) (hb : s.hp.back (List.range n) (List.range m) hp1 = hp2) (hk : opsWp M r K ({ s with hp := hp2 }.put dst (.bool b))) :
 OpS M .call (yldD l :: x') dst r K s := by
 unfold OpS OcWp
 simp only [zAa, if_true]
 exact call_yieldX h hB hx hn hm hc hb hk
def yans (xs : List (List D)) (stp : Bool) (k : Nat) : Bool := !(stp && decide (k + 1 = xs.length))
structure Steady (hpk : Nat → Hp) (n m : Nat) : Prop where
 len : ∀ k, (hpk k).H.length = n
 lent : ∀ k, (hpk k).tk.length = m
 gc : ∀ k (L : List Blk), Hp.cut ⟨(hpk k).H ++ L, (hpk k).tk⟩ n m = hpk k
 sel : ∀ k (L : List Blk), Hp.sel ⟨(hpk k).H ++ L, (hpk k).tk⟩ (List.range n) (List.range m) = hpk k
 bk : ∀ k (L : List Blk), Hp.back ⟨(hpk k).H ++ L, (hpk k).tk⟩ (List.range n) (List.range m) (hpk (k + 1)) = ⟨(hpk (k + 1)).H ++ L, (hpk (k + 1)).tk⟩
theorem o_yieldS {M : Mod} {r : List RO} {K : St → Prop} {s : St} {dst : Dst} {l n m k : Nat} {hpk : Nat → Hp} {x x' : List D} {L : List Blk} {b : Bool} (hst : Steady hpk n m) (h : YOkB M l x (hpk k) (hpk (k + 1)) b) (hB : ∀ w0 B, M.base w0 B → B.r.length = n ∧ B.tk.length = m)
 (hx : D.rnL (cutF n) (cutF m) x' = x) (hh : s.hp = ⟨(hpk k).H ++ L, (hpk k).tk⟩) (hk : opsWp M r K ({ s with hp := ⟨(hpk (k + 1)).H ++ L, (hpk (k + 1)).tk⟩ }.put dst (.bool b))) : OpS M .call (yldD l :: x') dst r K s :=
 o_yieldX h hB hx (by rw [hh]; simp [hst.len]) (by rw [hh]; simp [hst.lent]) (by rw [hh]; exact hst.gc _ _) (by rw [hh]; exact hst.bk _ _) hk
def IterS (M : Mod) (f : FuncId) (caps : List D) (xs : List (List D)) (stp : Bool) : Prop :=
 zBs M f ∧ ∀ (hpk : Nat → Hp) (n m : Nat), Steady hpk n m → ∀ (w : World) (g : Gh) (l : Nat), M.amb w g.own → HeapRel w g (hpk 0) →
  (∀ k x, xs[k]? = some x → ∀ w' G vs, Inv w g (hpk k) w' G → RelL w' G x vs → YieldAt Fence.wide 0 M.P l vs.toArray w' (Post w' G fun d h => d = .bool (yans xs stp k) ∧ h = hpk (k + 1))) →
  ∀ vs, RelL w g caps vs → Calls M.P f (#[.func (.yield l) #[] #[]] ++ vs.toArray) w (Post w g fun _ h => h = hpk xs.length)
theorem iterS_of_body {C : Cfg} {f : FuncId} {fn : Func} {c : Code} {rc : RC} (hf : C.P.funcs[f]? = some fn) (hb : fn.body = some c) (hnt : fn.ntmps = C.nt) (hrc : zAe C c = some rc) (hrs : fn.results.toList = [])
 {caps : List D} {xs : List (List D)} {stp : Bool} (hname : (fn.name == "runtime.NumGoroutine") = false) (hpl : C.pers.take (caps.length + 1) = List.range (caps.length + 1)) (hlt : caps.length + 1 ≤ C.nt)
 (h : ∀ (b : World → Gh → Prop) (hpk : Nat → Hp) (n m : Nat) (l : Nat), Steady hpk n m → (∀ w0 B, (C.M.with b).base w0 B → B.r.length = n ∧ B.tk.length = m) → (∀ k x, xs[k]? = some x → YOkB (C.M.with b) l x (hpk k) (hpk (k + 1)) (yans xs stp k)) →
  SWp (C.atB b (hpk 0)) rc (fun e s => (match e with | .exit _ => False | _ => True) ∧ ∃ s1, Weak (C.atB b (hpk 0)) s s1 ∧ s1.hp = hpk xs.length) (St.init C (yldD l :: caps) (hpk 0))) (hpan : ∀ d hp, ¬ C.M.pan d hp := by exact fun _ _ h => h) : IterS C.M f caps xs stp := by
 refine ⟨⟨fn, hf, by simp [hb], hname⟩, fun hpk n m hst w g l hA hH hR vs hvs => ?_⟩
 have e : (#[.func (.yield l) #[] #[]] ++ vs.toArray : Array Value) = (Value.func (.yield l) #[] #[] :: vs).toArray := by simp
 rw [e]
 have hs := h (fun w0 B => w0 = w ∧ B = g) hpk n m l hst (fun w0 B hb => by
  obtain ⟨rfl, rfl⟩ := hb
  exact ⟨by rw [← hH.len, hst.len], by rw [← hH.lent, hst.lent]⟩) (fun k x hx w0 B hb => by obtain ⟨rfl, rfl⟩ := hb; exact hR k x hx)
 refine body_spec (C := C.atB (fun w0 B => w0 = w ∧ B = g) (hpk 0)) (fn := fn) (c := c) (rc := rc) (rs := []) hf hb hnt
  (zCd hrc rfl rfl rfl) (by rw [hrs]; rfl) (args := yldD l :: caps) (hp := hpk 0) (R := fun _ h => h = hpk xs.length) hpl hlt rfl rfl ?_ rfl hpan ⟨hA, rfl, rfl⟩ hH ?_
 ·refine zCq hs fun e s hq => ?_
  obtain ⟨s1, h1, h2⟩ := hq.2
  exact ⟨s, zAf, hq.1, s1, h1, by simpa [rrsWp] using h2⟩
 ·simp only [RelL]
  exact ⟨_, _, rfl, by simp [yldD, Rel, Value.oneCell'], hvs⟩
section
variable {C : Cfg} {n m : Nat} {Q : Ex → Nat → Nat → St → Prop} {s : St}
theorem twp_rangeS {g : Opd} {ps : List Dst} {x y : RC} (hbs : ∀ w g, C.M.base w g) {f : FuncId} {caps : List D} {xs : List (List D)} {stp : Bool} (hit : IterS C.M f caps xs stp) (hpk : Nat → Hp) (N Mt : Nat) (hs0 : Steady hpk N Mt) (hst : ∀ r : Nat → Obj, Steady (fun k => ⟨(hpk k).H ++ [.raw (r k)], (hpk k).tk⟩) (N + 1) Mt)
 (hrow : ∀ r ∈ xs, D.rnL (posF (List.range N)) (posF (List.range Mt)) r = r) (hstp : stp = true → xs ≠ [])
 (hg : s.get g = .fn (.func f) [] caps) (hlen : ∀ r ∈ xs, r.length = ps.length) (h0 : s.hp = hpk 0)
 (hr : ∀ k r, xs[k]? = some r → SWp { C with n0 := (hpk k).H.length, m0 := (hpk k).tk.length, dfs := [] } x (fun e s' => match e with
  | .normal => SWp { C with n0 := s'.hp.H.length, m0 := s'.hp.tk.length, dfs := [] } y (fun e s2 => match e with
    | .normal => yans xs stp k = true ∧ ∃ s3, Weak { C with n0 := s'.hp.H.length, m0 := s'.hp.tk.length, dfs := [] } s2 s3 ∧ s3.hp.cut N Mt = hpk (k + 1)
    | .ret => yans xs stp k = false ∧ ∃ s3, Weak { C with n0 := s'.hp.H.length, m0 := s'.hp.tk.length, dfs := [] } s2 s3 ∧ s3.hp.cut N Mt = hpk (k + 1)
    | _ => False) s'
  | _ => False) (binds ps r { s with hp := hpk k }))
 (hd : ∀ o, Q (if stp then .ret else .normal) (N + 1) Mt { s with hp := ⟨(hpk xs.length).H ++ [.raw o], (hpk xs.length).tk⟩ }) (hpan : ∀ d hp, ¬ C.M.pan d hp := by exact fun _ _ h => h) : TWp C n m (.rangeF g ps x y) Q s := by
 refine ⟨fun c hc w0 B hA a w hs => ?_⟩
 have hreg : ∀ id ops d, c = .region id ops d → _ := fun id ops d e => zAp (e ▸ hc)
 cases c <;> (try simp only [zAe] at hc) <;> (try (cases hc; done))
 case region _ ops d => exfalso; have := hreg _ _ _ rfl; simp at this
 case rangeFunc go pa ca cb =>
  cases ho : resO C go with
  | none => simp [ho] at hc
  | some g' =>
    cases hp : zB2 C pa.toList with
    | none => simp [ho, hp] at hc
    | some ps' =>
      cases ha : zAe C ca with
      | none => simp [ho, hp, ha] at hc
      | some x' =>
        cases hb : zAe C cb with
        | none => simp [ho, hp, ha, hb] at hc
        | some y' =>
          simp [ho, hp, ha, hb] at hc
          obtain ⟨rfl, rfl, rfl, rfl⟩ := hc
          obtain ⟨w1, B1, hp1, Ds, h1, h2, h3, h4⟩ := hs
          have hA1 := start_up hbs hA h1
          obtain ⟨G, gi, gb, g1, g2, g3, g4⟩ := h4
          have hpl : ps'.length = pa.size := by rw [zE7 _ _ hp]; simp
          have hv := zEy g4 (C := { C with n0 := n, m0 := m, dfs := Ds.map mark }) ((zEj rfl rfl go).trans ho)
          rw [hg] at hv
          simp only [Rel] at hv
          obtain ⟨xs0, ys, hev, hx0, hys⟩ := hv
          have hx0 := hx0.inv_nil
          subst hx0
          rw [h0] at gi
          refine wpIn_rangeFunc ?_
          intro fn hfn
          obtain ⟨⟨fd, hfd, hfb, hfn'⟩, hspec⟩ := hit
          obtain ⟨rec, hrec⟩ : ∃ rec : LoopState → Option Code → Loop, rec = fun st pe => { state := st, pending := pe, fn, tmps := a.tmps, params := pa, assign := ca, body := cb, defers := w.heap.size } := ⟨_, rfl⟩
          obtain ⟨W1, hW1⟩ : ∃ W1, (w.alloc (.deferred (some []))).alloc (.loop (rec .ready none)) = W1 := ⟨_, rfl⟩
          have hL1 : W1.heap[w.heap.size + 1]? = some (.loop (rec .ready none)) := by
           rw [← hW1]; have := World.alloc_heap_new (w.alloc (.deferred (some []))) (.loop (rec .ready none)); rwa [World.size_alloc] at this
          have hK1 : W1.heap[w.heap.size]? = some (.deferred (some [])) := by
           rw [← hW1]
           rw [zAr _ _ _ (by simp)]
           exact World.alloc_heap_new w _
          have hsz1 : W1.heap.size = w.heap.size + 2 := by rw [← hW1]; simp
          obtain ⟨i1, v1⟩ := gi.alloc (.deferred (some []))
          obtain ⟨i2, v2⟩ := i1.newBlk (.raw (.loop (rec .ready none))) (.loop (rec .ready none)) fun w' g' he => rfl
          have hwa : (w.alloc (.deferred (some []))).heap.size = w.heap.size + 1 := by simp
          rw [hW1, hwa] at i2 v2
          obtain ⟨G1, hG1⟩ : ∃ G1 : Gh, G1 = { G with r := G.r ++ [w.heap.size + 1] } := ⟨_, rfl⟩
          rw [← hG1] at i2 v2
          obtain ⟨ro, hro⟩ : ∃ ro : Nat → Obj, ro = fun k => if stp = true ∧ k = xs.length then .loop (rec .done (some .ret)) else .loop (rec .ready none) := ⟨_, rfl⟩
          have hro0 : ∀ k, (k < xs.length ∨ stp = false) → ro k = .loop (rec .ready none) := fun k hk => by
           rw [hro]; simp only; rw [if_neg]; rintro ⟨q1, q2⟩; rcases hk with q | q
           ·omega
           ·rw [q] at q1; cases q1
          have hfirst : ro 0 = .loop (rec .ready none) := by
           refine hro0 0 ?_
           cases hst' : stp
           ·exact .inr rfl
           ·exact .inl (List.length_pos_iff.2 (hstp hst'))
          have hst1 := hst ro
          have hGl : G.r.length = N := by rw [← gi.heap.len, hs0.len]
          have hGt : G.tk.length = Mt := by rw [← gi.heap.lent, hs0.lent]
          have hown1 : ∀ b, b ∈ G1.own ↔ b ∈ G.own ∨ b = w.heap.size + 1 := fun b => by
           rw [hG1]; simp only [Gh.own, List.mem_append, List.mem_singleton]
           constructor
           iterate 2
            ·rintro ((q | q) | q)
             ·exact .inl (.inl q)
             ·exact .inr q
             ·exact .inl (.inr q)
          rw [← hfirst] at i2
          have hv12 := v1.trans v2
          have hownG : ∀ b ∈ G.own, b < w.heap.size := gi.heap.own_lt
          have iW := Inv.refl' i2.heap
          have hAW : C.M.amb W1 G1.own := C.M.up _ _ _ _ hA1.1 i2.keeps i2.new
          refine ⟨w.heap.size + 1, [mark w.heap.size], W1, { target := .fn (.func f) ys.toArray, args := #[.func (.yield (w.heap.size + 1)) #[] #[]] }, W1, f,
           #[.func (.yield (w.heap.size + 1)) #[] #[]] ++ ys.toArray, W1, ?_, ?_, fun _ _ => trivial, ?_, fun hd => by simp [Fence.wide] at hd, ?_⟩
          ·rw [← hW1, hrec]; exact run_enterLoop_outer _ _ _ _ _
          ·simp only [resolve, hev, Deferred.ofValue, Sem.run_pure, Sem.run_bind, Result.andThen_ok]
           simp [Act.eval]
          ·simp only [invoke, callFunc, Sem.run_bind, run_program, Result.andThen_ok]
           simp [hfd, hfb, hfn', Sem.run_pure, Cfg.P]
          ·refine callsIn_wide.2 ?_
           refine (hspec (fun k => ⟨(hpk k).H ++ [.raw (ro k)], (hpk k).tk⟩) (N + 1) Mt hst1 W1 G1 (w.heap.size + 1) hAW i2.heap ?_ ys (RelL.evo _ hv12 hys)).mono ?_
           ·
            intro k r hk w' G'' vs hi hvs0
            have hkl : k < xs.length := (List.getElem?_eq_some_iff.1 hk).1
            have hrk : ro k = .loop (rec .ready none) := hro0 k (.inl hkl)
            have hGr : G''.r.length = N + 1 := by rw [← hi.heap.len]; simp [hs0.len]
            have hGk : G''.tk.length = Mt := by rw [← hi.heap.lent]; simp [hs0.lent]
            have hrN : G''.r[N]? = some (w.heap.size + 1) := by
             refine hi.evo.ref N _ ?_
             rw [hG1]; simp [← hGl]
            have hbN : ∀ (k : Nat) (o : Obj), ((hpk k).H ++ [Blk.raw o])[N]? = some (.raw o) := fun k o => by
             rw [List.getElem?_append_right (by rw [hs0.len]; omega), hs0.len]; simp
            have hlw : w'.heap[w.heap.size + 1]? = some (.loop (rec .ready none)) := by
             have := hi.heap.blk N _ _ (hbN k (ro k)) hrN
             rw [hrk] at this
             exact this
            have hsok := range_ok (hp := ⟨(hpk k).H ++ [.raw (ro k)], (hpk k).tk⟩) (n := N) (m := Mt) (by simp [hs0.len]) (by simp [hs0.lent])
            obtain ⟨G', hG'⟩ : ∃ G', G' = G''.sel (List.range N) (List.range Mt) := ⟨_, rfl⟩
            have hheap : HeapRel w' G' (hpk k) := by
             have := hi.heap.sel hsok
             rw [hs0.sel k] at this
             rw [hG']; exact this
            have hvs : RelL w' G' r vs := by
             have := RelL.rn _ (Ren.sel hi.heap hsok) hvs0
             rw [hrow r (List.mem_of_getElem? hk)] at this
             rw [hG']; exact this
            have hev' : Evo w G w' G' := by rw [hG']; exact (hv12.trans hi.evo).selR (by omega) (by omega) (by omega) (by omega)
            have hcs := cut_sel (G := G'') (n := N) (m := Mt) (by omega) (by omega)
            have hownG' : ∀ b ∈ G'.own, b ≠ w.heap.size + 1 ∧ b ≠ w.heap.size := fun b hb => by
             rw [hG', hcs] at hb
             rcases List.mem_append.1 hb with q | q
             ·have hne : b ≠ w.heap.size + 1 := fun e => by
               subst e
               obtain ⟨i, hi1⟩ := List.getElem?_of_mem q
               have hiN : i < N := by
                have := zAg hi1
                simp only [Gh.cut, List.length_take] at this; omega
               have hi2 : G''.r[i]? = some (w.heap.size + 1) := by
                have e : (G''.r.take N)[i]? = some (w.heap.size + 1) := hi1
                rwa [List.getElem?_take_of_lt hiN] at e
               have := (List.getElem?_inj (by omega) hi.heap.nodup).1 (hi2.trans hrN.symm)
               omega
              refine ⟨hne, ?_⟩
              have hb2 : b ∈ G''.r := List.mem_of_mem_take q
              rcases hi.new b (List.mem_append.2 (.inl hb2)) with p | p
              ·rcases (hown1 b).1 p with p | p
               ·have := hownG b p; omega
               ·exact absurd p hne
              ·omega
             ·have hb2 : b ∈ blks G''.tk := by
               obtain ⟨T, hT, hTb⟩ := mem_blks.1 q
               exact mem_blks.2 ⟨T, List.mem_of_mem_take hT, hTb⟩
              rcases hi.newt b hb2 with p | p
              ·rw [hG1] at p
               have := hownG b (List.mem_append.2 (.inr p)); omega
              ·omega
            have hnew : ∀ b ∈ G'.own, b ∈ G.own ∨ w.heap.size ≤ b := fun b hb => by
             rw [hG'] at hb
             rcases hi.new b (own_sel hb) with p | p
             ·rcases (hown1 b).1 p with p | p
              ·exact .inl p
              ·exact .inr (by omega)
             ·exact .inr (by omega)
            have hnew1 : ∀ b ∈ G'.own, b ∈ G1.own ∨ W1.heap.size ≤ b := fun b hb => by rw [hG'] at hb; exact hi.new b (own_sel hb)
            have hvl : vs.toArray.size = pa.size := by
             have := hvs.length
             have := hlen r (List.mem_of_getElem? hk)
             simp; omega
            have hy := run_yield (P := C.M.P) (args := vs.toArray) hlw (by rw [hrec]; exact hvl)
            rw [hrec] at hy
            refine ⟨fn, _, ca, cb, hy, roundIn_of_wpIn hfn ?_⟩
            have ht : (pa.zip vs.toArray).foldl (fun tmps (x : Tmp × Value) => tmps.setIfInBounds x.1 x.2) a.tmps = (pa.toList.zip vs).foldl (fun (tm : Array Value) (p : Nat × Value) => tm.setIfInBounds p.1 p.2) a.tmps := by
             rw [← Array.foldl_toList]; simp
            have hb4 := binds_rel (C := C) pa.toList ps' r vs { s with hp := hpk k } a hp hvs (hlen r (List.mem_of_getElem? hk)) (fun t => Rel.evo _ hev' (g4 t)) g1 g3
            obtain ⟨b1, b2, b3, b4⟩ := hb4
            have hsim : Sim { C with n0 := (hpk k).H.length, m0 := (hpk k).tk.length, dfs := [] } w' G' (binds ps' r { s with hp := hpk k })
             { tmps := (pa.zip vs.toArray).foldl (fun tmps (x : Tmp × Value) => tmps.setIfInBounds x.1 x.2) a.tmps, defers := [] } w' := by
             refine ⟨G', by rw [b4]; exact Inv.refl' hheap, ⟨hheap.len.symm, hheap.lent.symm⟩, by rw [ht]; exact b2, rfl, b3, fun t => ?_⟩
             rw [ht]; exact b1 t
            have hAw' : C.M.start w' G' := ⟨C.M.up _ _ _ _ hAW hi.keeps hnew1, hbs _ _⟩
            have hrun := (hr k r hk).run ca (zCd ha rfl rfl rfl) w' G' hAw' _ w' hsim (some (w.heap.size + 1))
            refine wpIn_mono hrun fun e a1 wa hl => ?_
            cases e <;> simp only [Lift, Exit.then] at hl ⊢ <;> try exact hl.elim
            case panic => obtain ⟨_, _, _, _, _, _, k, _⟩ := hl; exact absurd k (hpan _ _)
            case exit => obtain ⟨_, _, q⟩ := hl; exact q
            case ret => obtain ⟨_, _, q⟩ := hl; exact q
            obtain ⟨s', q1, q3⟩ := hl
            obtain ⟨Ga, qi, qb, p1, p2, p3, p4⟩ := q1
            have hownGa : ∀ b ∈ Ga.own, b ≠ w.heap.size + 1 ∧ b ≠ w.heap.size := fun b hb => by
             rcases qi.new b hb with h | h
             ·exact hownG' b h
             ·have := hi.keeps.size; omega
            have hla : wa.heap[w.heap.size + 1]? = some (.loop (rec .ready none)) := by
             rw [qi.keeps.block _ (Array.getElem?_eq_some_iff.1 hlw).1 (fun hm => (hownG' _ hm).1 rfl)]; exact hlw
            refine ⟨_, run_beginRound hla (by rw [hrec]), ?_⟩
            have t1 : Turn wa (wa.putObj (w.heap.size + 1) (.loop { rec .ready none with state := .busy })) (w.heap.size + 1) := Turn.put hla rfl rfl
            obtain ⟨W2, hW2⟩ : ∃ W2, wa.putObj (w.heap.size + 1) (.loop { rec .ready none with state := .busy }) = W2 := ⟨_, rfl⟩
            rw [hW2] at t1 ⊢
            have hl2 : W2.heap[w.heap.size + 1]? = some (.loop { rec .ready none with state := .busy }) := by
             rw [← hW2]; exact World.putObj_heap_same (Array.getElem?_eq_some_iff.1 hla).1
            have hh2 : HeapRel W2 Ga s'.hp := t1.heap (fun hm => (hownGa _ hm).1 rfl) qi.heap
            have kW1 : Keeps w W1 G.own := (Keeps.alloc w _ _).trans (by rw [← hW1]; exact Keeps.alloc _ _ _)
            have kw' : Keeps w w' G.own := ⟨hi.keeps.os.trans kW1.os, hi.keeps.tape.trans kW1.tape, hi.keeps.output.trans kW1.output, Nat.le_trans kW1.size hi.keeps.size, fun b hb hn =>
             (hi.keeps.block b (Nat.lt_of_lt_of_le hb kW1.size) (fun hm => by
              rcases (hown1 b).1 hm with q | q
              ·exact hn q
              ·omega)).trans (kW1.block b hb hn)⟩
            have kw : Keeps w wa G.own := kw'.trans' qi.keeps hnew
            have hA2 : C.M.start W2 Ga := by
             refine ⟨C.M.up w G.own _ _ (start_up hbs hA1 gi).1 ⟨t1.os.trans kw.os, t1.tape.trans kw.tape, t1.output.trans kw.output, by rw [t1.size]; exact kw.size, fun b hb hn => (t1.block b (by omega)).trans (kw.block b hb hn)⟩ fun b hb => ?_, hbs _ _⟩
             rcases qi.new b hb with h | h
             ·exact hnew b h
             ·right; have := kw'.size; omega
            have hsim2 : Sim { C with n0 := s'.hp.H.length, m0 := s'.hp.tk.length, dfs := [] } W2 Ga s' a1 W2 :=
             ⟨Ga, Inv.refl' hh2, ⟨hh2.len.symm, hh2.lent.symm⟩, p1, p2, p3, fun t => Rel.evo _ (t1.evo Ga) (p4 t)⟩
            have hrun2 := q3.run cb (zCd hb rfl rfl rfl) W2 Ga hA2 _ W2 hsim2 (some (w.heap.size + 1))
            have fin : ∀ (w3 : World) (a3 : Act) (s2 : St) (jump : Option Code), Sim { C with n0 := s'.hp.H.length, m0 := s'.hp.tk.length, dfs := [] } W2 Ga s2 a3 w3 →
             (∃ s3, Weak { C with n0 := s'.hp.H.length, m0 := s'.hp.tk.length, dfs := [] } s2 s3 ∧ s3.hp.cut N Mt = hpk (k + 1)) → yans xs stp k = jump.isNone → (jump = none ∨ jump = some .ret) →
             ∃ v w'', (Instr.endRound (w.heap.size + 1) jump).run C.P w3 = .ok v w'' ∧ Post w' G'' (fun d h => d = .bool (yans xs stp k) ∧ h = ⟨(hpk (k + 1)).H ++ [.raw (ro (k + 1))], (hpk (k + 1)).tk⟩) (.returned v) w'' := by
             intro w3 a3 s2 jump z1 zz hyj hjj
             obtain ⟨s3, z2, z3⟩ := zz
             obtain ⟨G3, zi, _⟩ := z2 _ _ _ _ z1
             have hl3 : w3.heap[w.heap.size + 1]? = some (.loop { rec .ready none with state := .busy }) := by
              rw [zi.keeps.block _ (Array.getElem?_eq_some_iff.1 hl2).1 (fun hm => (hownGa _ hm).1 rfl)]; exact hl2
             have hend := run_endRound (P := C.P) jump hl3
             refine ⟨_, _, hend, ?_⟩
             have hsz2 : wa.heap.size = W2.heap.size := t1.size.symm
             have hG3 : w.heap.size + 1 ∉ G3.own := fun hm => by
              rcases zi.new _ hm with h | h
              ·exact (hownGa _ h).1 rfl
              ·have := (Array.getElem?_eq_some_iff.1 hl2).1; omega
             have hlt3 := (Array.getElem?_eq_some_iff.1 hl3).1
             have t3 := Turn.put (o' := .loop (rec .ready none)) hl3 rfl rfl
             have hl4 : (w3.putObj (w.heap.size + 1) (.loop (rec .ready none))).heap[w.heap.size + 1]? = some (.loop (rec .ready none)) := World.putObj_heap_same hlt3
             obtain ⟨W4, hW4⟩ : ∃ W4, w3.putObj (w.heap.size + 1) (.loop (rec .ready none)) = W4 := ⟨_, rfl⟩
             rw [hW4] at t3 hl4
             have ev4 : Evo wa Ga W4 G3 := ((t1.evo Ga).trans zi.evo).trans (t3.evo G3)
             have k4 : Keeps wa W4 Ga.own := by
              refine ⟨?_, ?_, ?_, ?_, fun b hb hn => ?_⟩
              ·exact t3.os.trans (zi.keeps.os.trans t1.os)
              ·exact t3.tape.trans (zi.keeps.tape.trans t1.tape)
              ·exact t3.output.trans (zi.keeps.output.trans t1.output)
              ·rw [t3.size]; have := zi.keeps.size; omega
              ·by_cases e : b = w.heap.size + 1
               ·rw [e, hl4, hla]
               ·rw [t3.block b e, zi.keeps.block b (by omega) hn, t1.block b e]
             have i4 : Inv wa Ga s3.hp W4 G3 := ⟨t3.heap hG3 zi.heap, ev4, k4, fun b hb => (zi.newr b hb).imp id (fun h => by omega), fun b hb => (zi.newt b hb).imp id (fun h => by omega), fun b o hb => (zi.i1 b o hb).imp id (fun h => h.imp (fun h => by omega) id)⟩
             have i5 : Inv w' (G''.sel (List.range N) (List.range Mt)) (hpk (k + 1)) W4 (G3.cut N Mt) := by
              rw [← hG', ← z3]
              exact (qi.join i4).cut N Mt (by rw [← hheap.len, hs0.len]; exact Nat.le_refl _) (by rw [← hheap.lent, hs0.lent]; exact Nat.le_refl _)
             obtain ⟨x1, x2, x3⟩ := (Inv.refl' hi.heap).back hsok i5
             rw [hs0.bk k] at x1
             obtain ⟨W5, hW5⟩ : ∃ W5, w3.putObj (w.heap.size + 1) (.loop { { rec .ready none with state := .busy } with state := if jump.isNone then .ready else .done, pending := jump }) = W5 := ⟨_, rfl⟩
             have hl5 : W5.heap[w.heap.size + 1]? = some (ro (k + 1)) := by
              rw [← hW5, World.putObj_heap_same hlt3]
              rcases hjj with rfl | rfl
              ·have hr2 : ro (k + 1) = .loop (rec .ready none) := by
                rw [hro]; simp only
                rw [if_neg]
                rintro ⟨u1, u2⟩
                simp [yans, u1, u2] at hyj
               rw [hr2, hrec]; rfl
              ·have hr2 : ro (k + 1) = .loop (rec .done (some .ret)) := by
                rw [hro]; simp only
                rw [if_pos]
                simpa [yans] using hyj
               rw [hr2, hrec]; rfl
             obtain ⟨y1, y2⟩ := x1.write (w' := W5) N (w.heap.size + 1) (x2.ref N _ hrN) ⟨_, hbN (k + 1) (ro k), by simp⟩ (.raw (ro (k + 1))) (fun w1 g1 he => hl5)
              (fun m hm => by rw [← hW5, ← hW4, World.putObj_heap_other hm, World.putObj_heap_other hm]) (by rw [← hW5, ← hW4]; simp [World.putObj]) (by rw [← hW5, ← hW4]; rfl) (by rw [← hW5, ← hW4]; rfl) (by rw [← hW5, ← hW4]; rfl)
             have hset : ((hpk (k + 1)).H ++ [Blk.raw (ro k)]).set N (.raw (ro (k + 1))) = (hpk (k + 1)).H ++ [.raw (ro (k + 1))] := by
              rw [List.set_append_right _ _ (by rw [hs0.len]; omega), hs0.len]; simp
             simp only [hset] at y1
             rw [← hW5] at y1
             exact ⟨_, _, _, _, rfl, ⟨rfl, rfl⟩, y1, by simp [Rel, hyj]⟩
            refine wpIn_mono hrun2 fun e a3 w3 hl => ?_
            cases e <;> simp only [Lift, roundPost] at hl ⊢ <;> try exact hl.elim
            case panic => obtain ⟨_, _, _, _, _, _, k, _⟩ := hl; exact absurd k (hpan _ _)
            case exit => obtain ⟨_, _, q⟩ := hl; exact q.elim
            case normal => obtain ⟨s2, z1, z2, z3⟩ := hl; exact fin w3 a3 s2 none z1 z3 (by rw [z2]; rfl) (.inl rfl)
            case ret => obtain ⟨s2, z1, z2, z3⟩ := hl; exact fin w3 a3 s2 (some .ret) z1 z3 (by rw [z2]; rfl) (.inr rfl)
           ·
            rintro e w5 ⟨v, d, hp5, G5, rfl, rfl, j1, j2⟩
            have hbN : ∀ (o : Obj), ((hpk xs.length).H ++ [Blk.raw o])[N]? = some (.raw o) := fun o => by
             rw [List.getElem?_append_right (by rw [hs0.len]; omega), hs0.len]; simp
            have hrN : G5.r[N]? = some (w.heap.size + 1) := by
             refine j1.evo.ref N _ ?_
             rw [hG1]; simp [← hGl]
            obtain ⟨rr, hrr, hrb, hrp⟩ : ∃ rr : Loop, ro xs.length = .loop rr ∧ rr.state ≠ .busy ∧ rr.pending = if stp then some .ret else none := by
             rw [hro]
             cases stp
             ·exact ⟨rec .ready none, by simp, by rw [hrec]; simp, by rw [hrec]; rfl⟩
             ·exact ⟨rec .done (some .ret), by simp, by rw [hrec]; simp, by rw [hrec]; rfl⟩
            have hl5 : w5.heap[w.heap.size + 1]? = some (.loop rr) := by
             have := j1.heap.blk N _ _ (hbN (ro xs.length)) hrN
             rw [hrr] at this
             exact this
            have hlt5 := (Array.getElem?_eq_some_iff.1 hl5).1
            have hno : ∀ b, b < w.heap.size + 1 → b ∉ G.own → b ∉ G1.own := fun b hb hn hm => by
             rcases (hown1 b).1 hm with q | q
             ·exact hn q
             ·omega
            have hk5 : w5.heap[w.heap.size]? = some (.deferred (some [])) := by
             rw [j1.keeps.block _ (by omega) (hno _ (by omega) fun hm => by have := hownG _ hm; omega)]; exact hK1
            have hG5 : ∀ b, b ∈ G5.own → b ≠ w.heap.size := fun b hb => by
             rcases j1.new b hb with h | h
             ·rcases (hown1 b).1 h with q | q
              ·have := hownG b q; omega
              ·omega
             ·omega
            refine ⟨rr.pending, _, run_endLoop (P := C.P) hl5 hrb, ?_⟩
            obtain ⟨W6, hW6⟩ : ∃ W6, w5.putObj (w.heap.size + 1) (.loop { rr with state := .exhausted }) = W6 := ⟨_, rfl⟩
            have hl6 : W6.heap[w.heap.size + 1]? = some (.loop { rr with state := .exhausted }) := by rw [← hW6]; exact World.putObj_heap_same hlt5
            have hoth : ∀ m, m ≠ w.heap.size + 1 → W6.heap[m]? = w5.heap[m]? := fun m hm => by rw [← hW6]; exact World.putObj_heap_other hm
            have i5 := h1.join (i2.join j1)
            have hw0 : w0.heap.size ≤ w.heap.size := Nat.le_trans h1.keeps.size gi.keeps.size
            obtain ⟨i6, v6⟩ := i5.write (w' := W6) N (w.heap.size + 1) hrN ⟨_, hbN (ro xs.length), by simp⟩ (.raw (.loop { rr with state := .exhausted })) (fun w1 g1 he => hl6) hoth
             (by rw [← hW6]; simp [World.putObj]) (by rw [← hW6]; rfl) (by rw [← hW6]; rfl) (by rw [← hW6]; rfl)
            have hset : ((hpk xs.length).H ++ [Blk.raw (ro xs.length)]).set N (.raw (.loop { rr with state := .exhausted })) = (hpk xs.length).H ++ [.raw (.loop { rr with state := .exhausted })] := by
             rw [List.set_append_right _ _ (by rw [hs0.len]; omega), hs0.len]; simp
            simp only [hset] at i6
            rw [hW6]
            have e6 : Evo w G W6 G5 := (hv12.trans j1.evo).trans v6
            have key : SimT C (N + 1) Mt w0 B { s with hp := ⟨(hpk xs.length).H ++ [.raw (.loop { rr with state := .exhausted })], (hpk xs.length).tk⟩ } { a with defers := [mark w.heap.size] ++ a.defers } W6 := by
             refine ⟨W6, G5, _, w.heap.size :: Ds, i6, ?_, ?_, ?_⟩
             ·refine List.nodup_cons.2 ⟨fun hm => ?_, h2⟩
              have := (Array.getElem?_eq_some_iff.1 (h3 _ hm).1).1
              have := gi.keeps.size
              omega
             ·intro D hD
              rcases List.mem_cons.1 hD with rfl | hD
              ·exact ⟨by rw [hoth _ (by omega)]; exact hk5, fun hm => hG5 _ hm rfl, hw0⟩
              ·obtain ⟨d1, d2, d3⟩ := h3 D hD
               have dl := (Array.getElem?_eq_some_iff.1 d1).1
               have dl2 := gi.keeps.size
               have dG : D ∉ G.own := fun hm => by
                rcases gi.new D hm with h | h
                ·exact d2 h
                ·omega
               refine ⟨?_, fun hm => ?_, d3⟩
               ·rw [hoth _ (by omega), j1.keeps.block _ (by omega) (hno _ (by omega) dG), i2.keeps.block _ (by omega) d2, d1]
               ·rcases j1.new D hm with h | h
                ·exact hno _ (by omega) dG h
                ·omega
             ·refine ⟨G5, Inv.refl' i6.heap, ⟨by rw [← i6.heap.len]; simp [hs0.len], by rw [← i6.heap.lent]; simp [hs0.lent]⟩, g1, ?_, g3, fun t => Rel.evo _ e6 (g4 t)⟩
              simp [g2, mark]
            rw [hrp]
            cases stp
            ·simp only [Bool.false_eq_true, if_false, LiftT]
             exact ⟨_, _, _, key, hd _⟩
            ·simp only [if_true]
             refine wpIn_ret ?_
             simp only [LiftT]
             exact ⟨_, _, _, key, hd _⟩
 all_goals exfalso; (repeat' split at hc) <;> simp_all
end
end GoV
end
section
set_option linter.unusedSimpArgs false
set_option linter.unusedVariables false
namespace GoV
open Go
theorem evo_cl {w : World} {g : Gh} : Evo w g.cl w g :=
 ⟨fun b o h => ⟨h, rfl⟩, fun b n h => by simp [Gh.cl] at h, fun t T h => by simp [Gh.cl] at h⟩
theorem rel_er {w : World} {g : Gh} {d : D} {x : Value} (hc : d.closed = true) (h : Rel w g d x) : Rel w g d.er x := Rel.evo _ evo_cl (Rel.closed d hc h)
theorem relL_er {w : World} {g : Gh} : ∀ {cs : List D} {xs : List Value}, D.cL cs = true → RelL w g cs xs → RelL w g (D.erL cs) xs
 | [], xs, _, h => h
 | d :: cs, xs, hc, h => by
   simp only [D.cL, Bool.and_eq_true] at hc
   obtain ⟨y, ys, rfl, h1, h2⟩ := h.inv
   simp only [D.erL]
   exact RelL.cons (rel_er hc.1 h1) (relL_er hc.2 h2)
theorem zEs {C : Cfg} {s : St} (b : Nat) {cs : List D} (hb : s.hp.H[b]? = some (.cells cs)) (hc : D.cL cs = true) : Weak C s ⟨s.env, s.scr, { s.hp with H := s.hp.H.set b (.cells (D.erL cs)) }⟩ := by
 intro w0 B a w h
 obtain ⟨G, g0, gb, g1, g2, g3, g4⟩ := h
 obtain ⟨n, hn⟩ : ∃ n, G.r[b]? = some n := by
  have hl := zAg hb
  rw [g0.heap.len] at hl
  exact ⟨_, List.getElem?_eq_getElem hl⟩
 obtain ⟨xs, e, k1, k2, k3⟩ := g0.heap.blk b _ n hb hn
 obtain ⟨u1, u2⟩ := g0.write (w' := w) b n hn ⟨_, hb, by simp⟩ (.cells (D.erL cs)) (fun w1 g1 he => ⟨xs, e, k1, relL_er hc (RelL.evo _ he k2), k3⟩) (fun _ _ => rfl) rfl rfl rfl rfl
 exact ⟨_, u1, gb, g1, g2, g3, g4⟩
theorem zB6 {M : Mod} {f : FuncId} {args : List D} {hp hp1 : Hp} {d0 : D} (n m : Nat) (hn : hp.H.length ≤ n) (hm : hp.tk.length ≤ m) (hd : ∀ β τ, d0.rn β τ = d0)
 (h : Eff M f args hp fun d h => D.closed d = true ∧ d.er = d0 ∧ h.cut n m = hp1) : Eff M f args hp fun d h => d = d0 ∧ h = hp1 := by
 refine ⟨h.1, fun w g xs hA hH hargs => (h.2 w g xs hA hH hargs).mono fun e w' hp => ?_⟩
 obtain ⟨v, d, hp', g', rfl, ⟨h1, h2, h3⟩, h4, h5⟩ := hp
 have h6 := h4.cut n m (by rw [← hH.len]; exact hn) (by rw [← hH.lent]; exact hm)
 have h7 := Rel.rn _ (Ren.cut g' n m) (rel_er h1 h5)
 rw [h2, hd] at h7
 exact ⟨v, d0, _, _, rfl, ⟨rfl, h3⟩, h6, h7⟩
end GoV
end
section
set_option linter.unusedSimpArgs false
set_option linter.unusedVariables false
namespace GoV
open Go Go.RowKit
theorem inv_refl {w : World} {g : Gh} {hp : Hp} (h : HeapRel w g hp) : Inv w g hp w g :=
 ⟨h, Evo.refl _ _, Keeps.refl _ _, fun _ h => .inl h, fun _ h => .inl h, fun _ _ h => .inl h⟩
theorem inv_tokByt {w0 : World} {g0 : Gh} {hp : Hp} {w : World} {g : Gh} (h : Inv w0 g0 hp w g) (e : TypeId) :
 Inv w0 g0 { hp with tk := hp.tk ++ [.byt e []] } w (g.tok ⟨none, none, 0, 1, 0⟩) ∧ Evo w g w (g.tok ⟨none, none, 0, 1, 0⟩) := by
 obtain ⟨h1, h2⟩ := h.heap.newTok ⟨none, none, 0, 1, 0⟩ (.byt e []) ⟨by simp, by simp, by simp⟩ ⟨rfl, rfl, by simp, by simp⟩ (by simp)
 refine ⟨⟨h1, h.evo.trans h2, h.keeps, h.newr, fun n hn => ?_, h.i1⟩, h2⟩
 refine h.newt n ?_
 obtain ⟨T, hT, hb⟩ := mem_blks.1 hn
 rcases List.mem_append.1 hT with q | q
 ·exact mem_blks.2 ⟨T, q, hb⟩
 ·simp at q; subst q; simp at hb
theorem weak_bld {C : Cfg} {s : St} (b : Nat) (eB e : TypeId) (p : D) (hb : s.hp.H[b]? = some (.tcells eB [p, .lit (.slice none 0 0)])) :
 Weak C s ⟨s.env, s.scr, ⟨s.hp.H.set b (.tcells eB [p, .gs s.hp.tk.length 0]), s.hp.tk ++ [.byt e []]⟩⟩ := by
 intro w0 B a w h
 obtain ⟨G, g0, gb, g1, g2, g3, g4⟩ := h
 obtain ⟨q1, q2⟩ := inv_tokByt g0 e
 obtain ⟨n, hn⟩ : ∃ n, G.r[b]? = some n := by
  have hl := zAg hb
  rw [g0.heap.len] at hl
  exact ⟨_, List.getElem?_eq_getElem hl⟩
 obtain ⟨xs, k1, k2, k3⟩ := g0.heap.blk b _ n hb hn
 obtain ⟨x0, ys, rfl, r0, r1⟩ := k2.inv
 obtain ⟨x1, zs, rfl, r2, r3⟩ := r1.inv
 have := r3.inv_nil
 subst this
 simp only [Rel] at r2
 obtain ⟨rfl, _⟩ := r2
 have hgs : Rel w (G.tok ⟨none, none, 0, 1, 0⟩) (.gs s.hp.tk.length 0) (.slice none 0 0) := by
  simp only [Rel]
  rw [g0.heap.lent]
  exact ⟨none, 0, _, rfl, by simp, zFf _ _, by simp, fun _ => by simp⟩
 obtain ⟨u1, u2⟩ := q1.write (w' := w) b n hn ⟨_, hb, by simp⟩ (.tcells eB [p, .gs s.hp.tk.length 0])
  (fun w1 g1 he => by
   rw [k1]
   exact ⟨_, rfl, RelL.cons (Rel.evo _ (he) (Rel.evo _ q2 r0)) (RelL.one (Rel.evo _ he hgs)), k3⟩)
  (fun _ _ => rfl) rfl rfl rfl rfl
 refine ⟨_, u1, gb, g1, g2, g3, fun t => ?_⟩
 have h4 := g4 t
 unfold St.slot at *
 split
 ·rename_i j hj
  rw [hj] at h4
  exact Rel.evo _ u2 (Rel.evo _ q2 h4)
 ·rename_i hj
  rw [hj] at h4
  exact Rel.evo _ u2 (Rel.evo _ q2 h4)
section
open Go.Proofs
variable {M : Mod} {ρ : Go.Shelf.Ren}
theorem copyCheck_e (L : Lays.n240 M.P ρ) (X : Builder.X72 M.P ρ) (hc : zBs M (ρ.f 240)) {p x : D} {V : List Tv} (hp : p = .lit (.pointer none) ∨ p = .ptr 0 0) :
 Eff M (ρ.f 240) [.ptr 0 0] ⟨[.tcells (ρ.t 72) [p, x]], V⟩ (fun d hp' => d = .tup [] ∧ hp' = ⟨[.tcells (ρ.t 72) [.ptr 0 0, x]], V⟩) := by
 refine ⟨hc, fun w g xs hA hH hargs => ?_⟩
 obtain ⟨v, vs, rfl, h1, h2⟩ := hargs.inv
 have := h2.inv_nil
 subst this
 simp only [Rel] at h1
 obtain ⟨n, hn, rfl⟩ := h1
 obtain ⟨ys, k1, k2, k3⟩ := hH.blk 0 _ n rfl hn
 obtain ⟨y0, zs, rfl, r0, r1⟩ := k2.inv
 obtain ⟨y1, zs', rfl, r2, r3⟩ := r1.inv
 have := r3.inv_nil
 subst this
 have hcell : w.cell? ⟨n, 0, none⟩ = some y0 := by simp [World.cell?, k1]
 rcases hp with rfl | rfl
 ·simp only [Rel] at r0
  obtain ⟨rfl, _⟩ := r0
  refine (Any.Builder_copyCheck_fresh L X n w hcell (by simp [World.shape?, k1]) (by simp [World.frozen?, k1])).mono fun e w' hh => ?_
  obtain ⟨rfl, rfl⟩ := hh
  obtain ⟨u1, u2⟩ := (inv_refl hH).write (w' := w.setCell ⟨n, 0, none⟩ (.pointer (some ⟨n, 0, none⟩))) 0 n hn ⟨_, rfl, by simp⟩ (.tcells (ρ.t 72) [.ptr 0 0, x])
   (fun w1 g1 he => ⟨[.pointer (some ⟨n, 0, none⟩), y1], by simp [World.setCell, Array.getElem?_modify, k1], RelL.cons (by simp only [Rel]; exact ⟨n, he.ref 0 n hn, rfl⟩) (RelL.one (Rel.evo _ he r2)), by
    intro y hy
    rcases List.mem_cons.1 hy with q | q
    ·subst q; simp [oneC, Value.oneCell']
    ·exact k3 y (by simp [List.mem_singleton.1 q])⟩)
   (fun m hm => by simp [World.setCell, Array.getElem?_modify, Ne.symm hm]) (by simp [World.setCell]) rfl rfl rfl
  exact ⟨_, _, _, _, rfl, ⟨rfl, rfl⟩, u1, by simp [Rel, RelL]⟩
 ·simp only [Rel] at r0
  obtain ⟨m, hm, rfl⟩ := r0
  rw [hn] at hm
  cases hm
  refine (Any.Builder_copyCheck_used L X n w hcell).mono fun e w' hh => ?_
  obtain ⟨rfl, rfl⟩ := hh
  exact ⟨_, _, _, _, rfl, ⟨rfl, rfl⟩, inv_refl hH, by simp [Rel, RelL]⟩
set_option maxHeartbeats 2000000 in
set_option maxRecDepth 100000 in
theorem string_row (L : Lays.n169 M.P ρ) (X : Builder.Extra M.P ρ) (b g cap : Nat) (p : Value) (T : TypeId) (l : List UInt8) (cur : Array Value) (w : World) (hbk : w.heap[b]? = some (.cells #[p, .slice (some ⟨g, 0, none⟩) l.length cap] T (0, 0))) (hg : w.heap[g]? = some (.cells cur (ρ.t 5) (0, 0)))
 (h0 : l ≠ []) (hl : l.length ≤ 140737488355328) (hnc : l.length ≤ cap) (hcs : cur.size = cap) (hcells : ∀ (j : Nat) x, l[j]? = some x → w.cell? ⟨g, j, none⟩ = some (.int .u8 x.toNat)) :
 Calls M.P (ρ.f 169) #[.pointer (some ⟨b, 0, none⟩)] w fun e w' => e = .returned (.string ⟨l.toArray⟩) ∧ w' = w.drew.freeze ⟨g, 0, none⟩ l.length := by
 have hl0 : l.length ≠ 0 := by simpa using h0
 have c1 : w.drew.cell? ⟨b, 1, none⟩ = some (.slice (some ⟨g, 0, none⟩) l.length cap) := by
  have : w.drew.heap[b]? = some (.cells #[p, .slice (some ⟨g, 0, none⟩) l.length cap] T (0, 0)) := hbk
  rw [Lib.cell_of_heap this]; rfl
 have hSD : (Builtin.unsafeSliceData_ #[(ρ.t 37)] (ρ.t 127) #[.slice (some ⟨g, 0, none⟩) l.length cap]).run M.P w.drew = .ok (.pointer (some ⟨g, 0, none⟩)) w.drew :=
  Lib.run_unsafeSliceData_row _ _ _ _ _ _ (by omega)
 have hUS : (Builtin.unsafeString_ #[(ρ.t 127), (ρ.t 3)] (ρ.t 9) #[.pointer (some ⟨g, 0, none⟩), .int .i64 l.length]).run M.P w.drew = .ok (.string ⟨l.toArray⟩) (w.drew.freeze ⟨g, 0, none⟩ l.length) := by
  refine Lib.run_unsafeString_row w.drew (ρ.t 127) (ρ.t 3) (ρ.t 9) (ρ.t 5) L.t127 X.cellsByte g cur.size (by have hg' : w.drew.heap[g]? = some (.cells cur (ρ.t 5) (0, 0)) := hg; simp [World.shape?, hg']) l h0 (by omega) (by omega) ?_
  intro j x hx
  have := hcells j x hx
  rw [Addr.add_lit, Nat.zero_add]
  exact this
 have mixed := L.mixed
 have t72 := L.t72; have a72 := L.a72; have z72 := L.z72; have v72 := L.v72; have u72 := run_underlying L.t72
 have t70 := L.t70; have a70 := L.a70; have z70 := L.z70; have v70 := L.v70; have u70 := run_underlying L.t70
 have t37 := L.t37; have a37 := L.a37; have z37 := L.z37; have v37 := L.v37; have u37 := run_underlying L.t37
 have t127 := L.t127; have a127 := L.a127; have z127 := L.z127; have v127 := L.v127; have u127 := run_underlying L.t127
 have t3 := L.t3; have a3 := L.a3; have z3 := L.z3; have v3 := L.v3; have u3 := run_underlying L.t3
 have t9 := L.t9; have a9 := L.a9; have z9 := L.z9; have v9 := L.v9; have u9 := run_underlying L.t9
 have t5 := X.t5; have a5 := X.a5; have z5 := X.z5; have v5 := X.v5; have u5 := run_underlying X.t5
 go_enter L.f169, Body.n169_ntmps ρ
 go_wp2
 go_region_o
 all_goals (go_wp2; go_ret; exact ⟨rfl, rfl⟩)
theorem string_e (L : Lays.n169 M.P ρ) (X : Builder.Extra M.P ρ) (hc : zBs M (ρ.f 169)) {p : D} {bs : List UInt8} (hl : bs.length ≤ 140737488355328) :
 Eff M (ρ.f 169) [.ptr 0 0] ⟨[.tcells (ρ.t 72) [p, .gs 0 bs.length]], [.byt (ρ.t 5) bs]⟩ (fun d hp' => d = .str bs ∧ hp' = ⟨[.tcells (ρ.t 72) [p, .gs 0 bs.length]], [.per 1 (bs.length + 1)]⟩) := by
 refine ⟨hc, fun w g xs hA hH hargs => ?_⟩
 obtain ⟨v, vs, rfl, h1, h2⟩ := hargs.inv
 have := h2.inv_nil
 subst this
 simp only [Rel] at h1
 obtain ⟨n, hn, rfl⟩ := h1
 obtain ⟨ys, k1, k2, k3⟩ := hH.blk 0 _ n rfl hn
 obtain ⟨y0, zs, rfl, r0, r1⟩ := k2.inv
 obtain ⟨y1, zs', rfl, r2, r3⟩ := r1.inv
 have := r3.inv_nil
 subst this
 simp only [Rel] at r2
 obtain ⟨a, cap, T, rfl, hnn, hT, hlT, hsT⟩ := r2
 obtain ⟨T', hT', ⟨q1, q2, q3, q4⟩, hok⟩ := hH.tokBlk (t := 0) (V := .byt (ρ.t 5) bs) rfl
 rw [hT] at hT'; cases hT'
 obtain ⟨rfl, rfl, hb⟩ := hsT (by omega)
 have fin : ∀ {w' : World}, w'.os = w.os → w'.tape = w.tape → w'.output = w.output → w.heap.size ≤ w'.heap.size → (∀ m, m < w.heap.size → T.blk ≠ some m → w'.heap[m]? = w.heap[m]?) → (∀ c o, g.I c o → w'.cell? ⟨c, o, none⟩ = w.cell? ⟨c, o, none⟩) →
  Post w g (fun d hp' => d = .str bs ∧ hp' = ⟨[.tcells (ρ.t 72) [p, .gs 0 bs.length]], [.per 1 (bs.length + 1)]⟩) (.returned (.string ⟨bs.toArray⟩)) w' := by
  intro w' e1 e2 e3 e4 e5 e6
  obtain ⟨u1, u2⟩ := (inv_refl hH).goTok (w' := w') (T' := ⟨Option.none, Option.none, T.len + 1, 1, T.len + 1⟩) (I' := g.I) (V' := .per 1 (bs.length + 1)) hT q1.symm (.inr (by simp)) e5 e4 e1 e2 e3 (fun n hn => by simp at hn)
   (fun c o ho => ⟨ho, e6 c o ho⟩) (fun c o ho => .inl ho) ⟨by simp, by simp, by simp⟩ (fun _ => ⟨rfl, by simp [q2], by simp⟩)
  exact ⟨_, _, _, _, rfl, ⟨rfl, rfl⟩, u1, by simp [Rel]⟩
 have old : ∀ {w' : World}, Below w.heap.size w w' → Post w g (fun d hp' => d = .str bs ∧ hp' = ⟨[.tcells (ρ.t 72) [p, .gs 0 bs.length]], [.per 1 (bs.length + 1)]⟩) (.returned (.string ⟨bs.toArray⟩)) w' := by
  intro w' hb'
  exact fin hb'.os hb'.tape hb'.output hb'.size (fun m hm _ => hb'.block m hm) (fun c o ho => cell_of_heap (hb'.block c (hH.imm c o ho).1))
 cases hTb : T.blk with
 | none =>
   obtain ⟨z1, z2⟩ := q3 hTb
   have hlen : bs = [] := List.eq_nil_of_length_eq_zero (by omega)
   subst hlen
   have hcap : T.cap = 0 := by rw [← hok.2.1 hTb]; exact z1
   rw [z2, hcap] at k1
   refine (Any.Builder_String_nil L X w.heap.size n y0 w k1).mono fun e w' hh => ?_
   obtain ⟨rfl, hb'⟩ := hh
   exact old hb'
 | some m =>
   obtain ⟨hI, ys, z1, z2⟩ := q4 m hTb
   obtain ⟨had, _, hlc, ys', e', z3, z4, z5⟩ := hok.2.2 m hTb
   rw [z1] at z3; cases z3
   rw [had] at k1
   rw [q1, Nat.mul_one] at z4
   by_cases hz : bs = []
   ·subst hz
    by_cases hcap : T.cap = 0
    ·rw [hcap] at k1
     refine (Any.Builder_String_noroom L X w.heap.size n m y0 ys w (Nat.le_refl _) k1 z1).mono fun e w' hh => ?_
     obtain ⟨rfl, hb'⟩ := hh
     exact old hb'
    ·refine (Any.Builder_String_room L X w.heap.size n m T.cap y0 w hcap k1).mono fun e w' hh => ?_
     obtain ⟨rfl, hb'⟩ := hh
     exact old hb'
   ·refine (string_row L X n m T.cap y0 (ρ.t 72) bs ys w k1 z1 hz hl (by omega) z4 (fun j x hx => ?_)).mono fun e w' hh => ?_
    ·have hj := zAg hx
     have h3 := congrArg (fun l => l[j]?) z2
     simp only [List.getElem?_map, hx, Option.map_some] at h3
     rw [List.getElem?_take, if_pos (by omega)] at h3
     rw [zCo z1, ← Array.getElem?_toList]
     exact h3
    ·obtain ⟨rfl, rfl⟩ := hh
     have hfr : ∀ c, m ≠ c → (w.drew.freeze ⟨m, 0, none⟩ bs.length).heap[c]? = w.heap[c]? := by
      intro c hc
      unfold World.freeze
      split
      ·rfl
      ·simp [Array.getElem?_modify, hc]; rfl
     have hsz : (w.drew.freeze ⟨m, 0, none⟩ bs.length).heap.size = w.heap.size := by
      unfold World.freeze
      split
      ·rfl
      ·simp
     have hos : ∀ w : World, (w.freeze ⟨m, 0, none⟩ bs.length).os = w.os ∧ (w.freeze ⟨m, 0, none⟩ bs.length).tape = w.tape ∧ (w.freeze ⟨m, 0, none⟩ bs.length).output = w.output := by
      intro w
      unfold World.freeze
      split <;> exact ⟨rfl, rfl, rfl⟩
     refine fin (hos w.drew).1 (hos w.drew).2.1 (hos w.drew).2.2 (Nat.le_of_eq hsz.symm) (fun c _ hne => hfr c fun e => hne (by rw [hTb, e])) (fun c o ho => cell_of_heap (hfr c fun e => by subst e; exact hI o ho))
end
end GoV
end
section
set_option linter.unusedSimpArgs false
set_option linter.unusedVariables false
namespace GoV
open Go
def Hp.dead (hp : Hp) : Prop := ∃ t : Nat, hp.tk[t]? = some (.per 0 0)
theorem sim_dead {C : Cfg} {w0 : World} {B : Gh} {s : St} {a : Act} {w : World} (hd : s.hp.dead) : ¬ Sim C w0 B s a w := by
 rintro ⟨G, g0, _⟩
 obtain ⟨t, ht⟩ := hd
 have hl := g0.heap.lent
 have h0 := zAg ht
 rw [hl] at h0
 have h1 := g0.heap.tv t (.per 0 0) G.tk[t] ht (List.getElem?_eq_getElem h0)
 have h2 := g0.heap.tok G.tk[t] (List.getElem_mem h0)
 have h3 : 0 = G.tk[t].k := h1.1
 have h4 : 0 < G.tk[t].k := h2.1
 omega
theorem swp_none {C : Cfg} {rc : RC} {Q : Ex → St → Prop} {s : St} (h : SWp C rc (fun _ s' => s'.hp.dead) s) : SWp C rc Q s :=
 ⟨fun c hc w0 B hA a w hs => zEr (h.run c hc w0 B hA a w hs) fun e a w hl => by
  cases e <;> simp only [Lift] at hl ⊢ <;> first | exact hl | (obtain ⟨s, h1, h2⟩ := hl; exact (sim_dead h2 h1).elim)⟩
theorem swp_regP {C : Cfg} {Q : Ex → St → Prop} {s : St} {qs : List (RO × Bool)} {ros : List RO} (F : (Nat → Bool) → Hp) (h0 : F (fun _ => false) = s.hp)
 (h : opsF C.M F 0 qs (fun s1 => opsWp C.M ros (fun s' => s'.hp.dead) s1) s) : SWp C (.regD qs ros) Q s :=
 swp_none (zA0 F h0 h)
theorem any_pan {M : Mod} {F : (Nat → Bool) → Hp} {i : Nat} {f : FuncId} {first cap ds ds' : List D} {d : D} {hp hp0 : Hp} {R : D → Hp → Prop} (bl tl : List Nat) (h : Xff M f ds' hp0 R) (hF : ∀ E : Nat → Bool, E i = false → F E = hp) (hs : SelOk hp bl tl)
 (hd : D.rnL (posF bl) (posF tl) (first ++ ds ++ cap) = ds') (hh : hp.sel bl tl = hp0)
 (hk : ∀ d hp1, R d hp1 → M.pan (d.rn (bakF bl hp.H.length) (bakF tl hp.tk.length)) (hp.back bl tl hp1)) : AnyF M F i .call (.fn (.func f) first cap :: ds) d := fun E hE => by
 rw [hF E hE]
 simp only [OcWp, zAa, isPan, if_true]
 exact call_pan bl tl h hs hd hh hk
end GoV
end
section
set_option linter.unusedSimpArgs false
set_option linter.unusedVariables false
namespace GoV
open Go
def agrees (T : List Nat) (a0 a : Act) : Prop := ∀ t ∈ T, a.tmps.getD t Go.undef = a0.tmps.getD t Go.undef
def noW (T : List Nat) (ops : Array Oper) : Bool := ops.all fun o => match o.dst with
 | none => true
 | some t => !T.contains t
def noWC (T : List Nat) : Code → Bool
 | .seq x y => noWC T x && noWC T y
 | .cond _ x y => noWC T x && noWC T y
 | .region _ ops _ => noW T ops
 | .ret => true
 | .skip => true
 | .label _ => true
 | _ => false
theorem zCt {T : List Nat} {a0 a : Act} {dst : Option Nat} {v : Value} (h : agrees T a0 a) (hd : ∀ t, dst = some t → t ∉ T) : agrees T a0 (a.put dst v) := by
 intro t ht
 cases dst with
 | none => exact h t ht
 | some u =>
   have hne : u ≠ t := fun e => hd u rfl (e ▸ ht)
   rw [← h t ht]
   simp only [Act.put, Array.getD_eq_getD_getElem?, Array.getElem?_setIfInBounds]
   rw [if_neg hne]
def QK (T : List Nat) (a0 : Act) (Q : Exit → Act → World → Prop) : Exit → Act → World → Prop := fun e a w => Q e a w ∧ (e ≠ .outgrown → agrees T a0 a)
theorem zC6 {F : Fence} {n : Nat} {P : Program} {ops : Array Oper} {Q : Exit → Act → World → Prop} {T : List Nat} {a0 : Act} (hT : noW T ops = true) :
 ∀ (l : List Nat) (a : Act) (w : World), wpOpsIn F n P ops Q l a w → agrees T a0 a → wpOpsIn F n P ops (QK T a0 Q) l a w
 | [], a, w, h, ha => ⟨h, fun _ => ha⟩
 | i :: l, a, w, h, ha => by
   simp only [wpOpsIn] at h ⊢
   cases ho : ops[i]? with
   | none => simp only [ho] at h ⊢; exact zC6 hT l a w h ha
   | some o =>
     simp only [ho] at h ⊢
     have hd : ∀ t, o.dst = some t → t ∉ T := by
      intro t e
      have hm : o ∈ ops := Array.mem_of_getElem? ho
      have := (Array.all_eq_true_iff_forall_mem.1 hT) o hm
      rw [e] at this
      simpa using this
     split at h
     ·rename_i hw
      rw [if_pos hw]
      obtain ⟨h1, h2⟩ := h
      refine ⟨h1, ?_⟩
      generalize (o.semAt F.round a.eval).run P w = r at h2 ⊢
      unfold Oper.uponIn at h2 ⊢
      split at h2
      iterate 2
       ·exact zC6 hT l _ _ h2 (zCt ha hd)
      ·exact zC6 hT l _ _ h2 (zCt (a := { a with defers := _ :: a.defers }) ha hd)
      ·refine ⟨h2.1, h2.2.mono fun e w' hp => ?_⟩
       cases e with
       | returned v => exact zC6 hT l _ _ hp (zCt ha hd)
       | panicked ch => exact ⟨hp, fun _ => ha⟩
       | outgrown => obtain ⟨a1, w1, q⟩ := hp; exact ⟨a1, w1, q, fun e => absurd rfl e⟩
      ·exact ⟨h2.1, h2.2.mono fun v w' hp => zC6 hT l _ _ hp (zCt ha hd)⟩
      ·refine ⟨h2.1, h2.2.mono fun e w' hp => ?_⟩
       cases e with
       | returned v => exact zC6 hT l _ _ hp (zCt ha hd)
       | panicked ch => exact ⟨hp, fun _ => ha⟩
       | outgrown => obtain ⟨a1, w1, q⟩ := hp; exact ⟨a1, w1, q, fun e => absurd rfl e⟩
      ·exact ⟨h2, fun _ => ha⟩
      ·exact h2.elim
     ·rename_i hw
      rw [if_neg hw]
      exact ⟨h.1, zC6 hT l _ _ h.2 (zCt ha hd)⟩
structure KWp (C : Cfg) (T : List Nat) (a0 : Act) (rc : RC) (Q : Ex → St → Prop) (s : St) : Prop where
 run : ∀ c, zAe C c = some rc → noWC T c = true → ∀ w0 B, C.M.start w0 B → ∀ a w, Sim C w0 B s a w → agrees T a0 a → wpE C.P c (QK T a0 (Lift C w0 B Q)) a w
section
variable {C : Cfg} {T : List Nat} {a0 : Act} {Q : Ex → St → Prop} {s : St}
theorem kwp_reg {ros : List RO} (h : opsWp C.M ros (fun s' => Q .normal s'.done) s) : KWp C T a0 (.reg ros) Q s := by
 refine ⟨fun c hc hn w0 B hA a w hs ha => ?_⟩
 have hreg : ∀ id ops d, c = .region id ops d → _ := fun id ops d e => zAp (e ▸ hc)
 cases c <;> (try simp only [zAe] at hc) <;> (try (cases hc; done))
 case region _ ops d =>
  rcases hreg _ _ _ rfl with ⟨r, h1, rfl, hr⟩ | ⟨r, h1, _⟩ | h1
  ·cases h1
   refine fun ro => wpIn_region (zC6 hn _ _ _ (zFv ⟨hA, lift_pq⟩ (K := fun s' => Q .normal s'.done) (fun s a w hk hs => ?_) _ _ s a w hr h hs) ha)
   exact ⟨s.done, zEa _ _ _ _ hs, hk⟩
  iterate 2
   ·cases h1
 all_goals exfalso; (repeat' split at hc) <;> simp_all
theorem kwp_seq {x y : RC} (h : KWp C T a0 x (fun e s' => match e with | .normal => KWp C T a0 y Q s' | e => Q e s') s) : KWp C T a0 (.seq x y) Q s := by
 refine ⟨fun c hc hn w0 B hA a w hs ha => ?_⟩
 have hreg : ∀ id ops d, c = .region id ops d → _ := fun id ops d e => zAp (e ▸ hc)
 cases c <;> (try simp only [zAe] at hc) <;> (try (cases hc; done))
 case seq ca cb =>
  simp only [noWC, Bool.and_eq_true] at hn
  cases hca : zAe C ca with
  | none => simp [hca] at hc
  | some p =>
    cases hb : zAe C cb with
    | none => simp [hca, hb] at hc
    | some q =>
      simp [hca, hb] at hc
      obtain ⟨rfl, rfl⟩ := hc
      refine wpE_seq (zEr (h.run ca hca hn.1 w0 B hA a w hs ha) fun e a' w' hl => ?_)
      obtain ⟨hl, hk⟩ := hl
      cases e <;> simp only [Lift, Exit.then] at hl ⊢ <;> try exact ⟨hl, hk⟩
      obtain ⟨s', h1, h2⟩ := hl
      exact h2.run cb hb hn.2 w0 B hA a' w' h1 (hk (by simp))
 case region _ ops d => exfalso; have := hreg _ _ _ rfl; simp at this
 all_goals exfalso; (repeat' split at hc) <;> simp_all
theorem kwp_cond {g : Opd} {x y : RC} {t : Bool} (hg : s.get g = .bool t) (h1 : t = true → KWp C T a0 x Q (s.setO g (.bool true))) (h2 : t = false → KWp C T a0 y Q (s.setO g (.bool false))) : KWp C T a0 (.cond g x y) Q s := by
 refine ⟨fun c hc hn w0 B hA a w hs hag => ?_⟩
 have hreg : ∀ id ops d, c = .region id ops d → _ := fun id ops d e => zAp (e ▸ hc)
 cases c <;> (try simp only [zAe] at hc) <;> (try (cases hc; done))
 case cond co ca cb =>
  simp only [noWC, Bool.and_eq_true] at hn
  cases ho : resO C co with
  | none => simp [ho] at hc
  | some g' =>
    cases ha : zAe C ca with
    | none => simp [ho, ha] at hc
    | some p =>
      cases hb : zAe C cb with
      | none => simp [ho, ha, hb] at hc
      | some q =>
        simp [ho, ha, hb] at hc
        obtain ⟨rfl, rfl, rfl⟩ := hc
        have hs0 := hs
        obtain ⟨G, g0, gb, g1, g2, g3, g4⟩ := hs
        have hv := zEy g4 ho
        rw [hg] at hv; simp only [Rel] at hv
        have nar : Sim C w0 B (s.setO g' (.bool t)) a w := by
         cases co with
         | tmp u =>
           refine ⟨G, by rw [zDc]; exact g0, gb, g1, g2, by rw [zB0]; exact g3, fun u' => ?_⟩
           rw [zEe (zC3 ho).1 g3]
           split
           ·rename_i e; subst e
            simp only [Act.eval] at hv
            simp only [Rel]; exact hv
           ·exact g4 u'
         | const v =>
           simp only [resO] at ho
           cases hd : toD v with
           | none => simp [hd] at ho
           | some d => simp [hd] at ho; subst ho; simpa [St.setO] using hs0
         | global n => simp [resO] at ho
         | func f => simp [resO] at ho; subst ho; simpa [St.setO] using hs0
        refine fun ro => wpIn_cond_split hv (fun e => ?_) (fun e => ?_)
        ·subst e; exact (h1 rfl).run ca ha hn.1 w0 B hA a w nar hag ro
        ·subst e; exact (h2 rfl).run cb hb hn.2 w0 B hA a w nar hag ro
 case region _ ops d => exfalso; have := hreg _ _ _ rfl; simp at this
 all_goals exfalso; (repeat' split at hc) <;> simp_all
def KCd (C : Cfg) (T : List Nat) (a0 : Act) (b : D) (g : Opd) (x y : RC) (Q : Ex → St → Prop) (s : St) : Prop :=
 match b with
 | .bool t => (t = true → KWp C T a0 x Q (s.setO g (.bool true))) ∧ (t = false → KWp C T a0 y Q (s.setO g (.bool false)))
 | _ => False
theorem kwp_cd {g : Opd} {x y : RC} (h : KCd C T a0 (s.get g) g x y Q s) : KWp C T a0 (.cond g x y) Q s := by
 unfold KCd at h
 split at h
 ·rename_i t ht; exact kwp_cond ht h.1 h.2
 ·exact h.elim
theorem e_kcdT {g : Opd} {x y : RC} : KCd C T a0 (.bool true) g x y Q s = KWp C T a0 x Q (s.setO g (.bool true)) := by simp [KCd]
theorem e_kcdF {g : Opd} {x y : RC} : KCd C T a0 (.bool false) g x y Q s = KWp C T a0 y Q (s.setO g (.bool false)) := by simp [KCd]
end
theorem putAt_take {α : Type} {k : Nat} : ∀ (bl : List Nat) (xs H : List α), (∀ b ∈ bl, k ≤ b) → (putAt bl xs H).take k = H.take k
 | [], _, _, _ => by simp [putAt]
 | _ :: _, [], _, _ => by simp [putAt]
 | b :: bl, x :: xs, H, h => by
   simp only [putAt]
   rw [putAt_take bl xs (H.set b x) (fun b hb => h b (by simp [hb])), List.take_set_of_le (h b (by simp))]
theorem back_take {hp hp1 : Hp} {bl tl : List Nat} {k : Nat} (h : ∀ b ∈ bl, k ≤ b) (hk : k ≤ hp.H.length) : (hp.back bl tl hp1).H.take k = hp.H.take k := by
 simp only [Hp.back]
 rw [List.take_append_of_le_length (by rw [zAi]; exact hk), putAt_take _ _ _ h]
end GoV
end
section
namespace Go.Proofs
open Go.Shelf
def Tryz.lays169_ren : Go.Shelf.Ren := ⟨fun | 169 => 76 | n => n, fun | 70 => 108 | 9 => 9 | 0 => 0 | 72 => 111 | 37 => 109 | 127 => 126 | 3 => 3 | 5 => 5 | n => n, fun | n => n⟩
theorem Tryz.lays169 : Go.Proofs.Lays.n169 Tryz.prog Tryz.lays169_ren := {
 mixed := by kernel_rfl
 f169 := Tryz.func76.trans (congrArg some (by kernel_rfl))
 t0 := Tryz.underlying0
 a0 := Tryz.isAgg0
 z0 := Tryz.sizeOf0
 v0 := Tryz.zeroValue0
 t3 := Tryz.underlying3
 a3 := Tryz.isAgg3
 z3 := Tryz.sizeOf3
 v3 := Tryz.zeroValue3
 t9 := Tryz.underlying9
 a9 := Tryz.isAgg9
 z9 := Tryz.sizeOf9
 v9 := Tryz.zeroValue9
 t37 := Tryz.underlying109
 a37 := Tryz.isAgg109
 z37 := Tryz.sizeOf109
 v37 := Tryz.zeroValue109
 t70 := Tryz.underlying108
 a70 := Tryz.isAgg108
 z70 := Tryz.sizeOf108
 v70 := Tryz.zeroValue108
 t72 := Tryz.underlying111
 a72 := Tryz.isAgg111
 z72 := Tryz.sizeOf111
 v72 := Tryz.zeroValue111
 t127 := Tryz.underlying126
 a127 := Tryz.isAgg126
 z127 := Tryz.sizeOf126
 v127 := Tryz.zeroValue126 }
theorem Tryz.Builder_Extra_169 : Builder.Extra Tryz.prog Tryz.lays169_ren := {
 sizeBuilder := by kernel_rfl
 liesBuilder := by kernel_rfl
 t5 := Tryz.underlying5
 a5 := Tryz.isAgg5
 z5 := Tryz.sizeOf5
 v5 := Tryz.zeroValue5
 infoByte := by kernel_rfl
 cellsByte := by kernel_rfl
 sizeByte := by kernel_rfl
 neB5 := by decide }
def Tryz.lays137_ren : Go.Shelf.Ren := ⟨fun | 137 => 75 | 217 => 87 | 266 => 96 | n => n, fun | 9 => 9 | 5 => 5 | 3 => 3 | n => n, fun | n => n⟩
theorem Tryz.lays137 : Go.Proofs.Lays.n137 Tryz.prog Tryz.lays137_ren := {
 mixed := by kernel_rfl
 f137 := Tryz.func75.trans (congrArg some (by kernel_rfl))
 f217 := Tryz.func87.trans (congrArg some (by kernel_rfl))
 f266 := Tryz.func96.trans (congrArg some (by kernel_rfl))
 t3 := Tryz.underlying3
 a3 := Tryz.isAgg3
 z3 := Tryz.sizeOf3
 v3 := Tryz.zeroValue3
 t5 := Tryz.underlying5
 a5 := Tryz.isAgg5
 z5 := Tryz.sizeOf5
 v5 := Tryz.zeroValue5
 t9 := Tryz.underlying9
 a9 := Tryz.isAgg9
 z9 := Tryz.sizeOf9
 v9 := Tryz.zeroValue9 }
open Go.RowKit in
theorem Tryz.strings_IndexByte (s : ByteArray) (c : Int) (w : World) :
 Calls Tryz.prog 75 #[.string s, .int .u8 c] w fun e w' => e = .returned (.int .i64 (Lib.indexByte s.data.toList c.toNat.toUInt8)) ∧ w' = w := Any.strings_IndexByte Tryz.lays137 s c w
def Tryz.lays172_ren : Go.Shelf.Ren := ⟨fun | 172 => 78 | 244 => 89 | 245 => 90 | 247 => 98 | 279 => 99 | 280 => 100 | 281 => 101 | 282 => 102 | 287 => 105 | 316 => 106 | 171 => 38 | 205 => 107 | 321 => 108 | 322 => 109 | 243 => 59 | 246 => 74 | 283 => 83 | 284 => 84 | 285 => 85 | 286 => 86 | 129 => 92 | 317 => 91 | 318 => 93 | 319 => 94 | 320 => 95 | 337 => 103 | 338 => 104 | n => n, fun | 9 => 9 | 3 => 3 | 75 => 114 | 76 => 116 | 4 => 4 | 5 => 5 | 167 => 137 | 37 => 109 | 0 => 0 | 85 => 138 | 2 => 2 | 168 => 140 | 53 => 93 | 175 => 144 | 46 => 133 | 210 => 148 | 127 => 126 | 145 => 156 | 143 => 154 | 21 => 21 | 171 => 121 | 173 => 124 | 212 => 129 | 51 => 130 | 20 => 20 | 213 => 131 | 232 => 150 | 233 => 151 | 80 => 112 | n => n, fun | 15 => 2 | 16 => 3 | 17 => 0 | 18 => 4 | 19 => 5 | n => n⟩
theorem Tryz.lays172 : Go.Proofs.Lays.n172 Tryz.prog Tryz.lays172_ren := {
 mixed := by kernel_rfl
 f129 := Tryz.func92.trans (congrArg some (by kernel_rfl))
 f171 := Tryz.func38.trans (congrArg some (by kernel_rfl))
 f172 := Tryz.func78.trans (congrArg some (by kernel_rfl))
 f205 := Tryz.func107.trans (congrArg some (by kernel_rfl))
 f243 := Tryz.func59.trans (congrArg some (by kernel_rfl))
 f244 := Tryz.func89.trans (congrArg some (by kernel_rfl))
 f245 := Tryz.func90.trans (congrArg some (by kernel_rfl))
 f246 := Tryz.func74.trans (congrArg some (by kernel_rfl))
 f247 := Tryz.func98.trans (congrArg some (by kernel_rfl))
 f279 := Tryz.func99.trans (congrArg some (by kernel_rfl))
 f280 := Tryz.func100.trans (congrArg some (by kernel_rfl))
 f281 := Tryz.func101.trans (congrArg some (by kernel_rfl))
 f282 := Tryz.func102.trans (congrArg some (by kernel_rfl))
 f283 := Tryz.func83.trans (congrArg some (by kernel_rfl))
 f284 := Tryz.func84.trans (congrArg some (by kernel_rfl))
 f285 := Tryz.func85.trans (congrArg some (by kernel_rfl))
 f286 := Tryz.func86.trans (congrArg some (by kernel_rfl))
 f287 := Tryz.func105.trans (congrArg some (by kernel_rfl))
 f316 := Tryz.func106.trans (congrArg some (by kernel_rfl))
 f317 := Tryz.func91.trans (congrArg some (by kernel_rfl))
 f318 := Tryz.func93.trans (congrArg some (by kernel_rfl))
 f319 := Tryz.func94.trans (congrArg some (by kernel_rfl))
 f320 := Tryz.func95.trans (congrArg some (by kernel_rfl))
 f321 := Tryz.func108.trans (congrArg some (by kernel_rfl))
 f322 := Tryz.func109.trans (congrArg some (by kernel_rfl))
 f337 := Tryz.func103.trans (congrArg some (by kernel_rfl))
 f338 := Tryz.func104.trans (congrArg some (by kernel_rfl))
 t0 := Tryz.underlying0
 a0 := Tryz.isAgg0
 z0 := Tryz.sizeOf0
 v0 := Tryz.zeroValue0
 t2 := Tryz.underlying2
 a2 := Tryz.isAgg2
 z2 := Tryz.sizeOf2
 v2 := Tryz.zeroValue2
 t3 := Tryz.underlying3
 a3 := Tryz.isAgg3
 z3 := Tryz.sizeOf3
 v3 := Tryz.zeroValue3
 t4 := Tryz.underlying4
 a4 := Tryz.isAgg4
 z4 := Tryz.sizeOf4
 v4 := Tryz.zeroValue4
 t5 := Tryz.underlying5
 a5 := Tryz.isAgg5
 z5 := Tryz.sizeOf5
 v5 := Tryz.zeroValue5
 t9 := Tryz.underlying9
 a9 := Tryz.isAgg9
 z9 := Tryz.sizeOf9
 v9 := Tryz.zeroValue9
 t20 := Tryz.underlying20
 a20 := Tryz.isAgg20
 z20 := Tryz.sizeOf20
 v20 := Tryz.zeroValue20
 t21 := Tryz.underlying21
 a21 := Tryz.isAgg21
 z21 := Tryz.sizeOf21
 v21 := Tryz.zeroValue21
 t37 := Tryz.underlying109
 a37 := Tryz.isAgg109
 z37 := Tryz.sizeOf109
 v37 := Tryz.zeroValue109
 t46 := Tryz.underlying133
 a46 := Tryz.isAgg133
 z46 := Tryz.sizeOf133
 v46 := Tryz.zeroValue133
 t51 := Tryz.underlying130
 a51 := Tryz.isAgg130
 z51 := Tryz.sizeOf130
 v51 := Tryz.zeroValue130
 t53 := Tryz.underlying93
 a53 := Tryz.isAgg93
 z53 := Tryz.sizeOf93
 v53 := Tryz.zeroValue93
 t75 := Tryz.underlying114
 a75 := Tryz.isAgg114
 z75 := Tryz.sizeOf114
 v75 := Tryz.zeroValue114
 t76 := Tryz.underlying116
 a76 := Tryz.isAgg116
 z76 := Tryz.sizeOf116
 v76 := Tryz.zeroValue116
 t85 := Tryz.underlying138
 a85 := Tryz.isAgg138
 z85 := Tryz.sizeOf138
 v85 := Tryz.zeroValue138
 t127 := Tryz.underlying126
 a127 := Tryz.isAgg126
 z127 := Tryz.sizeOf126
 v127 := Tryz.zeroValue126
 t143 := Tryz.underlying154
 a143 := Tryz.isAgg154
 z143 := Tryz.sizeOf154
 v143 := Tryz.zeroValue154
 t145 := Tryz.underlying156
 a145 := Tryz.isAgg156
 z145 := Tryz.sizeOf156
 v145 := Tryz.zeroValue156
 t167 := Tryz.underlying137
 a167 := Tryz.isAgg137
 z167 := Tryz.sizeOf137
 v167 := Tryz.zeroValue137
 t168 := Tryz.underlying140
 a168 := Tryz.isAgg140
 z168 := Tryz.sizeOf140
 v168 := Tryz.zeroValue140
 t171 := Tryz.underlying121
 a171 := Tryz.isAgg121
 z171 := Tryz.sizeOf121
 v171 := Tryz.zeroValue121
 t173 := Tryz.underlying124
 a173 := Tryz.isAgg124
 z173 := Tryz.sizeOf124
 v173 := Tryz.zeroValue124
 t175 := Tryz.underlying144
 a175 := Tryz.isAgg144
 z175 := Tryz.sizeOf144
 v175 := Tryz.zeroValue144
 t210 := Tryz.underlying148
 a210 := Tryz.isAgg148
 z210 := Tryz.sizeOf148
 v210 := Tryz.zeroValue148
 t212 := Tryz.underlying129
 a212 := Tryz.isAgg129
 z212 := Tryz.sizeOf129
 v212 := Tryz.zeroValue129
 t213 := Tryz.underlying131
 a213 := Tryz.isAgg131
 z213 := Tryz.sizeOf131
 t232 := Tryz.underlying150
 a232 := Tryz.isAgg150
 z232 := Tryz.sizeOf150
 v232 := Tryz.zeroValue150
 t233 := Tryz.underlying151
 a233 := Tryz.isAgg151
 z233 := Tryz.sizeOf151
 v233 := Tryz.zeroValue151
 g15 := by kernel_rfl
 g16 := by kernel_rfl
 g17 := by kernel_rfl
 g18 := by kernel_rfl
 g19 := by kernel_rfl }
open Go.RowKit in
theorem Tryz.strconv_Atoi (s : ByteArray) (n : Int) (hl : s.size ≤ 18) (h : Lib.atoi s.data.toList = some n) (w : World) :
 Calls Tryz.prog 78 #[.string s] w fun e w' => e = .returned (.tuple #[.int .i64 n, .nilIface]) ∧ ∃ t, w' = Lib.bytesWorld w 5 t := Any.strconv_Atoi Tryz.lays172 s n hl h w
def Tryz.laysM171_ren : Go.Shelf.Ren := ⟨fun | 171 => 38 | 243 => 59 | 246 => 74 | 283 => 83 | 284 => 84 | 285 => 85 | 286 => 86 | 129 => 92 | 317 => 91 | 318 => 93 | 319 => 94 | 320 => 95 | 337 => 103 | 338 => 104 | n => n, fun | 3 => 3 | 9 => 9 | 2 => 2 | 4 => 4 | 171 => 121 | 0 => 0 | 53 => 93 | 37 => 109 | 5 => 5 | 173 => 124 | 212 => 129 | 51 => 130 | 20 => 20 | 213 => 131 | 46 => 133 | 232 => 150 | 233 => 151 | n => n, fun | 17 => 0 | 18 => 4 | 19 => 5 | n => n⟩
theorem Tryz.laysM171 : Go.Proofs.LaysM.n171 Tryz.prog Tryz.laysM171_ren := {
 mixed := by kernel_rfl
 f129 := Tryz.func92.trans (congrArg some (by kernel_rfl))
 f171 := Tryz.func38.trans (congrArg some (by kernel_rfl))
 f243 := Tryz.func59.trans (congrArg some (by kernel_rfl))
 f246 := Tryz.func74.trans (congrArg some (by kernel_rfl))
 f283 := Tryz.func83.trans (congrArg some (by kernel_rfl))
 f284 := Tryz.func84.trans (congrArg some (by kernel_rfl))
 f285 := Tryz.func85.trans (congrArg some (by kernel_rfl))
 f286 := Tryz.func86.trans (congrArg some (by kernel_rfl))
 f317 := Tryz.func91.trans (congrArg some (by kernel_rfl))
 f318 := Tryz.func93.trans (congrArg some (by kernel_rfl))
 f319 := Tryz.func94.trans (congrArg some (by kernel_rfl))
 f320 := Tryz.func95.trans (congrArg some (by kernel_rfl))
 f337 := Tryz.func103.trans (congrArg some (by kernel_rfl))
 f338 := Tryz.func104.trans (congrArg some (by kernel_rfl))
 t0 := Tryz.underlying0
 a0 := Tryz.isAgg0
 z0 := Tryz.sizeOf0
 v0 := Tryz.zeroValue0
 t2 := Tryz.underlying2
 a2 := Tryz.isAgg2
 z2 := Tryz.sizeOf2
 v2 := Tryz.zeroValue2
 t3 := Tryz.underlying3
 a3 := Tryz.isAgg3
 z3 := Tryz.sizeOf3
 v3 := Tryz.zeroValue3
 t4 := Tryz.underlying4
 a4 := Tryz.isAgg4
 z4 := Tryz.sizeOf4
 v4 := Tryz.zeroValue4
 t5 := Tryz.underlying5
 a5 := Tryz.isAgg5
 z5 := Tryz.sizeOf5
 v5 := Tryz.zeroValue5
 t9 := Tryz.underlying9
 a9 := Tryz.isAgg9
 z9 := Tryz.sizeOf9
 v9 := Tryz.zeroValue9
 t20 := Tryz.underlying20
 a20 := Tryz.isAgg20
 z20 := Tryz.sizeOf20
 v20 := Tryz.zeroValue20
 t37 := Tryz.underlying109
 a37 := Tryz.isAgg109
 z37 := Tryz.sizeOf109
 v37 := Tryz.zeroValue109
 t46 := Tryz.underlying133
 a46 := Tryz.isAgg133
 z46 := Tryz.sizeOf133
 v46 := Tryz.zeroValue133
 t51 := Tryz.underlying130
 a51 := Tryz.isAgg130
 z51 := Tryz.sizeOf130
 v51 := Tryz.zeroValue130
 t53 := Tryz.underlying93
 a53 := Tryz.isAgg93
 z53 := Tryz.sizeOf93
 v53 := Tryz.zeroValue93
 t171 := Tryz.underlying121
 a171 := Tryz.isAgg121
 z171 := Tryz.sizeOf121
 v171 := Tryz.zeroValue121
 t173 := Tryz.underlying124
 a173 := Tryz.isAgg124
 z173 := Tryz.sizeOf124
 v173 := Tryz.zeroValue124
 t212 := Tryz.underlying129
 a212 := Tryz.isAgg129
 z212 := Tryz.sizeOf129
 v212 := Tryz.zeroValue129
 t213 := Tryz.underlying131
 a213 := Tryz.isAgg131
 z213 := Tryz.sizeOf131
 t232 := Tryz.underlying150
 a232 := Tryz.isAgg150
 z232 := Tryz.sizeOf150
 v232 := Tryz.zeroValue150
 t233 := Tryz.underlying151
 a233 := Tryz.isAgg151
 z233 := Tryz.sizeOf151
 v233 := Tryz.zeroValue151
 g17 := by kernel_rfl
 g18 := by kernel_rfl
 g19 := by kernel_rfl
 i0 := by kernel_rfl
 i2 := by kernel_rfl
 i3 := by kernel_rfl
 i4 := by kernel_rfl
 i5 := by kernel_rfl
 i9 := by kernel_rfl
 i20 := by kernel_rfl
 i37 := by kernel_rfl
 i46 := by kernel_rfl
 i51 := by kernel_rfl
 i53 := by kernel_rfl
 i171 := by kernel_rfl
 i173 := by kernel_rfl
 i212 := by kernel_rfl
 i232 := by kernel_rfl
 i233 := by kernel_rfl
 m17 := by kernel_rfl
 m18 := by kernel_rfl
 m19 := by kernel_rfl }
open Go.RowKit Go.Sort Go.Lib in
theorem Tryz.strconv_Itoa (n : Int) (h0 : -9223372036854775808 ≤ n) (h1 : n ≤ 9223372036854775807) (w : World) (htab : Lib.TabIs Tryz.prog w "internal/strconv.uint64pow10" .u64 Lib.pow10Tab) :
 Calls Tryz.prog 38 #[.int .i64 n] w fun e w' => e = .returned (.string ⟨(Lib.itoa n).toArray⟩) ∧ ∃ k os, w' = grow (w.drewN k) os := Any.strconv_Itoa Tryz.laysM171 n h0 h1 w htab
def Tryz.lays264_ren : Go.Shelf.Ren := ⟨fun | 264 => 141 | n => n, fun | 53 => 93 | 46 => 133 | n => n, fun | n => n⟩
theorem Tryz.lays264 : Go.Proofs.Lays.n264 Tryz.prog Tryz.lays264_ren := {
 mixed := by kernel_rfl
 f264 := Tryz.func141.trans (congrArg some (by kernel_rfl))
 t46 := Tryz.underlying133
 a46 := Tryz.isAgg133
 z46 := Tryz.sizeOf133
 v46 := Tryz.zeroValue133
 t53 := Tryz.underlying93
 a53 := Tryz.isAgg93
 z53 := Tryz.sizeOf93
 v53 := Tryz.zeroValue93 }
open Go.RowKit Go.Lib in
theorem Tryz.bits_Mul64 (x y : Nat) (hx : x < 18446744073709551616) (hy : y < 18446744073709551616) (w : World) :
 Calls Tryz.prog 141 #[.int .u64 x, .int .u64 y] w fun e w' => e = .returned (.tuple #[.int .u64 ((x * y / 18446744073709551616 : Nat) : Int), .int .u64 ((x * y % 18446744073709551616 : Nat) : Int)]) ∧ w' = w := Any.bits_Mul64 Tryz.lays264 x y hx hy w
end Go.Proofs
end
section
set_option maxRecDepth 100000
namespace Go.Proofs.YtkjnhkoipgdfeaaGreatDoor
open Go GoV
noncomputable def M : Mod := varMod Tryz.prog [(0, fun cs => cs = (Lib.pow10Tab.map (Value.int .u64 ·)).toArray), (1, fun cs => ∃ v, (∃ m, v = .int .i64 m) ∧ cs = #[v]),
 (2, fun cs => ∃ v, (v = .nilIface ∨ ∃ te pe, v = .iface te pe) ∧ cs = #[v]), (3, fun cs => ∃ v, (v = .nilIface ∨ ∃ te pe, v = .iface te pe) ∧ cs = #[v])]
noncomputable abbrev Ya (x y : Nat) : RO := ⟨.l x, .mv, [.v y], none⟩
noncomputable abbrev Za (x y g : Nat) (c : Bool) : RO := ⟨.l x, .mv, [.v y], some (.l g, c)⟩
noncomputable abbrev Yb (x y : Nat) : RO := ⟨.v x, .mv, [.l y], none⟩
noncomputable abbrev Yc (x y : Nat) : RO := ⟨.l x, .mv, [.l y], none⟩
noncomputable abbrev Zc (x y g : Nat) (c : Bool) : RO := ⟨.l x, .mv, [.l y], some (.l g, c)⟩
noncomputable abbrev Yd (x y : Nat) : RO := ⟨.l x, (.ld false 1), [.l y], none⟩
noncomputable abbrev Zd (x y g : Nat) (c : Bool) : RO := ⟨.l x, (.ld false 1), [.l y], some (.l g, c)⟩
noncomputable abbrev Ye (x y : Nat) : RO := ⟨.l x, (.ld false 1), [.v y], none⟩
noncomputable abbrev Ze (x y g : Nat) (c : Bool) : RO := ⟨.l x, (.ld false 1), [.v y], some (.l g, c)⟩
noncomputable abbrev Yf (x n y : Nat) : RO := ⟨.l x, (.ld true n), [.v y], none⟩
noncomputable abbrev Zf (x n y g : Nat) (c : Bool) : RO := ⟨.l x, (.ld true n), [.v y], some (.l g, c)⟩
noncomputable abbrev Yg (x n y : Nat) : RO := ⟨.l x, (.ld true n), [.l y], none⟩
noncomputable abbrev Yh (x k y : Nat) : RO := ⟨.l x, (.fld k), [.v y], none⟩
noncomputable abbrev Zh (x k y g : Nat) (c : Bool) : RO := ⟨.l x, (.fld k), [.v y], some (.l g, c)⟩
noncomputable abbrev Yi (x k y : Nat) : RO := ⟨.l x, (.fld k), [.l y], none⟩
noncomputable abbrev Zi (x k y g : Nat) (c : Bool) : RO := ⟨.l x, (.fld k), [.l y], some (.l g, c)⟩
noncomputable abbrev Yj (n x y : Nat) : RO := ⟨.none, (.st n), [.v x, .l y], none⟩
noncomputable abbrev Yk (n x y : Nat) : RO := ⟨.none, (.st n), [.l x, .l y], none⟩
noncomputable abbrev Yl (x y : Nat) : RO := ⟨.v x, .box, [.v y], none⟩
noncomputable abbrev Ym (x i y : Nat) : RO := ⟨.l x, (.ext i), [.l y], none⟩
noncomputable abbrev Yn (x y : Nat) : RO := ⟨.l x, (.nck M.P), [.l y], none⟩
noncomputable abbrev Zn (x y g : Nat) (c : Bool) : RO := ⟨.l x, (.nck M.P), [.l y], some (.l g, c)⟩
noncomputable abbrev Yo (x y z : Nat) : RO := ⟨.l x, .pick, [.l y, .l z, .con (.bool false)], none⟩
noncomputable abbrev Yp (x y z : Nat) : RO := ⟨.v x, .pick, [.l y, .l z, .con (.bool false)], none⟩
noncomputable abbrev Yq (x y z : Nat) : RO := ⟨.l x, .pick, [.l y, .con (.bool true), .l z], none⟩
noncomputable abbrev Yr (x y z : Nat) : RO := ⟨.v x, .pick, [.l y, .con (.bool true), .l z], none⟩
noncomputable abbrev Ys (x : Nat) (n : Int) : RO := ⟨.v x, .mv, [.con (.int .i64 n)], none⟩
noncomputable abbrev Yt (x f a : Nat) : RO := ⟨.l x, (.calls .fn), [(.con (.fn (.func f) [] [])), .l a], none⟩
noncomputable abbrev Yu (x f a b : Nat) : RO := ⟨.l x, (.calls .fn), [(.con (.fn (.func f) [] [])), .l a, .l b], none⟩
noncomputable abbrev Yv (x : Nat) (o : BinOp) (y : Nat) (n : Int) : RO := ⟨.l x, (.bin o), [.l y, .con (.int .i64 n)], none⟩
noncomputable abbrev Yw (x : Nat) (o : BinOp) (y : Nat) (n : Int) : RO := ⟨.l x, (.bin o), [.v y, .con (.int .i64 n)], none⟩
noncomputable abbrev Yx (x : Nat) (o : BinOp) (y z : Nat) : RO := ⟨.l x, (.bin o), [.l y, .l z], none⟩
noncomputable abbrev Yy (x : Nat) (o : BinOp) (y z : Nat) : RO := ⟨.v x, (.bin o), [.l y, .l z], none⟩
noncomputable abbrev Yz (x : Nat) (o : BinOp) (y : Nat) (n : Int) : RO := ⟨.v x, (.bin o), [.l y, .con (.int .i64 n)], none⟩
@[irreducible] def zl256 : List D := List.replicate 256 (.int .u8 0)
noncomputable def E25 (n m : Nat) : Cfg := ⟨M, [0, 1, 2, 4, 5, 7, 9, 10, 11, 12, 17], 27, n, m, []⟩
noncomputable def C25 : Cfg := E25 0 0
noncomputable abbrev r25_0 : List RO := [Yl 2 0, Ys 3 0]
noncomputable abbrev r25_1 : List RO := [Ys 4 1]
noncomputable abbrev r25_2 : List RO := [Yh 8 2 2, ⟨.v 6, .ld false 1, [.l 8], none⟩, ⟨.v 7, .lenL, [.v 6], none⟩, Ys 8 0]
noncomputable abbrev r25_3 : List RO := [⟨.v 9, .bin .lss, [.v 8, .v 7], none⟩]
noncomputable abbrev r25_4 : List RO := [⟨.l 13, .ixaS 3, [.v 6, .v 8], none⟩, Yg 14 3 13, ⟨.v 5, (.newb [(.int .i64 0), (.int .i64 0), (.lit (.slice none 0 0))]), [], none⟩, Yj 3 5 14]
noncomputable abbrev r25_5 : List RO := [Ya 15 4, Ya 16 1, Yy 10 .gtr 15 16]
noncomputable abbrev r25_6 : List RO := [Ya 18 4, Yf 19 3 5, Ya 20 1, Ya 21 4, Yx 22 .sub 20 21, Yu 23 25 19 22, Yx 24 .add 18 23, Yb 4 24]
noncomputable abbrev r25_7 : List RO := [Yw 25 .add 8 1, Yb 8 25]
noncomputable abbrev r25_8 : List RO := [Ya 26 4, Yb 3 26]
theorem P25 : C25.M = M := rfl
theorem i25 {a0 a1 : D} : St.init C25 [a0, a1] ⟨[], []⟩ = ⟨[a0, a1, .u0, .u0, .u0, .u0, .u0, .u0, .u0, .u0, .u0], [], ⟨[], []⟩⟩ := rfl
noncomputable def c25 : RC := (.seq (.reg r25_0) (.seq (.reg r25_1) (.seq (.seq (.reg r25_2) (.block 0 (.loop (.seq (.reg r25_3) (.seq (.cond (.v 9) .skip (.exit 0)) (.seq (.block 1 (.seq (.reg r25_4) (.seq (.seq (.reg r25_5) (.cond (.v 10) (.exit 0) .skip)) (.reg r25_6)))) (.reg r25_7))))))) (.seq (.reg r25_8) .ret))))
noncomputable def q25 : List RR := [(.slot (.v 3))]
theorem k25 : FnOk M 25 2 Tryz.f25 E25 c25 q25 := fnOk Tryz.func25
noncomputable def E29 (n m : Nat) : Cfg := ⟨M, [0, 1, 2, 3, 5, 6, 15, 19, 47, 49, 50, 51, 52, 57], 59, n, m, []⟩
noncomputable def C29 : Cfg := E29 0 0
noncomputable abbrev r29_0 : List RO := [Yl 1 0, ⟨.v 2, .mv, [.con (.bool false)], none⟩]
noncomputable abbrev r29_1 : List RO := [Ys 3 0]
noncomputable abbrev r29_2 : List RO := [Yh 7 0 1, Yd 8 7, Yv 9 .lss 8 1, Yc 10 9, Zh 11 0 1 10 false, Zd 12 11 10 false, ⟨.l 13, .bin .gtr, [.l 12, .con (.int .i64 11)], (some (.l 10, false))⟩, Yq 14 10 13, Yb 5 14]
noncomputable abbrev r29_3 : List RO := [⟨.v 2, .mv, [.con (.bool false)], none⟩]
noncomputable abbrev r29_4 : List RO := [Yh 16 0 1, Yd 17 16, Yv 18 .eql 17 11, Yb 6 18]
noncomputable abbrev r29_5 : List RO := [Ys 3 3]
noncomputable abbrev r29_6 : List RO := [Yh 20 0 1, Yd 21 20, Yv 22 .geq 21 5, Yb 7 22]
noncomputable abbrev r29_7 : List RO := [Ys 3 2]
noncomputable abbrev r29_8 : List RO := [Yh 23 2 1, Yd 24 23, ⟨.l 25, .lenL, [.l 24], none⟩, Ya 26 3, Yx 27 .neq 25 26, Yc 28 27, Zh 29 1 1 28 false, Zd 30 29 28 false, ⟨.l 31, .bin .lss, [.l 30, .con (.int .i64 0)], (some (.l 28, false))⟩, Yq 32 28 31, Yc 33 32, Zh 34 1 1 33 false, Zd 35 34 33 false, ⟨.l 36, .bin .gtr, [.l 35, .con (.int .i64 9999999)], (some (.l 33, false))⟩, Yq 37 33 36, Yc 38 37, Zh 39 1 1 38 false, Zd 40 39 38 false, ⟨.l 41, .bin .gtr, [.l 40, .con (.int .i64 0)], (some (.l 38, false))⟩, Zc 42 41 38 false, Zh 43 0 1 42 true, Zd 44 43 42 true, ⟨.l 45, .bin .neq, [.l 44, .con (.int .i64 1)], (some (.l 42, true))⟩, ⟨.l 46, .pick, [.l 42, .l 45, .con (.bool false)], (some (.l 38, false))⟩, Yr 8 38 46]
noncomputable abbrev r29_9 : List RO := [⟨.v 2, .mv, [.con (.bool false)], none⟩]
noncomputable abbrev r29_10 : List RO := [Yh 48 2 1, ⟨.v 9, .ld false 1, [.l 48], none⟩, ⟨.v 10, .lenL, [.v 9], none⟩, Ys 11 0]
noncomputable abbrev r29_11 : List RO := [⟨.v 12, .bin .lss, [.v 11, .v 10], none⟩]
noncomputable abbrev r29_12 : List RO := [⟨.l 53, .ixaS 3, [.v 9, .v 11], none⟩, Yg 54 3 53, ⟨.v 4, (.newb [(.int .i64 0), (.int .i64 0), (.lit (.slice none 0 0))]), [], none⟩, Yj 3 4 54]
noncomputable abbrev r29_13 : List RO := [Yf 55 3 4, Yt 56 29 55, ⟨.v 13, .un .not, [.l 56], none⟩]
noncomputable abbrev r29_14 : List RO := [⟨.v 2, .mv, [.con (.bool false)], none⟩]
noncomputable abbrev r29_15 : List RO := [Yw 58 .add 11 1, Yb 11 58]
noncomputable abbrev r29_16 : List RO := [⟨.v 2, .mv, [.con (.bool true)], none⟩]
theorem P29 : C29.M = M := rfl
theorem i29 {a0 : D} : St.init C29 [a0] ⟨[], []⟩ = ⟨[a0, .u0, .u0, .u0, .u0, .u0, .u0, .u0, .u0, .u0, .u0, .u0, .u0, .u0], [], ⟨[], []⟩⟩ := rfl
noncomputable def c29 : RC := (.seq (.reg r29_0) (.seq (.reg r29_1) (.seq (.block 0 (.seq (.reg r29_2) (.cond (.v 5) (.seq (.reg r29_3) .ret) (.seq (.reg r29_4) (.cond (.v 6) (.reg r29_5) (.seq (.reg r29_6) (.cond (.v 7) (.reg r29_7) .skip))))))) (.seq (.seq (.reg r29_8) (.cond (.v 8) (.seq (.reg r29_9) .ret) .skip)) (.seq (.seq (.reg r29_10) (.block 1 (.loop (.seq (.reg r29_11) (.seq (.cond (.v 12) .skip (.exit 1)) (.seq (.block 2 (.seq (.reg r29_12) (.seq (.reg r29_13) (.cond (.v 13) (.seq (.reg r29_14) .ret) .skip)))) (.reg r29_15))))))) (.seq (.reg r29_16) .ret))))))
noncomputable def q29 : List RR := [(.slot (.v 2))]
theorem k29 : FnOk M 29 1 Tryz.f29 E29 c29 q29 := fnOk Tryz.func29
noncomputable def E10 (n m : Nat) : Cfg := ⟨M, [0, 1, 2], 10, n, m, []⟩
noncomputable def C10 : Cfg := E10 0 0
noncomputable abbrev r10_0 : List RO := [Yl 1 0, ⟨.v 2, .mv, [.con (.bool false)], none⟩]
noncomputable abbrev r10_1 : List RO := [Yf 3 3 1, ⟨.l 4, .calls .fn, [(.con (.fn (.func 25) [] [])), .l 3, .con (.int .i64 60)], none⟩, Yv 5 .leq 4 60, Yc 6 5, Zf 7 3 1 6 true, ⟨.l 8, .calls .fn, [(.con (.fn (.func 29) [] [])), .l 7], (some (.l 6, true))⟩, Yo 9 6 8, Yb 2 9]
theorem P10 : C10.M = M := rfl
theorem i10 {a0 : D} : St.init C10 [a0] ⟨[], []⟩ = ⟨[a0, .u0, .u0], [], ⟨[], []⟩⟩ := rfl
noncomputable def c10 : RC := (.seq (.reg r10_0) (.seq (.reg r10_1) .ret))
noncomputable def q10 : List RR := [(.slot (.v 2))]
theorem k10 : FnOk M 10 1 Tryz.f10 E10 c10 q10 := fnOk Tryz.func10
noncomputable def E18 (n m : Nat) : Cfg := ⟨M, [0, 1, 2, 4, 5, 6, 16], 31, n, m, []⟩
noncomputable def C18 : Cfg := E18 0 0
noncomputable abbrev r18_0 : List RO := [Yl 2 0, Ys 3 0]
noncomputable abbrev r18_1 : List RO := [Ys 4 1]
noncomputable abbrev r18_2 : List RO := [Ys 5 0]
noncomputable abbrev r18_3 : List RO := [Ya 7 5, Yh 8 2 2, Yd 9 8, ⟨.l 10, .lenL, [.l 9], none⟩, Yx 11 .lss 7 10, Yc 12 11, Za 13 4 12 true, Za 14 1 12 true, ⟨.l 15, .bin .leq, [.l 13, .l 14], (some (.l 12, true))⟩, Yp 6 12 15]
noncomputable abbrev r18_4 : List RO := [Ya 19 4, Yh 20 2 2, Yd 21 20, Ya 22 5, ⟨.l 23, .ixaS 3, [.l 21, .l 22], none⟩, Yg 24 3 23, Ya 25 1, Ya 26 4, Yx 27 .sub 25 26, Yu 28 18 24 27, Yx 29 .add 19 28, Yb 4 29]
noncomputable abbrev r18_5 : List RO := [Ya 17 5, Yv 18 .add 17 1, Yb 5 18]
noncomputable abbrev r18_6 : List RO := [Ya 30 4, Yb 3 30]
theorem P18 : C18.M = M := rfl
theorem i18 {a0 a1 : D} : St.init C18 [a0, a1] ⟨[], []⟩ = ⟨[a0, a1, .u0, .u0, .u0, .u0, .u0], [], ⟨[], []⟩⟩ := rfl
noncomputable def c18 : RC := (.seq (.reg r18_0) (.seq (.reg r18_1) (.seq (.seq (.reg r18_2) (.block 0 (.loop (.seq (.seq (.reg r18_3) (.cond (.v 6) .skip (.exit 0))) (.seq (.block 1 (.reg r18_4)) (.reg r18_5)))))) (.seq (.reg r18_6) .ret))))
noncomputable def q18 : List RR := [(.slot (.v 3))]
theorem k18 : FnOk M 18 2 Tryz.f18 E18 c18 q18 := fnOk Tryz.func18
noncomputable def E5 (n m : Nat) : Cfg := ⟨M, [0, 1, 2], 6, n, m, []⟩
noncomputable def C5 : Cfg := E5 0 0
noncomputable abbrev r5_0 : List RO := [Yl 1 0, ⟨.v 2, .mv, [.con (.bool false)], none⟩]
noncomputable abbrev r5_1 : List RO := [Yf 3 3 1, ⟨.l 4, .calls .fn, [(.con (.fn (.func 18) [] [])), .l 3, .con (.int .i64 80)], none⟩, Yv 5 .leq 4 80, Yb 2 5]
theorem P5 : C5.M = M := rfl
theorem i5 {a0 : D} : St.init C5 [a0] ⟨[], []⟩ = ⟨[a0, .u0, .u0], [], ⟨[], []⟩⟩ := rfl
noncomputable def c5 : RC := (.seq (.reg r5_0) (.seq (.reg r5_1) .ret))
noncomputable def q5 : List RR := [(.slot (.v 2))]
theorem z5 {n m : Nat} : zAe (E5 n m) (Tryz.f5.body.getD .skip) = some c5 := by kernel_rfl
theorem k5 : FnOk M 5 1 Tryz.f5 E5 c5 q5 := fnOk Tryz.func5
noncomputable def E52 (n m : Nat) : Cfg := ⟨M, [0, 1, 2], 18, n, m, []⟩
noncomputable def C52 : Cfg := E52 0 0
noncomputable abbrev r52_0 : List RO := [Yl 1 0, ⟨.v 2, .mv, [.con (.bool false)], none⟩]
noncomputable abbrev r52_1 : List RO := [Yh 3 0 1, Yd 4 3, Yv 5 .geq 4 0, Yc 6 5, Zh 7 0 1 6 true, Zd 8 7 6 true, Zh 9 1 1 6 true, Zd 10 9 6 true, ⟨.l 11, .bin .leq, [.l 8, .l 10], (some (.l 6, true))⟩, Yo 12 6 11, Yc 13 12, Zh 14 1 1 13 true, Zd 15 14 13 true, ⟨.l 16, .bin .leq, [.l 15, .con (.int .i64 1000000)], (some (.l 13, true))⟩, Yo 17 13 16, Yb 2 17]
theorem P52 : C52.M = M := rfl
theorem i52 {a0 : D} : St.init C52 [a0] ⟨[], []⟩ = ⟨[a0, .u0, .u0], [], ⟨[], []⟩⟩ := rfl
noncomputable def c52 : RC := (.seq (.reg r52_0) (.seq (.reg r52_1) .ret))
noncomputable def q52 : List RR := [(.slot (.v 2))]
theorem k52 : FnOk M 52 1 Tryz.f52 E52 c52 q52 := fnOk Tryz.func52
noncomputable def E36 (n m : Nat) : Cfg := ⟨M, [0, 1, 2], 16, n, m, []⟩
noncomputable def C36 : Cfg := E36 0 0
noncomputable abbrev r36_0 : List RO := [Yl 1 0, ⟨.v 2, .mv, [.con (.bool false)], none⟩]
noncomputable abbrev r36_1 : List RO := [Yh 3 0 1, Yg 4 2 3, Yt 5 52 4, Yc 6 5, Zh 7 2 1 6 true, ⟨.l 8, .ld true 2, [.l 7], (some (.l 6, true))⟩, ⟨.l 9, .calls .fn, [(.con (.fn (.func 52) [] [])), .l 8], (some (.l 6, true))⟩, Yo 10 6 9, Yc 11 10, Zh 12 4 1 11 true, ⟨.l 13, .ld true 2, [.l 12], (some (.l 11, true))⟩, ⟨.l 14, .calls .fn, [(.con (.fn (.func 52) [] [])), .l 13], (some (.l 11, true))⟩, Yo 15 11 14, Yb 2 15]
theorem P36 : C36.M = M := rfl
theorem i36 {a0 : D} : St.init C36 [a0] ⟨[], []⟩ = ⟨[a0, .u0, .u0], [], ⟨[], []⟩⟩ := rfl
noncomputable def c36 : RC := (.seq (.reg r36_0) (.seq (.reg r36_1) .ret))
noncomputable def q36 : List RR := [(.slot (.v 2))]
theorem k36 : FnOk M 36 1 Tryz.f36 E36 c36 q36 := fnOk Tryz.func36
noncomputable def E138 (n m : Nat) : Cfg := ⟨M, [0, 1, 2], 18, n, m, []⟩
noncomputable def C138 : Cfg := E138 0 0
noncomputable abbrev r138_0 : List RO := [Yl 1 0, ⟨.v 2, .mv, [.con (.bool false)], none⟩]
noncomputable abbrev r138_1 : List RO := [Yh 3 0 1, Yd 4 3, ⟨.l 5, .bin .leq, [(.con (.int .i64 (-1000000000000))), .l 4], none⟩, Yc 6 5, Zh 7 0 1 6 true, Zd 8 7 6 true, Zh 9 1 1 6 true, Zd 10 9 6 true, ⟨.l 11, .bin .leq, [.l 8, .l 10], (some (.l 6, true))⟩, Yo 12 6 11, Yc 13 12, Zh 14 1 1 13 true, Zd 15 14 13 true, ⟨.l 16, .bin .leq, [.l 15, .con (.int .i64 1000000000000)], (some (.l 13, true))⟩, Yo 17 13 16, Yb 2 17]
theorem P138 : C138.M = M := rfl
theorem i138 {a0 : D} : St.init C138 [a0] ⟨[], []⟩ = ⟨[a0, .u0, .u0], [], ⟨[], []⟩⟩ := rfl
noncomputable def c138 : RC := (.seq (.reg r138_0) (.seq (.reg r138_1) .ret))
noncomputable def q138 : List RR := [(.slot (.v 2))]
theorem k138 : FnOk M 138 1 Tryz.f138 E138 c138 q138 := fnOk Tryz.func138
noncomputable def E17 (n m : Nat) : Cfg := ⟨M, [0, 1, 4], 8, n, m, []⟩
noncomputable def C17 : Cfg := E17 0 0
noncomputable abbrev r17_0 : List RO := [⟨.v 2, (.newb [(.int .i64 0), (.int .i64 0)]), [], none⟩]
noncomputable abbrev r17_1 : List RO := [Ya 5 0, Ya 6 1, ⟨.l 7, (.bld [(.int .i64 0), (.int .i64 0)] [(0, 1), (1, 1)]), [.l 5, .l 6], none⟩, Yj 2 2 7]
theorem P17 : C17.M = M := rfl
theorem i17 {a0 a1 : D} : St.init C17 [a0, a1] ⟨[], []⟩ = ⟨[a0, a1, .u0], [], ⟨[], []⟩⟩ := rfl
noncomputable def c17 : RC := (.seq (.reg r17_0) (.seq (.reg r17_1) .ret))
noncomputable def q17 : List RR := [(.cell (.v 2) true 2)]
theorem k17 : FnOk M 17 2 Tryz.f17 E17 c17 q17 := fnOk Tryz.func17
noncomputable def E34 (n m : Nat) : Cfg := ⟨M, [0, 2], 6, n, m, []⟩
noncomputable def C34 : Cfg := E34 0 0
noncomputable abbrev r34_0 : List RO := [Ys 1 0]
noncomputable abbrev r34_1 : List RO := [Ya 3 0, ⟨.l 4, .minI, [.l 3, .con (.int .i64 1000000000000)], none⟩, ⟨.l 5, .maxI, [(.con (.int .i64 (-1000000000000))), .l 4], none⟩, Yb 1 5]
theorem P34 : C34.M = M := rfl
theorem i34 {a0 : D} : St.init C34 [a0] ⟨[], []⟩ = ⟨[a0, .u0], [], ⟨[], []⟩⟩ := rfl
noncomputable def c34 : RC := (.seq (.reg r34_0) (.seq (.reg r34_1) .ret))
noncomputable def q34 : List RR := [(.slot (.v 1))]
theorem k34 : FnOk M 34 1 Tryz.f34 E34 c34 q34 := fnOk Tryz.func34
noncomputable def E50 (n m : Nat) : Cfg := ⟨M, [0, 1, 4, 5, 6, 7, 13, 25, 33], 37, n, m, []⟩
noncomputable def C50 : Cfg := E50 0 0
noncomputable abbrev r50_0 : List RO := [Ys 2 0]
noncomputable abbrev r50_1 : List RO := [Ya 8 0, Yv 9 .eql 8 0, Yc 10 9, Za 11 1 10 false, ⟨.l 12, .bin .eql, [.l 11, .con (.int .i64 0)], (some (.l 10, false))⟩, Yr 6 10 12]
noncomputable abbrev r50_2 : List RO := [Ys 2 0]
noncomputable abbrev r50_3 : List RO := [Ya 14 0, Ya 15 0, ⟨.l 16, .bin .sub, [.con (.int .i64 0), .l 15], none⟩, ⟨.l 17, .maxI, [.l 14, .l 16], none⟩, Yb 3 17]
noncomputable abbrev r50_4 : List RO := [Ya 18 1, Ya 19 1, ⟨.l 20, .bin .sub, [.con (.int .i64 0), .l 19], none⟩, ⟨.l 21, .maxI, [.l 18, .l 20], none⟩, Yb 4 21]
noncomputable abbrev r50_5 : List RO := [Ys 5 1000000000000]
noncomputable abbrev r50_6 : List RO := [Ya 22 3, Ya 23 4, ⟨.l 24, .bin .quo, [.con (.int .i64 1000000000000), .l 23], none⟩, Yy 7 .leq 22 24]
noncomputable abbrev r50_7 : List RO := [Ya 26 3, Ya 27 4, Yx 28 .mul 26 27, Yb 5 28]
noncomputable abbrev r50_8 : List RO := [Ya 29 0, Yv 30 .lss 29 0, Ya 31 1, Yv 32 .lss 31 0, ⟨.v 8, .eqB true, [.l 30, .l 32], none⟩]
noncomputable abbrev r50_9 : List RO := [Ya 34 5, ⟨.l 35, .bin .sub, [.con (.int .i64 0), .l 34], none⟩, Yb 2 35]
noncomputable abbrev r50_10 : List RO := [Ya 36 5, Yb 2 36]
theorem P50 : C50.M = M := rfl
theorem i50 {a0 a1 : D} : St.init C50 [a0, a1] ⟨[], []⟩ = ⟨[a0, a1, .u0, .u0, .u0, .u0, .u0, .u0, .u0], [], ⟨[], []⟩⟩ := rfl
noncomputable def c50 : RC := (.seq (.reg r50_0) (.seq (.seq (.reg r50_1) (.cond (.v 6) (.seq (.reg r50_2) .ret) .skip)) (.seq (.reg r50_3) (.seq (.reg r50_4) (.seq (.reg r50_5) (.seq (.seq (.reg r50_6) (.cond (.v 7) (.reg r50_7) .skip)) (.seq (.seq (.reg r50_8) (.cond (.v 8) (.seq (.reg r50_9) .ret) .skip)) (.seq (.reg r50_10) .ret))))))))
noncomputable def q50 : List RR := [(.slot (.v 2))]
theorem k50 : FnOk M 50 2 Tryz.f50 E50 c50 q50 := fnOk Tryz.func50
noncomputable def E31 (n m : Nat) : Cfg := ⟨M, [0, 2], 6, n, m, []⟩
noncomputable def C31 : Cfg := E31 0 0
noncomputable abbrev r31_0 : List RO := [Ys 1 0]
noncomputable abbrev r31_1 : List RO := [Ya 3 0, ⟨.l 4, .minI, [.l 3, .con (.int .i64 1000000000000)], none⟩, ⟨.l 5, .maxI, [(.con (.int .i64 (-1000000000000))), .l 4], none⟩, Yb 1 5]
theorem P31 : C31.M = M := rfl
theorem i31 {a0 : D} : St.init C31 [a0] ⟨[], []⟩ = ⟨[a0, .u0], [], ⟨[], []⟩⟩ := rfl
noncomputable def c31 : RC := (.seq (.reg r31_0) (.seq (.reg r31_1) .ret))
noncomputable def q31 : List RR := [(.slot (.v 1))]
theorem k31 : FnOk M 31 1 Tryz.f31 E31 c31 q31 := fnOk Tryz.func31
noncomputable def E128 (n m : Nat) : Cfg := ⟨M, [0, 1, 4], 6, n, m, []⟩
noncomputable def C128 : Cfg := E128 0 0
noncomputable abbrev r128_0 : List RO := [⟨.l 2, .box, [.v 0], none⟩, Ys 2 0]
noncomputable abbrev r128_1 : List RO := [Ya 5 1, Yb 2 5]
theorem P128 : C128.M = M := rfl
theorem i128 {a0 a1 : D} : St.init C128 [a0, a1] ⟨[], []⟩ = ⟨[a0, a1, .u0], [], ⟨[], []⟩⟩ := rfl
noncomputable def c128 : RC := (.seq (.reg r128_0) (.seq (.reg r128_1) .ret))
noncomputable def q128 : List RR := [(.slot (.v 2))]
theorem k128 : FnOk M 128 2 Tryz.f128 E128 c128 q128 := fnOk Tryz.func128
noncomputable def E127 (n m : Nat) : Cfg := ⟨M, [0, 1, 2, 4, 5, 6, 10], 16, n, m, []⟩
noncomputable def C127 : Cfg := E127 0 0
noncomputable abbrev r127_0 : List RO := [Yl 2 0, Ys 3 0]
noncomputable abbrev r127_1 : List RO := [⟨.v 4, .mv, [.v 1], none⟩]
noncomputable abbrev r127_2 : List RO := [Yw 7 .eql 4 2, Yb 5 7]
noncomputable abbrev r127_3 : List RO := [Yh 8 0 2, Yd 9 8, Yb 3 9]
noncomputable abbrev r127_4 : List RO := [Yw 11 .eql 4 3, Yb 6 11]
noncomputable abbrev r127_5 : List RO := [Yh 12 1 2, Yd 13 12, Yb 3 13]
noncomputable abbrev r127_6 : List RO := [Yh 14 2 2, Yd 15 14, Yb 3 15]
theorem P127 : C127.M = M := rfl
theorem i127 {a0 a1 : D} : St.init C127 [a0, a1] ⟨[], []⟩ = ⟨[a0, a1, .u0, .u0, .u0, .u0, .u0], [], ⟨[], []⟩⟩ := rfl
noncomputable def c127 : RC := (.seq (.reg r127_0) (.seq (.seq (.reg r127_1) (.block 0 (.seq (.reg r127_2) (.cond (.v 5) (.seq (.reg r127_3) .ret) (.seq (.reg r127_4) (.cond (.v 6) (.seq (.reg r127_5) .ret) .skip)))))) (.seq (.reg r127_6) .ret)))
noncomputable def q127 : List RR := [(.slot (.v 3))]
theorem z127 {n m : Nat} : zAe (E127 n m) (Tryz.f127.body.getD .skip) = some c127 := by kernel_rfl
theorem k127 : FnOk M 127 2 Tryz.f127 E127 c127 q127 := fnOk Tryz.func127
noncomputable def E126 (n m : Nat) : Cfg := ⟨M, [0, 1, 2, 3, 8, 10], 13, n, m, []⟩
noncomputable def C126 : Cfg := E126 0 0
noncomputable abbrev r126_0 : List RO := [⟨.l 4, .box, [.v 0], none⟩, Ys 4 0]
noncomputable abbrev r126_1 : List RO := [Ya 9 1, Yz 5 .gtr 9 0]
noncomputable abbrev r126_2 : List RO := [Ya 11 2, Yb 4 11]
noncomputable abbrev r126_3 : List RO := [Ya 12 3, Yb 4 12]
theorem P126 : C126.M = M := rfl
theorem i126 {a0 a1 a2 a3 : D} : St.init C126 [a0, a1, a2, a3] ⟨[], []⟩ = ⟨[a0, a1, a2, a3, .u0, .u0], [], ⟨[], []⟩⟩ := rfl
noncomputable def c126 : RC := (.seq (.reg r126_0) (.seq (.seq (.reg r126_1) (.cond (.v 5) (.seq (.reg r126_2) .ret) .skip)) (.seq (.reg r126_3) .ret)))
noncomputable def q126 : List RR := [(.slot (.v 4))]
theorem k126 : FnOk M 126 4 Tryz.f126 E126 c126 q126 := fnOk Tryz.func126
noncomputable def E125 (n m : Nat) : Cfg := ⟨M, [0, 1, 2, 3, 8, 9, 10, 11, 21, 31, 41, 46], 54, n, m, []⟩
noncomputable def C125 : Cfg := E125 0 0
noncomputable abbrev r125_0 : List RO := [⟨.l 4, .box, [.v 0], none⟩, Ys 4 0]
noncomputable abbrev r125_1 : List RO := [⟨.v 5, .mv, [(.con (.fn (.func 129) [] []))], none⟩]
noncomputable abbrev r125_2 : List RO := [⟨.v 6, .mv, [.v 1], none⟩]
noncomputable abbrev r125_3 : List RO := [Yw 12 .eql 6 5, Yb 7 12]
noncomputable abbrev r125_4 : List RO := [Ya 13 5, Ya 14 2, ⟨.l 15, .calls .fn, [.l 13, .l 14], none⟩, Ya 16 5, Ya 17 3, ⟨.l 18, .calls .fn, [.l 16, .l 17], none⟩, Yu 19 130 15 18, ⟨.l 20, .fv false 0 1, [.l 19], none⟩, Yb 4 20]
noncomputable abbrev r125_5 : List RO := [Yw 22 .eql 6 6, Yb 8 22]
noncomputable abbrev r125_6 : List RO := [Ya 23 5, Ya 24 2, ⟨.l 25, .calls .fn, [.l 23, .l 24], none⟩, Ya 26 5, Ya 27 3, ⟨.l 28, .calls .fn, [.l 26, .l 27], none⟩, Yu 29 131 25 28, ⟨.l 30, .fv false 0 1, [.l 29], none⟩, Yb 4 30]
noncomputable abbrev r125_7 : List RO := [Yw 32 .eql 6 7, Yb 9 32]
noncomputable abbrev r125_8 : List RO := [Ya 33 5, Ya 34 2, ⟨.l 35, .calls .fn, [.l 33, .l 34], none⟩, Ya 36 5, Ya 37 3, ⟨.l 38, .calls .fn, [.l 36, .l 37], none⟩, Yu 39 132 35 38, ⟨.l 40, .fv false 0 1, [.l 39], none⟩, Yb 4 40]
noncomputable abbrev r125_9 : List RO := [Yw 42 .eql 6 8, Yb 10 42]
noncomputable abbrev r125_10 : List RO := [Ya 43 2, Ya 44 3, Yu 45 133 43 44, Yb 4 45]
noncomputable abbrev r125_11 : List RO := [Yw 47 .eql 6 9, Yb 11 47]
noncomputable abbrev r125_12 : List RO := [Ya 48 2, Ya 49 3, ⟨.l 50, .minI, [.l 48, .l 49], none⟩, Yb 4 50]
noncomputable abbrev r125_13 : List RO := [Ya 51 2, Ya 52 3, ⟨.l 53, .maxI, [.l 51, .l 52], none⟩, Yb 4 53]
theorem P125 : C125.M = M := rfl
theorem i125 {a0 a1 a2 a3 : D} : St.init C125 [a0, a1, a2, a3] ⟨[], []⟩ = ⟨[a0, a1, a2, a3, .u0, .u0, .u0, .u0, .u0, .u0, .u0, .u0], [], ⟨[], []⟩⟩ := rfl
noncomputable def c125 : RC := (.seq (.reg r125_0) (.seq (.reg r125_1) (.seq (.seq (.reg r125_2) (.block 0 (.seq (.reg r125_3) (.cond (.v 7) (.seq (.reg r125_4) .ret) (.seq (.reg r125_5) (.cond (.v 8) (.seq (.reg r125_6) .ret) (.seq (.reg r125_7) (.cond (.v 9) (.seq (.reg r125_8) .ret) (.seq (.reg r125_9) (.cond (.v 10) (.seq (.reg r125_10) .ret) (.seq (.reg r125_11) (.cond (.v 11) (.seq (.reg r125_12) .ret) .skip)))))))))))) (.seq (.reg r125_13) .ret))))
noncomputable def q125 : List RR := [(.slot (.v 4))]
theorem k125 : FnOk M 125 4 Tryz.f125 E125 c125 q125 := fnOk Tryz.func125
noncomputable def E129 (n m : Nat) : Cfg := ⟨M, [0, 2], 6, n, m, []⟩
noncomputable def C129 : Cfg := E129 0 0
noncomputable abbrev r129_0 : List RO := [⟨.v 1, (.newb [(.int .i64 0), (.int .i64 0)]), [], none⟩]
noncomputable abbrev r129_1 : List RO := [Ya 3 0, Ya 4 0, ⟨.l 5, (.bld [(.int .i64 0), (.int .i64 0)] [(0, 1), (1, 1)]), [.l 3, .l 4], none⟩, Yj 2 1 5]
theorem P129 : C129.M = M := rfl
theorem i129 {a0 : D} : St.init C129 [a0] ⟨[], []⟩ = ⟨[a0, .u0], [], ⟨[], []⟩⟩ := rfl
noncomputable def c129 : RC := (.seq (.reg r129_0) (.seq (.reg r129_1) .ret))
noncomputable def q129 : List RR := [(.cell (.v 1) true 2)]
theorem k129 : FnOk M 129 1 Tryz.f129 E129 c129 q129 := fnOk Tryz.func129
noncomputable def E147 (n m : Nat) : Cfg := ⟨M, [0, 1, 4], 8, n, m, []⟩
noncomputable def C147 : Cfg := E147 0 0
noncomputable abbrev r147_0 : List RO := [⟨.l 2, .box, [.v 0], none⟩, ⟨.v 2, (.newb [(.int .i64 0), (.int .i64 0)]), [], none⟩]
noncomputable abbrev r147_1 : List RO := [Ya 5 1, Ya 6 1, ⟨.l 7, (.bld [(.int .i64 0), (.int .i64 0)] [(0, 1), (1, 1)]), [.l 5, .l 6], none⟩, Yj 2 2 7]
theorem P147 : C147.M = M := rfl
theorem i147 {a0 a1 : D} : St.init C147 [a0, a1] ⟨[], []⟩ = ⟨[a0, a1, .u0], [], ⟨[], []⟩⟩ := rfl
noncomputable def c147 : RC := (.seq (.reg r147_0) (.seq (.reg r147_1) .ret))
noncomputable def q147 : List RR := [(.cell (.v 2) true 2)]
theorem k147 : FnOk M 147 2 Tryz.f147 E147 c147 q147 := fnOk Tryz.func147
noncomputable def E146 (n m : Nat) : Cfg := ⟨M, [0, 1, 2, 4, 5, 6, 11], 19, n, m, []⟩
noncomputable def C146 : Cfg := E146 0 0
noncomputable abbrev r146_0 : List RO := [Yl 2 0, ⟨.v 3, (.newb [(.int .i64 0), (.int .i64 0)]), [], none⟩]
noncomputable abbrev r146_1 : List RO := [⟨.v 4, .mv, [.v 1], none⟩]
noncomputable abbrev r146_2 : List RO := [Yw 7 .eql 4 2, Yb 5 7]
noncomputable abbrev r146_3 : List RO := [Yh 8 0 2, Yi 9 0 8, Yg 10 2 9, Yj 2 3 10]
noncomputable abbrev r146_4 : List RO := [Yw 12 .eql 4 3, Yb 6 12]
noncomputable abbrev r146_5 : List RO := [Yh 13 0 2, Yi 14 2 13, Yg 15 2 14, Yj 2 3 15]
noncomputable abbrev r146_6 : List RO := [Yh 16 0 2, Yi 17 4 16, Yg 18 2 17, Yj 2 3 18]
theorem P146 : C146.M = M := rfl
theorem i146 {a0 a1 : D} : St.init C146 [a0, a1] ⟨[], []⟩ = ⟨[a0, a1, .u0, .u0, .u0, .u0, .u0], [], ⟨[], []⟩⟩ := rfl
noncomputable def c146 : RC := (.seq (.reg r146_0) (.seq (.seq (.reg r146_1) (.block 0 (.seq (.reg r146_2) (.cond (.v 5) (.seq (.reg r146_3) .ret) (.seq (.reg r146_4) (.cond (.v 6) (.seq (.reg r146_5) .ret) .skip)))))) (.seq (.reg r146_6) .ret)))
noncomputable def q146 : List RR := [(.cell (.v 3) true 2)]
theorem k146 : FnOk M 146 2 Tryz.f146 E146 c146 q146 := fnOk Tryz.func146
noncomputable def E145 (n m : Nat) : Cfg := ⟨M, [0, 1, 2, 3, 5, 6, 7, 8, 10, 11, 14], 20, n, m, []⟩
noncomputable def C145 : Cfg := E145 0 0
noncomputable abbrev r145_0 : List RO := [⟨.l 4, .box, [.v 0], none⟩, Yl 4 1, Yl 5 2, Yl 6 3, ⟨.v 7, (.newb [(.int .i64 0), (.int .i64 0)]), [], none⟩]
noncomputable abbrev r145_1 : List RO := [Yf 9 2 4, ⟨.v 8, .calls .fn, [(.con (.fn (.func 149) [] [])), .l 9, .con (.int .i64 0)], none⟩]
noncomputable abbrev r145_2 : List RO := [Yw 12 .eql 8 2, Yb 9 12]
noncomputable abbrev r145_3 : List RO := [Yf 13 2 5, Yj 2 7 13]
noncomputable abbrev r145_4 : List RO := [Yw 15 .eql 8 0, Yb 10 15]
noncomputable abbrev r145_5 : List RO := [Yf 16 2 6, Yj 2 7 16]
noncomputable abbrev r145_6 : List RO := [Yf 17 2 5, Yf 18 2 6, Yu 19 150 17 18, Yj 2 7 19]
theorem P145 : C145.M = M := rfl
theorem i145 {a0 a1 a2 a3 : D} : St.init C145 [a0, a1, a2, a3] ⟨[], []⟩ = ⟨[a0, a1, a2, a3, .u0, .u0, .u0, .u0, .u0, .u0, .u0], [], ⟨[], []⟩⟩ := rfl
noncomputable def c145 : RC := (.seq (.reg r145_0) (.seq (.seq (.reg r145_1) (.block 0 (.seq (.reg r145_2) (.cond (.v 9) (.seq (.reg r145_3) .ret) (.seq (.reg r145_4) (.cond (.v 10) (.seq (.reg r145_5) .ret) .skip)))))) (.seq (.reg r145_6) .ret)))
noncomputable def q145 : List RR := [(.cell (.v 7) true 2)]
theorem z145 {n m : Nat} : zAe (E145 n m) (Tryz.f145.body.getD .skip) = some c145 := by kernel_rfl
theorem k145 : FnOk M 145 4 Tryz.f145 E145 c145 q145 := fnOk Tryz.func145
noncomputable def E144 (n m : Nat) : Cfg := ⟨M, [0, 1, 2, 3, 6, 7, 8, 9, 10, 15, 20, 25, 38], 54, n, m, []⟩
noncomputable def C144 : Cfg := E144 0 0
noncomputable abbrev r144_0 : List RO := [⟨.l 4, .box, [.v 0], none⟩, Yl 4 2, Yl 5 3, ⟨.v 6, (.newb [(.int .i64 0), (.int .i64 0)]), [], none⟩]
noncomputable abbrev r144_1 : List RO := [⟨.v 7, .mv, [.v 1], none⟩]
noncomputable abbrev r144_2 : List RO := [Yw 11 .eql 7 5, Yb 8 11]
noncomputable abbrev r144_3 : List RO := [Yf 12 2 4, Yf 13 2 5, Yu 14 130 12 13, Yj 2 6 14]
noncomputable abbrev r144_4 : List RO := [Yw 16 .eql 7 6, Yb 9 16]
noncomputable abbrev r144_5 : List RO := [Yf 17 2 4, Yf 18 2 5, Yu 19 131 17 18, Yj 2 6 19]
noncomputable abbrev r144_6 : List RO := [Yw 21 .eql 7 7, Yb 10 21]
noncomputable abbrev r144_7 : List RO := [Yf 22 2 4, Yf 23 2 5, Yu 24 132 22 23, Yj 2 6 24]
noncomputable abbrev r144_8 : List RO := [Yw 26 .eql 7 9, Yb 11 26]
noncomputable abbrev r144_9 : List RO := [Yh 27 0 4, Yd 28 27, Yh 29 0 5, Yd 30 29, ⟨.l 31, .minI, [.l 28, .l 30], none⟩, Yh 32 1 4, Yd 33 32, Yh 34 1 5, Yd 35 34, ⟨.l 36, .minI, [.l 33, .l 35], none⟩, ⟨.l 37, (.bld [(.int .i64 0), (.int .i64 0)] [(0, 1), (1, 1)]), [.l 31, .l 36], none⟩, Yj 2 6 37]
noncomputable abbrev r144_10 : List RO := [Yw 39 .eql 7 10, Yb 12 39]
noncomputable abbrev r144_11 : List RO := [Yh 40 0 4, Yd 41 40, Yh 42 0 5, Yd 43 42, ⟨.l 44, .maxI, [.l 41, .l 43], none⟩, Yh 45 1 4, Yd 46 45, Yh 47 1 5, Yd 48 47, ⟨.l 49, .maxI, [.l 46, .l 48], none⟩, ⟨.l 50, (.bld [(.int .i64 0), (.int .i64 0)] [(0, 1), (1, 1)]), [.l 44, .l 49], none⟩, Yj 2 6 50]
noncomputable abbrev r144_12 : List RO := [Yf 51 2 4, Yf 52 2 5, Yu 53 148 51 52, Yj 2 6 53]
theorem P144 : C144.M = M := rfl
theorem i144 {a0 a1 a2 a3 : D} : St.init C144 [a0, a1, a2, a3] ⟨[], []⟩ = ⟨[a0, a1, a2, a3, .u0, .u0, .u0, .u0, .u0, .u0, .u0, .u0, .u0], [], ⟨[], []⟩⟩ := rfl
noncomputable def c144 : RC := (.seq (.reg r144_0) (.seq (.seq (.reg r144_1) (.block 0 (.seq (.reg r144_2) (.cond (.v 8) (.seq (.reg r144_3) .ret) (.seq (.reg r144_4) (.cond (.v 9) (.seq (.reg r144_5) .ret) (.seq (.reg r144_6) (.cond (.v 10) (.seq (.reg r144_7) .ret) (.seq (.reg r144_8) (.cond (.v 11) (.seq (.reg r144_9) .ret) (.seq (.reg r144_10) (.cond (.v 12) (.seq (.reg r144_11) .ret) .skip)))))))))))) (.seq (.reg r144_12) .ret)))
noncomputable def q144 : List RR := [(.cell (.v 6) true 2)]
theorem k144 : FnOk M 144 4 Tryz.f144 E144 c144 q144 := fnOk Tryz.func144
noncomputable def E130 (n m : Nat) : Cfg := ⟨M, [0, 1, 2, 3, 4], 8, n, m, []⟩
noncomputable def C130 : Cfg := E130 0 0
noncomputable abbrev r130_0 : List RO := [Yl 2 0, Yl 3 1, ⟨.v 4, (.newb [(.int .i64 0), (.int .i64 0)]), [], none⟩]
noncomputable abbrev r130_1 : List RO := [Yf 5 2 2, Yf 6 2 3, ⟨.l 7, .calls .fn, [(.con (.fn (.func 134) [] [])), .l 5, .l 6, (.con (.fn (.func 135) [] []))], none⟩, Yj 2 4 7]
theorem P130 : C130.M = M := rfl
theorem i130 {a0 a1 : D} : St.init C130 [a0, a1] ⟨[], []⟩ = ⟨[a0, a1, .u0, .u0, .u0], [], ⟨[], []⟩⟩ := rfl
noncomputable def c130 : RC := (.seq (.reg r130_0) (.seq (.reg r130_1) .ret))
noncomputable def q130 : List RR := [(.cell (.v 4) true 2)]
theorem k130 : FnOk M 130 2 Tryz.f130 E130 c130 q130 := fnOk Tryz.func130
noncomputable def E131 (n m : Nat) : Cfg := ⟨M, [0, 1, 2, 3, 4], 8, n, m, []⟩
noncomputable def C131 : Cfg := E131 0 0
noncomputable abbrev r131_0 : List RO := [Yl 2 0, Yl 3 1, ⟨.v 4, (.newb [(.int .i64 0), (.int .i64 0)]), [], none⟩]
noncomputable abbrev r131_1 : List RO := [Yf 5 2 2, Yf 6 2 3, ⟨.l 7, .calls .fn, [(.con (.fn (.func 134) [] [])), .l 5, .l 6, (.con (.fn (.func 136) [] []))], none⟩, Yj 2 4 7]
theorem P131 : C131.M = M := rfl
theorem i131 {a0 a1 : D} : St.init C131 [a0, a1] ⟨[], []⟩ = ⟨[a0, a1, .u0, .u0, .u0], [], ⟨[], []⟩⟩ := rfl
noncomputable def c131 : RC := (.seq (.reg r131_0) (.seq (.reg r131_1) .ret))
noncomputable def q131 : List RR := [(.cell (.v 4) true 2)]
theorem k131 : FnOk M 131 2 Tryz.f131 E131 c131 q131 := fnOk Tryz.func131
noncomputable def E132 (n m : Nat) : Cfg := ⟨M, [0, 1, 2, 3, 4], 8, n, m, []⟩
noncomputable def C132 : Cfg := E132 0 0
noncomputable abbrev r132_0 : List RO := [Yl 2 0, Yl 3 1, ⟨.v 4, (.newb [(.int .i64 0), (.int .i64 0)]), [], none⟩]
noncomputable abbrev r132_1 : List RO := [Yf 5 2 2, Yf 6 2 3, ⟨.l 7, .calls .fn, [(.con (.fn (.func 134) [] [])), .l 5, .l 6, (.con (.fn (.func 137) [] []))], none⟩, Yj 2 4 7]
theorem P132 : C132.M = M := rfl
theorem i132 {a0 a1 : D} : St.init C132 [a0, a1] ⟨[], []⟩ = ⟨[a0, a1, .u0, .u0, .u0], [], ⟨[], []⟩⟩ := rfl
noncomputable def c132 : RC := (.seq (.reg r132_0) (.seq (.reg r132_1) .ret))
noncomputable def q132 : List RR := [(.cell (.v 4) true 2)]
theorem k132 : FnOk M 132 2 Tryz.f132 E132 c132 q132 := fnOk Tryz.func132
noncomputable def E149 (n m : Nat) : Cfg := ⟨M, [0, 1, 2, 4, 5, 15], 20, n, m, []⟩
noncomputable def C149 : Cfg := E149 0 0
noncomputable abbrev r149_0 : List RO := [Yl 2 0, Ys 3 0]
noncomputable abbrev r149_1 : List RO := [Yf 6 2 2, Yt 7 138 6, ⟨.l 8, .un .not, [.l 7], none⟩, Yc 9 8, Zh 10 1 2 9 false, Zd 11 10 9 false, Za 12 1 9 false, ⟨.l 13, .bin .leq, [.l 11, .l 12], (some (.l 9, false))⟩, Yq 14 9 13, Yb 4 14]
noncomputable abbrev r149_2 : List RO := [Ys 3 0]
noncomputable abbrev r149_3 : List RO := [Yh 16 0 2, Yd 17 16, Ya 18 1, Yx 19 .gtr 17 18, Yb 5 19]
noncomputable abbrev r149_4 : List RO := [Ys 3 2]
noncomputable abbrev r149_5 : List RO := [Ys 3 1]
theorem P149 : C149.M = M := rfl
theorem i149 {a0 a1 : D} : St.init C149 [a0, a1] ⟨[], []⟩ = ⟨[a0, a1, .u0, .u0, .u0, .u0], [], ⟨[], []⟩⟩ := rfl
noncomputable def c149 : RC := (.seq (.reg r149_0) (.seq (.block 0 (.seq (.reg r149_1) (.cond (.v 4) (.seq (.reg r149_2) .ret) (.seq (.reg r149_3) (.cond (.v 5) (.seq (.reg r149_4) .ret) .skip))))) (.seq (.reg r149_5) .ret)))
noncomputable def q149 : List RR := [(.slot (.v 3))]
theorem k149 : FnOk M 149 2 Tryz.f149 E149 c149 q149 := fnOk Tryz.func149
noncomputable def E150 (n m : Nat) : Cfg := ⟨M, [0, 1, 2, 3, 4, 12], 24, n, m, []⟩
noncomputable def C150 : Cfg := E150 0 0
noncomputable abbrev r150_0 : List RO := [Yl 2 0, Yl 3 1, ⟨.v 4, (.newb [(.int .i64 0), (.int .i64 0)]), [], none⟩]
noncomputable abbrev r150_1 : List RO := [Yf 5 2 2, Yt 6 138 5, ⟨.l 7, .un .not, [.l 6], none⟩, Yc 8 7, Zf 9 2 3 8 false, ⟨.l 10, .calls .fn, [(.con (.fn (.func 138) [] [])), .l 9], (some (.l 8, false))⟩, ⟨.l 11, .un .not, [.l 10], (some (.l 8, false))⟩, Yr 5 8 11]
noncomputable abbrev r150_2 : List RO := [⟨.l 13, (.bld [(.int .i64 0), (.int .i64 0)] []), [], none⟩, Yj 2 4 13]
noncomputable abbrev r150_3 : List RO := [Yh 14 0 2, Yd 15 14, Yh 16 1 2, Yd 17 16, Yh 18 0 3, Yd 19 18, Yh 20 1 3, Yd 21 20, ⟨.l 22, .bsl 1, [.l 15, .l 17, .l 19, .l 21], none⟩, Yt 23 139 22, Yj 2 4 23]
theorem P150 : C150.M = M := rfl
theorem i150 {a0 a1 : D} : St.init C150 [a0, a1] ⟨[], []⟩ = ⟨[a0, a1, .u0, .u0, .u0, .u0], [], ⟨[], []⟩⟩ := rfl
noncomputable def c150 : RC := (.seq (.reg r150_0) (.seq (.seq (.reg r150_1) (.cond (.v 5) (.seq (.reg r150_2) .ret) .skip)) (.seq (.reg r150_3) .ret)))
noncomputable def q150 : List RR := [(.cell (.v 4) true 2)]
theorem k150 : FnOk M 150 2 Tryz.f150 E150 c150 q150 := fnOk Tryz.func150
noncomputable def E134 (n m : Nat) : Cfg := ⟨M, [0, 1, 2, 3, 4, 6, 7, 8, 9, 10, 18], 46, n, m, []⟩
noncomputable def C134 : Cfg := E134 0 0
noncomputable abbrev r134_0 : List RO := [Yl 3 0, Yl 4 1, ⟨.v 5, (.newb [(.int .i64 0), (.int .i64 0)]), [], none⟩]
noncomputable abbrev r134_1 : List RO := [Yf 11 2 3, Yt 12 138 11, ⟨.l 13, .un .not, [.l 12], none⟩, Yc 14 13, Zf 15 2 4 14 false, ⟨.l 16, .calls .fn, [(.con (.fn (.func 138) [] [])), .l 15], (some (.l 14, false))⟩, ⟨.l 17, .un .not, [.l 16], (some (.l 14, false))⟩, Yr 10 14 17]
noncomputable abbrev r134_2 : List RO := [⟨.l 19, (.bld [(.int .i64 0), (.int .i64 0)] []), [], none⟩, Yj 2 5 19]
noncomputable abbrev r134_3 : List (RO × Bool) := [(Yh 20 0 3, true), (Yd 21 20, true), (Yh 22 1 3, true), (Yd 23 22, true), (Yh 24 0 4, true), (Yd 25 24, true), (Yh 26 1 4, true), (Yd 27 26, true), (Yb 6 21, true), (Yb 7 23, true), (Yb 8 25, true)]
noncomputable abbrev r134_4 : List RO := [Yb 9 27]
noncomputable abbrev r134_5 : List RO := [Ya 28 2, Ya 29 6, Ya 30 8, ⟨.l 31, .calls .fn, [.l 28, .l 29, .l 30], none⟩, Ya 32 2, Ya 33 6, Ya 34 9, ⟨.l 35, .calls .fn, [.l 32, .l 33, .l 34], none⟩, Ya 36 2, Ya 37 7, Ya 38 8, ⟨.l 39, .calls .fn, [.l 36, .l 37, .l 38], none⟩, Ya 40 2, Ya 41 7, Ya 42 9, ⟨.l 43, .calls .fn, [.l 40, .l 41, .l 42], none⟩, ⟨.l 44, .bsl 1, [.l 31, .l 35, .l 39, .l 43], none⟩, Yt 45 139 44, Yj 2 5 45]
theorem P134 : C134.M = M := rfl
theorem i134 {a0 a1 a2 : D} : St.init C134 [a0, a1, a2] ⟨[], []⟩ = ⟨[a0, a1, a2, .u0, .u0, .u0, .u0, .u0, .u0, .u0, .u0], [], ⟨[], []⟩⟩ := rfl
noncomputable def c134 : RC := (.seq (.reg r134_0) (.seq (.seq (.reg r134_1) (.cond (.v 10) (.seq (.reg r134_2) .ret) .skip)) (.seq (.regD r134_3 r134_4) (.seq (.reg r134_5) .ret))))
noncomputable def q134 : List RR := [(.cell (.v 5) true 2)]
theorem k134 : FnOk M 134 3 Tryz.f134 E134 c134 q134 := fnOk Tryz.func134
noncomputable def E135 (n m : Nat) : Cfg := ⟨M, [0, 1, 4], 9, n, m, []⟩
noncomputable def C135 : Cfg := E135 0 0
noncomputable abbrev r135_0 : List RO := [Ys 2 0]
noncomputable abbrev r135_1 : List RO := [Ya 5 0, Ya 6 1, Yx 7 .add 5 6, Yt 8 140 7, Yb 2 8]
theorem P135 : C135.M = M := rfl
theorem i135 {a0 a1 : D} : St.init C135 [a0, a1] ⟨[], []⟩ = ⟨[a0, a1, .u0], [], ⟨[], []⟩⟩ := rfl
noncomputable def c135 : RC := (.seq (.reg r135_0) (.seq (.reg r135_1) .ret))
noncomputable def q135 : List RR := [(.slot (.v 2))]
theorem k135 : FnOk M 135 2 Tryz.f135 E135 c135 q135 := fnOk Tryz.func135
noncomputable def E136 (n m : Nat) : Cfg := ⟨M, [0, 1, 4], 9, n, m, []⟩
noncomputable def C136 : Cfg := E136 0 0
noncomputable abbrev r136_0 : List RO := [Ys 2 0]
noncomputable abbrev r136_1 : List RO := [Ya 5 0, Ya 6 1, Yx 7 .sub 5 6, Yt 8 140 7, Yb 2 8]
theorem P136 : C136.M = M := rfl
theorem i136 {a0 a1 : D} : St.init C136 [a0, a1] ⟨[], []⟩ = ⟨[a0, a1, .u0], [], ⟨[], []⟩⟩ := rfl
noncomputable def c136 : RC := (.seq (.reg r136_0) (.seq (.reg r136_1) .ret))
noncomputable def q136 : List RR := [(.slot (.v 2))]
theorem k136 : FnOk M 136 2 Tryz.f136 E136 c136 q136 := fnOk Tryz.func136
noncomputable def E137 (n m : Nat) : Cfg := ⟨M, [0, 1, 4, 5, 6, 7, 27, 34], 38, n, m, []⟩
noncomputable def C137 : Cfg := E137 0 0
noncomputable abbrev r137_0 : List RO := [Ys 2 0]
noncomputable abbrev r137_1 : List RO := [Ya 9 0, Ya 10 0, ⟨.l 11, .un .neg, [.l 10], none⟩, ⟨.l 12, .maxI, [.l 9, .l 11], none⟩, ⟨.l 13, .cvI .u64, [.l 12], none⟩, Ya 14 1, Ya 15 1, ⟨.l 16, .un .neg, [.l 15], none⟩, ⟨.l 17, .maxI, [.l 14, .l 16], none⟩, ⟨.l 18, .cvI .u64, [.l 17], none⟩, Yu 19 141 13 18, Yc 8 19, Ym 20 0 8, Ym 21 1 8, Yb 3 20, Yb 4 21]
noncomputable abbrev r137_2 : List RO := [Ys 5 1000000000000]
noncomputable abbrev r137_3 : List RO := [Ya 22 3, ⟨.l 23, .bin .eql, [.l 22, (.con (.int .u64 0))], none⟩, Yc 24 23, Za 25 4 24 true, ⟨.l 26, .bin .leq, [.l 25, (.con (.int .u64 1000000000000))], (some (.l 24, true))⟩, Yp 6 24 26]
noncomputable abbrev r137_4 : List RO := [Ya 28 4, ⟨.l 29, .cvI .i64, [.l 28], none⟩, Yb 5 29]
noncomputable abbrev r137_5 : List RO := [Ya 30 0, Yv 31 .lss 30 0, Ya 32 1, Yv 33 .lss 32 0, ⟨.v 7, .eqB true, [.l 31, .l 33], none⟩]
noncomputable abbrev r137_6 : List RO := [Ya 35 5, ⟨.l 36, .un .neg, [.l 35], none⟩, Yb 2 36]
noncomputable abbrev r137_7 : List RO := [Ya 37 5, Yb 2 37]
theorem P137 : C137.M = M := rfl
theorem i137 {a0 a1 : D} : St.init C137 [a0, a1] ⟨[], []⟩ = ⟨[a0, a1, .u0, .u0, .u0, .u0, .u0, .u0], [], ⟨[], []⟩⟩ := rfl
noncomputable def c137 : RC := (.seq (.reg r137_0) (.seq (.reg r137_1) (.seq (.reg r137_2) (.seq (.seq (.reg r137_3) (.cond (.v 6) (.reg r137_4) .skip)) (.seq (.seq (.reg r137_5) (.cond (.v 7) (.seq (.reg r137_6) .ret) .skip)) (.seq (.reg r137_7) .ret))))))
noncomputable def q137 : List RR := [(.slot (.v 2))]
theorem k137 : FnOk M 137 2 Tryz.f137 E137 c137 q137 := fnOk Tryz.func137
noncomputable def E133 (n m : Nat) : Cfg := ⟨M, [0, 1, 4, 5, 7, 22], 26, n, m, []⟩
noncomputable def C133 : Cfg := E133 0 0
noncomputable abbrev r133_0 : List RO := [Ys 2 0]
noncomputable abbrev r133_1 : List RO := [Ya 6 1, Yz 4 .eql 6 0]
noncomputable abbrev r133_2 : List RO := [Ys 2 0]
noncomputable abbrev r133_3 : List RO := [Ya 8 0, Ya 9 1, Yx 10 .quo 8 9, Yb 3 10]
noncomputable abbrev r133_4 : List RO := [Ya 11 3, Ya 12 1, Yx 13 .mul 11 12, Ya 14 0, Yx 15 .neq 13 14, Yc 16 15, Za 17 0 16 true, ⟨.l 18, .bin .lss, [.l 17, .con (.int .i64 0)], (some (.l 16, true))⟩, Za 19 1 16 true, ⟨.l 20, .bin .lss, [.l 19, .con (.int .i64 0)], (some (.l 16, true))⟩, ⟨.l 21, .eqB true, [.l 18, .l 20], (some (.l 16, true))⟩, Yp 5 16 21]
noncomputable abbrev r133_5 : List RO := [Ya 23 3, Yv 24 .sub 23 1, Yb 3 24]
noncomputable abbrev r133_6 : List RO := [Ya 25 3, Yb 2 25]
theorem P133 : C133.M = M := rfl
theorem i133 {a0 a1 : D} : St.init C133 [a0, a1] ⟨[], []⟩ = ⟨[a0, a1, .u0, .u0, .u0, .u0], [], ⟨[], []⟩⟩ := rfl
noncomputable def c133 : RC := (.seq (.reg r133_0) (.seq (.seq (.reg r133_1) (.cond (.v 4) (.seq (.reg r133_2) .ret) .skip)) (.seq (.reg r133_3) (.seq (.seq (.reg r133_4) (.cond (.v 5) (.reg r133_5) .skip)) (.seq (.reg r133_6) .ret)))))
noncomputable def q133 : List RR := [(.slot (.v 2))]
theorem k133 : FnOk M 133 2 Tryz.f133 E133 c133 q133 := fnOk Tryz.func133
noncomputable def E139 (n m : Nat) : Cfg := ⟨M, [0, 2], 8, n, m, []⟩
noncomputable def C139 : Cfg := E139 0 0
noncomputable abbrev r139_0 : List RO := [⟨.v 1, (.newb [(.int .i64 0), (.int .i64 0)]), [], none⟩]
noncomputable abbrev r139_1 : List RO := [Ya 3 0, Yt 4 142 3, Ya 5 0, Yt 6 143 5, ⟨.l 7, (.bld [(.int .i64 0), (.int .i64 0)] [(0, 1), (1, 1)]), [.l 4, .l 6], none⟩, Yj 2 1 7]
theorem P139 : C139.M = M := rfl
theorem i139 {a0 : D} : St.init C139 [a0] ⟨[], []⟩ = ⟨[a0, .u0], [], ⟨[], []⟩⟩ := rfl
noncomputable def c139 : RC := (.seq (.reg r139_0) (.seq (.reg r139_1) .ret))
noncomputable def q139 : List RR := [(.cell (.v 1) true 2)]
theorem k139 : FnOk M 139 1 Tryz.f139 E139 c139 q139 := fnOk Tryz.func139
noncomputable def E140 (n m : Nat) : Cfg := ⟨M, [0, 2], 6, n, m, []⟩
noncomputable def C140 : Cfg := E140 0 0
noncomputable abbrev r140_0 : List RO := [Ys 1 0]
noncomputable abbrev r140_1 : List RO := [Ya 3 0, ⟨.l 4, .minI, [.l 3, .con (.int .i64 1000000000000)], none⟩, ⟨.l 5, .maxI, [(.con (.int .i64 (-1000000000000))), .l 4], none⟩, Yb 1 5]
theorem P140 : C140.M = M := rfl
theorem i140 {a0 : D} : St.init C140 [a0] ⟨[], []⟩ = ⟨[a0, .u0], [], ⟨[], []⟩⟩ := rfl
noncomputable def c140 : RC := (.seq (.reg r140_0) (.seq (.reg r140_1) .ret))
noncomputable def q140 : List RR := [(.slot (.v 1))]
theorem k140 : FnOk M 140 1 Tryz.f140 E140 c140 q140 := fnOk Tryz.func140
noncomputable def E142 (n m : Nat) : Cfg := ⟨M, [0, 2, 3, 4, 7, 15], 25, n, m, []⟩
noncomputable def C142 : Cfg := E142 0 0
noncomputable abbrev r142_0 : List RO := [Ys 1 0]
noncomputable abbrev r142_1 : List RO := [Ya 5 0, ⟨.l 6, .lenL, [.l 5], none⟩, Yz 4 .lss 6 1]
noncomputable abbrev r142_2 : List RO := [⟨.l 8, .mkI 9, [(.con (.str [115, 108, 105, 99, 101, 115, 46, 77, 105, 110, 58, 32, 101, 109, 112, 116, 121, 32, 108, 105, 115, 116]))], none⟩, ⟨.none, .calls .pan, [.l 8], none⟩]
noncomputable abbrev r142_3 : List RO := [Ya 9 0, ⟨.l 10, .ixaS 1, [.l 9, .con (.int .i64 0)], none⟩, Yd 11 10, Yb 2 11]
noncomputable abbrev r142_4 : List RO := [Ys 3 1]
noncomputable abbrev r142_5 : List RO := [Ya 12 3, Ya 13 0, ⟨.l 14, .lenL, [.l 13], none⟩, Yy 5 .lss 12 14]
noncomputable abbrev r142_6 : List RO := [Ya 18 2, Ya 19 0, Ya 20 3, ⟨.l 21, .ixaS 1, [.l 19, .l 20], none⟩, Yd 22 21, ⟨.l 23, .minI, [.l 18, .l 22], none⟩, Yb 2 23]
noncomputable abbrev r142_7 : List RO := [Ya 16 3, Yv 17 .add 16 1, Yb 3 17]
noncomputable abbrev r142_8 : List RO := [Ya 24 2, Yb 1 24]
theorem P142 : C142.M = M := rfl
theorem i142 {a0 : D} : St.init C142 [a0] ⟨[], []⟩ = ⟨[a0, .u0, .u0, .u0, .u0, .u0], [], ⟨[], []⟩⟩ := rfl
noncomputable def c142 : RC := (.seq (.reg r142_0) (.seq (.seq (.reg r142_1) (.cond (.v 4) (.reg r142_2) .skip)) (.seq (.reg r142_3) (.seq (.seq (.reg r142_4) (.block 0 (.loop (.seq (.seq (.reg r142_5) (.cond (.v 5) .skip (.exit 0))) (.seq (.block 1 (.reg r142_6)) (.reg r142_7)))))) (.seq (.reg r142_8) .ret)))))
noncomputable def q142 : List RR := [(.slot (.v 1))]
theorem k142 : FnOk M 142 1 Tryz.f142 E142 c142 q142 := fnOk Tryz.func142
noncomputable def E143 (n m : Nat) : Cfg := ⟨M, [0, 2, 3, 4, 7, 15], 25, n, m, []⟩
noncomputable def C143 : Cfg := E143 0 0
noncomputable abbrev r143_0 : List RO := [Ys 1 0]
noncomputable abbrev r143_1 : List RO := [Ya 5 0, ⟨.l 6, .lenL, [.l 5], none⟩, Yz 4 .lss 6 1]
noncomputable abbrev r143_2 : List RO := [⟨.l 8, .mkI 9, [(.con (.str [115, 108, 105, 99, 101, 115, 46, 77, 97, 120, 58, 32, 101, 109, 112, 116, 121, 32, 108, 105, 115, 116]))], none⟩, ⟨.none, .calls .pan, [.l 8], none⟩]
noncomputable abbrev r143_3 : List RO := [Ya 9 0, ⟨.l 10, .ixaS 1, [.l 9, .con (.int .i64 0)], none⟩, Yd 11 10, Yb 2 11]
noncomputable abbrev r143_4 : List RO := [Ys 3 1]
noncomputable abbrev r143_5 : List RO := [Ya 12 3, Ya 13 0, ⟨.l 14, .lenL, [.l 13], none⟩, Yy 5 .lss 12 14]
noncomputable abbrev r143_6 : List RO := [Ya 18 2, Ya 19 0, Ya 20 3, ⟨.l 21, .ixaS 1, [.l 19, .l 20], none⟩, Yd 22 21, ⟨.l 23, .maxI, [.l 18, .l 22], none⟩, Yb 2 23]
noncomputable abbrev r143_7 : List RO := [Ya 16 3, Yv 17 .add 16 1, Yb 3 17]
noncomputable abbrev r143_8 : List RO := [Ya 24 2, Yb 1 24]
theorem P143 : C143.M = M := rfl
theorem i143 {a0 : D} : St.init C143 [a0] ⟨[], []⟩ = ⟨[a0, .u0, .u0, .u0, .u0, .u0], [], ⟨[], []⟩⟩ := rfl
noncomputable def c143 : RC := (.seq (.reg r143_0) (.seq (.seq (.reg r143_1) (.cond (.v 4) (.reg r143_2) .skip)) (.seq (.reg r143_3) (.seq (.seq (.reg r143_4) (.block 0 (.loop (.seq (.seq (.reg r143_5) (.cond (.v 5) .skip (.exit 0))) (.seq (.block 1 (.reg r143_6)) (.reg r143_7)))))) (.seq (.reg r143_8) .ret)))))
noncomputable def q143 : List RR := [(.slot (.v 1))]
theorem z143 {n m : Nat} : zAe (E143 n m) (Tryz.f143.body.getD .skip) = some c143 := by kernel_rfl
theorem k143 : FnOk M 143 1 Tryz.f143 E143 c143 q143 := fnOk Tryz.func143
noncomputable def E151 (n m : Nat) : Cfg := ⟨M, [0, 1, 2, 3, 7, 8, 9, 12, 15, 16, 17, 18], 40, n, m, []⟩
noncomputable abbrev r151_0 : List RO := [Ya 10 0, Ya 11 1, Yy 7 .leq 10 11]
noncomputable abbrev r151_1 : List RO := [Ya 13 0, Ya 14 1, ⟨.v 8, .bsl 1, [.l 13, .l 14], none⟩, ⟨.v 9, .lenL, [.v 8], none⟩, Ys 10 0]
noncomputable abbrev r151_2 : List RO := [⟨.v 11, .bin .lss, [.v 10, .v 9], none⟩]
noncomputable abbrev r151_3 : List RO := [⟨.l 19, .ixaS 1, [.v 8, .v 10], none⟩, Yd 20 19, Yb 4 20]
noncomputable abbrev r151_4 : List (RO × Bool) := [(Yh 21 0 2, true), (Yd 22 21, true), (Ya 23 4, true), (Yu 24 133 22 23, true), (Yh 25 1 2, true), (Yd 26 25, true), (Ya 27 4, true)]
noncomputable abbrev r151_5 : List RO := [Yu 28 133 26 27, Yb 5 24, Yb 6 28]
noncomputable abbrev r151_6 : List RO := [Ye 29 3, Ya 30 5, Ya 31 6, ⟨.l 32, .minI, [.l 30, .l 31], none⟩, Ya 33 5, Ya 34 6, ⟨.l 35, .maxI, [.l 33, .l 34], none⟩, ⟨.l 36, (.bld [(.int .i64 0), (.int .i64 0)] [(0, 1), (1, 1)]), [.l 32, .l 35], none⟩, ⟨.l 37, .bsl 2, [.l 36], none⟩, ⟨.l 38, .app 2 16 26, [.l 29, .l 37], none⟩, Yj 1 3 38]
noncomputable abbrev r151_7 : List RO := [Yw 39 .add 10 1, Yb 10 39]
theorem pe151 {n m : Nat} : (E151 n m).M = M := rfl
theorem ie151 {n m : Nat} {hp : Hp} {a0 a1 a2 a3 : D} : St.init (E151 n m) [a0, a1, a2, a3] hp = ⟨[a0, a1, a2, a3, .u0, .u0, .u0, .u0, .u0, .u0, .u0, .u0], [], hp⟩ := rfl
noncomputable def c151 : RC := (.seq (.reg r151_0) (.cond (.v 7) (.seq (.reg r151_1) (.block 0 (.loop (.seq (.reg r151_2) (.seq (.cond (.v 11) .skip (.exit 0)) (.seq (.block 1 (.seq (.reg r151_3) (.seq (.regD r151_4 r151_5) (.reg r151_6)))) (.reg r151_7))))))) .skip))
noncomputable def q151 : List RR := []
theorem k151 : FnOk M 151 4 Tryz.f151 E151 c151 q151 := fnOk Tryz.func151
noncomputable def E148 (n m : Nat) : Cfg := ⟨M, [0, 1, 2, 3, 4, 5, 6, 7, 9, 17, 40, 41, 42, 43], 51, n, m, []⟩
noncomputable def C148 : Cfg := E148 0 0
noncomputable abbrev r148_0 : List RO := [Yl 2 0, Yl 3 1, ⟨.v 4, (.newb [(.int .i64 0), (.int .i64 0)]), [], none⟩]
noncomputable abbrev r148_1 : List RO := [⟨.v 5, (.newb [(.lit (.slice none 0 0))]), [], none⟩]
noncomputable abbrev r148_2 : List RO := [Yh 10 0 3, Yd 11 10, Yv 12 .leq 11 0, Yc 13 12, Zh 14 1 3 13 true, Zd 15 14 13 true, ⟨.l 16, .bin .geq, [.l 15, .con (.int .i64 0)], (some (.l 13, true))⟩, Yp 9 13 16]
noncomputable abbrev r148_3 : List RO := [Ye 18 5, ⟨.l 19, (.bld [(.int .i64 0), (.int .i64 0)] []), [], none⟩, ⟨.l 20, .bsl 2, [.l 19], none⟩, ⟨.l 21, .app 2 16 26, [.l 18, .l 20], none⟩, Yj 1 5 21]
noncomputable abbrev r148_4 : List RO := [⟨.l 22, (.mkF (.func 151) 0), [.v 2, .v 5], none⟩, Yb 6 22]
noncomputable abbrev r148_5 : List RO := [Ya 23 6, Yh 24 0 3, Yd 25 24, ⟨.l 26, .maxI, [.l 25, .con (.int .i64 1)], none⟩, Yh 27 1 3, Yd 28 27, ⟨.l 29, .calls .fn, [.l 23, .l 26, .l 28], none⟩]
noncomputable abbrev r148_6 : List RO := [Ya 30 6, Yh 31 0 3, Yd 32 31, Yh 33 1 3, Yd 34 33, ⟨.l 35, .minI, [.l 34, (.con (.int .i64 (-1)))], none⟩, ⟨.l 36, .calls .fn, [.l 30, .l 32, .l 35], none⟩]
noncomputable abbrev r148_7 : List RO := [Ye 37 5, ⟨.l 38, .ixaS 2, [.l 37, .con (.int .i64 0)], none⟩, Yg 39 2 38, ⟨.v 7, (.newb [(.int .i64 0), (.int .i64 0)]), [], none⟩, Yj 2 7 39]
noncomputable abbrev r148_8 : List RO := [⟨.v 10, .ld false 1, [.v 5], none⟩, ⟨.v 11, .lenL, [.v 10], none⟩, Ys 12 0]
noncomputable abbrev r148_9 : List RO := [⟨.v 13, .bin .lss, [.v 12, .v 11], none⟩]
noncomputable abbrev r148_10 : List RO := [⟨.l 44, .ixaS 2, [.v 10, .v 12], none⟩, Yg 45 2 44, ⟨.v 8, (.newb [(.int .i64 0), (.int .i64 0)]), [], none⟩, Yj 2 8 45]
noncomputable abbrev r148_11 : List RO := [Yf 46 2 7, Yf 47 2 8, Yu 48 150 46 47, Yj 2 7 48]
noncomputable abbrev r148_12 : List RO := [Yw 49 .add 12 1, Yb 12 49]
noncomputable abbrev r148_13 : List RO := [Yf 50 2 7, Yj 2 4 50]
theorem P148 : C148.M = M := rfl
theorem i148 {a0 a1 : D} : St.init C148 [a0, a1] ⟨[], []⟩ = ⟨[a0, a1, .u0, .u0, .u0, .u0, .u0, .u0, .u0, .u0, .u0, .u0, .u0, .u0], [], ⟨[], []⟩⟩ := rfl
noncomputable def c148 : RC := (.seq (.reg r148_0) (.seq (.reg r148_1) (.seq (.seq (.reg r148_2) (.cond (.v 9) (.reg r148_3) .skip)) (.seq (.reg r148_4) (.seq (.reg r148_5) (.seq (.reg r148_6) (.seq (.reg r148_7) (.seq (.seq (.reg r148_8) (.block 0 (.loop (.seq (.reg r148_9) (.seq (.cond (.v 13) .skip (.exit 0)) (.seq (.block 1 (.seq (.reg r148_10) (.reg r148_11))) (.reg r148_12))))))) (.seq (.reg r148_13) .ret)))))))))
noncomputable def q148 : List RR := [(.cell (.v 4) true 2)]
theorem k148 : FnOk M 148 2 Tryz.f148 E148 c148 q148 := fnOk Tryz.func148
noncomputable def E32 (n m : Nat) : Cfg := ⟨M, [0, 1, 3, 4, 5, 13, 21], 67, n, m, []⟩
noncomputable def C32 : Cfg := E32 0 0
noncomputable abbrev r32_0 : List RO := [Yl 2 1, Ys 3 0]
noncomputable abbrev r32_1 : List RO := [Yh 6 0 2, Yd 7 6, Yv 8 .eql 7 1, Yb 4 8]
noncomputable abbrev r32_2 : List RO := [Ya 9 0, Yh 10 1 2, Yd 11 10, ⟨.l 12, (.calls (.inv "bogie/formula.number")), [.l 9, .l 11], none⟩, Yb 3 12]
noncomputable abbrev r32_3 : List RO := [Yh 14 0 2, Yd 15 14, Yv 16 .leq 15 4, Yb 5 16]
noncomputable abbrev r32_4 : List RO := [Ya 17 0, Yh 18 0 2, Yd 19 18, ⟨.l 20, (.calls (.inv "bogie/formula.letter")), [.l 17, .l 19], none⟩, Yb 3 20]
noncomputable abbrev r32_5 : List RO := [Yh 22 0 2, Yd 23 22, Yv 24 .eql 23 11, Yb 6 24]
noncomputable abbrev r32_6 : List (RO × Bool) := [(Ya 25 0, true), (Ya 26 0, true), (Yh 27 2 2, true), (Yd 28 27, true), (⟨.l 29, .ixaS 3, [.l 28, .con (.int .i64 0)], none⟩, true), (Yg 30 3 29, true), (Yu 31 32 26 30, true), (Ya 32 0, true), (Yh 33 2 2, true), (Yd 34 33, true), (⟨.l 35, .ixaS 3, [.l 34, .con (.int .i64 1)], none⟩, true), (Yg 36 3 35, true), (Yu 37 32 32 36, true), (Ya 38 0, true), (Yh 39 2 2, true), (Yd 40 39, true), (⟨.l 41, .ixaS 3, [.l 40, .con (.int .i64 2)], none⟩, true), (Yg 42 3 41, true), (Yu 43 32 38 42, false), (⟨.l 44, (.mkF (.method "bogie/formula.choose") 1), [.l 25], none⟩, true), (Yn 45 44, true), (Yc 46 25, true)]
noncomputable abbrev r32_7 : List RO := [⟨.l 47, (.calls (.inv "bogie/formula.choose")), [.l 46, .l 31, .l 37, .l 43], none⟩, Yb 3 47]
noncomputable abbrev r32_8 : List (RO × Bool) := [(Ya 48 0, true), (Yh 49 0 2, true), (Yd 50 49, true), (Ya 51 0, true), (Yh 52 2 2, true), (Yd 53 52, true), (⟨.l 54, .ixaS 3, [.l 53, .con (.int .i64 0)], none⟩, true), (Yg 55 3 54, true), (Yu 56 32 51 55, true), (Ya 57 0, true), (Yh 58 2 2, true), (Yd 59 58, true), (⟨.l 60, .ixaS 3, [.l 59, .con (.int .i64 1)], none⟩, true), (Yg 61 3 60, true), (Yu 62 32 57 61, true), (⟨.l 63, (.mkF (.method "bogie/formula.apply") 1), [.l 48], none⟩, true), (Yn 64 63, true), (Yc 65 48, true)]
noncomputable abbrev r32_9 : List RO := [⟨.l 66, (.calls (.inv "bogie/formula.apply")), [.l 65, .l 50, .l 56, .l 62], none⟩, Yb 3 66]
theorem P32 : C32.M = M := rfl
theorem i32 {a0 a1 : D} : St.init C32 [a0, a1] ⟨[], []⟩ = ⟨[a0, a1, .u0, .u0, .u0, .u0, .u0], [], ⟨[], []⟩⟩ := rfl
noncomputable def c32 : RC := (.seq (.reg r32_0) (.seq (.block 0 (.seq (.reg r32_1) (.cond (.v 4) (.seq (.reg r32_2) .ret) (.seq (.reg r32_3) (.cond (.v 5) (.seq (.reg r32_4) .ret) (.seq (.reg r32_5) (.cond (.v 6) (.seq (.regD r32_6 r32_7) .ret) .skip))))))) (.seq (.regD r32_8 r32_9) .ret)))
noncomputable def q32 : List RR := [(.slot (.v 3))]
theorem k32 : FnOk M 32 2 Tryz.f32 E32 c32 q32 := fnOk Tryz.func32
noncomputable def E35 (n m : Nat) : Cfg := ⟨M, [0, 1, 3, 4, 5, 13, 21], 67, n, m, []⟩
noncomputable def C35 : Cfg := E35 0 0
noncomputable abbrev r35_0 : List RO := [Yl 2 1, ⟨.v 3, (.newb [(.int .i64 0), (.int .i64 0)]), [], none⟩]
noncomputable abbrev r35_1 : List RO := [Yh 6 0 2, Yd 7 6, Yv 8 .eql 7 1, Yb 4 8]
noncomputable abbrev r35_2 : List RO := [Ya 9 0, Yh 10 1 2, Yd 11 10, ⟨.l 12, (.calls (.inv "bogie/formula.number")), [.l 9, .l 11], none⟩, Yj 2 3 12]
noncomputable abbrev r35_3 : List RO := [Yh 14 0 2, Yd 15 14, Yv 16 .leq 15 4, Yb 5 16]
noncomputable abbrev r35_4 : List RO := [Ya 17 0, Yh 18 0 2, Yd 19 18, ⟨.l 20, (.calls (.inv "bogie/formula.letter")), [.l 17, .l 19], none⟩, Yj 2 3 20]
noncomputable abbrev r35_5 : List RO := [Yh 22 0 2, Yd 23 22, Yv 24 .eql 23 11, Yb 6 24]
noncomputable abbrev r35_6 : List (RO × Bool) := [(Ya 25 0, true), (Ya 26 0, true), (Yh 27 2 2, true), (Yd 28 27, true), (⟨.l 29, .ixaS 3, [.l 28, .con (.int .i64 0)], none⟩, true), (Yg 30 3 29, true), (Yu 31 35 26 30, true), (Ya 32 0, true), (Yh 33 2 2, true), (Yd 34 33, true), (⟨.l 35, .ixaS 3, [.l 34, .con (.int .i64 1)], none⟩, true), (Yg 36 3 35, true), (Yu 37 35 32 36, true), (Ya 38 0, true), (Yh 39 2 2, true), (Yd 40 39, true), (⟨.l 41, .ixaS 3, [.l 40, .con (.int .i64 2)], none⟩, true), (Yg 42 3 41, true), (Yu 43 35 38 42, false), (⟨.l 44, (.mkF (.method "bogie/formula.choose") 1), [.l 25], none⟩, true), (Yn 45 44, true), (Yc 46 25, true)]
noncomputable abbrev r35_7 : List RO := [⟨.l 47, (.calls (.inv "bogie/formula.choose")), [.l 46, .l 31, .l 37, .l 43], none⟩, Yj 2 3 47]
noncomputable abbrev r35_8 : List (RO × Bool) := [(Ya 48 0, true), (Yh 49 0 2, true), (Yd 50 49, true), (Ya 51 0, true), (Yh 52 2 2, true), (Yd 53 52, true), (⟨.l 54, .ixaS 3, [.l 53, .con (.int .i64 0)], none⟩, true), (Yg 55 3 54, true), (Yu 56 35 51 55, true), (Ya 57 0, true), (Yh 58 2 2, true), (Yd 59 58, true), (⟨.l 60, .ixaS 3, [.l 59, .con (.int .i64 1)], none⟩, true), (Yg 61 3 60, true), (Yu 62 35 57 61, true), (⟨.l 63, (.mkF (.method "bogie/formula.apply") 1), [.l 48], none⟩, true), (Yn 64 63, true), (Yc 65 48, true)]
noncomputable abbrev r35_9 : List RO := [⟨.l 66, (.calls (.inv "bogie/formula.apply")), [.l 65, .l 50, .l 56, .l 62], none⟩, Yj 2 3 66]
theorem P35 : C35.M = M := rfl
theorem i35 {a0 a1 : D} : St.init C35 [a0, a1] ⟨[], []⟩ = ⟨[a0, a1, .u0, .u0, .u0, .u0, .u0], [], ⟨[], []⟩⟩ := rfl
noncomputable def c35 : RC := (.seq (.reg r35_0) (.seq (.block 0 (.seq (.reg r35_1) (.cond (.v 4) (.seq (.reg r35_2) .ret) (.seq (.reg r35_3) (.cond (.v 5) (.seq (.reg r35_4) .ret) (.seq (.reg r35_5) (.cond (.v 6) (.seq (.regD r35_6 r35_7) .ret) .skip))))))) (.seq (.regD r35_8 r35_9) .ret)))
noncomputable def q35 : List RR := [(.cell (.v 3) true 2)]
theorem k35 : FnOk M 35 2 Tryz.f35 E35 c35 q35 := fnOk Tryz.func35
noncomputable def E13 (n m : Nat) : Cfg := ⟨M, [0, 1, 2, 3, 4, 8, 9, 12], 26, n, m, []⟩
noncomputable def C13 : Cfg := E13 0 0
noncomputable abbrev r13_0 : List RO := [Yl 4 0, Ys 5 0]
noncomputable abbrev r13_1 : List RO := [Yf 10 3 4, Yt 11 10 10, ⟨.v 7, .un .not, [.l 11], none⟩]
noncomputable abbrev r13_2 : List RO := [Ys 5 0]
noncomputable abbrev r13_3 : List RO := [⟨.v 6, .mv, [(.con (.fn (.func 31) [] []))], none⟩]
noncomputable abbrev r13_4 : List (RO × Bool) := [(Ya 13 6, true), (Ya 14 1, true), (⟨.l 15, .calls .fn, [.l 13, .l 14], none⟩, true), (Ya 16 6, true), (Ya 17 2, true), (⟨.l 18, .calls .fn, [.l 16, .l 17], none⟩, true), (Ya 19 6, true), (Ya 20 3, true), (⟨.l 21, .calls .fn, [.l 19, .l 20], none⟩, true), (⟨.l 22, (.bld [(.int .i64 0), (.int .i64 0), (.int .i64 0)] [(0, 1), (1, 1), (2, 1)]), [.l 15, .l 18, .l 21], none⟩, true), (⟨.l 23, .mkI 59, [.l 22], none⟩, true), (Yf 24 3 4, true)]
noncomputable abbrev r13_5 : List RO := [Yu 25 32 23 24, Yb 5 25]
theorem P13 : C13.M = M := rfl
theorem i13 {a0 a1 a2 a3 : D} : St.init C13 [a0, a1, a2, a3] ⟨[], []⟩ = ⟨[a0, a1, a2, a3, .u0, .u0, .u0, .u0], [], ⟨[], []⟩⟩ := rfl
noncomputable def c13 : RC := (.seq (.reg r13_0) (.seq (.seq (.reg r13_1) (.cond (.v 7) (.seq (.reg r13_2) .ret) .skip)) (.seq (.reg r13_3) (.seq (.regD r13_4 r13_5) .ret))))
noncomputable def q13 : List RR := [(.slot (.v 5))]
theorem k13 : FnOk M 13 4 Tryz.f13 E13 c13 q13 := fnOk Tryz.func13
noncomputable def E15 (n m : Nat) : Cfg := ⟨M, [0, 1, 2, 3, 4, 6, 7, 14, 15, 16, 17, 34, 39], 53, n, m, []⟩
noncomputable def C15 : Cfg := E15 0 0
noncomputable abbrev r15_0 : List RO := [Yl 2 0, Yl 3 1, ⟨.v 4, (.newb [(.int .i64 0), (.int .i64 0)]), [], none⟩]
noncomputable abbrev r15_1 : List RO := [Yh 8 0 3, Yg 9 2 8, Yh 10 2 3, Yg 11 2 10, Yh 12 4 3, Yg 13 2 12, ⟨.v 7, .bsl 2, [.l 9, .l 11, .l 13], none⟩, ⟨.v 8, .lenL, [.v 7], none⟩, Ys 9 0]
noncomputable abbrev r15_2 : List RO := [⟨.v 10, .bin .lss, [.v 9, .v 8], none⟩]
noncomputable abbrev r15_3 : List RO := [⟨.l 18, .ixaS 2, [.v 7, .v 9], none⟩, Yg 19 2 18, ⟨.v 5, (.newb [(.int .i64 0), (.int .i64 0)]), [], none⟩, Yj 2 5 19]
noncomputable abbrev r15_4 : List RO := [Yh 20 0 5, Yd 21 20, Yv 22 .lss 21 0, Yc 23 22, Zh 24 0 5 23 false, Zd 25 24 23 false, Zh 26 1 5 23 false, Zd 27 26 23 false, ⟨.l 28, .bin .gtr, [.l 25, .l 27], (some (.l 23, false))⟩, Yq 29 23 28, Yc 30 29, Zh 31 1 5 30 false, Zd 32 31 30 false, ⟨.l 33, .bin .gtr, [.l 32, .con (.int .i64 1000000)], (some (.l 30, false))⟩, Yr 11 30 33]
noncomputable abbrev r15_5 : List RO := [⟨.l 35, (.bld [(.int .i64 0), (.int .i64 0)] []), [], none⟩, Yj 2 4 35]
noncomputable abbrev r15_6 : List RO := [Yw 36 .add 9 1, Yb 9 36]
noncomputable abbrev r15_7 : List RO := [Yf 37 3 2, Yt 38 10 37, ⟨.v 12, .un .not, [.l 38], none⟩]
noncomputable abbrev r15_8 : List RO := [⟨.l 40, (.bld [(.int .i64 0), (.int .i64 0)] []), [], none⟩, Yj 2 4 40]
noncomputable abbrev r15_9 : List RO := [Yf 41 6 3, ⟨.l 42, (.bld [(.int .i64 0), (.int .i64 0), (.int .i64 0), (.int .i64 0), (.int .i64 0), (.int .i64 0)] [(0, 6)]), [.l 41], none⟩, ⟨.l 43, .mkI 63, [.l 42], none⟩, Yf 44 3 2, Yu 45 35 43 44, ⟨.v 6, (.newb [(.int .i64 0), (.int .i64 0)]), [], none⟩, Yj 2 6 45]
noncomputable abbrev r15_10 : List RO := [Yh 46 0 6, Yd 47 46, ⟨.l 48, .maxI, [.con (.int .i64 0), .l 47], none⟩, Yh 49 1 6, Yd 50 49, ⟨.l 51, .maxI, [.con (.int .i64 0), .l 50], none⟩, ⟨.l 52, (.bld [(.int .i64 0), (.int .i64 0)] [(0, 1), (1, 1)]), [.l 48, .l 51], none⟩, Yj 2 4 52]
theorem P15 : C15.M = M := rfl
theorem i15 {a0 a1 : D} : St.init C15 [a0, a1] ⟨[], []⟩ = ⟨[a0, a1, .u0, .u0, .u0, .u0, .u0, .u0, .u0, .u0, .u0, .u0, .u0], [], ⟨[], []⟩⟩ := rfl
noncomputable def c15 : RC := (.seq (.reg r15_0) (.seq (.seq (.reg r15_1) (.block 0 (.loop (.seq (.reg r15_2) (.seq (.cond (.v 10) .skip (.exit 0)) (.seq (.block 1 (.seq (.reg r15_3) (.seq (.reg r15_4) (.cond (.v 11) (.seq (.reg r15_5) .ret) .skip)))) (.reg r15_6))))))) (.seq (.seq (.reg r15_7) (.cond (.v 12) (.seq (.reg r15_8) .ret) .skip)) (.seq (.reg r15_9) (.seq (.reg r15_10) .ret)))))
noncomputable def q15 : List RR := [(.cell (.v 4) true 2)]
theorem k15 : FnOk M 15 2 Tryz.f15 E15 c15 q15 := fnOk Tryz.func15
noncomputable def E12 (n m : Nat) : Cfg := ⟨M, [0, 1, 2, 3, 4, 5, 26, 31, 45], 46, n, m, []⟩
noncomputable def C12 : Cfg := E12 0 0
noncomputable abbrev r12_0 : List RO := [Yl 2 0, Yl 3 1, ⟨.v 4, .mv, [.con (.bool false)], none⟩]
noncomputable abbrev r12_1 : List RO := [Yh 6 0 2, Yd 7 6, Yh 8 0 3, Yd 9 8, Yx 10 .neq 7 9, Yc 11 10, Zh 12 1 2 11 false, Zd 13 12 11 false, Zh 14 1 3 11 false, Zd 15 14 11 false, ⟨.l 16, .bin .neq, [.l 13, .l 15], (some (.l 11, false))⟩, Yq 17 11 16, Yc 18 17, Zh 19 2 2 18 false, Zd 20 19 18 false, ⟨.l 21, .lenL, [.l 20], (some (.l 18, false))⟩, Zh 22 2 3 18 false, Zd 23 22 18 false, ⟨.l 24, .lenL, [.l 23], (some (.l 18, false))⟩, ⟨.l 25, .bin .neq, [.l 21, .l 24], (some (.l 18, false))⟩, Yr 6 18 25]
noncomputable abbrev r12_2 : List RO := [⟨.v 4, .mv, [.con (.bool false)], none⟩]
noncomputable abbrev r12_3 : List RO := [Ys 5 0]
noncomputable abbrev r12_4 : List RO := [Ya 27 5, Yh 28 2 2, Yd 29 28, ⟨.l 30, .lenL, [.l 29], none⟩, Yy 7 .lss 27 30]
noncomputable abbrev r12_5 : List (RO × Bool) := [(Yh 34 2 2, true), (Yd 35 34, true), (Ya 36 5, true), (⟨.l 37, .ixaS 3, [.l 35, .l 36], none⟩, true), (Yg 38 3 37, true), (Yh 39 2 3, true), (Yd 40 39, true), (Ya 41 5, true), (⟨.l 42, .ixaS 3, [.l 40, .l 41], none⟩, true), (Yg 43 3 42, true)]
noncomputable abbrev r12_6 : List RO := [Yu 44 12 38 43, ⟨.v 8, .un .not, [.l 44], none⟩]
noncomputable abbrev r12_7 : List RO := [⟨.v 4, .mv, [.con (.bool false)], none⟩]
noncomputable abbrev r12_8 : List RO := [Ya 32 5, Yv 33 .add 32 1, Yb 5 33]
noncomputable abbrev r12_9 : List RO := [⟨.v 4, .mv, [.con (.bool true)], none⟩]
theorem P12 : C12.M = M := rfl
theorem i12 {a0 a1 : D} : St.init C12 [a0, a1] ⟨[], []⟩ = ⟨[a0, a1, .u0, .u0, .u0, .u0, .u0, .u0, .u0], [], ⟨[], []⟩⟩ := rfl
noncomputable def c12 : RC := (.seq (.reg r12_0) (.seq (.seq (.reg r12_1) (.cond (.v 6) (.seq (.reg r12_2) .ret) .skip)) (.seq (.seq (.reg r12_3) (.block 0 (.loop (.seq (.seq (.reg r12_4) (.cond (.v 7) .skip (.exit 0))) (.seq (.block 1 (.seq (.regD r12_5 r12_6) (.cond (.v 8) (.seq (.reg r12_7) .ret) .skip))) (.reg r12_8)))))) (.seq (.reg r12_9) .ret))))
noncomputable def q12 : List RR := [(.slot (.v 4))]
theorem k12 : FnOk M 12 2 Tryz.f12 E12 c12 q12 := fnOk Tryz.func12
end Go.Proofs.YtkjnhkoipgdfeaaGreatDoor
end
section
set_option maxRecDepth 100000
namespace Go.Proofs.YtkjnhkoipgdfeaaGreatDoor
open Go GoV
noncomputable def E61 (n m : Nat) : Cfg := ⟨M, [0, 1, 2, 3, 4, 5, 9, 24, 33, 39], 50, n, m, []⟩
noncomputable def C61 : Cfg := E61 0 0
noncomputable abbrev r61_0 : List RO := [⟨.v 0, .newb zl256, [], none⟩]
noncomputable abbrev r61_1 : List RO := [⟨.v 1, .newb zl256, [], none⟩]
noncomputable abbrev r61_2 : List RO := [Ys 4 0]
noncomputable abbrev r61_3 : List RO := [⟨.v 5, .bin .lss, [.v 4, .con (.int .i64 256)], none⟩]
noncomputable abbrev r61_4 : List RO := [Ya 6 4, Yb 2 6]
noncomputable abbrev r61_5 : List RO := [Ya 7 2, ⟨.l 8, .cvI .u8, [.l 7], none⟩, Yb 3 8]
noncomputable abbrev r61_6 : List RO := [Ya 10 3, ⟨.l 11, .bin .leq, [(.con (.int .u8 97)), .l 10], none⟩, Yc 12 11, Za 13 3 12 true, ⟨.l 14, .bin .leq, [.l 13, (.con (.int .u8 122))], (some (.l 12, true))⟩, Yo 15 12 14, Yb 6 15]
noncomputable abbrev r61_7 : List RO := [Ya 16 3, ⟨.l 17, .bin .leq, [(.con (.int .u8 65)), .l 16], none⟩, Yc 18 17, Za 19 3 18 true, ⟨.l 20, .bin .leq, [.l 19, (.con (.int .u8 90))], (some (.l 18, true))⟩, Yo 21 18 20, Yb 6 21]
noncomputable abbrev r61_8 : List RO := [Ya 22 2, ⟨.l 23, .ixaA 256 1, [.v 1, .l 22], none⟩, ⟨.none, .st 1, [.l 23, (.con (.int .u8 3))], none⟩]
noncomputable abbrev r61_9 : List RO := [Ya 25 3, ⟨.l 26, .bin .leq, [(.con (.int .u8 48)), .l 25], none⟩, Yc 27 26, Za 28 3 27 true, ⟨.l 29, .bin .leq, [.l 28, (.con (.int .u8 57))], (some (.l 27, true))⟩, Yo 30 27 29, Yb 7 30]
noncomputable abbrev r61_10 : List RO := [Ya 31 2, ⟨.l 32, .ixaA 256 1, [.v 1, .l 31], none⟩, ⟨.none, .st 1, [.l 32, (.con (.int .u8 4))], none⟩]
noncomputable abbrev r61_11 : List RO := [Ya 34 3, ⟨.l 35, .calls .fn, [(.con (.fn (.func 75) [] [])), (.con (.str [32, 9, 10])), .l 34], none⟩, Yv 36 .geq 35 0, Yb 8 36]
noncomputable abbrev r61_12 : List RO := [Ya 37 2, ⟨.l 38, .ixaA 256 1, [.v 1, .l 37], none⟩, ⟨.none, .st 1, [.l 38, (.con (.int .u8 1))], none⟩]
noncomputable abbrev r61_13 : List RO := [Ya 40 3, ⟨.l 41, .calls .fn, [(.con (.fn (.func 75) [] [])), (.con (.str [59, 44, 46, 58, 40, 41, 123, 125, 91, 93, 61, 60, 62, 47, 43, 45, 42])), .l 40], none⟩, Yv 42 .geq 41 0, Yb 9 42]
noncomputable abbrev r61_14 : List RO := [Ya 43 2, ⟨.l 44, .ixaA 256 1, [.v 1, .l 43], none⟩, ⟨.none, .st 1, [.l 44, (.con (.int .u8 6))], none⟩]
noncomputable abbrev r61_15 : List RO := [Yw 45 .add 4 1, Yb 4 45]
noncomputable abbrev r61_16 : List RO := [⟨.l 46, .ixaA 256 1, [.v 1, .con (.int .i64 35)], none⟩, ⟨.none, .st 1, [.l 46, (.con (.int .u8 2))], none⟩, ⟨.l 47, .ixaA 256 1, [.v 1, .con (.int .i64 95)], none⟩, ⟨.none, .st 1, [.l 47, (.con (.int .u8 5))], none⟩, ⟨.l 48, .ixaA 256 1, [.v 1, .con (.int .i64 34)], none⟩, ⟨.none, .st 1, [.l 48, (.con (.int .u8 7))], none⟩]
noncomputable abbrev r61_17 : List RO := [Yf 49 256 1, Yj 256 0 49]
theorem P61 : C61.M = M := rfl
theorem i61 : St.init C61 [] ⟨[], []⟩ = ⟨[.u0, .u0, .u0, .u0, .u0, .u0, .u0, .u0, .u0, .u0], [], ⟨[], []⟩⟩ := rfl
noncomputable def c61 : RC := (.seq (.reg r61_0) (.seq (.reg r61_1) (.seq (.seq (.reg r61_2) (.block 0 (.loop (.seq (.reg r61_3) (.seq (.cond (.v 5) .skip (.exit 0)) (.seq (.block 1 (.seq (.reg r61_4) (.seq (.reg r61_5) (.block 2 (.seq (.seq (.reg r61_6) (.cond (.v 6) .skip (.reg r61_7))) (.cond (.v 6) (.reg r61_8) (.seq (.reg r61_9) (.cond (.v 7) (.reg r61_10) (.seq (.reg r61_11) (.cond (.v 8) (.reg r61_12) (.seq (.reg r61_13) (.cond (.v 9) (.reg r61_14) .skip)))))))))))) (.reg r61_15))))))) (.seq (.reg r61_16) (.seq (.reg r61_17) .ret)))))
noncomputable def q61 : List RR := [(.cell (.v 0) true 256)]
theorem k61 : FnOk M 61 0 Tryz.f61 E61 c61 q61 := fnOk Tryz.func61
noncomputable def E42 (n m : Nat) : Cfg := ⟨M, [0, 1, 2, 3, 4], 8, n, m, []⟩
noncomputable def C42 : Cfg := E42 0 0
noncomputable abbrev r42_0 : List RO := [Yl 1 0, ⟨.v 2, .mv, [(.con (.lit .nilFunc))], none⟩]
noncomputable abbrev r42_1 : List RO := [⟨.l 5, .calls .fn, [(.con (.fn (.func 61) [] []))], none⟩, ⟨.v 3, .newb zl256, [], none⟩, Yj 256 3 5]
noncomputable abbrev r42_2 : List RO := [⟨.l 6, (.mkF (.func 62) 0), [.v 1, .v 3], none⟩, ⟨.v 4, (.newb [(.lit .nilFunc)]), [], none⟩, Yj 1 4 6]
noncomputable abbrev r42_3 : List RO := [⟨.l 7, (.mkF (.func 63) 0), [.v 1, .v 4], none⟩, Yb 2 7]
theorem P42 : C42.M = M := rfl
theorem i42 {a0 : D} : St.init C42 [a0] ⟨[], []⟩ = ⟨[a0, .u0, .u0, .u0, .u0], [], ⟨[], []⟩⟩ := rfl
noncomputable def c42 : RC := (.seq (.reg r42_0) (.seq (.reg r42_1) (.seq (.reg r42_2) (.seq (.reg r42_3) .ret))))
noncomputable def q42 : List RR := [(.slot (.v 2))]
theorem k42 : FnOk M 42 1 Tryz.f42 E42 c42 q42 := fnOk Tryz.func42
noncomputable def E62 (n m : Nat) : Cfg := ⟨M, [0, 1, 2, 4, 8], 14, n, m, []⟩
noncomputable def C62 : Cfg := E62 0 0
noncomputable abbrev r62_0 : List RO := [⟨.v 3, .mv, [(.con (.int .u8 0))], none⟩]
noncomputable abbrev r62_1 : List RO := [Ya 5 0, Ye 6 1, ⟨.l 7, .lenS, [.l 6], none⟩, Yy 4 .geq 5 7]
noncomputable abbrev r62_2 : List RO := [⟨.v 3, .mv, [(.con (.int .u8 0))], none⟩]
noncomputable abbrev r62_3 : List RO := [Ye 9 1, Ya 10 0, ⟨.l 11, .ixvS, [.l 9, .l 10], none⟩, ⟨.l 12, .ixaA 256 1, [.v 2, .l 11], none⟩, Yd 13 12, Yb 3 13]
theorem P62 : C62.M = M := rfl
theorem i62 {a0 a1 a2 : D} : St.init C62 [a0, a1, a2] ⟨[], []⟩ = ⟨[a0, a1, a2, .u0, .u0], [], ⟨[], []⟩⟩ := rfl
noncomputable def c62 : RC := (.seq (.reg r62_0) (.seq (.seq (.reg r62_1) (.cond (.v 4) (.seq (.reg r62_2) .ret) .skip)) (.seq (.reg r62_3) .ret)))
noncomputable def q62 : List RR := [(.slot (.v 3))]
theorem k62 : FnOk M 62 3 Tryz.f62 E62 c62 q62 := fnOk Tryz.func62
noncomputable def E63 (n m : Nat) : Cfg := ⟨M, [0, 1, 2, 4, 5, 6, 7, 8, 9, 10, 14, 21, 22, 26, 37, 40, 54, 72, 74, 79, 105, 107, 117, 127, 148], 149, n, m, []⟩
noncomputable abbrev r63_0 : List RO := [Ys 3 0]
noncomputable abbrev r63_1 : List RO := [Ya 11 3, Ye 12 1, ⟨.l 13, .lenS, [.l 12], none⟩, Yy 10 .lss 11 13]
noncomputable abbrev r63_2 : List RO := [Ya 15 3, Yb 4 15]
noncomputable abbrev r63_3 : List RO := [Ya 16 4, ⟨.l 17, (.bld [(.int .i64 0), (.str []), (.int .i64 0)] [(2, 1)]), [.l 16], none⟩, ⟨.l 18, (.bld [(.int .i64 0), (.str []), (.int .i64 0), (.int .i64 0)] [(0, 3), (3, 1)]), [.l 17, .con (.int .i64 10)], none⟩, ⟨.v 5, (.newb [(.int .i64 0), (.str []), (.int .i64 0), (.int .i64 0)]), [], none⟩, Yj 4 5 18]
noncomputable abbrev r63_4 : List RO := [Ye 19 2, Ya 20 3, ⟨.v 11, .calls .fn, [.l 19, .l 20], none⟩]
noncomputable abbrev r63_5 : List RO := [⟨.l 23, .bin .eql, [.v 11, (.con (.int .u8 1))], none⟩, Yb 12 23]
noncomputable abbrev r63_6 : List RO := [Ya 24 3, Yv 25 .add 24 1, Yb 3 25]
noncomputable abbrev r63_7 : List RO := [⟨.l 27, .bin .eql, [.v 11, (.con (.int .u8 2))], none⟩, Yb 13 27]
noncomputable abbrev r63_8 : List RO := [Ya 28 3, Ye 29 1, ⟨.l 30, .lenS, [.l 29], none⟩, Yx 31 .lss 28 30, Yc 32 31, Ze 33 1 32 true, Za 34 3 32 true, ⟨.l 35, .ixvS, [.l 33, .l 34], (some (.l 32, true))⟩, ⟨.l 36, .bin .neq, [.l 35, (.con (.int .u8 10))], (some (.l 32, true))⟩, Yp 14 32 36]
noncomputable abbrev r63_9 : List RO := [Ya 38 3, Yv 39 .add 38 1, Yb 3 39]
noncomputable abbrev r63_10 : List RO := [⟨.l 41, .bin .eql, [.v 11, (.con (.int .u8 3))], none⟩, Yb 15 41]
noncomputable abbrev r63_11 : List RO := [Ye 42 2, Ya 43 3, ⟨.l 44, .calls .fn, [.l 42, .l 43], none⟩, Yb 6 44]
noncomputable abbrev r63_12 : List RO := [Ya 45 6, ⟨.l 46, .bin .eql, [.l 45, (.con (.int .u8 3))], none⟩, Yc 47 46, Za 48 6 47 false, ⟨.l 49, .bin .eql, [.l 48, (.con (.int .u8 4))], (some (.l 47, false))⟩, Yq 50 47 49, Yc 51 50, Za 52 6 51 false, ⟨.l 53, .bin .eql, [.l 52, (.con (.int .u8 5))], (some (.l 51, false))⟩, Yr 16 51 53]
noncomputable abbrev r63_13 : List RO := [Ya 58 3, Yv 59 .add 58 1, Yb 3 59]
noncomputable abbrev r63_14 : List RO := [Ye 55 2, Ya 56 3, ⟨.l 57, .calls .fn, [.l 55, .l 56], none⟩, Yb 6 57]
noncomputable abbrev r63_15 : List (RO × Bool) := [(Ye 60 1, true), (Ya 61 4, true), (Ya 62 3, true), (⟨.l 63, .slcS true true, [.l 60, .l 61, .l 62], none⟩, true), (Yh 64 0 5, true), (Yi 65 0 64, true), (⟨.none, .st 1, [.l 65, .con (.int .i64 1)], none⟩, true)]
noncomputable abbrev r63_16 : List RO := [Yh 66 0 5, Yi 67 1 66, Yk 1 67 63, Yh 68 3 5, ⟨.none, .st 1, [.l 68, .con (.int .i64 0)], none⟩]
noncomputable abbrev r63_17 : List RO := [Ya 69 3, Ya 70 4, Yx 71 .sub 69 70, Yz 17 .gtr 71 24]
noncomputable abbrev r63_18 : List RO := [Yh 73 3 5, ⟨.none, .st 1, [.l 73, .con (.int .i64 7)], none⟩]
noncomputable abbrev r63_19 : List RO := [⟨.l 75, .bin .eql, [.v 11, (.con (.int .u8 4))], none⟩, Yb 18 75]
noncomputable abbrev r63_20 : List RO := [Ye 76 2, Ya 77 3, ⟨.l 78, .calls .fn, [.l 76, .l 77], none⟩, ⟨.v 19, .bin .eql, [.l 78, (.con (.int .u8 4))], none⟩]
noncomputable abbrev r63_21 : List RO := [Ya 80 3, Yv 81 .add 80 1, Yb 3 81]
noncomputable abbrev r63_22 : List (RO × Bool) := [(Ye 82 1, true), (Ya 83 4, true), (Ya 84 3, true), (⟨.l 85, .slcS true true, [.l 82, .l 83, .l 84], none⟩, true), (Yh 86 0 5, true), (Yi 87 0 86, true), (⟨.none, .st 1, [.l 87, .con (.int .i64 2)], none⟩, true)]
noncomputable abbrev r63_23 : List RO := [Yh 88 0 5, Yi 89 1 88, Yk 1 89 85, Yh 90 3 5, ⟨.none, .st 1, [.l 90, .con (.int .i64 0)], none⟩]
noncomputable abbrev r63_24 : List RO := [Ye 91 2, Ya 92 3, ⟨.l 93, .calls .fn, [.l 91, .l 92], none⟩, Yb 7 93]
noncomputable abbrev r63_25 : List RO := [Ya 94 3, Ya 95 4, Yx 96 .sub 94 95, Yv 97 .gtr 96 7, Yc 98 97, Za 99 7 98 false, ⟨.l 100, .bin .eql, [.l 99, (.con (.int .u8 3))], (some (.l 98, false))⟩, Yq 101 98 100, Yc 102 101, Za 103 7 102 false, ⟨.l 104, .bin .eql, [.l 103, (.con (.int .u8 5))], (some (.l 102, false))⟩, Yr 20 102 104]
noncomputable abbrev r63_26 : List RO := [Yh 106 3 5, ⟨.none, .st 1, [.l 106, .con (.int .i64 11)], none⟩]
noncomputable abbrev r63_27 : List RO := [⟨.l 108, .bin .eql, [.v 11, (.con (.int .u8 7))], none⟩, Yb 21 108]
noncomputable abbrev r63_28 : List RO := [Ye 110 1, Ya 111 3, ⟨.l 112, .slcS true false, [.l 110, .l 111], none⟩, Yt 113 64 112, Yc 109 113, Ym 114 0 109, Ym 115 1 109, Yb 8 114, Yb 9 115]
noncomputable abbrev r63_29 : List RO := [Ya 116 9, Yz 22 .gtr 116 0]
noncomputable abbrev r63_30 : List RO := [Ya 118 8, Yh 119 0 5, Yi 120 0 119, ⟨.none, .st 1, [.l 120, .con (.int .i64 3)], none⟩, Yh 121 0 5, Yi 122 1 121, Yk 1 122 118, Yh 123 3 5, ⟨.none, .st 1, [.l 123, .con (.int .i64 0)], none⟩]
noncomputable abbrev r63_31 : List RO := [Ya 124 3, Ya 125 9, Yx 126 .add 124 125, Yb 3 126]
noncomputable abbrev r63_32 : List RO := [⟨.l 128, .bin .eql, [.v 11, (.con (.int .u8 6))], none⟩, Yb 23 128]
noncomputable abbrev r63_33 : List RO := [Ya 129 3, Yv 130 .add 129 1, Yb 3 130]
noncomputable abbrev r63_34 : List (RO × Bool) := [(Ye 131 1, true), (Ya 132 4, true), (Ya 133 3, true), (⟨.l 134, .slcS true true, [.l 131, .l 132, .l 133], none⟩, true), (Yh 135 0 5, true), (Yi 136 0 135, true), (⟨.none, .st 1, [.l 136, .con (.int .i64 4)], none⟩, true)]
noncomputable abbrev r63_35 : List RO := [Yh 137 0 5, Yi 138 1 137, Yk 1 138 134, Yh 139 3 5, ⟨.none, .st 1, [.l 139, .con (.int .i64 0)], none⟩]
noncomputable abbrev r63_36 : List RO := [Ya 140 0, Yf 141 4 5, ⟨.l 142, .calls .fn, [.l 140, .l 141], none⟩, ⟨.l 143, .un .not, [.l 142], none⟩, Yc 144 143, Zh 145 3 5 144 false, Zd 146 145 144 false, ⟨.l 147, .bin .neq, [.l 146, .con (.int .i64 0)], (some (.l 144, false))⟩, Yr 24 144 147]
theorem pe63 {n m : Nat} : (E63 n m).M = M := rfl
theorem ie63 {n m : Nat} {hp : Hp} {a0 a1 a2 : D} : St.init (E63 n m) [a0, a1, a2] hp = ⟨[a0, a1, a2, .u0, .u0, .u0, .u0, .u0, .u0, .u0, .u0, .u0, .u0, .u0, .u0, .u0, .u0, .u0, .u0, .u0, .u0, .u0, .u0, .u0, .u0], [], hp⟩ := rfl
noncomputable def c63 : RC := (.scope (.seq (.reg r63_0) (.seq .skip (.block 0 (.loop (.seq (.seq (.reg r63_1) (.cond (.v 10) .skip (.exit 0))) (.block 1 (.seq (.reg r63_2) (.seq (.reg r63_3) (.seq (.seq (.reg r63_4) (.block 2 (.seq (.reg r63_5) (.cond (.v 12) (.seq (.reg r63_6) (.exit 1)) (.seq (.reg r63_7) (.cond (.v 13) (.seq (.block 3 (.loop (.seq (.seq (.reg r63_8) (.cond (.v 14) .skip (.exit 3))) (.block 4 (.reg r63_9))))) (.exit 1)) (.seq (.reg r63_10) (.cond (.v 15) (.seq (.seq (.reg r63_11) (.block 5 (.loop (.seq (.seq (.reg r63_12) (.cond (.v 16) .skip (.exit 5))) (.seq (.block 6 (.reg r63_13)) (.reg r63_14)))))) (.seq (.regD r63_15 r63_16) (.seq (.reg r63_17) (.cond (.v 17) (.reg r63_18) .skip)))) (.seq (.reg r63_19) (.cond (.v 18) (.seq (.block 7 (.loop (.seq (.seq (.reg r63_20) (.cond (.v 19) .skip (.exit 7))) (.block 8 (.reg r63_21))))) (.seq (.regD r63_22 r63_23) (.seq (.reg r63_24) (.seq (.reg r63_25) (.cond (.v 20) (.reg r63_26) .skip))))) (.seq (.reg r63_27) (.cond (.v 21) (.seq (.reg r63_28) (.seq (.seq (.reg r63_29) (.cond (.v 22) (.reg r63_30) .skip)) (.reg r63_31))) (.seq (.reg r63_32) (.cond (.v 23) (.seq (.reg r63_33) (.regD r63_34 r63_35)) .skip)))))))))))))) (.seq (.reg r63_36) (.cond (.v 24) .ret .skip))))))))))))
theorem z63 {n m : Nat} : zAe (E63 n m) (Tryz.f63.body.getD .skip) = some c63 := by kernel_rfl
noncomputable def E21 (n m : Nat) : Cfg := ⟨M, [0, 2, 3, 4, 5, 6, 9, 11, 12, 13, 22], 35, n, m, []⟩
noncomputable def C21 : Cfg := E21 0 0
noncomputable abbrev r21_0 : List RO := [⟨.v 1, (.newb [(.lit (.slice none 0 0))]), [], none⟩, ⟨.v 2, (.newb [(.int .i64 0)]), [], none⟩, ⟨.v 3, (.newb [(.int .i64 0)]), [], none⟩]
noncomputable abbrev r21_1 : List RO := [Ya 7 0, ⟨.l 8, .lenS, [.l 7], none⟩, Yz 6 .gtr 8 20000]
noncomputable abbrev r21_2 : List RO := [⟨.none, .st 1, [.v 1, (.con (.lit (.slice none 0 0)))], none⟩, ⟨.none, .st 1, [.v 2, .con (.int .i64 7)], none⟩, ⟨.none, .st 1, [.v 3, (.con (.int .i64 (-1)))], none⟩]
noncomputable abbrev r21_3 : List RO := [⟨.v 4, (.newb [(.lit (.slice none 0 0))]), [], none⟩]
noncomputable abbrev r21_4 : List RO := [Ya 10 0, ⟨.v 7, .calls .fn, [(.con (.fn (.func 42) [] [])), .l 10], none⟩]
noncomputable abbrev r21_5 : List RO := [⟨.v 5, (.newb [(.int .i64 0), (.str []), (.int .i64 0), (.int .i64 0)]), [], none⟩, ⟨.none, .st 4, [.v 5, .v 8], none⟩]
noncomputable abbrev r21_6 : List RO := [Yh 14 3 5, Yd 15 14, Yv 16 .neq 15 0, Yb 9 16]
noncomputable abbrev r21_7 : List (RO × Bool) := [(Yh 17 3 5, true), (Yd 18 17, true), (Yh 19 0 5, true), (Yi 20 2 19, true), (Yd 21 20, true), (⟨.none, .st 1, [.v 1, (.con (.lit (.slice none 0 0)))], none⟩, true), (Yj 1 2 18, true)]
noncomputable abbrev r21_8 : List RO := [Yj 1 3 21]
noncomputable abbrev r21_9 : List RO := [Ye 23 4, ⟨.l 24, .lenL, [.l 23], none⟩, Yv 25 .eql 24 5000, Yb 10 25]
noncomputable abbrev r21_10 : List (RO × Bool) := [(Yh 26 0 5, true), (Yi 27 2 26, true), (Yd 28 27, true), (⟨.none, .st 1, [.v 1, (.con (.lit (.slice none 0 0)))], none⟩, true), (⟨.none, .st 1, [.v 2, .con (.int .i64 7)], none⟩, true)]
noncomputable abbrev r21_11 : List RO := [Yj 1 3 28]
noncomputable abbrev r21_12 : List RO := [Ye 29 4, Yh 30 0 5, Yg 31 3 30, ⟨.l 32, .bsl 3, [.l 31], none⟩, ⟨.l 33, .app 3 32 71, [.l 29, .l 32], none⟩, Yj 1 4 33]
noncomputable abbrev r21_13 : List RO := [Ye 34 4, Yj 1 1 34, ⟨.none, .st 1, [.v 2, .con (.int .i64 0)], none⟩, ⟨.none, .st 1, [.v 3, .con (.int .i64 0)], none⟩]
theorem P21 : C21.M = M := rfl
theorem i21 {a0 : D} : St.init C21 [a0] ⟨[], []⟩ = ⟨[a0, .u0, .u0, .u0, .u0, .u0, .u0, .u0, .u0, .u0, .u0], [], ⟨[], []⟩⟩ := rfl
noncomputable def c21 : RC := (.seq (.reg r21_0) (.seq (.seq (.reg r21_1) (.cond (.v 6) (.seq (.reg r21_2) .ret) .skip)) (.seq (.reg r21_3) (.seq (.seq (.reg r21_4) (.block 0 (.rangeF (.v 7) [(.v 8)] (.reg r21_5) (.block 1 (.seq (.block 2 (.seq (.reg r21_6) (.cond (.v 9) (.seq (.regD r21_7 r21_8) .ret) (.seq (.reg r21_9) (.cond (.v 10) (.seq (.regD r21_10 r21_11) .ret) .skip))))) (.reg r21_12)))))) (.seq (.reg r21_13) .ret)))))
noncomputable def q21 : List RR := [(.cell (.v 1) false 1), (.cell (.v 2) false 1), (.cell (.v 3) false 1)]
theorem z21 {n m : Nat} : zAe (E21 n m) (Tryz.f21.body.getD .skip) = some c21 := by kernel_rfl
theorem zr21 {n m : Nat} : resRs (E21 n m) Tryz.f21.results.toList = some q21 := by kernel_rfl
theorem oT21 {args : List D} {d : D} (hl : args.length = 1) (h : TWp C21 0 0 c21 (fun e n m s => (match e with | .exit _ => False | _ => True) ∧ ∃ s1, (∀ ds, Weak { C21 with n0 := n, m0 := m, dfs := ds } s s1) ∧ rrsWp q21 s1 fun ds => D.closed (zAl ds) = true ∧ (zAl ds).er = d) (St.init C21 args ⟨[], []⟩)) : Pur M 21 args d :=
 pur_of_bodyT (C := C21) (fn := Tryz.f21) Tryz.func21 (by kernel_rfl) (by kernel_rfl) (rc := c21) z21 (rs := q21) zr21 (by kernel_rfl) (by rw [hl]; rfl) (by rw [hl]; decide) rfl rfl h
noncomputable def E64 (n m : Nat) : Cfg := ⟨M, [0, 2, 3, 4, 5, 6, 7, 11, 17, 20, 25, 27, 34, 40], 44, n, m, []⟩
noncomputable def C64 : Cfg := E64 0 0
noncomputable abbrev r64_0 : List RO := [⟨.v 1, .mv, [(.con (.str []))], none⟩, Ys 2 0]
noncomputable abbrev r64_1 : List RO := [⟨.v 3, (.newT 111 [(.lit (.pointer none)), (.lit (.slice none 0 0))]), [], none⟩]
noncomputable abbrev r64_2 : List RO := [Ys 4 1]
noncomputable abbrev r64_3 : List RO := [Ya 8 4, Ya 9 0, ⟨.l 10, .lenS, [.l 9], none⟩, Yy 7 .lss 8 10]
noncomputable abbrev r64_4 : List RO := [Ya 14 0, Ya 15 4, ⟨.l 16, .ixvS, [.l 14, .l 15], none⟩, Yb 5 16]
noncomputable abbrev r64_5 : List RO := [⟨.v 8, .mv, [.v 5], none⟩]
noncomputable abbrev r64_6 : List RO := [⟨.l 21, .bin .eql, [.v 8, (.con (.int .u8 34))], none⟩, Yb 9 21]
noncomputable abbrev r64_7 : List RO := [⟨.l 22, .calls .fn, [(.con (.fn (.func 76) [] [])), .v 3], none⟩, Ya 23 4, Yv 24 .add 23 1, Yb 1 22, Yb 2 24]
noncomputable abbrev r64_8 : List RO := [⟨.l 26, .bin .eql, [.v 8, (.con (.int .u8 10))], none⟩, Yb 10 26]
noncomputable abbrev r64_9 : List RO := [⟨.v 1, .mv, [(.con (.str []))], none⟩, Ys 2 0]
noncomputable abbrev r64_10 : List RO := [⟨.l 28, .bin .eql, [.v 8, (.con (.int .u8 92))], none⟩, Yb 11 28]
noncomputable abbrev r64_11 : List RO := [Ya 29 4, Yv 30 .add 29 1, Yb 4 30]
noncomputable abbrev r64_12 : List RO := [⟨.v 6, .mv, [(.con (.int .i64 (-1)))], none⟩]
noncomputable abbrev r64_13 : List RO := [Ya 31 4, Ya 32 0, ⟨.l 33, .lenS, [.l 32], none⟩, Yy 12 .lss 31 33]
noncomputable abbrev r64_14 : List RO := [Ya 35 0, Ya 36 4, ⟨.l 37, .ixvS, [.l 35, .l 36], none⟩, ⟨.l 38, .calls .fn, [(.con (.fn (.func 75) [] [])), (.con (.str [92, 34, 110])), .l 37], none⟩, Yb 6 38]
noncomputable abbrev r64_15 : List RO := [Ya 39 6, Yz 13 .lss 39 0]
noncomputable abbrev r64_16 : List RO := [⟨.v 1, .mv, [(.con (.str []))], none⟩, Ys 2 0]
noncomputable abbrev r64_17 : List RO := [Ya 41 6, ⟨.l 42, .ixvS, [(.con (.str [92, 34, 10])), .l 41], none⟩, ⟨.l 43, .calls .fn, [(.con (.fn (.func 77) [] [])), .v 3, .l 42], none⟩]
noncomputable abbrev r64_18 : List RO := [Ya 18 5, ⟨.l 19, .calls .fn, [(.con (.fn (.func 77) [] [])), .v 3, .l 18], none⟩]
noncomputable abbrev r64_19 : List RO := [Ya 12 4, Yv 13 .add 12 1, Yb 4 13]
noncomputable abbrev r64_20 : List RO := [⟨.v 1, .mv, [(.con (.str []))], none⟩, Ys 2 0]
theorem P64 : C64.M = M := rfl
theorem i64 {a0 : D} : St.init C64 [a0] ⟨[], []⟩ = ⟨[a0, .u0, .u0, .u0, .u0, .u0, .u0, .u0, .u0, .u0, .u0, .u0, .u0, .u0], [], ⟨[], []⟩⟩ := rfl
noncomputable def c64 : RC := (.seq (.reg r64_0) (.seq (.reg r64_1) (.seq (.seq (.reg r64_2) (.block 0 (.loop (.seq (.seq (.reg r64_3) (.cond (.v 7) .skip (.exit 0))) (.seq (.block 1 (.seq (.reg r64_4) (.seq (.reg r64_5) (.block 2 (.seq (.reg r64_6) (.cond (.v 9) (.seq (.reg r64_7) .ret) (.seq (.reg r64_8) (.cond (.v 10) (.seq (.reg r64_9) .ret) (.seq (.reg r64_10) (.cond (.v 11) (.seq (.reg r64_11) (.seq (.reg r64_12) (.seq (.seq (.reg r64_13) (.cond (.v 12) (.reg r64_14) .skip)) (.seq (.seq (.reg r64_15) (.cond (.v 13) (.seq (.reg r64_16) .ret) .skip)) (.reg r64_17))))) (.reg r64_18))))))))))) (.reg r64_19)))))) (.seq (.reg r64_20) .ret))))
noncomputable def q64 : List RR := [(.slot (.v 1)), (.slot (.v 2))]
theorem k64 : FnOk M 64 1 Tryz.f64 E64 c64 q64 := fnOk Tryz.func64
noncomputable def E23 (n m : Nat) : Cfg := ⟨M, [0, 2], 8, n, m, []⟩
noncomputable abbrev r23_0 : List RO := [⟨.v 1, (.newb [(.int .i64 0), (.int .i64 0), (.lit (.slice none 0 0))]), [], none⟩]
noncomputable abbrev r23_1 : List RO := [Ya 3 0, Ya 4 0, ⟨.l 5, (.mkF (.func 44) 1), [.l 4], none⟩, ⟨.l 6, .bsl 1, [(.con (.str [43])), (.con (.str [45]))], none⟩, ⟨.l 7, .calls .fn, [(.con (.fn (.func 43) [] [])), .l 3, .con (.int .i64 5), .l 5, .l 6], none⟩, Yj 3 1 7]
theorem pe23 {n m : Nat} : (E23 n m).M = M := rfl
theorem ie23 {n m : Nat} {hp : Hp} {a0 : D} : St.init (E23 n m) [a0] hp = ⟨[a0, .u0], [], hp⟩ := rfl
noncomputable def c23 : RC := (.seq (.reg r23_0) (.seq (.reg r23_1) .ret))
noncomputable def q23 : List RR := [(.cell (.v 1) true 3)]
theorem z23 {n m : Nat} : zAe (E23 n m) (Tryz.f23.body.getD .skip) = some c23 := by kernel_rfl
theorem k23 : FnOk M 23 1 Tryz.f23 E23 c23 q23 := fnOk Tryz.func23
noncomputable def E24 (n m : Nat) : Cfg := ⟨M, [0, 7], 23, n, m, []⟩
noncomputable abbrev r24_0 : List RO := [Ya 2 0, Yn 3 2, Yi 4 0 3, Yd 5 4, ⟨.l 6, .lenL, [.l 5], none⟩, Yz 1 .eql 6 0]
noncomputable abbrev r24_1 : List RO := [Ya 8 0, Yn 9 8, Yi 10 1 9, Yd 11 10, ⟨.l 12, (.bld [(.int .i64 0), (.int .i64 0)] [(0, 1), (1, 1)]), [.con (.int .i64 9), .l 11], none⟩, ⟨.l 13, .mkI 48, [.l 12], none⟩, ⟨.none, .calls .pan, [.l 13], none⟩]
noncomputable abbrev r24_2 : List RO := [Ya 14 0, Yn 15 14, Yi 16 0 15, Yd 17 16, ⟨.l 18, .ixaS 3, [.l 17, .con (.int .i64 0)], none⟩, Yi 19 2 18, Yd 20 19, ⟨.l 21, (.bld [(.int .i64 0), (.int .i64 0)] [(0, 1), (1, 1)]), [.con (.int .i64 8), .l 20], none⟩, ⟨.l 22, .mkI 48, [.l 21], none⟩, ⟨.none, .calls .pan, [.l 22], none⟩]
theorem pe24 {n m : Nat} : (E24 n m).M = M := rfl
theorem ie24 {n m : Nat} {hp : Hp} {a0 : D} : St.init (E24 n m) [a0] hp = ⟨[a0, .u0], [], hp⟩ := rfl
noncomputable def c24 : RC := (.seq (.seq (.reg r24_0) (.cond (.v 1) (.reg r24_1) .skip)) (.reg r24_2))
noncomputable def q24 : List RR := []
theorem z24 {n m : Nat} : zAe (E24 n m) (Tryz.f24.body.getD .skip) = some c24 := by kernel_rfl
noncomputable def E43 (n m : Nat) : Cfg := ⟨M, [0, 1, 2, 3, 8, 9, 10, 17], 27, n, m, []⟩
noncomputable def C43 : Cfg := E43 0 0
noncomputable abbrev r43_0 : List RO := [⟨.v 4, (.newb [(.int .i64 0), (.int .i64 0), (.lit (.slice none 0 0))]), [], none⟩]
noncomputable abbrev r43_1 : List RO := [Ya 11 2, ⟨.l 12, .calls .fn, [.l 11], none⟩, ⟨.v 5, (.newb [(.int .i64 0), (.int .i64 0), (.lit (.slice none 0 0))]), [], none⟩, Yj 3 5 12]
noncomputable abbrev r43_2 : List RO := [Ya 13 0, Ya 14 3, ⟨.l 15, .calls .fn, [(.con (.fn (.func 65) [] [])), .l 13, .con (.int .i64 4), .l 14], none⟩, Yb 6 15]
noncomputable abbrev r43_3 : List RO := [Ya 16 6, Yz 7 .lss 16 0]
noncomputable abbrev r43_4 : List RO := [Yf 18 3 5, Yj 3 4 18]
noncomputable abbrev r43_5 : List (RO × Bool) := [(Ya 19 1, true), (Ya 20 6, true), (Yx 21 .add 19 20, true), (Yf 22 3 5, true), (Ya 23 2, true), (⟨.l 24, .calls .fn, [.l 23], none⟩, true), (⟨.l 25, .bsl 3, [.l 22, .l 24], none⟩, false)]
noncomputable abbrev r43_6 : List RO := [⟨.l 26, (.bld [(.int .i64 0), (.int .i64 0), (.lit (.slice none 0 0))] [(0, 1), (2, 1)]), [.l 21, .l 25], none⟩, Yj 3 5 26]
theorem pe43 {n m : Nat} : (E43 n m).M = M := rfl
theorem i43 {a0 a1 a2 a3 : D} : St.init C43 [a0, a1, a2, a3] ⟨[], []⟩ = ⟨[a0, a1, a2, a3, .u0, .u0, .u0, .u0], [], ⟨[], []⟩⟩ := rfl
theorem ie43 {n m : Nat} {hp : Hp} {a0 a1 a2 a3 : D} : St.init (E43 n m) [a0, a1, a2, a3] hp = ⟨[a0, a1, a2, a3, .u0, .u0, .u0, .u0], [], hp⟩ := rfl
noncomputable def c43 : RC := (.seq (.reg r43_0) (.seq (.reg r43_1) (.block 0 (.loop (.block 1 (.seq (.reg r43_2) (.seq (.seq (.reg r43_3) (.cond (.v 7) (.seq (.reg r43_4) .ret) .skip)) (.regD r43_5 r43_6))))))))
noncomputable def q43 : List RR := [(.cell (.v 4) true 3)]
theorem z43 {n m : Nat} : zAe (E43 n m) (Tryz.f43.body.getD .skip) = some c43 := by kernel_rfl
theorem k43 : FnOk M 43 4 Tryz.f43 E43 c43 q43 := fnOk Tryz.func43
noncomputable def E44 (n m : Nat) : Cfg := ⟨M, [0, 2], 8, n, m, []⟩
noncomputable def C44 : Cfg := E44 0 0
noncomputable abbrev r44_0 : List RO := [⟨.v 1, (.newb [(.int .i64 0), (.int .i64 0), (.lit (.slice none 0 0))]), [], none⟩]
noncomputable abbrev r44_1 : List RO := [Ya 3 0, Ya 4 0, ⟨.l 5, (.mkF (.func 66) 1), [.l 4], none⟩, ⟨.l 6, .bsl 1, [(.con (.str [42])), (.con (.str [47]))], none⟩, ⟨.l 7, .calls .fn, [(.con (.fn (.func 43) [] [])), .l 3, .con (.int .i64 7), .l 5, .l 6], none⟩, Yj 3 1 7]
theorem pe44 {n m : Nat} : (E44 n m).M = M := rfl
theorem i44 {a0 : D} : St.init C44 [a0] ⟨[], []⟩ = ⟨[a0, .u0], [], ⟨[], []⟩⟩ := rfl
theorem ie44 {n m : Nat} {hp : Hp} {a0 : D} : St.init (E44 n m) [a0] hp = ⟨[a0, .u0], [], hp⟩ := rfl
noncomputable def c44 : RC := (.seq (.reg r44_0) (.seq (.reg r44_1) .ret))
noncomputable def q44 : List RR := [(.cell (.v 1) true 3)]
theorem z44 {n m : Nat} : zAe (E44 n m) (Tryz.f44.body.getD .skip) = some c44 := by kernel_rfl
theorem k44 : FnOk M 44 1 Tryz.f44 E44 c44 q44 := fnOk Tryz.func44
noncomputable def E65 (n m : Nat) : Cfg := ⟨M, [0, 1, 2, 6, 7, 8, 9, 10, 11, 12, 43], 54, n, m, []⟩
noncomputable abbrev r65_0 : List RO := [Ys 3 0]
noncomputable abbrev r65_1 : List RO := [⟨.v 6, .mv, [.v 2], none⟩, ⟨.v 7, .lenL, [.v 6], none⟩, Ys 8 0]
noncomputable abbrev r65_2 : List RO := [⟨.v 9, .bin .lss, [.v 8, .v 7], none⟩]
noncomputable abbrev r65_3 : List RO := [Ya 13 8, ⟨.l 14, .ixaS 1, [.v 6, .v 8], none⟩, Yd 15 14, Yb 4 13, Yb 5 15]
noncomputable abbrev r65_4 : List RO := [Ya 16 0, Yn 17 16, Yi 18 0 17, Yd 19 18, ⟨.l 20, .lenL, [.l 19], none⟩, Yv 21 .gtr 20 0, Yc 22 21, Za 23 0 22 true, Zn 24 23 22 true, Zi 25 0 24 22 true, Zd 26 25 22 true, ⟨.l 27, .ixaS 3, [.l 26, .con (.int .i64 0)], (some (.l 22, true))⟩, Zi 28 0 27 22 true, Zd 29 28 22 true, Za 30 1 22 true, ⟨.l 31, .bin .eql, [.l 29, .l 30], (some (.l 22, true))⟩, Yo 32 22 31, Yc 33 32, Za 34 0 33 true, Zn 35 34 33 true, Zi 36 0 35 33 true, Zd 37 36 33 true, ⟨.l 38, .ixaS 3, [.l 37, .con (.int .i64 0)], (some (.l 33, true))⟩, Zi 39 1 38 33 true, Zd 40 39 33 true, Za 41 5 33 true, ⟨.l 42, .bin .eql, [.l 40, .l 41], (some (.l 33, true))⟩, Yp 10 33 42]
noncomputable abbrev r65_5 : List RO := [Ya 44 0, Ya 45 0, Yn 46 45, Yi 47 0 46, Yd 48 47, ⟨.l 49, .slcL 3 true false, [.l 48, .con (.int .i64 1)], none⟩, Yn 50 44, Yi 51 0 50, Yk 1 51 49]
noncomputable abbrev r65_6 : List RO := [Ya 52 4, Yb 3 52]
noncomputable abbrev r65_7 : List RO := [Yw 53 .add 8 1, Yb 8 53]
noncomputable abbrev r65_8 : List RO := [⟨.v 3, .mv, [(.con (.int .i64 (-1)))], none⟩]
theorem pe65 {n m : Nat} : (E65 n m).M = M := rfl
theorem ie65 {n m : Nat} {hp : Hp} {a0 a1 a2 : D} : St.init (E65 n m) [a0, a1, a2] hp = ⟨[a0, a1, a2, .u0, .u0, .u0, .u0, .u0, .u0, .u0, .u0], [], hp⟩ := rfl
noncomputable def c65 : RC := (.seq (.reg r65_0) (.seq (.seq (.reg r65_1) (.block 0 (.loop (.seq (.reg r65_2) (.seq (.cond (.v 9) .skip (.exit 0)) (.seq (.block 1 (.seq (.reg r65_3) (.seq (.reg r65_4) (.cond (.v 10) (.seq (.reg r65_5) (.seq (.reg r65_6) .ret)) .skip)))) (.reg r65_7))))))) (.seq (.reg r65_8) .ret)))
noncomputable def q65 : List RR := [(.slot (.v 3))]
theorem k65 : FnOk M 65 3 Tryz.f65 E65 c65 q65 := fnOk Tryz.func65
noncomputable def E66 (n m : Nat) : Cfg := ⟨M, [0, 2, 3, 5, 6, 7, 8, 24, 50, 58, 72, 73, 74], 95, n, m, []⟩
noncomputable abbrev r66_0 : List RO := [⟨.v 1, (.newb [(.int .i64 0), (.int .i64 0), (.lit (.slice none 0 0))]), [], none⟩]
noncomputable abbrev r66_1 : List RO := [Ya 9 0, Yn 10 9, Yi 11 0 10, Yd 12 11, ⟨.l 13, .lenL, [.l 12], none⟩, Yv 14 .gtr 13 0, Yc 15 14, Za 16 0 15 true, Zn 17 16 15 true, Zi 18 0 17 15 true, Zd 19 18 15 true, ⟨.l 20, .ixaS 3, [.l 19, .con (.int .i64 0)], (some (.l 15, true))⟩, Zi 21 0 20 15 true, Zd 22 21 15 true, ⟨.l 23, .bin .eql, [.l 22, .con (.int .i64 2)], (some (.l 15, true))⟩, Yp 7 15 23]
noncomputable abbrev r66_2 : List RO := [Ya 26 0, Yn 27 26, Yi 28 0 27, Yd 29 28, ⟨.l 30, .ixaS 3, [.l 29, .con (.int .i64 0)], none⟩, Yi 31 1 30, Yd 32 31, Yt 33 78 32, Yc 25 33, Ym 34 0 25, Ym 35 1 25, Yb 2 34, Yc 4 35]
noncomputable abbrev r66_3 : List RO := [Ya 36 0, Ya 37 0, Yn 38 37, Yi 39 0 38, Yd 40 39, ⟨.l 41, .slcL 3 true false, [.l 40, .con (.int .i64 1)], none⟩, Yn 42 36, Yi 43 0 42, Yk 1 43 41]
noncomputable abbrev r66_4 : List RO := [Ya 44 2, ⟨.l 45, (.bld [(.int .i64 0), (.int .i64 0), (.lit (.slice none 0 0))] [(0, 1), (1, 1)]), [.con (.int .i64 1), .l 44], none⟩, Yj 3 1 45]
noncomputable abbrev r66_5 : List RO := [Ya 46 0, ⟨.l 47, .bsl 1, [(.con (.str [107, 109])), (.con (.str [99, 121, 99, 108, 101, 115])), (.con (.str [108, 111, 97, 100]))], none⟩, ⟨.l 48, .calls .fn, [(.con (.fn (.func 65) [] [])), .l 46, .con (.int .i64 1), .l 47], none⟩, Yb 3 48]
noncomputable abbrev r66_6 : List RO := [Ya 49 3, Yz 8 .geq 49 0]
noncomputable abbrev r66_7 : List RO := [Ya 51 3, ⟨.l 52, .bin .add, [.con (.int .i64 2), .l 51], none⟩, ⟨.l 53, (.bld [(.int .i64 0), (.int .i64 0), (.lit (.slice none 0 0))] [(0, 1)]), [.l 52], none⟩, Yj 3 1 53]
noncomputable abbrev r66_8 : List RO := [Ya 54 0, ⟨.l 55, .bsl 1, [(.con (.str [109, 105, 110])), (.con (.str [109, 97, 120])), (.con (.str [105, 102]))], none⟩, ⟨.l 56, .calls .fn, [(.con (.fn (.func 65) [] [])), .l 54, .con (.int .i64 1), .l 55], none⟩, Yb 4 56]
noncomputable abbrev r66_9 : List RO := [Ya 57 4, Yz 9 .geq 57 0]
noncomputable abbrev r66_10 : List RO := [Ya 59 4, ⟨.l 60, .bin .add, [.con (.int .i64 9), .l 59], none⟩, ⟨.l 61, (.bld [(.int .i64 0), (.int .i64 0), (.lit (.slice none 0 0))] [(0, 1)]), [.l 60], none⟩, ⟨.v 5, (.newb [(.int .i64 0), (.int .i64 0), (.lit (.slice none 0 0))]), [], none⟩, Yj 3 5 61]
noncomputable abbrev r66_11 : List RO := [Ya 62 0, ⟨.l 63, .calls .fn, [(.con (.fn (.func 79) [] [])), .l 62, (.con (.str [40]))], none⟩]
noncomputable abbrev r66_12 : List (RO × Bool) := [(Yh 64 2 5, true), (Yd 65 64, true), (Ya 66 0, true), (Yt 67 23 66, true), (⟨.l 68, .bsl 3, [.l 67], none⟩, true)]
noncomputable abbrev r66_13 : List RO := [⟨.l 69, .app 3 40 24, [.l 65, .l 68], none⟩, Yh 70 2 5, Yk 1 70 69]
noncomputable abbrev r66_14 : List RO := [Ya 71 4, ⟨.v 10, .maxI, [.con (.int .i64 1), .l 71], none⟩, Ys 11 0]
noncomputable abbrev r66_15 : List RO := [⟨.v 12, .bin .lss, [.v 11, .v 10], none⟩]
noncomputable abbrev r66_16 : List RO := [Ya 75 0, ⟨.l 76, .calls .fn, [(.con (.fn (.func 79) [] [])), .l 75, (.con (.str [44]))], none⟩]
noncomputable abbrev r66_17 : List (RO × Bool) := [(Yh 77 2 5, true), (Yd 78 77, true), (Ya 79 0, true), (Yt 80 23 79, true), (⟨.l 81, .bsl 3, [.l 80], none⟩, true)]
noncomputable abbrev r66_18 : List RO := [⟨.l 82, .app 3 40 24, [.l 78, .l 81], none⟩, Yh 83 2 5, Yk 1 83 82]
noncomputable abbrev r66_19 : List RO := [Yw 84 .add 11 1, Yb 11 84]
noncomputable abbrev r66_20 : List RO := [Ya 85 0, ⟨.l 86, .calls .fn, [(.con (.fn (.func 79) [] [])), .l 85, (.con (.str [41]))], none⟩]
noncomputable abbrev r66_21 : List RO := [Yf 87 3 5, Yj 3 1 87]
noncomputable abbrev r66_22 : List RO := [Ya 88 0, ⟨.l 89, .calls .fn, [(.con (.fn (.func 79) [] [])), .l 88, (.con (.str [40]))], none⟩]
noncomputable abbrev r66_23 : List RO := [Ya 90 0, Yt 91 23 90, ⟨.v 6, (.newb [(.int .i64 0), (.int .i64 0), (.lit (.slice none 0 0))]), [], none⟩, Yj 3 6 91]
noncomputable abbrev r66_24 : List RO := [Ya 92 0, ⟨.l 93, .calls .fn, [(.con (.fn (.func 79) [] [])), .l 92, (.con (.str [41]))], none⟩]
noncomputable abbrev r66_25 : List RO := [Yf 94 3 6, Yj 3 1 94]
theorem pe66 {n m : Nat} : (E66 n m).M = M := rfl
theorem ie66 {n m : Nat} {hp : Hp} {a0 : D} : St.init (E66 n m) [a0] hp = ⟨[a0, .u0, .u0, .u0, .u0, .u0, .u0, .u0, .u0, .u0, .u0, .u0, .u0], [], hp⟩ := rfl
noncomputable def c66 : RC := (.seq (.reg r66_0) (.seq (.seq (.reg r66_1) (.cond (.v 7) (.seq (.reg r66_2) (.seq (.reg r66_3) (.seq (.reg r66_4) .ret))) .skip)) (.seq (.seq (.reg r66_5) (.seq (.reg r66_6) (.cond (.v 8) (.seq (.reg r66_7) .ret) .skip))) (.seq (.seq (.reg r66_8) (.seq (.reg r66_9) (.cond (.v 9) (.seq (.reg r66_10) (.seq (.reg r66_11) (.seq (.regD r66_12 r66_13) (.seq (.seq (.reg r66_14) (.block 0 (.loop (.seq (.reg r66_15) (.seq (.cond (.v 12) .skip (.exit 0)) (.seq (.block 1 (.seq (.reg r66_16) (.regD r66_17 r66_18))) (.reg r66_19))))))) (.seq (.reg r66_20) (.seq (.reg r66_21) .ret)))))) .skip))) (.seq (.reg r66_22) (.seq (.reg r66_23) (.seq (.reg r66_24) (.seq (.reg r66_25) .ret))))))))
noncomputable def q66 : List RR := [(.cell (.v 1) true 3)]
theorem z66 {n m : Nat} : zAe (E66 n m) (Tryz.f66.body.getD .skip) = some c66 := by kernel_rfl
theorem k66 : FnOk M 66 1 Tryz.f66 E66 c66 q66 := fnOk Tryz.func66
noncomputable def E79 (n m : Nat) : Cfg := ⟨M, [0, 1, 8], 11, n, m, []⟩
noncomputable abbrev r79_0 : List RO := [Ya 4 0, Ya 5 1, ⟨.l 6, .bsl 1, [.l 5], none⟩, ⟨.l 7, .calls .fn, [(.con (.fn (.func 65) [] [])), .l 4, .con (.int .i64 4), .l 6], none⟩, Yz 2 .lss 7 0]
noncomputable abbrev r79_1 : List RO := [Ya 9 0, Yt 10 24 9]
theorem pe79 {n m : Nat} : (E79 n m).M = M := rfl
theorem ie79 {n m : Nat} {hp : Hp} {a0 a1 : D} : St.init (E79 n m) [a0, a1] hp = ⟨[a0, a1, .u0], [], hp⟩ := rfl
noncomputable def c79 : RC := (.seq (.reg r79_0) (.cond (.v 2) (.reg r79_1) .skip))
noncomputable def q79 : List RR := []
theorem z79 {n m : Nat} : zAe (E79 n m) (Tryz.f79.body.getD .skip) = some c79 := by kernel_rfl
theorem k79 : FnOk M 79 2 Tryz.f79 E79 c79 q79 := fnOk Tryz.func79
noncomputable def E8 (n m : Nat) : Cfg := ⟨M, [0, 2, 3, 4, 5, 6, 7, 8, 16, 33, 38], 41, n, m, []⟩
noncomputable abbrev r8_0 : List RO := [⟨.v 1, (.newb [(.int .i64 0), (.int .i64 0), (.lit (.slice none 0 0))]), [], none⟩, ⟨.v 2, (.newb [(.int .i64 0)]), [], none⟩, ⟨.v 3, (.newb [(.int .i64 0)]), [], none⟩]
noncomputable abbrev r8_1 : List RO := [Ya 10 0, Yt 11 21 10, Yc 9 11, Ym 12 0 9, Ym 13 1 9, Ym 14 2 9, Yb 4 12, Yb 5 13, Yb 6 14]
noncomputable abbrev r8_2 : List RO := [Ya 15 5, Yz 8 .neq 15 0]
noncomputable abbrev r8_3 : List RO := [⟨.l 17, (.bld [(.int .i64 0), (.int .i64 0), (.lit (.slice none 0 0))] []), [], none⟩, Ya 18 5, Ya 19 6, Yj 3 1 17, Yj 1 2 18, Yj 1 3 19]
noncomputable abbrev r8_4 : List RO := [Ya 21 4, Ya 22 0, ⟨.l 23, .lenS, [.l 22], none⟩, ⟨.l 24, (.bld [(.lit (.slice none 0 0)), (.int .i64 0)] [(0, 1), (1, 1)]), [.l 21, .l 23], none⟩, ⟨.l 25, .box, [.l 24], none⟩, Yb 7 25]
noncomputable abbrev r8_5 : List RO := [Ya 26 7, Yt 27 23 26, Yj 3 1 27]
noncomputable abbrev r8_6 : List RO := [Ya 28 7, Yn 29 28, Yi 30 0 29, Yd 31 30, ⟨.l 32, .lenL, [.l 31], none⟩, Yz 9 .gtr 32 0]
noncomputable abbrev r8_7 : List RO := [Ya 34 7, Yt 35 24 34]
noncomputable abbrev r8_8 : List RO := [Yf 36 3 1, ⟨.l 37, .calls .fn, [(.con (.fn (.func 25) [] [])), .l 36, .con (.int .i64 60)], none⟩, Yz 10 .gtr 37 60]
noncomputable abbrev r8_9 : List RO := [⟨.l 39, (.bld [(.int .i64 0), (.int .i64 0), (.lit (.slice none 0 0))] []), [], none⟩, Yj 3 1 39, ⟨.none, .st 1, [.v 2, .con (.int .i64 7)], none⟩, ⟨.none, .st 1, [.v 3, .con (.int .i64 0)], none⟩]
noncomputable abbrev r8_10 : List RO := [Yf 40 3 1, Yj 3 1 40, ⟨.none, .st 1, [.v 2, .con (.int .i64 0)], none⟩, ⟨.none, .st 1, [.v 3, .con (.int .i64 0)], none⟩]
theorem pe8 {n m : Nat} : (E8 n m).M = M := rfl
theorem ie8 {n m : Nat} {hp : Hp} {a0 : D} : St.init (E8 n m) [a0] hp = ⟨[a0, .u0, .u0, .u0, .u0, .u0, .u0, .u0, .u0, .u0, .u0], [], hp⟩ := rfl
noncomputable def c8 : RC := (.seq (.reg r8_0) (.seq (.reg r8_1) (.seq (.seq (.reg r8_2) (.cond (.v 8) (.seq (.reg r8_3) .ret) .skip)) (.seq .bad (.seq (.reg r8_4) (.seq (.reg r8_5) (.seq (.seq (.reg r8_6) (.cond (.v 9) (.reg r8_7) .skip)) (.seq (.seq (.reg r8_8) (.cond (.v 10) (.seq (.reg r8_9) .ret) .skip)) (.seq (.reg r8_10) .ret)))))))))
noncomputable def q8 : List RR := [(.cell (.v 1) true 3), (.cell (.v 2) false 1), (.cell (.v 3) false 1)]
theorem k8 : FnOk M 8 1 Tryz.f8 E8 c8 q8 := fnOk Tryz.func8
noncomputable def E22 (n m : Nat) : Cfg := ⟨M, [0, 1, 2, 3, 4, 7], 15, n, m, []⟩
noncomputable abbrev r22_0 : List (RO × Bool) := [(⟨.l 10, (.bld [(.int .i64 0), (.int .i64 0), (.lit (.slice none 0 0))] []), [], none⟩, true), (Yh 11 0 4, true), (Yd 12 11, true), (Yh 13 1 4, true), (Yd 14 13, true), (Yj 3 0 10, true), (Yj 1 1 12, true)]
noncomputable abbrev r22_1 : List RO := [Yj 1 2 14]
theorem ie22 {n m : Nat} {hp : Hp} {a0 a1 a2 : D} : St.init (E22 n m) [a0, a1, a2] hp = ⟨[a0, a1, a2, .u0, .u0, .u0], [], hp⟩ := rfl
noncomputable def E4 (n m : Nat) : Cfg := ⟨M, [0, 1, 2, 4, 5, 7, 8, 9], 64, n, m, []⟩
noncomputable def C4 : Cfg := E4 0 0
noncomputable abbrev r4_0 : List RO := [⟨.v 0, .mv, [.con (.bool false)], none⟩]
noncomputable abbrev r4_1 : List RO := [⟨.l 11, .calls .fn, [(.con (.fn (.func 8) [] [])), (.con (.str [107, 109, 32, 43, 32, 99, 121, 99, 108, 101, 115, 32, 42, 32, 109, 97, 120, 40, 108, 111, 97, 100, 32, 45, 32, 50, 48, 48, 44, 32, 48, 41, 32, 47, 32, 49, 48, 48]))], none⟩, Yc 10 11, Ym 12 0 10, Ym 13 1 10, Ym 14 2 10, ⟨.v 1, (.newb [(.int .i64 0), (.int .i64 0), (.lit (.slice none 0 0))]), [], none⟩, Yj 3 1 12, Yb 2 13, Yc 3 14]
noncomputable abbrev r4_2 : List RO := [⟨.l 16, .calls .fn, [(.con (.fn (.func 8) [] [])), (.con (.str [105, 102, 40, 108, 111, 97, 100, 32, 45, 32, 49, 48, 44, 32, 107, 109, 44, 32, 48, 41]))], none⟩, Yc 15 16, Ym 17 0 15, Ym 18 1 15, Ym 19 2 15, ⟨.v 3, (.newb [(.int .i64 0), (.int .i64 0), (.lit (.slice none 0 0))]), [], none⟩, Yj 3 3 17, Yb 4 18, Yc 6 19]
noncomputable abbrev r4_3 : List RO := [Yf 21 3 1, Yt 22 6 21, Yc 20 22, Ym 23 0 20, Ym 24 1 20, Yb 5 23, Yb 6 24]
noncomputable abbrev r4_4 : List RO := [Ya 25 2, Yv 26 .eql 25 0, Yc 27 26, Za 28 4 27 true, ⟨.l 29, .bin .eql, [.l 28, .con (.int .i64 0)], (some (.l 27, true))⟩, Yo 30 27 29, Yc 31 30, Za 32 6 31 true, ⟨.l 33, .bin .eql, [.l 32, .con (.int .i64 0)], (some (.l 31, true))⟩, Yo 34 31 33, Yc 35 34, Za 36 5 35 true, ⟨.l 37, .bin .eql, [.l 36, (.con (.str [107, 109, 32, 43, 32, 99, 121, 99, 108, 101, 115, 32, 42, 32, 109, 97, 120, 40, 108, 111, 97, 100, 32, 45, 32, 50, 48, 48, 44, 32, 48, 41, 32, 47, 32, 49, 48, 48]))], (some (.l 35, true))⟩, Yo 38 35 37, Yc 39 38, Zf 40 3 1 39 true, ⟨.l 41, .calls .fn, [(.con (.fn (.func 13) [] [])), .l 40, .con (.int .i64 1000), .con (.int .i64 3), .con (.int .i64 500)], (some (.l 39, true))⟩, ⟨.l 42, .bin .eql, [.l 41, .con (.int .i64 1009)], (some (.l 39, true))⟩, Yo 43 39 42, Yb 7 43]
noncomputable abbrev r4_5 : List (RO × Bool) := [(Ya 44 7, true), (Yc 45 44, true), (Zf 46 3 1 45 true, true), (⟨.l 47, .calls .fn, [(.con (.fn (.func 17) [] [])), .con (.int .i64 1000), .con (.int .i64 1000)], (some (.l 45, true))⟩, true), (⟨.l 48, .calls .fn, [(.con (.fn (.func 17) [] [])), .con (.int .i64 3), .con (.int .i64 4)], (some (.l 45, true))⟩, true), (⟨.l 49, .calls .fn, [(.con (.fn (.func 17) [] [])), .con (.int .i64 150), .con (.int .i64 500)], (some (.l 45, true))⟩, true), (⟨.l 50, (.bld [(.int .i64 0), (.int .i64 0), (.int .i64 0), (.int .i64 0), (.int .i64 0), (.int .i64 0)] [(0, 2), (2, 2), (4, 2)]), [.l 47, .l 48, .l 49], (some (.l 45, true))⟩, true), (⟨.l 51, .calls .fn, [(.con (.fn (.func 15) [] [])), .l 46, .l 50], (some (.l 45, true))⟩, false), (⟨.l 52, .calls .fn, [(.con (.fn (.func 17) [] [])), .con (.int .i64 1000), .con (.int .i64 1012)], (some (.l 45, true))⟩, false), (⟨.l 53, (.eqA false [.int, .int]), [.l 51, .l 52], (some (.l 45, true))⟩, true), (Yo 54 45 53, true), (Yc 55 54, true), (Zf 56 3 3 55 true, true), (⟨.l 57, .calls .fn, [(.con (.fn (.func 17) [] [])), .con (.int .i64 7), .con (.int .i64 7)], (some (.l 55, true))⟩, true), (⟨.l 58, .calls .fn, [(.con (.fn (.func 17) [] [])), .con (.int .i64 5), .con (.int .i64 20)], (some (.l 55, true))⟩, true), (⟨.l 59, (.bld [(.int .i64 0), (.int .i64 0), (.int .i64 0), (.int .i64 0), (.int .i64 0), (.int .i64 0)] [(0, 2), (4, 2)]), [.l 57, .l 58], (some (.l 55, true))⟩, true)]
noncomputable abbrev r4_6 : List RO := [⟨.l 60, .calls .fn, [(.con (.fn (.func 15) [] [])), .l 56, .l 59], (some (.l 55, true))⟩, ⟨.l 61, .calls .fn, [(.con (.fn (.func 17) [] [])), .con (.int .i64 0), .con (.int .i64 7)], (some (.l 55, true))⟩, ⟨.l 62, (.eqA false [.int, .int]), [.l 60, .l 61], (some (.l 55, true))⟩, Yo 63 55 62, Yb 0 63]
theorem P4 : C4.M = M := rfl
theorem i4 : St.init C4 [] ⟨[], []⟩ = ⟨[.u0, .u0, .u0, .u0, .u0, .u0, .u0, .u0], [], ⟨[], []⟩⟩ := rfl
noncomputable def c4 : RC := (.seq (.reg r4_0) (.seq (.reg r4_1) (.seq (.reg r4_2) (.seq (.reg r4_3) (.seq (.reg r4_4) (.seq (.regD r4_5 r4_6) .ret))))))
noncomputable def q4 : List RR := [(.slot (.v 0))]
theorem z4 {n m : Nat} : zAe (E4 n m) (Tryz.f4.body.getD .skip) = some c4 := by kernel_rfl
theorem k4 : FnOk M 4 0 Tryz.f4 E4 c4 q4 := fnOk Tryz.func4
noncomputable def E6 (n m : Nat) : Cfg := ⟨M, [0, 1, 2, 3, 6], 9, n, m, []⟩
noncomputable def C6 : Cfg := E6 0 0
noncomputable abbrev r6_0 : List RO := [Yl 1 0, ⟨.v 2, .mv, [(.con (.str []))], none⟩, Ys 3 0]
noncomputable abbrev r6_1 : List RO := [Yf 4 3 1, Yt 5 10 4, ⟨.v 4, .un .not, [.l 5], none⟩]
noncomputable abbrev r6_2 : List RO := [⟨.v 2, .mv, [(.con (.str []))], none⟩, Ys 3 1]
noncomputable abbrev r6_3 : List RO := [Yf 7 3 1, ⟨.l 8, .calls .fn, [(.con (.fn (.func 19) [] [])), .l 7, .con (.int .i64 0)], none⟩, Yb 2 8, Ys 3 0]
theorem P6 : C6.M = M := rfl
theorem i6 {a0 : D} : St.init C6 [a0] ⟨[], []⟩ = ⟨[a0, .u0, .u0, .u0, .u0], [], ⟨[], []⟩⟩ := rfl
noncomputable def c6 : RC := (.seq (.reg r6_0) (.seq (.seq (.reg r6_1) (.cond (.v 4) (.seq (.reg r6_2) .ret) .skip)) (.seq (.reg r6_3) .ret)))
noncomputable def q6 : List RR := [(.slot (.v 2)), (.slot (.v 3))]
theorem k6 : FnOk M 6 1 Tryz.f6 E6 c6 q6 := fnOk Tryz.func6
noncomputable def E19 (n m : Nat) : Cfg := ⟨M, [0, 1, 2, 4, 5, 6, 7, 9, 37, 42, 44, 46, 48, 64, 80, 107], 112, n, m, []⟩
noncomputable def C19 : Cfg := E19 0 0
noncomputable abbrev r19_0 : List RO := [Yl 2 0, ⟨.v 3, .mv, [(.con (.str []))], none⟩]
noncomputable abbrev r19_1 : List RO := [⟨.v 4, .mv, [(.con (.str []))], none⟩]
noncomputable abbrev r19_2 : List RO := [Yh 8 0 2, ⟨.v 7, .ld false 1, [.l 8], none⟩]
noncomputable abbrev r19_3 : List RO := [Yw 38 .eql 7 1, Yb 8 38]
noncomputable abbrev r19_4 : List RO := [Yh 39 1 2, Yd 40 39, Yt 41 38 40, Yb 4 41]
noncomputable abbrev r19_5 : List RO := [Yw 43 .eql 7 2, Yb 9 43]
noncomputable abbrev r19_6 : List RO := [⟨.v 4, .mv, [(.con (.str [107, 109]))], none⟩]
noncomputable abbrev r19_7 : List RO := [Yw 45 .eql 7 3, Yb 10 45]
noncomputable abbrev r19_8 : List RO := [⟨.v 4, .mv, [(.con (.str [99, 121, 99, 108, 101, 115]))], none⟩]
noncomputable abbrev r19_9 : List RO := [Yw 47 .eql 7 4, Yb 11 47]
noncomputable abbrev r19_10 : List RO := [⟨.v 4, .mv, [(.con (.str [108, 111, 97, 100]))], none⟩]
noncomputable abbrev r19_11 : List RO := [Yw 49 .eql 7 9, Yb 12 49]
noncomputable abbrev r19_12 : List (RO × Bool) := [(Yh 50 2 2, true), (Yd 51 50, true), (⟨.l 52, .ixaS 3, [.l 51, .con (.int .i64 0)], none⟩, true), (Yg 53 3 52, true), (⟨.l 54, .calls .fn, [(.con (.fn (.func 19) [] [])), .l 53, .con (.int .i64 0)], none⟩, true), (⟨.l 55, .bin .add, [(.con (.str [109, 105, 110, 40])), .l 54], none⟩, true), (⟨.l 56, .bin .add, [.l 55, (.con (.str [44, 32]))], none⟩, true), (Yh 57 2 2, true), (Yd 58 57, true), (⟨.l 59, .ixaS 3, [.l 58, .con (.int .i64 1)], none⟩, true), (Yg 60 3 59, true), (⟨.l 61, .calls .fn, [(.con (.fn (.func 19) [] [])), .l 60, .con (.int .i64 0)], none⟩, false)]
noncomputable abbrev r19_13 : List RO := [Yx 62 .add 56 61, ⟨.l 63, .bin .add, [.l 62, (.con (.str [41]))], none⟩, Yb 4 63]
noncomputable abbrev r19_14 : List RO := [Yw 65 .eql 7 10, Yb 13 65]
noncomputable abbrev r19_15 : List (RO × Bool) := [(Yh 66 2 2, true), (Yd 67 66, true), (⟨.l 68, .ixaS 3, [.l 67, .con (.int .i64 0)], none⟩, true), (Yg 69 3 68, true), (⟨.l 70, .calls .fn, [(.con (.fn (.func 19) [] [])), .l 69, .con (.int .i64 0)], none⟩, true), (⟨.l 71, .bin .add, [(.con (.str [109, 97, 120, 40])), .l 70], none⟩, true), (⟨.l 72, .bin .add, [.l 71, (.con (.str [44, 32]))], none⟩, true), (Yh 73 2 2, true), (Yd 74 73, true), (⟨.l 75, .ixaS 3, [.l 74, .con (.int .i64 1)], none⟩, true), (Yg 76 3 75, true), (⟨.l 77, .calls .fn, [(.con (.fn (.func 19) [] [])), .l 76, .con (.int .i64 0)], none⟩, false)]
noncomputable abbrev r19_16 : List RO := [Yx 78 .add 72 77, ⟨.l 79, .bin .add, [.l 78, (.con (.str [41]))], none⟩, Yb 4 79]
noncomputable abbrev r19_17 : List RO := [Yw 81 .eql 7 11, Yb 14 81]
noncomputable abbrev r19_18 : List (RO × Bool) := [(Yh 82 2 2, true), (Yd 83 82, true), (⟨.l 84, .ixaS 3, [.l 83, .con (.int .i64 0)], none⟩, true), (Yg 85 3 84, true), (⟨.l 86, .calls .fn, [(.con (.fn (.func 19) [] [])), .l 85, .con (.int .i64 0)], none⟩, true), (⟨.l 87, .bin .add, [(.con (.str [105, 102, 40])), .l 86], none⟩, true), (⟨.l 88, .bin .add, [.l 87, (.con (.str [44, 32]))], none⟩, true), (Yh 89 2 2, true), (Yd 90 89, true), (⟨.l 91, .ixaS 3, [.l 90, .con (.int .i64 1)], none⟩, true), (Yg 92 3 91, true), (⟨.l 93, .calls .fn, [(.con (.fn (.func 19) [] [])), .l 92, .con (.int .i64 0)], none⟩, true), (Yx 94 .add 88 93, true), (⟨.l 95, .bin .add, [.l 94, (.con (.str [44, 32]))], none⟩, true), (Yh 96 2 2, true), (Yd 97 96, true), (⟨.l 98, .ixaS 3, [.l 97, .con (.int .i64 2)], none⟩, true), (Yg 99 3 98, true), (⟨.l 100, .calls .fn, [(.con (.fn (.func 19) [] [])), .l 99, .con (.int .i64 0)], none⟩, false)]
noncomputable abbrev r19_19 : List RO := [Yx 101 .add 95 100, ⟨.l 102, .bin .add, [.l 101, (.con (.str [41]))], none⟩, Yb 4 102]
noncomputable abbrev r19_20 : List RO := [Yh 10 0 2, Yd 11 10, Yv 12 .sub 11 5, Yb 5 12]
noncomputable abbrev r19_21 : List RO := [Yh 13 0 2, Yd 14 13, Yt 15 39 14, Yb 6 15]
noncomputable abbrev r19_22 : List (RO × Bool) := [(Yh 16 2 2, true), (Yd 17 16, true), (⟨.l 18, .ixaS 3, [.l 17, .con (.int .i64 0)], none⟩, true), (Yg 19 3 18, true), (Ya 20 6, true), (Yu 21 19 19 20, true), (⟨.l 22, .bin .add, [.l 21, (.con (.str [32]))], none⟩, true), (Ya 23 5, true), (Ya 24 5, true), (Yv 25 .add 24 1, true), (⟨.l 26, .slcS true true, [(.con (.str [43, 45, 42, 47])), .l 23, .l 25], none⟩, true), (Yx 27 .add 22 26, true), (⟨.l 28, .bin .add, [.l 27, (.con (.str [32]))], none⟩, true), (Yh 29 2 2, true), (Yd 30 29, true), (⟨.l 31, .ixaS 3, [.l 30, .con (.int .i64 1)], none⟩, true), (Yg 32 3 31, true), (Ya 33 6, true), (Yv 34 .add 33 1, true), (Yu 35 19 32 34, false)]
noncomputable abbrev r19_23 : List RO := [Yx 36 .add 28 35, Yb 4 36]
noncomputable abbrev r19_24 : List RO := [Yh 103 0 2, Yd 104 103, Yt 105 39 104, Ya 106 1, Yy 15 .lss 105 106]
noncomputable abbrev r19_25 : List RO := [Ya 108 4, ⟨.l 109, .bin .add, [(.con (.str [40])), .l 108], none⟩, ⟨.l 110, .bin .add, [.l 109, (.con (.str [41]))], none⟩, Yb 4 110]
noncomputable abbrev r19_26 : List RO := [Ya 111 4, Yb 3 111]
theorem P19 : C19.M = M := rfl
theorem i19 {a0 a1 : D} : St.init C19 [a0, a1] ⟨[], []⟩ = ⟨[a0, a1, .u0, .u0, .u0, .u0, .u0, .u0, .u0, .u0, .u0, .u0, .u0, .u0, .u0, .u0], [], ⟨[], []⟩⟩ := rfl
noncomputable def c19 : RC := (.seq (.reg r19_0) (.seq (.reg r19_1) (.seq (.seq (.reg r19_2) (.block 0 (.seq (.reg r19_3) (.cond (.v 8) (.reg r19_4) (.seq (.reg r19_5) (.cond (.v 9) (.reg r19_6) (.seq (.reg r19_7) (.cond (.v 10) (.reg r19_8) (.seq (.reg r19_9) (.cond (.v 11) (.reg r19_10) (.seq (.reg r19_11) (.cond (.v 12) (.regD r19_12 r19_13) (.seq (.reg r19_14) (.cond (.v 13) (.regD r19_15 r19_16) (.seq (.reg r19_17) (.cond (.v 14) (.regD r19_18 r19_19) (.seq (.reg r19_20) (.seq (.reg r19_21) (.regD r19_22 r19_23))))))))))))))))))) (.seq (.seq (.reg r19_24) (.cond (.v 15) (.reg r19_25) .skip)) (.seq (.reg r19_26) .ret)))))
noncomputable def q19 : List RR := [(.slot (.v 3))]
theorem k19 : FnOk M 19 2 Tryz.f19 E19 c19 q19 := fnOk Tryz.func19
noncomputable def E39 (n m : Nat) : Cfg := ⟨M, [0, 2, 3, 4, 7], 10, n, m, []⟩
noncomputable def C39 : Cfg := E39 0 0
noncomputable abbrev r39_0 : List RO := [Ys 1 0]
noncomputable abbrev r39_1 : List RO := [⟨.v 2, .mv, [.v 0], none⟩]
noncomputable abbrev r39_2 : List RO := [Yw 5 .eql 2 5, Yb 3 5]
noncomputable abbrev r39_3 : List RO := [Yw 6 .eql 2 6, Yb 3 6]
noncomputable abbrev r39_4 : List RO := [Ys 1 0]
noncomputable abbrev r39_5 : List RO := [Yw 8 .eql 2 7, Yb 4 8]
noncomputable abbrev r39_6 : List RO := [Yw 9 .eql 2 8, Yb 4 9]
noncomputable abbrev r39_7 : List RO := [Ys 1 1]
noncomputable abbrev r39_8 : List RO := [Ys 1 2]
theorem P39 : C39.M = M := rfl
theorem i39 {a0 : D} : St.init C39 [a0] ⟨[], []⟩ = ⟨[a0, .u0, .u0, .u0, .u0], [], ⟨[], []⟩⟩ := rfl
noncomputable def c39 : RC := (.seq (.reg r39_0) (.seq (.seq (.reg r39_1) (.block 0 (.seq (.seq (.reg r39_2) (.cond (.v 3) .skip (.reg r39_3))) (.cond (.v 3) (.seq (.reg r39_4) .ret) (.seq (.seq (.reg r39_5) (.cond (.v 4) .skip (.reg r39_6))) (.cond (.v 4) (.seq (.reg r39_7) .ret) .skip)))))) (.seq (.reg r39_8) .ret)))
noncomputable def q39 : List RR := [(.slot (.v 1))]
theorem k39 : FnOk M 39 1 Tryz.f39 E39 c39 q39 := fnOk Tryz.func39
end Go.Proofs.YtkjnhkoipgdfeaaGreatDoor
end
section
set_option maxRecDepth 100000
namespace Go.Proofs.YtkjnhkoipgdfeaaGreatDoor
open Go GoV
noncomputable def E77 (n m : Nat) : Cfg := ⟨M, [0, 1, 4], 17, n, m, []⟩
noncomputable abbrev r77_0 : List RO := [⟨.v 2, .mv, [(.con (.lit .nilIface))], none⟩]
noncomputable abbrev r77_1 : List RO := [Ya 5 0, Yt 6 88 5]
noncomputable abbrev r77_2 : List RO := [Ya 7 0, Ya 8 0, Yn 9 8, Yi 10 1 9, Yd 11 10, Ya 12 1, ⟨.l 13, .bsl 1, [.l 12], none⟩, ⟨.l 14, .app 1 1 5, [.l 11, .l 13], none⟩, Yn 15 7, Yi 16 1 15, Yk 1 16 14]
noncomputable abbrev r77_3 : List RO := [⟨.v 2, .mv, [(.con (.lit .nilIface))], none⟩]
theorem pe77 {n m : Nat} : (E77 n m).M = M := rfl
theorem ie77 {n m : Nat} {hp : Hp} {a0 a1 : D} : St.init (E77 n m) [a0, a1] hp = ⟨[a0, a1, .u0], [], hp⟩ := rfl
noncomputable def c77 : RC := (.seq (.reg r77_0) (.seq (.reg r77_1) (.seq (.reg r77_2) (.seq (.reg r77_3) .ret))))
noncomputable def q77 : List RR := [(.slot (.v 2))]
theorem k77 : FnOk M 77 2 Tryz.f77 E77 c77 q77 := fnOk Tryz.func77
end Go.Proofs.YtkjnhkoipgdfeaaGreatDoor
end