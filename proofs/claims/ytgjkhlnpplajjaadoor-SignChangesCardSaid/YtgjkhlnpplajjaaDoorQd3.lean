/- Own texts, merged by a program: the engine that walks the code, and what the functions that the law reaches compute. -/
import Derived.Test.YtgjkhlnpplajjaaDoorQd2
import Derived.RangeFuncLeaves
import Derived.RangeFuncIn
import Derived.RangeFuncRecord
import Derived.ChangeSame
import Derived.ChangeShapes
import Derived.RowKit
import Derived.Deep.Slices
import Derived.OpenShut
import Derived.Carry
import Derived.Shelf.Vars
import Derived.Shelf.Strings.Builder1
import Derived.Shelf.Strings.Trim
import Derived.Shelf.Small.Utf8
import Derived.Shelf.Small.Strs
import Derived.Shelf.Strings.BuilderF
import Derived.Shelf.Strings.BuilderK
import Derived.Shelf.Strconv.Itoa0
import Derived.Shelf.Strconv.Itoa1
import Derived.Shelf.LaysM
import Derived.Shelf.Strconv.Itoa2
import Derived.Shelf.Strconv.Itoa3
import Derived.Shelf.Strings.Search1
import Derived.Shelf.Unicode.Decode
import Derived.Shelf.Strings.Runes
import Derived.Shelf.Strings.AsciiSet
import Derived.Shelf.Bits.Mul64
import Derived.Shelf.Unicode.DecodeSlow
import Derived.Shelf.Unicode.DecodeAny
import Derived.Shelf.Unicode.DecodeLast
import Derived.Shelf.Strings.BuilderCap
import Derived.Test.YtgjkhlnpplajjaaDoorProg
import Derived.KernelRfl
import Derived.Lib.ItoaNum
import Derived.Laws.Bits64
import Derived.Laws.Bits64b
section
set_option linter.unusedSimpArgs false
set_option linter.unusedVariables false
namespace GoV
open Go
def noCells : Obj → Bool
  | .cells .. => false
  | _ => true
structure Turn (w w' : World) (D : Nat) : Prop where
  os : w'.os = w.os
  tape : w'.tape = w.tape
  output : w'.output = w.output
  size : w'.heap.size = w.heap.size
  block : ∀ b, b ≠ D → w'.heap[b]? = w.heap[b]?
  cell : ∀ o, w'.cell? ⟨D, o, none⟩ = w.cell? ⟨D, o, none⟩
theorem cell_noCells {w : World} {D : Nat} {o : Obj} (h : w.heap[D]? = some o) (ho : noCells o = true) (i : Nat) : w.cell? ⟨D, i, none⟩ = none := by
  unfold World.cell?
  simp only [h]
  cases o <;> simp_all [noCells]
theorem Turn.put {w : World} {D : Nat} {o o' : Obj} (h : w.heap[D]? = some o) (h1 : noCells o = true) (h2 : noCells o' = true) : Turn w (w.putObj D o') D := by
  have hlt : D < w.heap.size := (Array.getElem?_eq_some_iff.1 h).1
  refine ⟨rfl, rfl, rfl, by simp [World.putObj], fun b hb => World.putObj_heap_other hb, fun i => ?_⟩
  rw [cell_noCells h h1, cell_noCells (World.putObj_heap_same hlt) h2]
theorem Turn.evo {w w' : World} {D : Nat} (h : Turn w w' D) (g : Gh) : Evo w g w' g := by
  refine ⟨fun b o hi => ⟨hi, ?_⟩, fun _ _ h => h, fun _ T h => ⟨T, h, rfl, .inl rfl⟩⟩
  by_cases e : b = D
  · subst e; exact h.cell o
  · exact cell_of_heap (h.block b e)
theorem Turn.heap {w w' : World} {D : Nat} (h : Turn w w' D) {g : Gh} {hp : Hp} (hD : D ∉ g.own) (hh : HeapRel w g hp) : HeapRel w' g hp :=
  hh.other (h.evo g) rfl rfl (fun n hn => h.block n fun e => hD (e ▸ hn)) (Nat.le_of_eq h.size.symm) fun b o ho => .inl ho
theorem Turn.inv {w w' : World} {D : Nat} (h : Turn w w' D) {w0 : World} {B g : Gh} {hp : Hp} (hD : D ∉ g.own) (hlt : w0.heap.size ≤ D) (hi : Inv w0 B hp w g) : Inv w0 B hp w' g := by
  refine ⟨h.heap hD hi.heap, hi.evo.trans (h.evo g), ?_, hi.newr, hi.newt, hi.i1⟩
  exact ⟨h.os.trans hi.keeps.os, h.tape.trans hi.keeps.tape, h.output.trans hi.keeps.output, by rw [h.size]; exact hi.keeps.size,
    fun b hb hn => (h.block b (by omega)).trans (hi.keeps.block b hb hn)⟩
theorem Inv.refl' {w : World} {g : Gh} {hp : Hp} (h : HeapRel w g hp) : Inv w g hp w g :=
  ⟨h, Evo.refl _ _, Keeps.refl _ _, fun _ h => .inl h, fun _ h => .inl h, fun _ _ h => .inl h⟩
theorem Inv.join {w0 w1 w : World} {B B1 G : Gh} {hp1 hp : Hp} (h : Inv w0 B hp1 w1 B1) (k : Inv w1 B1 hp w G) : Inv w0 B hp w G := by
  have hsz := h.keeps.size
  refine ⟨k.heap, h.evo.trans k.evo, h.keeps.trans' k.keeps h.new, fun n hn => ?_, fun n hn => ?_, fun b o ho => ?_⟩
  · rcases k.newr n hn with q | q
    · exact h.newr n q
    · exact .inr (Nat.le_trans hsz q)
  · rcases k.newt n hn with q | q
    · exact h.newt n q
    · exact .inr (Nat.le_trans hsz q)
  · rcases k.i1 b o ho with q | q | q
    · exact h.i1 b o q
    · exact .inr (.inl (Nat.le_trans hsz q))
    · rcases h.newt b q with p | p
      · exact .inr (.inr p)
      · exact .inr (.inl p)
/-! ### Rounds -/

def YOk (M : Mod) (l : Nat) (x : List D) (hp hp' : Hp) : Prop :=
  ∀ w0 B, M.base w0 B → ∀ w G vs, Inv w0 B hp w G → RelL w G x vs → YieldAt Fence.wide 0 M.P l vs.toArray w (CallPost w0 B w G fun d h => d = .bool true ∧ h = hp')
def yldD (l : Nat) : D := .lit (.func (.yield l) #[] #[])
theorem call_yield {M : Mod} {l : Nat} {x : List D} {hp hp' : Hp} {K : D → Hp → Prop} (h : YOk M l x hp hp') (hk : K (.bool true) hp') : CallOp M (yldD l :: x) hp K := by
  intro w0 B w G vs hA hi hr
  obtain ⟨v, av, rfl, h1, h2⟩ := hr.inv
  simp only [yldD, Rel] at h1
  obtain ⟨rfl, _⟩ := h1
  refine .inr ⟨l, av, rfl, ?_⟩
  obtain ⟨fn, tmps, asg, bd, e1, e2⟩ := h w0 B hA.2 w G av hi h2
  refine ⟨fn, tmps, asg, bd, e1, e2.mono fun e w' hp => ?_⟩
  obtain ⟨v, d, hp1, G', rfl, ⟨rfl, rfl⟩, g1, g2, g3⟩ := hp
  exact ⟨v, _, _, _, rfl, hk, g1, g2, g3⟩
def Mod.with (M : Mod) (b : World → Gh → Prop) : Mod := { M with base := b }
theorem pur_with {M : Mod} {f : FuncId} {args : List D} {d : D} (h : Pur M f args d) (b : World → Gh → Prop) : Pur (M.with b) f args d := h
theorem o_yield {M : Mod} {r : List RO} {K : St → Prop} {s : St} {dst : Dst} {l : Nat} {x x' : List D} {hp hp' : Hp} (h : YOk M l x' hp hp') (he : x = x') (hh : s.hp = hp) (hk : opsWp M r K ({ s with hp := hp' }.put dst (.bool true))) :
    OpS M .call (yldD l :: x) dst r K s := by
  subst he; subst hh
  unfold OpS OcWp
  simp only [isCall, if_true]
  exact call_yield h hk
def Iter (M : Mod) (f : FuncId) (caps : List D) (xs : List (List D)) : Prop :=
  Callable M f ∧ ∀ (hpk : Nat → Hp) (w : World) (g : Gh) (l : Nat), M.amb w g.own → HeapRel w g (hpk 0) →
    (∀ k x, xs[k]? = some x → ∀ w' G vs, Inv w g (hpk k) w' G → RelL w' G x vs → YieldAt Fence.wide 0 M.P l vs.toArray w' (CallPost w g w' G fun d h => d = .bool true ∧ h = hpk (k + 1))) →
    ∀ vs, RelL w g caps vs → Calls M.P f (#[.func (.yield l) #[] #[]] ++ vs.toArray) w (Post w g fun _ h => h = hpk xs.length)
theorem resO_same {C C' : Cfg} (h2 : C.pers = C'.pers) (h3 : C.nt = C'.nt) (x : Operand) : resO C x = resO C' x := by
  cases x <;> simp only [resO, h2, h3]
theorem resOs_same {C C' : Cfg} (h2 : C.pers = C'.pers) (h3 : C.nt = C'.nt) : ∀ l : List Operand, resOs C l = resOs C' l
  | [] => rfl
  | x :: l => by simp only [resOs, resO_same h2 h3 x, resOs_same h2 h3 l]
theorem resDst_same {C C' : Cfg} (h2 : C.pers = C'.pers) (h3 : C.nt = C'.nt) (x : Option Nat) : resDst C x = resDst C' x := by
  cases x <;> simp only [resDst, h2, h3]
theorem resDsts_same {C C' : Cfg} (h2 : C.pers = C'.pers) (h3 : C.nt = C'.nt) : ∀ l : List Nat, resDsts C l = resDsts C' l
  | [] => rfl
  | x :: l => by simp only [resDsts, resDst_same h2 h3 (some x), resDsts_same h2 h3 l]
theorem resGuard_same {C C' : Cfg} (h2 : C.pers = C'.pers) (h3 : C.nt = C'.nt) (ops : Array Oper) (x : Option (Nat × Bool)) : resGuard C ops x = resGuard C' ops x := by
  cases x with
  | none => rfl
  | some p =>
    obtain ⟨j, want⟩ := p
    simp only [resGuard]
    split
    · rw [resO_same h2 h3]
    · rfl
theorem resOp1_same {C C' : Cfg} (h1 : C.P = C'.P) (h2 : C.pers = C'.pers) (h3 : C.nt = C'.nt) (ops : Array Oper) (o : Oper) : resOp1 C ops o = resOp1 C' ops o := by
  simp only [resOp1, h1, resOs_same h2 h3, resDst_same h2 h3, resGuard_same h2 h3]
theorem resOps_same {C C' : Cfg} (h1 : C.P = C'.P) (h2 : C.pers = C'.pers) (h3 : C.nt = C'.nt) (ops : Array Oper) : ∀ l : List Nat, resOps C ops l = resOps C' ops l
  | [] => rfl
  | i :: l => by simp only [resOps, resOp1_same h1 h2 h3, resOps_same h1 h2 h3 ops l]
theorem resCode_same {C C' : Cfg} (h1 : C.P = C'.P) (h2 : C.pers = C'.pers) (h3 : C.nt = C'.nt) : ∀ c : Code, resCode C c = resCode C' c
  | .skip => rfl
  | .label _ => rfl
  | .region _ ops false => by simp only [resCode, resOps_same h1 h2 h3]
  | .region _ ops true => by simp only [resCode, resOps_same h1 h2 h3, h1]
  | .seq a b => by simp only [resCode, resCode_same h1 h2 h3 a, resCode_same h1 h2 h3 b]
  | .cond c a b => by simp only [resCode, resO_same h2 h3 c, resCode_same h1 h2 h3 a, resCode_same h1 h2 h3 b]
  | .block id b => by simp only [resCode, resCode_same h1 h2 h3 b]
  | .loop b => by simp only [resCode, resCode_same h1 h2 h3 b]
  | .exit _ => rfl
  | .ret => rfl
  | .rangeFunc g ps a b => by simp only [resCode, resO_same h2 h3 g, resDsts_same h2 h3, resCode_same h1 h2 h3 a, resCode_same h1 h2 h3 b]
  | .goto _ => rfl
  | .scope _ => rfl
  | .refuse _ => rfl
theorem resCode_to {C C' : Cfg} {c : Code} {rc : RC} (h : resCode C' c = some rc) (h1 : C.P = C'.P) (h2 : C.pers = C'.pers) (h3 : C.nt = C'.nt) : resCode C c = some rc := (resCode_same h1 h2 h3 c).trans h
def Cfg.atB (C : Cfg) (b : World → Gh → Prop) (hp : Hp) : Cfg := { M := C.M.with b, pers := C.pers, nt := C.nt, n0 := hp.H.length, m0 := hp.tk.length }
theorem atB_M {C : Cfg} {b : World → Gh → Prop} {hp : Hp} : (C.atB b hp).M = C.M.with b := rfl
theorem iter_of_body {C : Cfg} {f : FuncId} {fn : Func} {c : Code} {rc : RC} (hf : C.P.funcs[f]? = some fn) (hb : fn.body = some c) (hnt : fn.ntmps = C.nt) (hrc : resCode C c = some rc) (hrs : fn.results.toList = [])
    {caps : List D} {xs : List (List D)} (hname : (fn.name == "runtime.NumGoroutine") = false) (hpl : C.pers.take (caps.length + 1) = List.range (caps.length + 1)) (hlt : caps.length + 1 ≤ C.nt)
    (h : ∀ (b : World → Gh → Prop) (hpk : Nat → Hp) (l : Nat), (∀ k x, xs[k]? = some x → YOk (C.M.with b) l x (hpk k) (hpk (k + 1))) →
      SWp (C.atB b (hpk 0)) rc (fun e s => (match e with | .exit _ => False | _ => True) ∧ s.hp = hpk xs.length) (St.init C (yldD l :: caps) (hpk 0))) : Iter C.M f caps xs := by
  refine ⟨⟨fn, hf, by simp [hb], hname⟩, fun hpk w g l hA hH hR vs hvs => ?_⟩
  have e : (#[.func (.yield l) #[] #[]] ++ vs.toArray : Array Value) = (Value.func (.yield l) #[] #[] :: vs).toArray := by simp
  rw [e]
  have hs := h (fun w0 B => w0 = w ∧ B = g) hpk l (fun k x hx w0 B hb => by obtain ⟨rfl, rfl⟩ := hb; exact hR k x hx)
  refine body_spec (C := C.atB (fun w0 B => w0 = w ∧ B = g) (hpk 0)) (fn := fn) (c := c) (rc := rc) (rs := []) hf hb hnt
    (resCode_to hrc rfl rfl rfl) (by rw [hrs]; rfl) (args := yldD l :: caps) (hp := hpk 0) (R := fun _ h => h = hpk xs.length) hpl hlt rfl rfl ?_ rfl ⟨hA, rfl, rfl⟩ hH ?_
  · exact swp_mono hs fun e s hq => ⟨s, weak_refl, hq.1, s, weak_refl, by simpa [rrsWp] using hq.2⟩
  · simp only [RelL]
    exact ⟨_, _, rfl, by simp [yldD, Rel, Value.oneCell'], hvs⟩
/-! ### The top level -/

def mark (D : Nat) : Deferred := { target := .collected D, args := #[] }
def SimT (C : Cfg) (n m : Nat) (w0 : World) (B : Gh) (s : St) (a : Act) (w : World) : Prop :=
  ∃ w1 B1 hp1, ∃ Ds : List Nat, Inv w0 B hp1 w1 B1 ∧ Ds.Nodup ∧ (∀ D ∈ Ds, w1.heap[D]? = some (.deferred (some [])) ∧ D ∉ B1.own ∧ w0.heap.size ≤ D) ∧
    Sim { C with n0 := n, m0 := m, dfs := Ds.map mark } w1 B1 s a w
def LiftT (C : Cfg) (w0 : World) (B : Gh) (Q : Ex → Nat → Nat → St → Prop) : Exit → Act → World → Prop
  | .normal, a, w => ∃ n m s, SimT C n m w0 B s a w ∧ Q .normal n m s
  | .exit i, a, w => ∃ n m s, SimT C n m w0 B s a w ∧ Q (.exit i) n m s
  | .ret, a, w => ∃ n m s, SimT C n m w0 B s a w ∧ Q .ret n m s
  | _, _, _ => False
structure TWp (C : Cfg) (n m : Nat) (rc : RC) (Q : Ex → Nat → Nat → St → Prop) (s : St) : Prop where
  run : ∀ c, resCode C c = some rc → ∀ w0 B, C.M.start w0 B → ∀ a w, SimT C n m w0 B s a w → c.wpIn Fence.wide 0 C.P (LiftT C w0 B Q) a w
section
variable {C : Cfg} {n m : Nat} {Q : Ex → Nat → Nat → St → Prop} {s : St}
theorem start_up (hbs : ∀ w g, C.M.base w g) {w0 : World} {B : Gh} (hA : C.M.start w0 B) {hp1 w1 B1} (hi : Inv w0 B hp1 w1 B1) : C.M.start w1 B1 :=
  ⟨C.M.up _ _ _ _ hA.1 hi.keeps hi.new, hbs _ _⟩
theorem twp_of {rc : RC} (hbs : ∀ w g, C.M.base w g) (h : ∀ ds, SWp { C with n0 := n, m0 := m, dfs := ds } rc (fun e s => Q e n m s) s) : TWp C n m rc Q s := by
  refine ⟨fun c hc w0 B hA a w hs => ?_⟩
  obtain ⟨w1, B1, hp1, Ds, h1, h2, h3, h4⟩ := hs
  have := (h (Ds.map mark)).run c (resCode_to hc rfl rfl rfl) w1 B1 (start_up hbs hA h1) a w h4 none
  refine wpIn_mono this fun e a' w' hl => ?_
  cases e <;> simp only [Lift, LiftT] at hl ⊢ <;> (obtain ⟨s', g1, g2⟩ := hl; exact ⟨n, m, s', ⟨w1, B1, hp1, Ds, h1, h2, h3, g1⟩, g2⟩)
theorem twp_weak {rc : RC} {s1 : St} (h : ∀ ds, Weak { C with n0 := n, m0 := m, dfs := ds } s s1) (g : TWp C n m rc Q s1) : TWp C n m rc Q s :=
  ⟨fun c hc w0 B hA a w hs => g.run c hc w0 B hA a w (by
    obtain ⟨w1, B1, hp1, Ds, h1, h2, h3, h4⟩ := hs
    exact ⟨w1, B1, hp1, Ds, h1, h2, h3, h _ _ _ _ _ h4⟩)⟩
theorem twp_seq {x y : RC} (h : TWp C n m x (fun e n' m' s' => match e with | .normal => TWp C n' m' y Q s' | e => Q e n' m' s') s) : TWp C n m (.seq x y) Q s := by
  refine ⟨fun c hc w0 B hA a w hs => ?_⟩
  have hreg : ∀ id ops d, c = .region id ops d → _ := fun id ops d e => res_region (e ▸ hc)
  cases c <;> (try simp only [resCode] at hc) <;> (try (cases hc; done))
  case seq ca cb =>
    cases ha : resCode C ca with
    | none => simp [ha] at hc
    | some p =>
      cases hb : resCode C cb with
      | none => simp [ha, hb] at hc
      | some q =>
        simp [ha, hb] at hc
        obtain ⟨rfl, rfl⟩ := hc
        refine wpIn_seq (wpIn_mono (h.run ca ha w0 B hA a w hs) fun e a' w' hl => ?_)
        cases e <;> simp only [LiftT, Exit.then] at hl ⊢ <;> try exact hl
        obtain ⟨n', m', s', h1, h2⟩ := hl
        exact h2.run cb hb w0 B hA a' w' h1
  case region _ ops d => exfalso; have := hreg _ _ _ rfl; simp at this
  all_goals exfalso; (repeat' split at hc) <;> simp_all
theorem twp_block {id : Nat} {x : RC} (h : TWp C n m x (fun e n' m' s' => match e with | .exit i => if i = id then Q .normal n' m' s' else Q (.exit i) n' m' s' | e => Q e n' m' s') s) : TWp C n m (.block id x) Q s := by
  refine ⟨fun c hc w0 B hA a w hs => ?_⟩
  have hreg : ∀ id ops d, c = .region id ops d → _ := fun id ops d e => res_region (e ▸ hc)
  cases c <;> (try simp only [resCode] at hc) <;> (try (cases hc; done))
  case block i cb =>
    cases hb : resCode C cb with
    | none => simp [hb] at hc
    | some q =>
      simp [hb] at hc
      obtain ⟨rfl, rfl⟩ := hc
      refine wpIn_block (wpIn_mono (h.run cb hb w0 B hA a w hs) fun e a' w' hl => ?_)
      cases e <;> simp only [LiftT, Exit.inBlock] at hl ⊢ <;> try exact hl
      obtain ⟨n', m', s', h1, h2⟩ := hl
      split at h2
      · rename_i e; rw [if_pos e]; exact ⟨n', m', s', h1, h2⟩
      · rename_i e; rw [if_neg e]; exact ⟨n', m', s', h1, h2⟩
  case region _ ops d => exfalso; have := hreg _ _ _ rfl; simp at this
  all_goals exfalso; (repeat' split at hc) <;> simp_all
def binds : List Dst → List D → St → St
  | p :: ps, d :: ds, s => binds ps ds (s.put p d)
  | _, _, s => s
theorem binds_rel {w : World} {G : Gh} : ∀ (pl : List Nat) (ps : List Dst) (ds : List D) (vs : List Value) (s : St) (a : Act), resDsts C pl = some ps → RelL w G ds vs → ds.length = ps.length →
    (∀ t, Rel w G (s.slot C.pers t) (a.tmps.getD t Go.undef)) → a.tmps.size = C.nt → s.env.length = C.pers.length →
    (∀ t, Rel w G ((binds ps ds s).slot C.pers t) (((pl.zip vs).foldl (fun (tm : Array Value) (p : Nat × Value) => tm.setIfInBounds p.1 p.2) a.tmps).getD t Go.undef)) ∧
      ((pl.zip vs).foldl (fun (tm : Array Value) (p : Nat × Value) => tm.setIfInBounds p.1 p.2) a.tmps).size = C.nt ∧ (binds ps ds s).env.length = C.pers.length ∧ (binds ps ds s).hp = s.hp
  | [], ps, ds, vs, s, a, hr, hv, hl, h1, h2, h3 => by
    simp [resDsts] at hr; subst hr
    simp at hl; subst hl
    exact ⟨h1, h2, h3, rfl⟩
  | t :: pl, ps, ds, vs, s, a, hr, hv, hl, h1, h2, h3 => by
    simp only [resDsts] at hr
    cases hp : resDst C (some t) with
    | none => simp [hp] at hr
    | some p =>
      cases hq : resDsts C pl with
      | none => simp [hp, hq] at hr
      | some qs =>
        simp [hp, hq] at hr; subst hr
        cases ds with
        | nil => simp at hl
        | cons d ds =>
          obtain ⟨v, vs, rfl, hv1, hv2⟩ := hv.inv
          have key := put_rel (a := a) h1 h2 h3 hp hv1
          obtain ⟨g1, g2, g3, g4⟩ := binds_rel pl qs ds vs (s.put p d) (a.put (some t) v) hq hv2 (by simpa using hl) key (by rw [actput_size]; exact h2) (by rw [put_env_len]; exact h3)
          simp only [binds, List.zip_cons_cons, List.foldl_cons]
          exact ⟨g1, g2, g3, by rw [g4, put_hp]⟩
theorem resDsts_length : ∀ (pl : List Nat) (ps : List Dst), resDsts C pl = some ps → ps.length = pl.length
  | [], ps, h => by simp [resDsts] at h; subst h; rfl
  | t :: pl, ps, h => by
    simp only [resDsts] at h
    cases hp : resDst C (some t) with
    | none => simp [hp] at h
    | some p =>
      cases hq : resDsts C pl with
      | none => simp [hp, hq] at h
      | some qs => simp [hp, hq] at h; subst h; simp [resDsts_length pl qs hq]
theorem twp_range {g : Opd} {ps : List Dst} {x y : RC} (hbs : ∀ w g, C.M.base w g) {f : FuncId} {caps : List D} {xs : List (List D)} (hit : Iter C.M f caps xs) (hpk : Nat → Hp)
    (hg : s.get g = .fn (.func f) [] caps) (hlen : ∀ r ∈ xs, r.length = ps.length) (h0 : s.hp = hpk 0)
    (hr : ∀ k r, xs[k]? = some r → SWp { C with n0 := (hpk k).H.length, m0 := (hpk k).tk.length, dfs := [] } x (fun e s' => match e with
      | .normal => s'.hp = hpk k ∧ SWp { C with n0 := (hpk k).H.length, m0 := (hpk k).tk.length, dfs := [] } y (fun e s2 => match e with
        | .normal => ∃ s3, Weak { C with n0 := (hpk k).H.length, m0 := (hpk k).tk.length, dfs := [] } s2 s3 ∧ s3.hp = hpk (k + 1)
        | _ => False) s'
      | _ => False) (binds ps r { s with hp := hpk k }))
    (hd : Q .normal (hpk xs.length).H.length (hpk xs.length).tk.length { s with hp := hpk xs.length }) : TWp C n m (.rangeF g ps x y) Q s := by
  refine ⟨fun c hc w0 B hA a w hs => ?_⟩
  have hreg : ∀ id ops d, c = .region id ops d → _ := fun id ops d e => res_region (e ▸ hc)
  cases c <;> (try simp only [resCode] at hc) <;> (try (cases hc; done))
  case region _ ops d => exfalso; have := hreg _ _ _ rfl; simp at this
  case rangeFunc go pa ca cb =>
    cases ho : resO C go with
    | none => simp [ho] at hc
    | some g' =>
      cases hp : resDsts C pa.toList with
      | none => simp [ho, hp] at hc
      | some ps' =>
        cases ha : resCode C ca with
        | none => simp [ho, hp, ha] at hc
        | some x' =>
          cases hb : resCode C cb with
          | none => simp [ho, hp, ha, hb] at hc
          | some y' =>
            simp [ho, hp, ha, hb] at hc
            obtain ⟨rfl, rfl, rfl, rfl⟩ := hc
            obtain ⟨w1, B1, hp1, Ds, h1, h2, h3, h4⟩ := hs
            have hA1 := start_up hbs hA h1
            obtain ⟨G, gi, gb, g1, g2, g3, g4⟩ := h4
            have hpl : ps'.length = pa.size := by rw [resDsts_length _ _ hp]; simp
            have hv := resO_rel g4 (C := { C with n0 := n, m0 := m, dfs := Ds.map mark }) ((resO_same rfl rfl go).trans ho)
            rw [hg] at hv
            simp only [Rel] at hv
            obtain ⟨xs0, ys, hev, hx0, hys⟩ := hv
            have hx0 := hx0.inv_nil
            subst hx0
            rw [h0] at gi
            refine wpIn_rangeFunc ?_
            intro fn hfn
            obtain ⟨⟨fd, hfd, hfb, hfn'⟩, hspec⟩ := hit
            obtain ⟨rec, hrec⟩ : ∃ rec : LoopState → Option Code → Loop, rec = fun st pe => { state := st, pending := pe, fn, tmps := a.tmps, params := pa, assign := ca, body := cb, defers := w.heap.size } := ⟨_, rfl⟩
            obtain ⟨W1, hW1⟩ : ∃ W1, (w.alloc (.deferred (some []))).alloc (.loop (rec .ready none)) = W1 := ⟨_, rfl⟩
            have hL1 : W1.heap[w.heap.size + 1]? = some (.loop (rec .ready none)) := by
              rw [← hW1]; have := World.alloc_heap_new (w.alloc (.deferred (some []))) (.loop (rec .ready none)); rwa [World.size_alloc] at this
            have hK1 : W1.heap[w.heap.size]? = some (.deferred (some [])) := by
              rw [← hW1]
              rw [heap_alloc_lt _ _ _ (by simp)]
              exact World.alloc_heap_new w _
            have hsz1 : W1.heap.size = w.heap.size + 2 := by rw [← hW1]; simp
            obtain ⟨i1, v1⟩ := gi.alloc (.deferred (some []))
            obtain ⟨i2, v2⟩ := i1.alloc (.loop (rec .ready none))
            rw [hW1] at i2 v2
            have hv12 := v1.trans v2
            have hownG : ∀ b ∈ G.own, b < w.heap.size := gi.heap.own_lt
            have iW := Inv.refl' i2.heap
            have hAW : C.M.amb W1 G.own := C.M.up _ _ _ _ hA1.1 i2.keeps i2.new
            refine ⟨w.heap.size + 1, [mark w.heap.size], W1, { target := .fn (.func f) ys.toArray, args := #[.func (.yield (w.heap.size + 1)) #[] #[]] }, W1, f,
              #[.func (.yield (w.heap.size + 1)) #[] #[]] ++ ys.toArray, W1, ?_, ?_, fun _ _ => trivial, ?_, fun hd => by simp [Fence.wide] at hd, ?_⟩
            · rw [← hW1, hrec]; exact run_enterLoop_outer _ _ _ _ _
            · simp only [resolve, hev, Deferred.ofValue, Sem.run_pure, Sem.run_bind, Result.andThen_ok]
              simp [Act.eval]
            · simp only [invoke, callFunc, Sem.run_bind, run_program, Result.andThen_ok]
              simp [hfd, hfb, hfn', Sem.run_pure, Cfg.P]
            · refine callsIn_wide.2 ?_
              refine (hspec hpk W1 G (w.heap.size + 1) hAW i2.heap ?_ ys (RelL.evo _ hv12 hys)).mono ?_
              · 
                intro k r hk w' G' vs hi hvs
                have hlw : w'.heap[w.heap.size + 1]? = some (.loop (rec .ready none)) := by
                  rw [hi.keeps.block _ (by omega) (fun hm => by have := hownG _ hm; omega)]; exact hL1
                have hvl : vs.toArray.size = pa.size := by
                  have := hvs.length
                  have := hlen r (List.mem_of_getElem? hk)
                  simp; omega
                have hy := run_yield (P := C.M.P) (args := vs.toArray) hlw (by rw [hrec]; exact hvl)
                rw [hrec] at hy
                refine ⟨fn, _, ca, cb, hy, roundIn_of_wpIn hfn ?_⟩
                have hev' : Evo w G w' G' := hv12.trans hi.evo
                have ht : (pa.zip vs.toArray).foldl (fun tmps (x : Tmp × Value) => tmps.setIfInBounds x.1 x.2) a.tmps = (pa.toList.zip vs).foldl (fun (tm : Array Value) (p : Nat × Value) => tm.setIfInBounds p.1 p.2) a.tmps := by
                  rw [← Array.foldl_toList]; simp
                have hb4 := binds_rel (C := C) pa.toList ps' r vs { s with hp := hpk k } a hp hvs (hlen r (List.mem_of_getElem? hk)) (fun t => Rel.evo _ hev' (g4 t)) g1 g3
                obtain ⟨b1, b2, b3, b4⟩ := hb4
                have hsim : Sim { C with n0 := (hpk k).H.length, m0 := (hpk k).tk.length, dfs := [] } w' G' (binds ps' r { s with hp := hpk k })
                    { tmps := (pa.zip vs.toArray).foldl (fun tmps (x : Tmp × Value) => tmps.setIfInBounds x.1 x.2) a.tmps, defers := [] } w' := by
                  refine ⟨G', by rw [b4]; exact Inv.refl' hi.heap, ⟨hi.heap.len.symm, hi.heap.lent.symm⟩, by rw [ht]; exact b2, rfl, b3, fun t => ?_⟩
                  rw [ht]; exact b1 t
                have hAw' : C.M.start w' G' := ⟨C.M.up _ _ _ _ hAW hi.keeps hi.new, hbs _ _⟩
                have hrun := (hr k r hk).run ca (resCode_to ha rfl rfl rfl) w' G' hAw' _ w' hsim (some (w.heap.size + 1))
                refine wpIn_mono hrun fun e a1 wa hl => ?_
                cases e <;> simp only [Lift, Exit.then] at hl ⊢ <;> try exact hl.elim
                case exit => obtain ⟨_, _, q⟩ := hl; exact q
                case ret => obtain ⟨_, _, q⟩ := hl; exact q
                obtain ⟨s', q1, q2, q3⟩ := hl
                obtain ⟨Ga, qi, qb, p1, p2, p3, p4⟩ := q1
                rw [q2] at qi
                have hownG' : ∀ b ∈ G'.own, b ≠ w.heap.size + 1 ∧ b ≠ w.heap.size := fun b hb => by
                  rcases hi.new b hb with h | h
                  · have := hownG b h; omega
                  · omega
                have hownGa : ∀ b ∈ Ga.own, b ≠ w.heap.size + 1 ∧ b ≠ w.heap.size := fun b hb => by
                  rcases qi.new b hb with h | h
                  · exact hownG' b h
                  · have := hi.keeps.size; omega
                have hla : wa.heap[w.heap.size + 1]? = some (.loop (rec .ready none)) := by
                  rw [qi.keeps.block _ (Array.getElem?_eq_some_iff.1 hlw).1 (fun hm => (hownG' _ hm).1 rfl)]; exact hlw
                refine ⟨_, run_beginRound hla (by rw [hrec]), ?_⟩
                have t1 : Turn wa (wa.putObj (w.heap.size + 1) (.loop { rec .ready none with state := .busy })) (w.heap.size + 1) := Turn.put hla rfl rfl
                obtain ⟨W2, hW2⟩ : ∃ W2, wa.putObj (w.heap.size + 1) (.loop { rec .ready none with state := .busy }) = W2 := ⟨_, rfl⟩
                rw [hW2] at t1 ⊢
                have hl2 : W2.heap[w.heap.size + 1]? = some (.loop { rec .ready none with state := .busy }) := by
                  rw [← hW2]; exact World.putObj_heap_same (Array.getElem?_eq_some_iff.1 hla).1
                have hh2 : HeapRel W2 Ga (hpk k) := t1.heap (fun hm => (hownGa _ hm).1 rfl) qi.heap
                have hAa : C.M.start wa Ga := ⟨C.M.up _ _ _ _ hAw'.1 qi.keeps qi.new, hbs _ _⟩
                have kw : Keeps w wa G.own := (((Keeps.alloc w _ _).trans (by rw [← hW1]; exact Keeps.alloc _ _ _)).trans hi.keeps).trans' qi.keeps (fun b hb => (hi.new b hb).imp id (fun h => by omega))
                have hA2 : C.M.start W2 Ga := by
                  refine ⟨C.M.up w G.own _ _ (start_up hbs hA1 gi).1 ⟨t1.os.trans kw.os, t1.tape.trans kw.tape, t1.output.trans kw.output, by rw [t1.size]; exact kw.size, fun b hb hn => (t1.block b (by omega)).trans (kw.block b hb hn)⟩ fun b hb => ?_, hbs _ _⟩
                  rcases qi.new b hb with h | h
                  · exact (hi.new b h).imp id (fun h => by omega)
                  · right; have := hi.keeps.size; omega
                have hsim2 : Sim { C with n0 := (hpk k).H.length, m0 := (hpk k).tk.length, dfs := [] } W2 Ga s' a1 W2 :=
                  ⟨Ga, by rw [q2]; exact Inv.refl' hh2, ⟨hh2.len.symm, hh2.lent.symm⟩, p1, p2, p3, fun t => Rel.evo _ (t1.evo Ga) (p4 t)⟩
                have hrun2 := q3.run cb (resCode_to hb rfl rfl rfl) W2 Ga hA2 _ W2 hsim2 (some (w.heap.size + 1))
                refine wpIn_mono hrun2 fun e a3 w3 hl => ?_
                cases e <;> simp only [Lift, roundPost] at hl ⊢ <;> try exact hl.elim
                case exit => obtain ⟨_, _, q⟩ := hl; exact q.elim
                case ret => obtain ⟨_, _, q⟩ := hl; exact q.elim
                obtain ⟨s2, z1, s3, z2, z3⟩ := hl
                obtain ⟨G3, zi, _⟩ := z2 _ _ _ _ z1
                rw [z3] at zi
                have hl3 : w3.heap[w.heap.size + 1]? = some (.loop { rec .ready none with state := .busy }) := by
                  rw [zi.keeps.block _ (Array.getElem?_eq_some_iff.1 hl2).1 (fun hm => (hownGa _ hm).1 rfl)]; exact hl2
                have hend := run_endRound (P := C.P) none hl3
                refine ⟨_, _, hend, ?_⟩
                have hsz2 : wa.heap.size = W2.heap.size := t1.size.symm
                have hG3 : w.heap.size + 1 ∉ G3.own := fun hm => by
                  rcases zi.new _ hm with h | h
                  · exact (hownGa _ h).1 rfl
                  · have := (Array.getElem?_eq_some_iff.1 hl2).1; omega
                have t3 := Turn.put (o' := .loop { { rec .ready none with state := .busy } with state := if (none : Option Code).isNone then .ready else .done, pending := none }) hl3 rfl rfl
                have hl4 : (w3.putObj (w.heap.size + 1) (.loop { { rec .ready none with state := .busy } with state := if (none : Option Code).isNone then .ready else .done, pending := none })).heap[w.heap.size + 1]? = some (.loop (rec .ready none)) := by
                  rw [World.putObj_heap_same (Array.getElem?_eq_some_iff.1 hl3).1, hrec]; rfl
                obtain ⟨W4, hW4⟩ : ∃ W4, w3.putObj (w.heap.size + 1) (.loop { { rec .ready none with state := .busy } with state := if (none : Option Code).isNone then .ready else .done, pending := none }) = W4 := ⟨_, rfl⟩
                rw [hW4] at t3 hl4 ⊢
                have ev4 : Evo wa Ga W4 G3 := ((t1.evo Ga).trans zi.evo).trans (t3.evo G3)
                have k4 : Keeps wa W4 Ga.own := by
                  refine ⟨?_, ?_, ?_, ?_, fun b hb hn => ?_⟩
                  · exact t3.os.trans (zi.keeps.os.trans t1.os)
                  · exact t3.tape.trans (zi.keeps.tape.trans t1.tape)
                  · exact t3.output.trans (zi.keeps.output.trans t1.output)
                  · rw [t3.size]; have := zi.keeps.size; omega
                  · by_cases e : b = w.heap.size + 1
                    · rw [e, hl4, hla]
                    · rw [t3.block b e, zi.keeps.block b (by omega) hn, t1.block b e]
                have i4 : Inv wa Ga (hpk (k + 1)) W4 G3 := ⟨t3.heap hG3 zi.heap, ev4, k4, fun b hb => (zi.newr b hb).imp id (fun h => by omega), fun b hb => (zi.newt b hb).imp id (fun h => by omega), fun b o hb => (zi.i1 b o hb).imp id (fun h => h.imp (fun h => by omega) id)⟩
                exact ⟨_, _, _, G3, rfl, ⟨rfl, rfl⟩, hi.join (qi.join i4), qi.evo.trans ev4, by simp [Rel]⟩
              · 
                rintro e w5 ⟨v, d, hp5, G5, rfl, rfl, j1, j2⟩
                have hl5 : w5.heap[w.heap.size + 1]? = some (.loop (rec .ready none)) := by
                  rw [j1.keeps.block _ (by omega) (fun hm => by have := hownG _ hm; omega)]; exact hL1
                have hk5 : w5.heap[w.heap.size]? = some (.deferred (some [])) := by
                  rw [j1.keeps.block _ (by omega) (fun hm => by have := hownG _ hm; omega)]; exact hK1
                have hG5 : ∀ b, b ∈ G5.own → b ≠ w.heap.size + 1 ∧ b ≠ w.heap.size := fun b hb => by
                  rcases j1.new b hb with h | h
                  · have := hownG b h; omega
                  · omega
                refine ⟨none, _, by have := run_endLoop (P := C.P) hl5 (by rw [hrec]; simp); rw [hrec] at this; exact this, ?_⟩
                have t6 := Turn.put (o' := .loop { rec .ready none with state := .exhausted }) hl5 rfl rfl
                rw [hrec] at t6
                obtain ⟨W6, hW6⟩ : ∃ W6, w5.putObj (w.heap.size + 1) (.loop { state := .exhausted, pending := none, fn, tmps := a.tmps, params := pa, assign := ca, body := cb, defers := w.heap.size }) = W6 := ⟨_, rfl⟩
                have i5 : Inv w0 B (hpk xs.length) w5 G5 := h1.join (i2.join j1)
                have hw0 : w0.heap.size ≤ w.heap.size := Nat.le_trans h1.keeps.size gi.keeps.size
                simp only [] at t6 ⊢
                rw [hW6] at t6 ⊢
                have i6 : Inv w0 B (hpk xs.length) W6 G5 := t6.inv (fun hm => (hG5 _ hm).1 rfl) (by omega) i5
                have e6 : Evo w G W6 G5 := (hv12.trans j1.evo).trans (t6.evo G5)
                simp only [LiftT]
                refine ⟨_, _, _, ⟨W6, G5, _, w.heap.size :: Ds, i6, ?_, ?_, ?_⟩, hd⟩
                · refine List.nodup_cons.2 ⟨fun hm => ?_, h2⟩
                  have := (Array.getElem?_eq_some_iff.1 (h3 _ hm).1).1
                  have := gi.keeps.size
                  omega
                · intro D hD
                  rcases List.mem_cons.1 hD with rfl | hD
                  · exact ⟨by rw [t6.block _ (by omega)]; exact hk5, fun hm => (hG5 _ hm).2 rfl, hw0⟩
                  · obtain ⟨d1, d2, d3⟩ := h3 D hD
                    have dl := (Array.getElem?_eq_some_iff.1 d1).1
                    have dl2 := gi.keeps.size
                    have dG : D ∉ G.own := fun hm => by
                      rcases gi.new D hm with h | h
                      · exact d2 h
                      · omega
                    refine ⟨?_, fun hm => ?_, d3⟩
                    · rw [t6.block _ (by omega), j1.keeps.block _ (by omega) dG, i2.keeps.block _ (by omega) d2, d1]
                    · rcases j1.new D hm with h | h
                      · exact dG h
                      · omega
                · refine ⟨G5, Inv.refl' i6.heap, ⟨i6.heap.len.symm, i6.heap.lent.symm⟩, g1, ?_, g3, fun t => Rel.evo _ e6 (g4 t)⟩
                  simp [g2, mark]
  all_goals exfalso; (repeat' split at hc) <;> simp_all
theorem leaves_marks {P : Program} {fn : Func} {tmps : Array Value} {R : Ending → World → Prop} (J : World → Prop) (hend : ∀ w, J w → LeavesIn Fence.wide 0 P fn tmps R [] .returning w) :
    ∀ (Ds : List Nat) (w : World), Ds.Nodup → (∀ D ∈ Ds, w.heap[D]? = some (.deferred (some []))) → (∀ w w' D, D ∈ Ds → J w → Turn w w' D → J w') → J w → LeavesInM Fence.wide 0 P fn tmps R (Ds.map mark) .returning w
  | [], w, _, _, _, h => hend w h
  | D :: Ds, w, hn, hk, hJ, h => by
    obtain ⟨hn1, hn2⟩ := List.nodup_cons.1 hn
    have h0 := hk D (List.mem_cons_self ..)
    have t := Turn.put (o' := .deferred none) h0 rfl rfl
    refine ⟨by simp, .inl ⟨D, _, rfl, run_takeDeferred h0, leaves_marks J hend Ds _ hn2 (fun E hE => ?_) (fun w w' E hE => hJ w w' E (List.mem_cons_of_mem _ hE)) (hJ _ _ D (List.mem_cons_self ..) h t)⟩⟩
    rw [t.block E (fun e => hn1 (e ▸ hE))]
    exact hk E (List.mem_cons_of_mem _ hE)
theorem eff_of_bodyT {C : Cfg} {f : FuncId} {fn : Func} {c : Code} {rc : RC} {rs : List RR} (hf : C.P.funcs[f]? = some fn) (hb : fn.body = some c) (hnt : fn.ntmps = C.nt) (hrc : resCode C c = some rc) (hrs : resRs C fn.results.toList = some rs)
    {args : List D} {hp : Hp} {R : D → Hp → Prop} (hname : (fn.name == "runtime.NumGoroutine") = false) (hpl : C.pers.take args.length = List.range args.length) (hlt : args.length ≤ C.nt) (hn0 : C.n0 = hp.H.length) (hm0 : C.m0 = hp.tk.length)
    (h : TWp C hp.H.length hp.tk.length rc (fun e n m s => (match e with | .exit _ => False | _ => True) ∧ ∃ s1, (∀ ds, Weak { C with n0 := n, m0 := m, dfs := ds } s s1) ∧ rrsWp rs s1 fun ds => R (oneOrTup ds) s1.hp) (St.init C args hp))
    (hbs : ∀ w g, C.M.base w g := by exact fun _ _ => trivial) : Eff C.M f args hp R := by
  refine ⟨⟨fn, hf, by simp [hb], hname⟩, fun w g xs hA hH hargs => ?_⟩
  refine (callsIn_wide (n := 0)).1 (callsIn_of_wp_marks (F := Fence.wide) (n := 0) hf hb trivial ?_ rfl)
  have hsim := init_sim (C := { C with n0 := hp.H.length, m0 := hp.tk.length, dfs := [] }) hnt hpl hlt rfl rfl rfl hH hargs
  refine wpIn_mono (h.run c hrc w g ⟨hA, hbs _ _⟩ _ w ⟨w, g, hp, [], Inv.refl' hH, List.nodup_nil, by simp, hsim⟩) fun e a' w' hl => ?_
  have fin : ∀ n m s, SimT C n m w g s a' w' → (∃ s1, (∀ ds, Weak { C with n0 := n, m0 := m, dfs := ds } s s1) ∧ rrsWp rs s1 fun ds => R (oneOrTup ds) s1.hp) →
      LeavesInM Fence.wide 0 C.P fn a'.tmps (Post w g R) a'.defers .returning w' := by
    intro n m s hs hrr
    obtain ⟨s1, hw, hrr⟩ := hrr
    obtain ⟨w1, B1, hp1, Ds, h1, h2, h3, h4⟩ := hs
    obtain ⟨G, g0, gb, g1, g2, g3, g4⟩ := hw _ _ _ _ _ h4
    rw [g2]
    refine leaves_marks (fun w2 => Inv w g s1.hp w2 G ∧ ∀ t, Rel w2 G (s1.slot C.pers t) (a'.tmps.getD t Go.undef)) ?_ Ds w' h2 (fun D hD => ?_) ?_ ⟨h1.join g0, g4⟩
    · rintro w2 ⟨j1, j2⟩
      obtain ⟨ds, v, k1, k4, k5⟩ := results_run (a := a') (fn := fn) j1 j2 hrs hrr
      exact ⟨v, k5, v, _, _, G, rfl, k1, j1, k4⟩
    · obtain ⟨d1, d2, d3⟩ := h3 D hD
      rw [g0.keeps.block D (Array.getElem?_eq_some_iff.1 d1).1 d2]; exact d1
    · rintro w2 w3 D hD ⟨j1, j2⟩ t
      obtain ⟨d1, d2, d3⟩ := h3 D hD
      have hG : D ∉ G.own := fun hm => by
        rcases g0.new D hm with q | q
        · exact d2 q
        · have := (Array.getElem?_eq_some_iff.1 d1).1; omega
      exact ⟨t.inv hG d3 j1, fun u => Rel.evo _ (t.evo G) (j2 u)⟩
  cases e <;> simp only [LiftT, bodyPostM] at hl ⊢
  · obtain ⟨n, m, s, h1, _, h2⟩ := hl; exact fin n m s h1 h2
  · obtain ⟨n, m, s, h1, h3, h2⟩ := hl; exact h3.elim
  · obtain ⟨n, m, s, h1, _, h2⟩ := hl; exact fin n m s h1 h2
theorem pur_of_bodyT {C : Cfg} {f : FuncId} {fn : Func} {c : Code} {rc : RC} {rs : List RR} (hf : C.P.funcs[f]? = some fn) (hb : fn.body = some c) (hnt : fn.ntmps = C.nt) (hrc : resCode C c = some rc) (hrs : resRs C fn.results.toList = some rs)
    {args : List D} {d : D} (hname : (fn.name == "runtime.NumGoroutine") = false) (hpl : C.pers.take args.length = List.range args.length) (hlt : args.length ≤ C.nt) (hn0 : C.n0 = 0) (hm0 : C.m0 = 0)
    (h : TWp C 0 0 rc (fun e n m s => (match e with | .exit _ => False | _ => True) ∧ ∃ s1, (∀ ds, Weak { C with n0 := n, m0 := m, dfs := ds } s s1) ∧ rrsWp rs s1 fun ds => D.closed (oneOrTup ds) = true ∧ (oneOrTup ds).er = d) (St.init C args ⟨[], []⟩))
    (hbs : ∀ w g, C.M.base w g := by exact fun _ _ => trivial) : Pur C.M f args d :=
  pur_of_eff (eff_of_bodyT hf hb hnt hrc hrs hname hpl hlt hn0 hm0 h hbs)
end
theorem weak_newC {C : Cfg} {s : St} (b off k : Nat) (hk : 0 < k) {cs : List D} (hb : s.hp.H[b]? = some (.cells cs)) (hc : cs[off]? = some (.lit (.slice none 0 0))) :
    Weak C s ⟨s.env, s.scr, ⟨s.hp.H.set b (.cells (cs.set off (.slice [] (.tok s.hp.tk.length)))), s.hp.tk ++ [.per k 0]⟩⟩ := by
  intro w0 B a w h
  obtain ⟨G, g0, gb, g1, g2, g3, g4⟩ := h
  obtain ⟨q1, q2⟩ := g0.tokFull (len := 0) (a := none) hk (.per k 0) (.inl rfl)
  obtain ⟨n, hn⟩ : ∃ n, G.r[b]? = some n := by
    have hl := lt_of_get hb
    rw [g0.heap.len] at hl
    exact ⟨_, List.getElem?_eq_getElem hl⟩
  obtain ⟨xs, e, k1, k2, k3⟩ := g0.heap.blk b _ n hb hn
  obtain ⟨x, hx, hrx⟩ := k2.get hc
  simp only [Rel] at hrx
  obtain ⟨rfl, _⟩ := hrx
  have hgs : Rel w (G.tok ⟨none, none, 0, k, 0⟩) (.slice [] (.tok s.hp.tk.length)) (.slice none 0 0) := by
    simp only [Rel]
    rw [g0.heap.lent]
    refine ⟨⟨0, 0, none⟩, 0, k, [], .inr ⟨by trivial, by simp, rfl⟩, by simp, RelL.nil, by simp, ⟨fun _ => rfl, by simp [flat]⟩, ?_⟩
    exact ⟨_, tok_get _ _, rfl, by simp, fun _ => by rfl⟩
  have hset : xs.set off (.slice none 0 0) = xs := by
    apply List.ext_getElem?
    intro i
    rw [List.getElem?_set]
    split
    · rename_i e; subst e; rw [hx]; split <;> simp_all [lt_of_get hx]
    · rfl
  obtain ⟨u1, u2⟩ := q1.write (w' := w) b n hn ⟨_, hb, by simp⟩ (.cells (cs.set off (.slice [] (.tok s.hp.tk.length))))
    (fun w1 g1 he => by
      rw [k1]
      refine ⟨xs, e, rfl, ?_, k3⟩
      have := (RelL.evo _ he (RelL.evo _ q2 k2)).set off (Rel.evo _ he hgs)
      rw [hset] at this
      exact this)
    (fun _ _ => rfl) rfl rfl rfl rfl
  refine ⟨_, u1, gb, g1, g2, g3, fun t => ?_⟩
  have h4 := g4 t
  unfold St.slot at *
  split
  · rename_i j hj
    rw [hj] at h4
    exact Rel.evo _ u2 (Rel.evo _ q2 h4)
  · rename_i hj
    rw [hj] at h4
    exact Rel.evo _ u2 (Rel.evo _ q2 h4)
section
variable {C : Cfg} {n m : Nat} {Q : Ex → Nat → Nat → St → Prop} {s : St}
theorem twp_reg {ros : List RO} (hbs : ∀ w g, C.M.base w g) (h : ∀ ds, SWp { C with n0 := n, m0 := m, dfs := ds } (.reg ros) (fun e s => Q e n m s) s) : TWp C n m (.reg ros) Q s := twp_of hbs h
theorem twp_regD {qs : List (RO × Bool)} {ros : List RO} (hbs : ∀ w g, C.M.base w g) (h : ∀ ds, SWp { C with n0 := n, m0 := m, dfs := ds } (.regD qs ros) (fun e s => Q e n m s) s) : TWp C n m (.regD qs ros) Q s := twp_of hbs h
theorem twp_cond {g : Opd} {x y : RC} (hbs : ∀ w g, C.M.base w g) (h : ∀ ds, SWp { C with n0 := n, m0 := m, dfs := ds } (.cond g x y) (fun e s => Q e n m s) s) : TWp C n m (.cond g x y) Q s := twp_of hbs h
theorem twp_ret (hbs : ∀ w g, C.M.base w g) (h : Q .ret n m s) : TWp C n m .ret Q s := twp_of hbs fun _ => swp_ret h
end
end GoV
end
section
namespace GoV
open Go Go.RowKit Go.ChangeShapes
theorem keptBut_of_below {W W' : World} {may : MemPlace → Prop} (h : Below W.heap.size W W') : W.keptBut W' may := by
  refine ⟨h.os, h.output, fun i hi => ?_⟩
  rw [h.block i hi]
  split <;> simp_all
theorem post_of_below {P : Program} {H : Type} {enc : TypeId × Value → H} {f : Func} {s : ChangeSpec} {apart fresh handsOn again : Bool} {W W' : World} {args : Array Value} {v : Value} {ds gs : List (DataW H)} {before pa pv : List MemPlace}
    (hW : DataW.Whole enc P f.params.toList s.vars apart W args.toList ds gs before)
    (hres : ∀ (b : Nat) (sp : Nat → Bool) (hd : Bool), DataW.TrodAll enc P W' b sp hd f.resultTypes.toList (v.resultList f.resultTypes.size) (s.fn H (ds ++ gs)).results [])
    (hargs : ∀ sp : Nat → Bool, (∀ p ∈ before, sp p.block = true) → DataW.TrodAll enc P W' 0 sp true f.params.toList args.toList (s.fn H (ds ++ gs)).args pa)
    (hvars : ∀ sp : Nat → Bool, (∀ p ∈ before, sp p.block = true) → DataW.TrodVars enc P W' sp s.vars (s.fn H (ds ++ gs)).vars pv)
    (hps : before = pa ++ pv) (hb : Below W.heap.size W W')
    (hok : ∀ (j : Nat) (t : TypeId) (r : Value), f.resultTypes[j]? = some t → (v.resultList f.resultTypes.size)[j]? = some r → Value.okWide P W' .any 0 t r) :
    s.post enc P f apart fresh handsOn again W args v W' := by
  have hlt : ∀ p ∈ before, p.block < W.heap.size := fun p hp => hW.lt p hp
  have hold : ∀ p ∈ before, (fun b => decide (b < W.heap.size)) p.block = true := fun p hp => by simpa using hW.lt p hp
  refine ⟨ds, gs, before, [], pa, pv, hW, hres _ _ _, hargs _ hold, hvars _ hold, World.keptBut_mono (fun p hp => ⟨hp, ?_⟩) (keptBut_of_below (may := (· ∈ before)) hb), fun _ => ?_⟩
  · rw [hps, List.mem_append] at hp
    exact Or.inr hp
  · obtain ⟨_, _, _, _, _, hz, hn⟩ := hW
    refine ⟨hok, _, _, ([] ++ pa) ++ pv, ⟨[] ++ pa, pv, trodAll_append (hargs _ (fun _ _ => rfl)) (hres _ _ _), hvars _ (fun _ _ => rfl), rfl, ?_, ?_⟩, ?_⟩
    · intro b off hp
      have hp' : MemPlace.cell b off ∈ before := by rw [hps]; simpa using hp
      have hl : b < W.heap.size := hlt _ hp'
      have e : W'.frozen? ⟨b, off, none⟩ = W.frozen? ⟨b, off, none⟩ := by
        simp only [World.frozen?, hb.block b hl]
      rw [e]
      exact hz b off hp'
    · intro ha
      have := hn ha
      rw [hps] at this
      simpa using this
    · intro p hp _
      rw [hps]
      simpa using hp
end GoV
end
section
namespace GoV
open Go Go.RowKit Go.ChangeShapes Go.Deep
abbrev G0 (w : World) : Gh := ⟨[], [], fun b _ => b < w.heap.size⟩
def Opens (P : Program) (w : World) (n : Nat) (t : TypeId) {α : Type} (f : α → List D) (ok : α → Prop) : Prop :=
  ∀ (H : Type) (enc : TypeId × Value → H) (cs : List Value) (x : DataW H × List MemPlace), DataW.trod enc P w 0 (fun _ => true) true n t cs = some x →
    ∃ a, ok a ∧ RelL w (G0 w) (f a) cs ∧ ∀ y ∈ cs, oneC y
section
variable {P : Program} {w : World} {n : Nat} {t e : TypeId}
theorem Opens.imp {α β : Type} {f : α → List D} {ok : α → Prop} {f' : β → List D} {ok' : β → Prop} (h : Opens P w n t f ok) (c : α → β) (h1 : ∀ a, ok a → f' (c a) = f a) (h2 : ∀ a, ok a → ok' (c a)) : Opens P w n t f' ok' := by
  intro H enc cs x hx
  obtain ⟨a, k1, k2, k3⟩ := h H enc cs x hx
  exact ⟨c a, h2 a k1, by rw [h1 a k1]; exact k2, k3⟩
theorem opens_int {k : IntKind} (ht : P.underlying t = some (.int k)) : Opens P w n t (fun z : Int => [.int k z]) (fun z => (Lit.int k z).wf = true) := by
  intro H enc cs x hx
  obtain ⟨z, rfl, _, hw⟩ := DataW.trod_int ht hx
  exact ⟨z, hw, RelL.one (by simp [Rel]), by simp [oneC, Value.oneCell']⟩
theorem opens_str (ht : P.underlying t = some .string) : Opens P w n t (fun s : List UInt8 => [.str s]) (fun s => s.length ≤ 9223372036854775807) := by
  intro H enc cs x hx
  obtain ⟨s, rfl, _, hl⟩ := DataW.trod_string ht hx
  refine ⟨s.data.toList, ?_, RelL.one (by simp [Rel]), by simp [oneC, Value.oneCell']⟩
  have : s.data.toList.length = s.size := by rw [Array.length_toList]; rfl
  show s.data.toList.length ≤ _
  rw [this]
  exact Nat.le_trans hl (by decide)
/-! ### Structs -/

/-! ### A whole argument -/

theorem arg_cell {α : Type} {f : α → List D} {ok : α → Prop} {H : Type} {enc : TypeId × Value → H} {v : Value} {d : DataW H} {ps : List MemPlace} {b : Nat} {desc : TypeDesc} (ht : P.underlying t = some desc) (hd : isRowT desc = false) (hval : Value.okWide P w .any b t v)
    (h : DataW.Trod enc P w 0 (fun _ => true) true t v d ps) (hO : ∀ n, Opens P w n t f ok) : ∃ a, ok a ∧ RelL w (G0 w) (f a) [v] := by
  obtain ⟨fuel, hx⟩ := h
  obtain ⟨a, k1, k2, _⟩ := hO fuel H enc _ _ hx
  refine ⟨a, k1, ?_⟩
  have hv : oneC v := by
    cases v with
    | agg cs =>
      exfalso
      unfold Value.okWide at hval
      rw [ht] at hval
      cases desc <;> simp_all [isRowT, Cell.okWide, Cell.ok]
    | tuple cs =>
      exfalso
      unfold Value.okWide at hval
      rw [ht] at hval
      cases desc <;> simp_all [isRowT, Cell.okWide, Cell.ok]
    | _ => simp [oneC, Value.oneCell']
  rw [cells_one hv] at k2
  exact k2
theorem relL_app {ds es : List D} {xs ys : List Value} (h : RelL w (G0 w) ds xs) (h2 : RelL w (G0 w) es ys) : RelL w (G0 w) (ds ++ es) (xs ++ ys) := h.append h2
end
end GoV
end
section
namespace GoV
open Go Go.RowKit
/-! ### What is known of variables when a law is called -/

theorem laid_var {P : Program} {W : World} : ∀ {l : List (String × DataW Unit)} {ps : List MemPlace}, DataW.LaidVars P W l ps → ∀ {name : String} {d : DataW Unit}, (name, d) ∈ l → ∃ g t cs fuel p, P.globalNamed name = some g ∧ (P.globals[g]?).map (·.type) = some t ∧ W.var? P name = some cs ∧
    DataW.trod (fun _ => ()) P W 0 (fun _ => true) false fuel t cs.toList = some (d, p)
  | [], _, _, _, _, h => by cases h
  | x :: r, _, hl, name, d, h => by
    obtain ⟨g, t, cs, fuel, p, q, h1, h2, h3, h4, h5, _⟩ := hl
    rcases List.mem_cons.1 h with h | h
    · subst h; exact ⟨g, t, cs, fuel, p, h1, h2, h3, h4⟩
    · exact laid_var h5 h
theorem heap_of_var {P : Program} {W : World} {name : String} {g : Nat} {cs : Array Value} (hg : P.globalNamed name = some g) (h : W.var? P name = some cs) : ∃ e fr, W.heap[g]? = some (.cells cs e fr) := by
  unfold World.var? at h
  rw [hg] at h
  simp only [Option.bind_some] at h
  split at h
  · rename_i cs e fr hh; simp at h; subst h; exact ⟨e, fr, hh⟩
  · cases h
theorem var_tab {P : Program} {W : World} {l : List (String × DataW Unit)} {name : String} {k : IntKind} {zs : List Int} {ps : List MemPlace} {g : Nat} {t e : TypeId} {n : Nat}
    (hl : DataW.LaidVars P W l ps) (hm : (name, Lib.tabData k zs) ∈ l) (hg : P.globalNamed name = some g) (hty : (P.globals[g]?).map (·.type) = some t) (ht : P.underlying t = some (.array n e)) (he : P.underlying e = some (.int k)) (hce : P.cellsOf e = 1) (hct : P.cellsOf t = n) :
    ∃ cs x fr, cs = (zs.map fun z => Value.int k z).toArray ∧ W.heap[g]? = some (.cells cs x fr) := by
  obtain ⟨g', t', cs, fuel, p, hg', ht', hvar, hd⟩ := laid_var hl hm
  obtain rfl := Option.some.inj (hg.symm.trans hg')
  obtain rfl := Option.some.inj (hty.symm.trans ht')
  obtain ⟨x, fr, hh⟩ := heap_of_var hg hvar
  exact ⟨cs, x, fr, by rw [← Lib.cells_of_tab ht he hce hct hd], hh⟩
end GoV
end
section
set_option linter.unusedSimpArgs false
set_option linter.unusedVariables false
namespace GoV
open Go Go.RowKit
theorem inv_refl {w : World} {g : Gh} {hp : Hp} (h : HeapRel w g hp) : Inv w g hp w g :=
  ⟨h, Evo.refl _ _, Keeps.refl _ _, fun _ h => .inl h, fun _ h => .inl h, fun _ _ h => .inl h⟩
theorem inv_tokByt {w0 : World} {g0 : Gh} {hp : Hp} {w : World} {g : Gh} (h : Inv w0 g0 hp w g) (e : TypeId) :
    Inv w0 g0 { hp with tk := hp.tk ++ [.byt e []] } w (g.tok ⟨none, none, 0, 1, 0⟩) ∧ Evo w g w (g.tok ⟨none, none, 0, 1, 0⟩) := by
  obtain ⟨h1, h2⟩ := h.heap.newTok ⟨none, none, 0, 1, 0⟩ (.byt e []) ⟨by simp, by simp, by simp⟩ ⟨rfl, rfl, by simp, by simp⟩ (by simp)
  refine ⟨⟨h1, h.evo.trans h2, h.keeps, h.newr, fun n hn => ?_, h.i1⟩, h2⟩
  refine h.newt n ?_
  obtain ⟨T, hT, hb⟩ := mem_blks.1 hn
  rcases List.mem_append.1 hT with q | q
  · exact mem_blks.2 ⟨T, q, hb⟩
  · simp at q; subst q; simp at hb
theorem weak_bld {C : Cfg} {s : St} (b : Nat) (eB e : TypeId) (p : D) (hb : s.hp.H[b]? = some (.tcells eB [p, .lit (.slice none 0 0)])) :
    Weak C s ⟨s.env, s.scr, ⟨s.hp.H.set b (.tcells eB [p, .gs s.hp.tk.length 0]), s.hp.tk ++ [.byt e []]⟩⟩ := by
  intro w0 B a w h
  obtain ⟨G, g0, gb, g1, g2, g3, g4⟩ := h
  obtain ⟨q1, q2⟩ := inv_tokByt g0 e
  obtain ⟨n, hn⟩ : ∃ n, G.r[b]? = some n := by
    have hl := lt_of_get hb
    rw [g0.heap.len] at hl
    exact ⟨_, List.getElem?_eq_getElem hl⟩
  obtain ⟨xs, k1, k2, k3⟩ := g0.heap.blk b _ n hb hn
  obtain ⟨x0, ys, rfl, r0, r1⟩ := k2.inv
  obtain ⟨x1, zs, rfl, r2, r3⟩ := r1.inv
  have := r3.inv_nil
  subst this
  simp only [Rel] at r2
  obtain ⟨rfl, _⟩ := r2
  have hgs : Rel w (G.tok ⟨none, none, 0, 1, 0⟩) (.gs s.hp.tk.length 0) (.slice none 0 0) := by
    simp only [Rel]
    rw [g0.heap.lent]
    exact ⟨none, 0, _, rfl, by simp, tok_get _ _, by simp, fun _ => by simp⟩
  obtain ⟨u1, u2⟩ := q1.write (w' := w) b n hn ⟨_, hb, by simp⟩ (.tcells eB [p, .gs s.hp.tk.length 0])
    (fun w1 g1 he => by
      rw [k1]
      exact ⟨_, rfl, RelL.cons (Rel.evo _ (he) (Rel.evo _ q2 r0)) (RelL.one (Rel.evo _ he hgs)), k3⟩)
    (fun _ _ => rfl) rfl rfl rfl rfl
  refine ⟨_, u1, gb, g1, g2, g3, fun t => ?_⟩
  have h4 := g4 t
  unfold St.slot at *
  split
  · rename_i j hj
    rw [hj] at h4
    exact Rel.evo _ u2 (Rel.evo _ q2 h4)
  · rename_i hj
    rw [hj] at h4
    exact Rel.evo _ u2 (Rel.evo _ q2 h4)
/-! ### The contracts -/

section
open Go.Proofs
variable {M : Mod} {ρ : Go.Shelf.Ren}
theorem copyCheck_e (L : Lays.n240 M.P ρ) (X : Builder.X72 M.P ρ) (hc : Callable M (ρ.f 240)) {p x : D} {V : List Tv} (hp : p = .lit (.pointer none) ∨ p = .ptr 0 0) :
    Eff M (ρ.f 240) [.ptr 0 0] ⟨[.tcells (ρ.t 72) [p, x]], V⟩ (fun d hp' => d = .tup [] ∧ hp' = ⟨[.tcells (ρ.t 72) [.ptr 0 0, x]], V⟩) := by
  refine ⟨hc, fun w g xs hA hH hargs => ?_⟩
  obtain ⟨v, vs, rfl, h1, h2⟩ := hargs.inv
  have := h2.inv_nil
  subst this
  simp only [Rel] at h1
  obtain ⟨n, hn, rfl⟩ := h1
  obtain ⟨ys, k1, k2, k3⟩ := hH.blk 0 _ n rfl hn
  obtain ⟨y0, zs, rfl, r0, r1⟩ := k2.inv
  obtain ⟨y1, zs', rfl, r2, r3⟩ := r1.inv
  have := r3.inv_nil
  subst this
  have hcell : w.cell? ⟨n, 0, none⟩ = some y0 := by simp [World.cell?, k1]
  rcases hp with rfl | rfl
  · simp only [Rel] at r0
    obtain ⟨rfl, _⟩ := r0
    refine (Any.Builder_copyCheck_fresh L X n w hcell (by simp [World.shape?, k1]) (by simp [World.frozen?, k1])).mono fun e w' hh => ?_
    obtain ⟨rfl, rfl⟩ := hh
    obtain ⟨u1, u2⟩ := (inv_refl hH).write (w' := w.setCell ⟨n, 0, none⟩ (.pointer (some ⟨n, 0, none⟩))) 0 n hn ⟨_, rfl, by simp⟩ (.tcells (ρ.t 72) [.ptr 0 0, x])
      (fun w1 g1 he => ⟨[.pointer (some ⟨n, 0, none⟩), y1], by simp [World.setCell, Array.getElem?_modify, k1], RelL.cons (by simp only [Rel]; exact ⟨n, he.ref 0 n hn, rfl⟩) (RelL.one (Rel.evo _ he r2)), by
        intro y hy
        rcases List.mem_cons.1 hy with q | q
        · subst q; simp [oneC, Value.oneCell']
        · exact k3 y (by simp [List.mem_singleton.1 q])⟩)
      (fun m hm => by simp [World.setCell, Array.getElem?_modify, Ne.symm hm]) (by simp [World.setCell]) rfl rfl rfl
    exact ⟨_, _, _, _, rfl, ⟨rfl, rfl⟩, u1, by simp [Rel, RelL]⟩
  · simp only [Rel] at r0
    obtain ⟨m, hm, rfl⟩ := r0
    rw [hn] at hm
    cases hm
    refine (Any.Builder_copyCheck_used L X n w hcell).mono fun e w' hh => ?_
    obtain ⟨rfl, rfl⟩ := hh
    exact ⟨_, _, _, _, rfl, ⟨rfl, rfl⟩, inv_refl hH, by simp [Rel, RelL]⟩
set_option maxHeartbeats 2000000 in
set_option maxRecDepth 100000 in
theorem string_row (L : Lays.n169 M.P ρ) (X : Builder.Extra M.P ρ) (b g cap : Nat) (p : Value) (T : TypeId) (l : List UInt8) (cur : Array Value) (w : World) (hbk : w.heap[b]? = some (.cells #[p, .slice (some ⟨g, 0, none⟩) l.length cap] T (0, 0))) (hg : w.heap[g]? = some (.cells cur (ρ.t 5) (0, 0)))
    (h0 : l ≠ []) (hl : l.length ≤ 140737488355328) (hnc : l.length ≤ cap) (hcs : cur.size = cap) (hcells : ∀ (j : Nat) x, l[j]? = some x → w.cell? ⟨g, j, none⟩ = some (.int .u8 x.toNat)) :
    Calls M.P (ρ.f 169) #[.pointer (some ⟨b, 0, none⟩)] w fun e w' => e = .returned (.string ⟨l.toArray⟩) ∧ w' = w.drew.freeze ⟨g, 0, none⟩ l.length := by
  have hl0 : l.length ≠ 0 := by simpa using h0
  have c1 : w.drew.cell? ⟨b, 1, none⟩ = some (.slice (some ⟨g, 0, none⟩) l.length cap) := by
    have : w.drew.heap[b]? = some (.cells #[p, .slice (some ⟨g, 0, none⟩) l.length cap] T (0, 0)) := hbk
    rw [Lib.cell_of_heap this]; rfl
  have hSD : (Builtin.unsafeSliceData_ #[(ρ.t 37)] (ρ.t 127) #[.slice (some ⟨g, 0, none⟩) l.length cap]).run M.P w.drew = .ok (.pointer (some ⟨g, 0, none⟩)) w.drew :=
    Lib.run_unsafeSliceData_row _ _ _ _ _ _ (by omega)
  have hUS : (Builtin.unsafeString_ #[(ρ.t 127), (ρ.t 3)] (ρ.t 9) #[.pointer (some ⟨g, 0, none⟩), .int .i64 l.length]).run M.P w.drew = .ok (.string ⟨l.toArray⟩) (w.drew.freeze ⟨g, 0, none⟩ l.length) := by
    refine Lib.run_unsafeString_row w.drew (ρ.t 127) (ρ.t 3) (ρ.t 9) (ρ.t 5) L.t127 X.cellsByte g cur.size (by have hg' : w.drew.heap[g]? = some (.cells cur (ρ.t 5) (0, 0)) := hg; simp [World.shape?, hg']) l h0 (by omega) (by omega) ?_
    intro j x hx
    have := hcells j x hx
    rw [Addr.add_lit, Nat.zero_add]
    exact this
  have mixed := L.mixed
  have t72 := L.t72; have a72 := L.a72; have z72 := L.z72; have v72 := L.v72; have u72 := run_underlying L.t72
  have t70 := L.t70; have a70 := L.a70; have z70 := L.z70; have v70 := L.v70; have u70 := run_underlying L.t70
  have t37 := L.t37; have a37 := L.a37; have z37 := L.z37; have v37 := L.v37; have u37 := run_underlying L.t37
  have t127 := L.t127; have a127 := L.a127; have z127 := L.z127; have v127 := L.v127; have u127 := run_underlying L.t127
  have t3 := L.t3; have a3 := L.a3; have z3 := L.z3; have v3 := L.v3; have u3 := run_underlying L.t3
  have t9 := L.t9; have a9 := L.a9; have z9 := L.z9; have v9 := L.v9; have u9 := run_underlying L.t9
  have t5 := X.t5; have a5 := X.a5; have z5 := X.z5; have v5 := X.v5; have u5 := run_underlying X.t5
  go_enter L.f169, Body.n169_ntmps ρ
  go_wp2
  go_region_o
  all_goals (go_wp2; go_ret; exact ⟨rfl, rfl⟩)
theorem string_e (L : Lays.n169 M.P ρ) (X : Builder.Extra M.P ρ) (hc : Callable M (ρ.f 169)) {p : D} {bs : List UInt8} (hl : bs.length ≤ 140737488355328) :
    Eff M (ρ.f 169) [.ptr 0 0] ⟨[.tcells (ρ.t 72) [p, .gs 0 bs.length]], [.byt (ρ.t 5) bs]⟩ (fun d hp' => d = .str bs ∧ hp' = ⟨[.tcells (ρ.t 72) [p, .gs 0 bs.length]], [.per 1 (bs.length + 1)]⟩) := by
  refine ⟨hc, fun w g xs hA hH hargs => ?_⟩
  obtain ⟨v, vs, rfl, h1, h2⟩ := hargs.inv
  have := h2.inv_nil
  subst this
  simp only [Rel] at h1
  obtain ⟨n, hn, rfl⟩ := h1
  obtain ⟨ys, k1, k2, k3⟩ := hH.blk 0 _ n rfl hn
  obtain ⟨y0, zs, rfl, r0, r1⟩ := k2.inv
  obtain ⟨y1, zs', rfl, r2, r3⟩ := r1.inv
  have := r3.inv_nil
  subst this
  simp only [Rel] at r2
  obtain ⟨a, cap, T, rfl, hnn, hT, hlT, hsT⟩ := r2
  obtain ⟨T', hT', ⟨q1, q2, q3, q4⟩, hok⟩ := hH.tokBlk (t := 0) (V := .byt (ρ.t 5) bs) rfl
  rw [hT] at hT'; cases hT'
  obtain ⟨rfl, rfl, hb⟩ := hsT (by omega)
  have fin : ∀ {w' : World}, w'.os = w.os → w'.tape = w.tape → w'.output = w.output → w.heap.size ≤ w'.heap.size → (∀ m, m < w.heap.size → T.blk ≠ some m → w'.heap[m]? = w.heap[m]?) → (∀ c o, g.I c o → w'.cell? ⟨c, o, none⟩ = w.cell? ⟨c, o, none⟩) →
      Post w g (fun d hp' => d = .str bs ∧ hp' = ⟨[.tcells (ρ.t 72) [p, .gs 0 bs.length]], [.per 1 (bs.length + 1)]⟩) (.returned (.string ⟨bs.toArray⟩)) w' := by
    intro w' e1 e2 e3 e4 e5 e6
    obtain ⟨u1, u2⟩ := (inv_refl hH).goTok (w' := w') (T' := ⟨Option.none, Option.none, T.len + 1, 1, T.len + 1⟩) (I' := g.I) (V' := .per 1 (bs.length + 1)) hT q1.symm (.inr (by simp)) e5 e4 e1 e2 e3 (fun n hn => by simp at hn)
      (fun c o ho => ⟨ho, e6 c o ho⟩) (fun c o ho => .inl ho) ⟨by simp, by simp, by simp⟩ (fun _ => ⟨rfl, by simp [q2], by simp⟩)
    exact ⟨_, _, _, _, rfl, ⟨rfl, rfl⟩, u1, by simp [Rel]⟩
  have old : ∀ {w' : World}, Below w.heap.size w w' → Post w g (fun d hp' => d = .str bs ∧ hp' = ⟨[.tcells (ρ.t 72) [p, .gs 0 bs.length]], [.per 1 (bs.length + 1)]⟩) (.returned (.string ⟨bs.toArray⟩)) w' := by
    intro w' hb'
    exact fin hb'.os hb'.tape hb'.output hb'.size (fun m hm _ => hb'.block m hm) (fun c o ho => cell_of_heap (hb'.block c (hH.imm c o ho).1))
  cases hTb : T.blk with
  | none =>
    obtain ⟨z1, z2⟩ := q3 hTb
    have hlen : bs = [] := List.eq_nil_of_length_eq_zero (by omega)
    subst hlen
    have hcap : T.cap = 0 := by rw [← hok.2.1 hTb]; exact z1
    rw [z2, hcap] at k1
    refine (Any.Builder_String_nil L X w.heap.size n y0 w k1).mono fun e w' hh => ?_
    obtain ⟨rfl, hb'⟩ := hh
    exact old hb'
  | some m =>
    obtain ⟨hI, ys, z1, z2⟩ := q4 m hTb
    obtain ⟨had, _, hlc, ys', e', z3, z4, z5⟩ := hok.2.2 m hTb
    rw [z1] at z3; cases z3
    rw [had] at k1
    rw [q1, Nat.mul_one] at z4
    by_cases hz : bs = []
    · subst hz
      by_cases hcap : T.cap = 0
      · rw [hcap] at k1
        refine (Any.Builder_String_noroom L X w.heap.size n m y0 ys w (Nat.le_refl _) k1 z1).mono fun e w' hh => ?_
        obtain ⟨rfl, hb'⟩ := hh
        exact old hb'
      · refine (Any.Builder_String_room L X w.heap.size n m T.cap y0 w hcap k1).mono fun e w' hh => ?_
        obtain ⟨rfl, hb'⟩ := hh
        exact old hb'
    · refine (string_row L X n m T.cap y0 (ρ.t 72) bs ys w k1 z1 hz hl (by omega) z4 (fun j x hx => ?_)).mono fun e w' hh => ?_
      · have hj := lt_of_get hx
        have h3 := congrArg (fun l => l[j]?) z2
        simp only [List.getElem?_map, hx, Option.map_some] at h3
        rw [List.getElem?_take, if_pos (by omega)] at h3
        rw [cell_at z1, ← Array.getElem?_toList]
        exact h3
      · obtain ⟨rfl, rfl⟩ := hh
        have hfr : ∀ c, m ≠ c → (w.drew.freeze ⟨m, 0, none⟩ bs.length).heap[c]? = w.heap[c]? := by
          intro c hc
          unfold World.freeze
          split
          · rfl
          · simp [Array.getElem?_modify, hc]; rfl
        have hsz : (w.drew.freeze ⟨m, 0, none⟩ bs.length).heap.size = w.heap.size := by
          unfold World.freeze
          split
          · rfl
          · simp
        have hos : ∀ w : World, (w.freeze ⟨m, 0, none⟩ bs.length).os = w.os ∧ (w.freeze ⟨m, 0, none⟩ bs.length).tape = w.tape ∧ (w.freeze ⟨m, 0, none⟩ bs.length).output = w.output := by
          intro w
          unfold World.freeze
          split <;> exact ⟨rfl, rfl, rfl⟩
        refine fin (hos w.drew).1 (hos w.drew).2.1 (hos w.drew).2.2 (Nat.le_of_eq hsz.symm) (fun c _ hne => hfr c fun e => hne (by rw [hTb, e])) (fun c o ho => cell_of_heap (hfr c fun e => by subst e; exact hI o ho))
end
end GoV
end
section
set_option linter.unusedSimpArgs false
set_option linter.unusedVariables false
namespace GoV
open Go
section
variable {C : Cfg} {w0 : World} {B : Gh}
end
section
variable {M : Mod} {j i : Nat} {dst : Dst} {a g : Opd} {q : Bool} {r : List (RO × Bool)} {K : St → Prop} {s : St} {want : Bool} {oc : OC} {args : List Opd}
end
end GoV
end
section
set_option linter.unusedSimpArgs false
set_option linter.unusedVariables false
namespace GoV
open Go
section
variable {C : Cfg} {w0 : World} {B : Gh}
theorem draw_soundF {ro : Option Nat} (hA : C.M.start w0 B) {ops : Array Oper} {m : Nat} {ros : List RO} {K : St → Prop} {Q : Exit → Act → World → Prop} (hB : drawOk ops m = true) (hm : m ≤ ops.size) (hr : resOps C ops (List.range' 0 ops.size) = some ros)
    (hQ : ∀ s a w, K s → Sim C w0 B s a w → Q .normal a w) {s : St} (_hl : s.env.length = C.pers.length)
    {ds : Nat → D} {F : (Nat → Bool) → Hp} {s1 : St} (hk1 : opsWp C.M (ros.drop m) K s1) (hpm : F (fun j => decide (j < m)) = s1.hp) (hl1 : s1.env.length = C.pers.length)
    (hst : ∀ i, i < m → ∃ o, ops[i]? = some o ∧ ∀ E : Nat → Bool, E i = false → StepQ C ops (F E) (F (fun j => E j || j == i)) (sig ops (s.slot C.pers) ds (fun _ => true) i) o (ds i))
    (hend : sig ops (s.slot C.pers) ds (fun _ => true) m = s1.slot C.pers) :
    ∀ (fuel : Nat) (listed : Array Bool) (a : Act) (w : World), listed.size = ops.size → unl listed.toList ≤ fuel →
      (∀ j oj, ops[j]? = some oj → listed.getD j false = true → ∀ e ∈ oj.after, Region.binds .any e = true → listed.getD e.on false = true) →
      (((∀ j, listed.getD j false = true → j < m) ∧ SimF C w0 B (sig ops (s.slot C.pers) ds (fun j => listed.getD j false) m) (F (fun j => listed.getD j false)) a w) ∨
        ∃ i s', m ≤ i ∧ (∀ j, j < ops.size → (listed.getD j false = true ↔ j < i)) ∧ Sim C w0 B s' a w ∧ opsWp C.M (ros.drop i) K s') →
      wpAnyIn (FR ro) 0 C.P .any ops Q fuel listed a w := by
  have hros : ros.length = ops.size := by rw [resOps_length _ _ hr]; simp
  have hsub : ∀ (listed : Array Bool), (∀ j oj, ops[j]? = some oj → listed.getD j false = true → ∀ e ∈ oj.after, Region.binds .any e = true → listed.getD e.on false = true) →
      ∀ j oj, ops[j]? = some oj → (∀ e ∈ oj.after, Region.binds .any e = true → listed.getD e.on false = true) → ∀ i ∈ (befores ops.toList).getD j [], listed.getD i false = true := by
    intro listed hcl j
    induction j using Nat.strongRecOn with
    | _ j ih =>
      intro oj hj ha i hi
      obtain ⟨e, he, hbd, h1⟩ := mem_befores (by simpa using hj) hi
      rcases h1 with h1 | h1
      · rw [h1]; exact ha e he hbd
      · have hlt := (drawOk_spec hB hj).1 e he hbd
        have hjs : j < ops.size := (Array.getElem?_eq_some_iff.1 hj).1
        have hoe : ops[e.on]? = some ops[e.on] := Array.getElem?_eq_getElem (by omega)
        exact ih e.on hlt _ hoe (hcl e.on _ hoe (ha e he hbd)) i h1
  have conv : ∀ (listed : Array Bool) (a : Act) (w : World), (∀ j, listed.getD j false = true → j < m) → (∀ j, j < m → listed.getD j false = true) →
      SimF C w0 B (sig ops (s.slot C.pers) ds (fun j => listed.getD j false) m) (F (fun j => listed.getD j false)) a w → Sim C w0 B s1 a w := by
    intro listed a w h1 h2 hs
    have e : sig ops (s.slot C.pers) ds (fun j => listed.getD j false) m = s1.slot C.pers := by
      rw [← hend]; funext t
      exact sig_agree m fun j hj _ => h2 j hj
    obtain ⟨G, g1, gb, g2, g3, g4⟩ := hs
    have ef : (fun j => listed.getD j false) = (fun j => decide (j < m)) := by
      funext j
      by_cases q : j < m
      · rw [h2 j q, decide_eq_true q]
      · rw [decide_eq_false q]
        cases hb : listed.getD j false with
        | false => rfl
        | true => exact absurd (h1 j hb) q
    rw [ef] at g1
    exact ⟨G, by rw [← hpm]; exact g1, gb, g2, g3, hl1, by rw [← e]; exact g4⟩
  have fin : ∀ (listed : Array Bool) (a : Act) (w : World), (∀ j, j < ops.size → listed.getD j false = true) →
      (((∀ j, listed.getD j false = true → j < m) ∧ SimF C w0 B (sig ops (s.slot C.pers) ds (fun j => listed.getD j false) m) (F (fun j => listed.getD j false)) a w) ∨
        ∃ i s', m ≤ i ∧ (∀ j, j < ops.size → (listed.getD j false = true ↔ j < i)) ∧ Sim C w0 B s' a w ∧ opsWp C.M (ros.drop i) K s') → Q .normal a w := by
    intro listed a w hall h
    rcases h with ⟨h1, h2⟩ | ⟨i, s', h1, h2, h3, h4⟩
    · have hs1 := conv listed a w h1 (fun j hj => hall j (by omega)) h2
      have hmn : ops.size ≤ m := by
        rcases Nat.eq_zero_or_pos ops.size with g | g
        · omega
        · have := h1 (ops.size - 1) (hall _ (by omega)); omega
      rw [List.drop_eq_nil_of_le (by omega)] at hk1
      exact hQ s1 a w hk1 hs1
    · have hin : ops.size ≤ i := by
        rcases Nat.eq_zero_or_pos ops.size with g | g
        · omega
        · have := (h2 (ops.size - 1) (by omega)).1 (hall _ (by omega)); omega
      rw [List.drop_eq_nil_of_le (by omega)] at h4
      exact hQ s' a w h4 h3
  have least : ∀ (listed : Array Bool), listed.size = ops.size → (∀ j oj, ops[j]? = some oj → listed.getD j false = true → ∀ e ∈ oj.after, Region.binds .any e = true → listed.getD e.on false = true) →
      Region.ready .any ops listed = [] → ∀ j, j < ops.size → listed.getD j false = true := by
    intro listed hsz hcl hr0 j
    induction j using Nat.strongRecOn with
    | _ j ih =>
      intro hj
      cases hb : listed.getD j false with
      | true => rfl
      | false =>
        exfalso
        have hoj : ops[j]? = some ops[j] := Array.getElem?_eq_getElem hj
        have : j ∈ Region.ready .any ops listed := by
          rw [mem_ready]
          refine ⟨?_, ops[j], hoj, fun e he hbd => ?_⟩
          · have hlt : j < listed.size := by omega
            simp [hlt] at hb ⊢; exact hb
          · have := (drawOk_spec hB hoj).1 e he hbd
            exact ih e.on this (by omega)
        rw [hr0] at this; cases this
  intro fuel
  induction fuel with
  | zero =>
    intro listed a w hsz hu hcl h
    have hall : ∀ j, j < ops.size → listed.getD j false = true := by
      intro j hj
      have hlt : j < listed.size := by omega
      have := unl_zero listed.toList (by omega) j (by simpa using hlt)
      simp [hlt] at this ⊢; exact this
    refine ⟨?_, fin listed a w hall h⟩
    cases hr0 : Region.ready .any ops listed with
    | nil => rfl
    | cons i l =>
      have : i ∈ Region.ready .any ops listed := by rw [hr0]; simp
      obtain ⟨h1, o, ho, _⟩ := mem_ready.1 this
      have hlt : i < ops.size := (Array.getElem?_eq_some_iff.1 ho).1
      have h2 := hall i hlt
      have hlt2 : i < listed.size := by omega
      simp [hlt2] at h1 h2; rw [h1] at h2; cases h2
  | succ fuel ih =>
    intro listed a w hsz hu hcl h
    refine ⟨fun hr0 => fin listed a w (least listed hsz hcl hr0) h, fun i hi => ?_⟩
    obtain ⟨hun, o, ho, hdeps⟩ := mem_ready.1 hi
    have hlt : i < ops.size := (Array.getElem?_eq_some_iff.1 ho).1
    have hlt2 : i < listed.size := by omega
    have hunf : listed.getD i false = false := by simp [hlt2] at hun ⊢; exact hun
    have hdeps' : ∀ e ∈ o.after, Region.binds .any e = true → listed.getD e.on false = true := hdeps
    have hbef := hsub listed hcl i o ho hdeps'
    have hcl' : ∀ j oj, ops[j]? = some oj → (listed.setIfInBounds i true).getD j false = true → ∀ e ∈ oj.after, Region.binds .any e = true → (listed.setIfInBounds i true).getD e.on false = true := by
      intro j oj hj hlj e he hbd
      rw [listed_set hlt2] at hlj ⊢
      simp only [Bool.or_eq_true, beq_iff_eq] at hlj ⊢
      rcases hlj with g | g
      · exact .inl (hcl j oj hj g e he hbd)
      · subst g
        rw [ho] at hj; cases hj
        exact .inl (hdeps' e he hbd)
    have hu' : unl (listed.setIfInBounds i true).toList ≤ fuel := by
      have := unl_set listed.toList i (by simp [hlt2] at hunf ⊢; exact hunf)
      simp only [Array.toList_setIfInBounds]; omega
    have hafter : m ≤ i → ∀ j, j < ops.size → (listed.getD j false = true ↔ j < i) := by
      intro hmi j hj
      constructor
      · intro hlj
        rcases Nat.lt_trichotomy j i with g | g | g
        · exact g
        · subst g; rw [hunf] at hlj; cases hlj
        · exfalso
          have hoj : ops[j]? = some ops[j] := Array.getElem?_eq_getElem hj
          obtain ⟨oi, hoi, q⟩ := (drawOk_spec hB hoj).2 i g
          rcases q with q | q
          · have := hsub listed hcl j _ hoj (hcl j _ hoj hlj) i q
            rw [hunf] at this; cases this
          · omega
      · intro hji
        obtain ⟨oi, hoi, q⟩ := (drawOk_spec hB ho).2 j hji
        rcases q with q | q
        · exact hbef j q
        · omega
    unfold wpOpIn
    rw [ho]
    by_cases him : i < m
    · 
      rcases h with ⟨h1, h2⟩ | ⟨i', s', h1, h2, h3, h4⟩
      · obtain ⟨o', ho', hq⟩ := hst i him
        rw [ho] at ho'; cases ho'
        have ords : ∀ j, j < m → j ≠ i → ∀ t, t ∈ namesOf ops o → dstO ops j = some t → (listed.getD j false = true ↔ j < i) := by
          intro j hj hji t ht hd
          have hjs : j < ops.size := by omega
          have hoj : ops[j]? = some ops[j] := Array.getElem?_eq_getElem hjs
          have hdj : ops[j].dst = some t := by simpa [dstO, hoj] using hd
          constructor
          · intro hlj
            rcases Nat.lt_or_ge j i with g | g
            · exact g
            · exfalso
              obtain ⟨oi, hoi, q⟩ := (drawOk_spec hB hoj).2 i (by omega)
              rw [ho] at hoi; cases hoi
              rcases q with q | q
              · have := hsub listed hcl j _ hoj (hcl j _ hoj hlj) i q
                rw [hunf] at this; cases this
              · exact (clash_spec q.2).2 t hdj ht
          · intro g
            obtain ⟨oi, hoi, q⟩ := (drawOk_spec hB ho).2 j g
            rw [hoj] at hoi; cases hoi
            rcases q with q | q
            · exact hbef j q
            · exact absurd ht ((clash_spec q.2).1 t hdj)
        have hlook : ∀ t ∈ o.looksAt ops, sig ops (s.slot C.pers) ds (fun _ => true) i t = sig ops (s.slot C.pers) ds (fun j => listed.getD j false) m t := by
          intro t ht
          have ht' : t ∈ namesOf ops o := by simp [namesOf, ht]
          have e1 : sig ops (s.slot C.pers) ds (fun j => listed.getD j false) m t = sig ops (s.slot C.pers) ds (fun j => listed.getD j false) i t := by
            refine sig_skip m (by omega) fun j g1 g2 g3 hd => ?_
            by_cases hji : j = i
            · subst hji; rw [hunf] at g3; cases g3
            · have := (ords j g2 hji t ht' hd).1 g3; omega
          rw [e1]
          exact sig_agree i fun j hj hd => ((ords j (by omega) (by omega) t ht' hd).2 hj).symm
        obtain ⟨o', x, r1, r2, r3⟩ := resOps_drop _ _ i ros hr hlt
        rw [Nat.zero_add, ho] at r1; cases r1
        have hx : ros[i]? = some x := by
          have := List.getElem?_drop (xs := ros) (i := i) (j := 0)
          rw [r3] at this; simpa using this.symm
        have hL : ∀ j, (listed.setIfInBounds i true).getD j false = (listed.getD j false || j == i) := fun j => listed_set hlt2
        have hstep : StepQ C ops (F (fun j => listed.getD j false)) (F (fun j => (listed.setIfInBounds i true).getD j false)) (sig ops (s.slot C.pers) ds (fun _ => true) i) o (ds i) := by
          have e : (fun j => (listed.setIfInBounds i true).getD j false) = fun j => listed.getD j false || j == i := funext hL
          rw [e]
          exact hq _ hunf
        refine StepQ.sound hA (hstep.congr hlook) h2 fun a' w' hs' => ih _ a' w' (by simpa using hsz) hu' hcl' (.inl ⟨fun j hj => ?_, ?_⟩)
        · rw [listed_set hlt2] at hj
          simp only [Bool.or_eq_true, beq_iff_eq] at hj
          rcases hj with g | g
          · exact h1 j g
          · omega
        · have e2 : sig ops (s.slot C.pers) ds (fun j => (listed.setIfInBounds i true).getD j false) m = updO (sig ops (s.slot C.pers) ds (fun j => listed.getD j false) m) (dstO ops i) (ds i) := by
            rw [← sig_set him hunf]
            · congr 1; funext j; exact listed_set hlt2
            · intro j t g1 g2 g3 g4 g5
              cases hb : listed.getD j false with
              | false => rfl
              | true =>
                have hoi : o.dst = some t := by simpa [dstO, ho] using g3
                have := (ords j g1 g2 t (by simp [namesOf, hoi]) g4).1 hb
                omega
          rw [e2]
          have : dstO ops i = o.dst := by simp [dstO, ho]
          rw [this]; exact hs'
      · exfalso
        have := (h2 i hlt).2 (by omega)
        rw [hunf] at this; cases this
    · 
      have hmi : m ≤ i := by omega
      have hiff := hafter hmi
      obtain ⟨s', hs', hk'⟩ : ∃ s', Sim C w0 B s' a w ∧ opsWp C.M (ros.drop i) K s' := by
        rcases h with ⟨h1, h2⟩ | ⟨i', s', h1, h2, h3, h4⟩
        · have hie : i = m := by
            rcases Nat.lt_or_ge m i with g | g
            · have := h1 m ((hiff m (by omega)).2 g); omega
            · omega
          subst hie
          exact ⟨s1, conv listed a w h1 (fun j hj => (hiff j (by omega)).2 hj) h2, hk1⟩
        · have hie : i' = i := by
            rcases Nat.lt_trichotomy i' i with g | g | g
            · have q1 := (hiff i' (by omega)).2 g
              have := (h2 i' (by omega)).1 q1; omega
            · exact g
            · have := (h2 i hlt).2 g; rw [hunf] at this; cases this
          subst hie
          exact ⟨s', h3, h4⟩
      obtain ⟨o', x, g1, g2, g3⟩ := resOps_drop _ _ i ros hr hlt
      rw [Nat.zero_add, ho] at g1; cases g1
      rw [g3] at hk'
      refine head_sound hA g2 (K := opsWp C.M (ros.drop (i + 1)) K) (fun s'' a' w' q1 q2 => ih _ a' w' (by simpa using hsz) hu' hcl' (.inr ⟨i + 1, s'', by omega, fun j hj => ?_, q2, q1⟩)) hk' hs'
      rw [listed_set hlt2]
      simp only [Bool.or_eq_true, beq_iff_eq]
      have := hiff j hj
      constructor
      · rintro (q | q)
        · have := this.1 q; omega
        · omega
      · intro q
        by_cases e : j = i
        · exact .inr e
        · exact .inl (this.2 (by omega))
def AnyF (M : Mod) (F : (Nat → Bool) → Hp) (i : Nat) (oc : OC) (ds : List D) (d : D) : Prop := ∀ E : Nat → Bool, E i = false → OcWp M oc ds (F E) (fun d' hp' => d' = d ∧ hp' = F (fun j => E j || j == i))
def Still (F : (Nat → Bool) → Hp) (i : Nat) : Prop := ∀ E : Nat → Bool, E i = false → F (fun j => E j || j == i) = F E
def headF (M : Mod) (F : (Nat → Bool) → Hp) (i : Nat) (o : RO) (K : St → Prop) (s : St) : Prop :=
  match o.guard with
  | none => ∃ d, AnyF M F i o.oc (o.args.map s.get) d ∧ K (s.put o.dst d)
  | some (g, want) =>
    match s.get g with
    | .bool b => (b = want → ∃ d, AnyF M F i o.oc (o.args.map (s.setO g (.bool want)).get) d ∧ K ((s.setO g (.bool want)).put o.dst d)) ∧
        (b = (!want) → Still F i ∧ K ((s.setO g (.bool (!want))).put o.dst .skip))
    | .skip => Still F i ∧ K (s.put o.dst .skip)
    | _ => False
def opsF (M : Mod) (F : (Nat → Bool) → Hp) : Nat → List (RO × Bool) → (St → Prop) → St → Prop
  | j, [], K, s => K { s with hp := F (fun k => decide (k < j)) }
  | i, (o, _) :: r, K, s => headF M F i o (opsF M F (i + 1) r K) s
theorem headF_step {ops : Array Oper} {o : Oper} {x : RO} {K : St → Prop} {s : St} (h1 : resOp1 C ops o = some x) (hl : s.env.length = C.pers.length) {F : (Nat → Bool) → Hp} {i : Nat} (h : headF C.M F i x K s) :
    ∃ d s1, K s1 ∧ s1.hp = s.hp ∧ s1.env.length = C.pers.length ∧ (∀ E : Nat → Bool, E i = false → StepQ C ops (F E) (F (fun j => E j || j == i)) (s.slot C.pers) o d) ∧ s1.slot C.pers = updO (s.slot C.pers) o.dst d := by
  unfold resOp1 at h1
  cases hres : resolveOp C.P o.op with
  | none => simp [hres] at h1
  | some p =>
    obtain ⟨oc, ys⟩ := p
    cases ha : resOs C ys with
    | none => simp [hres, ha] at h1
    | some args =>
      cases hd : resDst C o.dst with
      | none => simp [hres, ha, hd] at h1
      | some dst =>
        cases hg : resGuard C ops o.guard with
        | none => simp [hres, ha, hd, hg] at h1
        | some guard =>
          simp [hres, ha, hd, hg] at h1; subst h1
          cases hog : o.guard with
          | none =>
            simp [hog, resGuard] at hg; subst hg
            simp only [headF] at h
            obtain ⟨d, h2, h3⟩ := h
            rw [map_evO ha] at h2
            exact ⟨d, _, h3, put_hp _ _ _, by rw [put_env_len]; exact hl, fun E hE => ⟨oc, ys, hres, ⟨_, ha⟩, ⟨_, hd⟩, .inl ⟨hog, h2 E hE⟩⟩, put_slot hd hl _⟩
          | some p =>
            obtain ⟨j, want⟩ := p
            simp only [hog, resGuard] at hg
            cases hj : (ops[j]?).bind (·.dst) with
            | none => simp [hj] at hg
            | some t =>
              simp only [hj] at hg
              cases hgo : resO C (.tmp t) with
              | none => simp [hgo] at hg
              | some g =>
                simp [hgo] at hg; subst hg
                have htn := (resO_tmp hgo).2
                simp only [headF] at h
                have hsl : s.slot C.pers t = s.get g := (get_slot hgo).symm
                cases hb : s.get g <;> simp only [hb] at h
                case bool b =>
                  by_cases e : b = want
                  · subst e
                    obtain ⟨d, h2, h3⟩ := h.1 rfl
                    rw [map_evO ha, setO_same hgo hl hb] at h2
                    refine ⟨d, _, h3, by rw [put_hp, setO_hp], by rw [put_env_len]; simpa [setO_len] using hl, fun E hE => ⟨oc, ys, hres, ⟨_, ha⟩, ⟨_, hd⟩, .inr ⟨j, b, t, hog, hj, htn, .inl ⟨by rw [hsl, hb], h2 E hE⟩⟩⟩, ?_⟩
                    rw [put_slot hd (by simpa [setO_len] using hl), setO_same hgo hl hb]
                  · have e' : b = (!want) := by cases b <;> cases want <;> simp_all
                    subst e'
                    refine ⟨.skip, _, (h.2 rfl).2, by rw [put_hp, setO_hp], by rw [put_env_len, setO_len]; exact hl, fun E hE => ⟨oc, ys, hres, ⟨_, ha⟩, ⟨_, hd⟩, .inr ⟨j, want, t, hog, hj, htn, .inr (.inl ⟨by rw [hsl, hb], rfl, (h.2 rfl).1 E hE⟩)⟩⟩, ?_⟩
                    rw [put_slot hd (by rw [setO_len]; exact hl), setO_same hgo hl hb]
                case skip =>
                  exact ⟨.skip, _, h.2, put_hp _ _ _, by rw [put_env_len]; exact hl, fun E hE => ⟨oc, ys, hres, ⟨_, ha⟩, ⟨_, hd⟩, .inr ⟨j, want, t, hog, hj, htn, .inr (.inr ⟨by rw [hsl, hb], rfl, h.1 E hE⟩)⟩⟩, put_slot hd hl _⟩
theorem opsF_trace {ops : Array Oper} {K : St → Prop} {F : (Nat → Bool) → Hp} : ∀ (len k : Nat) (ros : List RO) (qs : List (RO × Bool)) (s : St), resOps C ops (List.range' k len) = some ros → qs.map (·.1) = ros → s.env.length = C.pers.length → opsF C.M F k qs K s →
    ∃ (ds : Nat → D) (σ : Nat → Nat → D) (s1 : St), K s1 ∧ s1.hp = F (fun j => decide (j < k + len)) ∧ s1.env.length = C.pers.length ∧ σ k = s.slot C.pers ∧ σ (k + len) = s1.slot C.pers ∧
      ∀ i, k ≤ i → i < k + len → ∃ o, ops[i]? = some o ∧ (∀ E : Nat → Bool, E i = false → StepQ C ops (F E) (F (fun j => E j || j == i)) (σ i) o (ds i)) ∧ σ (i + 1) = updO (σ i) o.dst (ds i)
  | 0, k, ros, qs, s, hr, hqs, hl, h => by
    simp [resOps] at hr; subst hr
    have : qs = [] := by simpa using hqs
    subst this
    exact ⟨fun _ => .undef, fun _ => s.slot C.pers, _, h, rfl, hl, rfl, rfl, fun i h1 h2 => by omega⟩
  | len + 1, k, ros, qs, s, hr, hqs, hl, h => by
    rw [List.range'_succ] at hr
    obtain ⟨o, x, xs, ho, h1, h2, rfl⟩ := resOps_cons hr
    cases qs with
    | nil => simp at hqs
    | cons p qs =>
      obtain ⟨x', q⟩ := p
      simp only [List.map_cons, List.cons.injEq] at hqs
      obtain ⟨rfl, hqs⟩ := hqs
      simp only [opsF] at h
      obtain ⟨d, s1, k1, _, k3, k4, k5⟩ := headF_step h1 hl h
      obtain ⟨ds, σ, s2, g1, g2, g3, g4, g5, g6⟩ := opsF_trace len (k + 1) xs qs s1 h2 hqs k3 k1
      refine ⟨fun i => if i = k then d else ds i, fun i => if i = k then s.slot C.pers else σ i, s2, g1, ?_, g3, by simp, ?_, fun i h1 h2 => ?_⟩
      · rw [g2]; congr 1; funext j; congr 1; exact propext ⟨fun _ => by omega, fun _ => by omega⟩
      · have : k + (len + 1) ≠ k := by omega
        simp only [this, if_false]
        rw [← g5]; congr 1; omega
      · by_cases ek : i = k
        · subst ek
          refine ⟨o, ho, ?_, ?_⟩
          · simpa using k4
          · simp [g4, k5]
        · obtain ⟨o', q1, q2, q3⟩ := g6 i (by omega) (by omega)
          have e2 : i + 1 ≠ k := by omega
          exact ⟨o', q1, by simpa [ek] using q2, by simpa [ek, e2] using q3⟩
theorem swp_regDF {Q : Ex → St → Prop} {s : St} {qs : List (RO × Bool)} {ros : List RO} (F : (Nat → Bool) → Hp) (h0 : F (fun _ => false) = s.hp) (h : opsF C.M F 0 qs (fun s1 => opsWp C.M ros (fun s' => Q .normal s'.done) s1) s) : SWp C (.regD qs ros) Q s := by
  refine ⟨fun c hc w0 B hA a w hs => ?_⟩
  have hreg : ∀ id ops d, c = .region id ops d → _ := fun id ops d e => res_region (e ▸ hc)
  cases c <;> (try simp only [resCode] at hc) <;> (try (cases hc; done))
  case region id ops d =>
    rcases hreg _ _ _ rfl with ⟨r, h1, _⟩ | ⟨r, h1, rfl, hB1, hB2, hr⟩ | h1
    · cases h1
    · cases h1
      have hB := And.intro hB1 hB2
      · skip
        rw [List.range_eq_range'] at hr
        have hl : s.env.length = C.pers.length := by obtain ⟨_, _, _, _, _, q, _⟩ := hs; exact q
        have hrl : tailAt ops ≤ r.length := by rw [resOps_length _ _ hr]; simpa using tailAt_le ops
        obtain ⟨ds, σ, s1, k1, k2, k3, k4, k5, k6⟩ := opsF_trace (tailAt ops) 0 _ _ s (resOps_take _ _ 0 _ hr (tailAt_le ops)) (flags_fst hrl) hl h
        have hsig : ∀ i, i ≤ tailAt ops → σ i = sig ops (s.slot C.pers) ds (fun _ => true) i := by
          intro i
          induction i with
          | zero => intro _; exact k4
          | succ i ih =>
            intro hi
            obtain ⟨o, q1, _, q3⟩ := k6 i (Nat.zero_le _) (by omega)
            rw [q3, ih (by omega)]
            simp [sig, dstO, q1]
        refine fun ro => wpIn_region_any hB.2 (draw_soundF hA (s := s) (s1 := s1) (K := fun s' => Q .normal s'.done) (ds := ds) (F := F) (m := tailAt ops) (ros := r) hB.1 (tailAt_le ops) hr (fun s a w hk hs => ⟨s.done, weak_done _ _ _ _ hs, hk⟩) hl k1 (by rw [k2, Nat.zero_add]) k3 (fun i hi => ?_) ?_ ops.size _ a _ (by simp) ?_ ?_ (.inl ⟨?_, ?_⟩))
        · obtain ⟨o, q1, q2, _⟩ := k6 i (Nat.zero_le _) (by omega)
          rw [hsig i (by omega)] at q2
          exact ⟨o, q1, q2⟩
        · rw [← hsig _ (Nat.le_refl _), ← k5, Nat.zero_add]
        · simp only [unl, Array.toList_replicate]
          exact Nat.le_trans (List.length_filter_le _ _) (by simp)
        · intro j oj hj hlj
          exfalso
          have : (Array.replicate ops.size false).getD j false = false := by
            simp only [Array.getD_eq_getD_getElem?, Array.getElem?_replicate]; split <;> rfl
          rw [this] at hlj; cases hlj
        · intro j hlj
          exfalso
          have : (Array.replicate ops.size false).getD j false = false := by
            simp only [Array.getD_eq_getD_getElem?, Array.getElem?_replicate]; split <;> rfl
          rw [this] at hlj; cases hlj
        · obtain ⟨G, g0, gb, g1, g2, g3, g4⟩ := hs
          have hrep : ∀ j, (Array.replicate ops.size false).getD j false = false := by
            intro j
            simp only [Array.getD_eq_getD_getElem?, Array.getElem?_replicate]; split <;> rfl
          have e1 : sig ops (s.slot C.pers) ds (fun j => (Array.replicate ops.size false).getD j false) (tailAt ops) = s.slot C.pers := by
            funext t
            exact sig_skip (ops := ops) (σ0 := s.slot C.pers) (ds := ds) (E := fun j => (Array.replicate ops.size false).getD j false) (t := t) (a := 0) (tailAt ops) (Nat.zero_le _) (fun j _ _ hE => by
              rw [hrep] at hE; cases hE)
          have e3 : (fun j => (Array.replicate ops.size false).getD j false) = fun _ => false := funext hrep
          rw [e1, e3, h0]
          obtain ⟨q1, q2⟩ := g0.drawn (w.drawn + 1)
          exact ⟨G, q1, gb, g1, g2, fun t => Rel.evo _ q2 (g4 t)⟩
    · cases h1
  all_goals exfalso; (repeat' split at hc) <;> simp_all
end
section
variable {M : Mod} {F : (Nat → Bool) → Hp} {i : Nat} {dst : Dst} {q : Bool} {r : List (RO × Bool)} {K : St → Prop} {s : St} {oc : OC} {args : List Opd}
theorem y_end {hp' : Hp} (hh : F (fun k => decide (k < i)) = hp') (h : K { s with hp := hp' }) : opsF M F i [] K s := by subst hh; exact h
theorem y_op (d : D) (h1 : AnyF M F i oc (args.map s.get) d) (h : opsF M F (i + 1) r K (s.put dst d)) : opsF M F i ((⟨dst, oc, args, none⟩, q) :: r) K s := ⟨d, h1, h⟩
theorem any_still {ds : List D} {d : D} (hF : Still F i) (h : ∀ hp2, OcWp M oc ds hp2 (fun d' hp' => d' = d ∧ hp' = hp2)) : AnyF M F i oc ds d := fun E hE => by rw [hF E hE]; exact h _
theorem y_q {ds : List D} (d : D) (ha : args.map s.get = ds) (hF : Still F i) (ho : ∀ hp2, OcWp M oc ds hp2 (fun d' hp' => d' = d ∧ hp' = hp2)) (h : opsF M F (i + 1) r K (s.put dst d)) : opsF M F i ((⟨dst, oc, args, none⟩, q) :: r) K s :=
  y_op d (by rw [ha]; exact any_still hF ho) h
theorem y_c {ds : List D} {d : D} (ha : args.map s.get = ds) (h1 : AnyF M F i oc ds d) (h : opsF M F (i + 1) r K (s.put dst d)) : opsF M F i ((⟨dst, oc, args, none⟩, q) :: r) K s :=
  y_op d (by rw [ha]; exact h1) h
theorem y_cg {g : Opd} {want : Bool} {ds : List D} {d : D} (hg : s.get g = .bool want) (ha : args.map (s.setO g (.bool want)).get = ds) (h1 : AnyF M F i oc ds d) (h : opsF M F (i + 1) r K ((s.setO g (.bool want)).put dst d)) :
    opsF M F i ((⟨dst, oc, args, some (g, want)⟩, q) :: r) K s := by
  simp only [opsF, headF, hg]
  exact ⟨fun _ => ⟨d, by rw [ha]; exact h1, h⟩, fun e => by cases want <;> cases e⟩
theorem y_qg {g : Opd} {want : Bool} {ds : List D} (d : D) (hg : s.get g = .bool want) (ha : args.map (s.setO g (.bool want)).get = ds) (hF : Still F i) (ho : ∀ hp2, OcWp M oc ds hp2 (fun d' hp' => d' = d ∧ hp' = hp2)) (h : opsF M F (i + 1) r K ((s.setO g (.bool want)).put dst d)) :
    opsF M F i ((⟨dst, oc, args, some (g, want)⟩, q) :: r) K s := y_cg hg ha (any_still hF ho) h
theorem any_eff {hp0 hp1 : Hp} {ds : List D} {d0 : D} {f : FuncId} (hF : ∀ E : Nat → Bool, E i = false → F E = hp1 ∧ F (fun j => E j || j == i) = hp0) (hc : CallOp M (.fn (.func f) [] [] :: ds) hp1 (fun d hp => d = d0 ∧ hp = hp0)) : AnyF M F i .call (.fn (.func f) [] [] :: ds) d0 := fun E hE => by
  obtain ⟨h1, h2⟩ := hF E hE
  rw [h1, h2]
  simp only [OcWp, isCall, if_true]
  exact hc
theorem any_resv {t n bytes : Nat} {ety : TypeId} {es : List D} {x : D} (he : ∀ hp2, elemsOf hp2 n x = some es) (hK : elemsK n es = true) (hr : roomOk es.length bytes) (hpos : 0 < es.length) (hF : ∀ E : Nat → Bool, E i = false → (F E).tk[t]? = some (.chg n []) ∧ F (fun j => E j || j == i) = { F E with tk := (F E).tk.set t (.chg n (flatD es)) }) :
    AnyF M F i (.app n bytes ety) [.slice [] .full, x] (.gs t es.length) := fun E hE => by
  obtain ⟨h1, h2⟩ := hF E hE
  simp only [OcWp, isCall, Bool.false_eq_true, if_false, opWp]
  exact ⟨es, he _, hK, by simpa using hr, .inr ⟨rfl, hpos, t, h1, rfl, h2.symm⟩⟩
theorem any_newb {z : List D} {n : Nat} (hF : ∀ E : Nat → Bool, E i = false → (F E).H.length = n ∧ F (fun j => E j || j == i) = { F E with H := (F E).H ++ [Blk.cells z] }) : AnyF M F i (.newb z) [] (.ptr n 0) := fun E hE => by
  obtain ⟨h1, h2⟩ := hF E hE
  simp only [OcWp, isCall, Bool.false_eq_true, if_false, opWp]
  exact ⟨by rw [h1], h2.symm⟩
end
theorem weak_resv {C : Cfg} {s : St} (k : Nat) (hk : 0 < k) : Weak C s ⟨s.env, [], { s.hp with tk := s.hp.tk ++ [.chg k []] }⟩ := by
  intro w0 B a w h
  obtain ⟨G, g0, gb, g1, g2, g3, g4⟩ := h
  obtain ⟨q1, q2⟩ := g0.tokFull (len := 0) (a := none) hk (.chg k []) (.inr ⟨rfl, rfl, rfl⟩)
  refine ⟨_, q1, gb, g1, g2, g3, fun t => ?_⟩
  have := Rel.evo _ q2 (g4 t)
  unfold St.slot at *
  split
  · rename_i j hj
    rw [hj] at this
    exact this
  · simp [lk, Rel]
end GoV
end
section
namespace Go.Proofs
open Go.Shelf
def Tryd.lays169_ren : Go.Shelf.Ren := ⟨fun | 169 => 78 | n => n, fun | 70 => 87 | 9 => 9 | 0 => 0 | 72 => 89 | 37 => 80 | 127 => 102 | 3 => 3 | 5 => 5 | n => n, fun | n => n⟩
theorem Tryd.lays169 : Go.Proofs.Lays.n169 Tryd.prog Tryd.lays169_ren := {
  mixed := by kernel_rfl
  f169 := Tryd.func78.trans (congrArg some (by kernel_rfl))
  t0 := Tryd.underlying0
  a0 := Tryd.isAgg0
  z0 := Tryd.sizeOf0
  v0 := Tryd.zeroValue0
  t3 := Tryd.underlying3
  a3 := Tryd.isAgg3
  z3 := Tryd.sizeOf3
  v3 := Tryd.zeroValue3
  t9 := Tryd.underlying9
  a9 := Tryd.isAgg9
  z9 := Tryd.sizeOf9
  v9 := Tryd.zeroValue9
  t37 := Tryd.underlying80
  a37 := Tryd.isAgg80
  z37 := Tryd.sizeOf80
  v37 := Tryd.zeroValue80
  t70 := Tryd.underlying87
  a70 := Tryd.isAgg87
  z70 := Tryd.sizeOf87
  v70 := Tryd.zeroValue87
  t72 := Tryd.underlying89
  a72 := Tryd.isAgg89
  z72 := Tryd.sizeOf89
  v72 := Tryd.zeroValue89
  t127 := Tryd.underlying102
  a127 := Tryd.isAgg102
  z127 := Tryd.sizeOf102
  v127 := Tryd.zeroValue102 }
theorem Tryd.Builder_Extra_169 : Builder.Extra Tryd.prog Tryd.lays169_ren := {
  sizeBuilder := by kernel_rfl
  liesBuilder := by kernel_rfl
  t5 := Tryd.underlying5
  a5 := Tryd.isAgg5
  z5 := Tryd.sizeOf5
  v5 := Tryd.zeroValue5
  infoByte := by kernel_rfl
  cellsByte := by kernel_rfl
  sizeByte := by kernel_rfl
  neB5 := by decide }
def Tryd.lays137_ren : Go.Shelf.Ren := ⟨fun | 137 => 58 | 217 => 75 | 266 => 84 | n => n, fun | 9 => 9 | 5 => 5 | 3 => 3 | n => n, fun | n => n⟩
theorem Tryd.lays137 : Go.Proofs.Lays.n137 Tryd.prog Tryd.lays137_ren := {
  mixed := by kernel_rfl
  f137 := Tryd.func58.trans (congrArg some (by kernel_rfl))
  f217 := Tryd.func75.trans (congrArg some (by kernel_rfl))
  f266 := Tryd.func84.trans (congrArg some (by kernel_rfl))
  t3 := Tryd.underlying3
  a3 := Tryd.isAgg3
  z3 := Tryd.sizeOf3
  v3 := Tryd.zeroValue3
  t5 := Tryd.underlying5
  a5 := Tryd.isAgg5
  z5 := Tryd.sizeOf5
  v5 := Tryd.zeroValue5
  t9 := Tryd.underlying9
  a9 := Tryd.isAgg9
  z9 := Tryd.sizeOf9
  v9 := Tryd.zeroValue9 }
open Go.RowKit in
theorem Tryd.strings_IndexByte (s : ByteArray) (c : Int) (w : World) :
    Calls Tryd.prog 58 #[.string s, .int .u8 c] w fun e w' => e = .returned (.int .i64 (Lib.indexByte s.data.toList c.toNat.toUInt8)) ∧ w' = w := Any.strings_IndexByte Tryd.lays137 s c w
def Tryd.laysM171_ren : Go.Shelf.Ren := ⟨fun | 171 => 59 | 243 => 76 | 246 => 85 | 283 => 90 | 284 => 91 | 285 => 92 | 286 => 93 | 129 => 99 | 317 => 98 | 318 => 100 | 319 => 101 | 320 => 102 | 337 => 103 | 338 => 104 | n => n, fun | 3 => 3 | 9 => 9 | 2 => 2 | 4 => 4 | 171 => 104 | 0 => 0 | 53 => 64 | 37 => 80 | 5 => 5 | 173 => 107 | 212 => 118 | 51 => 119 | 20 => 20 | 213 => 120 | 46 => 82 | 232 => 124 | 233 => 125 | n => n, fun | 17 => 3 | 18 => 4 | 19 => 5 | n => n⟩
theorem Tryd.laysM171 : Go.Proofs.LaysM.n171 Tryd.prog Tryd.laysM171_ren := {
  mixed := by kernel_rfl
  f129 := Tryd.func99.trans (congrArg some (by kernel_rfl))
  f171 := Tryd.func59.trans (congrArg some (by kernel_rfl))
  f243 := Tryd.func76.trans (congrArg some (by kernel_rfl))
  f246 := Tryd.func85.trans (congrArg some (by kernel_rfl))
  f283 := Tryd.func90.trans (congrArg some (by kernel_rfl))
  f284 := Tryd.func91.trans (congrArg some (by kernel_rfl))
  f285 := Tryd.func92.trans (congrArg some (by kernel_rfl))
  f286 := Tryd.func93.trans (congrArg some (by kernel_rfl))
  f317 := Tryd.func98.trans (congrArg some (by kernel_rfl))
  f318 := Tryd.func100.trans (congrArg some (by kernel_rfl))
  f319 := Tryd.func101.trans (congrArg some (by kernel_rfl))
  f320 := Tryd.func102.trans (congrArg some (by kernel_rfl))
  f337 := Tryd.func103.trans (congrArg some (by kernel_rfl))
  f338 := Tryd.func104.trans (congrArg some (by kernel_rfl))
  t0 := Tryd.underlying0
  a0 := Tryd.isAgg0
  z0 := Tryd.sizeOf0
  v0 := Tryd.zeroValue0
  t2 := Tryd.underlying2
  a2 := Tryd.isAgg2
  z2 := Tryd.sizeOf2
  v2 := Tryd.zeroValue2
  t3 := Tryd.underlying3
  a3 := Tryd.isAgg3
  z3 := Tryd.sizeOf3
  v3 := Tryd.zeroValue3
  t4 := Tryd.underlying4
  a4 := Tryd.isAgg4
  z4 := Tryd.sizeOf4
  v4 := Tryd.zeroValue4
  t5 := Tryd.underlying5
  a5 := Tryd.isAgg5
  z5 := Tryd.sizeOf5
  v5 := Tryd.zeroValue5
  t9 := Tryd.underlying9
  a9 := Tryd.isAgg9
  z9 := Tryd.sizeOf9
  v9 := Tryd.zeroValue9
  t20 := Tryd.underlying20
  a20 := Tryd.isAgg20
  z20 := Tryd.sizeOf20
  v20 := Tryd.zeroValue20
  t37 := Tryd.underlying80
  a37 := Tryd.isAgg80
  z37 := Tryd.sizeOf80
  v37 := Tryd.zeroValue80
  t46 := Tryd.underlying82
  a46 := Tryd.isAgg82
  z46 := Tryd.sizeOf82
  v46 := Tryd.zeroValue82
  t51 := Tryd.underlying119
  a51 := Tryd.isAgg119
  z51 := Tryd.sizeOf119
  v51 := Tryd.zeroValue119
  t53 := Tryd.underlying64
  a53 := Tryd.isAgg64
  z53 := Tryd.sizeOf64
  v53 := Tryd.zeroValue64
  t171 := Tryd.underlying104
  a171 := Tryd.isAgg104
  z171 := Tryd.sizeOf104
  v171 := Tryd.zeroValue104
  t173 := Tryd.underlying107
  a173 := Tryd.isAgg107
  z173 := Tryd.sizeOf107
  v173 := Tryd.zeroValue107
  t212 := Tryd.underlying118
  a212 := Tryd.isAgg118
  z212 := Tryd.sizeOf118
  v212 := Tryd.zeroValue118
  t213 := Tryd.underlying120
  a213 := Tryd.isAgg120
  z213 := Tryd.sizeOf120
  t232 := Tryd.underlying124
  a232 := Tryd.isAgg124
  z232 := Tryd.sizeOf124
  v232 := Tryd.zeroValue124
  t233 := Tryd.underlying125
  a233 := Tryd.isAgg125
  z233 := Tryd.sizeOf125
  v233 := Tryd.zeroValue125
  g17 := by kernel_rfl
  g18 := by kernel_rfl
  g19 := by kernel_rfl
  i0 := by kernel_rfl
  i2 := by kernel_rfl
  i3 := by kernel_rfl
  i4 := by kernel_rfl
  i5 := by kernel_rfl
  i9 := by kernel_rfl
  i20 := by kernel_rfl
  i37 := by kernel_rfl
  i46 := by kernel_rfl
  i51 := by kernel_rfl
  i53 := by kernel_rfl
  i171 := by kernel_rfl
  i173 := by kernel_rfl
  i212 := by kernel_rfl
  i232 := by kernel_rfl
  i233 := by kernel_rfl
  m17 := by kernel_rfl
  m18 := by kernel_rfl
  m19 := by kernel_rfl }
open Go.RowKit Go.Sort Go.Lib in
theorem Tryd.strconv_Itoa (n : Int) (h0 : -9223372036854775808 ≤ n) (h1 : n ≤ 9223372036854775807) (w : World) (htab : Lib.TabIs Tryd.prog w "internal/strconv.uint64pow10" .u64 Lib.pow10Tab) :
    Calls Tryd.prog 59 #[.int .i64 n] w fun e w' => e = .returned (.string ⟨(Lib.itoa n).toArray⟩) ∧ ∃ k os, w' = grow (w.drewN k) os := Any.strconv_Itoa Tryd.laysM171 n h0 h1 w htab
def Tryd.lays227_ren : Go.Shelf.Ren := ⟨fun | 227 => 65 | n => n, fun | 9 => 9 | 116 => 75 | 4 => 4 | 0 => 0 | 3 => 3 | 5 => 5 | n => n, fun | n => n⟩
theorem Tryd.lays227 : Go.Proofs.Lays.n227 Tryd.prog Tryd.lays227_ren := {
  mixed := by kernel_rfl
  f227 := Tryd.func65.trans (congrArg some (by kernel_rfl))
  t0 := Tryd.underlying0
  a0 := Tryd.isAgg0
  z0 := Tryd.sizeOf0
  v0 := Tryd.zeroValue0
  t3 := Tryd.underlying3
  a3 := Tryd.isAgg3
  z3 := Tryd.sizeOf3
  v3 := Tryd.zeroValue3
  t4 := Tryd.underlying4
  a4 := Tryd.isAgg4
  z4 := Tryd.sizeOf4
  v4 := Tryd.zeroValue4
  t5 := Tryd.underlying5
  a5 := Tryd.isAgg5
  z5 := Tryd.sizeOf5
  v5 := Tryd.zeroValue5
  t9 := Tryd.underlying9
  a9 := Tryd.isAgg9
  z9 := Tryd.sizeOf9
  v9 := Tryd.zeroValue9
  t116 := Tryd.underlying75
  a116 := Tryd.isAgg75
  z116 := Tryd.sizeOf75 }
open Go.RowKit Go.Lib in
theorem Tryd.strings_makeASCIISet (hv116 : ∀ w, (zeroValue 75).run Tryd.prog w = .ok (.agg (Array.replicate 256 (.bool false))) w) (chars : ByteArray) (w : World) (hs : chars.size < 4294967281) (hascii : ∀ (j : Nat) b, chars.data.toList[j]? = some b → b.toNat < 128) :
    Calls Tryd.prog 65 #[.string chars] w fun e w' => e = .returned (.tuple #[.agg (Lib.setCells chars.data.toList), .bool true]) ∧ w' = w.alloc (.cells (Lib.setCells chars.data.toList) 75) := Any.strings_makeASCIISet Tryd.lays227 hv116 (by kernel_rfl) chars w hs hascii
def Tryd.lays264_ren : Go.Shelf.Ren := ⟨fun | 264 => 83 | n => n, fun | 53 => 64 | 46 => 82 | n => n, fun | n => n⟩
theorem Tryd.lays264 : Go.Proofs.Lays.n264 Tryd.prog Tryd.lays264_ren := {
  mixed := by kernel_rfl
  f264 := Tryd.func83.trans (congrArg some (by kernel_rfl))
  t46 := Tryd.underlying82
  a46 := Tryd.isAgg82
  z46 := Tryd.sizeOf82
  v46 := Tryd.zeroValue82
  t53 := Tryd.underlying64
  a53 := Tryd.isAgg64
  z53 := Tryd.sizeOf64
  v53 := Tryd.zeroValue64 }
open Go.RowKit Go.Lib in
theorem Tryd.bits_Mul64 (x y : Nat) (hx : x < 18446744073709551616) (hy : y < 18446744073709551616) (w : World) :
    Calls Tryd.prog 83 #[.int .u64 x, .int .u64 y] w fun e w' => e = .returned (.tuple #[.int .u64 ((x * y / 18446744073709551616 : Nat) : Int), .int .u64 ((x * y % 18446744073709551616 : Nat) : Int)]) ∧ w' = w := Any.bits_Mul64 Tryd.lays264 x y hx hy w
end Go.Proofs
end
section
set_option maxRecDepth 100000
namespace Go.Proofs.YtgjkhlnpplajjaaDoor
open Go GoV
noncomputable def M : Mod := varMod Tryd.prog [(3, fun cs => cs = (Lib.pow10Tab.map (Value.int .u64 ·)).toArray)]
/- 73 bogie.digest.mix · 1 arguments · kept slots [0, 2] -/
noncomputable def E73 (n m : Nat) : Cfg := ⟨M, [0, 2], 21, n, m, []⟩
noncomputable def C73 : Cfg := E73 0 0
@[reducible] noncomputable def r73_0 : List RO := [
  ⟨.var 1, .mv, [(.con (.int .u64 0))], none⟩]
@[reducible] noncomputable def r73_1 : List RO := [
  ⟨.loc 4, .mv, [.var 0], none⟩,
  ⟨.loc 5, .call, [(.con (.fn (.func 83) [] [])), .loc 4, (.con (.int .u64 6364136223846793005))], none⟩,
  ⟨.loc 3, .mv, [.loc 5], none⟩,
  ⟨.loc 6, .ext 0, [.loc 3], none⟩,
  ⟨.loc 7, .ext 1, [.loc 3], none⟩,
  ⟨.var 0, .mv, [.loc 7], none⟩]
@[reducible] noncomputable def r73_2 : List RO := [
  ⟨.loc 8, .mv, [.var 0], none⟩,
  ⟨.loc 9, .mv, [.var 0], none⟩,
  ⟨.loc 10, .bin .shr, [.loc 9, (.con (.int .u64 33))], none⟩,
  ⟨.loc 11, .bin .xor, [.loc 8, .loc 10], none⟩,
  ⟨.var 0, .mv, [.loc 11], none⟩]
@[reducible] noncomputable def r73_3 : List RO := [
  ⟨.loc 13, .mv, [.var 0], none⟩,
  ⟨.loc 14, .call, [(.con (.fn (.func 83) [] [])), .loc 13, (.con (.int .u64 2685821657736338717))], none⟩,
  ⟨.loc 12, .mv, [.loc 14], none⟩,
  ⟨.loc 15, .ext 0, [.loc 12], none⟩,
  ⟨.loc 16, .ext 1, [.loc 12], none⟩,
  ⟨.var 0, .mv, [.loc 16], none⟩]
@[reducible] noncomputable def r73_4 : List RO := [
  ⟨.loc 17, .mv, [.var 0], none⟩,
  ⟨.loc 18, .mv, [.var 0], none⟩,
  ⟨.loc 19, .bin .shr, [.loc 18, (.con (.int .u64 27))], none⟩,
  ⟨.loc 20, .bin .xor, [.loc 17, .loc 19], none⟩,
  ⟨.var 1, .mv, [.loc 20], none⟩]
theorem P73 : C73.M = M := by unfold C73 E73; rfl
theorem i73 {a0 : D} : St.init C73 [a0] ⟨[], []⟩ = ⟨[a0, .undef], [], ⟨[], []⟩⟩ := by unfold C73 E73; rfl
noncomputable def c73 : RC := (.seq (.reg r73_0) (.seq (.reg r73_1) (.seq (.reg r73_2) (.seq (.reg r73_3) (.seq (.reg r73_4) .ret)))))
noncomputable def q73 : List RR := [(.slot (.var 1))]
theorem z73 {n m : Nat} : resCode (E73 n m) (Tryd.f73.body.getD .skip) = some c73 := by kernel_rfl
theorem zr73 {n m : Nat} : resRs (E73 n m) Tryd.f73.results.toList = some q73 := by kernel_rfl
theorem ok73 {args : List D} {d : D} (hl : args.length = 1) (h : SWp C73 c73 (fun e s => (match e with | .exit _ => False | _ => True) ∧ rrsWp q73 s fun ds => D.closed (oneOrTup ds) = true ∧ (oneOrTup ds).er = d) (St.init C73 args ⟨[], []⟩)) : Pur M 73 args d :=
  pur_of_body (C := C73) (fn := Tryd.f73) Tryd.func73 (by kernel_rfl) (by kernel_rfl) (rc := c73) z73 (rs := q73) zr73 (by kernel_rfl) (by rw [hl]; rfl) (by rw [hl]; decide) rfl rfl h
/- 74 bogie.digest.digits · 0 arguments · kept slots [0, 1, 2, 3, 4, 12] -/
noncomputable def E74 (n m : Nat) : Cfg := ⟨M, [0, 1, 2, 3, 4, 12], 21, n, m, []⟩
noncomputable def C74 : Cfg := E74 0 0
@[reducible] noncomputable def r74_0 : List RO := [
  ⟨.var 0, (.newb [(.int .u8 0), (.int .u8 0), (.int .u8 0), (.int .u8 0), (.int .u8 0), (.int .u8 0), (.int .u8 0), (.int .u8 0), (.int .u8 0), (.int .u8 0), (.int .u8 0), (.int .u8 0), (.int .u8 0), (.int .u8 0), (.int .u8 0), (.int .u8 0)]), [], none⟩]
@[reducible] noncomputable def r74_1 : List RO := [
  ⟨.var 1, (.newb [(.int .u8 0), (.int .u8 0), (.int .u8 0), (.int .u8 0), (.int .u8 0), (.int .u8 0), (.int .u8 0), (.int .u8 0), (.int .u8 0), (.int .u8 0), (.int .u8 0), (.int .u8 0), (.int .u8 0), (.int .u8 0), (.int .u8 0), (.int .u8 0)]), [], none⟩]
@[reducible] noncomputable def r74_2 : List RO := [
  ⟨.var 3, .mv, [.con (.int .i64 0)], none⟩]
@[reducible] noncomputable def r74_3 : List RO := [
  ⟨.var 4, .bin .lss, [.var 3, .con (.int .i64 16)], none⟩]
@[reducible] noncomputable def r74_4 : List RO := [
  ⟨.loc 5, .mv, [.var 3], none⟩,
  ⟨.var 2, .mv, [.loc 5], none⟩]
@[reducible] noncomputable def r74_5 : List RO := [
  ⟨.loc 6, .mv, [.var 2], none⟩,
  ⟨.loc 7, .mv, [.var 2], none⟩,
  ⟨.loc 8, .bin .add, [.con (.int .i64 48), .loc 7], none⟩,
  ⟨.loc 9, .cvI .u8, [.loc 8], none⟩,
  ⟨.loc 10, .ixaA 16 1, [.var 1, .loc 6], none⟩,
  ⟨.none, .st 1, [.loc 10, .loc 9], none⟩]
@[reducible] noncomputable def r74_6 : List RO := [
  ⟨.loc 11, .mv, [.var 2], none⟩,
  ⟨.var 5, .bin .geq, [.loc 11, .con (.int .i64 10)], none⟩]
@[reducible] noncomputable def r74_7 : List RO := [
  ⟨.loc 13, .mv, [.var 2], none⟩,
  ⟨.loc 14, .mv, [.var 2], none⟩,
  ⟨.loc 15, .bin .add, [.con (.int .i64 97), .loc 14], none⟩,
  ⟨.loc 16, .bin .sub, [.loc 15, .con (.int .i64 10)], none⟩,
  ⟨.loc 17, .cvI .u8, [.loc 16], none⟩,
  ⟨.loc 18, .ixaA 16 1, [.var 1, .loc 13], none⟩,
  ⟨.none, .st 1, [.loc 18, .loc 17], none⟩]
@[reducible] noncomputable def r74_8 : List RO := [
  ⟨.loc 19, .bin .add, [.var 3, .con (.int .i64 1)], none⟩,
  ⟨.var 3, .mv, [.loc 19], none⟩]
@[reducible] noncomputable def r74_9 : List RO := [
  ⟨.loc 20, .ld true 16, [.var 1], none⟩,
  ⟨.none, .st 16, [.var 0, .loc 20], none⟩]
theorem P74 : C74.M = M := by unfold C74 E74; rfl
theorem i74 : St.init C74 [] ⟨[], []⟩ = ⟨[.undef, .undef, .undef, .undef, .undef, .undef], [], ⟨[], []⟩⟩ := by unfold C74 E74; rfl
noncomputable def c74 : RC := (.seq (.reg r74_0) (.seq (.reg r74_1) (.seq (.seq (.reg r74_2) (.block 0 (.loop (.seq (.reg r74_3) (.seq (.cond (.var 4) .skip (.exit 0)) (.seq (.block 1 (.seq (.reg r74_4) (.seq (.reg r74_5) (.seq (.reg r74_6) (.cond (.var 5) (.reg r74_7) .skip))))) (.reg r74_8))))))) (.seq (.reg r74_9) .ret))))
noncomputable def q74 : List RR := [(.cell (.var 0) true 16)]
theorem z74 {n m : Nat} : resCode (E74 n m) (Tryd.f74.body.getD .skip) = some c74 := by kernel_rfl
theorem zr74 {n m : Nat} : resRs (E74 n m) Tryd.f74.results.toList = some q74 := by kernel_rfl
theorem ok74 {args : List D} {d : D} (hl : args.length = 0) (h : SWp C74 c74 (fun e s => (match e with | .exit _ => False | _ => True) ∧ rrsWp q74 s fun ds => D.closed (oneOrTup ds) = true ∧ (oneOrTup ds).er = d) (St.init C74 args ⟨[], []⟩)) : Pur M 74 args d :=
  pur_of_body (C := C74) (fn := Tryd.f74) Tryd.func74 (by kernel_rfl) (by kernel_rfl) (rc := c74) z74 (rs := q74) zr74 (by kernel_rfl) (by rw [hl]; rfl) (by rw [hl]; decide) rfl rfl h
/- 72 bogie.digest.Sum$1 · 2 arguments · kept slots [0, 1, 3, 4, 5, 9, 10] -/
noncomputable def E72 (n m : Nat) : Cfg := ⟨M, [0, 1, 3, 4, 5, 9, 10], 24, n, m, []⟩
@[reducible] noncomputable def r72_0 : List RO := [
  ⟨.var 2, (.newb [(.int .u8 0), (.int .u8 0), (.int .u8 0), (.int .u8 0), (.int .u8 0), (.int .u8 0), (.int .u8 0), (.int .u8 0)]), [], none⟩]
@[reducible] noncomputable def r72_1 : List RO := [
  ⟨.loc 6, .slcA 8 1 false false, [.var 2], none⟩,
  ⟨.loc 7, .mv, [.var 0], none⟩,
  ⟨.loc 8, .cpy 1, [.loc 6, .loc 7], none⟩]
@[reducible] noncomputable def r72_2 : List RO := [
  ⟨.var 3, .mv, [(.con (.int .u64 0))], none⟩]
@[reducible] noncomputable def r72_3 : List RO := [
  ⟨.var 5, .mv, [.con (.int .i64 0)], none⟩]
@[reducible] noncomputable def r72_4 : List RO := [
  ⟨.var 6, .bin .lss, [.var 5, .con (.int .i64 8)], none⟩]
@[reducible] noncomputable def r72_5 : List RO := [
  ⟨.loc 11, .mv, [.var 5], none⟩,
  ⟨.var 4, .mv, [.loc 11], none⟩]
@[reducible] noncomputable def r72_6 : List RO := [
  ⟨.loc 12, .mv, [.var 3], none⟩,
  ⟨.loc 13, .bin .shl, [.loc 12, (.con (.int .u64 8))], none⟩,
  ⟨.loc 14, .mv, [.var 4], none⟩,
  ⟨.loc 15, .ixaA 8 1, [.var 2, .loc 14], none⟩,
  ⟨.loc 16, .ld false 1, [.loc 15], none⟩,
  ⟨.loc 17, .cvI .u64, [.loc 16], none⟩,
  ⟨.loc 18, .bin .or, [.loc 13, .loc 17], none⟩,
  ⟨.var 3, .mv, [.loc 18], none⟩]
@[reducible] noncomputable def r72_7 : List RO := [
  ⟨.loc 19, .bin .add, [.var 5, .con (.int .i64 1)], none⟩,
  ⟨.var 5, .mv, [.loc 19], none⟩]
@[reducible] noncomputable def r72_8 : List RO := [
  ⟨.loc 20, .ld false 1, [.var 1], none⟩,
  ⟨.loc 21, .mv, [.var 3], none⟩,
  ⟨.loc 22, .bin .xor, [.loc 20, .loc 21], none⟩,
  ⟨.loc 23, .call, [(.con (.fn (.func 73) [] [])), .loc 22], none⟩,
  ⟨.none, .st 1, [.var 1, .loc 23], none⟩]
theorem pe72 {n m : Nat} : (E72 n m).M = M := by unfold E72; rfl
theorem ie72 {n m : Nat} {hp : Hp} {a0 a1 : D} : St.init (E72 n m) [a0, a1] hp = ⟨[a0, a1, .undef, .undef, .undef, .undef, .undef], [], hp⟩ := by unfold E72; rfl
noncomputable def c72 : RC := (.seq (.reg r72_0) (.seq (.reg r72_1) (.seq (.reg r72_2) (.seq (.seq (.reg r72_3) (.block 0 (.loop (.seq (.reg r72_4) (.seq (.cond (.var 6) .skip (.exit 0)) (.seq (.block 1 (.seq (.reg r72_5) (.reg r72_6))) (.reg r72_7))))))) (.reg r72_8)))))
noncomputable def q72 : List RR := []
theorem z72 {n m : Nat} : resCode (E72 n m) (Tryd.f72.body.getD .skip) = some c72 := by kernel_rfl
theorem zr72 {n m : Nat} : resRs (E72 n m) Tryd.f72.results.toList = some q72 := by kernel_rfl
theorem oe72 {args : List D} {hp : Hp} {R : D → Hp → Prop} (n m : Nat) (hl : args.length = 2) (hn : n = hp.H.length) (hm : m = hp.tk.length) (h : SWp (E72 n m) c72 (fun e s => (match e with | .exit _ => False | _ => True) ∧ ∃ s1, Weak (E72 n m) s s1 ∧ rrsWp q72 s1 fun ds => R (oneOrTup ds) s1.hp) (St.init (E72 n m) args hp)) : Eff M 72 args hp R :=
  eff_of_body (C := E72 n m) (fn := Tryd.f72) Tryd.func72 (by kernel_rfl) (by kernel_rfl) (rc := c72) z72 (rs := q72) zr72 (by kernel_rfl) (by rw [hl]; rfl) (by rw [hl]; exact (by decide : 2 ≤ 24)) hn hm h
/- 57 bogie.digest.Sum · 1 arguments · kept slots [0, 2, 3, 4, 5, 6, 7, 15, 26, 27] -/
noncomputable def E57 (n m : Nat) : Cfg := ⟨M, [0, 2, 3, 4, 5, 6, 7, 15, 26, 27], 42, n, m, []⟩
noncomputable def C57 : Cfg := E57 0 0
@[reducible] noncomputable def r57_0 : List RO := [
  ⟨.var 1, .mv, [(.con (.str []))], none⟩]
@[reducible] noncomputable def r57_1 : List RO := [
  ⟨.loc 8, .mv, [.var 0], none⟩,
  ⟨.loc 9, .lenS, [.loc 8], none⟩,
  ⟨.loc 10, .cvI .u64, [.loc 9], none⟩,
  ⟨.loc 11, .bin .xor, [(.con (.int .u64 7046029254386353131)), .loc 10], none⟩,
  ⟨.var 2, (.newb [(.int .u64 0)]), [], none⟩,
  ⟨.none, .st 1, [.var 2, .loc 11], none⟩]
@[reducible] noncomputable def r57_2 : List RO := [
  ⟨.loc 12, (.mkF (.func 72) 0), [.var 2], none⟩,
  ⟨.var 3, .mv, [.loc 12], none⟩]
@[reducible] noncomputable def r57_3 : List RO := [
  ⟨.loc 13, .mv, [.var 0], none⟩,
  ⟨.loc 14, .lenS, [.loc 13], none⟩,
  ⟨.var 7, .bin .geq, [.loc 14, .con (.int .i64 8)], none⟩]
@[reducible] noncomputable def r57_4 : List RO := [
  ⟨.loc 18, .mv, [.var 3], none⟩,
  ⟨.loc 19, .mv, [.var 0], none⟩,
  ⟨.loc 20, .slcS false true, [.loc 19, .con (.int .i64 8)], none⟩,
  ⟨.loc 21, .call, [.loc 18, .loc 20], none⟩]
@[reducible] noncomputable def r57_5 : List RO := [
  ⟨.loc 16, .mv, [.var 0], none⟩,
  ⟨.loc 17, .slcS true false, [.loc 16, .con (.int .i64 8)], none⟩,
  ⟨.var 0, .mv, [.loc 17], none⟩]
@[reducible] noncomputable def r57_6 : List RO := [
  ⟨.loc 22, .mv, [.var 3], none⟩,
  ⟨.loc 23, .mv, [.var 0], none⟩,
  ⟨.loc 24, .call, [.loc 22, .loc 23], none⟩]
@[reducible] noncomputable def r57_7 : List RO := [
  ⟨.loc 25, .call, [(.con (.fn (.func 74) [] []))], none⟩,
  ⟨.var 4, (.newb [(.int .u8 0), (.int .u8 0), (.int .u8 0), (.int .u8 0), (.int .u8 0), (.int .u8 0), (.int .u8 0), (.int .u8 0), (.int .u8 0), (.int .u8 0), (.int .u8 0), (.int .u8 0), (.int .u8 0), (.int .u8 0), (.int .u8 0), (.int .u8 0)]), [], none⟩,
  ⟨.none, .st 16, [.var 4, .loc 25], none⟩]
@[reducible] noncomputable def r57_8 : List RO := [
  ⟨.var 5, (.newb [(.int .u8 0), (.int .u8 0), (.int .u8 0), (.int .u8 0), (.int .u8 0), (.int .u8 0), (.int .u8 0), (.int .u8 0), (.int .u8 0), (.int .u8 0), (.int .u8 0), (.int .u8 0), (.int .u8 0), (.int .u8 0), (.int .u8 0), (.int .u8 0)]), [], none⟩]
@[reducible] noncomputable def r57_9 : List RO := [
  ⟨.var 8, .mv, [.con (.int .i64 0)], none⟩]
@[reducible] noncomputable def r57_10 : List RO := [
  ⟨.var 9, .bin .lss, [.var 8, .con (.int .i64 16)], none⟩]
@[reducible] noncomputable def r57_11 : List RO := [
  ⟨.loc 28, .mv, [.var 8], none⟩,
  ⟨.var 6, .mv, [.loc 28], none⟩]
@[reducible] noncomputable def r57_12 : List RO := [
  ⟨.loc 29, .mv, [.var 6], none⟩,
  ⟨.loc 30, .ld false 1, [.var 2], none⟩,
  ⟨.loc 31, .mv, [.var 6], none⟩,
  ⟨.loc 32, .bin .mul, [.con (.int .i64 4), .loc 31], none⟩,
  ⟨.loc 33, .bin .sub, [.con (.int .i64 60), .loc 32], none⟩,
  ⟨.loc 34, .bin .shr, [.loc 30, .loc 33], none⟩,
  ⟨.loc 35, .bin .and, [.loc 34, (.con (.int .u64 15))], none⟩,
  ⟨.loc 36, .ixaA 16 1, [.var 4, .loc 35], none⟩,
  ⟨.loc 37, .ld false 1, [.loc 36], none⟩,
  ⟨.loc 38, .ixaA 16 1, [.var 5, .loc 29], none⟩,
  ⟨.none, .st 1, [.loc 38, .loc 37], none⟩]
@[reducible] noncomputable def r57_13 : List RO := [
  ⟨.loc 39, .bin .add, [.var 8, .con (.int .i64 1)], none⟩,
  ⟨.var 8, .mv, [.loc 39], none⟩]
@[reducible] noncomputable def r57_14 : List RO := [
  ⟨.loc 40, .slcA 16 1 false false, [.var 5], none⟩,
  ⟨.loc 41, .b2s, [.loc 40], none⟩,
  ⟨.var 1, .mv, [.loc 41], none⟩]
theorem P57 : C57.M = M := by unfold C57 E57; rfl
theorem i57 {a0 : D} : St.init C57 [a0] ⟨[], []⟩ = ⟨[a0, .undef, .undef, .undef, .undef, .undef, .undef, .undef, .undef, .undef], [], ⟨[], []⟩⟩ := by unfold C57 E57; rfl
noncomputable def c57 : RC := (.seq (.reg r57_0) (.seq (.reg r57_1) (.seq (.reg r57_2) (.seq (.block 0 (.loop (.seq (.seq (.reg r57_3) (.cond (.var 7) .skip (.exit 0))) (.seq (.block 1 (.reg r57_4)) (.reg r57_5))))) (.seq (.reg r57_6) (.seq (.reg r57_7) (.seq (.reg r57_8) (.seq (.seq (.reg r57_9) (.block 2 (.loop (.seq (.reg r57_10) (.seq (.cond (.var 9) .skip (.exit 2)) (.seq (.block 3 (.seq (.reg r57_11) (.reg r57_12))) (.reg r57_13))))))) (.seq (.reg r57_14) .ret)))))))))
noncomputable def q57 : List RR := [(.slot (.var 1))]
theorem z57 {n m : Nat} : resCode (E57 n m) (Tryd.f57.body.getD .skip) = some c57 := by kernel_rfl
theorem zr57 {n m : Nat} : resRs (E57 n m) Tryd.f57.results.toList = some q57 := by kernel_rfl
theorem ok57 {args : List D} {d : D} (hl : args.length = 1) (h : SWp C57 c57 (fun e s => (match e with | .exit _ => False | _ => True) ∧ rrsWp q57 s fun ds => D.closed (oneOrTup ds) = true ∧ (oneOrTup ds).er = d) (St.init C57 args ⟨[], []⟩)) : Pur M 57 args d :=
  pur_of_body (C := C57) (fn := Tryd.f57) Tryd.func57 (by kernel_rfl) (by kernel_rfl) (rc := c57) z57 (rs := q57) zr57 (by kernel_rfl) (by rw [hl]; rfl) (by rw [hl]; decide) rfl rfl h
/- 77 (*strings.Builder).WriteString · 2 arguments · kept slots [0, 1, 4, 5] -/
noncomputable def E77 (n m : Nat) : Cfg := ⟨M, [0, 1, 4, 5], 19, n, m, []⟩
@[reducible] noncomputable def r77_0 : List RO := [
  ⟨.var 2, .mv, [.con (.int .i64 0)], none⟩,
  ⟨.var 3, .mv, [(.con (.lit .nilIface))], none⟩]
@[reducible] noncomputable def r77_1 : List RO := [
  ⟨.loc 6, .mv, [.var 0], none⟩,
  ⟨.loc 7, .call, [(.con (.fn (.func 86) [] [])), .loc 6], none⟩]
@[reducible] noncomputable def r77_2 : List RO := [
  ⟨.loc 8, .mv, [.var 0], none⟩,
  ⟨.loc 9, .mv, [.var 0], none⟩,
  ⟨.loc 10, .nck, [.loc 9], none⟩,
  ⟨.loc 11, .fld 1, [.loc 10], none⟩,
  ⟨.loc 12, .ld false 1, [.loc 11], none⟩,
  ⟨.loc 13, .mv, [.var 1], none⟩,
  ⟨.loc 14, .app 1 1 5, [.loc 12, .loc 13], none⟩,
  ⟨.loc 15, .nck, [.loc 8], none⟩,
  ⟨.loc 16, .fld 1, [.loc 15], none⟩,
  ⟨.none, .st 1, [.loc 16, .loc 14], none⟩]
@[reducible] noncomputable def r77_3 : List RO := [
  ⟨.loc 17, .mv, [.var 1], none⟩,
  ⟨.loc 18, .lenS, [.loc 17], none⟩,
  ⟨.var 2, .mv, [.loc 18], none⟩,
  ⟨.var 3, .mv, [(.con (.lit .nilIface))], none⟩]
theorem pe77 {n m : Nat} : (E77 n m).M = M := by unfold E77; rfl
theorem ie77 {n m : Nat} {hp : Hp} {a0 a1 : D} : St.init (E77 n m) [a0, a1] hp = ⟨[a0, a1, .undef, .undef], [], hp⟩ := by unfold E77; rfl
noncomputable def c77 : RC := (.seq (.reg r77_0) (.seq (.reg r77_1) (.seq (.reg r77_2) (.seq (.reg r77_3) .ret))))
noncomputable def q77 : List RR := [(.slot (.var 2)), (.slot (.var 3))]
theorem z77 {n m : Nat} : resCode (E77 n m) (Tryd.f77.body.getD .skip) = some c77 := by kernel_rfl
theorem zr77 {n m : Nat} : resRs (E77 n m) Tryd.f77.results.toList = some q77 := by kernel_rfl
theorem oe77 {args : List D} {hp : Hp} {R : D → Hp → Prop} (n m : Nat) (hl : args.length = 2) (hn : n = hp.H.length) (hm : m = hp.tk.length) (h : SWp (E77 n m) c77 (fun e s => (match e with | .exit _ => False | _ => True) ∧ ∃ s1, Weak (E77 n m) s s1 ∧ rrsWp q77 s1 fun ds => R (oneOrTup ds) s1.hp) (St.init (E77 n m) args hp)) : Eff M 77 args hp R :=
  eff_of_body (C := E77 n m) (fn := Tryd.f77) Tryd.func77 (by kernel_rfl) (by kernel_rfl) (rc := c77) z77 (rs := q77) zr77 (by kernel_rfl) (by rw [hl]; rfl) (by rw [hl]; exact (by decide : 2 ≤ 19)) hn hm h
/- 62 bogie.digest.List · 1 arguments · kept slots [0, 2, 3, 5, 6, 7, 8, 9] -/
noncomputable def E62 (n m : Nat) : Cfg := ⟨M, [0, 2, 3, 5, 6, 7, 8, 9], 22, n, m, []⟩
noncomputable def C62 : Cfg := E62 0 0
@[reducible] noncomputable def r62_0 : List RO := [
  ⟨.var 1, .mv, [(.con (.str []))], none⟩]
@[reducible] noncomputable def r62_1 : List RO := [
  ⟨.var 2, (.newT 89 [(.lit (.pointer none)), (.lit (.slice none 0 0))]), [], none⟩]
@[reducible] noncomputable def r62_2 : List RO := [
  ⟨.var 4, .mv, [.var 0], none⟩,
  ⟨.var 5, .lenL, [.var 4], none⟩,
  ⟨.var 6, .mv, [.con (.int .i64 0)], none⟩]
@[reducible] noncomputable def r62_3 : List RO := [
  ⟨.var 7, .bin .lss, [.var 6, .var 5], none⟩]
@[reducible] noncomputable def r62_4 : List RO := [
  ⟨.loc 10, .ixaS 1, [.var 4, .var 6], none⟩,
  ⟨.loc 11, .ld false 1, [.loc 10], none⟩,
  ⟨.var 3, .mv, [.loc 11], none⟩]
@[reducible] noncomputable def r62_5 : List RO := [
  ⟨.loc 12, .mv, [.var 3], none⟩,
  ⟨.loc 13, .lenS, [.loc 12], none⟩,
  ⟨.loc 14, .call, [(.con (.fn (.func 59) [] [])), .loc 13], none⟩,
  ⟨.loc 15, .bin .add, [.loc 14, (.con (.str [58]))], none⟩,
  ⟨.loc 16, .mv, [.var 3], none⟩,
  ⟨.loc 17, .bin .add, [.loc 15, .loc 16], none⟩,
  ⟨.loc 18, .call, [(.con (.fn (.func 77) [] [])), .var 2, .loc 17], none⟩]
@[reducible] noncomputable def r62_6 : List RO := [
  ⟨.loc 19, .bin .add, [.var 6, .con (.int .i64 1)], none⟩,
  ⟨.var 6, .mv, [.loc 19], none⟩]
@[reducible] noncomputable def r62_7 : List RO := [
  ⟨.loc 20, .call, [(.con (.fn (.func 78) [] [])), .var 2], none⟩,
  ⟨.loc 21, .call, [(.con (.fn (.func 57) [] [])), .loc 20], none⟩,
  ⟨.var 1, .mv, [.loc 21], none⟩]
theorem P62 : C62.M = M := by unfold C62 E62; rfl
theorem i62 {a0 : D} : St.init C62 [a0] ⟨[], []⟩ = ⟨[a0, .undef, .undef, .undef, .undef, .undef, .undef, .undef], [], ⟨[], []⟩⟩ := by unfold C62 E62; rfl
noncomputable def c62 : RC := (.seq (.reg r62_0) (.seq (.reg r62_1) (.seq (.seq (.reg r62_2) (.block 0 (.loop (.seq (.reg r62_3) (.seq (.cond (.var 7) .skip (.exit 0)) (.seq (.block 1 (.seq (.reg r62_4) (.reg r62_5))) (.reg r62_6))))))) (.seq (.reg r62_7) .ret))))
noncomputable def q62 : List RR := [(.slot (.var 1))]
theorem z62 {n m : Nat} : resCode (E62 n m) (Tryd.f62.body.getD .skip) = some c62 := by kernel_rfl
theorem zr62 {n m : Nat} : resRs (E62 n m) Tryd.f62.results.toList = some q62 := by kernel_rfl
theorem ok62 {args : List D} {d : D} (hl : args.length = 1) (h : SWp C62 c62 (fun e s => (match e with | .exit _ => False | _ => True) ∧ rrsWp q62 s fun ds => D.closed (oneOrTup ds) = true ∧ (oneOrTup ds).er = d) (St.init C62 args ⟨[], []⟩)) : Pur M 62 args d :=
  pur_of_body (C := C62) (fn := Tryd.f62) Tryd.func62 (by kernel_rfl) (by kernel_rfl) (rc := c62) z62 (rs := q62) zr62 (by kernel_rfl) (by rw [hl]; rfl) (by rw [hl]; decide) rfl rfl h
/- 79 (*strings.asciiSet).contains · 2 arguments · kept slots [0, 1, 4] -/
noncomputable def E79 (n m : Nat) : Cfg := ⟨M, [0, 1, 4], 10, n, m, []⟩
@[reducible] noncomputable def r79_0 : List RO := [
  ⟨.var 2, .mv, [.con (.bool false)], none⟩]
@[reducible] noncomputable def r79_1 : List RO := [
  ⟨.loc 5, .mv, [.var 0], none⟩,
  ⟨.loc 6, .mv, [.var 1], none⟩,
  ⟨.loc 7, .nck, [.loc 5], none⟩,
  ⟨.loc 8, .ixaA 256 1, [.loc 7, .loc 6], none⟩,
  ⟨.loc 9, .ld false 1, [.loc 8], none⟩,
  ⟨.var 2, .mv, [.loc 9], none⟩]
theorem pe79 {n m : Nat} : (E79 n m).M = M := by unfold E79; rfl
theorem ie79 {n m : Nat} {hp : Hp} {a0 a1 : D} : St.init (E79 n m) [a0, a1] hp = ⟨[a0, a1, .undef], [], hp⟩ := by unfold E79; rfl
noncomputable def c79 : RC := (.seq (.reg r79_0) (.seq (.reg r79_1) .ret))
noncomputable def q79 : List RR := [(.slot (.var 2))]
theorem z79 {n m : Nat} : resCode (E79 n m) (Tryd.f79.body.getD .skip) = some c79 := by kernel_rfl
theorem zr79 {n m : Nat} : resRs (E79 n m) Tryd.f79.results.toList = some q79 := by kernel_rfl
theorem oe79 {args : List D} {hp : Hp} {R : D → Hp → Prop} (n m : Nat) (hl : args.length = 2) (hn : n = hp.H.length) (hm : m = hp.tk.length) (h : SWp (E79 n m) c79 (fun e s => (match e with | .exit _ => False | _ => True) ∧ ∃ s1, Weak (E79 n m) s s1 ∧ rrsWp q79 s1 fun ds => R (oneOrTup ds) s1.hp) (St.init (E79 n m) args hp)) : Eff M 79 args hp R :=
  eff_of_body (C := E79 n m) (fn := Tryd.f79) Tryd.func79 (by kernel_rfl) (by kernel_rfl) (rc := c79) z79 (rs := q79) zr79 (by kernel_rfl) (by rw [hl]; rfl) (by rw [hl]; exact (by decide : 2 ≤ 10)) hn hm h
/- 66 strings.trimLeftASCII · 2 arguments · kept slots [0, 1, 4, 7, 12] -/
noncomputable def E66 (n m : Nat) : Cfg := ⟨M, [0, 1, 4, 7, 12], 16, n, m, []⟩
@[reducible] noncomputable def r66_0 : List RO := [
  ⟨.var 2, .mv, [(.con (.str []))], none⟩]
@[reducible] noncomputable def r66_1 : List RO := [
  ⟨.loc 5, .mv, [.var 0], none⟩,
  ⟨.loc 6, .lenS, [.loc 5], none⟩,
  ⟨.var 3, .bin .gtr, [.loc 6, .con (.int .i64 0)], none⟩]
@[reducible] noncomputable def r66_2 : List RO := [
  ⟨.loc 8, .mv, [.var 1], none⟩,
  ⟨.loc 9, .mv, [.var 0], none⟩,
  ⟨.loc 10, .ixvS, [.loc 9, .con (.int .i64 0)], none⟩,
  ⟨.loc 11, .call, [(.con (.fn (.func 79) [] [])), .loc 8, .loc 10], none⟩,
  ⟨.var 4, .un .not, [.loc 11], none⟩]
@[reducible] noncomputable def r66_3 : List RO := [
  ⟨.loc 13, .mv, [.var 0], none⟩,
  ⟨.loc 14, .slcS true false, [.loc 13, .con (.int .i64 1)], none⟩,
  ⟨.var 0, .mv, [.loc 14], none⟩]
@[reducible] noncomputable def r66_4 : List RO := [
  ⟨.loc 15, .mv, [.var 0], none⟩,
  ⟨.var 2, .mv, [.loc 15], none⟩]
theorem pe66 {n m : Nat} : (E66 n m).M = M := by unfold E66; rfl
theorem ie66 {n m : Nat} {hp : Hp} {a0 a1 : D} : St.init (E66 n m) [a0, a1] hp = ⟨[a0, a1, .undef, .undef, .undef], [], hp⟩ := by unfold E66; rfl
noncomputable def c66 : RC := (.seq (.reg r66_0) (.seq (.block 0 (.loop (.seq (.seq (.reg r66_1) (.cond (.var 3) .skip (.exit 0))) (.block 1 (.seq (.seq (.reg r66_2) (.cond (.var 4) (.exit 0) .skip)) (.reg r66_3)))))) (.seq (.reg r66_4) .ret)))
noncomputable def q66 : List RR := [(.slot (.var 2))]
theorem z66 {n m : Nat} : resCode (E66 n m) (Tryd.f66.body.getD .skip) = some c66 := by kernel_rfl
theorem zr66 {n m : Nat} : resRs (E66 n m) Tryd.f66.results.toList = some q66 := by kernel_rfl
theorem oe66 {args : List D} {hp : Hp} {R : D → Hp → Prop} (n m : Nat) (hl : args.length = 2) (hn : n = hp.H.length) (hm : m = hp.tk.length) (h : SWp (E66 n m) c66 (fun e s => (match e with | .exit _ => False | _ => True) ∧ ∃ s1, Weak (E66 n m) s s1 ∧ rrsWp q66 s1 fun ds => R (oneOrTup ds) s1.hp) (St.init (E66 n m) args hp)) : Eff M 66 args hp R :=
  eff_of_body (C := E66 n m) (fn := Tryd.f66) Tryd.func66 (by kernel_rfl) (by kernel_rfl) (rc := c66) z66 (rs := q66) zr66 (by kernel_rfl) (by rw [hl]; rfl) (by rw [hl]; exact (by decide : 2 ≤ 16)) hn hm h
/- 67 strings.trimRightASCII · 2 arguments · kept slots [0, 1, 4, 7, 15] -/
noncomputable def E67 (n m : Nat) : Cfg := ⟨M, [0, 1, 4, 7, 15], 22, n, m, []⟩
@[reducible] noncomputable def r67_0 : List RO := [
  ⟨.var 2, .mv, [(.con (.str []))], none⟩]
@[reducible] noncomputable def r67_1 : List RO := [
  ⟨.loc 5, .mv, [.var 0], none⟩,
  ⟨.loc 6, .lenS, [.loc 5], none⟩,
  ⟨.var 3, .bin .gtr, [.loc 6, .con (.int .i64 0)], none⟩]
@[reducible] noncomputable def r67_2 : List RO := [
  ⟨.loc 8, .mv, [.var 1], none⟩,
  ⟨.loc 9, .mv, [.var 0], none⟩,
  ⟨.loc 10, .mv, [.var 0], none⟩,
  ⟨.loc 11, .lenS, [.loc 10], none⟩,
  ⟨.loc 12, .bin .sub, [.loc 11, .con (.int .i64 1)], none⟩,
  ⟨.loc 13, .ixvS, [.loc 9, .loc 12], none⟩,
  ⟨.loc 14, .call, [(.con (.fn (.func 79) [] [])), .loc 8, .loc 13], none⟩,
  ⟨.var 4, .un .not, [.loc 14], none⟩]
@[reducible] noncomputable def r67_3 : List RO := [
  ⟨.loc 16, .mv, [.var 0], none⟩,
  ⟨.loc 17, .mv, [.var 0], none⟩,
  ⟨.loc 18, .lenS, [.loc 17], none⟩,
  ⟨.loc 19, .bin .sub, [.loc 18, .con (.int .i64 1)], none⟩,
  ⟨.loc 20, .slcS false true, [.loc 16, .loc 19], none⟩,
  ⟨.var 0, .mv, [.loc 20], none⟩]
@[reducible] noncomputable def r67_4 : List RO := [
  ⟨.loc 21, .mv, [.var 0], none⟩,
  ⟨.var 2, .mv, [.loc 21], none⟩]
theorem pe67 {n m : Nat} : (E67 n m).M = M := by unfold E67; rfl
theorem ie67 {n m : Nat} {hp : Hp} {a0 a1 : D} : St.init (E67 n m) [a0, a1] hp = ⟨[a0, a1, .undef, .undef, .undef], [], hp⟩ := by unfold E67; rfl
noncomputable def c67 : RC := (.seq (.reg r67_0) (.seq (.block 0 (.loop (.seq (.seq (.reg r67_1) (.cond (.var 3) .skip (.exit 0))) (.block 1 (.seq (.seq (.reg r67_2) (.cond (.var 4) (.exit 0) .skip)) (.reg r67_3)))))) (.seq (.reg r67_4) .ret)))
noncomputable def q67 : List RR := [(.slot (.var 2))]
theorem z67 {n m : Nat} : resCode (E67 n m) (Tryd.f67.body.getD .skip) = some c67 := by kernel_rfl
theorem zr67 {n m : Nat} : resRs (E67 n m) Tryd.f67.results.toList = some q67 := by kernel_rfl
theorem oe67 {args : List D} {hp : Hp} {R : D → Hp → Prop} (n m : Nat) (hl : args.length = 2) (hn : n = hp.H.length) (hm : m = hp.tk.length) (h : SWp (E67 n m) c67 (fun e s => (match e with | .exit _ => False | _ => True) ∧ ∃ s1, Weak (E67 n m) s s1 ∧ rrsWp q67 s1 fun ds => R (oneOrTup ds) s1.hp) (St.init (E67 n m) args hp)) : Eff M 67 args hp R :=
  eff_of_body (C := E67 n m) (fn := Tryd.f67) Tryd.func67 (by kernel_rfl) (by kernel_rfl) (rc := c67) z67 (rs := q67) zr67 (by kernel_rfl) (by rw [hl]; rfl) (by rw [hl]; exact (by decide : 2 ≤ 22)) hn hm h
/- 46 strings.Trim · 2 arguments · kept slots [0, 1, 4, 5, 6, 12, 21, 34] -/
noncomputable def E46 (n m : Nat) : Cfg := ⟨M, [0, 1, 4, 5, 6, 12, 21, 34], 43, n, m, []⟩
noncomputable def C46 : Cfg := E46 0 0
@[reducible] noncomputable def r46_0 : List RO := [
  ⟨.var 2, .mv, [(.con (.str []))], none⟩]
@[reducible] noncomputable def r46_1 : List RO := [
  ⟨.loc 7, .mv, [.var 0], none⟩,
  ⟨.loc 8, .bin .eql, [.loc 7, (.con (.str []))], none⟩,
  ⟨.loc 9, .mv, [.loc 8], none⟩,
  ⟨.loc 10, .mv, [.var 1], (some (.loc 9, false))⟩,
  ⟨.loc 11, .bin .eql, [.loc 10, (.con (.str []))], (some (.loc 9, false))⟩,
  ⟨.var 5, .pick, [.loc 9, .con (.bool true), .loc 11], none⟩]
@[reducible] noncomputable def r46_2 : List RO := [
  ⟨.loc 13, .mv, [.var 0], none⟩,
  ⟨.var 2, .mv, [.loc 13], none⟩]
@[reducible] noncomputable def r46_3 : List RO := [
  ⟨.loc 14, .mv, [.var 1], none⟩,
  ⟨.loc 15, .lenS, [.loc 14], none⟩,
  ⟨.loc 16, .bin .eql, [.loc 15, .con (.int .i64 1)], none⟩,
  ⟨.loc 17, .mv, [.loc 16], none⟩,
  ⟨.loc 18, .mv, [.var 1], (some (.loc 17, true))⟩,
  ⟨.loc 19, .ixvS, [.loc 18, .con (.int .i64 0)], (some (.loc 17, true))⟩,
  ⟨.loc 20, .bin .lss, [.loc 19, (.con (.int .u8 128))], (some (.loc 17, true))⟩,
  ⟨.var 6, .pick, [.loc 17, .loc 20, .con (.bool false)], none⟩]
@[reducible] noncomputable def r46_4 : List (RO × Bool) := [
  (⟨.loc 22, .mv, [.var 0], none⟩, true),
  (⟨.loc 23, .mv, [.var 1], none⟩, true),
  (⟨.loc 24, .ixvS, [.loc 23, .con (.int .i64 0)], none⟩, true),
  (⟨.loc 25, .call, [(.con (.fn (.func 64) [] [])), .loc 22, .loc 24], none⟩, false),
  (⟨.loc 26, .mv, [.var 1], none⟩, true),
  (⟨.loc 27, .ixvS, [.loc 26, .con (.int .i64 0)], none⟩, true)]
@[reducible] noncomputable def r46_5 : List RO := [
  ⟨.loc 28, .call, [(.con (.fn (.func 63) [] [])), .loc 25, .loc 27], none⟩,
  ⟨.var 2, .mv, [.loc 28], none⟩]
@[reducible] noncomputable def r46_6 : List RO := [
  ⟨.loc 30, .mv, [.var 1], none⟩,
  ⟨.loc 31, .call, [(.con (.fn (.func 65) [] [])), .loc 30], none⟩,
  ⟨.loc 29, .mv, [.loc 31], none⟩,
  ⟨.loc 32, .ext 0, [.loc 29], none⟩,
  ⟨.loc 33, .ext 1, [.loc 29], none⟩,
  ⟨.var 3, (.newb [(.bool false), (.bool false), (.bool false), (.bool false), (.bool false), (.bool false), (.bool false), (.bool false), (.bool false), (.bool false), (.bool false), (.bool false), (.bool false), (.bool false), (.bool false), (.bool false), (.bool false), (.bool false), (.bool false), (.bool false), (.bool false), (.bool false), (.bool false), (.bool false), (.bool false), (.bool false), (.bool false), (.bool false), (.bool false), (.bool false), (.bool false), (.bool false), (.bool false), (.bool false), (.bool false), (.bool false), (.bool false), (.bool false), (.bool false), (.bool false), (.bool false), (.bool false), (.bool false), (.bool false), (.bool false), (.bool false), (.bool false), (.bool false), (.bool false), (.bool false), (.bool false), (.bool false), (.bool false), (.bool false), (.bool false), (.bool false), (.bool false), (.bool false), (.bool false), (.bool false), (.bool false), (.bool false), (.bool false), (.bool false), (.bool false), (.bool false), (.bool false), (.bool false), (.bool false), (.bool false), (.bool false), (.bool false), (.bool false), (.bool false), (.bool false), (.bool false), (.bool false), (.bool false), (.bool false), (.bool false), (.bool false), (.bool false), (.bool false), (.bool false), (.bool false), (.bool false), (.bool false), (.bool false), (.bool false), (.bool false), (.bool false), (.bool false), (.bool false), (.bool false), (.bool false), (.bool false), (.bool false), (.bool false), (.bool false), (.bool false), (.bool false), (.bool false), (.bool false), (.bool false), (.bool false), (.bool false), (.bool false), (.bool false), (.bool false), (.bool false), (.bool false), (.bool false), (.bool false), (.bool false), (.bool false), (.bool false), (.bool false), (.bool false), (.bool false), (.bool false), (.bool false), (.bool false), (.bool false), (.bool false), (.bool false), (.bool false), (.bool false), (.bool false), (.bool false), (.bool false), (.bool false), (.bool false), (.bool false), (.bool false), (.bool false), (.bool false), (.bool false), (.bool false), (.bool false), (.bool false), (.bool false), (.bool false), (.bool false), (.bool false), (.bool false), (.bool false), (.bool false), (.bool false), (.bool false), (.bool false), (.bool false), (.bool false), (.bool false), (.bool false), (.bool false), (.bool false), (.bool false), (.bool false), (.bool false), (.bool false), (.bool false), (.bool false), (.bool false), (.bool false), (.bool false), (.bool false), (.bool false), (.bool false), (.bool false), (.bool false), (.bool false), (.bool false), (.bool false), (.bool false), (.bool false), (.bool false), (.bool false), (.bool false), (.bool false), (.bool false), (.bool false), (.bool false), (.bool false), (.bool false), (.bool false), (.bool false), (.bool false), (.bool false), (.bool false), (.bool false), (.bool false), (.bool false), (.bool false), (.bool false), (.bool false), (.bool false), (.bool false), (.bool false), (.bool false), (.bool false), (.bool false), (.bool false), (.bool false), (.bool false), (.bool false), (.bool false), (.bool false), (.bool false), (.bool false), (.bool false), (.bool false), (.bool false), (.bool false), (.bool false), (.bool false), (.bool false), (.bool false), (.bool false), (.bool false), (.bool false), (.bool false), (.bool false), (.bool false), (.bool false), (.bool false), (.bool false), (.bool false), (.bool false), (.bool false), (.bool false), (.bool false), (.bool false), (.bool false), (.bool false), (.bool false), (.bool false), (.bool false), (.bool false), (.bool false), (.bool false), (.bool false), (.bool false), (.bool false), (.bool false), (.bool false), (.bool false), (.bool false), (.bool false), (.bool false), (.bool false), (.bool false), (.bool false), (.bool false), (.bool false), (.bool false), (.bool false)]), [], none⟩,
  ⟨.none, .st 256, [.var 3, .loc 32], none⟩,
  ⟨.var 4, .mv, [.loc 33], none⟩]
@[reducible] noncomputable def r46_7 : List RO := [
  ⟨.var 7, .mv, [.var 4], none⟩]
@[reducible] noncomputable def r46_8 : List RO := [
  ⟨.loc 35, .mv, [.var 0], none⟩,
  ⟨.loc 36, .call, [(.con (.fn (.func 67) [] [])), .loc 35, .var 3], none⟩,
  ⟨.loc 37, .call, [(.con (.fn (.func 66) [] [])), .loc 36, .var 3], none⟩,
  ⟨.var 2, .mv, [.loc 37], none⟩]
@[reducible] noncomputable def r46_9 : List RO := [
  ⟨.loc 38, .mv, [.var 0], none⟩,
  ⟨.loc 39, .mv, [.var 1], none⟩,
  ⟨.loc 40, .call, [(.con (.fn (.func 69) [] [])), .loc 38, .loc 39], none⟩,
  ⟨.loc 41, .mv, [.var 1], none⟩,
  ⟨.loc 42, .call, [(.con (.fn (.func 68) [] [])), .loc 40, .loc 41], none⟩,
  ⟨.var 2, .mv, [.loc 42], none⟩]
theorem P46 : C46.M = M := by unfold C46 E46; rfl
theorem i46 {a0 a1 : D} : St.init C46 [a0, a1] ⟨[], []⟩ = ⟨[a0, a1, .undef, .undef, .undef, .undef, .undef, .undef], [], ⟨[], []⟩⟩ := by unfold C46 E46; rfl
noncomputable def c46 : RC := (.seq (.reg r46_0) (.seq (.seq (.reg r46_1) (.cond (.var 5) (.seq (.reg r46_2) .ret) .skip)) (.seq (.seq (.reg r46_3) (.cond (.var 6) (.seq (.regD r46_4 r46_5) .ret) .skip)) (.seq (.seq (.reg r46_6) (.seq (.reg r46_7) (.cond (.var 7) (.seq (.reg r46_8) .ret) .skip))) (.seq (.reg r46_9) .ret)))))
noncomputable def q46 : List RR := [(.slot (.var 2))]
theorem z46 {n m : Nat} : resCode (E46 n m) (Tryd.f46.body.getD .skip) = some c46 := by kernel_rfl
theorem zr46 {n m : Nat} : resRs (E46 n m) Tryd.f46.results.toList = some q46 := by kernel_rfl
theorem ok46 {args : List D} {d : D} (hl : args.length = 2) (h : SWp C46 c46 (fun e s => (match e with | .exit _ => False | _ => True) ∧ rrsWp q46 s fun ds => D.closed (oneOrTup ds) = true ∧ (oneOrTup ds).er = d) (St.init C46 args ⟨[], []⟩)) : Pur M 46 args d :=
  pur_of_body (C := C46) (fn := Tryd.f46) Tryd.func46 (by kernel_rfl) (by kernel_rfl) (rc := c46) z46 (rs := q46) zr46 (by kernel_rfl) (by rw [hl]; rfl) (by rw [hl]; decide) rfl rfl h
/- 20 bogie.digest.Is · 1 arguments · kept slots [0, 2] -/
noncomputable def E20 (n m : Nat) : Cfg := ⟨M, [0, 2], 11, n, m, []⟩
noncomputable def C20 : Cfg := E20 0 0
@[reducible] noncomputable def r20_0 : List RO := [
  ⟨.var 1, .mv, [.con (.bool false)], none⟩]
@[reducible] noncomputable def r20_1 : List RO := [
  ⟨.loc 3, .mv, [.var 0], none⟩,
  ⟨.loc 4, .lenS, [.loc 3], none⟩,
  ⟨.loc 5, .bin .eql, [.loc 4, .con (.int .i64 16)], none⟩,
  ⟨.loc 6, .mv, [.loc 5], none⟩,
  ⟨.loc 7, .mv, [.var 0], (some (.loc 6, true))⟩,
  ⟨.loc 8, .call, [(.con (.fn (.func 46) [] [])), .loc 7, (.con (.str [48, 49, 50, 51, 52, 53, 54, 55, 56, 57, 97, 98, 99, 100, 101, 102]))], (some (.loc 6, true))⟩,
  ⟨.loc 9, .bin .eql, [.loc 8, (.con (.str []))], (some (.loc 6, true))⟩,
  ⟨.loc 10, .pick, [.loc 6, .loc 9, .con (.bool false)], none⟩,
  ⟨.var 1, .mv, [.loc 10], none⟩]
theorem P20 : C20.M = M := by unfold C20 E20; rfl
theorem i20 {a0 : D} : St.init C20 [a0] ⟨[], []⟩ = ⟨[a0, .undef], [], ⟨[], []⟩⟩ := by unfold C20 E20; rfl
noncomputable def c20 : RC := (.seq (.reg r20_0) (.seq (.reg r20_1) .ret))
noncomputable def q20 : List RR := [(.slot (.var 1))]
theorem z20 {n m : Nat} : resCode (E20 n m) (Tryd.f20.body.getD .skip) = some c20 := by kernel_rfl
theorem zr20 {n m : Nat} : resRs (E20 n m) Tryd.f20.results.toList = some q20 := by kernel_rfl
theorem ok20 {args : List D} {d : D} (hl : args.length = 1) (h : SWp C20 c20 (fun e s => (match e with | .exit _ => False | _ => True) ∧ rrsWp q20 s fun ds => D.closed (oneOrTup ds) = true ∧ (oneOrTup ds).er = d) (St.init C20 args ⟨[], []⟩)) : Pur M 20 args d :=
  pur_of_body (C := C20) (fn := Tryd.f20) Tryd.func20 (by kernel_rfl) (by kernel_rfl) (rc := c20) z20 (rs := q20) zr20 (by kernel_rfl) (by rw [hl]; rfl) (by rw [hl]; decide) rfl rfl h
end Go.Proofs.YtgjkhlnpplajjaaDoor
end
section
set_option maxRecDepth 100000
namespace Go.Proofs.YtgjkhlnpplajjaaDoor
open Go GoV
/- 51 bogie.bogieref01.mix · 1 arguments · kept slots [0, 2] -/
noncomputable def E51 (n m : Nat) : Cfg := ⟨M, [0, 2], 15, n, m, []⟩
noncomputable def C51 : Cfg := E51 0 0
@[reducible] noncomputable def r51_0 : List RO := [
  ⟨.var 1, .mv, [(.con (.int .u64 0))], none⟩]
@[reducible] noncomputable def r51_1 : List RO := [
  ⟨.loc 3, .mv, [.var 0], none⟩,
  ⟨.loc 4, .bin .mul, [.loc 3, (.con (.int .u64 6364136223846793005))], none⟩,
  ⟨.var 0, .mv, [.loc 4], none⟩]
@[reducible] noncomputable def r51_2 : List RO := [
  ⟨.loc 5, .mv, [.var 0], none⟩,
  ⟨.loc 6, .mv, [.var 0], none⟩,
  ⟨.loc 7, .bin .shr, [.loc 6, (.con (.int .u64 33))], none⟩,
  ⟨.loc 8, .bin .xor, [.loc 5, .loc 7], none⟩,
  ⟨.var 0, .mv, [.loc 8], none⟩]
@[reducible] noncomputable def r51_3 : List RO := [
  ⟨.loc 9, .mv, [.var 0], none⟩,
  ⟨.loc 10, .bin .mul, [.loc 9, (.con (.int .u64 2685821657736338717))], none⟩,
  ⟨.var 0, .mv, [.loc 10], none⟩]
@[reducible] noncomputable def r51_4 : List RO := [
  ⟨.loc 11, .mv, [.var 0], none⟩,
  ⟨.loc 12, .mv, [.var 0], none⟩,
  ⟨.loc 13, .bin .shr, [.loc 12, (.con (.int .u64 27))], none⟩,
  ⟨.loc 14, .bin .xor, [.loc 11, .loc 13], none⟩,
  ⟨.var 1, .mv, [.loc 14], none⟩]
theorem P51 : C51.M = M := by unfold C51 E51; rfl
theorem i51 {a0 : D} : St.init C51 [a0] ⟨[], []⟩ = ⟨[a0, .undef], [], ⟨[], []⟩⟩ := by unfold C51 E51; rfl
noncomputable def c51 : RC := (.seq (.reg r51_0) (.seq (.reg r51_1) (.seq (.reg r51_2) (.seq (.reg r51_3) (.seq (.reg r51_4) .ret)))))
noncomputable def q51 : List RR := [(.slot (.var 1))]
theorem z51 {n m : Nat} : resCode (E51 n m) (Tryd.f51.body.getD .skip) = some c51 := by kernel_rfl
theorem zr51 {n m : Nat} : resRs (E51 n m) Tryd.f51.results.toList = some q51 := by kernel_rfl
theorem ok51 {args : List D} {d : D} (hl : args.length = 1) (h : SWp C51 c51 (fun e s => (match e with | .exit _ => False | _ => True) ∧ rrsWp q51 s fun ds => D.closed (oneOrTup ds) = true ∧ (oneOrTup ds).er = d) (St.init C51 args ⟨[], []⟩)) : Pur M 51 args d :=
  pur_of_body (C := C51) (fn := Tryd.f51) Tryd.func51 (by kernel_rfl) (by kernel_rfl) (rc := c51) z51 (rs := q51) zr51 (by kernel_rfl) (by rw [hl]; rfl) (by rw [hl]; decide) rfl rfl h
/- 25 bogie.bogieref01.Sum · 1 arguments · kept slots [0, 2, 3, 4, 5, 6, 7, 8, 16, 23, 31, 43] -/
noncomputable def E25 (n m : Nat) : Cfg := ⟨M, [0, 2, 3, 4, 5, 6, 7, 8, 16, 23, 31, 43], 57, n, m, []⟩
noncomputable def C25 : Cfg := E25 0 0
@[reducible] noncomputable def r25_0 : List RO := [
  ⟨.var 1, .mv, [(.con (.str []))], none⟩]
@[reducible] noncomputable def r25_1 : List RO := [
  ⟨.loc 9, .mv, [.var 0], none⟩,
  ⟨.loc 10, .lenS, [.loc 9], none⟩,
  ⟨.loc 11, .cvI .u64, [.loc 10], none⟩,
  ⟨.loc 12, .bin .xor, [(.con (.int .u64 7046029254386353131)), .loc 11], none⟩,
  ⟨.var 2, .mv, [.loc 12], none⟩]
@[reducible] noncomputable def r25_2 : List RO := [
  ⟨.var 3, .mv, [.con (.int .i64 0)], none⟩]
@[reducible] noncomputable def r25_3 : List RO := [
  ⟨.loc 13, .mv, [.var 3], none⟩,
  ⟨.loc 14, .mv, [.var 0], none⟩,
  ⟨.loc 15, .lenS, [.loc 14], none⟩,
  ⟨.var 8, .bin .leq, [.loc 13, .loc 15], none⟩]
@[reducible] noncomputable def r25_4 : List RO := [
  ⟨.var 4, .mv, [(.con (.int .u64 0))], none⟩]
@[reducible] noncomputable def r25_5 : List RO := [
  ⟨.loc 19, .mv, [.var 3], none⟩,
  ⟨.var 5, .mv, [.loc 19], none⟩]
@[reducible] noncomputable def r25_6 : List RO := [
  ⟨.loc 20, .mv, [.var 5], none⟩,
  ⟨.loc 21, .mv, [.var 3], none⟩,
  ⟨.loc 22, .bin .add, [.loc 21, .con (.int .i64 8)], none⟩,
  ⟨.var 9, .bin .lss, [.loc 20, .loc 22], none⟩]
@[reducible] noncomputable def r25_7 : List RO := [
  ⟨.loc 26, .mv, [.var 4], none⟩,
  ⟨.loc 27, .bin .mul, [.loc 26, (.con (.int .u64 256))], none⟩,
  ⟨.var 4, .mv, [.loc 27], none⟩]
@[reducible] noncomputable def r25_8 : List RO := [
  ⟨.loc 28, .mv, [.var 5], none⟩,
  ⟨.loc 29, .mv, [.var 0], none⟩,
  ⟨.loc 30, .lenS, [.loc 29], none⟩,
  ⟨.var 10, .bin .lss, [.loc 28, .loc 30], none⟩]
@[reducible] noncomputable def r25_9 : List RO := [
  ⟨.loc 32, .mv, [.var 4], none⟩,
  ⟨.loc 33, .mv, [.var 0], none⟩,
  ⟨.loc 34, .mv, [.var 5], none⟩,
  ⟨.loc 35, .ixvS, [.loc 33, .loc 34], none⟩,
  ⟨.loc 36, .cvI .u64, [.loc 35], none⟩,
  ⟨.loc 37, .bin .add, [.loc 32, .loc 36], none⟩,
  ⟨.var 4, .mv, [.loc 37], none⟩]
@[reducible] noncomputable def r25_10 : List RO := [
  ⟨.loc 24, .mv, [.var 5], none⟩,
  ⟨.loc 25, .bin .add, [.loc 24, .con (.int .i64 1)], none⟩,
  ⟨.var 5, .mv, [.loc 25], none⟩]
@[reducible] noncomputable def r25_11 : List RO := [
  ⟨.loc 38, .mv, [.var 2], none⟩,
  ⟨.loc 39, .mv, [.var 4], none⟩,
  ⟨.loc 40, .bin .xor, [.loc 38, .loc 39], none⟩,
  ⟨.loc 41, .call, [(.con (.fn (.func 51) [] [])), .loc 40], none⟩,
  ⟨.var 2, .mv, [.loc 41], none⟩]
@[reducible] noncomputable def r25_12 : List RO := [
  ⟨.loc 17, .mv, [.var 3], none⟩,
  ⟨.loc 18, .bin .add, [.loc 17, .con (.int .i64 8)], none⟩,
  ⟨.var 3, .mv, [.loc 18], none⟩]
@[reducible] noncomputable def r25_13 : List RO := [
  ⟨.var 6, .mv, [(.con (.str []))], none⟩]
@[reducible] noncomputable def r25_14 : List RO := [
  ⟨.var 7, .mv, [.con (.int .i64 0)], none⟩]
@[reducible] noncomputable def r25_15 : List RO := [
  ⟨.loc 42, .mv, [.var 7], none⟩,
  ⟨.var 11, .bin .lss, [.loc 42, .con (.int .i64 16)], none⟩]
@[reducible] noncomputable def r25_16 : List RO := [
  ⟨.loc 46, .mv, [.var 2], none⟩,
  ⟨.loc 47, .bin .rem, [.loc 46, (.con (.int .u64 16))], none⟩,
  ⟨.loc 48, .mv, [.var 2], none⟩,
  ⟨.loc 49, .bin .rem, [.loc 48, (.con (.int .u64 16))], none⟩,
  ⟨.loc 50, .bin .add, [.loc 49, (.con (.int .u64 1))], none⟩,
  ⟨.loc 51, .slcS true true, [(.con (.str [48, 49, 50, 51, 52, 53, 54, 55, 56, 57, 97, 98, 99, 100, 101, 102])), .loc 47, .loc 50], none⟩,
  ⟨.loc 52, .mv, [.var 6], none⟩,
  ⟨.loc 53, .bin .add, [.loc 51, .loc 52], none⟩,
  ⟨.var 6, .mv, [.loc 53], none⟩]
@[reducible] noncomputable def r25_17 : List RO := [
  ⟨.loc 54, .mv, [.var 2], none⟩,
  ⟨.loc 55, .bin .quo, [.loc 54, (.con (.int .u64 16))], none⟩,
  ⟨.var 2, .mv, [.loc 55], none⟩]
@[reducible] noncomputable def r25_18 : List RO := [
  ⟨.loc 44, .mv, [.var 7], none⟩,
  ⟨.loc 45, .bin .add, [.loc 44, .con (.int .i64 1)], none⟩,
  ⟨.var 7, .mv, [.loc 45], none⟩]
@[reducible] noncomputable def r25_19 : List RO := [
  ⟨.loc 56, .mv, [.var 6], none⟩,
  ⟨.var 1, .mv, [.loc 56], none⟩]
theorem P25 : C25.M = M := by unfold C25 E25; rfl
theorem i25 {a0 : D} : St.init C25 [a0] ⟨[], []⟩ = ⟨[a0, .undef, .undef, .undef, .undef, .undef, .undef, .undef, .undef, .undef, .undef, .undef], [], ⟨[], []⟩⟩ := by unfold C25 E25; rfl
noncomputable def c25 : RC := (.seq (.reg r25_0) (.seq (.reg r25_1) (.seq (.seq (.reg r25_2) (.block 0 (.loop (.seq (.seq (.reg r25_3) (.cond (.var 8) .skip (.exit 0))) (.seq (.block 1 (.seq (.reg r25_4) (.seq (.seq (.reg r25_5) (.block 2 (.loop (.seq (.seq (.reg r25_6) (.cond (.var 9) .skip (.exit 2))) (.seq (.block 3 (.seq (.reg r25_7) (.seq (.reg r25_8) (.cond (.var 10) (.reg r25_9) .skip)))) (.reg r25_10)))))) (.reg r25_11)))) (.reg r25_12)))))) (.seq (.reg r25_13) (.seq (.seq (.reg r25_14) (.block 4 (.loop (.seq (.seq (.reg r25_15) (.cond (.var 11) .skip (.exit 4))) (.seq (.block 5 (.seq (.reg r25_16) (.reg r25_17))) (.reg r25_18)))))) (.seq (.reg r25_19) .ret))))))
noncomputable def q25 : List RR := [(.slot (.var 1))]
theorem z25 {n m : Nat} : resCode (E25 n m) (Tryd.f25.body.getD .skip) = some c25 := by kernel_rfl
theorem zr25 {n m : Nat} : resRs (E25 n m) Tryd.f25.results.toList = some q25 := by kernel_rfl
theorem ok25 {args : List D} {d : D} (hl : args.length = 1) (h : SWp C25 c25 (fun e s => (match e with | .exit _ => False | _ => True) ∧ rrsWp q25 s fun ds => D.closed (oneOrTup ds) = true ∧ (oneOrTup ds).er = d) (St.init C25 args ⟨[], []⟩)) : Pur M 25 args d :=
  pur_of_body (C := C25) (fn := Tryd.f25) Tryd.func25 (by kernel_rfl) (by kernel_rfl) (rc := c25) z25 (rs := q25) zr25 (by kernel_rfl) (by rw [hl]; rfl) (by rw [hl]; decide) rfl rfl h
/- 70 bogie.bogieref01.digits · 1 arguments · kept slots [0, 2, 3, 13] -/
noncomputable def E70 (n m : Nat) : Cfg := ⟨M, [0, 2, 3, 13], 25, n, m, []⟩
noncomputable def C70 : Cfg := E70 0 0
@[reducible] noncomputable def r70_0 : List RO := [
  ⟨.var 1, .mv, [(.con (.str []))], none⟩]
@[reducible] noncomputable def r70_1 : List RO := [
  ⟨.loc 4, .mv, [.var 0], none⟩,
  ⟨.loc 5, .bin .rem, [.loc 4, (.con (.int .u64 10))], none⟩,
  ⟨.loc 6, .mv, [.var 0], none⟩,
  ⟨.loc 7, .bin .rem, [.loc 6, (.con (.int .u64 10))], none⟩,
  ⟨.loc 8, .bin .add, [.loc 7, (.con (.int .u64 1))], none⟩,
  ⟨.loc 9, .slcS true true, [(.con (.str [48, 49, 50, 51, 52, 53, 54, 55, 56, 57])), .loc 5, .loc 8], none⟩,
  ⟨.var 2, .mv, [.loc 9], none⟩]
@[reducible] noncomputable def r70_2 : List RO := [
  ⟨.loc 10, .mv, [.var 0], none⟩,
  ⟨.loc 11, .bin .quo, [.loc 10, (.con (.int .u64 10))], none⟩,
  ⟨.var 0, .mv, [.loc 11], none⟩]
@[reducible] noncomputable def r70_3 : List RO := [
  ⟨.loc 12, .mv, [.var 0], none⟩,
  ⟨.var 3, .bin .gtr, [.loc 12, (.con (.int .u64 0))], none⟩]
@[reducible] noncomputable def r70_4 : List RO := [
  ⟨.loc 16, .mv, [.var 0], none⟩,
  ⟨.loc 17, .bin .rem, [.loc 16, (.con (.int .u64 10))], none⟩,
  ⟨.loc 18, .mv, [.var 0], none⟩,
  ⟨.loc 19, .bin .rem, [.loc 18, (.con (.int .u64 10))], none⟩,
  ⟨.loc 20, .bin .add, [.loc 19, (.con (.int .u64 1))], none⟩,
  ⟨.loc 21, .slcS true true, [(.con (.str [48, 49, 50, 51, 52, 53, 54, 55, 56, 57])), .loc 17, .loc 20], none⟩,
  ⟨.loc 22, .mv, [.var 2], none⟩,
  ⟨.loc 23, .bin .add, [.loc 21, .loc 22], none⟩,
  ⟨.var 2, .mv, [.loc 23], none⟩]
@[reducible] noncomputable def r70_5 : List RO := [
  ⟨.loc 14, .mv, [.var 0], none⟩,
  ⟨.loc 15, .bin .quo, [.loc 14, (.con (.int .u64 10))], none⟩,
  ⟨.var 0, .mv, [.loc 15], none⟩]
@[reducible] noncomputable def r70_6 : List RO := [
  ⟨.loc 24, .mv, [.var 2], none⟩,
  ⟨.var 1, .mv, [.loc 24], none⟩]
theorem P70 : C70.M = M := by unfold C70 E70; rfl
theorem i70 {a0 : D} : St.init C70 [a0] ⟨[], []⟩ = ⟨[a0, .undef, .undef, .undef], [], ⟨[], []⟩⟩ := by unfold C70 E70; rfl
noncomputable def c70 : RC := (.seq (.reg r70_0) (.seq (.reg r70_1) (.seq (.seq (.reg r70_2) (.block 0 (.loop (.seq (.seq (.reg r70_3) (.cond (.var 3) .skip (.exit 0))) (.seq (.block 1 (.reg r70_4)) (.reg r70_5)))))) (.seq (.reg r70_6) .ret))))
noncomputable def q70 : List RR := [(.slot (.var 1))]
theorem z70 {n m : Nat} : resCode (E70 n m) (Tryd.f70.body.getD .skip) = some c70 := by kernel_rfl
theorem zr70 {n m : Nat} : resRs (E70 n m) Tryd.f70.results.toList = some q70 := by kernel_rfl
theorem ok70 {args : List D} {d : D} (hl : args.length = 1) (h : SWp C70 c70 (fun e s => (match e with | .exit _ => False | _ => True) ∧ rrsWp q70 s fun ds => D.closed (oneOrTup ds) = true ∧ (oneOrTup ds).er = d) (St.init C70 args ⟨[], []⟩)) : Pur M 70 args d :=
  pur_of_body (C := C70) (fn := Tryd.f70) Tryd.func70 (by kernel_rfl) (by kernel_rfl) (rc := c70) z70 (rs := q70) zr70 (by kernel_rfl) (by rw [hl]; rfl) (by rw [hl]; decide) rfl rfl h
/- 48 bogie.bogieref01.Decimal · 1 arguments · kept slots [0, 2, 4] -/
noncomputable def E48 (n m : Nat) : Cfg := ⟨M, [0, 2, 4], 15, n, m, []⟩
noncomputable def C48 : Cfg := E48 0 0
@[reducible] noncomputable def r48_0 : List RO := [
  ⟨.var 1, .mv, [(.con (.str []))], none⟩]
@[reducible] noncomputable def r48_1 : List RO := [
  ⟨.loc 3, .mv, [.var 0], none⟩,
  ⟨.var 2, .bin .lss, [.loc 3, .con (.int .i64 0)], none⟩]
@[reducible] noncomputable def r48_2 : List RO := [
  ⟨.loc 5, .mv, [.var 0], none⟩,
  ⟨.loc 6, .bin .add, [.loc 5, .con (.int .i64 1)], none⟩,
  ⟨.loc 7, .un .neg, [.loc 6], none⟩,
  ⟨.loc 8, .cvI .u64, [.loc 7], none⟩,
  ⟨.loc 9, .bin .add, [.loc 8, (.con (.int .u64 1))], none⟩,
  ⟨.loc 10, .call, [(.con (.fn (.func 70) [] [])), .loc 9], none⟩,
  ⟨.loc 11, .bin .add, [(.con (.str [45])), .loc 10], none⟩,
  ⟨.var 1, .mv, [.loc 11], none⟩]
@[reducible] noncomputable def r48_3 : List RO := [
  ⟨.loc 12, .mv, [.var 0], none⟩,
  ⟨.loc 13, .cvI .u64, [.loc 12], none⟩,
  ⟨.loc 14, .call, [(.con (.fn (.func 70) [] [])), .loc 13], none⟩,
  ⟨.var 1, .mv, [.loc 14], none⟩]
theorem P48 : C48.M = M := by unfold C48 E48; rfl
theorem i48 {a0 : D} : St.init C48 [a0] ⟨[], []⟩ = ⟨[a0, .undef, .undef], [], ⟨[], []⟩⟩ := by unfold C48 E48; rfl
noncomputable def c48 : RC := (.seq (.reg r48_0) (.seq (.seq (.reg r48_1) (.cond (.var 2) (.seq (.reg r48_2) .ret) .skip)) (.seq (.reg r48_3) .ret)))
noncomputable def q48 : List RR := [(.slot (.var 1))]
theorem z48 {n m : Nat} : resCode (E48 n m) (Tryd.f48.body.getD .skip) = some c48 := by kernel_rfl
theorem zr48 {n m : Nat} : resRs (E48 n m) Tryd.f48.results.toList = some q48 := by kernel_rfl
theorem ok48 {args : List D} {d : D} (hl : args.length = 1) (h : SWp C48 c48 (fun e s => (match e with | .exit _ => False | _ => True) ∧ rrsWp q48 s fun ds => D.closed (oneOrTup ds) = true ∧ (oneOrTup ds).er = d) (St.init C48 args ⟨[], []⟩)) : Pur M 48 args d :=
  pur_of_body (C := C48) (fn := Tryd.f48) Tryd.func48 (by kernel_rfl) (by kernel_rfl) (rc := c48) z48 (rs := q48) zr48 (by kernel_rfl) (by rw [hl]; rfl) (by rw [hl]; decide) rfl rfl h
/- 47 bogie.bogieref01.Joined · 1 arguments · kept slots [0, 2, 3, 4, 5, 6, 10, 26] -/
noncomputable def E47 (n m : Nat) : Cfg := ⟨M, [0, 2, 3, 4, 5, 6, 10, 26], 48, n, m, []⟩
noncomputable def C47 : Cfg := E47 0 0
@[reducible] noncomputable def r47_0 : List RO := [
  ⟨.var 1, .mv, [(.con (.str []))], none⟩]
@[reducible] noncomputable def r47_1 : List RO := [
  ⟨.var 2, .mv, [.con (.int .i64 0)], none⟩]
@[reducible] noncomputable def r47_2 : List RO := [
  ⟨.var 3, .mv, [.con (.int .i64 0)], none⟩]
@[reducible] noncomputable def r47_3 : List RO := [
  ⟨.loc 7, .mv, [.var 3], none⟩,
  ⟨.loc 8, .mv, [.var 0], none⟩,
  ⟨.loc 9, .lenL, [.loc 8], none⟩,
  ⟨.var 6, .bin .lss, [.loc 7, .loc 9], none⟩]
@[reducible] noncomputable def r47_4 : List RO := [
  ⟨.loc 13, .mv, [.var 2], none⟩,
  ⟨.loc 14, .mv, [.var 0], none⟩,
  ⟨.loc 15, .mv, [.var 3], none⟩,
  ⟨.loc 16, .ixaS 1, [.loc 14, .loc 15], none⟩,
  ⟨.loc 17, .ld false 1, [.loc 16], none⟩,
  ⟨.loc 18, .lenS, [.loc 17], none⟩,
  ⟨.loc 19, .bin .add, [.loc 18, .con (.int .i64 21)], none⟩,
  ⟨.loc 20, .bin .add, [.loc 13, .loc 19], none⟩,
  ⟨.var 2, .mv, [.loc 20], none⟩]
@[reducible] noncomputable def r47_5 : List RO := [
  ⟨.loc 11, .mv, [.var 3], none⟩,
  ⟨.loc 12, .bin .add, [.loc 11, .con (.int .i64 1)], none⟩,
  ⟨.var 3, .mv, [.loc 12], none⟩]
@[reducible] noncomputable def r47_6 : List RO := [
  ⟨.loc 21, .mv, [.var 2], none⟩,
  ⟨.loc 22, (.mks 1 1 [(.int .u8 0)]), [.con (.int .i64 0), .loc 21], none⟩,
  ⟨.var 4, .mv, [.loc 22], none⟩]
@[reducible] noncomputable def r47_7 : List RO := [
  ⟨.var 5, .mv, [.con (.int .i64 0)], none⟩]
@[reducible] noncomputable def r47_8 : List RO := [
  ⟨.loc 23, .mv, [.var 5], none⟩,
  ⟨.loc 24, .mv, [.var 0], none⟩,
  ⟨.loc 25, .lenL, [.loc 24], none⟩,
  ⟨.var 7, .bin .lss, [.loc 23, .loc 25], none⟩]
@[reducible] noncomputable def r47_9 : List RO := [
  ⟨.loc 29, .mv, [.var 4], none⟩,
  ⟨.loc 30, .mv, [.var 0], none⟩,
  ⟨.loc 31, .mv, [.var 5], none⟩,
  ⟨.loc 32, .ixaS 1, [.loc 30, .loc 31], none⟩,
  ⟨.loc 33, .ld false 1, [.loc 32], none⟩,
  ⟨.loc 34, .lenS, [.loc 33], none⟩,
  ⟨.loc 35, .call, [(.con (.fn (.func 48) [] [])), .loc 34], none⟩,
  ⟨.loc 36, .app 1 1 5, [.loc 29, .loc 35], none⟩,
  ⟨.var 4, .mv, [.loc 36], none⟩]
@[reducible] noncomputable def r47_10 : List RO := [
  ⟨.loc 37, .mv, [.var 4], none⟩,
  ⟨.loc 38, .bsl 1, [(.con (.int .u8 58))], none⟩,
  ⟨.loc 39, .app 1 1 5, [.loc 37, .loc 38], none⟩,
  ⟨.var 4, .mv, [.loc 39], none⟩]
@[reducible] noncomputable def r47_11 : List RO := [
  ⟨.loc 40, .mv, [.var 4], none⟩,
  ⟨.loc 41, .mv, [.var 0], none⟩,
  ⟨.loc 42, .mv, [.var 5], none⟩,
  ⟨.loc 43, .ixaS 1, [.loc 41, .loc 42], none⟩,
  ⟨.loc 44, .ld false 1, [.loc 43], none⟩,
  ⟨.loc 45, .app 1 1 5, [.loc 40, .loc 44], none⟩,
  ⟨.var 4, .mv, [.loc 45], none⟩]
@[reducible] noncomputable def r47_12 : List RO := [
  ⟨.loc 27, .mv, [.var 5], none⟩,
  ⟨.loc 28, .bin .add, [.loc 27, .con (.int .i64 1)], none⟩,
  ⟨.var 5, .mv, [.loc 28], none⟩]
@[reducible] noncomputable def r47_13 : List RO := [
  ⟨.loc 46, .mv, [.var 4], none⟩,
  ⟨.loc 47, .b2s, [.loc 46], none⟩,
  ⟨.var 1, .mv, [.loc 47], none⟩]
theorem P47 : C47.M = M := by unfold C47 E47; rfl
theorem i47 {a0 : D} : St.init C47 [a0] ⟨[], []⟩ = ⟨[a0, .undef, .undef, .undef, .undef, .undef, .undef, .undef], [], ⟨[], []⟩⟩ := by unfold C47 E47; rfl
noncomputable def c47 : RC := (.seq (.reg r47_0) (.seq (.reg r47_1) (.seq (.seq (.reg r47_2) (.block 0 (.loop (.seq (.seq (.reg r47_3) (.cond (.var 6) .skip (.exit 0))) (.seq (.block 1 (.reg r47_4)) (.reg r47_5)))))) (.seq (.reg r47_6) (.seq (.seq (.reg r47_7) (.block 2 (.loop (.seq (.seq (.reg r47_8) (.cond (.var 7) .skip (.exit 2))) (.seq (.block 3 (.seq (.reg r47_9) (.seq (.reg r47_10) (.reg r47_11)))) (.reg r47_12)))))) (.seq (.reg r47_13) .ret))))))
noncomputable def q47 : List RR := [(.slot (.var 1))]
theorem z47 {n m : Nat} : resCode (E47 n m) (Tryd.f47.body.getD .skip) = some c47 := by kernel_rfl
theorem zr47 {n m : Nat} : resRs (E47 n m) Tryd.f47.results.toList = some q47 := by kernel_rfl
theorem ok47 {args : List D} {d : D} (hl : args.length = 1) (h : SWp C47 c47 (fun e s => (match e with | .exit _ => False | _ => True) ∧ rrsWp q47 s fun ds => D.closed (oneOrTup ds) = true ∧ (oneOrTup ds).er = d) (St.init C47 args ⟨[], []⟩)) : Pur M 47 args d :=
  pur_of_body (C := C47) (fn := Tryd.f47) Tryd.func47 (by kernel_rfl) (by kernel_rfl) (rc := c47) z47 (rs := q47) zr47 (by kernel_rfl) (by rw [hl]; rfl) (by rw [hl]; decide) rfl rfl h
/- 44 bogie.bogieref01.List · 1 arguments · kept slots [0, 2] -/
/- 60 bogie.bogieref01.Digit · 1 arguments · kept slots [0, 2, 8, 17] -/
noncomputable def E60 (n m : Nat) : Cfg := ⟨M, [0, 2, 8, 17], 22, n, m, []⟩
noncomputable def C60 : Cfg := E60 0 0
@[reducible] noncomputable def r60_0 : List RO := [
  ⟨.var 1, .mv, [.con (.int .i64 0)], none⟩]
@[reducible] noncomputable def r60_1 : List RO := [
  ⟨.loc 3, .mv, [.var 0], none⟩,
  ⟨.loc 4, .bin .geq, [.loc 3, (.con (.int .u8 48))], none⟩,
  ⟨.loc 5, .mv, [.loc 4], none⟩,
  ⟨.loc 6, .mv, [.var 0], (some (.loc 5, true))⟩,
  ⟨.loc 7, .bin .leq, [.loc 6, (.con (.int .u8 57))], (some (.loc 5, true))⟩,
  ⟨.var 2, .pick, [.loc 5, .loc 7, .con (.bool false)], none⟩]
@[reducible] noncomputable def r60_2 : List RO := [
  ⟨.loc 9, .mv, [.var 0], none⟩,
  ⟨.loc 10, .bin .sub, [.loc 9, (.con (.int .u8 48))], none⟩,
  ⟨.loc 11, .cvI .i64, [.loc 10], none⟩,
  ⟨.var 1, .mv, [.loc 11], none⟩]
@[reducible] noncomputable def r60_3 : List RO := [
  ⟨.loc 12, .mv, [.var 0], none⟩,
  ⟨.loc 13, .bin .geq, [.loc 12, (.con (.int .u8 97))], none⟩,
  ⟨.loc 14, .mv, [.loc 13], none⟩,
  ⟨.loc 15, .mv, [.var 0], (some (.loc 14, true))⟩,
  ⟨.loc 16, .bin .leq, [.loc 15, (.con (.int .u8 102))], (some (.loc 14, true))⟩,
  ⟨.var 3, .pick, [.loc 14, .loc 16, .con (.bool false)], none⟩]
@[reducible] noncomputable def r60_4 : List RO := [
  ⟨.loc 18, .mv, [.var 0], none⟩,
  ⟨.loc 19, .bin .sub, [.loc 18, (.con (.int .u8 97))], none⟩,
  ⟨.loc 20, .cvI .i64, [.loc 19], none⟩,
  ⟨.loc 21, .bin .add, [.loc 20, .con (.int .i64 10)], none⟩,
  ⟨.var 1, .mv, [.loc 21], none⟩]
@[reducible] noncomputable def r60_5 : List RO := [
  ⟨.var 1, .mv, [(.con (.int .i64 (-1)))], none⟩]
theorem P60 : C60.M = M := by unfold C60 E60; rfl
theorem i60 {a0 : D} : St.init C60 [a0] ⟨[], []⟩ = ⟨[a0, .undef, .undef, .undef], [], ⟨[], []⟩⟩ := by unfold C60 E60; rfl
noncomputable def c60 : RC := (.seq (.reg r60_0) (.seq (.seq (.reg r60_1) (.cond (.var 2) (.seq (.reg r60_2) .ret) .skip)) (.seq (.seq (.reg r60_3) (.cond (.var 3) (.seq (.reg r60_4) .ret) .skip)) (.seq (.reg r60_5) .ret))))
noncomputable def q60 : List RR := [(.slot (.var 1))]
theorem z60 {n m : Nat} : resCode (E60 n m) (Tryd.f60.body.getD .skip) = some c60 := by kernel_rfl
theorem zr60 {n m : Nat} : resRs (E60 n m) Tryd.f60.results.toList = some q60 := by kernel_rfl
theorem ok60 {args : List D} {d : D} (hl : args.length = 1) (h : SWp C60 c60 (fun e s => (match e with | .exit _ => False | _ => True) ∧ rrsWp q60 s fun ds => D.closed (oneOrTup ds) = true ∧ (oneOrTup ds).er = d) (St.init C60 args ⟨[], []⟩)) : Pur M 60 args d :=
  pur_of_body (C := C60) (fn := Tryd.f60) Tryd.func60 (by kernel_rfl) (by kernel_rfl) (rc := c60) z60 (rs := q60) zr60 (by kernel_rfl) (by rw [hl]; rfl) (by rw [hl]; decide) rfl rfl h
/- 43 bogie.bogieref01.Is · 1 arguments · kept slots [0, 2, 3, 11, 18] -/
/- 21 bogie.bogieref01.Same · 2 arguments · kept slots [0, 1, 4, 5, 10, 14, 25] -/
noncomputable def E21 (n m : Nat) : Cfg := ⟨M, [0, 1, 4, 5, 10, 14, 25], 26, n, m, []⟩
noncomputable def C21 : Cfg := E21 0 0
@[reducible] noncomputable def r21_0 : List RO := [
  ⟨.var 2, .mv, [.con (.bool false)], none⟩]
@[reducible] noncomputable def r21_1 : List RO := [
  ⟨.loc 6, .mv, [.var 0], none⟩,
  ⟨.loc 7, .lenL, [.loc 6], none⟩,
  ⟨.loc 8, .mv, [.var 1], none⟩,
  ⟨.loc 9, .lenL, [.loc 8], none⟩,
  ⟨.var 4, .bin .neq, [.loc 7, .loc 9], none⟩]
@[reducible] noncomputable def r21_2 : List RO := [
  ⟨.var 2, .mv, [.con (.bool false)], none⟩]
@[reducible] noncomputable def r21_3 : List RO := [
  ⟨.var 3, .mv, [.con (.int .i64 0)], none⟩]
@[reducible] noncomputable def r21_4 : List RO := [
  ⟨.loc 11, .mv, [.var 3], none⟩,
  ⟨.loc 12, .mv, [.var 0], none⟩,
  ⟨.loc 13, .lenL, [.loc 12], none⟩,
  ⟨.var 5, .bin .lss, [.loc 11, .loc 13], none⟩]
@[reducible] noncomputable def r21_5 : List (RO × Bool) := [
  (⟨.loc 17, .mv, [.var 0], none⟩, true),
  (⟨.loc 18, .mv, [.var 3], none⟩, true),
  (⟨.loc 19, .ixaS 1, [.loc 17, .loc 18], none⟩, true),
  (⟨.loc 20, .ld false 1, [.loc 19], none⟩, true),
  (⟨.loc 21, .mv, [.var 1], none⟩, true),
  (⟨.loc 22, .mv, [.var 3], none⟩, true),
  (⟨.loc 23, .ixaS 1, [.loc 21, .loc 22], none⟩, true),
  (⟨.loc 24, .ld false 1, [.loc 23], none⟩, true)]
@[reducible] noncomputable def r21_6 : List RO := [
  ⟨.var 6, .bin .neq, [.loc 20, .loc 24], none⟩]
@[reducible] noncomputable def r21_7 : List RO := [
  ⟨.var 2, .mv, [.con (.bool false)], none⟩]
@[reducible] noncomputable def r21_8 : List RO := [
  ⟨.loc 15, .mv, [.var 3], none⟩,
  ⟨.loc 16, .bin .add, [.loc 15, .con (.int .i64 1)], none⟩,
  ⟨.var 3, .mv, [.loc 16], none⟩]
@[reducible] noncomputable def r21_9 : List RO := [
  ⟨.var 2, .mv, [.con (.bool true)], none⟩]
theorem P21 : C21.M = M := by unfold C21 E21; rfl
theorem i21 {a0 a1 : D} : St.init C21 [a0, a1] ⟨[], []⟩ = ⟨[a0, a1, .undef, .undef, .undef, .undef, .undef], [], ⟨[], []⟩⟩ := by unfold C21 E21; rfl
noncomputable def c21 : RC := (.seq (.reg r21_0) (.seq (.seq (.reg r21_1) (.cond (.var 4) (.seq (.reg r21_2) .ret) .skip)) (.seq (.seq (.reg r21_3) (.block 0 (.loop (.seq (.seq (.reg r21_4) (.cond (.var 5) .skip (.exit 0))) (.seq (.block 1 (.seq (.regD r21_5 r21_6) (.cond (.var 6) (.seq (.reg r21_7) .ret) .skip))) (.reg r21_8)))))) (.seq (.reg r21_9) .ret))))
noncomputable def q21 : List RR := [(.slot (.var 2))]
theorem z21 {n m : Nat} : resCode (E21 n m) (Tryd.f21.body.getD .skip) = some c21 := by kernel_rfl
theorem zr21 {n m : Nat} : resRs (E21 n m) Tryd.f21.results.toList = some q21 := by kernel_rfl
theorem ok21 {args : List D} {d : D} (hl : args.length = 2) (h : SWp C21 c21 (fun e s => (match e with | .exit _ => False | _ => True) ∧ rrsWp q21 s fun ds => D.closed (oneOrTup ds) = true ∧ (oneOrTup ds).er = d) (St.init C21 args ⟨[], []⟩)) : Pur M 21 args d :=
  pur_of_body (C := C21) (fn := Tryd.f21) Tryd.func21 (by kernel_rfl) (by kernel_rfl) (rc := c21) z21 (rs := q21) zr21 (by kernel_rfl) (by rw [hl]; rfl) (by rw [hl]; decide) rfl rfl h
end Go.Proofs.YtgjkhlnpplajjaaDoor
end
section
set_option linter.unusedSimpArgs false
set_option linter.unusedVariables false
namespace Go.Proofs.YtgjkhlnpplajjaaDoor
open Go
abbrev W : Nat := 18446744073709551616
def xs (k y : Nat) : Nat := y ^^^ (y >>> k)
theorem xor_lt {a b : Nat} (ha : a < W) (hb : b < W) : a ^^^ b < W := by
  have := Nat.xor_lt_two_pow (n := 64) ha hb
  exact this
theorem shr_le (a k : Nat) : a >>> k ≤ a := by rw [Nat.shiftRight_eq_div_pow]; exact Nat.div_le_self _ _
theorem xs_lt {k y : Nat} (h : y < W) : xs k y < W := xor_lt h (Nat.lt_of_le_of_lt (shr_le y k) h)
theorem mod_lt_W (x : Nat) : x % W < W := Nat.mod_lt _ (by decide)
def mulW (x c : Nat) : Nat := x * c % W
theorem mulW_lt (x c : Nat) : mulW x c < W := mod_lt_W _
def mixN (x : Nat) : Nat := xs 27 (mulW (xs 33 (mulW x 6364136223846793005)) 2685821657736338717)
theorem mixN_lt (x : Nat) : mixN x < W := xs_lt (mulW_lt _ _)
/-! ### Chunks -/

def val (l : List UInt8) : Nat := l.foldl (fun n b => 256 * n + b.toNat) 0
theorem val_app (l : List UInt8) (b : UInt8) : val (l ++ [b]) = 256 * val l + b.toNat := by simp [val]
theorem val_lt : ∀ (l : List UInt8), val l < 256 ^ l.length := by
  intro l
  have key : ∀ (l : List UInt8) (n k : Nat), n < 256 ^ k → l.foldl (fun n b => 256 * n + b.toNat) n < 256 ^ (k + l.length) := by
    intro l
    induction l with
    | nil => intro n k h; simpa using h
    | cons b l ih =>
      intro n k h
      have hb : b.toNat < 256 := UInt8.toNat_lt b
      have h2 : 256 * n + b.toNat < 256 ^ (k + 1) := by rw [Nat.pow_succ]; omega
      have := ih _ _ h2
      simp only [List.foldl_cons, List.length_cons]
      rwa [show k + (l.length + 1) = k + 1 + l.length by omega]
  have := key l 0 0 (by simp)
  simpa [val] using this
def blk (p : List UInt8) : Nat := val p * 256 ^ (8 - p.length)
theorem blk_lt {p : List UInt8} (h : p.length ≤ 8) : blk p < W := by
  have h1 := val_lt p
  have h2 : 256 ^ p.length * 256 ^ (8 - p.length) = W := by
    rw [← Nat.pow_add, show p.length + (8 - p.length) = 8 by omega]
  unfold blk
  rw [← h2]
  exact Nat.mul_lt_mul_of_pos_right h1 (Nat.pow_pos (by omega))
def run (s : Nat) (t : List UInt8) : Nat :=
  if 8 ≤ t.length then run (mixN (s ^^^ blk (t.take 8))) (t.drop 8) else mixN (s ^^^ blk t)
  termination_by t.length
  decreasing_by simp; omega
theorem run_long {s : Nat} {t : List UInt8} (h : 8 ≤ t.length) : run s t = run (mixN (s ^^^ blk (t.take 8))) (t.drop 8) := by
  rw [run, if_pos h]
theorem run_short {s : Nat} {t : List UInt8} (h : t.length < 8) : run s t = mixN (s ^^^ blk t) := by
  rw [run, if_neg (by omega)]
theorem run_lt : ∀ (n s : Nat) (t : List UInt8), t.length ≤ n → run s t < W := by
  intro n
  induction n using Nat.strongRecOn with
  | _ n ih =>
    intro s t h
    by_cases hl : 8 ≤ t.length
    · rw [run_long hl]
      exact ih (t.drop 8).length (by simp; omega) _ _ (Nat.le_refl _)
    · rw [run_short (by omega)]; exact mixN_lt _
def stt (t : List UInt8) : Nat := run (7046029254386353131 ^^^ t.length) t
theorem stt_lt (t : List UInt8) : stt t < W := run_lt _ _ _ (Nat.le_refl _)
/-! ### Hexadecimal digits -/

def hexd (v : Nat) : UInt8 := if v < 10 then UInt8.ofNat (48 + v) else UInt8.ofNat (87 + v)
theorem hexd_toNat {v : Nat} (h : v < 16) : (hexd v).toNat = if v < 10 then 48 + v else 87 + v := by
  unfold hexd; split <;> rw [UInt8.toNat_ofNat'] <;> omega
def hex16 (s : Nat) : List UInt8 := (List.range 16).map fun i => hexd (s / 16 ^ (15 - i) % 16)
theorem hex16_len (s : Nat) : (hex16 s).length = 16 := by simp [hex16]
def sumN (t : List UInt8) : List UInt8 := hex16 (stt t)
/-! ### The laws -/

theorem len_lt {t : List UInt8} (h : t.length < 65536) : 7046029254386353131 ^^^ t.length < W := xor_lt (by decide) (by show t.length < 18446744073709551616; omega)
end Go.Proofs.YtgjkhlnpplajjaaDoor
end
section
set_option maxRecDepth 100000
set_option linter.unusedSimpArgs false
set_option linter.unusedVariables false
namespace Go.Proofs.YtgjkhlnpplajjaaDoor
open Go GoV
theorem tab_ok (w : World) (h : M.amb w []) : Lib.TabIs Tryd.prog w "internal/strconv.uint64pow10" .u64 Lib.pow10Tab :=
  tabIs_var (P := Tryd.prog) (r := []) h (by kernel_rfl) (List.mem_cons.2 (.inl rfl))
theorem itoa_p (n : Int) (h0 : -9223372036854775808 ≤ n) (h1 : n ≤ 9223372036854775807) : Pur M 59 [.int .i64 n] (.str (Lib.itoa n)) := by
  refine pur_ext (vs := [.int .i64 n]) (v := .string ⟨(Lib.itoa n).toArray⟩) ⟨Tryd.f59, Tryd.func59, rfl, rfl⟩ (fun w I xs h => ?_) (fun w I => ?_) (fun w hA => ?_)
  · obtain ⟨x, xs', rfl, g1, g2⟩ := h.inv
    simp only [Rel] at g1
    rw [g2.inv_nil, g1]
  · simp [Rel]
  · refine (Tryd.strconv_Itoa n h0 h1 w (tab_ok w hA)).mono fun e w' h => ?_
    obtain ⟨rfl, k, os, rfl⟩ := h
    exact ⟨rfl, below_grow k os⟩
theorem mul_p (x y : Nat) (hx : x < W) (hy : y < W) : ∃ hi : Int, Pur M 83 [.int .u64 x, .int .u64 y] (.tup [.int .u64 hi, .int .u64 (mulW x y : Nat)]) := by
  refine ⟨((x * y / W : Nat) : Int), pur_ext (vs := [.int .u64 x, .int .u64 y]) (v := .tuple #[.int .u64 ((x * y / W : Nat) : Int), .int .u64 (mulW x y : Nat)]) ⟨Tryd.f83, Tryd.func83, rfl, rfl⟩ (fun w I xs h => ?_) (fun w I => ?_) (fun w hA => ?_)⟩
  · obtain ⟨x, xs', rfl, g1, g2⟩ := h.inv
    obtain ⟨x2, xs2, rfl, g3, g4⟩ := g2.inv
    simp only [Rel] at g1 g3
    rw [g4.inv_nil, g1, g3]
  · simp only [Rel]
    exact ⟨_, rfl, by simp [RelL, Rel]⟩
  · refine (Tryd.bits_Mul64 x y hx hy w).mono fun e w' h' => ?_
    obtain ⟨rfl, rfl⟩ := h'
    exact ⟨rfl, ⟨rfl, rfl, rfl, Nat.le_refl _, fun _ _ => rfl⟩⟩
theorem shr_word (y k : Nat) (hk : k ≤ 64) : Int.fdiv (y : Int) (2 ^ min k 64) = ((y >>> k : Nat) : Int) := by
  have e : min k 64 = k := Nat.min_eq_left hk
  have e2 : (2 : Int) ^ k = ((2 ^ k : Nat) : Int) := by rw [Int.natCast_pow]; rfl
  rw [e, e2, Int.fdiv_eq_ediv_of_nonneg _ (Int.natCast_nonneg _), Nat.shiftRight_eq_div_pow]
  exact (Int.natCast_ediv y (2 ^ k)).symm
theorem mix_p (x : Nat) (hx : x < W) : Pur M 73 [.int .u64 x] (.int .u64 (mixN x : Nat)) := by
  refine ok73 rfl ?_
  rw [i73]
  unfold c73
  obtain ⟨h1, m1⟩ := mul_p x 6364136223846793005 hx (by decide)
  have hy := mulW_lt x 6364136223846793005
  unfold mixN
  generalize mulW x 6364136223846793005 = y at *
  have hz := xs_lt (k := 33) hy
  obtain ⟨h2, m2⟩ := mul_p (xs 33 y) 2685821657736338717 hz (by decide)
  have e1 := shr_word y 33 (by omega)
  have e2 := bits_xor_u64_nat y (y >>> 33) hy (Nat.lt_of_le_of_lt (shr_le y 33) hy)
  have e3 : y ^^^ y >>> 33 = xs 33 y := rfl
  rw [e3] at e2
  have hu := mulW_lt (xs 33 y) 2685821657736338717
  generalize mulW (xs 33 y) 2685821657736338717 = u at *
  have e4 := shr_word u 27 (by omega)
  have e5 := bits_xor_u64_nat u (u >>> 27) hu (Nat.lt_of_le_of_lt (shr_le u 27) hu)
  have e6 : u ^^^ u >>> 27 = xs 27 u := rfl
  rw [e6] at e5
  generalize xs 33 y = z at *
  have q1 : ((6364136223846793005 : Nat) : Int) = 6364136223846793005 := rfl
  have q2 : ((2685821657736338717 : Nat) : Int) = 2685821657736338717 := rfl
  rw [q1] at m1
  rw [q2] at m2
  generalize y >>> 33 = y' at *
  generalize u >>> 27 = u' at *
  generalize xs 27 u = r at *
  repeat' (first
    | with_reducible first | apply swp_seq | apply swp_reg | apply swp_regD | apply swp_block | apply swp_exit | apply swp_ret | apply swp_skip | apply swp_cd
    | simp only [go_sem, seval, P73, q73, bitsV, e1, e2, e4, e5]
    | ((with_reducible refine o_call (m1) ?he ?hc ?_); (case he | hc => first | rfl | (simp [D.erL, D.er, D.closedL, D.closed]; done)))
    | ((with_reducible refine o_call (m2) ?he ?hc ?_); (case he | hc => first | rfl | (simp [D.erL, D.er, D.closedL, D.closed]; done)))
    | with_reducible first | apply cd_dec | apply cd_eq | apply cd_ne | apply cd_split
    | ((with_reducible refine And.intro ?hw ?_); (case hw => first | omega | rfl | exact ⟨_, _, rfl⟩ | assumption | (simp only [lN] <;> omega)))
    | with_reducible intro _)
  all_goals first
    | omega
    | (simp [D.closed, D.er]; done)
/-! ### Rows of bytes -/

abbrev bys (l : List UInt8) : List D := l.map fun b => .int .u8 b.toNat
theorem bys_len (l : List UInt8) : (bys l).length = l.length := List.length_map _
theorem bys_elems : ∀ l : List UInt8, elemsK 1 (bys l) = true
  | [] => rfl
  | b :: l => by simp [elemsK, D.isVal, D.cells, bys_elems l]
theorem bys_closed : ∀ l : List UInt8, D.closedL (bys l) = true
  | [] => rfl
  | b :: l => by simp [D.closedL, D.closed, bys_closed l]
theorem bys_chunk : ∀ l : List UInt8, chunk 1 l.length (bys l) = bys l
  | [] => rfl
  | b :: l => by
    have := bys_chunk l
    simpa [chunk, bys] using this
theorem bys_bytes : ∀ l : List UInt8, bytesOf (bys l) = some l
  | [] => rfl
  | b :: l => by
    have : b.toNat < 256 := UInt8.toNat_lt b
    simp only [bys, List.map_cons, bytesOf]
    rw [show bytesOf (List.map (fun b => D.int .u8 b.toNat) l) = some l from bys_bytes l]
    simp
theorem bys_flat : ∀ l : List UInt8, flatD (bys l) = bys l
  | [] => rfl
  | b :: l => by simp [flatD, D.cells, bys_flat l]
theorem bys_get {l : List UInt8} {i : Nat} (h : i < l.length) : (bys l).getD i .undef = .int .u8 ((l.getD i 0).toNat : Nat) := by
  simp [bys, List.getD, h]
theorem bys_set (l : List UInt8) (i : Nat) (b : UInt8) : (bys l).set i (.int .u8 (b.toNat : Nat)) = bys (l.set i b) := by simp [bys, List.map_set]
/-! ### The digits -/

def dgs (i : Nat) : List UInt8 := (List.range 16).map fun j => if j < i then hexd j else 0
theorem dgs_step {i : Nat} (h : i < 16) : (dgs i).set i (hexd i) = dgs (i + 1) := by
  have : i = 0 ∨ i = 1 ∨ i = 2 ∨ i = 3 ∨ i = 4 ∨ i = 5 ∨ i = 6 ∨ i = 7 ∨ i = 8 ∨ i = 9 ∨ i = 10 ∨ i = 11 ∨ i = 12 ∨ i = 13 ∨ i = 14 ∨ i = 15 := by omega
  rcases this with h | h | h | h | h | h | h | h | h | h | h | h | h | h | h | h <;> subst h <;> decide
theorem dgs_len (i : Nat) : (dgs i).length = 16 := by simp [dgs]
set_option maxHeartbeats 1000000 in
theorem digits_p : Pur M 74 [] (.agg (bys (dgs 16))) := by
  refine ok74 rfl ?_
  rw [i74]
  unfold c74
  repeat' (first
    | with_reducible first | apply swp_seq | apply swp_reg | apply swp_regD | apply swp_block | apply swp_exit | apply swp_ret | apply swp_skip | apply swp_cd
    | simp only [go_sem, seval, P74, q74]
    | simp (disch := omega) only [w64, w32, wu8, wu16, wu32, wu64]
    | with_reducible first | apply cd_dec | apply cd_eq | apply cd_ne | apply cd_split
    | ((with_reducible refine And.intro ?hw ?_); (case hw => first | omega | rfl | exact ⟨_, _, rfl⟩ | assumption | (simp only [lN] <;> omega)))
    | with_reducible intro _)
  refine swp_fam [0, 1, 3] (fun i : Nat => ⟨[.ptr 0 0, .ptr 1 0, .undef, .int .i64 i, .undef, .undef], [], ⟨[.cells (bys (dgs 0)), .cells (bys (dgs i))], []⟩⟩)
    (fun i => i ≤ 16) (fun i => 16 - i) 0 (by omega) ?_ ?_
  · simp [keepE, St.keep]
    rfl
  · intro i hi
    have hl : (bys (dgs i)).length = 16 := by rw [bys_len, dgs_len]
    by_cases hlt : i < 16
    · have hst := dgs_step hlt
      have hset : ∀ v : Int, v = ((hexd i).toNat : Nat) → (bys (dgs i)).set i (.int .u8 v) = bys (dgs (i + 1)) := fun v hv => by rw [hv, bys_set, hst]
      have hx := hexd_toNat hlt
      by_cases h10 : i < 10
      · rw [if_pos h10] at hx
        have w1 : IntKind.u8.wrap (48 + (i : Int)) = ((hexd i).toNat : Nat) := by rw [wu8 (by omega) (by omega), hx]; omega
        have h2 := hset _ rfl
        repeat' (first
    | with_reducible first | apply swp_seq | apply swp_reg | apply swp_regD | apply swp_block | apply swp_exit | apply swp_ret | apply swp_skip | apply swp_cd
    | simp only [go_sem, seval, P74, q74, Nat.mul_one, w1, h2]
    | simp (disch := omega) only [w64, w32, wu8, wu16, wu32, wu64]
    | with_reducible first | apply cd_dec | apply cd_eq | apply cd_ne | apply cd_split
    | ((with_reducible refine And.intro ?hw ?_); (case hw => first | omega | rfl | exact ⟨_, _, rfl⟩ | assumption | (simp only [lN, hl] <;> omega)))
    | with_reducible intro _)
        all_goals try omega
        refine ⟨i + 1, by omega, by omega, ?_⟩
        simp [keepE, St.keep]
        exact hset _ (by omega)
      · rw [if_neg h10] at hx
        have w1 : IntKind.u8.wrap (97 + (i : Int) - 10) = ((hexd i).toNat : Nat) := by rw [wu8 (by omega) (by omega), hx]; omega
        have w2 : IntKind.u8.wrap (48 + (i : Int)) = 48 + (i : Int) := wu8 (by omega) (by omega)
        have h2 := hset _ rfl
        repeat' (first
    | with_reducible first | apply swp_seq | apply swp_reg | apply swp_regD | apply swp_block | apply swp_exit | apply swp_ret | apply swp_skip | apply swp_cd
    | simp only [go_sem, seval, P74, q74, Nat.mul_one, w1, w2, List.set_set, h2]
    | simp (disch := omega) only [w64, w32, wu8, wu16, wu32, wu64]
    | with_reducible first | apply cd_dec | apply cd_eq | apply cd_ne | apply cd_split
    | ((with_reducible refine And.intro ?hw ?_); (case hw => first | omega | rfl | exact ⟨_, _, rfl⟩ | assumption | (simp only [lN, hl, List.length_set] <;> omega)))
    | with_reducible intro _)
        all_goals try omega
        refine ⟨i + 1, by omega, by omega, ?_⟩
        simp [keepE, St.keep]
        exact hset _ (by omega)
    · have e : i = 16 := by omega
      subst e
      repeat' (first
    | with_reducible first | apply swp_seq | apply swp_reg | apply swp_regD | apply swp_block | apply swp_exit | apply swp_ret | apply swp_skip | apply swp_cd
    | simp only [go_sem, seval, P74, q74]
    | simp (disch := omega) only [w64, w32, wu8, wu16, wu32, wu64]
    | with_reducible first | apply cd_dec | apply cd_eq | apply cd_ne | apply cd_split
    | ((with_reducible refine And.intro ?hw ?_); (case hw => first | omega | rfl | exact ⟨_, _, rfl⟩ | assumption | (simp only [lN, hl] <;> omega)))
    | with_reducible intro _)
      all_goals first
        | omega
        | skip
      all_goals (
        have e : setL (bys (dgs 0)) 0 (List.take 16 (bys (dgs 16))) = bys (dgs 16) := rfl
        rw [e]
        rfl)
end Go.Proofs.YtgjkhlnpplajjaaDoor
end
section
set_option maxRecDepth 100000
set_option linter.unusedSimpArgs false
set_option linter.unusedVariables false
namespace Go.Proofs.YtgjkhlnpplajjaaDoor
open Go GoV
def pad (p : List UInt8) : List UInt8 := p ++ List.replicate (8 - p.length) 0
theorem pad_len {p : List UInt8} (h : p.length ≤ 8) : (pad p).length = 8 := by simp [pad]; omega
theorem val_pad (p : List UInt8) : val (pad p) = blk p := by
  have key : ∀ k, val (p ++ List.replicate k 0) = val p * 256 ^ k := by
    intro k
    induction k with
    | zero => simp
    | succ k ih =>
      rw [List.replicate_succ', ← List.append_assoc, val_app, ih, Nat.pow_succ]
      simp [Nat.mul_comm, Nat.mul_left_comm, Nat.mul_assoc]
  exact key _
theorem setL_take : ∀ (ys l : List D) (k : Nat), setL (l ++ List.replicate (ys.length + k) (D.int .u8 0)) l.length ys = l ++ ys ++ List.replicate k (D.int .u8 0)
  | [], l, k => by simp [setL]
  | y :: ys, l, k => by
    have e : (l ++ List.replicate ((y :: ys).length + k) (D.int .u8 0)).set l.length y = (l ++ [y]) ++ List.replicate (ys.length + k) (D.int .u8 0) := by
      rw [show (y :: ys).length + k = (ys.length + k) + 1 by simp; omega, List.replicate_succ]
      simp
    rw [setL, e]
    have := setL_take ys (l ++ [y]) k
    simpa using this
theorem cpy_pad {p : List UInt8} (h : p.length ≤ 8) : setL [D.int .u8 0, D.int .u8 0, D.int .u8 0, D.int .u8 0, D.int .u8 0, D.int .u8 0, D.int .u8 0, D.int .u8 0] 0 (flatD (List.take 8 (List.map (fun b => D.int .u8 (b.toNat : Nat)) p))) = bys (pad p) := by
  have e : (List.map (fun b => D.int .u8 (b.toNat : Nat)) p).take 8 = bys p := List.take_of_length_le (by simpa using h)
  rw [e, bys_flat]
  have h1 := setL_take (bys p) [] (8 - p.length)
  rw [bys_len, show p.length + (8 - p.length) = 8 by omega] at h1
  simp only [List.nil_append, List.length_nil] at h1
  have h2 : List.replicate 8 (D.int .u8 0) = [D.int .u8 0, D.int .u8 0, D.int .u8 0, D.int .u8 0, D.int .u8 0, D.int .u8 0, D.int .u8 0, D.int .u8 0] := rfl
  rw [← h2, h1]
  simp [pad, bys]
set_option maxHeartbeats 2000000 in
theorem take_e (s : Nat) (p : List UInt8) (hs : s < W) (hp : p.length ≤ 8) : Eff M 72 [.str p, .ptr 0 0] ⟨[.cells [.int .u64 s]], []⟩ (fun d hp' => d = .tup [] ∧ hp' = ⟨[.cells [.int .u64 (mixN (s ^^^ blk p) : Nat)]], []⟩) := by
  refine oe72 1 0 rfl rfl rfl ?_
  rw [ie72]
  unfold c72
  have hcp := cpy_pad hp
  have hpl := pad_len hp
  have hK := bys_elems p
  have hlen : (bys p).length = p.length := bys_len p
  repeat' (first
    | with_reducible first | apply swp_seq | apply swp_reg | apply swp_regD | apply swp_block | apply swp_exit | apply swp_ret | apply swp_skip | apply swp_cd
    | simp only [go_sem, seval, pe72, q72]
    | simp (disch := omega) only [w64, w32, wu8, wu16, wu32, wu64]
    | ((with_reducible apply s_saFF))
    | ((with_reducible first | apply s_saTF | apply s_saFT); (case h0 | h1 => first | rfl | assumption | omega | ((first | refine ⟨?_, ?_⟩ | skip) <;> first | omega | (simp only [lN] <;> omega)) | (simp [elemsK, D.isVal, D.cells, D.closedL, D.closed]; first | done | omega)))
    | ((with_reducible apply s_cpy); (case h1 | he => rfl); (case h2 | h3 | hK => first | rfl | assumption | omega | ((first | refine ⟨?_, ?_⟩ | skip) <;> first | omega | (simp only [lN] <;> omega)) | (simp [elemsK, D.isVal, D.cells, D.closedL, D.closed]; first | done | omega)))
    | with_reducible first | apply cd_dec | apply cd_eq | apply cd_ne | apply cd_split
    | ((with_reducible refine And.intro ?hw ?_); (case hw => first | omega | rfl | exact ⟨_, _, rfl⟩ | assumption | (simp only [lN] <;> omega)))
    | with_reducible intro _)
  have e0 : setL [D.int .u8 0, D.int .u8 0, D.int .u8 0, D.int .u8 0, D.int .u8 0, D.int .u8 0, D.int .u8 0, D.int .u8 0] 0 (flatD ((bys p).take 8)) = bys (pad p) := hcp
  rw [e0]
  repeat' (first
    | with_reducible first | apply swp_seq | apply swp_reg | apply swp_regD | apply swp_block | apply swp_exit | apply swp_ret | apply swp_skip | apply swp_cd
    | simp only [go_sem, seval, pe72, q72]
    | simp (disch := omega) only [w64, w32, wu8, wu16, wu32, wu64]
    | ((with_reducible apply s_saFF))
    | ((with_reducible first | apply s_saTF | apply s_saFT); (case h0 | h1 => first | rfl | assumption | omega | ((first | refine ⟨?_, ?_⟩ | skip) <;> first | omega | (simp only [lN] <;> omega)) | (simp [elemsK, D.isVal, D.cells, D.closedL, D.closed]; first | done | omega)))
    | ((with_reducible apply s_cpy); (case h1 | he => rfl); (case h2 | h3 | hK => first | rfl | assumption | omega | ((first | refine ⟨?_, ?_⟩ | skip) <;> first | omega | (simp only [lN] <;> omega)) | (simp [elemsK, D.isVal, D.cells, D.closedL, D.closed]; first | done | omega)))
    | with_reducible first | apply cd_dec | apply cd_eq | apply cd_ne | apply cd_split
    | ((with_reducible refine And.intro ?hw ?_); (case hw => first | omega | rfl | exact ⟨_, _, rfl⟩ | assumption | (simp only [lN] <;> omega)))
    | with_reducible intro _)
  refine swp_fam [0, 1, 2, 3, 5] (fun i : Nat => ⟨[.str p, .ptr 0 0, .ptr 1 0, .int .u64 (val ((pad p).take i) : Nat), .undef, .int .i64 i, .undef], [], ⟨[.cells [.int .u64 s], .cells (bys (pad p))], []⟩⟩)
    (fun i => i ≤ 8) (fun i => 8 - i) 0 (by omega) ?_ ?_
  · simp [keepE, St.keep, val]
  · intro i hi
    have hbl : (bys (pad p)).length = 8 := by rw [bys_len, hpl]
    by_cases hlt : i < 8
    · have hg := bys_get (l := pad p) (i := i) (by omega)
      have hst : val ((pad p).take (i + 1)) = 256 * val ((pad p).take i) + ((pad p).getD i 0).toNat := by
        rw [List.take_succ_eq_append_getElem (by omega), val_app]
        congr 2
        simp [List.getD, hpl, hlt]
      have hb : ((pad p).getD i 0).toNat < 256 := UInt8.toNat_lt _
      have hv : val ((pad p).take i) < 72057594037927936 := by
        have h1 := val_lt ((pad p).take i)
        have h2 : ((pad p).take i).length ≤ 7 := by simp; omega
        have h3 : 256 ^ ((pad p).take i).length ≤ 256 ^ 7 := Nat.pow_le_pow_right (by omega) h2
        exact Nat.lt_of_lt_of_le h1 h3
      generalize val ((pad p).take i) = v at *
      generalize ((pad p).getD i 0).toNat = b at *
      have e1 : IntKind.u64.wrap ((v : Int) * 2 ^ min 8 64) = ((256 * v : Nat) : Int) := by
        have : ((v : Int) * 2 ^ min 8 64) = 256 * v := by
          show (v : Int) * 256 = 256 * v
          omega
        rw [this, wu64 (by omega) (by omega)]; omega
      have e2 := bits_or_u64_nat (256 * v) b (by omega) (by omega)
      have e3 : 256 * v ||| b = 256 * v + b := (Nat.two_pow_add_eq_or_of_lt (i := 8) (by simpa using hb) v).symm
      rw [e3, ← hst] at e2
      have e4 : IntKind.u64.wrap (b : Int) = b := wu64 (by omega) (by omega)
      repeat' (first
    | with_reducible first | apply swp_seq | apply swp_reg | apply swp_regD | apply swp_block | apply swp_exit | apply swp_ret | apply swp_skip | apply swp_cd
    | simp only [go_sem, seval, pe72, q72, Nat.mul_one, hg, bitsV, e1, e4, e2]
    | simp (disch := omega) only [w64, w32, wu8, wu16, wu32, wu64]
    | ((with_reducible apply s_saFF))
    | ((with_reducible first | apply s_saTF | apply s_saFT); (case h0 | h1 => first | rfl | assumption | omega | ((first | refine ⟨?_, ?_⟩ | skip) <;> first | omega | (simp only [lN, hbl] <;> omega)) | (simp [elemsK, D.isVal, D.cells, D.closedL, D.closed, hbl]; first | done | omega)))
    | ((with_reducible apply s_cpy); (case h1 | he => rfl); (case h2 | h3 | hK => first | rfl | assumption | omega | ((first | refine ⟨?_, ?_⟩ | skip) <;> first | omega | (simp only [lN, hbl] <;> omega)) | (simp [elemsK, D.isVal, D.cells, D.closedL, D.closed, hbl]; first | done | omega)))
    | with_reducible first | apply cd_dec | apply cd_eq | apply cd_ne | apply cd_split
    | ((with_reducible refine And.intro ?hw ?_); (case hw => first | omega | rfl | exact ⟨_, _, rfl⟩ | assumption | (simp only [lN, hbl] <;> omega)))
    | with_reducible intro _)
      all_goals try omega
      refine ⟨i + 1, by omega, by omega, ?_⟩
      simp [keepE, St.keep]
    · have e : i = 8 := by omega
      subst e
      have ht : (pad p).take 8 = pad p := List.take_of_length_le (by omega)
      rw [ht, val_pad]
      have hblk := blk_lt hp
      have e2 := bits_xor_u64_nat s (blk p) hs hblk
      have hm := mix_p (s ^^^ blk p) (xor_lt hs hblk)
      generalize s ^^^ blk p = z at *
      generalize blk p = q at *
      repeat' (first
    | with_reducible first | apply swp_seq | apply swp_reg | apply swp_regD | apply swp_block | apply swp_exit | apply swp_ret | apply swp_skip | apply swp_cd
    | simp only [go_sem, seval, pe72, q72, bitsV, e2]
    | simp (disch := omega) only [w64, w32, wu8, wu16, wu32, wu64]
    | ((with_reducible refine o_call (hm) ?he ?hc ?_); (case he | hc => first | rfl | (simp [D.erL, D.er, D.closedL, D.closed, hbl]; done)))
    | ((with_reducible apply s_saFF))
    | ((with_reducible first | apply s_saTF | apply s_saFT); (case h0 | h1 => first | rfl | assumption | omega | ((first | refine ⟨?_, ?_⟩ | skip) <;> first | omega | (simp only [lN, hbl] <;> omega)) | (simp [elemsK, D.isVal, D.cells, D.closedL, D.closed, hbl]; first | done | omega)))
    | ((with_reducible apply s_cpy); (case h1 | he => rfl); (case h2 | h3 | hK => first | rfl | assumption | omega | ((first | refine ⟨?_, ?_⟩ | skip) <;> first | omega | (simp only [lN, hbl] <;> omega)) | (simp [elemsK, D.isVal, D.cells, D.closedL, D.closed, hbl]; first | done | omega)))
    | with_reducible first | apply cd_dec | apply cd_eq | apply cd_ne | apply cd_split
    | ((with_reducible refine And.intro ?hw ?_); (case hw => first | omega | rfl | exact ⟨_, _, rfl⟩ | assumption | (simp only [lN, hbl] <;> omega)))
    | with_reducible intro _)
      all_goals try omega
      refine ⟨_, weak_gc 1 0 (Nat.le_refl _) (Nat.le_refl _), ?_⟩
      simp [St.gc, Hp.cut, D.rnL, D.rn, cutF, Blk.rn, Blk.rnL, Tv.rnL, setL]
def hexP (s i : Nat) : List UInt8 := (List.range 16).map fun j => if j < i then hexd (s / 16 ^ (15 - j) % 16) else 0
theorem hexP_len (s i : Nat) : (hexP s i).length = 16 := by simp [hexP]
theorem hexP_end (s : Nat) : hexP s 16 = hex16 s := by
  unfold hexP hex16
  refine List.map_congr_left fun j hj => ?_
  rw [if_pos (by simpa using hj)]
theorem hexP_step {s i : Nat} (h : i < 16) : (hexP s i).set i (hexd (s / 16 ^ (15 - i) % 16)) = hexP s (i + 1) := by
  refine List.ext_getElem (by simp [hexP]) fun j h1 h2 => ?_
  have hj : j < 16 := by simpa [hexP] using h2
  rw [List.getElem_set]
  simp only [hexP, List.getElem_map, List.getElem_range]
  by_cases e : i = j
  · subst e; rw [if_pos rfl, if_pos (by omega)]
  · rw [if_neg e]
    by_cases q : j < i
    · rw [if_pos q, if_pos (by omega)]
    · rw [if_neg q, if_neg (by omega)]
theorem dgs_get {v : Nat} (h : v < 16) : (bys (dgs 16)).getD v .undef = .int .u8 ((hexd v).toNat : Nat) := by
  rw [bys_get (by rw [dgs_len]; exact h)]
  congr 3
  have hj : v < (dgs 16).length := by rw [dgs_len]; exact h
  have : (dgs 16).getD v 0 = (dgs 16)[v] := by simp [List.getD, hj]
  rw [this]
  simp [dgs, h]
theorem nib (s i : Nat) (h : i < 16) : (s >>> (60 - 4 * i)) &&& 15 = s / 16 ^ (15 - i) % 16 := by
  have e : (16 : Nat) ^ (15 - i) = 2 ^ (60 - 4 * i) := by
    rw [show (16 : Nat) = 2 ^ 4 by decide, ← Nat.pow_mul, show 4 * (15 - i) = 60 - 4 * i by omega]
  rw [e, Nat.shiftRight_eq_div_pow]
  exact Nat.and_two_pow_sub_one_eq_mod _ 4
set_option maxHeartbeats 4000000 in
theorem sum_p (t : List UInt8) (ht : t.length < 65536) : Pur M 57 [.str t] (.str (sumN t)) := by
  refine ok57 rfl ?_
  rw [i57]
  unfold c57
  have hl := len_lt ht
  have e0 : IntKind.u64.wrap (t.length : Int) = t.length := wu64 (by omega) (by omega)
  have e1 := bits_xor_u64_nat 7046029254386353131 t.length (by decide) (by omega)
  have e2 : ((7046029254386353131 : Nat) : Int) = 7046029254386353131 := rfl
  rw [e2] at e1
  have hR : run (7046029254386353131 ^^^ t.length) t = stt t := rfl
  have hRlt := stt_lt t
  unfold sumN
  generalize stt t = R at *
  generalize hS : 7046029254386353131 ^^^ t.length = S at *
  repeat' (first
    | with_reducible first | apply swp_seq | apply swp_reg | apply swp_regD | apply swp_block | apply swp_exit | apply swp_ret | apply swp_skip | apply swp_cd
    | simp only [go_sem, seval, P57, q57, bitsV, e0, e1]
    | simp (disch := omega) only [w64, w32, wu8, wu16, wu32, wu64]
    | ((with_reducible apply s_saFF))
    | ((with_reducible first | apply s_saTF | apply s_saFT); (case h0 | h1 => first | rfl | assumption | omega | ((first | refine ⟨?_, ?_⟩ | skip) <;> first | omega | (simp only [lN] <;> omega)) | (simp [elemsK, D.isVal, D.cells, D.closedL, D.closed]; first | done | omega)))
    | ((with_reducible apply s_b2s); (case he | hb => rfl); (case hn => first | rfl | assumption | omega | ((first | refine ⟨?_, ?_⟩ | skip) <;> first | omega | (simp only [lN] <;> omega)) | (simp [elemsK, D.isVal, D.cells, D.closedL, D.closed]; first | done | omega)))
    | with_reducible first | apply cd_dec | apply cd_eq | apply cd_ne | apply cd_split
    | ((with_reducible refine And.intro ?hw ?_); (case hw => first | omega | rfl | exact ⟨_, _, rfl⟩ | assumption | (simp only [lN] <;> omega)))
    | with_reducible intro _)
  all_goals try omega
  refine swp_fam [0, 2, 3] (fun p : Nat × List UInt8 => ⟨[.str p.2, .undef, .ptr 0 0, .fn (.func 72) [] [.ptr 0 0], .undef, .undef, .undef, .undef, .undef, .undef], [], ⟨[.cells [.int .u64 p.1]], []⟩⟩)
    (fun p => p.1 < W ∧ p.2.length ≤ t.length ∧ run p.1 p.2 = R) (fun p => p.2.length) (S, t) ⟨hl, Nat.le_refl _, hR⟩ ?_ ?_
  · simp [keepE, St.keep]
  · rintro ⟨s, u⟩ ⟨g1, g2, g3⟩
    simp only at g1 g2 g3 ⊢
    by_cases h8 : 8 ≤ u.length
    · have c1 := take_e s (u.take 8) g1 (by simp; omega)
      have e8 : (8 : Int).toNat = 8 := rfl
      repeat' (first
    | with_reducible first | apply swp_seq | apply swp_reg | apply swp_regD | apply swp_block | apply swp_exit | apply swp_ret | apply swp_skip | apply swp_cd
    | simp only [go_sem, seval, P57, q57, e8]
    | simp (disch := omega) only [w64, w32, wu8, wu16, wu32, wu64]
    | ((with_reducible refine o_eff [0] [] (c1) ?hs ?he ?hh ?_); (case hs => exact ⟨by simp, by simp, by simp, by simp⟩); (case he => first | rfl | (simp [go_sem, seval]; done)); (case hh => first | rfl | (simp [go_sem, seval]; done)); rintro _ _ ⟨rfl, rfl⟩)
    | ((with_reducible apply s_saFF))
    | ((with_reducible first | apply s_saTF | apply s_saFT); (case h0 | h1 => first | rfl | assumption | omega | ((first | refine ⟨?_, ?_⟩ | skip) <;> first | omega | (simp only [lN] <;> omega)) | (simp [elemsK, D.isVal, D.cells, D.closedL, D.closed]; first | done | omega)))
    | ((with_reducible apply s_b2s); (case he | hb => rfl); (case hn => first | rfl | assumption | omega | ((first | refine ⟨?_, ?_⟩ | skip) <;> first | omega | (simp only [lN] <;> omega)) | (simp [elemsK, D.isVal, D.cells, D.closedL, D.closed]; first | done | omega)))
    | with_reducible first | apply cd_dec | apply cd_eq | apply cd_ne | apply cd_split
    | ((with_reducible refine And.intro ?hw ?_); (case hw => first | omega | rfl | exact ⟨_, _, rfl⟩ | assumption | (simp only [lN] <;> omega)))
    | with_reducible intro _)
      all_goals try omega
      refine ⟨(mixN (s ^^^ blk (u.take 8)), u.drop 8), ⟨mixN_lt _, by simp only [List.length_drop]; omega, by rw [← g3, run_long h8]⟩, by simp only [List.length_drop]; omega, ?_⟩
      simp [keepE, St.keep]
    · have c1 := take_e s u g1 (by omega)
      rw [run_short (by omega)] at g3
      rw [g3] at c1
      have c2 := digits_p
      repeat' (first
    | with_reducible first | apply swp_seq | apply swp_reg | apply swp_regD | apply swp_block | apply swp_exit | apply swp_ret | apply swp_skip | apply swp_cd
    | simp only [go_sem, seval, P57, q57]
    | simp (disch := omega) only [w64, w32, wu8, wu16, wu32, wu64]
    | ((with_reducible refine o_eff [0] [] (c1) ?hs ?he ?hh ?_); (case hs => exact ⟨by simp, by simp, by simp, by simp⟩); (case he => first | rfl | (simp [go_sem, seval]; done)); (case hh => first | rfl | (simp [go_sem, seval]; done)); rintro _ _ ⟨rfl, rfl⟩)
    | ((with_reducible refine o_call (c2) ?he ?hc ?_); (case he | hc => first | rfl | (simp [D.erL, D.er, D.closedL, D.closed]; done)))
    | ((with_reducible apply s_saFF))
    | ((with_reducible first | apply s_saTF | apply s_saFT); (case h0 | h1 => first | rfl | assumption | omega | ((first | refine ⟨?_, ?_⟩ | skip) <;> first | omega | (simp only [lN] <;> omega)) | (simp [elemsK, D.isVal, D.cells, D.closedL, D.closed]; first | done | omega)))
    | ((with_reducible apply s_b2s); (case he | hb => rfl); (case hn => first | rfl | assumption | omega | ((first | refine ⟨?_, ?_⟩ | skip) <;> first | omega | (simp only [lN] <;> omega)) | (simp [elemsK, D.isVal, D.cells, D.closedL, D.closed]; first | done | omega)))
    | with_reducible first | apply cd_dec | apply cd_eq | apply cd_ne | apply cd_split
    | ((with_reducible refine And.intro ?hw ?_); (case hw => first | omega | rfl | exact ⟨_, _, rfl⟩ | assumption | (simp only [lN] <;> omega)))
    | with_reducible intro _)
      all_goals try omega
      refine swp_fam [2, 4, 5, 8] (fun i : Nat => ⟨[.undef, .undef, .ptr 0 0, .undef, .ptr 1 0, .ptr 2 0, .undef, .undef, .int .i64 i, .undef], [], ⟨[.cells [.int .u64 R], .cells (bys (dgs 16)), .cells (bys (hexP R i))], []⟩⟩)
        (fun i => i ≤ 16) (fun i => 16 - i) 0 (by omega) ?_ ?_
      · simp [keepE, St.keep]
        exact ⟨rfl, rfl⟩
      · intro i hi
        have l1 : (bys (dgs 16)).length = 16 := by rw [bys_len, dgs_len]
        have l2 : (bys (hexP R i)).length = 16 := by rw [bys_len, hexP_len]
        by_cases hlt : i < 16
        · have hd := dgs_get (v := R / 16 ^ (15 - i) % 16) (Nat.mod_lt _ (by omega))
          have hst := hexP_step (s := R) hlt
          have hset : (bys (hexP R i)).set i (.int .u8 ((hexd (R / 16 ^ (15 - i) % 16)).toNat : Nat)) = bys (hexP R (i + 1)) := by rw [bys_set, hst]
          have q1 : ((60 : Int) - 4 * (i : Int)).toNat = 60 - 4 * i := by omega
          have q2 := shr_word R (60 - 4 * i) (by omega)
          have q3 := bits_and_u64_nat (R >>> (60 - 4 * i)) 15 (Nat.lt_of_le_of_lt (shr_le R _) hRlt) (by decide)
          rw [nib R i hlt] at q3
          have q4 : ((15 : Nat) : Int) = 15 := rfl
          rw [q4] at q3
          have hv : R / 16 ^ (15 - i) % 16 < 16 := Nat.mod_lt _ (by omega)
          generalize R / 16 ^ (15 - i) % 16 = v at *
          repeat' (first
    | with_reducible first | apply swp_seq | apply swp_reg | apply swp_regD | apply swp_block | apply swp_exit | apply swp_ret | apply swp_skip | apply swp_cd
    | simp only [go_sem, seval, P57, q57, Nat.mul_one, bitsV, q1, q2, q3, hd, hset]
    | simp (disch := omega) only [w64, w32, wu8, wu16, wu32, wu64]
    | ((with_reducible apply s_saFF))
    | ((with_reducible first | apply s_saTF | apply s_saFT); (case h0 | h1 => first | rfl | assumption | omega | ((first | refine ⟨?_, ?_⟩ | skip) <;> first | omega | (simp only [lN, l1, l2] <;> omega)) | (simp [elemsK, D.isVal, D.cells, D.closedL, D.closed, l1, l2]; first | done | omega)))
    | ((with_reducible apply s_b2s); (case he | hb => rfl); (case hn => first | rfl | assumption | omega | ((first | refine ⟨?_, ?_⟩ | skip) <;> first | omega | (simp only [lN, l1, l2] <;> omega)) | (simp [elemsK, D.isVal, D.cells, D.closedL, D.closed, l1, l2]; first | done | omega)))
    | with_reducible first | apply cd_dec | apply cd_eq | apply cd_ne | apply cd_split
    | ((with_reducible refine And.intro ?hw ?_); (case hw => first | omega | rfl | exact ⟨_, _, rfl⟩ | assumption | (simp only [lN, l1, l2] <;> omega)))
    | with_reducible intro _)
          all_goals try omega
          refine ⟨i + 1, by omega, by omega, ?_⟩
          simp [keepE, St.keep]
        · have e : i = 16 := by omega
          subst e
          rw [hexP_end]
          have hch := bys_chunk (hex16 R)
          rw [hex16_len] at hch
          repeat' (first
    | with_reducible first | apply swp_seq | apply swp_reg | apply swp_regD | apply swp_block | apply swp_exit | apply swp_ret | apply swp_skip | apply swp_cd
    | simp only [go_sem, seval, P57, q57]
    | simp (disch := omega) only [w64, w32, wu8, wu16, wu32, wu64]
    | ((with_reducible apply s_saFF))
    | ((with_reducible first | apply s_saTF | apply s_saFT); (case h0 | h1 => first | rfl | assumption | omega | ((first | refine ⟨?_, ?_⟩ | skip) <;> first | omega | (simp only [lN, l1, l2] <;> omega)) | (simp [elemsK, D.isVal, D.cells, D.closedL, D.closed, l1, l2]; first | done | omega)))
    | ((with_reducible apply s_b2s); (case he | hb => rfl); (case hn => first | rfl | assumption | omega | ((first | refine ⟨?_, ?_⟩ | skip) <;> first | omega | (simp only [lN, l1, l2] <;> omega)) | (simp [elemsK, D.isVal, D.cells, D.closedL, D.closed, l1, l2]; first | done | omega)))
    | with_reducible first | apply cd_dec | apply cd_eq | apply cd_ne | apply cd_split
    | ((with_reducible refine And.intro ?hw ?_); (case hw => first | omega | rfl | exact ⟨_, _, rfl⟩ | assumption | (simp only [lN, l1, l2] <;> omega)))
    | with_reducible intro _)
          all_goals try omega
          congr 1
          simp only [UInt8.ofNat_toNat]
          rfl
end Go.Proofs.YtgjkhlnpplajjaaDoor
end
section
set_option maxRecDepth 100000
set_option linter.unusedSimpArgs false
set_option linter.unusedVariables false
namespace Go.Proofs.YtgjkhlnpplajjaaDoor
open Go GoV
abbrev strs (l : List (List UInt8)) : List D := l.map D.str
theorem strs_get {l : List (List UInt8)} {i : Nat} (h : i < l.length) : (strs l).getD i .undef = .str (l.getD i []) := by
  simp [strs, List.getD, h]
def piece (s : List UInt8) : List UInt8 := Lib.itoa s.length ++ [58] ++ s
def joined (l : List (List UInt8)) : List UInt8 := (l.map piece).flatten
theorem joined_app (l : List (List UInt8)) (s : List UInt8) : joined (l ++ [s]) = joined l ++ piece s := by simp [joined]
theorem joined_step {l : List (List UInt8)} {i : Nat} (h : i < l.length) : joined (l.take (i + 1)) = joined (l.take i) ++ piece (l.getD i []) := by
  rw [List.take_succ_eq_append_getElem h, joined_app]
  simp [List.getD, h]
theorem joined_le (l : List (List UInt8)) (i : Nat) : (joined (l.take i)).length ≤ (joined l).length := by
  have : joined l = joined (l.take i) ++ joined (l.drop i) := by
    unfold joined
    rw [← List.flatten_append, ← List.map_append, List.take_append_drop]
  rw [this]; simp
def lays240_ren : Go.Shelf.Ren := ⟨fun | 240 => 86 | 276 => 94 | n => n, fun | 0 => 0 | 4 => 4 | 9 => 9 | 20 => 20 | 70 => 87 | 72 => 89 | 37 => 80 | 5 => 5 | 164 => 109 | n => n, fun | n => n⟩
theorem lays240 : Go.Proofs.Lays.n240 Tryd.prog lays240_ren := {
  mixed := by kernel_rfl
  f240 := Tryd.func86.trans (congrArg some (by kernel_rfl))
  f276 := Tryd.func94.trans (congrArg some (by kernel_rfl))
  t0 := Tryd.underlying0
  a0 := Tryd.isAgg0
  z0 := Tryd.sizeOf0
  v0 := Tryd.zeroValue0
  t4 := Tryd.underlying4
  a4 := Tryd.isAgg4
  z4 := Tryd.sizeOf4
  v4 := Tryd.zeroValue4
  t9 := Tryd.underlying9
  a9 := Tryd.isAgg9
  z9 := Tryd.sizeOf9
  v9 := Tryd.zeroValue9
  t20 := Tryd.underlying20
  a20 := Tryd.isAgg20
  z20 := Tryd.sizeOf20
  v20 := Tryd.zeroValue20
  t70 := Tryd.underlying87
  a70 := Tryd.isAgg87
  z70 := Tryd.sizeOf87
  v70 := Tryd.zeroValue87
  t72 := Tryd.underlying89
  a72 := Tryd.isAgg89
  z72 := Tryd.sizeOf89
  v72 := Tryd.zeroValue89
  t164 := Tryd.underlying109
  a164 := Tryd.isAgg109
  z164 := Tryd.sizeOf109
  v164 := Tryd.zeroValue109 }
theorem x72 : Builder.X72 Tryd.prog lays240_ren := {
  sizeBuilder := by kernel_rfl
  liesBuilder := by kernel_rfl }
theorem wstr_e {p : D} (hp : p = .lit (.pointer none) ∨ p = .ptr 0 0) (bs s : List UInt8) (n : Nat) (hn : bs.length = n) (hr : n + s.length ≤ 140737488355328) :
    Eff M 77 [.ptr 0 0, .str s] ⟨[.tcells 89 [p, .gs 0 n]], [.byt 5 bs]⟩ (fun d hp' => d = .tup [.int .i64 s.length, .lit .nilIface] ∧ hp' = ⟨[.tcells 89 [.ptr 0 0, .gs 0 (n + s.length)]], [.byt 5 (bs ++ s)]⟩) := by
  refine oe77 1 1 rfl rfl rfl ?_
  rw [ie77]
  unfold c77
  have c1 : Eff M 86 [.ptr 0 0] ⟨[.tcells 89 [p, .gs 0 n]], [.byt 5 bs]⟩ (fun d hp' => d = .tup [] ∧ hp' = ⟨[.tcells 89 [.ptr 0 0, .gs 0 n]], [.byt 5 bs]⟩) :=
    copyCheck_e (M := M) lays240 x72 ⟨Tryd.f86, Tryd.func86, rfl, rfl⟩ hp
  rcases hp with rfl | rfl
  · repeat' (first
    | with_reducible first | apply swp_seq | apply swp_reg | apply swp_regD | apply swp_block | apply swp_exit | apply swp_ret | apply swp_skip | apply swp_cd
    | simp only [go_sem, seval, pe77, q77]
    | simp (disch := omega) only [w64, w32, wu8, wu16, wu32, wu64]
    | ((with_reducible refine o_eff [0] [0] (c1) ?hs ?he ?hh ?_); (case hs => exact ⟨by simp, by simp, by simp, by simp⟩); (case he => first | rfl | (simp [go_sem, seval]; done)); (case hh => first | rfl | (simp [go_sem, seval]; done)); rintro _ _ ⟨rfl, rfl⟩)
    | ((with_reducible apply s_appS); (case hV => rfl); (case hr | hl => first | rfl | assumption | omega | ((first | refine ⟨?_, ?_⟩ | skip) <;> first | omega | (simp only [lN] <;> omega)) | (simp [elemsK, D.isVal, D.cells, D.closedL, D.closed]; first | done | omega)))
    | ((with_reducible apply s_appT); (case he => rfl); (case hK | hc | hr | hV => first | rfl | assumption | omega | ((first | refine ⟨?_, ?_⟩ | skip) <;> first | omega | (simp only [lN] <;> omega)) | (simp [elemsK, D.isVal, D.cells, D.closedL, D.closed]; first | done | omega)))
    | ((with_reducible apply s_appG); (case he => rfl); (case hV | hK | hr | hl => first | rfl | assumption | omega | ((first | refine ⟨?_, ?_⟩ | skip) <;> first | omega | (simp only [lN] <;> omega)) | (simp [elemsK, D.isVal, D.cells, D.closedL, D.closed]; first | done | omega)))
    | ((with_reducible apply s_app0); (case he => rfl); (case hK | hc | hr => first | rfl | assumption | omega | ((first | refine ⟨?_, ?_⟩ | skip) <;> first | omega | (simp only [lN] <;> omega)) | (simp [elemsK, D.isVal, D.cells, D.closedL, D.closed]; first | done | omega)))
    | ((with_reducible apply s_appF); (case he => rfl); (case hK | hc | hr | hx | hn => first | rfl | assumption | omega | ((first | refine ⟨?_, ?_⟩ | skip) <;> first | omega | (simp only [lN] <;> omega)) | (simp [elemsK, D.isVal, D.cells, D.closedL, D.closed]; first | done | omega)))
    | with_reducible first | apply cd_dec | apply cd_eq | apply cd_ne | apply cd_split
    | ((with_reducible refine And.intro ?hw ?_); (case hw => first | omega | rfl | exact ⟨_, _, rfl⟩ | assumption | (simp only [lN] <;> omega)))
    | with_reducible intro _)
    all_goals try omega
    exact ⟨_, weak_refl, rfl, rfl⟩
  · repeat' (first
    | with_reducible first | apply swp_seq | apply swp_reg | apply swp_regD | apply swp_block | apply swp_exit | apply swp_ret | apply swp_skip | apply swp_cd
    | simp only [go_sem, seval, pe77, q77]
    | simp (disch := omega) only [w64, w32, wu8, wu16, wu32, wu64]
    | ((with_reducible refine o_eff [0] [0] (c1) ?hs ?he ?hh ?_); (case hs => exact ⟨by simp, by simp, by simp, by simp⟩); (case he => first | rfl | (simp [go_sem, seval]; done)); (case hh => first | rfl | (simp [go_sem, seval]; done)); rintro _ _ ⟨rfl, rfl⟩)
    | ((with_reducible apply s_appS); (case hV => rfl); (case hr | hl => first | rfl | assumption | omega | ((first | refine ⟨?_, ?_⟩ | skip) <;> first | omega | (simp only [lN] <;> omega)) | (simp [elemsK, D.isVal, D.cells, D.closedL, D.closed]; first | done | omega)))
    | ((with_reducible apply s_appT); (case he => rfl); (case hK | hc | hr | hV => first | rfl | assumption | omega | ((first | refine ⟨?_, ?_⟩ | skip) <;> first | omega | (simp only [lN] <;> omega)) | (simp [elemsK, D.isVal, D.cells, D.closedL, D.closed]; first | done | omega)))
    | ((with_reducible apply s_appG); (case he => rfl); (case hV | hK | hr | hl => first | rfl | assumption | omega | ((first | refine ⟨?_, ?_⟩ | skip) <;> first | omega | (simp only [lN] <;> omega)) | (simp [elemsK, D.isVal, D.cells, D.closedL, D.closed]; first | done | omega)))
    | ((with_reducible apply s_app0); (case he => rfl); (case hK | hc | hr => first | rfl | assumption | omega | ((first | refine ⟨?_, ?_⟩ | skip) <;> first | omega | (simp only [lN] <;> omega)) | (simp [elemsK, D.isVal, D.cells, D.closedL, D.closed]; first | done | omega)))
    | ((with_reducible apply s_appF); (case he => rfl); (case hK | hc | hr | hx | hn => first | rfl | assumption | omega | ((first | refine ⟨?_, ?_⟩ | skip) <;> first | omega | (simp only [lN] <;> omega)) | (simp [elemsK, D.isVal, D.cells, D.closedL, D.closed]; first | done | omega)))
    | with_reducible first | apply cd_dec | apply cd_eq | apply cd_ne | apply cd_split
    | ((with_reducible refine And.intro ?hw ?_); (case hw => first | omega | rfl | exact ⟨_, _, rfl⟩ | assumption | (simp only [lN] <;> omega)))
    | with_reducible intro _)
    all_goals try omega
    exact ⟨_, weak_refl, rfl, rfl⟩
theorem str_e {p : D} {bs : List UInt8} (hl : bs.length ≤ 140737488355328) : Eff M 78 [.ptr 0 0] ⟨[.tcells 89 [p, .gs 0 bs.length]], [.byt 5 bs]⟩ (fun d hp' => d = .str bs ∧ hp' = ⟨[.tcells 89 [p, .gs 0 bs.length]], [.per 1 (bs.length + 1)]⟩) :=
  string_e (M := M) (ρ := Tryd.lays169_ren) Tryd.lays169 Tryd.Builder_Extra_169 ⟨Tryd.f78, Tryd.func78, rfl, rfl⟩ hl
def okL (l : List (List UInt8)) : Prop := l.length ≤ 30 ∧ ∀ s ∈ l, s.length ≤ 1000
theorem okL_get {l : List (List UInt8)} (h : okL l) {i : Nat} (hi : i < l.length) : (l.getD i []).length ≤ 1000 := by
  have : l.getD i [] = l[i] := by simp [List.getD, hi]
  rw [this]
  exact h.2 _ (List.getElem_mem hi)
theorem itoa3 {n : Nat} (h : n ≤ 1000) : (Lib.itoa n).length ≤ 4 := by
  have : ∀ n ≤ 1000, (Lib.itoa ((n : Nat) : Int)).length ≤ 4 := by decide +kernel
  exact this n h
theorem piece_len {s : List UInt8} (h : s.length ≤ 1000) : (piece s).length ≤ 1005 := by
  have := itoa3 h
  simp [piece]; omega
theorem joined_len {l : List (List UInt8)} (h : okL l) : (joined l).length ≤ 30150 := by
  have key : ∀ l : List (List UInt8), (∀ s ∈ l, s.length ≤ 1000) → (joined l).length ≤ 1005 * l.length := by
    intro l
    induction l with
    | nil => intro _; simp [joined]
    | cons a l ih =>
      intro h
      have h1 := ih fun s hs => h s (List.mem_cons_of_mem _ hs)
      have h2 := piece_len (h a List.mem_cons_self)
      have : joined (a :: l) = piece a ++ joined l := by simp [joined]
      rw [this, List.length_append, List.length_cons]
      omega
  have := key l h.2
  have := h.1
  omega
set_option maxHeartbeats 4000000 in
theorem list_p (l : List (List UInt8)) (h : okL l) : Pur M 62 [.slice (strs l) .no] (.str (sumN (joined l))) := by
  refine ok62 rfl ?_
  rw [i62]
  unfold c62
  have hl := h.1
  have hj := joined_len h
  repeat' (first
    | with_reducible first | apply swp_seq | apply swp_reg | apply swp_regD | apply swp_block | apply swp_exit | apply swp_ret | apply swp_skip | apply swp_cd
    | simp only [go_sem, seval, P62, q62, List.length_map]
    | simp (disch := omega) only [w64, w32, wu8, wu16, wu32, wu64]
    | with_reducible first | apply cd_dec | apply cd_eq | apply cd_ne | apply cd_split
    | ((with_reducible refine And.intro ?hw ?_); (case hw => first | omega | rfl | exact ⟨_, _, rfl⟩ | assumption | (simp only [lN] <;> omega)))
    | with_reducible intro _)
  refine swp_weak (weak_bld 0 89 5 _ rfl) ?_
  refine swp_fam [0, 1, 2, 4, 5, 6] (fun i : Nat => ⟨[.slice (strs l) .no, .str [], .ptr 0 0, .undef, .slice (strs l) .no, .int .i64 l.length, .int .i64 i, .undef], [], ⟨[.tcells 89 [if i = 0 then .lit (.pointer none) else .ptr 0 0, .gs 0 (joined (l.take i)).length]], [.byt 5 (joined (l.take i))]⟩⟩)
    (fun i => i ≤ l.length) (fun i => l.length - i) 0 (by omega) ?_ ?_
  · simp [keepE, St.keep, joined]
  · intro i g1
    by_cases hi : i < l.length
    · have hg := strs_get hi
      have h1 := okL_get h hi
      have h2 := joined_le l i
      have h3 := itoa_p ((l.getD i []).length : Int) (by omega) (by omega)
      have h4 := piece_len h1
      have cA := wstr_e (.inl rfl) (joined (l.take i)) (piece (l.getD i [])) _ rfl (by omega)
      have cB := wstr_e (.inr rfl) (joined (l.take i)) (piece (l.getD i [])) _ rfl (by omega)
      have c3 : Lib.itoa ((l.getD i []).length : Int) ++ [58] ++ l.getD i [] = piece (l.getD i []) := rfl
      have c4 := joined_step hi
      have h5 := itoa3 h1
      have e0 : i + 1 ≠ 0 := by omega
      rcases Nat.eq_zero_or_pos i with e | e
      · simp only [if_pos e]
        repeat' (first
    | with_reducible first | apply swp_seq | apply swp_reg | apply swp_regD | apply swp_block | apply swp_exit | apply swp_ret | apply swp_skip | apply swp_cd
    | simp only [go_sem, seval, P62, q62, List.length_map, hg, c3]
    | simp (disch := omega) only [w64, w32, wu8, wu16, wu32, wu64]
    | ((with_reducible refine o_call (h3) ?he ?hc ?_); (case he | hc => first | rfl | (simp [D.erL, D.er, D.closedL, D.closed]; done)))
    | ((with_reducible refine o_eff [0] [0] (cA) ?hs ?he ?hh ?_); (case hs => exact ⟨by simp, by simp, by simp, by simp⟩); (case he => first | rfl | (simp [go_sem, seval]; done)); (case hh => first | rfl | (simp [go_sem, seval]; done)); rintro _ _ ⟨rfl, rfl⟩)
    | with_reducible first | apply cd_dec | apply cd_eq | apply cd_ne | apply cd_split
    | ((with_reducible refine And.intro ?hw ?_); (case hw => first | omega | rfl | exact ⟨_, _, rfl⟩ | assumption | (simp only [lN] <;> omega)))
    | with_reducible intro _)
        all_goals try omega
        refine ⟨i + 1, by omega, by omega, ?_⟩
        rw [if_neg e0, c4]
        simp [keepE, St.keep]
      · have e1 : i ≠ 0 := by omega
        simp only [if_neg e1]
        repeat' (first
    | with_reducible first | apply swp_seq | apply swp_reg | apply swp_regD | apply swp_block | apply swp_exit | apply swp_ret | apply swp_skip | apply swp_cd
    | simp only [go_sem, seval, P62, q62, List.length_map, hg, c3]
    | simp (disch := omega) only [w64, w32, wu8, wu16, wu32, wu64]
    | ((with_reducible refine o_call (h3) ?he ?hc ?_); (case he | hc => first | rfl | (simp [D.erL, D.er, D.closedL, D.closed]; done)))
    | ((with_reducible refine o_eff [0] [0] (cB) ?hs ?he ?hh ?_); (case hs => exact ⟨by simp, by simp, by simp, by simp⟩); (case he => first | rfl | (simp [go_sem, seval]; done)); (case hh => first | rfl | (simp [go_sem, seval]; done)); rintro _ _ ⟨rfl, rfl⟩)
    | with_reducible first | apply cd_dec | apply cd_eq | apply cd_ne | apply cd_split
    | ((with_reducible refine And.intro ?hw ?_); (case hw => first | omega | rfl | exact ⟨_, _, rfl⟩ | assumption | (simp only [lN] <;> omega)))
    | with_reducible intro _)
        all_goals try omega
        refine ⟨i + 1, by omega, by omega, ?_⟩
        rw [if_neg e0, c4]
        simp [keepE, St.keep]
    · have e : i = l.length := by omega
      subst e
      have e1 : l.take l.length = l := List.take_length
      rw [e1]
      have cA := str_e (p := .lit (.pointer none)) (bs := joined l) (by omega)
      have cB := str_e (p := .ptr 0 0) (bs := joined l) (by omega)
      have c3 := sum_p (joined l) (by omega)
      rcases Nat.eq_zero_or_pos l.length with e | e
      · simp only [if_pos e]
        repeat' (first
    | with_reducible first | apply swp_seq | apply swp_reg | apply swp_regD | apply swp_block | apply swp_exit | apply swp_ret | apply swp_skip | apply swp_cd
    | simp only [go_sem, seval, P62, q62]
    | simp (disch := omega) only [w64, w32, wu8, wu16, wu32, wu64]
    | ((with_reducible refine o_eff [0] [0] (cA) ?hs ?he ?hh ?_); (case hs => exact ⟨by simp, by simp, by simp, by simp⟩); (case he => first | rfl | (simp [go_sem, seval]; done)); (case hh => first | rfl | (simp [go_sem, seval]; done)); rintro _ _ ⟨rfl, rfl⟩)
    | ((with_reducible refine o_call (c3) ?he ?hc ?_); (case he | hc => first | rfl | (simp [D.erL, D.er, D.closedL, D.closed]; done)))
    | with_reducible first | apply cd_dec | apply cd_eq | apply cd_ne | apply cd_split
    | ((with_reducible refine And.intro ?hw ?_); (case hw => first | omega | rfl | exact ⟨_, _, rfl⟩ | assumption | (simp only [lN] <;> omega)))
    | with_reducible intro _)
        all_goals try omega
        all_goals (simp [D.closed, D.er]; done)
      · have e1 : l.length ≠ 0 := by omega
        simp only [if_neg e1]
        repeat' (first
    | with_reducible first | apply swp_seq | apply swp_reg | apply swp_regD | apply swp_block | apply swp_exit | apply swp_ret | apply swp_skip | apply swp_cd
    | simp only [go_sem, seval, P62, q62]
    | simp (disch := omega) only [w64, w32, wu8, wu16, wu32, wu64]
    | ((with_reducible refine o_eff [0] [0] (cB) ?hs ?he ?hh ?_); (case hs => exact ⟨by simp, by simp, by simp, by simp⟩); (case he => first | rfl | (simp [go_sem, seval]; done)); (case hh => first | rfl | (simp [go_sem, seval]; done)); rintro _ _ ⟨rfl, rfl⟩)
    | ((with_reducible refine o_call (c3) ?he ?hc ?_); (case he | hc => first | rfl | (simp [D.erL, D.er, D.closedL, D.closed]; done)))
    | with_reducible first | apply cd_dec | apply cd_eq | apply cd_ne | apply cd_split
    | ((with_reducible refine And.intro ?hw ?_); (case hw => first | omega | rfl | exact ⟨_, _, rfl⟩ | assumption | (simp only [lN] <;> omega)))
    | with_reducible intro _)
        all_goals try omega
        all_goals (simp [D.closed, D.er]; done)
end Go.Proofs.YtgjkhlnpplajjaaDoor
end
section
set_option maxRecDepth 100000
set_option linter.unusedSimpArgs false
set_option linter.unusedVariables false
namespace Go.Proofs.YtgjkhlnpplajjaaDoor
open Go GoV Go.RowKit
def hexs : List UInt8 := [48, 49, 50, 51, 52, 53, 54, 55, 56, 57, 97, 98, 99, 100, 101, 102]
def hx (c : UInt8) : Bool := hexs.contains c
def setD : List D := (List.range 256).map fun i => .bool (hx (UInt8.ofNat i))
theorem set_cells : (Lib.setCells hexs).toList = (List.range 256).map fun i => Value.bool (hx (UInt8.ofNat i)) := by rfl
theorem set_rel {w : World} {g : Gh} : ∀ l : List Nat, RelL w g (l.map fun i => D.bool (hx (UInt8.ofNat i))) (l.map fun i => Value.bool (hx (UInt8.ofNat i)))
  | [] => RelL.nil
  | i :: l => RelL.cons (by simp [Rel]) (set_rel l)
theorem mk_p : Pur M 65 [.str hexs] (.tup [.agg setD, .bool true]) := by
  refine pur_extM (vs := [.string ⟨hexs.toArray⟩]) ⟨Tryd.f65, Tryd.func65, rfl, rfl⟩ (fun w g xs h => ?_) (fun w hA => ?_)
  · obtain ⟨x, xs', rfl, g1, g2⟩ := h.inv
    simp only [Rel] at g1
    rw [g2.inv_nil, g1]
  · have ha : ∀ (j : Nat) b, (⟨hexs.toArray⟩ : ByteArray).data.toList[j]? = some b → b.toNat < 128 := by
      intro j b hb
      have : b ∈ hexs := List.mem_of_getElem? hb
      have key : ∀ b ∈ hexs, b.toNat < 128 := by decide
      exact key b this
    refine (Tryd.strings_makeASCIISet (fun w => Tryd.zeroValue75 w) ⟨hexs.toArray⟩ w (by decide) ha).mono fun e w' hh => ?_
    obtain ⟨rfl, rfl⟩ := hh
    have e0 : Lib.setCells (⟨hexs.toArray⟩ : ByteArray).data.toList = ((List.range 256).map fun i => Value.bool (hx (UInt8.ofNat i))).toArray := by
      have := set_cells
      rw [← this]
    rw [e0]
    refine ⟨_, rfl, (Below.refl _ _).alloc (Nat.le_refl _) _, fun I => ⟨I, fun _ _ h => h, fun _ _ h => .inl h, ?_⟩⟩
    have h1 : Rel (w.alloc (.cells ((List.range 256).map fun i => Value.bool (hx (UInt8.ofNat i))).toArray 75)) ⟨[], [], I⟩ (.agg setD) (.agg ((List.range 256).map fun i => Value.bool (hx (UInt8.ofNat i))).toArray) := by
      unfold setD
      simp only [Rel]
      refine ⟨_, rfl, set_rel _, ?_⟩
      intro y hy
      obtain ⟨i, _, rfl⟩ := List.mem_map.1 hy
      simp [oneC, Value.oneCell']
    generalize D.agg setD = a at *
    simp only [Rel]
    exact ⟨_, rfl, RelL.cons h1 (RelL.one (by simp [Rel]))⟩
theorem set_len : setD.length = 256 := by simp [setD]
theorem set_get (x : UInt8) : setD.getD x.toNat .undef = .bool (hx x) := by
  have h : x.toNat < 256 := UInt8.toNat_lt x
  simp [setD, List.getD, h]
theorem set_rn (β τ : Nat → Option Nat) : D.rnL β τ setD = setD := by
  have : ∀ l : List Nat, D.rnL β τ (l.map fun i => D.bool (hx (UInt8.ofNat i))) = l.map fun i => D.bool (hx (UInt8.ofNat i)) := by
    intro l
    induction l with
    | nil => rfl
    | cons i l ih => simp only [List.map_cons, D.rnL, D.rn, ih]
  exact this _
theorem cont_e (x : UInt8) : Eff M 79 [.ptr 0 0, .int .u8 x.toNat] ⟨[.cells setD], []⟩ (fun d hp' => d = .bool (hx x) ∧ hp' = ⟨[.cells setD], []⟩) := by
  refine oe79 1 0 rfl rfl rfl ?_
  rw [ie79]
  unfold c79
  have h : x.toNat < 256 := UInt8.toNat_lt x
  have hl := set_len
  have hg := set_get x
  repeat' (first
    | with_reducible first | apply swp_seq | apply swp_reg | apply swp_regD | apply swp_block | apply swp_exit | apply swp_ret | apply swp_skip | apply swp_cd
    | simp only [go_sem, seval, pe79, q79, hg]
    | simp (disch := omega) only [w64, w32, wu8, wu16, wu32, wu64]
    | with_reducible first | apply cd_dec | apply cd_eq | apply cd_ne | apply cd_split
    | ((with_reducible refine And.intro ?hw ?_); (case hw => first | omega | rfl | exact ⟨_, _, rfl⟩ | assumption | (simp only [lN] <;> omega)))
    | with_reducible intro _)
  all_goals try omega
  refine ⟨_, weak_refl, ?_, rfl⟩
  simp only [Nat.mul_one, hg, List.getD_cons_zero, List.getD_cons_succ]
def trimL (s : List UInt8) : List UInt8 := s.dropWhile hx
def trimR (s : List UInt8) : List UInt8 := (s.reverse.dropWhile hx).reverse
theorem trimL_e (s : List UInt8) (hs : s.length ≤ 4611686018427387903) : Eff M 66 [.str s, .ptr 0 0] ⟨[.cells setD], []⟩ (fun d hp' => d = .str (trimL s) ∧ hp' = ⟨[.cells setD], []⟩) := by
  refine oe66 1 0 rfl rfl rfl ?_
  rw [ie66]
  unfold c66
  repeat' (first
    | with_reducible first | apply swp_seq | apply swp_reg | apply swp_regD | apply swp_block | apply swp_exit | apply swp_ret | apply swp_skip | apply swp_cd
    | simp only [go_sem, seval, pe66, q66]
    | simp (disch := omega) only [w64, w32, wu8, wu16, wu32, wu64]
    | with_reducible first | apply cd_dec | apply cd_eq | apply cd_ne | apply cd_split
    | ((with_reducible refine And.intro ?hw ?_); (case hw => first | omega | rfl | exact ⟨_, _, rfl⟩ | assumption | (simp only [lN] <;> omega)))
    | with_reducible intro _)
  refine swp_fam [0, 1, 2] (fun t : List UInt8 => ⟨[.str t, .ptr 0 0, .str [], .undef, .undef], [], ⟨[.cells setD], []⟩⟩)
    (fun t => trimL t = trimL s ∧ t.length ≤ s.length) (fun t => t.length) s ⟨rfl, by omega⟩ ?_ ?_
  · simp [keepE, St.keep]
  · rintro t ⟨g1, g2⟩
    rcases t with _ | ⟨c, t⟩
    · repeat' (first
    | with_reducible first | apply swp_seq | apply swp_reg | apply swp_regD | apply swp_block | apply swp_exit | apply swp_ret | apply swp_skip | apply swp_cd
    | simp only [go_sem, seval, pe66, q66]
    | simp (disch := omega) only [w64, w32, wu8, wu16, wu32, wu64]
    | with_reducible first | apply cd_dec | apply cd_eq | apply cd_ne | apply cd_split
    | ((with_reducible refine And.intro ?hw ?_); (case hw => first | omega | rfl | exact ⟨_, _, rfl⟩ | assumption | (simp only [lN] <;> omega)))
    | with_reducible intro _)
      all_goals try omega
      refine ⟨_, weak_refl, ?_, rfl⟩
      rw [← g1]; rfl
    · have hc := cont_e c
      simp only [List.length_cons] at g2
      have hd : (c :: t).drop 1 = t := rfl
      by_cases e : hx c = true
      · rw [e] at hc
        repeat' (first
    | with_reducible first | apply swp_seq | apply swp_reg | apply swp_regD | apply swp_block | apply swp_exit | apply swp_ret | apply swp_skip | apply swp_cd
    | simp only [go_sem, seval, pe66, q66, hd, set_rn]
    | simp (disch := omega) only [w64, w32, wu8, wu16, wu32, wu64]
    | ((with_reducible refine o_eff [0] [] (hc) ?hs ?he ?hh ?_); (case hs => exact ⟨by simp, by simp, by simp, by simp⟩); (case he => first | rfl | (simp [go_sem, seval]; done)); (case hh => first | rfl | (simp [go_sem, seval]; done)); rintro _ _ ⟨rfl, rfl⟩)
    | with_reducible first | apply cd_dec | apply cd_eq | apply cd_ne | apply cd_split
    | ((with_reducible refine And.intro ?hw ?_); (case hw => first | omega | rfl | exact ⟨_, _, rfl⟩ | assumption | (simp only [lN] <;> omega)))
    | with_reducible intro _)
        all_goals try omega
        refine ⟨t, ⟨?_, by omega⟩, by omega, ?_⟩
        · rw [← g1]; simp [trimL, e]
        · simp [keepE, St.keep]
      · simp only [Bool.not_eq_true] at e
        rw [e] at hc
        repeat' (first
    | with_reducible first | apply swp_seq | apply swp_reg | apply swp_regD | apply swp_block | apply swp_exit | apply swp_ret | apply swp_skip | apply swp_cd
    | simp only [go_sem, seval, pe66, q66, hd, set_rn]
    | simp (disch := omega) only [w64, w32, wu8, wu16, wu32, wu64]
    | ((with_reducible refine o_eff [0] [] (hc) ?hs ?he ?hh ?_); (case hs => exact ⟨by simp, by simp, by simp, by simp⟩); (case he => first | rfl | (simp [go_sem, seval]; done)); (case hh => first | rfl | (simp [go_sem, seval]; done)); rintro _ _ ⟨rfl, rfl⟩)
    | with_reducible first | apply cd_dec | apply cd_eq | apply cd_ne | apply cd_split
    | ((with_reducible refine And.intro ?hw ?_); (case hw => first | omega | rfl | exact ⟨_, _, rfl⟩ | assumption | (simp only [lN] <;> omega)))
    | with_reducible intro _)
        all_goals try omega
        refine ⟨_, weak_refl, ?_, rfl⟩
        rw [← g1]; simp [trimL, e]
theorem trimR_e (s : List UInt8) (hs : s.length ≤ 4611686018427387903) : Eff M 67 [.str s, .ptr 0 0] ⟨[.cells setD], []⟩ (fun d hp' => d = .str (trimR s) ∧ hp' = ⟨[.cells setD], []⟩) := by
  refine oe67 1 0 rfl rfl rfl ?_
  rw [ie67]
  unfold c67
  repeat' (first
    | with_reducible first | apply swp_seq | apply swp_reg | apply swp_regD | apply swp_block | apply swp_exit | apply swp_ret | apply swp_skip | apply swp_cd
    | simp only [go_sem, seval, pe67, q67]
    | simp (disch := omega) only [w64, w32, wu8, wu16, wu32, wu64]
    | with_reducible first | apply cd_dec | apply cd_eq | apply cd_ne | apply cd_split
    | ((with_reducible refine And.intro ?hw ?_); (case hw => first | omega | rfl | exact ⟨_, _, rfl⟩ | assumption | (simp only [lN] <;> omega)))
    | with_reducible intro _)
  refine swp_fam [0, 1, 2] (fun t : List UInt8 => ⟨[.str t, .ptr 0 0, .str [], .undef, .undef], [], ⟨[.cells setD], []⟩⟩)
    (fun t => trimR t = trimR s ∧ t.length ≤ s.length) (fun t => t.length) s ⟨rfl, by omega⟩ ?_ ?_
  · simp [keepE, St.keep]
  · rintro t ⟨g1, g2⟩
    rcases List.eq_nil_or_concat t with rfl | ⟨u, c, rfl⟩
    · repeat' (first
    | with_reducible first | apply swp_seq | apply swp_reg | apply swp_regD | apply swp_block | apply swp_exit | apply swp_ret | apply swp_skip | apply swp_cd
    | simp only [go_sem, seval, pe67, q67]
    | simp (disch := omega) only [w64, w32, wu8, wu16, wu32, wu64]
    | with_reducible first | apply cd_dec | apply cd_eq | apply cd_ne | apply cd_split
    | ((with_reducible refine And.intro ?hw ?_); (case hw => first | omega | rfl | exact ⟨_, _, rfl⟩ | assumption | (simp only [lN] <;> omega)))
    | with_reducible intro _)
      all_goals try omega
      refine ⟨_, weak_refl, ?_, rfl⟩
      rw [← g1]; rfl
    · have hc := cont_e c
      rw [List.concat_eq_append] at *
      have hn : (u ++ [c]).length = u.length + 1 := by simp
      have hd : (u ++ [c]).take u.length = u := by simp
      have hg : (u ++ [c]).getD u.length 0 = c := by simp [List.getD]
      have hz : ((u.length + 1 : Nat) : Int) - 1 = (u.length : Nat) := by omega
      by_cases e : hx c = true
      · rw [e] at hc
        repeat' (first
    | with_reducible first | apply swp_seq | apply swp_reg | apply swp_regD | apply swp_block | apply swp_exit | apply swp_ret | apply swp_skip | apply swp_cd
    | simp only [go_sem, seval, pe67, q67, hn, hd, hg, hz, set_rn]
    | simp (disch := omega) only [w64, w32, wu8, wu16, wu32, wu64]
    | ((with_reducible refine o_eff [0] [] (hc) ?hs ?he ?hh ?_); (case hs => exact ⟨by simp, by simp, by simp, by simp⟩); (case he => first | rfl | (simp [go_sem, seval]; done)); (case hh => first | rfl | (simp [go_sem, seval]; done)); rintro _ _ ⟨rfl, rfl⟩)
    | with_reducible first | apply cd_dec | apply cd_eq | apply cd_ne | apply cd_split
    | ((with_reducible refine And.intro ?hw ?_); (case hw => first | omega | rfl | exact ⟨_, _, rfl⟩ | assumption | (simp only [lN] <;> omega)))
    | with_reducible intro _)
        all_goals try omega
        refine ⟨u, ⟨?_, by omega⟩, by omega, ?_⟩
        · rw [← g1]; simp [trimR, e]
        · simp [keepE, St.keep]
      · simp only [Bool.not_eq_true] at e
        rw [e] at hc
        repeat' (first
    | with_reducible first | apply swp_seq | apply swp_reg | apply swp_regD | apply swp_block | apply swp_exit | apply swp_ret | apply swp_skip | apply swp_cd
    | simp only [go_sem, seval, pe67, q67, hn, hd, hg, hz, set_rn]
    | simp (disch := omega) only [w64, w32, wu8, wu16, wu32, wu64]
    | ((with_reducible refine o_eff [0] [] (hc) ?hs ?he ?hh ?_); (case hs => exact ⟨by simp, by simp, by simp, by simp⟩); (case he => first | rfl | (simp [go_sem, seval]; done)); (case hh => first | rfl | (simp [go_sem, seval]; done)); rintro _ _ ⟨rfl, rfl⟩)
    | with_reducible first | apply cd_dec | apply cd_eq | apply cd_ne | apply cd_split
    | ((with_reducible refine And.intro ?hw ?_); (case hw => first | omega | rfl | exact ⟨_, _, rfl⟩ | assumption | (simp only [lN] <;> omega)))
    | with_reducible intro _)
        all_goals try omega
        refine ⟨_, weak_refl, ?_, rfl⟩
        rw [← g1]; simp [trimR, e]
theorem hexs_len : hexs.length = 16 := rfl
theorem hexs_ne : (hexs == []) = false := by simp [hexs]
theorem setL_app : ∀ (ys l r : List D), r.length = ys.length → setL (l ++ r) l.length ys = l ++ ys
  | [], l, [], _ => by simp [setL]
  | y :: ys, l, x :: r, h => by
    have e : (l ++ x :: r).set l.length y = (l ++ [y]) ++ r := by simp
    rw [setL, e]
    have := setL_app ys (l ++ [y]) r (by simpa using h)
    simpa using this
theorem setL_full (l ys : List D) (h : l.length = ys.length) : setL l 0 ys = ys := setL_app ys [] l h
set_option maxHeartbeats 2000000 in
theorem trim_p (c : UInt8) (t : List UInt8) (hs : t.length ≤ 4611686018427387) : Pur M 46 [.str (c :: t), .str hexs] (.str (trimL (trimR (c :: t)))) := by
  refine ok46 rfl ?_
  rw [i46]
  unfold c46
  have h1 := mk_p
  have hr := trimR_e (c :: t) (by simp only [List.length_cons]; omega)
  have hl2 : (trimR (c :: t)).length ≤ (c :: t).length := by
    unfold trimR
    rw [List.length_reverse]
    have := (List.dropWhile_sublist (p := hx) (l := (c :: t).reverse)).length_le
    simpa using this
  have hl := trimL_e (trimR (c :: t)) (by simp only [List.length_cons] at hl2; omega)
  have hne : (c :: t == ([] : List UInt8)) = false := rfl
  repeat' (first
    | with_reducible first | apply swp_seq | apply swp_reg | apply swp_regD | apply swp_block | apply swp_exit | apply swp_ret | apply swp_skip | apply swp_cd
    | simp only [go_sem, seval, P46, q46, hexs_len, hexs_ne, hne]
    | simp (disch := omega) only [w64, w32, wu8, wu16, wu32, wu64]
    | ((with_reducible first | refine o_call (h1) ?he ?hc ?_ | refine p_call (h1) ?he ?hc ?_ | refine c_call (h1) ?he ?hc ?_); (case he | hc => first | rfl | (simp [D.erL, D.er, D.closedL, D.closed]; done)))
    | with_reducible first | apply cd_dec | apply cd_eq | apply cd_ne | apply cd_split | apply gd_dec | apply gd_eq | apply gd_ne | apply gd_split
    | ((with_reducible refine And.intro ?hw ?_); (case hw => first | omega | rfl | exact ⟨_, _, rfl⟩ | assumption | (simp only [lN] <;> omega)))
    | with_reducible intro _)
  all_goals try omega
  rw [setL_full]
  case h => rw [set_len]; rfl
  repeat' (first
    | with_reducible first | apply swp_seq | apply swp_reg | apply swp_regD | apply swp_block | apply swp_exit | apply swp_ret | apply swp_skip | apply swp_cd
    | simp only [go_sem, seval, P46, q46, set_rn]
    | simp (disch := omega) only [w64, w32, wu8, wu16, wu32, wu64]
    | ((with_reducible refine c_eff [0] [] (hr) ?hs ?he ?hh ?_); (case hs => exact ⟨by simp, by simp, by simp, by simp⟩); (case he => first | rfl | (simp [go_sem, seval]; done)); (case hh => first | rfl | (simp [go_sem, seval]; done)))
    | ((with_reducible refine o_eff [0] [] (hr) ?hs ?he ?hh ?_); (case hs => exact ⟨by simp, by simp, by simp, by simp⟩); (case he => first | rfl | (simp [go_sem, seval]; done)); (case hh => first | rfl | (simp [go_sem, seval]; done)); rintro _ _ ⟨rfl, rfl⟩)
    | ((with_reducible refine c_eff [0] [] (hl) ?hs ?he ?hh ?_); (case hs => exact ⟨by simp, by simp, by simp, by simp⟩); (case he => first | rfl | (simp [go_sem, seval]; done)); (case hh => first | rfl | (simp [go_sem, seval]; done)))
    | ((with_reducible refine o_eff [0] [] (hl) ?hs ?he ?hh ?_); (case hs => exact ⟨by simp, by simp, by simp, by simp⟩); (case he => first | rfl | (simp [go_sem, seval]; done)); (case hh => first | rfl | (simp [go_sem, seval]; done)); rintro _ _ ⟨rfl, rfl⟩)
    | with_reducible first | apply cd_dec | apply cd_eq | apply cd_ne | apply cd_split | apply gd_dec | apply gd_eq | apply gd_ne | apply gd_split
    | ((with_reducible refine And.intro ?hw ?_); (case hw => first | omega | rfl | exact ⟨_, _, rfl⟩ | assumption | (simp only [lN] <;> omega)))
    | with_reducible intro _)
def isD (s : List UInt8) : Bool := decide (s.length = 16) && s.all hx
theorem trim_nil (s : List UInt8) : (trimL (trimR s) == []) = s.all hx := by
  have e1 : ∀ u : List UInt8, (u.dropWhile hx == []) = u.all hx := by
    intro u
    induction u with
    | nil => rfl
    | cons c u ih =>
      cases h : hx c
      · simp [h]
      · simp only [List.dropWhile_cons, h, if_true, List.all_cons, Bool.true_and, ih]
  unfold trimL
  rw [e1]
  have e2 : s.reverse = s.reverse.takeWhile hx ++ s.reverse.dropWhile hx := (List.takeWhile_append_dropWhile).symm
  have e3 : s = trimR s ++ (s.reverse.takeWhile hx).reverse := by
    have := congrArg List.reverse e2
    rw [List.reverse_reverse, List.reverse_append] at this
    exact this
  have e4 : ((s.reverse.takeWhile hx).reverse).all hx = true := by
    rw [List.all_reverse]
    have : ∀ u : List UInt8, (u.takeWhile hx).all hx = true := by
      intro u
      induction u with
      | nil => rfl
      | cons c u ih =>
        cases h : hx c <;> simp [List.takeWhile_cons, h]
    exact this _
  conv => rhs; rw [e3, List.all_append, e4, Bool.and_true]
theorem is_p (s : List UInt8) (hs : s.length ≤ 4611686018427387) : Pur M 20 [.str s] (.bool (isD s)) := by
  refine ok20 rfl ?_
  rw [i20]
  unfold c20
  unfold isD
  by_cases h : s.length = 16
  · rcases s with _ | ⟨c, t⟩
    · simp at h
    have ht := trim_p c t (by simp only [List.length_cons] at h; omega)
    have h1 := trim_nil (c :: t)
    have h2 : (((c :: t).length : Nat) : Int) = 16 := by omega
    have h3 : decide ((c :: t).length = 16) = true := by simpa using h
    rw [h3, Bool.true_and]
    have h4 : hexs = [48, 49, 50, 51, 52, 53, 54, 55, 56, 57, 97, 98, 99, 100, 101, 102] := rfl
    rw [h4] at ht
    generalize c :: t = u at *
    repeat' (first
    | with_reducible first | apply swp_seq | apply swp_reg | apply swp_regD | apply swp_block | apply swp_exit | apply swp_ret | apply swp_skip | apply swp_cd
    | simp only [go_sem, seval, P20, q20, h2, h1]
    | simp (disch := omega) only [w64, w32, wu8, wu16, wu32, wu64]
    | ((with_reducible refine o_call (ht) ?he ?hc ?_); (case he | hc => first | rfl | (simp [D.erL, D.er, D.closedL, D.closed]; done)))
    | with_reducible first | apply cd_dec | apply cd_eq | apply cd_ne | apply cd_split | apply gd_dec | apply gd_eq | apply gd_ne | apply gd_split
    | ((with_reducible refine And.intro ?hw ?_); (case hw => first | omega | rfl | exact ⟨_, _, rfl⟩ | assumption | (simp only [lN] <;> omega)))
    | with_reducible intro _)
    all_goals first
      | omega
      | (simp [D.closed, D.er]; done)
  · have h2 : ((s.length : Nat) : Int) ≠ 16 := by omega
    have h3 : decide (s.length = 16) = false := by simpa using h
    have h4 : decide ((s.length : Int) = 16) = false := by simpa using h2
    rw [h3, Bool.false_and]
    repeat' (first
    | with_reducible first | apply swp_seq | apply swp_reg | apply swp_regD | apply swp_block | apply swp_exit | apply swp_ret | apply swp_skip | apply swp_cd
    | simp only [go_sem, seval, P20, q20, h4]
    | simp (disch := omega) only [w64, w32, wu8, wu16, wu32, wu64]
    | with_reducible first | apply cd_dec | apply cd_eq | apply cd_ne | apply cd_split | apply gd_dec | apply gd_eq | apply gd_ne | apply gd_split
    | ((with_reducible refine And.intro ?hw ?_); (case hw => first | omega | rfl | exact ⟨_, _, rfl⟩ | assumption | (simp only [lN] <;> omega)))
    | with_reducible intro _)
    all_goals first
      | omega
      | (simp [D.closed, D.er]; done)
end Go.Proofs.YtgjkhlnpplajjaaDoor
end
section
set_option maxRecDepth 100000
set_option linter.unusedSimpArgs false
set_option linter.unusedVariables false
namespace Go.Proofs.YtgjkhlnpplajjaaDoor
open Go GoV Go.RowKit
theorem digit_at (r : Nat) (h : r < 10) : List.drop r (48 :: List.take r ([49, 50, 51, 52, 53, 54, 55, 56, 57] : List UInt8)) = [UInt8.ofNat (48 + r)] := by
  have : r = 0 ∨ r = 1 ∨ r = 2 ∨ r = 3 ∨ r = 4 ∨ r = 5 ∨ r = 6 ∨ r = 7 ∨ r = 8 ∨ r = 9 := by omega
  rcases this with h | h | h | h | h | h | h | h | h | h <;> subst h <;> rfl
theorem dec_step {u : Nat} (h : ¬u < 10) : Lib.decDigits u = Lib.decDigits (u / 10) ++ [UInt8.ofNat (48 + u % 10)] := by
  rw [Lib.decDigits, dif_neg h]
def dd (m : Nat) : List UInt8 := if m = 0 then [] else Lib.decDigits m
theorem dd_step (m : Nat) (h : m ≠ 0) : dd m = dd (m / 10) ++ [UInt8.ofNat (48 + m % 10)] := by
  unfold dd
  rw [if_neg h]
  by_cases q : m < 10
  · rw [if_pos (by omega), Lib.decDigits_one q, List.nil_append]
    have : m % 10 = m := by omega
    rw [this]
  · rw [if_neg (by omega), dec_step q]
theorem dec_dd (n : Nat) : Lib.decDigits n = dd (n / 10) ++ [UInt8.ofNat (48 + n % 10)] := by
  by_cases h : n = 0
  · subst h; rw [Lib.decDigits_one (by omega)]; rfl
  · rw [← dd_step n h, dd, if_neg h]
set_option maxHeartbeats 1000000 in
theorem rdig_p (n : Nat) (h0 : n < 100000000000000) : Pur M 70 [.int .u64 n] (.str (Lib.decDigits n)) := by
  refine ok70 rfl ?_
  rw [i70]
  unfold c70
  have t1 : (n : Int).tmod 10 = ((n % 10 : Nat) : Int) := by rw [Int.tmod_eq_emod_of_nonneg (by omega)]; omega
  have t2 : (n : Int).tdiv 10 = ((n / 10 : Nat) : Int) := by rw [Int.tdiv_eq_ediv_of_nonneg (by omega)]; omega
  have t3 : ((n % 10 : Nat) : Int).toNat = n % 10 := by omega
  have t4 : (((n % 10 : Nat) : Int) + 1).toNat = n % 10 + 1 := by omega
  have t5 := digit_at (n % 10) (by omega)
  have t6 : ([UInt8.ofNat (48 + n % 10)] : List UInt8).length = 1 := rfl
  have hb : n % 10 < 10 := by omega
  repeat' (first
    | with_reducible first | apply swp_seq | apply swp_reg | apply swp_regD | apply swp_block | apply swp_exit | apply swp_ret | apply swp_skip | apply swp_cd
    | simp only [go_sem, seval, P70, q70, t1, t2, t3, t4, t5, t6]
    | simp (disch := omega) only [w64, w32, wu8, wu16, wu32, wu64]
    | with_reducible first | apply cd_dec | apply cd_eq | apply cd_ne | apply cd_split
    | ((with_reducible refine And.intro ?hw ?_); (case hw => first | omega | rfl | exact ⟨_, _, rfl⟩ | assumption | (simp only [lN] <;> omega)))
    | with_reducible intro _)
  all_goals try omega
  refine swp_fam [0, 1, 2] (fun p : Nat × List UInt8 => ⟨[.int .u64 p.1, .str [], .str p.2, .undef], [], ⟨[], []⟩⟩)
    (fun p => p.1 ≤ n ∧ p.2.length + p.1 ≤ n + 1 ∧ dd p.1 ++ p.2 = Lib.decDigits n) (fun p => p.1) (n / 10, [UInt8.ofNat (48 + n % 10)]) ⟨by simp only; omega, by simp only [t6]; omega, by simp only; exact (dec_dd n).symm⟩ ?_ ?_
  · simp [keepE, St.keep]
    try (rw [wu64 (by omega) (by omega)])
  · rintro ⟨m, s⟩ ⟨g1, g2, g3⟩
    simp only at g1 g2 g3 ⊢
    clear t1 t2 t3 t4 t5 t6 hb
    by_cases hm : 0 < m
    · have t1 : (m : Int).tmod 10 = ((m % 10 : Nat) : Int) := by rw [Int.tmod_eq_emod_of_nonneg (by omega)]; omega
      have t2 : (m : Int).tdiv 10 = ((m / 10 : Nat) : Int) := by rw [Int.tdiv_eq_ediv_of_nonneg (by omega)]; omega
      have t3 : ((m % 10 : Nat) : Int).toNat = m % 10 := by omega
      have t4 : (((m % 10 : Nat) : Int) + 1).toNat = m % 10 + 1 := by omega
      have t5 := digit_at (m % 10) (by omega)
      have t6 : ([UInt8.ofNat (48 + m % 10)] : List UInt8).length = 1 := rfl
      have hb : m % 10 < 10 := by omega
      repeat' (first
    | with_reducible first | apply swp_seq | apply swp_reg | apply swp_regD | apply swp_block | apply swp_exit | apply swp_ret | apply swp_skip | apply swp_cd
    | simp only [go_sem, seval, P70, q70, t1, t2, t3, t4, t5, t6, List.length_append]
    | simp (disch := omega) only [w64, w32, wu8, wu16, wu32, wu64]
    | with_reducible first | apply cd_dec | apply cd_eq | apply cd_ne | apply cd_split
    | ((with_reducible refine And.intro ?hw ?_); (case hw => first | omega | rfl | exact ⟨_, _, rfl⟩ | assumption | (simp only [lN] <;> omega)))
    | with_reducible intro _)
      all_goals try omega
      refine ⟨(m / 10, UInt8.ofNat (48 + m % 10) :: s), ⟨by simp only; omega, by simp only [List.length_cons]; omega, ?_⟩, by simp only; omega, ?_⟩
      · rw [← g3, dd_step m (by omega)]
        simp
      · simp [keepE, St.keep]
    · have e : m = 0 := by omega
      subst e
      repeat' (first
    | with_reducible first | apply swp_seq | apply swp_reg | apply swp_regD | apply swp_block | apply swp_exit | apply swp_ret | apply swp_skip | apply swp_cd
    | simp only [go_sem, seval, P70, q70]
    | simp (disch := omega) only [w64, w32, wu8, wu16, wu32, wu64]
    | with_reducible first | apply cd_dec | apply cd_eq | apply cd_ne | apply cd_split
    | ((with_reducible refine And.intro ?hw ?_); (case hw => first | omega | rfl | exact ⟨_, _, rfl⟩ | assumption | (simp only [lN] <;> omega)))
    | with_reducible intro _)
      all_goals try omega
      rw [← g3]
      simp [D.closed, D.er, dd]
theorem rdec_p (n : Nat) (h0 : n < 100000000000000) : Pur M 48 [.int .i64 n] (.str (Lib.itoa n)) := by
  refine ok48 rfl ?_
  rw [i48]
  unfold c48
  have h1 := rdig_p n h0
  have h2 : Lib.itoa (n : Int) = Lib.decDigits n := by
    unfold Lib.itoa
    simp
  rw [h2]
  repeat' (first
    | with_reducible first | apply swp_seq | apply swp_reg | apply swp_regD | apply swp_block | apply swp_exit | apply swp_ret | apply swp_skip | apply swp_cd
    | simp only [go_sem, seval, P48, q48]
    | simp (disch := omega) only [w64, w32, wu8, wu16, wu32, wu64]
    | ((with_reducible refine o_call (h1) ?he ?hc ?_); (case he | hc => first | rfl | (simp [D.erL, D.er, D.closedL, D.closed]; done)))
    | with_reducible first | apply cd_dec | apply cd_eq | apply cd_ne | apply cd_split
    | ((with_reducible refine And.intro ?hw ?_); (case hw => first | omega | rfl | exact ⟨_, _, rfl⟩ | assumption | (simp only [lN] <;> omega)))
    | with_reducible intro _)
  all_goals first
    | omega
    | (simp [D.closed, D.er]; done)
def hxv (c : UInt8) : Int := if 48 ≤ c.toNat ∧ c.toNat ≤ 57 then (c.toNat : Int) - 48 else if 97 ≤ c.toNat ∧ c.toNat ≤ 102 then (c.toNat : Int) - 97 + 10 else -1
theorem rdigit_p (c : UInt8) : Pur M 60 [.int .u8 c.toNat] (.int .i64 (hxv c)) := by
  refine ok60 rfl ?_
  rw [i60]
  unfold c60
  have h : c.toNat < 256 := UInt8.toNat_lt c
  unfold hxv
  generalize c.toNat = n at *
  by_cases h1 : 48 ≤ n
  · by_cases h2 : n ≤ 57
    · rw [if_pos ⟨h1, h2⟩]
      repeat' (first
    | with_reducible first | apply swp_seq | apply swp_reg | apply swp_regD | apply swp_block | apply swp_exit | apply swp_ret | apply swp_skip | apply swp_cd
    | simp only [go_sem, seval, P60, q60]
    | simp (disch := omega) only [w64, w32, wu8, wu16, wu32, wu64]
    | with_reducible first | apply cd_dec | apply cd_eq | apply cd_ne | apply cd_split | apply gd_dec | apply gd_eq | apply gd_ne | apply gd_split
    | ((with_reducible refine And.intro ?hw ?_); (case hw => first | omega | rfl | exact ⟨_, _, rfl⟩ | assumption | (simp only [lN] <;> omega)))
    | with_reducible intro _)
      all_goals first
        | omega
        | (simp [D.closed, D.er]; done)
    · rw [if_neg (by omega)]
      by_cases h3 : 97 ≤ n
      · by_cases h4 : n ≤ 102
        · rw [if_pos ⟨h3, h4⟩]
          repeat' (first
    | with_reducible first | apply swp_seq | apply swp_reg | apply swp_regD | apply swp_block | apply swp_exit | apply swp_ret | apply swp_skip | apply swp_cd
    | simp only [go_sem, seval, P60, q60]
    | simp (disch := omega) only [w64, w32, wu8, wu16, wu32, wu64]
    | with_reducible first | apply cd_dec | apply cd_eq | apply cd_ne | apply cd_split | apply gd_dec | apply gd_eq | apply gd_ne | apply gd_split
    | ((with_reducible refine And.intro ?hw ?_); (case hw => first | omega | rfl | exact ⟨_, _, rfl⟩ | assumption | (simp only [lN] <;> omega)))
    | with_reducible intro _)
          all_goals first
            | omega
            | (simp [D.closed, D.er]; done)
        · rw [if_neg (by omega)]
          repeat' (first
    | with_reducible first | apply swp_seq | apply swp_reg | apply swp_regD | apply swp_block | apply swp_exit | apply swp_ret | apply swp_skip | apply swp_cd
    | simp only [go_sem, seval, P60, q60]
    | simp (disch := omega) only [w64, w32, wu8, wu16, wu32, wu64]
    | with_reducible first | apply cd_dec | apply cd_eq | apply cd_ne | apply cd_split | apply gd_dec | apply gd_eq | apply gd_ne | apply gd_split
    | ((with_reducible refine And.intro ?hw ?_); (case hw => first | omega | rfl | exact ⟨_, _, rfl⟩ | assumption | (simp only [lN] <;> omega)))
    | with_reducible intro _)
          all_goals first
            | omega
            | (simp [D.closed, D.er]; done)
      · rw [if_neg (by omega)]
        repeat' (first
    | with_reducible first | apply swp_seq | apply swp_reg | apply swp_regD | apply swp_block | apply swp_exit | apply swp_ret | apply swp_skip | apply swp_cd
    | simp only [go_sem, seval, P60, q60]
    | simp (disch := omega) only [w64, w32, wu8, wu16, wu32, wu64]
    | with_reducible first | apply cd_dec | apply cd_eq | apply cd_ne | apply cd_split | apply gd_dec | apply gd_eq | apply gd_ne | apply gd_split
    | ((with_reducible refine And.intro ?hw ?_); (case hw => first | omega | rfl | exact ⟨_, _, rfl⟩ | assumption | (simp only [lN] <;> omega)))
    | with_reducible intro _)
        all_goals first
          | omega
          | (simp [D.closed, D.er]; done)
  · rw [if_neg (by omega), if_neg (by omega)]
    repeat' (first
    | with_reducible first | apply swp_seq | apply swp_reg | apply swp_regD | apply swp_block | apply swp_exit | apply swp_ret | apply swp_skip | apply swp_cd
    | simp only [go_sem, seval, P60, q60]
    | simp (disch := omega) only [w64, w32, wu8, wu16, wu32, wu64]
    | with_reducible first | apply cd_dec | apply cd_eq | apply cd_ne | apply cd_split | apply gd_dec | apply gd_eq | apply gd_ne | apply gd_split
    | ((with_reducible refine And.intro ?hw ?_); (case hw => first | omega | rfl | exact ⟨_, _, rfl⟩ | assumption | (simp only [lN] <;> omega)))
    | with_reducible intro _)
    all_goals first
      | omega
      | (simp [D.closed, D.er]; done)
end Go.Proofs.YtgjkhlnpplajjaaDoor
end
section
set_option linter.unusedSimpArgs false
set_option linter.unusedVariables false
namespace Go.Proofs.YtgjkhlnpplajjaaDoor
open Go GoV
/-! ### Joined texts (as in the laws of digests) -/

theorem hexd_hx {r : Nat} (h : r < 16) : hx (hexd r) = true := by
  have : r = 0 ∨ r = 1 ∨ r = 2 ∨ r = 3 ∨ r = 4 ∨ r = 5 ∨ r = 6 ∨ r = 7 ∨ r = 8 ∨ r = 9 ∨ r = 10 ∨ r = 11 ∨ r = 12 ∨ r = 13 ∨ r = 14 ∨ r = 15 := by omega
  rcases this with h | h | h | h | h | h | h | h | h | h | h | h | h | h | h | h <;> subst h <;> rfl
theorem sumN_len (t : List UInt8) : (sumN t).length = 16 := hex16_len _
theorem sumN_all (t : List UInt8) : (sumN t).all hx = true := by
  unfold sumN hex16
  rw [List.all_eq_true]
  intro c hc
  obtain ⟨j, _, rfl⟩ := List.mem_map.1 hc
  exact hexd_hx (Nat.mod_lt _ (by omega))
theorem sumN_is (t : List UInt8) : isD (sumN t) = true := by
  unfold isD
  rw [sumN_len, sumN_all]
  rfl
def dv (l : List UInt8) : Nat := l.foldl (fun n b => 10 * n + (b.toNat - 48)) 0
theorem dig_toNat (r : Nat) (h : r < 10) : (UInt8.ofNat (48 + r)).toNat = 48 + r := by
  rw [UInt8.toNat_ofNat']; omega
theorem dv_dec : ∀ u : Nat, dv (Lib.decDigits u) = u := by
  intro u
  induction u using Nat.strongRecOn with
  | _ u ih =>
    by_cases h : u < 10
    · rw [Lib.decDigits_one h]
      simp only [dv, List.foldl_cons, List.foldl_nil, dig_toNat u h]
      omega
    · rw [dec_step h]
      have := ih (u / 10) (by omega)
      unfold dv at this ⊢
      rw [List.foldl_append, this]
      simp only [List.foldl_cons, List.foldl_nil, dig_toNat (u % 10) (by omega)]
      omega
theorem dec_dig : ∀ u : Nat, ∀ c ∈ Lib.decDigits u, c ≠ 58 := by
  intro u
  induction u using Nat.strongRecOn with
  | _ u ih =>
    have one : ∀ r, r < 10 → UInt8.ofNat (48 + r) ≠ 58 := by
      intro r hr e
      have := congrArg UInt8.toNat e
      rw [dig_toNat r hr] at this
      have h2 : (58 : UInt8).toNat = 58 := rfl
      omega
    by_cases h : u < 10
    · rw [Lib.decDigits_one h]
      intro c hc
      rw [List.mem_singleton] at hc
      subst hc
      exact one u h
    · rw [dec_step h]
      intro c hc
      rcases List.mem_append.1 hc with hc | hc
      · exact ih (u / 10) (by omega) c hc
      · rw [List.mem_singleton] at hc
        subst hc
        exact one _ (by omega)
theorem itoa_nat (u : Nat) : Lib.itoa (u : Int) = Lib.decDigits u := by unfold Lib.itoa; simp
theorem itoa_inj {u v : Nat} (h : Lib.itoa (u : Int) = Lib.itoa (v : Int)) : u = v := by
  rw [itoa_nat, itoa_nat] at h
  have := congrArg dv h
  rwa [dv_dec, dv_dec] at this
theorem cut_eq : ∀ (u v r s : List UInt8), (∀ c ∈ u, c ≠ 58) → (∀ c ∈ v, c ≠ 58) → u ++ 58 :: r = v ++ 58 :: s → u = v ∧ r = s
  | [], [], r, s, _, _, h => by simpa using h
  | [], y :: v, r, s, _, h2, h => by
    simp only [List.nil_append, List.cons_append, List.cons.injEq] at h
    exact absurd h.1.symm (h2 y List.mem_cons_self)
  | x :: u, [], r, s, h1, _, h => by
    simp only [List.nil_append, List.cons_append, List.cons.injEq] at h
    exact absurd h.1 (h1 x List.mem_cons_self)
  | x :: u, y :: v, r, s, h1, h2, h => by
    simp only [List.cons_append, List.cons.injEq] at h
    obtain ⟨e1, e2⟩ := cut_eq u v r s (fun c hc => h1 c (List.mem_cons_of_mem _ hc)) (fun c hc => h2 c (List.mem_cons_of_mem _ hc)) h.2
    exact ⟨by rw [h.1, e1], e2⟩
theorem joined_cons (s : List UInt8) (l : List (List UInt8)) : joined (s :: l) = Lib.decDigits s.length ++ 58 :: (s ++ joined l) := by
  simp [joined, piece, itoa_nat]
theorem joined_ne (s : List UInt8) (l : List (List UInt8)) : joined (s :: l) ≠ [] := by
  rw [joined_cons]; simp
theorem joined_inj : ∀ (l m : List (List UInt8)), joined l = joined m → l = m
  | [], [], _ => rfl
  | [], s :: m, h => absurd h.symm (joined_ne s m)
  | s :: l, [], h => absurd h (joined_ne s l)
  | s :: l, t :: m, h => by
    rw [joined_cons, joined_cons] at h
    obtain ⟨e1, e2⟩ := cut_eq _ _ _ _ (dec_dig _) (dec_dig _) h
    have e3 := congrArg dv e1
    rw [dv_dec, dv_dec] at e3
    obtain ⟨e4, e5⟩ := List.append_inj e2 e3
    rw [e4, joined_inj l m e5]
theorem joined_hx (s : List UInt8) (l : List (List UInt8)) : (joined (s :: l)).all hx = false := by
  rw [joined_cons, List.all_append]
  have : (58 :: (s ++ joined l)).all hx = false := by
    rw [List.all_cons]
    have : hx 58 = false := rfl
    rw [this, Bool.false_and]
  rw [this, Bool.and_false]
theorem joined_sum (s : List UInt8) (l : List (List UInt8)) (t : List UInt8) : joined (s :: l) ≠ sumN t := by
  intro e
  have h1 := joined_hx s l
  rw [e, sumN_all] at h1
  exact absurd h1 (by decide)
/-! ### Chains, keys -/

def chn : Nat → List UInt8 → List UInt8
  | 0, t => t
  | n + 1, t => chn n (sumN t)
theorem chn_app : ∀ (n m : Nat) (t : List UInt8), chn (n + m) t = chn m (chn n t)
  | 0, m, t => by simp [chn]
  | n + 1, m, t => by
    rw [show n + 1 + m = (n + m) + 1 by omega]
    simp only [chn]
    exact chn_app n m (sumN t)
theorem chn_succ (n : Nat) (t : List UInt8) : chn (n + 1) t = sumN (chn n t) := by
  rw [chn_app n 1 t]; rfl
theorem chn_len {n : Nat} {t : List UInt8} (h : n ≠ 0) : (chn n t).length = 16 := by
  obtain ⟨m, rfl⟩ : ∃ m, n = m + 1 := ⟨n - 1, by omega⟩
  rw [chn_succ]; exact sumN_len _
theorem chn_is {n : Nat} {t : List UInt8} (h : isD t = true) : isD (chn n t) = true := by
  cases n with
  | zero => exact h
  | succ n => rw [chn_succ]; exact sumN_is _
def hexs16 (m : List UInt8) : List Nat := (sumN m).map fun c => (hxv c).toNat
def rest (m : List UInt8) : Nat := ((hexs16 m).map fun d => 15 - d).sum
def dgt (m : List UInt8) : List Nat := hexs16 m ++ [rest m / 16, rest m % 16]
theorem hxv_lt {c : UInt8} (h : hx c = true) : 0 ≤ hxv c ∧ hxv c < 16 := by
  have key : ∀ n : Fin 256, hx (UInt8.ofNat n.val) = true → 0 ≤ hxv (UInt8.ofNat n.val) ∧ hxv (UInt8.ofNat n.val) < 16 := by decide +kernel
  have := key ⟨c.toNat, UInt8.toNat_lt c⟩
  simp only [UInt8.ofNat_toNat] at this
  exact this h
theorem hxv_inj {a b : UInt8} (ha : hx a = true) (hb : hx b = true) (h : hxv a = hxv b) : a = b := by
  have key : ∀ n : Fin 256, ∀ m ∈ hexs, hx (UInt8.ofNat n.val) = true → hxv (UInt8.ofNat n.val) = hxv m → UInt8.ofNat n.val = m := by decide +kernel
  have := key ⟨a.toNat, UInt8.toNat_lt a⟩ b (by simpa [hx] using hb)
  simp only [UInt8.ofNat_toNat] at this
  exact this ha h
theorem hexs16_len (m : List UInt8) : (hexs16 m).length = 16 := by simp [hexs16, sumN_len]
theorem hexs16_lt (m : List UInt8) : ∀ d ∈ hexs16 m, d < 16 := by
  intro d hd
  obtain ⟨c, hc, rfl⟩ := List.mem_map.1 hd
  have h := hxv_lt (List.all_eq_true.1 (sumN_all m) c hc)
  omega
theorem sum_le {l : List Nat} {b : Nat} (h : ∀ d ∈ l, d ≤ b) : l.sum ≤ b * l.length := by
  induction l with
  | nil => simp
  | cons a l ih =>
    have h1 := ih fun d hd => h d (List.mem_cons_of_mem _ hd)
    have h2 := h a List.mem_cons_self
    rw [List.sum_cons, List.length_cons, Nat.mul_add, Nat.mul_one]
    omega
theorem rest_le (m : List UInt8) : rest m ≤ 240 := by
  have := sum_le (l := (hexs16 m).map fun d => 15 - d) (b := 15) (by
    intro d hd
    obtain ⟨c, _, rfl⟩ := List.mem_map.1 hd
    omega)
  rw [List.length_map, hexs16_len] at this
  exact this
theorem dgt_len (m : List UInt8) : (dgt m).length = 18 := by simp [dgt, hexs16_len]
theorem dgt_lt (m : List UInt8) : ∀ d ∈ dgt m, d < 16 := by
  intro d hd
  have := rest_le m
  rcases List.mem_append.1 hd with hd | hd
  · exact hexs16_lt m d hd
  · simp at hd
    omega
theorem dgt_get (m : List UInt8) (k : Nat) : (dgt m).getD k 0 < 16 := by
  by_cases h : k < (dgt m).length
  · have : (dgt m).getD k 0 = (dgt m)[k] := by simp [List.getD, h]
    rw [this]
    exact dgt_lt m _ (List.getElem_mem h)
  · have : (dgt m).getD k 0 = 0 := by simp [List.getD, List.getElem?_eq_none (Nat.le_of_not_lt h)]
    omega
def startT (s : List UInt8) (i k : Nat) : List UInt8 := joined [s, Lib.itoa (i : Int), Lib.itoa (k : Int)]
def start (s : List UInt8) (i k : Nat) : List UInt8 := sumN (startT s i k)
theorem startT_inj {s s' : List UInt8} {i i' k k' : Nat} (h : startT s i k = startT s' i' k') : s = s' ∧ i = i' ∧ k = k' := by
  have := joined_inj _ _ h
  simp only [List.cons.injEq, and_true] at this
  exact ⟨this.1, itoa_inj this.2.1, itoa_inj this.2.2⟩
def ends (s : List UInt8) (i : Nat) : List (List UInt8) := (List.range 18).map fun k => chn 15 (start s i k)
def keyT (s : List UInt8) (i : Nat) : List UInt8 := joined (ends s i)
def key (s : List UInt8) (i : Nat) : List UInt8 := sumN (keyT s i)
def keys (s : List UInt8) (n : Nat) : List (List UInt8) := (List.range n).map (key s)
/-! ### Trees -/

abbrev wnode : List UInt8 := [110, 111, 100, 101]
def nodT (a b : List UInt8) : List UInt8 := joined [wnode, a, b]
def nod (a b : List UInt8) : List UInt8 := sumN (nodT a b)
theorem nodT_inj {a b a' b' : List UInt8} (h : nodT a b = nodT a' b') : a = a' ∧ b = b' := by
  have := joined_inj _ _ h
  simp only [List.cons.injEq, and_true, true_and] at this
  exact this
def up : List (List UInt8) → List (List UInt8)
  | a :: b :: l => nod a b :: up l
  | _ => []
theorem up_len : ∀ l : List (List UInt8), (up l).length = l.length / 2
  | [] => rfl
  | [_] => by simp [up]
  | a :: b :: l => by
    simp only [up, List.length_cons, up_len l]
    omega
theorem up_get : ∀ (l : List (List UInt8)) (i : Nat), 2 * i + 1 < l.length → (up l).getD i [] = nod (l.getD (2 * i) []) (l.getD (2 * i + 1) [])
  | [], i, h => by simp at h
  | [_], i, h => by simp at h
  | a :: b :: l, 0, _ => rfl
  | a :: b :: l, i + 1, h => by
    have := up_get l i (by simp only [List.length_cons] at h; omega)
    rw [show 2 * (i + 1) = 2 * i + 1 + 1 by omega]
    simp only [up, List.getD_cons_succ]
    exact this
def rootL (l : List (List UInt8)) : List UInt8 := if 1 < l.length then rootL (up l) else l.getD 0 []
  termination_by l.length
  decreasing_by rw [up_len]; omega
def pathL (l : List (List UInt8)) (i : Nat) : List (List UInt8) := if 1 < l.length then l.getD (if i % 2 = 0 then i + 1 else i - 1) [] :: pathL (up l) (i / 2) else []
  termination_by l.length
  decreasing_by rw [up_len]; omega
theorem rootL_up {l : List (List UInt8)} (h : 1 < l.length) : rootL l = rootL (up l) := by rw [rootL, if_pos h]
theorem rootL_one {l : List (List UInt8)} (h : l.length ≤ 1) : rootL l = l.getD 0 [] := by rw [rootL, if_neg (by omega)]
theorem pathL_up {l : List (List UInt8)} {i : Nat} (h : 1 < l.length) : pathL l i = l.getD (if i % 2 = 0 then i + 1 else i - 1) [] :: pathL (up l) (i / 2) := by rw [pathL, if_pos h]
theorem pathL_one {l : List (List UInt8)} {i : Nat} (h : l.length ≤ 1) : pathL l i = [] := by rw [pathL, if_neg (by omega)]
def par (a x : List UInt8) (back : Bool) : List UInt8 := if back then nod x a else nod a x
def climb (a : List UInt8) : List (List UInt8) → Nat → List UInt8
  | [], _ => a
  | x :: p, i => climb (par a x (i % 2 == 1)) p (i / 2)
theorem par_up {l : List (List UInt8)} {i : Nat} (he : l.length % 2 = 0) (hi : i < l.length) : par (l.getD i []) (l.getD (if i % 2 = 0 then i + 1 else i - 1) []) (i % 2 == 1) = (up l).getD (i / 2) [] := by
  rw [up_get l (i / 2) (by omega)]
  unfold par
  by_cases h : i % 2 = 0
  · rw [if_pos h, if_neg (by simp [h]), show 2 * (i / 2) = i by omega]
  · rw [if_neg h, if_pos (by simp; omega), show 2 * (i / 2) + 1 = i by omega, show 2 * (i / 2) = i - 1 by omega]
theorem climb_path : ∀ (h : Nat) (l : List (List UInt8)) (i : Nat), l.length = 2 ^ h → i < 2 ^ h → climb (l.getD i []) (pathL l i) i = rootL l
  | 0, l, i, hl, hi => by
    have hl1 : l.length = 1 := by simpa using hl
    have hi0 : i = 0 := by simpa using hi
    subst hi0
    rw [pathL_one (by omega), rootL_one (by omega)]
    rfl
  | h + 1, l, i, hl, hi => by
    have h2 : 2 ^ (h + 1) = 2 * 2 ^ h := by rw [Nat.pow_succ, Nat.mul_comm]
    have hp : 0 < 2 ^ h := Nat.pow_pos (by omega)
    rw [pathL_up (by omega), rootL_up (by omega), climb, par_up (by omega) (by omega)]
    exact climb_path h (up l) (i / 2) (by rw [up_len]; omega) (by omega)
theorem pathL_len : ∀ (h : Nat) (l : List (List UInt8)) (i : Nat), l.length = 2 ^ h → (pathL l i).length = h
  | 0, l, i, hl => by
    have hl1 : l.length = 1 := by simpa using hl
    rw [pathL_one (by omega)]
    rfl
  | h + 1, l, i, hl => by
    have h2 : 2 ^ (h + 1) = 2 * 2 ^ h := by rw [Nat.pow_succ, Nat.mul_comm]
    have hp : 0 < 2 ^ h := Nat.pow_pos (by omega)
    rw [pathL_up (by omega), List.length_cons, pathL_len h (up l) (i / 2) (by rw [up_len]; omega)]
theorem up_is (l : List (List UInt8)) : ∀ x ∈ up l, isD x = true := by
  intro x hx
  induction l using up.induct with
  | case1 a b l ih =>
    simp only [up, List.mem_cons] at hx
    rcases hx with rfl | hx
    · exact sumN_is _
    · exact ih hx
  | case2 l h =>
    match l, h with
    | [], _ => simp [up] at hx
    | [a], _ => simp [up] at hx
    | a :: b :: l, h => exact absurd rfl (h a b l)
theorem getD_is {l : List (List UInt8)} (h : ∀ x ∈ l, isD x = true) {i : Nat} (hi : i < l.length) : isD (l.getD i []) = true := by
  have : l.getD i [] = l[i] := by simp [List.getD, hi]
  rw [this]
  exact h _ (List.getElem_mem hi)
theorem pathL_is : ∀ (h : Nat) (l : List (List UInt8)) (i : Nat), l.length = 2 ^ h → i < 2 ^ h → (∀ x ∈ l, isD x = true) → ∀ x ∈ pathL l i, isD x = true
  | 0, l, i, hl, hi, hx => by
    have hl1 : l.length = 1 := by simpa using hl
    rw [pathL_one (by omega)]
    simp
  | h + 1, l, i, hl, hi, hx => by
    have h2 : 2 ^ (h + 1) = 2 * 2 ^ h := by rw [Nat.pow_succ, Nat.mul_comm]
    have hp : 0 < 2 ^ h := Nat.pow_pos (by omega)
    rw [pathL_up (by omega)]
    intro x hxm
    rcases List.mem_cons.1 hxm with rfl | hxm
    · refine getD_is hx ?_
      by_cases e : i % 2 = 0
      · rw [if_pos e]; omega
      · rw [if_neg e]; omega
    · exact pathL_is h (up l) (i / 2) (by rw [up_len]; omega) (by omega) (up_is l) x hxm
/-! ### Seals -/

structure Seal where
  idx : Int
  sig : List (List UInt8)
  path : List (List UInt8)
def sgn (s : List UInt8) (h i : Nat) (m : List UInt8) : Seal := ⟨i, (List.range 18).map fun k => chn ((dgt m).getD k 0) (start s i k), pathL (keys s (2 ^ h)) i⟩
def ends' (m : List UInt8) (g : List (List UInt8)) : List (List UInt8) := (List.range 18).map fun k => chn (15 - (dgt m).getD k 0) (g.getD k [])
def pub (s : List UInt8) (h : Nat) : List UInt8 := rootL (keys s (2 ^ h))
def okS (x : Seal) : Bool := decide (x.sig.length = 18) && decide (x.path.length ≤ 8) && x.sig.all isD && x.path.all isD && decide (0 ≤ x.idx) && decide (x.idx < 2 ^ x.path.length)
def ver (p m : List UInt8) (x : Seal) : Bool := okS x && (climb (sumN (joined (ends' m x.sig))) x.path x.idx.toNat == p)
theorem keys_len (s : List UInt8) (n : Nat) : (keys s n).length = n := by simp [keys]
theorem keys_get {s : List UInt8} {n i : Nat} (h : i < n) : (keys s n).getD i [] = key s i := by simp [keys, List.getD, h]
theorem keys_is (s : List UInt8) (n : Nat) : ∀ x ∈ keys s n, isD x = true := by
  intro x hx
  obtain ⟨i, _, rfl⟩ := List.mem_map.1 hx
  exact sumN_is _
theorem ends'_sgn (s : List UInt8) (h i : Nat) (m : List UInt8) : ends' m (sgn s h i m).sig = ends s i := by
  unfold ends' ends sgn
  refine List.map_congr_left fun k hk => ?_
  have hk' : k < 18 := by simpa using hk
  have : ((List.range 18).map fun k => chn ((dgt m).getD k 0) (start s i k)).getD k [] = chn ((dgt m).getD k 0) (start s i k) := by simp [List.getD, hk']
  simp only [this]
  rw [← chn_app]
  have := dgt_get m k
  rw [show (dgt m).getD k 0 + (15 - (dgt m).getD k 0) = 15 by omega]
theorem okS_sgn {s : List UInt8} {h i : Nat} {m : List UInt8} (hh : h ≤ 8) (hi : i < 2 ^ h) : okS (sgn s h i m) = true := by
  unfold okS
  have h1 : (sgn s h i m).sig.length = 18 := by simp [sgn]
  have h2 : (sgn s h i m).path.length = h := pathL_len h _ _ (keys_len _ _)
  have h3 : (sgn s h i m).sig.all isD = true := by
    rw [List.all_eq_true]
    intro x hx
    obtain ⟨k, _, rfl⟩ := List.mem_map.1 hx
    exact chn_is (sumN_is _)
  have h4 : (sgn s h i m).path.all isD = true := by
    rw [List.all_eq_true]
    exact pathL_is h _ _ (keys_len _ _) hi (keys_is _ _)
  rw [h1, h2, h3, h4]
  have h5 : (sgn s h i m).idx = (i : Int) := rfl
  have h6 : ((i : Nat) : Int) < 2 ^ h := by exact_mod_cast hi
  rw [h5]
  simp [hh, h6]
theorem ver_sgn {s : List UInt8} {h i : Nat} {m : List UInt8} (hh : h ≤ 8) (hi : i < 2 ^ h) : ver (pub s h) m (sgn s h i m) = true := by
  unfold ver
  rw [okS_sgn hh hi, ends'_sgn]
  have h1 : climb (sumN (joined (ends s i))) (sgn s h i m).path (sgn s h i m).idx.toNat = pub s h := by
    have := climb_path h (keys s (2 ^ h)) i (keys_len _ _) hi
    rw [keys_get hi] at this
    exact this
  rw [h1]
  simp
end Go.Proofs.YtgjkhlnpplajjaaDoor
end
section
set_option maxRecDepth 100000
set_option linter.unusedSimpArgs false
set_option linter.unusedVariables false
namespace Go.Proofs.YtgjkhlnpplajjaaDoor
open Go GoV Go.RowKit
theorem getD_lt {l : List (List UInt8)} {i : Nat} (hi : i < l.length) : l.getD i [] = l[i] := by simp [List.getD, hi]
theorem same_p (a b : List (List UInt8)) (hl : a.length ≤ 4611686018427387904) : Pur M 21 [.slice (strs a) .no, .slice (strs b) .no] (.bool (decide (a = b))) := by
  refine ok21 rfl ?_
  rw [i21]
  unfold c21
  by_cases hn : a.length = b.length
  · repeat' (first
    | with_reducible first | apply swp_seq | apply swp_reg | apply swp_regD | apply swp_block | apply swp_exit | apply swp_ret | apply swp_skip | apply swp_cd
    | simp only [go_sem, seval, P21, q21, List.length_map]
    | simp (disch := omega) only [w64, w32, wu8, wu16, wu32, wu64]
    | with_reducible first | apply cd_dec | apply cd_eq | apply cd_ne | apply cd_split
    | ((with_reducible refine And.intro ?hw ?_); (case hw => first | omega | rfl | exact ⟨_, _, rfl⟩ | assumption | (simp only [lN] <;> omega)))
    | with_reducible intro _)
    all_goals try omega
    refine swp_fam [0, 1, 2, 3] (fun i : Nat => ⟨[.slice (strs a) .no, .slice (strs b) .no, .bool false, .int .i64 i, .undef, .undef, .undef], [], ⟨[], []⟩⟩)
      (fun i => i ≤ a.length ∧ a.take i = b.take i) (fun i => a.length - i) 0 ⟨by omega, by simp⟩ ?_ ?_
    · simp [keepE, St.keep]
    · rintro i ⟨g1, g2⟩
      by_cases hi : i < a.length
      · have hg := strs_get hi
        have hg2 := strs_get (l := b) (i := i) (by omega)
        by_cases he : a.getD i [] = b.getD i []
        · have h6 : (b.getD i [] == b.getD i []) = true := by simp
          rw [he] at hg
          repeat' (first
    | with_reducible first | apply swp_seq | apply swp_reg | apply swp_regD | apply swp_block | apply swp_exit | apply swp_ret | apply swp_skip | apply swp_cd
    | simp only [go_sem, seval, P21, q21, List.length_map, hg, hg2]
    | simp (disch := omega) only [w64, w32, wu8, wu16, wu32, wu64]
    | with_reducible first | apply cd_dec | apply cd_eq | apply cd_ne | apply cd_split
    | ((with_reducible refine And.intro ?hw ?_); (case hw => first | omega | rfl | exact ⟨_, _, rfl⟩ | assumption | (simp only [lN] <;> omega)))
    | with_reducible intro _)
          all_goals try omega
          all_goals try (simp at *; done)
          refine ⟨i + 1, ⟨by omega, ?_⟩, by omega, ?_⟩
          · rw [getD_lt hi, getD_lt (show i < b.length by omega)] at he
            rw [List.take_succ_eq_append_getElem hi, List.take_succ_eq_append_getElem (show i < b.length by omega), g2, he]
          · simp [keepE, St.keep]
        · have hne : decide (a = b) = false := by
            simp only [decide_eq_false_iff_not]
            rintro rfl
            exact he rfl
          rw [hne]
          generalize a.getD i [] = x at *
          generalize b.getD i [] = y at *
          repeat' (first
    | with_reducible first | apply swp_seq | apply swp_reg | apply swp_regD | apply swp_block | apply swp_exit | apply swp_ret | apply swp_skip | apply swp_cd
    | simp only [go_sem, seval, P21, q21, List.length_map, hg, hg2]
    | simp (disch := omega) only [w64, w32, wu8, wu16, wu32, wu64]
    | with_reducible first | apply cd_dec | apply cd_eq | apply cd_ne | apply cd_split
    | ((with_reducible refine And.intro ?hw ?_); (case hw => first | omega | rfl | exact ⟨_, _, rfl⟩ | assumption | (simp only [lN] <;> omega)))
    | with_reducible intro _)
          all_goals first
            | omega
            | (simp [D.closed, D.er]; done)
            | (simp at *; done)
            | (simp_all; done)
      · have e : i = a.length := by omega
        subst e
        rw [List.take_length, hn, List.take_length] at g2
        have hne : decide (a = b) = true := by simpa using g2
        rw [hne]
        repeat' (first
    | with_reducible first | apply swp_seq | apply swp_reg | apply swp_regD | apply swp_block | apply swp_exit | apply swp_ret | apply swp_skip | apply swp_cd
    | simp only [go_sem, seval, P21, q21, List.length_map]
    | simp (disch := omega) only [w64, w32, wu8, wu16, wu32, wu64]
    | with_reducible first | apply cd_dec | apply cd_eq | apply cd_ne | apply cd_split
    | ((with_reducible refine And.intro ?hw ?_); (case hw => first | omega | rfl | exact ⟨_, _, rfl⟩ | assumption | (simp only [lN] <;> omega)))
    | with_reducible intro _)
        all_goals first
          | omega
          | (simp [D.closed, D.er]; done)
  · have hne : decide (a = b) = false := by
      simp only [decide_eq_false_iff_not]
      rintro rfl
      exact hn rfl
    rw [hne]
    repeat' (first
    | with_reducible first | apply swp_seq | apply swp_reg | apply swp_regD | apply swp_block | apply swp_exit | apply swp_ret | apply swp_skip | apply swp_cd
    | simp only [go_sem, seval, P21, q21, List.length_map]
    | simp (disch := omega) only [w64, w32, wu8, wu16, wu32, wu64]
    | with_reducible first | apply cd_dec | apply cd_eq | apply cd_ne | apply cd_split
    | ((with_reducible refine And.intro ?hw ?_); (case hw => first | omega | rfl | exact ⟨_, _, rfl⟩ | assumption | (simp only [lN] <;> omega)))
    | with_reducible intro _)
    all_goals first
      | omega
      | (simp [D.closed, D.er]; done)
def cnt (l : List (List UInt8)) : Nat := (l.map fun s => s.length + 21).sum
theorem cnt_step {l : List (List UInt8)} {i : Nat} (hi : i < l.length) : cnt (l.take (i + 1)) = cnt (l.take i) + ((l.getD i []).length + 21) := by
  unfold cnt
  rw [List.take_succ_eq_append_getElem hi, getD_lt hi, List.map_append, List.sum_append]
  simp only [List.map_cons, List.map_nil, List.sum_cons, List.sum_nil, Nat.add_zero]
theorem bys_er : ∀ l : List UInt8, D.erL (bys l) = bys l
  | [] => rfl
  | b :: l => by
    have := bys_er l
    simp only [bys, List.map_cons, D.erL, D.er] at this ⊢
    rw [this]
set_option maxHeartbeats 2000000 in
theorem joined_p (l : List (List UInt8)) (h : okL l) : Pur M 47 [.slice (strs l) .no] (.str (joined l)) := by
  refine ok47 rfl ?_
  rw [i47]
  unfold c47
  have hl := h.1
  have hj := joined_len h
  repeat' (first
    | with_reducible first | apply swp_seq | apply swp_reg | apply swp_regD | apply swp_block | apply swp_exit | apply swp_ret | apply swp_skip | apply swp_cd
    | simp only [go_sem, seval, P47, q47, List.length_map]
    | simp (disch := omega) only [w64, w32, wu8, wu16, wu32, wu64]
    | ((with_reducible apply s_appT); (case he => rfl); (case hK | hc | hr | hV => first | rfl | assumption | omega | ((first | refine ⟨?_, ?_⟩ | skip) <;> first | omega | (simp only [lN] <;> omega)) | (simp [elemsK, D.isVal, D.cells, D.closedL, D.closed]; first | done | omega)))
    | ((with_reducible apply s_appG); (case he => rfl); (case hV | hK | hr | hl => first | rfl | assumption | omega | ((first | refine ⟨?_, ?_⟩ | skip) <;> first | omega | (simp only [lN] <;> omega)) | (simp [elemsK, D.isVal, D.cells, D.closedL, D.closed]; first | done | omega)))
    | ((with_reducible apply s_app0); (case he => rfl); (case hK | hc | hr => first | rfl | assumption | omega | ((first | refine ⟨?_, ?_⟩ | skip) <;> first | omega | (simp only [lN] <;> omega)) | (simp [elemsK, D.isVal, D.cells, D.closedL, D.closed]; first | done | omega)))
    | ((with_reducible apply s_appF); (case he => rfl); (case hK | hc | hr | hx | hn => first | rfl | assumption | omega | ((first | refine ⟨?_, ?_⟩ | skip) <;> first | omega | (simp only [lN] <;> omega)) | (simp [elemsK, D.isVal, D.cells, D.closedL, D.closed]; first | done | omega)))
    | ((with_reducible apply s_bsl); (case he | hl | hc => first | rfl | assumption | omega | ((first | refine ⟨?_, ?_⟩ | skip) <;> first | omega | (simp only [lN] <;> omega)) | (simp [elemsK, D.isVal, D.cells, D.closedL, D.closed]; first | done | omega)))
    | ((with_reducible apply s_mks); (case h0 | h1 | h2 => first | rfl | assumption | omega | ((first | refine ⟨?_, ?_⟩ | skip) <;> first | omega | (simp only [lN] <;> omega)) | (simp [elemsK, D.isVal, D.cells, D.closedL, D.closed]; first | done | omega)))
    | ((with_reducible apply s_b2s); (case he | hb => rfl); (case hn => first | rfl | assumption | omega | ((first | refine ⟨?_, ?_⟩ | skip) <;> first | omega | (simp only [lN] <;> omega)) | (simp [elemsK, D.isVal, D.cells, D.closedL, D.closed]; first | done | omega)))
    | with_reducible first | apply cd_dec | apply cd_eq | apply cd_ne | apply cd_split
    | ((with_reducible refine And.intro ?hw ?_); (case hw => first | omega | rfl | exact ⟨_, _, rfl⟩ | assumption | (simp only [lN] <;> omega)))
    | with_reducible intro _)
  refine swp_fam [0, 1, 2, 3] (fun i : Nat => ⟨[.slice (strs l) .no, .str [], .int .i64 (cnt (l.take i) : Nat), .int .i64 i, .undef, .undef, .undef, .undef], [], ⟨[], []⟩⟩)
    (fun i => i ≤ l.length ∧ cnt (l.take i) ≤ 1021 * i) (fun i => l.length - i) 0 ⟨by omega, by simp [cnt]⟩ ?_ ?_
  · simp [keepE, St.keep, cnt]
  · rintro i ⟨g1, g2⟩
    by_cases hi : i < l.length
    · have hg := strs_get hi
      have h1 := okL_get h hi
      have hc := cnt_step hi
      generalize hcv : cnt (l.take i) = v at *
      generalize hs : l.getD i [] = s at *
      repeat' (first
    | with_reducible first | apply swp_seq | apply swp_reg | apply swp_regD | apply swp_block | apply swp_exit | apply swp_ret | apply swp_skip | apply swp_cd
    | simp only [go_sem, seval, P47, q47, List.length_map, hg]
    | simp (disch := omega) only [w64, w32, wu8, wu16, wu32, wu64]
    | ((with_reducible apply s_appT); (case he => rfl); (case hK | hc | hr | hV => first | rfl | assumption | omega | ((first | refine ⟨?_, ?_⟩ | skip) <;> first | omega | (simp only [lN] <;> omega)) | (simp [elemsK, D.isVal, D.cells, D.closedL, D.closed]; first | done | omega)))
    | ((with_reducible apply s_appG); (case he => rfl); (case hV | hK | hr | hl => first | rfl | assumption | omega | ((first | refine ⟨?_, ?_⟩ | skip) <;> first | omega | (simp only [lN] <;> omega)) | (simp [elemsK, D.isVal, D.cells, D.closedL, D.closed]; first | done | omega)))
    | ((with_reducible apply s_app0); (case he => rfl); (case hK | hc | hr => first | rfl | assumption | omega | ((first | refine ⟨?_, ?_⟩ | skip) <;> first | omega | (simp only [lN] <;> omega)) | (simp [elemsK, D.isVal, D.cells, D.closedL, D.closed]; first | done | omega)))
    | ((with_reducible apply s_appF); (case he => rfl); (case hK | hc | hr | hx | hn => first | rfl | assumption | omega | ((first | refine ⟨?_, ?_⟩ | skip) <;> first | omega | (simp only [lN] <;> omega)) | (simp [elemsK, D.isVal, D.cells, D.closedL, D.closed]; first | done | omega)))
    | ((with_reducible apply s_bsl); (case he | hl | hc => first | rfl | assumption | omega | ((first | refine ⟨?_, ?_⟩ | skip) <;> first | omega | (simp only [lN] <;> omega)) | (simp [elemsK, D.isVal, D.cells, D.closedL, D.closed]; first | done | omega)))
    | ((with_reducible apply s_mks); (case h0 | h1 | h2 => first | rfl | assumption | omega | ((first | refine ⟨?_, ?_⟩ | skip) <;> first | omega | (simp only [lN] <;> omega)) | (simp [elemsK, D.isVal, D.cells, D.closedL, D.closed]; first | done | omega)))
    | ((with_reducible apply s_b2s); (case he | hb => rfl); (case hn => first | rfl | assumption | omega | ((first | refine ⟨?_, ?_⟩ | skip) <;> first | omega | (simp only [lN] <;> omega)) | (simp [elemsK, D.isVal, D.cells, D.closedL, D.closed]; first | done | omega)))
    | with_reducible first | apply cd_dec | apply cd_eq | apply cd_ne | apply cd_split
    | ((with_reducible refine And.intro ?hw ?_); (case hw => first | omega | rfl | exact ⟨_, _, rfl⟩ | assumption | (simp only [lN] <;> omega)))
    | with_reducible intro _)
      all_goals try omega
      refine ⟨i + 1, ⟨by omega, by omega⟩, by omega, ?_⟩
      rw [hc]
      simp [keepE, St.keep]
      all_goals omega
    · have e : i = l.length := by omega
      subst e
      rw [List.take_length] at g2 ⊢
      generalize cnt l = v at *
      have hv0 : ((v : Nat) : Int).toNat = v := Int.toNat_natCast v
      have hr0 : roomOk v 1 := by simp [roomOk]; omega
      repeat' (first
    | with_reducible first | apply swp_seq | apply swp_reg | apply swp_regD | apply swp_block | apply swp_exit | apply swp_ret | apply swp_skip | apply swp_cd
    | simp only [go_sem, seval, P47, q47, List.length_map, hv0]
    | simp (disch := omega) only [w64, w32, wu8, wu16, wu32, wu64]
    | ((with_reducible apply s_appT); (case he => rfl); (case hK | hc | hr | hV => first | rfl | assumption | omega | ((first | refine ⟨?_, ?_⟩ | skip) <;> first | omega | (simp only [lN] <;> omega)) | (simp [elemsK, D.isVal, D.cells, D.closedL, D.closed]; first | done | omega)))
    | ((with_reducible apply s_appG); (case he => rfl); (case hV | hK | hr | hl => first | rfl | assumption | omega | ((first | refine ⟨?_, ?_⟩ | skip) <;> first | omega | (simp only [lN] <;> omega)) | (simp [elemsK, D.isVal, D.cells, D.closedL, D.closed]; first | done | omega)))
    | ((with_reducible apply s_app0); (case he => rfl); (case hK | hc | hr => first | rfl | assumption | omega | ((first | refine ⟨?_, ?_⟩ | skip) <;> first | omega | (simp only [lN] <;> omega)) | (simp [elemsK, D.isVal, D.cells, D.closedL, D.closed]; first | done | omega)))
    | ((with_reducible apply s_appF); (case he => rfl); (case hK | hc | hr | hx | hn => first | rfl | assumption | omega | ((first | refine ⟨?_, ?_⟩ | skip) <;> first | omega | (simp only [lN] <;> omega)) | (simp [elemsK, D.isVal, D.cells, D.closedL, D.closed]; first | done | omega)))
    | ((with_reducible apply s_bsl); (case he | hl | hc => first | rfl | assumption | omega | ((first | refine ⟨?_, ?_⟩ | skip) <;> first | omega | (simp only [lN] <;> omega)) | (simp [elemsK, D.isVal, D.cells, D.closedL, D.closed]; first | done | omega)))
    | ((with_reducible apply s_mksT); (case h0 | h1 | h2 | hn => first | rfl | assumption | omega | ((first | refine ⟨?_, ?_⟩ | skip) <;> first | omega | (simp only [lN] <;> omega)) | (simp [elemsK, D.isVal, D.cells, D.closedL, D.closed]; first | done | omega)))
    | ((with_reducible apply s_b2s); (case he | hb => rfl); (case hn => first | rfl | assumption | omega | ((first | refine ⟨?_, ?_⟩ | skip) <;> first | omega | (simp only [lN] <;> omega)) | (simp [elemsK, D.isVal, D.cells, D.closedL, D.closed]; first | done | omega)))
    | with_reducible first | apply cd_dec | apply cd_eq | apply cd_ne | apply cd_split
    | ((with_reducible refine And.intro ?hw ?_); (case hw => first | omega | rfl | exact ⟨_, _, rfl⟩ | assumption | (simp only [lN] <;> omega)))
    | with_reducible intro _)
      all_goals try omega
      refine swp_fam [0, 1, 4, 5] (fun i : Nat => ⟨[.slice (strs l) .no, .str [], .undef, .undef, .slice (bys (joined (l.take i))) (.tok 0), .int .i64 i, .undef, .undef], [], ⟨[], [.per 1 (joined (l.take i)).length]⟩⟩)
        (fun i => i ≤ l.length) (fun i => l.length - i) 0 (by omega) ?_ ?_
      · simp [keepE, St.keep, joined]
      · intro i g1
        by_cases hi : i < l.length
        · have hg := strs_get hi
          have h1 := okL_get h hi
          have h2 := joined_le l i
          have h3 := rdec_p (l.getD i []).length (by omega)
          have h4 := itoa3 h1
          have c4 := joined_step hi
          generalize joined (l.take i) = j at *
          generalize l.getD i [] = s at *
          generalize hu : Lib.itoa (s.length : Int) = u at *
          have b1 := bys_elems u
          have b2 := bys_closed u
          have b3 := bys_er u
          have b4 := bys_elems s
          have b5 := bys_closed s
          have b6 := bys_er s
          repeat' (first
    | with_reducible first | apply swp_seq | apply swp_reg | apply swp_regD | apply swp_block | apply swp_exit | apply swp_ret | apply swp_skip | apply swp_cd
    | simp only [go_sem, seval, P47, q47, List.length_map, hg, b3, b6]
    | simp (disch := omega) only [w64, w32, wu8, wu16, wu32, wu64]
    | ((with_reducible refine o_call (h3) ?he ?hc ?_); (case he | hc => first | rfl | (simp [D.erL, D.er, D.closedL, D.closed, b1, b2, b4, b5]; done)))
    | ((with_reducible apply s_appT); (case he => rfl); (case hK | hc | hr | hV => first | rfl | assumption | omega | ((first | refine ⟨?_, ?_⟩ | skip) <;> first | omega | (simp only [lN, b1, b2, b4, b5] <;> omega)) | (simp [elemsK, D.isVal, D.cells, D.closedL, D.closed, b1, b2, b4, b5]; first | done | omega)))
    | ((with_reducible apply s_appG); (case he => rfl); (case hV | hK | hr | hl => first | rfl | assumption | omega | ((first | refine ⟨?_, ?_⟩ | skip) <;> first | omega | (simp only [lN, b1, b2, b4, b5] <;> omega)) | (simp [elemsK, D.isVal, D.cells, D.closedL, D.closed, b1, b2, b4, b5]; first | done | omega)))
    | ((with_reducible apply s_app0T); (case he => rfl); (case hK | hc | hr => first | rfl | assumption | omega | ((first | refine ⟨?_, ?_⟩ | skip) <;> first | omega | (simp only [lN, b1, b2, b4, b5] <;> omega)) | (simp [elemsK, D.isVal, D.cells, D.closedL, D.closed, b1, b2, b4, b5]; first | done | omega)))
    | ((with_reducible apply s_appFT); (case he => rfl); (case hK | hc | hr | hx | hn => first | rfl | assumption | omega | ((first | refine ⟨?_, ?_⟩ | skip) <;> first | omega | (simp only [lN, b1, b2, b4, b5] <;> omega)) | (simp [elemsK, D.isVal, D.cells, D.closedL, D.closed, b1, b2, b4, b5]; first | done | omega)))
    | ((with_reducible apply s_bsl); (case he | hl | hc => first | rfl | assumption | omega | ((first | refine ⟨?_, ?_⟩ | skip) <;> first | omega | (simp only [lN, b1, b2, b4, b5] <;> omega)) | (simp [elemsK, D.isVal, D.cells, D.closedL, D.closed, b1, b2, b4, b5]; first | done | omega)))
    | ((with_reducible apply s_mks); (case h0 | h1 | h2 => first | rfl | assumption | omega | ((first | refine ⟨?_, ?_⟩ | skip) <;> first | omega | (simp only [lN, b1, b2, b4, b5] <;> omega)) | (simp [elemsK, D.isVal, D.cells, D.closedL, D.closed, b1, b2, b4, b5]; first | done | omega)))
    | ((with_reducible apply s_b2s); (case he | hb => rfl); (case hn => first | rfl | assumption | omega | ((first | refine ⟨?_, ?_⟩ | skip) <;> first | omega | (simp only [lN, b1, b2, b4, b5] <;> omega)) | (simp [elemsK, D.isVal, D.cells, D.closedL, D.closed, b1, b2, b4, b5]; first | done | omega)))
    | with_reducible first | apply cd_dec | apply cd_eq | apply cd_ne | apply cd_split
    | ((with_reducible refine And.intro ?hw ?_); (case hw => first | omega | rfl | exact ⟨_, _, rfl⟩ | assumption | (simp only [lN, b1, b2, b4, b5] <;> omega)))
    | with_reducible intro _)
          all_goals try omega
          refine ⟨i + 1, by omega, by omega, ?_⟩
          have e : piece s = u ++ [58] ++ s := by rw [← hu]; rfl
          rw [c4, e]
          simp [keepE, St.keep]
          omega
        · have e : i = l.length := by omega
          subst e
          rw [List.take_length]
          generalize joined l = j at *
          have b1 := bys_elems j
          have b7 := bys_bytes j
          repeat' (first
    | with_reducible first | apply swp_seq | apply swp_reg | apply swp_regD | apply swp_block | apply swp_exit | apply swp_ret | apply swp_skip | apply swp_cd
    | simp only [go_sem, seval, P47, q47, List.length_map]
    | simp (disch := omega) only [w64, w32, wu8, wu16, wu32, wu64]
    | ((with_reducible apply s_appT); (case he => rfl); (case hK | hc | hr | hV => first | rfl | assumption | omega | ((first | refine ⟨?_, ?_⟩ | skip) <;> first | omega | (simp only [lN, b7] <;> omega)) | (simp [elemsK, D.isVal, D.cells, D.closedL, D.closed, b7]; first | done | omega)))
    | ((with_reducible apply s_appG); (case he => rfl); (case hV | hK | hr | hl => first | rfl | assumption | omega | ((first | refine ⟨?_, ?_⟩ | skip) <;> first | omega | (simp only [lN, b7] <;> omega)) | (simp [elemsK, D.isVal, D.cells, D.closedL, D.closed, b7]; first | done | omega)))
    | ((with_reducible apply s_app0); (case he => rfl); (case hK | hc | hr => first | rfl | assumption | omega | ((first | refine ⟨?_, ?_⟩ | skip) <;> first | omega | (simp only [lN, b7] <;> omega)) | (simp [elemsK, D.isVal, D.cells, D.closedL, D.closed, b7]; first | done | omega)))
    | ((with_reducible apply s_appF); (case he => rfl); (case hK | hc | hr | hx | hn => first | rfl | assumption | omega | ((first | refine ⟨?_, ?_⟩ | skip) <;> first | omega | (simp only [lN, b7] <;> omega)) | (simp [elemsK, D.isVal, D.cells, D.closedL, D.closed, b7]; first | done | omega)))
    | ((with_reducible apply s_bsl); (case he | hl | hc => first | rfl | assumption | omega | ((first | refine ⟨?_, ?_⟩ | skip) <;> first | omega | (simp only [lN, b7] <;> omega)) | (simp [elemsK, D.isVal, D.cells, D.closedL, D.closed, b7]; first | done | omega)))
    | ((with_reducible apply s_mks); (case h0 | h1 | h2 => first | rfl | assumption | omega | ((first | refine ⟨?_, ?_⟩ | skip) <;> first | omega | (simp only [lN, b7] <;> omega)) | (simp [elemsK, D.isVal, D.cells, D.closedL, D.closed, b7]; first | done | omega)))
    | ((with_reducible apply s_b2s); (case he | hb => rfl); (case hn => first | rfl | assumption | omega | ((first | refine ⟨?_, ?_⟩ | skip) <;> first | omega | (simp only [lN, b7] <;> omega)) | (simp [elemsK, D.isVal, D.cells, D.closedL, D.closed, b7]; first | done | omega)))
    | with_reducible first | apply cd_dec | apply cd_eq | apply cd_ne | apply cd_split
    | ((with_reducible refine And.intro ?hw ?_); (case hw => first | omega | rfl | exact ⟨_, _, rfl⟩ | assumption | (simp only [lN, b7] <;> omega)))
    | with_reducible intro _)
          all_goals try omega
          refine s_b2s rfl rfl b7 ?_
          repeat' (first
    | with_reducible first | apply swp_seq | apply swp_reg | apply swp_regD | apply swp_block | apply swp_exit | apply swp_ret | apply swp_skip | apply swp_cd
    | simp only [go_sem, seval, P47, q47]
    | simp (disch := omega) only [w64, w32, wu8, wu16, wu32, wu64]
    | ((with_reducible apply s_appT); (case he => rfl); (case hK | hc | hr | hV => first | rfl | assumption | omega | ((first | refine ⟨?_, ?_⟩ | skip) <;> first | omega | (simp only [lN] <;> omega)) | (simp [elemsK, D.isVal, D.cells, D.closedL, D.closed]; first | done | omega)))
    | ((with_reducible apply s_appG); (case he => rfl); (case hV | hK | hr | hl => first | rfl | assumption | omega | ((first | refine ⟨?_, ?_⟩ | skip) <;> first | omega | (simp only [lN] <;> omega)) | (simp [elemsK, D.isVal, D.cells, D.closedL, D.closed]; first | done | omega)))
    | ((with_reducible apply s_app0); (case he => rfl); (case hK | hc | hr => first | rfl | assumption | omega | ((first | refine ⟨?_, ?_⟩ | skip) <;> first | omega | (simp only [lN] <;> omega)) | (simp [elemsK, D.isVal, D.cells, D.closedL, D.closed]; first | done | omega)))
    | ((with_reducible apply s_appF); (case he => rfl); (case hK | hc | hr | hx | hn => first | rfl | assumption | omega | ((first | refine ⟨?_, ?_⟩ | skip) <;> first | omega | (simp only [lN] <;> omega)) | (simp [elemsK, D.isVal, D.cells, D.closedL, D.closed]; first | done | omega)))
    | ((with_reducible apply s_bsl); (case he | hl | hc => first | rfl | assumption | omega | ((first | refine ⟨?_, ?_⟩ | skip) <;> first | omega | (simp only [lN] <;> omega)) | (simp [elemsK, D.isVal, D.cells, D.closedL, D.closed]; first | done | omega)))
    | ((with_reducible apply s_mks); (case h0 | h1 | h2 => first | rfl | assumption | omega | ((first | refine ⟨?_, ?_⟩ | skip) <;> first | omega | (simp only [lN] <;> omega)) | (simp [elemsK, D.isVal, D.cells, D.closedL, D.closed]; first | done | omega)))
    | ((with_reducible apply s_b2s); (case he | hb => rfl); (case hn => first | rfl | assumption | omega | ((first | refine ⟨?_, ?_⟩ | skip) <;> first | omega | (simp only [lN] <;> omega)) | (simp [elemsK, D.isVal, D.cells, D.closedL, D.closed]; first | done | omega)))
    | with_reducible first | apply cd_dec | apply cd_eq | apply cd_ne | apply cd_split
    | ((with_reducible refine And.intro ?hw ?_); (case hw => first | omega | rfl | exact ⟨_, _, rfl⟩ | assumption | (simp only [lN] <;> omega)))
    | with_reducible intro _)
          all_goals (simp [D.closed, D.er]; done)
end Go.Proofs.YtgjkhlnpplajjaaDoor
end
