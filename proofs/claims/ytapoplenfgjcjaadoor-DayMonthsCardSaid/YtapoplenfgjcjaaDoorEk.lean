/- The engine, part k: calls; rows of operations in the order of the text. Own work; no program in sight. -/
import Derived.Test.YtapoplenfgjcjaaDoorEj
set_option linter.unusedSimpArgs false
namespace GoV
open Go

/-- What a call leaves, for a caller with abstract blocks and tokens. -/
def CallPost (w0 : World) (r0 : List Nat) (I0 : Nat → Nat → Prop) (rn : List Nat) (tk : List Tk) (I : Nat → Nat → Prop) (w : World) (K : D → Hp → Prop) (e : Ending) (w' : World) : Prop :=
  ∃ v d hp' rn' tk' I', e = .returned v ∧ K d hp' ∧ Inv w0 r0 I0 hp' rn' tk' I' w' ∧ Evo w I (r0 ++ rn) tk w' I' (r0 ++ rn') tk' ∧ Rel w' I' d (r0 ++ rn') tk' v

/-- A call: the first data value is the function's. -/
def CallOp (M : Mod) (ds : List D) (hp : Hp) (K : D → Hp → Prop) : Prop :=
  ∀ w0 r0 I0 rn tk I w vs, M.amb w0 r0 → Inv w0 r0 I0 hp rn tk I w → RelL w I ds (r0 ++ rn) tk vs →
    ∃ f xs ys av, vs = .func (.func f) xs ys :: av ∧ Callable M f ∧ Calls M.P f (xs ++ av.toArray ++ ys) w (CallPost w0 r0 I0 rn tk I w K)

def OcWp (M : Mod) (oc : OC) (ds : List D) (hp : Hp) (K : D → Hp → Prop) : Prop :=
  if isCall oc = true then CallOp M ds hp K else opWp oc ds hp K

/-- One operation, then K. -/
def headWp (M : Mod) (o : RO) (K : St → Prop) (s : St) : Prop :=
  match o.guard with
  | none => OcWp M o.oc (o.args.map s.get) s.hp fun d hp => K ({ s with hp := hp }.put o.dst d)
  | some (g, want) =>
    match s.get g with
    | .bool b => (b = want → OcWp M o.oc (o.args.map (s.setO g (.bool want)).get) s.hp fun d hp => K ({ s.setO g (.bool want) with hp := hp }.put o.dst d)) ∧
        (b = (!want) → K ((s.setO g (.bool (!want))).put o.dst .skip))
    | .skip => K (s.put o.dst .skip)
    | _ => False

/-- A row of operations, in the order of the text. -/
def opsWp (M : Mod) : List RO → (St → Prop) → St → Prop
  | [], K, s => K s
  | o :: r, K, s => headWp M o (opsWp M r K) s

theorem run_call {M : Mod} {ρ : Operand → Value} {o : Oper} {c : Call} {g : Operand} (hop : o.op = .call c) (hc : c.callee = .value g) {f : FuncId} {xs ys : Array Value} (hf : ρ g = .func (.func f) xs ys)
    (hcb : Callable M f) (w : World) : (execOp ρ o).run M.P w = .ok (.enter f (xs ++ (c.args.map ρ) ++ ys)) w := by
  obtain ⟨fn, h1, h2, h3⟩ := hcb
  simp only [execOp, hop, resolve, hc, hf, Deferred.ofValue, Sem.run_bind, Sem.run_pure, Result.andThen_ok, invoke, callFunc, run_program, h1, h2, h3, Bool.false_eq_true, if_false]

/-- EVERY OPERATION. -/
theorem OcWp_sound {M : Mod} {o : Oper} {a : Act} {w0 : World} {r0 : List Nat} {I0 : Nat → Nat → Prop} {hp : Hp} {rn : List Nat} {tk : List Tk} {I : Nat → Nat → Prop} {w : World} {K : D → Hp → Prop}
    {oc : OC} {xs : List Operand} (hres : resolveOp M.P o.op = some (oc, xs)) (hA : M.amb w0 r0) (hi : Inv w0 r0 I0 hp rn tk I w) {ds : List D} (hr : RelL w I ds (r0 ++ rn) tk (xs.map a.eval)) (h : OcWp M oc ds hp K)
    {next : Act → World → Prop} {Q : Exit → Act → World → Prop}
    (hn : ∀ d hp' rn' tk' I' v w', K d hp' → Inv w0 r0 I0 hp' rn' tk' I' w' → Evo w I (r0 ++ rn) tk w' I' (r0 ++ rn') tk' → Rel w' I' d (r0 ++ rn') tk' v → next (a.put o.dst v) w') :
    o.wp M.P a w next Q := by
  unfold OcWp at h
  unfold Oper.wp
  cases hc : isCall oc <;> simp only [hc, if_true, if_false, Bool.false_eq_true] at h
  · obtain ⟨d, hp', rn', tk', I', v, w', h1, h2, h3, h4, h5⟩ := opWp_sound (ρ := a.eval) hres hc hi hr h
    rcases h5 with h5 | ⟨h5, rfl⟩ <;> rw [h5] <;> exact hn _ _ _ _ _ _ _ h1 h2 h3 h4
  · cases oc <;> simp [isCall] at hc
    cases hop : o.op <;> simp only [hop, resolveOp] at hres <;> try (cases hres; done)
    case call c =>
      simp only [resCall] at hres
      cases hcc : c.callee with
      | value g =>
        simp [hcc] at hres; subst hres
        obtain ⟨f, xs, ys, av, e1, e2, e3⟩ := h _ _ _ _ _ _ _ _ hA hi hr
        simp only [List.map_cons, List.cons.injEq] at e1
        obtain ⟨e4, e5⟩ := e1
        rw [run_call hop hcc e4 e2]
        have e6 : c.args.map a.eval = av.toArray := by apply Array.ext'; simpa using e5
        rw [e6]
        refine Calls.mono e3 fun e w' hp => ?_
        obtain ⟨v, d, hp', rn', tk', I', rfl, g1, g2, g3, g4⟩ := hp
        exact hn _ _ _ _ _ _ _ g1 g2 g3 g4
      | invoke r m => simp [hcc] at hres
      | builtin b =>
        cases b <;> simp only [hcc] at hres <;> try (cases hres; done)
        case len =>
          split at hres
          case h_2 => cases hres
          rename_i t x ht hx
          cases hu : M.P.underlying t with
          | none => simp [hu] at hres
          | some d => cases d <;> simp [hu] at hres
    all_goals exfalso
    all_goals try unfold resBin at hres
    all_goals (repeat' split at hres) <;> simp_all

end GoV
