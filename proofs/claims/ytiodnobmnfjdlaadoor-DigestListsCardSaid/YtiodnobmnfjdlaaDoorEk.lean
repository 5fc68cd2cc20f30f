/- The engine, part k: calls; rows of operations in the order of the text. Own work; no program in sight. -/
import Derived.Test.YtiodnobmnfjdlaaDoorEj
set_option linter.unusedSimpArgs false
namespace GoV
open Go

/-- What a call leaves, for a caller with abstract blocks and tokens. -/
def CallPost (w0 : World) (B : Gh) (w : World) (G : Gh) (K : D → Hp → Prop) (e : Ending) (w' : World) : Prop :=
  ∃ v d hp' G', e = .returned v ∧ K d hp' ∧ Inv w0 B hp' w' G' ∧ Evo w G w' G' ∧ Rel w' G' d v

/-- A call: the first data value is the function's. -/
def CallOp (M : Mod) (ds : List D) (hp : Hp) (K : D → Hp → Prop) : Prop :=
  ∀ w0 B w G vs, M.amb w0 B.own → Inv w0 B hp w G → RelL w G ds vs →
    ∃ f xs ys av, vs = .func (.func f) xs ys :: av ∧ Callable M f ∧ Calls M.P f (xs ++ av.toArray ++ ys) w (CallPost w0 B w G K)

def OcWp (M : Mod) (oc : OC) (ds : List D) (hp : Hp) (K : D → Hp → Prop) : Prop :=
  if isCall oc = true then CallOp M ds hp K else opWp oc ds hp K

/-- One operation, then K. -/
def headWp (M : Mod) (o : RO) (K : St → Prop) (s : St) : Prop :=
  match o.guard with
  | none => OcWp M o.oc (o.args.map s.get) s.hp fun d hp => K ({ s with hp := hp }.put o.dst d)
  | some (g, want) =>
    match s.get g with
    | .bool b => (b = want → OcWp M o.oc (o.args.map (s.setO g (.bool want)).get) s.hp fun d hp => K ({ s.setO g (.bool want) with hp := hp }.put o.dst d)) ∧
        (b = (!want) → K ((s.setO g (.bool (!want))).put o.dst .skip))
    | .skip => K (s.put o.dst .skip)
    | _ => False

/-- A row of operations, in the order of the text. -/
def opsWp (M : Mod) : List RO → (St → Prop) → St → Prop
  | [], K, s => K s
  | o :: r, K, s => headWp M o (opsWp M r K) s

theorem run_call {M : Mod} {ρ : Operand → Value} {o : Oper} {c : Call} {g : Operand} (hop : o.op = .call c) (hc : c.callee = .value g) {f : FuncId} {xs ys : Array Value} (hf : ρ g = .func (.func f) xs ys)
    (hcb : Callable M f) (w : World) : (execOp ρ o).run M.P w = .ok (.enter f (xs ++ (c.args.map ρ) ++ ys)) w := by
  obtain ⟨fn, h1, h2, h3⟩ := hcb
  simp only [execOp, hop, resolve, hc, hf, Deferred.ofValue, Sem.run_bind, Sem.run_pure, Result.andThen_ok, invoke, callFunc, run_program, h1, h2, h3, Bool.false_eq_true, if_false]

theorem resMks_nc {P : Program} {t : TypeId} : resMks P t ≠ some .call := by
  unfold resMks
  (repeat' split) <;> simp
theorem resBsl_nc {P : Program} {t : TypeId} {n : Nat} {l : List Nat} : resBsl P t n l ≠ some .call := by
  unfold resBsl
  (repeat' split) <;> simp
theorem resCv_nc {P : Program} {s t : TypeId} : resCv P s t ≠ some .call := by
  unfold resCv
  (repeat' split) <;> simp
theorem resSlc_nc {P : Program} {t : TypeId} {a b : Bool} : resSlc P t a b ≠ some .call := by
  unfold resSlc
  (repeat' split) <;> simp

/-- What is resolved to a call is one. -/
theorem resolve_call {P : Program} {op : Op} {xs : List Operand} (h : resolveOp P op = some (.call, xs)) : ∃ c g, op = .call c ∧ c.callee = .value g ∧ xs = g :: c.args.toList := by
  cases op <;> simp only [resolveOp] at h <;> try (cases h; done)
  case call c =>
    simp only [resCall] at h
    cases hc : c.callee with
    | value g => simp [hc] at h; exact ⟨c, g, rfl, hc, h.symm⟩
    | invoke r m => simp [hc] at h
    | builtin b =>
      exfalso
      cases b <;> simp only [hc] at h <;> try (cases h; done)
      all_goals (repeat' split at h) <;> simp at h
  case convert => simp only [Option.map_eq_some_iff, Prod.mk.injEq] at h; obtain ⟨oc, h1, rfl, _⟩ := h; exact absurd h1 resCv_nc
  case buildSlice => simp only [Option.map_eq_some_iff, Prod.mk.injEq] at h; obtain ⟨oc, h1, rfl, _⟩ := h; exact absurd h1 resBsl_nc
  case makeSlice => simp only [Option.map_eq_some_iff, Prod.mk.injEq] at h; obtain ⟨oc, h1, rfl, _⟩ := h; exact absurd h1 resMks_nc
  case slice =>
    split at h
    · simp only [Option.map_eq_some_iff, Prod.mk.injEq] at h; obtain ⟨oc, h1, rfl, _⟩ := h; exact absurd h1 resSlc_nc
    · cases h
  all_goals exfalso
  all_goals try unfold resBin at h
  all_goals (repeat' split at h) <;> simp_all

/-- EVERY OPERATION. -/
theorem OcWp_sound {M : Mod} {o : Oper} {a : Act} {w0 : World} {B : Gh} {hp : Hp} {w : World} {G : Gh} {K : D → Hp → Prop}
    {oc : OC} {xs : List Operand} (hres : resolveOp M.P o.op = some (oc, xs)) (hA : M.amb w0 B.own) (hi : Inv w0 B hp w G) {ds : List D} (hr : RelL w G ds (xs.map a.eval)) (h : OcWp M oc ds hp K)
    {next : Act → World → Prop} {Q : Exit → Act → World → Prop}
    (hn : ∀ d hp' G' v w', K d hp' → Inv w0 B hp' w' G' → Evo w G w' G' → Rel w' G' d v → next (a.put o.dst v) w') :
    o.wp M.P a w next Q := by
  unfold OcWp at h
  unfold Oper.wp
  cases hc : isCall oc <;> simp only [hc, if_true, if_false, Bool.false_eq_true] at h
  · obtain ⟨d, hp', G', v, w', h1, h2, h3, h4, h5⟩ := opWp_sound (ρ := a.eval) hres hc hi hr h
    rcases h5 with h5 | ⟨h5, rfl⟩ <;> rw [h5] <;> exact hn _ _ _ _ _ h1 h2 h3 h4
  · cases oc <;> simp [isCall] at hc
    obtain ⟨c, g, hop, hcc, rfl⟩ := resolve_call hres
    obtain ⟨f, xs, ys, av, e1, e2, e3⟩ := h _ _ _ _ _ hA hi hr
    simp only [List.map_cons, List.cons.injEq] at e1
    obtain ⟨e4, e5⟩ := e1
    rw [run_call hop hcc e4 e2]
    have e6 : c.args.map a.eval = av.toArray := by apply Array.ext'; simpa using e5
    rw [e6]
    refine Calls.mono e3 fun e w' hp => ?_
    obtain ⟨v, d, hp', G', rfl, g1, g2, g3, g4⟩ := hp
    exact hn _ _ _ _ _ g1 g2 g3 g4

end GoV
