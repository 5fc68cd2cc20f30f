/- The engine, part n: regions that draw their order. Own work; no program in sight. -/
import Derived.Test.YtiodnobmnfjdlaaDoorEm
import Derived.Orders
set_option linter.unusedSimpArgs false
namespace GoV
open Go

/-- A call that leaves the abstract store as it is. -/
def CallQ (M : Mod) (ds : List D) (hp : Hp) (K : D → Prop) : Prop := ∃ d, CallOp M ds hp (fun d' hp' => d' = d ∧ hp' = hp) ∧ K d

def quietWp (M : Mod) (oc : OC) (ds : List D) (hp : Hp) (K : D → Prop) : Prop :=
  if isCall oc = true then CallQ M ds hp K else opWp oc ds hp fun d hp' => hp' = hp ∧ K d

/-- An operation with one outcome. -/
def detWp (M : Mod) (oc : OC) (ds : List D) (hp : Hp) (K : D → Hp → Prop) : Prop := ∃ d hp', OcWp M oc ds hp (fun d' hp'' => d' = d ∧ hp'' = hp') ∧ K d hp'

def stepWp (M : Mod) (q : Bool) (oc : OC) (ds : List D) (hp : Hp) (K : D → Hp → Prop) : Prop :=
  if q = true then quietWp M oc ds hp fun d => K d hp else detWp M oc ds hp K

def headQ (M : Mod) (q : Bool) (o : RO) (K : St → Prop) (s : St) : Prop :=
  match o.guard with
  | none => stepWp M q o.oc (o.args.map s.get) s.hp fun d hp => K ({ s with hp := hp }.put o.dst d)
  | some (g, want) =>
    match s.get g with
    | .bool b => (b = want → stepWp M q o.oc (o.args.map (s.setO g (.bool want)).get) s.hp fun d hp => K ({ s.setO g (.bool want) with hp := hp }.put o.dst d)) ∧
        (b = (!want) → K ((s.setO g (.bool (!want))).put o.dst .skip))
    | .skip => K (s.put o.dst .skip)
    | _ => False

def opsQ (M : Mod) : List (RO × Bool) → (St → Prop) → St → Prop
  | [], K, s => K s
  | (o, q) :: r, K, s => headQ M q o (opsQ M r K) s

theorem binWp_det {op : BinOp} {x y : D} {K : D → Prop} (h : binWp op x y K) : ∃ d, K d ∧ ∀ K' : D → Prop, K' d → binWp op x y K' := by
  unfold binWp at h
  split at h <;> first
    | exact h.elim
    | exact ⟨_, h, fun K' k => by simpa [binWp] using k⟩
    | (obtain ⟨h1, h⟩ := h; exact ⟨_, h, fun K' k => by simp only [binWp]; exact ⟨h1, k⟩⟩)
    | (obtain ⟨h1, h2, h⟩ := h; exact ⟨_, h, fun K' k => by simp only [binWp]; exact ⟨h1, h2, k⟩⟩)

theorem unWp_det {op : UnOp} {x : D} {K : D → Prop} (h : unWp op x K) : ∃ d, K d ∧ ∀ K' : D → Prop, K' d → unWp op x K' := by
  unfold unWp at h
  split at h <;> first
    | exact h.elim
    | exact ⟨_, h, fun K' k => by simpa [unWp] using k⟩

theorem appWp_det {k bytes : Nat} {e : TypeId} {x : D} {es : List D} {hp : Hp} {K : D → Hp → Prop} (h : appWp k bytes e x es hp K) : ∃ d hp', K d hp' ∧ ∀ K' : D → Hp → Prop, K' d hp' → appWp k bytes e x es hp K' := by
  unfold appWp at h
  obtain ⟨hK, h⟩ := h
  split at h
  · obtain ⟨h1, (⟨h2, h | h⟩ | h)⟩ := h
    · exact ⟨_, _, h, fun K' k => ⟨hK, h1, .inl ⟨h2, .inl k⟩⟩⟩
    · exact ⟨_, _, h, fun K' k => ⟨hK, h1, .inl ⟨h2, .inr k⟩⟩⟩
    · exact ⟨_, _, h, fun K' k => ⟨hK, h1, .inr k⟩⟩
  · obtain ⟨h1, h2, h3, h4, h | h⟩ := h
    · exact ⟨_, _, h, fun K' k => ⟨hK, h1, h2, h3, h4, .inl k⟩⟩
    · exact ⟨_, _, h, fun K' k => ⟨hK, h1, h2, h3, h4, .inr k⟩⟩
  · obtain ⟨h1, h2, h3, h⟩ := h
    exact ⟨_, _, h, fun K' k => ⟨hK, h1, h2, h3, k⟩⟩
  · obtain ⟨h1, ⟨cs, h2, h3, h⟩ | ⟨bs, s', h2, h3, h4, h5, h⟩⟩ := h
    · exact ⟨_, _, h, fun K' k => ⟨hK, h1, .inl ⟨cs, h2, h3, k⟩⟩⟩
    · exact ⟨_, _, h, fun K' k => ⟨hK, h1, .inr ⟨bs, s', h2, h3, h4, h5, k⟩⟩⟩
  · exact h.elim

theorem opWp_det {oc : OC} {ds : List D} {hp : Hp} {K : D → Hp → Prop} (h : opWp oc ds hp K) : ∃ d hp', K d hp' ∧ ∀ K' : D → Hp → Prop, K' d hp' → opWp oc ds hp K' := by
  unfold opWp at h
  split at h
  case h_5 =>
    rename_i t a b
    cases t
    · exact ⟨_, _, h.2 rfl, fun K' k => by simp only [opWp]; exact ⟨fun e => Bool.noConfusion e, fun _ => k⟩⟩
    · exact ⟨_, _, h.1 rfl, fun K' k => by simp only [opWp]; exact ⟨fun _ => k, fun e => Bool.noConfusion e⟩⟩
  all_goals first
    | exact h.elim
    | exact ⟨_, _, h, fun K' k => by simpa [opWp] using k⟩
    | (obtain ⟨d, h1, h2⟩ := binWp_det h; exact ⟨d, hp, h1, fun K' k => by simp only [opWp]; exact h2 _ k⟩)
    | (obtain ⟨d, h1, h2⟩ := unWp_det h; exact ⟨d, hp, h1, fun K' k => by simp only [opWp]; exact h2 _ k⟩)
    | (obtain ⟨es, h0, h⟩ := h; obtain ⟨d, hp', h1, h2⟩ := appWp_det h; exact ⟨d, hp', h1, fun K' k => by simp only [opWp]; exact ⟨es, h0, h2 _ k⟩⟩)
    | (obtain ⟨h1, h⟩ := h; exact ⟨_, _, h, fun K' k => by simp only [opWp]; exact ⟨h1, k⟩⟩)
    | (obtain ⟨h1, h2, h⟩ := h; exact ⟨_, _, h, fun K' k => by simp only [opWp]; exact ⟨h1, h2, k⟩⟩)
    | (obtain ⟨h1, h2, h3, h⟩ := h; exact ⟨_, _, h, fun K' k => by simp only [opWp]; exact ⟨h1, h2, h3, k⟩⟩)
    | (obtain ⟨h1, h2, h3, h4, h⟩ := h; exact ⟨_, _, h, fun K' k => by simp only [opWp]; exact ⟨h1, h2, h3, h4, k⟩⟩)
    | (obtain ⟨x, h1, h⟩ := h; exact ⟨_, _, h, fun K' k => by simp only [opWp]; exact ⟨x, h1, k⟩⟩)
    | (obtain ⟨x, h1, h2, h⟩ := h; exact ⟨_, _, h, fun K' k => by simp only [opWp]; exact ⟨x, h1, h2, k⟩⟩)
    | (obtain ⟨x, h1, h2, h3, h4, h⟩ := h; exact ⟨_, _, h, fun K' k => by simp only [opWp]; exact ⟨x, h1, h2, h3, h4, k⟩⟩)
    | (obtain ⟨h1, x, h2, h⟩ := h; exact ⟨_, _, h, fun K' k => by simp only [opWp]; exact ⟨h1, x, h2, k⟩⟩)
    | (obtain ⟨k1, cs, h1, h2, h3, h⟩ := h; exact ⟨_, _, h, fun K' k => by simp only [opWp]; exact ⟨k1, cs, h1, h2, h3, k⟩⟩)
    | (obtain ⟨k1, cs, h1, h2, h3, h4, h5, h⟩ := h; exact ⟨_, _, h, fun K' k => by simp only [opWp]; exact ⟨k1, cs, h1, h2, h3, h4, h5, k⟩⟩)
    | (obtain ⟨l, r, h1, h2, h3, h4, h⟩ := h; exact ⟨_, _, h, fun K' k => by simp only [opWp]; exact ⟨l, r, h1, h2, h3, h4, k⟩⟩)
    | (obtain ⟨h1, es, s, h2, h3, h⟩ := h; exact ⟨_, _, h, fun K' k => by simp only [opWp]; exact ⟨h1, es, s, h2, h3, k⟩⟩)
    | (obtain ⟨h1, cs, es, h2, h3, h4, h5, h6, h⟩ := h; exact ⟨_, _, h, fun K' k => by simp only [opWp]; exact ⟨h1, cs, es, h2, h3, h4, h5, h6, k⟩⟩)
    | (obtain ⟨h1, h2, (⟨h3, h⟩ | h)⟩ := h
       · exact ⟨_, _, h, fun K' k => by simp only [opWp]; exact ⟨h1, h2, .inl ⟨h3, k⟩⟩⟩
       · exact ⟨_, _, h, fun K' k => by simp only [opWp]; exact ⟨h1, h2, .inr k⟩⟩)
    | (obtain ⟨h1, h2, h3, (h | ⟨h4, h5, (h | h)⟩)⟩ := h
       · exact ⟨_, _, h, fun K' k => by simp only [opWp]; exact ⟨h1, h2, h3, .inl k⟩⟩
       · exact ⟨_, _, h, fun K' k => by simp only [opWp]; exact ⟨h1, h2, h3, .inr ⟨h4, h5, .inl k⟩⟩⟩
       · exact ⟨_, _, h, fun K' k => by simp only [opWp]; exact ⟨h1, h2, h3, .inr ⟨h4, h5, .inr k⟩⟩⟩)
    | (obtain ⟨s, p, h1, h2, h3⟩ := h
       by_cases hp' : p < s.length
       · exact ⟨_, _, h2 hp', fun K' k => by simp only [opWp]; exact ⟨s, p, h1, fun _ => k, fun q => absurd hp' (by omega)⟩⟩
       · exact ⟨_, _, h3 (by omega), fun K' k => by simp only [opWp]; exact ⟨s, p, h1, fun q => absurd q hp', fun _ => k⟩⟩)
    | (obtain ⟨l, r, h1, h2, h3, h4, h⟩ := h
       split at h
       · exact ⟨_, _, h.2, fun K' k => by simp only [opWp]; exact ⟨l, r, h1, h2, h3, h4, h.1, k⟩⟩
       · exact ⟨_, _, h, fun K' k => by simp only [opWp]; exact ⟨l, r, h1, h2, h3, h4, k⟩⟩
       · exact ⟨_, _, h.2.2, fun K' k => by simp only [opWp]; exact ⟨l, r, h1, h2, h3, h4, h.1, h.2.1, k⟩⟩
       · exact h.elim)

theorem quiet_det {M : Mod} {oc : OC} {ds : List D} {hp : Hp} {K : D → Prop} (h : quietWp M oc ds hp K) : ∃ d, OcWp M oc ds hp (fun d' hp' => d' = d ∧ hp' = hp) ∧ K d := by
  unfold quietWp at h
  unfold OcWp
  cases hc : isCall oc <;> simp only [hc, if_true, if_false, Bool.false_eq_true] at h ⊢
  · obtain ⟨d, hp', ⟨rfl, h1⟩, h2⟩ := opWp_det h
    exact ⟨d, h2 _ ⟨rfl, rfl⟩, h1⟩
  · exact h

/-- One outcome, and whether the store stays as it is. -/
theorem step_det {M : Mod} {q : Bool} {oc : OC} {ds : List D} {hp : Hp} {K : D → Hp → Prop} (h : stepWp M q oc ds hp K) : ∃ d hp', OcWp M oc ds hp (fun d' hp'' => d' = d ∧ hp'' = hp') ∧ (q = true → hp' = hp) ∧ K d hp' := by
  unfold stepWp at h
  cases q <;> simp only [if_true, if_false, Bool.false_eq_true] at h
  · obtain ⟨d, hp', h1, h2⟩ := h
    exact ⟨d, hp', h1, fun e => Bool.noConfusion e, h2⟩
  · obtain ⟨d, h1, h2⟩ := quiet_det h
    exact ⟨d, hp, h1, fun _ => rfl, h2⟩

/-- An operation that depends on its operands alone. -/
theorem free_any {M : Mod} {oc : OC} {ds : List D} {hp hp1 hp2 : Hp} {d : D} (hf : isFree oc = true) (h : OcWp M oc ds hp (fun d' hp' => d' = d ∧ hp' = hp1)) : OcWp M oc ds hp2 (fun d' hp' => d' = d ∧ hp' = hp2) := by
  have hc : isCall oc = false := by cases oc <;> first | rfl | simp [isFree] at hf
  simp only [OcWp, hc, Bool.false_eq_true, if_false] at h ⊢
  have hb : ∀ {op x y}, binWp op x y (fun d' => d' = d ∧ hp = hp1) → binWp op x y (fun d' => d' = d ∧ hp2 = hp2) := by
    intro op x y h
    obtain ⟨d', ⟨rfl, _⟩, h2⟩ := binWp_det h
    exact h2 _ ⟨rfl, by trivial⟩
  have hu : ∀ {op x}, unWp op x (fun d' => d' = d ∧ hp = hp1) → unWp op x (fun d' => d' = d ∧ hp2 = hp2) := by
    intro op x h
    obtain ⟨d', ⟨rfl, _⟩, h2⟩ := unWp_det h
    exact h2 _ ⟨rfl, by trivial⟩
  unfold opWp at h
  split at h <;> first
    | exact h.elim
    | (simp [isFree] at hf; done)
    | skip
  all_goals simp only [opWp]
  all_goals first
    | (obtain ⟨d', ⟨rfl, _⟩, h2⟩ := binWp_det h; exact h2 _ ⟨rfl, by trivial⟩)
    | (obtain ⟨d', ⟨rfl, _⟩, h2⟩ := unWp_det h; exact h2 _ ⟨rfl, by trivial⟩)
    | (obtain ⟨rfl, _⟩ := h; exact ⟨rfl, by trivial⟩)
    | (obtain ⟨h1, rfl, _⟩ := h; exact ⟨h1, rfl, by trivial⟩)
    | (obtain ⟨h1, h2, rfl, _⟩ := h; exact ⟨h1, h2, rfl, by trivial⟩)
    | (obtain ⟨h1, h2, h3, rfl, _⟩ := h; exact ⟨h1, h2, h3, rfl, by trivial⟩)
    | (obtain ⟨h1, h2, h3, h4, rfl, _⟩ := h; exact ⟨h1, h2, h3, h4, rfl, by trivial⟩)
    | (obtain ⟨x, h1, rfl, _⟩ := h; exact ⟨x, h1, rfl, by trivial⟩)
    | (obtain ⟨h1, x, h2, rfl, _⟩ := h; exact ⟨h1, x, h2, rfl, by trivial⟩)
    | exact ⟨fun e => ⟨(h.1 e).1, by trivial⟩, fun e => ⟨(h.2 e).1, by trivial⟩⟩
    | (obtain ⟨l, r, h1, h2, h3, h4, h⟩ := h
       refine ⟨l, r, h1, h2, h3, h4, ?_⟩
       split at h
       · exact ⟨h.1, h.2.1, by trivial⟩
       · exact ⟨h.1, by trivial⟩
       · exact ⟨h.1, h.2.1, h.2.2.1, by trivial⟩
       · exact h.elim)
    | (obtain ⟨l, r, h1, h2, h3, h4, h, _⟩ := h; exact ⟨l, r, h1, h2, h3, h4, h, by trivial⟩)

/-- An operation that is no call, with one outcome, is an operation. -/
theorem det_op {M : Mod} {oc : OC} {ds : List D} {hp : Hp} {K : D → Hp → Prop} (hc : isCall oc = false) : detWp M oc ds hp K = OcWp M oc ds hp K := by
  unfold detWp OcWp
  simp only [hc, Bool.false_eq_true, if_false]
  refine propext ⟨fun h => ?_, fun h => ?_⟩
  · obtain ⟨d, hp', h1, h2⟩ := h
    obtain ⟨d1, hp1, ⟨rfl, rfl⟩, h3⟩ := opWp_det h1
    exact h3 _ h2
  · obtain ⟨d, hp', h1, h2⟩ := opWp_det h
    exact ⟨d, hp', h2 _ ⟨rfl, rfl⟩, h1⟩

theorem resolve_sub {P : Program} {op : Op} {oc : OC} {xs : List Operand} (h : resolveOp P op = some (oc, xs)) : ∀ x ∈ xs, x ∈ op.operands := by
  cases op <;> simp only [resolveOp] at h <;> try (cases h; done)
  case call c =>
    simp only [resCall] at h
    cases hc : c.callee with
    | value f => simp [hc] at h; obtain ⟨rfl, rfl⟩ := h; intro x hx; simp [Op.operands, Call.operands, hc] at hx ⊢; exact hx
    | invoke r m => simp [hc] at h
    | builtin b =>
      have key : ∀ l : List Operand, c.args.toList = l → ∀ x ∈ l, x ∈ (Op.call c).operands := by
        rintro l rfl x hx; simpa [Op.operands, Call.operands, hc] using hx
      cases b <;> simp only [hc] at h <;> try (cases h; done)
      case len =>
        split at h
        case h_2 => cases h
        rename_i t y ht hy
        (repeat' split at h) <;> simp at h <;> obtain ⟨rfl, rfl⟩ := h <;> exact key _ hy
      case append =>
        split at h
        case h_2 => cases h
        rename_i t u y z ht hy
        simp only [Option.map_eq_some_iff, Prod.mk.injEq] at h
        obtain ⟨p, _, _, rfl⟩ := h
        exact key _ hy
      case copy =>
        split at h
        case h_2 => cases h
        rename_i t y z ht hy
        split at h
        case h_2 => cases h
        simp only [Option.map_eq_some_iff, Prod.mk.injEq] at h
        obtain ⟨p, _, _, rfl⟩ := h
        exact key _ hy
      all_goals simp at h; obtain ⟨rfl, rfl⟩ := h; exact key _ rfl
  case binOp op t x y u =>
    have hx : xs = [x, y] := by
      unfold resBin at h
      (repeat' split at h) <;> simp_all
    subst hx; intro z hz; simpa [Op.operands] using hz
  case slice t x lo hi mx =>
    have hx : xs = x :: (lo.toList ++ hi.toList) := by
      split at h
      · simp only [Option.map_eq_some_iff, Prod.mk.injEq] at h; obtain ⟨_, _, _, rfl⟩ := h; rfl
      · cases h
    subst hx; intro z hz; simp [Op.operands] at hz ⊢
    rcases hz with h | h | h
    · exact .inl h
    · exact .inr (.inl h)
    · exact .inr (.inr (.inl h))
  case build t parts =>
    have hx : xs = parts.toList.map (·.2) := by
      (repeat' split at h) <;> simp_all [Option.map_eq_some_iff] <;> (obtain ⟨_, _, _, rfl⟩ := h; rfl)
    subst hx; intro z hz; simpa [Op.operands] using hz
  case buildSlice t len parts =>
    simp only [Option.map_eq_some_iff, Prod.mk.injEq] at h; obtain ⟨_, _, _, rfl⟩ := h
    intro z hz; simpa [Op.operands] using hz
  case makeSlice t l c =>
    simp only [Option.map_eq_some_iff, Prod.mk.injEq] at h; obtain ⟨_, _, _, rfl⟩ := h
    intro z hz; simpa [Op.operands] using hz
  case convert s t x =>
    simp only [Option.map_eq_some_iff, Prod.mk.injEq] at h; obtain ⟨_, _, _, rfl⟩ := h
    intro z hz; simpa [Op.operands] using hz
  case next it b =>
    cases b <;> simp at h
    obtain ⟨rfl, rfl⟩ := h
    intro z hz; simpa [Op.operands] using hz
  case makeFunc f first cap =>
    simp at h; obtain ⟨rfl, rfl⟩ := h; intro z hz; simpa [Op.operands] using hz
  all_goals (repeat' split at h) <;> simp_all [Op.operands, Option.map_eq_some_iff]
  all_goals (obtain ⟨_, _, _, h⟩ := h; subst h; simp)

/-! ### Slots as a function -/

def evO (σ : Nat → D) : Operand → D
  | .tmp t => σ t
  | .const v => (toD v).getD .undef
  | .func f => .fn (.func f) [] []
  | .global _ => .undef

def updO (σ : Nat → D) (dst : Option Nat) (d : D) : Nat → D :=
  match dst with
  | none => σ
  | some t => fun u => if t = u then d else σ u

def SimF (C : Cfg) (w0 : World) (B : Gh) (σ : Nat → D) (hp : Hp) (a : Act) (w : World) : Prop :=
  ∃ G, Inv w0 B hp w G ∧ (B.r.length = C.n0 ∧ B.tk.length = C.m0) ∧ a.tmps.size = C.nt ∧ a.defers = [] ∧ ∀ t, Rel w G (σ t) (a.tmps.getD t Go.undef)

/-- What an operation leaves in its slot, and in the store. -/
def StepQ (C : Cfg) (ops : Array Oper) (hp hp1 : Hp) (σ : Nat → D) (o : Oper) (d : D) : Prop :=
  ∃ oc xs, resolveOp C.P o.op = some (oc, xs) ∧ (∃ ys, resOs C xs = some ys) ∧ (∃ ds, resDst C o.dst = some ds) ∧
    ((o.guard = none ∧ OcWp C.M oc (xs.map (evO σ)) hp (fun d' hp' => d' = d ∧ hp' = hp1)) ∨
     ∃ j want t, o.guard = some (j, want) ∧ (ops[j]?).bind (·.dst) = some t ∧ t < C.nt ∧
      ((σ t = .bool want ∧ OcWp C.M oc (xs.map (evO σ)) hp (fun d' hp' => d' = d ∧ hp' = hp1)) ∨ (σ t = .bool (!want) ∧ d = .skip ∧ hp1 = hp) ∨ (σ t = .skip ∧ d = .skip ∧ hp1 = hp)))

section
variable {C : Cfg} {w0 : World} {B : Gh}

theorem get_evO {s : St} {x : Operand} {y : Opd} (h : resO C x = some y) : s.get y = evO (s.slot C.pers) x := by
  cases x with
  | tmp t => rw [get_slot h]; rfl
  | const v =>
    simp only [resO] at h
    cases hv : toD v with
    | none => simp [hv] at h
    | some d => simp [hv] at h; subst h; simp [St.get, evO, hv]
  | global g => simp [resO] at h
  | func f => simp [resO] at h; subst h; rfl

theorem map_evO {s : St} : ∀ {xs : List Operand} {ys : List Opd}, resOs C xs = some ys → ys.map s.get = xs.map (evO (s.slot C.pers))
  | [], ys, h => by simp [resOs] at h; subst h; rfl
  | x :: xs, ys, h => by
    simp only [resOs] at h
    cases h1 : resO C x with
    | none => simp [h1] at h
    | some y =>
      cases h2 : resOs C xs with
      | none => simp [h1, h2] at h
      | some zs => simp [h1, h2] at h; subst h; simp [get_evO h1, map_evO h2]

theorem put_slot {s : St} {dst : Option Nat} {ds : Dst} (h : resDst C dst = some ds) (hl : s.env.length = C.pers.length) (d : D) : (s.put ds d).slot C.pers = updO (s.slot C.pers) dst d := by
  cases dst with
  | none => simp [resDst] at h; subst h; rfl
  | some t =>
    simp only [resDst] at h
    split at h
    case isFalse => cases h
    have hg : (match idx t C.pers with | some i => (match ds with | .var i => Opd.var i | .loc t => Opd.loc t | .none => Opd.loc t) = .var i | none => (match ds with | .var i => Opd.var i | .loc t => Opd.loc t | .none => Opd.loc t) = .loc t) := by
      split at h
      · rename_i i hi; rw [hi]; simp at h; subst h; rfl
      · rename_i hi; rw [hi]; simp at h; subst h; rfl
    funext u
    have := setO_slot (s := s) hg hl d u
    rw [show updO (s.slot C.pers) (some t) d u = if t = u then d else s.slot C.pers u from rfl, ← this]
    split at h
    · rename_i i hi; simp at h; subst h; simp [St.slot, St.put, St.setO]
    · rename_i hi; simp at h; subst h
      cases hj : idx u C.pers with
      | none => simp [St.slot, St.put, St.setO, hj, lk_setK, lk]
      | some j => simp [St.slot, St.put, St.setO, hj]

theorem setO_same {s : St} {t : Nat} {g : Opd} (h : resO C (.tmp t) = some g) (hl : s.env.length = C.pers.length) {d : D} (hd : s.get g = d) : (s.setO g d).slot C.pers = s.slot C.pers := by
  funext u
  rw [setO_slot (resO_tmp h).1 hl]
  split
  · rename_i e; subst e; rw [← hd, get_slot h]
  · rfl

/-- One operation of the walk in the order of the text. -/
theorem headQ_step {ops : Array Oper} {o : Oper} {x : RO} {q : Bool} {K : St → Prop} {s : St} (h1 : resOp1 C ops o = some x) (hl : s.env.length = C.pers.length) (h : headQ C.M q x K s) :
    ∃ d s1, K s1 ∧ (q = true → s1.hp = s.hp) ∧ s1.env.length = C.pers.length ∧ StepQ C ops s.hp s1.hp (s.slot C.pers) o d ∧ s1.slot C.pers = updO (s.slot C.pers) o.dst d := by
  unfold resOp1 at h1
  cases hres : resolveOp C.P o.op with
  | none => simp [hres] at h1
  | some p =>
    obtain ⟨oc, ys⟩ := p
    cases ha : resOs C ys with
    | none => simp [hres, ha] at h1
    | some args =>
      cases hd : resDst C o.dst with
      | none => simp [hres, ha, hd] at h1
      | some dst =>
        cases hg : resGuard C ops o.guard with
        | none => simp [hres, ha, hd, hg] at h1
        | some guard =>
          simp [hres, ha, hd, hg] at h1; subst h1
          have slot_hp : ∀ (s : St) (hp : Hp), St.slot { s with hp := hp } C.pers = s.slot C.pers := fun s hp => rfl
          cases hog : o.guard with
          | none =>
            simp [hog, resGuard] at hg; subst hg
            simp only [headQ] at h
            obtain ⟨d, hp', h2, hq, h3⟩ := step_det h
            rw [map_evO ha] at h2
            refine ⟨d, _, h3, fun e => by rw [put_hp]; exact hq e, by rw [put_env_len]; exact hl, ⟨oc, ys, hres, ⟨_, ha⟩, ⟨_, hd⟩, .inl ⟨hog, by rw [put_hp]; exact h2⟩⟩, ?_⟩
            rw [put_slot hd (by exact hl), slot_hp]
          | some p =>
            obtain ⟨j, want⟩ := p
            simp only [hog, resGuard] at hg
            cases hj : (ops[j]?).bind (·.dst) with
            | none => simp [hj] at hg
            | some t =>
              simp only [hj] at hg
              cases hgo : resO C (.tmp t) with
              | none => simp [hgo] at hg
              | some g =>
                simp [hgo] at hg; subst hg
                have htn := (resO_tmp hgo).2
                simp only [headQ] at h
                have hsl : s.slot C.pers t = s.get g := (get_slot hgo).symm
                cases hb : s.get g <;> simp only [hb] at h
                case bool b =>
                  by_cases e : b = want
                  · subst e
                    obtain ⟨d, hp', h2, hq, h3⟩ := step_det (h.1 rfl)
                    rw [map_evO ha, setO_same hgo hl hb] at h2
                    refine ⟨d, _, h3, fun e => by rw [put_hp]; exact hq e, by rw [put_env_len]; simpa [setO_len] using hl, ⟨oc, ys, hres, ⟨_, ha⟩, ⟨_, hd⟩, .inr ⟨j, b, t, hog, hj, htn, .inl ⟨by rw [hsl, hb], by rw [put_hp]; exact h2⟩⟩⟩, ?_⟩
                    rw [put_slot hd (by simpa [setO_len] using hl), slot_hp, setO_same hgo hl hb]
                  · have e' : b = (!want) := by cases b <;> cases want <;> simp_all
                    subst e'
                    refine ⟨.skip, _, h.2 rfl, fun _ => by rw [put_hp, setO_hp], by rw [put_env_len, setO_len]; exact hl, ⟨oc, ys, hres, ⟨_, ha⟩, ⟨_, hd⟩, .inr ⟨j, want, t, hog, hj, htn, .inr (.inl ⟨by rw [hsl, hb], rfl, by rw [put_hp, setO_hp]⟩)⟩⟩, ?_⟩
                    rw [put_slot hd (by rw [setO_len]; exact hl), setO_same hgo hl hb]
                case skip =>
                  exact ⟨.skip, _, h, fun _ => put_hp _ _ _, by rw [put_env_len]; exact hl, ⟨oc, ys, hres, ⟨_, ha⟩, ⟨_, hd⟩, .inr ⟨j, want, t, hog, hj, htn, .inr (.inr ⟨by rw [hsl, hb], rfl, by rw [put_hp]⟩)⟩⟩, put_slot hd hl _⟩

/-- The walk of the part that is not ordered, as numbers. -/
theorem opsQ_trace {ops : Array Oper} {K : St → Prop} : ∀ (len k : Nat) (ros : List RO) (qs : List (RO × Bool)) (s : St), resOps C ops (List.range' k len) = some ros → qs.map (·.1) = ros → s.env.length = C.pers.length → opsQ C.M qs K s →
    ∃ (ds : Nat → D) (σ : Nat → Nat → D) (hps : Nat → Hp) (s1 : St), K s1 ∧ hps k = s.hp ∧ hps (k + len) = s1.hp ∧ s1.env.length = C.pers.length ∧ σ k = s.slot C.pers ∧ σ (k + len) = s1.slot C.pers ∧
      ∀ i, k ≤ i → i < k + len → ∃ o q, ops[i]? = some o ∧ (qs[i - k]?).map (·.2) = some q ∧ (q = true → hps (i + 1) = hps i) ∧ StepQ C ops (hps i) (hps (i + 1)) (σ i) o (ds i) ∧ σ (i + 1) = updO (σ i) o.dst (ds i)
  | 0, k, ros, qs, s, hr, hqs, hl, h => by
    simp [resOps] at hr; subst hr
    have : qs = [] := by simpa using hqs
    subst this
    exact ⟨fun _ => .undef, fun _ => s.slot C.pers, fun _ => s.hp, s, h, rfl, rfl, hl, rfl, rfl, fun i h1 h2 => by omega⟩
  | len + 1, k, ros, qs, s, hr, hqs, hl, h => by
    rw [List.range'_succ] at hr
    obtain ⟨o, x, xs, ho, h1, h2, rfl⟩ := resOps_cons hr
    cases qs with
    | nil => simp at hqs
    | cons p qs =>
      obtain ⟨x', q⟩ := p
      simp only [List.map_cons, List.cons.injEq] at hqs
      obtain ⟨rfl, hqs⟩ := hqs
      obtain ⟨d, s1, k1, k2, k3, k4, k5⟩ := headQ_step h1 hl h
      obtain ⟨ds, σ, hps, s2, g1, g2, g2', g3, g4, g5, g6⟩ := opsQ_trace len (k + 1) xs qs s1 h2 hqs k3 k1
      refine ⟨fun i => if i = k then d else ds i, fun i => if i = k then s.slot C.pers else σ i, fun i => if i = k then s.hp else hps i, s2, g1, by simp, ?_, g3, by simp, ?_, fun i h1 h2 => ?_⟩
      · have : k + (len + 1) ≠ k := by omega
        simp only [this, if_false]
        rw [← g2']; congr 1; omega
      · have : k + (len + 1) ≠ k := by omega
        simp only [this, if_false]
        rw [← g5]; congr 1; omega
      · by_cases e : i = k
        · subst e
          refine ⟨o, q, ho, by simp, fun e => ?_, ?_, ?_⟩
          · simp [g2, k2 e]
          · simpa [g2] using k4
          · simp [g4, k5]
        · obtain ⟨o', q', q1, q0, q4, q2, q3⟩ := g6 i (by omega) (by omega)
          have e2 : i + 1 ≠ k := by omega
          have e3 : i - k = (i - (k + 1)) + 1 := by omega
          exact ⟨o', q', q1, by rw [e3]; simpa using q0, by simpa [e, e2] using q4, by simpa [e, e2] using q2, by simpa [e, e2] using q3⟩

/-- An operation whose operands and guard hold the same leaves the same. -/
theorem StepQ.congr {ops : Array Oper} {hp hp1 : Hp} {σ σ' : Nat → D} {o : Oper} {d : D} (h : StepQ C ops hp hp1 σ o d) (hs : ∀ t ∈ o.looksAt ops, σ t = σ' t) : StepQ C ops hp hp1 σ' o d := by
  obtain ⟨oc, xs, h1, h2, h3, h4⟩ := h
  have hm : xs.map (evO σ) = xs.map (evO σ') := by
    refine List.map_congr_left fun x hx => ?_
    have := resolve_sub h1 x hx
    cases x with
    | tmp t =>
      refine hs t ?_
      simp only [Oper.looksAt, List.mem_append, List.mem_filterMap]
      exact .inl ⟨.tmp t, by simpa using this, rfl⟩
    | _ => rfl
  refine ⟨oc, xs, h1, h2, h3, ?_⟩
  rw [← hm]
  rcases h4 with h4 | ⟨j, want, t, g1, g2, g3, g4⟩
  · exact .inl h4
  · refine .inr ⟨j, want, t, g1, g2, g3, ?_⟩
    rw [← hs t (by simp [Oper.looksAt, g1, g2])]
    exact g4

/-- An operation that depends on its operands alone, at another store. -/
theorem StepQ.free {ops : Array Oper} {hp hp1 hp2 : Hp} {σ : Nat → D} {o : Oper} {d : D} {x : RO} (h : StepQ C ops hp hp1 σ o d) (hx : resOp1 C ops o = some x) (hf : isFree x.oc = true) : StepQ C ops hp2 hp2 σ o d := by
  obtain ⟨oc, xs, h1, h2, h3, h4⟩ := h
  have e : x.oc = oc := by
    unfold resOp1 at hx
    simp only [h1] at hx
    (repeat' split at hx) <;> simp at hx
    subst hx; rfl
  rw [e] at hf
  refine ⟨oc, xs, h1, h2, h3, ?_⟩
  rcases h4 with ⟨g1, g2⟩ | ⟨j, want, t, g1, g2, g3, g4⟩
  · exact .inl ⟨g1, free_any hf g2⟩
  · refine .inr ⟨j, want, t, g1, g2, g3, ?_⟩
    rcases g4 with ⟨q1, q2⟩ | ⟨q1, q2, _⟩ | ⟨q1, q2, _⟩
    · exact .inl ⟨q1, free_any hf q2⟩
    · exact .inr (.inl ⟨q1, q2, rfl⟩)
    · exact .inr (.inr ⟨q1, q2, rfl⟩)

theorem rel_evO {a : Act} {w : World} {G : Gh} {σ : Nat → D} (hs : ∀ t, Rel w G (σ t) (a.tmps.getD t Go.undef)) :
    ∀ {xs : List Operand} {ys : List Opd}, resOs C xs = some ys → RelL w G (xs.map (evO σ)) (xs.map a.eval)
  | [], ys, h => RelL.nil
  | x :: xs, ys, h => by
    simp only [resOs] at h
    cases h1 : resO C x with
    | none => simp [h1] at h
    | some y =>
      cases h2 : resOs C xs with
      | none => simp [h1, h2] at h
      | some zs =>
        refine RelL.cons ?_ (rel_evO hs h2)
        cases x with
        | tmp t => exact hs t
        | const v =>
          simp only [resO] at h1
          cases hv : toD v with
          | none => simp [hv] at h1
          | some d => simpa [evO, hv, Act.eval] using (toD_rel (w := w) (g := G) hv).1.any
        | global g => simp [resO] at h1
        | func f => simp only [evO, Rel, Act.eval]; exact ⟨[], [], rfl, RelL.nil, RelL.nil⟩

theorem updO_rel {a : Act} {w : World} {G : Gh} {σ : Nat → D} (hs : ∀ t, Rel w G (σ t) (a.tmps.getD t Go.undef)) (hn : a.tmps.size = C.nt)
    {dst : Option Nat} {ds : Dst} (hd : resDst C dst = some ds) {d : D} {v : Value} (hv : Rel w G d v) : ∀ t, Rel w G (updO σ dst d t) ((a.put dst v).tmps.getD t Go.undef) := by
  intro t
  cases dst with
  | none => exact hs t
  | some u =>
    simp only [resDst] at hd
    split at hd
    case isFalse => cases hd
    rename_i hu
    have hval : (a.put (some u) v).tmps.getD t Go.undef = if u = t then v else a.tmps.getD t Go.undef := by
      simp only [Act.put, Array.getD_eq_getD_getElem?, Array.getElem?_setIfInBounds]
      by_cases e : u = t
      · subst e; simp [hn, hu]
      · simp [e]
    rw [hval]
    simp only [updO]
    split
    · exact hv
    · exact hs t

/-- The real operation does what StepQ says. -/
theorem StepQ.sound (hA : C.M.amb w0 B.own) {ops : Array Oper} {hp hp1 : Hp} {σ : Nat → D} {o : Oper} {d : D} {Q : Exit → Act → World → Prop} {next : Act → World → Prop} (h : StepQ C ops hp hp1 σ o d) {a : Act} {w : World} (hs : SimF C w0 B σ hp a w)
    (ih : ∀ a w, SimF C w0 B (updO σ o.dst d) hp1 a w → next a w) :
    if Region.wanted o (yielded ops a.tmps) then o.wp C.P a w next Q ∨ (o.asks C.P a w ∧ LetsOut Q) else next (a.put o.dst Go.undef) w := by
  obtain ⟨oc, xs, h1, ⟨ys, h2⟩, ⟨ds, h3⟩, h4⟩ := h
  obtain ⟨G, hi, gb, g1, g2, g4⟩ := hs
  have run : OcWp C.M oc (xs.map (evO σ)) hp (fun d' hp' => d' = d ∧ hp' = hp1) → o.wp C.P a w next Q := by
    intro hoc
    refine OcWp_sound h1 hA hi (rel_evO g4 h2) hoc ?_
    rintro d' hp' G' v w' ⟨rfl, rfl⟩ k2 k3 k4
    refine ih _ _ ⟨G', k2, gb, by rw [actput_size]; exact g1, by rw [actput_def]; exact g2, ?_⟩
    exact updO_rel (fun t => Rel.evo _ k3 (g4 t)) g1 h3 k4
  have skp : d = .skip ∧ hp1 = hp → next (a.put o.dst Go.undef) w := by
    rintro ⟨rfl, rfl⟩
    refine ih _ _ ⟨G, hi, gb, by rw [actput_size]; exact g1, by rw [actput_def]; exact g2, ?_⟩
    exact updO_rel g4 g1 h3 (by simp [Rel])
  rcases h4 with ⟨hog, h4⟩ | ⟨j, want, t, hog, hj, htn, h4⟩
  · simp only [Region.wanted, hog, if_true]; exact .inl (run h4)
  · have hlt : t < a.tmps.size := g1.symm ▸ htn
    have hy : yielded ops a.tmps j = match a.tmps.getD t Go.undef with | .bool b => some b | _ => none := by
      simp [yielded, hj, Array.getD_eq_getD_getElem?, hlt]
      cases a.tmps[t] <;> rfl
    have hrel := g4 t
    rcases h4 with ⟨e, h4⟩ | ⟨e, h4⟩ | ⟨e, h4⟩
    · rw [e] at hrel; simp only [Rel] at hrel
      have : Region.wanted o (yielded ops a.tmps) = true := by
        simp only [Region.wanted, hog]; rw [hy, hrel]; cases want <;> rfl
      rw [this]; simp only [if_true]; exact .inl (run h4)
    · rw [e] at hrel; simp only [Rel] at hrel
      have : Region.wanted o (yielded ops a.tmps) = false := by
        simp only [Region.wanted, hog]; rw [hy, hrel]; cases want <;> rfl
      rw [this]; simp only [Bool.false_eq_true, if_false]; exact skp h4
    · rw [e] at hrel; simp only [Rel] at hrel
      have : Region.wanted o (yielded ops a.tmps) = false := by
        simp only [Region.wanted, hog]; rw [hy, hrel]; cases want <;> rfl
      rw [this]; simp only [Bool.false_eq_true, if_false]; exact skp h4
end
end GoV
