/- The engine, part l: slots; regions in the order of the text; statements. Own work; no program in sight. -/
import Derived.Test.YtiodnobmnfjdlaaDoorEk
set_option linter.unusedSimpArgs false
namespace GoV
open Go

/-- The program, the slots that live on behind a region, the number of slots. -/
structure Cfg where
  M : Mod
  pers : List Nat
  nt : Nat
  n0 : Nat := 0
  m0 : Nat := 0

def Cfg.P (C : Cfg) : Program := C.M.P

def idx (t : Nat) : List Nat → Option Nat
  | [] => none
  | u :: r => if u = t then some 0 else (idx t r).map (· + 1)

theorem idx_some {t i : Nat} : ∀ {l : List Nat}, idx t l = some i → l[i]? = some t
  | [], h => by simp [idx] at h
  | u :: r, h => by
    simp only [idx] at h
    split at h
    · rename_i e; simp at h; subst h; simp [e]
    · cases hr : idx t r with
      | none => simp [hr] at h
      | some j => simp [hr] at h; subst h; simpa using idx_some hr

theorem idx_none {t : Nat} : ∀ {l : List Nat}, idx t l = none → t ∉ l
  | [], _ => by simp
  | u :: r, h => by
    simp only [idx] at h
    split at h
    · cases h
    · rename_i e
      simp at h
      intro hm
      rcases List.mem_cons.1 hm with g | g
      · exact e g.symm
      · exact idx_none h g

/-- What a slot holds. -/
def St.slot (s : St) (pers : List Nat) (t : Nat) : D :=
  match idx t pers with
  | some i => s.env.getD i .undef
  | none => lk s.scr t

/-- The state stands for the frame and the world. -/
def Sim (C : Cfg) (w0 : World) (B : Gh) (s : St) (a : Act) (w : World) : Prop :=
  ∃ G, Inv w0 B s.hp w G ∧ (B.r.length = C.n0 ∧ B.tk.length = C.m0) ∧ a.tmps.size = C.nt ∧ a.defers = [] ∧ s.env.length = C.pers.length ∧
    ∀ t, Rel w G (s.slot C.pers t) (a.tmps.getD t Go.undef)

def resO (C : Cfg) : Operand → Option Opd
  | .tmp t => if t < C.nt then match idx t C.pers with
    | some i => some (.var i)
    | none => some (.loc t)
    else none
  | .const v => (toD v).map .con
  | .global _ => none
  | .func f => some (.con (.fn (.func f) [] []))

def resOs (C : Cfg) : List Operand → Option (List Opd)
  | [] => some []
  | x :: xs => match resO C x, resOs C xs with
    | some y, some ys => some (y :: ys)
    | _, _ => none

def resDst (C : Cfg) : Option Nat → Option Dst
  | none => some .none
  | some t => if t < C.nt then match idx t C.pers with
    | some i => some (.var i)
    | none => some (.loc t)
    else none

def resGuard (C : Cfg) (ops : Array Oper) : Option (Nat × Bool) → Option (Option (Opd × Bool))
  | none => some none
  | some (j, want) =>
    match (ops[j]?).bind (·.dst) with
    | some t => (resO C (.tmp t)).map fun g => some (g, want)
    | none => none

def resOp1 (C : Cfg) (ops : Array Oper) (o : Oper) : Option RO :=
  match resolveOp C.P o.op with
  | some (oc, xs) =>
    match resOs C xs, resDst C o.dst, resGuard C ops o.guard with
    | some args, some dst, some guard => some { dst, oc, args, guard }
    | _, _, _ => none
  | none => none

def resOps (C : Cfg) (ops : Array Oper) : List Nat → Option (List RO)
  | [] => some []
  | i :: r =>
    match ops[i]? with
    | some o =>
      match resOp1 C ops o, resOps C ops r with
      | some x, some xs => some (x :: xs)
      | _, _ => none
    | none => none

section
variable {C : Cfg} {w0 : World} {B : Gh}

theorem slot_env {s : St} {t i : Nat} (h : idx t C.pers = some i) : s.slot C.pers t = s.env.getD i .undef := by simp [St.slot, h]
theorem slot_scr {s : St} {t : Nat} (h : idx t C.pers = none) : s.slot C.pers t = lk s.scr t := by simp [St.slot, h]

theorem resO_rel {s : St} {a : Act} {w : World} {G : Gh} (hs : ∀ t, Rel w G (s.slot C.pers t) (a.tmps.getD t Go.undef))
    {x : Operand} {y : Opd} (h : resO C x = some y) : Rel w G (s.get y) (a.eval x) := by
  cases x with
  | tmp t =>
    simp only [resO] at h
    split at h
    case isFalse => cases h
    have := hs t
    split at h
    · rename_i i hi; simp at h; subst h; rw [slot_env hi] at this; exact this
    · rename_i hi; simp at h; subst h; rw [slot_scr hi] at this; exact this
  | const v =>
    simp only [resO] at h
    cases hv : toD v with
    | none => simp [hv] at h
    | some d =>
      simp [hv] at h; subst h
      exact (toD_rel (w := w) (g := G) hv).1.any
  | global g => simp [resO] at h
  | func f =>
    simp only [resO, Option.some.injEq] at h; subst h
    simp only [St.get, Rel, Act.eval]
    exact ⟨[], [], rfl, RelL.nil, RelL.nil⟩

theorem resOs_rel {s : St} {a : Act} {w : World} {G : Gh} (hs : ∀ t, Rel w G (s.slot C.pers t) (a.tmps.getD t Go.undef)) :
    ∀ {xs : List Operand} {ys : List Opd}, resOs C xs = some ys → RelL w G (ys.map s.get) (xs.map a.eval)
  | [], ys, h => by simp [resOs] at h; subst h; exact RelL.nil
  | x :: xs, ys, h => by
    simp only [resOs] at h
    cases h1 : resO C x with
    | none => simp [h1] at h
    | some y =>
      cases h2 : resOs C xs with
      | none => simp [h1, h2] at h
      | some zs =>
        simp [h1, h2] at h; subst h
        exact RelL.cons (resO_rel hs h1) (resOs_rel hs h2)

/-- Writing a slot, on both sides. -/
theorem put_rel {s : St} {a : Act} {w : World} {G : Gh} (hs : ∀ t, Rel w G (s.slot C.pers t) (a.tmps.getD t Go.undef))
    (hn : a.tmps.size = C.nt) (hl : s.env.length = C.pers.length) {dst : Option Nat} {d : D} {v : Value} {ds : Dst} (h : resDst C dst = some ds) (hv : Rel w G d v) :
    ∀ t, Rel w G ((s.put ds d).slot C.pers t) ((a.put dst v).tmps.getD t Go.undef) := by
  intro t
  cases dst with
  | none => simp [resDst] at h; subst h; simpa [St.put, Act.put] using hs t
  | some u =>
    simp only [resDst] at h
    split at h
    case isFalse => cases h
    rename_i hu
    have hval : (a.put (some u) v).tmps.getD t Go.undef = if u = t then v else a.tmps.getD t Go.undef := by
      simp only [Act.put, Array.getD_eq_getD_getElem?, Array.getElem?_setIfInBounds]
      by_cases e : u = t
      · subst e; simp [hn, hu]
      · simp [e]
    rw [hval]
    split at h
    · rename_i i hi; simp at h; subst h
      by_cases e : u = t
      · subst e
        have hlt : i < s.env.length := by
          rw [hl]
          have := idx_some hi
          rcases Nat.lt_or_ge i C.pers.length with g | g
          · exact g
          · rw [List.getElem?_eq_none g] at this; cases this
        rw [slot_env hi]; simpa [St.put, List.getD, hlt] using hv
      · rw [if_neg e]
        have := hs t
        cases hj : idx t C.pers with
        | none => rw [slot_scr hj] at this ⊢; exact this
        | some j =>
          rw [slot_env hj] at this ⊢
          have hne : i ≠ j := by
            intro e'; subst e'
            have h1 := idx_some hi
            have h2 := idx_some hj
            rw [h1] at h2; cases h2; exact e rfl
          simpa [St.put, List.getD, List.getElem?_set, hne] using this
    · rename_i hi; simp at h; subst h
      by_cases e : u = t
      · subst e; rw [slot_scr hi]; simpa [St.put, lk] using hv
      · rw [if_neg e]
        have := hs t
        cases hj : idx t C.pers with
        | none => rw [slot_scr hj] at this ⊢; simpa [St.put, lk, e] using this
        | some j => rw [slot_env hj] at this ⊢; simpa [St.put] using this

theorem put_env_len (s : St) (ds : Dst) (d : D) : (s.put ds d).env.length = s.env.length := by cases ds <;> simp [St.put]
theorem put_hp (s : St) (ds : Dst) (d : D) : (s.put ds d).hp = s.hp := by cases ds <;> rfl
theorem actput_size (a : Act) (dst : Option Nat) (v : Value) : (a.put dst v).tmps.size = a.tmps.size := by cases dst <;> simp [Act.put]
theorem actput_def (a : Act) (dst : Option Nat) (v : Value) : (a.put dst v).defers = a.defers := by cases dst <;> rfl

/-- Writing a slot keeps the relation. -/
theorem Sim.put {s : St} {a : Act} {w : World} (h : Sim C w0 B s a w) {dst : Option Nat} {ds : Dst} (hd : resDst C dst = some ds) {G d v} (hi : Inv w0 B s.hp w G)
    (hr : ∀ t, Rel w G (s.slot C.pers t) (a.tmps.getD t Go.undef)) (hv : Rel w G d v) : Sim C w0 B (s.put ds d) (a.put dst v) w := by
  obtain ⟨_, _, hb, h1, h2, h3, _⟩ := h
  exact ⟨G, by rw [put_hp]; exact hi, hb, by rw [actput_size]; exact h1, by rw [actput_def]; exact h2, by rw [put_env_len]; exact h3, put_rel hr h1 h3 hd hv⟩

/-- The guard's slot, narrowed to what is known. -/
theorem setO_slot {s : St} {pers : List Nat} {g : Opd} {t : Nat} (hg : (match idx t pers with | some i => g = .var i | none => g = .loc t)) (hl : s.env.length = pers.length) (d : D) (u : Nat) :
    (s.setO g d).slot pers u = if t = u then d else s.slot pers u := by
  cases hi : idx t pers with
  | some i =>
    rw [hi] at hg; simp at hg; subst hg
    have hlt : i < s.env.length := by
      rw [hl]
      have := idx_some hi
      rcases Nat.lt_or_ge i pers.length with g | g
      · exact g
      · rw [List.getElem?_eq_none g] at this; cases this
    by_cases e : t = u
    · subst e; simp [St.slot, St.setO, hi, List.getD, hlt]
    · cases hj : idx u pers with
      | none => simp [St.slot, St.setO, hj, e]
      | some j =>
        have hne : i ≠ j := by
          intro e'; subst e'
          have h1 := idx_some hi
          have h2 := idx_some hj
          rw [h1] at h2; cases h2; exact e rfl
        simp [St.slot, St.setO, hj, e, List.getD, List.getElem?_set, hne]
  | none =>
    rw [hi] at hg; simp at hg; subst hg
    by_cases e : t = u
    · subst e; simp [St.slot, St.setO, hi, lk_setK]
    · cases hj : idx u pers with
      | none => simp [St.slot, St.setO, hj, e, lk_setK]
      | some j => simp [St.slot, St.setO, hj, e]

theorem setO_hp (s : St) (g : Opd) (d : D) : (s.setO g d).hp = s.hp := by cases g <;> rfl
theorem setO_len (s : St) (g : Opd) (d : D) : (s.setO g d).env.length = s.env.length := by cases g <;> simp [St.setO]

theorem resO_tmp {t : Nat} {g : Opd} (h : resO C (.tmp t) = some g) : (match idx t C.pers with | some i => g = .var i | none => g = .loc t) ∧ t < C.nt := by
  simp only [resO] at h
  split at h
  case isFalse => cases h
  rename_i ht
  refine ⟨?_, ht⟩
  split at h
  · simpa using h.symm
  · simpa using h.symm

theorem get_slot {s : St} {t : Nat} {g : Opd} (h : resO C (.tmp t) = some g) : s.get g = s.slot C.pers t := by
  have := (resO_tmp h).1
  cases hi : idx t C.pers with
  | some i => rw [hi] at this; simp at this; subst this; simp [St.get, St.slot, hi]
  | none => rw [hi] at this; simp at this; subst this; simp [St.get, St.slot, hi]

/-- ONE OPERATION, WITH ITS GUARD. -/
theorem head_sound (hA : C.M.amb w0 B.own) {ops : Array Oper} {o : Oper} {x : RO} {Q : Exit → Act → World → Prop} {K : St → Prop} {next : Act → World → Prop} (h1 : resOp1 C ops o = some x)
    {s : St} {a : Act} {w : World} (ih : ∀ s a w, K s → Sim C w0 B s a w → next a w) (h : headWp C.M x K s) (hs : Sim C w0 B s a w) :
    if Region.wanted o (yielded ops a.tmps) then o.wp C.P a w next Q ∨ (o.asks C.P a w ∧ LetsOut Q) else next (a.put o.dst Go.undef) w := by
  unfold resOp1 at h1
  cases hres : resolveOp C.P o.op with
  | none => simp [hres] at h1
  | some p =>
    obtain ⟨oc, ys⟩ := p
    cases ha : resOs C ys with
    | none => simp [hres, ha] at h1
    | some args =>
      cases hd : resDst C o.dst with
      | none => simp [hres, ha, hd] at h1
      | some dst =>
        cases hg : resGuard C ops o.guard with
        | none => simp [hres, ha, hd, hg] at h1
        | some guard =>
          simp [hres, ha, hd, hg] at h1; subst h1
          have run : ∀ s : St, OcWp C.M oc (args.map s.get) s.hp (fun d hp => K ({ s with hp := hp }.put dst d)) → Sim C w0 B s a w → o.wp C.P a w next Q := by
            intro s hoc hs
            obtain ⟨G, hi, gb, g1, g2, g3, g4⟩ := hs
            refine OcWp_sound hres hA hi (resOs_rel g4 ha) hoc ?_
            intro d hp' G' v w' k1 k2 k3 k4
            refine ih _ _ _ k1 ?_
            have g4' : ∀ t, Rel w' G' ({ s with hp := hp' }.slot C.pers t) (a.tmps.getD t Go.undef) := fun t => Rel.evo _ k3 (g4 t)
            exact Sim.put (s := { s with hp := hp' }) ⟨G', k2, gb, g1, g2, g3, g4'⟩ hd k2 g4' k4
          cases hog : o.guard with
          | none =>
            simp [hog, resGuard] at hg; subst hg
            simp only [headWp] at h
            simp only [Region.wanted, hog, if_true]
            exact .inl (run s h hs)
          | some p =>
            obtain ⟨j, want⟩ := p
            simp only [hog, resGuard] at hg
            cases hj : (ops[j]?).bind (·.dst) with
            | none => simp [hj] at hg
            | some t =>
              simp only [hj] at hg
              cases hgo : resO C (.tmp t) with
              | none => simp [hgo] at hg
              | some g =>
                simp [hgo] at hg; subst hg
                have hsg := hs
                obtain ⟨G, hi, gb, g1, g2, g3, g4⟩ := hs
                have hrel := g4 t
                rw [← get_slot hgo] at hrel
                have htn := (resO_tmp hgo).2
                have hy : yielded ops a.tmps j = match a.tmps.getD t Go.undef with | .bool b => some b | _ => none := by
                  have hlt : t < a.tmps.size := g1.symm ▸ htn
                  simp [yielded, hj, Array.getD_eq_getD_getElem?, hlt]
                  cases a.tmps[t] <;> rfl
                simp only [headWp] at h
                have narrow : ∀ b, s.get g = .bool b → Sim C w0 B (s.setO g (.bool b)) a w := by
                  intro b hb
                  refine ⟨G, by rw [setO_hp]; exact hi, gb, g1, g2, by rw [setO_len]; exact g3, fun u => ?_⟩
                  rw [setO_slot (resO_tmp hgo).1 g3]
                  split
                  · rename_i e; subst e; rw [hb] at hrel; exact hrel
                  · exact g4 u
                have skipTo : ∀ s2 : St, Sim C w0 B s2 a w → K (s2.put dst .skip) → next (a.put o.dst Go.undef) w := by
                  intro s2 hs2 hk
                  refine ih _ _ _ hk ?_
                  obtain ⟨G2, q0, qb, q1, q2, q3, q4⟩ := hs2
                  exact Sim.put ⟨G2, q0, qb, q1, q2, q3, q4⟩ hd q0 q4 (by simp [Rel])
                cases hb : s.get g <;> simp only [hb] at h
                case bool b =>
                  rw [hb] at hrel
                  simp only [Rel] at hrel
                  have hw : Region.wanted o (yielded ops a.tmps) = (b == want) := by
                    simp only [Region.wanted, hog, hy, hrel]
                    cases b <;> cases want <;> rfl
                  rw [hw]
                  cases hbw : (b == want)
                  · have e : b = (!want) := by cases b <;> cases want <;> simp_all
                    subst e
                    simp only [Bool.false_eq_true, if_false]
                    exact skipTo _ (narrow _ hb) (h.2 rfl)
                  · have e : b = want := by simpa using hbw
                    subst e
                    simp only [if_true]
                    refine .inl (run _ ?_ (narrow _ hb))
                    have := h.1 rfl
                    rw [setO_hp]; exact this
                case skip =>
                  rw [hb] at hrel
                  simp only [Rel] at hrel
                  have hw : Region.wanted o (yielded ops a.tmps) = false := by
                    simp only [Region.wanted, hog]
                    rw [hy, hrel]
                    cases want <;> rfl
                  rw [hw]
                  simp only [Bool.false_eq_true, if_false]
                  exact skipTo s hsg h

theorem resOps_cons {ops : Array Oper} {i : Nat} {l : List Nat} {ros : List RO} (h : resOps C ops (i :: l) = some ros) : ∃ o x xs, ops[i]? = some o ∧ resOp1 C ops o = some x ∧ resOps C ops l = some xs ∧ ros = x :: xs := by
  simp only [resOps] at h
  cases ho : ops[i]? with
  | none => simp [ho] at h
  | some o =>
    cases h1 : resOp1 C ops o with
    | none => simp [ho, h1] at h
    | some x =>
      cases h2 : resOps C ops l with
      | none => simp [ho, h1, h2] at h
      | some xs => simp [ho, h1, h2] at h; exact ⟨o, x, xs, rfl, h1, rfl, h.symm⟩

/-- ROWS OF OPERATIONS, IN THE ORDER GIVEN. -/
theorem ops_sound (hA : C.M.amb w0 B.own) {ops : Array Oper} {Q : Exit → Act → World → Prop} {K : St → Prop} (hK : ∀ s a w, K s → Sim C w0 B s a w → Q .normal a w) :
    ∀ (l : List Nat) (ros : List RO) (s : St) (a : Act) (w : World), resOps C ops l = some ros → opsWp C.M ros K s → Sim C w0 B s a w → wpOps C.P ops Q l a w
  | [], ros, s, a, w, hr, h, hs => by
    simp [resOps] at hr; subst hr
    exact hK s a w h hs
  | i :: l, ros, s, a, w, hr, h, hs => by
    obtain ⟨o, x, xs, ho, h1, h2, rfl⟩ := resOps_cons hr
    simp only [wpOps, ho]
    exact head_sound hA h1 (fun s a w h hs => ops_sound hA (ops := ops) (Q := Q) hK l xs s a w h2 h hs) h hs
end
end GoV
