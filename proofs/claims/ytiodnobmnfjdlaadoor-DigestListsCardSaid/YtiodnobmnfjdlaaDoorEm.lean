/- The engine, part m: statements, and functions that compute. Own work; no program in sight. -/
import Derived.Test.YtiodnobmnfjdlaaDoorEl
set_option linter.unusedSimpArgs false
namespace GoV
open Go

inductive RC where
  | skip
  | reg (ros : List RO)
  | regD (qs : List (RO × Bool)) (ros : List RO)
  | seq (a b : RC)
  | cond (c : Opd) (a b : RC)
  | block (id : Nat) (b : RC)
  | loop (b : RC)
  | exit (id : Nat)
  | ret
  | bad

/-- What must come before an operation, by its edges and theirs: a row of places. -/
def befores (ops : List Oper) : List (List Nat) :=
  ops.foldl (fun acc o => acc ++ [(o.after.toList.filter (Region.binds .any)).flatMap fun e => e.on :: acc.getD e.on []]) []

/-- The same as the bits of numbers. -/
def masks (ops : List Oper) : List Nat :=
  ops.foldl (fun acc o => acc ++ [o.after.toList.foldl (fun m e => if Region.binds .any e then m ||| ((1 <<< e.on) ||| acc.getD e.on 0) else m) 0]) []

def namesOf (ops : Array Oper) (o : Oper) : List Nat := o.dst.toList ++ o.looksAt ops

def clash (ops : Array Oper) (x y : Oper) : Bool :=
  (match x.dst with | some d => (namesOf ops y).contains d | none => false) || (match y.dst with | some d => (namesOf ops x).contains d | none => false)

/-- Every binding edge goes back; what shares a slot is in order; from place m on each operation waits for all before it. -/
def drawOk (ops : Array Oper) (m : Nat) : Bool :=
  let bs := masks ops.toList
  (List.range ops.size).all fun j =>
    match ops[j]? with
    | some oj =>
      let b := bs.getD j 0
      oj.after.all (fun e => !Region.binds .any e || decide (e.on < j)) &&
      (b == 2 ^ j - 1 || (List.range j).all fun i =>
        match ops[i]? with
        | some oi => b.testBit i || (decide (j < m) && !clash ops oi oj)
        | none => false)
    | none => false

/-- The first place from which on each operation waits for all before it. -/
def tailAt (ops : Array Oper) : Nat :=
  let bs := masks ops.toList
  (List.range ops.size).foldl (fun m j => if bs.getD j 0 == 2 ^ j - 1 then m else j + 1) 0

/-- Neither of two places waits for the other. -/
def unord (bs : List Nat) (i j : Nat) : Bool := i != j && !((bs.getD j 0).testBit i) && !((bs.getD i 0).testBit j)

/-- May the operation at place j change the store? If so (false), whatever does not wait for it depends on its operands alone. -/
def quietAt (bs : List Nat) (ros : List RO) (m j : Nat) : Bool :=
  match ros[j]? with
  | some o => if isEff o.oc then (List.range m).any (fun i => unord bs i j && (match ros[i]? with | some p => !isFree p.oc | none => true)) else true
  | none => true

def flags (ops : Array Oper) (ros : List RO) (m : Nat) : List (RO × Bool) :=
  let bs := masks ops.toList
  (ros.zip ((List.range m).map (quietAt bs ros m))).take m

/-- The resolved code; what cannot be resolved must not be reached. -/
def resCode (C : Cfg) : Code → Option RC
  | .skip => some .skip
  | .label _ => some .skip
  | .region _ ops false => some (((resOps C ops (List.range ops.size)).map .reg).getD .bad)
  | .region _ ops true =>
    if drawOk ops (tailAt ops) && C.P.follows .mixedOrders then some (((resOps C ops (List.range ops.size)).map fun r => .regD (flags ops r (tailAt ops)) (r.drop (tailAt ops))).getD .bad) else some .bad
  | .seq a b =>
    match resCode C a, resCode C b with
    | some x, some y => some (.seq x y)
    | _, _ => none
  | .cond c a b =>
    match resO C c, resCode C a, resCode C b with
    | some g, some x, some y => some (.cond g x y)
    | _, _, _ => some .bad
  | .block id b => (resCode C b).map (.block id)
  | .loop b => (resCode C b).map .loop
  | .exit id => some (.exit id)
  | .ret => some .ret
  | _ => some .bad

/-- What a region is resolved to. -/
theorem res_region {C : Cfg} {id : Nat} {ops : Array Oper} {d : Bool} {rc : RC} (h : resCode C (.region id ops d) = some rc) :
    (∃ r, rc = .reg r ∧ d = false ∧ resOps C ops (List.range ops.size) = some r) ∨
    (∃ r, rc = .regD (flags ops r (tailAt ops)) (r.drop (tailAt ops)) ∧ d = true ∧ drawOk ops (tailAt ops) = true ∧ C.P.follows .mixedOrders = true ∧ resOps C ops (List.range ops.size) = some r) ∨ rc = .bad := by
  cases d <;> simp only [resCode] at h
  · cases hr : resOps C ops (List.range ops.size) with
    | none => simp [hr] at h; exact .inr (.inr h.symm)
    | some r => simp [hr] at h; exact .inl ⟨r, h.symm, rfl, rfl⟩
  · split at h
    · rename_i hB
      simp only [Bool.and_eq_true] at hB
      cases hr : resOps C ops (List.range ops.size) with
      | none => simp [hr] at h; exact .inr (.inr h.symm)
      | some r => simp [hr] at h; exact .inr (.inl ⟨r, h.symm, rfl, hB.1, hB.2, rfl⟩)
    · simp at h; exact .inr (.inr h.symm)

inductive Ex where
  | normal
  | exit (id : Nat)
  | ret

def Lift (C : Cfg) (w0 : World) (B : Gh) (Q : Ex → St → Prop) : Exit → Act → World → Prop
  | .normal, a, w => ∃ s, Sim C w0 B s a w ∧ Q .normal s
  | .exit i, a, w => ∃ s, Sim C w0 B s a w ∧ Q (.exit i) s
  | .ret, a, w => ∃ s, Sim C w0 B s a w ∧ Q .ret s
  | _, _, _ => False

/-- A statement, from a state, ends in Q. -/
structure SWp (C : Cfg) (rc : RC) (Q : Ex → St → Prop) (s : St) : Prop where
  run : ∀ c, resCode C c = some rc → ∀ w0 B, C.M.amb w0 B.own → ∀ a w, Sim C w0 B s a w → c.wp C.P (Lift C w0 B Q) a w

/-- Less is known. -/
def Weak (C : Cfg) (s s1 : St) : Prop := ∀ w0 B a w, Sim C w0 B s a w → Sim C w0 B s1 a w

section
variable {C : Cfg} {Q : Ex → St → Prop} {s : St}

theorem weak_refl : Weak C s s := fun _ _ _ _ h => h
theorem weak_trans {s1 s2 : St} (h : Weak C s s1) (g : Weak C s1 s2) : Weak C s s2 := fun _ _ _ _ q => g _ _ _ _ (h _ _ _ _ q)

theorem weak_done : Weak C s s.done := by
  intro w0 B a w h
  obtain ⟨G, g0, gb, g1, g2, g3, g4⟩ := h
  refine ⟨G, g0, gb, g1, g2, g3, fun t => ?_⟩
  have := g4 t
  unfold St.slot St.done at *
  split
  · rename_i i hi; rw [hi] at this; exact this
  · simp [lk, Rel]

/-- Slots whose values are no longer wanted. -/
def keepE (ks : List Nat) : Nat → List D → List D
  | _, [] => []
  | i, d :: ds => (if ks.contains i then d else .undef) :: keepE ks (i + 1) ds

theorem keepE_length (ks : List Nat) : ∀ (i : Nat) (l : List D), (keepE ks i l).length = l.length
  | _, [] => rfl
  | i, d :: ds => by simp [keepE, keepE_length ks (i + 1) ds]

theorem keepE_get (ks : List Nat) : ∀ (i j : Nat) (l : List D), (keepE ks i l).getD j .undef = l.getD j .undef ∨ (keepE ks i l).getD j .undef = .undef
  | _, _, [] => by simp [keepE]
  | i, 0, d :: ds => by
    simp only [keepE, List.getD_cons_zero]
    split
    · exact .inl rfl
    · exact .inr rfl
  | i, j + 1, d :: ds => by simpa [keepE] using keepE_get ks (i + 1) j ds

theorem weak_keep (ks : List Nat) : Weak C s { s with env := keepE ks 0 s.env } := by
  intro w0 B a w h
  obtain ⟨G, g0, gb, g1, g2, g3, g4⟩ := h
  refine ⟨G, g0, gb, g1, g2, by simpa [keepE_length] using g3, fun t => ?_⟩
  have := g4 t
  unfold St.slot at *
  split
  · rename_i i hi
    rw [hi] at this
    rcases keepE_get ks 0 i s.env with e | e
    · simp only [e]; exact this
    · simp only [e]; simp [Rel]
  · rename_i hi; rw [hi] at this; exact this

theorem swp_weak {rc : RC} {s1 : St} (h : Weak C s s1) (g : SWp C rc Q s1) : SWp C rc Q s :=
  ⟨fun c hc w0 B hA a w hs => g.run c hc w0 B hA a w (h _ _ _ _ hs)⟩

theorem lift_mono {w0 B} {Q' : Ex → St → Prop} (h : ∀ e s, Q e s → ∃ s1, Weak C s s1 ∧ Q' e s1) (e : Exit) (a : Act) (w : World) (hl : Lift C w0 B Q e a w) : Lift C w0 B Q' e a w := by
  cases e <;> simp only [Lift] at hl ⊢ <;> (obtain ⟨s, h1, h2⟩ := hl; obtain ⟨s1, h3, h4⟩ := h _ _ h2; exact ⟨s1, h3 _ _ _ _ h1, h4⟩)

theorem swp_mono {rc : RC} {Q' : Ex → St → Prop} (h : SWp C rc Q s) (hq : ∀ e s, Q e s → ∃ s1, Weak C s s1 ∧ Q' e s1) : SWp C rc Q' s :=
  ⟨fun c hc w0 B hA a w hs => wp_mono (h.run c hc w0 B hA a w hs) (lift_mono hq)⟩

theorem swp_skip (h : Q .normal s) : SWp C .skip Q s := by
  refine ⟨fun c hc w0 B hA a w hs => ?_⟩
  have hreg : ∀ id ops d, c = .region id ops d → _ := fun id ops d e => res_region (e ▸ hc)
  cases c <;> (try simp only [resCode] at hc) <;> (try (cases hc; done))
  case skip => exact wp_skip ⟨s, hs, h⟩
  case label => exact wp_label ⟨s, hs, h⟩
  case region _ ops d => exfalso; have := hreg _ _ _ rfl; simp at this
  all_goals (repeat' split at hc) <;> simp_all

theorem swp_reg {ros : List RO} (h : opsWp C.M ros (fun s' => Q .normal s'.done) s) : SWp C (.reg ros) Q s := by
  refine ⟨fun c hc w0 B hA a w hs => ?_⟩
  have hreg : ∀ id ops d, c = .region id ops d → _ := fun id ops d e => res_region (e ▸ hc)
  cases c <;> (try simp only [resCode] at hc) <;> (try (cases hc; done))
  case region _ ops d =>
    rcases hreg _ _ _ rfl with ⟨r, h1, rfl, hr⟩ | ⟨r, h1, _⟩ | h1
    · cases h1
      refine wp_region (ops_sound hA (K := fun s' => Q .normal s'.done) (fun s a w hk hs => ?_) _ _ s a w hr h hs)
      exact ⟨s.done, weak_done _ _ _ _ hs, hk⟩
    · cases h1
    · cases h1
  all_goals exfalso; (repeat' split at hc) <;> simp_all

theorem swp_seq {x y : RC} (h : SWp C x (fun e s' => match e with | .normal => SWp C y Q s' | e => Q e s') s) : SWp C (.seq x y) Q s := by
  refine ⟨fun c hc w0 B hA a w hs => ?_⟩
  have hreg : ∀ id ops d, c = .region id ops d → _ := fun id ops d e => res_region (e ▸ hc)
  cases c <;> (try simp only [resCode] at hc) <;> (try (cases hc; done))
  case seq ca cb =>
    cases ha : resCode C ca with
    | none => simp [ha] at hc
    | some p =>
      cases hb : resCode C cb with
      | none => simp [ha, hb] at hc
      | some q =>
        simp [ha, hb] at hc
        obtain ⟨rfl, rfl⟩ := hc
        refine wp_seq (wp_mono (h.run ca ha w0 B hA a w hs) fun e a' w' hl => ?_)
        cases e <;> simp only [Lift, Exit.then] at hl ⊢ <;> try exact hl
        obtain ⟨s', h1, h2⟩ := hl
        exact h2.run cb hb w0 B hA a' w' h1
  case region _ ops d => exfalso; have := hreg _ _ _ rfl; simp at this
  all_goals exfalso; (repeat' split at hc) <;> simp_all

theorem swp_cond {g : Opd} {x y : RC} {t : Bool} (hg : s.get g = .bool t) (h1 : t = true → SWp C x Q (s.setO g (.bool true))) (h2 : t = false → SWp C y Q (s.setO g (.bool false))) : SWp C (.cond g x y) Q s := by
  refine ⟨fun c hc w0 B hA a w hs => ?_⟩
  have hreg : ∀ id ops d, c = .region id ops d → _ := fun id ops d e => res_region (e ▸ hc)
  cases c <;> (try simp only [resCode] at hc) <;> (try (cases hc; done))
  case cond co ca cb =>
    cases ho : resO C co with
    | none => simp [ho] at hc
    | some g' =>
      cases ha : resCode C ca with
      | none => simp [ho, ha] at hc
      | some p =>
        cases hb : resCode C cb with
        | none => simp [ho, ha, hb] at hc
        | some q =>
          simp [ho, ha, hb] at hc
          obtain ⟨rfl, rfl, rfl⟩ := hc
          have hs0 := hs
          obtain ⟨G, g0, gb, g1, g2, g3, g4⟩ := hs
          have hv := resO_rel g4 ho
          rw [hg] at hv; simp only [Rel] at hv
          have nar : Sim C w0 B (s.setO g' (.bool t)) a w := by
            cases co with
            | tmp u =>
              refine ⟨G, by rw [setO_hp]; exact g0, gb, g1, g2, by rw [setO_len]; exact g3, fun u' => ?_⟩
              rw [setO_slot (resO_tmp ho).1 g3]
              split
              · rename_i e; subst e
                simp only [Act.eval] at hv
                simp only [Rel]; exact hv
              · exact g4 u'
            | const v =>
              simp only [resO] at ho
              cases hd : toD v with
              | none => simp [hd] at ho
              | some d => simp [hd] at ho; subst ho; simpa [St.setO] using hs0
            | global n => simp [resO] at ho
            | func f => simp [resO] at ho; subst ho; simpa [St.setO] using hs0
          refine wp_cond_split hv (fun e => ?_) (fun e => ?_)
          · subst e; exact (h1 rfl).run ca ha w0 B hA a w nar
          · subst e; exact (h2 rfl).run cb hb w0 B hA a w nar
  case region _ ops d => exfalso; have := hreg _ _ _ rfl; simp at this
  all_goals exfalso; (repeat' split at hc) <;> simp_all

theorem swp_block {id : Nat} {x : RC} (h : SWp C x (fun e s' => match e with | .exit i => if i = id then Q .normal s' else Q (.exit i) s' | e => Q e s') s) : SWp C (.block id x) Q s := by
  refine ⟨fun c hc w0 B hA a w hs => ?_⟩
  have hreg : ∀ id ops d, c = .region id ops d → _ := fun id ops d e => res_region (e ▸ hc)
  cases c <;> (try simp only [resCode] at hc) <;> (try (cases hc; done))
  case block i cb =>
    cases hb : resCode C cb with
    | none => simp [hb] at hc
    | some q =>
      simp [hb] at hc
      obtain ⟨rfl, rfl⟩ := hc
      refine wp_block (wp_mono (h.run cb hb w0 B hA a w hs) fun e a' w' hl => ?_)
      cases e <;> simp only [Lift, Exit.inBlock] at hl ⊢ <;> try exact hl
      obtain ⟨s', h1, h2⟩ := hl
      split at h2
      · rename_i e; rw [if_pos e]; exact ⟨s', h1, h2⟩
      · rename_i e; rw [if_neg e]; exact ⟨s', h1, h2⟩
  case region _ ops d => exfalso; have := hreg _ _ _ rfl; simp at this
  all_goals exfalso; (repeat' split at hc) <;> simp_all

theorem swp_exit {id : Nat} (h : Q (.exit id) s) : SWp C (.exit id) Q s := by
  refine ⟨fun c hc w0 B hA a w hs => ?_⟩
  have hreg : ∀ id ops d, c = .region id ops d → _ := fun id ops d e => res_region (e ▸ hc)
  cases c <;> (try simp only [resCode] at hc) <;> (try (cases hc; done))
  case exit i => simp at hc; subst hc; exact wp_exit ⟨s, hs, h⟩
  case region _ ops d => exfalso; have := hreg _ _ _ rfl; simp at this
  all_goals exfalso; (repeat' split at hc) <;> simp_all

theorem swp_ret (h : Q .ret s) : SWp C .ret Q s := by
  refine ⟨fun c hc w0 B hA a w hs => ?_⟩
  have hreg : ∀ id ops d, c = .region id ops d → _ := fun id ops d e => res_region (e ▸ hc)
  cases c <;> (try simp only [resCode] at hc) <;> (try (cases hc; done))
  case ret => exact wp_ret ⟨s, hs, h⟩
  case region _ ops d => exfalso; have := hreg _ _ _ rfl; simp at this
  all_goals exfalso; (repeat' split at hc) <;> simp_all

theorem least (p : Nat → Prop) : ∀ n, p n → ∃ m, p m ∧ ∀ k, p k → m ≤ k := by
  intro n
  induction n using Nat.strongRecOn with
  | _ n ih =>
    intro hn
    by_cases h : ∃ k, k < n ∧ p k
    · obtain ⟨k, hk, hp⟩ := h; exact ih k hk hp
    · exact ⟨n, hn, fun k hk => Nat.le_of_not_lt fun hlt => h ⟨k, hlt, hk⟩⟩

/-- A LOOP: what holds at every round's head, and a number that each round lowers. -/
theorem swp_loop {x : RC} (J : Nat → St → Prop) (n : Nat) (h0 : ∃ s1, Weak C s s1 ∧ J n s1)
    (round : ∀ n s, J n s → SWp C x (fun e s' => match e with | .normal => ∃ s1 m, Weak C s' s1 ∧ m < n ∧ J m s1 | e => Q e s') s) : SWp C (.loop x) Q s := by
  refine ⟨fun c hc w0 B hA a w hs => ?_⟩
  classical
  have hreg : ∀ id ops d, c = .region id ops d → _ := fun id ops d e => res_region (e ▸ hc)
  cases c <;> (try simp only [resCode] at hc) <;> (try (cases hc; done))
  case loop cb =>
    cases hb : resCode C cb with
    | none => simp [hb] at hc
    | some q =>
      simp [hb] at hc; subst hc
      have hin : ∃ m, (fun n => ∃ s, J n s ∧ Sim C w0 B s a w) m := by
        obtain ⟨s1, g1, g2⟩ := h0
        exact ⟨n, s1, g2, g1 _ _ _ _ hs⟩
      have lst : ∀ (a : Act) (w : World), (∃ m, (fun n => ∃ s, J n s ∧ Sim C w0 B s a w) m) → ∃ m, (∃ s, J m s ∧ Sim C w0 B s a w) ∧ ∀ k, (∃ s, J k s ∧ Sim C w0 B s a w) → m ≤ k :=
        fun a w hm => let ⟨m, hp⟩ := hm; least _ m hp
      refine wp_loop (fun a w => ∃ m, (fun n => ∃ s, J n s ∧ Sim C w0 B s a w) m)
        (fun a w => if h : ∃ m, (fun n => ∃ s, J n s ∧ Sim C w0 B s a w) m then Classical.choose (lst a w h) else 0) hin ?_
      intro a w hI
      obtain ⟨⟨s1, g1, g2⟩, g3⟩ := Classical.choose_spec (lst a w hI)
      rw [dif_pos hI]
      refine wp_mono ((round _ s1 g1).run cb hb w0 B hA a w g2) fun e a' w' hl => ?_
      cases e <;> simp only [Lift, Exit.then] at hl ⊢ <;> try exact hl
      obtain ⟨s', h1, s2, m, h2, h3, h4⟩ := hl
      have hex : ∃ m, (fun n => ∃ s, J n s ∧ Sim C w0 B s a' w') m := ⟨m, s2, h4, h2 _ _ _ _ h1⟩
      refine ⟨hex, ?_⟩
      rw [dif_pos hex]
      exact Nat.lt_of_le_of_lt ((Classical.choose_spec (lst a' w' hex)).2 m ⟨s2, h4, h2 _ _ _ _ h1⟩) h3
  case region _ ops d => exfalso; have := hreg _ _ _ rfl; simp at this
  all_goals exfalso; (repeat' split at hc) <;> simp_all
end
end GoV
